/- The digits' seat: what the reference asks; its quotients of naturals. -/
import Derived.Test.YtcgepjbalmppjaaGreatDoorTF
import Derived.Test.YtcgepjbalmppjaaGreatDoorTG
namespace Go.Iron.Tryz
open Go.Proofs Go.RowKit Go.Iron.Tok Go.Iron.Dg

theorem r_numbers (n1 : Option Bool) (l : List Vl) (hl : l.length ≤ 100000) : CallT Tryz.prog 103 [vlS n1 l] [] (fun o A => o = .ret (iv (askL none l)) ∧ A = []) := by
  refine callS_body (n := 30) rfl rfl fun w ρ X => ?_
  refine runS_x (I := inf) (J := jnf) ⟨false, false, [], 0, 0⟩ 9999 rfl (by repeat (first | exact obs_nil | refine obs_draw (by kernel_rfl) ?_ | refine obs_same ?_ | refine obs_and ?_ | refine obs_by (by (simp [inB] <;> omega)) ?_)) ?_
  refine runS_while (fun (i : Nat) τ ar => (τ 0 = vlS n1 l ∧ τ 3 = iv i) ∧ ar = [] ∧ i ≤ l.length ∧ (l.take i).all Vl.right = true) (fun i => l.length - i) 0 ⟨⟨rfl, rfl⟩, rfl, Nat.zero_le _, rfl⟩ ?_
  rintro i τ' ar' ⟨⟨g0, g3⟩, rfl, hi, ha⟩ ih
  refine runS_says 0 (by exact g0) (Says.refl _) ?_; refine runS_says 3 (by exact g3) (Says.refl _) ?_
  refine runS_x (I := inf) (J := jnf) ⟨false, false, [], 0, 0⟩ 9999 rfl (by repeat (first | exact obs_nil | refine obs_draw (by kernel_rfl) ?_ | refine obs_same ?_ | refine obs_and ?_ | refine obs_by (by (simp [inB] <;> omega)) ?_)) ?_
  refine runS_cond rfl (fun h => ?_) (fun h => ?_)
  · have hlt : i < l.length := by simp at h; omega
    have hw1 : IntKind.wrap .i64 ((i : Int) + 1) = ((i + 1 : Nat) : Int) := by rw [w64 (by omega) (by omega)]; rfl
    have hv := vl_get hlt
    refine runS_x (I := inf) (J := jnf) ⟨false, false, [], 0, 0⟩ 9999 rfl (by repeat (first | exact obs_nil | refine obs_draw (by kernel_rfl) ?_ | refine obs_same ?_ | refine obs_and ?_ | refine obs_by (by (simp [inB, hlt] <;> omega)) ?_)) ?_
    refine runS_call rfl rfl rfl rfl rfl rfl rfl (r_right (l.getD i ⟨0, 0, 0, []⟩).kind (l.getD i ⟨0, 0, 0, []⟩).n (l.getD i ⟨0, 0, 0, []⟩).q (l.getD i ⟨0, 0, 0, []⟩).s) ?_
    refine runS_x (I := inf) (J := jnf) ⟨false, false, [], 0, 0⟩ 9999 rfl (by repeat (first | exact obs_nil | refine obs_draw (by kernel_rfl) ?_ | refine obs_same ?_ | refine obs_and ?_ | refine obs_by (by (simp [inB] <;> omega)) ?_)) ?_
    refine runS_cond rfl (fun h2 => ?_) (fun h2 => ?_)
    · have hr : (l[i]).right = false := by
        rw [← hv]
        have h3 : (!(l.getD i ⟨0, 0, 0, []⟩).right) = true := h2
        rw [Bool.not_eq_true'] at h3
        exact h3
      have hE : askL none l = 1 := by
        unfold askL
        rw [if_pos]
        rw [List.all_eq_false]
        exact ⟨_, List.getElem_mem hlt, by rw [hr]; decide⟩
      rw [hE]
      refine runS_x (I := inf) (J := jnf) ⟨false, false, [], 0, 0⟩ 9999 rfl (by repeat (first | exact obs_nil | refine obs_draw (by kernel_rfl) ?_ | refine obs_same ?_ | refine obs_and ?_ | refine obs_by (by (simp [inB] <;> omega)) ?_)) ?_
      refine runS_ret (I := inf) 0 rfl (Nat.le_refl _) rfl .nil rfl ⟨?_, rfl⟩
      rfl
    · have hr : (l[i]).right = true := by
        rw [← hv]
        have h3 : (!(l.getD i ⟨0, 0, 0, []⟩).right) = false := h2
        rw [Bool.not_eq_false'] at h3
        exact h3
      refine runS_x (I := inf) (J := jnf) ⟨false, false, [], 0, 0⟩ 9999 rfl (by repeat (first | exact obs_nil | refine obs_draw (by kernel_rfl) ?_ | refine obs_same ?_ | refine obs_and ?_ | refine obs_by (by (simp [inB] <;> omega)) ?_)) ?_
      exact ih (i + 1) _ _ (by omega) ⟨⟨rfl, congrArg iv hw1⟩, rfl, by omega, all_take ha hlt hr⟩
  · have hie : i = l.length := by simp at h; omega
    subst hie
    rw [List.take_length] at ha
    clear ih hi g0 g3
    refine runS_x (I := inf) (J := jnf) ⟨false, false, [], 0, 0⟩ 9999 rfl (by repeat (first | exact obs_nil | refine obs_draw (by kernel_rfl) ?_ | refine obs_same ?_ | refine obs_and ?_ | refine obs_by (by (simp [inB] <;> omega)) ?_)) ?_
    refine runS_while (fun (i : Nat) τ ar => (τ 0 = vlS n1 l ∧ τ 4 = iv i) ∧ ar = [] ∧ i ≤ l.length ∧ (l.take i).all (fun v => numK v.kind) = true) (fun i => l.length - i) 0 ⟨⟨rfl, rfl⟩, rfl, Nat.zero_le _, rfl⟩ ?_
    rintro i τ2 ar2 ⟨⟨g0, g4⟩, rfl, hi, hb⟩ ih
    refine runS_says 0 (by exact g0) (Says.refl _) ?_; refine runS_says 4 (by exact g4) (Says.refl _) ?_
    refine runS_x (I := inf) (J := jnf) ⟨false, false, [], 0, 0⟩ 9999 rfl (by repeat (first | exact obs_nil | refine obs_draw (by kernel_rfl) ?_ | refine obs_same ?_ | refine obs_and ?_ | refine obs_by (by (simp [inB] <;> omega)) ?_)) ?_
    refine runS_cond rfl (fun h => ?_) (fun h => ?_)
    · have hlt : i < l.length := by simp at h; omega
      have hw1 : IntKind.wrap .i64 ((i : Int) + 1) = ((i + 1 : Nat) : Int) := by rw [w64 (by omega) (by omega)]; rfl
      have hv := vl_get hlt
      refine runS_x (I := inf) (J := jnf) ⟨false, false, [], 0, 0⟩ 9999 rfl (by repeat (first | exact obs_nil | refine obs_draw (by kernel_rfl) ?_ | refine obs_same ?_ | refine obs_and ?_ | refine obs_by (by (simp [inB, hlt] <;> omega)) ?_)) ?_
      refine runS_call rfl rfl rfl rfl rfl rfl rfl (r_numeric (l.getD i ⟨0, 0, 0, []⟩).kind) ?_
      refine runS_x (I := inf) (J := jnf) ⟨false, false, [], 0, 0⟩ 9999 rfl (by repeat (first | exact obs_nil | refine obs_draw (by kernel_rfl) ?_ | refine obs_same ?_ | refine obs_and ?_ | refine obs_by (by (simp [inB] <;> omega)) ?_)) ?_
      refine runS_cond rfl (fun h2 => ?_) (fun h2 => ?_)
      · have hr : numK (l[i]).kind = false := by
          rw [← hv]
          have h3 : (!numK (l.getD i ⟨0, 0, 0, []⟩).kind) = true := h2
          rw [Bool.not_eq_true'] at h3
          exact h3
        have hE : askL none l = 10 := by
          unfold askL
          rw [if_neg (by rw [ha]; decide), if_neg (by simp), if_pos]
          rw [List.all_eq_false]
          exact ⟨_, List.getElem_mem hlt, by rw [hr]; decide⟩
        rw [hE]
        refine runS_x (I := inf) (J := jnf) ⟨false, false, [], 0, 0⟩ 9999 rfl (by repeat (first | exact obs_nil | refine obs_draw (by kernel_rfl) ?_ | refine obs_same ?_ | refine obs_and ?_ | refine obs_by (by (simp [inB] <;> omega)) ?_)) ?_
        refine runS_ret (I := inf) 0 rfl (Nat.le_refl _) rfl .nil rfl ⟨?_, rfl⟩
        rfl
      · have hr : numK (l[i]).kind = true := by
          rw [← hv]
          have h3 : (!numK (l.getD i ⟨0, 0, 0, []⟩).kind) = false := h2
          rw [Bool.not_eq_false'] at h3
          exact h3
        refine runS_x (I := inf) (J := jnf) ⟨false, false, [], 0, 0⟩ 9999 rfl (by repeat (first | exact obs_nil | refine obs_draw (by kernel_rfl) ?_ | refine obs_same ?_ | refine obs_and ?_ | refine obs_by (by (simp [inB] <;> omega)) ?_)) ?_
        exact ih (i + 1) _ _ (by omega) ⟨⟨rfl, congrArg iv hw1⟩, rfl, by omega, all_take hb hlt hr⟩
    · have hie : i = l.length := by simp at h; omega
      subst hie
      rw [List.take_length] at hb
      have hE : askL none l = 0 := by
        unfold askL
        rw [if_neg (by rw [ha]; decide), if_neg (by simp), if_neg (by rw [hb]; decide), if_neg (by simp)]
      rw [hE]
      refine runS_x (I := inf) (J := jnf) ⟨false, false, [], 0, 0⟩ 9999 rfl (by repeat (first | exact obs_nil | refine obs_draw (by kernel_rfl) ?_ | refine obs_same ?_ | refine obs_and ?_ | refine obs_by (by (simp [inB] <;> omega)) ?_)) ?_
      refine runS_ret (I := inf) 0 rfl (Nat.le_refl _) rfl .nil rfl ⟨?_, rfl⟩
      rfl
theorem r_asked (t : Typ) (n1 : Option Bool) (l : List Vl) (hl : l.length ≤ 100000) : CallT Tryz.prog 109 [vlS n1 l, .agg (typE t)] [] (fun o A => o = .ret (iv (askL (some t) l)) ∧ A = []) := by
  have hE : askL (some t) l = if askL none l = 1 then 1 else if validT t = false then 13 else if askL none l ≠ 0 then askL none l else if numK t.kind = false then 10 else 0 := by
    unfold askL
    cases h1 : l.all Vl.right <;> cases h2 : (l.all fun v => numK v.kind) <;> cases h3 : validT t <;> cases h4 : numK t.kind <;> simp [h3, h4]
  rw [hE]
  refine callS_body (n := 25) rfl rfl fun w ρ X => ?_
  refine runS_x (I := inf) (J := jnf) ⟨false, false, [], 0, 0⟩ 9999 rfl (by repeat (first | exact obs_nil | refine obs_draw (by kernel_rfl) ?_ | refine obs_same ?_ | refine obs_and ?_ | refine obs_by (by (simp [inB] <;> omega)) ?_)) ?_
  refine runS_call rfl rfl rfl rfl rfl rfl rfl (r_numbers n1 l hl) ?_
  refine runS_x (I := inf) (J := jnf) ⟨false, false, [], 0, 0⟩ 9999 rfl (by repeat (first | exact obs_nil | refine obs_draw (by kernel_rfl) ?_ | refine obs_same ?_ | refine obs_and ?_ | refine obs_by (by (simp [inB] <;> omega)) ?_)) ?_
  refine runS_cond rfl (fun h => ?_) (fun h => ?_)
  · have h1 : askL none l = 1 := by simpa using (show (askL none l == 1) = true from h)
    rw [if_pos h1]
    refine runS_x (I := inf) (J := jnf) ⟨false, false, [], 0, 0⟩ 9999 rfl (by repeat (first | exact obs_nil | refine obs_draw (by kernel_rfl) ?_ | refine obs_same ?_ | refine obs_and ?_ | refine obs_by (by (simp [inB] <;> omega)) ?_)) ?_
    refine runS_ret (I := inf) 0 rfl (Nat.le_refl _) rfl .nil rfl ⟨?_, rfl⟩
    rw [← h1]
    rfl
  · have h1 : ¬ askL none l = 1 := by simpa using (show (askL none l == 1) = false from h)
    rw [if_neg h1]
    refine runS_x (I := inf) (J := jnf) ⟨false, false, [], 0, 0⟩ 9999 rfl (by repeat (first | exact obs_nil | refine obs_draw (by kernel_rfl) ?_ | refine obs_same ?_ | refine obs_and ?_ | refine obs_by (by (simp [inB] <;> omega)) ?_)) ?_
    refine runS_call rfl rfl rfl rfl rfl rfl rfl (r_valid t) ?_
    refine runS_x (I := inf) (J := jnf) ⟨false, false, [], 0, 0⟩ 9999 rfl (by repeat (first | exact obs_nil | refine obs_draw (by kernel_rfl) ?_ | refine obs_same ?_ | refine obs_and ?_ | refine obs_by (by (simp [inB] <;> omega)) ?_)) ?_
    refine runS_cond rfl (fun h => ?_) (fun h => ?_)
    · have h2 : validT t = false := by
        have h3 : (!validT t) = true := h
        rw [Bool.not_eq_true'] at h3
        exact h3
      rw [if_pos h2]
      refine runS_x (I := inf) (J := jnf) ⟨false, false, [], 0, 0⟩ 9999 rfl (by repeat (first | exact obs_nil | refine obs_draw (by kernel_rfl) ?_ | refine obs_same ?_ | refine obs_and ?_ | refine obs_by (by (simp [inB] <;> omega)) ?_)) ?_
      refine runS_ret (I := inf) 0 rfl (Nat.le_refl _) rfl .nil rfl ⟨?_, rfl⟩
      rfl
    · have h2 : ¬ validT t = false := by
        have h3 : (!validT t) = false := h
        rw [Bool.not_eq_false'] at h3
        rw [h3]; decide
      rw [if_neg h2]
      refine runS_x (I := inf) (J := jnf) ⟨false, false, [], 0, 0⟩ 9999 rfl (by repeat (first | exact obs_nil | refine obs_draw (by kernel_rfl) ?_ | refine obs_same ?_ | refine obs_and ?_ | refine obs_by (by (simp [inB] <;> omega)) ?_)) ?_
      refine runS_cond rfl (fun h => ?_) (fun h => ?_)
      · have h4 : askL none l ≠ 0 := by
          have h3 : (!(askL none l == 0)) = true := h
          rw [Bool.not_eq_true', beq_eq_false_iff_ne] at h3
          exact h3
        rw [if_pos h4]
        refine runS_x (I := inf) (J := jnf) ⟨false, false, [], 0, 0⟩ 9999 rfl (by repeat (first | exact obs_nil | refine obs_draw (by kernel_rfl) ?_ | refine obs_same ?_ | refine obs_and ?_ | refine obs_by (by (simp [inB] <;> omega)) ?_)) ?_
        refine runS_ret (I := inf) 0 rfl (Nat.le_refl _) rfl .nil rfl ⟨?_, rfl⟩
        rfl
      · have h4 : ¬ askL none l ≠ 0 := by
          have h3 : (!(askL none l == 0)) = false := h
          rw [Bool.not_eq_false', beq_iff_eq] at h3
          exact fun e => e h3
        rw [if_neg h4]
        refine runS_x (I := inf) (J := jnf) ⟨false, false, [], 0, 0⟩ 9999 rfl (by repeat (first | exact obs_nil | refine obs_draw (by kernel_rfl) ?_ | refine obs_same ?_ | refine obs_and ?_ | refine obs_by (by (simp [inB] <;> omega)) ?_)) ?_
        refine runS_call rfl rfl rfl rfl rfl rfl rfl (r_numeric t.kind) ?_
        refine runS_x (I := inf) (J := jnf) ⟨false, false, [], 0, 0⟩ 9999 rfl (by repeat (first | exact obs_nil | refine obs_draw (by kernel_rfl) ?_ | refine obs_same ?_ | refine obs_and ?_ | refine obs_by (by (simp [inB] <;> omega)) ?_)) ?_
        refine runS_cond rfl (fun h => ?_) (fun h => ?_)
        · have h5 : numK t.kind = false := by
            have h3 : (!numK t.kind) = true := h
            rw [Bool.not_eq_true'] at h3
            exact h3
          rw [if_pos h5]
          refine runS_x (I := inf) (J := jnf) ⟨false, false, [], 0, 0⟩ 9999 rfl (by repeat (first | exact obs_nil | refine obs_draw (by kernel_rfl) ?_ | refine obs_same ?_ | refine obs_and ?_ | refine obs_by (by (simp [inB] <;> omega)) ?_)) ?_
          refine runS_ret (I := inf) 0 rfl (Nat.le_refl _) rfl .nil rfl ⟨?_, rfl⟩
          rfl
        · have h5 : ¬ numK t.kind = false := by
            have h3 : (!numK t.kind) = false := h
            rw [Bool.not_eq_false'] at h3
            rw [h3]; decide
          rw [if_neg h5]
          refine runS_x (I := inf) (J := jnf) ⟨false, false, [], 0, 0⟩ 9999 rfl (by repeat (first | exact obs_nil | refine obs_draw (by kernel_rfl) ?_ | refine obs_same ?_ | refine obs_and ?_ | refine obs_by (by (simp [inB] <;> omega)) ?_)) ?_
          refine runS_ret (I := inf) 0 rfl (Nat.le_refl _) rfl .nil rfl ⟨?_, rfl⟩
          rfl
theorem r_int (n1 : Option Bool) (A : List Nat) (hll : A.length ≤ 18) (hda : ∀ d ∈ A, d < 10) : CallT Tryz.prog 207 [natS n1 A] [] (fun o A' => o = .ret (iv (val A : Nat)) ∧ A' = []) := by
  have hx : val A < 1000000000000000000 := Nat.lt_of_lt_of_le (val_lt hda) (Nat.pow_le_pow_right (by decide) hll)
  have hw0 : IntKind.wrap .i64 ((A.length : Int) - 1) = (A.length : Int) - 1 := w64 (by omega) (by omega)
  refine callS_body (n := 20) rfl rfl fun w ρ X => ?_
  refine runS_x (I := inf) (J := jnf) ⟨false, false, [], 0, 0⟩ 9999 rfl (by repeat (first | exact obs_nil | refine obs_draw (by kernel_rfl) ?_ | refine obs_same ?_ | refine obs_and ?_ | refine obs_by (by (simp [inB] <;> omega)) ?_)) ?_
  refine runS_while (fun (i : Nat) τ ar => (τ 0 = natS n1 A ∧ τ 3 = iv (val (A.drop i) : Nat) ∧ τ 4 = iv ((i : Int) - 1)) ∧ ar = [] ∧ i ≤ A.length) (fun i => i) A.length ⟨⟨rfl, by rw [List.drop_length]; rfl, congrArg iv hw0⟩, rfl, Nat.le_refl _⟩ ?_
  rintro i τ' ar' ⟨⟨g0, g3, g4⟩, rfl, hi⟩ ih
  refine runS_says 0 (by exact g0) (Says.refl _) ?_; refine runS_says 3 (by exact g3) (Says.refl _) ?_; refine runS_says 4 (by exact g4) (Says.refl _) ?_
  refine runS_x (I := inf) (J := jnf) ⟨false, false, [], 0, 0⟩ 9999 rfl (by repeat (first | exact obs_nil | refine obs_draw (by kernel_rfl) ?_ | refine obs_same ?_ | refine obs_and ?_ | refine obs_by (by (simp [inB] <;> omega)) ?_)) ?_
  refine runS_cond rfl (fun h => ?_) (fun h => ?_)
  · have hi0 : 0 < i := by
      have : decide ((i : Int) - 1 ≥ 0) = true := h
      simp at this
      omega
    obtain ⟨k, rfl⟩ : ∃ k, i = k + 1 := ⟨i - 1, by omega⟩
    have hk : k < A.length := by omega
    have e1 : (((k + 1 : Nat) : Int) - 1) = (k : Int) := by omega
    rw [e1] at g4 ⊢
    have hwk : IntKind.wrap .i64 ((k : Int) - 1) = (k : Int) - 1 := w64 (by omega) (by omega)
    have hv := val_drop A k
    have hle := val_drop_le A k
    have hd9 := getD_lt hda k
    have hev : IntKind.wrap .i64 (IntKind.wrap .i64 (10 * ((val (A.drop (k + 1)) : Nat) : Int)) + ((A.getD k 0 : Nat) : Int)) = ((val (A.drop k) : Nat) : Int) := by
      rw [w64 (x := 10 * ((val (A.drop (k + 1)) : Nat) : Int)) (by omega) (by omega), w64 (by omega) (by omega)]
      omega
    refine runS_x (I := inf) (J := jnf) ⟨false, false, [], 0, 0⟩ 9999 rfl (by repeat (first | exact obs_nil | refine obs_draw (by kernel_rfl) ?_ | refine obs_same ?_ | refine obs_and ?_ | refine obs_by (by (simp [inB, hk] <;> omega)) ?_)) ?_
    exact ih k _ _ (by omega) ⟨⟨rfl, congrArg iv hev, congrArg iv hwk⟩, rfl, by omega⟩
  · have hi0 : i = 0 := by
      have : decide ((i : Int) - 1 ≥ 0) = false := h
      simp at this
      omega
    subst hi0
    refine runS_x (I := inf) (J := jnf) ⟨false, false, [], 0, 0⟩ 9999 rfl (by repeat (first | exact obs_nil | refine obs_draw (by kernel_rfl) ?_ | refine obs_same ?_ | refine obs_and ?_ | refine obs_by (by (simp [inB] <;> omega)) ?_)) ?_
    refine runS_ret (I := inf) 0 rfl (Nat.le_refl _) rfl .nil rfl ⟨?_, rfl⟩
    rw [List.drop_zero]
    rfl
theorem r_signed (n1 : Option Bool) (x : Nat) (ng : Bool) (hx : x < 1000000000000000000) : CallT Tryz.prog 179 [natS n1 (frm x), bv ng] [] (fun o A => o = .ret (iv (sgn ng x)) ∧ A = []) := by
  have hi := r_int n1 (frm x) (frm_len_lt.2 hx) (fun d hd => frm_digit hd)
  rw [val_frm] at hi
  cases ng
  · refine callS_body (n := 11) rfl rfl fun w ρ X => ?_
    refine runS_x (I := inf) (J := jnf) ⟨false, false, [], 0, 0⟩ 9999 rfl (by repeat (first | exact obs_nil | refine obs_draw (by kernel_rfl) ?_ | refine obs_same ?_ | refine obs_and ?_ | refine obs_by (by (simp [inB] <;> omega)) ?_)) ?_
    refine runS_cond rfl (fun h => by cases h) (fun h => ?_)
    refine runS_x (I := inf) (J := jnf) ⟨false, false, [], 0, 0⟩ 9999 rfl (by repeat (first | exact obs_nil | refine obs_draw (by kernel_rfl) ?_ | refine obs_same ?_ | refine obs_and ?_ | refine obs_by (by (simp [inB] <;> omega)) ?_)) ?_
    refine runS_call rfl rfl rfl rfl rfl rfl rfl hi ?_
    refine runS_x (I := inf) (J := jnf) ⟨false, false, [], 0, 0⟩ 9999 rfl (by repeat (first | exact obs_nil | refine obs_draw (by kernel_rfl) ?_ | refine obs_same ?_ | refine obs_and ?_ | refine obs_by (by (simp [inB] <;> omega)) ?_)) ?_
    refine runS_ret (I := inf) 0 rfl (Nat.le_refl _) rfl .nil rfl ⟨?_, rfl⟩
    rfl
  · refine callS_body (n := 11) rfl rfl fun w ρ X => ?_
    refine runS_x (I := inf) (J := jnf) ⟨false, false, [], 0, 0⟩ 9999 rfl (by repeat (first | exact obs_nil | refine obs_draw (by kernel_rfl) ?_ | refine obs_same ?_ | refine obs_and ?_ | refine obs_by (by (simp [inB] <;> omega)) ?_)) ?_
    refine runS_cond rfl (fun h => ?_) (fun h => by cases h)
    refine runS_x (I := inf) (J := jnf) ⟨false, false, [], 0, 0⟩ 9999 rfl (by repeat (first | exact obs_nil | refine obs_draw (by kernel_rfl) ?_ | refine obs_same ?_ | refine obs_and ?_ | refine obs_by (by (simp [inB] <;> omega)) ?_)) ?_
    refine runS_call rfl rfl rfl rfl rfl rfl rfl hi ?_
    refine runS_x (I := inf) (J := jnf) ⟨false, false, [], 0, 0⟩ 9999 rfl (by repeat (first | exact obs_nil | refine obs_draw (by kernel_rfl) ?_ | refine obs_same ?_ | refine obs_and ?_ | refine obs_by (by (simp [inB] <;> omega)) ?_)) ?_
    refine runS_ret (I := inf) 0 rfl (Nat.le_refl _) rfl .nil rfl ⟨?_, rfl⟩
    show Out.ret (iv (IntKind.wrap .i64 (0 - (x : Int)))) = _
    rw [w64 (by omega) (by omega), Int.zero_sub]
    rfl
end Go.Iron.Tryz

/- The digits' seat: the reference's quotients of naturals. -/
namespace Go.Iron.Tryz
open Go.Proofs Go.RowKit Go.Iron.Tok Go.Iron.Dg

theorem drop_upd (p : Nat → Nat) (k m n : Nat) : (listF (updF p k m) n).drop (k + 1) = (listF p n).drop (k + 1) := by
  unfold listF
  rw [← List.map_drop, ← List.map_drop]
  refine List.map_congr_left fun a ha => ?_
  obtain ⟨j, hj, rfl⟩ := List.mem_iff_getElem.1 ha
  rw [List.getElem_drop, List.getElem_range]
  unfold updF
  rw [if_neg (by omega)]
structure DivX where
  i : Nat
  p : Nat → Nat
  R : Nat
theorem r_div (n1 n2 : Option Bool) (x y : Nat) (hx : (frm x).length ≤ 4000) (hy : (frm y).length ≤ 3000) (hy0 : 0 < y) : CallT Tryz.prog 178 [natS n1 (frm x), natS n2 (frm y)] [] (fun o A => o = .ret (.tup [natS none (frm (x / y)), natS none (frm (x % y))]) ∧ A = []) := by
  have hvx := val_frm x
  have hda := fun d (hd : d ∈ frm x) => frm_digit hd
  generalize frm x = A at *
  have hw0 : IntKind.wrap .i64 ((A.length : Int) - 1) = (A.length : Int) - 1 := w64 (by omega) (by omega)
  refine callS_body (n := 43) rfl rfl fun w ρ X => ?_
  refine runS_x (I := inf) (J := jnf) ⟨false, false, [], 0, 0⟩ 9999 rfl (by repeat (first | exact obs_nil | refine obs_draw (by kernel_rfl) ?_ | refine obs_same ?_ | refine obs_and ?_ | refine obs_by (by (simp [inB] <;> omega)) ?_)) ?_
  obtain ⟨n, hn⟩ : ∃ n, A.length = n := ⟨_, rfl⟩
  refine runS_tell 0 (rowN (fun _ => 0)) rfl (m' := n) (by rw [hn]; rfl) (fun j hj => rfl) rfl ?_
  refine runS_says 7 rfl (says_nil0 (sz := 1) (r := nilN) (Nat.zero_le _)) ?_
  refine runS_while (fun (z : DivX) τ ar => (τ 0 = natS n1 A ∧ τ 1 = natS n2 (frm y) ∧ τ 6 = .row 0 0 ∧ τ 7 = natS none (frm z.R) ∧ τ 8 = iv ((z.i : Int) - 1)) ∧ ar = [.row 3 1 0 n (rowN z.p)] ∧ z.i ≤ n ∧ (∀ j, z.p j < 10) ∧ (∀ j, j < z.i → z.p j = 0) ∧ z.R < y ∧ val (A.drop z.i) = val ((listF z.p n).drop z.i) * y + z.R) (fun z => z.i) ⟨n, fun _ => 0, 0⟩ ⟨⟨rfl, rfl, rfl, by rw [frm_zero]; rfl, by rw [← hn]; exact congrArg iv hw0⟩, rfl, Nat.le_refl _, fun _ => by show 0 < 10; decide, fun _ _ => rfl, hy0, by
      dsimp only
      rw [List.drop_eq_nil_of_le (by omega), List.drop_eq_nil_of_le (by rw [listF_len]; exact Nat.le_refl _)]
      show 0 = 0 * y + 0
      omega⟩ ?_
  rintro ⟨i, p, R⟩ τ' ar' ⟨⟨g0, g1, g6, g7, g8⟩, rfl, hi, hp10, hp0, hR, hval⟩ ih
  dsimp only at g7 g8 hi hp10 hp0 hR hval ih ⊢
  refine runS_says 0 (by exact g0) (Says.refl _) ?_; refine runS_says 1 (by exact g1) (Says.refl _) ?_; refine runS_says 6 (by exact g6) (Says.refl _) ?_; refine runS_says 7 (by exact g7) (Says.refl _) ?_; refine runS_says 8 (by exact g8) (Says.refl _) ?_
  refine runS_x (I := inf) (J := jnf) ⟨false, false, [], 0, 0⟩ 9999 rfl (by repeat (first | exact obs_nil | refine obs_draw (by kernel_rfl) ?_ | refine obs_same ?_ | refine obs_and ?_ | refine obs_by (by (simp [inB] <;> omega)) ?_)) ?_
  refine runS_cond rfl (fun h => ?_) (fun h => ?_)
  · have hi0 : 0 < i := by
      have : decide ((i : Int) - 1 ≥ 0) = true := h
      simp at this
      omega
    obtain ⟨k, rfl⟩ : ∃ k, i = k + 1 := ⟨i - 1, by omega⟩
    have hk : k < A.length := by omega
    have e1 : (((k + 1 : Nat) : Int) - 1) = (k : Int) := by omega
    rw [e1] at g8 ⊢
    have hwk : IntKind.wrap .i64 ((k : Int) - 1) = (k : Int) - 1 := w64 (by omega) (by omega)
    have hv := val_drop A k
    have hd9 := getD_lt hda k
    have hRl : (frm R).length ≤ (frm y).length := frm_len_mono (Nat.le_of_lt hR)
    have hpk : p k = 0 := hp0 k (by omega)
    refine runS_x (I := inf) (J := jnf) ⟨false, false, [], 0, 0⟩ 9999 rfl (by repeat (first | exact obs_nil | refine obs_draw (by kernel_rfl) ?_ | refine obs_same ?_ | refine obs_and ?_ | refine obs_by (by (simp [inB, hk] <;> omega)) ?_)) ?_
    refine runS_tell 1 (natR (A.getD k 0 :: frm R)) rfl (m' := (A.getD k 0 :: frm R).length) (by simp; omega) (fun j hj => ?_) rfl ?_
    · cases j with
      | zero => rfl
      | succ j =>
        refine Eq.trans ?_ (appR_ge (m := 1) (i := j + 1) (Nat.succ_le_succ (Nat.zero_le j))).symm
        rfl
    refine runS_freeze 25 rfl rfl rfl (fun j hj => rfl) ?_
    refine runS_call rfl rfl rfl rfl rfl rfl rfl (r_trim none (A.getD k 0 :: frm R) (by simp; omega) (fun d hd => by rcases List.mem_cons.1 hd with rfl | hd; exact hd9; exact frm_digit hd)) ?_
    have hD : trim (A.getD k 0 :: frm R) = frm (A.getD k 0 + 10 * R) := by
      unfold trim
      rw [val, val_frm]
    rw [hD]
    generalize hDe : A.getD k 0 + 10 * R = D at *
    have hD10 : D < 10 * y := by omega
    refine runS_x (I := inf) (J := jnf) ⟨false, false, [], 0, 0⟩ 9999 rfl (by repeat (first | exact obs_nil | refine obs_draw (by kernel_rfl) ?_ | refine obs_same ?_ | refine obs_and ?_ | refine obs_by (by (simp [inB] <;> omega)) ?_)) ?_
    refine runS_tell 0 (rowN (updF p k 0)) rfl (m' := n) rfl (fun j hj => by (unfold rowN updF; by_cases e : j = k; (rw [if_pos e, e, hpk]); (rw [if_neg e]))) rfl ?_
    refine runS_while (fun (m : Nat) τ ar => (τ 0 = natS n1 A ∧ τ 1 = natS n2 (frm y) ∧ τ 6 = .row 0 0 ∧ τ 7 = natS none (frm (D - m * y)) ∧ τ 8 = iv k) ∧ ar = [.row 3 1 0 n (rowN (updF p k m)), .gone] ∧ m * y ≤ D) (fun m => D - m * y) 0 ⟨⟨rfl, rfl, rfl, by rw [Nat.zero_mul, Nat.sub_zero]; rfl, rfl⟩, rfl, by omega⟩ ?_
    rintro m τ2 ar2 ⟨⟨j0, j1, j6, j7, j8⟩, rfl, hm⟩ ih2
    have hm9 : m ≤ 9 := by
      refine Nat.le_of_lt_succ (Nat.lt_of_mul_lt_mul_right (a := y) (Nat.lt_of_le_of_lt hm ?_))
      exact hD10
    have hDl : (frm (D - m * y)).length ≤ (frm y).length + 1 := by
      refine frm_len_lt.2 ?_
      have h1 := frm_lt_pow y
      rw [Nat.pow_succ]
      omega
    refine runS_says 0 (by exact j0) (Says.refl _) ?_; refine runS_says 1 (by exact j1) (Says.refl _) ?_; refine runS_says 6 (by exact j6) (Says.refl _) ?_; refine runS_says 7 (by exact j7) (Says.refl _) ?_; refine runS_says 8 (by exact j8) (Says.refl _) ?_
    refine runS_x (I := inf) (J := jnf) ⟨false, false, [], 0, 0⟩ 9999 rfl (by repeat (first | exact obs_nil | refine obs_draw (by kernel_rfl) ?_ | refine obs_same ?_ | refine obs_and ?_ | refine obs_by (by (simp [inB] <;> omega)) ?_)) ?_
    refine runS_call rfl rfl rfl rfl rfl rfl rfl (r_cmp none n2 (frm (D - m * y)) (frm y) (by omega) (by omega)) ?_
    refine runS_x (I := inf) (J := jnf) ⟨false, false, [], 0, 0⟩ 9999 rfl (by repeat (first | exact obs_nil | refine obs_draw (by kernel_rfl) ?_ | refine obs_same ?_ | refine obs_and ?_ | refine obs_by (by (simp [inB] <;> omega)) ?_)) ?_
    have hcm := cmpT_lt (D - m * y) y
    refine runS_cond rfl (fun h2 => ?_) (fun h2 => ?_)
    · have hge : y ≤ D - m * y := by
        have := of_decide_eq_true (show decide (cmpT (frm (D - m * y)) (frm y) ≥ 0) = true from h2)
        omega
      have hn1 : (m + 1) * y = m * y + y := by rw [Nat.add_mul, Nat.one_mul]
      have hls := r_less none n2 (D - m * y) y hge (by omega)
      rw [show D - m * y - y = D - (m + 1) * y by omega] at hls
      have huk : updF p k m k = m := by unfold updF; rw [if_pos rfl]
      have hwm : IntKind.wrap .i64 (((updF p k m k : Nat) : Int) + 1) = ((m + 1 : Nat) : Int) := by rw [huk, w64 (by omega) (by omega)]; rfl
      have hkn : k < n := by omega
      refine runS_x (I := inf) (J := jnf) ⟨false, false, [], 0, 0⟩ 9999 rfl (by repeat (first | exact obs_nil | refine obs_draw (by kernel_rfl) ?_ | refine obs_same ?_ | refine obs_and ?_ | refine obs_by (by (simp [inB] <;> omega)) ?_)) ?_
      refine runS_call rfl rfl rfl rfl rfl rfl rfl hls ?_
      refine runS_x (I := inf) (J := jnf) ⟨false, false, [], 0, 0⟩ 9999 rfl (by repeat (first | exact obs_nil | refine obs_draw (by kernel_rfl) ?_ | refine obs_same ?_ | refine obs_and ?_ | refine obs_by (by (simp [inB, hkn] <;> omega)) ?_)) ?_
      refine runS_tell 0 (rowN (updF p k (m + 1))) rfl (m' := n) rfl (fun j hj => ?_) rfl ?_
      · refine Eq.trans ?_ (rowN_upd (p := updF p k m) (congrArg (fun z => [iv z]) hwm) j)
        unfold rowN updF
        by_cases e : j = k
        · simp [e]
        · simp [e]
      exact ih2 (m + 1) _ _ (by omega) ⟨⟨rfl, rfl, rfl, rfl, rfl⟩, rfl, by omega⟩
    · have hlt : D - m * y < y := by
        have := of_decide_eq_false (show decide (cmpT (frm (D - m * y)) (frm y) ≥ 0) = false from h2)
        omega
      refine runS_x (I := inf) (J := jnf) ⟨false, false, [], 0, 0⟩ 9999 rfl (by repeat (first | exact obs_nil | refine obs_draw (by kernel_rfl) ?_ | refine obs_same ?_ | refine obs_and ?_ | refine obs_by (by (simp [inB] <;> omega)) ?_)) ?_
      refine runS_drop 1 (Nat.zero_le _) rfl (by repeat (first | exact .nil | refine .row (fun j hj => rfl) ?_ | refine .box rfl ?_ | refine .fam (fun k j hk hj => rfl) ?_ | refine .loop (scrub_under _ _) ?_ | refine .dfr ?_ | refine .gone ?_ | refine .map (fun p hp => by (obtain ⟨k, _, rfl⟩ := List.mem_map.1 hp; rfl)) ?_)) rfl rfl rfl (by repeat (first | exact .nil | refine .cons rfl rfl rfl (scrub_under _ _) ?_)) ?_
      refine ih ⟨k, updF p k m, D - m * y⟩ _ _ (by dsimp only; omega) ⟨⟨rfl, rfl, rfl, rfl, congrArg iv hwk⟩, rfl, by dsimp only; omega, ?_, ?_, hlt, ?_⟩
      · intro j
        dsimp only
        unfold updF
        split
        · omega
        · exact hp10 j
      · intro j hj
        dsimp only at hj ⊢
        unfold updF
        rw [if_neg (by omega)]
        exact hp0 j (by omega)
      · dsimp only
        have hvd := val_drop (listF (updF p k m) n) k
        rw [listF_getD _ (by omega), drop_upd, show updF p k m k = m by unfold updF; rw [if_pos rfl]] at hvd
        rw [hvd, hv, hval, Nat.add_mul, Nat.mul_add]
        have : 10 * (val ((listF p n).drop (k + 1)) * y) = 10 * val ((listF p n).drop (k + 1)) * y := by rw [Nat.mul_assoc]
        omega
  · have hi0 : i = 0 := by
      have : decide ((i : Int) - 1 ≥ 0) = false := h
      simp at this
      omega
    subst hi0
    rw [List.drop_zero, List.drop_zero, hvx] at hval
    have hdiv : x / y = val (listF p n) := by
      rw [hval, Nat.mul_comm, Nat.mul_add_div hy0, Nat.div_eq_of_lt hR, Nat.add_zero]
    have hmod : x % y = R := by
      rw [hval, Nat.mul_comm, Nat.mul_add_mod, Nat.mod_eq_of_lt hR]
    have hc := r_trim none (listF p n) (by rw [listF_len]; omega) (listF_lt fun j _ => hp10 j)
    unfold natS at hc
    rw [listF_len] at hc
    refine runS_x (I := inf) (J := jnf) ⟨false, false, [], 0, 0⟩ 9999 rfl (by repeat (first | exact obs_nil | refine obs_draw (by kernel_rfl) ?_ | refine obs_same ?_ | refine obs_and ?_ | refine obs_by (by (simp [inB] <;> omega)) ?_)) ?_
    refine runS_tell 0 (natR (listF p n)) rfl (m' := n) rfl (fun j hj => natR_listF p hj) rfl ?_
    refine runS_freeze 40 rfl rfl rfl (fun j hj => rfl) ?_
    refine runS_call rfl rfl rfl rfl rfl rfl rfl hc ?_
    refine runS_x (I := inf) (J := jnf) ⟨false, false, [], 0, 0⟩ 9999 rfl (by repeat (first | exact obs_nil | refine obs_draw (by kernel_rfl) ?_ | refine obs_same ?_ | refine obs_and ?_ | refine obs_by (by (simp [inB] <;> omega)) ?_)) ?_
    refine runS_ret (I := inf) 0 rfl (Nat.le_refl _) rfl .nil rfl ⟨?_, rfl⟩
    unfold trim
    rw [hdiv, hmod]
    rfl
end Go.Iron.Tryz

/- Digits: the exponent that the reference finds for a float, in plain Lean. -/
namespace Go.Iron.Dg

def k0F (num den P : Nat) : Int := (P : Int) - ((frm num).length - (frm den).length) - 1
def kF (num den P : Nat) : Int := if num * e10 (k0F num den P) < den * e10 (-k0F num den P) * 10 ^ (P - 1) then k0F num den P + 1 else k0F num den P
def rndF (N D : Nat) : Nat := N / D + (if N % D + N % D ≥ D then 1 else 0)
theorem kF_found {num den P j : Nat} (hn : num ≠ 0) (hd : den ≠ 0) (hP : 1 ≤ P) (hj : j ≤ 1)
    (h1 : j = 1 → num * e10 (k0F num den P) < den * e10 (-k0F num den P) * 10 ^ (P - 1)) (h2 : den * e10 (-k0F num den P) * 10 ^ (P - 1) ≤ num * e10 (k0F num den P) * 10 ^ j) :
    k0F num den P + j = kF num den P ∧ num * e10 (k0F num den P) * 10 ^ j < den * e10 (-k0F num den P) * 10 ^ P ∧ IsK num den P (kF num den P)
    ∧ fltR num den (kF num den P) = normD (rndF (num * e10 (k0F num den P) * 10 ^ j) (den * e10 (-k0F num den P))) (-kF num den P) ∧ rndF (num * e10 (k0F num den P) * 10 ^ j) (den * e10 (-k0F num den P)) ≤ 10 ^ P ∧ rndF (num * e10 (k0F num den P) * 10 ^ j) (den * e10 (-k0F num den P)) ≠ 0 := by
  have hs := float_start hn hd hP (k0 := k0F num den P) rfl
  have hr := float_ratio num den (k0F num den P) j
  have hD : 0 < den * e10 (-k0F num den P) := Nat.mul_pos (Nat.pos_of_ne_zero hd) (e10_pos _)
  have hk : k0F num den P + j = kF num den P := by
    unfold kF
    rcases (show j = 0 ∨ j = 1 by omega) with rfl | rfl
    · rw [if_neg (by rw [Nat.pow_zero, Nat.mul_one] at h2; omega)]
      simp
    · rw [if_pos (h1 rfl)]
      rfl
  have hlt : num * e10 (k0F num den P) * 10 ^ j < den * e10 (-k0F num den P) * 10 ^ P := by
    rcases (show j = 0 ∨ j = 1 by omega) with rfl | rfl
    · rw [Nat.pow_zero, Nat.mul_one]; exact hs.2
    · have := h1 rfl
      obtain ⟨p, rfl⟩ : ∃ p, P = p + 1 := ⟨P - 1, by omega⟩
      rw [Nat.add_sub_cancel] at this
      rw [Nat.pow_one, Nat.pow_succ, ← Nat.mul_assoc]
      omega
  rw [hk] at hr
  obtain ⟨i1, i2⟩ := float_found hr (Nat.pos_of_ne_zero hd) hD h2 hlt
  refine ⟨hk, hlt, i1, i2, ?_, ?_⟩
  · have hq : num * e10 (k0F num den P) * 10 ^ j / (den * e10 (-k0F num den P)) < 10 ^ P := Nat.div_lt_of_lt_mul hlt
    unfold rndF
    split <;> omega
  · have hq : 10 ^ (P - 1) ≤ num * e10 (k0F num den P) * 10 ^ j / (den * e10 (-k0F num den P)) := by
      rw [Nat.le_div_iff_mul_le hD, Nat.mul_comm]; exact h2
    have : 0 < 10 ^ (P - 1) := Nat.pow_pos (by decide)
    unfold rndF
    omega
theorem k0F_stop {num den P j : Nat} (hn : num ≠ 0) (hd : den ≠ 0) (hP : 1 ≤ P) (hj : j ≤ 1) (h : num * e10 (k0F num den P) * 10 ^ j < den * e10 (-k0F num den P) * 10 ^ (P - 1)) : j = 0 := by
  have hs := float_start hn hd hP (k0 := k0F num den P) rfl
  rcases (show j = 0 ∨ j = 1 by omega) with rfl | rfl
  · rfl
  · rw [Nat.pow_one] at h
    omega
theorem kF_is {num den P : Nat} (hn : num ≠ 0) (hd : den ≠ 0) (hP : 1 ≤ P) : IsK num den P (kF num den P) := by
  have hs := float_start hn hd hP (k0 := k0F num den P) rfl
  by_cases h : num * e10 (k0F num den P) < den * e10 (-k0F num den P) * 10 ^ (P - 1)
  · exact (kF_found (j := 1) hn hd hP (Nat.le_refl _) (fun _ => h) (by rw [Nat.pow_one]; exact Nat.le_of_lt hs.1)).2.2.1
  · exact (kF_found (j := 0) hn hd hP (Nat.zero_le _) (fun e => by cases e) (by rw [Nat.pow_zero, Nat.mul_one]; omega)).2.2.1
end Go.Iron.Dg

/- The digits' seat: the reference's floats. -/
namespace Go.Iron.Tryz
open Go.Proofs Go.RowKit Go.Iron.Tok Go.Iron.Dg

theorem natS_tail (d : Nat) (A : List Nat) : AV.slc 1 none (((d :: A).length : Int) - 1).toNat (shiftR (natR (d :: A)) (Int.toNat 1)) = natS none A := by
  have h : (((d :: A).length : Int) - 1).toNat = A.length := by rw [List.length_cons]; omega
  rw [h]
  refine congrArg (AV.slc 1 none A.length) (funext fun i => ?_)
  show natR (d :: A) (1 + i) = natR A i
  rw [Nat.add_comm]
  rfl
theorem r_float0 (ng : Bool) (den : Nat) (t : Typ) : CallT Tryz.prog 177 [exA ⟨ng, 0, den⟩, .agg (typE t)] [] (fun o A => o = .ret (numA 3 (0, 0, 0)) ∧ A = []) := by
  show CallT Tryz.prog 177 [.agg [bv ng, natS none (frm 0), natS none (frm den)], .agg (typE t)] [] _
  rw [frm_zero]
  refine callS_body (n := 125) rfl rfl fun w ρ X => ?_
  refine runS_x (I := inf) (J := jnf) ⟨false, false, [], 0, 0⟩ 9999 rfl (by repeat (first | exact obs_nil | refine obs_draw (by kernel_rfl) ?_ | refine obs_same ?_ | refine obs_and ?_ | refine obs_by (by (simp [inB] <;> omega)) ?_)) ?_
  refine runS_cond rfl (fun h => ?_) (fun h => by cases h)
  refine runS_x (I := inf) (J := jnf) ⟨false, false, [], 0, 0⟩ 9999 rfl (by repeat (first | exact obs_nil | refine obs_draw (by kernel_rfl) ?_ | refine obs_same ?_ | refine obs_and ?_ | refine obs_by (by (simp [inB] <;> omega)) ?_)) ?_
  refine runS_ret (I := inf) 0 rfl (Nat.le_refl _) rfl .nil rfl ⟨?_, rfl⟩
  rfl
theorem r_float (ng : Bool) (num den : Nat) (t : Typ) (P : Nat) (hn : num ≠ 0) (hd : den ≠ 0) (hp : t.p = P) (hP : 1 ≤ P) (hP2 : P ≤ 15) (hx : ExFit ⟨ng, num, den⟩ 980) :
    CallT Tryz.prog 177 [exA ⟨ng, num, den⟩, .agg (typE t)] [] (fun o A => o = .ret (numA 3 (fltO ng (fltR num den (kF num den P)))) ∧ A = []) := by
  obtain ⟨a1, a2⟩ := hx
  dsimp only at a1 a2
  obtain ⟨tk, tp, tq, tn, tv, tc⟩ := t
  dsimp only at hp
  subst hp
  have ln0 : 0 < (frm num).length := Nat.pos_of_ne_zero fun e => hn (frm_len0.1 e)
  have ld0 : 0 < (frm den).length := Nat.pos_of_ne_zero fun e => hd (frm_len0.1 e)
  have hkd : k0F num den P = (P : Int) - ((frm num).length - (frm den).length) - 1 := rfl
  have hwk : IntKind.wrap .i64 (IntKind.wrap .i64 ((P : Int) - IntKind.wrap .i64 (((frm num).length : Int) - ((frm den).length : Int))) - 1) = k0F num den P := by
    rw [w64 (x := ((frm num).length : Int) - ((frm den).length : Int)) (by omega) (by omega), w64 (x := (P : Int) - (((frm num).length : Int) - ((frm den).length : Int))) (by omega) (by omega), w64 (by omega) (by omega)]; rfl
  have hNl : (frm (num * e10 (k0F num den P))).length ≤ 1000 := by
    have := frm_len_up num (k0F num den P).toNat
    unfold e10
    omega
  have hDl : (frm (den * e10 (-k0F num den P))).length ≤ 1000 := by
    have := frm_len_up den (-k0F num den P).toNat
    unfold e10
    omega
  have hst := fun j => kF_found (j := j) hn hd hP
  have hsp := fun j => k0F_stop (j := j) hn hd hP
  have hD0 : 0 < den * e10 (-k0F num den P) := Nat.mul_pos (Nat.pos_of_ne_zero hd) (e10_pos _)
  have hk0b : -1000 ≤ k0F num den P ∧ k0F num den P ≤ 1000 := by omega
  refine callS_body (n := 125) rfl rfl fun w ρ X => ?_
  refine runS_x (I := inf) (J := jnf) ⟨false, false, [], 0, 0⟩ 9999 rfl (by repeat (first | exact obs_nil | refine obs_draw (by kernel_rfl) ?_ | refine obs_same ?_ | refine obs_and ?_ | refine obs_by (by (simp [inB] <;> omega)) ?_)) ?_
  refine runS_cond rfl (fun h => ?_) (fun h => ?_)
  · have : ((frm num).length : Int) = 0 := by simpa using (show (((frm num).length : Int) == 0) = true from h)
    omega
  refine runS_x (I := inf) (J := jnf) ⟨false, false, [], 0, 0⟩ 9999 rfl (by repeat (first | exact obs_nil | refine obs_draw (by kernel_rfl) ?_ | refine obs_same ?_ | refine obs_and ?_ | refine obs_by (by (simp [inB] <;> omega)) ?_)) ?_
  refine runS_cut (fun τ ar => (τ 2 = .ptr 0 0 0 ∧ τ 3 = .ptr 1 0 0 ∧ τ 4 = .ptr 2 0 0 ∧ τ 6 = .ptr 3 0 0 ∧ τ 7 = iv (k0F num den P) ∧ τ 8 = natS none (frm (num * e10 (k0F num den P))) ∧ τ 9 = natS none (frm (den * e10 (-k0F num den P)))) ∧ ar = [.box 35 [bv ng, natS none (frm num), natS none (frm den)], .box 25 [iv tk, iv P, iv tq, iv tn, bv tv, sv tc], .box 23 [iv 0, iv 0, iv 0, sv []], .box 23 [iv 3, iv 0, iv 0, sv []]]) (fun rest => ?_) ?_
  · refine runS_cond rfl (fun h => ?_) (fun h => ?_)
    · have h0 : 0 ≤ k0F num den P := by
        have := of_decide_eq_true h
        rw [hwk] at this
        exact this
      have hpw := r_pow10Z (k0F num den P) h0 (by omega)
      rw [← hwk] at hpw
      have hml := r_mul none none num (10 ^ (k0F num den P).toNat) (by omega) (by rw [frm_pow]; simp; omega)
      rw [← hwk] at hml
      refine runS_x (I := inf) (J := jnf) ⟨false, false, [], 2, 0⟩ 9999 rfl (by repeat (first | exact obs_nil | refine obs_draw (by kernel_rfl) ?_ | refine obs_same ?_ | refine obs_and ?_ | refine obs_by (by (simp [inB] <;> omega)) ?_)) ?_
      refine runS_call rfl rfl rfl rfl rfl rfl rfl hpw ?_
      refine runS_x (I := inf) (J := jnf) ⟨false, false, [], 2, 0⟩ 9999 rfl (by repeat (first | exact obs_nil | refine obs_draw (by kernel_rfl) ?_ | refine obs_same ?_ | refine obs_and ?_ | refine obs_by (by (simp [inB] <;> omega)) ?_)) ?_
      refine runS_call rfl rfl rfl rfl rfl rfl rfl hml ?_
      refine runS_x (I := inf) (J := jnf) ⟨false, false, [], 2, 0⟩ 9999 rfl (by repeat (first | exact obs_nil | refine obs_draw (by kernel_rfl) ?_ | refine obs_same ?_ | refine obs_and ?_ | refine obs_by (by (simp [inB] <;> omega)) ?_)) ?_
      refine rest _ _ ⟨⟨rfl, rfl, rfl, rfl, congrArg iv hwk, by rw [← hwk]; rfl, ?_⟩, rfl⟩
      rw [show e10 (-k0F num den P) = 1 by unfold e10; rw [show (-k0F num den P).toNat = 0 by omega], Nat.mul_one]
      rfl
    · have h0 : ¬ 0 ≤ k0F num den P := by
        have := of_decide_eq_false h
        rw [hwk] at this
        exact this
      have hwn : IntKind.wrap .i64 (0 - k0F num den P) = -k0F num den P := by rw [w64 (by omega) (by omega)]; omega
      have hpw := r_pow10Z (-k0F num den P) (by omega) (by omega)
      rw [← hwn, ← hwk] at hpw
      have hml := r_mul none none den (10 ^ (-k0F num den P).toNat) (by omega) (by rw [frm_pow]; simp; omega)
      rw [← hwn, ← hwk] at hml
      refine runS_x (I := inf) (J := jnf) ⟨false, false, [], 2, 0⟩ 9999 rfl (by repeat (first | exact obs_nil | refine obs_draw (by kernel_rfl) ?_ | refine obs_same ?_ | refine obs_and ?_ | refine obs_by (by (simp [inB] <;> omega)) ?_)) ?_
      refine runS_call rfl rfl rfl rfl rfl rfl rfl hpw ?_
      refine runS_x (I := inf) (J := jnf) ⟨false, false, [], 2, 0⟩ 9999 rfl (by repeat (first | exact obs_nil | refine obs_draw (by kernel_rfl) ?_ | refine obs_same ?_ | refine obs_and ?_ | refine obs_by (by (simp [inB] <;> omega)) ?_)) ?_
      refine runS_call rfl rfl rfl rfl rfl rfl rfl hml ?_
      refine runS_x (I := inf) (J := jnf) ⟨false, false, [], 2, 0⟩ 9999 rfl (by repeat (first | exact obs_nil | refine obs_draw (by kernel_rfl) ?_ | refine obs_same ?_ | refine obs_and ?_ | refine obs_by (by (simp [inB] <;> omega)) ?_)) ?_
      refine rest _ _ ⟨⟨rfl, rfl, rfl, rfl, congrArg iv hwk, ?_, by rw [← hwn, ← hwk]; rfl⟩, rfl⟩
      rw [show e10 (k0F num den P) = 1 by unfold e10; rw [show (k0F num den P).toNat = 0 by omega], Nat.mul_one]
      rfl
  generalize hNe : num * e10 (k0F num den P) = N0 at *
  generalize hDe : den * e10 (-k0F num den P) = D0 at *
  generalize hke : k0F num den P = k0 at *
  clear hwk hNe hDe
  rintro τ2 ar2 ⟨⟨g2, g3, g4, g6, g7, g8, g9⟩, rfl⟩
  refine runS_says 2 (by exact g2) (Says.refl _) ?_; refine runS_says 3 (by exact g3) (Says.refl _) ?_; refine runS_says 4 (by exact g4) (Says.refl _) ?_; refine runS_says 6 (by exact g6) (Says.refl _) ?_; refine runS_says 7 (by exact g7) (Says.refl _) ?_; refine runS_says 8 (by exact g8) (Says.refl _) ?_; refine runS_says 9 (by exact g9) (Says.refl _) ?_
  refine runS_x (I := inf) (J := jnf) ⟨false, false, [], 0, 0⟩ 9999 rfl (by repeat (first | exact obs_nil | refine obs_draw (by kernel_rfl) ?_ | refine obs_same ?_ | refine obs_and ?_ | refine obs_by (by (simp [inB] <;> omega)) ?_)) ?_
  have hwp : IntKind.wrap .i64 ((P : Int) - 1) = ((P - 1 : Nat) : Int) := by rw [w64 (by omega) (by omega)]; omega
  have hp1 := r_pow10 (P - 1) (by omega)
  have hp2 := r_pow10 P (by omega)
  have hp3 := r_pow10 1 (by omega)
  have hl1 := frm_len_up D0 (P - 1)
  have hl2 := frm_len_up D0 P
  have hm1 := r_mul none none D0 (10 ^ (P - 1)) (by omega) (by rw [frm_pow]; simp; omega)
  have hm2 := r_mul none none D0 (10 ^ P) (by omega) (by rw [frm_pow]; simp; omega)
  refine runS_while (fun (j : Nat) τ ar => (τ 2 = .ptr 0 0 0 ∧ τ 3 = .ptr 1 0 0 ∧ τ 4 = .ptr 2 0 0 ∧ τ 6 = .ptr 3 0 0 ∧ τ 7 = iv (k0 + j) ∧ τ 8 = natS none (frm (N0 * 10 ^ j)) ∧ τ 9 = natS none (frm D0)) ∧ ar = [.box 35 [bv ng, natS none (frm num), natS none (frm den)], .box 25 [iv tk, iv P, iv tq, iv tn, bv tv, sv tc], .box 23 [iv 0, iv 0, iv 0, sv []], .box 23 [iv 3, iv 0, iv 0, sv []]] ∧ j ≤ 1 ∧ (j = 1 → N0 < D0 * 10 ^ (P - 1))) (fun j => 1 - j) 0 ⟨⟨rfl, rfl, rfl, rfl, congrArg iv (show k0 = k0 + ((0 : Nat) : Int) by simp), congrArg (fun z => natS none (frm z)) (show N0 = N0 * 10 ^ 0 by rw [Nat.pow_zero, Nat.mul_one]), rfl⟩, rfl, Nat.zero_le _, fun h => by cases h⟩ ?_
  rintro j τ3 ar3 ⟨⟨g2, g3, g4, g6, g7, g8, g9⟩, rfl, hj, hj1⟩ ih
  have hlN := frm_len_up N0 j
  have hlN2 := frm_len_up N0 (j + 1)
  refine runS_says 2 (by exact g2) (Says.refl _) ?_; refine runS_says 3 (by exact g3) (Says.refl _) ?_; refine runS_says 4 (by exact g4) (Says.refl _) ?_; refine runS_says 6 (by exact g6) (Says.refl _) ?_; refine runS_says 7 (by exact g7) (Says.refl _) ?_; refine runS_says 8 (by exact g8) (Says.refl _) ?_; refine runS_says 9 (by exact g9) (Says.refl _) ?_
  rw [← hwp] at hp1
  refine runS_x (I := inf) (J := jnf) ⟨false, false, [], 0, 0⟩ 9999 rfl (by repeat (first | exact obs_nil | refine obs_draw (by kernel_rfl) ?_ | refine obs_same ?_ | refine obs_and ?_ | refine obs_by (by (simp [inB] <;> omega)) ?_)) ?_
  refine runS_call rfl rfl rfl rfl rfl rfl rfl hp1 ?_
  refine runS_x (I := inf) (J := jnf) ⟨false, false, [], 0, 0⟩ 9999 rfl (by repeat (first | exact obs_nil | refine obs_draw (by kernel_rfl) ?_ | refine obs_same ?_ | refine obs_and ?_ | refine obs_by (by (simp [inB] <;> omega)) ?_)) ?_
  refine runS_call rfl rfl rfl rfl rfl rfl rfl hm1 ?_
  refine runS_x (I := inf) (J := jnf) ⟨false, false, [], 0, 0⟩ 9999 rfl (by repeat (first | exact obs_nil | refine obs_draw (by kernel_rfl) ?_ | refine obs_same ?_ | refine obs_and ?_ | refine obs_by (by (simp [inB] <;> omega)) ?_)) ?_
  refine runS_call rfl rfl rfl rfl rfl rfl rfl (r_cmp none none (frm (N0 * 10 ^ j)) (frm (D0 * 10 ^ (P - 1))) (by omega) (by omega)) ?_
  have hcm := cmpT_lt (N0 * 10 ^ j) (D0 * 10 ^ (P - 1))
  refine runS_x (I := inf) (J := jnf) ⟨false, false, [], 0, 0⟩ 9999 rfl (by repeat (first | exact obs_nil | refine obs_draw (by kernel_rfl) ?_ | refine obs_same ?_ | refine obs_and ?_ | refine obs_by (by (simp [inB] <;> omega)) ?_)) ?_
  refine runS_cond rfl (fun h => ?_) (fun h => ?_)
  · have hlt : N0 * 10 ^ j < D0 * 10 ^ (P - 1) := hcm.1 (of_decide_eq_true h)
    have hj0 := hsp j hj hlt
    subst hj0
    rw [Nat.pow_zero, Nat.mul_one] at hlt
    have hwj : IntKind.wrap .i64 (k0 + ((0 : Nat) : Int) + 1) = k0 + ((1 : Nat) : Int) := by rw [w64 (by omega) (by omega)]; omega
    have hm3 := r_mul none none (N0 * 10 ^ 0) (10 ^ 1) (by omega) (by rw [frm_pow]; simp)
    refine runS_x (I := inf) (J := jnf) ⟨false, false, [], 0, 0⟩ 9999 rfl (by repeat (first | exact obs_nil | refine obs_draw (by kernel_rfl) ?_ | refine obs_same ?_ | refine obs_and ?_ | refine obs_by (by (simp [inB] <;> omega)) ?_)) ?_
    refine runS_call rfl rfl rfl rfl rfl rfl rfl hp3 ?_
    refine runS_x (I := inf) (J := jnf) ⟨false, false, [], 0, 0⟩ 9999 rfl (by repeat (first | exact obs_nil | refine obs_draw (by kernel_rfl) ?_ | refine obs_same ?_ | refine obs_and ?_ | refine obs_by (by (simp [inB] <;> omega)) ?_)) ?_
    refine runS_call rfl rfl rfl rfl rfl rfl rfl hm3 ?_
    refine runS_x (I := inf) (J := jnf) ⟨false, false, [], 0, 0⟩ 9999 rfl (by repeat (first | exact obs_nil | refine obs_draw (by kernel_rfl) ?_ | refine obs_same ?_ | refine obs_and ?_ | refine obs_by (by (simp [inB] <;> omega)) ?_)) ?_
    refine ih 1 _ _ (by decide) ⟨⟨rfl, rfl, rfl, rfl, congrArg iv hwj, congrArg (fun z => natS none (frm z)) (show N0 * 10 ^ 0 * 10 ^ 1 = N0 * 10 ^ 1 by rw [Nat.pow_zero, Nat.mul_one]), rfl⟩, rfl, Nat.le_refl _, fun _ => hlt⟩
  · have hge : D0 * 10 ^ (P - 1) ≤ N0 * 10 ^ j := Nat.le_of_not_lt fun hlt => absurd (hcm.2 hlt) (of_decide_eq_false h)
    obtain ⟨e1, e2, e3, e4, e5, e6⟩ := hst j hj hj1 hge
    clear ih hcm hsp hst hj1
    rw [e1] at g7
    rw [e4]
    generalize N0 * 10 ^ j = N at *
    generalize kF num den P = k at *
    refine runS_x (I := inf) (J := jnf) ⟨false, false, [], 0, 0⟩ 9999 rfl (by repeat (first | exact obs_nil | refine obs_draw (by kernel_rfl) ?_ | refine obs_same ?_ | refine obs_and ?_ | refine obs_by (by (simp [inB] <;> omega)) ?_)) ?_
    refine runS_while (fun (_ : Unit) τ ar => (τ 2 = .ptr 0 0 0 ∧ τ 3 = .ptr 1 0 0 ∧ τ 4 = .ptr 2 0 0 ∧ τ 6 = .ptr 3 0 0 ∧ τ 7 = iv k ∧ τ 8 = natS none (frm N) ∧ τ 9 = natS none (frm D0)) ∧ ar = [.box 35 [bv ng, natS none (frm num), natS none (frm den)], .box 25 [iv tk, iv P, iv tq, iv tn, bv tv, sv tc], .box 23 [iv 0, iv 0, iv 0, sv []], .box 23 [iv 3, iv 0, iv 0, sv []]]) (fun _ => 0) () ⟨⟨rfl, rfl, rfl, rfl, congrArg iv e1, rfl, rfl⟩, rfl⟩ ?_
    rintro _ τ4 ar4 ⟨⟨g2, g3, g4, g6, g7, g8, g9⟩, rfl⟩ -
    refine runS_says 2 (by exact g2) (Says.refl _) ?_; refine runS_says 3 (by exact g3) (Says.refl _) ?_; refine runS_says 4 (by exact g4) (Says.refl _) ?_; refine runS_says 6 (by exact g6) (Says.refl _) ?_; refine runS_says 7 (by exact g7) (Says.refl _) ?_; refine runS_says 8 (by exact g8) (Says.refl _) ?_; refine runS_says 9 (by exact g9) (Says.refl _) ?_
    refine runS_x (I := inf) (J := jnf) ⟨false, false, [], 0, 0⟩ 9999 rfl (by repeat (first | exact obs_nil | refine obs_draw (by kernel_rfl) ?_ | refine obs_same ?_ | refine obs_and ?_ | refine obs_by (by (simp [inB] <;> omega)) ?_)) ?_
    refine runS_call rfl rfl rfl rfl rfl rfl rfl hp2 ?_
    refine runS_x (I := inf) (J := jnf) ⟨false, false, [], 0, 0⟩ 9999 rfl (by repeat (first | exact obs_nil | refine obs_draw (by kernel_rfl) ?_ | refine obs_same ?_ | refine obs_and ?_ | refine obs_by (by (simp [inB] <;> omega)) ?_)) ?_
    refine runS_call rfl rfl rfl rfl rfl rfl rfl hm2 ?_
    refine runS_x (I := inf) (J := jnf) ⟨false, false, [], 0, 0⟩ 9999 rfl (by repeat (first | exact obs_nil | refine obs_draw (by kernel_rfl) ?_ | refine obs_same ?_ | refine obs_and ?_ | refine obs_by (by (simp [inB] <;> omega)) ?_)) ?_
    refine runS_call rfl rfl rfl rfl rfl rfl rfl (r_cmp none none (frm N) (frm (D0 * 10 ^ P)) (by omega) (by omega)) ?_
    have hcm := cmpT_lt N (D0 * 10 ^ P)
    refine runS_x (I := inf) (J := jnf) ⟨false, false, [], 0, 0⟩ 9999 rfl (by repeat (first | exact obs_nil | refine obs_draw (by kernel_rfl) ?_ | refine obs_same ?_ | refine obs_and ?_ | refine obs_by (by (simp [inB] <;> omega)) ?_)) ?_
    refine runS_cond rfl (fun h => ?_) (fun h => ?_)
    · have := of_decide_eq_true (show decide (cmpT (frm N) (frm (D0 * 10 ^ P)) ≥ 0) = true from h)
      have := hcm.2 e2
      omega
    refine runS_x (I := inf) (J := jnf) ⟨false, false, [], 0, 0⟩ 9999 rfl (by repeat (first | exact obs_nil | refine obs_draw (by kernel_rfl) ?_ | refine obs_same ?_ | refine obs_and ?_ | refine obs_by (by (simp [inB] <;> omega)) ?_)) ?_
    refine runS_call rfl rfl rfl rfl rfl rfl rfl (r_div none none N D0 (by omega) (by omega) hD0) ?_
    obtain ⟨q, hq⟩ : ∃ q, N / D0 = q := ⟨_, rfl⟩
    obtain ⟨r, hr⟩ : ∃ r, N % D0 = r := ⟨_, rfl⟩
    have hrl := frm_len_mono (Nat.le_of_lt (Nat.mod_lt N hD0))
    have hql := frm_len_mono (Nat.div_le_self N D0)
    have hqF : rndF N D0 = q + (if r + r ≥ D0 then 1 else 0) := by unfold rndF; rw [hq, hr]
    rw [hq] at hql ⊢
    rw [hr] at hrl ⊢
    have hpl1 := r_plus none none r r (by omega) (by omega)
    have hpl2 := r_plus none none q 1 (by omega) (by rw [frm_one]; decide)
    have hdl := frm_len_add r r
    have hcq := cmpT_lt (r + r) D0
    generalize rndF N D0 = q0 at *
    refine runS_x (I := inf) (J := jnf) ⟨false, false, [], 0, 0⟩ 9999 rfl (by repeat (first | exact obs_nil | refine obs_draw (by kernel_rfl) ?_ | refine obs_same ?_ | refine obs_and ?_ | refine obs_by (by (simp [inB] <;> omega)) ?_)) ?_
    refine runS_call rfl rfl rfl rfl rfl rfl rfl hpl1 ?_
    refine runS_x (I := inf) (J := jnf) ⟨false, false, [], 0, 0⟩ 9999 rfl (by repeat (first | exact obs_nil | refine obs_draw (by kernel_rfl) ?_ | refine obs_same ?_ | refine obs_and ?_ | refine obs_by (by (simp [inB] <;> omega)) ?_)) ?_
    refine runS_call rfl rfl rfl rfl rfl rfl rfl (r_cmp none none (frm (r + r)) (frm D0) (by omega) (by omega)) ?_
    refine runS_x (I := inf) (J := jnf) ⟨false, false, [], 0, 0⟩ 9999 rfl (by repeat (first | exact obs_nil | refine obs_draw (by kernel_rfl) ?_ | refine obs_same ?_ | refine obs_and ?_ | refine obs_by (by (simp [inB] <;> omega)) ?_)) ?_
    refine runS_cut (fun τ ar => (τ 2 = .ptr 0 0 0 ∧ τ 3 = .ptr 1 0 0 ∧ τ 4 = .ptr 2 0 0 ∧ τ 6 = .ptr 3 0 0 ∧ τ 7 = iv k ∧ τ 10 = natS none (frm q0)) ∧ ar = [.box 35 [bv ng, natS none (frm num), natS none (frm den)], .box 25 [iv tk, iv P, iv tq, iv tn, bv tv, sv tc], .box 23 [iv 0, iv 0, iv 0, sv []], .box 23 [iv 3, iv 0, iv 0, sv []]]) (fun rest => ?_) ?_
    · refine runS_cond rfl (fun h => ?_) (fun h => ?_)
      · have hge : r + r ≥ D0 := by
          have := of_decide_eq_true (show decide (cmpT (frm (r + r)) (frm D0) ≥ 0) = true from h)
          omega
        rw [if_pos hge] at hqF
        rw [← hqF] at hpl2
        refine runS_x (I := inf) (J := jnf) ⟨false, false, [], 2, 0⟩ 9999 rfl (by repeat (first | exact obs_nil | refine obs_draw (by kernel_rfl) ?_ | refine obs_same ?_ | refine obs_and ?_ | refine obs_by (by (simp [inB] <;> omega)) ?_)) ?_
        refine runS_tell 4 (natR (frm 1)) rfl (m' := (frm 1).length) (by rw [frm_one]; rfl) (fun i hi => ?_) rfl ?_
        · have : i = 0 := by omega
          subst this
          rw [frm_one]
          rfl
        refine runS_freeze 85 rfl rfl rfl (fun j hj => rfl) ?_
        refine runS_call rfl rfl rfl rfl rfl rfl rfl hpl2 ?_
        refine runS_x (I := inf) (J := jnf) ⟨false, false, [], 2, 0⟩ 9999 rfl (by repeat (first | exact obs_nil | refine obs_draw (by kernel_rfl) ?_ | refine obs_same ?_ | refine obs_and ?_ | refine obs_by (by (simp [inB] <;> omega)) ?_)) ?_
        refine runS_drop 4 (Nat.zero_le _) rfl (by repeat (first | exact .nil | refine .row (fun j hj => rfl) ?_ | refine .box rfl ?_ | refine .fam (fun k j hk hj => rfl) ?_ | refine .loop (scrub_under _ _) ?_ | refine .dfr ?_ | refine .gone ?_ | refine .map (fun p hp => by (obtain ⟨k, _, rfl⟩ := List.mem_map.1 hp; rfl)) ?_)) rfl rfl rfl (by repeat (first | exact .nil | refine .cons rfl rfl rfl (scrub_under _ _) ?_)) ?_
        exact rest _ _ ⟨⟨rfl, rfl, rfl, rfl, rfl, rfl⟩, rfl⟩
      · have hge : ¬ r + r ≥ D0 := by
          have := of_decide_eq_false (show decide (cmpT (frm (r + r)) (frm D0) ≥ 0) = false from h)
          omega
        rw [if_neg hge, Nat.add_zero] at hqF
        rw [← hqF]
        refine runS_x (I := inf) (J := jnf) ⟨false, false, [], 2, 0⟩ 9999 rfl (by repeat (first | exact obs_nil | refine obs_draw (by kernel_rfl) ?_ | refine obs_same ?_ | refine obs_and ?_ | refine obs_by (by (simp [inB] <;> omega)) ?_)) ?_
        exact rest _ _ ⟨⟨rfl, rfl, rfl, rfl, rfl, rfl⟩, rfl⟩
    have hP15 : 10 ^ P ≤ 10 ^ 15 := Nat.pow_le_pow_right (by decide) hP2
    have hP15' : (10 : Nat) ^ 15 = 1000000000000000 := by decide
    have hkb : -1000 ≤ k ∧ k ≤ 1001 := by omega
    have hwn : IntKind.wrap .i64 (0 - k) = -k := by rw [w64 (by omega) (by omega)]; omega
    have hq0l : (frm q0).length ≤ 16 := frm_len_lt.2 (by omega)
    clear hqF hcq hdl hpl1 hpl2 hrl hql hq hr g2 g3 g4 g6 g7 g8 g9 hcm hm1 hm2 hlN hlN2 hl1 hl2
    rintro τ5 ar5 ⟨⟨g2, g3, g4, g6, g7, g10⟩, rfl⟩
    refine runS_says 2 (by exact g2) (Says.refl _) ?_; refine runS_says 3 (by exact g3) (Says.refl _) ?_; refine runS_says 4 (by exact g4) (Says.refl _) ?_; refine runS_says 6 (by exact g6) (Says.refl _) ?_; refine runS_says 7 (by exact g7) (Says.refl _) ?_; refine runS_says 10 (by exact g10) (Says.refl _) ?_
    refine runS_x (I := inf) (J := jnf) ⟨false, false, [], 0, 0⟩ 9999 rfl (by repeat (first | exact obs_nil | refine obs_draw (by kernel_rfl) ?_ | refine obs_same ?_ | refine obs_and ?_ | refine obs_by (by (simp [inB] <;> omega)) ?_)) ?_
    refine runS_while (fun (z : Nat × Int) τ ar => (τ 2 = .ptr 0 0 0 ∧ τ 3 = .ptr 1 0 0 ∧ τ 4 = .ptr 2 0 0 ∧ τ 6 = .ptr 3 0 0 ∧ τ 10 = natS none (frm z.1)) ∧ ar = [.box 35 [bv ng, natS none (frm num), natS none (frm den)], .box 25 [iv tk, iv P, iv tq, iv tn, bv tv, sv tc], .box 23 [iv 0, iv 0, iv 0, sv []], .box 23 [iv 3, iv 0, iv z.2, sv []]] ∧ z.1 ≤ q0 ∧ z.1 ≠ 0 ∧ normD q0 (-k) = normD z.1 z.2 ∧ -k ≤ z.2 ∧ z.2 + ((frm z.1).length : Int) ≤ -k + ((frm q0).length : Int)) (fun z => z.1) (q0, -k) ⟨⟨rfl, rfl, rfl, rfl, rfl⟩, by rw [← hwn], Nat.le_refl _, e6, rfl, Int.le_refl _, Int.le_refl _⟩ ?_
    rintro ⟨q, v⟩ τ6 ar6 ⟨⟨g2, g3, g4, g6, g10⟩, rfl, hq, hq0, hnd, hv1, hv2⟩ ih
    dsimp only at g10 hq hq0 hnd hv1 hv2 ih ⊢
    have hfq := frm_pos hq0
    have hql := frm_len_mono hq
    have hwv : IntKind.wrap .i64 (v + 1) = v + 1 := w64 (by omega) (by omega)
    refine runS_says 2 (by exact g2) (Says.refl _) ?_; refine runS_says 3 (by exact g3) (Says.refl _) ?_; refine runS_says 4 (by exact g4) (Says.refl _) ?_; refine runS_says 6 (by exact g6) (Says.refl _) ?_; refine runS_says 10 (by exact g10) (Says.refl _) ?_
    rw [hfq]
    refine runS_x (I := inf) (J := jnf) ⟨false, false, [], 0, 0⟩ 9999 rfl (by repeat (first | exact obs_nil | refine obs_draw (by kernel_rfl) ?_ | refine obs_same ?_ | refine obs_and ?_ | refine obs_by (by (simp [inB] <;> omega)) ?_)) ?_
    refine runS_cond rfl (fun h => ?_) (fun h => ?_)
    · have h0 : q % 10 = 0 := by
        simp at h
        omega
      have hq1 : q / 10 ≠ 0 := by omega
      have hl1 : (frm q).length = (frm (q / 10)).length + 1 := by rw [hfq]; rfl
      refine runS_x (I := inf) (J := jnf) ⟨false, false, [], 0, 0⟩ 9999 rfl (by repeat (first | exact obs_nil | refine obs_draw (by kernel_rfl) ?_ | refine obs_same ?_ | refine obs_and ?_ | refine obs_by (by (simp [inB] <;> omega)) ?_)) ?_
      refine ih (q / 10, v + 1) _ _ (by dsimp only; omega) ⟨⟨rfl, rfl, rfl, rfl, natS_tail _ _⟩, by rw [hwv], by dsimp only; omega, hq1, by rw [hnd, normD_step hq0 h0], by dsimp only; omega, by dsimp only; omega⟩
    · have h0 : q % 10 ≠ 0 := by
        simp at h
        omega
      rw [hnd, normD_end h0]
      have hsg := r_signed none q ng (by omega)
      have hl0 : 0 < (frm q).length := by rw [hfq]; exact Nat.succ_pos _
      have hwe : IntKind.wrap .i64 (IntKind.wrap .i64 (((frm q).length : Int) + v) - 1) = ((frm q).length : Int) + v - 1 := by rw [w64 (x := ((frm q).length : Int) + v) (by omega) (by omega), w64 (by omega) (by omega)]
      rw [hfq] at hsg
      refine runS_x (I := inf) (J := jnf) ⟨false, false, [], 0, 0⟩ 9999 rfl (by repeat (first | exact obs_nil | refine obs_draw (by kernel_rfl) ?_ | refine obs_same ?_ | refine obs_and ?_ | refine obs_by (by (simp [inB] <;> omega)) ?_)) ?_
      refine runS_call rfl rfl rfl rfl rfl rfl rfl hsg ?_
      refine runS_x (I := inf) (J := jnf) ⟨false, false, [], 0, 0⟩ 9999 rfl (by repeat (first | exact obs_nil | refine obs_draw (by kernel_rfl) ?_ | refine obs_same ?_ | refine obs_and ?_ | refine obs_by (by (simp [inB] <;> omega)) ?_)) ?_
      refine runS_cond rfl (fun h2 => ?_) (fun h2 => ?_)
      · have h3 : ((frm q).length : Int) + v - 1 > 75 := by
          have := of_decide_eq_true h2
          rw [← hfq, hwe] at this
          exact this
        have hF : fltO ng (q, v) = (0, 0, 3) := by unfold fltO; rw [if_neg hq0, if_pos h3]
        rw [hF]
        refine runS_x (I := inf) (J := jnf) ⟨false, false, [], 0, 0⟩ 9999 rfl (by repeat (first | exact obs_nil | refine obs_draw (by kernel_rfl) ?_ | refine obs_same ?_ | refine obs_and ?_ | refine obs_by (by (simp [inB] <;> omega)) ?_)) ?_
        refine runS_ret (I := inf) 0 rfl (Nat.le_refl _) rfl .nil rfl ⟨?_, rfl⟩
        rfl
      · have h3 : ¬ ((frm q).length : Int) + v - 1 > 75 := by
          have := of_decide_eq_false h2
          rw [← hfq, hwe] at this
          exact this
        refine runS_x (I := inf) (J := jnf) ⟨false, false, [], 0, 0⟩ 9999 rfl (by repeat (first | exact obs_nil | refine obs_draw (by kernel_rfl) ?_ | refine obs_same ?_ | refine obs_and ?_ | refine obs_by (by (simp [inB] <;> omega)) ?_)) ?_
        refine runS_cond rfl (fun h2 => ?_) (fun h2 => ?_)
        · have h4 : ((frm q).length : Int) + v - 1 < -75 := by
            have := of_decide_eq_true h2
            rw [← hfq, hwe] at this
            exact this
          have hF : fltO ng (q, v) = (0, 0, 8) := by unfold fltO; rw [if_neg hq0, if_neg h3, if_pos h4]
          rw [hF]
          refine runS_x (I := inf) (J := jnf) ⟨false, false, [], 0, 0⟩ 9999 rfl (by repeat (first | exact obs_nil | refine obs_draw (by kernel_rfl) ?_ | refine obs_same ?_ | refine obs_and ?_ | refine obs_by (by (simp [inB] <;> omega)) ?_)) ?_
          refine runS_ret (I := inf) 0 rfl (Nat.le_refl _) rfl .nil rfl ⟨?_, rfl⟩
          rfl
        · have h4 : ¬ ((frm q).length : Int) + v - 1 < -75 := by
            have := of_decide_eq_false h2
            rw [← hfq, hwe] at this
            exact this
          have hF : fltO ng (q, v) = (sgn ng q, v, 0) := by unfold fltO; rw [if_neg hq0, if_neg h3, if_neg h4]
          rw [hF]
          refine runS_x (I := inf) (J := jnf) ⟨false, false, [], 0, 0⟩ 9999 rfl (by repeat (first | exact obs_nil | refine obs_draw (by kernel_rfl) ?_ | refine obs_same ?_ | refine obs_and ?_ | refine obs_by (by (simp [inB] <;> omega)) ?_)) ?_
          refine runS_ret (I := inf) 0 rfl (Nat.le_refl _) rfl .nil rfl ⟨?_, rfl⟩
          rfl
end Go.Iron.Tryz

/- The digits' seat: the reference's quotients, floors, and numbers fitted to types. -/
namespace Go.Iron.Tryz
open Go.Proofs Go.RowKit Go.Iron.Tok Go.Iron.Dg

theorem r_over (x y : Ex) (hx : ExFit x 4000) (hy : ExFit y 4000) : CallT Tryz.prog 112 [exA x, exA y] [] (fun o A => o = .ret (exA (overE x y)) ∧ A = []) := by
  obtain ⟨xg, xn, xd⟩ := x
  obtain ⟨yg, yn, yd⟩ := y
  obtain ⟨a1, a2⟩ := hx
  obtain ⟨b1, b2⟩ := hy
  dsimp only at a1 a2 b1 b2
  have hm1 := r_mul none none xn yd a1 b2
  have hm2 := r_mul none none xd yn a2 b1
  refine callS_body (n := 28) rfl rfl fun w ρ X => ?_
  refine runS_x (I := inf) (J := jnf) ⟨false, false, [], 0, 0⟩ 9999 rfl (by repeat (first | exact obs_nil | refine obs_draw (by kernel_rfl) ?_ | refine obs_same ?_ | refine obs_and ?_ | refine obs_by (by (simp [inB] <;> omega)) ?_)) ?_
  refine runS_call rfl rfl rfl rfl rfl rfl rfl hm1 ?_
  refine runS_x (I := inf) (J := jnf) ⟨false, false, [], 0, 0⟩ 9999 rfl (by repeat (first | exact obs_nil | refine obs_draw (by kernel_rfl) ?_ | refine obs_same ?_ | refine obs_and ?_ | refine obs_by (by (simp [inB] <;> omega)) ?_)) ?_
  refine runS_call rfl rfl rfl rfl rfl rfl rfl hm2 ?_
  refine runS_x (I := inf) (J := jnf) ⟨false, false, [], 0, 0⟩ 9999 rfl (by repeat (first | exact obs_nil | refine obs_draw (by kernel_rfl) ?_ | refine obs_same ?_ | refine obs_and ?_ | refine obs_by (by (simp [inB] <;> omega)) ?_)) ?_
  refine runS_ret (I := inf) 0 rfl (Nat.le_refl _) rfl .nil rfl ⟨?_, rfl⟩
  show Out.ret (.agg [bv (if (xg != yg) = true then decide (((frm (xn * yd)).length : Int) > 0) else false), natS none (frm (xn * yd)), natS none (frm (xd * yn))]) = _
  rw [len_pos]
  cases xg <;> cases yg <;> rfl
theorem r_floor (x : Ex) (hx : ExFit x 3000) (hd : 0 < x.den) : CallT Tryz.prog 111 [exA x] [] (fun o A => o = .ret (exA (floorE x)) ∧ A = []) := by
  obtain ⟨xg, xn, xd⟩ := x
  obtain ⟨a1, a2⟩ := hx
  dsimp only at a1 a2 hd
  have hdv := r_div none none xn xd (by omega) a2 hd
  have hql := frm_len_mono (Nat.div_le_self xn xd)
  obtain ⟨q, hq⟩ : ∃ q, xn / xd = q := ⟨_, rfl⟩
  obtain ⟨r, hr⟩ : ∃ r, xn % xd = r := ⟨_, rfl⟩
  have hF : floorE ⟨xg, xn, xd⟩ = ⟨xg && decide (q + (if xg = true ∧ r ≠ 0 then 1 else 0) ≠ 0), q + (if xg = true ∧ r ≠ 0 then 1 else 0), 1⟩ := by
    unfold floorE
    rw [← hq, ← hr]
  rw [hF]
  rw [hq, hr] at hdv
  rw [hq] at hql
  have hpl := r_plus none none q 1 (by omega) (by rw [frm_one]; decide)
  refine callS_body (n := 33) rfl rfl fun w ρ X => ?_
  refine runS_x (I := inf) (J := jnf) ⟨false, false, [], 0, 0⟩ 9999 rfl (by repeat (first | exact obs_nil | refine obs_draw (by kernel_rfl) ?_ | refine obs_same ?_ | refine obs_and ?_ | refine obs_by (by (simp [inB] <;> omega)) ?_)) ?_
  refine runS_call rfl rfl rfl rfl rfl rfl rfl hdv ?_
  refine runS_x (I := inf) (J := jnf) ⟨false, false, [], 0, 0⟩ 9999 rfl (by repeat (first | exact obs_nil | refine obs_draw (by kernel_rfl) ?_ | refine obs_same ?_ | refine obs_and ?_ | refine obs_by (by (simp [inB] <;> omega)) ?_)) ?_
  obtain ⟨q1, hq1⟩ : ∃ q1, q + (if xg = true ∧ r ≠ 0 then 1 else 0) = q1 := ⟨_, rfl⟩
  rw [hq1]
  have hc0 : (if xg = true then decide (((frm r).length : Int) > 0) else false) = decide (xg = true ∧ r ≠ 0) := by
    rw [len_pos]
    cases xg <;> simp
  refine runS_cut (fun τ ar => (τ 1 = .ptr 0 0 0 ∧ τ 2 = .ptr 1 0 0 ∧ τ 3 = natS none (frm q1)) ∧ ar = [.box 35 [bv xg, natS none (frm xn), natS none (frm xd)], .box 35 [bv false, .val (.slice none 0 0), .val (.slice none 0 0)]]) (fun rest => ?_) ?_
  · refine runS_cond rfl (fun h => ?_) (fun h => ?_)
    · have hc : xg = true ∧ r ≠ 0 := of_decide_eq_true (hc0.symm.trans h)
      rw [if_pos hc] at hq1
      rw [hq1] at hpl
      refine runS_x (I := inf) (J := jnf) ⟨false, false, [], 2, 0⟩ 9999 rfl (by repeat (first | exact obs_nil | refine obs_draw (by kernel_rfl) ?_ | refine obs_same ?_ | refine obs_and ?_ | refine obs_by (by (simp [inB] <;> omega)) ?_)) ?_
      refine runS_tell 2 (natR (frm 1)) rfl (m' := (frm 1).length) (by rw [frm_one]; rfl) (fun i hi => ?_) rfl ?_
      · have : i = 0 := by omega
        subst this
        rw [frm_one]
        rfl
      refine runS_freeze 21 rfl rfl rfl (fun j hj => rfl) ?_
      refine runS_call rfl rfl rfl rfl rfl rfl rfl hpl ?_
      refine runS_x (I := inf) (J := jnf) ⟨false, false, [], 2, 0⟩ 9999 rfl (by repeat (first | exact obs_nil | refine obs_draw (by kernel_rfl) ?_ | refine obs_same ?_ | refine obs_and ?_ | refine obs_by (by (simp [inB] <;> omega)) ?_)) ?_
      refine runS_drop 2 (Nat.zero_le _) rfl (by repeat (first | exact .nil | refine .row (fun j hj => rfl) ?_ | refine .box rfl ?_ | refine .fam (fun k j hk hj => rfl) ?_ | refine .loop (scrub_under _ _) ?_ | refine .dfr ?_ | refine .gone ?_ | refine .map (fun p hp => by (obtain ⟨k, _, rfl⟩ := List.mem_map.1 hp; rfl)) ?_)) rfl rfl rfl (by repeat (first | exact .nil | refine .cons rfl rfl rfl (scrub_under _ _) ?_)) ?_
      exact rest _ _ ⟨⟨rfl, rfl, rfl⟩, rfl⟩
    · have hc : ¬ (xg = true ∧ r ≠ 0) := of_decide_eq_false (hc0.symm.trans h)
      rw [if_neg hc, Nat.add_zero] at hq1
      rw [hq1]
      refine runS_x (I := inf) (J := jnf) ⟨false, false, [], 2, 0⟩ 9999 rfl (by repeat (first | exact obs_nil | refine obs_draw (by kernel_rfl) ?_ | refine obs_same ?_ | refine obs_and ?_ | refine obs_by (by (simp [inB] <;> omega)) ?_)) ?_
      exact rest _ _ ⟨⟨rfl, rfl, rfl⟩, rfl⟩
  clear hpl hdv hc0 hql hq1
  rintro τ2 ar2 ⟨⟨g1, g2, g3⟩, rfl⟩
  refine runS_says 1 (by exact g1) (Says.refl _) ?_; refine runS_says 2 (by exact g2) (Says.refl _) ?_; refine runS_says 3 (by exact g3) (Says.refl _) ?_
  refine runS_x (I := inf) (J := jnf) ⟨false, false, [], 0, 0⟩ 11 rfl (by repeat (first | exact obs_nil | refine obs_draw (by kernel_rfl) ?_ | refine obs_same ?_ | refine obs_and ?_ | refine obs_by (by (simp [inB] <;> omega)) ?_)) ?_
  refine runS_tell 2 (natR (frm 1)) rfl (m' := (frm 1).length) (by rw [frm_one]; rfl) (fun i hi => ?_) rfl ?_
  · have : i = 0 := by omega
    subst this
    rw [frm_one]
    rfl
  refine runS_freeze 31 rfl rfl rfl (fun j hj => rfl) ?_
  refine runS_x (I := inf) (J := jnf) ⟨false, false, [], 0, 0⟩ 9999 rfl (by repeat (first | exact obs_nil | refine obs_draw (by kernel_rfl) ?_ | refine obs_same ?_ | refine obs_and ?_ | refine obs_by (by (simp [inB] <;> omega)) ?_)) ?_
  refine runS_ret (I := inf) 0 rfl (Nat.le_refl _) rfl .nil rfl ⟨?_, rfl⟩
  show Out.ret (.agg [bv (if xg = true then decide (((frm q1).length : Int) > 0) else false), natS none (frm q1), natS none (frm 1)]) = _
  rw [len_pos]
  cases xg <;> rfl
theorem fitS_fix {kd : Int} (h : kd ≠ 3) (P Q : Nat) (neg : Bool) (num den : Nat) (k big : Int) : fitS kd P Q neg num den k big = (sgn neg (num * bsN kd ^ Q / den % bsN kd ^ P), (Q : Int), if num * bsN kd ^ Q / den ≥ bsN kd ^ P then big else 0) := by
  unfold fitS
  rw [if_neg h]
theorem r_powB (kd : Int) (n : Nat) (hn : n ≤ 31) : CallT Tryz.prog 61 [iv (if kd = 1 then 2 else 10), iv n] [] (fun o A => o = .ret (natS none (frm (bsN kd ^ n))) ∧ A = []) := by
  unfold bsN
  by_cases h : kd = 1
  · rw [if_pos h, if_pos h]; exact r_pow2 n (by omega)
  · rw [if_neg h, if_neg h]; exact r_pow10 n (by omega)
theorem bsN_len (kd : Int) (n : Nat) : (frm (bsN kd ^ n)).length ≤ n + 1 := by
  have h : bsN kd ^ n ≤ 10 ^ n := Nat.pow_le_pow_left (by unfold bsN; split <;> decide) n
  have := frm_len_mono h
  rw [frm_pow] at this
  simp at this
  exact this
theorem r_fitTo (x : Ex) (t : Typ) (big : Int) (hv : validT t = true) (hk : numK t.kind = true) (hx : ExFit x 980) (hd : x.den ≠ 0) :
    CallT Tryz.prog 110 [exA x, .agg (typE t), iv big] [] (fun o A => o = .ret (numA t.kind (fitS t.kind t.p.toNat t.q.toNat x.neg x.num x.den (kF x.num x.den t.p.toNat) big)) ∧ A = []) := by
  obtain ⟨P, Q, hP, hQ, hP1, hP2, hQ2, hkd⟩ := valid_num hv hk
  clear hv hk
  obtain ⟨kd, p, q, n, vy, pc⟩ := t
  obtain ⟨xg, xn, xd⟩ := x
  have a1 := hx.1
  have a2 := hx.2
  dsimp only at hP hQ hkd a1 a2 hd ⊢
  subst hP; subst hQ
  rw [Int.toNat_natCast, Int.toNat_natCast]
  by_cases h3 : kd = 3
  · subst h3
    have hP15 : P ≤ 15 := by omega
    have hfl : CallT Tryz.prog 177 [exA ⟨xg, xn, xd⟩, .agg (typE ⟨3, P, Q, n, vy, pc⟩)] [] (fun o A => o = .ret (numA 3 (fitS 3 P Q xg xn xd (kF xn xd P) big)) ∧ A = []) := by
      unfold fitS
      rw [if_pos rfl]
      by_cases h0 : xn = 0
      · rw [if_pos h0, h0]
        exact r_float0 xg xd _
      · rw [if_neg h0]
        exact r_float xg xn xd _ P h0 hd rfl hP1 hP15 hx
    refine callS_body (n := 65) rfl rfl fun w ρ X => ?_
    refine runS_x (I := inf) (J := jnf) ⟨false, false, [], 0, 0⟩ 9999 rfl (by repeat (first | exact obs_nil | refine obs_draw (by kernel_rfl) ?_ | refine obs_same ?_ | refine obs_and ?_ | refine obs_by (by (simp [inB] <;> omega)) ?_)) ?_
    refine runS_cond rfl (fun h => ?_) (fun h => by cases h)
    refine runS_x (I := inf) (J := jnf) ⟨false, false, [], 0, 0⟩ 9999 rfl (by repeat (first | exact obs_nil | refine obs_draw (by kernel_rfl) ?_ | refine obs_same ?_ | refine obs_and ?_ | refine obs_by (by (simp [inB] <;> omega)) ?_)) ?_
    refine runS_call rfl rfl rfl rfl rfl rfl rfl hfl ?_
    refine runS_x (I := inf) (J := jnf) ⟨false, false, [], 0, 0⟩ 9999 rfl (by repeat (first | exact obs_nil | refine obs_draw (by kernel_rfl) ?_ | refine obs_same ?_ | refine obs_and ?_ | refine obs_by (by (simp [inB] <;> omega)) ?_)) ?_
    refine runS_ret (I := inf) 0 rfl (Nat.le_refl _) rfl .nil rfl ⟨?_, rfl⟩
    rfl
  · rw [fitS_fix h3]
    have hb := r_base kd P Q n vy pc
    have hpQ := r_powB kd Q (by omega)
    have hpP := r_powB kd P hP2
    have hlQ := bsN_len kd Q
    have hlP := bsN_len kd P
    have hB0 := bsN_pos kd P
    have hm := r_mul none none xn (bsN kd ^ Q) (by omega) (by omega)
    have hml := frm_len_mul xn (bsN kd ^ Q)
    have hd1 := r_div none none (xn * bsN kd ^ Q) xd (by omega) (by omega) (Nat.pos_of_ne_zero hd)
    have hql := frm_len_mono (Nat.div_le_self (xn * bsN kd ^ Q) xd)
    have hd2 := r_div none none (xn * bsN kd ^ Q / xd) (bsN kd ^ P) (by omega) (by omega) hB0
    have hc := r_cmp none none (frm (xn * bsN kd ^ Q / xd)) (frm (bsN kd ^ P)) (by omega) (by omega)
    have hcl := cmpT_lt (xn * bsN kd ^ Q / xd) (bsN kd ^ P)
    have hlo : xn * bsN kd ^ Q / xd % bsN kd ^ P < 1000000000000000000 := by
      have h1 := Nat.mod_lt (xn * bsN kd ^ Q / xd) hB0
      have h2 : bsN kd ^ P ≤ 1000000000000000 := by
        rcases hkd with h | h | h
        · subst h
          have : 2 ^ P ≤ 2 ^ 31 := Nat.pow_le_pow_right (by decide) hP2
          show 2 ^ P ≤ _
          omega
        · obtain ⟨h, h5⟩ := h
          subst h
          have : 10 ^ P ≤ 10 ^ 15 := Nat.pow_le_pow_right (by decide) h5
          show 10 ^ P ≤ _
          omega
        · exact absurd h.1 h3
      omega
    have hs := r_signed none (xn * bsN kd ^ Q / xd % bsN kd ^ P) xg hlo
    generalize xn * bsN kd ^ Q = M1 at *
    generalize M1 / xd = q at *
    generalize M1 % xd = rr at *
    generalize q % bsN kd ^ P = lo at *
    generalize q / bsN kd ^ P = hi at *
    generalize bsN kd ^ P = BP at *
    generalize bsN kd ^ Q = BQ at *
    refine callS_body (n := 65) rfl rfl fun w ρ X => ?_
    refine runS_x (I := inf) (J := jnf) ⟨false, false, [], 0, 0⟩ 9999 rfl (by repeat (first | exact obs_nil | refine obs_draw (by kernel_rfl) ?_ | refine obs_same ?_ | refine obs_and ?_ | refine obs_by (by (simp [inB] <;> omega)) ?_)) ?_
    refine runS_cond rfl (fun h => absurd (show kd = 3 by simpa using (show (kd == 3) = true from h)) h3) (fun h => ?_)
    refine runS_x (I := inf) (J := jnf) ⟨false, false, [], 0, 0⟩ 9999 rfl (by repeat (first | exact obs_nil | refine obs_draw (by kernel_rfl) ?_ | refine obs_same ?_ | refine obs_and ?_ | refine obs_by (by (simp [inB] <;> omega)) ?_)) ?_
    refine runS_draw 15 (by kernel_rfl) (lexj_x (I := inf) (J := jnf) 99 rfl rfl (by repeat (first | exact obs_nil | refine obs_same ?_ | refine obs_and ?_ | refine obs_by (by (simp [inB] <;> omega)) ?_)) (lexj_call rfl rfl rfl rfl rfl rfl rfl rfl hb (lexj_x (I := inf) (J := jnf) 99 rfl rfl (by repeat (first | exact obs_nil | refine obs_same ?_ | refine obs_and ?_ | refine obs_by (by (simp [inB] <;> omega)) ?_)) (lexj_call rfl rfl rfl rfl rfl rfl rfl rfl hpQ (lexj_x (I := inf) (J := jnf) 99 rfl rfl (by repeat (first | exact obs_nil | refine obs_same ?_ | refine obs_and ?_ | refine obs_by (by (simp [inB] <;> omega)) ?_)) (lexj_call rfl rfl rfl rfl rfl rfl rfl rfl hm (lexj_x (I := inf) (J := jnf) 99 rfl rfl (by repeat (first | exact obs_nil | refine obs_same ?_ | refine obs_and ?_ | refine obs_by (by (simp [inB] <;> omega)) ?_)) (lexj_call rfl rfl rfl rfl rfl rfl rfl rfl hd1 (lexj_x (I := inf) (J := jnf) 99 rfl rfl (by repeat (first | exact obs_nil | refine obs_same ?_ | refine obs_and ?_ | refine obs_by (by (simp [inB] <;> omega)) ?_)) lexj_nil))))))))) ?_
    refine runS_x (I := inf) (J := jnf) ⟨false, false, [], 0, 0⟩ 9999 rfl (by repeat (first | exact obs_nil | refine obs_draw (by kernel_rfl) ?_ | refine obs_same ?_ | refine obs_and ?_ | refine obs_by (by (simp [inB] <;> omega)) ?_)) ?_
    refine runS_draw 11 (by kernel_rfl) (lexj_x (I := inf) (J := jnf) 99 rfl rfl (by repeat (first | exact obs_nil | refine obs_same ?_ | refine obs_and ?_ | refine obs_by (by (simp [inB] <;> omega)) ?_)) (lexj_call rfl rfl rfl rfl rfl rfl rfl rfl hb (lexj_x (I := inf) (J := jnf) 99 rfl rfl (by repeat (first | exact obs_nil | refine obs_same ?_ | refine obs_and ?_ | refine obs_by (by (simp [inB] <;> omega)) ?_)) (lexj_call rfl rfl rfl rfl rfl rfl rfl rfl hpP (lexj_x (I := inf) (J := jnf) 99 rfl rfl (by repeat (first | exact obs_nil | refine obs_same ?_ | refine obs_and ?_ | refine obs_by (by (simp [inB] <;> omega)) ?_)) (lexj_call rfl rfl rfl rfl rfl rfl rfl rfl hd2 (lexj_x (I := inf) (J := jnf) 99 rfl rfl (by repeat (first | exact obs_nil | refine obs_same ?_ | refine obs_and ?_ | refine obs_by (by (simp [inB] <;> omega)) ?_)) lexj_nil))))))) ?_
    refine runS_x (I := inf) (J := jnf) ⟨false, false, [], 0, 0⟩ 9999 rfl (by repeat (first | exact obs_nil | refine obs_draw (by kernel_rfl) ?_ | refine obs_same ?_ | refine obs_and ?_ | refine obs_by (by (simp [inB] <;> omega)) ?_)) ?_
    refine runS_x (I := inf) (J := jnf) ⟨false, false, [], 0, 0⟩ 9999 rfl (by repeat (first | exact obs_nil | refine obs_draw (by kernel_rfl) ?_ | refine obs_same ?_ | refine obs_and ?_ | refine obs_by (by (simp [inB] <;> omega)) ?_)) ?_
    refine runS_drawG (ch := []) (A2 := fun _ => []) 10 [9] (fun b => [.box 35 [bv xg, natS none (frm xn), natS none (frm xd)], .box 25 [iv kd, iv P, iv Q, iv n, bv vy, sv pc], .box 23 [iv 0, iv 0, iv 0, sv []]] ++ cond (b.getD 0 false) [.box 23 [iv 0, iv 0, iv 0, sv []]] []) none (c := 9) jnfI.draw (by kernel_rfl) rfl (lexg_g (I := inf) (J := jnf) none ⟨⟨_, rfl, (by repeat (first | exact obs_nil | refine obs_same ?_ | refine obs_and ?_ | refine obs_by (by (simp [inB] <;> omega)) ?_))⟩, (by first | exact .inl (by decide +kernel) | exact .inr ⟨_, rfl, (by repeat (first | exact obs_nil | refine obs_same ?_ | refine obs_and ?_ | refine obs_by (by (simp [inB] <;> omega)) ?_))⟩)⟩ rfl rfl rfl rfl (lexg_g (I := inf) (J := jnf) none ⟨⟨_, rfl, (by repeat (first | exact obs_nil | refine obs_same ?_ | refine obs_and ?_ | refine obs_by (by (simp [inB] <;> omega)) ?_))⟩, (by first | exact .inl (by decide +kernel) | exact .inr ⟨_, rfl, (by repeat (first | exact obs_nil | refine obs_same ?_ | refine obs_and ?_ | refine obs_by (by (simp [inB] <;> omega)) ?_))⟩)⟩ rfl rfl rfl rfl (lexg_g (I := inf) (J := jnf) none ⟨⟨_, rfl, (by repeat (first | exact obs_nil | refine obs_same ?_ | refine obs_and ?_ | refine obs_by (by (simp [inB] <;> omega)) ?_))⟩, (by first | exact .inl (by decide +kernel) | exact .inr ⟨_, rfl, (by repeat (first | exact obs_nil | refine obs_same ?_ | refine obs_and ?_ | refine obs_by (by (simp [inB] <;> omega)) ?_))⟩)⟩ rfl rfl rfl rfl (lexg_g (I := inf) (J := jnf) none ⟨⟨_, rfl, (by repeat (first | exact obs_nil | refine obs_same ?_ | refine obs_and ?_ | refine obs_by (by (simp [inB] <;> omega)) ?_))⟩, (by first | exact .inl (by decide +kernel) | exact .inr ⟨_, rfl, (by repeat (first | exact obs_nil | refine obs_same ?_ | refine obs_and ?_ | refine obs_by (by (simp [inB] <;> omega)) ?_))⟩)⟩ rfl rfl rfl rfl (lexg_g (I := inf) (J := jnf) none ⟨⟨_, rfl, (by repeat (first | exact obs_nil | refine obs_same ?_ | refine obs_and ?_ | refine obs_by (by (simp [inB] <;> omega)) ?_))⟩, (by first | exact .inl (by decide +kernel) | exact .inr ⟨_, rfl, (by repeat (first | exact obs_nil | refine obs_same ?_ | refine obs_and ?_ | refine obs_by (by (simp [inB] <;> omega)) ?_))⟩)⟩ rfl rfl rfl rfl (lexg_call rfl rfl rfl rfl rfl rfl rfl rfl rfl hs (lexg_g (I := inf) (J := jnf) none ⟨⟨_, rfl, (by repeat (first | exact obs_nil | refine obs_same ?_ | refine obs_and ?_ | refine obs_by (by (simp [inB] <;> omega)) ?_))⟩, (by first | exact .inl (by decide +kernel) | exact .inr ⟨_, rfl, (by repeat (first | exact obs_nil | refine obs_same ?_ | refine obs_and ?_ | refine obs_by (by (simp [inB] <;> omega)) ?_))⟩)⟩ rfl rfl rfl rfl (lexg_g (I := inf) (J := jnf) none ⟨⟨_, rfl, (by repeat (first | exact obs_nil | refine obs_same ?_ | refine obs_and ?_ | refine obs_by (by (simp [inB] <;> omega)) ?_))⟩, (by first | exact .inl (by decide +kernel) | exact .inr ⟨_, rfl, (by repeat (first | exact obs_nil | refine obs_same ?_ | refine obs_and ?_ | refine obs_by (by (simp [inB] <;> omega)) ?_))⟩)⟩ rfl rfl rfl rfl (lexg_g (I := inf) (J := jnf) none ⟨⟨_, rfl, (by repeat (first | exact obs_nil | refine obs_same ?_ | refine obs_and ?_ | refine obs_by (by (simp [inB] <;> omega)) ?_))⟩, (by first | exact .inl (by decide +kernel) | exact .inr ⟨_, rfl, (by repeat (first | exact obs_nil | refine obs_same ?_ | refine obs_and ?_ | refine obs_by (by (simp [inB] <;> omega)) ?_))⟩)⟩ rfl rfl rfl rfl (lexg_a rfl rfl ⟨(show _ = _ from rfl), .inl rfl⟩ rfl rfl rfl rfl lexg_nil)))))))))) rfl (fun _ => ?_) (fun h => by cases h)
    refine runS_x (I := inf) (J := jnf) ⟨false, false, [], 0, 0⟩ 9999 rfl (by repeat (first | exact obs_nil | refine obs_draw (by kernel_rfl) ?_ | refine obs_same ?_ | refine obs_and ?_ | refine obs_by (by (simp [inB] <;> omega)) ?_)) ?_
    refine runS_draw 8 (by kernel_rfl) (lexj_x (I := inf) (J := jnf) 99 rfl rfl (by repeat (first | exact obs_nil | refine obs_same ?_ | refine obs_and ?_ | refine obs_by (by (simp [inB] <;> omega)) ?_)) (lexj_call rfl rfl rfl rfl rfl rfl rfl rfl hb (lexj_x (I := inf) (J := jnf) 99 rfl rfl (by repeat (first | exact obs_nil | refine obs_same ?_ | refine obs_and ?_ | refine obs_by (by (simp [inB] <;> omega)) ?_)) (lexj_call rfl rfl rfl rfl rfl rfl rfl rfl hpP (lexj_x (I := inf) (J := jnf) 99 rfl rfl (by repeat (first | exact obs_nil | refine obs_same ?_ | refine obs_and ?_ | refine obs_by (by (simp [inB] <;> omega)) ?_)) (lexj_call rfl rfl rfl rfl rfl rfl rfl rfl hc (lexj_x (I := inf) (J := jnf) 99 rfl rfl (by repeat (first | exact obs_nil | refine obs_same ?_ | refine obs_and ?_ | refine obs_by (by (simp [inB] <;> omega)) ?_)) lexj_nil))))))) ?_
    refine runS_x (I := inf) (J := jnf) ⟨false, false, [], 0, 0⟩ 9999 rfl (by repeat (first | exact obs_nil | refine obs_draw (by kernel_rfl) ?_ | refine obs_same ?_ | refine obs_and ?_ | refine obs_by (by (simp [inB] <;> omega)) ?_)) ?_
    refine runS_cond rfl (fun h => ?_) (fun h => ?_)
    · have hge : q ≥ BP := by
        have := of_decide_eq_true (show decide (cmpT (frm q) (frm BP) ≥ 0) = true from h)
        omega
      rw [if_pos hge]
      refine runS_x (I := inf) (J := jnf) ⟨false, false, [], 0, 0⟩ 9999 rfl (by repeat (first | exact obs_nil | refine obs_draw (by kernel_rfl) ?_ | refine obs_same ?_ | refine obs_and ?_ | refine obs_by (by (simp [inB] <;> omega)) ?_)) ?_
      refine runS_ret (I := inf) 0 rfl (Nat.le_refl _) rfl .nil rfl ⟨?_, rfl⟩
      rfl
    · have hge : ¬ q ≥ BP := by
        have := of_decide_eq_false (show decide (cmpT (frm q) (frm BP) ≥ 0) = false from h)
        omega
      rw [if_neg hge]
      refine runS_x (I := inf) (J := jnf) ⟨false, false, [], 0, 0⟩ 9999 rfl (by repeat (first | exact obs_nil | refine obs_draw (by kernel_rfl) ?_ | refine obs_same ?_ | refine obs_and ?_ | refine obs_by (by (simp [inB] <;> omega)) ?_)) ?_
      refine runS_ret (I := inf) 0 rfl (Nat.le_refl _) rfl .nil rfl ⟨?_, rfl⟩
      rfl
end Go.Iron.Tryz

/- The digits' seat: the law of quotients. -/
namespace Go.Iron.Tryz
open Go.Proofs Go.RowKit Go.Iron.Tok Go.Iron.Dg

theorem of_fit {v : Vl} (hr : v.right = true) (hk : numK v.kind = true) : ExFit (ofE v.kind v.n v.q) 120 := by
  obtain ⟨h1, h2, h3, h4, h5, h6⟩ := right_num hr hk
  have hl1 : (frm v.n.natAbs).length ≤ 15 := frm_len_lt.2 (by omega)
  constructor
  · show (frm (v.n.natAbs * (if v.kind = 3 then 10 ^ v.q.toNat else 1))).length ≤ 120
    have hm := frm_len_mul v.n.natAbs (if v.kind = 3 then 10 ^ v.q.toNat else 1)
    have : (frm (if v.kind = 3 then 10 ^ v.q.toNat else 1)).length ≤ 100 := by
      split
      · rename_i hk3
        have := h4 hk3
        rw [frm_pow]; simp; omega
      · rw [frm_one]; decide
    omega
  · show (frm (if v.kind = 1 then 2 ^ v.q.toNat else if v.kind = 2 then 10 ^ v.q.toNat else 10 ^ (-v.q).toNat)).length ≤ 120
    split
    · rename_i hk1
      have := h3 (by omega)
      exact Nat.le_trans (frm_len_lt.2 (Nat.lt_of_le_of_lt (Nat.pow_le_pow_left (by decide : 2 ≤ 10) v.q.toNat) (Nat.pow_lt_pow_right (by decide) (show v.q.toNat < 32 by omega)))) (by decide)
    · split
      · rename_i hk2
        have := h3 (by omega)
        rw [frm_pow]; simp; omega
      · have := h4 (by omega)
        rw [frm_pow]; simp; omega
abbrev exZ : List AV := [bv false, .val (.slice none 0 0), .val (.slice none 0 0)]
end Go.Iron.Tryz

/- The digits' seat: the reference's operations. -/
namespace Go.Iron.Tryz
open Go.Proofs Go.RowKit Go.Iron.Tok Go.Iron.Dg

theorem ask_none {a b : Vl} (h : askL none [a, b] = 0) : (a.right = true ∧ numK a.kind = true) ∧ b.right = true ∧ numK b.kind = true := by
  obtain ⟨h1, _⟩ := ask_num h
  exact ⟨h1 a (by simp), h1 b (by simp)⟩
theorem r_Compare (a b : Vl) : CallT Tryz.prog 43 [.agg (vlE a), .agg (vlE b)] [] (fun o A => o = .ret (if askL none [a, b] = 0 then .tup [iv (ordE (ofE a.kind a.n a.q) (ofE b.kind b.n b.q)), iv 0] else .tup [iv 0, iv (askL none [a, b])]) ∧ A = []) := by
  refine callS_body (n := 19) rfl rfl fun w ρ X => ?_
  refine runS_x (I := inf) (J := jnf) ⟨false, false, [], 0, 0⟩ 9999 rfl (by repeat (first | exact obs_nil | refine obs_draw (by kernel_rfl) ?_ | refine obs_same ?_ | refine obs_and ?_ | refine obs_by (by (simp [inB] <;> omega)) ?_)) ?_
  refine runS_tell 2 (vlR [a, b]) rfl (m' := 2) rfl (fun j hj => ?_) rfl ?_
  · rcases j with _ | _ | j <;> first | rfl | omega
  refine runS_freeze 9 rfl rfl rfl (fun j hj => ?_) ?_
  · rcases j with _ | _ | j <;> first | rfl | omega
  refine runS_call rfl rfl rfl rfl rfl rfl rfl (r_numbers none [a, b] (by simp)) ?_
  refine runS_x (I := inf) (J := jnf) ⟨false, false, [], 0, 0⟩ 9999 rfl (by repeat (first | exact obs_nil | refine obs_draw (by kernel_rfl) ?_ | refine obs_same ?_ | refine obs_and ?_ | refine obs_by (by (simp [inB] <;> omega)) ?_)) ?_
  refine runS_cond rfl (fun h => ?_) (fun h => ?_)
  · have h0 : ¬ askL none [a, b] = 0 := by
      have h3 : (!(askL none [a, b] == 0)) = true := h
      rw [Bool.not_eq_true', beq_eq_false_iff_ne] at h3
      exact h3
    rw [if_neg h0]
    refine runS_x (I := inf) (J := jnf) ⟨false, false, [], 0, 0⟩ 9999 rfl (by repeat (first | exact obs_nil | refine obs_draw (by kernel_rfl) ?_ | refine obs_same ?_ | refine obs_and ?_ | refine obs_by (by (simp [inB] <;> omega)) ?_)) ?_
    refine runS_ret (I := inf) 0 rfl (Nat.le_refl _) rfl .nil rfl ⟨?_, rfl⟩
    rfl
  · have h0 : askL none [a, b] = 0 := by
      have h3 : (!(askL none [a, b] == 0)) = false := h
      rw [Bool.not_eq_false', beq_iff_eq] at h3
      exact h3
    rw [if_pos h0]
    obtain ⟨⟨hra, hka⟩, hrb, hkb⟩ := ask_none h0
    have c1 := r_order (ofE a.kind a.n a.q) (ofE b.kind b.n b.q) ((of_fit hra hka).mono (by decide)) ((of_fit hrb hkb).mono (by decide))
    refine runS_x (I := inf) (J := jnf) ⟨false, false, [], 0, 0⟩ 9999 rfl (by repeat (first | exact obs_nil | refine obs_draw (by kernel_rfl) ?_ | refine obs_same ?_ | refine obs_and ?_ | refine obs_by (by (simp [inB] <;> omega)) ?_)) ?_
    refine runS_draw 7 (by kernel_rfl) (lexj_x (I := inf) (J := jnf) 99 rfl rfl (by repeat (first | exact obs_nil | refine obs_same ?_ | refine obs_and ?_ | refine obs_by (by (simp [inB] <;> omega)) ?_)) (lexj_call rfl rfl rfl rfl rfl rfl rfl rfl (r_of a hra hka) (lexj_x (I := inf) (J := jnf) 99 rfl rfl (by repeat (first | exact obs_nil | refine obs_same ?_ | refine obs_and ?_ | refine obs_by (by (simp [inB] <;> omega)) ?_)) (lexj_call rfl rfl rfl rfl rfl rfl rfl rfl (r_of b hrb hkb) (lexj_x (I := inf) (J := jnf) 99 rfl rfl (by repeat (first | exact obs_nil | refine obs_same ?_ | refine obs_and ?_ | refine obs_by (by (simp [inB] <;> omega)) ?_)) (lexj_call rfl rfl rfl rfl rfl rfl rfl rfl c1 (lexj_x (I := inf) (J := jnf) 99 rfl rfl (by repeat (first | exact obs_nil | refine obs_same ?_ | refine obs_and ?_ | refine obs_by (by (simp [inB] <;> omega)) ?_)) lexj_nil))))))) ?_
    refine runS_x (I := inf) (J := jnf) ⟨false, false, [], 0, 0⟩ 9999 rfl (by repeat (first | exact obs_nil | refine obs_draw (by kernel_rfl) ?_ | refine obs_same ?_ | refine obs_and ?_ | refine obs_by (by (simp [inB] <;> omega)) ?_)) ?_
    refine runS_ret (I := inf) 0 rfl (Nat.le_refl _) rfl .nil rfl ⟨?_, rfl⟩
    rfl
theorem ofE_num0 (kd n q : Int) : (ofE kd n q).num = 0 ↔ n = 0 := by
  show n.natAbs * (if kd = 3 then 10 ^ q.toNat else 1) = 0 ↔ n = 0
  have : (if kd = 3 then 10 ^ q.toNat else 1) ≠ 0 := by
    split
    · exact Nat.pos_iff_ne_zero.1 (Nat.pow_pos (by decide))
    · decide
  rw [Nat.mul_eq_zero, or_iff_left this]
  omega
theorem ofE_den0 (kd n q : Int) : (ofE kd n q).den ≠ 0 := Nat.pos_iff_ne_zero.1 (ofE_den kd n q)
theorem over_fit {x y : Ex} {l m : Nat} (hx : ExFit x l) (hy : ExFit y m) : ExFit (overE x y) (l + m) := by
  have h1 := frm_len_mul x.num y.den
  have h3 := frm_len_mul x.den y.num
  have a1 := hx.1; have a2 := hx.2; have b1 := hy.1; have b2 := hy.2
  exact ⟨by show (frm (x.num * y.den)).length ≤ _; omega, by show (frm (x.den * y.num)).length ≤ _; omega⟩
theorem floor_fit {x : Ex} {l : Nat} (hx : ExFit x l) : ExFit (floorE x) (l + 2) := by
  have a1 := hx.1
  have hq := frm_len_mono (Nat.div_le_self x.num x.den)
  refine ⟨?_, by show (frm 1).length ≤ _; rw [frm_one]; show 1 ≤ l + 2; omega⟩
  show (frm (x.num / x.den + (if x.neg = true ∧ x.num % x.den ≠ 0 then 1 else 0))).length ≤ _
  split
  · have := frm_len_add (x.num / x.den) 1
    rw [frm_one] at this
    simp at this
    omega
  · rw [Nat.add_zero]; omega
def opX (op : UInt8) (x y : Ex) : Ex := if op = 43 then bothE x y else if op = 45 then bothE x (turnE y) else if op = 42 then timesE x y else overE x y
abbrev fitX (t : Typ) (x : Ex) (big : Int) : Int × Int × Int := fitS t.kind t.p.toNat t.q.toNat x.neg x.num x.den (kF x.num x.den t.p.toNat) big
abbrev vceA (r : Vl × Int × Int) : AV := .tup [.agg (vlE r.1), iv r.2.1, iv r.2.2]
def doV (op : UInt8) (a b : Vl) (t : Typ) : Vl × Int × Int :=
  if askL (some t) [a, b] ≠ 0 then (⟨0, 0, 0, []⟩, 0, askL (some t) [a, b])
  else if op = 47 ∧ b.n = 0 then ((zeroV t).1, 9, 0)
  else (⟨t.kind, (fitX t (opX op (ofE a.kind a.n a.q) (ofE b.kind b.n b.q)) 2).1, (fitX t (opX op (ofE a.kind a.n a.q) (ofE b.kind b.n b.q)) 2).2.1, []⟩, (fitX t (opX op (ofE a.kind a.n a.q) (ofE b.kind b.n b.q)) 2).2.2, 0)
theorem r_do (op : UInt8) (hop : op = 43 ∨ op = 45 ∨ op = 42 ∨ op = 47) (a b : Vl) (t : Typ) : CallT Tryz.prog 82 [sv [op], .agg (vlE a), .agg (vlE b), .agg (typE t)] [] (fun o A => o = .ret (vceA (doV op a b t)) ∧ A = []) := by
  unfold doV
  refine callS_body (n := 69) rfl rfl fun w ρ X => ?_
  refine runS_x (I := inf) (J := jnf) ⟨false, false, [], 0, 0⟩ 9999 rfl (by repeat (first | exact obs_nil | refine obs_draw (by kernel_rfl) ?_ | refine obs_same ?_ | refine obs_and ?_ | refine obs_by (by (simp [inB] <;> omega)) ?_)) ?_
  refine runS_tell 4 (vlR [a, b]) rfl (m' := 2) rfl (fun j hj => ?_) rfl ?_
  · rcases j with _ | _ | j <;> first | rfl | omega
  refine runS_freeze 20 rfl rfl rfl (fun j hj => ?_) ?_
  · rcases j with _ | _ | j <;> first | rfl | omega
  refine runS_call rfl rfl rfl rfl rfl rfl rfl (r_asked t none [a, b] (by simp)) ?_
  refine runS_x (I := inf) (J := jnf) ⟨false, false, [], 0, 0⟩ 9999 rfl (by repeat (first | exact obs_nil | refine obs_draw (by kernel_rfl) ?_ | refine obs_same ?_ | refine obs_and ?_ | refine obs_by (by (simp [inB] <;> omega)) ?_)) ?_
  refine runS_cond rfl (fun h => ?_) (fun h => ?_)
  · have h0 : askL (some t) [a, b] ≠ 0 := by
      have h3 : (!(askL (some t) [a, b] == 0)) = true := h
      rw [Bool.not_eq_true', beq_eq_false_iff_ne] at h3
      exact h3
    rw [if_pos h0]
    refine runS_x (I := inf) (J := jnf) ⟨false, false, [], 0, 0⟩ 9999 rfl (by repeat (first | exact obs_nil | refine obs_draw (by kernel_rfl) ?_ | refine obs_same ?_ | refine obs_and ?_ | refine obs_by (by (simp [inB] <;> omega)) ?_)) ?_
    refine runS_ret (I := inf) 0 rfl (Nat.le_refl _) rfl .nil rfl ⟨?_, rfl⟩
    rfl
  · have h0 : askL (some t) [a, b] = 0 := by
      have h3 : (!(askL (some t) [a, b] == 0)) = false := h
      rw [Bool.not_eq_false', beq_iff_eq] at h3
      exact h3
    rw [if_neg (show ¬ askL (some t) [a, b] ≠ 0 from fun e => e h0)]
    obtain ⟨hnum, htn⟩ := ask_num h0
    obtain ⟨hv, hkt⟩ := htn t rfl
    obtain ⟨hra, hka⟩ := hnum a (by simp)
    obtain ⟨hrb, hkb⟩ := hnum b (by simp)
    have hfa := of_fit hra hka
    have hfb := of_fit hrb hkb
    have hofa := r_of a hra hka
    have hofb := r_of b hrb hkb
    have hbn := ofE_num0 b.kind b.n b.q
    have hda := ofE_den0 a.kind a.n a.q
    have hdb := ofE_den0 b.kind b.n b.q
    generalize ofE a.kind a.n a.q = x at *
    generalize ofE b.kind b.n b.q = y at *
    refine runS_x (I := inf) (J := jnf) ⟨false, false, [], 0, 0⟩ 9999 rfl (by repeat (first | exact obs_nil | refine obs_draw (by kernel_rfl) ?_ | refine obs_same ?_ | refine obs_and ?_ | refine obs_by (by (simp [inB] <;> omega)) ?_)) ?_
    refine runS_hole ?_
    refine runS_hole ?_
    refine runS_drawG (ch := []) (A2 := fun _ => []) 6 [4, 5] (fun z => [.box 23 (vlE a), .box 23 (vlE b), .box 25 (typE t), .box 23 [iv 0, iv 0, iv 0, sv []], .gone, cond (z.getD 0 false) (.row 35 3 1 1 (fun _ => exZ)) .hole, cond (z.getD 1 false) (.row 35 3 1 1 (fun _ => exZ)) .hole]) none (c := 9) jnfI.draw (by kernel_rfl) rfl (lexg_g (I := inf) (J := jnf) none ⟨⟨⟨_, rfl, (by repeat (first | exact obs_nil | refine obs_same ?_ | refine obs_and ?_ | refine obs_by (by (simp [inB] <;> omega)) ?_))⟩, (by first | exact .inl (by decide +kernel) | exact .inr ⟨_, rfl, (by repeat (first | exact obs_nil | refine obs_same ?_ | refine obs_and ?_ | refine obs_by (by (simp [inB] <;> omega)) ?_))⟩)⟩, (by first | exact .inl (by decide +kernel) | exact .inr ⟨⟨_, rfl, (by repeat (first | exact obs_nil | refine obs_same ?_ | refine obs_and ?_ | refine obs_by (by (simp [inB] <;> omega)) ?_))⟩, (by first | exact .inl (by decide +kernel) | exact .inr ⟨_, rfl, (by repeat (first | exact obs_nil | refine obs_same ?_ | refine obs_and ?_ | refine obs_by (by (simp [inB] <;> omega)) ?_))⟩)⟩)⟩ rfl rfl rfl rfl (lexg_call rfl rfl rfl rfl rfl rfl rfl rfl rfl hofa (lexg_g (I := inf) (J := jnf) none ⟨⟨⟨_, rfl, (by repeat (first | exact obs_nil | refine obs_same ?_ | refine obs_and ?_ | refine obs_by (by (simp [inB] <;> omega)) ?_))⟩, (by first | exact .inl (by decide +kernel) | exact .inr ⟨_, rfl, (by repeat (first | exact obs_nil | refine obs_same ?_ | refine obs_and ?_ | refine obs_by (by (simp [inB] <;> omega)) ?_))⟩)⟩, (by first | exact .inl (by decide +kernel) | exact .inr ⟨⟨_, rfl, (by repeat (first | exact obs_nil | refine obs_same ?_ | refine obs_and ?_ | refine obs_by (by (simp [inB] <;> omega)) ?_))⟩, (by first | exact .inl (by decide +kernel) | exact .inr ⟨_, rfl, (by repeat (first | exact obs_nil | refine obs_same ?_ | refine obs_and ?_ | refine obs_by (by (simp [inB] <;> omega)) ?_))⟩)⟩)⟩ rfl rfl rfl rfl (lexg_call rfl rfl rfl rfl rfl rfl rfl rfl rfl hofb (lexg_b 5 rfl rfl ⟨⟨⟨rfl, rfl⟩, (by first | exact .inl (by decide +kernel) | exact .inr ⟨rfl, rfl⟩)⟩, .inl rfl⟩ rfl rfl rfl rfl (lexg_b 6 rfl rfl ⟨⟨⟨rfl, rfl⟩, .inl rfl⟩, (by first | exact .inl (by decide +kernel) | exact .inr ⟨⟨rfl, rfl⟩, .inl rfl⟩)⟩ rfl rfl rfl rfl lexg_nil)))))) rfl (fun _ => ?_) (fun h => by cases h)
    refine runS_x (I := inf) (J := jnf) ⟨false, false, [], 0, 0⟩ 9999 rfl (by repeat (first | exact obs_nil | refine obs_draw (by kernel_rfl) ?_ | refine obs_same ?_ | refine obs_and ?_ | refine obs_by (by (simp [inB] <;> omega)) ?_)) ?_
    refine runS_tell 5 (fun _ => [bv x.neg, natS none (frm x.num), natS none (frm x.den)]) rfl (m' := 1) rfl (fun j hj => by (obtain rfl : j = 0 := by omega); rfl) rfl ?_
    refine runS_tell 6 (fun _ => [bv y.neg, natS none (frm y.num), natS none (frm y.den)]) rfl (m' := 1) rfl (fun j hj => by (obtain rfl : j = 0 := by omega); rfl) rfl ?_
    have hsum : ∀ z, ExFit z 120 → ExFit (bothE x z) 980 := fun z hz => (both_fit hfa hz).mono (by decide)
    have hfX : ExFit (opX op x y) 980 := by
      unfold opX
      split
      · exact hsum _ hfb
      · split
        · exact hsum _ (turn_fit hfb)
        · split
          · exact (times_fit hfa hfb).mono (by decide)
          · exact (over_fit hfa hfb).mono (by decide)
    have hdX : ¬ (op = 47 ∧ b.n = 0) → (opX op x y).den ≠ 0 := by
      intro hno
      unfold opX
      split
      · rw [both_den]; exact Nat.mul_ne_zero hda hdb
      · split
        · rw [both_den]; exact Nat.mul_ne_zero hda hdb
        · split
          · exact Nat.mul_ne_zero hda hdb
          · refine Nat.mul_ne_zero hda fun e => hno ⟨?_, hbn.1 e⟩
            rcases hop with h | h | h | h <;> first | exact h | contradiction
    refine runS_cut (fun τ ar => (τ 7 = .ptr 2 0 0 ∧ τ 8 = .ptr 3 0 0 ∧ τ 12 = .elt 5 1 3 0 0) ∧ ar = [.box 23 (vlE a), .box 23 (vlE b), .box 25 (typE t), .box 23 [iv 0, iv 0, iv 0, sv []], .gone, .row 35 3 1 1 (fun _ => [bv (opX op x y).neg, natS none (frm (opX op x y).num), natS none (frm (opX op x y).den)]), .row 35 3 1 1 (fun _ => [bv y.neg, natS none (frm y.num), natS none (frm y.den)])] ∧ ¬ (op = 47 ∧ b.n = 0)) (fun rest => ?_) ?_
    · rcases hop with rfl | rfl | rfl | rfl
      · refine runS_cond rfl (fun h => ?_) (fun h => absurd h (by decide +kernel))
        refine runS_x (I := inf) (J := jnf) ⟨false, false, [], 3, 0⟩ 9999 rfl (by repeat (first | exact obs_nil | refine obs_draw (by kernel_rfl) ?_ | refine obs_same ?_ | refine obs_and ?_ | refine obs_by (by (simp [inB] <;> omega)) ?_)) ?_
        refine runS_call rfl rfl rfl rfl rfl rfl rfl (r_both x y (hfa.mono (by decide)) (hfb.mono (by decide))) ?_
        refine runS_x (I := inf) (J := jnf) ⟨false, false, [], 3, 0⟩ 9999 rfl (by repeat (first | exact obs_nil | refine obs_draw (by kernel_rfl) ?_ | refine obs_same ?_ | refine obs_and ?_ | refine obs_by (by (simp [inB] <;> omega)) ?_)) ?_
        refine runS_tell 5 (fun _ => [bv (bothE x y).neg, natS none (frm (bothE x y).num), natS none (frm (bothE x y).den)]) rfl (m' := 1) rfl (fun j hj => by (obtain rfl : j = 0 := by omega); rfl) rfl ?_
        exact rest _ _ ⟨⟨rfl, rfl, rfl⟩, rfl, fun h => by (cases h.1)⟩
      · refine runS_cond rfl (fun h => absurd h (by decide +kernel)) (fun h => ?_)
        refine runS_x (I := inf) (J := jnf) ⟨false, false, [], 3, 0⟩ 9999 rfl (by repeat (first | exact obs_nil | refine obs_draw (by kernel_rfl) ?_ | refine obs_same ?_ | refine obs_and ?_ | refine obs_by (by (simp [inB] <;> omega)) ?_)) ?_
        refine runS_cond rfl (fun h => ?_) (fun h => absurd h (by decide +kernel))
        refine runS_x (I := inf) (J := jnf) ⟨false, false, [], 3, 0⟩ 9999 rfl (by repeat (first | exact obs_nil | refine obs_draw (by kernel_rfl) ?_ | refine obs_same ?_ | refine obs_and ?_ | refine obs_by (by (simp [inB] <;> omega)) ?_)) ?_
        refine runS_draw 4 (by kernel_rfl) (lexj_x (I := inf) (J := jnf) 99 rfl rfl (by repeat (first | exact obs_nil | refine obs_same ?_ | refine obs_and ?_ | refine obs_by (by (simp [inB] <;> omega)) ?_)) (lexj_call rfl rfl rfl rfl rfl rfl rfl rfl (r_turn y (hfb.mono (by decide))) (lexj_x (I := inf) (J := jnf) 99 rfl rfl (by repeat (first | exact obs_nil | refine obs_same ?_ | refine obs_and ?_ | refine obs_by (by (simp [inB] <;> omega)) ?_)) (lexj_call rfl rfl rfl rfl rfl rfl rfl rfl (r_both x (turnE y) (hfa.mono (by decide)) ((turn_fit hfb).mono (by decide))) (lexj_x (I := inf) (J := jnf) 99 rfl rfl (by repeat (first | exact obs_nil | refine obs_same ?_ | refine obs_and ?_ | refine obs_by (by (simp [inB] <;> omega)) ?_)) lexj_nil))))) ?_
        refine runS_x (I := inf) (J := jnf) ⟨false, false, [], 3, 0⟩ 9999 rfl (by repeat (first | exact obs_nil | refine obs_draw (by kernel_rfl) ?_ | refine obs_same ?_ | refine obs_and ?_ | refine obs_by (by (simp [inB] <;> omega)) ?_)) ?_
        refine runS_tell 5 (fun _ => [bv (bothE x (turnE y)).neg, natS none (frm (bothE x (turnE y)).num), natS none (frm (bothE x (turnE y)).den)]) rfl (m' := 1) rfl (fun j hj => by (obtain rfl : j = 0 := by omega); rfl) rfl ?_
        exact rest _ _ ⟨⟨rfl, rfl, rfl⟩, rfl, fun h => by (cases h.1)⟩
      · refine runS_cond rfl (fun h => absurd h (by decide +kernel)) (fun h => ?_)
        refine runS_x (I := inf) (J := jnf) ⟨false, false, [], 3, 0⟩ 9999 rfl (by repeat (first | exact obs_nil | refine obs_draw (by kernel_rfl) ?_ | refine obs_same ?_ | refine obs_and ?_ | refine obs_by (by (simp [inB] <;> omega)) ?_)) ?_
        refine runS_cond rfl (fun h => absurd h (by decide +kernel)) (fun h => ?_)
        refine runS_x (I := inf) (J := jnf) ⟨false, false, [], 3, 0⟩ 9999 rfl (by repeat (first | exact obs_nil | refine obs_draw (by kernel_rfl) ?_ | refine obs_same ?_ | refine obs_and ?_ | refine obs_by (by (simp [inB] <;> omega)) ?_)) ?_
        refine runS_cond rfl (fun h => ?_) (fun h => absurd h (by decide +kernel))
        refine runS_x (I := inf) (J := jnf) ⟨false, false, [], 3, 0⟩ 9999 rfl (by repeat (first | exact obs_nil | refine obs_draw (by kernel_rfl) ?_ | refine obs_same ?_ | refine obs_and ?_ | refine obs_by (by (simp [inB] <;> omega)) ?_)) ?_
        refine runS_call rfl rfl rfl rfl rfl rfl rfl (r_times x y (hfa.mono (by decide)) (hfb.mono (by decide))) ?_
        refine runS_x (I := inf) (J := jnf) ⟨false, false, [], 3, 0⟩ 9999 rfl (by repeat (first | exact obs_nil | refine obs_draw (by kernel_rfl) ?_ | refine obs_same ?_ | refine obs_and ?_ | refine obs_by (by (simp [inB] <;> omega)) ?_)) ?_
        refine runS_tell 5 (fun _ => [bv (timesE x y).neg, natS none (frm (timesE x y).num), natS none (frm (timesE x y).den)]) rfl (m' := 1) rfl (fun j hj => by (obtain rfl : j = 0 := by omega); rfl) rfl ?_
        exact rest _ _ ⟨⟨rfl, rfl, rfl⟩, rfl, fun h => by (cases h.1)⟩
      · refine runS_cond rfl (fun h => absurd h (by decide +kernel)) (fun h => ?_)
        refine runS_x (I := inf) (J := jnf) ⟨false, false, [], 3, 0⟩ 9999 rfl (by repeat (first | exact obs_nil | refine obs_draw (by kernel_rfl) ?_ | refine obs_same ?_ | refine obs_and ?_ | refine obs_by (by (simp [inB] <;> omega)) ?_)) ?_
        refine runS_cond rfl (fun h => absurd h (by decide +kernel)) (fun h => ?_)
        refine runS_x (I := inf) (J := jnf) ⟨false, false, [], 3, 0⟩ 9999 rfl (by repeat (first | exact obs_nil | refine obs_draw (by kernel_rfl) ?_ | refine obs_same ?_ | refine obs_and ?_ | refine obs_by (by (simp [inB] <;> omega)) ?_)) ?_
        refine runS_cond rfl (fun h => absurd h (by decide +kernel)) (fun h => ?_)
        refine runS_x (I := inf) (J := jnf) ⟨false, false, [], 3, 0⟩ 9999 rfl (by repeat (first | exact obs_nil | refine obs_draw (by kernel_rfl) ?_ | refine obs_same ?_ | refine obs_and ?_ | refine obs_by (by (simp [inB] <;> omega)) ?_)) ?_
        refine runS_cond rfl (fun h => ?_) (fun h => ?_)
        · have hb0 : b.n = 0 := by
            have : (((frm y.num).length : Int) == 0) = true := h
            simp only [beq_iff_eq] at this
            exact hbn.1 (frm_len0.1 (by omega))
          rw [if_pos ⟨rfl, hb0⟩]
          refine runS_x (I := inf) (J := jnf) ⟨false, false, [], 3, 0⟩ 9999 rfl (by repeat (first | exact obs_nil | refine obs_draw (by kernel_rfl) ?_ | refine obs_same ?_ | refine obs_and ?_ | refine obs_by (by (simp [inB] <;> omega)) ?_)) ?_
          refine runS_call rfl rfl rfl rfl rfl rfl rfl (r_Zero t) ?_
          refine runS_x (I := inf) (J := jnf) ⟨false, false, [], 3, 0⟩ 9999 rfl (by repeat (first | exact obs_nil | refine obs_draw (by kernel_rfl) ?_ | refine obs_same ?_ | refine obs_and ?_ | refine obs_by (by (simp [inB] <;> omega)) ?_)) ?_
          refine runS_ret (I := inf) 0 rfl (Nat.le_refl _) rfl .nil rfl ⟨?_, rfl⟩
          rfl
        · have hb0 : ¬ b.n = 0 := by
            have : (((frm y.num).length : Int) == 0) = false := h
            simp only [beq_eq_false_iff_ne] at this
            exact fun e => this (by rw [hbn.2 e, frm_zero]; rfl)
          refine runS_x (I := inf) (J := jnf) ⟨false, false, [], 3, 0⟩ 9999 rfl (by repeat (first | exact obs_nil | refine obs_draw (by kernel_rfl) ?_ | refine obs_same ?_ | refine obs_and ?_ | refine obs_by (by (simp [inB] <;> omega)) ?_)) ?_
          refine runS_call rfl rfl rfl rfl rfl rfl rfl (r_over x y (hfa.mono (by decide)) (hfb.mono (by decide))) ?_
          refine runS_x (I := inf) (J := jnf) ⟨false, false, [], 3, 0⟩ 9999 rfl (by repeat (first | exact obs_nil | refine obs_draw (by kernel_rfl) ?_ | refine obs_same ?_ | refine obs_and ?_ | refine obs_by (by (simp [inB] <;> omega)) ?_)) ?_
          refine runS_tell 5 (fun _ => [bv (overE x y).neg, natS none (frm (overE x y).num), natS none (frm (overE x y).den)]) rfl (m' := 1) rfl (fun j hj => by (obtain rfl : j = 0 := by omega); rfl) rfl ?_
          exact rest _ _ ⟨⟨rfl, rfl, rfl⟩, rfl, fun h => hb0 h.2⟩
    rintro τ2 ar2 ⟨⟨g7, g8, g12⟩, rfl, hno⟩
    rw [if_neg hno]
    generalize opX op x y = z at *
    have hft := r_fitTo z t 2 hv hkt hfX (hdX hno)
    refine runS_says 7 (by exact g7) (Says.refl _) ?_; refine runS_says 8 (by exact g8) (Says.refl _) ?_; refine runS_says 12 (by exact g12) (Says.refl _) ?_
    refine runS_x (I := inf) (J := jnf) ⟨false, false, [], 0, 0⟩ 9999 rfl (by repeat (first | exact obs_nil | refine obs_draw (by kernel_rfl) ?_ | refine obs_same ?_ | refine obs_and ?_ | refine obs_by (by (simp [inB] <;> omega)) ?_)) ?_
    refine runS_call rfl rfl rfl rfl rfl rfl rfl hft ?_
    refine runS_x (I := inf) (J := jnf) ⟨false, false, [], 0, 0⟩ 9999 rfl (by repeat (first | exact obs_nil | refine obs_draw (by kernel_rfl) ?_ | refine obs_same ?_ | refine obs_and ?_ | refine obs_by (by (simp [inB] <;> omega)) ?_)) ?_
    refine runS_ret (I := inf) 0 rfl (Nat.le_refl _) rfl .nil rfl ⟨?_, rfl⟩
    rfl
theorem r_Add (a b : Vl) (t : Typ) : CallT Tryz.prog 44 [.agg (vlE a), .agg (vlE b), .agg (typE t)] [] (fun o A => o = .ret (vceA (doV 43 a b t)) ∧ A = []) := by
  refine callS_body (n := 16) rfl rfl fun w ρ X => ?_
  refine runS_x (I := inf) (J := jnf) ⟨false, false, [], 0, 0⟩ 9999 rfl (by repeat (first | exact obs_nil | refine obs_draw (by kernel_rfl) ?_ | refine obs_same ?_ | refine obs_and ?_ | refine obs_by (by (simp [inB] <;> omega)) ?_)) ?_
  refine runS_call rfl rfl rfl rfl rfl rfl rfl (r_do 43 (by decide) a b t) ?_
  refine runS_x (I := inf) (J := jnf) ⟨false, false, [], 0, 0⟩ 9999 rfl (by repeat (first | exact obs_nil | refine obs_draw (by kernel_rfl) ?_ | refine obs_same ?_ | refine obs_and ?_ | refine obs_by (by (simp [inB] <;> omega)) ?_)) ?_
  refine runS_ret (I := inf) 0 rfl (Nat.le_refl _) rfl .nil rfl ⟨?_, rfl⟩
  rfl
theorem r_Subtract (a b : Vl) (t : Typ) : CallT Tryz.prog 45 [.agg (vlE a), .agg (vlE b), .agg (typE t)] [] (fun o A => o = .ret (vceA (doV 45 a b t)) ∧ A = []) := by
  refine callS_body (n := 16) rfl rfl fun w ρ X => ?_
  refine runS_x (I := inf) (J := jnf) ⟨false, false, [], 0, 0⟩ 9999 rfl (by repeat (first | exact obs_nil | refine obs_draw (by kernel_rfl) ?_ | refine obs_same ?_ | refine obs_and ?_ | refine obs_by (by (simp [inB] <;> omega)) ?_)) ?_
  refine runS_call rfl rfl rfl rfl rfl rfl rfl (r_do 45 (by decide) a b t) ?_
  refine runS_x (I := inf) (J := jnf) ⟨false, false, [], 0, 0⟩ 9999 rfl (by repeat (first | exact obs_nil | refine obs_draw (by kernel_rfl) ?_ | refine obs_same ?_ | refine obs_and ?_ | refine obs_by (by (simp [inB] <;> omega)) ?_)) ?_
  refine runS_ret (I := inf) 0 rfl (Nat.le_refl _) rfl .nil rfl ⟨?_, rfl⟩
  rfl
theorem r_Multiply (a b : Vl) (t : Typ) : CallT Tryz.prog 47 [.agg (vlE a), .agg (vlE b), .agg (typE t)] [] (fun o A => o = .ret (vceA (doV 42 a b t)) ∧ A = []) := by
  refine callS_body (n := 16) rfl rfl fun w ρ X => ?_
  refine runS_x (I := inf) (J := jnf) ⟨false, false, [], 0, 0⟩ 9999 rfl (by repeat (first | exact obs_nil | refine obs_draw (by kernel_rfl) ?_ | refine obs_same ?_ | refine obs_and ?_ | refine obs_by (by (simp [inB] <;> omega)) ?_)) ?_
  refine runS_call rfl rfl rfl rfl rfl rfl rfl (r_do 42 (by decide) a b t) ?_
  refine runS_x (I := inf) (J := jnf) ⟨false, false, [], 0, 0⟩ 9999 rfl (by repeat (first | exact obs_nil | refine obs_draw (by kernel_rfl) ?_ | refine obs_same ?_ | refine obs_and ?_ | refine obs_by (by (simp [inB] <;> omega)) ?_)) ?_
  refine runS_ret (I := inf) 0 rfl (Nat.le_refl _) rfl .nil rfl ⟨?_, rfl⟩
  rfl
theorem r_Divide (a b : Vl) (t : Typ) : CallT Tryz.prog 48 [.agg (vlE a), .agg (vlE b), .agg (typE t)] [] (fun o A => o = .ret (vceA (doV 47 a b t)) ∧ A = []) := by
  refine callS_body (n := 16) rfl rfl fun w ρ X => ?_
  refine runS_x (I := inf) (J := jnf) ⟨false, false, [], 0, 0⟩ 9999 rfl (by repeat (first | exact obs_nil | refine obs_draw (by kernel_rfl) ?_ | refine obs_same ?_ | refine obs_and ?_ | refine obs_by (by (simp [inB] <;> omega)) ?_)) ?_
  refine runS_call rfl rfl rfl rfl rfl rfl rfl (r_do 47 (by decide) a b t) ?_
  refine runS_x (I := inf) (J := jnf) ⟨false, false, [], 0, 0⟩ 9999 rfl (by repeat (first | exact obs_nil | refine obs_draw (by kernel_rfl) ?_ | refine obs_same ?_ | refine obs_and ?_ | refine obs_by (by (simp [inB] <;> omega)) ?_)) ?_
  refine runS_ret (I := inf) 0 rfl (Nat.le_refl _) rfl .nil rfl ⟨?_, rfl⟩
  rfl
def modV (a b : Vl) (t : Typ) : Vl × Int × Int :=
  if askL (some t) [a, b] ≠ 0 then (⟨0, 0, 0, []⟩, 0, askL (some t) [a, b])
  else if b.n = 0 then ((zeroV t).1, 9, 0)
  else (⟨t.kind, (fitX t (modE (ofE a.kind a.n a.q) (ofE b.kind b.n b.q)) 4).1, (fitX t (modE (ofE a.kind a.n a.q) (ofE b.kind b.n b.q)) 4).2.1, []⟩, (fitX t (modE (ofE a.kind a.n a.q) (ofE b.kind b.n b.q)) 4).2.2, 0)
theorem r_Modulo (a b : Vl) (t : Typ) : CallT Tryz.prog 50 [.agg (vlE a), .agg (vlE b), .agg (typE t)] [] (fun o A => o = .ret (vceA (modV a b t)) ∧ A = []) := by
  unfold modV
  refine callS_body (n := 55) rfl rfl fun w ρ X => ?_
  refine runS_x (I := inf) (J := jnf) ⟨false, false, [], 0, 0⟩ 9999 rfl (by repeat (first | exact obs_nil | refine obs_draw (by kernel_rfl) ?_ | refine obs_same ?_ | refine obs_and ?_ | refine obs_by (by (simp [inB] <;> omega)) ?_)) ?_
  refine runS_tell 4 (vlR [a, b]) rfl (m' := 2) rfl (fun j hj => ?_) rfl ?_
  · rcases j with _ | _ | j <;> first | rfl | omega
  refine runS_freeze 18 rfl rfl rfl (fun j hj => ?_) ?_
  · rcases j with _ | _ | j <;> first | rfl | omega
  refine runS_call rfl rfl rfl rfl rfl rfl rfl (r_asked t none [a, b] (by simp)) ?_
  refine runS_x (I := inf) (J := jnf) ⟨false, false, [], 0, 0⟩ 9999 rfl (by repeat (first | exact obs_nil | refine obs_draw (by kernel_rfl) ?_ | refine obs_same ?_ | refine obs_and ?_ | refine obs_by (by (simp [inB] <;> omega)) ?_)) ?_
  refine runS_cond rfl (fun h => ?_) (fun h => ?_)
  · have h0 : askL (some t) [a, b] ≠ 0 := by
      have h3 : (!(askL (some t) [a, b] == 0)) = true := h
      rw [Bool.not_eq_true', beq_eq_false_iff_ne] at h3
      exact h3
    rw [if_pos h0]
    refine runS_x (I := inf) (J := jnf) ⟨false, false, [], 0, 0⟩ 9999 rfl (by repeat (first | exact obs_nil | refine obs_draw (by kernel_rfl) ?_ | refine obs_same ?_ | refine obs_and ?_ | refine obs_by (by (simp [inB] <;> omega)) ?_)) ?_
    refine runS_ret (I := inf) 0 rfl (Nat.le_refl _) rfl .nil rfl ⟨?_, rfl⟩
    rfl
  · have h0 : askL (some t) [a, b] = 0 := by
      have h3 : (!(askL (some t) [a, b] == 0)) = false := h
      rw [Bool.not_eq_false', beq_iff_eq] at h3
      exact h3
    rw [if_neg (show ¬ askL (some t) [a, b] ≠ 0 from fun e => e h0)]
    obtain ⟨hnum, htn⟩ := ask_num h0
    obtain ⟨hv, hkt⟩ := htn t rfl
    obtain ⟨hra, hka⟩ := hnum a (by simp)
    obtain ⟨hrb, hkb⟩ := hnum b (by simp)
    have hfa := of_fit hra hka
    have hfb := of_fit hrb hkb
    have hofa := r_of a hra hka
    have hofb := r_of b hrb hkb
    have hbn := ofE_num0 b.kind b.n b.q
    have hda := ofE_den0 a.kind a.n a.q
    have hdb := ofE_den0 b.kind b.n b.q
    generalize ofE a.kind a.n a.q = x at *
    generalize ofE b.kind b.n b.q = y at *
    refine runS_x (I := inf) (J := jnf) ⟨false, false, [], 0, 0⟩ 9999 rfl (by repeat (first | exact obs_nil | refine obs_draw (by kernel_rfl) ?_ | refine obs_same ?_ | refine obs_and ?_ | refine obs_by (by (simp [inB] <;> omega)) ?_)) ?_
    refine runS_hole ?_
    refine runS_hole ?_
    refine runS_drawG (ch := []) (A2 := fun _ => []) 6 [4, 5] (fun z => [.box 23 (vlE a), .box 23 (vlE b), .box 25 (typE t), .box 23 [iv 0, iv 0, iv 0, sv []], .gone, cond (z.getD 0 false) (.row 35 3 1 1 (fun _ => exZ)) .hole, cond (z.getD 1 false) (.row 35 3 1 1 (fun _ => exZ)) .hole]) none (c := 9) jnfI.draw (by kernel_rfl) rfl (lexg_g (I := inf) (J := jnf) none ⟨⟨⟨_, rfl, (by repeat (first | exact obs_nil | refine obs_same ?_ | refine obs_and ?_ | refine obs_by (by (simp [inB] <;> omega)) ?_))⟩, (by first | exact .inl (by decide +kernel) | exact .inr ⟨_, rfl, (by repeat (first | exact obs_nil | refine obs_same ?_ | refine obs_and ?_ | refine obs_by (by (simp [inB] <;> omega)) ?_))⟩)⟩, (by first | exact .inl (by decide +kernel) | exact .inr ⟨⟨_, rfl, (by repeat (first | exact obs_nil | refine obs_same ?_ | refine obs_and ?_ | refine obs_by (by (simp [inB] <;> omega)) ?_))⟩, (by first | exact .inl (by decide +kernel) | exact .inr ⟨_, rfl, (by repeat (first | exact obs_nil | refine obs_same ?_ | refine obs_and ?_ | refine obs_by (by (simp [inB] <;> omega)) ?_))⟩)⟩)⟩ rfl rfl rfl rfl (lexg_call rfl rfl rfl rfl rfl rfl rfl rfl rfl hofa (lexg_g (I := inf) (J := jnf) none ⟨⟨⟨_, rfl, (by repeat (first | exact obs_nil | refine obs_same ?_ | refine obs_and ?_ | refine obs_by (by (simp [inB] <;> omega)) ?_))⟩, (by first | exact .inl (by decide +kernel) | exact .inr ⟨_, rfl, (by repeat (first | exact obs_nil | refine obs_same ?_ | refine obs_and ?_ | refine obs_by (by (simp [inB] <;> omega)) ?_))⟩)⟩, (by first | exact .inl (by decide +kernel) | exact .inr ⟨⟨_, rfl, (by repeat (first | exact obs_nil | refine obs_same ?_ | refine obs_and ?_ | refine obs_by (by (simp [inB] <;> omega)) ?_))⟩, (by first | exact .inl (by decide +kernel) | exact .inr ⟨_, rfl, (by repeat (first | exact obs_nil | refine obs_same ?_ | refine obs_and ?_ | refine obs_by (by (simp [inB] <;> omega)) ?_))⟩)⟩)⟩ rfl rfl rfl rfl (lexg_call rfl rfl rfl rfl rfl rfl rfl rfl rfl hofb (lexg_b 5 rfl rfl ⟨⟨⟨rfl, rfl⟩, (by first | exact .inl (by decide +kernel) | exact .inr ⟨rfl, rfl⟩)⟩, .inl rfl⟩ rfl rfl rfl rfl (lexg_b 6 rfl rfl ⟨⟨⟨rfl, rfl⟩, .inl rfl⟩, (by first | exact .inl (by decide +kernel) | exact .inr ⟨⟨rfl, rfl⟩, .inl rfl⟩)⟩ rfl rfl rfl rfl lexg_nil)))))) rfl (fun _ => ?_) (fun h => by cases h)
    refine runS_x (I := inf) (J := jnf) ⟨false, false, [], 0, 0⟩ 9999 rfl (by repeat (first | exact obs_nil | refine obs_draw (by kernel_rfl) ?_ | refine obs_same ?_ | refine obs_and ?_ | refine obs_by (by (simp [inB] <;> omega)) ?_)) ?_
    refine runS_tell 5 (fun _ => [bv x.neg, natS none (frm x.num), natS none (frm x.den)]) rfl (m' := 1) rfl (fun j hj => by (obtain rfl : j = 0 := by omega); rfl) rfl ?_
    refine runS_tell 6 (fun _ => [bv y.neg, natS none (frm y.num), natS none (frm y.den)]) rfl (m' := 1) rfl (fun j hj => by (obtain rfl : j = 0 := by omega); rfl) rfl ?_
    refine runS_cond rfl (fun h => ?_) (fun h => ?_)
    · have hb0 : b.n = 0 := by
        have : (((frm y.num).length : Int) == 0) = true := h
        simp only [beq_iff_eq] at this
        exact hbn.1 (frm_len0.1 (by omega))
      rw [if_pos hb0]
      refine runS_x (I := inf) (J := jnf) ⟨false, false, [], 0, 0⟩ 9999 rfl (by repeat (first | exact obs_nil | refine obs_draw (by kernel_rfl) ?_ | refine obs_same ?_ | refine obs_and ?_ | refine obs_by (by (simp [inB] <;> omega)) ?_)) ?_
      refine runS_call rfl rfl rfl rfl rfl rfl rfl (r_Zero t) ?_
      refine runS_x (I := inf) (J := jnf) ⟨false, false, [], 0, 0⟩ 9999 rfl (by repeat (first | exact obs_nil | refine obs_draw (by kernel_rfl) ?_ | refine obs_same ?_ | refine obs_and ?_ | refine obs_by (by (simp [inB] <;> omega)) ?_)) ?_
      refine runS_ret (I := inf) 0 rfl (Nat.le_refl _) rfl .nil rfl ⟨?_, rfl⟩
      rfl
    · have hb0 : ¬ b.n = 0 := by
        have : (((frm y.num).length : Int) == 0) = false := h
        simp only [beq_eq_false_iff_ne] at this
        exact fun e => this (by rw [hbn.2 e, frm_zero]; rfl)
      rw [if_neg hb0]
      have hy0 : y.num ≠ 0 := fun e => hb0 (hbn.1 e)
      have f1 := over_fit hfa hfb
      have f2 := floor_fit f1
      have f3 := times_fit hfb f2
      have f4 := both_fit hfa (turn_fit f3)
      have hdo : (overE x y).den ≠ 0 := Nat.mul_ne_zero hda hy0
      have c1 := r_over x y (hfa.mono (by decide)) (hfb.mono (by decide))
      have c2 := r_floor (overE x y) (f1.mono (by decide)) (Nat.pos_of_ne_zero hdo)
      have c3 := r_times y (floorE (overE x y)) (hfb.mono (by decide)) (f2.mono (by decide))
      have c4 := r_turn (timesE y (floorE (overE x y))) (f3.mono (by decide))
      have c5 := r_both x (turnE (timesE y (floorE (overE x y)))) (hfa.mono (by decide)) ((turn_fit f3).mono (by decide))
      have hdm : (modE x y).den ≠ 0 := by
        unfold modE
        rw [both_den]
        refine Nat.mul_ne_zero hda ?_
        show y.den * 1 ≠ 0
        rw [Nat.mul_one]; exact hdb
      have c6 := r_fitTo (modE x y) t 4 hv hkt (f4.mono (by decide)) hdm
      have hmE : bothE x (turnE (timesE y (floorE (overE x y)))) = modE x y := rfl
      rw [hmE] at c5
      generalize modE x y = m at *
      refine runS_x (I := inf) (J := jnf) ⟨false, false, [], 0, 0⟩ 9999 rfl (by repeat (first | exact obs_nil | refine obs_draw (by kernel_rfl) ?_ | refine obs_same ?_ | refine obs_and ?_ | refine obs_by (by (simp [inB] <;> omega)) ?_)) ?_
      refine runS_drawG (ch := []) (A2 := fun _ => []) 16 [14, 15] (fun z => [.box 23 (vlE a), .box 23 (vlE b), .box 25 (typE t), .box 23 [iv 0, iv 0, iv 0, sv []], .gone, .row 35 3 1 1 (fun _ => [bv x.neg, natS none (frm x.num), natS none (frm x.den)]), .row 35 3 1 1 (fun _ => [bv y.neg, natS none (frm y.num), natS none (frm y.den)])] ++ cond (z.getD 0 false) [.box 23 (cond (z.getD 1 false) [iv t.kind, iv (fitX t m 4).1, iv (fitX t m 4).2.1, sv []] [iv 0, iv 0, iv 0, sv []])] []) none (c := 9) jnfI.draw (by kernel_rfl) rfl (lexg_g (I := inf) (J := jnf) none ⟨⟨⟨_, rfl, (by repeat (first | exact obs_nil | refine obs_same ?_ | refine obs_and ?_ | refine obs_by (by (simp [inB] <;> omega)) ?_))⟩, (by first | exact .inl (by decide +kernel) | exact .inr ⟨_, rfl, (by repeat (first | exact obs_nil | refine obs_same ?_ | refine obs_and ?_ | refine obs_by (by (simp [inB] <;> omega)) ?_))⟩)⟩, (by first | exact .inl (by decide +kernel) | exact .inr ⟨⟨_, rfl, (by repeat (first | exact obs_nil | refine obs_same ?_ | refine obs_and ?_ | refine obs_by (by (simp [inB] <;> omega)) ?_))⟩, (by first | exact .inl (by decide +kernel) | exact .inr ⟨_, rfl, (by repeat (first | exact obs_nil | refine obs_same ?_ | refine obs_and ?_ | refine obs_by (by (simp [inB] <;> omega)) ?_))⟩)⟩)⟩ rfl rfl rfl rfl (lexg_g (I := inf) (J := jnf) none ⟨⟨⟨_, rfl, (by repeat (first | exact obs_nil | refine obs_same ?_ | refine obs_and ?_ | refine obs_by (by (simp [inB] <;> omega)) ?_))⟩, (by first | exact .inl (by decide +kernel) | exact .inr ⟨_, rfl, (by repeat (first | exact obs_nil | refine obs_same ?_ | refine obs_and ?_ | refine obs_by (by (simp [inB] <;> omega)) ?_))⟩)⟩, (by first | exact .inl (by decide +kernel) | exact .inr ⟨⟨_, rfl, (by repeat (first | exact obs_nil | refine obs_same ?_ | refine obs_and ?_ | refine obs_by (by (simp [inB] <;> omega)) ?_))⟩, (by first | exact .inl (by decide +kernel) | exact .inr ⟨_, rfl, (by repeat (first | exact obs_nil | refine obs_same ?_ | refine obs_and ?_ | refine obs_by (by (simp [inB] <;> omega)) ?_))⟩)⟩)⟩ rfl rfl rfl rfl (lexg_g (I := inf) (J := jnf) none ⟨⟨⟨_, rfl, (by repeat (first | exact obs_nil | refine obs_same ?_ | refine obs_and ?_ | refine obs_by (by (simp [inB] <;> omega)) ?_))⟩, (by first | exact .inl (by decide +kernel) | exact .inr ⟨_, rfl, (by repeat (first | exact obs_nil | refine obs_same ?_ | refine obs_and ?_ | refine obs_by (by (simp [inB] <;> omega)) ?_))⟩)⟩, (by first | exact .inl (by decide +kernel) | exact .inr ⟨⟨_, rfl, (by repeat (first | exact obs_nil | refine obs_same ?_ | refine obs_and ?_ | refine obs_by (by (simp [inB] <;> omega)) ?_))⟩, (by first | exact .inl (by decide +kernel) | exact .inr ⟨_, rfl, (by repeat (first | exact obs_nil | refine obs_same ?_ | refine obs_and ?_ | refine obs_by (by (simp [inB] <;> omega)) ?_))⟩)⟩)⟩ rfl rfl rfl rfl (lexg_g (I := inf) (J := jnf) none ⟨⟨⟨_, rfl, (by repeat (first | exact obs_nil | refine obs_same ?_ | refine obs_and ?_ | refine obs_by (by (simp [inB] <;> omega)) ?_))⟩, (by first | exact .inl (by decide +kernel) | exact .inr ⟨_, rfl, (by repeat (first | exact obs_nil | refine obs_same ?_ | refine obs_and ?_ | refine obs_by (by (simp [inB] <;> omega)) ?_))⟩)⟩, (by first | exact .inl (by decide +kernel) | exact .inr ⟨⟨_, rfl, (by repeat (first | exact obs_nil | refine obs_same ?_ | refine obs_and ?_ | refine obs_by (by (simp [inB] <;> omega)) ?_))⟩, (by first | exact .inl (by decide +kernel) | exact .inr ⟨_, rfl, (by repeat (first | exact obs_nil | refine obs_same ?_ | refine obs_and ?_ | refine obs_by (by (simp [inB] <;> omega)) ?_))⟩)⟩)⟩ rfl rfl rfl rfl (lexg_call rfl rfl rfl rfl rfl rfl rfl rfl rfl c1 (lexg_call rfl rfl rfl rfl rfl rfl rfl rfl rfl c2 (lexg_call rfl rfl rfl rfl rfl rfl rfl rfl rfl c3 (lexg_call rfl rfl rfl rfl rfl rfl rfl rfl rfl c4 (lexg_call rfl rfl rfl rfl rfl rfl rfl rfl rfl c5 (lexg_g (I := inf) (J := jnf) none ⟨⟨⟨_, rfl, (by repeat (first | exact obs_nil | refine obs_same ?_ | refine obs_and ?_ | refine obs_by (by (simp [inB] <;> omega)) ?_))⟩, (by first | exact .inl (by decide +kernel) | exact .inr ⟨_, rfl, (by repeat (first | exact obs_nil | refine obs_same ?_ | refine obs_and ?_ | refine obs_by (by (simp [inB] <;> omega)) ?_))⟩)⟩, (by first | exact .inl (by decide +kernel) | exact .inr ⟨⟨_, rfl, (by repeat (first | exact obs_nil | refine obs_same ?_ | refine obs_and ?_ | refine obs_by (by (simp [inB] <;> omega)) ?_))⟩, (by first | exact .inl (by decide +kernel) | exact .inr ⟨_, rfl, (by repeat (first | exact obs_nil | refine obs_same ?_ | refine obs_and ?_ | refine obs_by (by (simp [inB] <;> omega)) ?_))⟩)⟩)⟩ rfl rfl rfl rfl (lexg_call rfl rfl rfl rfl rfl rfl rfl rfl rfl c6 (lexg_g (I := inf) (J := jnf) none ⟨⟨⟨_, rfl, (by repeat (first | exact obs_nil | refine obs_same ?_ | refine obs_and ?_ | refine obs_by (by (simp [inB] <;> omega)) ?_))⟩, (by first | exact .inl (by decide +kernel) | exact .inr ⟨_, rfl, (by repeat (first | exact obs_nil | refine obs_same ?_ | refine obs_and ?_ | refine obs_by (by (simp [inB] <;> omega)) ?_))⟩)⟩, (by first | exact .inl (by decide +kernel) | exact .inr ⟨⟨_, rfl, (by repeat (first | exact obs_nil | refine obs_same ?_ | refine obs_and ?_ | refine obs_by (by (simp [inB] <;> omega)) ?_))⟩, (by first | exact .inl (by decide +kernel) | exact .inr ⟨_, rfl, (by repeat (first | exact obs_nil | refine obs_same ?_ | refine obs_and ?_ | refine obs_by (by (simp [inB] <;> omega)) ?_))⟩)⟩)⟩ rfl rfl rfl rfl (lexg_g (I := inf) (J := jnf) none ⟨⟨⟨_, rfl, (by repeat (first | exact obs_nil | refine obs_same ?_ | refine obs_and ?_ | refine obs_by (by (simp [inB] <;> omega)) ?_))⟩, (by first | exact .inl (by decide +kernel) | exact .inr ⟨_, rfl, (by repeat (first | exact obs_nil | refine obs_same ?_ | refine obs_and ?_ | refine obs_by (by (simp [inB] <;> omega)) ?_))⟩)⟩, (by first | exact .inl (by decide +kernel) | exact .inr ⟨⟨_, rfl, (by repeat (first | exact obs_nil | refine obs_same ?_ | refine obs_and ?_ | refine obs_by (by (simp [inB] <;> omega)) ?_))⟩, (by first | exact .inl (by decide +kernel) | exact .inr ⟨_, rfl, (by repeat (first | exact obs_nil | refine obs_same ?_ | refine obs_and ?_ | refine obs_by (by (simp [inB] <;> omega)) ?_))⟩)⟩)⟩ rfl rfl rfl rfl (lexg_g (I := inf) (J := jnf) none ⟨⟨⟨_, rfl, (by repeat (first | exact obs_nil | refine obs_same ?_ | refine obs_and ?_ | refine obs_by (by (simp [inB] <;> omega)) ?_))⟩, (by first | exact .inl (by decide +kernel) | exact .inr ⟨_, rfl, (by repeat (first | exact obs_nil | refine obs_same ?_ | refine obs_and ?_ | refine obs_by (by (simp [inB] <;> omega)) ?_))⟩)⟩, (by first | exact .inl (by decide +kernel) | exact .inr ⟨⟨_, rfl, (by repeat (first | exact obs_nil | refine obs_same ?_ | refine obs_and ?_ | refine obs_by (by (simp [inB] <;> omega)) ?_))⟩, (by first | exact .inl (by decide +kernel) | exact .inr ⟨_, rfl, (by repeat (first | exact obs_nil | refine obs_same ?_ | refine obs_and ?_ | refine obs_by (by (simp [inB] <;> omega)) ?_))⟩)⟩)⟩ rfl rfl rfl rfl (lexg_a rfl rfl ⟨⟨(show _ = _ from rfl), (by first | exact .inl (by decide +kernel) | exact .inr (show _ = _ from rfl))⟩, .inl rfl⟩ rfl rfl rfl rfl (lexg_d (I := inf) (J := jnf) (some .store) ⟨(by first | exact .inl (by decide +kernel) | exact .inr ⟨(by first | exact .inl (by decide +kernel) | exact .inr ⟨_, rfl, (by repeat (first | exact obs_nil | refine obs_same ?_ | refine obs_and ?_ | refine obs_by (by (simp [inB] <;> omega)) ?_))⟩), (by first | exact .inl (by decide +kernel) | exact .inr ⟨_, rfl, (by repeat (first | exact obs_nil | refine obs_same ?_ | refine obs_and ?_ | refine obs_by (by (simp [inB] <;> omega)) ?_))⟩)⟩), (by first | exact .inl (by decide +kernel) | exact .inr ⟨(by first | exact .inl (by decide +kernel) | exact .inr ⟨_, rfl, (by repeat (first | exact obs_nil | refine obs_same ?_ | refine obs_and ?_ | refine obs_by (by (simp [inB] <;> omega)) ?_))⟩), (by first | exact .inl (by decide +kernel) | exact .inr ⟨_, rfl, (by repeat (first | exact obs_nil | refine obs_same ?_ | refine obs_and ?_ | refine obs_by (by (simp [inB] <;> omega)) ?_))⟩)⟩)⟩ rfl rfl rfl rfl lexg_nil)))))))))))))))) rfl (fun _ => ?_) (fun h => by cases h)
      refine runS_x (I := inf) (J := jnf) ⟨false, false, [], 0, 0⟩ 9999 rfl (by repeat (first | exact obs_nil | refine obs_draw (by kernel_rfl) ?_ | refine obs_same ?_ | refine obs_and ?_ | refine obs_by (by (simp [inB] <;> omega)) ?_)) ?_
      refine runS_ret (I := inf) 0 rfl (Nat.le_refl _) rfl .nil rfl ⟨?_, rfl⟩
      rfl
end Go.Iron.Tryz

/- The digits' seat: operations of both are one. -/
namespace Go.Iron.Tryz
open Go.Proofs Go.RowKit Go.Iron.Tok Go.Iron.Dg

theorem fit_eq {L : Lg} {x : Ex} {t : Typ} {big : Int} (hv : validT t = true) (hk : numK t.kind = true) (hr : Rep L x.num x.den) (hd : x.den ≠ 0) (hn : x.num ≠ 0 → L.neg = x.neg) : fitL t.kind t.p.toNat t.q.toNat L big = fitX t x big := by
  obtain ⟨P, Q, hP, hQ, hP1, hP2, hQ2, hkd⟩ := valid_num hv hk
  have hp : t.p.toNat = P := by omega
  rw [hp]
  unfold fitX
  rw [hp]
  exact fit_rep (by omega) hP1 hr (Nat.pos_of_ne_zero hd) hn (fun h0 _ => kF_is h0 hd hP1)
theorem rep_v {v : Vl} (hr : v.right = true) (hk : numK v.kind = true) : Rep (ext v) (ofE v.kind v.n v.q).num (ofE v.kind v.n v.q).den := by
  obtain ⟨h1, h2, h3, h4, h5, h6⟩ := right_num hr hk
  exact exact_rep h2 (fun h => (h3 (by omega)).1)
theorem sum_zero {a b : Lg} (s : Bool) (h : b.m = 0) : sumL a ⟨b.m, s, b.exp⟩ = ⟨upM a (min a.exp b.exp), a.neg, min a.exp b.exp⟩ := by
  have hu : upM ⟨b.m, s, b.exp⟩ (min a.exp b.exp) = 0 := by unfold upM; rw [h, Nat.zero_mul]
  unfold sumL
  dsimp only
  rw [hu]
  split
  · rfl
  · rw [if_neg (Nat.not_lt_zero _)]
    rfl
theorem sub_rep {a b : Lg} {x y : Ex} (ha : Rep a x.num x.den) (hb : Rep b y.num y.den) (hna : a.neg = x.neg) (hnb : b.neg = y.neg) (hyd : y.den ≠ 0) : Rep (sumL a (flipL b)) (bothE x (turnE y)).num (bothE x (turnE y)).den ∧ ((bothE x (turnE y)).num ≠ 0 → (sumL a (flipL b)).neg = (bothE x (turnE y)).neg) := by
  have hs : sumL a (flipL b) = sumL a ⟨b.m, (turnE y).neg, b.exp⟩ := by
    by_cases h0 : y.num = 0
    · have hbm : b.m = 0 := by
        have hb' : b.m * y.den * e10 b.exp = y.num * e10 (-b.exp) := hb
        rw [h0, Nat.zero_mul] at hb'
        have := e10_pos b.exp
        rcases Nat.mul_eq_zero.1 hb' with h | h
        · rcases Nat.mul_eq_zero.1 h with h | h
          · exact h
          · exact absurd h hyd
        · omega
      rw [sum_zero _ hbm]
      exact sum_zero _ hbm
    · have : (turnE y).neg = !b.neg := by
        show (!y.neg && decide (y.num ≠ 0)) = !b.neg
        rw [decide_eq_true h0, Bool.and_true, hnb]
      rw [this]
      rfl
  rw [hs]
  exact sum_rep (b := ⟨b.m, (turnE y).neg, b.exp⟩) (y := turnE y) ha hb hna rfl
theorem d_AddV (a b : Vl) (t : Typ) : CallT Tryz.prog 34 [.agg (vlE a), .agg (vlE b), .agg (typE t)] [] (fun o A => o = .ret (vceA (doV 43 a b t)) ∧ A = []) := by
  unfold doV
  by_cases he : askL (some t) [a, b] = 0
  · obtain ⟨hnum, htn⟩ := ask_num he
    obtain ⟨hv, hkt⟩ := htn t rfl
    obtain ⟨hra, hka⟩ := hnum a (by simp)
    obtain ⟨hrb, hkb⟩ := hnum b (by simp)
    have h := d_Add a b t he
    obtain ⟨r1, r2⟩ := sum_rep (x := ofE a.kind a.n a.q) (y := ofE b.kind b.n b.q) (rep_v hra hka) (rep_v hrb hkb) rfl rfl
    rw [fit_eq hv hkt r1 (by rw [both_den]; exact Nat.mul_ne_zero (ofE_den0 a.kind a.n a.q) (ofE_den0 b.kind b.n b.q)) r2] at h
    rw [if_neg (fun e => e he), if_neg (fun e => absurd e.1 (by decide))]
    exact h
  · rw [if_pos he]
    exact d_AddE a b t he
theorem d_SubtractV (a b : Vl) (t : Typ) : CallT Tryz.prog 35 [.agg (vlE a), .agg (vlE b), .agg (typE t)] [] (fun o A => o = .ret (vceA (doV 45 a b t)) ∧ A = []) := by
  unfold doV
  by_cases he : askL (some t) [a, b] = 0
  · obtain ⟨hnum, htn⟩ := ask_num he
    obtain ⟨hv, hkt⟩ := htn t rfl
    obtain ⟨hra, hka⟩ := hnum a (by simp)
    obtain ⟨hrb, hkb⟩ := hnum b (by simp)
    have h := d_Subtract a b t he
    obtain ⟨r1, r2⟩ := sub_rep (x := ofE a.kind a.n a.q) (y := ofE b.kind b.n b.q) (rep_v hra hka) (rep_v hrb hkb) rfl rfl (ofE_den0 _ _ _)
    rw [fit_eq hv hkt r1 (by rw [both_den]; exact Nat.mul_ne_zero (ofE_den0 a.kind a.n a.q) (ofE_den0 b.kind b.n b.q)) r2] at h
    rw [if_neg (fun e => e he), if_neg (fun e => absurd e.1 (by decide))]
    exact h
  · rw [if_pos he]
    exact d_SubtractE a b t he
theorem d_MultiplyV (a b : Vl) (t : Typ) : CallT Tryz.prog 46 [.agg (vlE a), .agg (vlE b), .agg (typE t)] [] (fun o A => o = .ret (vceA (doV 42 a b t)) ∧ A = []) := by
  unfold doV
  by_cases he : askL (some t) [a, b] = 0
  · obtain ⟨hnum, htn⟩ := ask_num he
    obtain ⟨hv, hkt⟩ := htn t rfl
    obtain ⟨hra, hka⟩ := hnum a (by simp)
    obtain ⟨hrb, hkb⟩ := hnum b (by simp)
    have h := d_Multiply a b t he
    obtain ⟨r1, r2⟩ := prod_rep (x := ofE a.kind a.n a.q) (y := ofE b.kind b.n b.q) (rep_v hra hka) (rep_v hrb hkb) rfl rfl
    rw [fit_eq hv hkt r1 (Nat.mul_ne_zero (ofE_den0 _ _ _) (ofE_den0 _ _ _)) r2] at h
    rw [if_neg (fun e => e he), if_neg (fun e => absurd e.1 (by decide))]
    exact h
  · rw [if_pos he]
    exact d_MultiplyE a b t he
theorem d_DivideV (a b : Vl) (t : Typ) : CallT Tryz.prog 16 [.agg (vlE a), .agg (vlE b), .agg (typE t)] [] (fun o A => o = .ret (vceA (doV 47 a b t)) ∧ A = []) := by
  unfold doV
  by_cases he : askL (some t) [a, b] = 0
  · obtain ⟨hnum, htn⟩ := ask_num he
    obtain ⟨hv, hkt⟩ := htn t rfl
    obtain ⟨hra, hka⟩ := hnum a (by simp)
    obtain ⟨hrb, hkb⟩ := hnum b (by simp)
    rw [if_neg (fun e => e he)]
    by_cases hb0 : b.n = 0
    · rw [if_pos ⟨rfl, hb0⟩]
      exact d_DivideZ a b t he hb0
    · rw [if_neg (fun e => hb0 e.2)]
      have h := d_Divide a b t he hb0
      obtain ⟨P, Q, hP, hQ, hP1, hP2, hQ2, hkd⟩ := valid_num hv hkt
      obtain ⟨_, a2, a3, _, _, _⟩ := right_num hra hka
      obtain ⟨_, b2, b3, _, _, _⟩ := right_num hrb hkb
      have hd : (overE (ofE a.kind a.n a.q) (ofE b.kind b.n b.q)).den ≠ 0 := Nat.mul_ne_zero (ofE_den0 _ _ _) (fun e => hb0 ((ofE_num0 _ _ _).1 e))
      rw [quo_fit (k := kF (overE (ofE a.kind a.n a.q) (ofE b.kind b.n b.q)).num (overE (ofE a.kind a.n a.q) (ofE b.kind b.n b.q)).den t.p.toNat) a2 (fun h => (a3 (by omega)).1) b2 (fun h => (b3 (by omega)).1) hb0 (by omega) (by omega) (by omega) (fun h0 _ => kF_is h0 hd (by omega))] at h
      exact h
  · rw [if_pos he]
    exact d_DivideE a b t he
theorem d_ModuloV (a b : Vl) (t : Typ) : CallT Tryz.prog 49 [.agg (vlE a), .agg (vlE b), .agg (typE t)] [] (fun o A => o = .ret (vceA (modV a b t)) ∧ A = []) := by
  have h := d_Modulo a b t
  unfold modV
  by_cases he : askL (some t) [a, b] = 0
  · obtain ⟨hnum, htn⟩ := ask_num he
    obtain ⟨hv, hkt⟩ := htn t rfl
    obtain ⟨hra, hka⟩ := hnum a (by simp)
    obtain ⟨hrb, hkb⟩ := hnum b (by simp)
    rw [if_neg (fun e => e he)] at h ⊢
    by_cases hb0 : b.n = 0
    · rw [if_pos hb0] at h ⊢
      exact h
    · rw [if_neg hb0] at h ⊢
      have hy0 : (ofE b.kind b.n b.q).num ≠ 0 := fun e => hb0 ((ofE_num0 _ _ _).1 e)
      obtain ⟨r1, r2⟩ := mod_rep (x := ofE a.kind a.n a.q) (y := ofE b.kind b.n b.q) (rep_v hra hka) (rep_v hrb hkb) rfl rfl (ofE_den _ _ _) (ofE_den _ _ _) hy0
      have hdm : (modE (ofE a.kind a.n a.q) (ofE b.kind b.n b.q)).den ≠ 0 := by
        unfold modE
        rw [both_den]
        refine Nat.mul_ne_zero (ofE_den0 _ _ _) ?_
        show (ofE b.kind b.n b.q).den * 1 ≠ 0
        rw [Nat.mul_one]; exact ofE_den0 _ _ _
      rw [fit_eq hv hkt r1 hdm r2] at h
      exact h
  · rw [if_pos he] at h ⊢
    exact h
def ordO (a b : Vl) : Int × Int := if askL none [a, b] = 0 then (cmpL (ext a) (ext b), 0) else (0, askL none [a, b])
theorem ordI_mul (x y : Int) {c : Nat} (hc : 0 < c) : ordI (x * (c : Int)) (y * (c : Int)) = ordI x y := by
  have hc' : (0 : Int) < c := by omega
  unfold ordI
  by_cases h : x = y
  · rw [if_pos h, if_pos (by rw [h])]
  · rw [if_neg h, if_neg (fun e => h (Int.eq_of_mul_eq_mul_right (by omega) e))]
    by_cases l : x < y
    · rw [if_pos l, if_pos (Int.mul_lt_mul_of_pos_right l hc')]
    · rw [if_neg l, if_neg (fun e => l (Int.lt_of_mul_lt_mul_right e (by omega)))]
theorem cmp_ord {a b : Vl} (hra : a.right = true) (hka : numK a.kind = true) (hrb : b.right = true) (hkb : numK b.kind = true) : cmpL (ext a) (ext b) = ordE (ofE a.kind a.n a.q) (ofE b.kind b.n b.q) := by
  have h1 := rep_up (rep_v hra hka) (Int.min_le_left (ext a).exp (ext b).exp)
  have h2 := rep_up (rep_v hrb hkb) (Int.min_le_right (ext a).exp (ext b).exp)
  have s1 := sgn_rep (x := ofE a.kind a.n a.q) h1 (rfl : (ext a).neg = (ofE a.kind a.n a.q).neg)
  have s2 := sgn_rep (x := ofE b.kind b.n b.q) h2 (rfl : (ext b).neg = (ofE b.kind b.n b.q).neg)
  have d1 := ofE_den a.kind a.n a.q
  have d2 := ofE_den b.kind b.n b.q
  rw [cmp_at (ext a) (ext b) (Int.min_le_left _ _) (Int.min_le_right _ _), ordE_eq, sgn_mul, sgn_mul]
  dsimp only at s1 s2
  generalize min (ext a).exp (ext b).exp = e at *
  have p1 := e10_pos e
  have p2 := e10_pos (-e)
  generalize sgn (ext a).neg (upM (ext a) e) = U at *
  generalize sgn (ext b).neg (upM (ext b) e) = V at *
  generalize ofE a.kind a.n a.q = x at *
  generalize ofE b.kind b.n b.q = y at *
  generalize sgn x.neg x.num = SX at *
  generalize sgn y.neg y.num = SY at *
  generalize e10 e = E1 at *
  generalize e10 (-e) = E2 at *
  rw [← ordI_mul U V (Nat.mul_pos (Nat.mul_pos d1 d2) p1), ← ordI_mul (SX * (y.den : Int)) (SY * (x.den : Int)) p2]
  congr 1
  · rw [show SX * (y.den : Int) * (E2 : Int) = SX * (E2 : Int) * (y.den : Int) by rw [Int.mul_assoc, Int.mul_comm (y.den : Int), ← Int.mul_assoc], ← s1, Int.mul_assoc, ← Int.natCast_mul]
    congr 2
    rw [Nat.mul_assoc, Nat.mul_assoc, Nat.mul_comm y.den]
  · rw [show SY * (x.den : Int) * (E2 : Int) = SY * (E2 : Int) * (x.den : Int) by rw [Int.mul_assoc, Int.mul_comm (x.den : Int), ← Int.mul_assoc], ← s2, Int.mul_assoc, ← Int.natCast_mul]
    congr 2
    rw [Nat.mul_assoc, Nat.mul_comm x.den]
theorem d_CompareV (a b : Vl) : CallT Tryz.prog 42 [.agg (vlE a), .agg (vlE b)] [] (fun o A => o = .ret (.tup [iv (ordO a b).1, iv (ordO a b).2]) ∧ A = []) := by
  have h := d_Compare a b
  unfold ordO
  split at h
  · rename_i h0
    rw [if_pos h0]
    exact h
  · rename_i h0
    rw [if_neg h0]
    exact h
theorem r_CompareV (a b : Vl) : CallT Tryz.prog 43 [.agg (vlE a), .agg (vlE b)] [] (fun o A => o = .ret (.tup [iv (ordO a b).1, iv (ordO a b).2]) ∧ A = []) := by
  have h := r_Compare a b
  unfold ordO
  split at h
  · rename_i h0
    obtain ⟨⟨hra, hka⟩, hrb, hkb⟩ := ask_none h0
    rw [if_pos h0, cmp_ord hra hka hrb hkb]
    exact h
  · rename_i h0
    rw [if_neg h0]
    exact h
theorem ord_turn (a b : Vl) : (ordO a b).2 = 0 → (ordO b a).1 = -(ordO a b).1 ∧ (ordO b a).2 = 0 := by
  unfold ordO
  intro h
  have h0 : askL none [a, b] = 0 := by
    by_cases h0 : askL none [a, b] = 0
    · exact h0
    · rw [if_neg h0] at h; exact h
  have h1 : askL none [b, a] = 0 := by
    obtain ⟨⟨hra, hka⟩, hrb, hkb⟩ := ask_none h0
    unfold askL
    simp [hra, hka, hrb, hkb]
  rw [if_pos h0, if_pos h1]
  refine ⟨?_, rfl⟩
  show cmpL (ext b) (ext a) = -cmpL (ext a) (ext b)
  rw [cmp_at (ext a) (ext b) (Int.min_le_left _ _) (Int.min_le_right _ _), cmp_at (ext b) (ext a) (Int.min_le_right (ext a).exp (ext b).exp) (Int.min_le_left (ext a).exp (ext b).exp)]
  generalize sgn (ext a).neg _ = x
  generalize sgn (ext b).neg _ = y
  unfold ordI
  by_cases e : x = y
  · rw [if_pos e, if_pos e.symm]; rfl
  · rw [if_neg e, if_neg (fun h => e h.symm)]
    by_cases l : x < y
    · rw [if_pos l, if_neg (by omega)]; rfl
    · rw [if_neg l, if_pos (by omega)]
end Go.Iron.Tryz

/- The digits' seat: the law of valid values. -/
namespace Go.Iron.Tryz
open Go.Proofs Go.RowKit Go.Iron.Tok Go.Iron.Dg

theorem l_light (v : Vl) (t : Typ) : CallT Tryz.prog 29 [.agg (vlE v), .agg (typE t)] [] (fun o A => o = .ret (bv (decide (v.s.length ≤ 600) && decide (t.pic.length ≤ 300))) ∧ A = []) := by
  refine callS_body (n := 15) rfl rfl fun w ρ X => ?_
  refine runS_x (I := inf) (J := jnf) ⟨false, false, [], 0, 0⟩ 9999 rfl (by repeat (first | exact obs_nil | refine obs_draw (by kernel_rfl) ?_ | refine obs_same ?_ | refine obs_and ?_ | refine obs_by (by (simp [inB] <;> omega)) ?_)) ?_
  refine runS_ret (I := inf) 0 rfl (Nat.le_refl _) rfl .nil rfl ⟨?_, rfl⟩
  refine congrArg (fun x => Out.ret (bv x)) ?_
  show (if decide (((bl (bs v.s)).length : Int) ≤ 600) = true then decide (((bl (bs t.pic)).length : Int) ≤ 300) else false) = _
  rw [blS, blS, show decide ((v.s.length : Int) ≤ 600) = decide (v.s.length ≤ 600) by rw [Bool.eq_iff_iff, decide_eq_true_iff, decide_eq_true_iff]; omega, show decide ((t.pic.length : Int) ≤ 300) = decide (t.pic.length ≤ 300) by rw [Bool.eq_iff_iff, decide_eq_true_iff, decide_eq_true_iff]; omega]
  cases decide (v.s.length ≤ 600) <;> rfl
end Go.Iron.Tryz

/- The digits' seat: the law of two values. -/
namespace Go.Iron.Tryz
open Go.Proofs Go.RowKit Go.Iron.Tok Go.Iron.Dg

theorem ord_bound (a b : Vl) : -1 ≤ (ordO a b).1 ∧ (ordO a b).1 ≤ 1 := by
  unfold ordO
  split
  · dsimp only
    rw [cmp_at (ext a) (ext b) (Int.min_le_left _ _) (Int.min_le_right _ _)]
    unfold ordI
    split
    · omega
    · split <;> omega
  · dsimp only; omega
theorem l_two (a b : Vl) (t : Typ) : CallT Tryz.prog 10 [.agg (vlE a), .agg (vlE b), .agg (typE t)] [] (fun o A => o = .ret (bv true) ∧ A = []) := by
  have hT := ord_turn a b
  have hB := ord_bound a b
  have c1 := d_CompareV a b
  have c2 := r_CompareV a b
  have c3 := d_CompareV b a
  have a1 := d_AddV a b t
  have a2 := r_Add a b t
  have s1 := d_SubtractV a b t
  have s2 := r_Subtract a b t
  have m1 := d_MultiplyV a b t
  have m2 := r_Multiply a b t
  have q1 := d_DivideV a b t
  have q2 := r_Divide a b t
  have r1 := d_ModuloV a b t
  have r2 := r_Modulo a b t
  generalize ordO a b = O1 at *
  generalize ordO b a = O2 at *
  generalize doV 43 a b t = A1 at *
  generalize doV 45 a b t = S1 at *
  generalize doV 42 a b t = M1 at *
  generalize doV 47 a b t = Q1 at *
  generalize modV a b t = R1 at *
  obtain ⟨o1, o2⟩ := O1
  obtain ⟨p1, p2⟩ := O2
  obtain ⟨⟨ak, an, aq, az⟩, ac, ae⟩ := A1
  obtain ⟨⟨sk, sn, sq, ss⟩, sc, se⟩ := S1
  obtain ⟨⟨mk, mn, mq, ms⟩, mc, me⟩ := M1
  obtain ⟨⟨qk, qn, qq, qs⟩, qc, qe⟩ := Q1
  obtain ⟨⟨rk, rn, rq, rs⟩, rc, re⟩ := R1
  dsimp only at hT hB c1 c2 c3 a1 a2 s1 s2 m1 m2 q1 q2 r1 r2
  refine callS_body (n := 216) rfl rfl fun w ρ X => ?_
  refine runS_x (I := inf) (J := jnf) ⟨false, false, [], 0, 0⟩ 9999 rfl (by repeat (first | exact obs_nil | refine obs_draw (by kernel_rfl) ?_ | refine obs_same ?_ | refine obs_and ?_ | refine obs_by (by (simp [inB] <;> omega)) ?_)) ?_
  refine runS_call rfl rfl rfl rfl rfl rfl rfl (l_light a t) ?_
  refine runS_x (I := inf) (J := jnf) ⟨false, false, [], 0, 0⟩ 9999 rfl (by repeat (first | exact obs_nil | refine obs_draw (by kernel_rfl) ?_ | refine obs_same ?_ | refine obs_and ?_ | refine obs_by (by (simp [inB] <;> omega)) ?_)) ?_
  refine runS_cond rfl (fun h => ?_) (fun h => ?_)
  · refine runS_x (I := inf) (J := jnf) ⟨false, false, [], 0, 0⟩ 9999 rfl (by repeat (first | exact obs_nil | refine obs_draw (by kernel_rfl) ?_ | refine obs_same ?_ | refine obs_and ?_ | refine obs_by (by (simp [inB] <;> omega)) ?_)) ?_
    refine runS_call rfl rfl rfl rfl rfl rfl rfl l_awake ?_
    refine runS_x (I := inf) (J := jnf) ⟨false, false, [], 0, 0⟩ 9999 rfl (by repeat (first | exact obs_nil | refine obs_draw (by kernel_rfl) ?_ | refine obs_same ?_ | refine obs_and ?_ | refine obs_by (by (simp [inB] <;> omega)) ?_)) ?_
    refine runS_ret (I := inf) 0 rfl (Nat.le_refl _) rfl .nil rfl ⟨?_, rfl⟩
    rfl
  · refine runS_x (I := inf) (J := jnf) ⟨false, false, [], 0, 0⟩ 9999 rfl (by repeat (first | exact obs_nil | refine obs_draw (by kernel_rfl) ?_ | refine obs_same ?_ | refine obs_and ?_ | refine obs_by (by (simp [inB] <;> omega)) ?_)) ?_
    refine runS_call rfl rfl rfl rfl rfl rfl rfl c1 ?_
    refine runS_x (I := inf) (J := jnf) ⟨false, false, [], 0, 0⟩ 9999 rfl (by repeat (first | exact obs_nil | refine obs_draw (by kernel_rfl) ?_ | refine obs_same ?_ | refine obs_and ?_ | refine obs_by (by (simp [inB] <;> omega)) ?_)) ?_
    refine runS_call rfl rfl rfl rfl rfl rfl rfl c2 ?_
    refine runS_x (I := inf) (J := jnf) ⟨false, false, [], 0, 0⟩ 9999 rfl (by repeat (first | exact obs_nil | refine obs_draw (by kernel_rfl) ?_ | refine obs_same ?_ | refine obs_and ?_ | refine obs_by (by (simp [inB] <;> omega)) ?_)) ?_
    refine runS_call rfl rfl rfl rfl rfl rfl rfl c3 ?_
    refine runS_x (I := inf) (J := jnf) ⟨false, false, [], 0, 0⟩ 9999 rfl (by repeat (first | exact obs_nil | refine obs_draw (by kernel_rfl) ?_ | refine obs_same ?_ | refine obs_and ?_ | refine obs_by (by (simp [inB] <;> omega)) ?_)) ?_
    refine runS_cond rfl (fun h => ?_) (fun h => ?_)
    · exfalso
      rw [show IntKind.wrap .i64 (0 - o1) = -o1 by rw [w64 (by omega) (by omega)]; omega] at h
      by_cases h0 : o2 = 0
      · obtain ⟨e1, e2⟩ := hT h0
        simp [h0, e1, e2] at h
      · simp [h0] at h
    · refine runS_x (I := inf) (J := jnf) ⟨false, false, [], 0, 0⟩ 9999 rfl (by repeat (first | exact obs_nil | refine obs_draw (by kernel_rfl) ?_ | refine obs_same ?_ | refine obs_and ?_ | refine obs_by (by (simp [inB] <;> omega)) ?_)) ?_
      refine runS_call rfl rfl rfl rfl rfl rfl rfl a1 ?_
      refine runS_x (I := inf) (J := jnf) ⟨false, false, [], 0, 0⟩ 9999 rfl (by repeat (first | exact obs_nil | refine obs_draw (by kernel_rfl) ?_ | refine obs_same ?_ | refine obs_and ?_ | refine obs_by (by (simp [inB] <;> omega)) ?_)) ?_
      refine runS_call rfl rfl rfl rfl rfl rfl rfl a2 ?_
      refine runS_x (I := inf) (J := jnf) ⟨false, false, [], 0, 0⟩ 9999 rfl (by repeat (first | exact obs_nil | refine obs_draw (by kernel_rfl) ?_ | refine obs_same ?_ | refine obs_and ?_ | refine obs_by (by (simp [inB] <;> omega)) ?_)) ?_
      refine runS_cond rfl (fun h => ?_) (fun h => ?_)
      · exfalso
        simp at h
      · refine runS_x (I := inf) (J := jnf) ⟨false, false, [], 0, 0⟩ 9999 rfl (by repeat (first | exact obs_nil | refine obs_draw (by kernel_rfl) ?_ | refine obs_same ?_ | refine obs_and ?_ | refine obs_by (by (simp [inB] <;> omega)) ?_)) ?_
        refine runS_call rfl rfl rfl rfl rfl rfl rfl s1 ?_
        refine runS_x (I := inf) (J := jnf) ⟨false, false, [], 0, 0⟩ 9999 rfl (by repeat (first | exact obs_nil | refine obs_draw (by kernel_rfl) ?_ | refine obs_same ?_ | refine obs_and ?_ | refine obs_by (by (simp [inB] <;> omega)) ?_)) ?_
        refine runS_call rfl rfl rfl rfl rfl rfl rfl s2 ?_
        refine runS_x (I := inf) (J := jnf) ⟨false, false, [], 0, 0⟩ 9999 rfl (by repeat (first | exact obs_nil | refine obs_draw (by kernel_rfl) ?_ | refine obs_same ?_ | refine obs_and ?_ | refine obs_by (by (simp [inB] <;> omega)) ?_)) ?_
        refine runS_cond rfl (fun h => ?_) (fun h => ?_)
        · exfalso
          simp at h
        · refine runS_x (I := inf) (J := jnf) ⟨false, false, [], 0, 0⟩ 9999 rfl (by repeat (first | exact obs_nil | refine obs_draw (by kernel_rfl) ?_ | refine obs_same ?_ | refine obs_and ?_ | refine obs_by (by (simp [inB] <;> omega)) ?_)) ?_
          refine runS_call rfl rfl rfl rfl rfl rfl rfl m1 ?_
          refine runS_x (I := inf) (J := jnf) ⟨false, false, [], 0, 0⟩ 9999 rfl (by repeat (first | exact obs_nil | refine obs_draw (by kernel_rfl) ?_ | refine obs_same ?_ | refine obs_and ?_ | refine obs_by (by (simp [inB] <;> omega)) ?_)) ?_
          refine runS_call rfl rfl rfl rfl rfl rfl rfl m2 ?_
          refine runS_x (I := inf) (J := jnf) ⟨false, false, [], 0, 0⟩ 9999 rfl (by repeat (first | exact obs_nil | refine obs_draw (by kernel_rfl) ?_ | refine obs_same ?_ | refine obs_and ?_ | refine obs_by (by (simp [inB] <;> omega)) ?_)) ?_
          refine runS_cond rfl (fun h => ?_) (fun h => ?_)
          · exfalso
            simp at h
          · refine runS_x (I := inf) (J := jnf) ⟨false, false, [], 0, 0⟩ 9999 rfl (by repeat (first | exact obs_nil | refine obs_draw (by kernel_rfl) ?_ | refine obs_same ?_ | refine obs_and ?_ | refine obs_by (by (simp [inB] <;> omega)) ?_)) ?_
            refine runS_call rfl rfl rfl rfl rfl rfl rfl q1 ?_
            refine runS_x (I := inf) (J := jnf) ⟨false, false, [], 0, 0⟩ 9999 rfl (by repeat (first | exact obs_nil | refine obs_draw (by kernel_rfl) ?_ | refine obs_same ?_ | refine obs_and ?_ | refine obs_by (by (simp [inB] <;> omega)) ?_)) ?_
            refine runS_call rfl rfl rfl rfl rfl rfl rfl q2 ?_
            refine runS_x (I := inf) (J := jnf) ⟨false, false, [], 0, 0⟩ 9999 rfl (by repeat (first | exact obs_nil | refine obs_draw (by kernel_rfl) ?_ | refine obs_same ?_ | refine obs_and ?_ | refine obs_by (by (simp [inB] <;> omega)) ?_)) ?_
            refine runS_cond rfl (fun h => ?_) (fun h => ?_)
            · exfalso
              simp at h
            · refine runS_x (I := inf) (J := jnf) ⟨false, false, [], 0, 0⟩ 9999 rfl (by repeat (first | exact obs_nil | refine obs_draw (by kernel_rfl) ?_ | refine obs_same ?_ | refine obs_and ?_ | refine obs_by (by (simp [inB] <;> omega)) ?_)) ?_
              refine runS_call rfl rfl rfl rfl rfl rfl rfl r1 ?_
              refine runS_x (I := inf) (J := jnf) ⟨false, false, [], 0, 0⟩ 9999 rfl (by repeat (first | exact obs_nil | refine obs_draw (by kernel_rfl) ?_ | refine obs_same ?_ | refine obs_and ?_ | refine obs_by (by (simp [inB] <;> omega)) ?_)) ?_
              refine runS_call rfl rfl rfl rfl rfl rfl rfl r2 ?_
              refine runS_x (I := inf) (J := jnf) ⟨false, false, [], 0, 0⟩ 9999 rfl (by repeat (first | exact obs_nil | refine obs_draw (by kernel_rfl) ?_ | refine obs_same ?_ | refine obs_and ?_ | refine obs_by (by (simp [inB] <;> omega)) ?_)) ?_
              refine runS_callU rfl rfl (by first | exact .v rfl rfl rfl rfl | exact .o rfl rfl rfl rfl) rfl rfl (by repeat (first | exact .nil | refine .cons (.n rfl) ?_ | refine .cons .o ?_ | refine .cons gok_and ?_)) rfl rfl rfl rfl rfl (fun _ => l_awake) ?_
              refine runS_x (I := inf) (J := jnf) ⟨false, false, [], 0, 0⟩ 9999 rfl (by repeat (first | exact obs_nil | refine obs_draw (by kernel_rfl) ?_ | refine obs_same ?_ | refine obs_and ?_ | refine obs_by (by (simp [inB] <;> omega)) ?_)) ?_
              refine runS_ret (I := inf) 0 rfl (Nat.le_refl _) rfl .nil rfl ⟨?_, rfl⟩
              refine congrArg (fun x => Out.ret (bv x)) ?_
              clear hT c1 c2 c3 a1 a2 s1 s2 m1 m2 q1 q2 r1 r2
              simp
end Go.Iron.Tryz
