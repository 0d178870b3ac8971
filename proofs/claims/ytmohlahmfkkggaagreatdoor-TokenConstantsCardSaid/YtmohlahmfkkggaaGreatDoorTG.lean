/- The token seat: the reference's naturals by their digits. -/
import Derived.Test.YtmohlahmfkkggaaGreatDoorTC
import Derived.Test.YtmohlahmfkkggaaGreatDoorTF
import Derived.Lib.Atoi
import Derived.Lib.ItoaNum
namespace Go.Iron.Tryz
open Go.Proofs Go.RowKit Go.Iron.Tok Go.Iron.Dg

def natR (l : List Nat) : Nat → List AV := encR (fun n => [iv (n : Nat)]) 0 l
def natS (nl : Option Bool) (l : List Nat) : AV := .slc 1 nl l.length (natR l)
theorem natR_snoc {acc : List Nat} {v : Nat} {r2 : Nat → List AV} (h : r2 0 = [iv (v : Nat)]) : ∀ j, j < acc.length + 1 → natR (acc ++ [v]) j = appR acc.length (natR acc) r2 j := fun j hj => encR_snoc (enc := fun n : Nat => [iv (n : Nat)]) h j hj
abbrev nilN : Nat → List AV := natR []
theorem r_numeric (kd : Int) : CallT Tryz.prog 41 [iv kd] [] (fun o A => o = .ret (bv (decide (1 ≤ kd) && decide (kd ≤ 3))) ∧ A = []) := by
  refine callS_body (n := 9) rfl rfl fun w ρ X => ?_
  refine runS_x (I := inf) (J := jnf) ⟨false, false, [], 0, 0⟩ 9999 rfl (by repeat (first | exact obs_nil | refine obs_draw (by kernel_rfl) ?_ | refine obs_same ?_ | refine obs_and ?_ | refine obs_by (by (simp [inB] <;> omega)) ?_)) ?_
  refine runS_ret (I := inf) 0 rfl (Nat.le_refl _) rfl .nil rfl ⟨?_, rfl⟩
  refine congrArg (fun x => Out.ret (bv x)) ?_
  show (if decide (kd ≥ 1) = true then decide (kd ≤ 3) else false) = _
  by_cases h : 1 ≤ kd
  · rw [decide_eq_true h]; rfl
  · rw [decide_eq_false h]; rfl
theorem r_from (n : Nat) (hn : n < 4611686018427387904) : CallT Tryz.prog 44 [iv n] [] (fun o A => o = .ret (natS none (frm n)) ∧ A = []) := by
  refine callS_body (n := 14) rfl rfl fun w ρ X => ?_
  refine runS_x (I := inf) (J := jnf) ⟨false, false, [], 0, 0⟩ 9999 rfl (by repeat (first | exact obs_nil | refine obs_draw (by kernel_rfl) ?_ | refine obs_same ?_ | refine obs_and ?_ | refine obs_by (by (simp [inB] <;> omega)) ?_)) ?_
  refine runS_nilRow 3 3 1 nilN rfl rfl ?_
  refine runS_while (fun (x : Nat × List Nat) τ ar => (τ 0 = iv x.1 ∧ τ 3 = .row 0 x.2.length) ∧ ar = [.row 3 1 x.2.length x.2.length (natR x.2)] ∧ x.1 ≤ n ∧ frm n = x.2 ++ frm x.1) (fun x => x.1) (n, []) ⟨⟨rfl, rfl⟩, rfl, Nat.le_refl _, rfl⟩ ?_
  rintro ⟨m, acc⟩ τ' ar' ⟨⟨g0, g3⟩, rfl, hm, hq⟩ ih
  dsimp only at hm hq ih
  have ha : acc.length ≤ 19 := by
    have h1 : (frm n).length ≤ 19 := frm_len_lt.2 (Nat.lt_of_lt_of_le hn (by decide))
    rw [hq, List.length_append] at h1
    omega
  refine runS_says 0 (by exact g0) (Says.refl _) ?_; refine runS_says 3 (by exact g3) (Says.refl _) ?_
  refine runS_x (I := inf) (J := jnf) ⟨false, false, [], 0, 0⟩ 9999 rfl (by repeat (first | exact obs_nil | refine obs_draw (by kernel_rfl) ?_ | refine obs_same ?_ | refine obs_and ?_ | refine obs_by (by (simp [inB] <;> omega)) ?_)) ?_
  refine runS_cond rfl (fun h => ?_) (fun h => ?_)
  · have hm0 : m ≠ 0 := by
      have : decide ((m : Int) > 0) = true := h
      simp at this
      omega
    have e1 : ((m : Int)).tmod 10 = ((m % 10 : Nat) : Int) := by rw [Int.natCast_emod, Int.tmod_eq_emod_of_nonneg (by omega)]; rfl
    have e2 : IntKind.wrap .i64 (((m : Int)).tdiv 10) = ((m / 10 : Nat) : Int) := by
      rw [Int.tdiv_eq_ediv_of_nonneg (by omega), w64 (by omega) (by omega), Int.natCast_ediv]; rfl
    refine runS_x (I := inf) (J := jnf) ⟨false, false, [], 0, 0⟩ 9999 rfl (by repeat (first | exact obs_nil | refine obs_draw (by kernel_rfl) ?_ | refine obs_same ?_ | refine obs_and ?_ | refine obs_by (by (simp [inB] <;> omega)) ?_)) ?_
    refine runS_tell 0 (natR (acc ++ [m % 10])) rfl (m' := acc.length + 1) rfl (natR_snoc (congrArg (fun z => [iv z]) e1)) rfl ?_
    have hl' : (acc ++ [m % 10]).length = acc.length + 1 := by simp
    refine runS_x (I := inf) (J := jnf) ⟨false, false, [], 0, 0⟩ 9999 rfl (by repeat (first | exact obs_nil | refine obs_draw (by kernel_rfl) ?_ | refine obs_same ?_ | refine obs_and ?_ | refine obs_by (by (simp [inB] <;> omega)) ?_)) ?_
    refine runS_drop 1 (Nat.zero_le _) rfl (by repeat (first | exact .nil | refine .row (fun j hj => rfl) ?_ | refine .box rfl ?_ | refine .fam (fun k j hk hj => rfl) ?_ | refine .loop (scrub_under _ _) ?_ | refine .dfr ?_ | refine .gone ?_ | refine .map (fun p hp => by (obtain ⟨k, _, rfl⟩ := List.mem_map.1 hp; rfl)) ?_)) rfl rfl rfl (by repeat (first | exact .nil | refine .cons rfl rfl rfl (scrub_under _ _) ?_)) ?_
    exact ih (m / 10, acc ++ [m % 10]) _ _ (by dsimp only; omega) ⟨⟨congrArg iv e2, by dsimp only; rw [hl']; rfl⟩, by dsimp only; rw [hl'], by dsimp only; omega, by rw [hq, frm_pos hm0, List.append_assoc]; rfl⟩
  · have hm0 : m = 0 := by
      have : decide ((m : Int) > 0) = false := h
      simp at this
      omega
    subst hm0
    rw [frm_zero, List.append_nil] at hq
    refine runS_x (I := inf) (J := jnf) ⟨false, false, [], 0, 0⟩ 9999 rfl (by repeat (first | exact obs_nil | refine obs_draw (by kernel_rfl) ?_ | refine obs_same ?_ | refine obs_and ?_ | refine obs_by (by (simp [inB] <;> omega)) ?_)) ?_
    refine runS_freeze 2 rfl rfl rfl (fun j hj => rfl) ?_
    refine runS_ret (I := inf) 0 rfl (Nat.le_refl _) rfl .nil rfl ⟨?_, rfl⟩
    rw [hq]
    rfl
theorem r_size (n : Int) (hn : n.natAbs < 4611686018427387904) : CallT Tryz.prog 26 [iv n] [] (fun o A => o = .ret (iv ((frm n.natAbs).length : Nat)) ∧ A = []) := by
  refine callS_body (n := 10) rfl rfl fun w ρ X => ?_
  refine runS_x (I := inf) (J := jnf) ⟨false, false, [], 0, 0⟩ 9999 rfl (by repeat (first | exact obs_nil | refine obs_draw (by kernel_rfl) ?_ | refine obs_same ?_ | refine obs_and ?_ | refine obs_by (by (simp [inB] <;> omega)) ?_)) ?_
  refine runS_cut (fun τ ar => τ 0 = iv (n.natAbs : Nat) ∧ ar = []) (fun rest => ?_) ?_
  · refine runS_cond rfl (fun h => ?_) (fun h => ?_)
    · have h0 : n < 0 := of_decide_eq_true h
      have e : IntKind.wrap .i64 (0 - n) = ((n.natAbs : Nat) : Int) := by rw [w64 (by omega) (by omega)]; omega
      refine runS_x (I := inf) (J := jnf) ⟨false, false, [], 2, 0⟩ 9999 rfl (by repeat (first | exact obs_nil | refine obs_draw (by kernel_rfl) ?_ | refine obs_same ?_ | refine obs_and ?_ | refine obs_by (by (simp [inB] <;> omega)) ?_)) ?_
      exact rest _ _ ⟨congrArg iv e, rfl⟩
    · have h0 : ¬ n < 0 := of_decide_eq_false h
      have e : n = ((n.natAbs : Nat) : Int) := by omega
      refine runS_x (I := inf) (J := jnf) ⟨false, false, [], 2, 0⟩ 9999 rfl (by repeat (first | exact obs_nil | refine obs_draw (by kernel_rfl) ?_ | refine obs_same ?_ | refine obs_and ?_ | refine obs_by (by (simp [inB] <;> omega)) ?_)) ?_
      exact rest _ _ ⟨congrArg iv e, rfl⟩
  rintro τ2 ar2 ⟨g0, rfl⟩
  refine runS_says 0 (by exact g0) (Says.refl _) ?_
  refine runS_x (I := inf) (J := jnf) ⟨false, false, [], 0, 0⟩ 9999 rfl (by repeat (first | exact obs_nil | refine obs_draw (by kernel_rfl) ?_ | refine obs_same ?_ | refine obs_and ?_ | refine obs_by (by (simp [inB] <;> omega)) ?_)) ?_
  refine runS_call rfl rfl rfl rfl rfl rfl rfl (r_from n.natAbs hn) ?_
  refine runS_x (I := inf) (J := jnf) ⟨false, false, [], 0, 0⟩ 9999 rfl (by repeat (first | exact obs_nil | refine obs_draw (by kernel_rfl) ?_ | refine obs_same ?_ | refine obs_and ?_ | refine obs_by (by (simp [inB] <;> omega)) ?_)) ?_
  refine runS_ret (I := inf) 0 rfl (Nat.le_refl _) rfl .nil rfl ⟨?_, rfl⟩
  rfl
theorem r_cmp (n1 n2 : Option Bool) (a b : List Nat) (ha : a.length ≤ 100000) (hb : b.length ≤ 100000) : CallT Tryz.prog 24 [natS n1 a, natS n2 b] [] (fun o A => o = .ret (iv (cmpT a b)) ∧ A = []) := by
  refine callS_body (n := 41) rfl rfl fun w ρ X => ?_
  refine runS_x (I := inf) (J := jnf) ⟨false, false, [], 0, 0⟩ 9999 rfl (by repeat (first | exact obs_nil | refine obs_draw (by kernel_rfl) ?_ | refine obs_same ?_ | refine obs_and ?_ | refine obs_by (by (simp [inB] <;> omega)) ?_)) ?_
  refine runS_cond rfl (fun h => ?_) (fun h => ?_)
  · have hne : a.length ≠ b.length := by simp at h; omega
    refine runS_x (I := inf) (J := jnf) ⟨false, false, [], 0, 0⟩ 9999 rfl (by repeat (first | exact obs_nil | refine obs_draw (by kernel_rfl) ?_ | refine obs_same ?_ | refine obs_and ?_ | refine obs_by (by (simp [inB] <;> omega)) ?_)) ?_
    refine runS_cond rfl (fun h1 => ?_) (fun h1 => ?_)
    · have hlt : a.length < b.length := by simp at h1; omega
      refine runS_x (I := inf) (J := jnf) ⟨false, false, [], 0, 0⟩ 9999 rfl (by repeat (first | exact obs_nil | refine obs_draw (by kernel_rfl) ?_ | refine obs_same ?_ | refine obs_and ?_ | refine obs_by (by (simp [inB] <;> omega)) ?_)) ?_
      refine runS_ret (I := inf) 0 rfl (Nat.le_refl _) rfl .nil rfl ⟨?_, rfl⟩
      unfold cmpT
      rw [if_pos hne, if_pos hlt]
      rfl
    · have hlt : ¬ a.length < b.length := by simp at h1; omega
      refine runS_x (I := inf) (J := jnf) ⟨false, false, [], 0, 0⟩ 9999 rfl (by repeat (first | exact obs_nil | refine obs_draw (by kernel_rfl) ?_ | refine obs_same ?_ | refine obs_and ?_ | refine obs_by (by (simp [inB] <;> omega)) ?_)) ?_
      refine runS_ret (I := inf) 0 rfl (Nat.le_refl _) rfl .nil rfl ⟨?_, rfl⟩
      unfold cmpT
      rw [if_pos hne, if_neg hlt]
      rfl
  · have hle : a.length = b.length := by simp at h; omega
    have hcm : cmpT a b = cmpN a b a.length := by unfold cmpT; rw [if_neg (by omega)]
    have hw0 : IntKind.wrap .i64 ((a.length : Int) - 1) = (a.length : Int) - 1 := w64 (by omega) (by omega)
    refine runS_x (I := inf) (J := jnf) ⟨false, false, [], 0, 0⟩ 9999 rfl (by repeat (first | exact obs_nil | refine obs_draw (by kernel_rfl) ?_ | refine obs_same ?_ | refine obs_and ?_ | refine obs_by (by (simp [inB] <;> omega)) ?_)) ?_
    rw [hw0]
    refine runS_while (fun (i : Nat) τ ar => (τ 0 = natS n1 a ∧ τ 1 = natS n2 b ∧ τ 5 = iv ((i : Int) - 1)) ∧ ar = [] ∧ i ≤ a.length ∧ cmpT a b = cmpN a b i) (fun i => i) a.length ⟨⟨rfl, rfl, rfl⟩, rfl, Nat.le_refl _, hcm⟩ ?_
    rintro i τ' ar' ⟨⟨g0, g1, g5⟩, rfl, hi, hc⟩ ih
    refine runS_says 0 (by exact g0) (Says.refl _) ?_; refine runS_says 1 (by exact g1) (Says.refl _) ?_; refine runS_says 5 (by exact g5) (Says.refl _) ?_
    refine runS_x (I := inf) (J := jnf) ⟨false, false, [], 0, 0⟩ 9999 rfl (by repeat (first | exact obs_nil | refine obs_draw (by kernel_rfl) ?_ | refine obs_same ?_ | refine obs_and ?_ | refine obs_by (by (simp [inB] <;> omega)) ?_)) ?_
    refine runS_cond rfl (fun h1 => ?_) (fun h1 => ?_)
    · have hi0 : 0 < i := by
        have : decide ((i : Int) - 1 ≥ 0) = true := h1
        simp at this
        omega
      obtain ⟨k, rfl⟩ : ∃ k, i = k + 1 := ⟨i - 1, by omega⟩
      have hka : k < a.length := by omega
      have hkb : k < b.length := by omega
      have e1 : (((k + 1 : Nat) : Int) - 1) = (k : Int) := by omega
      rw [e1] at g5 ⊢
      have hcs : cmpN a b (k + 1) = if a.getD k 0 < b.getD k 0 then -1 else if a.getD k 0 > b.getD k 0 then 1 else cmpN a b k := rfl
      refine runS_x (I := inf) (J := jnf) ⟨false, false, [], 0, 0⟩ 9999 rfl (by repeat (first | exact obs_nil | refine obs_draw (by kernel_rfl) ?_ | refine obs_same ?_ | refine obs_and ?_ | refine obs_by (by (simp [inB, hka, hkb] <;> omega)) ?_)) ?_
      refine runS_cond rfl (fun h2 => ?_) (fun h2 => ?_)
      · have hlt : a.getD k 0 < b.getD k 0 := by
          have : decide (((a.getD k 0 : Nat) : Int) < ((b.getD k 0 : Nat) : Int)) = true := h2
          rw [decide_eq_true_eq] at this
          omega
        refine runS_x (I := inf) (J := jnf) ⟨false, false, [], 0, 0⟩ 9999 rfl (by repeat (first | exact obs_nil | refine obs_draw (by kernel_rfl) ?_ | refine obs_same ?_ | refine obs_and ?_ | refine obs_by (by (simp [inB] <;> omega)) ?_)) ?_
        refine runS_ret (I := inf) 0 rfl (Nat.le_refl _) rfl .nil rfl ⟨?_, rfl⟩
        rw [hc, hcs, if_pos hlt]
        rfl
      · have hlt : ¬ a.getD k 0 < b.getD k 0 := by
          have : decide (((a.getD k 0 : Nat) : Int) < ((b.getD k 0 : Nat) : Int)) = false := h2
          rw [decide_eq_false_iff_not] at this
          omega
        rw [if_neg hlt] at hcs
        refine runS_x (I := inf) (J := jnf) ⟨false, false, [], 0, 0⟩ 9999 rfl (by repeat (first | exact obs_nil | refine obs_draw (by kernel_rfl) ?_ | refine obs_same ?_ | refine obs_and ?_ | refine obs_by (by (simp [inB, hka, hkb] <;> omega)) ?_)) ?_
        refine runS_cond rfl (fun h3 => ?_) (fun h3 => ?_)
        · have hgt : a.getD k 0 > b.getD k 0 := by
            have : decide (((a.getD k 0 : Nat) : Int) > ((b.getD k 0 : Nat) : Int)) = true := h3
            rw [decide_eq_true_eq] at this
            omega
          refine runS_x (I := inf) (J := jnf) ⟨false, false, [], 0, 0⟩ 9999 rfl (by repeat (first | exact obs_nil | refine obs_draw (by kernel_rfl) ?_ | refine obs_same ?_ | refine obs_and ?_ | refine obs_by (by (simp [inB] <;> omega)) ?_)) ?_
          refine runS_ret (I := inf) 0 rfl (Nat.le_refl _) rfl .nil rfl ⟨?_, rfl⟩
          rw [hc, hcs, if_pos hgt]
          rfl
        · have hgt : ¬ a.getD k 0 > b.getD k 0 := by
            have : decide (((a.getD k 0 : Nat) : Int) > ((b.getD k 0 : Nat) : Int)) = false := h3
            rw [decide_eq_false_iff_not] at this
            omega
          rw [if_neg hgt] at hcs
          have hwk : IntKind.wrap .i64 ((k : Int) - 1) = (k : Int) - 1 := w64 (by omega) (by omega)
          refine runS_x (I := inf) (J := jnf) ⟨false, false, [], 0, 0⟩ 9999 rfl (by repeat (first | exact obs_nil | refine obs_draw (by kernel_rfl) ?_ | refine obs_same ?_ | refine obs_and ?_ | refine obs_by (by (simp [inB] <;> omega)) ?_)) ?_
          exact ih k _ _ (by omega) ⟨⟨rfl, rfl, congrArg iv hwk⟩, rfl, by omega, hc.trans hcs⟩
    · have hi0 : i = 0 := by
        have : decide ((i : Int) - 1 ≥ 0) = false := h1
        simp at this
        omega
      subst hi0
      refine runS_x (I := inf) (J := jnf) ⟨false, false, [], 0, 0⟩ 9999 rfl (by repeat (first | exact obs_nil | refine obs_draw (by kernel_rfl) ?_ | refine obs_same ?_ | refine obs_and ?_ | refine obs_by (by (simp [inB] <;> omega)) ?_)) ?_
      refine runS_ret (I := inf) 0 rfl (Nat.le_refl _) rfl .nil rfl ⟨?_, rfl⟩
      rw [hc]
      rfl
theorem trim_take {l : List Nat} {n : Nat} (hn : n < l.length) (h0 : l.getD n 0 = 0) : trim (l.take (n + 1)) = trim (l.take n) := by
  rw [List.take_succ_eq_append_getElem hn]
  have e : l[n] = 0 := by rw [List.getD_eq_getElem?_getD, List.getElem?_eq_getElem hn] at h0; exact h0
  rw [e, trim_zero]
theorem trim_last {l : List Nat} {n : Nat} (hn : n < l.length) (hd : ∀ d ∈ l, d < 10) (h0 : l.getD n 0 ≠ 0) : trim (l.take (n + 1)) = l.take (n + 1) := by
  rw [List.take_succ_eq_append_getElem hn]
  have e : l[n] = l.getD n 0 := by rw [List.getD_eq_getElem?_getD, List.getElem?_eq_getElem hn]; rfl
  exact trim_canon (fun e he => hd e (List.mem_of_mem_take he)) (hd _ (List.getElem_mem hn)) (by rw [e]; exact h0)
theorem r_trim (n1 : Option Bool) (l : List Nat) (hl : l.length ≤ 100000) (hd : ∀ d ∈ l, d < 10) : CallT Tryz.prog 64 [natS n1 l] [] (fun o A => o = .ret (natS none (trim l)) ∧ A = []) := by
  refine callS_body (n := 21) rfl rfl fun w ρ X => ?_
  refine runS_x (I := inf) (J := jnf) ⟨false, false, [], 0, 0⟩ 9999 rfl (by repeat (first | exact obs_nil | refine obs_draw (by kernel_rfl) ?_ | refine obs_same ?_ | refine obs_and ?_ | refine obs_by (by (simp [inB] <;> omega)) ?_)) ?_
  refine runS_while (fun (n : Nat) τ ar => (τ 0 = natS n1 l ∧ τ 3 = iv n) ∧ ar = [] ∧ n ≤ l.length ∧ trim l = trim (l.take n)) (fun n => n) l.length ⟨⟨rfl, rfl⟩, rfl, Nat.le_refl _, by rw [List.take_length]⟩ ?_
  rintro n τ' ar' ⟨⟨g0, g3⟩, rfl, hn, ht⟩ ih
  refine runS_says 0 (by exact g0) (Says.refl _) ?_; refine runS_says 3 (by exact g3) (Says.refl _) ?_
  have hwm : 0 < n → IntKind.wrap .i64 ((n : Int) - 1) = ((n - 1 : Nat) : Int) := fun h => by rw [w64 (by omega) (by omega)]; omega
  refine runS_x (I := inf) (J := jnf) ⟨false, false, [], 0, 0⟩ 9999 rfl (by repeat (first | exact obs_nil | refine obs_draw (by kernel_rfl) ?_ | refine obs_same ?_ | refine obs_and ?_ | refine obs_by (by (simp [inB] <;> omega)) ?_)) ?_
  have hcd : (if decide ((n : Int) > 0) = true then (((l.getD (IntKind.wrap .i64 ((n : Int) - 1)).toNat 0 : Nat) : Int) == 0) else false) = decide (0 < n ∧ l.getD (n - 1) 0 = 0) := by
    by_cases h : 0 < n
    · rw [hwm h, Int.toNat_natCast, decide_eq_true (show (n : Int) > 0 by omega), if_pos rfl, Bool.eq_iff_iff]
      simp [-List.getD_eq_getElem?_getD, h]
    · rw [decide_eq_false (show ¬ (n : Int) > 0 by omega), Bool.eq_iff_iff]
      simp [h]
  refine runS_cond rfl (fun h => ?_) (fun h => ?_)
  · obtain ⟨h0, hz⟩ := of_decide_eq_true (hcd.symm.trans h)
    obtain ⟨k, rfl⟩ : ∃ k, n = k + 1 := ⟨n - 1, by omega⟩
    have e1 := hwm h0
    rw [Nat.add_sub_cancel] at e1 hz
    refine runS_x (I := inf) (J := jnf) ⟨false, false, [], 0, 0⟩ 9999 rfl (by repeat (first | exact obs_nil | refine obs_draw (by kernel_rfl) ?_ | refine obs_same ?_ | refine obs_and ?_ | refine obs_by (by (simp [inB] <;> omega)) ?_)) ?_
    exact ih k _ _ (by omega) ⟨⟨rfl, congrArg iv e1⟩, rfl, by omega, ht.trans (trim_take (by omega) hz)⟩
  · have hno := of_decide_eq_false (hcd.symm.trans h)
    have htk : trim l = l.take n := by
      rw [ht]
      by_cases h0 : n = 0
      · rw [h0, List.take_zero]; exact frm_zero
      · obtain ⟨k, rfl⟩ : ∃ k, n = k + 1 := ⟨n - 1, by omega⟩
        exact trim_last (by omega) hd (fun e => hno ⟨by omega, by rw [Nat.add_sub_cancel]; exact e⟩)
    refine runS_x (I := inf) (J := jnf) ⟨false, false, [], 0, 0⟩ 9999 rfl (by repeat (first | exact obs_nil | refine obs_draw (by kernel_rfl) ?_ | refine obs_same ?_ | refine obs_and ?_ | refine obs_by (by (simp [inB, hn] <;> omega)) ?_)) ?_
    have hlt : (l.take n).length = n := by rw [List.length_take]; omega
    refine runS_says 2 (y := natS none (l.take n)) rfl (fun w O ρ v h => says_nl w O ρ v (says_slc (by rw [hlt]; simp) (fun i hi => ?_) w O ρ v h)) ?_
    · show natR (l.take n) i = natR l (0 + i)
      rw [Nat.zero_add]
      unfold natR encR
      rw [List.getD_eq_getElem?_getD, List.getElem?_take, if_pos (by simpa using hi), ← List.getD_eq_getElem?_getD]
    refine runS_ret (I := inf) 0 rfl (Nat.le_refl _) rfl .nil rfl ⟨?_, rfl⟩
    rw [htk]
    rfl
theorem val_drop (l : List Nat) (i : Nat) : val (l.drop i) = l.getD i 0 + 10 * val (l.drop (i + 1)) := by
  by_cases h : i < l.length
  · rw [List.drop_eq_getElem_cons h, val, List.getD_eq_getElem?_getD, List.getElem?_eq_getElem h]
    rfl
  · rw [List.drop_eq_nil_of_le (by omega), List.drop_eq_nil_of_le (by omega), List.getD_eq_getElem?_getD, List.getElem?_eq_none (by omega)]
    rfl
theorem getD_digit (n i : Nat) : (frm n).getD i 0 < 10 := by
  by_cases h : i < (frm n).length
  · rw [List.getD_eq_getElem?_getD, List.getElem?_eq_getElem h]
    exact frm_digit (List.getElem_mem h)
  · rw [List.getD_eq_getElem?_getD, List.getElem?_eq_none (by omega)]
    decide
structure PlX where
  i : Nat
  c : Nat
  acc : List Nat
theorem r_plus (n1 n2 : Option Bool) (x y : Nat) (hx : x < 4611686018427387904) (hy : y < 4611686018427387904) : CallT Tryz.prog 43 [natS n1 (frm x), natS n2 (frm y)] [] (fun o A => o = .ret (natS none (frm (x + y))) ∧ A = []) := by
  have hlx : (frm x).length ≤ 19 := frm_len_lt.2 (Nat.lt_of_lt_of_le hx (by decide))
  have hly : (frm y).length ≤ 19 := frm_len_lt.2 (Nat.lt_of_lt_of_le hy (by decide))
  have hvx := val_frm x
  have hvy := val_frm y
  have hdx := getD_digit x
  have hdy := getD_digit y
  generalize frm x = A at *
  generalize frm y = B at *
  refine callS_body (n := 55) rfl rfl fun w ρ X => ?_
  refine runS_x (I := inf) (J := jnf) ⟨false, false, [], 0, 0⟩ 9999 rfl (by repeat (first | exact obs_nil | refine obs_draw (by kernel_rfl) ?_ | refine obs_same ?_ | refine obs_and ?_ | refine obs_by (by (simp [inB] <;> omega)) ?_)) ?_
  refine runS_nilRow 5 3 1 nilN rfl rfl ?_
  refine runS_while (fun (z : PlX) τ ar => (τ 0 = natS n1 A ∧ τ 1 = natS n2 B ∧ τ 5 = .row 0 z.acc.length ∧ τ 6 = iv z.c ∧ τ 7 = iv z.i) ∧ ar = [.row 3 1 z.acc.length z.acc.length (natR z.acc)] ∧ z.acc.length = z.i ∧ z.i ≤ 20 ∧ (0 < z.c → z.i ≤ 19) ∧ z.c ≤ 1 ∧ (∀ d ∈ z.acc, d < 10) ∧ val z.acc + 10 ^ z.i * (z.c + val (A.drop z.i) + val (B.drop z.i)) = x + y) (fun z => 40 - z.i) ⟨0, 0, []⟩ ⟨⟨rfl, rfl, rfl, rfl, rfl⟩, rfl, rfl, Nat.zero_le _, fun _ => Nat.zero_le _, Nat.zero_le _, fun d hd => (by cases hd), by
      show 0 + 10 ^ 0 * (0 + val (A.drop 0) + val (B.drop 0)) = _
      rw [Nat.pow_zero, List.drop_zero, List.drop_zero]
      omega⟩ ?_
  rintro ⟨i, c, acc⟩ τ' ar' ⟨⟨g0, g1, g5, g6, g7⟩, rfl, hai, hi20, hc19, hc1, hdig, hval⟩ ih
  dsimp only at hai hi20 hc19 hc1 hdig hval ih
  refine runS_says 0 (by exact g0) (Says.refl _) ?_; refine runS_says 1 (by exact g1) (Says.refl _) ?_; refine runS_says 5 (by exact g5) (Says.refl _) ?_; refine runS_says 6 (by exact g6) (Says.refl _) ?_; refine runS_says 7 (by exact g7) (Says.refl _) ?_
  refine runS_x (I := inf) (J := jnf) ⟨false, false, [], 0, 0⟩ 9999 rfl (by repeat (first | exact obs_nil | refine obs_draw (by kernel_rfl) ?_ | refine obs_same ?_ | refine obs_and ?_ | refine obs_by (by (simp [inB] <;> omega)) ?_)) ?_
  have hcd : (if (if decide ((i : Int) < (A.length : Int)) = true then true else decide ((i : Int) < (B.length : Int))) = true then true else decide ((c : Int) > 0)) = decide (i < A.length ∨ i < B.length ∨ 0 < c) := by
    rw [Bool.eq_iff_iff]
    by_cases h1 : i < A.length <;> by_cases h2 : i < B.length <;> by_cases h3 : 0 < c <;> simp [h1, h2, h3] <;> omega
  refine runS_cond rfl (fun h => ?_) (fun h => ?_)
  · have hc := of_decide_eq_true (hcd.symm.trans h)
    have hi19 : i ≤ 19 := by omega
    have hda := hdx i
    have hdb := hdy i
    have hda2 : ¬ i < A.length → A.getD i 0 = 0 := fun h => by rw [List.getD_eq_getElem?_getD, List.getElem?_eq_none (by omega)]; rfl
    have hdb2 : ¬ i < B.length → B.getD i 0 = 0 := fun h => by rw [List.getD_eq_getElem?_getD, List.getElem?_eq_none (by omega)]; rfl
    have hvA := val_drop A i
    have hvB := val_drop B i
    generalize hga : A.getD i 0 = p at *
    generalize hgb : B.getD i 0 = q at *
    refine runS_x (I := inf) (J := jnf) ⟨false, false, [], 0, 0⟩ 9999 rfl (by repeat (first | exact obs_nil | refine obs_draw (by kernel_rfl) ?_ | refine obs_same ?_ | refine obs_and ?_ | refine obs_by (by (simp [inB] <;> omega)) ?_)) ?_
    refine runS_cut (fun τ ar => (τ 0 = natS n1 A ∧ τ 1 = natS n2 B ∧ τ 5 = .row 0 acc.length ∧ τ 7 = iv i ∧ τ 8 = iv ((c + p : Nat) : Int)) ∧ ar = [.row 3 1 acc.length acc.length (natR acc)]) (fun rest => ?_) ?_
    · refine runS_cond rfl (fun h1 => ?_) (fun h1 => ?_)
      · have hl : i < A.length := by
          have : decide ((i : Int) < (A.length : Int)) = true := h1
          simp at this
          omega
        have e : IntKind.wrap .i64 ((c : Int) + ((A.getD ((i : Int)).toNat 0 : Nat) : Int)) = ((c + p : Nat) : Int) := by rw [Int.toNat_natCast, hga, w64 (by omega) (by omega)]; rfl
        refine runS_x (I := inf) (J := jnf) ⟨false, false, [], 7, 0⟩ 9999 rfl (by repeat (first | exact obs_nil | refine obs_draw (by kernel_rfl) ?_ | refine obs_same ?_ | refine obs_and ?_ | refine obs_by (by (simp [inB, hl] <;> omega)) ?_)) ?_
        exact rest _ _ ⟨⟨rfl, rfl, rfl, rfl, congrArg iv e⟩, rfl⟩
      · have hl : ¬ i < A.length := by
          have : decide ((i : Int) < (A.length : Int)) = false := h1
          simp at this
          omega
        have e : ((c : Int)) = ((c + p : Nat) : Int) := by rw [hda2 hl]; rfl
        refine runS_x (I := inf) (J := jnf) ⟨false, false, [], 7, 0⟩ 9999 rfl (by repeat (first | exact obs_nil | refine obs_draw (by kernel_rfl) ?_ | refine obs_same ?_ | refine obs_and ?_ | refine obs_by (by (simp [inB] <;> omega)) ?_)) ?_
        exact rest _ _ ⟨⟨rfl, rfl, rfl, rfl, congrArg iv e⟩, rfl⟩
    rintro τ2 ar2 ⟨⟨g0, g1, g5, g7, g8⟩, rfl⟩
    refine runS_says 0 (by exact g0) (Says.refl _) ?_; refine runS_says 1 (by exact g1) (Says.refl _) ?_; refine runS_says 5 (by exact g5) (Says.refl _) ?_; refine runS_says 7 (by exact g7) (Says.refl _) ?_; refine runS_says 8 (by exact g8) (Says.refl _) ?_
    refine runS_x (I := inf) (J := jnf) ⟨false, false, [], 0, 0⟩ 9999 rfl (by repeat (first | exact obs_nil | refine obs_draw (by kernel_rfl) ?_ | refine obs_same ?_ | refine obs_and ?_ | refine obs_by (by (simp [inB] <;> omega)) ?_)) ?_
    refine runS_cut (fun τ ar => (τ 0 = natS n1 A ∧ τ 1 = natS n2 B ∧ τ 5 = .row 0 acc.length ∧ τ 7 = iv i ∧ τ 8 = iv ((c + p + q : Nat) : Int)) ∧ ar = [.row 3 1 acc.length acc.length (natR acc)]) (fun rest => ?_) ?_
    · refine runS_cond rfl (fun h1 => ?_) (fun h1 => ?_)
      · have hl : i < B.length := by
          have : decide ((i : Int) < (B.length : Int)) = true := h1
          simp at this
          omega
        have e : IntKind.wrap .i64 (((c + p : Nat) : Int) + ((B.getD ((i : Int)).toNat 0 : Nat) : Int)) = ((c + p + q : Nat) : Int) := by rw [Int.toNat_natCast, hgb, w64 (by omega) (by omega)]; rfl
        refine runS_x (I := inf) (J := jnf) ⟨false, false, [], 7, 0⟩ 9999 rfl (by repeat (first | exact obs_nil | refine obs_draw (by kernel_rfl) ?_ | refine obs_same ?_ | refine obs_and ?_ | refine obs_by (by (simp [inB, hl] <;> omega)) ?_)) ?_
        exact rest _ _ ⟨⟨rfl, rfl, rfl, rfl, congrArg iv e⟩, rfl⟩
      · have hl : ¬ i < B.length := by
          have : decide ((i : Int) < (B.length : Int)) = false := h1
          simp at this
          omega
        have e : (((c + p : Nat) : Int)) = ((c + p + q : Nat) : Int) := by rw [hdb2 hl]; rfl
        refine runS_x (I := inf) (J := jnf) ⟨false, false, [], 7, 0⟩ 9999 rfl (by repeat (first | exact obs_nil | refine obs_draw (by kernel_rfl) ?_ | refine obs_same ?_ | refine obs_and ?_ | refine obs_by (by (simp [inB] <;> omega)) ?_)) ?_
        exact rest _ _ ⟨⟨rfl, rfl, rfl, rfl, congrArg iv e⟩, rfl⟩
    rintro τ2 ar2 ⟨⟨g0, g1, g5, g7, g8⟩, rfl⟩
    generalize hn : c + p + q = n at g8
    refine runS_says 0 (by exact g0) (Says.refl _) ?_; refine runS_says 1 (by exact g1) (Says.refl _) ?_; refine runS_says 5 (by exact g5) (Says.refl _) ?_; refine runS_says 7 (by exact g7) (Says.refl _) ?_; refine runS_says 8 (by exact g8) (Says.refl _) ?_
    have e1 : ((n : Int)).tmod 10 = ((n % 10 : Nat) : Int) := by rw [Int.natCast_emod, Int.tmod_eq_emod_of_nonneg (by omega)]; rfl
    have e2 : IntKind.wrap .i64 (((n : Int)).tdiv 10) = ((n / 10 : Nat) : Int) := by
      rw [Int.tdiv_eq_ediv_of_nonneg (by omega), w64 (by omega) (by omega), Int.natCast_ediv]; rfl
    have hw1 : IntKind.wrap .i64 ((i : Int) + 1) = ((i + 1 : Nat) : Int) := by rw [w64 (by omega) (by omega)]; rfl
    refine runS_x (I := inf) (J := jnf) ⟨false, false, [], 0, 0⟩ 9999 rfl (by repeat (first | exact obs_nil | refine obs_draw (by kernel_rfl) ?_ | refine obs_same ?_ | refine obs_and ?_ | refine obs_by (by (simp [inB] <;> omega)) ?_)) ?_
    refine runS_tell 0 (natR (acc ++ [n % 10])) rfl (m' := acc.length + 1) rfl (natR_snoc (congrArg (fun z => [iv z]) e1)) rfl ?_
    have hl' : (acc ++ [n % 10]).length = acc.length + 1 := by simp
    refine runS_x (I := inf) (J := jnf) ⟨false, false, [], 0, 0⟩ 9999 rfl (by repeat (first | exact obs_nil | refine obs_draw (by kernel_rfl) ?_ | refine obs_same ?_ | refine obs_and ?_ | refine obs_by (by (simp [inB] <;> omega)) ?_)) ?_
    refine runS_drop 1 (Nat.zero_le _) rfl (by repeat (first | exact .nil | refine .row (fun j hj => rfl) ?_ | refine .box rfl ?_ | refine .fam (fun k j hk hj => rfl) ?_ | refine .loop (scrub_under _ _) ?_ | refine .dfr ?_ | refine .gone ?_ | refine .map (fun p hp => by (obtain ⟨k, _, rfl⟩ := List.mem_map.1 hp; rfl)) ?_)) rfl rfl rfl (by repeat (first | exact .nil | refine .cons rfl rfl rfl (scrub_under _ _) ?_)) ?_
    refine ih ⟨i + 1, n / 10, acc ++ [n % 10]⟩ _ _ (by dsimp only; omega) ⟨⟨rfl, rfl, by dsimp only; rw [hl']; rfl, congrArg iv e2, congrArg iv hw1⟩, by dsimp only; rw [hl'], by dsimp only; omega, by dsimp only; omega, ?_, by dsimp only; omega, ?_, ?_⟩
    · dsimp only
      intro h
      by_cases hA : i < A.length
      · omega
      · by_cases hB : i < B.length
        · omega
        · have h1 := hda2 hA
          have h2 := hdb2 hB
          omega
    · intro d hd
      rcases List.mem_append.1 hd with hd | hd
      · exact hdig d hd
      · have : d = n % 10 := by simpa using hd
        omega
    · dsimp only
      rw [val_app, hai]
      have e3 : val [n % 10] = n % 10 := by show n % 10 + 10 * 0 = _; omega
      have e4 : c + val (A.drop i) + val (B.drop i) = n % 10 + 10 * (n / 10 + val (A.drop (i + 1)) + val (B.drop (i + 1))) := by omega
      rw [e3, ← hval, e4, Nat.pow_succ, Nat.mul_add (10 ^ i), Nat.mul_assoc (10 ^ i) 10]
      omega
  · have hc := of_decide_eq_false (hcd.symm.trans h)
    have hxy : val acc = x + y := by
      rw [List.drop_eq_nil_of_le (by omega), List.drop_eq_nil_of_le (by omega)] at hval
      have hc0 : c = 0 := by omega
      rw [hc0] at hval
      simpa [val] using hval
    refine runS_x (I := inf) (J := jnf) ⟨false, false, [], 0, 0⟩ 9999 rfl (by repeat (first | exact obs_nil | refine obs_draw (by kernel_rfl) ?_ | refine obs_same ?_ | refine obs_and ?_ | refine obs_by (by (simp [inB] <;> omega)) ?_)) ?_
    refine runS_freeze 53 rfl rfl rfl (fun j hj => rfl) ?_
    refine runS_call rfl rfl rfl rfl rfl rfl rfl (r_trim none acc (by omega) hdig) ?_
    refine runS_x (I := inf) (J := jnf) ⟨false, false, [], 0, 0⟩ 9999 rfl (by repeat (first | exact obs_nil | refine obs_draw (by kernel_rfl) ?_ | refine obs_same ?_ | refine obs_and ?_ | refine obs_by (by (simp [inB] <;> omega)) ?_)) ?_
    refine runS_ret (I := inf) 0 rfl (Nat.le_refl _) rfl .nil rfl ⟨?_, rfl⟩
    unfold trim
    rw [hxy]
    rfl
end Go.Iron.Tryz

/- The token seat: powers, whole numbers, what is right of values. -/
namespace Go.Iron.Tryz
open Go.Proofs Go.RowKit Go.Iron.Tok Go.Iron.Dg

theorem r_base (kd p q n : Int) (vy : Bool) (pc : Str) : CallT Tryz.prog 23 [.agg [iv kd, iv p, iv q, iv n, bv vy, sv pc]] [] (fun o A => o = .ret (iv (if kd = 1 then 2 else 10)) ∧ A = []) := by
  refine callS_body (n := 6) rfl rfl fun w ρ X => ?_
  refine runS_x (I := inf) (J := jnf) ⟨false, false, [], 0, 0⟩ 9999 rfl (by repeat (first | exact obs_nil | refine obs_draw (by kernel_rfl) ?_ | refine obs_same ?_ | refine obs_and ?_ | refine obs_by (by (simp [inB] <;> omega)) ?_)) ?_
  refine runS_cond rfl (fun h => ?_) (fun h => ?_)
  · have hk : kd = 1 := by simpa using (show (kd == 1) = true from h)
    refine runS_x (I := inf) (J := jnf) ⟨false, false, [], 0, 0⟩ 9999 rfl (by repeat (first | exact obs_nil | refine obs_draw (by kernel_rfl) ?_ | refine obs_same ?_ | refine obs_and ?_ | refine obs_by (by (simp [inB] <;> omega)) ?_)) ?_
    refine runS_ret (I := inf) 0 rfl (Nat.le_refl _) rfl .nil rfl ⟨?_, rfl⟩
    rw [if_pos hk]
    rfl
  · have hk : ¬ kd = 1 := by simpa using (show (kd == 1) = false from h)
    refine runS_x (I := inf) (J := jnf) ⟨false, false, [], 0, 0⟩ 9999 rfl (by repeat (first | exact obs_nil | refine obs_draw (by kernel_rfl) ?_ | refine obs_same ?_ | refine obs_and ?_ | refine obs_by (by (simp [inB] <;> omega)) ?_)) ?_
    refine runS_ret (I := inf) 0 rfl (Nat.le_refl _) rfl .nil rfl ⟨?_, rfl⟩
    rw [if_neg hk]
    rfl
theorem r_pow10 (n : Nat) (hn : n ≤ 1000) : CallT Tryz.prog 22 [iv 10, iv n] [] (fun o A => o = .ret (natS none (frm (10 ^ n))) ∧ A = []) := by
  refine callS_body (n := 23) rfl rfl fun w ρ X => ?_
  refine runS_x (I := inf) (J := jnf) ⟨false, false, [], 0, 0⟩ 9999 rfl (by repeat (first | exact obs_nil | refine obs_draw (by kernel_rfl) ?_ | refine obs_same ?_ | refine obs_and ?_ | refine obs_by (by (simp [inB] <;> omega)) ?_)) ?_
  refine runS_cond rfl (fun h => ?_) (fun h => by cases h)
  have hl' : (List.replicate n 0 ++ [1]).length = n + 1 := by simp
  refine runS_x (I := inf) (J := jnf) ⟨false, false, [], 0, 0⟩ 9999 rfl (by repeat (first | exact obs_nil | refine obs_draw (by kernel_rfl) ?_ | refine obs_same ?_ | refine obs_and ?_ | refine obs_by (by (simp [inB] <;> omega)) ?_)) ?_
  refine runS_tell 0 (natR (List.replicate n 0 ++ [1])) rfl (m' := n + 1) rfl (fun i hi => ?_) rfl ?_
  · show natR (List.replicate n 0 ++ [1]) i = appR n _ _ i
    unfold natR encR
    by_cases h : i < n
    · rw [appR_lt h, List.getD_eq_getElem?_getD, List.getElem?_append_left (by simpa using h), List.getElem?_replicate, if_pos h]
      rfl
    · have hie : i = n := by omega
      subst hie
      rw [appR_ge (Nat.le_refl _), List.getD_eq_getElem?_getD, List.getElem?_append_right (by simp), List.length_replicate, Nat.sub_self]
      rfl
  refine runS_freeze 4 rfl rfl rfl (fun j hj => rfl) ?_
  refine runS_ret (I := inf) 0 rfl (Nat.le_refl _) rfl .nil rfl ⟨?_, rfl⟩
  rw [frm_pow]
  unfold natS
  rw [hl']
  rfl
theorem frm_one : frm 1 = [1] := by rw [frm_pos (by decide)]; show 1 % 10 :: frm (1 / 10) = _; rw [show 1 / 10 = 0 from rfl, frm_zero]
theorem r_pow2 (n : Nat) (hn : n ≤ 60) : CallT Tryz.prog 22 [iv 2, iv n] [] (fun o A => o = .ret (natS none (frm (2 ^ n))) ∧ A = []) := by
  refine callS_body (n := 23) rfl rfl fun w ρ X => ?_
  refine runS_x (I := inf) (J := jnf) ⟨false, false, [], 0, 0⟩ 9999 rfl (by repeat (first | exact obs_nil | refine obs_draw (by kernel_rfl) ?_ | refine obs_same ?_ | refine obs_and ?_ | refine obs_by (by (simp [inB] <;> omega)) ?_)) ?_
  refine runS_cond rfl (fun h => by cases h) (fun h => ?_)
  refine runS_x (I := inf) (J := jnf) ⟨false, false, [], 0, 0⟩ 9999 rfl (by repeat (first | exact obs_nil | refine obs_draw (by kernel_rfl) ?_ | refine obs_same ?_ | refine obs_and ?_ | refine obs_by (by (simp [inB] <;> omega)) ?_)) ?_
  refine runS_tell 0 (natR (frm 1)) rfl (m' := 1) rfl (fun i hi => by
    have : i = 0 := by omega
    subst this
    rw [frm_one]
    rfl) rfl ?_
  refine runS_freeze 5 rfl rfl rfl (fun j hj => rfl) ?_
  refine runS_drop 0 (Nat.zero_le _) rfl (by repeat (first | exact .nil | refine .row (fun j hj => rfl) ?_ | refine .box rfl ?_ | refine .fam (fun k j hk hj => rfl) ?_ | refine .loop (scrub_under _ _) ?_ | refine .dfr ?_ | refine .gone ?_ | refine .map (fun p hp => by (obtain ⟨k, _, rfl⟩ := List.mem_map.1 hp; rfl)) ?_)) rfl rfl rfl (by repeat (first | exact .nil | refine .cons rfl rfl rfl (scrub_under _ _) ?_)) ?_
  refine runS_while (fun (i : Nat) τ ar => (τ 1 = iv n ∧ τ 5 = natS none (frm (2 ^ i)) ∧ τ 6 = iv i) ∧ ar = [] ∧ i ≤ n) (fun i => n - i) 0 ⟨⟨rfl, by rw [Nat.pow_zero]; unfold natS; rw [show (frm 1).length = 1 by rw [frm_one]; rfl]; rfl, rfl⟩, rfl, Nat.zero_le _⟩ ?_
  rintro i τ' ar' ⟨⟨g1, g5, g6⟩, rfl, hi⟩ ih
  refine runS_says 1 (by exact g1) (Says.refl _) ?_; refine runS_says 5 (by exact g5) (Says.refl _) ?_; refine runS_says 6 (by exact g6) (Says.refl _) ?_
  refine runS_x (I := inf) (J := jnf) ⟨false, false, [], 0, 0⟩ 9999 rfl (by repeat (first | exact obs_nil | refine obs_draw (by kernel_rfl) ?_ | refine obs_same ?_ | refine obs_and ?_ | refine obs_by (by (simp [inB] <;> omega)) ?_)) ?_
  refine runS_cond rfl (fun h => ?_) (fun h => ?_)
  · have hlt : i < n := by simp at h; omega
    have hw : IntKind.wrap .i64 ((i : Int) + 1) = ((i + 1 : Nat) : Int) := by rw [w64 (by omega) (by omega)]; rfl
    have hb : 2 ^ i < 4611686018427387904 := Nat.lt_of_lt_of_le (Nat.pow_lt_pow_right (by decide) (show i < 62 by omega)) (by decide)
    have hpl := r_plus none none (2 ^ i) (2 ^ i) hb hb
    rw [show 2 ^ i + 2 ^ i = 2 ^ (i + 1) by rw [Nat.pow_succ]; omega] at hpl
    refine runS_x (I := inf) (J := jnf) ⟨false, false, [], 0, 0⟩ 9999 rfl (by repeat (first | exact obs_nil | refine obs_draw (by kernel_rfl) ?_ | refine obs_same ?_ | refine obs_and ?_ | refine obs_by (by (simp [inB] <;> omega)) ?_)) ?_
    refine runS_call rfl rfl rfl rfl rfl rfl rfl hpl ?_
    refine runS_x (I := inf) (J := jnf) ⟨false, false, [], 0, 0⟩ 9999 rfl (by repeat (first | exact obs_nil | refine obs_draw (by kernel_rfl) ?_ | refine obs_same ?_ | refine obs_and ?_ | refine obs_by (by (simp [inB] <;> omega)) ?_)) ?_
    exact ih (i + 1) _ _ (by omega) ⟨⟨rfl, rfl, congrArg iv hw⟩, rfl, hlt⟩
  · have hlt : i = n := by simp at h; omega
    subst hlt
    refine runS_x (I := inf) (J := jnf) ⟨false, false, [], 0, 0⟩ 9999 rfl (by repeat (first | exact obs_nil | refine obs_draw (by kernel_rfl) ?_ | refine obs_same ?_ | refine obs_and ?_ | refine obs_by (by (simp [inB] <;> omega)) ?_)) ?_
    refine runS_ret (I := inf) 0 rfl (Nat.le_refl _) rfl .nil rfl ⟨?_, rfl⟩
    rfl
theorem r_whole (n : Nat) (hn : n < 4611686018427387904) : CallT Tryz.prog 25 [iv n] [] (fun o A => o = .ret (.agg [bv false, natS none (frm n), natS none [1]]) ∧ A = []) := by
  refine callS_body (n := 16) rfl rfl fun w ρ X => ?_
  refine runS_x (I := inf) (J := jnf) ⟨false, false, [], 0, 0⟩ 9 rfl (by repeat (first | exact obs_nil | refine obs_draw (by kernel_rfl) ?_ | refine obs_same ?_ | refine obs_and ?_ | refine obs_by (by (simp [inB] <;> omega)) ?_)) ?_
  refine runS_tell 1 (natR [1]) rfl (m' := 1) rfl (fun i hi => by
    have : i = 0 := by omega
    subst this
    rfl) rfl ?_
  refine runS_freeze 6 rfl rfl rfl (fun j hj => rfl) ?_
  refine runS_x (I := inf) (J := jnf) ⟨false, false, [], 0, 0⟩ 9999 rfl (by repeat (first | exact obs_nil | refine obs_draw (by kernel_rfl) ?_ | refine obs_same ?_ | refine obs_and ?_ | refine obs_by (by (simp [inB] <;> omega)) ?_)) ?_
  refine runS_cond rfl (fun h => by have h0 : (n : Int) < 0 := of_decide_eq_true h; omega) (fun h => ?_)
  refine runS_x (I := inf) (J := jnf) ⟨false, false, [], 0, 0⟩ 9999 rfl (by repeat (first | exact obs_nil | refine obs_draw (by kernel_rfl) ?_ | refine obs_same ?_ | refine obs_and ?_ | refine obs_by (by (simp [inB] <;> omega)) ?_)) ?_
  refine runS_call rfl rfl rfl rfl rfl rfl rfl (r_from n hn) ?_
  refine runS_x (I := inf) (J := jnf) ⟨false, false, [], 0, 0⟩ 9999 rfl (by repeat (first | exact obs_nil | refine obs_draw (by kernel_rfl) ?_ | refine obs_same ?_ | refine obs_and ?_ | refine obs_by (by (simp [inB] <;> omega)) ?_)) ?_
  refine runS_ret (I := inf) 0 rfl (Nat.le_refl _) rfl .nil rfl ⟨?_, rfl⟩
  have h0 : decide ((n : Int) < 0) = false := by simp
  rw [show decide ((n : Int) < 0) = false from h0]
  rfl
theorem r_bits (s : Str) (hs : s.length ≤ 100000) : CallT Tryz.prog 42 [sv s] [] (fun o A => o = .ret (bv (s.all fun b => b.toNat == 48 || b.toNat == 49)) ∧ A = []) := by
  refine callS_body (n := 20) rfl rfl fun w ρ X => ?_
  refine runS_x (I := inf) (J := jnf) ⟨false, false, [], 0, 0⟩ 9999 rfl (by repeat (first | exact obs_nil | refine obs_draw (by kernel_rfl) ?_ | refine obs_same ?_ | refine obs_and ?_ | refine obs_by (by (simp [inB] <;> omega)) ?_)) ?_
  refine runS_while (fun (i : Nat) τ ar => (τ 0 = sv s ∧ τ 3 = iv i) ∧ ar = [] ∧ i ≤ s.length ∧ ∀ j, j < i → byt s j = 48 ∨ byt s j = 49) (fun i => s.length - i) 0 ⟨⟨rfl, rfl⟩, rfl, Nat.zero_le _, fun j hj => by omega⟩ ?_
  rintro i τ' ar' ⟨⟨g0, g3⟩, rfl, hi, hall⟩ ih
  refine runS_says 0 (by exact g0) (Says.refl _) ?_; refine runS_says 3 (by exact g3) (Says.refl _) ?_
  refine runS_x (I := inf) (J := jnf) ⟨false, false, [], 0, 0⟩ 9999 rfl (by repeat (first | exact obs_nil | refine obs_draw (by kernel_rfl) ?_ | refine obs_same ?_ | refine obs_and ?_ | refine obs_by (by (simp [inB, blS] <;> omega)) ?_)) ?_
  refine runS_cond rfl (fun h1 => ?_) (fun h1 => ?_)
  · have hil : i < s.length := by
      have : decide ((i : Int) < (s.length : Int)) = true := h1
      simp at this
      omega
    have hw1 : IntKind.wrap .i64 ((i : Int) + 1) = ((i + 1 : Nat) : Int) := by rw [w64 (by omega) (by omega)]; rfl
    refine runS_x (I := inf) (J := jnf) ⟨false, false, [], 0, 0⟩ 9999 rfl (by repeat (first | exact obs_nil | refine obs_draw (by kernel_rfl) ?_ | refine obs_same ?_ | refine obs_and ?_ | refine obs_by (by (simp [inB, blS, hil] <;> omega)) ?_)) ?_
    have hcd : (if (!(((byt s i : Nat) : Int) == 48)) = true then (!(((byt s i : Nat) : Int) == 49)) else false) = !decide (byt s i = 48 ∨ byt s i = 49) := by
      rw [Bool.eq_iff_iff]
      by_cases h1 : byt s i = 48 <;> by_cases h2 : byt s i = 49 <;> simp [h1, h2] <;> omega
    refine runS_cond rfl (fun h2 => ?_) (fun h2 => ?_)
    · have hno : ¬ (byt s i = 48 ∨ byt s i = 49) := by
        have := hcd.symm.trans h2
        simpa using this
      refine runS_x (I := inf) (J := jnf) ⟨false, false, [], 0, 0⟩ 9999 rfl (by repeat (first | exact obs_nil | refine obs_draw (by kernel_rfl) ?_ | refine obs_same ?_ | refine obs_and ?_ | refine obs_by (by (simp [inB] <;> omega)) ?_)) ?_
      refine runS_ret (I := inf) 0 rfl (Nat.le_refl _) rfl .nil rfl ⟨?_, rfl⟩
      refine congrArg (fun x => Out.ret (bv x)) ?_
      symm
      rw [← Bool.not_eq_true, List.all_eq_true]
      intro hh
      have := hh _ (List.getElem_mem hil)
      rw [← byt_get hil] at this
      exact hno (by simpa using this)
    · have hyes : byt s i = 48 ∨ byt s i = 49 := by
        have := hcd.symm.trans h2
        have h3 : decide (byt s i = 48 ∨ byt s i = 49) = true := by
          cases h : decide (byt s i = 48 ∨ byt s i = 49) with
          | true => rfl
          | false => rw [h] at this; cases this
        exact of_decide_eq_true h3
      refine runS_x (I := inf) (J := jnf) ⟨false, false, [], 0, 0⟩ 9999 rfl (by repeat (first | exact obs_nil | refine obs_draw (by kernel_rfl) ?_ | refine obs_same ?_ | refine obs_and ?_ | refine obs_by (by (simp [inB] <;> omega)) ?_)) ?_
      refine ih (i + 1) _ _ (by omega) ⟨⟨rfl, congrArg iv hw1⟩, rfl, hil, fun j hj => ?_⟩
      by_cases hji : j = i
      · subst hji; exact hyes
      · exact hall j (by omega)
  · have hie : i = s.length := by
      have : decide ((i : Int) < (s.length : Int)) = false := h1
      simp at this
      omega
    subst hie
    refine runS_x (I := inf) (J := jnf) ⟨false, false, [], 0, 0⟩ 9999 rfl (by repeat (first | exact obs_nil | refine obs_draw (by kernel_rfl) ?_ | refine obs_same ?_ | refine obs_and ?_ | refine obs_by (by (simp [inB] <;> omega)) ?_)) ?_
    refine runS_ret (I := inf) 0 rfl (Nat.le_refl _) rfl .nil rfl ⟨?_, rfl⟩
    refine congrArg (fun x => Out.ret (bv x)) ?_
    symm
    rw [List.all_eq_true]
    intro b hb
    obtain ⟨j, hj, rfl⟩ := List.mem_iff_getElem.1 hb
    have := hall j hj
    rw [byt_get hj] at this
    simpa using this
end Go.Iron.Tryz

/- The token seat: types and values that constants have are right. -/
namespace Go.Iron.Tryz
open Go.Proofs Go.RowKit Go.Iron.Tok Go.Iron.Dg

@[reducible] def tyE (kd p q n : Int) : List AV := [iv kd, iv p, iv q, iv n, bv false, sv []]
@[reducible] def vaE (kd n q : Int) (s : Str) : List AV := [iv kd, iv n, iv q, sv s]
theorem r_valid1 (p q : Int) (h1 : 1 ≤ p) (h2 : p ≤ 31) (h3 : 0 ≤ q) (h4 : q ≤ 31) : CallT Tryz.prog 21 [.agg (tyE 1 p q 0)] [] (fun o A => o = .ret (bv true) ∧ A = []) := by
  refine callS_body (n := 134) rfl rfl fun w ρ X => ?_
  refine runS_x (I := inf) (J := jnf) ⟨false, false, [], 0, 0⟩ 9999 rfl (by repeat (first | exact obs_nil | refine obs_draw (by kernel_rfl) ?_ | refine obs_same ?_ | refine obs_and ?_ | refine obs_by (by (simp [inB] <;> omega)) ?_)) ?_
  refine runS_callU rfl rfl (by first | exact .v rfl rfl rfl rfl | exact .o rfl rfl rfl rfl) rfl rfl (by repeat (first | exact .nil | refine .cons (.n rfl) ?_ | refine .cons .o ?_ | refine .cons gok_and ?_)) rfl rfl rfl rfl rfl (fun _ => (r_numeric 1)) ?_
  refine runS_x (I := inf) (J := jnf) ⟨false, false, [], 0, 0⟩ 9999 rfl (by repeat (first | exact obs_nil | refine obs_draw (by kernel_rfl) ?_ | refine obs_same ?_ | refine obs_and ?_ | refine obs_by (by (simp [inB] <;> omega)) ?_)) ?_
  refine runS_cond rfl (fun h => ?_) (fun h => ?_)
  · exact absurd h (by simp [show (bs []).toList = [] from bs_toList [], show (ByteArray.mk #[]).toList = [] from bs_toList []])
  · refine runS_x (I := inf) (J := jnf) ⟨false, false, [], 0, 0⟩ 9999 rfl (by repeat (first | exact obs_nil | refine obs_draw (by kernel_rfl) ?_ | refine obs_same ?_ | refine obs_and ?_ | refine obs_by (by (simp [inB] <;> omega)) ?_)) ?_
    refine runS_cond rfl (fun h => ?_) (fun h => by cases h)
    refine runS_x (I := inf) (J := jnf) ⟨false, false, [], 0, 0⟩ 9999 rfl (by repeat (first | exact obs_nil | refine obs_draw (by kernel_rfl) ?_ | refine obs_same ?_ | refine obs_and ?_ | refine obs_by (by (simp [inB] <;> omega)) ?_)) ?_
    refine runS_ret (I := inf) 0 rfl (Nat.le_refl _) rfl .nil rfl ⟨?_, rfl⟩
    refine congrArg (fun x => Out.ret (bv x)) ?_
    simp
    omega
theorem r_valid2 (p q : Int) (h1 : 1 ≤ p) (h2 : p ≤ 15) (h3 : 0 ≤ q) (h4 : q ≤ 31) : CallT Tryz.prog 21 [.agg (tyE 2 p q 0)] [] (fun o A => o = .ret (bv true) ∧ A = []) := by
  refine callS_body (n := 134) rfl rfl fun w ρ X => ?_
  refine runS_x (I := inf) (J := jnf) ⟨false, false, [], 0, 0⟩ 9999 rfl (by repeat (first | exact obs_nil | refine obs_draw (by kernel_rfl) ?_ | refine obs_same ?_ | refine obs_and ?_ | refine obs_by (by (simp [inB] <;> omega)) ?_)) ?_
  refine runS_callU rfl rfl (by first | exact .v rfl rfl rfl rfl | exact .o rfl rfl rfl rfl) rfl rfl (by repeat (first | exact .nil | refine .cons (.n rfl) ?_ | refine .cons .o ?_ | refine .cons gok_and ?_)) rfl rfl rfl rfl rfl (fun _ => (r_numeric 2)) ?_
  refine runS_x (I := inf) (J := jnf) ⟨false, false, [], 0, 0⟩ 9999 rfl (by repeat (first | exact obs_nil | refine obs_draw (by kernel_rfl) ?_ | refine obs_same ?_ | refine obs_and ?_ | refine obs_by (by (simp [inB] <;> omega)) ?_)) ?_
  refine runS_cond rfl (fun h => ?_) (fun h => ?_)
  · exact absurd h (by simp [show (bs []).toList = [] from bs_toList [], show (ByteArray.mk #[]).toList = [] from bs_toList []])
  · refine runS_x (I := inf) (J := jnf) ⟨false, false, [], 0, 0⟩ 9999 rfl (by repeat (first | exact obs_nil | refine obs_draw (by kernel_rfl) ?_ | refine obs_same ?_ | refine obs_and ?_ | refine obs_by (by (simp [inB] <;> omega)) ?_)) ?_
    refine runS_cond rfl (fun h => by cases h) (fun h => ?_)
    refine runS_x (I := inf) (J := jnf) ⟨false, false, [], 0, 0⟩ 9999 rfl (by repeat (first | exact obs_nil | refine obs_draw (by kernel_rfl) ?_ | refine obs_same ?_ | refine obs_and ?_ | refine obs_by (by (simp [inB] <;> omega)) ?_)) ?_
    refine runS_cond rfl (fun h => ?_) (fun h => by cases h)
    refine runS_x (I := inf) (J := jnf) ⟨false, false, [], 0, 0⟩ 9999 rfl (by repeat (first | exact obs_nil | refine obs_draw (by kernel_rfl) ?_ | refine obs_same ?_ | refine obs_and ?_ | refine obs_by (by (simp [inB] <;> omega)) ?_)) ?_
    refine runS_ret (I := inf) 0 rfl (Nat.le_refl _) rfl .nil rfl ⟨?_, rfl⟩
    refine congrArg (fun x => Out.ret (bv x)) ?_
    simp
    omega
theorem r_valid3 (p : Int) (h1 : 1 ≤ p) (h2 : p ≤ 15) : CallT Tryz.prog 21 [.agg (tyE 3 p 0 0)] [] (fun o A => o = .ret (bv true) ∧ A = []) := by
  refine callS_body (n := 134) rfl rfl fun w ρ X => ?_
  refine runS_x (I := inf) (J := jnf) ⟨false, false, [], 0, 0⟩ 9999 rfl (by repeat (first | exact obs_nil | refine obs_draw (by kernel_rfl) ?_ | refine obs_same ?_ | refine obs_and ?_ | refine obs_by (by (simp [inB] <;> omega)) ?_)) ?_
  refine runS_callU rfl rfl (by first | exact .v rfl rfl rfl rfl | exact .o rfl rfl rfl rfl) rfl rfl (by repeat (first | exact .nil | refine .cons (.n rfl) ?_ | refine .cons .o ?_ | refine .cons gok_and ?_)) rfl rfl rfl rfl rfl (fun _ => (r_numeric 3)) ?_
  refine runS_x (I := inf) (J := jnf) ⟨false, false, [], 0, 0⟩ 9999 rfl (by repeat (first | exact obs_nil | refine obs_draw (by kernel_rfl) ?_ | refine obs_same ?_ | refine obs_and ?_ | refine obs_by (by (simp [inB] <;> omega)) ?_)) ?_
  refine runS_cond rfl (fun h => ?_) (fun h => ?_)
  · exact absurd h (by simp [show (bs []).toList = [] from bs_toList [], show (ByteArray.mk #[]).toList = [] from bs_toList []])
  · refine runS_x (I := inf) (J := jnf) ⟨false, false, [], 0, 0⟩ 9999 rfl (by repeat (first | exact obs_nil | refine obs_draw (by kernel_rfl) ?_ | refine obs_same ?_ | refine obs_and ?_ | refine obs_by (by (simp [inB] <;> omega)) ?_)) ?_
    refine runS_cond rfl (fun h => by cases h) (fun h => ?_)
    refine runS_x (I := inf) (J := jnf) ⟨false, false, [], 0, 0⟩ 9999 rfl (by repeat (first | exact obs_nil | refine obs_draw (by kernel_rfl) ?_ | refine obs_same ?_ | refine obs_and ?_ | refine obs_by (by (simp [inB] <;> omega)) ?_)) ?_
    refine runS_cond rfl (fun h => by cases h) (fun h => ?_)
    refine runS_x (I := inf) (J := jnf) ⟨false, false, [], 0, 0⟩ 9999 rfl (by repeat (first | exact obs_nil | refine obs_draw (by kernel_rfl) ?_ | refine obs_same ?_ | refine obs_and ?_ | refine obs_by (by (simp [inB] <;> omega)) ?_)) ?_
    refine runS_cond rfl (fun h => ?_) (fun h => by cases h)
    refine runS_x (I := inf) (J := jnf) ⟨false, false, [], 0, 0⟩ 9999 rfl (by repeat (first | exact obs_nil | refine obs_draw (by kernel_rfl) ?_ | refine obs_same ?_ | refine obs_and ?_ | refine obs_by (by (simp [inB] <;> omega)) ?_)) ?_
    refine runS_ret (I := inf) 0 rfl (Nat.le_refl _) rfl .nil rfl ⟨?_, rfl⟩
    refine congrArg (fun x => Out.ret (bv x)) ?_
    simp
    omega
theorem r_valid4 (n : Int) (h1 : 0 ≤ n) (h2 : n ≤ 250) : CallT Tryz.prog 21 [.agg (tyE 4 0 0 n)] [] (fun o A => o = .ret (bv true) ∧ A = []) := by
  refine callS_body (n := 134) rfl rfl fun w ρ X => ?_
  refine runS_x (I := inf) (J := jnf) ⟨false, false, [], 0, 0⟩ 9999 rfl (by repeat (first | exact obs_nil | refine obs_draw (by kernel_rfl) ?_ | refine obs_same ?_ | refine obs_and ?_ | refine obs_by (by (simp [inB] <;> omega)) ?_)) ?_
  refine runS_callU rfl rfl (by first | exact .v rfl rfl rfl rfl | exact .o rfl rfl rfl rfl) rfl rfl (by repeat (first | exact .nil | refine .cons (.n rfl) ?_ | refine .cons .o ?_ | refine .cons gok_and ?_)) rfl rfl rfl rfl rfl (fun _ => (r_numeric 4)) ?_
  refine runS_x (I := inf) (J := jnf) ⟨false, false, [], 0, 0⟩ 9999 rfl (by repeat (first | exact obs_nil | refine obs_draw (by kernel_rfl) ?_ | refine obs_same ?_ | refine obs_and ?_ | refine obs_by (by (simp [inB] <;> omega)) ?_)) ?_
  refine runS_cond rfl (fun h => ?_) (fun h => ?_)
  · exact absurd h (by simp [show (bs []).toList = [] from bs_toList [], show (ByteArray.mk #[]).toList = [] from bs_toList []])
  · refine runS_x (I := inf) (J := jnf) ⟨false, false, [], 0, 0⟩ 9999 rfl (by repeat (first | exact obs_nil | refine obs_draw (by kernel_rfl) ?_ | refine obs_same ?_ | refine obs_and ?_ | refine obs_by (by (simp [inB] <;> omega)) ?_)) ?_
    refine runS_cond rfl (fun h => by cases h) (fun h => ?_)
    refine runS_x (I := inf) (J := jnf) ⟨false, false, [], 0, 0⟩ 9999 rfl (by repeat (first | exact obs_nil | refine obs_draw (by kernel_rfl) ?_ | refine obs_same ?_ | refine obs_and ?_ | refine obs_by (by (simp [inB] <;> omega)) ?_)) ?_
    refine runS_cond rfl (fun h => by cases h) (fun h => ?_)
    refine runS_x (I := inf) (J := jnf) ⟨false, false, [], 0, 0⟩ 9999 rfl (by repeat (first | exact obs_nil | refine obs_draw (by kernel_rfl) ?_ | refine obs_same ?_ | refine obs_and ?_ | refine obs_by (by (simp [inB] <;> omega)) ?_)) ?_
    refine runS_cond rfl (fun h => by cases h) (fun h => ?_)
    refine runS_x (I := inf) (J := jnf) ⟨false, false, [], 0, 0⟩ 9999 rfl (by repeat (first | exact obs_nil | refine obs_draw (by kernel_rfl) ?_ | refine obs_same ?_ | refine obs_and ?_ | refine obs_by (by (simp [inB] <;> omega)) ?_)) ?_
    refine runS_cond rfl (fun h => ?_) (fun h => by cases h)
    refine runS_x (I := inf) (J := jnf) ⟨false, false, [], 0, 0⟩ 9999 rfl (by repeat (first | exact obs_nil | refine obs_draw (by kernel_rfl) ?_ | refine obs_same ?_ | refine obs_and ?_ | refine obs_by (by (simp [inB] <;> omega)) ?_)) ?_
    refine runS_cond rfl (fun h => ?_) (fun h => by cases h)
    refine runS_x (I := inf) (J := jnf) ⟨false, false, [], 0, 0⟩ 9999 rfl (by repeat (first | exact obs_nil | refine obs_draw (by kernel_rfl) ?_ | refine obs_same ?_ | refine obs_and ?_ | refine obs_by (by (simp [inB] <;> omega)) ?_)) ?_
    refine runS_ret (I := inf) 0 rfl (Nat.le_refl _) rfl .nil rfl ⟨?_, rfl⟩
    refine congrArg (fun x => Out.ret (bv x)) ?_
    simp
    omega
theorem r_valid5 (n : Int) (h1 : 0 ≤ n) (h2 : n ≤ 250) : CallT Tryz.prog 21 [.agg (tyE 5 0 0 n)] [] (fun o A => o = .ret (bv true) ∧ A = []) := by
  refine callS_body (n := 134) rfl rfl fun w ρ X => ?_
  refine runS_x (I := inf) (J := jnf) ⟨false, false, [], 0, 0⟩ 9999 rfl (by repeat (first | exact obs_nil | refine obs_draw (by kernel_rfl) ?_ | refine obs_same ?_ | refine obs_and ?_ | refine obs_by (by (simp [inB] <;> omega)) ?_)) ?_
  refine runS_callU rfl rfl (by first | exact .v rfl rfl rfl rfl | exact .o rfl rfl rfl rfl) rfl rfl (by repeat (first | exact .nil | refine .cons (.n rfl) ?_ | refine .cons .o ?_ | refine .cons gok_and ?_)) rfl rfl rfl rfl rfl (fun _ => (r_numeric 5)) ?_
  refine runS_x (I := inf) (J := jnf) ⟨false, false, [], 0, 0⟩ 9999 rfl (by repeat (first | exact obs_nil | refine obs_draw (by kernel_rfl) ?_ | refine obs_same ?_ | refine obs_and ?_ | refine obs_by (by (simp [inB] <;> omega)) ?_)) ?_
  refine runS_cond rfl (fun h => ?_) (fun h => ?_)
  · exact absurd h (by simp [show (bs []).toList = [] from bs_toList [], show (ByteArray.mk #[]).toList = [] from bs_toList []])
  · refine runS_x (I := inf) (J := jnf) ⟨false, false, [], 0, 0⟩ 9999 rfl (by repeat (first | exact obs_nil | refine obs_draw (by kernel_rfl) ?_ | refine obs_same ?_ | refine obs_and ?_ | refine obs_by (by (simp [inB] <;> omega)) ?_)) ?_
    refine runS_cond rfl (fun h => by cases h) (fun h => ?_)
    refine runS_x (I := inf) (J := jnf) ⟨false, false, [], 0, 0⟩ 9999 rfl (by repeat (first | exact obs_nil | refine obs_draw (by kernel_rfl) ?_ | refine obs_same ?_ | refine obs_and ?_ | refine obs_by (by (simp [inB] <;> omega)) ?_)) ?_
    refine runS_cond rfl (fun h => by cases h) (fun h => ?_)
    refine runS_x (I := inf) (J := jnf) ⟨false, false, [], 0, 0⟩ 9999 rfl (by repeat (first | exact obs_nil | refine obs_draw (by kernel_rfl) ?_ | refine obs_same ?_ | refine obs_and ?_ | refine obs_by (by (simp [inB] <;> omega)) ?_)) ?_
    refine runS_cond rfl (fun h => by cases h) (fun h => ?_)
    refine runS_x (I := inf) (J := jnf) ⟨false, false, [], 0, 0⟩ 9999 rfl (by repeat (first | exact obs_nil | refine obs_draw (by kernel_rfl) ?_ | refine obs_same ?_ | refine obs_and ?_ | refine obs_by (by (simp [inB] <;> omega)) ?_)) ?_
    refine runS_cond rfl (fun h => by cases h) (fun h => ?_)
    refine runS_x (I := inf) (J := jnf) ⟨false, false, [], 0, 0⟩ 9999 rfl (by repeat (first | exact obs_nil | refine obs_draw (by kernel_rfl) ?_ | refine obs_same ?_ | refine obs_and ?_ | refine obs_by (by (simp [inB] <;> omega)) ?_)) ?_
    refine runS_cond rfl (fun h => ?_) (fun h => by cases h)
    refine runS_x (I := inf) (J := jnf) ⟨false, false, [], 0, 0⟩ 9999 rfl (by repeat (first | exact obs_nil | refine obs_draw (by kernel_rfl) ?_ | refine obs_same ?_ | refine obs_and ?_ | refine obs_by (by (simp [inB] <;> omega)) ?_)) ?_
    refine runS_ret (I := inf) 0 rfl (Nat.le_refl _) rfl .nil rfl ⟨?_, rfl⟩
    refine congrArg (fun x => Out.ret (bv x)) ?_
    simp
    omega
end Go.Iron.Tryz

/- The token seat: values that constants have are right, and their types have them. -/
namespace Go.Iron.Tryz
open Go.Proofs Go.RowKit Go.Iron.Tok Go.Iron.Dg

theorem nz10 : nz (10 : Int) = true := rfl
theorem r_right1 (n q : Int) (h1 : -2147483648 < n) (h2 : n < 2147483648) (h3 : 0 ≤ q) (h4 : q ≤ 31) : CallT Tryz.prog 20 [.agg (vaE 1 n q [])] [] (fun o A => o = .ret (bv true) ∧ A = []) := by
  refine callS_body (n := 176) rfl rfl fun w ρ X => ?_
  refine runS_x (I := inf) (J := jnf) ⟨false, false, [], 0, 0⟩ 9999 rfl (by repeat (first | exact obs_nil | refine obs_draw (by kernel_rfl) ?_ | refine obs_same ?_ | refine obs_and ?_ | refine obs_by (by (simp [inB] <;> omega)) ?_)) ?_
  refine runS_call rfl rfl rfl rfl rfl rfl rfl (r_numeric 1) ?_
  refine runS_x (I := inf) (J := jnf) ⟨false, false, [], 0, 0⟩ 9999 rfl (by repeat (first | exact obs_nil | refine obs_draw (by kernel_rfl) ?_ | refine obs_same ?_ | refine obs_and ?_ | refine obs_by (by (simp [inB] <;> omega)) ?_)) ?_
  refine runS_cond rfl (fun h => ?_) (fun h => by cases h)
  refine runS_x (I := inf) (J := jnf) ⟨false, false, [], 0, 0⟩ 9999 rfl (by repeat (first | exact obs_nil | refine obs_draw (by kernel_rfl) ?_ | refine obs_same ?_ | refine obs_and ?_ | refine obs_by (by (simp [inB] <;> omega)) ?_)) ?_
  refine runS_cond rfl (fun h => ?_) (fun h => ?_)
  · exact absurd h (by simp [show (bs []).toList = [] from bs_toList [], show (ByteArray.mk #[]).toList = [] from bs_toList []])
  refine runS_x (I := inf) (J := jnf) ⟨false, false, [], 0, 0⟩ 9999 rfl (by repeat (first | exact obs_nil | refine obs_draw (by kernel_rfl) ?_ | refine obs_same ?_ | refine obs_and ?_ | refine obs_by (by (simp [inB] <;> omega)) ?_)) ?_
  refine runS_cond rfl (fun h => ?_) (fun h => by cases h)
  refine runS_x (I := inf) (J := jnf) ⟨false, false, [], 0, 0⟩ 9999 rfl (by repeat (first | exact obs_nil | refine obs_draw (by kernel_rfl) ?_ | refine obs_same ?_ | refine obs_and ?_ | refine obs_by (by (simp [inB] <;> omega)) ?_)) ?_
  refine runS_ret (I := inf) 0 rfl (Nat.le_refl _) rfl .nil rfl ⟨?_, rfl⟩
  refine congrArg (fun x => Out.ret (bv x)) ?_
  simp
  omega
theorem r_right2 (n q : Int) (h1 : -1000000000000000 < n) (h2 : n < 1000000000000000) (h3 : 0 ≤ q) (h4 : q ≤ 31) : CallT Tryz.prog 20 [.agg (vaE 2 n q [])] [] (fun o A => o = .ret (bv true) ∧ A = []) := by
  refine callS_body (n := 176) rfl rfl fun w ρ X => ?_
  refine runS_x (I := inf) (J := jnf) ⟨false, false, [], 0, 0⟩ 9999 rfl (by repeat (first | exact obs_nil | refine obs_draw (by kernel_rfl) ?_ | refine obs_same ?_ | refine obs_and ?_ | refine obs_by (by (simp [inB] <;> omega)) ?_)) ?_
  refine runS_call rfl rfl rfl rfl rfl rfl rfl (r_numeric 2) ?_
  refine runS_x (I := inf) (J := jnf) ⟨false, false, [], 0, 0⟩ 9999 rfl (by repeat (first | exact obs_nil | refine obs_draw (by kernel_rfl) ?_ | refine obs_same ?_ | refine obs_and ?_ | refine obs_by (by (simp [inB] <;> omega)) ?_)) ?_
  refine runS_cond rfl (fun h => ?_) (fun h => by cases h)
  refine runS_x (I := inf) (J := jnf) ⟨false, false, [], 0, 0⟩ 9999 rfl (by repeat (first | exact obs_nil | refine obs_draw (by kernel_rfl) ?_ | refine obs_same ?_ | refine obs_and ?_ | refine obs_by (by (simp [inB] <;> omega)) ?_)) ?_
  refine runS_cond rfl (fun h => ?_) (fun h => ?_)
  · exact absurd h (by simp [show (bs []).toList = [] from bs_toList [], show (ByteArray.mk #[]).toList = [] from bs_toList []])
  refine runS_x (I := inf) (J := jnf) ⟨false, false, [], 0, 0⟩ 9999 rfl (by repeat (first | exact obs_nil | refine obs_draw (by kernel_rfl) ?_ | refine obs_same ?_ | refine obs_and ?_ | refine obs_by (by (simp [inB] <;> omega)) ?_)) ?_
  refine runS_cond rfl (fun h => by cases h) (fun h => ?_)
  refine runS_x (I := inf) (J := jnf) ⟨false, false, [], 0, 0⟩ 9999 rfl (by repeat (first | exact obs_nil | refine obs_draw (by kernel_rfl) ?_ | refine obs_same ?_ | refine obs_and ?_ | refine obs_by (by (simp [inB] <;> omega)) ?_)) ?_
  refine runS_cond rfl (fun h => ?_) (fun h => by cases h)
  refine runS_x (I := inf) (J := jnf) ⟨false, false, [], 0, 0⟩ 9999 rfl (by repeat (first | exact obs_nil | refine obs_draw (by kernel_rfl) ?_ | refine obs_same ?_ | refine obs_and ?_ | refine obs_by (by (simp [inB] <;> omega)) ?_)) ?_
  refine runS_ret (I := inf) 0 rfl (Nat.le_refl _) rfl .nil rfl ⟨?_, rfl⟩
  refine congrArg (fun x => Out.ret (bv x)) ?_
  simp
  omega
def rightF (n : Nat) (q : Int) : Bool :=
  if n = 0 then decide (q = 0)
  else if n ≥ 1000000000000000 ∨ n % 10 = 0 ∨ q < -1000 ∨ q > 1000 then false
  else decide (-75 ≤ ((frm n).length : Int) + q - 1) && decide (((frm n).length : Int) + q - 1 ≤ 75)
theorem r_right3 (n : Nat) (q : Int) (hn : n < 4611686018427387904) (hq1 : -4611686018427387904 < q) (hq2 : q < 4611686018427387904) : CallT Tryz.prog 20 [.agg (vaE 3 n q [])] [] (fun o A => o = .ret (bv (rightF n q)) ∧ A = []) := by
  refine callS_body (n := 176) rfl rfl fun w ρ X => ?_
  refine runS_x (I := inf) (J := jnf) ⟨false, false, [], 0, 0⟩ 9999 rfl (by repeat (first | exact obs_nil | refine obs_draw (by kernel_rfl) ?_ | refine obs_same ?_ | refine obs_and ?_ | refine obs_by (by (simp [inB] <;> omega)) ?_)) ?_
  refine runS_call rfl rfl rfl rfl rfl rfl rfl (r_numeric 3) ?_
  refine runS_x (I := inf) (J := jnf) ⟨false, false, [], 0, 0⟩ 9999 rfl (by repeat (first | exact obs_nil | refine obs_draw (by kernel_rfl) ?_ | refine obs_same ?_ | refine obs_and ?_ | refine obs_by (by (simp [inB] <;> omega)) ?_)) ?_
  refine runS_cond rfl (fun h => ?_) (fun h => by cases h)
  refine runS_x (I := inf) (J := jnf) ⟨false, false, [], 0, 0⟩ 9999 rfl (by repeat (first | exact obs_nil | refine obs_draw (by kernel_rfl) ?_ | refine obs_same ?_ | refine obs_and ?_ | refine obs_by (by (simp [inB] <;> omega)) ?_)) ?_
  refine runS_cond rfl (fun h => ?_) (fun h => ?_)
  · exact absurd h (by simp [show (bs []).toList = [] from bs_toList [], show (ByteArray.mk #[]).toList = [] from bs_toList []])
  refine runS_x (I := inf) (J := jnf) ⟨false, false, [], 0, 0⟩ 9999 rfl (by repeat (first | exact obs_nil | refine obs_draw (by kernel_rfl) ?_ | refine obs_same ?_ | refine obs_and ?_ | refine obs_by (by (simp [inB] <;> omega)) ?_)) ?_
  refine runS_cond rfl (fun h => by cases h) (fun h => ?_)
  refine runS_x (I := inf) (J := jnf) ⟨false, false, [], 0, 0⟩ 9999 rfl (by repeat (first | exact obs_nil | refine obs_draw (by kernel_rfl) ?_ | refine obs_same ?_ | refine obs_and ?_ | refine obs_by (by (simp [inB] <;> omega)) ?_)) ?_
  refine runS_cond rfl (fun h => by cases h) (fun h => ?_)
  refine runS_x (I := inf) (J := jnf) ⟨false, false, [], 0, 0⟩ 9999 rfl (by repeat (first | exact obs_nil | refine obs_draw (by kernel_rfl) ?_ | refine obs_same ?_ | refine obs_and ?_ | refine obs_by (by (simp [inB] <;> omega)) ?_)) ?_
  refine runS_cond rfl (fun h => ?_) (fun h => by cases h)
  refine runS_x (I := inf) (J := jnf) ⟨false, false, [], 0, 0⟩ 9999 rfl (by repeat (first | exact obs_nil | refine obs_draw (by kernel_rfl) ?_ | refine obs_same ?_ | refine obs_and ?_ | refine obs_by (by (simp [inB] <;> omega)) ?_)) ?_
  refine runS_cond rfl (fun h => ?_) (fun h => ?_)
  · have h0 : n = 0 := by
      have : ((n : Int) == 0) = true := h
      simp at this
      omega
    refine runS_x (I := inf) (J := jnf) ⟨false, false, [], 0, 0⟩ 9999 rfl (by repeat (first | exact obs_nil | refine obs_draw (by kernel_rfl) ?_ | refine obs_same ?_ | refine obs_and ?_ | refine obs_by (by (simp [inB] <;> omega)) ?_)) ?_
    refine runS_ret (I := inf) 0 rfl (Nat.le_refl _) rfl .nil rfl ⟨?_, rfl⟩
    rw [rightF, if_pos h0]
    rfl
  · have h0 : ¬ n = 0 := by
      have : ((n : Int) == 0) = false := h
      simp at this
      omega
    refine runS_x (I := inf) (J := jnf) ⟨false, false, [], 0, 0⟩ 9999 rfl (by repeat (first | exact obs_nil | refine obs_draw (by kernel_rfl) ?_ | refine obs_same ?_ | refine obs_and ?_ | refine obs_by (by first | exact (fun _ => nz10) | (simp [inB] <;> omega)) ?_)) ?_
    have hcd : (if (if (if (if decide ((n : Int) ≤ -1000000000000000) = true then true else decide ((n : Int) ≥ 1000000000000000)) = true then true else (((n : Int)).tmod 10 == 0)) = true then true else decide (q < -1000)) = true then true else decide (q > 1000)) = decide (n ≥ 1000000000000000 ∨ n % 10 = 0 ∨ q < -1000 ∨ q > 1000) := by
      have e1 : ((n : Int)).tmod 10 = ((n % 10 : Nat) : Int) := by rw [Int.natCast_emod, Int.tmod_eq_emod_of_nonneg (by omega)]; rfl
      have e2 : decide ((n : Int) ≤ -1000000000000000) = false := by simp; omega
      rw [e1, e2, Bool.eq_iff_iff]
      by_cases h1 : n ≥ 1000000000000000 <;> by_cases h2 : n % 10 = 0 <;> by_cases h3 : q < -1000 <;> by_cases h4 : q > 1000 <;> simp [h1, h2, h3, h4] <;> omega
    refine runS_cond rfl (fun h2 => ?_) (fun h2 => ?_)
    · have hc := of_decide_eq_true (hcd.symm.trans h2)
      refine runS_x (I := inf) (J := jnf) ⟨false, false, [], 0, 0⟩ 9999 rfl (by repeat (first | exact obs_nil | refine obs_draw (by kernel_rfl) ?_ | refine obs_same ?_ | refine obs_and ?_ | refine obs_by (by (simp [inB] <;> omega)) ?_)) ?_
      refine runS_ret (I := inf) 0 rfl (Nat.le_refl _) rfl .nil rfl ⟨?_, rfl⟩
      rw [rightF, if_neg h0, if_pos hc]
      rfl
    · have hc := of_decide_eq_false (hcd.symm.trans h2)
      have hsz := r_size (n : Int) (by omega)
      rw [Int.natAbs_natCast] at hsz
      have hl : (frm n).length ≤ 19 := frm_len_lt.2 (Nat.lt_of_lt_of_le hn (by decide))
      have hwr : IntKind.wrap .i64 (IntKind.wrap .i64 (((frm n).length : Int) + q) - 1) = ((frm n).length : Int) + q - 1 := by rw [w64 (x := ((frm n).length : Int) + q) (by omega) (by omega), w64 (by omega) (by omega)]
      refine runS_x (I := inf) (J := jnf) ⟨false, false, [], 0, 0⟩ 9999 rfl (by repeat (first | exact obs_nil | refine obs_draw (by kernel_rfl) ?_ | refine obs_same ?_ | refine obs_and ?_ | refine obs_by (by (simp [inB] <;> omega)) ?_)) ?_
      refine runS_draw 7 (by kernel_rfl) (lexj_x (I := inf) (J := jnf) 99 rfl rfl (by repeat (first | exact obs_nil | refine obs_same ?_ | refine obs_and ?_ | refine obs_by (by (simp [inB] <;> omega)) ?_)) (lexj_call rfl rfl rfl rfl rfl rfl rfl rfl hsz (lexj_x (I := inf) (J := jnf) 99 rfl rfl (by repeat (first | exact obs_nil | refine obs_same ?_ | refine obs_and ?_ | refine obs_by (by (simp [inB] <;> omega)) ?_)) lexj_nil))) ?_
      refine runS_x (I := inf) (J := jnf) ⟨false, false, [], 0, 0⟩ 9999 rfl (by repeat (first | exact obs_nil | refine obs_draw (by kernel_rfl) ?_ | refine obs_same ?_ | refine obs_and ?_ | refine obs_by (by (simp [inB] <;> omega)) ?_)) ?_
      refine runS_ret (I := inf) 0 rfl (Nat.le_refl _) rfl .nil rfl ⟨?_, rfl⟩
      rw [rightF, if_neg h0, if_neg hc]
      refine congrArg (fun x => Out.ret (bv x)) ?_
      rw [hwr]
      by_cases h5 : -75 ≤ ((frm n).length : Int) + q - 1
      · rw [decide_eq_true h5]; rfl
      · rw [decide_eq_false h5]; rfl
theorem r_right4 (s : Str) (hs : s.length ≤ 250) : CallT Tryz.prog 20 [.agg (vaE 4 0 0 s)] [] (fun o A => o = .ret (bv true) ∧ A = []) := by
  refine callS_body (n := 176) rfl rfl fun w ρ X => ?_
  refine runS_x (I := inf) (J := jnf) ⟨false, false, [], 0, 0⟩ 9999 rfl (by repeat (first | exact obs_nil | refine obs_draw (by kernel_rfl) ?_ | refine obs_same ?_ | refine obs_and ?_ | refine obs_by (by (simp [inB] <;> omega)) ?_)) ?_
  refine runS_call rfl rfl rfl rfl rfl rfl rfl (r_numeric 4) ?_
  refine runS_x (I := inf) (J := jnf) ⟨false, false, [], 0, 0⟩ 9999 rfl (by repeat (first | exact obs_nil | refine obs_draw (by kernel_rfl) ?_ | refine obs_same ?_ | refine obs_and ?_ | refine obs_by (by (simp [inB] <;> omega)) ?_)) ?_
  refine runS_cond rfl (fun h => by cases h) (fun h => ?_)
  refine runS_x (I := inf) (J := jnf) ⟨false, false, [], 0, 0⟩ 9999 rfl (by repeat (first | exact obs_nil | refine obs_draw (by kernel_rfl) ?_ | refine obs_same ?_ | refine obs_and ?_ | refine obs_by (by (simp [inB] <;> omega)) ?_)) ?_
  refine runS_cond rfl (fun h => by cases h) (fun h => ?_)
  refine runS_x (I := inf) (J := jnf) ⟨false, false, [], 0, 0⟩ 9999 rfl (by repeat (first | exact obs_nil | refine obs_draw (by kernel_rfl) ?_ | refine obs_same ?_ | refine obs_and ?_ | refine obs_by (by (simp [inB] <;> omega)) ?_)) ?_
  refine runS_cond rfl (fun h => by cases h) (fun h => ?_)
  refine runS_x (I := inf) (J := jnf) ⟨false, false, [], 0, 0⟩ 9999 rfl (by repeat (first | exact obs_nil | refine obs_draw (by kernel_rfl) ?_ | refine obs_same ?_ | refine obs_and ?_ | refine obs_by (by (simp [inB] <;> omega)) ?_)) ?_
  refine runS_cond rfl (fun h => by cases h) (fun h => ?_)
  refine runS_x (I := inf) (J := jnf) ⟨false, false, [], 0, 0⟩ 9999 rfl (by repeat (first | exact obs_nil | refine obs_draw (by kernel_rfl) ?_ | refine obs_same ?_ | refine obs_and ?_ | refine obs_by (by (simp [inB] <;> omega)) ?_)) ?_
  refine runS_cond rfl (fun h => ?_) (fun h => by cases h)
  refine runS_x (I := inf) (J := jnf) ⟨false, false, [], 0, 0⟩ 9999 rfl (by repeat (first | exact obs_nil | refine obs_draw (by kernel_rfl) ?_ | refine obs_same ?_ | refine obs_and ?_ | refine obs_by (by (simp [inB] <;> omega)) ?_)) ?_
  refine runS_cond rfl (fun h => ?_) (fun h => by cases h)
  refine runS_x (I := inf) (J := jnf) ⟨false, false, [], 0, 0⟩ 9999 rfl (by repeat (first | exact obs_nil | refine obs_draw (by kernel_rfl) ?_ | refine obs_same ?_ | refine obs_and ?_ | refine obs_by (by (simp [inB, blS] <;> omega)) ?_)) ?_
  refine runS_ret (I := inf) 0 rfl (Nat.le_refl _) rfl .nil rfl ⟨?_, rfl⟩
  refine congrArg (fun x => Out.ret (bv x)) ?_
  simp [blS]
  exact decide_eq_true (show ((s.length : Int) ≤ 250) by omega)
theorem r_right5 (s : Str) (hs : s.length ≤ 250) (hb : (s.all fun b => b.toNat == 48 || b.toNat == 49) = true) : CallT Tryz.prog 20 [.agg (vaE 5 0 0 s)] [] (fun o A => o = .ret (bv true) ∧ A = []) := by
  refine callS_body (n := 176) rfl rfl fun w ρ X => ?_
  refine runS_x (I := inf) (J := jnf) ⟨false, false, [], 0, 0⟩ 9999 rfl (by repeat (first | exact obs_nil | refine obs_draw (by kernel_rfl) ?_ | refine obs_same ?_ | refine obs_and ?_ | refine obs_by (by (simp [inB] <;> omega)) ?_)) ?_
  refine runS_call rfl rfl rfl rfl rfl rfl rfl (r_numeric 5) ?_
  refine runS_x (I := inf) (J := jnf) ⟨false, false, [], 0, 0⟩ 9999 rfl (by repeat (first | exact obs_nil | refine obs_draw (by kernel_rfl) ?_ | refine obs_same ?_ | refine obs_and ?_ | refine obs_by (by (simp [inB] <;> omega)) ?_)) ?_
  refine runS_cond rfl (fun h => by cases h) (fun h => ?_)
  refine runS_x (I := inf) (J := jnf) ⟨false, false, [], 0, 0⟩ 9999 rfl (by repeat (first | exact obs_nil | refine obs_draw (by kernel_rfl) ?_ | refine obs_same ?_ | refine obs_and ?_ | refine obs_by (by (simp [inB] <;> omega)) ?_)) ?_
  refine runS_cond rfl (fun h => by cases h) (fun h => ?_)
  refine runS_x (I := inf) (J := jnf) ⟨false, false, [], 0, 0⟩ 9999 rfl (by repeat (first | exact obs_nil | refine obs_draw (by kernel_rfl) ?_ | refine obs_same ?_ | refine obs_and ?_ | refine obs_by (by (simp [inB] <;> omega)) ?_)) ?_
  refine runS_cond rfl (fun h => by cases h) (fun h => ?_)
  refine runS_x (I := inf) (J := jnf) ⟨false, false, [], 0, 0⟩ 9999 rfl (by repeat (first | exact obs_nil | refine obs_draw (by kernel_rfl) ?_ | refine obs_same ?_ | refine obs_and ?_ | refine obs_by (by (simp [inB] <;> omega)) ?_)) ?_
  refine runS_cond rfl (fun h => by cases h) (fun h => ?_)
  refine runS_x (I := inf) (J := jnf) ⟨false, false, [], 0, 0⟩ 9999 rfl (by repeat (first | exact obs_nil | refine obs_draw (by kernel_rfl) ?_ | refine obs_same ?_ | refine obs_and ?_ | refine obs_by (by (simp [inB] <;> omega)) ?_)) ?_
  refine runS_cond rfl (fun h => by cases h) (fun h => ?_)
  refine runS_x (I := inf) (J := jnf) ⟨false, false, [], 0, 0⟩ 9999 rfl (by repeat (first | exact obs_nil | refine obs_draw (by kernel_rfl) ?_ | refine obs_same ?_ | refine obs_and ?_ | refine obs_by (by (simp [inB] <;> omega)) ?_)) ?_
  refine runS_cond rfl (fun h => by cases h) (fun h => ?_)
  refine runS_x (I := inf) (J := jnf) ⟨false, false, [], 0, 0⟩ 9999 rfl (by repeat (first | exact obs_nil | refine obs_draw (by kernel_rfl) ?_ | refine obs_same ?_ | refine obs_and ?_ | refine obs_by (by (simp [inB] <;> omega)) ?_)) ?_
  refine runS_cond rfl (fun h => ?_) (fun h => by cases h)
  refine runS_x (I := inf) (J := jnf) ⟨false, false, [], 0, 0⟩ 9999 rfl (by repeat (first | exact obs_nil | refine obs_draw (by kernel_rfl) ?_ | refine obs_same ?_ | refine obs_and ?_ | refine obs_by (by (simp [inB, blS] <;> omega)) ?_)) ?_
  refine runS_callU rfl rfl (by first | exact .v rfl rfl rfl rfl | exact .o rfl rfl rfl rfl) rfl rfl (by repeat (first | exact .nil | refine .cons (.n rfl) ?_ | refine .cons .o ?_ | refine .cons gok_and ?_)) rfl rfl rfl rfl rfl (fun _ => (r_bits s (by omega))) ?_
  refine runS_x (I := inf) (J := jnf) ⟨false, false, [], 0, 0⟩ 9999 rfl (by repeat (first | exact obs_nil | refine obs_draw (by kernel_rfl) ?_ | refine obs_same ?_ | refine obs_and ?_ | refine obs_by (by (simp [inB] <;> omega)) ?_)) ?_
  refine runS_ret (I := inf) 0 rfl (Nat.le_refl _) rfl .nil rfl ⟨?_, rfl⟩
  refine congrArg (fun x => Out.ret (bv x)) ?_
  rw [hb]
  simp [blS]
  exact decide_eq_true (show ((s.length : Int) ≤ 250) by omega)
theorem r_has12 (kd p q : Int) (n : Nat) (hk : kd = 1 ∨ kd = 2) (hv : CallT Tryz.prog 21 [.agg (tyE kd p q 0)] [] (fun o A => o = .ret (bv true) ∧ A = [])) (hr : CallT Tryz.prog 20 [.agg (vaE kd n q [])] [] (fun o A => o = .ret (bv true) ∧ A = [])) (hn : n < 4611686018427387904)
    (b : Nat) (hp : CallT Tryz.prog 22 [iv (if kd = 1 then 2 else 10), iv p] [] (fun o A => o = .ret (natS none (frm b)) ∧ A = [])) (hb : n < b) (hbl : (frm b).length ≤ 100000) : CallT Tryz.prog 12 [.agg (tyE kd p q 0), .agg (vaE kd n q [])] [] (fun o A => o = .ret (bv true) ∧ A = []) := by
  have hln : (frm n).length ≤ 19 := frm_len_lt.2 (Nat.lt_of_lt_of_le hn (by decide))
  refine callS_body (n := 74) rfl rfl fun w ρ X => ?_
  refine runS_x (I := inf) (J := jnf) ⟨false, false, [], 0, 0⟩ 9999 rfl (by repeat (first | exact obs_nil | refine obs_draw (by kernel_rfl) ?_ | refine obs_same ?_ | refine obs_and ?_ | refine obs_by (by (simp [inB] <;> omega)) ?_)) ?_
  refine runS_call rfl rfl rfl rfl rfl rfl rfl hv ?_
  refine runS_x (I := inf) (J := jnf) ⟨false, false, [], 0, 0⟩ 9999 rfl (by repeat (first | exact obs_nil | refine obs_draw (by kernel_rfl) ?_ | refine obs_same ?_ | refine obs_and ?_ | refine obs_by (by (simp [inB] <;> omega)) ?_)) ?_
  refine runS_callU rfl rfl (by first | exact .v rfl rfl rfl rfl | exact .o rfl rfl rfl rfl) rfl rfl (by repeat (first | exact .nil | refine .cons (.n rfl) ?_ | refine .cons .o ?_ | refine .cons gok_and ?_)) rfl rfl rfl rfl rfl (fun _ => hr) ?_
  refine runS_x (I := inf) (J := jnf) ⟨false, false, [], 0, 0⟩ 9999 rfl (by repeat (first | exact obs_nil | refine obs_draw (by kernel_rfl) ?_ | refine obs_same ?_ | refine obs_and ?_ | refine obs_by (by (simp [inB] <;> omega)) ?_)) ?_
  refine runS_cond rfl (fun h => ?_) (fun h => ?_)
  · exact absurd h (by simp)
  refine runS_x (I := inf) (J := jnf) ⟨false, false, [], 0, 0⟩ 9999 rfl (by repeat (first | exact obs_nil | refine obs_draw (by kernel_rfl) ?_ | refine obs_same ?_ | refine obs_and ?_ | refine obs_by (by (simp [inB] <;> omega)) ?_)) ?_
  refine runS_cut (fun τ ar => (τ 2 = .ptr 0 0 0 ∧ τ 3 = .ptr 1 0 0 ∧ τ 22 = iv kd ∧ τ 23 = bv true) ∧ ar = [.box 31 (tyE kd p q 0), .box 33 (vaE kd n q [])]) (fun rest => ?_) ?_
  · refine runS_cond rfl (fun h => ?_) (fun h => ?_)
    · refine runS_x (I := inf) (J := jnf) ⟨false, false, [], 4, 0⟩ 9999 rfl (by repeat (first | exact obs_nil | refine obs_draw (by kernel_rfl) ?_ | refine obs_same ?_ | refine obs_and ?_ | refine obs_by (by (simp [inB] <;> omega)) ?_)) ?_
      exact rest _ _ ⟨⟨rfl, rfl, rfl, congrArg bv h⟩, rfl⟩
    · have h1 : ¬ kd = 1 := by simpa using (show (kd == 1) = false from h)
      have h2 : (kd == 2) = true := by simpa using hk.resolve_left h1
      refine runS_x (I := inf) (J := jnf) ⟨false, false, [], 4, 0⟩ 9999 rfl (by repeat (first | exact obs_nil | refine obs_draw (by kernel_rfl) ?_ | refine obs_same ?_ | refine obs_and ?_ | refine obs_by (by (simp [inB] <;> omega)) ?_)) ?_
      exact rest _ _ ⟨⟨rfl, rfl, rfl, congrArg bv h2⟩, rfl⟩
  rintro τ2 ar2 ⟨⟨g2, g3, g22, g23⟩, rfl⟩
  refine runS_says 2 (by exact g2) (Says.refl _) ?_; refine runS_says 3 (by exact g3) (Says.refl _) ?_; refine runS_says 22 (by exact g22) (Says.refl _) ?_; refine runS_says 23 (by exact g23) (Says.refl _) ?_
  refine runS_x (I := inf) (J := jnf) ⟨false, false, [], 0, 0⟩ 9999 rfl (by repeat (first | exact obs_nil | refine obs_draw (by kernel_rfl) ?_ | refine obs_same ?_ | refine obs_and ?_ | refine obs_by (by (simp [inB] <;> omega)) ?_)) ?_
  refine runS_cond rfl (fun h => ?_) (fun h => by cases h)
  refine runS_x (I := inf) (J := jnf) ⟨false, false, [], 0, 0⟩ 9999 rfl (by repeat (first | exact obs_nil | refine obs_draw (by kernel_rfl) ?_ | refine obs_same ?_ | refine obs_and ?_ | refine obs_by (by (simp [inB] <;> omega)) ?_)) ?_
  refine runS_draw 4 (by kernel_rfl) (lexj_x (I := inf) (J := jnf) 99 rfl rfl (by repeat (first | exact obs_nil | refine obs_same ?_ | refine obs_and ?_ | refine obs_by (by (simp [inB] <;> omega)) ?_)) (lexj_call rfl rfl rfl rfl rfl rfl rfl rfl (r_base kd p q 0 false []) (lexj_x (I := inf) (J := jnf) 99 rfl rfl (by repeat (first | exact obs_nil | refine obs_same ?_ | refine obs_and ?_ | refine obs_by (by (simp [inB] <;> omega)) ?_)) lexj_nil))) ?_
  refine runS_x (I := inf) (J := jnf) ⟨false, false, [], 0, 0⟩ 9999 rfl (by repeat (first | exact obs_nil | refine obs_draw (by kernel_rfl) ?_ | refine obs_same ?_ | refine obs_and ?_ | refine obs_by (by (simp [inB] <;> omega)) ?_)) ?_
  refine runS_call rfl rfl rfl rfl rfl rfl rfl hp ?_
  refine runS_x (I := inf) (J := jnf) ⟨false, false, [], 0, 0⟩ 9999 rfl (by repeat (first | exact obs_nil | refine obs_draw (by kernel_rfl) ?_ | refine obs_same ?_ | refine obs_and ?_ | refine obs_by (by (simp [inB] <;> omega)) ?_)) ?_
  refine runS_callU rfl rfl (by first | exact .v rfl rfl rfl rfl | exact .o rfl rfl rfl rfl) rfl rfl (by repeat (first | exact .nil | refine .cons (.n rfl) ?_ | refine .cons .o ?_ | refine .cons gok_and ?_)) rfl rfl rfl rfl rfl (fun _ => (r_whole n hn)) ?_
  refine runS_x (I := inf) (J := jnf) ⟨false, false, [], 0, 0⟩ 9999 rfl (by repeat (first | exact obs_nil | refine obs_draw (by kernel_rfl) ?_ | refine obs_same ?_ | refine obs_and ?_ | refine obs_by (by (simp [inB] <;> omega)) ?_)) ?_
  refine runS_callU rfl rfl (by first | exact .v rfl rfl rfl rfl | exact .o rfl rfl rfl rfl) rfl rfl (by repeat (first | exact .nil | refine .cons (.n rfl) ?_ | refine .cons .o ?_ | refine .cons gok_and ?_)) rfl rfl rfl rfl rfl (fun _ => (r_cmp none none (frm n) (frm b) (by omega) hbl)) ?_
  refine runS_x (I := inf) (J := jnf) ⟨false, false, [], 0, 0⟩ 9999 rfl (by repeat (first | exact obs_nil | refine obs_draw (by kernel_rfl) ?_ | refine obs_same ?_ | refine obs_and ?_ | refine obs_by (by (simp [inB] <;> omega)) ?_)) ?_
  refine runS_ret (I := inf) 0 rfl (Nat.le_refl _) rfl .nil rfl ⟨?_, rfl⟩
  refine congrArg (fun x => Out.ret (bv x)) ?_
  have hlt : decide (cmpT (frm n) (frm b) < 0) = true := decide_eq_true ((cmpT_lt n b).2 hb)
  simp [hlt]
theorem r_has3 (p : Int) (q : Int) (n : Nat) (hv : CallT Tryz.prog 21 [.agg (tyE 3 p 0 0)] [] (fun o A => o = .ret (bv true) ∧ A = [])) (hr : CallT Tryz.prog 20 [.agg (vaE 3 n q [])] [] (fun o A => o = .ret (bv true) ∧ A = [])) (hn : n < 4611686018427387904) (hp : ((frm n).length : Int) ≤ p) : CallT Tryz.prog 12 [.agg (tyE 3 p 0 0), .agg (vaE 3 n q [])] [] (fun o A => o = .ret (bv true) ∧ A = []) := by
  have hsz := r_size (n : Int) (by omega)
  rw [Int.natAbs_natCast] at hsz
  refine callS_body (n := 74) rfl rfl fun w ρ X => ?_
  refine runS_x (I := inf) (J := jnf) ⟨false, false, [], 0, 0⟩ 9999 rfl (by repeat (first | exact obs_nil | refine obs_draw (by kernel_rfl) ?_ | refine obs_same ?_ | refine obs_and ?_ | refine obs_by (by (simp [inB] <;> omega)) ?_)) ?_
  refine runS_call rfl rfl rfl rfl rfl rfl rfl hv ?_
  refine runS_x (I := inf) (J := jnf) ⟨false, false, [], 0, 0⟩ 9999 rfl (by repeat (first | exact obs_nil | refine obs_draw (by kernel_rfl) ?_ | refine obs_same ?_ | refine obs_and ?_ | refine obs_by (by (simp [inB] <;> omega)) ?_)) ?_
  refine runS_callU rfl rfl (by first | exact .v rfl rfl rfl rfl | exact .o rfl rfl rfl rfl) rfl rfl (by repeat (first | exact .nil | refine .cons (.n rfl) ?_ | refine .cons .o ?_ | refine .cons gok_and ?_)) rfl rfl rfl rfl rfl (fun _ => hr) ?_
  refine runS_x (I := inf) (J := jnf) ⟨false, false, [], 0, 0⟩ 9999 rfl (by repeat (first | exact obs_nil | refine obs_draw (by kernel_rfl) ?_ | refine obs_same ?_ | refine obs_and ?_ | refine obs_by (by (simp [inB] <;> omega)) ?_)) ?_
  refine runS_cond rfl (fun h => by cases h) (fun h => ?_)
  refine runS_x (I := inf) (J := jnf) ⟨false, false, [], 0, 0⟩ 9999 rfl (by repeat (first | exact obs_nil | refine obs_draw (by kernel_rfl) ?_ | refine obs_same ?_ | refine obs_and ?_ | refine obs_by (by (simp [inB] <;> omega)) ?_)) ?_
  refine runS_cond rfl (fun h => by cases h) (fun h => ?_)
  refine runS_x (I := inf) (J := jnf) ⟨false, false, [], 0, 0⟩ 9999 rfl (by repeat (first | exact obs_nil | refine obs_draw (by kernel_rfl) ?_ | refine obs_same ?_ | refine obs_and ?_ | refine obs_by (by (simp [inB] <;> omega)) ?_)) ?_
  refine runS_cond rfl (fun h => by cases h) (fun h => ?_)
  refine runS_x (I := inf) (J := jnf) ⟨false, false, [], 0, 0⟩ 9999 rfl (by repeat (first | exact obs_nil | refine obs_draw (by kernel_rfl) ?_ | refine obs_same ?_ | refine obs_and ?_ | refine obs_by (by (simp [inB] <;> omega)) ?_)) ?_
  refine runS_cond rfl (fun h => ?_) (fun h => by cases h)
  refine runS_x (I := inf) (J := jnf) ⟨false, false, [], 0, 0⟩ 9999 rfl (by repeat (first | exact obs_nil | refine obs_draw (by kernel_rfl) ?_ | refine obs_same ?_ | refine obs_and ?_ | refine obs_by (by (simp [inB] <;> omega)) ?_)) ?_
  refine runS_draw 6 (by kernel_rfl) (lexj_x (I := inf) (J := jnf) 99 rfl rfl (by repeat (first | exact obs_nil | refine obs_same ?_ | refine obs_and ?_ | refine obs_by (by (simp [inB] <;> omega)) ?_)) (lexj_call rfl rfl rfl rfl rfl rfl rfl rfl hsz (lexj_x (I := inf) (J := jnf) 99 rfl rfl (by repeat (first | exact obs_nil | refine obs_same ?_ | refine obs_and ?_ | refine obs_by (by (simp [inB] <;> omega)) ?_)) lexj_nil))) ?_
  refine runS_x (I := inf) (J := jnf) ⟨false, false, [], 0, 0⟩ 9999 rfl (by repeat (first | exact obs_nil | refine obs_draw (by kernel_rfl) ?_ | refine obs_same ?_ | refine obs_and ?_ | refine obs_by (by (simp [inB] <;> omega)) ?_)) ?_
  refine runS_ret (I := inf) 0 rfl (Nat.le_refl _) rfl .nil rfl ⟨?_, rfl⟩
  refine congrArg (fun x => Out.ret (bv x)) ?_
  exact decide_eq_true hp
theorem r_has45 (kd : Int) (s : Str) (hk : kd = 4 ∨ kd = 5) (hv : CallT Tryz.prog 21 [.agg (tyE kd 0 0 s.length)] [] (fun o A => o = .ret (bv true) ∧ A = [])) (hr : CallT Tryz.prog 20 [.agg (vaE kd 0 0 s)] [] (fun o A => o = .ret (bv true) ∧ A = [])) : CallT Tryz.prog 12 [.agg (tyE kd 0 0 s.length), .agg (vaE kd 0 0 s)] [] (fun o A => o = .ret (bv true) ∧ A = []) := by
  have n1 : (kd == 1) = false := by simp; omega
  have n2 : (kd == 2) = false := by simp; omega
  have n3 : (kd == 3) = false := by simp; omega
  refine callS_body (n := 74) rfl rfl fun w ρ X => ?_
  refine runS_x (I := inf) (J := jnf) ⟨false, false, [], 0, 0⟩ 9999 rfl (by repeat (first | exact obs_nil | refine obs_draw (by kernel_rfl) ?_ | refine obs_same ?_ | refine obs_and ?_ | refine obs_by (by (simp [inB] <;> omega)) ?_)) ?_
  refine runS_call rfl rfl rfl rfl rfl rfl rfl hv ?_
  refine runS_x (I := inf) (J := jnf) ⟨false, false, [], 0, 0⟩ 9999 rfl (by repeat (first | exact obs_nil | refine obs_draw (by kernel_rfl) ?_ | refine obs_same ?_ | refine obs_and ?_ | refine obs_by (by (simp [inB] <;> omega)) ?_)) ?_
  refine runS_callU rfl rfl (by first | exact .v rfl rfl rfl rfl | exact .o rfl rfl rfl rfl) rfl rfl (by repeat (first | exact .nil | refine .cons (.n rfl) ?_ | refine .cons .o ?_ | refine .cons gok_and ?_)) rfl rfl rfl rfl rfl (fun _ => hr) ?_
  refine runS_x (I := inf) (J := jnf) ⟨false, false, [], 0, 0⟩ 9999 rfl (by repeat (first | exact obs_nil | refine obs_draw (by kernel_rfl) ?_ | refine obs_same ?_ | refine obs_and ?_ | refine obs_by (by (simp [inB] <;> omega)) ?_)) ?_
  refine runS_cond rfl (fun h => ?_) (fun h => ?_)
  · exact absurd h (by simp)
  refine runS_x (I := inf) (J := jnf) ⟨false, false, [], 0, 0⟩ 9999 rfl (by repeat (first | exact obs_nil | refine obs_draw (by kernel_rfl) ?_ | refine obs_same ?_ | refine obs_and ?_ | refine obs_by (by (simp [inB] <;> omega)) ?_)) ?_
  refine runS_cond rfl (fun h => by rw [show (kd == 1) = true from h] at n1; cases n1) (fun h => ?_)
  refine runS_x (I := inf) (J := jnf) ⟨false, false, [], 0, 0⟩ 9999 rfl (by repeat (first | exact obs_nil | refine obs_draw (by kernel_rfl) ?_ | refine obs_same ?_ | refine obs_and ?_ | refine obs_by (by (simp [inB] <;> omega)) ?_)) ?_
  refine runS_cond rfl (fun h => by rw [show (kd == 2) = true from h] at n2; cases n2) (fun h => ?_)
  refine runS_x (I := inf) (J := jnf) ⟨false, false, [], 0, 0⟩ 9999 rfl (by repeat (first | exact obs_nil | refine obs_draw (by kernel_rfl) ?_ | refine obs_same ?_ | refine obs_and ?_ | refine obs_by (by (simp [inB] <;> omega)) ?_)) ?_
  refine runS_cond rfl (fun h => by rw [show (kd == 3) = true from h] at n3; cases n3) (fun h => ?_)
  refine runS_x (I := inf) (J := jnf) ⟨false, false, [], 0, 0⟩ 9999 rfl (by repeat (first | exact obs_nil | refine obs_draw (by kernel_rfl) ?_ | refine obs_same ?_ | refine obs_and ?_ | refine obs_by (by (simp [inB] <;> omega)) ?_)) ?_
  refine runS_cut (fun τ ar => (τ 2 = .ptr 0 0 0 ∧ τ 3 = .ptr 1 0 0 ∧ τ 53 = bv true) ∧ ar = [.box 31 (tyE kd 0 0 s.length), .box 33 (vaE kd 0 0 s)]) (fun rest => ?_) ?_
  · refine runS_cond rfl (fun h => ?_) (fun h => ?_)
    · refine runS_x (I := inf) (J := jnf) ⟨false, false, [], 4, 0⟩ 9999 rfl (by repeat (first | exact obs_nil | refine obs_draw (by kernel_rfl) ?_ | refine obs_same ?_ | refine obs_and ?_ | refine obs_by (by (simp [inB] <;> omega)) ?_)) ?_
      exact rest _ _ ⟨⟨rfl, rfl, congrArg bv h⟩, rfl⟩
    · have h1 : ¬ kd = 4 := by simpa using (show (kd == 4) = false from h)
      have h2 : (kd == 5) = true := by simpa using hk.resolve_left h1
      refine runS_x (I := inf) (J := jnf) ⟨false, false, [], 4, 0⟩ 9999 rfl (by repeat (first | exact obs_nil | refine obs_draw (by kernel_rfl) ?_ | refine obs_same ?_ | refine obs_and ?_ | refine obs_by (by (simp [inB] <;> omega)) ?_)) ?_
      exact rest _ _ ⟨⟨rfl, rfl, congrArg bv h2⟩, rfl⟩
  rintro τ2 ar2 ⟨⟨g2, g3, g53⟩, rfl⟩
  refine runS_says 2 (by exact g2) (Says.refl _) ?_; refine runS_says 3 (by exact g3) (Says.refl _) ?_; refine runS_says 53 (by exact g53) (Says.refl _) ?_
  refine runS_x (I := inf) (J := jnf) ⟨false, false, [], 0, 0⟩ 9999 rfl (by repeat (first | exact obs_nil | refine obs_draw (by kernel_rfl) ?_ | refine obs_same ?_ | refine obs_and ?_ | refine obs_by (by (simp [inB] <;> omega)) ?_)) ?_
  refine runS_cond rfl (fun h => ?_) (fun h => by cases h)
  refine runS_x (I := inf) (J := jnf) ⟨false, false, [], 0, 0⟩ 9999 rfl (by repeat (first | exact obs_nil | refine obs_draw (by kernel_rfl) ?_ | refine obs_same ?_ | refine obs_and ?_ | refine obs_by (by (simp [inB] <;> omega)) ?_)) ?_
  refine runS_ret (I := inf) 0 rfl (Nat.le_refl _) rfl .nil rfl ⟨?_, rfl⟩
  refine congrArg (fun x => Out.ret (bv x)) ?_
  simp [blS]
end Go.Iron.Tryz

/- Tokens of a text: what a number's text is made of, in plain Lean. -/
namespace Go.Iron.Tok

def Digs (l : Str) : Prop := ∀ b ∈ l, 48 ≤ b.toNat ∧ b.toNat ≤ 57
/-- The number of a text of digits. -/
def valB (b : Nat) (l : Str) : Nat := l.foldl (fun n c => b * n + (c.toNat - 48)) 0
theorem valB_snoc (b : Nat) (l : Str) (c : UInt8) : valB b (l ++ [c]) = b * valB b l + (c.toNat - 48) := by
  unfold valB
  rw [List.foldl_append]
  rfl
/-- The parts of a number's text: digits ahead of the point and behind it, and the rest. -/
structure NumP (T w h : Str) (dot : Bool) (tl : Str) : Prop where
  eq : T = w ++ ((if dot = true then 46 :: h else []) ++ tl)
  hw : Digs w
  hh : Digs h
  nd : dot = false → h = []
  ne : 0 < w.length + h.length
/-- The rest of a number's text. -/
inductive NumL (w h : Str) : Str → Prop
  | plain : NumL w h []
  | bin : (∀ b ∈ w ++ h, b.toNat = 48 ∨ b.toNat = 49) → NumL w h [66]
  | flo (sg ds : Str) : (sg = [] ∨ sg = [43] ∨ sg = [45]) → Digs ds → 1 ≤ ds.length → ds.length ≤ 2 → NumL w h (69 :: (sg ++ ds))
theorem span_digs {s : Str} {p : Nat} : Digs (part s p (spanN s digP p)) := by
  intro b hb
  obtain ⟨i, hi, rfl⟩ := List.mem_iff_getElem.1 hb
  have hle := spanN_le s digP p
  have hl : (part s p (spanN s digP p)).length ≤ spanN s digP p - p := by unfold part; rw [List.length_drop, List.length_take]; omega
  have := spanN_in s digP p (p + i) (by omega) (by omega)
  rw [← byt_get hi, byt_part (by omega)]
  simpa [digP] using this
theorem split_at (s : Str) {p q : Nat} (hpq : p ≤ q) (hq : q ≤ s.length) : s.drop p = part s p q ++ s.drop q := by
  unfold part
  have h1 : s.drop q = (s.drop p).drop (q - p) := by rw [List.drop_drop]; congr 1; omega
  have h2 : (s.take q).drop p = (s.drop p).take (q - p) := by rw [List.drop_take]
  rw [h1, h2, List.take_append_drop]
theorem drop_cons {s : Str} {p : Nat} {c : UInt8} (hp : p < s.length) (hc : byt s p = c.toNat) : s.drop p = c :: s.drop (p + 1) := by
  rw [List.drop_eq_getElem_cons hp]
  congr 1
  exact UInt8.toNat_inj.1 ((byt_get hp).symm.trans hc)
theorem up_byt {T : Str} (h : upS T = T) (j : Nat) : upN (byt T j) = byt T j := by
  conv => rhs; rw [← h, byt_up]
theorem num_parse {T : Str} (hN : NumT T) : ∃ w h dot tl, NumP T w h dot tl ∧ NumL w h tl := by
  obtain ⟨hu, hn, hf⟩ := hN
  have hE : numE T 0 = if upN (byt T (numD T 0)) = 69 then (spanN T digP (signE T (numD T 0 + 1)), decide (1 ≤ spanN T digP (signE T (numD T 0 + 1)) - signE T (numD T 0 + 1)) && decide (spanN T digP (signE T (numD T 0 + 1)) - signE T (numD T 0 + 1) ≤ 2)) else if upN (byt T (numD T 0)) = 66 then (numD T 0 + 1, bits01 (part T 0 (numD T 0))) else (numD T 0, true) := rfl
  have hD : numD T 0 = if byt T (spanN T digP 0) = 46 then spanN T digP (spanN T digP 0 + 1) else spanN T digP 0 := rfl
  have hle := numD_le (s := T) (p := 0) (Nat.zero_le _)
  have hl1 := spanN_le T digP 0
  rw [hn] at hE
  -- the digits and the point
  obtain ⟨w, h, dot, hw, hh, nd, heq, hpart, hne⟩ : ∃ w h : Str, ∃ dot : Bool, Digs w ∧ Digs h ∧ (dot = false → h = []) ∧ T = w ++ ((if dot = true then 46 :: h else []) ++ T.drop (numD T 0)) ∧ (∀ b ∈ w ++ h, b ∈ part T 0 (numD T 0)) ∧ 0 < w.length + h.length := by
    by_cases h46 : byt T (spanN T digP 0) = 46
    · have hlt := byt_lt (s := T) (p := spanN T digP 0) (by omega)
      have hl2 := spanN_le T digP (spanN T digP 0 + 1)
      rw [if_pos h46] at hD
      have e1 := split_at T (p := 0) (q := spanN T digP 0) hl1.1 (hl1.2 (Nat.zero_le _))
      have e2 := drop_cons (c := 46) hlt h46
      have e3 := split_at T (p := spanN T digP 0 + 1) (q := numD T 0) (by omega) hle.2
      have e4 := split_at T (p := 0) (q := numD T 0) hle.1 hle.2
      have hpe : part T 0 (numD T 0) = part T 0 (spanN T digP 0) ++ (46 :: part T (spanN T digP 0 + 1) (numD T 0)) := by
        have : part T 0 (numD T 0) ++ T.drop (numD T 0) = (part T 0 (spanN T digP 0) ++ (46 :: part T (spanN T digP 0 + 1) (numD T 0))) ++ T.drop (numD T 0) := by
          rw [← e4, e1, e2, e3]
          simp
        exact List.append_cancel_right this
      refine ⟨part T 0 (spanN T digP 0), part T (spanN T digP 0 + 1) (numD T 0), true, span_digs, ?_, fun e => (by cases e), ?_, ?_, ?_⟩
      · rw [hD]; exact span_digs
      · rw [if_pos rfl, List.cons_append, ← e3, ← e2, ← e1] <;> rfl
      · intro b hb
        rw [hpe]
        rcases List.mem_append.1 hb with hb | hb
        · exact List.mem_append_left _ hb
        · exact List.mem_append_right _ (List.mem_cons_of_mem _ hb)
      · have k1 : (part T 0 (spanN T digP 0)).length = spanN T digP 0 := by rw [part_len (hl1.2 (Nat.zero_le _))]; rfl
        have k2 : (part T (spanN T digP 0 + 1) (numD T 0)).length = numD T 0 - (spanN T digP 0 + 1) := part_len hle.2
        rcases hf with hf | hf
        · have h7 := spanN_go (s := T) (f := digP) (p := 0) (byt_lt (fun e => by rw [e] at hf; exact absurd hf (by decide))) hf
          have h8 := spanN_le T digP (0 + 1)
          rw [← h7] at h8
          omega
        · have hz : spanN T digP 0 = 0 := spanN_end (by rw [hf.1]; simp [digP])
          have h7 := spanN_go (s := T) (f := digP) (p := 0 + 1) (byt_lt (fun e => by rw [e] at hf; exact absurd hf.2 (by decide))) hf.2
          have h8 := spanN_le T digP (0 + 1 + 1)
          rw [← h7] at h8
          have h9 : numD T 0 = spanN T digP (0 + 1) := by rw [hD, hz]
          omega
    · rw [if_neg h46] at hD
      have e4 := split_at T (p := 0) (q := numD T 0) hle.1 hle.2
      refine ⟨part T 0 (numD T 0), [], false, by rw [hD]; exact span_digs, fun b hb => (by cases hb), fun _ => rfl, ?_, ?_, ?_⟩
      · rw [if_neg (by decide), List.nil_append, ← e4] <;> rfl
      · intro b hb
        rw [List.append_nil] at hb
        exact hb
      · have k1 : (part T 0 (numD T 0)).length = numD T 0 := by rw [part_len hle.2]; rfl
        rcases hf with hf | hf
        · have h7 := spanN_go (s := T) (f := digP) (p := 0) (byt_lt (fun e => by rw [e] at hf; exact absurd hf (by decide))) hf
          have h8 := spanN_le T digP (0 + 1)
          rw [← h7] at h8
          rw [List.length_nil]
          omega
        · have hz : spanN T digP 0 = 0 := spanN_end (by rw [hf.1]; simp [digP])
          rw [hz] at h46
          exact absurd hf.1 h46
  refine ⟨w, h, dot, T.drop (numD T 0), ⟨heq, hw, hh, nd, hne⟩, ?_⟩
  generalize hq : numD T 0 = q at *
  rw [up_byt hu] at hE
  by_cases h69 : byt T q = 69
  · rw [if_pos h69] at hE
    injection hE with e1 e2
    have hlt := byt_lt (s := T) (p := q) (by omega)
    have h2 : 1 ≤ spanN T digP (signE T (q + 1)) - signE T (q + 1) ∧ spanN T digP (signE T (q + 1)) - signE T (q + 1) ≤ 2 := by
      have := e2.symm
      rwa [Bool.and_eq_true, decide_eq_true_eq, decide_eq_true_eq] at this
    have hsg : signE T (q + 1) = if byt T (q + 1) = 43 ∨ byt T (q + 1) = 45 then q + 1 + 1 else q + 1 := rfl
    have hsl := signE_le (s := T) (k := q + 1) hlt
    have hds : Digs (T.drop (signE T (q + 1))) := by
      have e3 := split_at T (p := signE T (q + 1)) (q := T.length) hsl.2 (Nat.le_refl _)
      rw [List.drop_length, List.append_nil, e1] at e3
      rw [e3]
      exact span_digs
    have hdl : (T.drop (signE T (q + 1))).length = T.length - signE T (q + 1) := List.length_drop
    have e5 := drop_cons (c := 69) hlt h69
    rw [e5]
    by_cases hs : byt T (q + 1) = 43 ∨ byt T (q + 1) = 45
    · rw [if_pos hs] at hsg
      have hlt2 := byt_lt (s := T) (p := q + 1) (by omega)
      rcases hs with hs | hs
      · rw [drop_cons (c := 43) hlt2 hs, ← hsg]
        exact .flo [43] _ (.inr (.inl rfl)) hds (by omega) (by omega)
      · rw [drop_cons (c := 45) hlt2 hs, ← hsg]
        exact .flo [45] _ (.inr (.inr rfl)) hds (by omega) (by omega)
    · rw [if_neg hs] at hsg
      rw [← hsg]
      exact .flo [] _ (.inl rfl) hds (by omega) (by omega)
  · rw [if_neg h69] at hE
    by_cases h66 : byt T q = 66
    · rw [if_pos h66] at hE
      injection hE with e1 e2
      have hlt := byt_lt (s := T) (p := q) (by omega)
      have e5 := drop_cons (c := 66) hlt h66
      rw [e5, List.drop_eq_nil_of_le (by omega)]
      refine .bin fun b hb => ?_
      have h3 := hpart b hb
      have h4 := List.all_eq_true.1 (show (part T 0 q).all (fun b => b.toNat == 48 || b.toNat == 49 || b.toNat == 46) = true from e2.symm) b h3
      have h5 : 48 ≤ b.toNat ∧ b.toNat ≤ 57 := by
        rcases List.mem_append.1 hb with hb | hb
        · exact hw b hb
        · exact hh b hb
      simp at h4
      omega
    · rw [if_neg h66] at hE
      injection hE with e1 e2
      rw [List.drop_eq_nil_of_le (by omega)]
      exact .plain
end Go.Iron.Tok

/- Tokens of a text: what constants are, in plain Lean. -/
namespace Go.Iron.Tok
open Go.Iron.Dg

/-- A constant's type and value, and what is wrong. -/
structure Cst where
  tk : Int
  tp : Int
  tq : Int
  tn : Int
  vk : Int
  vn : Int
  vq : Int
  vs : Str
  e : Nat
def czero (e : Nat) : Cst := ⟨0, 0, 0, 0, 0, 0, 0, [], e⟩
def fixC (kd : Int) (b most : Nat) (w h : Str) : Cst :=
  if w.length + h.length > most then czero 7 else ⟨kd, ((w.length + h.length : Nat) : Int), (h.length : Int), 0, kd, (valB b (w ++ h) : Int), (h.length : Int), [], 0⟩
def normN (n : Nat) (q : Int) : Nat × Int := if h : n ≠ 0 ∧ n % 10 = 0 then normN (n / 10) (q + 1) else (n, q)
termination_by n
decreasing_by omega
def floC (w h : Str) (ex : Int) : Cst :=
  if w.length + h.length > 15 then czero 7
  else if valB 10 (w ++ h) = 0 then ⟨3, ((w.length + h.length : Nat) : Int), 0, 0, 3, 0, 0, [], 0⟩
  else if -75 ≤ ((frm (normN (valB 10 (w ++ h)) (ex - h.length)).1).length : Int) + (normN (valB 10 (w ++ h)) (ex - h.length)).2 - 1 ∧ ((frm (normN (valB 10 (w ++ h)) (ex - h.length)).1).length : Int) + (normN (valB 10 (w ++ h)) (ex - h.length)).2 - 1 ≤ 75 then
    ⟨3, ((w.length + h.length : Nat) : Int), 0, 0, 3, ((normN (valB 10 (w ++ h)) (ex - h.length)).1 : Int), (normN (valB 10 (w ++ h)) (ex - h.length)).2, [], 0⟩
  else czero 7
def exV (sg ds : Str) : Int := if sg = [45] then -(valB 10 ds : Int) else (valB 10 ds : Int)
/-- A number's text up to the rest. -/
def ptS (w h : Str) (dot : Bool) : Str := w ++ (if dot = true then 46 :: h else [])
theorem index_none1 {c : UInt8} : ∀ {l : Str}, (∀ b ∈ l, b ≠ c) → Lib.index l [c] = -1
  | [], _ => rfl
  | b :: l, h => by
    have hb : ([c] : Str).isPrefixOf (b :: l) = false := by
      show (c == b && true) = false
      rw [Bool.and_true]
      exact beq_eq_false_iff_ne.2 (fun e => h b (by simp) e.symm)
    show (if ([c] : Str).isPrefixOf (b :: l) = true then (0 : Int) else if Lib.index l [c] == -1 then -1 else Lib.index l [c] + 1) = -1
    rw [hb, index_none1 fun x hx => h x (by simp [hx])]
    rfl
theorem index_some1 {c : UInt8} {r : Str} : ∀ {l : Str}, (∀ b ∈ l, b ≠ c) → Lib.index (l ++ c :: r) [c] = (l.length : Int)
  | [], _ => by
    show (if ([c] : Str).isPrefixOf (c :: r) = true then (0 : Int) else _) = 0
    rw [if_pos (by show (c == c && true) = true; simp)]
  | b :: l, h => by
    have hb : ([c] : Str).isPrefixOf (b :: (l ++ c :: r)) = false := by
      show (c == b && true) = false
      rw [Bool.and_true]
      exact beq_eq_false_iff_ne.2 (fun e => h b (by simp) e.symm)
    show (if ([c] : Str).isPrefixOf (b :: (l ++ c :: r)) = true then (0 : Int) else if Lib.index (l ++ c :: r) [c] == -1 then -1 else Lib.index (l ++ c :: r) [c] + 1) = _
    rw [hb, index_some1 fun x hx => h x (by simp [hx]), if_neg (by decide), if_neg (by simp), List.length_cons]
    omega
theorem cut_none {c : UInt8} {l : Str} (h : ∀ b ∈ l, b ≠ c) : Lib.cut l [c] = (l, [], false) := by
  unfold Lib.cut
  rw [index_none1 h, if_neg (by decide)]
theorem cut_some {c : UInt8} {l r : Str} (h : ∀ b ∈ l, b ≠ c) : Lib.cut (l ++ c :: r) [c] = (l, r, true) := by
  unfold Lib.cut
  rw [index_some1 h, if_pos (by omega), Int.toNat_natCast]
  congr 1
  · rw [List.take_left]
  · congr 1
    show (l ++ c :: r).drop (l.length + 1) = r
    simp
theorem digs_ne {l : Str} (h : Digs l) {c : UInt8} (hc : c.toNat < 48 ∨ 57 < c.toNat) : ∀ b ∈ l, b ≠ c := fun b hb e => by
  have := h b hb
  rw [e] at this
  omega
theorem cut_pt {w h : Str} {dot : Bool} (hw : Digs w) (nd : dot = false → h = []) : Lib.cut (ptS w h dot) [46] = (w, h, dot) := by
  unfold ptS
  cases dot
  · rw [if_neg (by decide), List.append_nil, nd rfl]
    exact cut_none (digs_ne hw (.inl (by decide)))
  · rw [if_pos rfl]
    exact cut_some (digs_ne hw (.inl (by decide)))
theorem valB_lt {b : Nat} (hb : 0 < b) (l : Str) (h : ∀ c ∈ l, c.toNat - 48 < b) : valB b l < b ^ l.length := by
  have key : ∀ (n : Nat) (l : Str), l.length = n → (∀ c ∈ l, c.toNat - 48 < b) → valB b l < b ^ l.length := by
    intro n
    induction n with
    | zero =>
      intro l hl h
      have : l = [] := List.eq_nil_of_length_eq_zero hl
      subst this
      show 0 < b ^ 0
      rw [Nat.pow_zero]
      decide
    | succ n ih =>
      intro l hl h
      rcases List.eq_nil_or_concat l with rfl | ⟨l', c, rfl⟩
      · simp at hl
      · rw [List.concat_eq_append] at h hl ⊢
        have h1 := ih l' (by simpa using hl) fun x hx => h x (by simp [hx])
        have h2 := h c (by simp)
        rw [valB_snoc, List.length_append, List.length_singleton, Nat.pow_succ]
        have h3 : b * (valB b l' + 1) ≤ b * b ^ l'.length := Nat.mul_le_mul_left _ h1
        rw [Nat.mul_add, Nat.mul_one] at h3
        rw [Nat.mul_comm (b ^ l'.length) b]
        omega
  exact key l.length l rfl h
theorem decFrom_val : ∀ (l : Str) (a : Nat), Digs l → Lib.decFrom a l = some (l.foldl (fun n c => 10 * n + (c.toNat - 48)) a)
  | [], a, _ => rfl
  | b :: l, a, h => by
    have hb := h b (by simp)
    have hd : Lib.digitVal b = some (b.toNat - 48) := by unfold Lib.digitVal; rw [if_pos hb]
    rw [Lib.decFrom, hd]
    show Lib.decFrom (a * 10 + (b.toNat - 48)) l = _
    rw [decFrom_val l _ (fun x hx => h x (by simp [hx])), List.foldl_cons, Nat.mul_comm a 10]
theorem atoi_ex {sg ds : Str} (hs : sg = [] ∨ sg = [43] ∨ sg = [45]) (hd : Digs ds) (hl : 1 ≤ ds.length) : Lib.atoi (sg ++ ds) = some (exV sg ds) := by
  have hne : ds.isEmpty = false := by
    cases ds with
    | nil => simp at hl
    | cons b l => rfl
  have hn : Lib.decNat ds = some (valB 10 ds) := by
    unfold Lib.decNat
    rw [hne, if_neg (by decide)]
    exact decFrom_val ds 0 hd
  rcases hs with rfl | rfl | rfl
  · cases ds with
    | nil => simp at hl
    | cons b l =>
      have hb := hd b (by simp)
      have n45 : (b == 45) = false := beq_eq_false_iff_ne.2 fun e => by rw [e] at hb; exact absurd hb.1 (by decide)
      have n43 : (b == 43) = false := beq_eq_false_iff_ne.2 fun e => by rw [e] at hb; exact absurd hb.1 (by decide)
      show Lib.atoi (b :: l) = _
      unfold Lib.atoi
      dsimp only
      rw [n45, n43, hn]
      rfl
  · rw [show Lib.atoi ([43] ++ ds) = (Lib.decNat ds).map fun (m : Nat) => (m : Int) from rfl, hn]
    rfl
  · rw [show Lib.atoi ([45] ++ ds) = (Lib.decNat ds).map fun (m : Nat) => -(m : Int) from rfl, hn]
    rfl
theorem itoa_len {n : Nat} (h : n ≠ 0) : (Lib.itoa (n : Int)).length = (frm n).length := by
  have key : ∀ n : Nat, n ≠ 0 → (Lib.decDigits n).length = (frm n).length := by
    intro n
    induction n using Nat.strongRecOn with
    | ind n ih =>
      intro h
      rw [Lib.decDigits, frm_pos h]
      by_cases hn : n < 10
      · rw [dif_pos hn, show n / 10 = 0 by omega, frm_zero]
        rfl
      · rw [dif_neg hn, List.length_append, ih (n / 10) (by omega) (by omega)]
        rfl
  unfold Lib.itoa
  rw [if_neg (by omega), Int.toNat_natCast]
  exact key n h
end Go.Iron.Tok

/- The token seat: numbers of constants. -/
namespace Go.Iron.Tryz
open Go.Proofs Go.RowKit Go.Iron.Tok Go.Iron.Dg

def cstA (c : Cst) : AV := .tup [.agg (tyE c.tk c.tp c.tq c.tn), .agg (vaE c.vk c.vn c.vq c.vs), iv c.e]
theorem k_fixed (kd : Int) (b most : Nat) (x y : Str) (dot : Bool) (hw : Digs x) (hh : Digs y) (nd : dot = false → y = []) (hl : (ptS x y dot).length ≤ 30000) (hb : b = 2 ∨ b = 10) (hm : b ^ most ≤ 10 ^ 15) (hm2 : most ≤ 31) (hd : ∀ c ∈ x ++ y, c.toNat - 48 < b) : CallT Tryz.prog 37 [sv (ptS x y dot), iv kd, iv b, iv most] [] (fun o A => o = .ret (cstA (fixC kd b most x y)) ∧ A = []) := by
  have hcut := lib_cut (ptS x y dot) [46] (by omega)
  rw [cut_pt hw nd] at hcut
  have hl2 : x.length + y.length ≤ 30000 := by
    unfold ptS at hl
    cases dot
    · rw [nd rfl]; rw [if_neg (by decide), List.append_nil] at hl; exact hl
    · rw [if_pos rfl, List.length_append, List.length_cons] at hl; omega
  have hws : IntKind.wrap .i64 ((x.length : Int) + (y.length : Int)) = ((x.length + y.length : Nat) : Int) := by rw [w64 (by omega) (by omega)]; rfl
  refine callS_body (n := 59) rfl rfl fun w ρ X => ?_
  refine runS_x (I := inf) (J := jnf) ⟨false, false, [], 0, 0⟩ 9999 rfl (by repeat (first | exact obs_nil | refine obs_draw (by kernel_rfl) ?_ | refine obs_same ?_ | refine obs_and ?_ | refine obs_by (by (simp [inB] <;> omega)) ?_)) ?_
  refine runS_call rfl rfl rfl rfl rfl rfl rfl hcut ?_
  refine runS_x (I := inf) (J := jnf) ⟨false, false, [], 0, 0⟩ 9999 rfl (by repeat (first | exact obs_nil | refine obs_draw (by kernel_rfl) ?_ | refine obs_same ?_ | refine obs_and ?_ | refine obs_by (by (simp [inB, blS] <;> omega)) ?_)) ?_
  refine runS_cond rfl (fun h1 => ?_) (fun h1 => ?_)
  · have hgt : x.length + y.length > most := by
      have h2 : decide (IntKind.wrap .i64 ((x.length : Int) + (y.length : Int)) > (most : Int)) = true := h1
      rw [hws] at h2
      simp at h2
      omega
    refine runS_x (I := inf) (J := jnf) ⟨false, false, [], 0, 0⟩ 9999 rfl (by repeat (first | exact obs_nil | refine obs_draw (by kernel_rfl) ?_ | refine obs_same ?_ | refine obs_and ?_ | refine obs_by (by (simp [inB] <;> omega)) ?_)) ?_
    refine runS_ret (I := inf) 0 rfl (Nat.le_refl _) rfl .nil rfl ⟨?_, rfl⟩
    unfold fixC
    rw [if_pos hgt]
    rfl
  · have hgt : ¬ x.length + y.length > most := by
      have h2 : decide (IntKind.wrap .i64 ((x.length : Int) + (y.length : Int)) > (most : Int)) = false := h1
      rw [hws] at h2
      simp at h2
      omega
    have hfx : fixC kd b most x y = ⟨kd, ((x.length + y.length : Nat) : Int), (y.length : Int), 0, kd, (valB b (x ++ y) : Int), (y.length : Int), [], 0⟩ := by
      unfold fixC
      rw [if_neg hgt]
    refine runS_x (I := inf) (J := jnf) ⟨false, false, [], 0, 0⟩ 9999 rfl (by repeat (first | exact obs_nil | refine obs_draw (by kernel_rfl) ?_ | refine obs_same ?_ | refine obs_and ?_ | refine obs_by (by (simp [inB, blS] <;> omega)) ?_)) ?_
    refine runS_opA (.ptr 3 0 0) rfl rfl rfl (op_rangeText (l := x ++ y) rfl Tryz.underlying9 rfl rfl) ?_
    have hpow : b ^ (x ++ y).length ≤ b ^ most := Nat.pow_le_pow_right (by omega) (by rw [List.length_append]; omega)
    have hval : ∀ i, i ≤ (x ++ y).length → valB b ((x ++ y).take i) < 10 ^ 15 := fun i hi => by
      have h1 := valB_lt (b := b) (by omega) ((x ++ y).take i) fun c hc => hd c (List.mem_of_mem_take hc)
      have h2 : b ^ ((x ++ y).take i).length ≤ b ^ (x ++ y).length := Nat.pow_le_pow_right (by omega) (by rw [List.length_take]; omega)
      omega
    have hdig : Digs (x ++ y) := fun c hc => by
      rcases List.mem_append.1 hc with hc | hc
      · exact hw c hc
      · exact hh c hc
    have hxl : (x ++ y).length = x.length + y.length := List.length_append
    generalize hz : x ++ y = z at *
    refine runS_x (I := inf) (J := jnf) ⟨false, false, [], 0, 0⟩ 9999 rfl (by repeat (first | exact obs_nil | refine obs_draw (by kernel_rfl) ?_ | refine obs_same ?_ | refine obs_and ?_ | refine obs_by (by (simp [inB] <;> omega)) ?_)) ?_
    refine runS_while (fun (i : Nat) τ ar => (τ 1 = iv kd ∧ τ 2 = iv b ∧ τ 8 = .ptr 0 0 0 ∧ τ 9 = .ptr 1 0 0 ∧ τ 14 = .ptr 2 0 0 ∧ τ 15 = iv (valB b (z.take i)) ∧ τ 42 = .ptr 3 0 0) ∧ ar = [.box 31 (tyE 0 0 0 0), .box 33 (vaE 0 0 0 []), .box 31 [iv kd, iv (IntKind.wrap .i64 ((x.length : Int) + (y.length : Int))), iv y.length, iv 0, bv false, sv []], .iter z i] ∧ i ≤ z.length) (fun i => z.length - i) 0 ⟨⟨rfl, rfl, rfl, rfl, rfl, rfl, rfl⟩, rfl, Nat.zero_le _⟩ ?_
    rintro i τ' ar' ⟨⟨g1, g2, g8, g9, g14, g15, g42⟩, rfl, hi⟩ ih
    refine runS_says 1 (by exact g1) (Says.refl _) ?_; refine runS_says 2 (by exact g2) (Says.refl _) ?_; refine runS_says 8 (by exact g8) (Says.refl _) ?_; refine runS_says 9 (by exact g9) (Says.refl _) ?_; refine runS_says 14 (by exact g14) (Says.refl _) ?_; refine runS_says 15 (by exact g15) (Says.refl _) ?_; refine runS_says 42 (by exact g42) (Says.refl _) ?_
    refine runS_x (I := inf) (J := jnf) ⟨false, false, [], 0, 0⟩ 9999 rfl (by repeat (first | exact obs_nil | refine obs_draw (by kernel_rfl) ?_ | refine obs_same ?_ | refine obs_and ?_ | refine obs_by (by (simp [inB] <;> omega)) ?_)) ?_
    by_cases hil : i < z.length
    · have hc48 := hdig (z.getD i 0) (by rw [List.getD_eq_getElem?_getD, List.getElem?_eq_getElem hil]; exact List.getElem_mem hil)
      refine runS_opA (.tup [.val (.bool true), .val (.int .i64 i), .val (.int .i32 (z.getD i 0).toNat)]) rfl rfl rfl (op_nextByte (l := z) (pos := i) rfl rfl rfl hil (by omega) rfl) ?_
      have hsn : z.take (i + 1) = z.take i ++ [z.getD i 0] := by
        rw [List.take_succ_eq_append_getElem hil, List.getD_eq_getElem?_getD, List.getElem?_eq_getElem hil]
        rfl
      have hv1 := hval (i + 1) hil
      have hv0 := hval i (by omega)
      have e1 : IntKind.wrap .i64 (IntKind.wrap .i64 ((b : Int) * (valB b (z.take i) : Int)) + IntKind.wrap .i64 (IntKind.wrap .i32 (((z.getD i 0).toNat : Int) - 48))) = ((valB b (z.take (i + 1)) : Nat) : Int) := by
        rw [hsn, valB_snoc] at hv1 ⊢
        have hmul : (b : Int) * (valB b (z.take i) : Int) = ((b * valB b (z.take i) : Nat) : Int) := by rw [Int.natCast_mul]
        rw [hmul]
        generalize b * valB b (z.take i) = m at hv1 ⊢
        generalize (z.getD i 0).toNat = c at hc48 hv1 ⊢
        have e2 : IntKind.wrap .i32 ((c : Int) - 48) = (c : Int) - 48 := IntWalk.i32_in _ (by omega)
        rw [e2, w64 (x := (m : Int)) (by omega) (by omega), w64 (x := (c : Int) - 48) (by omega) (by omega), w64 (by omega) (by omega)]
        omega
      refine runS_x (I := inf) (J := jnf) ⟨false, false, [], 0, 0⟩ 9999 rfl (by repeat (first | exact obs_nil | refine obs_draw (by kernel_rfl) ?_ | refine obs_same ?_ | refine obs_and ?_ | refine obs_by (by (simp [inB] <;> omega)) ?_)) ?_
      refine runS_cond rfl (fun h2 => ?_) (fun h2 => by cases h2)
      refine runS_x (I := inf) (J := jnf) ⟨false, false, [], 0, 0⟩ 9999 rfl (by repeat (first | exact obs_nil | refine obs_draw (by kernel_rfl) ?_ | refine obs_same ?_ | refine obs_and ?_ | refine obs_by (by (simp [inB] <;> omega)) ?_)) ?_
      exact ih (i + 1) _ _ (by omega) ⟨⟨rfl, rfl, rfl, rfl, rfl, congrArg iv e1, rfl⟩, rfl, hil⟩
    · have hie : i = z.length := by omega
      subst hie
      refine runS_op (.tup [.val (.bool false)]) rfl rfl rfl (op_nextEnd (l := z) (pos := z.length) rfl rfl rfl (Nat.le_refl _)) ?_
      rw [List.take_length]
      refine runS_x (I := inf) (J := jnf) ⟨false, false, [], 0, 0⟩ 9999 rfl (by repeat (first | exact obs_nil | refine obs_draw (by kernel_rfl) ?_ | refine obs_same ?_ | refine obs_and ?_ | refine obs_by (by (simp [inB] <;> omega)) ?_)) ?_
      refine runS_cond rfl (fun h2 => by cases h2) (fun h2 => ?_)
      refine runS_x (I := inf) (J := jnf) ⟨false, false, [], 0, 0⟩ 9999 rfl (by repeat (first | exact obs_nil | refine obs_draw (by kernel_rfl) ?_ | refine obs_same ?_ | refine obs_and ?_ | refine obs_by (by (simp [inB] <;> omega)) ?_)) ?_
      refine runS_drawG (ch := []) (A2 := fun _ => []) 7 [6] (fun t => [.box 31 [cond (t.getD 0 false) (iv kd) (iv 0), cond (t.getD 0 false) (iv (IntKind.wrap .i64 ((x.length : Int) + (y.length : Int)))) (iv 0), cond (t.getD 0 false) (iv y.length) (iv 0), iv 0, bv false, sv []], .box 33 (vaE 0 0 0 []), .box 31 [iv kd, iv (IntKind.wrap .i64 ((x.length : Int) + (y.length : Int))), iv y.length, iv 0, bv false, sv []], .iter z z.length]) none (c := 9) jnfI.draw (by kernel_rfl) rfl (lexg_g (I := inf) (J := jnf) none ⟨⟨_, rfl, (by repeat (first | exact obs_nil | refine obs_same ?_ | refine obs_and ?_ | refine obs_by (by (simp [inB] <;> omega)) ?_))⟩, (by first | exact .inl (by decide +kernel) | exact .inr ⟨_, rfl, (by repeat (first | exact obs_nil | refine obs_same ?_ | refine obs_and ?_ | refine obs_by (by (simp [inB] <;> omega)) ?_))⟩)⟩ rfl rfl rfl rfl (lexg_g (I := inf) (J := jnf) none ⟨⟨_, rfl, (by repeat (first | exact obs_nil | refine obs_same ?_ | refine obs_and ?_ | refine obs_by (by (simp [inB] <;> omega)) ?_))⟩, (by first | exact .inl (by decide +kernel) | exact .inr ⟨_, rfl, (by repeat (first | exact obs_nil | refine obs_same ?_ | refine obs_and ?_ | refine obs_by (by (simp [inB] <;> omega)) ?_))⟩)⟩ rfl rfl rfl rfl (lexg_g (I := inf) (J := jnf) none ⟨⟨_, rfl, (by repeat (first | exact obs_nil | refine obs_same ?_ | refine obs_and ?_ | refine obs_by (by (simp [inB] <;> omega)) ?_))⟩, (by first | exact .inl (by decide +kernel) | exact .inr ⟨_, rfl, (by repeat (first | exact obs_nil | refine obs_same ?_ | refine obs_and ?_ | refine obs_by (by (simp [inB] <;> omega)) ?_))⟩)⟩ rfl rfl rfl rfl (lexg_g (I := inf) (J := jnf) none ⟨⟨_, rfl, (by repeat (first | exact obs_nil | refine obs_same ?_ | refine obs_and ?_ | refine obs_by (by (simp [inB] <;> omega)) ?_))⟩, (by first | exact .inl (by decide +kernel) | exact .inr ⟨_, rfl, (by repeat (first | exact obs_nil | refine obs_same ?_ | refine obs_and ?_ | refine obs_by (by (simp [inB] <;> omega)) ?_))⟩)⟩ rfl rfl rfl rfl (lexg_g (I := inf) (J := jnf) none ⟨⟨_, rfl, (by repeat (first | exact obs_nil | refine obs_same ?_ | refine obs_and ?_ | refine obs_by (by (simp [inB] <;> omega)) ?_))⟩, (by first | exact .inl (by decide +kernel) | exact .inr ⟨_, rfl, (by repeat (first | exact obs_nil | refine obs_same ?_ | refine obs_and ?_ | refine obs_by (by (simp [inB] <;> omega)) ?_))⟩)⟩ rfl rfl rfl rfl (lexg_g (I := inf) (J := jnf) none ⟨⟨_, rfl, (by repeat (first | exact obs_nil | refine obs_same ?_ | refine obs_and ?_ | refine obs_by (by (simp [inB] <;> omega)) ?_))⟩, (by first | exact .inl (by decide +kernel) | exact .inr ⟨_, rfl, (by repeat (first | exact obs_nil | refine obs_same ?_ | refine obs_and ?_ | refine obs_by (by (simp [inB] <;> omega)) ?_))⟩)⟩ rfl rfl rfl rfl (lexg_g (I := inf) (J := jnf) (some .store) ⟨⟨_, rfl, (by repeat (first | exact obs_nil | refine obs_same ?_ | refine obs_and ?_ | refine obs_by (by (simp [inB] <;> omega)) ?_))⟩, .inl rfl⟩ rfl rfl rfl rfl lexg_nil))))))) rfl (fun _ => ?_) (fun h => by cases h)
      refine runS_x (I := inf) (J := jnf) ⟨false, false, [], 0, 0⟩ 9999 rfl (by repeat (first | exact obs_nil | refine obs_draw (by kernel_rfl) ?_ | refine obs_same ?_ | refine obs_and ?_ | refine obs_by (by (simp [inB] <;> omega)) ?_)) ?_
      refine runS_ret (I := inf) 0 rfl (Nat.le_refl _) rfl .nil rfl ⟨?_, rfl⟩
      rw [hfx]
      show Out.ret (.tup [.agg [iv kd, iv (IntKind.wrap .i64 ((x.length : Int) + (y.length : Int))), iv y.length, iv 0, bv false, sv []], .agg (vaE kd (valB b z) y.length []), iv 0]) = _
      rw [hws]
      rfl
theorem pt_mem {x y : Str} {dot : Bool} (hx : Digs x) (hy : Digs y) {b : UInt8} (hb : b ∈ ptS x y dot) : (48 ≤ b.toNat ∧ b.toNat ≤ 57) ∨ b = 46 := by
  unfold ptS at hb
  rcases List.mem_append.1 hb with hb | hb
  · exact .inl (hx b hb)
  · cases dot
    · rw [if_neg (by decide)] at hb
      cases hb
    · rw [if_pos rfl] at hb
      rcases List.mem_cons.1 hb with hb | hb
      · exact .inr hb
      · exact .inl (hy b hb)
theorem pt_ne {x y : Str} {dot : Bool} (hx : Digs x) (hy : Digs y) {c : UInt8} (hc : 57 < c.toNat) : ∀ b ∈ ptS x y dot, b ≠ c := fun b hb e => by
  rcases pt_mem hx hy hb with h | h
  · rw [e] at h; omega
  · rw [← e, h] at hc; exact absurd hc (by decide)
theorem suf_yes (l : Str) : Lib.hasSuffix (l ++ [66]) [66] = true ∧ Lib.trimSuffix (l ++ [66]) [66] = l := by
  have h : Lib.hasSuffix (l ++ [66]) [66] = true := List.isSuffixOf_iff_suffix.2 (List.suffix_append _ _)
  refine ⟨h, ?_⟩
  unfold Lib.trimSuffix
  rw [h, if_pos rfl]
  simp
theorem suf_no {l : Str} (hl : ∀ b ∈ l, b ≠ 66) : Lib.hasSuffix l [66] = false ∧ Lib.trimSuffix l [66] = l := by
  have h : Lib.hasSuffix l [66] = false := by
    cases hh : Lib.hasSuffix l [66] with
    | false => rfl
    | true =>
      have h1 := List.isSuffixOf_iff_suffix.1 hh
      exact absurd rfl (hl 66 (h1.subset (by simp)))
  refine ⟨h, ?_⟩
  unfold Lib.trimSuffix
  rw [h, if_neg (by decide)]
theorem k_numPlain (x y : Str) (dot : Bool) (hx : Digs x) (hy : Digs y) (nd : dot = false → y = []) (hl : (ptS x y dot).length ≤ 30000) : CallT Tryz.prog 19 [sv (ptS x y dot)] [] (fun o A => o = .ret (cstA (fixC 2 10 15 x y)) ∧ A = []) := by
  have h1 := lib_cutSuffix (ptS x y dot) [66] (by omega)
  rw [(suf_no (pt_ne hx hy (by decide))).1, (suf_no (pt_ne hx hy (by decide))).2] at h1
  have h2 := lib_cut (ptS x y dot) [69] (by omega)
  rw [cut_none (pt_ne hx hy (by decide))] at h2
  have h3 := k_fixed 2 10 15 x y dot hx hy nd hl (.inr rfl) (by decide) (by decide) (fun c hc => by
    rcases List.mem_append.1 hc with hc | hc
    · have := hx c hc; omega
    · have := hy c hc; omega)
  refine callS_body (n := 98) rfl rfl fun w ρ X => ?_
  refine runS_x (I := inf) (J := jnf) ⟨false, false, [], 0, 0⟩ 9999 rfl (by repeat (first | exact obs_nil | refine obs_draw (by kernel_rfl) ?_ | refine obs_same ?_ | refine obs_and ?_ | refine obs_by (by (simp [inB] <;> omega)) ?_)) ?_
  refine runS_call rfl rfl rfl rfl rfl rfl rfl h1 ?_
  refine runS_x (I := inf) (J := jnf) ⟨false, false, [], 0, 0⟩ 9999 rfl (by repeat (first | exact obs_nil | refine obs_draw (by kernel_rfl) ?_ | refine obs_same ?_ | refine obs_and ?_ | refine obs_by (by (simp [inB] <;> omega)) ?_)) ?_
  refine runS_cond rfl (fun h => by cases h) (fun h => ?_)
  refine runS_x (I := inf) (J := jnf) ⟨false, false, [], 0, 0⟩ 9999 rfl (by repeat (first | exact obs_nil | refine obs_draw (by kernel_rfl) ?_ | refine obs_same ?_ | refine obs_and ?_ | refine obs_by (by (simp [inB] <;> omega)) ?_)) ?_
  refine runS_call rfl rfl rfl rfl rfl rfl rfl h2 ?_
  refine runS_x (I := inf) (J := jnf) ⟨false, false, [], 0, 0⟩ 9999 rfl (by repeat (first | exact obs_nil | refine obs_draw (by kernel_rfl) ?_ | refine obs_same ?_ | refine obs_and ?_ | refine obs_by (by (simp [inB] <;> omega)) ?_)) ?_
  refine runS_cond rfl (fun h => ?_) (fun h => by cases h)
  refine runS_x (I := inf) (J := jnf) ⟨false, false, [], 0, 0⟩ 9999 rfl (by repeat (first | exact obs_nil | refine obs_draw (by kernel_rfl) ?_ | refine obs_same ?_ | refine obs_and ?_ | refine obs_by (by (simp [inB] <;> omega)) ?_)) ?_
  refine runS_call rfl rfl rfl rfl rfl rfl rfl h3 ?_
  refine runS_x (I := inf) (J := jnf) ⟨false, false, [], 0, 0⟩ 9999 rfl (by repeat (first | exact obs_nil | refine obs_draw (by kernel_rfl) ?_ | refine obs_same ?_ | refine obs_and ?_ | refine obs_by (by (simp [inB] <;> omega)) ?_)) ?_
  refine runS_ret (I := inf) 0 rfl (Nat.le_refl _) rfl .nil rfl ⟨?_, rfl⟩
  rfl
theorem k_numBin (x y : Str) (dot : Bool) (hx : Digs x) (hy : Digs y) (nd : dot = false → y = []) (hb : ∀ b ∈ x ++ y, b.toNat = 48 ∨ b.toNat = 49) (hl : (ptS x y dot).length ≤ 30000) : CallT Tryz.prog 19 [sv (ptS x y dot ++ [66])] [] (fun o A => o = .ret (cstA (fixC 1 2 31 x y)) ∧ A = []) := by
  have h1 := lib_cutSuffix (ptS x y dot ++ [66]) [66] (by rw [List.length_append, List.length_singleton]; omega)
  rw [(suf_yes _).1, (suf_yes _).2] at h1
  have h3 := k_fixed 1 2 31 x y dot hx hy nd (by omega) (.inl rfl) (by decide) (by decide) (fun c hc => by
    have := hb c hc
    omega)
  refine callS_body (n := 98) rfl rfl fun w ρ X => ?_
  refine runS_x (I := inf) (J := jnf) ⟨false, false, [], 0, 0⟩ 9999 rfl (by repeat (first | exact obs_nil | refine obs_draw (by kernel_rfl) ?_ | refine obs_same ?_ | refine obs_and ?_ | refine obs_by (by (simp [inB] <;> omega)) ?_)) ?_
  refine runS_call rfl rfl rfl rfl rfl rfl rfl h1 ?_
  refine runS_x (I := inf) (J := jnf) ⟨false, false, [], 0, 0⟩ 9999 rfl (by repeat (first | exact obs_nil | refine obs_draw (by kernel_rfl) ?_ | refine obs_same ?_ | refine obs_and ?_ | refine obs_by (by (simp [inB] <;> omega)) ?_)) ?_
  refine runS_cond rfl (fun h => ?_) (fun h => by cases h)
  refine runS_x (I := inf) (J := jnf) ⟨false, false, [], 0, 0⟩ 9999 rfl (by repeat (first | exact obs_nil | refine obs_draw (by kernel_rfl) ?_ | refine obs_same ?_ | refine obs_and ?_ | refine obs_by (by (simp [inB] <;> omega)) ?_)) ?_
  refine runS_call rfl rfl rfl rfl rfl rfl rfl h3 ?_
  refine runS_x (I := inf) (J := jnf) ⟨false, false, [], 0, 0⟩ 9999 rfl (by repeat (first | exact obs_nil | refine obs_draw (by kernel_rfl) ?_ | refine obs_same ?_ | refine obs_and ?_ | refine obs_by (by (simp [inB] <;> omega)) ?_)) ?_
  refine runS_ret (I := inf) 0 rfl (Nat.le_refl _) rfl .nil rfl ⟨?_, rfl⟩
  rfl
theorem exV_le {sg ds : Str} (hd : Digs ds) (hl : ds.length ≤ 2) : -99 ≤ exV sg ds ∧ exV sg ds ≤ 99 := by
  have h1 := valB_lt (b := 10) (by decide) ds fun c hc => by have := hd c hc; omega
  have h2 : 10 ^ ds.length ≤ 10 ^ 2 := Nat.pow_le_pow_right (by decide) hl
  unfold exV
  split <;> omega
theorem frm_len16 {n : Nat} (h : n < 10 ^ 16) : (frm n).length ≤ 16 := frm_len_lt.2 h
theorem k_numFlo (x y : Str) (dot : Bool) (sg ds : Str) (hx : Digs x) (hy : Digs y) (nd : dot = false → y = []) (hs : sg = [] ∨ sg = [43] ∨ sg = [45]) (hds : Digs ds) (hd1 : 1 ≤ ds.length) (hd2 : ds.length ≤ 2) (hl : (ptS x y dot).length ≤ 30000) : CallT Tryz.prog 19 [sv (ptS x y dot ++ 69 :: (sg ++ ds))] [] (fun o A => o = .ret (cstA (floC x y (exV sg ds))) ∧ A = []) := by
  have hsl : sg.length ≤ 1 := by rcases hs with rfl | rfl | rfl <;> decide
  have hno : ∀ b ∈ ptS x y dot ++ 69 :: (sg ++ ds), b ≠ 66 := fun b hb => by
    rcases List.mem_append.1 hb with hb | hb
    · exact pt_ne hx hy (by decide) b hb
    · rcases List.mem_cons.1 hb with rfl | hb
      · decide
      · rcases List.mem_append.1 hb with hb | hb
        · rcases hs with rfl | rfl | rfl
          · cases hb
          · have : b = 43 := by simpa using hb
            rw [this]; decide
          · have : b = 45 := by simpa using hb
            rw [this]; decide
        · exact digs_ne hds (.inr (by decide)) b hb
  have hTl : (ptS x y dot ++ 69 :: (sg ++ ds)).length ≤ 100000 := by rw [List.length_append, List.length_cons, List.length_append]; omega
  have h1 := lib_cutSuffix (ptS x y dot ++ 69 :: (sg ++ ds)) [66] hTl
  rw [(suf_no hno).1, (suf_no hno).2] at h1
  have h2 := lib_cut (ptS x y dot ++ 69 :: (sg ++ ds)) [69] hTl
  rw [cut_some (pt_ne hx hy (by decide))] at h2
  have hd10 : ∀ c ∈ x ++ y, c.toNat - 48 < 10 := fun c hc => by
    rcases List.mem_append.1 hc with hc | hc
    · have := hx c hc; omega
    · have := hy c hc; omega
  have h3 := k_fixed 3 10 15 x y dot hx hy nd (by omega) (.inr rfl) (by decide) (by decide) hd10
  have h4 := lib_atoi (sg ++ ds) (exV sg ds) (by rw [List.length_append]; omega) (atoi_ex hs hds hd1)
  have hex := exV_le (sg := sg) hds hd2
  refine callS_body (n := 98) rfl rfl fun w ρ X => ?_
  refine runS_x (I := inf) (J := jnf) ⟨false, false, [], 0, 0⟩ 9999 rfl (by repeat (first | exact obs_nil | refine obs_draw (by kernel_rfl) ?_ | refine obs_same ?_ | refine obs_and ?_ | refine obs_by (by (simp [inB] <;> omega)) ?_)) ?_
  refine runS_call rfl rfl rfl rfl rfl rfl rfl h1 ?_
  refine runS_x (I := inf) (J := jnf) ⟨false, false, [], 0, 0⟩ 9999 rfl (by repeat (first | exact obs_nil | refine obs_draw (by kernel_rfl) ?_ | refine obs_same ?_ | refine obs_and ?_ | refine obs_by (by (simp [inB] <;> omega)) ?_)) ?_
  refine runS_cond rfl (fun h => by cases h) (fun h => ?_)
  refine runS_x (I := inf) (J := jnf) ⟨false, false, [], 0, 0⟩ 9999 rfl (by repeat (first | exact obs_nil | refine obs_draw (by kernel_rfl) ?_ | refine obs_same ?_ | refine obs_and ?_ | refine obs_by (by (simp [inB] <;> omega)) ?_)) ?_
  refine runS_call rfl rfl rfl rfl rfl rfl rfl h2 ?_
  refine runS_x (I := inf) (J := jnf) ⟨false, false, [], 0, 0⟩ 9999 rfl (by repeat (first | exact obs_nil | refine obs_draw (by kernel_rfl) ?_ | refine obs_same ?_ | refine obs_and ?_ | refine obs_by (by (simp [inB] <;> omega)) ?_)) ?_
  refine runS_cond rfl (fun h => by cases h) (fun h => ?_)
  refine runS_x (I := inf) (J := jnf) ⟨false, false, [], 0, 0⟩ 9999 rfl (by repeat (first | exact obs_nil | refine obs_draw (by kernel_rfl) ?_ | refine obs_same ?_ | refine obs_and ?_ | refine obs_by (by (simp [inB] <;> omega)) ?_)) ?_
  by_cases hP : x.length + y.length > 15
  · have e1 : fixC 3 10 15 x y = czero 7 := by unfold fixC; rw [if_pos hP]
    have e2 : floC x y (exV sg ds) = czero 7 := by unfold floC; rw [if_pos hP]
    rw [e1] at h3
    rw [e2]
    refine runS_call rfl rfl rfl rfl rfl rfl rfl h3 ?_
    refine runS_x (I := inf) (J := jnf) ⟨false, false, [], 0, 0⟩ 9999 rfl (by repeat (first | exact obs_nil | refine obs_draw (by kernel_rfl) ?_ | refine obs_same ?_ | refine obs_and ?_ | refine obs_by (by (simp [inB] <;> omega)) ?_)) ?_
    refine runS_cond rfl (fun h => ?_) (fun h => by cases h)
    refine runS_x (I := inf) (J := jnf) ⟨false, false, [], 0, 0⟩ 9999 rfl (by repeat (first | exact obs_nil | refine obs_draw (by kernel_rfl) ?_ | refine obs_same ?_ | refine obs_and ?_ | refine obs_by (by (simp [inB] <;> omega)) ?_)) ?_
    refine runS_ret (I := inf) 0 rfl (Nat.le_refl _) rfl .nil rfl ⟨?_, rfl⟩
    rfl
  · have e1 : fixC 3 10 15 x y = ⟨3, ((x.length + y.length : Nat) : Int), (y.length : Int), 0, 3, (valB 10 (x ++ y) : Int), (y.length : Int), [], 0⟩ := by unfold fixC; rw [if_neg hP]
    rw [e1] at h3
    have hvl : valB 10 (x ++ y) < 10 ^ 15 := by
      have h5 := valB_lt (b := 10) (by decide) (x ++ y) hd10
      have h6 : 10 ^ (x ++ y).length ≤ 10 ^ 15 := Nat.pow_le_pow_right (by decide) (by rw [List.length_append]; omega)
      omega
    have hwq : IntKind.wrap .i64 (exV sg ds - (y.length : Int)) = exV sg ds - (y.length : Int) := w64 (by omega) (by omega)
    have e2 : floC x y (exV sg ds) = if valB 10 (x ++ y) = 0 then ⟨3, ((x.length + y.length : Nat) : Int), 0, 0, 3, 0, 0, [], 0⟩
      else if -75 ≤ ((frm (normN (valB 10 (x ++ y)) (exV sg ds - y.length)).1).length : Int) + (normN (valB 10 (x ++ y)) (exV sg ds - y.length)).2 - 1 ∧ ((frm (normN (valB 10 (x ++ y)) (exV sg ds - y.length)).1).length : Int) + (normN (valB 10 (x ++ y)) (exV sg ds - y.length)).2 - 1 ≤ 75 then
        ⟨3, ((x.length + y.length : Nat) : Int), 0, 0, 3, ((normN (valB 10 (x ++ y)) (exV sg ds - y.length)).1 : Int), (normN (valB 10 (x ++ y)) (exV sg ds - y.length)).2, [], 0⟩
      else czero 7 := by unfold floC; rw [if_neg hP]
    rw [e2]
    refine runS_call rfl rfl rfl rfl rfl rfl rfl h3 ?_
    refine runS_x (I := inf) (J := jnf) ⟨false, false, [], 0, 0⟩ 9999 rfl (by repeat (first | exact obs_nil | refine obs_draw (by kernel_rfl) ?_ | refine obs_same ?_ | refine obs_and ?_ | refine obs_by (by (simp [inB] <;> omega)) ?_)) ?_
    refine runS_cond rfl (fun h => by cases h) (fun h => ?_)
    refine runS_x (I := inf) (J := jnf) ⟨false, false, [], 0, 0⟩ 9999 rfl (by repeat (first | exact obs_nil | refine obs_draw (by kernel_rfl) ?_ | refine obs_same ?_ | refine obs_and ?_ | refine obs_by (by (simp [inB] <;> omega)) ?_)) ?_
    refine runS_call rfl rfl rfl rfl rfl rfl rfl h4 ?_
    refine runS_x (I := inf) (J := jnf) ⟨false, false, [], 0, 0⟩ 9999 rfl (by repeat (first | exact obs_nil | refine obs_draw (by kernel_rfl) ?_ | refine obs_same ?_ | refine obs_and ?_ | refine obs_by (by (simp [inB] <;> omega)) ?_)) ?_
    generalize valB 10 (x ++ y) = N at *
    refine runS_cond rfl (fun h5 => ?_) (fun h5 => ?_)
    · have hN : N = 0 := by
        have : ((N : Int) == 0) = true := h5
        simp at this
        omega
      subst hN
      refine runS_x (I := inf) (J := jnf) ⟨false, false, [], 0, 0⟩ 9999 rfl (by repeat (first | exact obs_nil | refine obs_draw (by kernel_rfl) ?_ | refine obs_same ?_ | refine obs_and ?_ | refine obs_by (by (simp [inB] <;> omega)) ?_)) ?_
      refine runS_drawG (ch := []) (A2 := fun _ => []) 3 [2] (fun t => [.box 31 [cond (t.getD 0 false) (iv 3) (iv 0), cond (t.getD 0 false) (iv (x.length + y.length : Nat)) (iv 0), iv 0, iv 0, bv false, sv []], .box 33 (vaE 0 0 0 []), .box 31 [iv 3, iv (x.length + y.length : Nat), iv 0, iv 0, bv false, sv []], .box 33 (vaE 3 0 0 [])]) none (c := 9) jnfI.draw (by kernel_rfl) rfl (lexg_g (I := inf) (J := jnf) none ⟨⟨_, rfl, (by repeat (first | exact obs_nil | refine obs_same ?_ | refine obs_and ?_ | refine obs_by (by (simp [inB] <;> omega)) ?_))⟩, (by first | exact .inl (by decide +kernel) | exact .inr ⟨_, rfl, (by repeat (first | exact obs_nil | refine obs_same ?_ | refine obs_and ?_ | refine obs_by (by (simp [inB] <;> omega)) ?_))⟩)⟩ rfl rfl rfl rfl (lexg_g (I := inf) (J := jnf) none ⟨⟨_, rfl, (by repeat (first | exact obs_nil | refine obs_same ?_ | refine obs_and ?_ | refine obs_by (by (simp [inB] <;> omega)) ?_))⟩, (by first | exact .inl (by decide +kernel) | exact .inr ⟨_, rfl, (by repeat (first | exact obs_nil | refine obs_same ?_ | refine obs_and ?_ | refine obs_by (by (simp [inB] <;> omega)) ?_))⟩)⟩ rfl rfl rfl rfl (lexg_g (I := inf) (J := jnf) (some .store) ⟨⟨_, rfl, (by repeat (first | exact obs_nil | refine obs_same ?_ | refine obs_and ?_ | refine obs_by (by (simp [inB] <;> omega)) ?_))⟩, .inl rfl⟩ rfl rfl rfl rfl lexg_nil))) rfl (fun _ => ?_) (fun h => by cases h)
      refine runS_x (I := inf) (J := jnf) ⟨false, false, [], 0, 0⟩ 9999 rfl (by repeat (first | exact obs_nil | refine obs_draw (by kernel_rfl) ?_ | refine obs_same ?_ | refine obs_and ?_ | refine obs_by (by (simp [inB] <;> omega)) ?_)) ?_
      refine runS_ret (I := inf) 0 rfl (Nat.le_refl _) rfl .nil rfl ⟨?_, rfl⟩
      rw [if_pos rfl]
      rfl
    · have hN : N ≠ 0 := by
        have : ((N : Int) == 0) = false := h5
        simp at this
        omega
      rw [if_neg hN]
      rw [hwq]
      refine runS_x (I := inf) (J := jnf) ⟨false, false, [], 0, 0⟩ 9999 rfl (by repeat (first | exact obs_nil | refine obs_draw (by kernel_rfl) ?_ | refine obs_same ?_ | refine obs_and ?_ | refine obs_by (by (simp [inB] <;> omega)) ?_)) ?_
      refine runS_while (fun (p : Nat × Int) τ ar => (τ 2 = .ptr 0 0 0 ∧ τ 3 = .ptr 1 0 0 ∧ τ 10 = .ptr 2 0 0 ∧ τ 11 = .ptr 3 0 0) ∧ ar = [.box 31 (tyE 0 0 0 0), .box 33 (vaE 0 0 0 []), .box 31 [iv 3, iv (x.length + y.length : Nat), iv 0, iv 0, bv false, sv []], .box 33 (vaE 3 p.1 p.2 [])] ∧ p.1 ≠ 0 ∧ normN N (exV sg ds - y.length) = normN p.1 p.2 ∧ exV sg ds - y.length ≤ p.2 ∧ p.2 + p.1 ≤ exV sg ds - y.length + N) (fun p => p.1) (N, exV sg ds - y.length) ⟨⟨rfl, rfl, rfl, rfl⟩, rfl, hN, rfl, Int.le_refl _, Int.le_refl _⟩ ?_
      rintro ⟨n, q⟩ τ' ar' ⟨⟨g2, g3, g10, g11⟩, rfl, hn0, hnn, hq1, hq2⟩ ih
      dsimp only at hn0 hnn hq1 hq2
      refine runS_says 2 (by exact g2) (Says.refl _) ?_; refine runS_says 3 (by exact g3) (Says.refl _) ?_; refine runS_says 10 (by exact g10) (Says.refl _) ?_; refine runS_says 11 (by exact g11) (Says.refl _) ?_
      refine runS_x (I := inf) (J := jnf) ⟨false, false, [], 0, 0⟩ 9999 rfl (by repeat (first | exact obs_nil | refine obs_draw (by kernel_rfl) ?_ | refine obs_same ?_ | refine obs_and ?_ | refine obs_by (by first | exact (fun _ => nz10) | (simp [inB] <;> omega)) ?_)) ?_
      refine runS_cond rfl (fun h6 => ?_) (fun h6 => ?_)
      · have h7 : ((n : Int).tmod 10 == 0) = true := h6
        have h8 : n % 10 = 0 := by
          rw [show (n : Int).tmod 10 = ((n % 10 : Nat) : Int) from (Int.ofNat_tmod n 10).symm] at h7
          simp at h7
          omega
        refine runS_x (I := inf) (J := jnf) ⟨false, false, [], 0, 0⟩ 9999 rfl (by repeat (first | exact obs_nil | refine obs_draw (by kernel_rfl) ?_ | refine obs_same ?_ | refine obs_and ?_ | refine obs_by (by first | exact (fun _ => nz10) | (simp [inB] <;> omega)) ?_)) ?_
        have e3 : IntKind.wrap .i64 (Int.tdiv (n : Int) 10) = ((n / 10 : Nat) : Int) := by
          rw [show (n : Int).tdiv 10 = ((n / 10 : Nat) : Int) from (Int.ofNat_tdiv n 10).symm]
          exact w64 (by omega) (by omega)
        have e4 : IntKind.wrap .i64 (q + 1) = q + 1 := w64 (by omega) (by omega)
        refine ih (n / 10, q + 1) _ _ (by show n / 10 < n; omega) ⟨⟨rfl, rfl, rfl, rfl⟩, ?_, by show n / 10 ≠ 0; omega, ?_, by show _ ≤ q + 1; omega, by show q + 1 + ((n / 10 : Nat) : Int) ≤ _; omega⟩
        · show [_, _, _, AO.box 33 [iv 3, iv (IntKind.wrap .i64 (Int.tdiv (n : Int) 10)), iv (IntKind.wrap .i64 (q + 1)), sv []]] = [_, _, _, _]
          rw [e3, e4]
        · rw [hnn]
          conv => lhs; rw [normN]
          rw [dif_pos ⟨hn0, h8⟩]
      · have h7 : ((n : Int).tmod 10 == 0) = false := h6
        have h8 : n % 10 ≠ 0 := by
          rw [show (n : Int).tmod 10 = ((n % 10 : Nat) : Int) from (Int.ofNat_tmod n 10).symm] at h7
          simp at h7
          omega
        have e3 : normN N (exV sg ds - y.length) = (n, q) := by
          rw [hnn, normN, dif_neg (fun h => h8 h.2)]
        rw [e3]
        refine runS_x (I := inf) (J := jnf) ⟨false, false, [], 0, 0⟩ 9999 rfl (by repeat (first | exact obs_nil | refine obs_draw (by kernel_rfl) ?_ | refine obs_same ?_ | refine obs_and ?_ | refine obs_by (by (simp [inB] <;> omega)) ?_)) ?_
        have h9 := lib_itoa n (by omega)
        have hlen : (Lib.itoa (n : Int)).length = (frm n).length := itoa_len hn0
        have hfl : (frm n).length ≤ 16 := frm_len16 (by omega)
        refine runS_draw 6 (by kernel_rfl) (lexj_x (I := inf) (J := jnf) 99 rfl rfl (by repeat (first | exact obs_nil | refine obs_same ?_ | refine obs_and ?_ | refine obs_by (by (simp [inB, blS, frm_len16] <;> omega)) ?_)) (lexj_call rfl rfl rfl rfl rfl rfl rfl rfl (lib_itoa n (by omega) (by omega)) (lexj_x (I := inf) (J := jnf) 99 rfl rfl (by repeat (first | exact obs_nil | refine obs_same ?_ | refine obs_and ?_ | refine obs_by (by (simp [inB, blS, frm_len16] <;> omega)) ?_)) lexj_nil))) ?_
        refine runS_x (I := inf) (J := jnf) ⟨false, false, [], 0, 0⟩ 9999 rfl (by repeat (first | exact obs_nil | refine obs_draw (by kernel_rfl) ?_ | refine obs_same ?_ | refine obs_and ?_ | refine obs_by (by (simp [inB, blS, hlen, hfl] <;> omega)) ?_)) ?_
        have e5 : IntKind.wrap .i64 (IntKind.wrap .i64 (((bl (bs (Lib.itoa (n : Int)))).length : Int) + (n, q).snd) - 1) = ((frm n).length : Int) + q - 1 := by
          rw [blS, hlen]
          show IntKind.wrap .i64 (IntKind.wrap .i64 (((frm n).length : Int) + q) - 1) = _
          rw [w64 (x := ((frm n).length : Int) + q) (by omega) (by omega), w64 (by omega) (by omega)]
        generalize IntKind.wrap .i64 (IntKind.wrap .i64 (((bl (bs (Lib.itoa (n : Int)))).length : Int) + (n, q).snd) - 1) = L at *
        refine runS_cond rfl (fun h9 => ?_) (fun h9 => ?_)
        · replace h9 : (if decide (L > 75) = true then true else decide (L < -75)) = true := h9
          have h10 : ¬ (-75 ≤ L ∧ L ≤ 75) := fun h => by
            rw [decide_eq_false (by omega), decide_eq_false (by omega)] at h9
            cases h9
          refine runS_x (I := inf) (J := jnf) ⟨false, false, [], 0, 0⟩ 9999 rfl (by repeat (first | exact obs_nil | refine obs_draw (by kernel_rfl) ?_ | refine obs_same ?_ | refine obs_and ?_ | refine obs_by (by (simp [inB] <;> omega)) ?_)) ?_
          refine runS_ret (I := inf) 0 rfl (Nat.le_refl _) rfl .nil rfl ⟨?_, rfl⟩
          show _ = Out.ret (cstA (if -75 ≤ ((frm n).length : Int) + q - 1 ∧ ((frm n).length : Int) + q - 1 ≤ 75 then _ else czero 7))
          rw [← e5, if_neg h10]
          rfl
        · replace h9 : (if decide (L > 75) = true then true else decide (L < -75)) = false := h9
          have h10 : -75 ≤ L ∧ L ≤ 75 := by
            by_cases h : L > 75
            · rw [decide_eq_true h] at h9
              cases h9
            · rw [decide_eq_false h] at h9
              have := of_decide_eq_false (show decide (L < -75) = false from h9)
              omega
          refine runS_x (I := inf) (J := jnf) ⟨false, false, [], 0, 0⟩ 9999 rfl (by repeat (first | exact obs_nil | refine obs_draw (by kernel_rfl) ?_ | refine obs_same ?_ | refine obs_and ?_ | refine obs_by (by (simp [inB] <;> omega)) ?_)) ?_
          refine runS_drawG (ch := []) (A2 := fun _ => []) 3 [2] (fun t => [.box 31 [cond (t.getD 0 false) (iv 3) (iv 0), cond (t.getD 0 false) (iv (x.length + y.length : Nat)) (iv 0), iv 0, iv 0, bv false, sv []], .box 33 (vaE 0 0 0 []), .box 31 [iv 3, iv (x.length + y.length : Nat), iv 0, iv 0, bv false, sv []], .box 33 (vaE 3 n q [])]) none (c := 9) jnfI.draw (by kernel_rfl) rfl (lexg_g (I := inf) (J := jnf) none ⟨⟨_, rfl, (by repeat (first | exact obs_nil | refine obs_same ?_ | refine obs_and ?_ | refine obs_by (by (simp [inB] <;> omega)) ?_))⟩, (by first | exact .inl (by decide +kernel) | exact .inr ⟨_, rfl, (by repeat (first | exact obs_nil | refine obs_same ?_ | refine obs_and ?_ | refine obs_by (by (simp [inB] <;> omega)) ?_))⟩)⟩ rfl rfl rfl rfl (lexg_g (I := inf) (J := jnf) none ⟨⟨_, rfl, (by repeat (first | exact obs_nil | refine obs_same ?_ | refine obs_and ?_ | refine obs_by (by (simp [inB] <;> omega)) ?_))⟩, (by first | exact .inl (by decide +kernel) | exact .inr ⟨_, rfl, (by repeat (first | exact obs_nil | refine obs_same ?_ | refine obs_and ?_ | refine obs_by (by (simp [inB] <;> omega)) ?_))⟩)⟩ rfl rfl rfl rfl (lexg_g (I := inf) (J := jnf) (some .store) ⟨⟨_, rfl, (by repeat (first | exact obs_nil | refine obs_same ?_ | refine obs_and ?_ | refine obs_by (by (simp [inB] <;> omega)) ?_))⟩, .inl rfl⟩ rfl rfl rfl rfl lexg_nil))) rfl (fun _ => ?_) (fun h => by cases h)
          refine runS_x (I := inf) (J := jnf) ⟨false, false, [], 0, 0⟩ 9999 rfl (by repeat (first | exact obs_nil | refine obs_draw (by kernel_rfl) ?_ | refine obs_same ?_ | refine obs_and ?_ | refine obs_by (by (simp [inB] <;> omega)) ?_)) ?_
          refine runS_ret (I := inf) 0 rfl (Nat.le_refl _) rfl .nil rfl ⟨?_, rfl⟩
          show _ = Out.ret (cstA (if -75 ≤ ((frm n).length : Int) + q - 1 ∧ ((frm n).length : Int) + q - 1 ≤ 75 then _ else czero 7))
          rw [← e5, if_pos h10]
          rfl
end Go.Iron.Tryz

/- Tokens of a text: numbers as the reference reads them, in plain Lean. -/
namespace Go.Iron.Tok
open Go.Iron.Dg

def midS (F : Bool) (sg ds : Str) : Str := if F = true then 69 :: (sg ++ ds) else []
def tlS (B F : Bool) (sg ds : Str) : Str := if B = true then [66] else midS F sg ds
def exG (n : Nat) (c : UInt8) : Nat := if digP c.toNat = true then 10 * n + (c.toNat - 48) else n
/-- The number that a text's digits make. -/
def exN (l : Str) : Nat := l.foldl exG 0
theorem exN_snoc (l : Str) (c : UInt8) : exN (l ++ [c]) = exG (exN l) c := by
  unfold exN
  rw [List.foldl_append]
  rfl
theorem exG_ge (n : Nat) (c : UInt8) : n ≤ exG n c := by unfold exG; split <;> omega
theorem exG_le : ∀ (l : Str) (n : Nat), n ≤ l.foldl exG n
  | [], n => Nat.le_refl _
  | c :: l, n => Nat.le_trans (exG_ge n c) (exG_le l (exG n c))
theorem exN_take (l : Str) (i : Nat) : exN (l.take i) ≤ exN l := by
  conv => rhs; rw [← List.take_append_drop i l]
  unfold exN
  rw [List.foldl_append]
  exact exG_le _ _
theorem exG_digs : ∀ (l : Str) (n : Nat), Digs l → l.foldl exG n = l.foldl (fun n c => 10 * n + (c.toNat - 48)) n
  | [], n, _ => rfl
  | c :: l, n, h => by
    have hc := h c (by simp)
    have hd : digP c.toNat = true := by unfold digP; simp; omega
    rw [List.foldl_cons, List.foldl_cons, exG_digs l _ fun x hx => h x (by simp [hx])]
    unfold exG
    rw [if_pos hd]
theorem exN_sg {sg ds : Str} (hs : sg = [] ∨ sg = [43] ∨ sg = [45]) (hd : Digs ds) : exN (sg ++ ds) = valB 10 ds := by
  have h0 : sg.foldl exG 0 = 0 := by rcases hs with rfl | rfl | rfl <;> decide
  unfold exN
  rw [List.foldl_append, h0, exG_digs ds 0 hd]
  rfl
theorem exN_pt {x y : Str} {dot : Bool} (hx : Digs x) (hy : Digs y) (nd : dot = false → y = []) : exN (ptS x y dot) = valB 10 (x ++ y) := by
  unfold exN ptS valB
  rw [List.foldl_append, List.foldl_append, exG_digs x 0 hx]
  cases dot
  · rw [if_neg (by decide), nd rfl]
    rfl
  · rw [if_pos rfl, List.foldl_cons, show ∀ n, exG n 46 = n from fun n => rfl, exG_digs y _ hy]
theorem pt_len (x y : Str) (dot : Bool) : (ptS x y dot).length = x.length + (if dot = true then y.length + 1 else 0) := by
  unfold ptS
  rw [List.length_append]
  cases dot <;> rfl
theorem pt_dig {x y : Str} {dot pt : Bool} {d : Nat} (h1 : pt = false → d < x.length) (h2 : pt = true → dot = true ∧ x.length ≤ d) : byt (ptS x y dot) (d + if pt = true then 1 else 0) = byt (x ++ y) d := by
  unfold ptS
  rw [byt_app, byt_app]
  cases pt
  · have := h1 rfl
    rw [show (d + if false = true then 1 else 0) = d from rfl, if_pos this, if_pos this]
  · obtain ⟨h3, h4⟩ := h2 rfl
    subst h3
    rw [show (d + if true = true then 1 else 0) = d + 1 from rfl, if_neg (show ¬ d + 1 < x.length by omega), if_neg (show ¬ d < x.length by omega), if_pos rfl]
    rw [show d + 1 - x.length = d - x.length + 1 by omega]
    rfl
theorem pt_dot (x y : Str) : byt (ptS x y true) x.length = 46 := by
  unfold ptS
  rw [byt_app, if_neg (by omega), if_pos rfl, Nat.sub_self]
  rfl
theorem digs_byt {z : Str} (h : Digs z) {d : Nat} (hd : d < z.length) : 48 ≤ byt z d ∧ byt z d ≤ 57 := by
  rw [byt_get hd]
  exact h _ (List.getElem_mem hd)
theorem valB_take (b : Nat) {z : Str} {d : Nat} (hd : d < z.length) : valB b (z.take (d + 1)) = b * valB b (z.take d) + (byt z d - 48) := by
  rw [List.take_succ_eq_append_getElem hd, valB_snoc, byt_get hd]
theorem norm_ex (N : Nat) (hN : N ≠ 0) (Q : Int) : ∃ n k : Nat, normN N Q = (n, Q + k) ∧ n * 10 ^ k = N ∧ n % 10 ≠ 0 := by
  induction N using Nat.strongRecOn generalizing Q with
  | ind N ih =>
    rw [normN]
    by_cases h : N ≠ 0 ∧ N % 10 = 0
    · rw [dif_pos h]
      obtain ⟨n, k, h1, h2, h3⟩ := ih (N / 10) (by omega) (by omega) (Q + 1)
      refine ⟨n, k + 1, ?_, ?_, h3⟩
      · rw [h1]
        congr 1
        omega
      · rw [Nat.pow_succ, ← Nat.mul_assoc, h2]
        omega
    · rw [dif_neg h]
      exact ⟨N, 0, by simp, by simp, fun e => h ⟨hN, e⟩⟩
theorem norm_le {n k N : Nat} (h : n * 10 ^ k = N) (hn : n % 10 ≠ 0) (hN : N < 10 ^ 15) : k < 15 ∧ n ≤ N := by
  have h1 : 0 < n := by omega
  have h2 : 0 < 10 ^ k := Nat.pow_pos (by decide)
  have h3 : 10 ^ k ≤ N := by
    rw [← h]
    exact Nat.le_mul_of_pos_left _ h1
  refine ⟨?_, ?_⟩
  · exact (Nat.pow_lt_pow_iff_right (by decide)).1 (Nat.lt_of_le_of_lt h3 hN)
  · rw [← h]
    exact Nat.le_mul_of_pos_right _ h2
end Go.Iron.Tok

/- The token seat: the reference's numbers of constants. -/
namespace Go.Iron.Tryz
open Go.Proofs Go.RowKit Go.Iron.Tok Go.Iron.Dg

def numC (B F : Bool) (x y sg ds : Str) : Cst := if B = true then fixC 1 2 31 x y else if F = true then floC x y (exV sg ds) else fixC 2 10 15 x y
/-- The parts of a number's text. -/
structure NumV (T x y : Str) (dot B F : Bool) (sg ds : Str) : Prop where
  eq : T = ptS x y dot ++ tlS B F sg ds
  hx : Digs x
  hy : Digs y
  nd : dot = false → y = []
  ne : 0 < x.length + y.length
  bf : B = true → F = false
  hb : B = true → ∀ b ∈ x ++ y, b.toNat = 48 ∨ b.toNat = 49
  hs : F = true → sg = [] ∨ sg = [43] ∨ sg = [45]
  hds : F = true → Digs ds
  hd1 : F = true → 1 ≤ ds.length
  hd2 : F = true → ds.length ≤ 2
def zB : List AO := [.box 31 (tyE 0 0 0 0), .box 33 (vaE 0 0 0 [])]
def midF (F fd : Bool) (sg ds : Str) : Str := if fd = true then [] else midS F sg ds
theorem pt_byt_ne {x y : Str} {dot : Bool} (hx : Digs x) (hy : Digs y) {i : Nat} (r : Str) (hi : i < (ptS x y dot).length) {c : Nat} (hc : 57 < c) : byt (ptS x y dot ++ r) i ≠ c := by
  rw [byt_app, if_pos hi, byt_get hi]
  rcases pt_mem hx hy (List.getElem_mem hi) with h | h
  · omega
  · rw [h]
    show 46 ≠ c
    omega
def kB (B : Bool) : Int := if B = true then 1 else 2
def mB (B : Bool) : Nat := if B = true then 31 else 15
def bB (B : Bool) : Nat := if B = true then 2 else 10
def qD (x : Str) (d : Nat) (pt : Bool) : Nat := if pt = true then d - x.length else 0
theorem last_byt {T x y : Str} {dot B F : Bool} {sg ds : Str} (h : NumV T x y dot B F sg ds) : 0 < T.length ∧ ((byt T (T.length - 1) = 66) ↔ B = true) := by
  obtain ⟨heq, hx, hy, nd, hne, bf, hb, hs, hds, hd1, hd2⟩ := h
  have hpl := pt_len x y dot
  have hp : 0 < (ptS x y dot).length := by
    rw [hpl]
    cases dot
    · rw [nd rfl, List.length_nil] at hne
      omega
    · rw [if_pos rfl]
      omega
  have hTl : T.length = (ptS x y dot).length + (tlS B F sg ds).length := by rw [heq, List.length_append]
  refine ⟨by omega, ?_⟩
  cases B
  · have hno : ∀ b ∈ T, b ≠ 66 := fun b hb => by
      rw [heq] at hb
      rcases List.mem_append.1 hb with hb | hb
      · exact pt_ne hx hy (by decide) b hb
      · cases F
        · cases hb
        · have hs := hs rfl
          have hds := hds rfl
          have hb : b ∈ 69 :: (sg ++ ds) := hb
          rcases List.mem_cons.1 hb with rfl | hb
          · decide
          · rcases List.mem_append.1 hb with hb | hb
            · rcases hs with rfl | rfl | rfl
              · cases hb
              · have : b = 43 := by simpa using hb
                rw [this]; decide
              · have : b = 45 := by simpa using hb
                rw [this]; decide
            · exact digs_ne hds (.inr (by decide)) b hb
    constructor
    · intro h6
      exfalso
      rw [byt_get (by omega)] at h6
      exact hno _ (List.getElem_mem (by omega)) (UInt8.toNat_inj.1 h6)
    · intro h6; cases h6
  · refine ⟨fun _ => rfl, fun _ => ?_⟩
    have h6 : (tlS true F sg ds).length = 1 := rfl
    rw [hTl, h6, heq, byt_app, if_neg (by omega), show (ptS x y dot).length + 1 - 1 - (ptS x y dot).length = 0 by omega]
    rfl
theorem r_conNum (T x y : Str) (dot B F : Bool) (sg ds : Str) (a : Int) (h : NumV T x y dot B F sg ds) (hv : refV 2 T a = true) (hT : T.length ≤ 30000) : CallT Tryz.prog 11 [tkI 2 T a] [] (fun o A => o = .ret (cstA (numC B F x y sg ds)) ∧ A = []) := by
  have hval := r_valid 2 T a hT
  rw [hv] at hval
  obtain ⟨heq, hx, hy, nd, hne, bf, hb, hs, hds, hd1, hd2⟩ := id h
  obtain ⟨hp, hlast⟩ := last_byt h
  have hw1 : IntKind.wrap .i64 ((T.length : Int) - 1) = ((T.length - 1 : Nat) : Int) := by rw [w64 (by omega) (by omega)]; omega
  have hix : (((bl (bs T)).getD (IntKind.i64.wrap (((bl (bs T)).length : Int) - 1)).toNat 0).toNat) = byt T (T.length - 1) := by rw [blS, hw1]; rfl
  have hcx : ((((((bl (bs T)).getD (IntKind.i64.wrap (((bl (bs T)).length : Int) - 1)).toNat 0).toNat : Nat) : Int) == 66)) = B := by
    rw [hix, Bool.eq_iff_iff, ← hlast]
    simp
    omega
  refine callS_body (n := 197) rfl rfl fun w ρ X => ?_
  refine runS_x (I := inf) (J := jnf) ⟨false, false, [], 0, 0⟩ 9999 rfl (by repeat (first | exact obs_nil | refine obs_draw (by kernel_rfl) ?_ | refine obs_same ?_ | refine obs_and ?_ | refine obs_by (by (simp [inB] <;> omega)) ?_)) ?_
  refine runS_call rfl rfl rfl rfl rfl rfl rfl hval ?_
  refine runS_x (I := inf) (J := jnf) ⟨false, false, [], 0, 0⟩ 9999 rfl (by repeat (first | exact obs_nil | refine obs_draw (by kernel_rfl) ?_ | refine obs_same ?_ | refine obs_and ?_ | refine obs_by (by (simp [inB] <;> omega)) ?_)) ?_
  refine runS_cond rfl (fun h => by cases h) (fun h => ?_)
  refine runS_x (I := inf) (J := jnf) ⟨false, false, [], 0, 0⟩ 9999 rfl (by repeat (first | exact obs_nil | refine obs_draw (by kernel_rfl) ?_ | refine obs_same ?_ | refine obs_and ?_ | refine obs_by (by (simp [inB] <;> omega)) ?_)) ?_
  refine runS_cond rfl (fun h => by cases h) (fun h => ?_)
  refine runS_x (I := inf) (J := jnf) ⟨false, false, [], 0, 0⟩ 9999 rfl (by repeat (first | exact obs_nil | refine obs_draw (by kernel_rfl) ?_ | refine obs_same ?_ | refine obs_and ?_ | refine obs_by (by (simp [inB] <;> omega)) ?_)) ?_
  refine runS_cond rfl (fun h => by cases h) (fun h => ?_)
  refine runS_x (I := inf) (J := jnf) ⟨false, false, [], 0, 0⟩ 9999 rfl (by repeat (first | exact obs_nil | refine obs_draw (by kernel_rfl) ?_ | refine obs_same ?_ | refine obs_and ?_ | refine obs_by (by (simp [inB] <;> omega)) ?_)) ?_
  refine runS_cond rfl (fun h => by cases h) (fun h => ?_)
  refine runS_x (I := inf) (J := jnf) ⟨false, false, [], 0, 0⟩ 9999 rfl (by repeat (first | exact obs_nil | refine obs_draw (by kernel_rfl) ?_ | refine obs_same ?_ | refine obs_and ?_ | refine obs_by (by (simp [inB, blS, hw1, hp] <;> omega)) ?_)) ?_
  refine runS_cut (fun τ ar => (τ 1 = .ptr 0 0 0 ∧ τ 2 = .ptr 1 0 0 ∧ τ 3 = .ptr 2 0 0 ∧ τ 5 = sv (ptS x y dot ++ midS F sg ds) ∧ τ 6 = bv B ∧ τ 7 = bv false ∧ τ 8 = iv 0) ∧ ar = .box 29 [iv 2, sv T, iv a] :: zB) (fun rest => ?_) ?_
  · refine runS_cond rfl (fun h2 => ?_) (fun h2 => ?_)
    · have hB : B = true := hcx.symm.trans h2
      have hF := bf hB
      refine runS_x (I := inf) (J := jnf) ⟨false, false, [], 2, 0⟩ 9999 rfl (by repeat (first | exact obs_nil | refine obs_draw (by kernel_rfl) ?_ | refine obs_same ?_ | refine obs_and ?_ | refine obs_by (by (simp [inB, blS, hw1, hp] <;> omega)) ?_)) ?_
      refine rest _ _ ⟨⟨rfl, rfl, rfl, ?_, congrArg bv hcx, rfl, rfl⟩, rfl⟩
      refine congrArg (fun b => AV.val (.string b)) ?_
      subst hB hF
      rw [blS, hw1]
      congr 1
      show (T.take (T.length - 1)).drop 0 = _
      rw [List.drop_zero, heq]
      show (ptS x y dot ++ [66]).take ((ptS x y dot ++ [66]).length - 1) = ptS x y dot ++ []
      rw [List.length_append, List.length_singleton, Nat.add_sub_cancel, List.take_left, List.append_nil]
    · have hB : B = false := hcx.symm.trans h2
      refine runS_x (I := inf) (J := jnf) ⟨false, false, [], 2, 0⟩ 9999 rfl (by repeat (first | exact obs_nil | refine obs_draw (by kernel_rfl) ?_ | refine obs_same ?_ | refine obs_and ?_ | refine obs_by (by (simp [inB] <;> omega)) ?_)) ?_
      refine rest _ _ ⟨⟨rfl, rfl, rfl, ?_, congrArg bv hcx, rfl, rfl⟩, rfl⟩
      subst hB
      exact congrArg sv heq
  intro τ ar hh
  obtain ⟨⟨g1, g2, g3, g5, g6, g7, g8⟩, rfl⟩ := hh
  refine runS_says 1 (by exact g1) (Says.refl _) ?_; refine runS_says 2 (by exact g2) (Says.refl _) ?_; refine runS_says 3 (by exact g3) (Says.refl _) ?_; refine runS_says 5 (by exact g5) (Says.refl _) ?_; refine runS_says 6 (by exact g6) (Says.refl _) ?_; refine runS_says 7 (by exact g7) (Says.refl _) ?_; refine runS_says 8 (by exact g8) (Says.refl _) ?_
  refine runS_x (I := inf) (J := jnf) ⟨false, false, [], 0, 0⟩ 9999 rfl (by repeat (first | exact obs_nil | refine obs_draw (by kernel_rfl) ?_ | refine obs_same ?_ | refine obs_and ?_ | refine obs_by (by (simp [inB] <;> omega)) ?_)) ?_
  have hml : (midS F sg ds).length ≤ 4 := by
    cases hF : F
    · exact Nat.zero_le _
    · have h3 := hd2 hF
      have h4 : sg.length ≤ 1 := by rcases hs hF with rfl | rfl | rfl <;> decide
      show (69 :: (sg ++ ds)).length ≤ 4
      rw [List.length_cons, List.length_append]
      omega
  have hpl : (ptS x y dot).length ≤ 30000 := by
    rw [heq, List.length_append] at hT
    omega
  refine runS_while (fun (p : Nat × Bool) τ ar => (τ 1 = .ptr 0 0 0 ∧ τ 2 = .ptr 1 0 0 ∧ τ 3 = .ptr 2 0 0 ∧ τ 5 = sv (ptS x y dot ++ midF F p.2 sg ds) ∧ τ 6 = bv B ∧ τ 7 = bv p.2 ∧ τ 8 = iv (if p.2 = true then exV sg ds else 0) ∧ τ 9 = iv p.1) ∧ ar = .box 29 [iv 2, sv T, iv a] :: zB ∧ (p.2 = true → F = true) ∧ p.1 ≤ (ptS x y dot).length + (if p.2 = true then 1 else 0)) (fun p => (ptS x y dot).length + 2 - p.1) (0, false) ⟨⟨rfl, rfl, rfl, rfl, rfl, rfl, rfl, rfl⟩, rfl, fun e => (by cases e), Nat.zero_le _⟩ ?_
  rintro ⟨i, fd⟩ τ ar ⟨⟨g1, g2, g3, g5, g6, g7, g8, g9⟩, rfl, hfd, hi⟩ ih
  dsimp only at g5 g7 g8 g9 hfd hi ih
  refine runS_says 1 (by exact g1) (Says.refl _) ?_; refine runS_says 2 (by exact g2) (Says.refl _) ?_; refine runS_says 3 (by exact g3) (Says.refl _) ?_; refine runS_says 5 (by exact g5) (Says.refl _) ?_; refine runS_says 6 (by exact g6) (Says.refl _) ?_; refine runS_says 7 (by exact g7) (Says.refl _) ?_; refine runS_says 8 (by exact g8) (Says.refl _) ?_; refine runS_says 9 (by exact g9) (Says.refl _) ?_
  refine runS_x (I := inf) (J := jnf) ⟨false, false, [], 0, 0⟩ 9999 rfl (by repeat (first | exact obs_nil | refine obs_draw (by kernel_rfl) ?_ | refine obs_same ?_ | refine obs_and ?_ | refine obs_by (by (simp [inB] <;> omega)) ?_)) ?_
  have hcc : (if decide ((i : Int) < ((bl (bs (ptS x y dot ++ midF F fd sg ds))).length : Int)) = true then !fd else false) = (decide (i < (ptS x y dot ++ midF F fd sg ds).length) && !fd) := by
    rw [blS]
    by_cases h3 : i < (ptS x y dot ++ midF F fd sg ds).length
    · rw [decide_eq_true h3, decide_eq_true (by omega), if_pos rfl, Bool.true_and]
    · rw [decide_eq_false h3, decide_eq_false (by omega), if_neg (by decide), Bool.false_and]
  refine runS_cond rfl (fun h2 => ?_) (fun h2 => ?_)
  · have h3 := hcc.symm.trans h2
    rw [Bool.and_eq_true, Bool.not_eq_true'] at h3
    obtain ⟨h4, rfl⟩ := h3
    have hil : i < (ptS x y dot ++ midS F sg ds).length := of_decide_eq_true h4
    clear h4 hcc h2
    have hil2 : i ≤ (ptS x y dot).length := hi
    clear hi
    have hii : i < 40000 := by omega
    have hw2 : IntKind.wrap .i64 ((i : Int) + 1) = ((i + 1 : Nat) : Int) := by rw [w64 (by omega) (by omega)]; rfl
    have hil3 : i < (ptS x y dot).length + (midF F false sg ds).length := by rw [← List.length_append]; exact hil
    refine runS_x (I := inf) (J := jnf) ⟨false, false, [], 0, 0⟩ 9999 rfl (by repeat (first | exact obs_nil | refine obs_draw (by kernel_rfl) ?_ | refine obs_same ?_ | refine obs_and ?_ | refine obs_by (by (simp [inB, blS, hil] <;> omega)) ?_)) ?_
    refine runS_cond rfl (fun h2 => ?_) (fun h2 => ?_)
    · have h3 : (!(((byt (ptS x y dot ++ midS F sg ds) i : Nat) : Int) == 69)) = true := h2
      have hlt : i < (ptS x y dot).length := by
        refine Nat.lt_of_le_of_ne hil2 fun he => ?_
        have hF : F = true := by
          cases hF : F
          · subst hF
            rw [show midS false sg ds = [] from rfl, List.append_nil] at hil
            omega
          · rfl
        subst hF
        rw [byt_app, if_neg (by omega), he, Nat.sub_self] at h3
        cases h3
      refine runS_x (I := inf) (J := jnf) ⟨false, false, [], 0, 0⟩ 9999 rfl (by repeat (first | exact obs_nil | refine obs_draw (by kernel_rfl) ?_ | refine obs_same ?_ | refine obs_and ?_ | refine obs_by (by (simp [inB] <;> omega)) ?_)) ?_
      exact ih (i + 1, false) _ _ (by show _ < _; dsimp only; omega) ⟨⟨rfl, rfl, rfl, rfl, rfl, rfl, rfl, congrArg iv hw2⟩, rfl, fun e => (by cases e), hlt⟩
    · have h3 : (!(((byt (ptS x y dot ++ midS F sg ds) i : Nat) : Int) == 69)) = false := h2
      have hie : i = (ptS x y dot).length := by
        refine Nat.le_antisymm hil2 (Nat.le_of_not_lt fun hlt => ?_)
        have := pt_byt_ne hx hy (midS F sg ds) hlt (c := 69) (by decide)
        simp at h3
        omega
      have hF : F = true := by
        cases hF : F
        · subst hF
          rw [show midS false sg ds = [] from rfl, List.append_nil] at hil
          omega
        · rfl
      subst hF
      replace hs := hs rfl
      replace hds := hds rfl
      replace hd1 := hd1 rfl
      replace hd2 := hd2 rfl
      have hm : midS true sg ds = 69 :: (sg ++ ds) := rfl
      rw [hm] at *
      have hrl : (sg ++ ds).length ≤ 3 := by
        have h5 : (69 :: (sg ++ ds)).length ≤ 4 := hml
        rw [List.length_cons] at h5
        omega
      have hxn : ∀ k, exN ((sg ++ ds).take k) < 100 := fun k => by
        have h4 := exN_take (sg ++ ds) k
        rw [exN_sg hs hds] at h4
        have h5 := valB_lt (b := 10) (by decide) ds fun c hc => by have := hds c hc; omega
        have h6 : 10 ^ ds.length ≤ 10 ^ 2 := Nat.pow_le_pow_right (by decide) hd2
        omega
      have hby : ∀ k, byt (ptS x y dot ++ 69 :: (sg ++ ds)) (i + 1 + k) = byt (sg ++ ds) k := fun k => by
        rw [byt_app, if_neg (by omega), show i + 1 + k - (ptS x y dot).length = k + 1 by omega]
        rfl
      have hSl : (ptS x y dot ++ 69 :: (sg ++ ds)).length = i + 1 + (sg ++ ds).length := by rw [List.length_append, List.length_cons]; omega
      refine runS_x (I := inf) (J := jnf) ⟨false, false, [], 0, 0⟩ 9999 rfl (by repeat (first | exact obs_nil | refine obs_draw (by kernel_rfl) ?_ | refine obs_same ?_ | refine obs_and ?_ | refine obs_by (by (simp [inB] <;> omega)) ?_)) ?_
      have hrp : 1 ≤ (sg ++ ds).length := by rw [List.length_append]; omega
      generalize hr : sg ++ ds = r at *
      refine runS_while (fun (k : Nat) τ ar => (τ 1 = .ptr 0 0 0 ∧ τ 2 = .ptr 1 0 0 ∧ τ 3 = .ptr 2 0 0 ∧ τ 5 = sv (ptS x y dot ++ 69 :: r) ∧ τ 6 = bv B ∧ τ 7 = bv true ∧ τ 8 = iv (exN (r.take k)) ∧ τ 9 = iv i ∧ τ 10 = iv (i + 1 + k : Nat)) ∧ ar = .box 29 [iv 2, sv T, iv a] :: zB ∧ k ≤ r.length) (fun k => r.length - k) 0 ⟨⟨rfl, rfl, rfl, congrArg (fun z => sv (ptS x y dot ++ 69 :: z)) hr, rfl, rfl, rfl, rfl, congrArg iv hw2⟩, rfl, Nat.zero_le _⟩ ?_
      rintro k τ ar ⟨⟨g1, g2, g3, g5, g6, g7, g8, g9, g10⟩, rfl, hk⟩ ih2
      refine runS_says 1 (by exact g1) (Says.refl _) ?_; refine runS_says 2 (by exact g2) (Says.refl _) ?_; refine runS_says 3 (by exact g3) (Says.refl _) ?_; refine runS_says 5 (by exact g5) (Says.refl _) ?_; refine runS_says 6 (by exact g6) (Says.refl _) ?_; refine runS_says 7 (by exact g7) (Says.refl _) ?_; refine runS_says 8 (by exact g8) (Says.refl _) ?_; refine runS_says 9 (by exact g9) (Says.refl _) ?_; refine runS_says 10 (by exact g10) (Says.refl _) ?_
      refine runS_x (I := inf) (J := jnf) ⟨false, false, [], 0, 0⟩ 9999 rfl (by repeat (first | exact obs_nil | refine obs_draw (by kernel_rfl) ?_ | refine obs_same ?_ | refine obs_and ?_ | refine obs_by (by (simp [inB] <;> omega)) ?_)) ?_
      have hw3 : IntKind.wrap .i64 (((i + 1 + k : Nat) : Int) + 1) = ((i + 1 + (k + 1) : Nat) : Int) := by rw [w64 (by omega) (by omega)]; omega
      refine runS_cond rfl (fun h4 => ?_) (fun h4 => ?_)
      · have hkl : k < r.length := by
          have h5 : decide (((i + 1 + k : Nat) : Int) < ((bl (bs (ptS x y dot ++ 69 :: r))).length : Int)) = true := h4
          rw [blS, hSl] at h5
          simp at h5
          omega
        have hkl2 : i + 1 + k < (ptS x y dot).length + (r.length + 1) := by omega
        refine runS_x (I := inf) (J := jnf) ⟨false, false, [], 0, 0⟩ 9999 rfl (by repeat (first | exact obs_nil | refine obs_draw (by kernel_rfl) ?_ | refine obs_same ?_ | refine obs_and ?_ | refine obs_by (by (simp [inB, blS, hkl2] <;> omega)) ?_)) ?_
        have hc255 := byt_le r k
        have hw4 : IntKind.wrap .i64 (10 * (exN (r.take k) : Int)) = ((10 * exN (r.take k) : Nat) : Int) := by
          have := hxn k
          rw [w64 (by omega) (by omega)]
          omega
        refine runS_call rfl rfl rfl rfl rfl rfl rfl (r_digit (byt (ptS x y dot ++ 69 :: r) (i + 1 + k))) ?_
        refine runS_x (I := inf) (J := jnf) ⟨false, false, [], 0, 0⟩ 9999 rfl (by repeat (first | exact obs_nil | refine obs_draw (by kernel_rfl) ?_ | refine obs_same ?_ | refine obs_and ?_ | refine obs_by (by (simp [inB] <;> omega)) ?_)) ?_
        have hsn : exN (r.take (k + 1)) = if digP (byt r k) = true then 10 * exN (r.take k) + (byt r k - 48) else exN (r.take k) := by
          rw [List.take_succ_eq_append_getElem hkl, exN_snoc, byt_get hkl]
          rfl
        refine runS_cond rfl (fun h5 => ?_) (fun h5 => ?_)
        · have h6 : digP (byt r k) = true := by rw [← hby k]; exact h5
          have h7 : 48 ≤ byt r k ∧ byt r k ≤ 57 := by simpa [digP] using h6
          rw [if_pos h6] at hsn
          refine runS_x (I := inf) (J := jnf) ⟨false, false, [], 0, 0⟩ 9999 rfl (by repeat (first | exact obs_nil | refine obs_draw (by kernel_rfl) ?_ | refine obs_same ?_ | refine obs_and ?_ | refine obs_by (by (simp [inB, blS, hkl2] <;> omega)) ?_)) ?_
          refine ih2 (k + 1) _ _ (by omega) ⟨⟨rfl, rfl, rfl, rfl, rfl, rfl, ?_, rfl, congrArg iv hw3⟩, rfl, hkl⟩
          show iv (IntKind.wrap .i64 (IntKind.wrap .i64 (10 * (exN (r.take k) : Int)) + IntKind.wrap .i64 (IntKind.wrap .u8 (((byt (ptS x y dot ++ 69 :: r) (i + 1 + k) : Nat) : Int) - 48)))) = _
          have := hxn k
          rw [hby k, hw4, hsn, IntWalk.u8_in _ (by omega), w64 (x := (byt r k : Int) - 48) (by omega) (by omega), w64 (by omega) (by omega)]
          refine congrArg iv ?_
          omega
        · have h6 : digP (byt r k) = false := by rw [← hby k]; exact h5
          rw [if_neg (by rw [h6]; decide)] at hsn
          refine runS_x (I := inf) (J := jnf) ⟨false, false, [], 0, 0⟩ 9999 rfl (by repeat (first | exact obs_nil | refine obs_draw (by kernel_rfl) ?_ | refine obs_same ?_ | refine obs_and ?_ | refine obs_by (by (simp [inB] <;> omega)) ?_)) ?_
          refine ih2 (k + 1) _ _ (by omega) ⟨⟨rfl, rfl, rfl, rfl, rfl, rfl, ?_, rfl, congrArg iv hw3⟩, rfl, hkl⟩
          rw [hsn]
          rfl
      · have hkl : k = r.length := by
          have h5 : decide (((i + 1 + k : Nat) : Int) < ((bl (bs (ptS x y dot ++ 69 :: r))).length : Int)) = false := h4
          rw [blS, hSl] at h5
          simp at h5
          omega
        subst hkl
        rw [List.take_length]
        have hlt1 : i + 1 < (ptS x y dot).length + (r.length + 1) := by omega
        have hexr : exN r = valB 10 ds := by rw [← hr]; exact exN_sg hs hds
        have hb45 : (byt r 0 = 45) ↔ sg = [45] := by
          rw [← hr]
          rcases hs with rfl | rfl | rfl
          · rw [List.nil_append]
            have := digs_byt hds (d := 0) (by omega)
            constructor
            · intro h5; omega
            · intro h5; cases h5
          · constructor
            · intro h5; exact absurd h5 (show ¬ (43 = 45) by decide)
            · intro h5; exact absurd h5 (by decide)
          · exact ⟨fun _ => rfl, fun _ => rfl⟩
        have hcs : ((((((bl (bs (ptS x y dot ++ 69 :: r))).getD (IntKind.i64.wrap ((i : Int) + 1)).toNat 0).toNat : Nat) : Int) == 45)) = decide (sg = [45]) := by
          have h5 : ((bl (bs (ptS x y dot ++ 69 :: r))).getD (IntKind.i64.wrap ((i : Int) + 1)).toNat 0).toNat = byt r 0 := by
            rw [hw2]
            exact hby 0
          rw [h5, Bool.eq_iff_iff, decide_eq_true_eq, ← hb45]
          simp
          omega
        have hxr := hxn r.length
        rw [List.take_length, hexr] at hxr
        rw [hexr]
        have hsl : (ptS x y dot ++ 69 :: r).take i = ptS x y dot := by rw [hie, List.take_left]
        refine runS_x (I := inf) (J := jnf) ⟨false, false, [], 0, 0⟩ 9999 rfl (by repeat (first | exact obs_nil | refine obs_draw (by kernel_rfl) ?_ | refine obs_same ?_ | refine obs_and ?_ | refine obs_by (by (simp [inB, blS, hw2, hlt1] <;> omega)) ?_)) ?_
        refine runS_cond rfl (fun h5 => ?_) (fun h5 => ?_)
        · have h6 : sg = [45] := of_decide_eq_true (hcs.symm.trans h5)
          have hev : exV sg ds = -(valB 10 ds : Int) := by unfold exV; rw [if_pos h6]
          refine runS_x (I := inf) (J := jnf) ⟨false, false, [], 0, 0⟩ 9999 rfl (by repeat (first | exact obs_nil | refine obs_draw (by kernel_rfl) ?_ | refine obs_same ?_ | refine obs_and ?_ | refine obs_by (by (simp [inB, blS] <;> omega)) ?_)) ?_
          refine ih (i + 1, true) _ _ (by show _ < _; dsimp only; omega) ⟨⟨rfl, rfl, rfl, ?_, rfl, rfl, ?_, congrArg iv hw2⟩, rfl, fun _ => rfl, by show i + 1 ≤ _ + 1; omega⟩
          · refine congrArg (fun b => AV.val (.string b)) ?_
            show bs (((ptS x y dot ++ 69 :: r).take i).drop 0) = bs (ptS x y dot ++ [])
            rw [hsl, List.append_nil, List.drop_zero]
          · show _ = iv (exV sg ds)
            rw [hev]
            refine congrArg iv ((w64 (x := 0 - (valB 10 ds : Int)) (by omega) (by omega)).trans ?_)
            omega
        · have h6 : ¬ sg = [45] := of_decide_eq_false (hcs.symm.trans h5)
          have hev : exV sg ds = (valB 10 ds : Int) := by unfold exV; rw [if_neg h6]
          refine runS_x (I := inf) (J := jnf) ⟨false, false, [], 0, 0⟩ 9999 rfl (by repeat (first | exact obs_nil | refine obs_draw (by kernel_rfl) ?_ | refine obs_same ?_ | refine obs_and ?_ | refine obs_by (by (simp [inB, blS] <;> omega)) ?_)) ?_
          refine ih (i + 1, true) _ _ (by show _ < _; dsimp only; omega) ⟨⟨rfl, rfl, rfl, ?_, rfl, rfl, ?_, congrArg iv hw2⟩, rfl, fun _ => rfl, by show i + 1 ≤ _ + 1; omega⟩
          · refine congrArg (fun b => AV.val (.string b)) ?_
            show bs (((ptS x y dot ++ 69 :: r).take i).drop 0) = bs (ptS x y dot ++ [])
            rw [hsl, List.append_nil, List.drop_zero]
          · show _ = iv (exV sg ds)
            rw [hev]
            rfl
  · have h3 := hcc.symm.trans h2
    have h5 : ptS x y dot ++ midF F fd sg ds = ptS x y dot ∧ fd = F := by
      cases fd
      · have hil : ¬ i < (ptS x y dot ++ midS F sg ds).length := by
          have : (decide (i < (ptS x y dot ++ midS F sg ds).length) && true) = false := h3
          simpa using this
        have hi2 : i ≤ (ptS x y dot).length := hi
        cases F
        · exact ⟨List.append_nil _, rfl⟩
        · rw [List.length_append] at hil
          have : (midS true sg ds).length = (sg ++ ds).length + 1 := rfl
          omega
      · exact ⟨List.append_nil _, (hfd rfl).symm⟩
    obtain ⟨h6, rfl⟩ := h5
    rw [h6]
    clear ih hi hfd h6 h3 hcc h2
    refine runS_x (I := inf) (J := jnf) ⟨false, false, [], 0, 0⟩ 9999 rfl (by repeat (first | exact obs_nil | refine obs_draw (by kernel_rfl) ?_ | refine obs_same ?_ | refine obs_and ?_ | refine obs_by (by (simp [inB] <;> omega)) ?_)) ?_
    refine runS_cut (fun τ ar => (τ 1 = .ptr 0 0 0 ∧ τ 2 = .ptr 1 0 0 ∧ τ 3 = .ptr 2 0 0 ∧ τ 5 = sv (ptS x y dot) ∧ τ 7 = bv fd ∧ τ 8 = iv (if fd = true then exV sg ds else 0) ∧ τ 11 = .ptr 3 0 0 ∧ τ 12 = .ptr 4 0 0 ∧ τ 13 = iv (mB B : Nat) ∧ τ 14 = iv (bB B : Nat)) ∧ ar = .box 29 [iv 2, sv T, iv a] :: zB ++ [.box 31 (tyE (kB B) 0 0 0), .box 33 (vaE (kB B) 0 0 [])]) (fun rest => ?_) ?_
    · refine runS_cond rfl (fun h2 => ?_) (fun h2 => ?_)
      · have hB : B = true := h2
        refine runS_x (I := inf) (J := jnf) ⟨false, false, [], 2, 0⟩ 9999 rfl (by repeat (first | exact obs_nil | refine obs_draw (by kernel_rfl) ?_ | refine obs_same ?_ | refine obs_and ?_ | refine obs_by (by (simp [inB] <;> omega)) ?_)) ?_
        refine rest _ _ ⟨⟨rfl, rfl, rfl, rfl, rfl, rfl, rfl, rfl, by rw [hB]; rfl, by rw [hB]; rfl⟩, by rw [hB]; rfl⟩
      · have hB : B = false := h2
        refine runS_x (I := inf) (J := jnf) ⟨false, false, [], 2, 0⟩ 9999 rfl (by repeat (first | exact obs_nil | refine obs_draw (by kernel_rfl) ?_ | refine obs_same ?_ | refine obs_and ?_ | refine obs_by (by (simp [inB] <;> omega)) ?_)) ?_
        refine rest _ _ ⟨⟨rfl, rfl, rfl, rfl, rfl, rfl, rfl, rfl, by rw [hB]; rfl, by rw [hB]; rfl⟩, by rw [hB]; rfl⟩
    intro τ ar hh
    obtain ⟨⟨g1, g2, g3, g5, g7, g8, g11, g12, g13, g14⟩, rfl⟩ := hh
    refine runS_says 1 (by exact g1) (Says.refl _) ?_; refine runS_says 2 (by exact g2) (Says.refl _) ?_; refine runS_says 3 (by exact g3) (Says.refl _) ?_; refine runS_says 5 (by exact g5) (Says.refl _) ?_; refine runS_says 7 (by exact g7) (Says.refl _) ?_; refine runS_says 8 (by exact g8) (Says.refl _) ?_; refine runS_says 11 (by exact g11) (Says.refl _) ?_; refine runS_says 12 (by exact g12) (Says.refl _) ?_; refine runS_says 13 (by exact g13) (Says.refl _) ?_; refine runS_says 14 (by exact g14) (Says.refl _) ?_
    refine runS_x (I := inf) (J := jnf) ⟨false, false, [], 0, 0⟩ 9999 rfl (by repeat (first | exact obs_nil | refine obs_draw (by kernel_rfl) ?_ | refine obs_same ?_ | refine obs_and ?_ | refine obs_by (by (simp [inB] <;> omega)) ?_)) ?_
    have hz : Digs (x ++ y) := fun c hc => by
      rcases List.mem_append.1 hc with hc | hc
      · exact hx c hc
      · exact hy c hc
    have hzl : (x ++ y).length = x.length + y.length := List.length_append
    have hzb : ∀ c ∈ x ++ y, c.toNat - 48 < bB B := fun c hc => by
      unfold bB
      have h5 := hz c hc
      cases hBB : B
      · rw [if_neg (by decide)]
        omega
      · rw [if_pos rfl]
        have := hb hBB c hc
        omega
    have hvl : ∀ k, valB (bB B) ((x ++ y).take (min k (mB B))) < 10 ^ 16 := fun k => by
      have h5 := valB_lt (b := bB B) (by unfold bB; split <;> decide) ((x ++ y).take (min k (mB B))) fun c hc => hzb c (List.mem_of_mem_take hc)
      have h6 : (bB B) ^ ((x ++ y).take (min k (mB B))).length ≤ (bB B) ^ (mB B) := Nat.pow_le_pow_right (by unfold bB; split <;> decide) (by rw [List.length_take]; omega)
      have h7 : (bB B) ^ (mB B) ≤ 10 ^ 15 := by cases B <;> decide
      omega
    refine runS_while (fun (p : Nat × Bool) τ ar => (τ 1 = .ptr 0 0 0 ∧ τ 2 = .ptr 1 0 0 ∧ τ 3 = .ptr 2 0 0 ∧ τ 5 = sv (ptS x y dot) ∧ τ 7 = bv fd ∧ τ 8 = iv (if fd = true then exV sg ds else 0) ∧ τ 11 = .ptr 3 0 0 ∧ τ 12 = .ptr 4 0 0 ∧ τ 13 = iv (mB B : Nat) ∧ τ 14 = iv (bB B : Nat) ∧ τ 15 = bv p.2 ∧ τ 16 = iv (p.1 + if p.2 = true then 1 else 0 : Nat)) ∧ ar = .box 29 [iv 2, sv T, iv a] :: zB ++ [.box 31 (tyE (kB B) p.1 (qD x p.1 p.2 : Nat) 0), .box 33 (vaE (kB B) (valB (bB B) ((x ++ y).take (min p.1 (mB B))) : Nat) 0 [])] ∧ (p.2 = false → p.1 ≤ x.length) ∧ (p.2 = true → dot = true ∧ x.length ≤ p.1) ∧ p.1 ≤ (x ++ y).length) (fun p => (x ++ y).length - p.1 + if p.2 = true then 0 else 1) (0, false) ⟨⟨rfl, rfl, rfl, rfl, rfl, rfl, rfl, rfl, rfl, rfl, rfl, rfl⟩, ?_, fun _ => Nat.zero_le _, fun e => (by cases e), Nat.zero_le _⟩ ?_
    · show _ = AO.box 29 [iv 2, sv T, iv a] :: zB ++ [AO.box 31 (tyE (kB B) 0 0 0), AO.box 33 (vaE (kB B) (valB (bB B) ((x ++ y).take (min 0 (mB B))) : Nat) 0 [])]
      rw [Nat.zero_min]
      rfl
    rintro ⟨d, pt⟩ τ ar ⟨⟨g1, g2, g3, g5, g7, g8, g11, g12, g13, g14, g15, g16⟩, rfl, hpf, hpt, hdl⟩ ih
    dsimp only at g15 g16 hpf hpt hdl ih
    obtain ⟨i, hi⟩ : ∃ i, i = d + (if pt = true then 1 else 0) := ⟨_, rfl⟩
    rw [← hi] at g16
    refine runS_says 1 (by exact g1) (Says.refl _) ?_; refine runS_says 2 (by exact g2) (Says.refl _) ?_; refine runS_says 3 (by exact g3) (Says.refl _) ?_; refine runS_says 5 (by exact g5) (Says.refl _) ?_; refine runS_says 7 (by exact g7) (Says.refl _) ?_; refine runS_says 8 (by exact g8) (Says.refl _) ?_; refine runS_says 11 (by exact g11) (Says.refl _) ?_; refine runS_says 12 (by exact g12) (Says.refl _) ?_; refine runS_says 13 (by exact g13) (Says.refl _) ?_; refine runS_says 14 (by exact g14) (Says.refl _) ?_; refine runS_says 15 (by exact g15) (Says.refl _) ?_; refine runS_says 16 (by exact g16) (Says.refl _) ?_
    refine runS_x (I := inf) (J := jnf) ⟨false, false, [], 0, 0⟩ 9999 rfl (by repeat (first | exact obs_nil | refine obs_draw (by kernel_rfl) ?_ | refine obs_same ?_ | refine obs_and ?_ | refine obs_by (by (simp [inB] <;> omega)) ?_)) ?_
    have hpl2 := pt_len x y dot
    have hil0 : i < (ptS x y dot).length ↔ ((pt = false ∧ d = x.length ∧ dot = true) ∨ (d < (x ++ y).length ∧ (pt = false → d < x.length))) := by
      rw [hi, hpl2, hzl]
      cases pt <;> cases dot
      · have := hpf rfl
        simp
        rw [nd rfl, List.length_nil]
        omega
      · have := hpf rfl
        simp
        omega
      · exact absurd (hpt rfl).1 (by decide)
      · have := hpt rfl
        simp
        omega
    have hcc : decide ((i : Int) < ((bl (bs (ptS x y dot))).length : Int)) = decide (i < (ptS x y dot).length) := by
      rw [blS, decide_eq_decide]
      omega
    have hd16 : i ≤ 40000 := by
      rw [hi]
      have : (if pt = true then 1 else 0) ≤ 1 := by split <;> omega
      rw [hzl] at hdl
      rw [hpl2] at hpl
      cases dot
      · rw [nd rfl, List.length_nil] at hdl
        omega
      · rw [if_pos rfl] at hpl
        omega
    have hw2 : IntKind.wrap .i64 ((i : Int) + 1) = ((i + 1 : Nat) : Int) := by rw [w64 (by omega) (by omega)]; rfl
    refine runS_cond rfl (fun h2 => ?_) (fun h2 => ?_)
    · have hlt : i < (ptS x y dot).length := of_decide_eq_true (hcc.symm.trans h2)
      refine runS_x (I := inf) (J := jnf) ⟨false, false, [], 0, 0⟩ 9999 rfl (by repeat (first | exact obs_nil | refine obs_draw (by kernel_rfl) ?_ | refine obs_same ?_ | refine obs_and ?_ | refine obs_by (by (simp [inB, blS, hlt] <;> omega)) ?_)) ?_
      rcases hil0.1 hlt with ⟨rfl, rfl, rfl⟩ | ⟨hdl2, hdx⟩
      · have h46 := pt_dot x y
        have hi2 : i = x.length := hi
        subst hi2
        refine runS_cond rfl (fun h3 => ?_) (fun h3 => ?_)
        · refine runS_x (I := inf) (J := jnf) ⟨false, false, [], 0, 0⟩ 9999 rfl (by repeat (first | exact obs_nil | refine obs_draw (by kernel_rfl) ?_ | refine obs_same ?_ | refine obs_and ?_ | refine obs_by (by (simp [inB] <;> omega)) ?_)) ?_
          refine ih (x.length, true) _ _ (by show _ < _; dsimp only; simp) ⟨⟨rfl, rfl, rfl, rfl, rfl, rfl, rfl, rfl, rfl, rfl, rfl, congrArg iv hw2⟩, ?_, fun e => (by cases e), fun _ => ⟨rfl, Nat.le_refl _⟩, hdl⟩
          show _ = AO.box 29 [iv 2, sv T, iv a] :: zB ++ [AO.box 31 (tyE (kB B) x.length (x.length - x.length : Nat) 0), _]
          rw [Nat.sub_self]
          rfl
        · exfalso
          have h4 : (((byt (ptS x y true) x.length : Nat) : Int) == 46) = false := h3
          rw [h46] at h4
          cases h4
      · have hcb : byt (ptS x y dot) i = byt (x ++ y) d := by rw [hi]; exact pt_dig hdx hpt
        have hdg := digs_byt hz hdl2
        have hpx : pt = true → x.length ≤ d := fun e => (hpt e).2
        have hw3 : IntKind.wrap .i64 ((d : Int) + 1) = ((d + 1 : Nat) : Int) := by rw [w64 (by omega) (by omega)]; rfl
        have hqd : qD x d pt ≤ d := by unfold qD; split <;> omega
        have hw4 : IntKind.wrap .i64 ((qD x d pt : Int) + 1) = ((qD x d pt + 1 : Nat) : Int) := by rw [w64 (by omega) (by omega)]; rfl
        have hmB : mB B ≤ 31 := by unfold mB; split <;> omega
        have hlast : ∀ e2 : pt = pt, (pt = false → d + 1 ≤ x.length) ∧ (pt = true → dot = true ∧ x.length ≤ d + 1) ∧ d + 1 ≤ (x ++ y).length := fun _ => ⟨fun e => hdx e, fun e => ⟨(hpt e).1, by have := hpx e; omega⟩, hdl2⟩
        have hi1 : i + 1 = d + 1 + (if pt = true then 1 else 0) := by omega
        rw [hi1] at hw2
        have hNy : d + 1 ≤ mB B → IntKind.wrap .i64 (IntKind.wrap .i64 ((bB B : Int) * (valB (bB B) ((x ++ y).take (min d (mB B))) : Int)) + IntKind.wrap .i64 (IntKind.wrap .u8 (((byt (ptS x y dot) i : Nat) : Int) - 48))) = ((valB (bB B) ((x ++ y).take (min (d + 1) (mB B))) : Nat) : Int) := fun h7 => by
          have hv1 := hvl (d + 1)
          rw [Nat.min_eq_left (by omega : d ≤ mB B)]
          rw [Nat.min_eq_left h7, valB_take _ hdl2] at hv1 ⊢
          rw [hcb, IntWalk.u8_in _ (by omega), w64 (x := (byt (x ++ y) d : Int) - 48) (by omega) (by omega)]
          rw [show (bB B : Int) * (valB (bB B) ((x ++ y).take d) : Int) = ((bB B * valB (bB B) ((x ++ y).take d) : Nat) : Int) from (Int.natCast_mul _ _).symm]
          generalize bB B * valB (bB B) ((x ++ y).take d) = m at hv1 ⊢
          rw [w64 (x := (m : Int)) (by omega) (by omega), w64 (by omega) (by omega)]
          omega
        have hNn : ¬ d + 1 ≤ mB B → ((valB (bB B) ((x ++ y).take (min d (mB B))) : Nat) : Int) = ((valB (bB B) ((x ++ y).take (min (d + 1) (mB B))) : Nat) : Int) := fun h7 => by
          rw [Nat.min_eq_right (by omega : mB B ≤ d), Nat.min_eq_right (by omega : mB B ≤ d + 1)]
        refine runS_cond rfl (fun h3 => ?_) (fun h3 => ?_)
        · exfalso
          have h4 : (((byt (ptS x y dot) i : Nat) : Int) == 46) = true := h3
          rw [hcb] at h4
          simp at h4
          omega
        · refine runS_x (I := inf) (J := jnf) ⟨false, false, [], 0, 0⟩ 9999 rfl (by repeat (first | exact obs_nil | refine obs_draw (by kernel_rfl) ?_ | refine obs_same ?_ | refine obs_and ?_ | refine obs_by (by (simp [inB] <;> omega)) ?_)) ?_
          refine runS_cond rfl (fun h4 => ?_) (fun h4 => ?_)
          · have h5 : pt = true := h4
            have hq5 : qD x (d + 1) pt = qD x d pt + 1 := by
              have := hpx h5
              unfold qD
              rw [if_pos h5, if_pos h5]
              omega
            refine runS_x (I := inf) (J := jnf) ⟨false, false, [], 0, 0⟩ 9999 rfl (by repeat (first | exact obs_nil | refine obs_draw (by kernel_rfl) ?_ | refine obs_same ?_ | refine obs_and ?_ | refine obs_by (by (simp [inB] <;> omega)) ?_)) ?_
            refine runS_cond rfl (fun h6 => ?_) (fun h6 => ?_)
            · have h7 : d + 1 ≤ mB B := by
                have : decide (IntKind.wrap .i64 ((d : Int) + 1) ≤ (mB B : Int)) = true := h6
                rw [hw3] at this
                simp at this
                omega
              refine runS_x (I := inf) (J := jnf) ⟨false, false, [], 0, 0⟩ 9999 rfl (by repeat (first | exact obs_nil | refine obs_draw (by kernel_rfl) ?_ | refine obs_same ?_ | refine obs_and ?_ | refine obs_by (by (simp [inB, blS, hlt] <;> omega)) ?_)) ?_
              refine ih (d + 1, pt) _ _ (by show _ < _; dsimp only; omega) ⟨⟨rfl, rfl, rfl, rfl, rfl, rfl, rfl, rfl, rfl, rfl, rfl, congrArg iv hw2⟩, ?_, hlast rfl⟩
              show AO.box 29 [iv 2, sv T, iv a] :: zB ++ [.box 31 [iv (kB B), iv (IntKind.wrap .i64 ((d : Int) + 1)), iv (IntKind.wrap .i64 ((qD x d pt : Int) + 1)), iv 0, bv false, sv []], .box 33 [iv (kB B), iv (IntKind.wrap .i64 (IntKind.wrap .i64 ((bB B : Int) * (valB (bB B) ((x ++ y).take (min d (mB B))) : Int)) + IntKind.wrap .i64 (IntKind.wrap .u8 (((byt (ptS x y dot) i : Nat) : Int) - 48)))), iv 0, sv []]] = AO.box 29 [iv 2, sv T, iv a] :: zB ++ [.box 31 (tyE (kB B) ((d + 1 : Nat) : Int) (qD x (d + 1) pt : Nat) 0), .box 33 (vaE (kB B) (valB (bB B) ((x ++ y).take (min (d + 1) (mB B))) : Nat) 0 [])]
              rw [hw3, hw4, hq5, hNy h7]
            · have h7 : ¬ d + 1 ≤ mB B := by
                have : decide (IntKind.wrap .i64 ((d : Int) + 1) ≤ (mB B : Int)) = false := h6
                rw [hw3] at this
                simp at this
                omega
              refine runS_x (I := inf) (J := jnf) ⟨false, false, [], 0, 0⟩ 9999 rfl (by repeat (first | exact obs_nil | refine obs_draw (by kernel_rfl) ?_ | refine obs_same ?_ | refine obs_and ?_ | refine obs_by (by (simp [inB, blS, hlt] <;> omega)) ?_)) ?_
              refine ih (d + 1, pt) _ _ (by show _ < _; dsimp only; omega) ⟨⟨rfl, rfl, rfl, rfl, rfl, rfl, rfl, rfl, rfl, rfl, rfl, congrArg iv hw2⟩, ?_, hlast rfl⟩
              show AO.box 29 [iv 2, sv T, iv a] :: zB ++ [.box 31 [iv (kB B), iv (IntKind.wrap .i64 ((d : Int) + 1)), iv (IntKind.wrap .i64 ((qD x d pt : Int) + 1)), iv 0, bv false, sv []], .box 33 [iv (kB B), iv (valB (bB B) ((x ++ y).take (min d (mB B))) : Nat), iv 0, sv []]] = AO.box 29 [iv 2, sv T, iv a] :: zB ++ [.box 31 (tyE (kB B) ((d + 1 : Nat) : Int) (qD x (d + 1) pt : Nat) 0), .box 33 (vaE (kB B) (valB (bB B) ((x ++ y).take (min (d + 1) (mB B))) : Nat) 0 [])]
              rw [hw3, hw4, hq5, hNn h7]
          · have h5 : pt = false := h4
            have hq5 : qD x (d + 1) pt = qD x d pt := by
              unfold qD
              rw [h5]
              rfl
            refine runS_x (I := inf) (J := jnf) ⟨false, false, [], 0, 0⟩ 9999 rfl (by repeat (first | exact obs_nil | refine obs_draw (by kernel_rfl) ?_ | refine obs_same ?_ | refine obs_and ?_ | refine obs_by (by (simp [inB] <;> omega)) ?_)) ?_
            refine runS_cond rfl (fun h6 => ?_) (fun h6 => ?_)
            · have h7 : d + 1 ≤ mB B := by
                have : decide (IntKind.wrap .i64 ((d : Int) + 1) ≤ (mB B : Int)) = true := h6
                rw [hw3] at this
                simp at this
                omega
              refine runS_x (I := inf) (J := jnf) ⟨false, false, [], 0, 0⟩ 9999 rfl (by repeat (first | exact obs_nil | refine obs_draw (by kernel_rfl) ?_ | refine obs_same ?_ | refine obs_and ?_ | refine obs_by (by (simp [inB, blS, hlt] <;> omega)) ?_)) ?_
              refine ih (d + 1, pt) _ _ (by show _ < _; dsimp only; omega) ⟨⟨rfl, rfl, rfl, rfl, rfl, rfl, rfl, rfl, rfl, rfl, rfl, congrArg iv hw2⟩, ?_, hlast rfl⟩
              show AO.box 29 [iv 2, sv T, iv a] :: zB ++ [.box 31 [iv (kB B), iv (IntKind.wrap .i64 ((d : Int) + 1)), iv (qD x d pt : Nat), iv 0, bv false, sv []], .box 33 [iv (kB B), iv (IntKind.wrap .i64 (IntKind.wrap .i64 ((bB B : Int) * (valB (bB B) ((x ++ y).take (min d (mB B))) : Int)) + IntKind.wrap .i64 (IntKind.wrap .u8 (((byt (ptS x y dot) i : Nat) : Int) - 48)))), iv 0, sv []]] = AO.box 29 [iv 2, sv T, iv a] :: zB ++ [.box 31 (tyE (kB B) ((d + 1 : Nat) : Int) (qD x (d + 1) pt : Nat) 0), .box 33 (vaE (kB B) (valB (bB B) ((x ++ y).take (min (d + 1) (mB B))) : Nat) 0 [])]
              rw [hw3, hq5, hNy h7]
            · have h7 : ¬ d + 1 ≤ mB B := by
                have : decide (IntKind.wrap .i64 ((d : Int) + 1) ≤ (mB B : Int)) = false := h6
                rw [hw3] at this
                simp at this
                omega
              refine runS_x (I := inf) (J := jnf) ⟨false, false, [], 0, 0⟩ 9999 rfl (by repeat (first | exact obs_nil | refine obs_draw (by kernel_rfl) ?_ | refine obs_same ?_ | refine obs_and ?_ | refine obs_by (by (simp [inB, blS, hlt] <;> omega)) ?_)) ?_
              refine ih (d + 1, pt) _ _ (by show _ < _; dsimp only; omega) ⟨⟨rfl, rfl, rfl, rfl, rfl, rfl, rfl, rfl, rfl, rfl, rfl, congrArg iv hw2⟩, ?_, hlast rfl⟩
              show AO.box 29 [iv 2, sv T, iv a] :: zB ++ [.box 31 [iv (kB B), iv (IntKind.wrap .i64 ((d : Int) + 1)), iv (qD x d pt : Nat), iv 0, bv false, sv []], .box 33 [iv (kB B), iv (valB (bB B) ((x ++ y).take (min d (mB B))) : Nat), iv 0, sv []]] = AO.box 29 [iv 2, sv T, iv a] :: zB ++ [.box 31 (tyE (kB B) ((d + 1 : Nat) : Int) (qD x (d + 1) pt : Nat) 0), .box 33 (vaE (kB B) (valB (bB B) ((x ++ y).take (min (d + 1) (mB B))) : Nat) 0 [])]
              rw [hw3, hq5, hNn h7]
    · have hnl : ¬ i < (ptS x y dot).length := of_decide_eq_false (hcc.symm.trans h2)
      have hend : d = x.length + y.length ∧ qD x d pt = y.length := by
        have h3 := fun e => hnl (hil0.2 e)
        unfold qD
        cases pt
        · have h4 := hpf rfl
          have h5 : d = x.length := by
            refine Nat.le_antisymm h4 (Nat.le_of_not_lt fun e => h3 (.inr ⟨by omega, fun _ => e⟩))
          have h6 : dot = false := by
            cases hdd : dot
            · rfl
            · exact absurd (.inl ⟨rfl, h5, hdd⟩) h3
          rw [nd h6]
          exact ⟨h5, rfl⟩
        · have h4 := hpt rfl
          rw [if_pos rfl]
          have h5 : ¬ d < (x ++ y).length := fun e => h3 (.inr ⟨e, fun e2 => (by cases e2)⟩)
          omega
      obtain ⟨hd1', hq1⟩ := hend
      clear ih hil0 hcc hw2 hlast
      have hPz : (x ++ y).take (min d (mB B)) = (x ++ y).take (mB B) := by
        by_cases h5 : d ≤ mB B
        · rw [Nat.min_eq_left h5, List.take_of_length_le (by omega), List.take_of_length_le (by omega)]
        · rw [Nat.min_eq_right (by omega)]
      dsimp only
      rw [hPz, hq1, hd1']
      refine runS_x (I := inf) (J := jnf) ⟨false, false, [], 0, 0⟩ 9999 rfl (by repeat (first | exact obs_nil | refine obs_draw (by kernel_rfl) ?_ | refine obs_same ?_ | refine obs_and ?_ | refine obs_by (by (simp [inB] <;> omega)) ?_)) ?_
      refine runS_cond rfl (fun h3 => ?_) (fun h3 => ?_)
      · have h4 : x.length + y.length > mB B := by
          have : decide (((x.length + y.length : Nat) : Int) > (mB B : Int)) = true := h3
          simp at this
          omega
        refine runS_x (I := inf) (J := jnf) ⟨false, false, [], 0, 0⟩ 9999 rfl (by repeat (first | exact obs_nil | refine obs_draw (by kernel_rfl) ?_ | refine obs_same ?_ | refine obs_and ?_ | refine obs_by (by (simp [inB] <;> omega)) ?_)) ?_
        refine runS_ret (I := inf) 0 rfl (Nat.le_refl _) rfl .nil rfl ⟨?_, rfl⟩
        have : numC B fd x y sg ds = czero 7 := by
          unfold numC fixC floC
          cases B
          · have h5 : x.length + y.length > 15 := h4
            cases fd
            · rw [if_neg (by decide), if_neg (by decide), if_pos h5]
            · rw [if_neg (by decide), if_pos rfl, if_pos h5]
          · have h5 : x.length + y.length > 31 := h4
            rw [if_pos rfl, if_pos h5]
        rw [this]
        rfl
      · have h4 : ¬ x.length + y.length > mB B := by
          have : decide (((x.length + y.length : Nat) : Int) > (mB B : Int)) = false := h3
          simp at this
          omega
        rw [List.take_of_length_le (by omega)]
        refine runS_x (I := inf) (J := jnf) ⟨false, false, [], 0, 0⟩ 9999 rfl (by repeat (first | exact obs_nil | refine obs_draw (by kernel_rfl) ?_ | refine obs_same ?_ | refine obs_and ?_ | refine obs_by (by (simp [inB] <;> omega)) ?_)) ?_
        refine runS_cond rfl (fun h5 => ?_) (fun h5 => ?_)
        · have hF : fd = false := by simpa using (show (!fd) = true from h5)
          refine runS_x (I := inf) (J := jnf) ⟨false, false, [], 0, 0⟩ 9999 rfl (by repeat (first | exact obs_nil | refine obs_draw (by kernel_rfl) ?_ | refine obs_same ?_ | refine obs_and ?_ | refine obs_by (by (simp [inB] <;> omega)) ?_)) ?_
          refine runS_drawG (ch := []) (A2 := fun _ => []) 3 [2] (fun t => [.box 29 [iv 2, sv T, iv a], .box 31 [cond (t.getD 0 false) (iv (kB B)) (iv 0), cond (t.getD 0 false) (iv (x.length + y.length : Nat)) (iv 0), cond (t.getD 0 false) (iv y.length) (iv 0), iv 0, bv false, sv []], .box 33 (vaE 0 0 0 []), .box 31 (tyE (kB B) (x.length + y.length : Nat) y.length 0), .box 33 (vaE (kB B) (valB (bB B) (x ++ y) : Nat) y.length [])]) none (c := 9) jnfI.draw (by kernel_rfl) rfl (lexg_g (I := inf) (J := jnf) none ⟨⟨_, rfl, (by repeat (first | exact obs_nil | refine obs_same ?_ | refine obs_and ?_ | refine obs_by (by (simp [inB] <;> omega)) ?_))⟩, (by first | exact .inl (by decide +kernel) | exact .inr ⟨_, rfl, (by repeat (first | exact obs_nil | refine obs_same ?_ | refine obs_and ?_ | refine obs_by (by (simp [inB] <;> omega)) ?_))⟩)⟩ rfl rfl rfl rfl (lexg_g (I := inf) (J := jnf) none ⟨⟨_, rfl, (by repeat (first | exact obs_nil | refine obs_same ?_ | refine obs_and ?_ | refine obs_by (by (simp [inB] <;> omega)) ?_))⟩, (by first | exact .inl (by decide +kernel) | exact .inr ⟨_, rfl, (by repeat (first | exact obs_nil | refine obs_same ?_ | refine obs_and ?_ | refine obs_by (by (simp [inB] <;> omega)) ?_))⟩)⟩ rfl rfl rfl rfl (lexg_g (I := inf) (J := jnf) (some .store) ⟨⟨_, rfl, (by repeat (first | exact obs_nil | refine obs_same ?_ | refine obs_and ?_ | refine obs_by (by (simp [inB] <;> omega)) ?_))⟩, .inl rfl⟩ rfl rfl rfl rfl lexg_nil))) rfl (fun _ => ?_) (fun h => by cases h)
          refine runS_x (I := inf) (J := jnf) ⟨false, false, [], 0, 0⟩ 9999 rfl (by repeat (first | exact obs_nil | refine obs_draw (by kernel_rfl) ?_ | refine obs_same ?_ | refine obs_and ?_ | refine obs_by (by (simp [inB] <;> omega)) ?_)) ?_
          refine runS_ret (I := inf) 0 rfl (Nat.le_refl _) rfl .nil rfl ⟨?_, rfl⟩
          have : numC B fd x y sg ds = ⟨kB B, (x.length + y.length : Nat), y.length, 0, kB B, (valB (bB B) (x ++ y) : Nat), y.length, [], 0⟩ := by
            unfold numC fixC
            rw [hF]
            cases B
            · have h6 : ¬ x.length + y.length > 15 := h4
              rw [if_neg (by decide), if_neg (by decide), if_neg h6]
              rfl
            · have h6 : ¬ x.length + y.length > 31 := h4
              rw [if_pos rfl, if_neg h6]
              rfl
          rw [this]
          rfl
        · have hF : fd = true := by simpa using (show (!fd) = false from h5)
          have hB : B = false := by
            cases hBB : B
            · rfl
            · exact absurd (bf hBB) (by rw [hF]; decide)
          subst hF hB
          have hex := exV_le (sg := sg) (hds rfl) (hd2 rfl)
          have hNl : valB 10 (x ++ y) < 10 ^ 15 := by
            have h6 := valB_lt (b := 10) (by decide) (x ++ y) hzb
            have h7 : 10 ^ (x ++ y).length ≤ 10 ^ 15 := Nat.pow_le_pow_right (by decide) (by rw [hzl]; exact Nat.le_of_not_lt h4)
            omega
          have hyl : x.length + y.length ≤ 15 := Nat.le_of_not_lt h4
          have hwq : IntKind.wrap .i64 (exV sg ds - (y.length : Int)) = exV sg ds - (y.length : Int) := w64 (by omega) (by omega)
          refine runS_x (I := inf) (J := jnf) ⟨false, false, [], 0, 0⟩ 9999 rfl (by repeat (first | exact obs_nil | refine obs_draw (by kernel_rfl) ?_ | refine obs_same ?_ | refine obs_and ?_ | refine obs_by (by (simp [inB] <;> omega)) ?_)) ?_
          refine runS_drawG (ch := []) (A2 := fun _ => []) 6 [5] (fun t => [.box 29 [iv 2, sv T, iv a], .box 31 (tyE 0 0 0 0), .box 33 (vaE 0 0 0 []), .box 31 (tyE 2 (x.length + y.length : Nat) y.length 0), .box 33 [cond (t.getD 0 false) (iv 3) (iv 2), iv (valB 10 (x ++ y) : Nat), iv y.length, sv []]]) none (c := 9) jnfI.draw (by kernel_rfl) rfl (lexg_g (I := inf) (J := jnf) none ⟨⟨_, rfl, (by repeat (first | exact obs_nil | refine obs_same ?_ | refine obs_and ?_ | refine obs_by (by (simp [inB] <;> omega)) ?_))⟩, (by first | exact .inl (by decide +kernel) | exact .inr ⟨_, rfl, (by repeat (first | exact obs_nil | refine obs_same ?_ | refine obs_and ?_ | refine obs_by (by (simp [inB] <;> omega)) ?_))⟩)⟩ rfl rfl rfl rfl (lexg_g (I := inf) (J := jnf) none ⟨⟨_, rfl, (by repeat (first | exact obs_nil | refine obs_same ?_ | refine obs_and ?_ | refine obs_by (by (simp [inB] <;> omega)) ?_))⟩, (by first | exact .inl (by decide +kernel) | exact .inr ⟨_, rfl, (by repeat (first | exact obs_nil | refine obs_same ?_ | refine obs_and ?_ | refine obs_by (by (simp [inB] <;> omega)) ?_))⟩)⟩ rfl rfl rfl rfl (lexg_g (I := inf) (J := jnf) none ⟨⟨_, rfl, (by repeat (first | exact obs_nil | refine obs_same ?_ | refine obs_and ?_ | refine obs_by (by (simp [inB] <;> omega)) ?_))⟩, (by first | exact .inl (by decide +kernel) | exact .inr ⟨_, rfl, (by repeat (first | exact obs_nil | refine obs_same ?_ | refine obs_and ?_ | refine obs_by (by (simp [inB] <;> omega)) ?_))⟩)⟩ rfl rfl rfl rfl (lexg_g (I := inf) (J := jnf) none ⟨⟨_, rfl, (by repeat (first | exact obs_nil | refine obs_same ?_ | refine obs_and ?_ | refine obs_by (by (simp [inB] <;> omega)) ?_))⟩, (by first | exact .inl (by decide +kernel) | exact .inr ⟨_, rfl, (by repeat (first | exact obs_nil | refine obs_same ?_ | refine obs_and ?_ | refine obs_by (by (simp [inB] <;> omega)) ?_))⟩)⟩ rfl rfl rfl rfl (lexg_g (I := inf) (J := jnf) none ⟨⟨_, rfl, (by repeat (first | exact obs_nil | refine obs_same ?_ | refine obs_and ?_ | refine obs_by (by (simp [inB] <;> omega)) ?_))⟩, (by first | exact .inl (by decide +kernel) | exact .inr ⟨_, rfl, (by repeat (first | exact obs_nil | refine obs_same ?_ | refine obs_and ?_ | refine obs_by (by (simp [inB] <;> omega)) ?_))⟩)⟩ rfl rfl rfl rfl (lexg_g (I := inf) (J := jnf) (some .store) ⟨⟨_, rfl, (by repeat (first | exact obs_nil | refine obs_same ?_ | refine obs_and ?_ | refine obs_by (by (simp [inB] <;> omega)) ?_))⟩, .inl rfl⟩ rfl rfl rfl rfl lexg_nil)))))) rfl (fun _ => ?_) (fun h => by cases h)
          refine runS_x (I := inf) (J := jnf) ⟨false, false, [], 0, 0⟩ 9999 rfl (by repeat (first | exact obs_nil | refine obs_draw (by kernel_rfl) ?_ | refine obs_same ?_ | refine obs_and ?_ | refine obs_by (by (simp [inB] <;> omega)) ?_)) ?_
          have hnc : numC false true x y sg ds = floC x y (exV sg ds) := rfl
          rw [hnc]
          have e2 : floC x y (exV sg ds) = if valB 10 (x ++ y) = 0 then ⟨3, ((x.length + y.length : Nat) : Int), 0, 0, 3, 0, 0, [], 0⟩
            else if -75 ≤ ((frm (normN (valB 10 (x ++ y)) (exV sg ds - y.length)).1).length : Int) + (normN (valB 10 (x ++ y)) (exV sg ds - y.length)).2 - 1 ∧ ((frm (normN (valB 10 (x ++ y)) (exV sg ds - y.length)).1).length : Int) + (normN (valB 10 (x ++ y)) (exV sg ds - y.length)).2 - 1 ≤ 75 then
              ⟨3, ((x.length + y.length : Nat) : Int), 0, 0, 3, ((normN (valB 10 (x ++ y)) (exV sg ds - y.length)).1 : Int), (normN (valB 10 (x ++ y)) (exV sg ds - y.length)).2, [], 0⟩
            else czero 7 := by unfold floC; rw [if_neg (by omega)]
          rw [e2]
          clear hvl hzb hPz e2 hnc
          generalize valB 10 (x ++ y) = N at *
          generalize hQ : exV sg ds - (y.length : Int) = Q0 at *
          refine runS_while (fun (p : Nat × Int) τ ar => (τ 2 = .ptr 1 0 0 ∧ τ 3 = .ptr 2 0 0 ∧ τ 11 = .ptr 3 0 0 ∧ τ 12 = .ptr 4 0 0) ∧ ar = [.box 29 [iv 2, sv T, iv a], .box 31 (tyE 0 0 0 0), .box 33 (vaE 0 0 0 []), .box 31 (tyE 3 (x.length + y.length : Nat) 0 0), .box 33 (vaE 3 p.1 p.2 [])] ∧ (N = 0 ↔ p.1 = 0) ∧ normN N Q0 = normN p.1 p.2 ∧ Q0 ≤ p.2 ∧ p.2 + p.1 ≤ Q0 + N) (fun p => p.1) (N, Q0) ⟨⟨rfl, rfl, rfl, rfl⟩, ?_, Iff.rfl, rfl, Int.le_refl _, Int.le_refl _⟩ ?_
          · show [_, _, _, _, AO.box 33 [iv 3, iv (N : Int), iv (IntKind.wrap .i64 (exV sg ds - (y.length : Int))), sv []]] = _
            rw [hQ, hwq]
          rintro ⟨n, q⟩ τ ar ⟨⟨g2, g3, g11, g12⟩, rfl, hn0, hnn, hq1', hq2⟩ ih
          dsimp only at hn0 hnn hq1' hq2 ih
          refine runS_says 2 (by exact g2) (Says.refl _) ?_; refine runS_says 3 (by exact g3) (Says.refl _) ?_; refine runS_says 11 (by exact g11) (Says.refl _) ?_; refine runS_says 12 (by exact g12) (Says.refl _) ?_
          have e1 : (n : Int).tmod 10 = ((n % 10 : Nat) : Int) := (Int.ofNat_tmod n 10).symm
          have hcc2 : (if (!((n : Int) == 0)) = true then ((n : Int).tmod 10 == 0) else false) = decide (n ≠ 0 ∧ n % 10 = 0) := by
            rw [e1, Bool.eq_iff_iff]
            by_cases h6 : n = 0 <;> by_cases h7 : n % 10 = 0 <;> simp [h6, h7] <;> omega
          refine runS_x (I := inf) (J := jnf) ⟨false, false, [], 0, 0⟩ 9999 rfl (by repeat (first | exact obs_nil | refine obs_draw (by kernel_rfl) ?_ | refine obs_same ?_ | refine obs_and ?_ | refine obs_by (by first | exact (fun _ => nz10) | (simp [inB] <;> omega)) ?_)) ?_
          refine runS_cond rfl (fun h6 => ?_) (fun h6 => ?_)
          · have h7 := of_decide_eq_true (hcc2.symm.trans h6)
            refine runS_x (I := inf) (J := jnf) ⟨false, false, [], 0, 0⟩ 9999 rfl (by repeat (first | exact obs_nil | refine obs_draw (by kernel_rfl) ?_ | refine obs_same ?_ | refine obs_and ?_ | refine obs_by (by first | exact (fun _ => nz10) | (simp [inB] <;> omega)) ?_)) ?_
            have e3 : IntKind.wrap .i64 (Int.tdiv (n : Int) 10) = ((n / 10 : Nat) : Int) := by
              rw [show (n : Int).tdiv 10 = ((n / 10 : Nat) : Int) from (Int.ofNat_tdiv n 10).symm]
              exact w64 (by omega) (by omega)
            have e4 : IntKind.wrap .i64 (q + 1) = q + 1 := w64 (by omega) (by omega)
            refine ih (n / 10, q + 1) _ _ (by show n / 10 < n; omega) ⟨⟨rfl, rfl, rfl, rfl⟩, ?_, by show _ ↔ n / 10 = 0; omega, ?_, by show _ ≤ q + 1; omega, by show q + 1 + ((n / 10 : Nat) : Int) ≤ _; omega⟩
            · show [_, _, _, _, AO.box 33 [iv 3, iv (IntKind.wrap .i64 (Int.tdiv (n : Int) 10)), iv (IntKind.wrap .i64 (q + 1)), sv []]] = [_, _, _, _, _]
              rw [e3, e4]
            · rw [hnn]
              conv => lhs; rw [normN]
              rw [dif_pos h7]
          · have h7 := of_decide_eq_false (hcc2.symm.trans h6)
            have e3 : normN N Q0 = (n, q) := by rw [hnn, normN, dif_neg h7]
            clear ih hcc2 h6 e1
            refine runS_x (I := inf) (J := jnf) ⟨false, false, [], 0, 0⟩ 9999 rfl (by repeat (first | exact obs_nil | refine obs_draw (by kernel_rfl) ?_ | refine obs_same ?_ | refine obs_and ?_ | refine obs_by (by (simp [inB] <;> omega)) ?_)) ?_
            refine runS_cond rfl (fun h6 => ?_) (fun h6 => ?_)
            · have h8 : n = 0 := by
                have : ((n : Int) == 0) = true := h6
                simp at this
                omega
              subst h8
              refine runS_x (I := inf) (J := jnf) ⟨false, false, [], 0, 0⟩ 9999 rfl (by repeat (first | exact obs_nil | refine obs_draw (by kernel_rfl) ?_ | refine obs_same ?_ | refine obs_and ?_ | refine obs_by (by (simp [inB] <;> omega)) ?_)) ?_
              refine runS_call rfl rfl rfl rfl rfl rfl rfl (r_right3 0 0 (by omega) (by omega) (by omega)) ?_
              refine runS_x (I := inf) (J := jnf) ⟨false, false, [], 0, 0⟩ 9999 rfl (by repeat (first | exact obs_nil | refine obs_draw (by kernel_rfl) ?_ | refine obs_same ?_ | refine obs_and ?_ | refine obs_by (by (simp [inB] <;> omega)) ?_)) ?_
              refine runS_cond rfl (fun h9 => by cases h9) (fun h9 => ?_)
              refine runS_x (I := inf) (J := jnf) ⟨false, false, [], 0, 0⟩ 9999 rfl (by repeat (first | exact obs_nil | refine obs_draw (by kernel_rfl) ?_ | refine obs_same ?_ | refine obs_and ?_ | refine obs_by (by (simp [inB] <;> omega)) ?_)) ?_
              refine runS_drawG (ch := []) (A2 := fun _ => []) 3 [2] (fun t => [.box 29 [iv 2, sv T, iv a], .box 31 [cond (t.getD 0 false) (iv 3) (iv 0), cond (t.getD 0 false) (iv (x.length + y.length : Nat)) (iv 0), iv 0, iv 0, bv false, sv []], .box 33 (vaE 0 0 0 []), .box 31 (tyE 3 (x.length + y.length : Nat) 0 0), .box 33 (vaE 3 0 0 [])]) none (c := 9) jnfI.draw (by kernel_rfl) rfl (lexg_g (I := inf) (J := jnf) none ⟨⟨_, rfl, (by repeat (first | exact obs_nil | refine obs_same ?_ | refine obs_and ?_ | refine obs_by (by (simp [inB] <;> omega)) ?_))⟩, (by first | exact .inl (by decide +kernel) | exact .inr ⟨_, rfl, (by repeat (first | exact obs_nil | refine obs_same ?_ | refine obs_and ?_ | refine obs_by (by (simp [inB] <;> omega)) ?_))⟩)⟩ rfl rfl rfl rfl (lexg_g (I := inf) (J := jnf) none ⟨⟨_, rfl, (by repeat (first | exact obs_nil | refine obs_same ?_ | refine obs_and ?_ | refine obs_by (by (simp [inB] <;> omega)) ?_))⟩, (by first | exact .inl (by decide +kernel) | exact .inr ⟨_, rfl, (by repeat (first | exact obs_nil | refine obs_same ?_ | refine obs_and ?_ | refine obs_by (by (simp [inB] <;> omega)) ?_))⟩)⟩ rfl rfl rfl rfl (lexg_g (I := inf) (J := jnf) (some .store) ⟨⟨_, rfl, (by repeat (first | exact obs_nil | refine obs_same ?_ | refine obs_and ?_ | refine obs_by (by (simp [inB] <;> omega)) ?_))⟩, .inl rfl⟩ rfl rfl rfl rfl lexg_nil))) rfl (fun _ => ?_) (fun h => by cases h)
              refine runS_x (I := inf) (J := jnf) ⟨false, false, [], 0, 0⟩ 9999 rfl (by repeat (first | exact obs_nil | refine obs_draw (by kernel_rfl) ?_ | refine obs_same ?_ | refine obs_and ?_ | refine obs_by (by (simp [inB] <;> omega)) ?_)) ?_
              refine runS_ret (I := inf) 0 rfl (Nat.le_refl _) rfl .nil rfl ⟨?_, rfl⟩
              rw [if_pos (hn0.2 rfl)]
              rfl
            · have h8 : n ≠ 0 := by
                have : ((n : Int) == 0) = false := h6
                simp at this
                omega
              have hN0 : N ≠ 0 := fun e => h8 (hn0.1 e)
              obtain ⟨n', k, k1, k2, k3⟩ := norm_ex N hN0 Q0
              rw [e3] at k1
              injection k1 with k4 k5
              subst k4
              obtain ⟨k6, k7⟩ := norm_le k2 k3 hNl
              have hrf : rightF n q = decide (-75 ≤ ((frm n).length : Int) + q - 1 ∧ ((frm n).length : Int) + q - 1 ≤ 75) := by
                unfold rightF
                rw [if_neg h8, if_neg (by omega), Bool.eq_iff_iff]
                simp
              refine runS_x (I := inf) (J := jnf) ⟨false, false, [], 0, 0⟩ 9999 rfl (by repeat (first | exact obs_nil | refine obs_draw (by kernel_rfl) ?_ | refine obs_same ?_ | refine obs_and ?_ | refine obs_by (by (simp [inB] <;> omega)) ?_)) ?_
              refine runS_call rfl rfl rfl rfl rfl rfl rfl (r_right3 n q (by omega) (by omega) (by omega)) ?_
              rw [hrf]
              rw [if_neg hN0, e3]
              refine runS_x (I := inf) (J := jnf) ⟨false, false, [], 0, 0⟩ 9999 rfl (by repeat (first | exact obs_nil | refine obs_draw (by kernel_rfl) ?_ | refine obs_same ?_ | refine obs_and ?_ | refine obs_by (by (simp [inB] <;> omega)) ?_)) ?_
              refine runS_cond rfl (fun h9 => ?_) (fun h9 => ?_)
              · have h10 : ¬ (-75 ≤ ((frm n).length : Int) + q - 1 ∧ ((frm n).length : Int) + q - 1 ≤ 75) := of_decide_eq_false (by simpa only [Bool.not_eq_true'] using (show (!decide (-75 ≤ ((frm n).length : Int) + q - 1 ∧ ((frm n).length : Int) + q - 1 ≤ 75)) = true from h9))
                refine runS_x (I := inf) (J := jnf) ⟨false, false, [], 0, 0⟩ 9999 rfl (by repeat (first | exact obs_nil | refine obs_draw (by kernel_rfl) ?_ | refine obs_same ?_ | refine obs_and ?_ | refine obs_by (by (simp [inB] <;> omega)) ?_)) ?_
                refine runS_ret (I := inf) 0 rfl (Nat.le_refl _) rfl .nil rfl ⟨?_, rfl⟩
                rw [if_neg h10]
                rfl
              · have h10 : (-75 ≤ ((frm n).length : Int) + q - 1 ∧ ((frm n).length : Int) + q - 1 ≤ 75) := of_decide_eq_true (by simpa only [Bool.not_eq_false'] using (show (!decide (-75 ≤ ((frm n).length : Int) + q - 1 ∧ ((frm n).length : Int) + q - 1 ≤ 75)) = false from h9))
                refine runS_x (I := inf) (J := jnf) ⟨false, false, [], 0, 0⟩ 9999 rfl (by repeat (first | exact obs_nil | refine obs_draw (by kernel_rfl) ?_ | refine obs_same ?_ | refine obs_and ?_ | refine obs_by (by (simp [inB] <;> omega)) ?_)) ?_
                refine runS_drawG (ch := []) (A2 := fun _ => []) 3 [2] (fun t => [.box 29 [iv 2, sv T, iv a], .box 31 [cond (t.getD 0 false) (iv 3) (iv 0), cond (t.getD 0 false) (iv (x.length + y.length : Nat)) (iv 0), iv 0, iv 0, bv false, sv []], .box 33 (vaE 0 0 0 []), .box 31 (tyE 3 (x.length + y.length : Nat) 0 0), .box 33 (vaE 3 n q [])]) none (c := 9) jnfI.draw (by kernel_rfl) rfl (lexg_g (I := inf) (J := jnf) none ⟨⟨_, rfl, (by repeat (first | exact obs_nil | refine obs_same ?_ | refine obs_and ?_ | refine obs_by (by (simp [inB] <;> omega)) ?_))⟩, (by first | exact .inl (by decide +kernel) | exact .inr ⟨_, rfl, (by repeat (first | exact obs_nil | refine obs_same ?_ | refine obs_and ?_ | refine obs_by (by (simp [inB] <;> omega)) ?_))⟩)⟩ rfl rfl rfl rfl (lexg_g (I := inf) (J := jnf) none ⟨⟨_, rfl, (by repeat (first | exact obs_nil | refine obs_same ?_ | refine obs_and ?_ | refine obs_by (by (simp [inB] <;> omega)) ?_))⟩, (by first | exact .inl (by decide +kernel) | exact .inr ⟨_, rfl, (by repeat (first | exact obs_nil | refine obs_same ?_ | refine obs_and ?_ | refine obs_by (by (simp [inB] <;> omega)) ?_))⟩)⟩ rfl rfl rfl rfl (lexg_g (I := inf) (J := jnf) (some .store) ⟨⟨_, rfl, (by repeat (first | exact obs_nil | refine obs_same ?_ | refine obs_and ?_ | refine obs_by (by (simp [inB] <;> omega)) ?_))⟩, .inl rfl⟩ rfl rfl rfl rfl lexg_nil))) rfl (fun _ => ?_) (fun h => by cases h)
                refine runS_x (I := inf) (J := jnf) ⟨false, false, [], 0, 0⟩ 9999 rfl (by repeat (first | exact obs_nil | refine obs_draw (by kernel_rfl) ?_ | refine obs_same ?_ | refine obs_and ?_ | refine obs_by (by (simp [inB] <;> omega)) ?_)) ?_
                refine runS_ret (I := inf) 0 rfl (Nat.le_refl _) rfl .nil rfl ⟨?_, rfl⟩
                rw [if_pos h10]
                rfl
end Go.Iron.Tryz

/- The token seat: valid tokens, with kinds and places of all kinds. -/
namespace Go.Iron.Tryz
open Go.Proofs Go.RowKit Go.Iron.Tok Go.Iron.Dg

theorem good_at {t : Tk} (h : Tok.Good t) (a : Nat) : Tok.Good ⟨t.kind, t.text, a⟩ := by
  cases h with
  | name T a' h1 h2 h3 h4 => exact .name T a h1 h2 h3 h4
  | num T a' h1 => exact .num T a h1
  | chars T a' h1 h2 => exact .chars T a h1 h2
  | bits T a' h1 h2 => exact .bits T a h1 h2
  | oper T a' h1 => exact .oper T a h1
theorem scan_long {s : Str} (h : (scanF s).2.2 = 0) : s.length ≤ 20000 := by
  refine Nat.le_of_not_lt fun hl => ?_
  rw [scanF, if_pos hl] at h
  cases h
theorem valid_good (t : Tk) : validT t = true ↔ Tok.Good ⟨t.kind, t.text, 0⟩ ∧ (wrS t).length ≤ 20000 := by
  constructor
  · intro h
    unfold validT readAs at h
    rw [Bool.and_eq_true, decide_eq_true_eq] at h
    obtain ⟨h1, h2⟩ := h
    refine ⟨?_, scan_long h1⟩
    unfold sameL at h2
    rw [Bool.and_eq_true, decide_eq_true_eq] at h2
    obtain ⟨h3, h4⟩ := h2
    have h3' : (scanF (wrS t)).1.length = 1 := h3
    have h5 := List.all_eq_true.1 h4 0 (List.mem_range.2 (by omega))
    have h6 := (scanF_good (wrS t)).1 ((scanF (wrS t)).1.getD 0 tk0) (by
      rw [List.getD_eq_getElem?_getD, List.getElem?_eq_getElem (by omega : 0 < (scanF (wrS t)).1.length)]
      exact List.getElem_mem _)
    unfold sameT at h5
    rw [Bool.and_eq_true, Bool.and_eq_true, decide_eq_true_eq, decide_eq_true_eq] at h5
    have h7 := good_at h6 0
    rw [h5.1.1, h5.1.2] at h7
    exact h7
  · rintro ⟨h1, h2⟩
    exact good_valid (good_at h1 t.at_) h2
theorem dbl_le : ∀ s : Str, (dbl s).length ≤ 2 * s.length
  | [] => Nat.le_refl _
  | b :: s => by
    rw [dbl_cons, List.length_append, List.length_cons]
    have := dbl_le s
    split
    · show 2 + _ ≤ _
      omega
    · show 1 + _ ≤ _
      omega
theorem all_byt {s : Str} {f : Nat → Bool} : ((List.range s.length).all fun i => f (byt s i)) = true ↔ ∀ b ∈ s, f b.toNat = true := by
  rw [List.all_eq_true]
  constructor
  · intro h b hb
    obtain ⟨i, hi, rfl⟩ := List.mem_iff_getElem.1 hb
    rw [← byt_get hi]
    exact h i (List.mem_range.2 hi)
  · intro h i hi
    have hi := List.mem_range.1 hi
    rw [byt_get hi]
    exact h _ (List.getElem_mem hi)
theorem refV_good (kd : Int) (s : Str) (a : Int) : refV kd s a = true ↔ (0 ≤ a ∧ 0 ≤ kd) ∧ Tok.Good ⟨kd.toNat, s, 0⟩ ∧ (wrS ⟨kd.toNat, s, 0⟩).length ≤ 20000 := by
  unfold refV
  by_cases h1 : a < 0 ∨ s.length > 20000
  · rw [if_pos h1]
    refine ⟨fun h => (by cases h), ?_⟩
    rintro ⟨⟨h2, h3⟩, h4, h5⟩
    exfalso
    have h6 : s.length > 20000 := by omega
    have h7 : s.length ≤ (wrS ⟨kd.toNat, s, 0⟩).length ∨ s.length ≤ 250 := by
      generalize kd.toNat = k at h4
      cases h4 with
      | name T a' h1 h2 h3 h4 => exact .inl (Nat.le_refl _)
      | num T a' h1 => exact .inl (Nat.le_refl _)
      | chars T a' h1 h2 => exact .inr h1
      | bits T a' h1 h2 => exact .inr h1
      | oper T a' h1 => exact .inl (Nat.le_refl _)
    omega
  · rw [if_neg h1]
    by_cases h2 : kd = 3 ∨ kd = 4
    · rw [if_pos h2]
      by_cases h3 : s.length > 250
      · rw [if_pos h3]
        refine ⟨fun h => (by cases h), ?_⟩
        rintro ⟨_, h4, _⟩
        exfalso
        rcases h2 with rfl | rfl
        · cases h4 with
          | chars T a' h1 h2 => omega
        · cases h4 with
          | bits T a' h1 h2 => omega
      · rw [if_neg h3, all_byt]
        rcases h2 with rfl | rfl
        · have hwl : (wrS ⟨3, s, 0⟩).length ≤ 20000 := by
            have h5 := dbl_le s
            show ([39] ++ dbl s ++ [39]).length ≤ 20000
            rw [List.length_append, List.length_append, List.length_singleton]
            omega
          constructor
          · intro h
            refine ⟨⟨by omega, by omega⟩, .chars s 0 (by omega) fun b hb => ?_, hwl⟩
            have := h b hb
            simp only [cBy, plP] at this ⊢
            simp at this ⊢
            omega
          · rintro ⟨_, h4, _⟩ b hb
            have h4 : Tok.Good ⟨3, s, 0⟩ := h4
            cases h4 with
            | chars T a' h5 h6 =>
              have := h6 b hb
              simp only [cBy, plP] at this ⊢
              simp at this ⊢
              omega
        · have hwl : (wrS ⟨4, s, 0⟩).length ≤ 20000 := by
            show ([39] ++ s ++ [39, 66]).length ≤ 20000
            rw [List.length_append, List.length_append]
            show 1 + s.length + 2 ≤ _
            omega
          constructor
          · intro h
            refine ⟨⟨by omega, by omega⟩, .bits s 0 (by omega) fun b hb => ?_, hwl⟩
            have := h b hb
            simp only [cBy] at this
            simp at this
            omega
          · rintro ⟨_, h4, _⟩ b hb
            have h4 : Tok.Good ⟨4, s, 0⟩ := h4
            cases h4 with
            | bits T a' h5 h6 =>
              have := h6 b hb
              simp only [cBy]
              simp
              omega
    · rw [if_neg h2]
      constructor
      · intro h
        simp only [Bool.and_eq_true, decide_eq_true_eq, Bool.or_eq_true] at h
        obtain ⟨⟨⟨⟨h3, h4⟩, h5⟩, h6⟩, h7⟩ := h
        have h8 := (scanF_good s).1 ((scanF s).1.getD 0 tk0) (by
          rw [List.getD_eq_getElem?_getD, List.getElem?_eq_getElem (by omega : 0 < (scanF s).1.length)]
          exact List.getElem_mem _)
        have h9 := good_at h8 0
        rw [h6, show ((scanF s).1.getD 0 tk0).kind = kd.toNat by omega] at h9
        refine ⟨⟨by omega, by omega⟩, h9, ?_⟩
        have h10 : wrS ⟨kd.toNat, s, 0⟩ = s := by
          unfold wrS
          rw [if_neg (by show ¬ kd.toNat = 3; omega), if_neg (by show ¬ kd.toNat = 4; omega)]
        rw [h10]
        omega
      · rintro ⟨⟨h3, h4⟩, h5, h6⟩
        have h10 : wrS ⟨kd.toNat, s, 0⟩ = s := by
          unfold wrS
          rw [if_neg (by show ¬ kd.toNat = 3; omega), if_neg (by show ¬ kd.toNat = 4; omega)]
        have h7 := scan_one h5 h6
        rw [h10] at h7
        rw [h7]
        have h8 : kd = 1 ∨ kd = 2 ∨ kd = 5 := by
          obtain ⟨k, rfl⟩ := Int.eq_ofNat_of_zero_le h4
          have h5 : Tok.Good ⟨k, s, 0⟩ := h5
          cases h5 with
          | name T a' h1 h2 h3 h4 => exact .inl rfl
          | num T a' h1 => exact .inr (.inl rfl)
          | chars T a' h11 h12 => exact (h2 (Or.inl rfl)).elim
          | bits T a' h11 h12 => exact (h2 (Or.inr rfl)).elim
          | oper T a' h1 => exact .inr (.inr rfl)
        rcases h8 with rfl | rfl | rfl <;> simp
/-- Validity on the token's side. -/
def valI (kd : Int) (s : Str) (a : Int) : Bool := if a < 0 ∨ kd < 0 then false else validT ⟨kd.toNat, s, a.toNat⟩
theorem valI_ref (kd : Int) (s : Str) (a : Int) : valI kd s a = refV kd s a := by
  rw [Bool.eq_iff_iff, refV_good]
  unfold valI
  split
  · refine ⟨fun h => (by cases h), fun h => ?_⟩
    omega
  · rw [valid_good]
    exact ⟨fun h => ⟨⟨by omega, by omega⟩, h⟩, fun h => h.2⟩
theorem k_eqI (a : Tk) (kd : Int) (s : Str) (b : Int) (hk : kd < 0) : CallT Tryz.prog 55 [.agg (tkE a), tkI kd s b] [] (fun o A => o = .ret (bv false) ∧ A = []) := by
  refine callS_body (n := 17) rfl rfl fun w ρ X => ?_
  refine runS_x (I := inf) (J := jnf) ⟨false, false, [], 0, 0⟩ 9999 rfl (by repeat (first | exact obs_nil | refine obs_draw (by kernel_rfl) ?_ | refine obs_same ?_ | refine obs_and ?_ | refine obs_by (by (simp [inB] <;> omega)) ?_)) ?_
  refine runS_ret (I := inf) 0 rfl (Nat.le_refl _) rfl .nil rfl ⟨?_, rfl⟩
  refine congrArg (fun x => Out.ret (bv x)) ?_
  show (if (((a.kind : Nat) : Int) == kd) = true then _ else false) = _
  rw [show (((a.kind : Nat) : Int) == kd) = false by simp; omega]
  rfl
theorem k_eqN (n1 n2 : Option Bool) (l : List Tk) (kd : Int) (s : Str) (b : Int) (hk : kd < 0) (hl : l.length ≤ 100000) : CallT Tryz.prog 54 [tkS n1 l, .slc 3 n2 1 (fun _ => [iv kd, sv s, iv b]), .fn (.func 55) []] [] (fun o A => o = .ret (bv false) ∧ A = []) := by
  refine callS_body (n := 32) rfl rfl fun w ρ X => ?_
  refine runS_x (I := inf) (J := jnf) ⟨false, false, [], 0, 0⟩ 9999 rfl (by repeat (first | exact obs_nil | refine obs_draw (by kernel_rfl) ?_ | refine obs_same ?_ | refine obs_and ?_ | refine obs_by (by (simp [inB] <;> omega)) ?_)) ?_
  refine runS_cond rfl (fun h => ?_) (fun h => ?_)
  · refine runS_x (I := inf) (J := jnf) ⟨false, false, [], 0, 0⟩ 9999 rfl (by repeat (first | exact obs_nil | refine obs_draw (by kernel_rfl) ?_ | refine obs_same ?_ | refine obs_and ?_ | refine obs_by (by (simp [inB] <;> omega)) ?_)) ?_
    refine runS_ret (I := inf) 0 rfl (Nat.le_refl _) rfl .nil rfl ⟨?_, rfl⟩
    rfl
  · have hle : l.length = 1 := by simp at h; omega
    refine runS_x (I := inf) (J := jnf) ⟨false, false, [], 0, 0⟩ 9999 rfl (by repeat (first | exact obs_nil | refine obs_draw (by kernel_rfl) ?_ | refine obs_same ?_ | refine obs_and ?_ | refine obs_by (by (simp [inB] <;> omega)) ?_)) ?_
    refine runS_while (fun (i : Nat) τ ar => (τ 1 = .slc 3 n2 1 (fun _ => [iv kd, sv s, iv b]) ∧ τ 2 = .fn (.func 55) [] ∧ τ 15 = tkS n1 l ∧ τ 16 = iv l.length ∧ τ 17 = iv (0 : Nat)) ∧ ar = []) (fun i => 0) 0 ⟨⟨rfl, rfl, rfl, rfl, rfl⟩, rfl⟩ ?_
    rintro i τ' ar' ⟨⟨g1, g2, g15, g16, g17⟩, rfl⟩ ih
    refine runS_says 1 (by exact g1) (Says.refl _) ?_; refine runS_says 2 (by exact g2) (Says.refl _) ?_; refine runS_says 15 (by exact g15) (Says.refl _) ?_; refine runS_says 16 (by exact g16) (Says.refl _) ?_; refine runS_says 17 (by exact g17) (Says.refl _) ?_
    refine runS_x (I := inf) (J := jnf) ⟨false, false, [], 0, 0⟩ 9999 rfl (by repeat (first | exact obs_nil | refine obs_draw (by kernel_rfl) ?_ | refine obs_same ?_ | refine obs_and ?_ | refine obs_by (by (simp [inB] <;> omega)) ?_)) ?_
    refine runS_cond rfl (fun h1 => ?_) (fun h1 => ?_)
    · refine runS_x (I := inf) (J := jnf) ⟨false, false, [], 0, 0⟩ 9999 rfl (by repeat (first | exact obs_nil | refine obs_draw (by kernel_rfl) ?_ | refine obs_same ?_ | refine obs_and ?_ | refine obs_by (by (simp [inB, hle] <;> omega)) ?_)) ?_
      refine runS_call rfl rfl rfl rfl rfl rfl rfl (k_eqI (l.getD 0 tk0) kd s b hk) ?_
      refine runS_x (I := inf) (J := jnf) ⟨false, false, [], 0, 0⟩ 9999 rfl (by repeat (first | exact obs_nil | refine obs_draw (by kernel_rfl) ?_ | refine obs_same ?_ | refine obs_and ?_ | refine obs_by (by (simp [inB] <;> omega)) ?_)) ?_
      refine runS_cond rfl (fun h2 => ?_) (fun h2 => by cases h2)
      refine runS_x (I := inf) (J := jnf) ⟨false, false, [], 0, 0⟩ 9999 rfl (by repeat (first | exact obs_nil | refine obs_draw (by kernel_rfl) ?_ | refine obs_same ?_ | refine obs_and ?_ | refine obs_by (by (simp [inB] <;> omega)) ?_)) ?_
      refine runS_ret (I := inf) 0 rfl (Nat.le_refl _) rfl .nil rfl ⟨?_, rfl⟩
      rfl
    · exfalso
      rw [hle] at h1
      cases h1
theorem k_readN (n2 : Option Bool) (T : Str) (kd : Int) (s : Str) (b : Int) (hk : kd < 0) (hT : T.length ≤ 100000) : CallT Tryz.prog 33 [sv T, .slc 3 n2 1 (fun _ => [iv kd, sv s, iv b])] [] (fun o A => o = .ret (bv false) ∧ A = []) := by
  have hlen := scanF_len T
  refine callS_body (n := 21) rfl rfl fun w ρ X => ?_
  refine runS_x (I := inf) (J := jnf) ⟨false, false, [], 0, 0⟩ 9999 rfl (by repeat (first | exact obs_nil | refine obs_draw (by kernel_rfl) ?_ | refine obs_same ?_ | refine obs_and ?_ | refine obs_by (by (simp [inB] <;> omega)) ?_)) ?_
  refine runS_call rfl rfl rfl rfl rfl rfl rfl (k_scan T hT) ?_
  refine runS_x (I := inf) (J := jnf) ⟨false, false, [], 0, 0⟩ 9999 rfl (by repeat (first | exact obs_nil | refine obs_draw (by kernel_rfl) ?_ | refine obs_same ?_ | refine obs_and ?_ | refine obs_by (by (simp [inB] <;> omega)) ?_)) ?_
  refine runS_callU rfl rfl (by first | exact .v rfl rfl rfl rfl | exact .o rfl rfl rfl rfl) rfl rfl (by repeat (first | exact .nil | refine .cons (.n rfl) ?_ | refine .cons .o ?_ | refine .cons gok_and ?_)) rfl rfl rfl rfl rfl (fun _ => (k_eqN none n2 (scanF T).1 kd s b hk (by omega))) ?_
  refine runS_x (I := inf) (J := jnf) ⟨false, false, [], 0, 0⟩ 9999 rfl (by repeat (first | exact obs_nil | refine obs_draw (by kernel_rfl) ?_ | refine obs_same ?_ | refine obs_and ?_ | refine obs_by (by (simp [inB] <;> omega)) ?_)) ?_
  refine runS_ret (I := inf) 0 rfl (Nat.le_refl _) rfl .nil rfl ⟨?_, rfl⟩
  refine congrArg (fun x => Out.ret (bv x)) ?_
  show (if ((((scanF T).2.2 : Nat) : Int) == 0) = true then false else false) = _
  split <;> rfl
theorem k_writN (kd : Int) (s : Str) (a : Int) (h3 : kd ≠ 3) (h4 : kd ≠ 4) : CallT Tryz.prog 34 [tkI kd s a] [] (fun o A => o = .ret (sv s) ∧ A = []) := by
  refine callS_body (n := 20) rfl rfl fun w ρ X => ?_
  refine runS_x (I := inf) (J := jnf) ⟨false, false, [], 0, 0⟩ 9999 rfl (by repeat (first | exact obs_nil | refine obs_draw (by kernel_rfl) ?_ | refine obs_same ?_ | refine obs_and ?_ | refine obs_by (by (simp [inB] <;> omega)) ?_)) ?_
  refine runS_cond rfl (fun h => ?_) (fun h => ?_)
  · exfalso
    have : (kd == 3) = true := h
    simp at this
    omega
  · refine runS_x (I := inf) (J := jnf) ⟨false, false, [], 0, 0⟩ 9999 rfl (by repeat (first | exact obs_nil | refine obs_draw (by kernel_rfl) ?_ | refine obs_same ?_ | refine obs_and ?_ | refine obs_by (by (simp [inB] <;> omega)) ?_)) ?_
    refine runS_cond rfl (fun h1 => ?_) (fun h1 => ?_)
    · exfalso
      have : (kd == 4) = true := h1
      simp at this
      omega
    · refine runS_x (I := inf) (J := jnf) ⟨false, false, [], 0, 0⟩ 9999 rfl (by repeat (first | exact obs_nil | refine obs_draw (by kernel_rfl) ?_ | refine obs_same ?_ | refine obs_and ?_ | refine obs_by (by (simp [inB] <;> omega)) ?_)) ?_
      refine runS_ret (I := inf) 0 rfl (Nat.le_refl _) rfl .nil rfl ⟨?_, rfl⟩
      rfl
theorem k_writ3 (s : Str) (a : Int) (hs : s.length ≤ 30000) : CallT Tryz.prog 34 [tkI 3 s a] [] (fun o A => o = .ret (sv ([39] ++ dbl s ++ [39])) ∧ A = []) := by
  have hd := dbl_le s
  have hp1 : (bl (ByteArray.mk #[39])).length = 1 := rfl
  refine callS_body (n := 20) rfl rfl fun w ρ X => ?_
  refine runS_x (I := inf) (J := jnf) ⟨false, false, [], 0, 0⟩ 9999 rfl (by repeat (first | exact obs_nil | refine obs_draw (by kernel_rfl) ?_ | refine obs_same ?_ | refine obs_and ?_ | refine obs_by (by (simp [inB] <;> omega)) ?_)) ?_
  refine runS_cond rfl (fun h => ?_) (fun h => by cases h)
  refine runS_x (I := inf) (J := jnf) ⟨false, false, [], 0, 0⟩ 9999 rfl (by repeat (first | exact obs_nil | refine obs_draw (by kernel_rfl) ?_ | refine obs_same ?_ | refine obs_and ?_ | refine obs_by (by (simp [inB] <;> omega)) ?_)) ?_
  refine runS_call rfl rfl rfl rfl rfl rfl rfl (lib_replace s (by omega)) ?_
  refine runS_x (I := inf) (J := jnf) ⟨false, false, [], 0, 0⟩ 9999 rfl (by repeat (first | exact obs_nil | refine obs_draw (by kernel_rfl) ?_ | refine obs_same ?_ | refine obs_and ?_ | refine obs_by (by (simp [inB, blS, hp1] <;> omega)) ?_)) ?_
  refine runS_ret (I := inf) 0 rfl (Nat.le_refl _) rfl .nil rfl ⟨?_, rfl⟩
  rfl
theorem k_valid0 (kd : Int) (s : Str) (a : Int) (ha : a < 0) : CallT Tryz.prog 17 [tkI kd s a] [] (fun o A => o = .ret (bv false) ∧ A = []) := by
  have hge : (decide (a ≥ 0) == true) = false := by simp; omega
  have hob : (decide (a ≥ 0) == true) = true → (false : Bool) = true := fun h => absurd h (by rw [hge]; decide)
  refine callS_body (n := 13) rfl rfl fun w ρ X => ?_
  refine runS_x (I := inf) (J := jnf) ⟨false, false, [], 0, 0⟩ 9999 rfl (by repeat (first | exact obs_nil | refine obs_draw (by kernel_rfl) ?_ | refine obs_same ?_ | refine obs_and ?_ | refine obs_by (by (simp [inB] <;> omega)) ?_)) ?_
  refine runS_drawG (ch := []) (A2 := fun _ => []) 11 [] (fun b => [.box 29 [iv kd, sv s, iv a]]) none (c := 9) jnfI.draw (by kernel_rfl) rfl (lexg_g (I := inf) (J := jnf) none ⟨_, rfl, (by repeat (first | exact obs_nil | refine obs_same ?_ | refine obs_and ?_ | refine obs_by (by first | exact hob | (simp [inB] <;> omega)) ?_))⟩ rfl rfl rfl rfl (lexg_g (I := inf) (J := jnf) none ⟨_, rfl, (by repeat (first | exact obs_nil | refine obs_same ?_ | refine obs_and ?_ | refine obs_by (by first | exact hob | (simp [inB] <;> omega)) ?_))⟩ rfl rfl rfl rfl (lexg_g (I := inf) (J := jnf) none ⟨_, rfl, (by repeat (first | exact obs_nil | refine obs_same ?_ | refine obs_and ?_ | refine obs_by (by first | exact hob | (simp [inB] <;> omega)) ?_))⟩ rfl rfl rfl rfl (lexg_g (I := inf) (J := jnf) none ⟨_, rfl, (by repeat (first | exact obs_nil | refine obs_same ?_ | refine obs_and ?_ | refine obs_by (by first | exact hob | (simp [inB] <;> omega)) ?_))⟩ rfl rfl rfl rfl (lexg_skipV .bad hge rfl rfl rfl rfl rfl rfl rfl rfl rfl (fun _ _ => rfl) (lexg_skipV .bad hge rfl rfl rfl rfl rfl rfl rfl rfl rfl (fun _ _ => rfl) (lexg_skipV .bad hge rfl rfl rfl rfl rfl rfl rfl rfl rfl (fun _ _ => rfl) (lexg_skipV .bad hge rfl rfl rfl rfl rfl rfl rfl rfl rfl (fun _ _ => rfl) (lexg_skipV (bv false) hge rfl rfl rfl rfl rfl rfl rfl rfl rfl (fun _ _ => rfl) (lexg_g (I := inf) (J := jnf) none ⟨_, rfl, (by repeat (first | exact obs_nil | refine obs_same ?_ | refine obs_and ?_ | refine obs_by (by first | exact hob | (simp [inB] <;> omega)) ?_))⟩ rfl rfl rfl rfl (lexg_g (I := inf) (J := jnf) none ⟨_, rfl, (by repeat (first | exact obs_nil | refine obs_same ?_ | refine obs_and ?_ | refine obs_by (by first | exact hob | (simp [inB] <;> omega)) ?_))⟩ rfl rfl rfl rfl lexg_nil))))))))))) rfl (fun _ => ?_) (fun h => by cases h)
  refine runS_x (I := inf) (J := jnf) ⟨false, false, [], 0, 0⟩ 9999 rfl (by repeat (first | exact obs_nil | refine obs_draw (by kernel_rfl) ?_ | refine obs_same ?_ | refine obs_and ?_ | refine obs_by (by (simp [inB] <;> omega)) ?_)) ?_
  refine runS_ret (I := inf) 0 rfl (Nat.le_refl _) rfl .nil rfl ⟨?_, rfl⟩
  show Out.ret (bv (if decide (a ≥ 0) = true then false else false)) = _
  split <;> rfl
theorem k_validN (kd : Int) (s : Str) (a : Int) (ha : 0 ≤ a) (hk : kd < 0) (hs : s.length ≤ 30000) : CallT Tryz.prog 17 [tkI kd s a] [] (fun o A => o = .ret (bv false) ∧ A = []) := by
  have hge : (decide (a ≥ 0) == true) = true := by simp; omega
  have hge2 : decide (a ≥ 0) = true := by simp; omega
  have hw := k_writN kd s a (by omega) (by omega)
  refine callS_body (n := 13) rfl rfl fun w ρ X => ?_
  refine runS_x (I := inf) (J := jnf) ⟨false, false, [], 0, 0⟩ 9999 rfl (by repeat (first | exact obs_nil | refine obs_draw (by kernel_rfl) ?_ | refine obs_same ?_ | refine obs_and ?_ | refine obs_by (by (simp [inB] <;> omega)) ?_)) ?_
  refine runS_hole ?_
  refine runS_drawG (ch := []) (A2 := fun _ => []) 8 [7] (fun b => [.box 29 [iv kd, sv s, iv a], cond (b.getD 0 false) (.row 29 3 1 1 (chunk 3 [iv kd, sv s, iv a])) .hole]) none (c := 9) jnfI.draw (by kernel_rfl) rfl (lexg_g (I := inf) (J := jnf) none ⟨⟨_, rfl, (by repeat (first | exact obs_nil | refine obs_same ?_ | refine obs_and ?_ | refine obs_by (by (simp [inB] <;> omega)) ?_))⟩, (by first | exact .inl (by decide +kernel) | exact .inr ⟨_, rfl, (by repeat (first | exact obs_nil | refine obs_same ?_ | refine obs_and ?_ | refine obs_by (by (simp [inB] <;> omega)) ?_))⟩)⟩ rfl rfl rfl rfl (lexg_g (I := inf) (J := jnf) none ⟨⟨_, rfl, (by repeat (first | exact obs_nil | refine obs_same ?_ | refine obs_and ?_ | refine obs_by (by (simp [inB] <;> omega)) ?_))⟩, (by first | exact .inl (by decide +kernel) | exact .inr ⟨_, rfl, (by repeat (first | exact obs_nil | refine obs_same ?_ | refine obs_and ?_ | refine obs_by (by (simp [inB] <;> omega)) ?_))⟩)⟩ rfl rfl rfl rfl (lexg_g (I := inf) (J := jnf) none ⟨⟨_, rfl, (by repeat (first | exact obs_nil | refine obs_same ?_ | refine obs_and ?_ | refine obs_by (by (simp [inB] <;> omega)) ?_))⟩, (by first | exact .inl (by decide +kernel) | exact .inr ⟨_, rfl, (by repeat (first | exact obs_nil | refine obs_same ?_ | refine obs_and ?_ | refine obs_by (by (simp [inB] <;> omega)) ?_))⟩)⟩ rfl rfl rfl rfl (lexg_g (I := inf) (J := jnf) none ⟨⟨_, rfl, (by repeat (first | exact obs_nil | refine obs_same ?_ | refine obs_and ?_ | refine obs_by (by (simp [inB] <;> omega)) ?_))⟩, (by first | exact .inl (by decide +kernel) | exact .inr ⟨_, rfl, (by repeat (first | exact obs_nil | refine obs_same ?_ | refine obs_and ?_ | refine obs_by (by (simp [inB] <;> omega)) ?_))⟩)⟩ rfl rfl rfl rfl (lexg_gT (I := inf) (J := jnf) none hge ⟨⟨_, rfl, (by repeat (first | exact obs_nil | refine obs_same ?_ | refine obs_and ?_ | refine obs_by (by (simp [inB] <;> omega)) ?_))⟩, (by first | exact .inl (by decide +kernel) | exact .inr ⟨_, rfl, (by repeat (first | exact obs_nil | refine obs_same ?_ | refine obs_and ?_ | refine obs_by (by (simp [inB] <;> omega)) ?_))⟩)⟩ rfl rfl rfl rfl rfl rfl rfl rfl (lexg_callT hge rfl rfl rfl rfl rfl rfl rfl rfl (by repeat (first | exact .nil | refine .cons (.n rfl) ?_ | refine .cons .o ?_ | refine .cons gok_and ?_)) rfl rfl rfl rfl rfl rfl rfl hw (lexg_gT (I := inf) (J := jnf) none hge ⟨⟨_, rfl, (by repeat (first | exact obs_nil | refine obs_same ?_ | refine obs_and ?_ | refine obs_by (by (simp [inB] <;> omega)) ?_))⟩, (by first | exact .inl (by decide +kernel) | exact .inr ⟨_, rfl, (by repeat (first | exact obs_nil | refine obs_same ?_ | refine obs_and ?_ | refine obs_by (by (simp [inB] <;> omega)) ?_))⟩)⟩ rfl rfl rfl rfl rfl rfl rfl rfl (lexg_gT (I := inf) (J := jnf) (some (.hole 1)) hge ⟨⟨_, rfl, (by repeat (first | exact obs_nil | refine obs_same ?_ | refine obs_and ?_ | refine obs_by (by (simp [inB] <;> omega)) ?_))⟩, .inl rfl⟩ rfl rfl rfl rfl rfl rfl rfl rfl lexg_nil)))))))) rfl (fun _ => ?_) (fun h => by cases h)
  refine runS_x (I := inf) (J := jnf) ⟨false, false, [], 0, 0⟩ 9999 rfl (by repeat (first | exact obs_nil | refine obs_draw (by kernel_rfl) ?_ | refine obs_same ?_ | refine obs_and ?_ | refine obs_by (by (simp [inB] <;> omega)) ?_)) ?_
  refine runS_tell 1 (fun _ => [iv kd, sv s, iv a]) rfl (m' := 1) rfl (fun i hi => by have : i = 0 := by omega
                                                                                      subst this; rfl) rfl ?_
  refine runS_freeze 10 rfl rfl rfl (fun j hj => rfl) ?_
  refine runS_callU rfl rfl (by first | exact .v rfl rfl rfl rfl | exact .o rfl rfl rfl rfl) rfl rfl (by repeat (first | exact .nil | refine .cons (.n rfl) ?_ | refine .cons .o ?_ | refine .cons gok_and ?_)) rfl rfl rfl rfl rfl (fun _ => (k_readN none s kd s a hk (by omega))) ?_
  refine runS_x (I := inf) (J := jnf) ⟨false, false, [], 0, 0⟩ 9999 rfl (by repeat (first | exact obs_nil | refine obs_draw (by kernel_rfl) ?_ | refine obs_same ?_ | refine obs_and ?_ | refine obs_by (by (simp [inB] <;> omega)) ?_)) ?_
  refine runS_ret (I := inf) 0 rfl (Nat.le_refl _) rfl .nil rfl ⟨?_, rfl⟩
  show Out.ret (bv (if decide (a ≥ 0) = true then false else false)) = _
  split <;> rfl
theorem wr_len (t : Tk) (h : t.text.length ≤ 30000) : (wrS t).length ≤ 100000 := by
  have hd := dbl_le t.text
  unfold wrS
  split
  · rw [List.length_append, List.length_append, List.length_singleton]
    omega
  · split
    · rw [List.length_append, List.length_append]
      show 1 + t.text.length + 2 ≤ _
      omega
    · omega
theorem k_validI (kd : Int) (s : Str) (a : Int) (hs : s.length ≤ 30000) : CallT Tryz.prog 17 [tkI kd s a] [] (fun o A => o = .ret (bv (refV kd s a)) ∧ A = []) := by
  rw [← valI_ref]
  by_cases ha : a < 0
  · rw [valI, if_pos (.inl ha)]
    exact k_valid0 kd s a ha
  · by_cases hk : kd < 0
    · rw [valI, if_pos (.inr hk)]
      exact k_validN kd s a (by omega) hk hs
    · rw [valI, if_neg (by omega)]
      obtain ⟨k, rfl⟩ := Int.eq_ofNat_of_zero_le (show 0 ≤ kd by omega)
      obtain ⟨p, rfl⟩ := Int.eq_ofNat_of_zero_le (show 0 ≤ a by omega)
      have h := k_valid ⟨k, s, p⟩ (by
        by_cases h3 : k = 3
        · subst h3
          exact k_writ3 s p hs
        · exact k_written ⟨k, s, p⟩ (show s.length ≤ 100000 by omega) h3) (wr_len ⟨k, s, p⟩ hs)
      exact h
end Go.Iron.Tryz
