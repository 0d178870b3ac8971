/- The digits' seat: what is asked of values; fitted numbers. -/
import Derived.Test.YtcgepjbalmppjaaGreatDoorTC
import Derived.Test.YtcgepjbalmppjaaGreatDoorTE
import Derived.Test.YtcgepjbalmppjaaGreatDoorTF
namespace Go.Iron.Tryz
open Go.Proofs Go.RowKit Go.Iron.Tok Go.Iron.Dg

@[reducible] def vlE (v : Vl) : List AV := vaE v.kind v.n v.q v.s
def vlR (l : List Vl) : Nat → List AV := encR vlE ⟨0, 0, 0, []⟩ l
def vlS (nl : Option Bool) (l : List Vl) : AV := .slc 4 nl l.length (vlR l)
theorem valid_num {t : Typ} (h : validT t = true) (hk : numK t.kind = true) : ∃ P Q : Nat, t.p = P ∧ t.q = Q ∧ 1 ≤ P ∧ P ≤ 31 ∧ Q ≤ 31 ∧ (t.kind = 1 ∨ t.kind = 2 ∧ P ≤ 15 ∨ t.kind = 3 ∧ P ≤ 15 ∧ Q = 0) := by
  have hk3 : t.kind = 1 ∨ t.kind = 2 ∨ t.kind = 3 := by
    unfold numK at hk
    simp at hk
    omega
  unfold validT inR at h
  rcases hk3 with hk | hk | hk
  · rw [if_pos hk] at h
    simp at h
    exact ⟨t.p.toNat, t.q.toNat, by omega, by omega, by omega, by omega, by omega, .inl hk⟩
  · rw [if_neg (by omega), if_pos hk] at h
    simp at h
    exact ⟨t.p.toNat, t.q.toNat, by omega, by omega, by omega, by omega, by omega, .inr (.inl ⟨hk, by omega⟩)⟩
  · rw [if_neg (by omega), if_neg (by omega), if_pos hk] at h
    simp at h
    exact ⟨t.p.toNat, t.q.toNat, by omega, by omega, by omega, by omega, by omega, .inr (.inr ⟨hk, by omega, by omega⟩)⟩
theorem d_fitted (L : Lg) (t : Typ) (big : Int) (hv : validT t = true) (hk : numK t.kind = true) (hL : Fits L 1500 1000) : CallT Tryz.prog 108 [lgA L, .agg (typE t), iv big] [] (fun o A => o = .ret (numA t.kind (fitL t.kind t.p.toNat t.q.toNat L big)) ∧ A = []) := by
  obtain ⟨P, Q, hP, hQ, hP1, hP2, hQ2, hkd⟩ := valid_num hv hk
  have hfx : t.kind ≠ 3 → CallT Tryz.prog 176 [lgA L, .agg (typE t)] [] (fun o A => o = .ret (.tup [iv (sgn L.neg (mFix t.kind L.m Q L.exp % bsN t.kind ^ P)), bv (decide (mFix t.kind L.m Q L.exp ≥ bsN t.kind ^ P))]) ∧ A = []) := fun h3 => d_fixed L t P Q (by omega) hP hQ hQ2 hL
  obtain ⟨kd, p, q, n, vy, pc⟩ := t
  dsimp only at hP hQ hkd hfx ⊢
  subst hP; subst hQ
  rw [Int.toNat_natCast, Int.toNat_natCast]
  by_cases h3 : kd = 3
  · subst h3
    have hF : fitL 3 P Q L big = fltO L.neg (fltL L.m L.exp P) := by
      unfold fitL
      rw [if_pos rfl]
      by_cases h0 : L.m = 0
      · rw [if_pos h0]
        unfold fltL
        rw [h0, frm_zero, if_neg (by simp), normD_zero]
        rfl
      · rw [if_neg h0]
    rw [hF]
    refine callS_body (n := 34) rfl rfl fun w ρ X => ?_
    refine runS_x (I := inf) (J := jnf) ⟨false, false, [], 0, 0⟩ 9999 rfl (by repeat (first | exact obs_nil | refine obs_draw (by kernel_rfl) ?_ | refine obs_same ?_ | refine obs_and ?_ | refine obs_by (by (simp [inB] <;> omega)) ?_)) ?_
    refine runS_cond rfl (fun h => ?_) (fun h => by cases h)
    refine runS_x (I := inf) (J := jnf) ⟨false, false, [], 0, 0⟩ 9999 rfl (by repeat (first | exact obs_nil | refine obs_draw (by kernel_rfl) ?_ | refine obs_same ?_ | refine obs_and ?_ | refine obs_by (by (simp [inB] <;> omega)) ?_)) ?_
    refine runS_call rfl rfl rfl rfl rfl rfl rfl (d_float L P (by omega) hP1 hL) ?_
    refine runS_x (I := inf) (J := jnf) ⟨false, false, [], 0, 0⟩ 9999 rfl (by repeat (first | exact obs_nil | refine obs_draw (by kernel_rfl) ?_ | refine obs_same ?_ | refine obs_and ?_ | refine obs_by (by (simp [inB] <;> omega)) ?_)) ?_
    refine runS_ret (I := inf) 0 rfl (Nat.le_refl _) rfl .nil rfl ⟨?_, rfl⟩
    rfl
  · have hF : fitL kd P Q L big = (sgn L.neg (mFix kd L.m Q L.exp % bsN kd ^ P), (Q : Int), if mFix kd L.m Q L.exp ≥ bsN kd ^ P then big else 0) := by
      unfold fitL
      rw [if_neg h3]
    rw [hF]
    refine callS_body (n := 34) rfl rfl fun w ρ X => ?_
    refine runS_x (I := inf) (J := jnf) ⟨false, false, [], 0, 0⟩ 9999 rfl (by repeat (first | exact obs_nil | refine obs_draw (by kernel_rfl) ?_ | refine obs_same ?_ | refine obs_and ?_ | refine obs_by (by (simp [inB] <;> omega)) ?_)) ?_
    refine runS_cond rfl (fun h => absurd (show kd = 3 by simpa using (show (kd == 3) = true from h)) h3) (fun h => ?_)
    refine runS_x (I := inf) (J := jnf) ⟨false, false, [], 0, 0⟩ 9999 rfl (by repeat (first | exact obs_nil | refine obs_draw (by kernel_rfl) ?_ | refine obs_same ?_ | refine obs_and ?_ | refine obs_by (by (simp [inB] <;> omega)) ?_)) ?_
    refine runS_call rfl rfl rfl rfl rfl rfl rfl (hfx h3) ?_
    refine runS_x (I := inf) (J := jnf) ⟨false, false, [], 0, 0⟩ 9999 rfl (by repeat (first | exact obs_nil | refine obs_draw (by kernel_rfl) ?_ | refine obs_same ?_ | refine obs_and ?_ | refine obs_by (by (simp [inB] <;> omega)) ?_)) ?_
    refine runS_cond rfl (fun h => ?_) (fun h => ?_)
    · have hl : ¬ mFix kd L.m Q L.exp ≥ bsN kd ^ P := by simpa using h
      rw [if_neg hl]
      refine runS_x (I := inf) (J := jnf) ⟨false, false, [], 0, 0⟩ 9999 rfl (by repeat (first | exact obs_nil | refine obs_draw (by kernel_rfl) ?_ | refine obs_same ?_ | refine obs_and ?_ | refine obs_by (by (simp [inB] <;> omega)) ?_)) ?_
      refine runS_ret (I := inf) 0 rfl (Nat.le_refl _) rfl .nil rfl ⟨?_, rfl⟩
      rfl
    · have hl : mFix kd L.m Q L.exp ≥ bsN kd ^ P := by simpa using h
      rw [if_pos hl]
      refine runS_x (I := inf) (J := jnf) ⟨false, false, [], 0, 0⟩ 9999 rfl (by repeat (first | exact obs_nil | refine obs_draw (by kernel_rfl) ?_ | refine obs_same ?_ | refine obs_and ?_ | refine obs_by (by (simp [inB] <;> omega)) ?_)) ?_
      refine runS_ret (I := inf) 0 rfl (Nat.le_refl _) rfl .nil rfl ⟨?_, rfl⟩
      rfl
theorem all_take {α : Type} {p : α → Bool} {l : List α} {i : Nat} (h : (l.take i).all p = true) (hi : i < l.length) (hp : p (l[i]) = true) : (l.take (i + 1)).all p = true := by
  rw [List.take_succ_eq_append_getElem hi, List.all_append, h]
  simp [hp]
theorem vl_get {l : List Vl} {i : Nat} (hi : i < l.length) : l.getD i ⟨0, 0, 0, []⟩ = l[i] := by
  rw [List.getD_eq_getElem?_getD, List.getElem?_eq_getElem hi]; rfl
theorem d_askedN (n1 : Option Bool) (l : List Vl) (hl : l.length ≤ 100000) : CallT Tryz.prog 101 [.val (.pointer none), vlS n1 l] [] (fun o A => o = .ret (iv (askL none l)) ∧ A = []) := by
  refine callS_body (n := 49) rfl rfl fun w ρ X => ?_
  refine runS_x (I := inf) (J := jnf) ⟨false, false, [], 0, 0⟩ 9999 rfl (by repeat (first | exact obs_nil | refine obs_draw (by kernel_rfl) ?_ | refine obs_same ?_ | refine obs_and ?_ | refine obs_by (by (simp [inB] <;> omega)) ?_)) ?_
  refine runS_while (fun (i : Nat) τ ar => (τ 0 = .val (.pointer none) ∧ τ 1 = vlS n1 l ∧ τ 9 = vlS n1 l ∧ τ 10 = iv l.length ∧ τ 11 = iv i) ∧ ar = [] ∧ i ≤ l.length ∧ (l.take i).all Vl.right = true) (fun i => l.length - i) 0 ⟨⟨rfl, rfl, rfl, rfl, rfl⟩, rfl, Nat.zero_le _, rfl⟩ ?_
  rintro i τ' ar' ⟨⟨g0, g1, g9, g10, g11⟩, rfl, hi, ha⟩ ih
  refine runS_says 0 (by exact g0) (Says.refl _) ?_; refine runS_says 1 (by exact g1) (Says.refl _) ?_; refine runS_says 9 (by exact g9) (Says.refl _) ?_; refine runS_says 10 (by exact g10) (Says.refl _) ?_; refine runS_says 11 (by exact g11) (Says.refl _) ?_
  refine runS_x (I := inf) (J := jnf) ⟨false, false, [], 0, 0⟩ 9999 rfl (by repeat (first | exact obs_nil | refine obs_draw (by kernel_rfl) ?_ | refine obs_same ?_ | refine obs_and ?_ | refine obs_by (by (simp [inB] <;> omega)) ?_)) ?_
  refine runS_cond rfl (fun h => ?_) (fun h => ?_)
  · have hlt : i < l.length := by simp at h; omega
    have hw1 : IntKind.wrap .i64 ((i : Int) + 1) = ((i + 1 : Nat) : Int) := by rw [w64 (by omega) (by omega)]; rfl
    have hv := vl_get hlt
    refine runS_x (I := inf) (J := jnf) ⟨false, false, [], 0, 0⟩ 9999 rfl (by repeat (first | exact obs_nil | refine obs_draw (by kernel_rfl) ?_ | refine obs_same ?_ | refine obs_and ?_ | refine obs_by (by (simp [inB, hlt] <;> omega)) ?_)) ?_
    refine runS_call rfl rfl rfl rfl rfl rfl rfl (d_right (l.getD i ⟨0, 0, 0, []⟩).kind (l.getD i ⟨0, 0, 0, []⟩).n (l.getD i ⟨0, 0, 0, []⟩).q (l.getD i ⟨0, 0, 0, []⟩).s) ?_
    refine runS_x (I := inf) (J := jnf) ⟨false, false, [], 0, 0⟩ 9999 rfl (by repeat (first | exact obs_nil | refine obs_draw (by kernel_rfl) ?_ | refine obs_same ?_ | refine obs_and ?_ | refine obs_by (by (simp [inB] <;> omega)) ?_)) ?_
    refine runS_cond rfl (fun h2 => ?_) (fun h2 => ?_)
    · have hr : (l[i]).right = false := by
        rw [← hv]
        have h3 : (!(l.getD i ⟨0, 0, 0, []⟩).right) = true := h2
        rw [Bool.not_eq_true'] at h3
        exact h3
      have hE : askL none l = 1 := by
        unfold askL
        rw [if_pos]
        rw [List.all_eq_false]
        exact ⟨_, List.getElem_mem hlt, by rw [hr]; decide⟩
      rw [hE]
      refine runS_x (I := inf) (J := jnf) ⟨false, false, [], 0, 0⟩ 9999 rfl (by repeat (first | exact obs_nil | refine obs_draw (by kernel_rfl) ?_ | refine obs_same ?_ | refine obs_and ?_ | refine obs_by (by (simp [inB] <;> omega)) ?_)) ?_
      refine runS_ret (I := inf) 0 rfl (Nat.le_refl _) rfl .nil rfl ⟨?_, rfl⟩
      rfl
    · have hr : (l[i]).right = true := by
        rw [← hv]
        have h3 : (!(l.getD i ⟨0, 0, 0, []⟩).right) = false := h2
        rw [Bool.not_eq_false'] at h3
        exact h3
      refine runS_x (I := inf) (J := jnf) ⟨false, false, [], 0, 0⟩ 9999 rfl (by repeat (first | exact obs_nil | refine obs_draw (by kernel_rfl) ?_ | refine obs_same ?_ | refine obs_and ?_ | refine obs_by (by (simp [inB] <;> omega)) ?_)) ?_
      refine runS_drop 0 (Nat.zero_le _) rfl (by repeat (first | exact .nil | refine .row (fun j hj => rfl) ?_ | refine .box rfl ?_ | refine .fam (fun k j hk hj => rfl) ?_ | refine .loop (scrub_under _ _) ?_ | refine .dfr ?_ | refine .gone ?_ | refine .map (fun p hp => by (obtain ⟨k, _, rfl⟩ := List.mem_map.1 hp; rfl)) ?_)) rfl rfl rfl (by repeat (first | exact .nil | refine .cons rfl rfl rfl (scrub_under _ _) ?_)) ?_
      exact ih (i + 1) _ _ (by omega) ⟨⟨rfl, rfl, rfl, rfl, congrArg iv hw1⟩, rfl, by omega, all_take ha hlt hr⟩
  · have hie : i = l.length := by simp at h; omega
    subst hie
    rw [List.take_length] at ha
    refine runS_x (I := inf) (J := jnf) ⟨false, false, [], 0, 0⟩ 9999 rfl (by repeat (first | exact obs_nil | refine obs_draw (by kernel_rfl) ?_ | refine obs_same ?_ | refine obs_and ?_ | refine obs_by (by (simp [inB] <;> omega)) ?_)) ?_
    refine runS_op (.val (.bool false)) rfl rfl rfl (op_pnilNe Tryz.underlying130 rfl rfl rfl) ?_
    refine runS_x (I := inf) (J := jnf) ⟨false, false, [], 0, 0⟩ 9999 rfl (by repeat (first | exact obs_nil | refine obs_draw (by kernel_rfl) ?_ | refine obs_same ?_ | refine obs_and ?_ | refine obs_by (by (simp [inB] <;> omega)) ?_)) ?_
    refine runS_opV (.val (.pointer none)) rfl rfl (.v rfl rfl rfl rfl) rfl rfl [] (l := [22]) (.cons .o .nil) (fun hc => by cases hc) ?_
    refine runS_opV (.agg (typE ⟨0, 0, 0, 0, false, []⟩)) rfl rfl (.v rfl rfl rfl rfl) rfl rfl [] (l := [23]) (.cons .o .nil) (fun hc => by cases hc) ?_
    refine runS_callU rfl rfl (by first | exact .v rfl rfl rfl rfl | exact .o rfl rfl rfl rfl) rfl rfl (by repeat (first | exact .nil | refine .cons (.n rfl) ?_ | refine .cons .o ?_ | refine .cons gok_and ?_)) rfl rfl rfl rfl rfl (fun _ => (d_valid ⟨0, 0, 0, 0, false, []⟩)) ?_
    refine runS_x (I := inf) (J := jnf) ⟨false, false, [], 0, 0⟩ 9999 rfl (by repeat (first | exact obs_nil | refine obs_draw (by kernel_rfl) ?_ | refine obs_same ?_ | refine obs_and ?_ | refine obs_by (by (simp [inB] <;> omega)) ?_)) ?_
    refine runS_cond rfl (fun h => by cases h) (fun h => ?_)
    refine runS_x (I := inf) (J := jnf) ⟨false, false, [], 0, 0⟩ 9999 rfl (by repeat (first | exact obs_nil | refine obs_draw (by kernel_rfl) ?_ | refine obs_same ?_ | refine obs_and ?_ | refine obs_by (by (simp [inB] <;> omega)) ?_)) ?_
    clear ih hi g0 g1 g9 g10 g11
    refine runS_while (fun (i : Nat) τ ar => (τ 0 = .val (.pointer none) ∧ τ 28 = vlS n1 l ∧ τ 29 = iv l.length ∧ τ 30 = iv i) ∧ ar = [] ∧ i ≤ l.length ∧ (l.take i).all (fun v => numK v.kind) = true) (fun i => l.length - i) 0 ⟨⟨rfl, rfl, rfl, rfl⟩, rfl, Nat.zero_le _, rfl⟩ ?_
    rintro i τ2 ar2 ⟨⟨g0, g28, g29, g30⟩, rfl, hi, hb⟩ ih
    refine runS_says 0 (by exact g0) (Says.refl _) ?_; refine runS_says 28 (by exact g28) (Says.refl _) ?_; refine runS_says 29 (by exact g29) (Says.refl _) ?_; refine runS_says 30 (by exact g30) (Says.refl _) ?_
    refine runS_x (I := inf) (J := jnf) ⟨false, false, [], 0, 0⟩ 9999 rfl (by repeat (first | exact obs_nil | refine obs_draw (by kernel_rfl) ?_ | refine obs_same ?_ | refine obs_and ?_ | refine obs_by (by (simp [inB] <;> omega)) ?_)) ?_
    refine runS_cond rfl (fun h => ?_) (fun h => ?_)
    · have hlt : i < l.length := by simp at h; omega
      have hw1 : IntKind.wrap .i64 ((i : Int) + 1) = ((i + 1 : Nat) : Int) := by rw [w64 (by omega) (by omega)]; rfl
      have hv := vl_get hlt
      refine runS_x (I := inf) (J := jnf) ⟨false, false, [], 0, 0⟩ 9999 rfl (by repeat (first | exact obs_nil | refine obs_draw (by kernel_rfl) ?_ | refine obs_same ?_ | refine obs_and ?_ | refine obs_by (by (simp [inB, hlt] <;> omega)) ?_)) ?_
      refine runS_call rfl rfl rfl rfl rfl rfl rfl (d_isNumber (l.getD i ⟨0, 0, 0, []⟩).kind) ?_
      refine runS_x (I := inf) (J := jnf) ⟨false, false, [], 0, 0⟩ 9999 rfl (by repeat (first | exact obs_nil | refine obs_draw (by kernel_rfl) ?_ | refine obs_same ?_ | refine obs_and ?_ | refine obs_by (by (simp [inB] <;> omega)) ?_)) ?_
      refine runS_cond rfl (fun h2 => ?_) (fun h2 => ?_)
      · have hr : numK (l[i]).kind = false := by
          rw [← hv]
          have h3 : (!numK (l.getD i ⟨0, 0, 0, []⟩).kind) = true := h2
          rw [Bool.not_eq_true'] at h3
          exact h3
        have hE : askL none l = 10 := by
          unfold askL
          rw [if_neg (by rw [ha]; decide), if_neg (by simp), if_pos]
          rw [List.all_eq_false]
          exact ⟨_, List.getElem_mem hlt, by rw [hr]; decide⟩
        rw [hE]
        refine runS_x (I := inf) (J := jnf) ⟨false, false, [], 0, 0⟩ 9999 rfl (by repeat (first | exact obs_nil | refine obs_draw (by kernel_rfl) ?_ | refine obs_same ?_ | refine obs_and ?_ | refine obs_by (by (simp [inB] <;> omega)) ?_)) ?_
        refine runS_ret (I := inf) 0 rfl (Nat.le_refl _) rfl .nil rfl ⟨?_, rfl⟩
        rfl
      · have hr : numK (l[i]).kind = true := by
          rw [← hv]
          have h3 : (!numK (l.getD i ⟨0, 0, 0, []⟩).kind) = false := h2
          rw [Bool.not_eq_false'] at h3
          exact h3
        refine runS_x (I := inf) (J := jnf) ⟨false, false, [], 0, 0⟩ 9999 rfl (by repeat (first | exact obs_nil | refine obs_draw (by kernel_rfl) ?_ | refine obs_same ?_ | refine obs_and ?_ | refine obs_by (by (simp [inB] <;> omega)) ?_)) ?_
        refine runS_drop 0 (Nat.zero_le _) rfl (by repeat (first | exact .nil | refine .row (fun j hj => rfl) ?_ | refine .box rfl ?_ | refine .fam (fun k j hk hj => rfl) ?_ | refine .loop (scrub_under _ _) ?_ | refine .dfr ?_ | refine .gone ?_ | refine .map (fun p hp => by (obtain ⟨k, _, rfl⟩ := List.mem_map.1 hp; rfl)) ?_)) rfl rfl rfl (by repeat (first | exact .nil | refine .cons rfl rfl rfl (scrub_under _ _) ?_)) ?_
        exact ih (i + 1) _ _ (by omega) ⟨⟨rfl, rfl, rfl, congrArg iv hw1⟩, rfl, by omega, all_take hb hlt hr⟩
    · have hie : i = l.length := by simp at h; omega
      subst hie
      rw [List.take_length] at hb
      have hE : askL none l = 0 := by
        unfold askL
        rw [if_neg (by rw [ha]; decide), if_neg (by simp), if_neg (by rw [hb]; decide), if_neg (by simp)]
      rw [hE]
      refine runS_x (I := inf) (J := jnf) ⟨false, false, [], 0, 0⟩ 9999 rfl (by repeat (first | exact obs_nil | refine obs_draw (by kernel_rfl) ?_ | refine obs_same ?_ | refine obs_and ?_ | refine obs_by (by (simp [inB] <;> omega)) ?_)) ?_
      refine runS_op (.val (.bool false)) rfl rfl rfl (op_pnilNe Tryz.underlying130 rfl rfl rfl) ?_
      refine runS_x (I := inf) (J := jnf) ⟨false, false, [], 0, 0⟩ 9999 rfl (by repeat (first | exact obs_nil | refine obs_draw (by kernel_rfl) ?_ | refine obs_same ?_ | refine obs_and ?_ | refine obs_by (by (simp [inB] <;> omega)) ?_)) ?_
      refine runS_opV (.val (.pointer none)) rfl rfl (.v rfl rfl rfl rfl) rfl rfl [] (l := [42]) (.cons .o .nil) (fun hc => by cases hc) ?_
      refine runS_opV (.val (.pointer none)) rfl rfl (.v rfl rfl rfl rfl) rfl rfl [] (l := [43]) (.cons .o .nil) (fun hc => by cases hc) ?_
      refine runS_opV (iv 0) rfl rfl (.v rfl rfl rfl rfl) rfl rfl [] (l := [44]) (.cons .o .nil) (fun hc => by cases hc) ?_
      refine runS_callU rfl rfl (by first | exact .v rfl rfl rfl rfl | exact .o rfl rfl rfl rfl) rfl rfl (by repeat (first | exact .nil | refine .cons (.n rfl) ?_ | refine .cons .o ?_ | refine .cons gok_and ?_)) rfl rfl rfl rfl rfl (fun _ => (d_isNumber 0)) ?_
      refine runS_x (I := inf) (J := jnf) ⟨false, false, [], 0, 0⟩ 9999 rfl (by repeat (first | exact obs_nil | refine obs_draw (by kernel_rfl) ?_ | refine obs_same ?_ | refine obs_and ?_ | refine obs_by (by (simp [inB] <;> omega)) ?_)) ?_
      refine runS_cond rfl (fun h => by cases h) (fun h => ?_)
      refine runS_x (I := inf) (J := jnf) ⟨false, false, [], 0, 0⟩ 9999 rfl (by repeat (first | exact obs_nil | refine obs_draw (by kernel_rfl) ?_ | refine obs_same ?_ | refine obs_and ?_ | refine obs_by (by (simp [inB] <;> omega)) ?_)) ?_
      refine runS_ret (I := inf) 0 rfl (Nat.le_refl _) rfl .nil rfl ⟨?_, rfl⟩
      rfl
theorem d_asked2 (o0 o1 : AO) (hk0 : ∀ l, Kept 3 l → Kept 3 (o0 :: o1 :: l)) (t : Typ) (n1 : Option Bool) (l : List Vl) (hl : l.length ≤ 100000) : CallT Tryz.prog 101 [.ptr 2 0 0, vlS n1 l] [o0, o1, .box 25 (typE t)] (fun o A => o = .ret (iv (askL (some t) l)) ∧ A = [o0, o1, .box 25 (typE t)]) := by
  refine callS_body (n := 49) rfl rfl fun w ρ X => ?_
  refine runS_x (I := inf) (J := jnf) ⟨false, false, [], 0, 0⟩ 9999 rfl (by repeat (first | exact obs_nil | refine obs_draw (by kernel_rfl) ?_ | refine obs_same ?_ | refine obs_and ?_ | refine obs_by (by (simp [inB] <;> omega)) ?_)) ?_
  refine runS_while (fun (i : Nat) τ ar => (τ 0 = .ptr 2 0 0 ∧ τ 1 = vlS n1 l ∧ τ 9 = vlS n1 l ∧ τ 10 = iv l.length ∧ τ 11 = iv i) ∧ ar = [o0, o1, .box 25 (typE t)] ∧ i ≤ l.length ∧ (l.take i).all Vl.right = true) (fun i => l.length - i) 0 ⟨⟨rfl, rfl, rfl, rfl, rfl⟩, rfl, Nat.zero_le _, rfl⟩ ?_
  rintro i τ' ar' ⟨⟨g0, g1, g9, g10, g11⟩, rfl, hi, ha⟩ ih
  refine runS_says 0 (by exact g0) (Says.refl _) ?_; refine runS_says 1 (by exact g1) (Says.refl _) ?_; refine runS_says 9 (by exact g9) (Says.refl _) ?_; refine runS_says 10 (by exact g10) (Says.refl _) ?_; refine runS_says 11 (by exact g11) (Says.refl _) ?_
  refine runS_x (I := inf) (J := jnf) ⟨false, false, [], 0, 0⟩ 9999 rfl (by repeat (first | exact obs_nil | refine obs_draw (by kernel_rfl) ?_ | refine obs_same ?_ | refine obs_and ?_ | refine obs_by (by (simp [inB] <;> omega)) ?_)) ?_
  refine runS_cond rfl (fun h => ?_) (fun h => ?_)
  · have hlt : i < l.length := by simp at h; omega
    have hw1 : IntKind.wrap .i64 ((i : Int) + 1) = ((i + 1 : Nat) : Int) := by rw [w64 (by omega) (by omega)]; rfl
    have hv := vl_get hlt
    refine runS_x (I := inf) (J := jnf) ⟨false, false, [], 0, 0⟩ 9999 rfl (by repeat (first | exact obs_nil | refine obs_draw (by kernel_rfl) ?_ | refine obs_same ?_ | refine obs_and ?_ | refine obs_by (by (simp [inB, hlt] <;> omega)) ?_)) ?_
    refine runS_call rfl rfl rfl rfl rfl rfl rfl (d_right (l.getD i ⟨0, 0, 0, []⟩).kind (l.getD i ⟨0, 0, 0, []⟩).n (l.getD i ⟨0, 0, 0, []⟩).q (l.getD i ⟨0, 0, 0, []⟩).s) ?_
    refine runS_x (I := inf) (J := jnf) ⟨false, false, [], 0, 0⟩ 9999 rfl (by repeat (first | exact obs_nil | refine obs_draw (by kernel_rfl) ?_ | refine obs_same ?_ | refine obs_and ?_ | refine obs_by (by (simp [inB] <;> omega)) ?_)) ?_
    refine runS_cond rfl (fun h2 => ?_) (fun h2 => ?_)
    · have hr : (l[i]).right = false := by
        rw [← hv]
        have h3 : (!(l.getD i ⟨0, 0, 0, []⟩).right) = true := h2
        rw [Bool.not_eq_true'] at h3
        exact h3
      have hE : askL (some t) l = 1 := by
        unfold askL
        rw [if_pos]
        rw [List.all_eq_false]
        exact ⟨_, List.getElem_mem hlt, by rw [hr]; decide⟩
      rw [hE]
      refine runS_x (I := inf) (J := jnf) ⟨false, false, [], 0, 0⟩ 9999 rfl (by repeat (first | exact obs_nil | refine obs_draw (by kernel_rfl) ?_ | refine obs_same ?_ | refine obs_and ?_ | refine obs_by (by (simp [inB] <;> omega)) ?_)) ?_
      exact runS_ret (I := inf) 3 rfl (Nat.le_refl _) rfl (hk0 _ (.box rfl .nil)) rfl ⟨rfl, rfl⟩
    · have hr : (l[i]).right = true := by
        rw [← hv]
        have h3 : (!(l.getD i ⟨0, 0, 0, []⟩).right) = false := h2
        rw [Bool.not_eq_false'] at h3
        exact h3
      refine runS_x (I := inf) (J := jnf) ⟨false, false, [], 0, 0⟩ 9999 rfl (by repeat (first | exact obs_nil | refine obs_draw (by kernel_rfl) ?_ | refine obs_same ?_ | refine obs_and ?_ | refine obs_by (by (simp [inB] <;> omega)) ?_)) ?_
      refine runS_drop 3 (Nat.le_refl 3) rfl (hk0 _ (.box rfl .nil)) rfl rfl rfl (by repeat (first | exact .nil | refine .cons rfl rfl rfl (scrub_under _ _) ?_)) ?_
      exact ih (i + 1) _ _ (by omega) ⟨⟨rfl, rfl, rfl, rfl, congrArg iv hw1⟩, rfl, by omega, all_take ha hlt hr⟩
  · have hie : i = l.length := by simp at h; omega
    subst hie
    rw [List.take_length] at ha
    refine runS_x (I := inf) (J := jnf) ⟨false, false, [], 0, 0⟩ 9999 rfl (by repeat (first | exact obs_nil | refine obs_draw (by kernel_rfl) ?_ | refine obs_same ?_ | refine obs_and ?_ | refine obs_by (by (simp [inB] <;> omega)) ?_)) ?_
    refine runS_op (.val (.bool true)) rfl rfl rfl (op_ptrNe Tryz.underlying130 rfl rfl rfl rfl) ?_
    refine runS_x (I := inf) (J := jnf) ⟨false, false, [], 0, 0⟩ 9999 rfl (by repeat (first | exact obs_nil | refine obs_draw (by kernel_rfl) ?_ | refine obs_same ?_ | refine obs_and ?_ | refine obs_by (by (simp [inB] <;> omega)) ?_)) ?_
    refine runS_callU rfl rfl (by first | exact .v rfl rfl rfl rfl | exact .o rfl rfl rfl rfl) rfl rfl (by repeat (first | exact .nil | refine .cons (.n rfl) ?_ | refine .cons .o ?_ | refine .cons gok_and ?_)) rfl rfl rfl rfl rfl (fun _ => (d_valid t)) ?_
    refine runS_x (I := inf) (J := jnf) ⟨false, false, [], 0, 0⟩ 9999 rfl (by repeat (first | exact obs_nil | refine obs_draw (by kernel_rfl) ?_ | refine obs_same ?_ | refine obs_and ?_ | refine obs_by (by (simp [inB] <;> omega)) ?_)) ?_
    refine runS_cond rfl (fun h => ?_) (fun h => ?_)
    · have hvt : validT t = false := by
        have h3 : (!validT t) = true := h
        rw [Bool.not_eq_true'] at h3
        exact h3
      have hE : askL (some t) l = 13 := by
        unfold askL
        rw [if_neg (by rw [ha]; decide), if_pos (by simp [hvt])]
      rw [hE]
      refine runS_x (I := inf) (J := jnf) ⟨false, false, [], 0, 0⟩ 9999 rfl (by repeat (first | exact obs_nil | refine obs_draw (by kernel_rfl) ?_ | refine obs_same ?_ | refine obs_and ?_ | refine obs_by (by (simp [inB] <;> omega)) ?_)) ?_
      exact runS_ret (I := inf) 3 rfl (Nat.le_refl _) rfl (hk0 _ (.box rfl .nil)) rfl ⟨rfl, rfl⟩
    have hvt : validT t = true := by
      have h3 : (!validT t) = false := h
      rw [Bool.not_eq_false'] at h3
      exact h3
    refine runS_x (I := inf) (J := jnf) ⟨false, false, [], 0, 0⟩ 9999 rfl (by repeat (first | exact obs_nil | refine obs_draw (by kernel_rfl) ?_ | refine obs_same ?_ | refine obs_and ?_ | refine obs_by (by (simp [inB] <;> omega)) ?_)) ?_
    clear ih hi g0 g1 g9 g10 g11
    refine runS_while (fun (i : Nat) τ ar => (τ 0 = .ptr 2 0 0 ∧ τ 28 = vlS n1 l ∧ τ 29 = iv l.length ∧ τ 30 = iv i) ∧ ar = [o0, o1, .box 25 (typE t)] ∧ i ≤ l.length ∧ (l.take i).all (fun v => numK v.kind) = true) (fun i => l.length - i) 0 ⟨⟨rfl, rfl, rfl, rfl⟩, rfl, Nat.zero_le _, rfl⟩ ?_
    rintro i τ2 ar2 ⟨⟨g0, g28, g29, g30⟩, rfl, hi, hb⟩ ih
    refine runS_says 0 (by exact g0) (Says.refl _) ?_; refine runS_says 28 (by exact g28) (Says.refl _) ?_; refine runS_says 29 (by exact g29) (Says.refl _) ?_; refine runS_says 30 (by exact g30) (Says.refl _) ?_
    refine runS_x (I := inf) (J := jnf) ⟨false, false, [], 0, 0⟩ 9999 rfl (by repeat (first | exact obs_nil | refine obs_draw (by kernel_rfl) ?_ | refine obs_same ?_ | refine obs_and ?_ | refine obs_by (by (simp [inB] <;> omega)) ?_)) ?_
    refine runS_cond rfl (fun h => ?_) (fun h => ?_)
    · have hlt : i < l.length := by simp at h; omega
      have hw1 : IntKind.wrap .i64 ((i : Int) + 1) = ((i + 1 : Nat) : Int) := by rw [w64 (by omega) (by omega)]; rfl
      have hv := vl_get hlt
      refine runS_x (I := inf) (J := jnf) ⟨false, false, [], 0, 0⟩ 9999 rfl (by repeat (first | exact obs_nil | refine obs_draw (by kernel_rfl) ?_ | refine obs_same ?_ | refine obs_and ?_ | refine obs_by (by (simp [inB, hlt] <;> omega)) ?_)) ?_
      refine runS_call rfl rfl rfl rfl rfl rfl rfl (d_isNumber (l.getD i ⟨0, 0, 0, []⟩).kind) ?_
      refine runS_x (I := inf) (J := jnf) ⟨false, false, [], 0, 0⟩ 9999 rfl (by repeat (first | exact obs_nil | refine obs_draw (by kernel_rfl) ?_ | refine obs_same ?_ | refine obs_and ?_ | refine obs_by (by (simp [inB] <;> omega)) ?_)) ?_
      refine runS_cond rfl (fun h2 => ?_) (fun h2 => ?_)
      · have hr : numK (l[i]).kind = false := by
          rw [← hv]
          have h3 : (!numK (l.getD i ⟨0, 0, 0, []⟩).kind) = true := h2
          rw [Bool.not_eq_true'] at h3
          exact h3
        have hE : askL (some t) l = 10 := by
          unfold askL
          rw [if_neg (by rw [ha]; decide), if_neg (by simp [hvt]), if_pos]
          rw [List.all_eq_false]
          exact ⟨_, List.getElem_mem hlt, by rw [hr]; decide⟩
        rw [hE]
        refine runS_x (I := inf) (J := jnf) ⟨false, false, [], 0, 0⟩ 9999 rfl (by repeat (first | exact obs_nil | refine obs_draw (by kernel_rfl) ?_ | refine obs_same ?_ | refine obs_and ?_ | refine obs_by (by (simp [inB] <;> omega)) ?_)) ?_
        exact runS_ret (I := inf) 3 rfl (Nat.le_refl _) rfl (hk0 _ (.box rfl .nil)) rfl ⟨rfl, rfl⟩
      · have hr : numK (l[i]).kind = true := by
          rw [← hv]
          have h3 : (!numK (l.getD i ⟨0, 0, 0, []⟩).kind) = false := h2
          rw [Bool.not_eq_false'] at h3
          exact h3
        refine runS_x (I := inf) (J := jnf) ⟨false, false, [], 0, 0⟩ 9999 rfl (by repeat (first | exact obs_nil | refine obs_draw (by kernel_rfl) ?_ | refine obs_same ?_ | refine obs_and ?_ | refine obs_by (by (simp [inB] <;> omega)) ?_)) ?_
        refine runS_drop 3 (Nat.le_refl 3) rfl (hk0 _ (.box rfl .nil)) rfl rfl rfl (by repeat (first | exact .nil | refine .cons rfl rfl rfl (scrub_under _ _) ?_)) ?_
        exact ih (i + 1) _ _ (by omega) ⟨⟨rfl, rfl, rfl, congrArg iv hw1⟩, rfl, by omega, all_take hb hlt hr⟩
    · have hie : i = l.length := by simp at h; omega
      subst hie
      rw [List.take_length] at hb
      have hE : askL (some t) l = if numK t.kind = false then 10 else 0 := by
        unfold askL
        rw [if_neg (by rw [ha]; decide), if_neg (by simp [hvt]), if_neg (by rw [hb]; decide)]
        simp
      rw [hE]
      refine runS_x (I := inf) (J := jnf) ⟨false, false, [], 0, 0⟩ 9999 rfl (by repeat (first | exact obs_nil | refine obs_draw (by kernel_rfl) ?_ | refine obs_same ?_ | refine obs_and ?_ | refine obs_by (by (simp [inB] <;> omega)) ?_)) ?_
      refine runS_op (.val (.bool true)) rfl rfl rfl (op_ptrNe Tryz.underlying130 rfl rfl rfl rfl) ?_
      refine runS_x (I := inf) (J := jnf) ⟨false, false, [], 0, 0⟩ 9999 rfl (by repeat (first | exact obs_nil | refine obs_draw (by kernel_rfl) ?_ | refine obs_same ?_ | refine obs_and ?_ | refine obs_by (by (simp [inB] <;> omega)) ?_)) ?_
      refine runS_callU rfl rfl (by first | exact .v rfl rfl rfl rfl | exact .o rfl rfl rfl rfl) rfl rfl (by repeat (first | exact .nil | refine .cons (.n rfl) ?_ | refine .cons .o ?_ | refine .cons gok_and ?_)) rfl rfl rfl rfl rfl (fun _ => (d_isNumber t.kind)) ?_
      refine runS_x (I := inf) (J := jnf) ⟨false, false, [], 0, 0⟩ 9999 rfl (by repeat (first | exact obs_nil | refine obs_draw (by kernel_rfl) ?_ | refine obs_same ?_ | refine obs_and ?_ | refine obs_by (by (simp [inB] <;> omega)) ?_)) ?_
      refine runS_cond rfl (fun h => ?_) (fun h => ?_)
      · have hn : numK t.kind = false := by
          have h3 : (!numK t.kind) = true := h
          rw [Bool.not_eq_true'] at h3
          exact h3
        rw [if_pos hn]
        refine runS_x (I := inf) (J := jnf) ⟨false, false, [], 0, 0⟩ 9999 rfl (by repeat (first | exact obs_nil | refine obs_draw (by kernel_rfl) ?_ | refine obs_same ?_ | refine obs_and ?_ | refine obs_by (by (simp [inB] <;> omega)) ?_)) ?_
        exact runS_ret (I := inf) 3 rfl (Nat.le_refl _) rfl (hk0 _ (.box rfl .nil)) rfl ⟨rfl, rfl⟩
      · have hn : numK t.kind = true := by
          have h3 : (!numK t.kind) = false := h
          rw [Bool.not_eq_false'] at h3
          exact h3
        rw [if_neg (show ¬ numK t.kind = false by rw [hn]; decide)]
        refine runS_x (I := inf) (J := jnf) ⟨false, false, [], 0, 0⟩ 9999 rfl (by repeat (first | exact obs_nil | refine obs_draw (by kernel_rfl) ?_ | refine obs_same ?_ | refine obs_and ?_ | refine obs_by (by (simp [inB] <;> omega)) ?_)) ?_
        exact runS_ret (I := inf) 3 rfl (Nat.le_refl _) rfl (hk0 _ (.box rfl .nil)) rfl ⟨rfl, rfl⟩
end Go.Iron.Tryz

/- The digits' seat: operations of two numbers. -/
namespace Go.Iron.Tryz
open Go.Proofs Go.RowKit Go.Iron.Tok Go.Iron.Dg

abbrev errA (e : Int) : AV := .tup [.agg (vaE 0 0 0 []), iv 0, iv e]
abbrev resA (kd : Int) (r : Int × Int × Int) : AV := .tup [.agg [iv kd, iv r.1, iv r.2.1, sv []], iv r.2.2, iv 0]
abbrev ext (v : Vl) : Lg := exactL v.kind v.n v.q
theorem ask_num {t : Option Typ} {l : List Vl} (h : askL t l = 0) : (∀ v ∈ l, v.right = true ∧ numK v.kind = true) ∧ ∀ t0, t = some t0 → validT t0 = true ∧ numK t0.kind = true := by
  unfold askL at h
  split at h; omega
  split at h; omega
  split at h; omega
  split at h; omega
  rename_i h1 h2 h3 h4
  have h1' : l.all Vl.right = true := by simpa using h1
  have h3' : (l.all fun v => numK v.kind) = true := by simpa using h3
  refine ⟨fun v hv => ⟨List.all_eq_true.1 h1' v hv, List.all_eq_true.1 h3' v hv⟩, fun t0 e => ?_⟩
  subst e
  simp at h2 h4
  exact ⟨h2, h4⟩
theorem d_exactV (v : Vl) (hr : v.right = true) (hk : numK v.kind = true) : CallT Tryz.prog 102 [.agg (vlE v)] [] (fun o A => o = .ret (lgA (ext v)) ∧ A = []) := by
  obtain ⟨h1, h2, h3, h4, h5, h6⟩ := right_num hr hk
  exact d_exact v.kind v.n v.q v.s h5 h6 (fun h => h3 (by omega))
theorem ext_fits (v : Vl) (hr : v.right = true) (hk : numK v.kind = true) : Fits (ext v) 50 100 := by
  obtain ⟨h1, h2, h3, h4, h5, h6⟩ := right_num hr hk
  have hl1 : (frm v.n.natAbs).length ≤ 15 := frm_len_lt.2 (by omega)
  refine ⟨?_, ?_, ?_⟩
  · show (frm (v.n.natAbs * (if v.kind = 1 then 5 ^ v.q.toNat else 1))).length ≤ 50
    have hm := frm_len_mul v.n.natAbs (if v.kind = 1 then 5 ^ v.q.toNat else 1)
    have : (frm (if v.kind = 1 then 5 ^ v.q.toNat else 1)).length ≤ 32 := by
      split
      · rename_i hk1
        have := h3 (by omega)
        exact frm_len_lt.2 (Nat.lt_of_le_of_lt (Nat.pow_le_pow_left (by decide : 5 ≤ 10) v.q.toNat) (Nat.pow_lt_pow_right (by decide) (by omega)))
      · rw [frm_one]; decide
    omega
  · show -100 ≤ (if v.kind = 1 ∨ v.kind = 2 then -v.q else v.q)
    split
    · have := h3 (by omega); omega
    · have := h4 (by omega); omega
  · show (if v.kind = 1 ∨ v.kind = 2 then -v.q else v.q) ≤ 100
    split
    · have := h3 (by omega); omega
    · have := h4 (by omega); omega
theorem d_reckonE (a b : Vl) (t : Typ) (g : FuncId) (caps : List AV) (he : askL (some t) [a, b] ≠ 0) : CallT Tryz.prog 57 [.agg (vlE a), .agg (vlE b), .agg (typE t), .fn (.func g) caps] [] (fun o A => o = .ret (errA (askL (some t) [a, b])) ∧ A = []) := by
  refine callS_body (n := 34) rfl rfl fun w ρ X => ?_
  refine runS_x (I := inf) (J := jnf) ⟨false, false, [], 0, 0⟩ 9999 rfl (by repeat (first | exact obs_nil | refine obs_draw (by kernel_rfl) ?_ | refine obs_same ?_ | refine obs_and ?_ | refine obs_by (by (simp [inB] <;> omega)) ?_)) ?_
  refine runS_tell 6 (vlR [a, b]) rfl (m' := 2) rfl (fun j hj => ?_) rfl ?_
  · rcases j with _ | _ | j <;> first | rfl | omega
  refine runS_freeze 14 rfl rfl rfl (fun j hj => ?_) ?_
  · rcases j with _ | _ | j <;> first | rfl | omega
  refine runS_callF [.box 23 (vlE a), .box 23 (vlE b), .box 25 (typE t)] [.box 23 (vlE a), .box 23 (vlE b), .box 25 (typE t)] _ rfl rfl rfl rfl rfl (show _ = [.ptr 2 0 0, vlS none [a, b]] from rfl) rfl (.box rfl (.box rfl (.box rfl .nil))) rfl rfl (d_asked2 _ _ (fun l hl => .box rfl (.box rfl hl)) t none [a, b] (by simp)) ?_
  refine runS_x (I := inf) (J := jnf) ⟨false, false, [], 0, 0⟩ 9999 rfl (by repeat (first | exact obs_nil | refine obs_draw (by kernel_rfl) ?_ | refine obs_same ?_ | refine obs_and ?_ | refine obs_by (by (simp [inB] <;> omega)) ?_)) ?_
  refine runS_cond rfl (fun h => ?_) (fun h => ?_)
  · refine runS_x (I := inf) (J := jnf) ⟨false, false, [], 0, 0⟩ 9999 rfl (by repeat (first | exact obs_nil | refine obs_draw (by kernel_rfl) ?_ | refine obs_same ?_ | refine obs_and ?_ | refine obs_by (by (simp [inB] <;> omega)) ?_)) ?_
    refine runS_ret (I := inf) 0 rfl (Nat.le_refl _) rfl .nil rfl ⟨?_, rfl⟩
    rfl
  · exfalso
    have h3 : (!(askL (some t) [a, b] == 0)) = false := h
    rw [Bool.not_eq_false', beq_iff_eq] at h3
    exact he h3
theorem d_reckonV (a b : Vl) (t : Typ) (g : FuncId) {gn : Func} {gc : Code} [Fun Tryz.prog g gn gc] (R : Lg) (he : askL (some t) [a, b] = 0)
    (hdo : CallT Tryz.prog g ([lgA (ext a), lgA (ext b)]) [] (fun o A => o = .ret (lgA R) ∧ A = [])) (hR : Fits R 1500 1000) : CallT Tryz.prog 57 [.agg (vlE a), .agg (vlE b), .agg (typE t), .fn (.func g) []] [] (fun o A => o = .ret (resA t.kind (fitL t.kind t.p.toNat t.q.toNat R 2)) ∧ A = []) := by
  obtain ⟨hnum, htn⟩ := ask_num he
  obtain ⟨hv, hkt⟩ := htn t rfl
  obtain ⟨hra, hka⟩ := hnum a (by simp)
  obtain ⟨hrb, hkb⟩ := hnum b (by simp)
  have hf := d_fitted R t 2 hv hkt hR
  generalize fitL t.kind t.p.toNat t.q.toNat R 2 = F at *
  refine callS_body (n := 34) rfl rfl fun w ρ X => ?_
  refine runS_x (I := inf) (J := jnf) ⟨false, false, [], 0, 0⟩ 9999 rfl (by repeat (first | exact obs_nil | refine obs_draw (by kernel_rfl) ?_ | refine obs_same ?_ | refine obs_and ?_ | refine obs_by (by (simp [inB] <;> omega)) ?_)) ?_
  refine runS_tell 6 (vlR [a, b]) rfl (m' := 2) rfl (fun j hj => ?_) rfl ?_
  · rcases j with _ | _ | j <;> first | rfl | omega
  refine runS_freeze 14 rfl rfl rfl (fun j hj => ?_) ?_
  · rcases j with _ | _ | j <;> first | rfl | omega
  refine runS_callF [.box 23 (vlE a), .box 23 (vlE b), .box 25 (typE t)] [.box 23 (vlE a), .box 23 (vlE b), .box 25 (typE t)] _ rfl rfl rfl rfl rfl (show _ = [.ptr 2 0 0, vlS none [a, b]] from rfl) rfl (.box rfl (.box rfl (.box rfl .nil))) rfl rfl (d_asked2 _ _ (fun l hl => .box rfl (.box rfl hl)) t none [a, b] (by simp)) ?_
  rw [he]
  refine runS_x (I := inf) (J := jnf) ⟨false, false, [], 0, 0⟩ 9999 rfl (by repeat (first | exact obs_nil | refine obs_draw (by kernel_rfl) ?_ | refine obs_same ?_ | refine obs_and ?_ | refine obs_by (by (simp [inB] <;> omega)) ?_)) ?_
  refine runS_cond rfl (fun h => by cases h) (fun h => ?_)
  refine runS_x (I := inf) (J := jnf) ⟨false, false, [], 0, 0⟩ 9999 rfl (by repeat (first | exact obs_nil | refine obs_draw (by kernel_rfl) ?_ | refine obs_same ?_ | refine obs_and ?_ | refine obs_by (by (simp [inB] <;> omega)) ?_)) ?_
  refine runS_drawG (ch := []) (A2 := fun _ => []) 12 [11] (fun z => [.box 23 (vlE a), .box 23 (vlE b), .box 25 (typE t), .box 23 (cond (z.getD 0 false) [iv t.kind, iv F.1, iv F.2.1, sv []] [iv 0, iv 0, iv 0, sv []]), .box 3 [iv 0], .box 30 [iv 0], .gone]) none (c := 9) jnfI.draw (by kernel_rfl) rfl (lexg_g (I := inf) (J := jnf) none ⟨⟨_, rfl, (by repeat (first | exact obs_nil | refine obs_same ?_ | refine obs_and ?_ | refine obs_by (by (simp [inB] <;> omega)) ?_))⟩, (by first | exact .inl (by decide +kernel) | exact .inr ⟨_, rfl, (by repeat (first | exact obs_nil | refine obs_same ?_ | refine obs_and ?_ | refine obs_by (by (simp [inB] <;> omega)) ?_))⟩)⟩ rfl rfl rfl rfl (lexg_g (I := inf) (J := jnf) none ⟨⟨_, rfl, (by repeat (first | exact obs_nil | refine obs_same ?_ | refine obs_and ?_ | refine obs_by (by (simp [inB] <;> omega)) ?_))⟩, (by first | exact .inl (by decide +kernel) | exact .inr ⟨_, rfl, (by repeat (first | exact obs_nil | refine obs_same ?_ | refine obs_and ?_ | refine obs_by (by (simp [inB] <;> omega)) ?_))⟩)⟩ rfl rfl rfl rfl (lexg_call rfl rfl rfl rfl rfl rfl rfl rfl rfl (d_exactV a hra hka) (lexg_g (I := inf) (J := jnf) none ⟨⟨_, rfl, (by repeat (first | exact obs_nil | refine obs_same ?_ | refine obs_and ?_ | refine obs_by (by (simp [inB] <;> omega)) ?_))⟩, (by first | exact .inl (by decide +kernel) | exact .inr ⟨_, rfl, (by repeat (first | exact obs_nil | refine obs_same ?_ | refine obs_and ?_ | refine obs_by (by (simp [inB] <;> omega)) ?_))⟩)⟩ rfl rfl rfl rfl (lexg_call rfl rfl rfl rfl rfl rfl rfl rfl rfl (d_exactV b hrb hkb) (lexg_call rfl rfl rfl rfl rfl rfl rfl rfl rfl hdo (lexg_g (I := inf) (J := jnf) none ⟨⟨_, rfl, (by repeat (first | exact obs_nil | refine obs_same ?_ | refine obs_and ?_ | refine obs_by (by (simp [inB] <;> omega)) ?_))⟩, (by first | exact .inl (by decide +kernel) | exact .inr ⟨_, rfl, (by repeat (first | exact obs_nil | refine obs_same ?_ | refine obs_and ?_ | refine obs_by (by (simp [inB] <;> omega)) ?_))⟩)⟩ rfl rfl rfl rfl (lexg_call rfl rfl rfl rfl rfl rfl rfl rfl rfl hf (lexg_g (I := inf) (J := jnf) none ⟨⟨_, rfl, (by repeat (first | exact obs_nil | refine obs_same ?_ | refine obs_and ?_ | refine obs_by (by (simp [inB] <;> omega)) ?_))⟩, (by first | exact .inl (by decide +kernel) | exact .inr ⟨_, rfl, (by repeat (first | exact obs_nil | refine obs_same ?_ | refine obs_and ?_ | refine obs_by (by (simp [inB] <;> omega)) ?_))⟩)⟩ rfl rfl rfl rfl (lexg_g (I := inf) (J := jnf) none ⟨⟨_, rfl, (by repeat (first | exact obs_nil | refine obs_same ?_ | refine obs_and ?_ | refine obs_by (by (simp [inB] <;> omega)) ?_))⟩, (by first | exact .inl (by decide +kernel) | exact .inr ⟨_, rfl, (by repeat (first | exact obs_nil | refine obs_same ?_ | refine obs_and ?_ | refine obs_by (by (simp [inB] <;> omega)) ?_))⟩)⟩ rfl rfl rfl rfl (lexg_g (I := inf) (J := jnf) none ⟨⟨_, rfl, (by repeat (first | exact obs_nil | refine obs_same ?_ | refine obs_and ?_ | refine obs_by (by (simp [inB] <;> omega)) ?_))⟩, (by first | exact .inl (by decide +kernel) | exact .inr ⟨_, rfl, (by repeat (first | exact obs_nil | refine obs_same ?_ | refine obs_and ?_ | refine obs_by (by (simp [inB] <;> omega)) ?_))⟩)⟩ rfl rfl rfl rfl (lexg_g (I := inf) (J := jnf) (some .store) ⟨⟨_, rfl, (by repeat (first | exact obs_nil | refine obs_same ?_ | refine obs_and ?_ | refine obs_by (by (simp [inB] <;> omega)) ?_))⟩, .inl rfl⟩ rfl rfl rfl rfl lexg_nil)))))))))))) rfl (fun _ => ?_) (fun h => by cases h)
  refine runS_x (I := inf) (J := jnf) ⟨false, false, [], 0, 0⟩ 9999 rfl (by repeat (first | exact obs_nil | refine obs_draw (by kernel_rfl) ?_ | refine obs_same ?_ | refine obs_and ?_ | refine obs_by (by (simp [inB] <;> omega)) ?_)) ?_
  refine runS_drawG (ch := []) (A2 := fun _ => []) 3 [2] (fun z => [.box 23 (vlE a), .box 23 (vlE b), .box 25 (typE t), .box 23 [iv t.kind, iv F.1, iv F.2.1, sv []], .box 3 [iv F.2.2], .box 30 [iv 0], .gone]) none (c := 9) jnfI.draw (by kernel_rfl) rfl (lexg_g (I := inf) (J := jnf) none ⟨⟨_, rfl, (by repeat (first | exact obs_nil | refine obs_same ?_ | refine obs_and ?_ | refine obs_by (by (simp [inB] <;> omega)) ?_))⟩, (by first | exact .inl (by decide +kernel) | exact .inr ⟨_, rfl, (by repeat (first | exact obs_nil | refine obs_same ?_ | refine obs_and ?_ | refine obs_by (by (simp [inB] <;> omega)) ?_))⟩)⟩ rfl rfl rfl rfl (lexg_g (I := inf) (J := jnf) none ⟨⟨_, rfl, (by repeat (first | exact obs_nil | refine obs_same ?_ | refine obs_and ?_ | refine obs_by (by (simp [inB] <;> omega)) ?_))⟩, (by first | exact .inl (by decide +kernel) | exact .inr ⟨_, rfl, (by repeat (first | exact obs_nil | refine obs_same ?_ | refine obs_and ?_ | refine obs_by (by (simp [inB] <;> omega)) ?_))⟩)⟩ rfl rfl rfl rfl (lexg_g (I := inf) (J := jnf) (some .store) ⟨⟨_, rfl, (by repeat (first | exact obs_nil | refine obs_same ?_ | refine obs_and ?_ | refine obs_by (by (simp [inB] <;> omega)) ?_))⟩, .inl rfl⟩ rfl rfl rfl rfl lexg_nil))) rfl (fun _ => ?_) (fun h => by cases h)
  refine runS_x (I := inf) (J := jnf) ⟨true, false, [122], 0, 0⟩ 9999 rfl (by repeat (first | exact obs_nil | refine obs_draw (by kernel_rfl) ?_ | refine obs_same ?_ | refine obs_and ?_ | refine obs_by (by (simp [inB] <;> omega)) ?_)) ?_
  refine runS_opA (.ptr 7 0 0) rfl rfl rfl (op_alloc0 (by kernel_rfl) rfl rfl) ?_
  refine runS_x (I := inf) (J := jnf) ⟨true, false, [122], 0, 0⟩ 9999 rfl (by repeat (first | exact obs_nil | refine obs_draw (by kernel_rfl) ?_ | refine obs_same ?_ | refine obs_and ?_ | refine obs_by (by (simp [inB] <;> omega)) ?_)) ?_
  refine runS_ret (I := inf) 0 rfl (Nat.le_refl _) rfl .nil rfl ⟨?_, rfl⟩
  rfl
theorem d_reckonT (a b : Vl) (t : Typ) (g : FuncId) {gn : Func} {gc : Code} [Fun Tryz.prog g gn gc] (R : Lg) (he : askL (some t) [a, b] = 0)
    (hdo : CallT Tryz.prog g ([lgA (ext a), lgA (ext b), .loc (typE t) 0]) [] (fun o A => o = .ret (lgA R) ∧ A = [])) (hR : Fits R 1500 1000) : CallT Tryz.prog 57 [.agg (vlE a), .agg (vlE b), .agg (typE t), .fn (.func g) [.loc (typE t) 0]] [] (fun o A => o = .ret (resA t.kind (fitL t.kind t.p.toNat t.q.toNat R 2)) ∧ A = []) := by
  obtain ⟨hnum, htn⟩ := ask_num he
  obtain ⟨hv, hkt⟩ := htn t rfl
  obtain ⟨hra, hka⟩ := hnum a (by simp)
  obtain ⟨hrb, hkb⟩ := hnum b (by simp)
  have hf := d_fitted R t 2 hv hkt hR
  generalize fitL t.kind t.p.toNat t.q.toNat R 2 = F at *
  refine callS_body (n := 34) rfl rfl fun w ρ X => ?_
  refine runS_x (I := inf) (J := jnf) ⟨false, false, [], 0, 0⟩ 9999 rfl (by repeat (first | exact obs_nil | refine obs_draw (by kernel_rfl) ?_ | refine obs_same ?_ | refine obs_and ?_ | refine obs_by (by (simp [inB] <;> omega)) ?_)) ?_
  refine runS_tell 6 (vlR [a, b]) rfl (m' := 2) rfl (fun j hj => ?_) rfl ?_
  · rcases j with _ | _ | j <;> first | rfl | omega
  refine runS_freeze 14 rfl rfl rfl (fun j hj => ?_) ?_
  · rcases j with _ | _ | j <;> first | rfl | omega
  refine runS_callF [.box 23 (vlE a), .box 23 (vlE b), .box 25 (typE t)] [.box 23 (vlE a), .box 23 (vlE b), .box 25 (typE t)] _ rfl rfl rfl rfl rfl (show _ = [.ptr 2 0 0, vlS none [a, b]] from rfl) rfl (.box rfl (.box rfl (.box rfl .nil))) rfl rfl (d_asked2 _ _ (fun l hl => .box rfl (.box rfl hl)) t none [a, b] (by simp)) ?_
  rw [he]
  refine runS_x (I := inf) (J := jnf) ⟨false, false, [], 0, 0⟩ 9999 rfl (by repeat (first | exact obs_nil | refine obs_draw (by kernel_rfl) ?_ | refine obs_same ?_ | refine obs_and ?_ | refine obs_by (by (simp [inB] <;> omega)) ?_)) ?_
  refine runS_cond rfl (fun h => by cases h) (fun h => ?_)
  refine runS_x (I := inf) (J := jnf) ⟨false, false, [], 0, 0⟩ 9999 rfl (by repeat (first | exact obs_nil | refine obs_draw (by kernel_rfl) ?_ | refine obs_same ?_ | refine obs_and ?_ | refine obs_by (by (simp [inB] <;> omega)) ?_)) ?_
  refine runS_drawG (ch := []) (A2 := fun _ => []) 12 [11] (fun z => [.box 23 (vlE a), .box 23 (vlE b), .box 25 (typE t), .box 23 (cond (z.getD 0 false) [iv t.kind, iv F.1, iv F.2.1, sv []] [iv 0, iv 0, iv 0, sv []]), .box 3 [iv 0], .box 30 [iv 0], .gone]) none (c := 9) jnfI.draw (by kernel_rfl) rfl (lexg_g (I := inf) (J := jnf) none ⟨⟨_, rfl, (by repeat (first | exact obs_nil | refine obs_same ?_ | refine obs_and ?_ | refine obs_by (by (simp [inB] <;> omega)) ?_))⟩, (by first | exact .inl (by decide +kernel) | exact .inr ⟨_, rfl, (by repeat (first | exact obs_nil | refine obs_same ?_ | refine obs_and ?_ | refine obs_by (by (simp [inB] <;> omega)) ?_))⟩)⟩ rfl rfl rfl rfl (lexg_g (I := inf) (J := jnf) none ⟨⟨_, rfl, (by repeat (first | exact obs_nil | refine obs_same ?_ | refine obs_and ?_ | refine obs_by (by (simp [inB] <;> omega)) ?_))⟩, (by first | exact .inl (by decide +kernel) | exact .inr ⟨_, rfl, (by repeat (first | exact obs_nil | refine obs_same ?_ | refine obs_and ?_ | refine obs_by (by (simp [inB] <;> omega)) ?_))⟩)⟩ rfl rfl rfl rfl (lexg_call rfl rfl rfl rfl rfl rfl rfl rfl rfl (d_exactV a hra hka) (lexg_g (I := inf) (J := jnf) none ⟨⟨_, rfl, (by repeat (first | exact obs_nil | refine obs_same ?_ | refine obs_and ?_ | refine obs_by (by (simp [inB] <;> omega)) ?_))⟩, (by first | exact .inl (by decide +kernel) | exact .inr ⟨_, rfl, (by repeat (first | exact obs_nil | refine obs_same ?_ | refine obs_and ?_ | refine obs_by (by (simp [inB] <;> omega)) ?_))⟩)⟩ rfl rfl rfl rfl (lexg_call rfl rfl rfl rfl rfl rfl rfl rfl rfl (d_exactV b hrb hkb) (lexg_call rfl rfl rfl rfl rfl rfl rfl rfl rfl hdo (lexg_g (I := inf) (J := jnf) none ⟨⟨_, rfl, (by repeat (first | exact obs_nil | refine obs_same ?_ | refine obs_and ?_ | refine obs_by (by (simp [inB] <;> omega)) ?_))⟩, (by first | exact .inl (by decide +kernel) | exact .inr ⟨_, rfl, (by repeat (first | exact obs_nil | refine obs_same ?_ | refine obs_and ?_ | refine obs_by (by (simp [inB] <;> omega)) ?_))⟩)⟩ rfl rfl rfl rfl (lexg_call rfl rfl rfl rfl rfl rfl rfl rfl rfl hf (lexg_g (I := inf) (J := jnf) none ⟨⟨_, rfl, (by repeat (first | exact obs_nil | refine obs_same ?_ | refine obs_and ?_ | refine obs_by (by (simp [inB] <;> omega)) ?_))⟩, (by first | exact .inl (by decide +kernel) | exact .inr ⟨_, rfl, (by repeat (first | exact obs_nil | refine obs_same ?_ | refine obs_and ?_ | refine obs_by (by (simp [inB] <;> omega)) ?_))⟩)⟩ rfl rfl rfl rfl (lexg_g (I := inf) (J := jnf) none ⟨⟨_, rfl, (by repeat (first | exact obs_nil | refine obs_same ?_ | refine obs_and ?_ | refine obs_by (by (simp [inB] <;> omega)) ?_))⟩, (by first | exact .inl (by decide +kernel) | exact .inr ⟨_, rfl, (by repeat (first | exact obs_nil | refine obs_same ?_ | refine obs_and ?_ | refine obs_by (by (simp [inB] <;> omega)) ?_))⟩)⟩ rfl rfl rfl rfl (lexg_g (I := inf) (J := jnf) none ⟨⟨_, rfl, (by repeat (first | exact obs_nil | refine obs_same ?_ | refine obs_and ?_ | refine obs_by (by (simp [inB] <;> omega)) ?_))⟩, (by first | exact .inl (by decide +kernel) | exact .inr ⟨_, rfl, (by repeat (first | exact obs_nil | refine obs_same ?_ | refine obs_and ?_ | refine obs_by (by (simp [inB] <;> omega)) ?_))⟩)⟩ rfl rfl rfl rfl (lexg_g (I := inf) (J := jnf) (some .store) ⟨⟨_, rfl, (by repeat (first | exact obs_nil | refine obs_same ?_ | refine obs_and ?_ | refine obs_by (by (simp [inB] <;> omega)) ?_))⟩, .inl rfl⟩ rfl rfl rfl rfl lexg_nil)))))))))))) rfl (fun _ => ?_) (fun h => by cases h)
  refine runS_x (I := inf) (J := jnf) ⟨false, false, [], 0, 0⟩ 9999 rfl (by repeat (first | exact obs_nil | refine obs_draw (by kernel_rfl) ?_ | refine obs_same ?_ | refine obs_and ?_ | refine obs_by (by (simp [inB] <;> omega)) ?_)) ?_
  refine runS_drawG (ch := []) (A2 := fun _ => []) 3 [2] (fun z => [.box 23 (vlE a), .box 23 (vlE b), .box 25 (typE t), .box 23 [iv t.kind, iv F.1, iv F.2.1, sv []], .box 3 [iv F.2.2], .box 30 [iv 0], .gone]) none (c := 9) jnfI.draw (by kernel_rfl) rfl (lexg_g (I := inf) (J := jnf) none ⟨⟨_, rfl, (by repeat (first | exact obs_nil | refine obs_same ?_ | refine obs_and ?_ | refine obs_by (by (simp [inB] <;> omega)) ?_))⟩, (by first | exact .inl (by decide +kernel) | exact .inr ⟨_, rfl, (by repeat (first | exact obs_nil | refine obs_same ?_ | refine obs_and ?_ | refine obs_by (by (simp [inB] <;> omega)) ?_))⟩)⟩ rfl rfl rfl rfl (lexg_g (I := inf) (J := jnf) none ⟨⟨_, rfl, (by repeat (first | exact obs_nil | refine obs_same ?_ | refine obs_and ?_ | refine obs_by (by (simp [inB] <;> omega)) ?_))⟩, (by first | exact .inl (by decide +kernel) | exact .inr ⟨_, rfl, (by repeat (first | exact obs_nil | refine obs_same ?_ | refine obs_and ?_ | refine obs_by (by (simp [inB] <;> omega)) ?_))⟩)⟩ rfl rfl rfl rfl (lexg_g (I := inf) (J := jnf) (some .store) ⟨⟨_, rfl, (by repeat (first | exact obs_nil | refine obs_same ?_ | refine obs_and ?_ | refine obs_by (by (simp [inB] <;> omega)) ?_))⟩, .inl rfl⟩ rfl rfl rfl rfl lexg_nil))) rfl (fun _ => ?_) (fun h => by cases h)
  refine runS_x (I := inf) (J := jnf) ⟨true, false, [122], 0, 0⟩ 9999 rfl (by repeat (first | exact obs_nil | refine obs_draw (by kernel_rfl) ?_ | refine obs_same ?_ | refine obs_and ?_ | refine obs_by (by (simp [inB] <;> omega)) ?_)) ?_
  refine runS_opA (.ptr 7 0 0) rfl rfl rfl (op_alloc0 (by kernel_rfl) rfl rfl) ?_
  refine runS_x (I := inf) (J := jnf) ⟨true, false, [122], 0, 0⟩ 9999 rfl (by repeat (first | exact obs_nil | refine obs_draw (by kernel_rfl) ?_ | refine obs_same ?_ | refine obs_and ?_ | refine obs_by (by (simp [inB] <;> omega)) ?_)) ?_
  refine runS_ret (I := inf) 0 rfl (Nat.le_refl _) rfl .nil rfl ⟨?_, rfl⟩
  rfl
theorem quo_fits (a b : Lg) (Q : Nat) (ha : Fits a 50 100) (hb : Fits b 50 100) (hQ : Q ≤ 31) : Fits (Dg.quoL a b Q) 1500 1000 := by
  obtain ⟨ha1, ha2, ha3⟩ := ha
  obtain ⟨hb1, hb2, hb3⟩ := hb
  have hmo : moreQ a b Q ≤ 400 := by unfold moreQ; omega
  have hmo0 : 0 ≤ moreQ a b Q := by unfold moreQ; omega
  have hul := frm_len_up a.m (moreQ a b Q).toNat
  have hol := frm_len_mono (Nat.div_le_self (a.m * 10 ^ (moreQ a b Q).toNat) b.m)
  unfold Dg.quoL
  split
  · exact ⟨by rw [frm_zero]; decide, by dsimp only; omega, by dsimp only; omega⟩
  · split
    · exact ⟨by dsimp only; omega, by dsimp only; omega, by dsimp only; omega⟩
    · refine ⟨?_, by dsimp only; omega, by dsimp only; omega⟩
      dsimp only
      rw [frm_pos (by omega), show (1 + 10 * (a.m * 10 ^ (moreQ a b Q).toNat / b.m)) / 10 = a.m * 10 ^ (moreQ a b Q).toNat / b.m by omega, List.length_cons]
      omega
theorem d_divC (a b : Lg) (t : Typ) (Q : Nat) (hQ : t.q = Q) (ha : Fits a 50 100) (hb : Fits b 50 100) (hQ2 : Q ≤ 31) (hb0 : b.m ≠ 0) : CallT Tryz.prog 58 [lgA a, lgA b, .loc (typE t) 0] [] (fun o A => o = .ret (lgA (Dg.quoL a b Q)) ∧ A = []) := by
  have hq := d_quotient a b Q ⟨by have := ha.1; omega, by have := ha.2; omega, by have := ha.3; omega⟩ ⟨by have := hb.1; omega, by have := hb.2; omega, by have := hb.3; omega⟩ hQ2 hb0
  rw [← hQ] at hq
  refine callS_body (n := 17) rfl rfl fun w ρ X => ?_
  refine runS_x (I := inf) (J := jnf) ⟨false, false, [], 0, 0⟩ 9999 rfl (by repeat (first | exact obs_nil | refine obs_draw (by kernel_rfl) ?_ | refine obs_same ?_ | refine obs_and ?_ | refine obs_by (by (simp [inB] <;> omega)) ?_)) ?_
  refine runS_cond rfl (fun h => ?_) (fun h => ?_)
  · exfalso
    have : (((frm b.m).length : Int) == 0) = true := h
    simp only [beq_iff_eq] at this
    exact hb0 (frm_len0.1 (by omega))
  · refine runS_x (I := inf) (J := jnf) ⟨false, false, [], 0, 0⟩ 9999 rfl (by repeat (first | exact obs_nil | refine obs_draw (by kernel_rfl) ?_ | refine obs_same ?_ | refine obs_and ?_ | refine obs_by (by (simp [inB] <;> omega)) ?_)) ?_
    refine runS_call rfl rfl rfl rfl rfl rfl rfl hq ?_
    refine runS_x (I := inf) (J := jnf) ⟨false, false, [], 0, 0⟩ 9999 rfl (by repeat (first | exact obs_nil | refine obs_draw (by kernel_rfl) ?_ | refine obs_same ?_ | refine obs_and ?_ | refine obs_by (by (simp [inB] <;> omega)) ?_)) ?_
    refine runS_ret (I := inf) 0 rfl (Nat.le_refl _) rfl .nil rfl ⟨?_, rfl⟩
    rfl
theorem d_DivideE (a b : Vl) (t : Typ) (he : askL (some t) [a, b] ≠ 0) : CallT Tryz.prog 16 [.agg (vlE a), .agg (vlE b), .agg (typE t)] [] (fun o A => o = .ret (errA (askL (some t) [a, b])) ∧ A = []) := by
  refine callS_body (n := 17) rfl rfl fun w ρ X => ?_
  refine runS_x (I := inf) (J := jnf) ⟨false, false, [], 0, 0⟩ 9999 rfl (by repeat (first | exact obs_nil | refine obs_draw (by kernel_rfl) ?_ | refine obs_same ?_ | refine obs_and ?_ | refine obs_by (by (simp [inB] <;> omega)) ?_)) ?_
  refine runS_freezeBox 2 rfl rfl rfl ?_
  refine runS_call rfl rfl rfl rfl rfl rfl rfl (d_reckonE a b t 58 [.loc (typE t) 0] he) ?_
  refine runS_x (I := inf) (J := jnf) ⟨false, false, [], 0, 0⟩ 9999 rfl (by repeat (first | exact obs_nil | refine obs_draw (by kernel_rfl) ?_ | refine obs_same ?_ | refine obs_and ?_ | refine obs_by (by (simp [inB] <;> omega)) ?_)) ?_
  refine runS_ret (I := inf) 0 rfl (Nat.le_refl _) rfl .nil rfl ⟨?_, rfl⟩
  rfl
theorem d_Divide (a b : Vl) (t : Typ) (he : askL (some t) [a, b] = 0) (hb0 : b.n ≠ 0) : CallT Tryz.prog 16 [.agg (vlE a), .agg (vlE b), .agg (typE t)] [] (fun o A => o = .ret (resA t.kind (fitL t.kind t.p.toNat t.q.toNat (Dg.quoL (ext a) (ext b) t.q.toNat) 2)) ∧ A = []) := by
  obtain ⟨hnum, htn⟩ := ask_num he
  obtain ⟨hv, hkt⟩ := htn t rfl
  obtain ⟨hra, hka⟩ := hnum a (by simp)
  obtain ⟨hrb, hkb⟩ := hnum b (by simp)
  obtain ⟨P, Q, hP, hQ, hP1, hP2, hQ2, hkd⟩ := valid_num hv hkt
  have hfa := ext_fits a hra hka
  have hfb := ext_fits b hrb hkb
  have hq := d_divC (ext a) (ext b) t Q hQ hfa hfb hQ2 (fun e => hb0 (exact_m0.1 e))
  have hqe : t.q.toNat = Q := by omega
  rw [hqe]
  have hr := d_reckonT a b t 58 (Dg.quoL (ext a) (ext b) Q) he hq (quo_fits _ _ Q hfa hfb hQ2)
  rw [hqe] at hr
  refine callS_body (n := 17) rfl rfl fun w ρ X => ?_
  refine runS_x (I := inf) (J := jnf) ⟨false, false, [], 0, 0⟩ 9999 rfl (by repeat (first | exact obs_nil | refine obs_draw (by kernel_rfl) ?_ | refine obs_same ?_ | refine obs_and ?_ | refine obs_by (by (simp [inB] <;> omega)) ?_)) ?_
  refine runS_freezeBox 2 rfl rfl rfl ?_
  refine runS_call rfl rfl rfl rfl rfl rfl rfl hr ?_
  refine runS_x (I := inf) (J := jnf) ⟨false, false, [], 0, 0⟩ 9999 rfl (by repeat (first | exact obs_nil | refine obs_draw (by kernel_rfl) ?_ | refine obs_same ?_ | refine obs_and ?_ | refine obs_by (by (simp [inB] <;> omega)) ?_)) ?_
  refine runS_ret (I := inf) 0 rfl (Nat.le_refl _) rfl .nil rfl ⟨?_, rfl⟩
  rfl
end Go.Iron.Tryz

/- The digits' seat: builders among other objects. -/
namespace Go.Iron.Tryz
open Go.Proofs Go.RowKit Go.Iron.Tok Go.Iron.Dg

def byR (l : Str) : Nat → List AV := encR (fun b => [uv b.toNat]) 0 l
abbrev bPtr : AV := .ptr 2 0 0
abbrev nilP : AV := .val (.pointer none)
structure Six where
  o0 : AO
  o1 : AO
  o3 : AO
  o4 : AO
  o5 : AO
structure Six.Ok (z : Six) : Prop where
  k0 : ∀ l, Kept 7 l → Kept 7 (z.o0 :: z.o1 :: l)
  k3 : ∀ l, Kept 7 l → Kept 7 (z.o3 :: z.o4 :: z.o5 :: l)
abbrev blV (z : Six) (a : AV) (v : Nat) (l : Str) : List AO := [z.o0, z.o1, .box 148 [a, .row 6 v], z.o3, z.o4, z.o5, .row 5 1 v l.length (byR l)]
theorem kBV {z : Six} (hz : z.Ok) {a : AV} (ha : a = nilP ∨ a = bPtr) (v : Nat) (l : Str) : Kept 7 (blV z a v l) := by
  rcases ha with rfl | rfl
  · exact hz.k0 _ (.box rfl (hz.k3 _ (.row (fun j hj => rfl) .nil)))
  · exact hz.k0 _ (.box rfl (hz.k3 _ (.row (fun j hj => rfl) .nil)))
theorem infoB : ∃ j, Tryz.prog.info? 148 = some j ∧ j.size ≠ 0 := by
  obtain ⟨j, hj, hs⟩ := Option.map_eq_some_iff.1 (show (Tryz.prog.info? 148).map (·.size) = some 2 from by kernel_rfl)
  exact ⟨j, hj, by rw [hs]; decide⟩
theorem b_check {z : Six} (hz : z.Ok) {a : AV} (ha : a = nilP ∨ a = bPtr) (v : Nat) (l : Str) : CallT Tryz.prog 187 [bPtr] (blV z a v l) (fun o A => o = .ret (.tup []) ∧ A = blV z bPtr v l) := by
  obtain ⟨j, hj, hzz⟩ := infoB
  rcases ha with rfl | rfl
  · refine callS_body (n := 20) rfl rfl fun w ρ X => ?_
    refine runS_x (I := inf) (J := jnf) ⟨false, false, [], 0, 0⟩ 9999 rfl (by repeat (first | exact obs_nil | refine obs_draw (by kernel_rfl) ?_ | refine obs_same ?_ | refine obs_and ?_ | refine obs_by (by (simp [inB] <;> omega)) ?_)) ?_
    refine runS_op (.val (.bool true)) rfl rfl rfl (op_pnilNil Tryz.underlying146 rfl rfl rfl) ?_
    refine runS_x (I := inf) (J := jnf) ⟨false, false, [], 0, 0⟩ 9999 rfl (by repeat (first | exact obs_nil | refine obs_draw (by kernel_rfl) ?_ | refine obs_same ?_ | refine obs_and ?_ | refine obs_by (by (simp [inB] <;> omega)) ?_)) ?_
    refine runS_cond rfl (fun h => ?_) (fun h => by cases h)
    refine runS_x (I := inf) (J := jnf) ⟨false, false, [], 0, 0⟩ 9999 rfl (by repeat (first | exact obs_nil | refine obs_draw (by kernel_rfl) ?_ | refine obs_same ?_ | refine obs_and ?_ | refine obs_by (by (simp [inB] <;> omega)) ?_)) ?_
    refine runS_op bPtr rfl rfl rfl (op_toUnsafe Tryz.underlying146 Tryz.underlying234 hj hzz rfl rfl rfl rfl) ?_
    refine runS_x (I := inf) (J := jnf) ⟨false, false, [], 0, 0⟩ 9999 rfl (by repeat (first | exact obs_nil | refine obs_draw (by kernel_rfl) ?_ | refine obs_same ?_ | refine obs_and ?_ | refine obs_by (by (simp [inB] <;> omega)) ?_)) ?_
    refine runS_op bPtr rfl rfl rfl (op_noEscape Tryz.func212 (by kernel_rfl) (by kernel_rfl) (by kernel_rfl) (by kernel_rfl) rfl rfl) ?_
    refine runS_x (I := inf) (J := jnf) ⟨false, false, [], 0, 0⟩ 9999 rfl (by repeat (first | exact obs_nil | refine obs_draw (by kernel_rfl) ?_ | refine obs_same ?_ | refine obs_and ?_ | refine obs_by (by (simp [inB] <;> omega)) ?_)) ?_
    refine runS_op bPtr rfl rfl rfl (op_fromUnsafe Tryz.underlying234 Tryz.underlying146 hj (by kernel_rfl) rfl rfl rfl) ?_
    refine runS_x (I := inf) (J := jnf) ⟨false, false, [], 0, 0⟩ 9999 rfl (by repeat (first | exact obs_nil | refine obs_draw (by kernel_rfl) ?_ | refine obs_same ?_ | refine obs_and ?_ | refine obs_by (by (simp [inB] <;> omega)) ?_)) ?_
    exact runS_ret (I := inf) 7 rfl (Nat.le_refl _) rfl (kBV hz (.inr rfl) v l) rfl ⟨rfl, rfl⟩
  · refine callS_body (n := 20) rfl rfl fun w ρ X => ?_
    refine runS_x (I := inf) (J := jnf) ⟨false, false, [], 0, 0⟩ 9999 rfl (by repeat (first | exact obs_nil | refine obs_draw (by kernel_rfl) ?_ | refine obs_same ?_ | refine obs_and ?_ | refine obs_by (by (simp [inB] <;> omega)) ?_)) ?_
    refine runS_op (.val (.bool false)) rfl rfl rfl (op_ptrNil Tryz.underlying146 rfl rfl rfl rfl) ?_
    refine runS_x (I := inf) (J := jnf) ⟨false, false, [], 0, 0⟩ 9999 rfl (by repeat (first | exact obs_nil | refine obs_draw (by kernel_rfl) ?_ | refine obs_same ?_ | refine obs_and ?_ | refine obs_by (by (simp [inB] <;> omega)) ?_)) ?_
    refine runS_cond rfl (fun h => by cases h) (fun h => ?_)
    refine runS_x (I := inf) (J := jnf) ⟨false, false, [], 0, 0⟩ 9999 rfl (by repeat (first | exact obs_nil | refine obs_draw (by kernel_rfl) ?_ | refine obs_same ?_ | refine obs_and ?_ | refine obs_by (by (simp [inB] <;> omega)) ?_)) ?_
    refine runS_op (.val (.bool false)) rfl rfl rfl (op_neqSame Tryz.underlying146 hj rfl rfl rfl rfl) ?_
    refine runS_x (I := inf) (J := jnf) ⟨false, false, [], 0, 0⟩ 9999 rfl (by repeat (first | exact obs_nil | refine obs_draw (by kernel_rfl) ?_ | refine obs_same ?_ | refine obs_and ?_ | refine obs_by (by (simp [inB] <;> omega)) ?_)) ?_
    refine runS_cond rfl (fun h => by cases h) (fun h => ?_)
    refine runS_x (I := inf) (J := jnf) ⟨false, false, [], 0, 0⟩ 9999 rfl (by repeat (first | exact obs_nil | refine obs_draw (by kernel_rfl) ?_ | refine obs_same ?_ | refine obs_and ?_ | refine obs_by (by (simp [inB] <;> omega)) ?_)) ?_
    exact runS_ret (I := inf) 7 rfl (Nat.le_refl _) rfl (kBV hz (.inr rfl) v l) rfl ⟨rfl, rfl⟩
theorem byR_snoc {acc : Str} {v : UInt8} {r2 : Nat → List AV} (h : r2 0 = [uv v.toNat]) : ∀ j, j < acc.length + 1 → byR (acc ++ [v]) j = appR acc.length (byR acc) r2 j := fun j hj => encR_snoc (enc := fun b : UInt8 => [uv b.toNat]) h j hj
theorem b_byte {z : Six} (hz : z.Ok) {a : AV} (ha : a = nilP ∨ a = bPtr) (v : Nat) (l : Str) (c : UInt8) (hl : l.length ≤ 100000000) : CallT Tryz.prog 118 [bPtr, uv c.toNat] (blV z a v l) (fun o A => o = .ret (.val .nilIface) ∧ A = blV z bPtr (v + 1) (l ++ [c])) := by
  refine callS_body (n := 17) rfl rfl fun w ρ X => ?_
  refine runS_x (I := inf) (J := jnf) ⟨false, false, [], 0, 0⟩ 9999 rfl (by repeat (first | exact obs_nil | refine obs_draw (by kernel_rfl) ?_ | refine obs_same ?_ | refine obs_and ?_ | refine obs_by (by (simp [inB] <;> omega)) ?_)) ?_
  refine runS_callF (blV z a v l) (blV z bPtr v l) [] rfl rfl rfl rfl rfl (show _ = [bPtr] from rfl) rfl (kBV hz ha v l) rfl rfl (b_check hz ha v l) ?_
  refine runS_x (I := inf) (J := jnf) ⟨false, false, [], 0, 0⟩ 9999 rfl (by repeat (first | exact obs_nil | refine obs_draw (by kernel_rfl) ?_ | refine obs_same ?_ | refine obs_and ?_ | refine obs_by (by (simp [inB] <;> omega)) ?_)) ?_
  refine runS_tell 6 (byR (l ++ [c])) rfl (m' := l.length + 1) rfl (byR_snoc rfl) rfl ?_
  have hl' : (l ++ [c]).length = l.length + 1 := by simp
  have hkk := kBV hz (.inr rfl) (v + 1) (l ++ [c])
  unfold blV at hkk ⊢
  rw [hl'] at hkk ⊢
  exact runS_ret (I := inf) 7 rfl (Nat.le_refl _) rfl hkk rfl ⟨rfl, rfl⟩
theorem b_text {z : Six} (hz : z.Ok) (v : Nat) (l : Str) (hl : l.length ≤ 100000000) (h0 : 0 < l.length) : CallT Tryz.prog 119 [bPtr] (blV z bPtr v l) (fun o A => o = .ret (sv l) ∧ A = [z.o0, z.o1, .box 148 [bPtr, .row 6 v], z.o3, z.o4, z.o5, .gone]) := by
  refine callS_body (n := 14) rfl rfl fun w ρ X => ?_
  refine runS_x (I := inf) (J := jnf) ⟨false, false, [], 0, 0⟩ 9999 rfl (by repeat (first | exact obs_nil | refine obs_draw (by kernel_rfl) ?_ | refine obs_same ?_ | refine obs_and ?_ | refine obs_by (by (simp [inB] <;> omega)) ?_)) ?_
  refine runS_draw 10 (by kernel_rfl) (lexj_x (I := inf) (J := jnf) 99 rfl rfl (by repeat (first | exact obs_nil | refine obs_same ?_ | refine obs_and ?_ | refine obs_by (by simp) ?_)) (lexj_sliceData rfl rfl rfl rfl rfl rfl rfl h0 (lexj_x (I := inf) (J := jnf) 99 rfl rfl (by repeat (first | exact obs_nil | refine obs_same ?_ | refine obs_and ?_ | refine obs_by (by simp) ?_)) lexj_nil))) ?_
  refine runS_x (I := inf) (J := jnf) ⟨false, false, [], 0, 0⟩ 9999 rfl (by repeat (first | exact obs_nil | refine obs_draw (by kernel_rfl) ?_ | refine obs_same ?_ | refine obs_and ?_ | refine obs_by (by (simp [inB] <;> omega)) ?_)) ?_
  refine runS_opA (.val (.string (bs l))) rfl rfl rfl (op_unsafeString Tryz.underlying215 (by kernel_rfl) rfl rfl rfl rfl h0 l rfl (fun i b hi => ?_) rfl) ?_
  · show [uv (l.getD i 0).toNat] = _
    rw [List.getD_eq_getElem?_getD, hi]
    rfl
  refine runS_x (I := inf) (J := jnf) ⟨false, false, [], 0, 0⟩ 9999 rfl (by repeat (first | exact obs_nil | refine obs_draw (by kernel_rfl) ?_ | refine obs_same ?_ | refine obs_and ?_ | refine obs_by (by (simp [inB] <;> omega)) ?_)) ?_
  exact runS_ret (I := inf) 7 rfl (Nat.le_refl _) rfl (hz.k0 _ (.box rfl (hz.k3 _ (.gone .nil)))) rfl ⟨rfl, rfl⟩
end Go.Iron.Tryz

/- The digits' seat: the text of a fixed number that is not 0. -/
namespace Go.Iron.Tryz
open Go.Proofs Go.RowKit Go.Iron.Tok Go.Iron.Dg

theorem digB_nat {d : Nat} (h : d < 10) : (digB d).toNat = 48 + d := by
  unfold digB
  rw [UInt8.toNat_ofNat']
  omega
theorem repeat_zero (c : Nat) : Lib.repeatL [48] c = List.replicate c 48 := by
  induction c with
  | zero => rfl
  | succ c ih =>
    show [48] ++ Lib.repeatL [48] c = _
    rw [ih, List.replicate_succ]
    rfl
theorem drop_rev {A : List Nat} {k : Nat} (hk : k < A.length) : ((A.drop k).reverse.map digB) = ((A.drop (k + 1)).reverse.map digB) ++ [digB (A.getD k 0)] := by
  rw [List.drop_eq_getElem_cons hk, List.reverse_cons, List.map_append, List.getD_eq_getElem?_getD, List.getElem?_eq_getElem hk]
  rfl
theorem d_Text12 (v : Vl) (hr : v.right = true) (hk : v.kind = 1 ∨ v.kind = 2) (hn : v.n ≠ 0) : CallT Tryz.prog 53 [.agg (vlE v)] [] (fun o A => o = .ret (.tup [sv (textL (decide (v.n < 0)) (ext v).m v.q.toNat), iv 0]) ∧ A = []) := by
  have hkn : numK v.kind = true := by rcases hk with h | h <;> rw [h] <;> rfl
  obtain ⟨h1, h2, h3, h4, h5, h6⟩ := right_num hr hkn
  have hask : askL none [v] = 0 := by
    unfold askL
    rw [if_neg (by simp [hr]), if_neg (by simp), if_neg (by simp [hkn]), if_neg (by simp)]
  have hak := d_askedN none [v] (by simp)
  rw [hask] at hak
  have hex : CallT Tryz.prog 102 [.agg (vlE v)] [] (fun o A => o = .ret (.agg [limS none (frm (ext v).m), bv (ext v).neg, iv (ext v).exp]) ∧ A = []) := d_exactV v hr hkn
  have hm0 : (ext v).m ≠ 0 := fun e => hn (exact_m0.1 e)
  have hfit := (ext_fits v hr hkn).1
  obtain ⟨Q, hQ⟩ : ∃ Q : Nat, v.q = (Q : Int) := ⟨v.q.toNat, by have := h3 (by omega); omega⟩
  have hQ31 : Q ≤ 31 := by have := h3 (by omega); omega
  have hk3 : (v.kind == 3) = false := by rcases hk with h | h <;> rw [h] <;> rfl
  obtain ⟨sg, hsg⟩ : ∃ sg : Str, sg = if decide (v.n < 0) = true then [45] else [] := ⟨_, rfl⟩
  have hsgl : sg.length ≤ 1 := by rw [hsg]; split <;> simp
  have hA0 : 0 < (frm (ext v).m).length := Nat.pos_of_ne_zero fun e => hm0 (frm_len0.1 e)
  have hdA := fun d (hd : d ∈ frm (ext v).m) => frm_digit hd
  unfold textL
  rw [← hsg, show v.q.toNat = Q by omega]
  unfold digs
  generalize hAe : frm (ext v).m = A at *
  have hw0 : IntKind.wrap .i64 ((A.length : Int) - 1) = (A.length : Int) - 1 := w64 (by omega) (by omega)
  refine callS_body (n := 96) rfl rfl fun w ρ X => ?_
  refine runS_x (I := inf) (J := jnf) ⟨false, false, [], 0, 0⟩ 9999 rfl (by repeat (first | exact obs_nil | refine obs_draw (by kernel_rfl) ?_ | refine obs_same ?_ | refine obs_and ?_ | refine obs_by (by (simp [inB] <;> omega)) ?_)) ?_
  refine runS_tell 1 (vlR [v]) rfl (m' := 1) rfl (fun j hj => ?_) rfl ?_
  · rcases j with _ | j <;> first | rfl | omega
  refine runS_freeze 13 rfl rfl rfl (fun j hj => ?_) ?_
  · rcases j with _ | j <;> first | rfl | omega
  refine runS_call rfl rfl rfl rfl rfl rfl rfl hak ?_
  refine runS_x (I := inf) (J := jnf) ⟨false, false, [], 0, 0⟩ 9999 rfl (by repeat (first | exact obs_nil | refine obs_draw (by kernel_rfl) ?_ | refine obs_same ?_ | refine obs_and ?_ | refine obs_by (by (simp [inB] <;> omega)) ?_)) ?_
  refine runS_cond rfl (fun h => by cases h) (fun h => ?_)
  refine runS_x (I := inf) (J := jnf) ⟨false, false, [], 0, 0⟩ 9999 rfl (by repeat (first | exact obs_nil | refine obs_draw (by kernel_rfl) ?_ | refine obs_same ?_ | refine obs_and ?_ | refine obs_by (by (simp [inB] <;> omega)) ?_)) ?_
  refine runS_cut (fun τ ar => (τ 1 = .ptr 0 0 0 ∧ τ 5 = sv sg) ∧ ar = [.box 23 (vlE v), .gone]) (fun rest => ?_) ?_
  · refine runS_cond rfl (fun h2 => ?_) (fun h2 => ?_)
    · have e : sg = [45] := by rw [hsg]; exact if_pos h2
      refine runS_x (I := inf) (J := jnf) ⟨false, false, [], 2, 0⟩ 9999 rfl (by repeat (first | exact obs_nil | refine obs_draw (by kernel_rfl) ?_ | refine obs_same ?_ | refine obs_and ?_ | refine obs_by (by (simp [inB] <;> omega)) ?_)) ?_
      exact rest _ _ ⟨⟨rfl, by rw [e]; rfl⟩, rfl⟩
    · have e : sg = [] := by rw [hsg, show decide (v.n < 0) = false from h2]; rfl
      refine runS_x (I := inf) (J := jnf) ⟨false, false, [], 2, 0⟩ 9999 rfl (by repeat (first | exact obs_nil | refine obs_draw (by kernel_rfl) ?_ | refine obs_same ?_ | refine obs_and ?_ | refine obs_by (by (simp [inB] <;> omega)) ?_)) ?_
      exact rest _ _ ⟨⟨rfl, by rw [e]; rfl⟩, rfl⟩
  rintro τ2 ar2 ⟨⟨g1, g5⟩, rfl⟩
  refine runS_says 1 (by exact g1) (Says.refl _) ?_; refine runS_says 5 (by exact g5) (Says.refl _) ?_
  refine runS_x (I := inf) (J := jnf) ⟨false, false, [], 0, 0⟩ 9999 rfl (by repeat (first | exact obs_nil | refine obs_draw (by kernel_rfl) ?_ | refine obs_same ?_ | refine obs_and ?_ | refine obs_by (by (simp [inB] <;> omega)) ?_)) ?_
  refine runS_cond rfl (fun h2 => by rw [show (v.kind == 3) = true from h2] at hk3; cases hk3) (fun h2 => ?_)
  refine runS_x (I := inf) (J := jnf) ⟨false, false, [], 0, 0⟩ 9999 rfl (by repeat (first | exact obs_nil | refine obs_draw (by kernel_rfl) ?_ | refine obs_same ?_ | refine obs_and ?_ | refine obs_by (by (simp [inB] <;> omega)) ?_)) ?_
  refine runS_call rfl rfl rfl rfl rfl rfl rfl hex ?_
  refine runS_x (I := inf) (J := jnf) ⟨false, false, [117, 186], 0, 0⟩ 9999 rfl (by repeat (first | exact obs_nil | refine obs_draw (by kernel_rfl) ?_ | refine obs_same ?_ | refine obs_and ?_ | refine obs_by (by (simp [inB] <;> omega)) ?_)) ?_
  refine runS_nilRowBox 2 1 5 1 (byR []) rfl rfl rfl rfl rfl ?_
  refine runS_forget 7 rfl ?_; refine runS_forgetLoop 7 5 rfl rfl ?_
  refine runS_name 5 rfl (fun L => rfl) (fun L hL => ?_)
  refine runS_while (fun (z : Nat × AV) τ ar => (τ 0 = .yld 5 ∧ τ 1 = .ptr 3 0 0 ∧ τ 3 = iv ((z.1 : Int) - 1)) ∧ ar = [.box 23 (vlE v), .gone, .box 148 [z.2, .row 6 ((A.drop z.1).reverse.map digB).length], .box 72 [limS none A], .dfr true, L, .row 5 1 ((A.drop z.1).reverse.map digB).length ((A.drop z.1).reverse.map digB).length (byR ((A.drop z.1).reverse.map digB))] ∧ z.1 ≤ A.length ∧ (z.2 = nilP ∨ z.2 = bPtr) ∧ (z.1 < A.length → z.2 = bPtr)) (fun z => z.1) (A.length, nilP) ⟨⟨rfl, rfl, congrArg iv hw0⟩, by rw [List.drop_length]; rfl, Nat.le_refl _, .inl rfl, fun h => absurd h (Nat.lt_irrefl _)⟩ ?_
  rintro ⟨i, a⟩ τ' ar' ⟨⟨g0, g1, g3⟩, rfl, hi, ha, hab⟩ ih
  dsimp only at g3 hi ha hab ih ⊢
  subst hL
  refine runS_says 0 (by exact g0) (Says.refl _) ?_; refine runS_says 1 (by exact g1) (Says.refl _) ?_; refine runS_says 3 (by exact g3) (Says.refl _) ?_
  refine runS_x (I := inf) (J := jnf) ⟨false, false, [], 0, 0⟩ 9999 rfl (by repeat (first | exact obs_nil | refine obs_draw (by kernel_rfl) ?_ | refine obs_same ?_ | refine obs_and ?_ | refine obs_by (by (simp [inB] <;> omega)) ?_)) ?_
  refine runS_cond rfl (fun h => ?_) (fun h => ?_)
  · have hi0 : 0 < i := by
      have : decide ((i : Int) - 1 ≥ 0) = true := h
      simp at this
      omega
    obtain ⟨k, rfl⟩ : ∃ k, i = k + 1 := ⟨i - 1, by omega⟩
    have hkk : k < A.length := by omega
    have e1 : (((k + 1 : Nat) : Int) - 1) = (k : Int) := by omega
    rw [e1] at g3 ⊢
    have hwk : IntKind.wrap .i64 ((k : Int) - 1) = (k : Int) - 1 := w64 (by omega) (by omega)
    have hd9 := getD_lt hdA k
    have hbn : (((digB (A.getD k 0)).toNat : Nat) : Int) = IntKind.wrap .u8 (48 + ((A.getD k 0 : Nat) : Int)) := by rw [digB_nat hd9, w8 (by omega) (by omega)]; rfl
    have hdr := drop_rev hkk
    have hll : ((A.drop (k + 1)).reverse.map digB).length ≤ 100 := by simp; omega
    generalize hle : (A.drop (k + 1)).reverse.map digB = l at *
    refine runS_x (I := inf) (J := jnf) ⟨false, false, [], 0, 0⟩ 9999 rfl (by repeat (first | exact obs_nil | refine obs_draw (by kernel_rfl) ?_ | refine obs_same ?_ | refine obs_and ?_ | refine obs_by (by (simp [inB, hkk] <;> omega)) ?_)) ?_
    refine runS_name 5 rfl (fun L => rfl) (fun L hL => ?_)
    have hz : Six.Ok ⟨.box 23 (vlE v), .gone, .box 72 [limS none A], .dfr true, L⟩ := ⟨fun l h => .box rfl (.gone h), fun l h => by rw [hL]; exact .box rfl (.dfr (.loop (scrub_under _ _) h))⟩
    have hbb := b_byte hz ha l.length l (digB (A.getD k 0)) (by omega)
    unfold uv at hbb
    rw [hbn] at hbb
    refine runS_callF (blV ⟨.box 23 (vlE v), .gone, .box 72 [limS none A], .dfr true, L⟩ a l.length l) (blV ⟨.box 23 (vlE v), .gone, .box 72 [limS none A], .dfr true, L⟩ bPtr (l.length + 1) (l ++ [digB (A.getD k 0)])) [] rfl rfl rfl rfl rfl (show _ = _ from rfl) rfl (kBV hz ha l.length l) rfl rfl hbb ?_
    subst hL
    refine runS_x (I := inf) (J := jnf) ⟨true, false, [], 0, 0⟩ 9999 rfl (by repeat (first | exact obs_nil | refine obs_draw (by kernel_rfl) ?_ | refine obs_same ?_ | refine obs_and ?_ | refine obs_by (by (simp [inB] <;> omega)) ?_)) ?_
    refine runS_drop 7 (Nat.zero_le _) rfl (by repeat (first | exact .nil | refine .row (fun j hj => rfl) ?_ | refine .box rfl ?_ | refine .fam (fun k j hk hj => rfl) ?_ | refine .loop (scrub_under _ _) ?_ | refine .dfr ?_ | refine .gone ?_ | refine .map (fun p hp => by (obtain ⟨k, _, rfl⟩ := List.mem_map.1 hp; rfl)) ?_)) rfl rfl rfl (by repeat (first | exact .nil | refine .cons rfl rfl rfl (scrub_under _ _) ?_)) ?_
    refine ih (k, bPtr) _ _ (by dsimp only; omega) ⟨⟨rfl, rfl, congrArg iv hwk⟩, ?_, by dsimp only; omega, .inr rfl, fun _ => rfl⟩
    dsimp only
    rw [hdr, List.length_append]
    rfl
  · have hi0 : i = 0 := by
      have : decide ((i : Int) - 1 ≥ 0) = false := h
      simp at this
      omega
    subst hi0
    have hab0 := hab hA0
    subst hab0
    rw [List.drop_zero]
    refine runS_x (I := inf) (J := jnf) ⟨true, false, [], 0, 0⟩ 9999 rfl (by repeat (first | exact obs_nil | refine obs_draw (by kernel_rfl) ?_ | refine obs_same ?_ | refine obs_and ?_ | refine obs_by (by (simp [inB] <;> omega)) ?_)) ?_
    have hDl : (A.reverse.map digB).length = A.length := by simp
    generalize A.reverse.map digB = D at *
    refine runS_name 5 rfl (fun L => rfl) (fun L hL => ?_)
    have hz : Six.Ok ⟨.box 23 (vlE v), .gone, .box 72 [limS none A], .dfr true, L⟩ := ⟨fun l h => .box rfl (.gone h), fun l h => by rw [hL]; exact .box rfl (.dfr (.loop (scrub_under _ _) h))⟩
    have hbt := b_text hz D.length D (by omega) (by omega)
    refine runS_callF (blV ⟨.box 23 (vlE v), .gone, .box 72 [limS none A], .dfr true, L⟩ bPtr D.length D) [.box 23 (vlE v), .gone, .box 148 [bPtr, .row 6 D.length], .box 72 [limS none A], .dfr true, L, .gone] [] rfl rfl rfl rfl rfl (show _ = _ from rfl) rfl (kBV hz (.inr rfl) D.length D) rfl rfl hbt ?_
    have hwl : IntKind.wrap .i64 (IntKind.wrap .i64 (v.q + 1) - ((bl (bs D)).length : Int)) = (Q : Int) + 1 - (D.length : Int) := by
      rw [blS, hQ, w64 (x := (Q : Int) + 1) (by omega) (by omega), w64 (by omega) (by omega)]
    refine runS_x (I := inf) (J := jnf) ⟨false, false, [], 0, 0⟩ 9999 rfl (by repeat (first | exact obs_nil | refine obs_draw (by kernel_rfl) ?_ | refine obs_same ?_ | refine obs_and ?_ | refine obs_by (by (simp [inB, blS] <;> omega)) ?_)) ?_
    refine runS_cut (fun τ ar => (τ 1 = .ptr 0 0 0 ∧ τ 5 = sv sg ∧ τ 10 = sv (padS Q D)) ∧ ar = [.box 23 (vlE v), .gone, .box 148 [bPtr, .row 6 D.length], .box 72 [limS none A], .dfr true, L, .gone]) (fun rest => ?_) ?_
    · refine runS_cond rfl (fun h2 => ?_) (fun h2 => ?_)
      · have hlk : D.length < Q + 1 := by
          have := of_decide_eq_true h2
          rw [hwl] at this
          omega
        have hrp := lib_repeat [48] (Q + 1 - D.length) (by decide) (by omega)
        rw [repeat_zero, show ((Q + 1 - D.length : Nat) : Int) = IntKind.wrap .i64 (IntKind.wrap .i64 (v.q + 1) - ((bl (bs D)).length : Int)) by rw [hwl]; omega] at hrp
        have hpl : (List.replicate (Q + 1 - D.length) (48 : UInt8)).length = Q + 1 - D.length := List.length_replicate
        refine runS_x (I := inf) (J := jnf) ⟨false, false, [], 2, 0⟩ 9999 rfl (by repeat (first | exact obs_nil | refine obs_draw (by kernel_rfl) ?_ | refine obs_same ?_ | refine obs_and ?_ | refine obs_by (by (simp [inB] <;> omega)) ?_)) ?_
        refine runS_call rfl rfl rfl rfl rfl rfl rfl hrp ?_
        refine runS_x (I := inf) (J := jnf) ⟨false, false, [], 2, 0⟩ 9999 rfl (by repeat (first | exact obs_nil | refine obs_draw (by kernel_rfl) ?_ | refine obs_same ?_ | refine obs_and ?_ | refine obs_by (by (simp [inB, blS, hpl] <;> omega)) ?_)) ?_
        exact rest _ _ ⟨⟨rfl, rfl, rfl⟩, rfl⟩
      · have hlk : ¬ D.length < Q + 1 := by
          have := of_decide_eq_false h2
          rw [hwl] at this
          omega
        have hpe : padS Q D = D := by
          unfold padS
          rw [show Q + 1 - D.length = 0 by omega]
          rfl
        refine runS_x (I := inf) (J := jnf) ⟨false, false, [], 2, 0⟩ 9999 rfl (by repeat (first | exact obs_nil | refine obs_draw (by kernel_rfl) ?_ | refine obs_same ?_ | refine obs_and ?_ | refine obs_by (by (simp [inB] <;> omega)) ?_)) ?_
        exact rest _ _ ⟨⟨rfl, rfl, by rw [hpe]; rfl⟩, rfl⟩
    rintro τ4 ar4 ⟨⟨g1, g5, g10⟩, rfl⟩
    subst hL
    have hpl := padS_len Q D
    have hpb : (padS Q D).length ≤ 100 := by unfold padS; simp; omega
    generalize padS Q D = E at *
    have hwd : IntKind.wrap .i64 (((bl (bs E)).length : Int) - v.q) = ((E.length - Q : Nat) : Int) := by rw [blS, hQ, w64 (by omega) (by omega)]; omega
    refine runS_says 1 (by exact g1) (Says.refl _) ?_; refine runS_says 5 (by exact g5) (Says.refl _) ?_; refine runS_says 10 (by exact g10) (Says.refl _) ?_
    refine runS_x (I := inf) (J := jnf) ⟨false, false, [], 0, 0⟩ 9999 rfl (by repeat (first | exact obs_nil | refine obs_draw (by kernel_rfl) ?_ | refine obs_same ?_ | refine obs_and ?_ | refine obs_by (by (simp [inB] <;> omega)) ?_)) ?_
    refine runS_cond rfl (fun h2 => ?_) (fun h2 => ?_)
    · have hQ0 : 0 < Q := by
        have := of_decide_eq_true h2
        omega
      have hwd2 : IntKind.wrap .i64 ((E.length : Int) - v.q) = ((E.length - Q : Nat) : Int) := hwd
      have hp1 : (part2 0 ((E.length - Q : Nat) : Int) E).length ≤ 100 := by unfold part2; simp; omega
      have hp2 : (part2 ((E.length - Q : Nat) : Int) (E.length : Int) E).length ≤ 100 := by unfold part2; simp; omega
      have hdot : (bl (ByteArray.mk #[46])).length = 1 := rfl
      refine runS_x (I := inf) (J := jnf) ⟨true, false, [], 0, 0⟩ 9999 rfl (by repeat (first | exact obs_nil | refine obs_draw (by kernel_rfl) ?_ | refine obs_same ?_ | refine obs_and ?_ | refine obs_by (by (simp [inB, blS, hwd2, hdot] <;> omega)) ?_)) ?_
      refine runS_ret (I := inf) 0 rfl (Nat.le_refl _) rfl .nil rfl ⟨?_, rfl⟩
      refine congrArg (fun z => Out.ret (.tup [sv z, iv 0])) ?_
      show sg ++ (((E.take (IntKind.wrap .i64 (((bl (bs E)).length : Int) - v.q)).toNat).drop (0 : Int).toNat ++ [46]) ++ (E.take ((E.length : Nat) : Int).toNat).drop (IntKind.wrap .i64 (((bl (bs E)).length : Int) - v.q)).toNat) = _
      rw [hwd]
      unfold pointS
      rw [Int.toNat_natCast, Int.toNat_natCast, if_pos hQ0, List.take_length]
      simp
    · have hQ0 : ¬ 0 < Q := by
        have := of_decide_eq_false h2
        omega
      refine runS_x (I := inf) (J := jnf) ⟨true, false, [], 0, 0⟩ 9999 rfl (by repeat (first | exact obs_nil | refine obs_draw (by kernel_rfl) ?_ | refine obs_same ?_ | refine obs_and ?_ | refine obs_by (by (simp [inB, blS] <;> omega)) ?_)) ?_
      refine runS_ret (I := inf) 0 rfl (Nat.le_refl _) rfl .nil rfl ⟨?_, rfl⟩
      unfold pointS
      rw [if_neg hQ0]
      rfl
end Go.Iron.Tryz

/- The digits' seat: awake. -/
namespace Go.Iron.Tryz
open Go.Proofs Go.RowKit Go.Iron.Tok Go.Iron.Dg

theorem l_awake : CallT Tryz.prog 15 [] [] (fun o A => o = .ret (bv true) ∧ A = []) := by
  have hd := d_Divide ⟨2, 1, 0, []⟩ ⟨2, 3, 0, []⟩ ⟨2, 15, 14, 0, false, []⟩ (by decide) (by decide)
  have hf : fitL 2 (15 : Int).toNat (14 : Int).toNat (Dg.quoL (ext ⟨2, 1, 0, []⟩) (ext ⟨2, 3, 0, []⟩) (14 : Int).toNat) 2 = (33333333333333, 14, 0) := third_fit
  dsimp only at hd
  rw [hf] at hd
  have ht := d_Text12 ⟨2, 33333333333333, 14, []⟩ (by decide) (.inr rfl) (by decide)
  have hx : textL (decide ((33333333333333 : Int) < 0)) (ext ⟨2, 33333333333333, 14, []⟩).m (14 : Int).toNat = [48, 46, 51, 51, 51, 51, 51, 51, 51, 51, 51, 51, 51, 51, 51, 51] := third_text
  dsimp only at ht
  rw [hx] at ht
  refine callS_body (n := 33) rfl rfl fun w ρ X => ?_
  refine runS_x (I := inf) (J := jnf) ⟨false, false, [], 0, 0⟩ 9999 rfl (by repeat (first | exact obs_nil | refine obs_draw (by kernel_rfl) ?_ | refine obs_same ?_ | refine obs_and ?_ | refine obs_by (by (simp [inB] <;> omega)) ?_)) ?_
  refine runS_call rfl rfl rfl rfl rfl rfl rfl hd ?_
  refine runS_x (I := inf) (J := jnf) ⟨false, false, [], 0, 0⟩ 9999 rfl (by repeat (first | exact obs_nil | refine obs_draw (by kernel_rfl) ?_ | refine obs_same ?_ | refine obs_and ?_ | refine obs_by (by (simp [inB] <;> omega)) ?_)) ?_
  refine runS_call rfl rfl rfl rfl rfl rfl rfl ht ?_
  refine runS_x (I := inf) (J := jnf) ⟨false, false, [], 0, 0⟩ 9999 rfl (by repeat (first | exact obs_nil | refine obs_draw (by kernel_rfl) ?_ | refine obs_same ?_ | refine obs_and ?_ | refine obs_by (by (simp [inB] <;> omega)) ?_)) ?_
  refine runS_ret (I := inf) 0 rfl (Nat.le_refl _) rfl .nil rfl ⟨?_, rfl⟩
  refine congrArg (fun x => Out.ret (bv x)) (?_ : _ = true)
  rw [show (ByteArray.mk #[48,46,51,51,51,51,51,51,51,51,51,51,51,51,51,51]) = bs [48,46,51,51,51,51,51,51,51,51,51,51,51,51,51,51] from rfl, bs_beq]
  decide
end Go.Iron.Tryz

/- The digits' seat: sums and differences; the order of numbers. -/
namespace Go.Iron.Tryz
open Go.Proofs Go.RowKit Go.Iron.Tok Go.Iron.Dg

theorem Fits.mono {a : Lg} {l l2 : Nat} {x x2 : Int} (h : Fits a l x) (hl : l ≤ l2) (hx : x ≤ x2) : Fits a l2 x2 := ⟨Nat.le_trans h.1 hl, by have := h.2; omega, by have := h.3; omega⟩
theorem frm_len_add (x y : Nat) : (frm (x + y)).length ≤ (frm x).length + (frm y).length + 1 := by
  refine frm_len_lt.2 ?_
  have h1 := frm_lt_pow x
  have h2 := frm_lt_pow y
  have h3 : 10 ^ (frm x).length ≤ 10 ^ ((frm x).length + (frm y).length) := Nat.pow_le_pow_right (by decide) (by omega)
  have h4 : 10 ^ (frm y).length ≤ 10 ^ ((frm x).length + (frm y).length) := Nat.pow_le_pow_right (by decide) (by omega)
  rw [Nat.pow_succ]
  omega
theorem sum_fits (a b : Lg) (ha : Fits a 50 100) (hb : Fits b 50 100) : Fits (sumL a b) 1500 1000 := by
  obtain ⟨ha1, ha2, ha3⟩ := ha
  obtain ⟨hb1, hb2, hb3⟩ := hb
  have hx := upM_len a (min a.exp b.exp)
  have hy := upM_len b (min a.exp b.exp)
  have hs := frm_len_add (upM a (min a.exp b.exp)) (upM b (min a.exp b.exp))
  have h1 := frm_len_mono (Nat.sub_le (upM a (min a.exp b.exp)) (upM b (min a.exp b.exp)))
  have h2 := frm_len_mono (Nat.sub_le (upM b (min a.exp b.exp)) (upM a (min a.exp b.exp)))
  unfold sumL
  split
  · exact ⟨by dsimp only; omega, by dsimp only; omega, by dsimp only; omega⟩
  · split
    · exact ⟨by dsimp only; omega, by dsimp only; omega, by dsimp only; omega⟩
    · exact ⟨by dsimp only; omega, by dsimp only; omega, by dsimp only; omega⟩
theorem flip_fits {a : Lg} {l : Nat} {x : Int} (h : Fits a l x) : Fits (flipL a) l x := ⟨h.1, h.2, h.3⟩
theorem d_subC (a b : Lg) (ha : Fits a 50 100) (hb : Fits b 50 100) : CallT Tryz.prog 90 [lgA a, lgA b] [] (fun o A => o = .ret (lgA (sumL a (flipL b))) ∧ A = []) := by
  have hs := d_sum a (flipL b) (ha.mono (by decide) (by decide)) ((flip_fits hb).mono (by decide) (by decide))
  refine callS_body (n := 12) rfl rfl fun w ρ X => ?_
  refine runS_x (I := inf) (J := jnf) ⟨false, false, [], 0, 0⟩ 9999 rfl (by repeat (first | exact obs_nil | refine obs_draw (by kernel_rfl) ?_ | refine obs_same ?_ | refine obs_and ?_ | refine obs_by (by (simp [inB] <;> omega)) ?_)) ?_
  refine runS_call rfl rfl rfl rfl rfl rfl rfl hs ?_
  refine runS_x (I := inf) (J := jnf) ⟨false, false, [], 0, 0⟩ 9999 rfl (by repeat (first | exact obs_nil | refine obs_draw (by kernel_rfl) ?_ | refine obs_same ?_ | refine obs_and ?_ | refine obs_by (by (simp [inB] <;> omega)) ?_)) ?_
  refine runS_ret (I := inf) 0 rfl (Nat.le_refl _) rfl .nil rfl ⟨?_, rfl⟩
  rfl
theorem d_Add (a b : Vl) (t : Typ) (he : askL (some t) [a, b] = 0) : CallT Tryz.prog 34 [.agg (vlE a), .agg (vlE b), .agg (typE t)] [] (fun o A => o = .ret (resA t.kind (fitL t.kind t.p.toNat t.q.toNat (sumL (ext a) (ext b)) 2)) ∧ A = []) := by
  obtain ⟨hnum, htn⟩ := ask_num he
  obtain ⟨hra, hka⟩ := hnum a (by simp)
  obtain ⟨hrb, hkb⟩ := hnum b (by simp)
  have hfa := ext_fits a hra hka
  have hfb := ext_fits b hrb hkb
  have hr := d_reckonV a b t 89 (sumL (ext a) (ext b)) he (d_sum (ext a) (ext b) (hfa.mono (by decide) (by decide)) (hfb.mono (by decide) (by decide))) (sum_fits _ _ hfa hfb)
  refine callS_body (n := 16) rfl rfl fun w ρ X => ?_
  refine runS_x (I := inf) (J := jnf) ⟨false, false, [], 0, 0⟩ 9999 rfl (by repeat (first | exact obs_nil | refine obs_draw (by kernel_rfl) ?_ | refine obs_same ?_ | refine obs_and ?_ | refine obs_by (by (simp [inB] <;> omega)) ?_)) ?_
  refine runS_call rfl rfl rfl rfl rfl rfl rfl hr ?_
  refine runS_x (I := inf) (J := jnf) ⟨false, false, [], 0, 0⟩ 9999 rfl (by repeat (first | exact obs_nil | refine obs_draw (by kernel_rfl) ?_ | refine obs_same ?_ | refine obs_and ?_ | refine obs_by (by (simp [inB] <;> omega)) ?_)) ?_
  refine runS_ret (I := inf) 0 rfl (Nat.le_refl _) rfl .nil rfl ⟨?_, rfl⟩
  rfl
theorem d_Subtract (a b : Vl) (t : Typ) (he : askL (some t) [a, b] = 0) : CallT Tryz.prog 35 [.agg (vlE a), .agg (vlE b), .agg (typE t)] [] (fun o A => o = .ret (resA t.kind (fitL t.kind t.p.toNat t.q.toNat (sumL (ext a) (flipL (ext b))) 2)) ∧ A = []) := by
  obtain ⟨hnum, htn⟩ := ask_num he
  obtain ⟨hra, hka⟩ := hnum a (by simp)
  obtain ⟨hrb, hkb⟩ := hnum b (by simp)
  have hfa := ext_fits a hra hka
  have hfb := ext_fits b hrb hkb
  have hr := d_reckonV a b t 90 (sumL (ext a) (flipL (ext b))) he (d_subC (ext a) (ext b) hfa hfb) (sum_fits _ _ hfa (flip_fits hfb))
  refine callS_body (n := 16) rfl rfl fun w ρ X => ?_
  refine runS_x (I := inf) (J := jnf) ⟨false, false, [], 0, 0⟩ 9999 rfl (by repeat (first | exact obs_nil | refine obs_draw (by kernel_rfl) ?_ | refine obs_same ?_ | refine obs_and ?_ | refine obs_by (by (simp [inB] <;> omega)) ?_)) ?_
  refine runS_call rfl rfl rfl rfl rfl rfl rfl hr ?_
  refine runS_x (I := inf) (J := jnf) ⟨false, false, [], 0, 0⟩ 9999 rfl (by repeat (first | exact obs_nil | refine obs_draw (by kernel_rfl) ?_ | refine obs_same ?_ | refine obs_and ?_ | refine obs_by (by (simp [inB] <;> omega)) ?_)) ?_
  refine runS_ret (I := inf) 0 rfl (Nat.le_refl _) rfl .nil rfl ⟨?_, rfl⟩
  rfl
theorem d_Compare (a b : Vl) : CallT Tryz.prog 42 [.agg (vlE a), .agg (vlE b)] [] (fun o A => o = .ret (if askL none [a, b] = 0 then .tup [iv (cmpL (ext a) (ext b)), iv 0] else .tup [iv 0, iv (askL none [a, b])]) ∧ A = []) := by
  have hak := d_askedN none [a, b] (by simp)
  refine callS_body (n := 34) rfl rfl fun w ρ X => ?_
  refine runS_x (I := inf) (J := jnf) ⟨false, false, [], 0, 0⟩ 9999 rfl (by repeat (first | exact obs_nil | refine obs_draw (by kernel_rfl) ?_ | refine obs_same ?_ | refine obs_and ?_ | refine obs_by (by (simp [inB] <;> omega)) ?_)) ?_
  refine runS_tell 2 (vlR [a, b]) rfl (m' := 2) rfl (fun j hj => ?_) rfl ?_
  · rcases j with _ | _ | j <;> first | rfl | omega
  refine runS_freeze 11 rfl rfl rfl (fun j hj => ?_) ?_
  · rcases j with _ | _ | j <;> first | rfl | omega
  refine runS_call rfl rfl rfl rfl rfl rfl rfl hak ?_
  refine runS_x (I := inf) (J := jnf) ⟨false, false, [], 0, 0⟩ 9999 rfl (by repeat (first | exact obs_nil | refine obs_draw (by kernel_rfl) ?_ | refine obs_same ?_ | refine obs_and ?_ | refine obs_by (by (simp [inB] <;> omega)) ?_)) ?_
  refine runS_cond rfl (fun h => ?_) (fun h => ?_)
  · have h0 : askL none [a, b] ≠ 0 := by
      have h3 : (!(askL none [a, b] == 0)) = true := h
      rw [Bool.not_eq_true', beq_eq_false_iff_ne] at h3
      exact h3
    rw [if_neg h0]
    refine runS_x (I := inf) (J := jnf) ⟨false, false, [], 0, 0⟩ 9999 rfl (by repeat (first | exact obs_nil | refine obs_draw (by kernel_rfl) ?_ | refine obs_same ?_ | refine obs_and ?_ | refine obs_by (by (simp [inB] <;> omega)) ?_)) ?_
    refine runS_ret (I := inf) 0 rfl (Nat.le_refl _) rfl .nil rfl ⟨?_, rfl⟩
    rfl
  · have h0 : askL none [a, b] = 0 := by
      have h3 : (!(askL none [a, b] == 0)) = false := h
      rw [Bool.not_eq_false', beq_iff_eq] at h3
      exact h3
    rw [if_pos h0]
    obtain ⟨hnum, _⟩ := ask_num h0
    obtain ⟨hra, hka⟩ := hnum a (by simp)
    obtain ⟨hrb, hkb⟩ := hnum b (by simp)
    have hfa := ext_fits a hra hka
    have hfb := ext_fits b hrb hkb
    have hs := d_sum (ext a) (flipL (ext b)) (hfa.mono (by decide) (by decide)) ((flip_fits hfb).mono (by decide) (by decide))
    refine runS_x (I := inf) (J := jnf) ⟨false, false, [], 0, 0⟩ 9999 rfl (by repeat (first | exact obs_nil | refine obs_draw (by kernel_rfl) ?_ | refine obs_same ?_ | refine obs_and ?_ | refine obs_by (by (simp [inB] <;> omega)) ?_)) ?_
    refine runS_call rfl rfl rfl rfl rfl rfl rfl (d_exactV b hrb hkb) ?_
    refine runS_x (I := inf) (J := jnf) ⟨false, false, [], 0, 0⟩ 9999 rfl (by repeat (first | exact obs_nil | refine obs_draw (by kernel_rfl) ?_ | refine obs_same ?_ | refine obs_and ?_ | refine obs_by (by (simp [inB] <;> omega)) ?_)) ?_
    refine runS_drawG (ch := []) (A2 := fun _ => []) 5 [4] (fun z => [.box 23 (vlE a), .box 23 (vlE b), .gone, .box 74 (lgE (flipL (ext b)))] ++ cond (z.getD 0 false) [.box 74 [.val (.slice none 0 0), bv false, iv 0]] []) none (c := 9) jnfI.draw (by kernel_rfl) rfl (lexg_g (I := inf) (J := jnf) none ⟨⟨_, rfl, (by repeat (first | exact obs_nil | refine obs_same ?_ | refine obs_and ?_ | refine obs_by (by (simp [inB] <;> omega)) ?_))⟩, (by first | exact .inl (by decide +kernel) | exact .inr ⟨_, rfl, (by repeat (first | exact obs_nil | refine obs_same ?_ | refine obs_and ?_ | refine obs_by (by (simp [inB] <;> omega)) ?_))⟩)⟩ rfl rfl rfl rfl (lexg_call rfl rfl rfl rfl rfl rfl rfl rfl rfl (d_exactV a hra hka) (lexg_g (I := inf) (J := jnf) none ⟨⟨_, rfl, (by repeat (first | exact obs_nil | refine obs_same ?_ | refine obs_and ?_ | refine obs_by (by (simp [inB] <;> omega)) ?_))⟩, (by first | exact .inl (by decide +kernel) | exact .inr ⟨_, rfl, (by repeat (first | exact obs_nil | refine obs_same ?_ | refine obs_and ?_ | refine obs_by (by (simp [inB] <;> omega)) ?_))⟩)⟩ rfl rfl rfl rfl (lexg_call rfl rfl rfl rfl rfl rfl rfl rfl rfl hs (lexg_a rfl rfl ⟨(show _ = _ from rfl), .inl rfl⟩ rfl rfl rfl rfl lexg_nil))))) rfl (fun _ => ?_) (fun h => by cases h)
    refine runS_x (I := inf) (J := jnf) ⟨false, false, [], 0, 0⟩ 9999 rfl (by repeat (first | exact obs_nil | refine obs_draw (by kernel_rfl) ?_ | refine obs_same ?_ | refine obs_and ?_ | refine obs_by (by (simp [inB] <;> omega)) ?_)) ?_
    unfold cmpL sigL
    generalize sumL (ext a) (flipL (ext b)) = S
    refine runS_cond rfl (fun h2 => ?_) (fun h2 => ?_)
    · have hm : S.m = 0 := by
        have : (((frm S.m).length : Int) == 0) = true := h2
        simp only [beq_iff_eq] at this
        exact frm_len0.1 (by omega)
      rw [if_pos hm]
      refine runS_x (I := inf) (J := jnf) ⟨false, false, [], 0, 0⟩ 9999 rfl (by repeat (first | exact obs_nil | refine obs_draw (by kernel_rfl) ?_ | refine obs_same ?_ | refine obs_and ?_ | refine obs_by (by (simp [inB] <;> omega)) ?_)) ?_
      refine runS_ret (I := inf) 0 rfl (Nat.le_refl _) rfl .nil rfl ⟨?_, rfl⟩
      rfl
    · have hm : S.m ≠ 0 := by
        have : (((frm S.m).length : Int) == 0) = false := h2
        simp only [beq_eq_false_iff_ne] at this
        exact fun e => this (by rw [e, frm_zero]; rfl)
      rw [if_neg hm]
      refine runS_x (I := inf) (J := jnf) ⟨false, false, [], 0, 0⟩ 9999 rfl (by repeat (first | exact obs_nil | refine obs_draw (by kernel_rfl) ?_ | refine obs_same ?_ | refine obs_and ?_ | refine obs_by (by (simp [inB] <;> omega)) ?_)) ?_
      refine runS_cond rfl (fun h3 => ?_) (fun h3 => ?_)
      · rw [if_pos h3]
        refine runS_x (I := inf) (J := jnf) ⟨false, false, [], 0, 0⟩ 9999 rfl (by repeat (first | exact obs_nil | refine obs_draw (by kernel_rfl) ?_ | refine obs_same ?_ | refine obs_and ?_ | refine obs_by (by (simp [inB] <;> omega)) ?_)) ?_
        refine runS_ret (I := inf) 0 rfl (Nat.le_refl _) rfl .nil rfl ⟨?_, rfl⟩
        rfl
      · rw [if_neg (by rw [show S.neg = false from h3]; decide)]
        refine runS_x (I := inf) (J := jnf) ⟨false, false, [], 0, 0⟩ 9999 rfl (by repeat (first | exact obs_nil | refine obs_draw (by kernel_rfl) ?_ | refine obs_same ?_ | refine obs_and ?_ | refine obs_by (by (simp [inB] <;> omega)) ?_)) ?_
        refine runS_ret (I := inf) 0 rfl (Nat.le_refl _) rfl .nil rfl ⟨?_, rfl⟩
        rfl
end Go.Iron.Tryz

/- The digits' seat: the reference's products and differences. -/
namespace Go.Iron.Tryz
open Go.Proofs Go.RowKit Go.Iron.Tok Go.Iron.Dg

theorem r_less (n1 n2 : Option Bool) (x y : Nat) (hyx : y ≤ x) (hl : (frm x).length ≤ 4000) : CallT Tryz.prog 66 [natS n1 (frm x), natS n2 (frm y)] [] (fun o A => o = .ret (natS none (frm (x - y))) ∧ A = []) := by
  have hda := fun d (hd : d ∈ frm x) => frm_digit hd
  have hdb := fun d (hd : d ∈ frm y) => frm_digit hd
  have hvx := val_frm x
  have hvy := val_frm y
  have hll := frm_len_mono hyx
  generalize frm x = A at *
  generalize frm y = B at *
  refine callS_body (n := 44) rfl rfl fun w ρ X => ?_
  refine runS_x (I := inf) (J := jnf) ⟨false, false, [], 0, 0⟩ 9999 rfl (by repeat (first | exact obs_nil | refine obs_draw (by kernel_rfl) ?_ | refine obs_same ?_ | refine obs_and ?_ | refine obs_by (by (simp [inB] <;> omega)) ?_)) ?_
  refine runS_tell 0 (rowN (fun j => A.getD j 0)) rfl (m' := A.length) (by simp) (fun j hj => (appR_ge (Nat.zero_le _)).symm) rfl ?_
  refine runS_while (fun (z : Nat × Nat × (Nat → Nat)) τ ar => (τ 1 = natS n2 B ∧ τ 5 = .row 0 1 ∧ τ 6 = iv z.2.1 ∧ τ 7 = iv z.1) ∧ ar = [.row 3 1 1 A.length (rowN z.2.2)] ∧ z.1 ≤ A.length ∧ LesI A B z.1 z.2.1 z.2.2) (fun z => A.length - z.1) (0, 0, fun j => A.getD j 0) ⟨⟨rfl, rfl, rfl, rfl⟩, rfl, Nat.zero_le _, lesI_zero A B⟩ ?_
  rintro ⟨i, v, p⟩ τ' ar' ⟨⟨g1, g5, g6, g7⟩, rfl, hi, hL⟩ ih
  dsimp only at g6 g7 hi hL ih ⊢
  refine runS_says 1 (by exact g1) (Says.refl _) ?_; refine runS_says 5 (by exact g5) (Says.refl _) ?_; refine runS_says 6 (by exact g6) (Says.refl _) ?_; refine runS_says 7 (by exact g7) (Says.refl _) ?_
  refine runS_x (I := inf) (J := jnf) ⟨false, false, [], 0, 0⟩ 9999 rfl (by repeat (first | exact obs_nil | refine obs_draw (by kernel_rfl) ?_ | refine obs_same ?_ | refine obs_and ?_ | refine obs_by (by (simp [inB] <;> omega)) ?_)) ?_
  refine runS_cond rfl (fun h => ?_) (fun h => ?_)
  · have hlt : i < A.length := by simp at h; omega
    have hw1 : IntKind.wrap .i64 ((i : Int) + 1) = ((i + 1 : Nat) : Int) := by rw [w64 (by omega) (by omega)]; rfl
    have hpi : p i = A.getD i 0 := hL.eq i (Nat.le_refl _)
    have hai := getD_lt hda i
    have hbi := getD_lt hdb i
    have hv1 := hL.wle
    have hst := lesI_step hda hdb hL
    unfold lesD lesW at hst
    rw [← hpi] at hst hai
    have hb0 : ¬ i < B.length → B.getD i 0 = 0 := fun h => by rw [List.getD_eq_getElem?_getD, List.getElem?_eq_none (by omega)]; rfl
    have ea : IntKind.wrap .i64 (((p i : Nat) : Int) - (v : Int)) = (p i : Int) - (v : Int) := w64 (by omega) (by omega)
    refine runS_x (I := inf) (J := jnf) ⟨false, false, [], 0, 0⟩ 9999 rfl (by repeat (first | exact obs_nil | refine obs_draw (by kernel_rfl) ?_ | refine obs_same ?_ | refine obs_and ?_ | refine obs_by (by (simp [inB, hlt] <;> omega)) ?_)) ?_
    refine runS_cut (fun τ ar => (τ 1 = natS n2 B ∧ τ 5 = .row 0 1 ∧ τ 7 = iv i ∧ τ 8 = iv ((p i : Int) - ((v + B.getD i 0 : Nat) : Int))) ∧ ar = [.row 3 1 1 A.length (rowN p)]) (fun rest => ?_) ?_
    · refine runS_cond rfl (fun h1 => ?_) (fun h1 => ?_)
      · have hlb : i < B.length := by
          have : decide ((i : Int) < (B.length : Int)) = true := h1
          simp at this
          omega
        have e : IntKind.wrap .i64 (IntKind.wrap .i64 (((p i : Nat) : Int) - (v : Int)) - ((B.getD ((i : Int)).toNat 0 : Nat) : Int)) = (p i : Int) - ((v + B.getD i 0 : Nat) : Int) := by rw [Int.toNat_natCast, ea, w64 (by omega) (by omega)]; omega
        refine runS_x (I := inf) (J := jnf) ⟨false, false, [], 7, 0⟩ 9999 rfl (by repeat (first | exact obs_nil | refine obs_draw (by kernel_rfl) ?_ | refine obs_same ?_ | refine obs_and ?_ | refine obs_by (by (simp [inB, hlb] <;> omega)) ?_)) ?_
        exact rest _ _ ⟨⟨rfl, rfl, rfl, congrArg iv e⟩, rfl⟩
      · have hlb : ¬ i < B.length := by
          have : decide ((i : Int) < (B.length : Int)) = false := h1
          simp at this
          omega
        have e : IntKind.wrap .i64 (((p i : Nat) : Int) - (v : Int)) = (p i : Int) - ((v + B.getD i 0 : Nat) : Int) := by rw [ea, hb0 hlb]; omega
        refine runS_x (I := inf) (J := jnf) ⟨false, false, [], 7, 0⟩ 9999 rfl (by repeat (first | exact obs_nil | refine obs_draw (by kernel_rfl) ?_ | refine obs_same ?_ | refine obs_and ?_ | refine obs_by (by (simp [inB] <;> omega)) ?_)) ?_
        exact rest _ _ ⟨⟨rfl, rfl, rfl, congrArg iv e⟩, rfl⟩
    rintro τ2 ar2 ⟨⟨g1, g5, g7, g8⟩, rfl⟩
    generalize hD : v + B.getD i 0 = D at g8 hst
    refine runS_says 1 (by exact g1) (Says.refl _) ?_; refine runS_says 5 (by exact g5) (Says.refl _) ?_; refine runS_says 7 (by exact g7) (Says.refl _) ?_; refine runS_says 8 (by exact g8) (Says.refl _) ?_
    refine runS_x (I := inf) (J := jnf) ⟨false, false, [], 0, 0⟩ 9999 rfl (by repeat (first | exact obs_nil | refine obs_draw (by kernel_rfl) ?_ | refine obs_same ?_ | refine obs_and ?_ | refine obs_by (by (simp [inB] <;> omega)) ?_)) ?_
    refine runS_cond rfl (fun h2 => ?_) (fun h2 => ?_)
    · have hlt2 : p i < D := by
        have := of_decide_eq_true (show decide ((p i : Int) - (D : Int) < 0) = true from h2)
        omega
      rw [if_pos hlt2, if_pos hlt2] at hst
      have e1 : IntKind.wrap .i64 ((p i : Int) - (D : Int) + 10) = ((p i + 10 - D : Nat) : Int) := by rw [w64 (by omega) (by omega)]; omega
      refine runS_x (I := inf) (J := jnf) ⟨false, false, [], 0, 0⟩ 9999 rfl (by repeat (first | exact obs_nil | refine obs_draw (by kernel_rfl) ?_ | refine obs_same ?_ | refine obs_and ?_ | refine obs_by (by (simp [inB, hlt] <;> omega)) ?_)) ?_
      refine runS_tell 0 (rowN (updF p i (p i + 10 - D))) rfl (m' := A.length) rfl (fun j hj => rowN_upd (congrArg (fun z => [iv z]) e1) j) rfl ?_
      refine ih (i + 1, 1, updF p i (p i + 10 - D)) _ _ (by dsimp only; omega) ⟨⟨rfl, rfl, rfl, congrArg iv hw1⟩, rfl, by dsimp only; omega, hst⟩
    · have hlt2 : ¬ p i < D := by
        have := of_decide_eq_false (show decide ((p i : Int) - (D : Int) < 0) = false from h2)
        omega
      rw [if_neg hlt2, if_neg hlt2] at hst
      have e2 : (p i : Int) - (D : Int) = ((p i - D : Nat) : Int) := by omega
      refine runS_x (I := inf) (J := jnf) ⟨false, false, [], 0, 0⟩ 9999 rfl (by repeat (first | exact obs_nil | refine obs_draw (by kernel_rfl) ?_ | refine obs_same ?_ | refine obs_and ?_ | refine obs_by (by (simp [inB, hlt] <;> omega)) ?_)) ?_
      refine runS_tell 0 (rowN (updF p i (p i - D))) rfl (m' := A.length) rfl (fun j hj => rowN_upd (congrArg (fun z => [iv z]) e2) j) rfl ?_
      refine ih (i + 1, 0, updF p i (p i - D)) _ _ (by dsimp only; omega) ⟨⟨rfl, rfl, rfl, congrArg iv hw1⟩, rfl, by dsimp only; omega, hst⟩
  · have hie : i = A.length := by
      have : decide ((i : Int) < (A.length : Int)) = false := h
      simp at this
      omega
    subst hie
    obtain ⟨hv, hdg⟩ := lesI_end hll (by omega) hL
    refine runS_x (I := inf) (J := jnf) ⟨false, false, [], 0, 0⟩ 9999 rfl (by repeat (first | exact obs_nil | refine obs_draw (by kernel_rfl) ?_ | refine obs_same ?_ | refine obs_and ?_ | refine obs_by (by (simp [inB] <;> omega)) ?_)) ?_
    refine runS_tell 0 (natR (listF p A.length)) rfl (m' := A.length) rfl (fun j hj => natR_listF p hj) rfl ?_
    refine runS_freeze 42 rfl rfl rfl (fun j hj => rfl) ?_
    have hc := r_trim none (listF p A.length) (by rw [listF_len]; omega) hdg
    unfold natS at hc
    rw [listF_len] at hc
    refine runS_call rfl rfl rfl rfl rfl rfl rfl hc ?_
    refine runS_x (I := inf) (J := jnf) ⟨false, false, [], 0, 0⟩ 9999 rfl (by repeat (first | exact obs_nil | refine obs_draw (by kernel_rfl) ?_ | refine obs_same ?_ | refine obs_and ?_ | refine obs_by (by (simp [inB] <;> omega)) ?_)) ?_
    refine runS_ret (I := inf) 0 rfl (Nat.le_refl _) rfl .nil rfl ⟨?_, rfl⟩
    unfold trim
    rw [hv, hvx, hvy]
    rfl
theorem r_mul (n1 n2 : Option Bool) (x y : Nat) (hx : (frm x).length ≤ 4000) (hy : (frm y).length ≤ 4000) : CallT Tryz.prog 62 [natS n1 (frm x), natS n2 (frm y)] [] (fun o A => o = .ret (natS none (frm (x * y))) ∧ A = []) := by
  have hda := fun d (hd : d ∈ frm x) => frm_digit hd
  have hdb := fun d (hd : d ∈ frm y) => frm_digit hd
  have hvx := val_frm x
  have hvy := val_frm y
  have hlp := mul_lt_pow x y (Nat.le_refl _)
  generalize frm x = A at *
  generalize frm y = B at *
  have hn0 : IntKind.wrap .i64 ((A.length : Int) + (B.length : Int)) = ((A.length + B.length : Nat) : Int) := by
    rw [w64 (by omega) (by omega)]; rfl
  refine callS_body (n := 67) rfl rfl fun w ρ X => ?_
  refine runS_x (I := inf) (J := jnf) ⟨false, false, [], 0, 0⟩ 9999 rfl (by repeat (first | exact obs_nil | refine obs_draw (by kernel_rfl) ?_ | refine obs_same ?_ | refine obs_and ?_ | refine obs_by (by (simp [inB, hn0] <;> omega)) ?_)) ?_
  obtain ⟨N, hN⟩ : ∃ N, A.length + B.length = N := ⟨_, rfl⟩
  rw [hN] at hlp
  refine runS_tell 0 (rowN (fun _ => 0)) rfl (m' := N) (by rw [hn0, hN]; rfl) (fun j hj => rfl) rfl ?_
  refine runS_while (fun (z : Nat × (Nat → Nat)) τ ar => (τ 0 = natS n1 A ∧ τ 1 = natS n2 B ∧ τ 5 = .row 0 0 ∧ τ 6 = iv z.1) ∧ ar = [.row 3 1 0 N (rowN z.2)] ∧ z.1 ≤ A.length ∧ MulI A B N z.1 0 z.2) (fun z => A.length - z.1) (0, fun _ => 0) ⟨⟨rfl, rfl, rfl, rfl⟩, rfl, Nat.zero_le _, mulI_zero A B _⟩ ?_
  rintro ⟨i, s⟩ τ' ar' ⟨⟨g0, g1, g5, g6⟩, rfl, hi, hL⟩ ih
  dsimp only at g6 hi hL ih ⊢
  refine runS_says 0 (by exact g0) (Says.refl _) ?_; refine runS_says 1 (by exact g1) (Says.refl _) ?_; refine runS_says 5 (by exact g5) (Says.refl _) ?_; refine runS_says 6 (by exact g6) (Says.refl _) ?_
  refine runS_x (I := inf) (J := jnf) ⟨false, false, [], 0, 0⟩ 9999 rfl (by repeat (first | exact obs_nil | refine obs_draw (by kernel_rfl) ?_ | refine obs_same ?_ | refine obs_and ?_ | refine obs_by (by (simp [inB] <;> omega)) ?_)) ?_
  refine runS_cond rfl (fun h => ?_) (fun h => ?_)
  · have hlt : i < A.length := by simp at h; omega
    have hw1 : IntKind.wrap .i64 ((i : Int) + 1) = ((i + 1 : Nat) : Int) := by rw [w64 (by omega) (by omega)]; rfl
    have hai := getD_lt hda i
    refine runS_x (I := inf) (J := jnf) ⟨false, false, [], 0, 0⟩ 9999 rfl (by repeat (first | exact obs_nil | refine obs_draw (by kernel_rfl) ?_ | refine obs_same ?_ | refine obs_and ?_ | refine obs_by (by (simp [inB, hlt] <;> omega)) ?_)) ?_
    refine runS_while (fun (z : Nat × (Nat → Nat)) τ ar => (τ 0 = natS n1 A ∧ τ 1 = natS n2 B ∧ τ 5 = .row 0 0 ∧ τ 6 = iv i ∧ τ 7 = iv z.1) ∧ ar = [.row 3 1 0 N (rowN z.2)] ∧ z.1 ≤ B.length ∧ MulI A B N i z.1 z.2) (fun z => B.length - z.1) (0, s) ⟨⟨rfl, rfl, rfl, rfl, rfl⟩, rfl, Nat.zero_le _, hL⟩ ?_
    rintro ⟨k, s2⟩ τ2 ar2 ⟨⟨g0, g1, g5, g6, g7⟩, rfl, hk, hK⟩ ih2
    dsimp only at g7 hk hK ih2 ⊢
    refine runS_says 0 (by exact g0) (Says.refl _) ?_; refine runS_says 1 (by exact g1) (Says.refl _) ?_; refine runS_says 5 (by exact g5) (Says.refl _) ?_; refine runS_says 6 (by exact g6) (Says.refl _) ?_; refine runS_says 7 (by exact g7) (Says.refl _) ?_
    refine runS_x (I := inf) (J := jnf) ⟨false, false, [], 0, 0⟩ 9999 rfl (by repeat (first | exact obs_nil | refine obs_draw (by kernel_rfl) ?_ | refine obs_same ?_ | refine obs_and ?_ | refine obs_by (by (simp [inB] <;> omega)) ?_)) ?_
    refine runS_cond rfl (fun h2 => ?_) (fun h2 => ?_)
    · have hkt : k < B.length := by simp at h2; omega
      have hbk := getD_lt hdb k
      have hw2 : IntKind.wrap .i64 ((k : Int) + 1) = ((k + 1 : Nat) : Int) := by rw [w64 (by omega) (by omega)]; rfl
      have hwi : IntKind.wrap .i64 ((i : Int) + (k : Int)) = ((i + k : Nat) : Int) := by rw [w64 (by omega) (by omega)]; rfl
      have hle := hK.le (i + k)
      have hsm : (if i ≤ i + k ∧ i + k < i + k then 81 else 0) ≤ 81 := by split <;> omega
      have hm81 : A.getD i 0 * B.getD k 0 ≤ 81 := Nat.mul_le_mul (show A.getD i 0 ≤ 9 by omega) (show B.getD k 0 ≤ 9 by omega)
      have hev : IntKind.wrap .i64 (((s2 (i + k) : Nat) : Int) + IntKind.wrap .i64 (((A.getD i 0 : Nat) : Int) * ((B.getD k 0 : Nat) : Int))) = ((s2 (i + k) + A.getD i 0 * B.getD k 0 : Nat) : Int) := by
        rw [← Int.natCast_mul, w64 (x := ((A.getD i 0 * B.getD k 0 : Nat) : Int)) (by omega) (by omega), w64 (by omega) (by omega)]
        rfl
      have hst := mulI_step hda hdb hkt (by omega) hK
      refine runS_x (I := inf) (J := jnf) ⟨false, false, [], 0, 0⟩ 9999 rfl (by repeat (first | exact obs_nil | refine obs_draw (by kernel_rfl) ?_ | refine obs_same ?_ | refine obs_and ?_ | refine obs_by (by (simp [inB, hkt, hlt, hwi] <;> omega)) ?_)) ?_
      rw [hwi]
      refine runS_tell 0 (rowN (updF s2 (i + k) (s2 (i + k) + A.getD i 0 * B.getD k 0))) rfl (m' := N) rfl (fun j hj => rowN_upd (congrArg (fun z => [iv z]) hev) j) rfl ?_
      exact ih2 (k + 1, updF s2 (i + k) (s2 (i + k) + A.getD i 0 * B.getD k 0)) _ _ (by dsimp only; omega) ⟨⟨rfl, rfl, rfl, rfl, congrArg iv hw2⟩, rfl, by dsimp only; omega, hst⟩
    · have hke : k = B.length := by simp at h2; omega
      subst hke
      refine runS_x (I := inf) (J := jnf) ⟨false, false, [], 0, 0⟩ 9999 rfl (by repeat (first | exact obs_nil | refine obs_draw (by kernel_rfl) ?_ | refine obs_same ?_ | refine obs_and ?_ | refine obs_by (by (simp [inB] <;> omega)) ?_)) ?_
      exact ih (i + 1, s2) _ _ (by dsimp only; omega) ⟨⟨rfl, rfl, rfl, congrArg iv hw1⟩, rfl, by dsimp only; omega, mulI_row hlt hK⟩
  · have hie : i = A.length := by simp at h; omega
    subst hie
    refine runS_x (I := inf) (J := jnf) ⟨false, false, [], 0, 0⟩ 9999 rfl (by repeat (first | exact obs_nil | refine obs_draw (by kernel_rfl) ?_ | refine obs_same ?_ | refine obs_and ?_ | refine obs_by (by (simp [inB] <;> omega)) ?_)) ?_
    have hM : ∀ j, s j ≤ 400000 := fun j => by
      have := hL.le j
      rw [if_neg (by omega)] at this
      omega
    have hsum : sumF s N = x * y := by
      have := hL.sum
      rw [List.take_length, List.take_zero, hvx, hvy] at this
      rw [this]
      show x * y + _ * 0 = _
      rw [Nat.mul_zero, Nat.add_zero]
    refine runS_while (fun (z : Nat × Nat × (Nat → Nat)) τ ar => (τ 5 = .row 0 0 ∧ τ 8 = iv z.2.1 ∧ τ 9 = iv z.1) ∧ ar = [.row 3 1 0 N (rowN z.2.2)] ∧ z.1 ≤ N ∧ CarI N (x * y) 400000 z.1 z.2.1 z.2.2) (fun z => N - z.1) (0, 0, s) ⟨⟨rfl, rfl, rfl⟩, rfl, Nat.zero_le _, ⟨by dsimp only; rw [hsum]; simp, fun j hj => by omega, hM, by dsimp only; omega⟩⟩ ?_
    rintro ⟨j, c, p⟩ τ3 ar3 ⟨⟨g5, g8, g9⟩, rfl, hj, hC⟩ ih3
    dsimp only at g8 g9 hj hC ih3 ⊢
    refine runS_says 5 (by exact g5) (Says.refl _) ?_; refine runS_says 8 (by exact g8) (Says.refl _) ?_; refine runS_says 9 (by exact g9) (Says.refl _) ?_
    refine runS_x (I := inf) (J := jnf) ⟨false, false, [], 0, 0⟩ 9999 rfl (by repeat (first | exact obs_nil | refine obs_draw (by kernel_rfl) ?_ | refine obs_same ?_ | refine obs_and ?_ | refine obs_by (by (simp [inB] <;> omega)) ?_)) ?_
    refine runS_cond rfl (fun h3 => ?_) (fun h3 => ?_)
    · have hjt : j < N := by
        have := of_decide_eq_true (show decide ((j : Int) < (N : Int)) = true from h3)
        omega
      have hw3 : IntKind.wrap .i64 ((j : Int) + 1) = ((j + 1 : Nat) : Int) := by rw [w64 (by omega) (by omega)]; rfl
      have hsj := hC.le j
      have hcl := hC.cle
      have hst := carI_step (by omega) hjt hC
      have hcs : IntKind.wrap .i64 (((p j : Nat) : Int) + (c : Int)) = ((p j + c : Nat) : Int) := by rw [w64 (by omega) (by omega)]; rfl
      have e1 : (IntKind.wrap .i64 (((p j : Nat) : Int) + (c : Int))).tmod 10 = (((p j + c) % 10 : Nat) : Int) := by
        rw [hcs, Int.natCast_emod, Int.tmod_eq_emod_of_nonneg (by omega)]; rfl
      have e2 : IntKind.wrap .i64 ((IntKind.wrap .i64 (((p j : Nat) : Int) + (c : Int))).tdiv 10) = (((p j + c) / 10 : Nat) : Int) := by
        rw [hcs, Int.tdiv_eq_ediv_of_nonneg (by omega), w64 (by omega) (by omega), Int.natCast_ediv]; rfl
      refine runS_x (I := inf) (J := jnf) ⟨false, false, [], 0, 0⟩ 9999 rfl (by repeat (first | exact obs_nil | refine obs_draw (by kernel_rfl) ?_ | refine obs_same ?_ | refine obs_and ?_ | refine obs_by (by (simp [inB, hjt] <;> omega)) ?_)) ?_
      refine runS_tell 0 (rowN (updF p j ((p j + c) % 10))) rfl (m' := N) rfl (fun k hk => rowN_upd (congrArg (fun z => [iv z]) e1) k) rfl ?_
      exact ih3 (j + 1, (p j + c) / 10, updF p j ((p j + c) % 10)) _ _ (by dsimp only; omega) ⟨⟨rfl, congrArg iv e2, congrArg iv hw3⟩, rfl, by dsimp only; omega, hst⟩
    · have hje : j = N := by
        have := of_decide_eq_false (show decide ((j : Int) < (N : Int)) = false from h3)
        omega
      subst hje
      obtain ⟨hv, hdg⟩ := carI_end hlp hC
      refine runS_x (I := inf) (J := jnf) ⟨false, false, [], 0, 0⟩ 9999 rfl (by repeat (first | exact obs_nil | refine obs_draw (by kernel_rfl) ?_ | refine obs_same ?_ | refine obs_and ?_ | refine obs_by (by (simp [inB] <;> omega)) ?_)) ?_
      refine runS_tell 0 (natR (listF p j)) rfl (m' := j) rfl (fun k hk => natR_listF p hk) rfl ?_
      refine runS_freeze 65 rfl rfl rfl (fun k hk => rfl) ?_
      have hc := r_trim none (listF p j) (by rw [listF_len]; omega) hdg
      unfold natS at hc
      rw [listF_len] at hc
      refine runS_call rfl rfl rfl rfl rfl rfl rfl hc ?_
      refine runS_x (I := inf) (J := jnf) ⟨false, false, [], 0, 0⟩ 9999 rfl (by repeat (first | exact obs_nil | refine obs_draw (by kernel_rfl) ?_ | refine obs_same ?_ | refine obs_and ?_ | refine obs_by (by (simp [inB] <;> omega)) ?_)) ?_
      refine runS_ret (I := inf) 0 rfl (Nat.le_refl _) rfl .nil rfl ⟨?_, rfl⟩
      unfold trim
      rw [hv]
      rfl
end Go.Iron.Tryz

/- The digits' seat: the reference's exact numbers. -/
namespace Go.Iron.Tryz
open Go.Proofs Go.RowKit Go.Iron.Tok Go.Iron.Dg

structure ExFit (x : Ex) (l : Nat) : Prop where
  num : (frm x.num).length ≤ l
  den : (frm x.den).length ≤ l
theorem r_wholeZ (n : Int) (hn : n.natAbs < 4611686018427387904) : CallT Tryz.prog 60 [iv n] [] (fun o A => o = .ret (exA ⟨decide (n < 0), n.natAbs, 1⟩) ∧ A = []) := by
  refine callS_body (n := 16) rfl rfl fun w ρ X => ?_
  refine runS_x (I := inf) (J := jnf) ⟨false, false, [], 0, 0⟩ 9 rfl (by repeat (first | exact obs_nil | refine obs_draw (by kernel_rfl) ?_ | refine obs_same ?_ | refine obs_and ?_ | refine obs_by (by (simp [inB] <;> omega)) ?_)) ?_
  refine runS_tell 1 (natR [1]) rfl (m' := 1) rfl (fun i hi => by
    have : i = 0 := by omega
    subst this
    rfl) rfl ?_
  refine runS_freeze 6 rfl rfl rfl (fun j hj => rfl) ?_
  refine runS_x (I := inf) (J := jnf) ⟨false, false, [], 0, 0⟩ 9999 rfl (by repeat (first | exact obs_nil | refine obs_draw (by kernel_rfl) ?_ | refine obs_same ?_ | refine obs_and ?_ | refine obs_by (by (simp [inB] <;> omega)) ?_)) ?_
  have h1 : exA ⟨decide (n < 0), n.natAbs, 1⟩ = .agg [bv (decide (n < 0)), natS none (frm n.natAbs), natS none [1]] := by rw [← frm_one]
  rw [h1]
  refine runS_cond rfl (fun h => ?_) (fun h => ?_)
  · have h0 : n < 0 := of_decide_eq_true h
    have hf := r_from n.natAbs hn
    rw [show ((n.natAbs : Nat) : Int) = IntKind.wrap .i64 (0 - n) by rw [w64 (by omega) (by omega)]; omega] at hf
    refine runS_x (I := inf) (J := jnf) ⟨false, false, [], 0, 0⟩ 9999 rfl (by repeat (first | exact obs_nil | refine obs_draw (by kernel_rfl) ?_ | refine obs_same ?_ | refine obs_and ?_ | refine obs_by (by (simp [inB] <;> omega)) ?_)) ?_
    refine runS_call rfl rfl rfl rfl rfl rfl rfl hf ?_
    refine runS_x (I := inf) (J := jnf) ⟨false, false, [], 0, 0⟩ 9999 rfl (by repeat (first | exact obs_nil | refine obs_draw (by kernel_rfl) ?_ | refine obs_same ?_ | refine obs_and ?_ | refine obs_by (by (simp [inB] <;> omega)) ?_)) ?_
    refine runS_ret (I := inf) 0 rfl (Nat.le_refl _) rfl .nil rfl ⟨?_, rfl⟩
    rfl
  · have h0 : ¬ n < 0 := of_decide_eq_false h
    have hf := r_from n.natAbs hn
    rw [show ((n.natAbs : Nat) : Int) = n by omega] at hf
    refine runS_x (I := inf) (J := jnf) ⟨false, false, [], 0, 0⟩ 9999 rfl (by repeat (first | exact obs_nil | refine obs_draw (by kernel_rfl) ?_ | refine obs_same ?_ | refine obs_and ?_ | refine obs_by (by (simp [inB] <;> omega)) ?_)) ?_
    refine runS_call rfl rfl rfl rfl rfl rfl rfl hf ?_
    refine runS_x (I := inf) (J := jnf) ⟨false, false, [], 0, 0⟩ 9999 rfl (by repeat (first | exact obs_nil | refine obs_draw (by kernel_rfl) ?_ | refine obs_same ?_ | refine obs_and ?_ | refine obs_by (by (simp [inB] <;> omega)) ?_)) ?_
    refine runS_ret (I := inf) 0 rfl (Nat.le_refl _) rfl .nil rfl ⟨?_, rfl⟩
    rfl
theorem r_pow10Z (q : Int) (h0 : 0 ≤ q) (hq : q ≤ 1000) : CallT Tryz.prog 61 [iv 10, iv q] [] (fun o A => o = .ret (natS none (frm (10 ^ q.toNat))) ∧ A = []) := by
  have h := r_pow10 q.toNat (by omega)
  rw [show ((q.toNat : Nat) : Int) = q by omega] at h
  exact h
theorem r_pow2Z (q : Int) (h0 : 0 ≤ q) (hq : q ≤ 60) : CallT Tryz.prog 61 [iv 2, iv q] [] (fun o A => o = .ret (natS none (frm (2 ^ q.toNat))) ∧ A = []) := by
  have h := r_pow2 q.toNat (by omega)
  rw [show ((q.toNat : Nat) : Int) = q by omega] at h
  exact h
theorem r_of (v : Vl) (hr : v.right = true) (hk : numK v.kind = true) : CallT Tryz.prog 17 [.agg (vlE v)] [] (fun o A => o = .ret (exA (ofE v.kind v.n v.q)) ∧ A = []) := by
  obtain ⟨kd, n, q, s⟩ := v
  obtain ⟨h1, h2, h3, h4, h5, h6⟩ := right_num hr hk
  dsimp only at h1 h2 h3 h4 h5 h6 ⊢
  have hw := r_wholeZ n (by omega)
  have hln : (frm n.natAbs).length ≤ 15 := frm_len_lt.2 (by omega)
  rcases h2 with rfl | rfl | rfl
  · have hE : ofE 1 n q = ⟨decide (n < 0), n.natAbs, 2 ^ q.toNat⟩ := by simp [ofE]
    have := h3 (by decide)
    rw [hE]
    refine callS_body (n := 39) rfl rfl fun w ρ X => ?_
    refine runS_x (I := inf) (J := jnf) ⟨false, false, [], 0, 0⟩ 9999 rfl (by repeat (first | exact obs_nil | refine obs_draw (by kernel_rfl) ?_ | refine obs_same ?_ | refine obs_and ?_ | refine obs_by (by (simp [inB] <;> omega)) ?_)) ?_
    refine runS_call rfl rfl rfl rfl rfl rfl rfl hw ?_
    refine runS_x (I := inf) (J := jnf) ⟨false, false, [], 0, 0⟩ 9999 rfl (by repeat (first | exact obs_nil | refine obs_draw (by kernel_rfl) ?_ | refine obs_same ?_ | refine obs_and ?_ | refine obs_by (by (simp [inB] <;> omega)) ?_)) ?_
    refine runS_cond rfl (fun h => ?_) (fun h => by cases h)
    refine runS_x (I := inf) (J := jnf) ⟨false, false, [], 0, 0⟩ 9999 rfl (by repeat (first | exact obs_nil | refine obs_draw (by kernel_rfl) ?_ | refine obs_same ?_ | refine obs_and ?_ | refine obs_by (by (simp [inB] <;> omega)) ?_)) ?_
    refine runS_call rfl rfl rfl rfl rfl rfl rfl (r_pow2Z q (by omega) (by omega)) ?_
    refine runS_x (I := inf) (J := jnf) ⟨false, false, [], 0, 0⟩ 9999 rfl (by repeat (first | exact obs_nil | refine obs_draw (by kernel_rfl) ?_ | refine obs_same ?_ | refine obs_and ?_ | refine obs_by (by (simp [inB] <;> omega)) ?_)) ?_
    refine runS_ret (I := inf) 0 rfl (Nat.le_refl _) rfl .nil rfl ⟨?_, rfl⟩
    rfl
  · have hE : ofE 2 n q = ⟨decide (n < 0), n.natAbs, 10 ^ q.toNat⟩ := by simp [ofE]
    have := h3 (by decide)
    rw [hE]
    refine callS_body (n := 39) rfl rfl fun w ρ X => ?_
    refine runS_x (I := inf) (J := jnf) ⟨false, false, [], 0, 0⟩ 9999 rfl (by repeat (first | exact obs_nil | refine obs_draw (by kernel_rfl) ?_ | refine obs_same ?_ | refine obs_and ?_ | refine obs_by (by (simp [inB] <;> omega)) ?_)) ?_
    refine runS_call rfl rfl rfl rfl rfl rfl rfl hw ?_
    refine runS_x (I := inf) (J := jnf) ⟨false, false, [], 0, 0⟩ 9999 rfl (by repeat (first | exact obs_nil | refine obs_draw (by kernel_rfl) ?_ | refine obs_same ?_ | refine obs_and ?_ | refine obs_by (by (simp [inB] <;> omega)) ?_)) ?_
    refine runS_cond rfl (fun h => by cases h) (fun h => ?_)
    refine runS_x (I := inf) (J := jnf) ⟨false, false, [], 0, 0⟩ 9999 rfl (by repeat (first | exact obs_nil | refine obs_draw (by kernel_rfl) ?_ | refine obs_same ?_ | refine obs_and ?_ | refine obs_by (by (simp [inB] <;> omega)) ?_)) ?_
    refine runS_cond rfl (fun h => ?_) (fun h => by cases h)
    refine runS_x (I := inf) (J := jnf) ⟨false, false, [], 0, 0⟩ 9999 rfl (by repeat (first | exact obs_nil | refine obs_draw (by kernel_rfl) ?_ | refine obs_same ?_ | refine obs_and ?_ | refine obs_by (by (simp [inB] <;> omega)) ?_)) ?_
    refine runS_call rfl rfl rfl rfl rfl rfl rfl (r_pow10Z q (by omega) (by omega)) ?_
    refine runS_x (I := inf) (J := jnf) ⟨false, false, [], 0, 0⟩ 9999 rfl (by repeat (first | exact obs_nil | refine obs_draw (by kernel_rfl) ?_ | refine obs_same ?_ | refine obs_and ?_ | refine obs_by (by (simp [inB] <;> omega)) ?_)) ?_
    refine runS_ret (I := inf) 0 rfl (Nat.le_refl _) rfl .nil rfl ⟨?_, rfl⟩
    rfl
  · have := h4 rfl
    refine callS_body (n := 39) rfl rfl fun w ρ X => ?_
    refine runS_x (I := inf) (J := jnf) ⟨false, false, [], 0, 0⟩ 9999 rfl (by repeat (first | exact obs_nil | refine obs_draw (by kernel_rfl) ?_ | refine obs_same ?_ | refine obs_and ?_ | refine obs_by (by (simp [inB] <;> omega)) ?_)) ?_
    refine runS_call rfl rfl rfl rfl rfl rfl rfl hw ?_
    refine runS_x (I := inf) (J := jnf) ⟨false, false, [], 0, 0⟩ 9999 rfl (by repeat (first | exact obs_nil | refine obs_draw (by kernel_rfl) ?_ | refine obs_same ?_ | refine obs_and ?_ | refine obs_by (by (simp [inB] <;> omega)) ?_)) ?_
    refine runS_cond rfl (fun h => by cases h) (fun h => ?_)
    refine runS_x (I := inf) (J := jnf) ⟨false, false, [], 0, 0⟩ 9999 rfl (by repeat (first | exact obs_nil | refine obs_draw (by kernel_rfl) ?_ | refine obs_same ?_ | refine obs_and ?_ | refine obs_by (by (simp [inB] <;> omega)) ?_)) ?_
    refine runS_cond rfl (fun h => by cases h) (fun h => ?_)
    refine runS_x (I := inf) (J := jnf) ⟨false, false, [], 0, 0⟩ 9999 rfl (by repeat (first | exact obs_nil | refine obs_draw (by kernel_rfl) ?_ | refine obs_same ?_ | refine obs_and ?_ | refine obs_by (by (simp [inB] <;> omega)) ?_)) ?_
    refine runS_cond rfl (fun h => ?_) (fun h => by cases h)
    refine runS_x (I := inf) (J := jnf) ⟨false, false, [], 0, 0⟩ 9999 rfl (by repeat (first | exact obs_nil | refine obs_draw (by kernel_rfl) ?_ | refine obs_same ?_ | refine obs_and ?_ | refine obs_by (by (simp [inB] <;> omega)) ?_)) ?_
    refine runS_cond rfl (fun h => ?_) (fun h => ?_)
    · have hq0 : 0 ≤ q := of_decide_eq_true h
      have hE : ofE 3 n q = ⟨decide (n < 0), n.natAbs * 10 ^ q.toNat, 1⟩ := by
        have : (-q).toNat = 0 := by omega
        simp [ofE, this]
      rw [hE]
      have hpl : (frm (10 ^ q.toNat)).length ≤ 100 := by rw [frm_pow]; simp; omega
      have hm := r_mul none none n.natAbs (10 ^ q.toNat) (by omega) (by omega)
      refine runS_x (I := inf) (J := jnf) ⟨false, false, [], 0, 0⟩ 9999 rfl (by repeat (first | exact obs_nil | refine obs_draw (by kernel_rfl) ?_ | refine obs_same ?_ | refine obs_and ?_ | refine obs_by (by (simp [inB] <;> omega)) ?_)) ?_
      refine runS_drawG (ch := []) (A2 := fun _ => []) 6 [] (fun _ => [.box 23 (vaE 3 n q s), .box 35 [bv false, .val (.slice none 0 0), .val (.slice none 0 0)], .box 35 [bv (decide (n < 0)), natS none (frm n.natAbs), natS none (frm 1)]]) none (c := 9) jnfI.draw (by kernel_rfl) rfl (lexg_g (I := inf) (J := jnf) none ⟨_, rfl, (by repeat (first | exact obs_nil | refine obs_same ?_ | refine obs_and ?_ | refine obs_by (by (simp [inB] <;> omega)) ?_))⟩ rfl rfl rfl rfl (lexg_g (I := inf) (J := jnf) none ⟨_, rfl, (by repeat (first | exact obs_nil | refine obs_same ?_ | refine obs_and ?_ | refine obs_by (by (simp [inB] <;> omega)) ?_))⟩ rfl rfl rfl rfl (lexg_g (I := inf) (J := jnf) none ⟨_, rfl, (by repeat (first | exact obs_nil | refine obs_same ?_ | refine obs_and ?_ | refine obs_by (by (simp [inB] <;> omega)) ?_))⟩ rfl rfl rfl rfl (lexg_g (I := inf) (J := jnf) none ⟨_, rfl, (by repeat (first | exact obs_nil | refine obs_same ?_ | refine obs_and ?_ | refine obs_by (by (simp [inB] <;> omega)) ?_))⟩ rfl rfl rfl rfl (lexg_call rfl rfl rfl rfl rfl rfl rfl rfl rfl (r_pow10Z q (by omega) (by omega)) (lexg_call rfl rfl rfl rfl rfl rfl rfl rfl rfl hm lexg_nil)))))) rfl (fun _ => ?_) (fun h => by cases h)
      refine runS_x (I := inf) (J := jnf) ⟨false, false, [], 0, 0⟩ 9999 rfl (by repeat (first | exact obs_nil | refine obs_draw (by kernel_rfl) ?_ | refine obs_same ?_ | refine obs_and ?_ | refine obs_by (by (simp [inB] <;> omega)) ?_)) ?_
      refine runS_ret (I := inf) 0 rfl (Nat.le_refl _) rfl .nil rfl ⟨?_, rfl⟩
      rfl
    · have hq0 : ¬ 0 ≤ q := of_decide_eq_false h
      have hE : ofE 3 n q = ⟨decide (n < 0), n.natAbs, 10 ^ (-q).toNat⟩ := by
        have : q.toNat = 0 := by omega
        simp [ofE, this]
      rw [hE]
      have hp := r_pow10Z (-q) (by omega) (by omega)
      rw [show -q = IntKind.wrap .i64 (0 - q) by rw [w64 (by omega) (by omega)]; omega] at hp
      rw [show -q = IntKind.wrap .i64 (0 - q) by rw [w64 (by omega) (by omega)]; omega]
      refine runS_x (I := inf) (J := jnf) ⟨false, false, [], 0, 0⟩ 9999 rfl (by repeat (first | exact obs_nil | refine obs_draw (by kernel_rfl) ?_ | refine obs_same ?_ | refine obs_and ?_ | refine obs_by (by (simp [inB] <;> omega)) ?_)) ?_
      refine runS_call rfl rfl rfl rfl rfl rfl rfl hp ?_
      refine runS_x (I := inf) (J := jnf) ⟨false, false, [], 0, 0⟩ 9999 rfl (by repeat (first | exact obs_nil | refine obs_draw (by kernel_rfl) ?_ | refine obs_same ?_ | refine obs_and ?_ | refine obs_by (by (simp [inB] <;> omega)) ?_)) ?_
      refine runS_ret (I := inf) 0 rfl (Nat.le_refl _) rfl .nil rfl ⟨?_, rfl⟩
      rfl
theorem r_turn (x : Ex) (hx : ExFit x 4000) : CallT Tryz.prog 63 [exA x] [] (fun o A => o = .ret (exA (turnE x)) ∧ A = []) := by
  have := hx.num
  refine callS_body (n := 14) rfl rfl fun w ρ X => ?_
  refine runS_x (I := inf) (J := jnf) ⟨false, false, [], 0, 0⟩ 9999 rfl (by repeat (first | exact obs_nil | refine obs_draw (by kernel_rfl) ?_ | refine obs_same ?_ | refine obs_and ?_ | refine obs_by (by (simp [inB] <;> omega)) ?_)) ?_
  refine runS_ret (I := inf) 0 rfl (Nat.le_refl _) rfl .nil rfl ⟨?_, rfl⟩
  show Out.ret (.agg [bv (if (!x.neg) = true then decide (((frm x.num).length : Int) > 0) else false), natS none (frm x.num), natS none (frm x.den)]) = _
  have e : (if (!x.neg) = true then decide (((frm x.num).length : Int) > 0) else false) = (!x.neg && decide (x.num ≠ 0)) := by
    have hl := frm_len0 (x := x.num)
    rw [Bool.eq_iff_iff]
    cases x.neg <;> simp <;> omega
  rw [e]
  rfl
end Go.Iron.Tryz

/- The digits' seat: values of a type, zeros of a type (program and reference). -/
namespace Go.Iron.Tryz
open Go.Proofs Go.RowKit Go.Iron.Tok Go.Iron.Dg

def hasK (t : Typ) (v : Vl) : Bool :=
  if t.kind = 1 ∨ t.kind = 2 then (v.q == t.q) && decide (v.n.natAbs < bsN t.kind ^ t.p.toNat)
  else if t.kind = 3 then decide ((frm v.n.natAbs).length ≤ t.p.toNat)
  else if t.kind = 4 ∨ t.kind = 5 then ((v.s.length : Int) == t.n) || t.vary && decide ((v.s.length : Int) < t.n)
  else true
theorem valid9 {t : Typ} (h : validT t = true) : t.kind = 1 ∨ t.kind = 2 ∨ t.kind = 3 ∨ t.kind = 4 ∨ t.kind = 5 ∨ t.kind = 6 ∨ t.kind = 7 ∨ t.kind = 8 ∨ t.kind = 9 := by
  have := valid_kind h
  omega
end Go.Iron.Tryz

/- The digits' seat: zeros of a type; the law of valid values. -/
namespace Go.Iron.Tryz
open Go.Proofs Go.RowKit Go.Iron.Tok Go.Iron.Dg

def zeroV (t : Typ) : Vl × Int :=
  if validT t = false then (⟨0, 0, 0, []⟩, 13)
  else if t.kind = 1 ∨ t.kind = 2 then (⟨t.kind, 0, t.q, []⟩, 0)
  else if t.kind = 3 then (⟨t.kind, 0, 0, []⟩, 0)
  else if t.kind = 4 then (⟨t.kind, 0, 0, if t.vary = true then [] else List.replicate t.n.toNat 32⟩, 0)
  else if t.kind = 5 then (⟨t.kind, 0, 0, if t.vary = true then [] else List.replicate t.n.toNat 48⟩, 0)
  else (⟨0, 0, 0, []⟩, 10)
theorem repeat_one (b : UInt8) (c : Nat) : Lib.repeatL [b] c = List.replicate c b := by
  induction c with
  | zero => rfl
  | succ c ih =>
    show [b] ++ Lib.repeatL [b] c = _
    rw [ih, List.replicate_succ]
    rfl
theorem d_base (kd : Int) : CallT Tryz.prog 83 [iv kd] [] (fun o A => o = .ret (iv (if kd = 1 then 2 else if kd = 2 then 10 else 0)) ∧ A = []) := by
  refine callS_body (n := 8) rfl rfl fun w ρ X => ?_
  refine runS_x (I := inf) (J := jnf) ⟨false, false, [], 0, 0⟩ 9999 rfl (by repeat (first | exact obs_nil | refine obs_draw (by kernel_rfl) ?_ | refine obs_same ?_ | refine obs_and ?_ | refine obs_by (by (simp [inB] <;> omega)) ?_)) ?_
  refine runS_cond rfl (fun h => ?_) (fun h => ?_)
  · have hk : kd = 1 := by simpa using (show (kd == 1) = true from h)
    refine runS_x (I := inf) (J := jnf) ⟨false, false, [], 0, 0⟩ 9999 rfl (by repeat (first | exact obs_nil | refine obs_draw (by kernel_rfl) ?_ | refine obs_same ?_ | refine obs_and ?_ | refine obs_by (by (simp [inB] <;> omega)) ?_)) ?_
    refine runS_ret (I := inf) 0 rfl (Nat.le_refl _) rfl .nil rfl ⟨?_, rfl⟩
    rw [if_pos hk]
    rfl
  · have hk : ¬ kd = 1 := by simpa using (show (kd == 1) = false from h)
    refine runS_x (I := inf) (J := jnf) ⟨false, false, [], 0, 0⟩ 9999 rfl (by repeat (first | exact obs_nil | refine obs_draw (by kernel_rfl) ?_ | refine obs_same ?_ | refine obs_and ?_ | refine obs_by (by (simp [inB] <;> omega)) ?_)) ?_
    refine runS_cond rfl (fun h => ?_) (fun h => ?_)
    · have hk2 : kd = 2 := by simpa using (show (kd == 2) = true from h)
      refine runS_x (I := inf) (J := jnf) ⟨false, false, [], 0, 0⟩ 9999 rfl (by repeat (first | exact obs_nil | refine obs_draw (by kernel_rfl) ?_ | refine obs_same ?_ | refine obs_and ?_ | refine obs_by (by (simp [inB] <;> omega)) ?_)) ?_
      refine runS_ret (I := inf) 0 rfl (Nat.le_refl _) rfl .nil rfl ⟨?_, rfl⟩
      rw [if_neg hk, if_pos hk2]
      rfl
    · have hk2 : ¬ kd = 2 := by simpa using (show (kd == 2) = false from h)
      refine runS_x (I := inf) (J := jnf) ⟨false, false, [], 0, 0⟩ 9999 rfl (by repeat (first | exact obs_nil | refine obs_draw (by kernel_rfl) ?_ | refine obs_same ?_ | refine obs_and ?_ | refine obs_by (by (simp [inB] <;> omega)) ?_)) ?_
      refine runS_ret (I := inf) 0 rfl (Nat.le_refl _) rfl .nil rfl ⟨?_, rfl⟩
      rw [if_neg hk, if_neg hk2]
      rfl
theorem str_n {t : Typ} (h : validT t = true) (hk : t.kind = 4 ∨ t.kind = 5) : 0 ≤ t.n ∧ t.n ≤ 250 := by
  unfold validT inR at h
  rw [if_neg (by omega), if_neg (by omega), if_neg (by omega), if_pos hk] at h
  simp at h
  omega
theorem d_Zero (t : Typ) : CallT Tryz.prog 30 [.agg (typE t)] [] (fun o A => o = .ret (.tup [.agg (vlE (zeroV t).1), iv (zeroV t).2]) ∧ A = []) := by
  have hvd := d_valid t
  have hbs := d_base t.kind
  cases hvt : validT t with
  | false =>
    have hZ : zeroV t = (⟨0, 0, 0, []⟩, 13) := by unfold zeroV; rw [if_pos hvt]
    rw [hvt] at hvd
    rw [hZ]
    refine callS_body (n := 62) rfl rfl fun w ρ X => ?_
    refine runS_x (I := inf) (J := jnf) ⟨false, false, [], 0, 0⟩ 9999 rfl (by repeat (first | exact obs_nil | refine obs_draw (by kernel_rfl) ?_ | refine obs_same ?_ | refine obs_and ?_ | refine obs_by (by (simp [inB] <;> omega)) ?_)) ?_
    refine runS_call rfl rfl rfl rfl rfl rfl rfl hvd ?_
    refine runS_x (I := inf) (J := jnf) ⟨false, false, [], 0, 0⟩ 9999 rfl (by repeat (first | exact obs_nil | refine obs_draw (by kernel_rfl) ?_ | refine obs_same ?_ | refine obs_and ?_ | refine obs_by (by (simp [inB] <;> omega)) ?_)) ?_
    refine runS_cond rfl (fun h => ?_) (fun h => by cases h)
    refine runS_x (I := inf) (J := jnf) ⟨false, false, [], 0, 0⟩ 9999 rfl (by repeat (first | exact obs_nil | refine obs_draw (by kernel_rfl) ?_ | refine obs_same ?_ | refine obs_and ?_ | refine obs_by (by (simp [inB] <;> omega)) ?_)) ?_
    refine runS_ret (I := inf) 0 rfl (Nat.le_refl _) rfl .nil rfl ⟨?_, rfl⟩
    rfl
  | true =>
    rw [hvt] at hvd
    have h9 := valid9 hvt
    have hsn := str_n hvt
    have hZ : zeroV t = if t.kind = 1 ∨ t.kind = 2 then (⟨t.kind, 0, t.q, []⟩, 0) else if t.kind = 3 then (⟨t.kind, 0, 0, []⟩, 0) else if t.kind = 4 then (⟨t.kind, 0, 0, if t.vary = true then [] else List.replicate t.n.toNat 32⟩, 0) else if t.kind = 5 then (⟨t.kind, 0, 0, if t.vary = true then [] else List.replicate t.n.toNat 48⟩, 0) else (⟨0, 0, 0, []⟩, 10) := by unfold zeroV; rw [if_neg (by rw [hvt]; decide)]
    rw [hZ]
    clear hZ
    obtain ⟨kd, p, q, n, vy, pc⟩ := t
    dsimp only at *
    rcases h9 with rfl | rfl | rfl | rfl | rfl | rfl | rfl | rfl | rfl
    · refine callS_body (n := 62) rfl rfl fun w ρ X => ?_
      refine runS_x (I := inf) (J := jnf) ⟨false, false, [], 0, 0⟩ 9999 rfl (by repeat (first | exact obs_nil | refine obs_draw (by kernel_rfl) ?_ | refine obs_same ?_ | refine obs_and ?_ | refine obs_by (by (simp [inB] <;> omega)) ?_)) ?_
      refine runS_call rfl rfl rfl rfl rfl rfl rfl hvd ?_
      refine runS_x (I := inf) (J := jnf) ⟨false, false, [], 0, 0⟩ 9999 rfl (by repeat (first | exact obs_nil | refine obs_draw (by kernel_rfl) ?_ | refine obs_same ?_ | refine obs_and ?_ | refine obs_by (by (simp [inB] <;> omega)) ?_)) ?_
      refine runS_cond rfl (fun h => by cases h) (fun h => ?_)
      refine runS_x (I := inf) (J := jnf) ⟨false, false, [], 0, 0⟩ 9999 rfl (by repeat (first | exact obs_nil | refine obs_draw (by kernel_rfl) ?_ | refine obs_same ?_ | refine obs_and ?_ | refine obs_by (by (simp [inB] <;> omega)) ?_)) ?_
      refine runS_call rfl rfl rfl rfl rfl rfl rfl hbs ?_
      refine runS_x (I := inf) (J := jnf) ⟨false, false, [], 0, 0⟩ 9999 rfl (by repeat (first | exact obs_nil | refine obs_draw (by kernel_rfl) ?_ | refine obs_same ?_ | refine obs_and ?_ | refine obs_by (by (simp [inB] <;> omega)) ?_)) ?_
      refine runS_cond rfl (fun h => ?_) (fun h => by cases h)
      refine runS_x (I := inf) (J := jnf) ⟨false, false, [], 0, 0⟩ 9999 rfl (by repeat (first | exact obs_nil | refine obs_draw (by kernel_rfl) ?_ | refine obs_same ?_ | refine obs_and ?_ | refine obs_by (by (simp [inB] <;> omega)) ?_)) ?_
      refine runS_ret (I := inf) 0 rfl (Nat.le_refl _) rfl .nil rfl ⟨?_, rfl⟩
      rfl
    · refine callS_body (n := 62) rfl rfl fun w ρ X => ?_
      refine runS_x (I := inf) (J := jnf) ⟨false, false, [], 0, 0⟩ 9999 rfl (by repeat (first | exact obs_nil | refine obs_draw (by kernel_rfl) ?_ | refine obs_same ?_ | refine obs_and ?_ | refine obs_by (by (simp [inB] <;> omega)) ?_)) ?_
      refine runS_call rfl rfl rfl rfl rfl rfl rfl hvd ?_
      refine runS_x (I := inf) (J := jnf) ⟨false, false, [], 0, 0⟩ 9999 rfl (by repeat (first | exact obs_nil | refine obs_draw (by kernel_rfl) ?_ | refine obs_same ?_ | refine obs_and ?_ | refine obs_by (by (simp [inB] <;> omega)) ?_)) ?_
      refine runS_cond rfl (fun h => by cases h) (fun h => ?_)
      refine runS_x (I := inf) (J := jnf) ⟨false, false, [], 0, 0⟩ 9999 rfl (by repeat (first | exact obs_nil | refine obs_draw (by kernel_rfl) ?_ | refine obs_same ?_ | refine obs_and ?_ | refine obs_by (by (simp [inB] <;> omega)) ?_)) ?_
      refine runS_call rfl rfl rfl rfl rfl rfl rfl hbs ?_
      refine runS_x (I := inf) (J := jnf) ⟨false, false, [], 0, 0⟩ 9999 rfl (by repeat (first | exact obs_nil | refine obs_draw (by kernel_rfl) ?_ | refine obs_same ?_ | refine obs_and ?_ | refine obs_by (by (simp [inB] <;> omega)) ?_)) ?_
      refine runS_cond rfl (fun h => ?_) (fun h => by cases h)
      refine runS_x (I := inf) (J := jnf) ⟨false, false, [], 0, 0⟩ 9999 rfl (by repeat (first | exact obs_nil | refine obs_draw (by kernel_rfl) ?_ | refine obs_same ?_ | refine obs_and ?_ | refine obs_by (by (simp [inB] <;> omega)) ?_)) ?_
      refine runS_ret (I := inf) 0 rfl (Nat.le_refl _) rfl .nil rfl ⟨?_, rfl⟩
      rfl
    · refine callS_body (n := 62) rfl rfl fun w ρ X => ?_
      refine runS_x (I := inf) (J := jnf) ⟨false, false, [], 0, 0⟩ 9999 rfl (by repeat (first | exact obs_nil | refine obs_draw (by kernel_rfl) ?_ | refine obs_same ?_ | refine obs_and ?_ | refine obs_by (by (simp [inB] <;> omega)) ?_)) ?_
      refine runS_call rfl rfl rfl rfl rfl rfl rfl hvd ?_
      refine runS_x (I := inf) (J := jnf) ⟨false, false, [], 0, 0⟩ 9999 rfl (by repeat (first | exact obs_nil | refine obs_draw (by kernel_rfl) ?_ | refine obs_same ?_ | refine obs_and ?_ | refine obs_by (by (simp [inB] <;> omega)) ?_)) ?_
      refine runS_cond rfl (fun h => by cases h) (fun h => ?_)
      refine runS_x (I := inf) (J := jnf) ⟨false, false, [], 0, 0⟩ 9999 rfl (by repeat (first | exact obs_nil | refine obs_draw (by kernel_rfl) ?_ | refine obs_same ?_ | refine obs_and ?_ | refine obs_by (by (simp [inB] <;> omega)) ?_)) ?_
      refine runS_call rfl rfl rfl rfl rfl rfl rfl hbs ?_
      refine runS_x (I := inf) (J := jnf) ⟨false, false, [], 0, 0⟩ 9999 rfl (by repeat (first | exact obs_nil | refine obs_draw (by kernel_rfl) ?_ | refine obs_same ?_ | refine obs_and ?_ | refine obs_by (by (simp [inB] <;> omega)) ?_)) ?_
      refine runS_cond rfl (fun h => by cases h) (fun h => ?_)
      refine runS_x (I := inf) (J := jnf) ⟨false, false, [], 0, 0⟩ 9999 rfl (by repeat (first | exact obs_nil | refine obs_draw (by kernel_rfl) ?_ | refine obs_same ?_ | refine obs_and ?_ | refine obs_by (by (simp [inB] <;> omega)) ?_)) ?_
      refine runS_cond rfl (fun h => ?_) (fun h => by cases h)
      refine runS_x (I := inf) (J := jnf) ⟨false, false, [], 0, 0⟩ 9999 rfl (by repeat (first | exact obs_nil | refine obs_draw (by kernel_rfl) ?_ | refine obs_same ?_ | refine obs_and ?_ | refine obs_by (by (simp [inB] <;> omega)) ?_)) ?_
      refine runS_ret (I := inf) 0 rfl (Nat.le_refl _) rfl .nil rfl ⟨?_, rfl⟩
      rfl
    · obtain ⟨hn0, hn1⟩ := hsn (.inl rfl)
      have hrp := lib_repeat [32] n.toNat (by decide) (by omega)
      rw [repeat_one, show ((n.toNat : Nat) : Int) = n by omega] at hrp
      cases vy
      · refine callS_body (n := 62) rfl rfl fun w ρ X => ?_
        refine runS_x (I := inf) (J := jnf) ⟨false, false, [], 0, 0⟩ 9999 rfl (by repeat (first | exact obs_nil | refine obs_draw (by kernel_rfl) ?_ | refine obs_same ?_ | refine obs_and ?_ | refine obs_by (by (simp [inB] <;> omega)) ?_)) ?_
        refine runS_call rfl rfl rfl rfl rfl rfl rfl hvd ?_
        refine runS_x (I := inf) (J := jnf) ⟨false, false, [], 0, 0⟩ 9999 rfl (by repeat (first | exact obs_nil | refine obs_draw (by kernel_rfl) ?_ | refine obs_same ?_ | refine obs_and ?_ | refine obs_by (by (simp [inB] <;> omega)) ?_)) ?_
        refine runS_cond rfl (fun h => by cases h) (fun h => ?_)
        refine runS_x (I := inf) (J := jnf) ⟨false, false, [], 0, 0⟩ 9999 rfl (by repeat (first | exact obs_nil | refine obs_draw (by kernel_rfl) ?_ | refine obs_same ?_ | refine obs_and ?_ | refine obs_by (by (simp [inB] <;> omega)) ?_)) ?_
        refine runS_call rfl rfl rfl rfl rfl rfl rfl hbs ?_
        refine runS_x (I := inf) (J := jnf) ⟨false, false, [], 0, 0⟩ 9999 rfl (by repeat (first | exact obs_nil | refine obs_draw (by kernel_rfl) ?_ | refine obs_same ?_ | refine obs_and ?_ | refine obs_by (by (simp [inB] <;> omega)) ?_)) ?_
        refine runS_cond rfl (fun h => by cases h) (fun h => ?_)
        refine runS_x (I := inf) (J := jnf) ⟨false, false, [], 0, 0⟩ 9999 rfl (by repeat (first | exact obs_nil | refine obs_draw (by kernel_rfl) ?_ | refine obs_same ?_ | refine obs_and ?_ | refine obs_by (by (simp [inB] <;> omega)) ?_)) ?_
        refine runS_cond rfl (fun h => by cases h) (fun h => ?_)
        refine runS_x (I := inf) (J := jnf) ⟨false, false, [], 0, 0⟩ 9999 rfl (by repeat (first | exact obs_nil | refine obs_draw (by kernel_rfl) ?_ | refine obs_same ?_ | refine obs_and ?_ | refine obs_by (by (simp [inB] <;> omega)) ?_)) ?_
        refine runS_cond rfl (fun h => ?_) (fun h => by cases h)
        refine runS_x (I := inf) (J := jnf) ⟨false, false, [], 0, 0⟩ 9999 rfl (by repeat (first | exact obs_nil | refine obs_draw (by kernel_rfl) ?_ | refine obs_same ?_ | refine obs_and ?_ | refine obs_by (by (simp [inB] <;> omega)) ?_)) ?_
        refine runS_call rfl rfl rfl rfl rfl rfl rfl hrp ?_
        refine runS_x (I := inf) (J := jnf) ⟨false, false, [], 0, 0⟩ 9999 rfl (by repeat (first | exact obs_nil | refine obs_draw (by kernel_rfl) ?_ | refine obs_same ?_ | refine obs_and ?_ | refine obs_by (by (simp [inB] <;> omega)) ?_)) ?_
        refine runS_ret (I := inf) 0 rfl (Nat.le_refl _) rfl .nil rfl ⟨?_, rfl⟩
        rfl
      · refine callS_body (n := 62) rfl rfl fun w ρ X => ?_
        refine runS_x (I := inf) (J := jnf) ⟨false, false, [], 0, 0⟩ 9999 rfl (by repeat (first | exact obs_nil | refine obs_draw (by kernel_rfl) ?_ | refine obs_same ?_ | refine obs_and ?_ | refine obs_by (by (simp [inB] <;> omega)) ?_)) ?_
        refine runS_call rfl rfl rfl rfl rfl rfl rfl hvd ?_
        refine runS_x (I := inf) (J := jnf) ⟨false, false, [], 0, 0⟩ 9999 rfl (by repeat (first | exact obs_nil | refine obs_draw (by kernel_rfl) ?_ | refine obs_same ?_ | refine obs_and ?_ | refine obs_by (by (simp [inB] <;> omega)) ?_)) ?_
        refine runS_cond rfl (fun h => by cases h) (fun h => ?_)
        refine runS_x (I := inf) (J := jnf) ⟨false, false, [], 0, 0⟩ 9999 rfl (by repeat (first | exact obs_nil | refine obs_draw (by kernel_rfl) ?_ | refine obs_same ?_ | refine obs_and ?_ | refine obs_by (by (simp [inB] <;> omega)) ?_)) ?_
        refine runS_call rfl rfl rfl rfl rfl rfl rfl hbs ?_
        refine runS_x (I := inf) (J := jnf) ⟨false, false, [], 0, 0⟩ 9999 rfl (by repeat (first | exact obs_nil | refine obs_draw (by kernel_rfl) ?_ | refine obs_same ?_ | refine obs_and ?_ | refine obs_by (by (simp [inB] <;> omega)) ?_)) ?_
        refine runS_cond rfl (fun h => by cases h) (fun h => ?_)
        refine runS_x (I := inf) (J := jnf) ⟨false, false, [], 0, 0⟩ 9999 rfl (by repeat (first | exact obs_nil | refine obs_draw (by kernel_rfl) ?_ | refine obs_same ?_ | refine obs_and ?_ | refine obs_by (by (simp [inB] <;> omega)) ?_)) ?_
        refine runS_cond rfl (fun h => by cases h) (fun h => ?_)
        refine runS_x (I := inf) (J := jnf) ⟨false, false, [], 0, 0⟩ 9999 rfl (by repeat (first | exact obs_nil | refine obs_draw (by kernel_rfl) ?_ | refine obs_same ?_ | refine obs_and ?_ | refine obs_by (by (simp [inB] <;> omega)) ?_)) ?_
        refine runS_cond rfl (fun h => by cases h) (fun h => ?_)
        refine runS_x (I := inf) (J := jnf) ⟨false, false, [], 0, 0⟩ 9999 rfl (by repeat (first | exact obs_nil | refine obs_draw (by kernel_rfl) ?_ | refine obs_same ?_ | refine obs_and ?_ | refine obs_by (by (simp [inB] <;> omega)) ?_)) ?_
        refine runS_cond rfl (fun h => by cases h) (fun h => ?_)
        refine runS_x (I := inf) (J := jnf) ⟨false, false, [], 0, 0⟩ 9999 rfl (by repeat (first | exact obs_nil | refine obs_draw (by kernel_rfl) ?_ | refine obs_same ?_ | refine obs_and ?_ | refine obs_by (by (simp [inB] <;> omega)) ?_)) ?_
        refine runS_cond rfl (fun h => by cases h) (fun h => ?_)
        refine runS_x (I := inf) (J := jnf) ⟨false, false, [], 0, 0⟩ 9999 rfl (by repeat (first | exact obs_nil | refine obs_draw (by kernel_rfl) ?_ | refine obs_same ?_ | refine obs_and ?_ | refine obs_by (by (simp [inB] <;> omega)) ?_)) ?_
        refine runS_ret (I := inf) 0 rfl (Nat.le_refl _) rfl .nil rfl ⟨?_, rfl⟩
        rfl
    · obtain ⟨hn0, hn1⟩ := hsn (.inr rfl)
      have hrp := lib_repeat [48] n.toNat (by decide) (by omega)
      rw [repeat_one, show ((n.toNat : Nat) : Int) = n by omega] at hrp
      cases vy
      · refine callS_body (n := 62) rfl rfl fun w ρ X => ?_
        refine runS_x (I := inf) (J := jnf) ⟨false, false, [], 0, 0⟩ 9999 rfl (by repeat (first | exact obs_nil | refine obs_draw (by kernel_rfl) ?_ | refine obs_same ?_ | refine obs_and ?_ | refine obs_by (by (simp [inB] <;> omega)) ?_)) ?_
        refine runS_call rfl rfl rfl rfl rfl rfl rfl hvd ?_
        refine runS_x (I := inf) (J := jnf) ⟨false, false, [], 0, 0⟩ 9999 rfl (by repeat (first | exact obs_nil | refine obs_draw (by kernel_rfl) ?_ | refine obs_same ?_ | refine obs_and ?_ | refine obs_by (by (simp [inB] <;> omega)) ?_)) ?_
        refine runS_cond rfl (fun h => by cases h) (fun h => ?_)
        refine runS_x (I := inf) (J := jnf) ⟨false, false, [], 0, 0⟩ 9999 rfl (by repeat (first | exact obs_nil | refine obs_draw (by kernel_rfl) ?_ | refine obs_same ?_ | refine obs_and ?_ | refine obs_by (by (simp [inB] <;> omega)) ?_)) ?_
        refine runS_call rfl rfl rfl rfl rfl rfl rfl hbs ?_
        refine runS_x (I := inf) (J := jnf) ⟨false, false, [], 0, 0⟩ 9999 rfl (by repeat (first | exact obs_nil | refine obs_draw (by kernel_rfl) ?_ | refine obs_same ?_ | refine obs_and ?_ | refine obs_by (by (simp [inB] <;> omega)) ?_)) ?_
        refine runS_cond rfl (fun h => by cases h) (fun h => ?_)
        refine runS_x (I := inf) (J := jnf) ⟨false, false, [], 0, 0⟩ 9999 rfl (by repeat (first | exact obs_nil | refine obs_draw (by kernel_rfl) ?_ | refine obs_same ?_ | refine obs_and ?_ | refine obs_by (by (simp [inB] <;> omega)) ?_)) ?_
        refine runS_cond rfl (fun h => by cases h) (fun h => ?_)
        refine runS_x (I := inf) (J := jnf) ⟨false, false, [], 0, 0⟩ 9999 rfl (by repeat (first | exact obs_nil | refine obs_draw (by kernel_rfl) ?_ | refine obs_same ?_ | refine obs_and ?_ | refine obs_by (by (simp [inB] <;> omega)) ?_)) ?_
        refine runS_cond rfl (fun h => by cases h) (fun h => ?_)
        refine runS_x (I := inf) (J := jnf) ⟨false, false, [], 0, 0⟩ 9999 rfl (by repeat (first | exact obs_nil | refine obs_draw (by kernel_rfl) ?_ | refine obs_same ?_ | refine obs_and ?_ | refine obs_by (by (simp [inB] <;> omega)) ?_)) ?_
        refine runS_cond rfl (fun h => ?_) (fun h => by cases h)
        refine runS_x (I := inf) (J := jnf) ⟨false, false, [], 0, 0⟩ 9999 rfl (by repeat (first | exact obs_nil | refine obs_draw (by kernel_rfl) ?_ | refine obs_same ?_ | refine obs_and ?_ | refine obs_by (by (simp [inB] <;> omega)) ?_)) ?_
        refine runS_call rfl rfl rfl rfl rfl rfl rfl hrp ?_
        refine runS_x (I := inf) (J := jnf) ⟨false, false, [], 0, 0⟩ 9999 rfl (by repeat (first | exact obs_nil | refine obs_draw (by kernel_rfl) ?_ | refine obs_same ?_ | refine obs_and ?_ | refine obs_by (by (simp [inB] <;> omega)) ?_)) ?_
        refine runS_ret (I := inf) 0 rfl (Nat.le_refl _) rfl .nil rfl ⟨?_, rfl⟩
        rfl
      · refine callS_body (n := 62) rfl rfl fun w ρ X => ?_
        refine runS_x (I := inf) (J := jnf) ⟨false, false, [], 0, 0⟩ 9999 rfl (by repeat (first | exact obs_nil | refine obs_draw (by kernel_rfl) ?_ | refine obs_same ?_ | refine obs_and ?_ | refine obs_by (by (simp [inB] <;> omega)) ?_)) ?_
        refine runS_call rfl rfl rfl rfl rfl rfl rfl hvd ?_
        refine runS_x (I := inf) (J := jnf) ⟨false, false, [], 0, 0⟩ 9999 rfl (by repeat (first | exact obs_nil | refine obs_draw (by kernel_rfl) ?_ | refine obs_same ?_ | refine obs_and ?_ | refine obs_by (by (simp [inB] <;> omega)) ?_)) ?_
        refine runS_cond rfl (fun h => by cases h) (fun h => ?_)
        refine runS_x (I := inf) (J := jnf) ⟨false, false, [], 0, 0⟩ 9999 rfl (by repeat (first | exact obs_nil | refine obs_draw (by kernel_rfl) ?_ | refine obs_same ?_ | refine obs_and ?_ | refine obs_by (by (simp [inB] <;> omega)) ?_)) ?_
        refine runS_call rfl rfl rfl rfl rfl rfl rfl hbs ?_
        refine runS_x (I := inf) (J := jnf) ⟨false, false, [], 0, 0⟩ 9999 rfl (by repeat (first | exact obs_nil | refine obs_draw (by kernel_rfl) ?_ | refine obs_same ?_ | refine obs_and ?_ | refine obs_by (by (simp [inB] <;> omega)) ?_)) ?_
        refine runS_cond rfl (fun h => by cases h) (fun h => ?_)
        refine runS_x (I := inf) (J := jnf) ⟨false, false, [], 0, 0⟩ 9999 rfl (by repeat (first | exact obs_nil | refine obs_draw (by kernel_rfl) ?_ | refine obs_same ?_ | refine obs_and ?_ | refine obs_by (by (simp [inB] <;> omega)) ?_)) ?_
        refine runS_cond rfl (fun h => by cases h) (fun h => ?_)
        refine runS_x (I := inf) (J := jnf) ⟨false, false, [], 0, 0⟩ 9999 rfl (by repeat (first | exact obs_nil | refine obs_draw (by kernel_rfl) ?_ | refine obs_same ?_ | refine obs_and ?_ | refine obs_by (by (simp [inB] <;> omega)) ?_)) ?_
        refine runS_cond rfl (fun h => by cases h) (fun h => ?_)
        refine runS_x (I := inf) (J := jnf) ⟨false, false, [], 0, 0⟩ 9999 rfl (by repeat (first | exact obs_nil | refine obs_draw (by kernel_rfl) ?_ | refine obs_same ?_ | refine obs_and ?_ | refine obs_by (by (simp [inB] <;> omega)) ?_)) ?_
        refine runS_cond rfl (fun h => by cases h) (fun h => ?_)
        refine runS_x (I := inf) (J := jnf) ⟨false, false, [], 0, 0⟩ 9999 rfl (by repeat (first | exact obs_nil | refine obs_draw (by kernel_rfl) ?_ | refine obs_same ?_ | refine obs_and ?_ | refine obs_by (by (simp [inB] <;> omega)) ?_)) ?_
        refine runS_cond rfl (fun h => by cases h) (fun h => ?_)
        refine runS_x (I := inf) (J := jnf) ⟨false, false, [], 0, 0⟩ 9999 rfl (by repeat (first | exact obs_nil | refine obs_draw (by kernel_rfl) ?_ | refine obs_same ?_ | refine obs_and ?_ | refine obs_by (by (simp [inB] <;> omega)) ?_)) ?_
        refine runS_ret (I := inf) 0 rfl (Nat.le_refl _) rfl .nil rfl ⟨?_, rfl⟩
        rfl
    all_goals
      refine callS_body (n := 62) rfl rfl fun w ρ X => ?_
      refine runS_x (I := inf) (J := jnf) ⟨false, false, [], 0, 0⟩ 9999 rfl (by repeat (first | exact obs_nil | refine obs_draw (by kernel_rfl) ?_ | refine obs_same ?_ | refine obs_and ?_ | refine obs_by (by (simp [inB] <;> omega)) ?_)) ?_
      refine runS_call rfl rfl rfl rfl rfl rfl rfl hvd ?_
      refine runS_x (I := inf) (J := jnf) ⟨false, false, [], 0, 0⟩ 9999 rfl (by repeat (first | exact obs_nil | refine obs_draw (by kernel_rfl) ?_ | refine obs_same ?_ | refine obs_and ?_ | refine obs_by (by (simp [inB] <;> omega)) ?_)) ?_
      refine runS_cond rfl (fun h => by cases h) (fun h => ?_)
      refine runS_x (I := inf) (J := jnf) ⟨false, false, [], 0, 0⟩ 9999 rfl (by repeat (first | exact obs_nil | refine obs_draw (by kernel_rfl) ?_ | refine obs_same ?_ | refine obs_and ?_ | refine obs_by (by (simp [inB] <;> omega)) ?_)) ?_
      refine runS_call rfl rfl rfl rfl rfl rfl rfl hbs ?_
      refine runS_x (I := inf) (J := jnf) ⟨false, false, [], 0, 0⟩ 9999 rfl (by repeat (first | exact obs_nil | refine obs_draw (by kernel_rfl) ?_ | refine obs_same ?_ | refine obs_and ?_ | refine obs_by (by (simp [inB] <;> omega)) ?_)) ?_
      refine runS_cond rfl (fun h => by cases h) (fun h => ?_)
      refine runS_x (I := inf) (J := jnf) ⟨false, false, [], 0, 0⟩ 9999 rfl (by repeat (first | exact obs_nil | refine obs_draw (by kernel_rfl) ?_ | refine obs_same ?_ | refine obs_and ?_ | refine obs_by (by (simp [inB] <;> omega)) ?_)) ?_
      refine runS_cond rfl (fun h => by cases h) (fun h => ?_)
      refine runS_x (I := inf) (J := jnf) ⟨false, false, [], 0, 0⟩ 9999 rfl (by repeat (first | exact obs_nil | refine obs_draw (by kernel_rfl) ?_ | refine obs_same ?_ | refine obs_and ?_ | refine obs_by (by (simp [inB] <;> omega)) ?_)) ?_
      refine runS_cond rfl (fun h => by cases h) (fun h => ?_)
      refine runS_x (I := inf) (J := jnf) ⟨false, false, [], 0, 0⟩ 9999 rfl (by repeat (first | exact obs_nil | refine obs_draw (by kernel_rfl) ?_ | refine obs_same ?_ | refine obs_and ?_ | refine obs_by (by (simp [inB] <;> omega)) ?_)) ?_
      refine runS_cond rfl (fun h => by cases h) (fun h => ?_)
      refine runS_x (I := inf) (J := jnf) ⟨false, false, [], 0, 0⟩ 9999 rfl (by repeat (first | exact obs_nil | refine obs_draw (by kernel_rfl) ?_ | refine obs_same ?_ | refine obs_and ?_ | refine obs_by (by (simp [inB] <;> omega)) ?_)) ?_
      refine runS_cond rfl (fun h => ?_) (fun h => by cases h)
      refine runS_x (I := inf) (J := jnf) ⟨false, false, [], 0, 0⟩ 9999 rfl (by repeat (first | exact obs_nil | refine obs_draw (by kernel_rfl) ?_ | refine obs_same ?_ | refine obs_and ?_ | refine obs_by (by (simp [inB] <;> omega)) ?_)) ?_
      refine runS_ret (I := inf) 0 rfl (Nat.le_refl _) rfl .nil rfl ⟨?_, rfl⟩
      rfl
theorem r_Zero (t : Typ) : CallT Tryz.prog 27 [.agg (typE t)] [] (fun o A => o = .ret (.tup [.agg (vlE (zeroV t).1), iv (zeroV t).2]) ∧ A = []) := by
  have hvd := r_valid t
  cases hvt : validT t with
  | false =>
    have hZ : zeroV t = (⟨0, 0, 0, []⟩, 13) := by unfold zeroV; rw [if_pos hvt]
    rw [hvt] at hvd
    rw [hZ]
    refine callS_body (n := 50) rfl rfl fun w ρ X => ?_
    refine runS_x (I := inf) (J := jnf) ⟨false, false, [], 0, 0⟩ 9999 rfl (by repeat (first | exact obs_nil | refine obs_draw (by kernel_rfl) ?_ | refine obs_same ?_ | refine obs_and ?_ | refine obs_by (by (simp [inB] <;> omega)) ?_)) ?_
    refine runS_call rfl rfl rfl rfl rfl rfl rfl hvd ?_
    refine runS_x (I := inf) (J := jnf) ⟨false, false, [], 0, 0⟩ 9999 rfl (by repeat (first | exact obs_nil | refine obs_draw (by kernel_rfl) ?_ | refine obs_same ?_ | refine obs_and ?_ | refine obs_by (by (simp [inB] <;> omega)) ?_)) ?_
    refine runS_cond rfl (fun h => ?_) (fun h => by cases h)
    refine runS_x (I := inf) (J := jnf) ⟨false, false, [], 0, 0⟩ 9999 rfl (by repeat (first | exact obs_nil | refine obs_draw (by kernel_rfl) ?_ | refine obs_same ?_ | refine obs_and ?_ | refine obs_by (by (simp [inB] <;> omega)) ?_)) ?_
    refine runS_ret (I := inf) 0 rfl (Nat.le_refl _) rfl .nil rfl ⟨?_, rfl⟩
    rfl
  | true =>
    rw [hvt] at hvd
    have h9 := valid9 hvt
    have hsn := str_n hvt
    have hZ : zeroV t = if t.kind = 1 ∨ t.kind = 2 then (⟨t.kind, 0, t.q, []⟩, 0) else if t.kind = 3 then (⟨t.kind, 0, 0, []⟩, 0) else if t.kind = 4 then (⟨t.kind, 0, 0, if t.vary = true then [] else List.replicate t.n.toNat 32⟩, 0) else if t.kind = 5 then (⟨t.kind, 0, 0, if t.vary = true then [] else List.replicate t.n.toNat 48⟩, 0) else (⟨0, 0, 0, []⟩, 10) := by unfold zeroV; rw [if_neg (by rw [hvt]; decide)]
    rw [hZ]
    clear hZ
    obtain ⟨kd, p, q, n, vy, pc⟩ := t
    dsimp only at *
    rcases h9 with rfl | rfl | rfl | rfl | rfl | rfl | rfl | rfl | rfl
    · clear hsn
      refine callS_body (n := 50) rfl rfl fun w ρ X => ?_
      refine runS_x (I := inf) (J := jnf) ⟨false, false, [], 0, 0⟩ 9999 rfl (by repeat (first | exact obs_nil | refine obs_draw (by kernel_rfl) ?_ | refine obs_same ?_ | refine obs_and ?_ | refine obs_by (by (simp [inB] <;> omega)) ?_)) ?_
      refine runS_call rfl rfl rfl rfl rfl rfl rfl hvd ?_
      refine runS_x (I := inf) (J := jnf) ⟨false, false, [], 0, 0⟩ 9999 rfl (by repeat (first | exact obs_nil | refine obs_draw (by kernel_rfl) ?_ | refine obs_same ?_ | refine obs_and ?_ | refine obs_by (by (simp [inB] <;> omega)) ?_)) ?_
      refine runS_cond rfl (fun h => by cases h) (fun h => ?_)
      refine runS_x (I := inf) (J := jnf) ⟨false, false, [], 0, 0⟩ 9999 rfl (by repeat (first | exact obs_nil | refine obs_draw (by kernel_rfl) ?_ | refine obs_same ?_ | refine obs_and ?_ | refine obs_by (by (simp [inB] <;> omega)) ?_)) ?_
      refine runS_cond rfl (fun h => ?_) (fun h => by cases h)
      refine runS_x (I := inf) (J := jnf) ⟨false, false, [], 0, 0⟩ 9999 rfl (by repeat (first | exact obs_nil | refine obs_draw (by kernel_rfl) ?_ | refine obs_same ?_ | refine obs_and ?_ | refine obs_by (by (simp [inB] <;> omega)) ?_)) ?_
      refine runS_cond rfl (fun h => ?_) (fun h => by cases h)
      refine runS_x (I := inf) (J := jnf) ⟨false, false, [], 0, 0⟩ 9999 rfl (by repeat (first | exact obs_nil | refine obs_draw (by kernel_rfl) ?_ | refine obs_same ?_ | refine obs_and ?_ | refine obs_by (by (simp [inB] <;> omega)) ?_)) ?_
      refine runS_ret (I := inf) 0 rfl (Nat.le_refl _) rfl .nil rfl ⟨?_, rfl⟩
      rfl
    · clear hsn
      refine callS_body (n := 50) rfl rfl fun w ρ X => ?_
      refine runS_x (I := inf) (J := jnf) ⟨false, false, [], 0, 0⟩ 9999 rfl (by repeat (first | exact obs_nil | refine obs_draw (by kernel_rfl) ?_ | refine obs_same ?_ | refine obs_and ?_ | refine obs_by (by (simp [inB] <;> omega)) ?_)) ?_
      refine runS_call rfl rfl rfl rfl rfl rfl rfl hvd ?_
      refine runS_x (I := inf) (J := jnf) ⟨false, false, [], 0, 0⟩ 9999 rfl (by repeat (first | exact obs_nil | refine obs_draw (by kernel_rfl) ?_ | refine obs_same ?_ | refine obs_and ?_ | refine obs_by (by (simp [inB] <;> omega)) ?_)) ?_
      refine runS_cond rfl (fun h => by cases h) (fun h => ?_)
      refine runS_x (I := inf) (J := jnf) ⟨false, false, [], 0, 0⟩ 9999 rfl (by repeat (first | exact obs_nil | refine obs_draw (by kernel_rfl) ?_ | refine obs_same ?_ | refine obs_and ?_ | refine obs_by (by (simp [inB] <;> omega)) ?_)) ?_
      refine runS_cond rfl (fun h => by cases h) (fun h => ?_)
      refine runS_x (I := inf) (J := jnf) ⟨false, false, [], 0, 0⟩ 9999 rfl (by repeat (first | exact obs_nil | refine obs_draw (by kernel_rfl) ?_ | refine obs_same ?_ | refine obs_and ?_ | refine obs_by (by (simp [inB] <;> omega)) ?_)) ?_
      refine runS_cond rfl (fun h => ?_) (fun h => by cases h)
      refine runS_x (I := inf) (J := jnf) ⟨false, false, [], 0, 0⟩ 9999 rfl (by repeat (first | exact obs_nil | refine obs_draw (by kernel_rfl) ?_ | refine obs_same ?_ | refine obs_and ?_ | refine obs_by (by (simp [inB] <;> omega)) ?_)) ?_
      refine runS_ret (I := inf) 0 rfl (Nat.le_refl _) rfl .nil rfl ⟨?_, rfl⟩
      rfl
    · clear hsn
      refine callS_body (n := 50) rfl rfl fun w ρ X => ?_
      refine runS_x (I := inf) (J := jnf) ⟨false, false, [], 0, 0⟩ 9999 rfl (by repeat (first | exact obs_nil | refine obs_draw (by kernel_rfl) ?_ | refine obs_same ?_ | refine obs_and ?_ | refine obs_by (by (simp [inB] <;> omega)) ?_)) ?_
      refine runS_call rfl rfl rfl rfl rfl rfl rfl hvd ?_
      refine runS_x (I := inf) (J := jnf) ⟨false, false, [], 0, 0⟩ 9999 rfl (by repeat (first | exact obs_nil | refine obs_draw (by kernel_rfl) ?_ | refine obs_same ?_ | refine obs_and ?_ | refine obs_by (by (simp [inB] <;> omega)) ?_)) ?_
      refine runS_cond rfl (fun h => by cases h) (fun h => ?_)
      refine runS_x (I := inf) (J := jnf) ⟨false, false, [], 0, 0⟩ 9999 rfl (by repeat (first | exact obs_nil | refine obs_draw (by kernel_rfl) ?_ | refine obs_same ?_ | refine obs_and ?_ | refine obs_by (by (simp [inB] <;> omega)) ?_)) ?_
      refine runS_cond rfl (fun h => by cases h) (fun h => ?_)
      refine runS_x (I := inf) (J := jnf) ⟨false, false, [], 0, 0⟩ 9999 rfl (by repeat (first | exact obs_nil | refine obs_draw (by kernel_rfl) ?_ | refine obs_same ?_ | refine obs_and ?_ | refine obs_by (by (simp [inB] <;> omega)) ?_)) ?_
      refine runS_cond rfl (fun h => by cases h) (fun h => ?_)
      refine runS_x (I := inf) (J := jnf) ⟨false, false, [], 0, 0⟩ 9999 rfl (by repeat (first | exact obs_nil | refine obs_draw (by kernel_rfl) ?_ | refine obs_same ?_ | refine obs_and ?_ | refine obs_by (by (simp [inB] <;> omega)) ?_)) ?_
      refine runS_cond rfl (fun h => ?_) (fun h => by cases h)
      refine runS_x (I := inf) (J := jnf) ⟨false, false, [], 0, 0⟩ 9999 rfl (by repeat (first | exact obs_nil | refine obs_draw (by kernel_rfl) ?_ | refine obs_same ?_ | refine obs_and ?_ | refine obs_by (by (simp [inB] <;> omega)) ?_)) ?_
      refine runS_ret (I := inf) 0 rfl (Nat.le_refl _) rfl .nil rfl ⟨?_, rfl⟩
      rfl
    · obtain ⟨hn0, hn1⟩ := hsn (by decide)
      obtain ⟨N, rfl⟩ : ∃ N : Nat, n = (N : Int) := ⟨n.toNat, by omega⟩
      refine callS_body (n := 50) rfl rfl fun w ρ X => ?_
      refine runS_x (I := inf) (J := jnf) ⟨false, false, [], 0, 0⟩ 9999 rfl (by repeat (first | exact obs_nil | refine obs_draw (by kernel_rfl) ?_ | refine obs_same ?_ | refine obs_and ?_ | refine obs_by (by (simp [inB] <;> omega)) ?_)) ?_
      refine runS_call rfl rfl rfl rfl rfl rfl rfl hvd ?_
      refine runS_x (I := inf) (J := jnf) ⟨false, false, [], 0, 0⟩ 9999 rfl (by repeat (first | exact obs_nil | refine obs_draw (by kernel_rfl) ?_ | refine obs_same ?_ | refine obs_and ?_ | refine obs_by (by (simp [inB] <;> omega)) ?_)) ?_
      refine runS_cond rfl (fun h => by cases h) (fun h => ?_)
      refine runS_x (I := inf) (J := jnf) ⟨false, false, [], 0, 0⟩ 9999 rfl (by repeat (first | exact obs_nil | refine obs_draw (by kernel_rfl) ?_ | refine obs_same ?_ | refine obs_and ?_ | refine obs_by (by (simp [inB] <;> omega)) ?_)) ?_
      refine runS_cond rfl (fun h => by cases h) (fun h => ?_)
      refine runS_x (I := inf) (J := jnf) ⟨false, false, [], 0, 0⟩ 9999 rfl (by repeat (first | exact obs_nil | refine obs_draw (by kernel_rfl) ?_ | refine obs_same ?_ | refine obs_and ?_ | refine obs_by (by (simp [inB] <;> omega)) ?_)) ?_
      refine runS_cond rfl (fun h => by cases h) (fun h => ?_)
      refine runS_x (I := inf) (J := jnf) ⟨false, false, [], 0, 0⟩ 9999 rfl (by repeat (first | exact obs_nil | refine obs_draw (by kernel_rfl) ?_ | refine obs_same ?_ | refine obs_and ?_ | refine obs_by (by (simp [inB] <;> omega)) ?_)) ?_
      refine runS_cond rfl (fun h => by cases h) (fun h => ?_)
      refine runS_x (I := inf) (J := jnf) ⟨false, false, [], 0, 0⟩ 9999 rfl (by repeat (first | exact obs_nil | refine obs_draw (by kernel_rfl) ?_ | refine obs_same ?_ | refine obs_and ?_ | refine obs_by (by (simp [inB] <;> omega)) ?_)) ?_
      refine runS_cond rfl (fun h => ?_) (fun h => by cases h)
      refine runS_x (I := inf) (J := jnf) ⟨false, false, [], 0, 0⟩ 9999 rfl (by repeat (first | exact obs_nil | refine obs_draw (by kernel_rfl) ?_ | refine obs_same ?_ | refine obs_and ?_ | refine obs_by (by (simp [inB] <;> omega)) ?_)) ?_
      refine runS_cond rfl (fun h => ?_) (fun h => by cases h)
      refine runS_x (I := inf) (J := jnf) ⟨false, false, [], 0, 0⟩ 9999 rfl (by repeat (first | exact obs_nil | refine obs_draw (by kernel_rfl) ?_ | refine obs_same ?_ | refine obs_and ?_ | refine obs_by (by (simp [inB] <;> omega)) ?_)) ?_
      refine runS_while (fun (i : Nat) τ ar => (τ 1 = .ptr 0 0 0 ∧ τ 2 = .ptr 1 0 0 ∧ τ 4 = .ptr 2 0 0 ∧ τ 5 = iv i) ∧ ar = [.box 25 (typE ⟨4, p, q, N, vy, pc⟩), .box 23 [iv 0, iv 0, iv 0, sv []], .box 23 [iv 4, iv 0, iv 0, sv (List.replicate i 32)]] ∧ i ≤ N ∧ (vy = true → i = 0)) (fun i => N - i) 0 ⟨⟨rfl, rfl, rfl, rfl⟩, rfl, Nat.zero_le _, fun _ => rfl⟩ ?_
      rintro i τ' ar' ⟨⟨g1, g2, g4, g5⟩, rfl, hi, hvy⟩ ih
      refine runS_says 1 (by exact g1) (Says.refl _) ?_; refine runS_says 2 (by exact g2) (Says.refl _) ?_; refine runS_says 4 (by exact g4) (Says.refl _) ?_; refine runS_says 5 (by exact g5) (Says.refl _) ?_
      refine runS_x (I := inf) (J := jnf) ⟨false, false, [], 0, 0⟩ 9999 rfl (by repeat (first | exact obs_nil | refine obs_draw (by kernel_rfl) ?_ | refine obs_same ?_ | refine obs_and ?_ | refine obs_by (by (simp [inB] <;> omega)) ?_)) ?_
      refine runS_cond rfl (fun h => ?_) (fun h => ?_)
      · have h' : (if decide ((i : Int) < (N : Int)) = true then !vy else false) = true := h
        have hlt : i < N ∧ vy = false := by
          revert h'
          by_cases hl : i < N
          · rw [decide_eq_true (show (i : Int) < (N : Int) by omega)]
            cases vy <;> simp [hl]
          · rw [decide_eq_false (show ¬ (i : Int) < (N : Int) by omega)]
            simp
        obtain ⟨hlt, hv0⟩ := hlt
        have hw1 : IntKind.wrap .i64 ((i : Int) + 1) = ((i + 1 : Nat) : Int) := by rw [w64 (by omega) (by omega)]; rfl
        have hrl : (List.replicate i (32 : UInt8)).length = i := List.length_replicate
        have hone : (bl (ByteArray.mk #[32])).length = 1 := rfl
        refine runS_x (I := inf) (J := jnf) ⟨false, false, [], 0, 0⟩ 9999 rfl (by repeat (first | exact obs_nil | refine obs_draw (by kernel_rfl) ?_ | refine obs_same ?_ | refine obs_and ?_ | refine obs_by (by (simp [inB] <;> omega)) ?_)) ?_
        refine runS_cond rfl (fun h => ?_) (fun h => by cases h)
        refine runS_x (I := inf) (J := jnf) ⟨false, false, [], 0, 0⟩ 9999 rfl (by repeat (first | exact obs_nil | refine obs_draw (by kernel_rfl) ?_ | refine obs_same ?_ | refine obs_and ?_ | refine obs_by (by (simp [inB, blS, hrl, hone] <;> omega)) ?_)) ?_
        refine ih (i + 1) _ _ (by omega) ⟨⟨rfl, rfl, rfl, congrArg iv hw1⟩, ?_, hlt, fun e => by rw [hv0] at e; cases e⟩
        rw [List.replicate_succ']
        rfl
      · have h' : (if decide ((i : Int) < (N : Int)) = true then !vy else false) = false := h
        have hie : vy = true ∨ i = N := by
          revert h'
          by_cases hl : i < N
          · rw [decide_eq_true (show (i : Int) < (N : Int) by omega)]
            cases vy <;> simp
          · intro _
            exact .inr (by omega)
        have hs : (if vy = true then [] else List.replicate ((N : Int)).toNat (32 : UInt8)) = List.replicate i 32 := by
          rcases hie with e | e
          · rw [if_pos e, hvy e]; rfl
          · cases vy with
            | true => rw [if_pos rfl, hvy rfl]; rfl
            | false => rw [if_neg (by decide), Int.toNat_natCast, e]
        show RunS _ _ _ _ _ (fun o A => o = .ret (.tup [.agg (vaE 4 0 0 (if vy = true then [] else List.replicate ((N : Int)).toNat 32)), iv 0]) ∧ A = [])
        rw [hs]
        refine runS_x (I := inf) (J := jnf) ⟨false, false, [], 0, 0⟩ 9999 rfl (by repeat (first | exact obs_nil | refine obs_draw (by kernel_rfl) ?_ | refine obs_same ?_ | refine obs_and ?_ | refine obs_by (by (simp [inB] <;> omega)) ?_)) ?_
        refine runS_ret (I := inf) 0 rfl (Nat.le_refl _) rfl .nil rfl ⟨?_, rfl⟩
        rfl
    · obtain ⟨hn0, hn1⟩ := hsn (by decide)
      obtain ⟨N, rfl⟩ : ∃ N : Nat, n = (N : Int) := ⟨n.toNat, by omega⟩
      refine callS_body (n := 50) rfl rfl fun w ρ X => ?_
      refine runS_x (I := inf) (J := jnf) ⟨false, false, [], 0, 0⟩ 9999 rfl (by repeat (first | exact obs_nil | refine obs_draw (by kernel_rfl) ?_ | refine obs_same ?_ | refine obs_and ?_ | refine obs_by (by (simp [inB] <;> omega)) ?_)) ?_
      refine runS_call rfl rfl rfl rfl rfl rfl rfl hvd ?_
      refine runS_x (I := inf) (J := jnf) ⟨false, false, [], 0, 0⟩ 9999 rfl (by repeat (first | exact obs_nil | refine obs_draw (by kernel_rfl) ?_ | refine obs_same ?_ | refine obs_and ?_ | refine obs_by (by (simp [inB] <;> omega)) ?_)) ?_
      refine runS_cond rfl (fun h => by cases h) (fun h => ?_)
      refine runS_x (I := inf) (J := jnf) ⟨false, false, [], 0, 0⟩ 9999 rfl (by repeat (first | exact obs_nil | refine obs_draw (by kernel_rfl) ?_ | refine obs_same ?_ | refine obs_and ?_ | refine obs_by (by (simp [inB] <;> omega)) ?_)) ?_
      refine runS_cond rfl (fun h => by cases h) (fun h => ?_)
      refine runS_x (I := inf) (J := jnf) ⟨false, false, [], 0, 0⟩ 9999 rfl (by repeat (first | exact obs_nil | refine obs_draw (by kernel_rfl) ?_ | refine obs_same ?_ | refine obs_and ?_ | refine obs_by (by (simp [inB] <;> omega)) ?_)) ?_
      refine runS_cond rfl (fun h => by cases h) (fun h => ?_)
      refine runS_x (I := inf) (J := jnf) ⟨false, false, [], 0, 0⟩ 9999 rfl (by repeat (first | exact obs_nil | refine obs_draw (by kernel_rfl) ?_ | refine obs_same ?_ | refine obs_and ?_ | refine obs_by (by (simp [inB] <;> omega)) ?_)) ?_
      refine runS_cond rfl (fun h => by cases h) (fun h => ?_)
      refine runS_x (I := inf) (J := jnf) ⟨false, false, [], 0, 0⟩ 9999 rfl (by repeat (first | exact obs_nil | refine obs_draw (by kernel_rfl) ?_ | refine obs_same ?_ | refine obs_and ?_ | refine obs_by (by (simp [inB] <;> omega)) ?_)) ?_
      refine runS_cond rfl (fun h => by cases h) (fun h => ?_)
      refine runS_x (I := inf) (J := jnf) ⟨false, false, [], 0, 0⟩ 9999 rfl (by repeat (first | exact obs_nil | refine obs_draw (by kernel_rfl) ?_ | refine obs_same ?_ | refine obs_and ?_ | refine obs_by (by (simp [inB] <;> omega)) ?_)) ?_
      refine runS_cond rfl (fun h => ?_) (fun h => by cases h)
      refine runS_x (I := inf) (J := jnf) ⟨false, false, [], 0, 0⟩ 9999 rfl (by repeat (first | exact obs_nil | refine obs_draw (by kernel_rfl) ?_ | refine obs_same ?_ | refine obs_and ?_ | refine obs_by (by (simp [inB] <;> omega)) ?_)) ?_
      refine runS_while (fun (i : Nat) τ ar => (τ 1 = .ptr 0 0 0 ∧ τ 2 = .ptr 1 0 0 ∧ τ 4 = .ptr 2 0 0 ∧ τ 5 = iv i) ∧ ar = [.box 25 (typE ⟨5, p, q, N, vy, pc⟩), .box 23 [iv 0, iv 0, iv 0, sv []], .box 23 [iv 5, iv 0, iv 0, sv (List.replicate i 48)]] ∧ i ≤ N ∧ (vy = true → i = 0)) (fun i => N - i) 0 ⟨⟨rfl, rfl, rfl, rfl⟩, rfl, Nat.zero_le _, fun _ => rfl⟩ ?_
      rintro i τ' ar' ⟨⟨g1, g2, g4, g5⟩, rfl, hi, hvy⟩ ih
      refine runS_says 1 (by exact g1) (Says.refl _) ?_; refine runS_says 2 (by exact g2) (Says.refl _) ?_; refine runS_says 4 (by exact g4) (Says.refl _) ?_; refine runS_says 5 (by exact g5) (Says.refl _) ?_
      refine runS_x (I := inf) (J := jnf) ⟨false, false, [], 0, 0⟩ 9999 rfl (by repeat (first | exact obs_nil | refine obs_draw (by kernel_rfl) ?_ | refine obs_same ?_ | refine obs_and ?_ | refine obs_by (by (simp [inB] <;> omega)) ?_)) ?_
      refine runS_cond rfl (fun h => ?_) (fun h => ?_)
      · have h' : (if decide ((i : Int) < (N : Int)) = true then !vy else false) = true := h
        have hlt : i < N ∧ vy = false := by
          revert h'
          by_cases hl : i < N
          · rw [decide_eq_true (show (i : Int) < (N : Int) by omega)]
            cases vy <;> simp [hl]
          · rw [decide_eq_false (show ¬ (i : Int) < (N : Int) by omega)]
            simp
        obtain ⟨hlt, hv0⟩ := hlt
        have hw1 : IntKind.wrap .i64 ((i : Int) + 1) = ((i + 1 : Nat) : Int) := by rw [w64 (by omega) (by omega)]; rfl
        have hrl : (List.replicate i (48 : UInt8)).length = i := List.length_replicate
        have hone : (bl (ByteArray.mk #[48])).length = 1 := rfl
        refine runS_x (I := inf) (J := jnf) ⟨false, false, [], 0, 0⟩ 9999 rfl (by repeat (first | exact obs_nil | refine obs_draw (by kernel_rfl) ?_ | refine obs_same ?_ | refine obs_and ?_ | refine obs_by (by (simp [inB] <;> omega)) ?_)) ?_
        refine runS_cond rfl (fun h => by cases h) (fun h => ?_)
        refine runS_x (I := inf) (J := jnf) ⟨false, false, [], 0, 0⟩ 9999 rfl (by repeat (first | exact obs_nil | refine obs_draw (by kernel_rfl) ?_ | refine obs_same ?_ | refine obs_and ?_ | refine obs_by (by (simp [inB, blS, hrl, hone] <;> omega)) ?_)) ?_
        refine ih (i + 1) _ _ (by omega) ⟨⟨rfl, rfl, rfl, congrArg iv hw1⟩, ?_, hlt, fun e => by rw [hv0] at e; cases e⟩
        rw [List.replicate_succ']
        rfl
      · have h' : (if decide ((i : Int) < (N : Int)) = true then !vy else false) = false := h
        have hie : vy = true ∨ i = N := by
          revert h'
          by_cases hl : i < N
          · rw [decide_eq_true (show (i : Int) < (N : Int) by omega)]
            cases vy <;> simp
          · intro _
            exact .inr (by omega)
        have hs : (if vy = true then [] else List.replicate ((N : Int)).toNat (48 : UInt8)) = List.replicate i 48 := by
          rcases hie with e | e
          · rw [if_pos e, hvy e]; rfl
          · cases vy with
            | true => rw [if_pos rfl, hvy rfl]; rfl
            | false => rw [if_neg (by decide), Int.toNat_natCast, e]
        show RunS _ _ _ _ _ (fun o A => o = .ret (.tup [.agg (vaE 5 0 0 (if vy = true then [] else List.replicate ((N : Int)).toNat 48)), iv 0]) ∧ A = [])
        rw [hs]
        refine runS_x (I := inf) (J := jnf) ⟨false, false, [], 0, 0⟩ 9999 rfl (by repeat (first | exact obs_nil | refine obs_draw (by kernel_rfl) ?_ | refine obs_same ?_ | refine obs_and ?_ | refine obs_by (by (simp [inB] <;> omega)) ?_)) ?_
        refine runS_ret (I := inf) 0 rfl (Nat.le_refl _) rfl .nil rfl ⟨?_, rfl⟩
        rfl
    · clear hsn
      refine callS_body (n := 50) rfl rfl fun w ρ X => ?_
      refine runS_x (I := inf) (J := jnf) ⟨false, false, [], 0, 0⟩ 9999 rfl (by repeat (first | exact obs_nil | refine obs_draw (by kernel_rfl) ?_ | refine obs_same ?_ | refine obs_and ?_ | refine obs_by (by (simp [inB] <;> omega)) ?_)) ?_
      refine runS_call rfl rfl rfl rfl rfl rfl rfl hvd ?_
      refine runS_x (I := inf) (J := jnf) ⟨false, false, [], 0, 0⟩ 9999 rfl (by repeat (first | exact obs_nil | refine obs_draw (by kernel_rfl) ?_ | refine obs_same ?_ | refine obs_and ?_ | refine obs_by (by (simp [inB] <;> omega)) ?_)) ?_
      refine runS_cond rfl (fun h => by cases h) (fun h => ?_)
      refine runS_x (I := inf) (J := jnf) ⟨false, false, [], 0, 0⟩ 9999 rfl (by repeat (first | exact obs_nil | refine obs_draw (by kernel_rfl) ?_ | refine obs_same ?_ | refine obs_and ?_ | refine obs_by (by (simp [inB] <;> omega)) ?_)) ?_
      refine runS_cond rfl (fun h => by cases h) (fun h => ?_)
      refine runS_x (I := inf) (J := jnf) ⟨false, false, [], 0, 0⟩ 9999 rfl (by repeat (first | exact obs_nil | refine obs_draw (by kernel_rfl) ?_ | refine obs_same ?_ | refine obs_and ?_ | refine obs_by (by (simp [inB] <;> omega)) ?_)) ?_
      refine runS_cond rfl (fun h => by cases h) (fun h => ?_)
      refine runS_x (I := inf) (J := jnf) ⟨false, false, [], 0, 0⟩ 9999 rfl (by repeat (first | exact obs_nil | refine obs_draw (by kernel_rfl) ?_ | refine obs_same ?_ | refine obs_and ?_ | refine obs_by (by (simp [inB] <;> omega)) ?_)) ?_
      refine runS_cond rfl (fun h => by cases h) (fun h => ?_)
      refine runS_x (I := inf) (J := jnf) ⟨false, false, [], 0, 0⟩ 9999 rfl (by repeat (first | exact obs_nil | refine obs_draw (by kernel_rfl) ?_ | refine obs_same ?_ | refine obs_and ?_ | refine obs_by (by (simp [inB] <;> omega)) ?_)) ?_
      refine runS_cond rfl (fun h => by cases h) (fun h => ?_)
      refine runS_x (I := inf) (J := jnf) ⟨false, false, [], 0, 0⟩ 9999 rfl (by repeat (first | exact obs_nil | refine obs_draw (by kernel_rfl) ?_ | refine obs_same ?_ | refine obs_and ?_ | refine obs_by (by (simp [inB] <;> omega)) ?_)) ?_
      refine runS_cond rfl (fun h => by cases h) (fun h => ?_)
      refine runS_x (I := inf) (J := jnf) ⟨false, false, [], 0, 0⟩ 9999 rfl (by repeat (first | exact obs_nil | refine obs_draw (by kernel_rfl) ?_ | refine obs_same ?_ | refine obs_and ?_ | refine obs_by (by (simp [inB] <;> omega)) ?_)) ?_
      refine runS_ret (I := inf) 0 rfl (Nat.le_refl _) rfl .nil rfl ⟨?_, rfl⟩
      rfl
    · clear hsn
      refine callS_body (n := 50) rfl rfl fun w ρ X => ?_
      refine runS_x (I := inf) (J := jnf) ⟨false, false, [], 0, 0⟩ 9999 rfl (by repeat (first | exact obs_nil | refine obs_draw (by kernel_rfl) ?_ | refine obs_same ?_ | refine obs_and ?_ | refine obs_by (by (simp [inB] <;> omega)) ?_)) ?_
      refine runS_call rfl rfl rfl rfl rfl rfl rfl hvd ?_
      refine runS_x (I := inf) (J := jnf) ⟨false, false, [], 0, 0⟩ 9999 rfl (by repeat (first | exact obs_nil | refine obs_draw (by kernel_rfl) ?_ | refine obs_same ?_ | refine obs_and ?_ | refine obs_by (by (simp [inB] <;> omega)) ?_)) ?_
      refine runS_cond rfl (fun h => by cases h) (fun h => ?_)
      refine runS_x (I := inf) (J := jnf) ⟨false, false, [], 0, 0⟩ 9999 rfl (by repeat (first | exact obs_nil | refine obs_draw (by kernel_rfl) ?_ | refine obs_same ?_ | refine obs_and ?_ | refine obs_by (by (simp [inB] <;> omega)) ?_)) ?_
      refine runS_cond rfl (fun h => by cases h) (fun h => ?_)
      refine runS_x (I := inf) (J := jnf) ⟨false, false, [], 0, 0⟩ 9999 rfl (by repeat (first | exact obs_nil | refine obs_draw (by kernel_rfl) ?_ | refine obs_same ?_ | refine obs_and ?_ | refine obs_by (by (simp [inB] <;> omega)) ?_)) ?_
      refine runS_cond rfl (fun h => by cases h) (fun h => ?_)
      refine runS_x (I := inf) (J := jnf) ⟨false, false, [], 0, 0⟩ 9999 rfl (by repeat (first | exact obs_nil | refine obs_draw (by kernel_rfl) ?_ | refine obs_same ?_ | refine obs_and ?_ | refine obs_by (by (simp [inB] <;> omega)) ?_)) ?_
      refine runS_cond rfl (fun h => by cases h) (fun h => ?_)
      refine runS_x (I := inf) (J := jnf) ⟨false, false, [], 0, 0⟩ 9999 rfl (by repeat (first | exact obs_nil | refine obs_draw (by kernel_rfl) ?_ | refine obs_same ?_ | refine obs_and ?_ | refine obs_by (by (simp [inB] <;> omega)) ?_)) ?_
      refine runS_cond rfl (fun h => by cases h) (fun h => ?_)
      refine runS_x (I := inf) (J := jnf) ⟨false, false, [], 0, 0⟩ 9999 rfl (by repeat (first | exact obs_nil | refine obs_draw (by kernel_rfl) ?_ | refine obs_same ?_ | refine obs_and ?_ | refine obs_by (by (simp [inB] <;> omega)) ?_)) ?_
      refine runS_cond rfl (fun h => by cases h) (fun h => ?_)
      refine runS_x (I := inf) (J := jnf) ⟨false, false, [], 0, 0⟩ 9999 rfl (by repeat (first | exact obs_nil | refine obs_draw (by kernel_rfl) ?_ | refine obs_same ?_ | refine obs_and ?_ | refine obs_by (by (simp [inB] <;> omega)) ?_)) ?_
      refine runS_ret (I := inf) 0 rfl (Nat.le_refl _) rfl .nil rfl ⟨?_, rfl⟩
      rfl
    · clear hsn
      refine callS_body (n := 50) rfl rfl fun w ρ X => ?_
      refine runS_x (I := inf) (J := jnf) ⟨false, false, [], 0, 0⟩ 9999 rfl (by repeat (first | exact obs_nil | refine obs_draw (by kernel_rfl) ?_ | refine obs_same ?_ | refine obs_and ?_ | refine obs_by (by (simp [inB] <;> omega)) ?_)) ?_
      refine runS_call rfl rfl rfl rfl rfl rfl rfl hvd ?_
      refine runS_x (I := inf) (J := jnf) ⟨false, false, [], 0, 0⟩ 9999 rfl (by repeat (first | exact obs_nil | refine obs_draw (by kernel_rfl) ?_ | refine obs_same ?_ | refine obs_and ?_ | refine obs_by (by (simp [inB] <;> omega)) ?_)) ?_
      refine runS_cond rfl (fun h => by cases h) (fun h => ?_)
      refine runS_x (I := inf) (J := jnf) ⟨false, false, [], 0, 0⟩ 9999 rfl (by repeat (first | exact obs_nil | refine obs_draw (by kernel_rfl) ?_ | refine obs_same ?_ | refine obs_and ?_ | refine obs_by (by (simp [inB] <;> omega)) ?_)) ?_
      refine runS_cond rfl (fun h => by cases h) (fun h => ?_)
      refine runS_x (I := inf) (J := jnf) ⟨false, false, [], 0, 0⟩ 9999 rfl (by repeat (first | exact obs_nil | refine obs_draw (by kernel_rfl) ?_ | refine obs_same ?_ | refine obs_and ?_ | refine obs_by (by (simp [inB] <;> omega)) ?_)) ?_
      refine runS_cond rfl (fun h => by cases h) (fun h => ?_)
      refine runS_x (I := inf) (J := jnf) ⟨false, false, [], 0, 0⟩ 9999 rfl (by repeat (first | exact obs_nil | refine obs_draw (by kernel_rfl) ?_ | refine obs_same ?_ | refine obs_and ?_ | refine obs_by (by (simp [inB] <;> omega)) ?_)) ?_
      refine runS_cond rfl (fun h => by cases h) (fun h => ?_)
      refine runS_x (I := inf) (J := jnf) ⟨false, false, [], 0, 0⟩ 9999 rfl (by repeat (first | exact obs_nil | refine obs_draw (by kernel_rfl) ?_ | refine obs_same ?_ | refine obs_and ?_ | refine obs_by (by (simp [inB] <;> omega)) ?_)) ?_
      refine runS_cond rfl (fun h => by cases h) (fun h => ?_)
      refine runS_x (I := inf) (J := jnf) ⟨false, false, [], 0, 0⟩ 9999 rfl (by repeat (first | exact obs_nil | refine obs_draw (by kernel_rfl) ?_ | refine obs_same ?_ | refine obs_and ?_ | refine obs_by (by (simp [inB] <;> omega)) ?_)) ?_
      refine runS_cond rfl (fun h => by cases h) (fun h => ?_)
      refine runS_x (I := inf) (J := jnf) ⟨false, false, [], 0, 0⟩ 9999 rfl (by repeat (first | exact obs_nil | refine obs_draw (by kernel_rfl) ?_ | refine obs_same ?_ | refine obs_and ?_ | refine obs_by (by (simp [inB] <;> omega)) ?_)) ?_
      refine runS_ret (I := inf) 0 rfl (Nat.le_refl _) rfl .nil rfl ⟨?_, rfl⟩
      rfl
    · clear hsn
      refine callS_body (n := 50) rfl rfl fun w ρ X => ?_
      refine runS_x (I := inf) (J := jnf) ⟨false, false, [], 0, 0⟩ 9999 rfl (by repeat (first | exact obs_nil | refine obs_draw (by kernel_rfl) ?_ | refine obs_same ?_ | refine obs_and ?_ | refine obs_by (by (simp [inB] <;> omega)) ?_)) ?_
      refine runS_call rfl rfl rfl rfl rfl rfl rfl hvd ?_
      refine runS_x (I := inf) (J := jnf) ⟨false, false, [], 0, 0⟩ 9999 rfl (by repeat (first | exact obs_nil | refine obs_draw (by kernel_rfl) ?_ | refine obs_same ?_ | refine obs_and ?_ | refine obs_by (by (simp [inB] <;> omega)) ?_)) ?_
      refine runS_cond rfl (fun h => by cases h) (fun h => ?_)
      refine runS_x (I := inf) (J := jnf) ⟨false, false, [], 0, 0⟩ 9999 rfl (by repeat (first | exact obs_nil | refine obs_draw (by kernel_rfl) ?_ | refine obs_same ?_ | refine obs_and ?_ | refine obs_by (by (simp [inB] <;> omega)) ?_)) ?_
      refine runS_cond rfl (fun h => by cases h) (fun h => ?_)
      refine runS_x (I := inf) (J := jnf) ⟨false, false, [], 0, 0⟩ 9999 rfl (by repeat (first | exact obs_nil | refine obs_draw (by kernel_rfl) ?_ | refine obs_same ?_ | refine obs_and ?_ | refine obs_by (by (simp [inB] <;> omega)) ?_)) ?_
      refine runS_cond rfl (fun h => by cases h) (fun h => ?_)
      refine runS_x (I := inf) (J := jnf) ⟨false, false, [], 0, 0⟩ 9999 rfl (by repeat (first | exact obs_nil | refine obs_draw (by kernel_rfl) ?_ | refine obs_same ?_ | refine obs_and ?_ | refine obs_by (by (simp [inB] <;> omega)) ?_)) ?_
      refine runS_cond rfl (fun h => by cases h) (fun h => ?_)
      refine runS_x (I := inf) (J := jnf) ⟨false, false, [], 0, 0⟩ 9999 rfl (by repeat (first | exact obs_nil | refine obs_draw (by kernel_rfl) ?_ | refine obs_same ?_ | refine obs_and ?_ | refine obs_by (by (simp [inB] <;> omega)) ?_)) ?_
      refine runS_cond rfl (fun h => by cases h) (fun h => ?_)
      refine runS_x (I := inf) (J := jnf) ⟨false, false, [], 0, 0⟩ 9999 rfl (by repeat (first | exact obs_nil | refine obs_draw (by kernel_rfl) ?_ | refine obs_same ?_ | refine obs_and ?_ | refine obs_by (by (simp [inB] <;> omega)) ?_)) ?_
      refine runS_cond rfl (fun h => by cases h) (fun h => ?_)
      refine runS_x (I := inf) (J := jnf) ⟨false, false, [], 0, 0⟩ 9999 rfl (by repeat (first | exact obs_nil | refine obs_draw (by kernel_rfl) ?_ | refine obs_same ?_ | refine obs_and ?_ | refine obs_by (by (simp [inB] <;> omega)) ?_)) ?_
      refine runS_ret (I := inf) 0 rfl (Nat.le_refl _) rfl .nil rfl ⟨?_, rfl⟩
      rfl
end Go.Iron.Tryz

/- The digits' seat: products, quotients by 0, rests. -/
namespace Go.Iron.Tryz
open Go.Proofs Go.RowKit Go.Iron.Tok Go.Iron.Dg

theorem d_divP (a b : Lg) (t : Typ) (hb0 : b.m = 0) : CallT Tryz.prog 58 [lgA a, lgA b, .loc (typE t) 0] [] (fun o A => o = .pan (.ifc 76 (.agg [])) ∧ A = []) := by
  refine callS_body (n := 17) rfl rfl fun w ρ X => ?_
  refine runS_x (I := inf) (J := jnf) ⟨false, false, [], 0, 0⟩ 9999 rfl (by repeat (first | exact obs_nil | refine obs_draw (by kernel_rfl) ?_ | refine obs_same ?_ | refine obs_and ?_ | refine obs_by (by (simp [inB] <;> omega)) ?_)) ?_
  refine runS_cond rfl (fun h => ?_) (fun h => ?_)
  · refine runS_x (I := inf) (J := jnf) ⟨false, false, [], 0, 0⟩ 9999 rfl (by repeat (first | exact obs_nil | refine obs_draw (by kernel_rfl) ?_ | refine obs_same ?_ | refine obs_and ?_ | refine obs_by (by (simp [inB] <;> omega)) ?_)) ?_
    refine runS_op (.agg []) rfl rfl rfl (op_build0 (by kernel_rfl) Tryz.underlying76 rfl) ?_
    refine runS_x (I := inf) (J := jnf) ⟨false, false, [], 0, 0⟩ 9999 rfl (by repeat (first | exact obs_nil | refine obs_draw (by kernel_rfl) ?_ | refine obs_same ?_ | refine obs_and ?_ | refine obs_by (by (simp [inB] <;> omega)) ?_)) ?_
    exact runS_pan 0 rfl (Nat.le_refl _) rfl .nil ⟨rfl, rfl⟩
  · exfalso
    have : (((frm b.m).length : Int) == 0) = false := h
    rw [hb0, frm_zero] at this
    cases this
theorem d_reckonP (a b : Vl) (t : Typ) (g : FuncId) {gn : Func} {gc : Code} [Fun Tryz.prog g gn gc] (he : askL (some t) [a, b] = 0)
    (hdo : CallT Tryz.prog g ([lgA (ext a), lgA (ext b), .loc (typE t) 0]) [] (fun o A => o = .pan (.ifc 76 (.agg [])) ∧ A = [])) : CallT Tryz.prog 57 [.agg (vlE a), .agg (vlE b), .agg (typE t), .fn (.func g) [.loc (typE t) 0]] [] (fun o A => o = .ret (.tup [.agg (vlE (zeroV t).1), iv 9, iv 0]) ∧ A = []) := by
  obtain ⟨hnum, htn⟩ := ask_num he
  obtain ⟨hv, hkt⟩ := htn t rfl
  obtain ⟨hra, hka⟩ := hnum a (by simp)
  obtain ⟨hrb, hkb⟩ := hnum b (by simp)
  refine callS_body (n := 34) rfl rfl fun w ρ X => ?_
  refine runS_x (I := inf) (J := jnf) ⟨false, false, [], 0, 0⟩ 9999 rfl (by repeat (first | exact obs_nil | refine obs_draw (by kernel_rfl) ?_ | refine obs_same ?_ | refine obs_and ?_ | refine obs_by (by (simp [inB] <;> omega)) ?_)) ?_
  refine runS_tell 6 (vlR [a, b]) rfl (m' := 2) rfl (fun j hj => ?_) rfl ?_
  · rcases j with _ | _ | j <;> first | rfl | omega
  refine runS_freeze 14 rfl rfl rfl (fun j hj => ?_) ?_
  · rcases j with _ | _ | j <;> first | rfl | omega
  refine runS_callF [.box 23 (vlE a), .box 23 (vlE b), .box 25 (typE t)] [.box 23 (vlE a), .box 23 (vlE b), .box 25 (typE t)] _ rfl rfl rfl rfl rfl (show _ = [.ptr 2 0 0, vlS none [a, b]] from rfl) rfl (.box rfl (.box rfl (.box rfl .nil))) rfl rfl (d_asked2 _ _ (fun l hl => .box rfl (.box rfl hl)) t none [a, b] (by simp)) ?_
  rw [he]
  refine runS_x (I := inf) (J := jnf) ⟨false, false, [], 0, 0⟩ 9999 rfl (by repeat (first | exact obs_nil | refine obs_draw (by kernel_rfl) ?_ | refine obs_same ?_ | refine obs_and ?_ | refine obs_by (by (simp [inB] <;> omega)) ?_)) ?_
  refine runS_cond rfl (fun h => by cases h) (fun h => ?_)
  refine runS_x (I := inf) (J := jnf) ⟨false, false, [], 0, 0⟩ 9999 rfl (by repeat (first | exact obs_nil | refine obs_draw (by kernel_rfl) ?_ | refine obs_same ?_ | refine obs_and ?_ | refine obs_by (by (simp [inB] <;> omega)) ?_)) ?_
  refine runS_drawG 12 [] (fun _ => _) (some 5) (c := 9) jnfI.draw (by kernel_rfl) rfl (lexg_g (I := inf) (J := jnf) none ⟨_, rfl, (by repeat (first | exact obs_nil | refine obs_same ?_ | refine obs_and ?_ | refine obs_by (by (simp [inB] <;> omega)) ?_))⟩ rfl rfl rfl rfl (lexg_g (I := inf) (J := jnf) none ⟨_, rfl, (by repeat (first | exact obs_nil | refine obs_same ?_ | refine obs_and ?_ | refine obs_by (by (simp [inB] <;> omega)) ?_))⟩ rfl rfl rfl rfl (lexg_call rfl rfl rfl rfl rfl rfl rfl rfl rfl (d_exactV a hra hka) (lexg_g (I := inf) (J := jnf) none ⟨_, rfl, (by repeat (first | exact obs_nil | refine obs_same ?_ | refine obs_and ?_ | refine obs_by (by (simp [inB] <;> omega)) ?_))⟩ rfl rfl rfl rfl (lexg_call rfl rfl rfl rfl rfl rfl rfl rfl rfl (d_exactV b hrb hkb) (lexg_pan rfl rfl rfl rfl rfl rfl rfl rfl hdo (lexg_g (I := inf) (J := jnf) none ⟨_, rfl, (by repeat (first | exact obs_nil | refine obs_same ?_ | refine obs_and ?_ | refine obs_by (by (simp [inB] <;> omega)) ?_))⟩ rfl rfl rfl rfl (lexg_late rfl (by kernel_rfl) (lexg_late rfl (by kernel_rfl) (lexg_late rfl (by kernel_rfl) (lexg_late rfl (by kernel_rfl) (lexg_late rfl (by kernel_rfl) lexg_nil)))))))))))) rfl (fun h => by cases h) (fun _ b tt => ?_)
  refine runS_x (I := inf) (J := jnf) ⟨true, false, [122], 0, 0⟩ 9999 rfl (by repeat (first | exact obs_nil | refine obs_draw (by kernel_rfl) ?_ | refine obs_same ?_ | refine obs_and ?_ | refine obs_by (by (simp [inB] <;> omega)) ?_)) ?_
  refine runS_opA (.ptr 7 0 0) rfl rfl rfl (op_alloc0 (by kernel_rfl) rfl rfl) ?_
  refine runS_x (I := inf) (J := jnf) ⟨true, false, [122], 0, 0⟩ 9999 rfl (by repeat (first | exact obs_nil | refine obs_draw (by kernel_rfl) ?_ | refine obs_same ?_ | refine obs_and ?_ | refine obs_by (by (simp [inB] <;> omega)) ?_)) ?_
  refine runS_call rfl rfl rfl rfl rfl rfl rfl (d_Zero t) ?_
  refine runS_x (I := inf) (J := jnf) ⟨true, false, [122], 0, 0⟩ 9999 rfl (by repeat (first | exact obs_nil | refine obs_draw (by kernel_rfl) ?_ | refine obs_same ?_ | refine obs_and ?_ | refine obs_by (by (simp [inB] <;> omega)) ?_)) ?_
  refine runS_ret (I := inf) 0 rfl (Nat.le_refl _) rfl .nil rfl ⟨?_, rfl⟩
  rfl
theorem d_DivideZ (a b : Vl) (t : Typ) (he : askL (some t) [a, b] = 0) (hb0 : b.n = 0) : CallT Tryz.prog 16 [.agg (vlE a), .agg (vlE b), .agg (typE t)] [] (fun o A => o = .ret (.tup [.agg (vlE (zeroV t).1), iv 9, iv 0]) ∧ A = []) := by
  have hr := d_reckonP a b t 58 he (d_divP (ext a) (ext b) t (exact_m0.2 hb0))
  refine callS_body (n := 17) rfl rfl fun w ρ X => ?_
  refine runS_x (I := inf) (J := jnf) ⟨false, false, [], 0, 0⟩ 9999 rfl (by repeat (first | exact obs_nil | refine obs_draw (by kernel_rfl) ?_ | refine obs_same ?_ | refine obs_and ?_ | refine obs_by (by (simp [inB] <;> omega)) ?_)) ?_
  refine runS_freezeBox 2 rfl rfl rfl ?_
  refine runS_call rfl rfl rfl rfl rfl rfl rfl hr ?_
  refine runS_x (I := inf) (J := jnf) ⟨false, false, [], 0, 0⟩ 9999 rfl (by repeat (first | exact obs_nil | refine obs_draw (by kernel_rfl) ?_ | refine obs_same ?_ | refine obs_and ?_ | refine obs_by (by (simp [inB] <;> omega)) ?_)) ?_
  refine runS_ret (I := inf) 0 rfl (Nat.le_refl _) rfl .nil rfl ⟨?_, rfl⟩
  rfl
theorem prod_fits (a b : Lg) (ha : Fits a 50 100) (hb : Fits b 50 100) : Fits (prodL a b) 1500 1000 := by
  obtain ⟨ha1, ha2, ha3⟩ := ha
  obtain ⟨hb1, hb2, hb3⟩ := hb
  have := frm_len_mul a.m b.m
  unfold prodL
  exact ⟨by dsimp only; omega, by dsimp only; omega, by dsimp only; omega⟩
theorem d_Multiply (a b : Vl) (t : Typ) (he : askL (some t) [a, b] = 0) : CallT Tryz.prog 46 [.agg (vlE a), .agg (vlE b), .agg (typE t)] [] (fun o A => o = .ret (resA t.kind (fitL t.kind t.p.toNat t.q.toNat (prodL (ext a) (ext b)) 2)) ∧ A = []) := by
  obtain ⟨hnum, htn⟩ := ask_num he
  obtain ⟨hra, hka⟩ := hnum a (by simp)
  obtain ⟨hrb, hkb⟩ := hnum b (by simp)
  have hfa := ext_fits a hra hka
  have hfb := ext_fits b hrb hkb
  have hr := d_reckonV a b t 104 (prodL (ext a) (ext b)) he (d_product (ext a) (ext b) (hfa.mono (by decide) (by decide)) (hfb.mono (by decide) (by decide))) (prod_fits _ _ hfa hfb)
  refine callS_body (n := 16) rfl rfl fun w ρ X => ?_
  refine runS_x (I := inf) (J := jnf) ⟨false, false, [], 0, 0⟩ 9999 rfl (by repeat (first | exact obs_nil | refine obs_draw (by kernel_rfl) ?_ | refine obs_same ?_ | refine obs_and ?_ | refine obs_by (by (simp [inB] <;> omega)) ?_)) ?_
  refine runS_call rfl rfl rfl rfl rfl rfl rfl hr ?_
  refine runS_x (I := inf) (J := jnf) ⟨false, false, [], 0, 0⟩ 9999 rfl (by repeat (first | exact obs_nil | refine obs_draw (by kernel_rfl) ?_ | refine obs_same ?_ | refine obs_and ?_ | refine obs_by (by (simp [inB] <;> omega)) ?_)) ?_
  refine runS_ret (I := inf) 0 rfl (Nat.le_refl _) rfl .nil rfl ⟨?_, rfl⟩
  rfl
theorem d_AddE (a b : Vl) (t : Typ) (he : askL (some t) [a, b] ≠ 0) : CallT Tryz.prog 34 [.agg (vlE a), .agg (vlE b), .agg (typE t)] [] (fun o A => o = .ret (errA (askL (some t) [a, b])) ∧ A = []) := by
  refine callS_body (n := 16) rfl rfl fun w ρ X => ?_
  refine runS_x (I := inf) (J := jnf) ⟨false, false, [], 0, 0⟩ 9999 rfl (by repeat (first | exact obs_nil | refine obs_draw (by kernel_rfl) ?_ | refine obs_same ?_ | refine obs_and ?_ | refine obs_by (by (simp [inB] <;> omega)) ?_)) ?_
  refine runS_call rfl rfl rfl rfl rfl rfl rfl (d_reckonE a b t 89 [] he) ?_
  refine runS_x (I := inf) (J := jnf) ⟨false, false, [], 0, 0⟩ 9999 rfl (by repeat (first | exact obs_nil | refine obs_draw (by kernel_rfl) ?_ | refine obs_same ?_ | refine obs_and ?_ | refine obs_by (by (simp [inB] <;> omega)) ?_)) ?_
  refine runS_ret (I := inf) 0 rfl (Nat.le_refl _) rfl .nil rfl ⟨?_, rfl⟩
  rfl
theorem d_SubtractE (a b : Vl) (t : Typ) (he : askL (some t) [a, b] ≠ 0) : CallT Tryz.prog 35 [.agg (vlE a), .agg (vlE b), .agg (typE t)] [] (fun o A => o = .ret (errA (askL (some t) [a, b])) ∧ A = []) := by
  refine callS_body (n := 16) rfl rfl fun w ρ X => ?_
  refine runS_x (I := inf) (J := jnf) ⟨false, false, [], 0, 0⟩ 9999 rfl (by repeat (first | exact obs_nil | refine obs_draw (by kernel_rfl) ?_ | refine obs_same ?_ | refine obs_and ?_ | refine obs_by (by (simp [inB] <;> omega)) ?_)) ?_
  refine runS_call rfl rfl rfl rfl rfl rfl rfl (d_reckonE a b t 90 [] he) ?_
  refine runS_x (I := inf) (J := jnf) ⟨false, false, [], 0, 0⟩ 9999 rfl (by repeat (first | exact obs_nil | refine obs_draw (by kernel_rfl) ?_ | refine obs_same ?_ | refine obs_and ?_ | refine obs_by (by (simp [inB] <;> omega)) ?_)) ?_
  refine runS_ret (I := inf) 0 rfl (Nat.le_refl _) rfl .nil rfl ⟨?_, rfl⟩
  rfl
theorem d_MultiplyE (a b : Vl) (t : Typ) (he : askL (some t) [a, b] ≠ 0) : CallT Tryz.prog 46 [.agg (vlE a), .agg (vlE b), .agg (typE t)] [] (fun o A => o = .ret (errA (askL (some t) [a, b])) ∧ A = []) := by
  refine callS_body (n := 16) rfl rfl fun w ρ X => ?_
  refine runS_x (I := inf) (J := jnf) ⟨false, false, [], 0, 0⟩ 9999 rfl (by repeat (first | exact obs_nil | refine obs_draw (by kernel_rfl) ?_ | refine obs_same ?_ | refine obs_and ?_ | refine obs_by (by (simp [inB] <;> omega)) ?_)) ?_
  refine runS_call rfl rfl rfl rfl rfl rfl rfl (d_reckonE a b t 104 [] he) ?_
  refine runS_x (I := inf) (J := jnf) ⟨false, false, [], 0, 0⟩ 9999 rfl (by repeat (first | exact obs_nil | refine obs_draw (by kernel_rfl) ?_ | refine obs_same ?_ | refine obs_and ?_ | refine obs_by (by (simp [inB] <;> omega)) ?_)) ?_
  refine runS_ret (I := inf) 0 rfl (Nat.le_refl _) rfl .nil rfl ⟨?_, rfl⟩
  rfl
end Go.Iron.Tryz

/- The digits' seat: the reference's sums, products and order of exact numbers. -/
namespace Go.Iron.Tryz
open Go.Proofs Go.RowKit Go.Iron.Tok Go.Iron.Dg

theorem ExFit.mono {x : Ex} {l l2 : Nat} (h : ExFit x l) (hl : l ≤ l2) : ExFit x l2 := ⟨Nat.le_trans h.1 hl, Nat.le_trans h.2 hl⟩
theorem both_fit {x y : Ex} {l m : Nat} (hx : ExFit x l) (hy : ExFit y m) : ExFit (bothE x y) (2 * (l + m) + 1) := by
  have h1 := frm_len_mul x.num y.den
  have h2 := frm_len_mul y.num x.den
  have h3 := frm_len_mul x.den y.den
  have a1 := hx.1; have a2 := hx.2; have b1 := hy.1; have b2 := hy.2
  have hs := frm_len_add (x.num * y.den) (y.num * x.den)
  have d1 := frm_len_mono (Nat.sub_le (x.num * y.den) (y.num * x.den))
  have d2 := frm_len_mono (Nat.sub_le (y.num * x.den) (x.num * y.den))
  unfold bothE
  split
  · exact ⟨by dsimp only; omega, by dsimp only; omega⟩
  · split
    · exact ⟨by dsimp only; omega, by dsimp only; omega⟩
    · exact ⟨by dsimp only; omega, by dsimp only; omega⟩
theorem times_fit {x y : Ex} {l m : Nat} (hx : ExFit x l) (hy : ExFit y m) : ExFit (timesE x y) (l + m) := by
  have h1 := frm_len_mul x.num y.num
  have h3 := frm_len_mul x.den y.den
  have a1 := hx.1; have a2 := hx.2; have b1 := hy.1; have b2 := hy.2
  exact ⟨by show (frm (x.num * y.num)).length ≤ _; omega, by show (frm (x.den * y.den)).length ≤ _; omega⟩
theorem len_pos (n : Nat) : decide (((frm n).length : Int) > 0) = decide (n ≠ 0) := by
  have hl := frm_len0 (x := n)
  rw [Bool.eq_iff_iff]
  simp
  omega
theorem r_times (x y : Ex) (hx : ExFit x 4000) (hy : ExFit y 4000) : CallT Tryz.prog 19 [exA x, exA y] [] (fun o A => o = .ret (exA (timesE x y)) ∧ A = []) := by
  obtain ⟨xg, xn, xd⟩ := x
  obtain ⟨yg, yn, yd⟩ := y
  obtain ⟨a1, a2⟩ := hx
  obtain ⟨b1, b2⟩ := hy
  dsimp only at a1 a2 b1 b2
  have hm1 := r_mul none none xn yn a1 b1
  have hm2 := r_mul none none xd yd a2 b2
  refine callS_body (n := 28) rfl rfl fun w ρ X => ?_
  refine runS_x (I := inf) (J := jnf) ⟨false, false, [], 0, 0⟩ 9999 rfl (by repeat (first | exact obs_nil | refine obs_draw (by kernel_rfl) ?_ | refine obs_same ?_ | refine obs_and ?_ | refine obs_by (by (simp [inB] <;> omega)) ?_)) ?_
  refine runS_call rfl rfl rfl rfl rfl rfl rfl hm1 ?_
  refine runS_x (I := inf) (J := jnf) ⟨false, false, [], 0, 0⟩ 9999 rfl (by repeat (first | exact obs_nil | refine obs_draw (by kernel_rfl) ?_ | refine obs_same ?_ | refine obs_and ?_ | refine obs_by (by (simp [inB] <;> omega)) ?_)) ?_
  refine runS_call rfl rfl rfl rfl rfl rfl rfl hm2 ?_
  refine runS_x (I := inf) (J := jnf) ⟨false, false, [], 0, 0⟩ 9999 rfl (by repeat (first | exact obs_nil | refine obs_draw (by kernel_rfl) ?_ | refine obs_same ?_ | refine obs_and ?_ | refine obs_by (by (simp [inB] <;> omega)) ?_)) ?_
  refine runS_ret (I := inf) 0 rfl (Nat.le_refl _) rfl .nil rfl ⟨?_, rfl⟩
  show Out.ret (.agg [bv (if (xg != yg) = true then decide (((frm (xn * yn)).length : Int) > 0) else false), natS none (frm (xn * yn)), natS none (frm (xd * yd))]) = _
  rw [len_pos]
  cases xg <;> cases yg <;> rfl
theorem r_both (x y : Ex) (hx : ExFit x 1900) (hy : ExFit y 1900) : CallT Tryz.prog 20 [exA x, exA y] [] (fun o A => o = .ret (exA (bothE x y)) ∧ A = []) := by
  obtain ⟨xg, xn, xd⟩ := x
  obtain ⟨yg, yn, yd⟩ := y
  obtain ⟨a1, a2⟩ := hx
  obtain ⟨b1, b2⟩ := hy
  dsimp only at a1 a2 b1 b2
  have hm1 := r_mul none none xn yd (by omega) (by omega)
  have hm2 := r_mul none none yn xd (by omega) (by omega)
  have hm3 := r_mul none none xd yd (by omega) (by omega)
  have hl1 := frm_len_mul xn yd
  have hl2 := frm_len_mul yn xd
  unfold bothE
  dsimp only
  generalize xn * yd = p at *
  generalize yn * xd = q at *
  generalize xd * yd = d at *
  have hcm := cmpT_lt p q
  refine callS_body (n := 66) rfl rfl fun w ρ X => ?_
  refine runS_x (I := inf) (J := jnf) ⟨false, false, [], 0, 0⟩ 9999 rfl (by repeat (first | exact obs_nil | refine obs_draw (by kernel_rfl) ?_ | refine obs_same ?_ | refine obs_and ?_ | refine obs_by (by (simp [inB] <;> omega)) ?_)) ?_
  refine runS_draw 9 (by kernel_rfl) (lexj_x (I := inf) (J := jnf) 99 rfl rfl (by repeat (first | exact obs_nil | refine obs_same ?_ | refine obs_and ?_ | refine obs_by (by (simp [inB] <;> omega)) ?_)) (lexj_call rfl rfl rfl rfl rfl rfl rfl rfl hm1 (lexj_x (I := inf) (J := jnf) 99 rfl rfl (by repeat (first | exact obs_nil | refine obs_same ?_ | refine obs_and ?_ | refine obs_by (by (simp [inB] <;> omega)) ?_)) lexj_nil))) ?_
  refine runS_x (I := inf) (J := jnf) ⟨false, false, [], 0, 0⟩ 9999 rfl (by repeat (first | exact obs_nil | refine obs_draw (by kernel_rfl) ?_ | refine obs_same ?_ | refine obs_and ?_ | refine obs_by (by (simp [inB] <;> omega)) ?_)) ?_
  refine runS_call rfl rfl rfl rfl rfl rfl rfl hm2 ?_
  refine runS_x (I := inf) (J := jnf) ⟨false, false, [], 0, 0⟩ 9999 rfl (by repeat (first | exact obs_nil | refine obs_draw (by kernel_rfl) ?_ | refine obs_same ?_ | refine obs_and ?_ | refine obs_by (by (simp [inB] <;> omega)) ?_)) ?_
  refine runS_call rfl rfl rfl rfl rfl rfl rfl hm3 ?_
  refine runS_x (I := inf) (J := jnf) ⟨false, false, [], 0, 0⟩ 9999 rfl (by repeat (first | exact obs_nil | refine obs_draw (by kernel_rfl) ?_ | refine obs_same ?_ | refine obs_and ?_ | refine obs_by (by (simp [inB] <;> omega)) ?_)) ?_
  refine runS_cond rfl (fun h => ?_) (fun h => ?_)
  · have hs : xg = yg := by simpa using h
    rw [if_pos hs]
    refine runS_x (I := inf) (J := jnf) ⟨false, false, [], 0, 0⟩ 9999 rfl (by repeat (first | exact obs_nil | refine obs_draw (by kernel_rfl) ?_ | refine obs_same ?_ | refine obs_and ?_ | refine obs_by (by (simp [inB] <;> omega)) ?_)) ?_
    refine runS_draw 6 (by kernel_rfl) (lexj_x (I := inf) (J := jnf) 99 rfl rfl (by repeat (first | exact obs_nil | refine obs_same ?_ | refine obs_and ?_ | refine obs_by (by (simp [inB] <;> omega)) ?_)) (lexj_call rfl rfl rfl rfl rfl rfl rfl rfl (r_plus none none p q (by omega) (by omega)) (lexj_x (I := inf) (J := jnf) 99 rfl rfl (by repeat (first | exact obs_nil | refine obs_same ?_ | refine obs_and ?_ | refine obs_by (by (simp [inB] <;> omega)) ?_)) lexj_nil))) ?_
    refine runS_x (I := inf) (J := jnf) ⟨false, false, [], 0, 0⟩ 9999 rfl (by repeat (first | exact obs_nil | refine obs_draw (by kernel_rfl) ?_ | refine obs_same ?_ | refine obs_and ?_ | refine obs_by (by (simp [inB] <;> omega)) ?_)) ?_
    refine runS_ret (I := inf) 0 rfl (Nat.le_refl _) rfl .nil rfl ⟨?_, rfl⟩
    show Out.ret (.agg [bv (if xg = true then decide (((frm (p + q)).length : Int) > 0) else false), natS none (frm (p + q)), natS none (frm d)]) = _
    rw [len_pos]
    cases xg <;> rfl
  · have hs : ¬ xg = yg := by simpa using h
    rw [if_neg hs]
    refine runS_x (I := inf) (J := jnf) ⟨false, false, [], 0, 0⟩ 9999 rfl (by repeat (first | exact obs_nil | refine obs_draw (by kernel_rfl) ?_ | refine obs_same ?_ | refine obs_and ?_ | refine obs_by (by (simp [inB] <;> omega)) ?_)) ?_
    refine runS_call rfl rfl rfl rfl rfl rfl rfl (r_cmp none none (frm p) (frm q) (by omega) (by omega)) ?_
    refine runS_x (I := inf) (J := jnf) ⟨false, false, [], 0, 0⟩ 9999 rfl (by repeat (first | exact obs_nil | refine obs_draw (by kernel_rfl) ?_ | refine obs_same ?_ | refine obs_and ?_ | refine obs_by (by (simp [inB] <;> omega)) ?_)) ?_
    refine runS_cond rfl (fun h2 => ?_) (fun h2 => ?_)
    · have hle : q ≤ p := by
        have := of_decide_eq_true h2
        omega
      rw [if_pos hle]
      refine runS_x (I := inf) (J := jnf) ⟨false, false, [], 0, 0⟩ 9999 rfl (by repeat (first | exact obs_nil | refine obs_draw (by kernel_rfl) ?_ | refine obs_same ?_ | refine obs_and ?_ | refine obs_by (by (simp [inB] <;> omega)) ?_)) ?_
      refine runS_draw 6 (by kernel_rfl) (lexj_x (I := inf) (J := jnf) 99 rfl rfl (by repeat (first | exact obs_nil | refine obs_same ?_ | refine obs_and ?_ | refine obs_by (by (simp [inB] <;> omega)) ?_)) (lexj_call rfl rfl rfl rfl rfl rfl rfl rfl (r_less none none p q hle (by omega)) (lexj_x (I := inf) (J := jnf) 99 rfl rfl (by repeat (first | exact obs_nil | refine obs_same ?_ | refine obs_and ?_ | refine obs_by (by (simp [inB] <;> omega)) ?_)) lexj_nil))) ?_
      refine runS_x (I := inf) (J := jnf) ⟨false, false, [], 0, 0⟩ 9999 rfl (by repeat (first | exact obs_nil | refine obs_draw (by kernel_rfl) ?_ | refine obs_same ?_ | refine obs_and ?_ | refine obs_by (by (simp [inB] <;> omega)) ?_)) ?_
      refine runS_ret (I := inf) 0 rfl (Nat.le_refl _) rfl .nil rfl ⟨?_, rfl⟩
      show Out.ret (.agg [bv (if xg = true then decide (((frm (p - q)).length : Int) > 0) else false), natS none (frm (p - q)), natS none (frm d)]) = _
      rw [len_pos]
      cases xg <;> rfl
    · have hle : ¬ q ≤ p := by
        have := of_decide_eq_false h2
        omega
      rw [if_neg hle]
      refine runS_x (I := inf) (J := jnf) ⟨false, false, [], 0, 0⟩ 9999 rfl (by repeat (first | exact obs_nil | refine obs_draw (by kernel_rfl) ?_ | refine obs_same ?_ | refine obs_and ?_ | refine obs_by (by (simp [inB] <;> omega)) ?_)) ?_
      refine runS_draw 6 (by kernel_rfl) (lexj_x (I := inf) (J := jnf) 99 rfl rfl (by repeat (first | exact obs_nil | refine obs_same ?_ | refine obs_and ?_ | refine obs_by (by (simp [inB] <;> omega)) ?_)) (lexj_call rfl rfl rfl rfl rfl rfl rfl rfl (r_less none none q p (by omega) (by omega)) (lexj_x (I := inf) (J := jnf) 99 rfl rfl (by repeat (first | exact obs_nil | refine obs_same ?_ | refine obs_and ?_ | refine obs_by (by (simp [inB] <;> omega)) ?_)) lexj_nil))) ?_
      refine runS_x (I := inf) (J := jnf) ⟨false, false, [], 0, 0⟩ 9999 rfl (by repeat (first | exact obs_nil | refine obs_draw (by kernel_rfl) ?_ | refine obs_same ?_ | refine obs_and ?_ | refine obs_by (by (simp [inB] <;> omega)) ?_)) ?_
      refine runS_ret (I := inf) 0 rfl (Nat.le_refl _) rfl .nil rfl ⟨?_, rfl⟩
      show Out.ret (.agg [bv (if yg = true then decide (((frm (q - p)).length : Int) > 0) else false), natS none (frm (q - p)), natS none (frm d)]) = _
      rw [len_pos]
      cases yg <;> rfl
theorem turn_fit {x : Ex} {l : Nat} (h : ExFit x l) : ExFit (turnE x) l := ⟨h.1, h.2⟩
theorem r_order (x y : Ex) (hx : ExFit x 1900) (hy : ExFit y 1900) : CallT Tryz.prog 18 [exA x, exA y] [] (fun o A => o = .ret (iv (ordE x y)) ∧ A = []) := by
  have ht := r_turn y (hy.mono (by decide))
  have hb := r_both x (turnE y) hx (turn_fit hy)
  unfold ordE sigE
  generalize bothE x (turnE y) = D at *
  refine callS_body (n := 18) rfl rfl fun w ρ X => ?_
  refine runS_x (I := inf) (J := jnf) ⟨false, false, [], 0, 0⟩ 9999 rfl (by repeat (first | exact obs_nil | refine obs_draw (by kernel_rfl) ?_ | refine obs_same ?_ | refine obs_and ?_ | refine obs_by (by (simp [inB] <;> omega)) ?_)) ?_
  refine runS_drawG (ch := []) (A2 := fun _ => []) 5 [4] (fun z => [.box 35 [bv x.neg, natS none (frm x.num), natS none (frm x.den)], .box 35 [bv y.neg, natS none (frm y.num), natS none (frm y.den)]] ++ cond (z.getD 0 false) [.box 35 [bv false, .val (.slice none 0 0), .val (.slice none 0 0)]] []) none (c := 9) jnfI.draw (by kernel_rfl) rfl (lexg_g (I := inf) (J := jnf) none ⟨⟨_, rfl, (by repeat (first | exact obs_nil | refine obs_same ?_ | refine obs_and ?_ | refine obs_by (by (simp [inB] <;> omega)) ?_))⟩, (by first | exact .inl (by decide +kernel) | exact .inr ⟨_, rfl, (by repeat (first | exact obs_nil | refine obs_same ?_ | refine obs_and ?_ | refine obs_by (by (simp [inB] <;> omega)) ?_))⟩)⟩ rfl rfl rfl rfl (lexg_g (I := inf) (J := jnf) none ⟨⟨_, rfl, (by repeat (first | exact obs_nil | refine obs_same ?_ | refine obs_and ?_ | refine obs_by (by (simp [inB] <;> omega)) ?_))⟩, (by first | exact .inl (by decide +kernel) | exact .inr ⟨_, rfl, (by repeat (first | exact obs_nil | refine obs_same ?_ | refine obs_and ?_ | refine obs_by (by (simp [inB] <;> omega)) ?_))⟩)⟩ rfl rfl rfl rfl (lexg_call rfl rfl rfl rfl rfl rfl rfl rfl rfl ht (lexg_call rfl rfl rfl rfl rfl rfl rfl rfl rfl hb (lexg_a rfl rfl ⟨(show _ = _ from rfl), .inl rfl⟩ rfl rfl rfl rfl lexg_nil))))) rfl (fun _ => ?_) (fun h => by cases h)
  refine runS_x (I := inf) (J := jnf) ⟨false, false, [], 0, 0⟩ 9999 rfl (by repeat (first | exact obs_nil | refine obs_draw (by kernel_rfl) ?_ | refine obs_same ?_ | refine obs_and ?_ | refine obs_by (by (simp [inB] <;> omega)) ?_)) ?_
  refine runS_cond rfl (fun h => ?_) (fun h => ?_)
  · have hm : D.num = 0 := by
      have : (((frm D.num).length : Int) == 0) = true := h
      simp only [beq_iff_eq] at this
      exact frm_len0.1 (by omega)
    rw [if_pos hm]
    refine runS_x (I := inf) (J := jnf) ⟨false, false, [], 0, 0⟩ 9999 rfl (by repeat (first | exact obs_nil | refine obs_draw (by kernel_rfl) ?_ | refine obs_same ?_ | refine obs_and ?_ | refine obs_by (by (simp [inB] <;> omega)) ?_)) ?_
    refine runS_ret (I := inf) 0 rfl (Nat.le_refl _) rfl .nil rfl ⟨?_, rfl⟩
    rfl
  · have hm : D.num ≠ 0 := by
      have : (((frm D.num).length : Int) == 0) = false := h
      simp only [beq_eq_false_iff_ne] at this
      exact fun e => this (by rw [e, frm_zero]; rfl)
    rw [if_neg hm]
    refine runS_x (I := inf) (J := jnf) ⟨false, false, [], 0, 0⟩ 9999 rfl (by repeat (first | exact obs_nil | refine obs_draw (by kernel_rfl) ?_ | refine obs_same ?_ | refine obs_and ?_ | refine obs_by (by (simp [inB] <;> omega)) ?_)) ?_
    refine runS_cond rfl (fun h3 => ?_) (fun h3 => ?_)
    · rw [if_pos h3]
      refine runS_x (I := inf) (J := jnf) ⟨false, false, [], 0, 0⟩ 9999 rfl (by repeat (first | exact obs_nil | refine obs_draw (by kernel_rfl) ?_ | refine obs_same ?_ | refine obs_and ?_ | refine obs_by (by (simp [inB] <;> omega)) ?_)) ?_
      refine runS_ret (I := inf) 0 rfl (Nat.le_refl _) rfl .nil rfl ⟨?_, rfl⟩
      rfl
    · rw [if_neg (by rw [show D.neg = false from h3]; decide)]
      refine runS_x (I := inf) (J := jnf) ⟨false, false, [], 0, 0⟩ 9999 rfl (by repeat (first | exact obs_nil | refine obs_draw (by kernel_rfl) ?_ | refine obs_same ?_ | refine obs_and ?_ | refine obs_by (by (simp [inB] <;> omega)) ?_)) ?_
      refine runS_ret (I := inf) 0 rfl (Nat.le_refl _) rfl .nil rfl ⟨?_, rfl⟩
      rfl
end Go.Iron.Tryz

/- The digits' seat: rests. -/
namespace Go.Iron.Tryz
open Go.Proofs Go.RowKit Go.Iron.Tok Go.Iron.Dg

abbrev lgZ : List AV := [.val (.slice none 0 0), bv false, iv 0]
theorem mod_fits (a b : Lg) (ha : Fits a 50 100) (hb : Fits b 50 100) (hb0 : b.m ≠ 0) : Fits (modL a b) 1500 1000 := by
  obtain ⟨ha1, ha2, ha3⟩ := ha
  obtain ⟨hb1, hb2, hb3⟩ := hb
  have hy := upM_len b (min a.exp b.exp)
  have hb0' : 0 < upM b (min a.exp b.exp) := Nat.mul_pos (Nat.pos_of_ne_zero hb0) (Nat.pow_pos (by decide))
  have h1 := frm_len_mono (Nat.le_of_lt (Nat.mod_lt (upM a (min a.exp b.exp)) hb0'))
  have h2 := frm_len_mono (Nat.sub_le (upM b (min a.exp b.exp)) (upM a (min a.exp b.exp) % upM b (min a.exp b.exp)))
  unfold modL
  refine ⟨?_, by dsimp only; omega, by dsimp only; omega⟩
  dsimp only
  split <;> omega
theorem d_Modulo (a b : Vl) (t : Typ) : CallT Tryz.prog 49 [.agg (vlE a), .agg (vlE b), .agg (typE t)] [] (fun o A => o = .ret (if askL (some t) [a, b] ≠ 0 then errA (askL (some t) [a, b]) else if b.n = 0 then .tup [.agg (vlE (zeroV t).1), iv 9, iv 0] else resA t.kind (fitL t.kind t.p.toNat t.q.toNat (modL (ext a) (ext b)) 4)) ∧ A = []) := by
  refine callS_body (n := 85) rfl rfl fun w ρ X => ?_
  refine runS_x (I := inf) (J := jnf) ⟨false, false, [], 0, 0⟩ 9999 rfl (by repeat (first | exact obs_nil | refine obs_draw (by kernel_rfl) ?_ | refine obs_same ?_ | refine obs_and ?_ | refine obs_by (by (simp [inB] <;> omega)) ?_)) ?_
  refine runS_tell 4 (vlR [a, b]) rfl (m' := 2) rfl (fun j hj => ?_) rfl ?_
  · rcases j with _ | _ | j <;> first | rfl | omega
  refine runS_freeze 16 rfl rfl rfl (fun j hj => ?_) ?_
  · rcases j with _ | _ | j <;> first | rfl | omega
  refine runS_callF [.box 23 (vlE a), .box 23 (vlE b), .box 25 (typE t)] [.box 23 (vlE a), .box 23 (vlE b), .box 25 (typE t)] _ rfl rfl rfl rfl rfl (show _ = [.ptr 2 0 0, vlS none [a, b]] from rfl) rfl (.box rfl (.box rfl (.box rfl .nil))) rfl rfl (d_asked2 _ _ (fun l hl => .box rfl (.box rfl hl)) t none [a, b] (by simp)) ?_
  refine runS_x (I := inf) (J := jnf) ⟨false, false, [], 0, 0⟩ 9999 rfl (by repeat (first | exact obs_nil | refine obs_draw (by kernel_rfl) ?_ | refine obs_same ?_ | refine obs_and ?_ | refine obs_by (by (simp [inB] <;> omega)) ?_)) ?_
  refine runS_cond rfl (fun h => ?_) (fun h => ?_)
  · have h0 : askL (some t) [a, b] ≠ 0 := by
      have h3 : (!(askL (some t) [a, b] == 0)) = true := h
      rw [Bool.not_eq_true', beq_eq_false_iff_ne] at h3
      exact h3
    rw [if_pos h0]
    refine runS_x (I := inf) (J := jnf) ⟨false, false, [], 0, 0⟩ 9999 rfl (by repeat (first | exact obs_nil | refine obs_draw (by kernel_rfl) ?_ | refine obs_same ?_ | refine obs_and ?_ | refine obs_by (by (simp [inB] <;> omega)) ?_)) ?_
    refine runS_ret (I := inf) 0 rfl (Nat.le_refl _) rfl .nil rfl ⟨?_, rfl⟩
    rfl
  · have h0 : askL (some t) [a, b] = 0 := by
      have h3 : (!(askL (some t) [a, b] == 0)) = false := h
      rw [Bool.not_eq_false', beq_iff_eq] at h3
      exact h3
    rw [if_neg (show ¬ askL (some t) [a, b] ≠ 0 from fun e => e h0)]
    obtain ⟨hnum, htn⟩ := ask_num h0
    obtain ⟨hv, hkt⟩ := htn t rfl
    obtain ⟨hra, hka⟩ := hnum a (by simp)
    obtain ⟨hrb, hkb⟩ := hnum b (by simp)
    have hfa := ext_fits a hra hka
    have hfb := ext_fits b hrb hkb
    have hea := d_exactV a hra hka
    have heb := d_exactV b hrb hkb
    refine runS_x (I := inf) (J := jnf) ⟨false, false, [], 0, 0⟩ 9999 rfl (by repeat (first | exact obs_nil | refine obs_draw (by kernel_rfl) ?_ | refine obs_same ?_ | refine obs_and ?_ | refine obs_by (by (simp [inB] <;> omega)) ?_)) ?_
    refine runS_cond rfl (fun h => ?_) (fun h => ?_)
    · have hb0 : b.n = 0 := by simpa using (show (b.n == 0) = true from h)
      rw [if_pos hb0]
      refine runS_x (I := inf) (J := jnf) ⟨false, false, [], 0, 0⟩ 9999 rfl (by repeat (first | exact obs_nil | refine obs_draw (by kernel_rfl) ?_ | refine obs_same ?_ | refine obs_and ?_ | refine obs_by (by (simp [inB] <;> omega)) ?_)) ?_
      refine runS_call rfl rfl rfl rfl rfl rfl rfl (d_Zero t) ?_
      refine runS_x (I := inf) (J := jnf) ⟨false, false, [], 0, 0⟩ 9999 rfl (by repeat (first | exact obs_nil | refine obs_draw (by kernel_rfl) ?_ | refine obs_same ?_ | refine obs_and ?_ | refine obs_by (by (simp [inB] <;> omega)) ?_)) ?_
      refine runS_ret (I := inf) 0 rfl (Nat.le_refl _) rfl .nil rfl ⟨?_, rfl⟩
      rfl
    · have hb0 : ¬ b.n = 0 := by simpa using (show (b.n == 0) = false from h)
      rw [if_neg hb0]
      have hbm : (ext b).m ≠ 0 := fun e => hb0 (exact_m0.1 e)
      have hft := d_fitted (modL (ext a) (ext b)) t 4 hv hkt (mod_fits _ _ hfa hfb hbm)
      have hlv := d_level (ext a) (ext b) (by have := hfa.2; omega) (by have := hfa.3; omega) (by have := hfb.2; omega) (by have := hfb.3; omega) (by have := hfa.3; have := hfb.2; omega) (by have := hfa.2; have := hfb.3; omega) (by have := hfa.1; omega) (by have := hfb.1; omega)
      have hul := upM_len (ext a) (min (ext a).exp (ext b).exp)
      have hwl := upM_len (ext b) (min (ext a).exp (ext b).exp)
      have hwm : 0 < upM (ext b) (min (ext a).exp (ext b).exp) := Nat.mul_pos (Nat.pos_of_ne_zero hbm) (Nat.pow_pos (by decide))
      have f1 := hfa.1; have f2 := hfa.2; have f3 := hfa.3; have f4 := hfb.1; have f5 := hfb.2; have f6 := hfb.3
      unfold modL at hft ⊢
      generalize ext a = x at *
      generalize ext b = y at *
      obtain ⟨e, he⟩ : ∃ e, min x.exp y.exp = e := ⟨_, rfl⟩
      rw [he] at hlv hul hwl hwm hft ⊢
      generalize upM x e = u at *
      generalize upM y e = v at *
      have hul2 : (frm u).length ≤ 300 := by omega
      have hvl2 : (frm v).length ≤ 300 := by omega
      have hov := d_over none none u v (by omega) (by omega) hwm
      have hql := frm_len_mono (Nat.div_le_self u v)
      have hpr := d_product ⟨u / v, false, 0⟩ ⟨v, false, 0⟩ ⟨by dsimp only; omega, by dsimp only; omega, by dsimp only; omega⟩ ⟨by dsimp only; omega, by dsimp only; omega, by dsimp only; omega⟩
      have hle : u / v * v ≤ u := Nat.div_mul_le_self u v
      have hls := d_less none none u (u / v * v) hle (by omega)
      have hrm : u - u / v * v = u % v := by
        have := Nat.div_add_mod u v
        rw [Nat.mul_comm] at this
        omega
      rw [hrm] at hls
      have hrl : u % v ≤ v := Nat.le_of_lt (Nat.mod_lt u hwm)
      have hl2 := d_less none none v (u % v) hrl (by omega)
      clear hql hle hrm
      generalize u % v = r at *
      refine runS_x (I := inf) (J := jnf) ⟨false, false, [], 0, 0⟩ 9999 rfl (by repeat (first | exact obs_nil | refine obs_draw (by kernel_rfl) ?_ | refine obs_same ?_ | refine obs_and ?_ | refine obs_by (by (simp [inB] <;> omega)) ?_)) ?_
      refine runS_hole ?_
      refine runS_hole ?_
      refine runS_drawG (ch := []) (A2 := fun _ => []) 11 [8, 9, 10] (fun z => [.box 23 (vlE a), .box 23 (vlE b), .box 25 (typE t), .box 23 [iv 0, iv 0, iv 0, sv []], .gone, cond (z.getD 0 false) (.row 74 3 1 1 (cond (z.getD 2 false) (setR (fun _ => lgZ) 0 [limS none (frm u), bv x.neg, iv e]) (fun _ => lgZ))) .hole, cond (z.getD 1 false) (.row 74 3 1 1 (fun _ => lgZ)) .hole]) none (c := 9) jnfI.draw (by kernel_rfl) rfl (lexg_g (I := inf) (J := jnf) none ⟨⟨⟨⟨_, rfl, (by repeat (first | exact obs_nil | refine obs_same ?_ | refine obs_and ?_ | refine obs_by (by (simp [inB] <;> omega)) ?_))⟩, (by first | exact .inl (by decide +kernel) | exact .inr ⟨_, rfl, (by repeat (first | exact obs_nil | refine obs_same ?_ | refine obs_and ?_ | refine obs_by (by (simp [inB] <;> omega)) ?_))⟩)⟩, (by first | exact .inl (by decide +kernel) | exact .inr ⟨⟨_, rfl, (by repeat (first | exact obs_nil | refine obs_same ?_ | refine obs_and ?_ | refine obs_by (by (simp [inB] <;> omega)) ?_))⟩, (by first | exact .inl (by decide +kernel) | exact .inr ⟨_, rfl, (by repeat (first | exact obs_nil | refine obs_same ?_ | refine obs_and ?_ | refine obs_by (by (simp [inB] <;> omega)) ?_))⟩)⟩)⟩, (by first | exact .inl (by decide +kernel) | exact .inr ⟨⟨⟨_, rfl, (by repeat (first | exact obs_nil | refine obs_same ?_ | refine obs_and ?_ | refine obs_by (by (simp [inB] <;> omega)) ?_))⟩, (by first | exact .inl (by decide +kernel) | exact .inr ⟨_, rfl, (by repeat (first | exact obs_nil | refine obs_same ?_ | refine obs_and ?_ | refine obs_by (by (simp [inB] <;> omega)) ?_))⟩)⟩, (by first | exact .inl (by decide +kernel) | exact .inr ⟨⟨_, rfl, (by repeat (first | exact obs_nil | refine obs_same ?_ | refine obs_and ?_ | refine obs_by (by (simp [inB] <;> omega)) ?_))⟩, (by first | exact .inl (by decide +kernel) | exact .inr ⟨_, rfl, (by repeat (first | exact obs_nil | refine obs_same ?_ | refine obs_and ?_ | refine obs_by (by (simp [inB] <;> omega)) ?_))⟩)⟩)⟩)⟩ rfl rfl rfl rfl (lexg_call rfl rfl rfl rfl rfl rfl rfl rfl rfl hea (lexg_g (I := inf) (J := jnf) none ⟨⟨⟨⟨_, rfl, (by repeat (first | exact obs_nil | refine obs_same ?_ | refine obs_and ?_ | refine obs_by (by (simp [inB] <;> omega)) ?_))⟩, (by first | exact .inl (by decide +kernel) | exact .inr ⟨_, rfl, (by repeat (first | exact obs_nil | refine obs_same ?_ | refine obs_and ?_ | refine obs_by (by (simp [inB] <;> omega)) ?_))⟩)⟩, (by first | exact .inl (by decide +kernel) | exact .inr ⟨⟨_, rfl, (by repeat (first | exact obs_nil | refine obs_same ?_ | refine obs_and ?_ | refine obs_by (by (simp [inB] <;> omega)) ?_))⟩, (by first | exact .inl (by decide +kernel) | exact .inr ⟨_, rfl, (by repeat (first | exact obs_nil | refine obs_same ?_ | refine obs_and ?_ | refine obs_by (by (simp [inB] <;> omega)) ?_))⟩)⟩)⟩, (by first | exact .inl (by decide +kernel) | exact .inr ⟨⟨⟨_, rfl, (by repeat (first | exact obs_nil | refine obs_same ?_ | refine obs_and ?_ | refine obs_by (by (simp [inB] <;> omega)) ?_))⟩, (by first | exact .inl (by decide +kernel) | exact .inr ⟨_, rfl, (by repeat (first | exact obs_nil | refine obs_same ?_ | refine obs_and ?_ | refine obs_by (by (simp [inB] <;> omega)) ?_))⟩)⟩, (by first | exact .inl (by decide +kernel) | exact .inr ⟨⟨_, rfl, (by repeat (first | exact obs_nil | refine obs_same ?_ | refine obs_and ?_ | refine obs_by (by (simp [inB] <;> omega)) ?_))⟩, (by first | exact .inl (by decide +kernel) | exact .inr ⟨_, rfl, (by repeat (first | exact obs_nil | refine obs_same ?_ | refine obs_and ?_ | refine obs_by (by (simp [inB] <;> omega)) ?_))⟩)⟩)⟩)⟩ rfl rfl rfl rfl (lexg_call rfl rfl rfl rfl rfl rfl rfl rfl rfl heb (lexg_call rfl rfl rfl rfl rfl rfl rfl rfl rfl hlv (lexg_g (I := inf) (J := jnf) none ⟨⟨⟨⟨_, rfl, (by repeat (first | exact obs_nil | refine obs_same ?_ | refine obs_and ?_ | refine obs_by (by (simp [inB] <;> omega)) ?_))⟩, (by first | exact .inl (by decide +kernel) | exact .inr ⟨_, rfl, (by repeat (first | exact obs_nil | refine obs_same ?_ | refine obs_and ?_ | refine obs_by (by (simp [inB] <;> omega)) ?_))⟩)⟩, (by first | exact .inl (by decide +kernel) | exact .inr ⟨⟨_, rfl, (by repeat (first | exact obs_nil | refine obs_same ?_ | refine obs_and ?_ | refine obs_by (by (simp [inB] <;> omega)) ?_))⟩, (by first | exact .inl (by decide +kernel) | exact .inr ⟨_, rfl, (by repeat (first | exact obs_nil | refine obs_same ?_ | refine obs_and ?_ | refine obs_by (by (simp [inB] <;> omega)) ?_))⟩)⟩)⟩, (by first | exact .inl (by decide +kernel) | exact .inr ⟨⟨⟨_, rfl, (by repeat (first | exact obs_nil | refine obs_same ?_ | refine obs_and ?_ | refine obs_by (by (simp [inB] <;> omega)) ?_))⟩, (by first | exact .inl (by decide +kernel) | exact .inr ⟨_, rfl, (by repeat (first | exact obs_nil | refine obs_same ?_ | refine obs_and ?_ | refine obs_by (by (simp [inB] <;> omega)) ?_))⟩)⟩, (by first | exact .inl (by decide +kernel) | exact .inr ⟨⟨_, rfl, (by repeat (first | exact obs_nil | refine obs_same ?_ | refine obs_and ?_ | refine obs_by (by (simp [inB] <;> omega)) ?_))⟩, (by first | exact .inl (by decide +kernel) | exact .inr ⟨_, rfl, (by repeat (first | exact obs_nil | refine obs_same ?_ | refine obs_and ?_ | refine obs_by (by (simp [inB] <;> omega)) ?_))⟩)⟩)⟩)⟩ rfl rfl rfl rfl (lexg_g (I := inf) (J := jnf) none ⟨⟨⟨⟨_, rfl, (by repeat (first | exact obs_nil | refine obs_same ?_ | refine obs_and ?_ | refine obs_by (by (simp [inB] <;> omega)) ?_))⟩, (by first | exact .inl (by decide +kernel) | exact .inr ⟨_, rfl, (by repeat (first | exact obs_nil | refine obs_same ?_ | refine obs_and ?_ | refine obs_by (by (simp [inB] <;> omega)) ?_))⟩)⟩, (by first | exact .inl (by decide +kernel) | exact .inr ⟨⟨_, rfl, (by repeat (first | exact obs_nil | refine obs_same ?_ | refine obs_and ?_ | refine obs_by (by (simp [inB] <;> omega)) ?_))⟩, (by first | exact .inl (by decide +kernel) | exact .inr ⟨_, rfl, (by repeat (first | exact obs_nil | refine obs_same ?_ | refine obs_and ?_ | refine obs_by (by (simp [inB] <;> omega)) ?_))⟩)⟩)⟩, (by first | exact .inl (by decide +kernel) | exact .inr ⟨⟨⟨_, rfl, (by repeat (first | exact obs_nil | refine obs_same ?_ | refine obs_and ?_ | refine obs_by (by (simp [inB] <;> omega)) ?_))⟩, (by first | exact .inl (by decide +kernel) | exact .inr ⟨_, rfl, (by repeat (first | exact obs_nil | refine obs_same ?_ | refine obs_and ?_ | refine obs_by (by (simp [inB] <;> omega)) ?_))⟩)⟩, (by first | exact .inl (by decide +kernel) | exact .inr ⟨⟨_, rfl, (by repeat (first | exact obs_nil | refine obs_same ?_ | refine obs_and ?_ | refine obs_by (by (simp [inB] <;> omega)) ?_))⟩, (by first | exact .inl (by decide +kernel) | exact .inr ⟨_, rfl, (by repeat (first | exact obs_nil | refine obs_same ?_ | refine obs_and ?_ | refine obs_by (by (simp [inB] <;> omega)) ?_))⟩)⟩)⟩)⟩ rfl rfl rfl rfl (lexg_g (I := inf) (J := jnf) none ⟨⟨⟨⟨_, rfl, (by repeat (first | exact obs_nil | refine obs_same ?_ | refine obs_and ?_ | refine obs_by (by (simp [inB] <;> omega)) ?_))⟩, (by first | exact .inl (by decide +kernel) | exact .inr ⟨_, rfl, (by repeat (first | exact obs_nil | refine obs_same ?_ | refine obs_and ?_ | refine obs_by (by (simp [inB] <;> omega)) ?_))⟩)⟩, (by first | exact .inl (by decide +kernel) | exact .inr ⟨⟨_, rfl, (by repeat (first | exact obs_nil | refine obs_same ?_ | refine obs_and ?_ | refine obs_by (by (simp [inB] <;> omega)) ?_))⟩, (by first | exact .inl (by decide +kernel) | exact .inr ⟨_, rfl, (by repeat (first | exact obs_nil | refine obs_same ?_ | refine obs_and ?_ | refine obs_by (by (simp [inB] <;> omega)) ?_))⟩)⟩)⟩, (by first | exact .inl (by decide +kernel) | exact .inr ⟨⟨⟨_, rfl, (by repeat (first | exact obs_nil | refine obs_same ?_ | refine obs_and ?_ | refine obs_by (by (simp [inB] <;> omega)) ?_))⟩, (by first | exact .inl (by decide +kernel) | exact .inr ⟨_, rfl, (by repeat (first | exact obs_nil | refine obs_same ?_ | refine obs_and ?_ | refine obs_by (by (simp [inB] <;> omega)) ?_))⟩)⟩, (by first | exact .inl (by decide +kernel) | exact .inr ⟨⟨_, rfl, (by repeat (first | exact obs_nil | refine obs_same ?_ | refine obs_and ?_ | refine obs_by (by (simp [inB] <;> omega)) ?_))⟩, (by first | exact .inl (by decide +kernel) | exact .inr ⟨_, rfl, (by repeat (first | exact obs_nil | refine obs_same ?_ | refine obs_and ?_ | refine obs_by (by (simp [inB] <;> omega)) ?_))⟩)⟩)⟩)⟩ rfl rfl rfl rfl (lexg_b 5 rfl rfl ⟨⟨⟨⟨rfl, rfl⟩, (by first | exact .inl (by decide +kernel) | exact .inr ⟨rfl, rfl⟩)⟩, (by first | exact .inl (by decide +kernel) | exact .inr ⟨⟨rfl, rfl⟩, (by first | exact .inl (by decide +kernel) | exact .inr ⟨rfl, rfl⟩)⟩)⟩, .inl rfl⟩ rfl rfl rfl rfl (lexg_b 6 rfl rfl ⟨⟨⟨⟨rfl, rfl⟩, (by first | exact .inl (by decide +kernel) | exact .inr ⟨rfl, rfl⟩)⟩, .inl rfl⟩, (by first | exact .inl (by decide +kernel) | exact .inr ⟨⟨⟨rfl, rfl⟩, (by first | exact .inl (by decide +kernel) | exact .inr ⟨rfl, rfl⟩)⟩, .inl rfl⟩)⟩ rfl rfl rfl rfl (lexg_d (I := inf) (J := jnf) (some .store) ⟨(by first | exact .inl (by decide +kernel) | exact .inr ⟨(by first | exact .inl (by decide +kernel) | exact .inr ⟨(by first | exact .inl (by decide +kernel) | exact .inr ⟨_, rfl, (by repeat (first | exact obs_nil | refine obs_same ?_ | refine obs_and ?_ | refine obs_by (by (simp [inB] <;> omega)) ?_))⟩), (by first | exact .inl (by decide +kernel) | exact .inr ⟨_, rfl, (by repeat (first | exact obs_nil | refine obs_same ?_ | refine obs_and ?_ | refine obs_by (by (simp [inB] <;> omega)) ?_))⟩)⟩), (by first | exact .inl (by decide +kernel) | exact .inr ⟨(by first | exact .inl (by decide +kernel) | exact .inr ⟨_, rfl, (by repeat (first | exact obs_nil | refine obs_same ?_ | refine obs_and ?_ | refine obs_by (by (simp [inB] <;> omega)) ?_))⟩), (by first | exact .inl (by decide +kernel) | exact .inr ⟨_, rfl, (by repeat (first | exact obs_nil | refine obs_same ?_ | refine obs_and ?_ | refine obs_by (by (simp [inB] <;> omega)) ?_))⟩)⟩)⟩), (by first | exact .inl (by decide +kernel) | exact .inr ⟨(by first | exact .inl (by decide +kernel) | exact .inr ⟨(by first | exact .inl (by decide +kernel) | exact .inr ⟨_, rfl, (by repeat (first | exact obs_nil | refine obs_same ?_ | refine obs_and ?_ | refine obs_by (by (simp [inB] <;> omega)) ?_))⟩), (by first | exact .inl (by decide +kernel) | exact .inr ⟨_, rfl, (by repeat (first | exact obs_nil | refine obs_same ?_ | refine obs_and ?_ | refine obs_by (by (simp [inB] <;> omega)) ?_))⟩)⟩), (by first | exact .inl (by decide +kernel) | exact .inr ⟨(by first | exact .inl (by decide +kernel) | exact .inr ⟨_, rfl, (by repeat (first | exact obs_nil | refine obs_same ?_ | refine obs_and ?_ | refine obs_by (by (simp [inB] <;> omega)) ?_))⟩), (by first | exact .inl (by decide +kernel) | exact .inr ⟨_, rfl, (by repeat (first | exact obs_nil | refine obs_same ?_ | refine obs_and ?_ | refine obs_by (by (simp [inB] <;> omega)) ?_))⟩)⟩)⟩)⟩ rfl rfl rfl rfl lexg_nil))))))))))) rfl (fun _ => ?_) (fun h => by cases h)
      refine runS_x (I := inf) (J := jnf) ⟨false, false, [], 0, 0⟩ 9999 rfl (by repeat (first | exact obs_nil | refine obs_draw (by kernel_rfl) ?_ | refine obs_same ?_ | refine obs_and ?_ | refine obs_by (by (simp [inB] <;> omega)) ?_)) ?_
      refine runS_tell 5 (fun _ => [limS none (frm u), bv x.neg, iv e]) rfl (m' := 1) rfl (fun j hj => by (obtain rfl : j = 0 := by omega); rfl) rfl ?_
      refine runS_tell 6 (fun _ => [limS none (frm v), bv y.neg, iv e]) rfl (m' := 1) rfl (fun j hj => by (obtain rfl : j = 0 := by omega); rfl) rfl ?_
      refine runS_drawG (ch := []) (A2 := fun _ => []) 11 [10] (fun z => [.box 23 (vlE a), .box 23 (vlE b), .box 25 (typE t), .box 23 [iv 0, iv 0, iv 0, sv []], .gone, .row 74 3 1 1 (fun _ => [limS none (frm u), bv x.neg, iv e]), .row 74 3 1 1 (fun _ => [limS none (frm v), bv y.neg, iv e])] ++ cond (z.getD 0 false) [.box 74 lgZ] []) none (c := 9) jnfI.draw (by kernel_rfl) rfl (lexg_g (I := inf) (J := jnf) none ⟨⟨_, rfl, (by repeat (first | exact obs_nil | refine obs_same ?_ | refine obs_and ?_ | refine obs_by (by (simp [inB] <;> omega)) ?_))⟩, (by first | exact .inl (by decide +kernel) | exact .inr ⟨_, rfl, (by repeat (first | exact obs_nil | refine obs_same ?_ | refine obs_and ?_ | refine obs_by (by (simp [inB] <;> omega)) ?_))⟩)⟩ rfl rfl rfl rfl (lexg_g (I := inf) (J := jnf) none ⟨⟨_, rfl, (by repeat (first | exact obs_nil | refine obs_same ?_ | refine obs_and ?_ | refine obs_by (by (simp [inB] <;> omega)) ?_))⟩, (by first | exact .inl (by decide +kernel) | exact .inr ⟨_, rfl, (by repeat (first | exact obs_nil | refine obs_same ?_ | refine obs_and ?_ | refine obs_by (by (simp [inB] <;> omega)) ?_))⟩)⟩ rfl rfl rfl rfl (lexg_g (I := inf) (J := jnf) none ⟨⟨_, rfl, (by repeat (first | exact obs_nil | refine obs_same ?_ | refine obs_and ?_ | refine obs_by (by (simp [inB] <;> omega)) ?_))⟩, (by first | exact .inl (by decide +kernel) | exact .inr ⟨_, rfl, (by repeat (first | exact obs_nil | refine obs_same ?_ | refine obs_and ?_ | refine obs_by (by (simp [inB] <;> omega)) ?_))⟩)⟩ rfl rfl rfl rfl (lexg_g (I := inf) (J := jnf) none ⟨⟨_, rfl, (by repeat (first | exact obs_nil | refine obs_same ?_ | refine obs_and ?_ | refine obs_by (by (simp [inB] <;> omega)) ?_))⟩, (by first | exact .inl (by decide +kernel) | exact .inr ⟨_, rfl, (by repeat (first | exact obs_nil | refine obs_same ?_ | refine obs_and ?_ | refine obs_by (by (simp [inB] <;> omega)) ?_))⟩)⟩ rfl rfl rfl rfl (lexg_call rfl rfl rfl rfl rfl rfl rfl rfl rfl hov (lexg_g (I := inf) (J := jnf) none ⟨⟨_, rfl, (by repeat (first | exact obs_nil | refine obs_same ?_ | refine obs_and ?_ | refine obs_by (by (simp [inB] <;> omega)) ?_))⟩, (by first | exact .inl (by decide +kernel) | exact .inr ⟨_, rfl, (by repeat (first | exact obs_nil | refine obs_same ?_ | refine obs_and ?_ | refine obs_by (by (simp [inB] <;> omega)) ?_))⟩)⟩ rfl rfl rfl rfl (lexg_g (I := inf) (J := jnf) none ⟨⟨_, rfl, (by repeat (first | exact obs_nil | refine obs_same ?_ | refine obs_and ?_ | refine obs_by (by (simp [inB] <;> omega)) ?_))⟩, (by first | exact .inl (by decide +kernel) | exact .inr ⟨_, rfl, (by repeat (first | exact obs_nil | refine obs_same ?_ | refine obs_and ?_ | refine obs_by (by (simp [inB] <;> omega)) ?_))⟩)⟩ rfl rfl rfl rfl (lexg_g (I := inf) (J := jnf) none ⟨⟨_, rfl, (by repeat (first | exact obs_nil | refine obs_same ?_ | refine obs_and ?_ | refine obs_by (by (simp [inB] <;> omega)) ?_))⟩, (by first | exact .inl (by decide +kernel) | exact .inr ⟨_, rfl, (by repeat (first | exact obs_nil | refine obs_same ?_ | refine obs_and ?_ | refine obs_by (by (simp [inB] <;> omega)) ?_))⟩)⟩ rfl rfl rfl rfl (lexg_g (I := inf) (J := jnf) none ⟨⟨_, rfl, (by repeat (first | exact obs_nil | refine obs_same ?_ | refine obs_and ?_ | refine obs_by (by (simp [inB] <;> omega)) ?_))⟩, (by first | exact .inl (by decide +kernel) | exact .inr ⟨_, rfl, (by repeat (first | exact obs_nil | refine obs_same ?_ | refine obs_and ?_ | refine obs_by (by (simp [inB] <;> omega)) ?_))⟩)⟩ rfl rfl rfl rfl (lexg_call rfl rfl rfl rfl rfl rfl rfl rfl rfl hpr (lexg_a rfl rfl ⟨(show _ = _ from rfl), .inl rfl⟩ rfl rfl rfl rfl lexg_nil))))))))))) rfl (fun _ => ?_) (fun h => by cases h)
      refine runS_x (I := inf) (J := jnf) ⟨false, false, [], 0, 0⟩ 9999 rfl (by repeat (first | exact obs_nil | refine obs_draw (by kernel_rfl) ?_ | refine obs_same ?_ | refine obs_and ?_ | refine obs_by (by (simp [inB] <;> omega)) ?_)) ?_
      refine runS_drawG (ch := []) (A2 := fun _ => []) 9 [8] (fun z => [.box 23 (vlE a), .box 23 (vlE b), .box 25 (typE t), .box 23 [iv 0, iv 0, iv 0, sv []], .gone, .row 74 3 1 1 (fun _ => [limS none (frm u), bv x.neg, iv e]), .row 74 3 1 1 (fun _ => [limS none (frm v), bv y.neg, iv e]), .box 74 [limS none (frm (u / v * v)), bv false, iv 0]] ++ cond (z.getD 0 false) [.box 74 lgZ] []) none (c := 9) jnfI.draw (by kernel_rfl) rfl (lexg_g (I := inf) (J := jnf) none ⟨⟨_, rfl, (by repeat (first | exact obs_nil | refine obs_same ?_ | refine obs_and ?_ | refine obs_by (by (simp [inB] <;> omega)) ?_))⟩, (by first | exact .inl (by decide +kernel) | exact .inr ⟨_, rfl, (by repeat (first | exact obs_nil | refine obs_same ?_ | refine obs_and ?_ | refine obs_by (by (simp [inB] <;> omega)) ?_))⟩)⟩ rfl rfl rfl rfl (lexg_g (I := inf) (J := jnf) none ⟨⟨_, rfl, (by repeat (first | exact obs_nil | refine obs_same ?_ | refine obs_and ?_ | refine obs_by (by (simp [inB] <;> omega)) ?_))⟩, (by first | exact .inl (by decide +kernel) | exact .inr ⟨_, rfl, (by repeat (first | exact obs_nil | refine obs_same ?_ | refine obs_and ?_ | refine obs_by (by (simp [inB] <;> omega)) ?_))⟩)⟩ rfl rfl rfl rfl (lexg_g (I := inf) (J := jnf) none ⟨⟨_, rfl, (by repeat (first | exact obs_nil | refine obs_same ?_ | refine obs_and ?_ | refine obs_by (by (simp [inB] <;> omega)) ?_))⟩, (by first | exact .inl (by decide +kernel) | exact .inr ⟨_, rfl, (by repeat (first | exact obs_nil | refine obs_same ?_ | refine obs_and ?_ | refine obs_by (by (simp [inB] <;> omega)) ?_))⟩)⟩ rfl rfl rfl rfl (lexg_g (I := inf) (J := jnf) none ⟨⟨_, rfl, (by repeat (first | exact obs_nil | refine obs_same ?_ | refine obs_and ?_ | refine obs_by (by (simp [inB] <;> omega)) ?_))⟩, (by first | exact .inl (by decide +kernel) | exact .inr ⟨_, rfl, (by repeat (first | exact obs_nil | refine obs_same ?_ | refine obs_and ?_ | refine obs_by (by (simp [inB] <;> omega)) ?_))⟩)⟩ rfl rfl rfl rfl (lexg_call rfl rfl rfl rfl rfl rfl rfl rfl rfl hls (lexg_g (I := inf) (J := jnf) none ⟨⟨_, rfl, (by repeat (first | exact obs_nil | refine obs_same ?_ | refine obs_and ?_ | refine obs_by (by (simp [inB] <;> omega)) ?_))⟩, (by first | exact .inl (by decide +kernel) | exact .inr ⟨_, rfl, (by repeat (first | exact obs_nil | refine obs_same ?_ | refine obs_and ?_ | refine obs_by (by (simp [inB] <;> omega)) ?_))⟩)⟩ rfl rfl rfl rfl (lexg_g (I := inf) (J := jnf) none ⟨⟨_, rfl, (by repeat (first | exact obs_nil | refine obs_same ?_ | refine obs_and ?_ | refine obs_by (by (simp [inB] <;> omega)) ?_))⟩, (by first | exact .inl (by decide +kernel) | exact .inr ⟨_, rfl, (by repeat (first | exact obs_nil | refine obs_same ?_ | refine obs_and ?_ | refine obs_by (by (simp [inB] <;> omega)) ?_))⟩)⟩ rfl rfl rfl rfl (lexg_g (I := inf) (J := jnf) none ⟨⟨_, rfl, (by repeat (first | exact obs_nil | refine obs_same ?_ | refine obs_and ?_ | refine obs_by (by (simp [inB] <;> omega)) ?_))⟩, (by first | exact .inl (by decide +kernel) | exact .inr ⟨_, rfl, (by repeat (first | exact obs_nil | refine obs_same ?_ | refine obs_and ?_ | refine obs_by (by (simp [inB] <;> omega)) ?_))⟩)⟩ rfl rfl rfl rfl (lexg_a rfl rfl ⟨(show _ = _ from rfl), .inl rfl⟩ rfl rfl rfl rfl lexg_nil))))))))) rfl (fun _ => ?_) (fun h => by cases h)
      refine runS_x (I := inf) (J := jnf) ⟨false, false, [], 0, 0⟩ 9999 rfl (by repeat (first | exact obs_nil | refine obs_draw (by kernel_rfl) ?_ | refine obs_same ?_ | refine obs_and ?_ | refine obs_by (by (simp [inB] <;> omega)) ?_)) ?_
      have hc0 : (if decide (((frm r).length : Int) > 0) = true then x.neg != y.neg else false) = decide (r ≠ 0 ∧ x.neg ≠ y.neg) := by
        rw [len_pos]
        by_cases h : r = 0
        · simp [h]
        · cases x.neg <;> cases y.neg <;> simp [h]
      obtain ⟨r2, hr2⟩ : ∃ r2, (if r ≠ 0 ∧ x.neg ≠ y.neg then v - r else r) = r2 := ⟨_, rfl⟩
      rw [hr2] at hft ⊢
      refine runS_cut (fun τ ar => (τ 5 = .ptr 2 0 0 ∧ τ 6 = .ptr 3 0 0 ∧ τ 11 = .elt 6 1 3 0 0 ∧ τ 13 = .ptr 8 0 0) ∧ ar = [.box 23 (vlE a), .box 23 (vlE b), .box 25 (typE t), .box 23 [iv 0, iv 0, iv 0, sv []], .gone, .row 74 3 1 1 (fun _ => [limS none (frm u), bv x.neg, iv e]), .row 74 3 1 1 (fun _ => [limS none (frm v), bv y.neg, iv e]), .box 74 [limS none (frm (u / v * v)), bv false, iv 0], .box 74 [limS none (frm r2), bv false, iv e]]) (fun rest => ?_) ?_
      · refine runS_cond rfl (fun h => ?_) (fun h => ?_)
        · have hc : r ≠ 0 ∧ x.neg ≠ y.neg := of_decide_eq_true (hc0.symm.trans h)
          rw [if_pos hc] at hr2
          rw [hr2] at hl2
          refine runS_x (I := inf) (J := jnf) ⟨false, false, [], 2, 0⟩ 9999 rfl (by repeat (first | exact obs_nil | refine obs_draw (by kernel_rfl) ?_ | refine obs_same ?_ | refine obs_and ?_ | refine obs_by (by (simp [inB] <;> omega)) ?_)) ?_
          refine runS_call rfl rfl rfl rfl rfl rfl rfl hl2 ?_
          refine runS_x (I := inf) (J := jnf) ⟨false, false, [], 2, 0⟩ 9999 rfl (by repeat (first | exact obs_nil | refine obs_draw (by kernel_rfl) ?_ | refine obs_same ?_ | refine obs_and ?_ | refine obs_by (by (simp [inB] <;> omega)) ?_)) ?_
          exact rest _ _ ⟨⟨rfl, rfl, rfl, rfl⟩, rfl⟩
        · have hc : ¬ (r ≠ 0 ∧ x.neg ≠ y.neg) := of_decide_eq_false (hc0.symm.trans h)
          rw [if_neg hc] at hr2
          subst hr2
          refine runS_x (I := inf) (J := jnf) ⟨false, false, [], 2, 0⟩ 9999 rfl (by repeat (first | exact obs_nil | refine obs_draw (by kernel_rfl) ?_ | refine obs_same ?_ | refine obs_and ?_ | refine obs_by (by (simp [inB] <;> omega)) ?_)) ?_
          exact rest _ _ ⟨⟨rfl, rfl, rfl, rfl⟩, rfl⟩
      clear hl2 hc0 hls hpr hov hlv
      rintro τ2 ar2 ⟨⟨g5, g6, g11, g13⟩, rfl⟩
      refine runS_says 5 (by exact g5) (Says.refl _) ?_; refine runS_says 6 (by exact g6) (Says.refl _) ?_; refine runS_says 11 (by exact g11) (Says.refl _) ?_; refine runS_says 13 (by exact g13) (Says.refl _) ?_
      refine runS_x (I := inf) (J := jnf) ⟨false, false, [], 0, 0⟩ 9999 rfl (by repeat (first | exact obs_nil | refine obs_draw (by kernel_rfl) ?_ | refine obs_same ?_ | refine obs_and ?_ | refine obs_by (by (simp [inB] <;> omega)) ?_)) ?_
      refine runS_call rfl rfl rfl rfl rfl rfl rfl hft ?_
      refine runS_x (I := inf) (J := jnf) ⟨false, false, [], 0, 0⟩ 9999 rfl (by repeat (first | exact obs_nil | refine obs_draw (by kernel_rfl) ?_ | refine obs_same ?_ | refine obs_and ?_ | refine obs_by (by (simp [inB] <;> omega)) ?_)) ?_
      refine runS_ret (I := inf) 0 rfl (Nat.le_refl _) rfl .nil rfl ⟨?_, rfl⟩
      rfl
end Go.Iron.Tryz

/- Digits: how the reference finds a float's digits, in plain Lean. -/
namespace Go.Iron.Dg

theorem float_start {num den P : Nat} {k0 : Int} (hn : num ≠ 0) (hd : den ≠ 0) (hP : 1 ≤ P) (hk : k0 = (P : Int) - ((frm num).length - (frm den).length) - 1) :
    den * e10 (-k0) * 10 ^ (P - 1) < num * e10 k0 * 10 ∧ num * e10 k0 < den * e10 (-k0) * 10 ^ P := by
  have n1 := frm_ge hn
  have n2 := frm_lt_pow num
  have d1 := frm_ge hd
  have d2 := frm_lt_pow den
  have ln : 0 < (frm num).length := Nat.pos_of_ne_zero fun e => hn (frm_len0.1 e)
  have ld : 0 < (frm den).length := Nat.pos_of_ne_zero fun e => hd (frm_len0.1 e)
  generalize (frm num).length = a at *
  generalize (frm den).length = b at *
  constructor
  · have h1 : den * e10 (-k0) * 10 ^ (P - 1) < 10 ^ b * e10 (-k0) * 10 ^ (P - 1) := Nat.mul_lt_mul_of_pos_right (Nat.mul_lt_mul_of_pos_right d2 (e10_pos _)) (Nat.pow_pos (by decide))
    have h2 : 10 ^ (a - 1) * e10 k0 * 10 ≤ num * e10 k0 * 10 := Nat.mul_le_mul_right _ (Nat.mul_le_mul_right _ n1)
    have h3 : 10 ^ b * e10 (-k0) * 10 ^ (P - 1) = 10 ^ (a - 1) * e10 k0 * 10 := by
      unfold e10
      rw [← Nat.pow_add, ← Nat.pow_add, ← Nat.pow_add, ← Nat.pow_succ]
      congr 1
      omega
    omega
  · have h1 : num * e10 k0 < 10 ^ a * e10 k0 := Nat.mul_lt_mul_of_pos_right n2 (e10_pos _)
    have h2 : 10 ^ (b - 1) * e10 (-k0) * 10 ^ P ≤ den * e10 (-k0) * 10 ^ P := Nat.mul_le_mul_right _ (Nat.mul_le_mul_right _ d1)
    have h3 : 10 ^ a * e10 k0 = 10 ^ (b - 1) * e10 (-k0) * 10 ^ P := by
      unfold e10
      rw [← Nat.pow_add, ← Nat.pow_add, ← Nat.pow_add]
      congr 1
      omega
    omega
theorem ratio_le {N D A B X : Nat} (h : N * B = D * A) (hD : 0 < D) (hB : 0 < B) : X * B ≤ A ↔ X * D ≤ N := by
  constructor
  · intro h1
    refine Nat.le_of_mul_le_mul_right (c := B) ?_ hB
    rw [h]
    calc X * D * B = D * (X * B) := by ac_rfl
      _ ≤ D * A := Nat.mul_le_mul_left _ h1
  · intro h1
    refine Nat.le_of_mul_le_mul_left ?_ hD
    rw [← h]
    calc D * (X * B) = X * D * B := by ac_rfl
      _ ≤ N * B := Nat.mul_le_mul_right _ h1
theorem ratio_div {N D A B : Nat} (h : N * B = D * A) (hD : 0 < D) (hB : 0 < B) (c : Nat) : A * c / B = N * c / D := by
  rw [← Nat.mul_div_mul_left (A * c) B hD, ← Nat.mul_div_mul_right (N * c) D hB]
  congr 1
  rw [show D * (A * c) = D * A * c by ac_rfl, ← h]
  ac_rfl
theorem float_found {num den P N D : Nat} {k : Int} (hr : N * (den * e10 (-k)) = D * (num * e10 k)) (hd : 0 < den) (hD : 0 < D) (h1 : D * 10 ^ (P - 1) ≤ N) (h2 : N < D * 10 ^ P) :
    IsK num den P k ∧ fltR num den k = normD (N / D + (if N % D + N % D ≥ D then 1 else 0)) (-k) := by
  have hB : 0 < den * e10 (-k) := Nat.mul_pos hd (e10_pos _)
  refine ⟨⟨?_, ?_⟩, ?_⟩
  · exact (ratio_le hr hD hB).2 (by rw [Nat.mul_comm]; exact h1)
  · refine Nat.lt_of_not_le fun h => ?_
    have h3 := (ratio_le (X := 10 ^ P) hr hD hB).1 h
    rw [Nat.mul_comm] at h3
    omega
  · unfold fltR
    rw [← rnd_half hD, show num * (10 * e10 k) = num * e10 k * 10 by ac_rfl, ratio_div hr hD hB 10]
theorem float_ratio (num den : Nat) (k0 : Int) (j : Nat) : num * e10 k0 * 10 ^ j * (den * e10 (-(k0 + j))) = den * e10 (-k0) * (num * e10 (k0 + j)) := by
  have h : e10 k0 * 10 ^ j * e10 (-(k0 + j)) = e10 (-k0) * e10 (k0 + j) := by
    unfold e10
    rw [← Nat.pow_add, ← Nat.pow_add, ← Nat.pow_add]
    congr 1
    omega
  rw [show num * e10 k0 * 10 ^ j * (den * e10 (-(k0 + j))) = num * den * (e10 k0 * 10 ^ j * e10 (-(k0 + j))) by ac_rfl, h]
  ac_rfl
end Go.Iron.Dg
