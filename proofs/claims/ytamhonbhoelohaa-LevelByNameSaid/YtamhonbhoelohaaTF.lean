/- The level package's functions (seat Ytamhonbhoelohaa): Valid is the document's. -/
import Derived.Test.YtamhonbhoelohaaTC
import Derived.Test.YtamhonbhoelohaaTE
namespace Go.Iron.Try
open Go.Proofs

def validP (l : List Fld) : Bool := decide (1 ≤ l.length) && decide (l.length ≤ 200) && (fat l 0).level == 1 && (List.range l.length).all (baseOK l) && (List.range l.length).all fun i => rightP l i && decide (arrs l i ≤ 3)

theorem upN_some {l : List Fld} {v : Int} : ∀ {k i : Nat}, upN l v k = some i → (fat l i).level < v ∧ i < k ∧ ∀ j, i < j → j < k → v ≤ (fat l j).level
  | 0, i, h => by cases h
  | k + 1, i, h => by
    unfold upN at h
    split at h
    · rename_i hl
      cases h
      exact ⟨hl, by omega, fun j h1 h2 => by omega⟩
    · rename_i hl
      obtain ⟨h1, h2, h3⟩ := upN_some h
      refine ⟨h1, by omega, fun j a b => ?_⟩
      by_cases hj : j = k
      · subst hj; omega
      · exact h3 j a (by omega)
theorem mem_kids {l : List Fld} {i k : Nat} : k ∈ kidsA l i ↔ k < l.length ∧ par l k = some i := by
  simp [kidsA, kidsL]
theorem inner_kids {l : List Fld} {i : Nat} (hi : i < l.length) : innerB l i = decide (0 < (kidsA l i).length) := by
  rw [Bool.eq_iff_iff]
  simp only [innerB, Bool.and_eq_true, decide_eq_true_eq]
  constructor
  · rintro ⟨h1, h2⟩
    have : i + 1 ∈ kidsA l i := mem_kids.2 ⟨h1, by rw [par, upN, if_pos h2]⟩
    exact List.length_pos_of_mem this
  · intro h
    obtain ⟨k, hk⟩ := List.exists_mem_of_length_pos h
    obtain ⟨h1, h2⟩ := mem_kids.1 hk
    obtain ⟨a, b, c⟩ := upN_some h2
    refine ⟨by omega, ?_⟩
    by_cases hk1 : k = i + 1
    · subst hk1; exact a
    · have := c (i + 1) (by omega) (by omega)
      omega
theorem kids_sorted (l : List Fld) (i : Nat) : (kidsA l i).Pairwise (· < ·) := List.Pairwise.filter _ List.pairwise_lt_range
theorem kids_at {l : List Fld} {i k : Nat} (h : k ∈ kidsA l i) : ∃ q, q < (kidsA l i).length ∧ (kidsA l i).getD q 0 = k := by
  obtain ⟨q, hq, e⟩ := List.getElem_of_mem h
  exact ⟨q, hq, by rw [List.getD_eq_getElem?_getD, List.getElem?_eq_getElem hq]; exact e⟩
theorem kids_mem {l : List Fld} {i q : Nat} (h : q < (kidsA l i).length) : (kidsA l i).getD q 0 ∈ kidsA l i := by
  rw [List.getD_eq_getElem?_getD, List.getElem?_eq_getElem h]
  exact List.getElem_mem h
theorem kids_mono {l : List Fld} {i a b : Nat} (h : a < b) (hb : b < (kidsA l i).length) : (kidsA l i).getD a 0 < (kidsA l i).getD b 0 := by
  have := (List.pairwise_iff_getElem.1 (kids_sorted l i)) a b (by omega) hb h
  rw [List.getD_eq_getElem?_getD, List.getD_eq_getElem?_getD, List.getElem?_eq_getElem hb, List.getElem?_eq_getElem (by omega)]
  exact this
theorem allR {n : Nat} {g : Nat → Bool} : (List.range n).all g = true ↔ ∀ i, i < n → g i = true := by simp [List.all_eq_true]

/-- Sisters, from above and from one of them. -/
theorem kids_sibs {l : List Fld} (h : ∀ p, p < l.length → kidPre l p (kidsA l p).length = true) {i : Nat} (hi : i < l.length) : sibPre l i i = true := by
  rw [sibPre, allR]
  intro k hk
  unfold sibC
  cases hp : par l i with
  | none => simp
  | some p =>
    by_cases hpk : par l k = some p
    · have hpi := par_lt hp
      obtain ⟨b, hb, eb⟩ := kids_at (mem_kids.2 ⟨hi, hp⟩)
      obtain ⟨a, ha, ea⟩ := kids_at (mem_kids.2 ⟨(by omega : k < l.length), hpk⟩)
      have hab : a < b := by
        rcases Nat.lt_trichotomy a b with h' | h' | h'
        · exact h'
        · subst h'; omega
        · have := kids_mono h' ha; omega
      have hb1 := allR.1 (h p (by omega)) b hb
      have ha1 := allR.1 (h p (by omega)) a ha
      rw [kidC1, eb] at hb1
      rw [kidC1, ea] at ha1
      simp only [Bool.and_eq_true, Bool.not_eq_true', decide_eq_false_iff_not, beq_iff_eq] at hb1 ha1
      have hn : (fat l k).name ≠ (fat l i).name := by
        intro e
        refine hb1.1 (List.mem_map.2 ⟨k, ?_, e⟩)
        rw [List.mem_take_iff_getElem]
        refine ⟨a, by omega, ?_⟩
        rw [← ea, List.getD_eq_getElem?_getD, List.getElem?_eq_getElem ha]
        rfl
      have hl : (fat l k).level = (fat l i).level := ha1.2.trans hb1.2.symm
      have e1 : ((fat l k).name == (fat l i).name) = false := by simpa using hn
      have e2 : ((fat l k).level == (fat l i).level) = true := by simpa using hl
      rw [e1, e2]
      simp
    · have : (par l k == some p) = false := by simpa using hpk
      rw [this]
      simp
theorem sibs_kids {l : List Fld} (h : ∀ i, i < l.length → sibPre l i i = true) {p : Nat} (hp : p < l.length) : kidPre l p (kidsA l p).length = true := by
  rw [kidPre, allR]
  intro q hq
  obtain ⟨hi, hpi⟩ := mem_kids.1 (kids_mem hq)
  have hs := allR.1 (h _ hi)
  have key : ∀ a, a < q → (fat l ((kidsA l p).getD a 0)).name ≠ (fat l ((kidsA l p).getD q 0)).name ∧ (fat l ((kidsA l p).getD a 0)).level = (fat l ((kidsA l p).getD q 0)).level := by
    intro a ha
    have h1 := hs _ (kids_mono ha hq)
    obtain ⟨_, hpa⟩ := mem_kids.1 (kids_mem (l := l) (i := p) (q := a) (by omega))
    rw [sibC, hpi, hpa] at h1
    simp at h1
    exact ⟨by simpa using h1.1, by simpa using h1.2⟩
  rw [kidC1]
  have e1 : decide (nameOf l ((kidsA l p).getD q 0) ∈ ((kidsA l p).take q).map (nameOf l)) = false := by
    rw [decide_eq_false_iff_not]
    intro hm
    obtain ⟨k, hk, e⟩ := List.mem_map.1 hm
    rw [List.mem_take_iff_getElem] at hk
    obtain ⟨a, ha, e2⟩ := hk
    refine (key a (by omega)).1 ?_
    rw [List.getD_eq_getElem?_getD (l := kidsA l p) (i := a), List.getElem?_eq_getElem (by omega)]
    show (fat l ((kidsA l p)[a])).name = _
    rw [e2]
    exact e
  have e2 : ((fat l ((kidsA l p).getD q 0)).level == (fat l ((kidsA l p).getD 0 0)).level) = true := by
    rw [beq_iff_eq]
    by_cases h0 : q = 0
    · subst h0; rfl
    · exact (key 0 (by omega)).2.symm
  rw [e1, e2]
  rfl

theorem validP_eq (l : List Fld) : validP l = validF l := by
  rw [Bool.eq_iff_iff]
  unfold validP validF okPre
  simp only [Bool.and_eq_true, allR, decide_eq_true_eq, okA]
  constructor
  · rintro ⟨⟨h0, h1⟩, h2⟩
    refine ⟨h0, fun i hi => ?_⟩
    have hr : ∀ k, k < l.length → kindP l k = true ∧ kidPre l k (kidsA l k).length = true ∧ refP l k = true := fun k hk => by
      have := (h2 k hk).1
      simpa [rightP, and_assoc] using this
    obtain ⟨r1, r2, r3⟩ := hr i hi
    have hkind : ∀ k, k < l.length → kindOK l k = true := fun k hk => by
      have := (hr k hk).1
      rw [kindP] at this
      rw [kindOK, inner_kids hk]
      by_cases h' : 0 < (kidsA l k).length <;> simpa [h'] using this
    refine ⟨⟨⟨⟨h1 i hi, hkind i hi⟩, ?_⟩, (h2 i hi).2⟩, kids_sibs (fun p hp => (hr p hp).2.1) hi⟩
    rw [refP] at r3
    rw [refOK]
    by_cases hm : (fat l i).refer = -1
    · rw [hm]
      simp
      omega
    · have hm' : ((fat l i).refer == -1) = false := by simpa using hm
      rw [hm'] at r3
      simp only [Bool.false_or, Bool.and_eq_true, decide_eq_true_eq, beq_iff_eq, Bool.or_eq_true] at r3
      obtain ⟨⟨⟨⟨a1, a2⟩, a3⟩, a4⟩, a5⟩ := r3
      have hk := hkind (fat l i).refer.toNat (by omega)
      have hin : innerB l (fat l i).refer.toNat = false := by
        cases hin : innerB l (fat l i).refer.toNat with
        | false => rfl
        | true =>
          rw [kindOK, hin] at hk
          simp only [if_true, decide_eq_true_eq] at hk
          rw [hk] at a4
          simp [typ0] at a4
      simp only [Bool.and_eq_true, decide_eq_true_eq, Bool.or_eq_true, beq_iff_eq, hin, Bool.not_false]
      exact ⟨⟨by omega, a2⟩, .inr ⟨⟨⟨trivial, a4⟩, a5⟩, a3⟩⟩
  · rintro ⟨h0, h1⟩
    refine ⟨⟨h0, fun i hi => (h1 i hi).1.1.1.1⟩, fun i hi => ⟨?_, (h1 i hi).1.2⟩⟩
    obtain ⟨⟨⟨⟨a1, a2⟩, a3⟩, a4⟩, a5⟩ := h1 i hi
    rw [rightP, sibs_kids (fun k hk => (h1 k hk).2) hi]
    have hkp : kindP l i = true := by
      rw [kindP]
      rw [kindOK, inner_kids hi] at a2
      by_cases h' : 0 < (kidsA l i).length <;> simpa [h'] using a2
    rw [hkp, refP]
    rw [refOK] at a3
    simp only [Bool.and_eq_true, decide_eq_true_eq, Bool.or_eq_true, beq_iff_eq, Bool.not_eq_true'] at a3 ⊢
    obtain ⟨⟨b1, b2⟩, b3⟩ := a3
    refine ⟨⟨trivial, trivial⟩, ?_⟩
    by_cases hm : (fat l i).refer = -1
    · exact .inl hm
    · rcases b3 with b3 | b3
      · omega
      · exact .inr ⟨⟨⟨⟨by omega, b2⟩, b3.2⟩, b3.1.1.2⟩, b3.1.2⟩

theorem validP_base {l : List Fld} {i : Nat} (hi : i < l.length) (h : baseOK l i = false) : validP l = false := by
  rw [validP, allPre_false hi h]; simp
theorem validP_right {l : List Fld} {i : Nat} (hi : i < l.length) (h : (rightP l i && decide (arrs l i ≤ 3)) = false) : validP l = false := by
  rw [validP, allPre_false (g := fun i => rightP l i && decide (arrs l i ≤ 3)) hi h, Bool.and_false]
theorem baseB (l : List Fld) (i : Nat) : (if (if (if (!(decide (1 ≤ (fat l i).level) && decide ((fat l i).level ≤ 255))) = true then true else (if decide ((i : Int) > 0) = true then (fat l i).level == 1 else false)) = true then true else !nameB (fat l i).name) = true then true
    else !(decide (0 ≤ (fat l i).count) && decide ((fat l i).count ≤ 200))) = !baseOK l i := by
  unfold baseOK inR
  generalize nameB (fat l i).name = nb
  rw [Bool.eq_iff_iff]
  cases nb <;> (simp [-List.getD_eq_getElem?_getD, -List.length_eq_zero_iff, fat] <;> omega)
theorem level_valid (nl : Option Bool) (l : List Fld) (hs : smallF l) : CallT Try.prog 76 [fldS nl l] [] (fun o A => o = .ret (bv (validF l)) ∧ A = []) := by
  rw [← validP_eq]
  have hs' := hs
  obtain ⟨hb, hsm⟩ := hs
  refine callS_body (n := 72) rfl rfl fun w ρ X => ?_
  by_cases h0 : l.length = 0
  · have : l = [] := List.eq_nil_of_length_eq_zero h0
    subst this
    refine runS_x (I := inf) (J := jnf) ⟨false, false, [], 0, 0⟩ 9999 rfl (by repeat (first | exact obs_nil | refine obs_draw (by kernel_rfl) ?_ | refine obs_same ?_ | refine obs_and ?_ | refine obs_by (by (simp [inB] <;> omega)) ?_)) ?_
    refine runS_call rfl rfl rfl rfl rfl rfl rfl (level_within _ _ _) ?_
    refine runS_x (I := inf) (J := jnf) ⟨true, false, [], 0, 0⟩ 9999 rfl (by repeat (first | exact obs_nil | refine obs_draw (by kernel_rfl) ?_ | refine obs_same ?_ | refine obs_and ?_ | refine obs_by (by (simp [inB] <;> omega)) ?_)) ?_
    refine runS_ret (I := inf) 0 rfl (Nat.le_refl _) rfl .nil rfl ⟨?_, rfl⟩
    rfl
  have hpos : 0 < l.length := by omega
  refine runS_x (I := inf) (J := jnf) ⟨false, false, [], 0, 0⟩ 9999 rfl (by repeat (first | exact obs_nil | refine obs_draw (by kernel_rfl) ?_ | refine obs_same ?_ | refine obs_and ?_ | refine obs_by (by (simp [inB] <;> omega)) ?_)) ?_
  refine runS_call rfl rfl rfl rfl rfl rfl rfl (level_within _ _ _) ?_
  refine runS_x (I := inf) (J := jnf) ⟨false, false, [], 0, 0⟩ 9999 rfl (by repeat (first | exact obs_nil | refine obs_draw (by kernel_rfl) ?_ | refine obs_same ?_ | refine obs_and ?_ | refine obs_by (by (simp [inB, hpos] <;> omega)) ?_)) ?_
  have hw : (if (!(decide ((1 : Int) ≤ l.length) && decide ((l.length : Int) ≤ 200))) = true then true else (fat l 0).level != 1) = !(decide (1 ≤ l.length) && decide (l.length ≤ 200) && (fat l 0).level == 1) := by
    rw [Bool.eq_iff_iff]
    simp [-List.getD_eq_getElem?_getD, -List.length_eq_zero_iff, fat]
    omega
  refine runS_cond rfl (fun h => ?_) (fun h => ?_)
  · refine runS_x (I := inf) (J := jnf) ⟨false, false, [], 0, 0⟩ 9999 rfl (by repeat (first | exact obs_nil | refine obs_draw (by kernel_rfl) ?_ | refine obs_same ?_ | refine obs_and ?_ | refine obs_by (by (simp [inB] <;> omega)) ?_)) ?_
    refine runS_ret (I := inf) 0 rfl (Nat.le_refl _) rfl .nil rfl ⟨?_, rfl⟩
    have h' := hw.symm.trans h
    have : validP l = false := by
      rw [validP]
      rw [Bool.not_eq_true'] at h'
      rw [h']
      rfl
    rw [this]
    rfl
  have h1 : (decide (1 ≤ l.length) && decide (l.length ≤ 200) && (fat l 0).level == 1) = true := by
    have h' := hw.symm.trans h
    rwa [Bool.not_eq_false'] at h'
  refine runS_x (I := inf) (J := jnf) ⟨false, false, [], 0, 0⟩ 9999 rfl (by repeat (first | exact obs_nil | refine obs_draw (by kernel_rfl) ?_ | refine obs_same ?_ | refine obs_and ?_ | refine obs_by (by (simp [inB] <;> omega)) ?_)) ?_
  refine runS_while (fun (i : Nat) τ ar => (τ 0 = fldS nl l ∧ τ 19 = fldS nl l ∧ τ 20 = iv l.length ∧ τ 21 = iv i) ∧ ar = [] ∧ i ≤ l.length ∧ (List.range i).all (baseOK l) = true) (fun i => l.length - i) 0 ⟨⟨rfl, rfl, rfl, rfl⟩, rfl, Nat.zero_le _, rfl⟩ ?_
  rintro i τ' ar' ⟨⟨g0, g19, g20, g21⟩, rfl, hi, hp⟩ ih
  refine runS_says 0 (by exact g0) (Says.refl _) ?_; refine runS_says 19 (by exact g19) (Says.refl _) ?_; refine runS_says 20 (by exact g20) (Says.refl _) ?_; refine runS_says 21 (by exact g21) (Says.refl _) ?_
  refine runS_x (I := inf) (J := jnf) ⟨false, false, [], 0, 0⟩ 9999 rfl (by repeat (first | exact obs_nil | refine obs_draw (by kernel_rfl) ?_ | refine obs_same ?_ | refine obs_and ?_ | refine obs_by (by (simp [inB] <;> omega)) ?_)) ?_
  refine runS_cond rfl (fun hlt => ?_) (fun hlt => ?_)
  · have hlt' : i < l.length := by simpa using hlt
    refine runS_x (I := inf) (J := jnf) ⟨false, false, [], 0, 0⟩ 9999 rfl (by repeat (first | exact obs_nil | refine obs_draw (by kernel_rfl) ?_ | refine obs_same ?_ | refine obs_and ?_ | refine obs_by (by (simp [inB, hlt'] <;> omega)) ?_)) ?_
    refine runS_call rfl rfl rfl rfl rfl rfl rfl (level_within _ _ _) ?_
    refine runS_x (I := inf) (J := jnf) ⟨false, false, [], 0, 0⟩ 9999 rfl (by repeat (first | exact obs_nil | refine obs_draw (by kernel_rfl) ?_ | refine obs_same ?_ | refine obs_and ?_ | refine obs_by (by (simp [inB] <;> omega)) ?_)) ?_
    refine runS_callU rfl rfl (by first | exact .v rfl rfl rfl rfl | exact .o rfl rfl rfl rfl) rfl rfl (by repeat (first | exact .nil | refine .cons (.n rfl) ?_ | refine .cons .o ?_ | refine .cons gok_and ?_)) rfl rfl rfl rfl rfl (fun _ => (level_named (fat l i).name (hsm i hlt').1)) ?_
    refine runS_x (I := inf) (J := jnf) ⟨false, false, [], 0, 0⟩ 9999 rfl (by repeat (first | exact obs_nil | refine obs_draw (by kernel_rfl) ?_ | refine obs_same ?_ | refine obs_and ?_ | refine obs_by (by (simp [inB] <;> omega)) ?_)) ?_
    refine runS_callU rfl rfl (by first | exact .v rfl rfl rfl rfl | exact .o rfl rfl rfl rfl) rfl rfl (by repeat (first | exact .nil | refine .cons (.n rfl) ?_ | refine .cons .o ?_ | refine .cons gok_and ?_)) rfl rfl rfl rfl rfl (fun _ => (level_within _ _ _)) ?_
    refine runS_x (I := inf) (J := jnf) ⟨false, false, [], 0, 0⟩ 9999 rfl (by repeat (first | exact obs_nil | refine obs_draw (by kernel_rfl) ?_ | refine obs_same ?_ | refine obs_and ?_ | refine obs_by (by (simp [inB] <;> omega)) ?_)) ?_
    refine runS_cond rfl (fun hz => ?_) (fun hz => ?_)
    · refine runS_x (I := inf) (J := jnf) ⟨false, false, [], 0, 0⟩ 9999 rfl (by repeat (first | exact obs_nil | refine obs_draw (by kernel_rfl) ?_ | refine obs_same ?_ | refine obs_and ?_ | refine obs_by (by (simp [inB] <;> omega)) ?_)) ?_
      refine runS_ret (I := inf) 0 rfl (Nat.le_refl _) rfl .nil rfl ⟨?_, rfl⟩
      have := (baseB l i).symm.trans hz
      rw [validP_base hlt' (by simpa using this)]
      rfl
    · have hz' := (baseB l i).symm.trans hz
      have hz2 : baseOK l i = true := by simpa using hz'
      refine runS_x (I := inf) (J := jnf) ⟨false, false, [], 0, 0⟩ 9999 rfl (by repeat (first | exact obs_nil | refine obs_draw (by kernel_rfl) ?_ | refine obs_same ?_ | refine obs_and ?_ | refine obs_by (by (simp [inB] <;> omega)) ?_)) ?_
      refine runS_drop 0 (Nat.zero_le _) rfl (by repeat (first | exact .nil | refine .row (fun j hj => rfl) ?_ | refine .box rfl ?_ | refine .fam (fun k j hk hj => rfl) ?_ | refine .loop (scrub_under _ _) ?_ | refine .dfr ?_ | refine .gone ?_ | refine .map (fun p hp => by (obtain ⟨k, _, rfl⟩ := List.mem_map.1 hp; rfl)) ?_)) rfl rfl rfl (by repeat (first | exact .nil | refine .cons rfl rfl rfl (scrub_under _ _) ?_)) ?_
      refine ih (i + 1) _ _ (by omega) ⟨⟨rfl, rfl, rfl, ?_⟩, rfl, by omega, by rw [allPre_succ, hp, hz2]; rfl⟩
      show iv (IntKind.wrap .i64 ((i : Int) + 1)) = _
      rw [w64 (by omega) (by omega)]; rfl
  · have : i = l.length := by simp at hlt; omega
    subst this
    refine runS_x (I := inf) (J := jnf) ⟨false, false, [], 0, 0⟩ 9999 rfl (by repeat (first | exact obs_nil | refine obs_draw (by kernel_rfl) ?_ | refine obs_same ?_ | refine obs_and ?_ | refine obs_by (by (simp [inB] <;> omega)) ?_)) ?_
    refine runS_call rfl rfl rfl rfl rfl rfl rfl (level_tree nl l hb) ?_
    refine runS_x (I := inf) (J := jnf) ⟨false, false, [], 0, 0⟩ 9999 rfl (by repeat (first | exact obs_nil | refine obs_draw (by kernel_rfl) ?_ | refine obs_same ?_ | refine obs_and ?_ | refine obs_by (by (simp [inB] <;> omega)) ?_)) ?_
    refine runS_while (fun (i : Nat) τ ar => (τ 5 = treeS none l ∧ τ 54 = treeS none l ∧ τ 55 = iv l.length ∧ τ 56 = iv i) ∧ ar = [] ∧ i ≤ l.length ∧ (List.range i).all (fun i => rightP l i && decide (arrs l i ≤ 3)) = true) (fun i => l.length - i) 0 ⟨⟨rfl, rfl, rfl, rfl⟩, rfl, Nat.zero_le _, rfl⟩ ?_
    rintro i τ2 ar2 ⟨⟨g5, g54, g55, g56⟩, rfl, hi, hp2⟩ ih2
    refine runS_says 5 (by exact g5) (Says.refl _) ?_; refine runS_says 54 (by exact g54) (Says.refl _) ?_; refine runS_says 55 (by exact g55) (Says.refl _) ?_; refine runS_says 56 (by exact g56) (Says.refl _) ?_
    refine runS_x (I := inf) (J := jnf) ⟨false, false, [], 0, 0⟩ 9999 rfl (by repeat (first | exact obs_nil | refine obs_draw (by kernel_rfl) ?_ | refine obs_same ?_ | refine obs_and ?_ | refine obs_by (by (simp [inB] <;> omega)) ?_)) ?_
    refine runS_cond rfl (fun hlt2 => ?_) (fun hlt2 => ?_)
    · have hlt' : i < l.length := by simpa using hlt2
      refine runS_x (I := inf) (J := jnf) ⟨false, false, [], 0, 0⟩ 9999 rfl (by repeat (first | exact obs_nil | refine obs_draw (by kernel_rfl) ?_ | refine obs_same ?_ | refine obs_and ?_ | refine obs_by (by (simp [inB, hlt'] <;> omega)) ?_)) ?_
      refine runS_call rfl rfl rfl rfl rfl rfl rfl (level_right none l i hlt' hs') ?_
      refine runS_x (I := inf) (J := jnf) ⟨false, false, [], 0, 0⟩ 9999 rfl (by repeat (first | exact obs_nil | refine obs_draw (by kernel_rfl) ?_ | refine obs_same ?_ | refine obs_and ?_ | refine obs_by (by (simp [inB] <;> omega)) ?_)) ?_
      refine runS_callU rfl rfl (by first | exact .v rfl rfl rfl rfl | exact .o rfl rfl rfl rfl) rfl rfl (by repeat (first | exact .nil | refine .cons (.n rfl) ?_ | refine .cons .o ?_ | refine .cons gok_and ?_)) rfl rfl rfl rfl rfl (fun _ => (level_arrays none l i hlt' hb)) ?_
      refine runS_x (I := inf) (J := jnf) ⟨false, false, [], 0, 0⟩ 9999 rfl (by repeat (first | exact obs_nil | refine obs_draw (by kernel_rfl) ?_ | refine obs_same ?_ | refine obs_and ?_ | refine obs_by (by (simp [inB] <;> omega)) ?_)) ?_
      have hw2 : (if (!rightP l i) = true then true else decide ((arrs l i : Int) > 3)) = !(rightP l i && decide (arrs l i ≤ 3)) := by
        rw [Bool.eq_iff_iff]
        cases rightP l i <;> simp
        omega
      refine runS_cond rfl (fun hz => ?_) (fun hz => ?_)
      · refine runS_x (I := inf) (J := jnf) ⟨false, false, [], 0, 0⟩ 9999 rfl (by repeat (first | exact obs_nil | refine obs_draw (by kernel_rfl) ?_ | refine obs_same ?_ | refine obs_and ?_ | refine obs_by (by (simp [inB] <;> omega)) ?_)) ?_
        refine runS_ret (I := inf) 0 rfl (Nat.le_refl _) rfl .nil rfl ⟨?_, rfl⟩
        have := hw2.symm.trans hz
        rw [validP_right hlt' (by rwa [Bool.not_eq_true'] at this)]
        rfl
      · have hz' := hw2.symm.trans hz
        refine runS_x (I := inf) (J := jnf) ⟨false, false, [], 0, 0⟩ 9999 rfl (by repeat (first | exact obs_nil | refine obs_draw (by kernel_rfl) ?_ | refine obs_same ?_ | refine obs_and ?_ | refine obs_by (by (simp [inB] <;> omega)) ?_)) ?_
        refine runS_drop 0 (Nat.zero_le _) rfl (by repeat (first | exact .nil | refine .row (fun j hj => rfl) ?_ | refine .box rfl ?_ | refine .fam (fun k j hk hj => rfl) ?_ | refine .loop (scrub_under _ _) ?_ | refine .dfr ?_ | refine .gone ?_ | refine .map (fun p hp => by (obtain ⟨k, _, rfl⟩ := List.mem_map.1 hp; rfl)) ?_)) rfl rfl rfl (by repeat (first | exact .nil | refine .cons rfl rfl rfl (scrub_under _ _) ?_)) ?_
        refine ih2 (i + 1) _ _ (by omega) ⟨⟨rfl, rfl, rfl, ?_⟩, rfl, by omega, by rw [allPre_succ, hp2, Bool.true_and]; rwa [Bool.not_eq_false'] at hz'⟩
        show iv (IntKind.wrap .i64 ((i : Int) + 1)) = _
        rw [w64 (by omega) (by omega)]; rfl
    · have : i = l.length := by simp at hlt2; omega
      subst this
      refine runS_x (I := inf) (J := jnf) ⟨false, false, [], 0, 0⟩ 9999 rfl (by repeat (first | exact obs_nil | refine obs_draw (by kernel_rfl) ?_ | refine obs_same ?_ | refine obs_and ?_ | refine obs_by (by (simp [inB] <;> omega)) ?_)) ?_
      refine runS_ret (I := inf) 0 rfl (Nat.le_refl _) rfl .nil rfl ⟨?_, rfl⟩
      rw [validP, h1, hp, hp2]
      rfl
end Go.Iron.Try

/- The level package's functions (seat Ytamhonbhoelohaa): must, valid, Parent. -/
namespace Go.Iron.Try
open Go.Proofs

theorem must_ok (e : Int) : CallT Try.prog 116 [bv true, iv e] [] (fun o A => o = .ret (.tup []) ∧ A = []) := by
  refine callS_body (n := 9) rfl rfl fun w ρ X => ?_
  refine runS_x (I := inf) (J := jnf) ⟨true, false, [], 0, 0⟩ 9999 rfl (by repeat (first | exact obs_nil | refine obs_draw (by kernel_rfl) ?_ | refine obs_same ?_ | refine obs_and ?_ | refine obs_by (by (simp [inB] <;> omega)) ?_)) ?_
  refine runS_ret (I := inf) 0 rfl (Nat.le_refl _) rfl .nil rfl ⟨?_, rfl⟩
  rfl
theorem must_no (e : Int) : CallT Try.prog 116 [bv false, iv e] [] (fun o A => o = .pan (.ifc 170 (.agg [iv e])) ∧ A = []) := by
  refine callS_body (n := 9) rfl rfl fun w ρ X => ?_
  refine runS_x (I := inf) (J := jnf) ⟨true, false, [], 0, 0⟩ 9999 rfl (by repeat (first | exact obs_nil | refine obs_draw (by kernel_rfl) ?_ | refine obs_same ?_ | refine obs_and ?_ | refine obs_by (by (simp [inB] <;> omega)) ?_)) ?_
  exact runS_pan 0 rfl (Nat.le_refl _) rfl .nil ⟨rfl, rfl⟩
theorem valid_ok (nl : Option Bool) (l : List Fld) (i : Int) (hs : smallF l) (hv : validF l = true) (hi : 0 ≤ i ∧ i < l.length) : CallT Try.prog 115 [fldS nl l, iv i] [] (fun o A => o = .ret (treeS none l) ∧ A = []) := by
  have hb := hs.1
  refine callS_body (n := 16) rfl rfl fun w ρ X => ?_
  refine runS_x (I := inf) (J := jnf) ⟨false, false, [], 0, 0⟩ 9999 rfl (by repeat (first | exact obs_nil | refine obs_draw (by kernel_rfl) ?_ | refine obs_same ?_ | refine obs_and ?_ | refine obs_by (by (simp [inB] <;> omega)) ?_)) ?_
  refine runS_call rfl rfl rfl rfl rfl rfl rfl (level_valid nl l hs) ?_
  rw [hv]
  refine runS_call rfl rfl rfl rfl rfl rfl rfl (must_ok 1) ?_
  refine runS_x (I := inf) (J := jnf) ⟨false, false, [], 0, 0⟩ 9999 rfl (by repeat (first | exact obs_nil | refine obs_draw (by kernel_rfl) ?_ | refine obs_same ?_ | refine obs_and ?_ | refine obs_by (by (simp [inB] <;> omega)) ?_)) ?_
  refine runS_call rfl rfl rfl rfl rfl rfl rfl (level_within _ _ _) ?_
  refine runS_x (I := inf) (J := jnf) ⟨false, false, [], 0, 0⟩ 9999 rfl (by repeat (first | exact obs_nil | refine obs_draw (by kernel_rfl) ?_ | refine obs_same ?_ | refine obs_and ?_ | refine obs_by (by (simp [inB] <;> omega)) ?_)) ?_
  have hc : (decide (0 ≤ i) && decide (i ≤ IntKind.wrap .i64 ((l.length : Int) - 1))) = true := by
    rw [w64 (by omega) (by omega)]
    simp
    omega
  rw [hc]
  refine runS_call rfl rfl rfl rfl rfl rfl rfl (must_ok 7) ?_
  refine runS_x (I := inf) (J := jnf) ⟨false, false, [], 0, 0⟩ 9999 rfl (by repeat (first | exact obs_nil | refine obs_draw (by kernel_rfl) ?_ | refine obs_same ?_ | refine obs_and ?_ | refine obs_by (by (simp [inB] <;> omega)) ?_)) ?_
  refine runS_call rfl rfl rfl rfl rfl rfl rfl (level_tree nl l hb) ?_
  refine runS_x (I := inf) (J := jnf) ⟨false, false, [], 0, 0⟩ 9999 rfl (by repeat (first | exact obs_nil | refine obs_draw (by kernel_rfl) ?_ | refine obs_same ?_ | refine obs_and ?_ | refine obs_by (by (simp [inB] <;> omega)) ?_)) ?_
  refine runS_ret (I := inf) 0 rfl (Nat.le_refl _) rfl .nil rfl ⟨?_, rfl⟩
  rfl
theorem valid_bad1 (nl : Option Bool) (l : List Fld) (i : Int) (hs : smallF l) (hv : validF l = false) : CallT Try.prog 115 [fldS nl l, iv i] [] (fun o A => o = .pan (.ifc 170 (.agg [iv 1])) ∧ A = []) := by
  refine callS_body (n := 16) rfl rfl fun w ρ X => ?_
  refine runS_x (I := inf) (J := jnf) ⟨false, false, [], 0, 0⟩ 9999 rfl (by repeat (first | exact obs_nil | refine obs_draw (by kernel_rfl) ?_ | refine obs_same ?_ | refine obs_and ?_ | refine obs_by (by (simp [inB] <;> omega)) ?_)) ?_
  refine runS_call rfl rfl rfl rfl rfl rfl rfl (level_valid nl l hs) ?_
  rw [hv]
  refine runS_callP rfl rfl rfl rfl rfl rfl rfl (must_no 1) ?_
  exact runS_pan 0 rfl (Nat.le_refl _) rfl .nil ⟨rfl, rfl⟩
end Go.Iron.Try

/- The level package's functions (seat Ytamhonbhoelohaa): Path, Normal. -/
namespace Go.Iron.Try
open Go.Proofs

theorem valid_len {l : List Fld} (h : validF l = true) : 1 ≤ l.length ∧ l.length ≤ 200 := by
  simp only [validF, Bool.and_eq_true, decide_eq_true_eq] at h
  exact ⟨h.1.1.1, h.1.1.2⟩
end Go.Iron.Try

/- The level package's functions (seat Ytamhonbhoelohaa): Find. -/
namespace Go.Iron.Try
open Go.Proofs

end Go.Iron.Try

/- The level package's functions (seat Ytamhonbhoelohaa): Find, of both. -/
namespace Go.Iron.Try
open Go.Proofs

theorem pth_pos (l : List Fld) (i : Nat) : 0 < (pth l i).length := by
  rw [pth, anc_eq]; simp

end Go.Iron.Try

/- The level package: layout, as plain functions. -/
namespace Go.Iron.Try
open Go.Proofs

theorem upN_ge {l : List Fld} {v : Int} {p : Nat} (hp : (fat l p).level < v) : ∀ {k : Nat}, p < k → ∃ q, upN l v k = some q ∧ p ≤ q
  | 0, h => by omega
  | k + 1, h => by
    unfold upN
    by_cases hk : (fat l k).level < v
    · rw [if_pos hk]
      exact ⟨k, rfl, by omega⟩
    · rw [if_neg hk]
      refine upN_ge hp ?_
      by_cases hpk : p = k
      · subst hpk; exact absurd hp hk
      · omega
theorem mem_anc {l : List Fld} {i j : Nat} : i ∈ anc l j ↔ i = j ∨ ∃ p, par l j = some p ∧ i ∈ anc l p := by
  rw [anc_eq, List.mem_cons]
  cases par l j with
  | none => simp [ancO]
  | some p => simp [ancO]
theorem anc_le {l : List Fld} {i : Nat} : ∀ {j : Nat}, i ∈ anc l j → i ≤ j := by
  intro j
  induction j using Nat.strongRecOn with
  | ind j ih =>
    intro h
    rcases mem_anc.1 h with rfl | ⟨p, hp, hi⟩
    · exact Nat.le_refl _
    · have := par_lt hp
      have := ih p this hi
      omega
theorem anc_self (l : List Fld) (i : Nat) : i ∈ anc l i := mem_anc.2 (.inl rfl)
theorem anc_trans {l : List Fld} {a b : Nat} (h : a ∈ anc l b) : ∀ {c : Nat}, b ∈ anc l c → a ∈ anc l c := by
  intro c
  induction c using Nat.strongRecOn with
  | ind c ih =>
    intro hb
    rcases mem_anc.1 hb with rfl | ⟨p, hp, hi⟩
    · exact h
    · exact mem_anc.2 (.inr ⟨p, hp, ih p (par_lt hp) hi⟩)
/-- What lies between a member and one that it is in is in that, too. -/
theorem anc_between {l : List Fld} {i : Nat} : ∀ {j : Nat}, i ∈ anc l j → ∀ m, i ≤ m → m ≤ j → i ∈ anc l m := by
  intro j
  induction j using Nat.strongRecOn with
  | ind j ih =>
    intro h m h1 h2
    rcases mem_anc.1 h with rfl | ⟨p, hp, hi⟩
    · have : m = i := by omega
      subst this; exact anc_self l m
    · by_cases hm : m ≤ p
      · exact ih p (par_lt hp) hi m h1 hm
      · by_cases hmj : m = j
        · subst hmj; exact h
        · obtain ⟨a1, a2, a3⟩ := upN_some hp
          have key : ∀ m, p < m → m < j → p ∈ anc l m := by
            intro m
            induction m using Nat.strongRecOn with
            | ind m ihm =>
              intro b1 b2
              have hl := a3 m b1 b2
              obtain ⟨q, hq, hpq⟩ := upN_ge (l := l) (v := (fat l m).level) (p := p) (by omega) b1
              have hq' : par l m = some q := hq
              have hqm := par_lt hq'
              by_cases hqp : q = p
              · subst hqp; exact mem_anc.2 (.inr ⟨q, hq', anc_self l q⟩)
              · exact mem_anc.2 (.inr ⟨q, hq', ihm q hqm (by omega) (by omega)⟩)
          exact anc_trans hi (key m (by omega) (by omega))
theorem kid_gt {l : List Fld} {i k : Nat} (h : k ∈ kidsA l i) : i < k ∧ k < l.length := ⟨par_lt (mem_kids.1 h).2, (mem_kids.1 h).1⟩
theorem kid_anc {l : List Fld} {i k : Nat} (h : k ∈ kidsA l i) : i ∈ anc l k := mem_anc.2 (.inr ⟨i, (mem_kids.1 h).2, anc_self l i⟩)
theorem arrs_kid {l : List Fld} {i k : Nat} (h : par l k = some i) : arrs l k = arrs l i + if isArr l k then 1 else 0 := by
  rw [arrs, anc_eq, h, List.countP_cons]
  rfl

/-- Rounded up. -/
def upR (n a : Nat) : Nat := (n + a - 1) / a * a
theorem upR_zero {a : Nat} (ha : 0 < a) : upR 0 a = 0 := by
  unfold upR
  rw [Nat.div_eq_of_lt (by omega)]
  simp
theorem upR_bound {n a : Nat} (h1 : 1 ≤ a) (h2 : a ≤ 8) : n ≤ upR n a ∧ upR n a ≤ n + 7 := by
  unfold upR
  have e := Nat.div_add_mod (n + a - 1) a
  have m := Nat.mod_lt (n + a - 1) (show a > 0 by omega)
  rw [Nat.mul_comm] at e
  omega
/-- A leaf's size and alignment. -/
def lieN (t : Typ) : Nat × Nat :=
  if t.kind = 1 then (if t.p ≤ 15 then (2, 2) else (4, 4))
  else if t.kind = 2 then ((t.p.toNat + 2) / 2, 1)
  else if t.kind = 3 then (if t.p ≤ 6 then (4, 4) else (8, 8))
  else if t.kind = 4 then (t.n.toNat + (if t.vary then 2 else 0), 1)
  else if t.kind = 5 then ((t.n.toNat + 7) / 8 + (if t.vary then 2 else 0), 1)
  else if t.kind = 6 then (t.pic.length, 1)
  else if t.kind = 7 then (4, 4)
  else (8, 4)
theorem lieN_bound {t : Typ} (h : validT t = true) : (lieN t).1 ≤ 252 ∧ 1 ≤ (lieN t).2 ∧ (lieN t).2 ≤ 8 := by
  unfold validT inR at h
  unfold lieN
  split
  · split <;> simp
  rename_i k1
  rw [if_neg k1] at h
  split
  · rename_i k2
    rw [if_pos k2] at h
    simp at h
    dsimp only
    omega
  rename_i k2
  rw [if_neg k2] at h
  split
  · split <;> simp
  rename_i k3
  rw [if_neg k3] at h
  split
  · rename_i k4
    rw [if_pos (.inl k4)] at h
    simp at h
    dsimp only
    split <;> omega
  rename_i k4
  split
  · rename_i k5
    rw [if_pos (.inr k5)] at h
    simp at h
    dsimp only
    split <;> omega
  rename_i k5
  rw [if_neg (by omega)] at h
  split
  · rename_i k6
    rw [if_pos k6] at h
    simp at h
    dsimp only
    omega
  split <;> simp

/-- What a member takes: its elements. -/
def takeN (s a c : Nat) (isA : Bool) : Nat := if isA then c * upR s a else s
/-- One member more in a structure: where the next may lie, the size so far, the alignment. -/
def stepL (sub : Nat → Nat × Nat) (l : List Fld) (cnt : Nat → Nat) (u : Bool) (x : Nat × Nat × Nat) (k : Nat) : Nat × Nat × Nat :=
  let b := upR (if u then 0 else x.1) (sub k).2 + takeN (sub k).1 (sub k).2 (cnt k) (isArr l k)
  (b, max x.2.1 b, max x.2.2 (sub k).2)
def layF (l : List Fld) (cnt : Nat → Nat) : Nat → Nat → Nat × Nat
  | 0, _ => (0, 1)
  | f + 1, i => if kidsA l i = [] then lieN (fat l i).typ else ((kidsA l i).foldl (stepL (layF l cnt f) l cnt (fat l i).union) (0, 0, 1)).2
def lay (l : List Fld) (cnt : Nat → Nat) (i : Nat) : Nat × Nat := layF l cnt (l.length + 1 - i) i
theorem foldl_congrL {sub sub' : Nat → Nat × Nat} {l : List Fld} {cnt : Nat → Nat} {u : Bool} : ∀ (ks : List Nat) (x : Nat × Nat × Nat), (∀ k ∈ ks, sub k = sub' k) → ks.foldl (stepL sub l cnt u) x = ks.foldl (stepL sub' l cnt u) x
  | [], x, _ => rfl
  | k :: ks, x, h => by
    have : stepL sub l cnt u x k = stepL sub' l cnt u x k := by unfold stepL; rw [h k (.head _)]
    rw [List.foldl_cons, List.foldl_cons, this]
    exact foldl_congrL ks _ fun k hk => h k (.tail _ hk)
theorem layF_stable (l : List Fld) (cnt : Nat → Nat) : ∀ (m i f g : Nat), i < l.length → l.length - i ≤ m → l.length + 1 - i ≤ f → l.length + 1 - i ≤ g → layF l cnt f i = layF l cnt g i
  | 0, i, f, g, h, hm, _, _ => by omega
  | m + 1, i, f, g, h, hm, hf, hg => by
    obtain ⟨f', rfl⟩ : ∃ f', f = f' + 1 := ⟨f - 1, by omega⟩
    obtain ⟨g', rfl⟩ : ∃ g', g = g' + 1 := ⟨g - 1, by omega⟩
    rw [layF, layF]
    by_cases hk : kidsA l i = []
    · rw [if_pos hk, if_pos hk]
    · rw [if_neg hk, if_neg hk]
      rw [foldl_congrL (kidsA l i) (0, 0, 1) fun k hk => layF_stable l cnt m k f' g' (kid_gt hk).2 (by have := (kid_gt hk).1; omega) (by have := (kid_gt hk).1; omega) (by have := (kid_gt hk).1; omega)]
theorem lay_eq (l : List Fld) (cnt : Nat → Nat) (i : Nat) (hi : i < l.length) : lay l cnt i = if kidsA l i = [] then lieN (fat l i).typ else ((kidsA l i).foldl (stepL (lay l cnt) l cnt (fat l i).union) (0, 0, 1)).2 := by
  rw [lay, show l.length + 1 - i = (l.length - i) + 1 by omega, layF]
  by_cases hk : kidsA l i = []
  · rw [if_pos hk, if_pos hk]
  · rw [if_neg hk, if_neg hk]
    rw [foldl_congrL (kidsA l i) (0, 0, 1) fun k hk => layF_stable l cnt l.length k _ _ (kid_gt hk).2 (by omega) (by have := (kid_gt hk).1; omega) (Nat.le_refl _)]
    rfl

/-- What has been laid when the first p members of a structure are. -/
def stP (l : List Fld) (cnt : Nat → Nat) (i p : Nat) : Nat × Nat × Nat := ((kidsA l i).take p).foldl (stepL (lay l cnt) l cnt (fat l i).union) (0, 0, 1)
theorem stP_succ {l : List Fld} {cnt : Nat → Nat} {i p : Nat} (h : p < (kidsA l i).length) : stP l cnt i (p + 1) = stepL (lay l cnt) l cnt (fat l i).union (stP l cnt i p) ((kidsA l i).getD p 0) := by
  rw [stP, take_nextN h, List.foldl_append]
  rfl
theorem lay_inner {l : List Fld} {cnt : Nat → Nat} {i : Nat} (hi : i < l.length) (hk : 0 < (kidsA l i).length) : lay l cnt i = (stP l cnt i (kidsA l i).length).2 := by
  rw [lay_eq l cnt i hi, if_neg (fun e => by rw [e] at hk; simp at hk), stP, List.take_length]
theorem lay_leaf {l : List Fld} {cnt : Nat → Nat} {i : Nat} (hi : i < l.length) (hk : ¬ 0 < (kidsA l i).length) : lay l cnt i = lieN (fat l i).typ := by
  rw [lay_eq l cnt i hi, if_pos (List.eq_nil_of_length_eq_zero (by omega))]

/-- What is asked of a structure and its counts. -/
structure LayOK (l : List Fld) (cnt : Nat → Nat) : Prop where
  typ : ∀ i, i < l.length → ¬ 0 < (kidsA l i).length → validT (fat l i).typ = true
  arr : ∀ i, i < l.length → arrs l i ≤ 3
  most : ∀ i, i < l.length → cnt i ≤ 200
  one : ∀ i, i < l.length → isArr l i = true → 1 ≤ cnt i
def bigK (a : Nat) : Nat := 512 * 200 ^ (3 - a)
theorem bigK_pos (a : Nat) : 512 ≤ bigK a := by
  unfold bigK
  have : 1 ≤ 200 ^ (3 - a) := Nat.pow_pos (by decide)
  omega
theorem bigK_succ {a : Nat} (h : a + 1 ≤ 3) : bigK a = 200 * bigK (a + 1) := by
  unfold bigK
  rw [show 3 - a = (3 - (a + 1)) + 1 by omega, Nat.pow_succ]
  omega
theorem bigK_le (a : Nat) : bigK a ≤ 4096000000 := by
  unfold bigK
  have : 200 ^ (3 - a) ≤ 200 ^ 3 := Nat.pow_le_pow_right (by decide) (by omega)
  have e : 200 ^ 3 = 8000000 := by decide
  omega
theorem mul_le_of {a b k : Nat} (h : a ≤ b) : a * k ≤ b * k := Nat.mul_le_mul_right _ h

theorem lay_bound {l : List Fld} {cnt : Nat → Nat} (ok : LayOK l cnt) : ∀ (m i : Nat), i < l.length → l.length - i ≤ m → (1 ≤ (lay l cnt i).2 ∧ (lay l cnt i).2 ≤ 8) ∧
    ∀ e, (∀ d, d < l.length → i ∈ anc l d → d < e) → (lay l cnt i).1 + 8 ≤ (e - i) * bigK (arrs l i)
  | 0, i, hi, hm => by omega
  | m + 1, i, hi, hm => by
    have hK := bigK_pos (arrs l i)
    by_cases hk : 0 < (kidsA l i).length
    · have hsub : ∀ p, p < (kidsA l i).length → (1 ≤ (lay l cnt ((kidsA l i).getD p 0)).2 ∧ (lay l cnt ((kidsA l i).getD p 0)).2 ≤ 8) ∧ ∀ e, (∀ d, d < l.length → (kidsA l i).getD p 0 ∈ anc l d → d < e) →
          (lay l cnt ((kidsA l i).getD p 0)).1 + 8 ≤ (e - (kidsA l i).getD p 0) * bigK (arrs l ((kidsA l i).getD p 0)) := fun p hp =>
        lay_bound ok m _ (kid_gt (kids_mem hp)).2 (by have := (kid_gt (kids_mem hp)).1; omega)
      have hal : ∀ p, p ≤ (kidsA l i).length → 1 ≤ (stP l cnt i p).2.2 ∧ (stP l cnt i p).2.2 ≤ 8 := by
        intro p
        induction p with
        | zero => intro _; exact ⟨Nat.le_refl 1, show 1 ≤ 8 by omega⟩
        | succ p ihp =>
          intro hp
          have h1 := ihp (by omega)
          have h2 := (hsub p (by omega)).1
          rw [stP_succ (by omega)]
          simp only [stepL]
          omega
      rw [lay_inner hi hk]
      refine ⟨hal _ (Nat.le_refl _), fun e he => ?_⟩
      have hei : i < e := he i hi (anc_self l i)
      have key : ∀ p, p ≤ (kidsA l i).length → ∀ b, b = (if p < (kidsA l i).length then (kidsA l i).getD p 0 else e) → (stP l cnt i p).1 ≤ (b - (i + 1)) * bigK (arrs l i) ∧ (stP l cnt i p).2.1 ≤ (b - (i + 1)) * bigK (arrs l i) := by
        intro p
        induction p with
        | zero => intro _ b _; exact ⟨Nat.zero_le _, Nat.zero_le _⟩
        | succ p ihp =>
          intro hp b hb
          have hpl : p < (kidsA l i).length := by omega
          obtain ⟨a1, a2⟩ := ihp (by omega) ((kidsA l i).getD p 0) (by rw [if_pos hpl])
          obtain ⟨c1, c2⟩ := hsub p hpl
          rw [stP_succ hpl]
          generalize hkk : (kidsA l i).getD p 0 = k at *
          have hkm : k ∈ kidsA l i := by rw [← hkk]; exact kids_mem hpl
          obtain ⟨g1, g2⟩ := kid_gt hkm
          have hkb : k < b ∧ ∀ d, d < l.length → k ∈ anc l d → d < b := by
            by_cases hq : p + 1 < (kidsA l i).length
            · rw [if_pos hq] at hb
              have hkb : k < b := by rw [hb, ← hkk]; exact kids_mono (by omega) hq
              refine ⟨hkb, fun d hd hkd => ?_⟩
              rcases Nat.lt_or_ge d b with h' | h'
              · exact h'
              · exfalso
                have hb2 := anc_between hkd b (by omega) h'
                obtain ⟨_, hpb⟩ := mem_kids.1 (kids_mem (l := l) (i := i) (q := p + 1) hq)
                rw [← hb] at hpb
                rcases mem_anc.1 hb2 with h3 | ⟨q, hq1, hq2⟩
                · omega
                · rw [hpb] at hq1
                  cases hq1
                  have := anc_le hq2
                  omega
            · rw [if_neg hq] at hb
              subst hb
              exact ⟨he k g2 (kid_anc hkm), fun d hd hkd => he d hd (anc_trans (kid_anc hkm) hkd)⟩
          have c3 := c2 b hkb.2
          have hpk := (mem_kids.1 hkm).2
          have hak := arrs_kid hpk
          have hak3 := ok.arr k g2
          have hct := ok.most k g2
          have ht : takeN (lay l cnt k).1 (lay l cnt k).2 (cnt k) (isArr l k) + 8 ≤ (b - k) * bigK (arrs l i) := by
            unfold takeN
            cases hia : isArr l k with
            | false =>
              rw [hia] at hak
              simp only [Bool.false_eq_true, if_false, Nat.add_zero] at hak ⊢
              rw [hak] at c3
              exact c3
            | true =>
              rw [hia] at hak
              simp only [if_true] at hak ⊢
              have hup := upR_bound (n := (lay l cnt k).1) c1.1 c1.2
              have hb1 := bigK_succ (a := arrs l i) (by omega)
              rw [hak] at c3
              have h1 : cnt k * upR (lay l cnt k).1 (lay l cnt k).2 ≤ 200 * upR (lay l cnt k).1 (lay l cnt k).2 := Nat.mul_le_mul_right _ hct
              have h2 : (b - k) * bigK (arrs l i) = 200 * ((b - k) * bigK (arrs l i + 1)) := by rw [hb1]; rw [Nat.mul_left_comm]
              rw [h2]
              omega
          have hup : upR (if (fat l i).union then 0 else (stP l cnt i p).1) (lay l cnt k).2 ≤ (k - (i + 1)) * bigK (arrs l i) + 7 := by
            by_cases hu : (fat l i).union = true
            · rw [if_pos hu, upR_zero (by omega)]; omega
            · rw [if_neg hu]
              have := (upR_bound (n := (stP l cnt i p).1) c1.1 c1.2).2
              omega
          have hsum : (k - (i + 1)) * bigK (arrs l i) + (b - k) * bigK (arrs l i) = (b - (i + 1)) * bigK (arrs l i) := by
            rw [← Nat.add_mul]
            congr 1
            omega
          simp only [stepL]
          omega
      obtain ⟨_, z2⟩ := key (kidsA l i).length (Nat.le_refl _) e (by rw [if_neg (Nat.lt_irrefl _)])
      have hsum : (e - (i + 1)) * bigK (arrs l i) + bigK (arrs l i) = (e - i) * bigK (arrs l i) := by
        rw [← Nat.succ_mul]
        congr 1
        omega
      omega
    · rw [lay_leaf hi hk]
      obtain ⟨b1, b2, b3⟩ := lieN_bound (ok.typ i hi hk)
      refine ⟨⟨b2, b3⟩, fun e he => ?_⟩
      have hei : i < e := he i hi (anc_self l i)
      have : 1 * bigK (arrs l i) ≤ (e - i) * bigK (arrs l i) := mul_le_of (by omega)
      omega
end Go.Iron.Try

/- The level package: sizes of types; rounding up. -/
namespace Go.Iron.Try
open Go.Proofs

theorem tdiv_nat (a b : Nat) : ((a : Int).tdiv (b : Int)) = ((a / b : Nat) : Int) := rfl
theorem up_int (n a : Nat) (hn : n ≤ 1000000000000000) (h1 : 1 ≤ a) (h2 : a ≤ 8) : IntKind.wrap .i64 (IntKind.wrap .i64 ((IntKind.wrap .i64 (IntKind.wrap .i64 ((n : Int) + a) - 1)).tdiv a) * a) = ((upR n a : Nat) : Int) := by
  have e1 : IntKind.wrap .i64 ((n : Int) + a) = ((n + a : Nat) : Int) := by rw [w64 (by omega) (by omega)]; omega
  have e2 : IntKind.wrap .i64 (((n + a : Nat) : Int) - 1) = ((n + a - 1 : Nat) : Int) := by rw [w64 (by omega) (by omega)]; omega
  have e3 : (n + a - 1) / a ≤ n + a := Nat.le_trans (Nat.div_le_self _ _) (by omega)
  have e4 := (upR_bound (n := n) h1 h2).2
  have e5 : IntKind.wrap .i64 ((((n + a - 1) / a : Nat) : Int)) = (((n + a - 1) / a : Nat) : Int) := by
    generalize (n + a - 1) / a = d at *
    rw [w64 (by omega) (by omega)]
  rw [e1, e2, tdiv_nat, e5, ← Int.natCast_mul]
  show IntKind.wrap .i64 ((upR n a : Nat) : Int) = _
  rw [w64 (by omega) (by omega)]
theorem level_raised (n a : Nat) (hn : n ≤ 1000000000000000) (h1 : 1 ≤ a) (h2 : a ≤ 8) : CallT Try.prog 163 [iv n, iv a] [] (fun o A => o = .ret (iv (upR n a)) ∧ A = []) := by
  obtain ⟨b, rfl⟩ : ∃ b, a = b + 1 := ⟨a - 1, by omega⟩
  refine callS_body (n := 13) rfl rfl fun w ρ X => ?_
  refine runS_x (I := inf) (J := jnf) ⟨false, false, [], 0, 0⟩ 9999 rfl (by repeat (first | exact obs_nil | refine obs_draw (by kernel_rfl) ?_ | refine obs_same ?_ | refine obs_and ?_ | refine obs_by (by (simp [inB] <;> omega)) ?_)) ?_
  refine runS_ret (I := inf) 0 rfl (Nat.le_refl _) rfl .nil rfl ⟨?_, rfl⟩
  exact congrArg (fun x => Out.ret (iv x)) (up_int n (b + 1) hn h1 h2)
theorem half_int (p : Int) (c d : Nat) (h : 0 ≤ p) (h2 : p ≤ 300) (hc : c ≤ 7) (hd : 0 < d) : IntKind.wrap .i64 ((IntKind.wrap .i64 (p + c)).tdiv d) = (((p.toNat + c) / d : Nat) : Int) := by
  obtain ⟨m, rfl⟩ : ∃ m : Nat, p = m := ⟨p.toNat, by omega⟩
  have e : (m + c) / d ≤ m + c := Nat.div_le_self _ _
  have e1 : IntKind.wrap .i64 ((m : Int) + c) = ((m + c : Nat) : Int) := by rw [w64 (by omega) (by omega)]; omega
  rw [e1, tdiv_nat, Int.toNat_natCast]
  generalize (m + c) / d = x at *
  rw [w64 (by omega) (by omega)]
end Go.Iron.Try

/- The level package: the reference's laid. -/
namespace Go.Iron.Try
open Go.Proofs

theorem kidsL_prefix (l : List Fld) (i : Nat) : ∀ (c k : Nat), ∃ r, kidsL l (k + c) i = kidsL l k i ++ r
  | 0, k => ⟨[], by simp⟩
  | c + 1, k => by
    obtain ⟨r, hr⟩ := kidsL_prefix l i c k
    rw [← Nat.add_assoc, kidsL_succ, hr]
    by_cases h : par l (k + c) = some i
    · exact ⟨r ++ [k + c], by rw [if_pos h, List.append_assoc]⟩
    · exact ⟨r, by rw [if_neg h]⟩
def stK (l : List Fld) (cnt : Nat → Nat) (i k : Nat) : Nat × Nat × Nat := (kidsL l k i).foldl (stepL (lay l cnt) l cnt (fat l i).union) (0, 0, 1)
theorem stK_P {l : List Fld} {cnt : Nat → Nat} {i k : Nat} (h : k ≤ l.length) : stK l cnt i k = stP l cnt i (kidsL l k i).length ∧ (kidsL l k i).length ≤ (kidsA l i).length := by
  obtain ⟨r, hr⟩ := kidsL_prefix l i (l.length - k) k
  rw [show k + (l.length - k) = l.length by omega] at hr
  have e : kidsA l i = kidsL l k i ++ r := hr
  refine ⟨?_, by rw [e]; simp⟩
  rw [stK, stP, e, List.take_left]
theorem stK_succ {l : List Fld} {cnt : Nat → Nat} {i k : Nat} : stK l cnt i (k + 1) = if par l k = some i then stepL (lay l cnt) l cnt (fat l i).union (stK l cnt i k) k else stK l cnt i k := by
  rw [stK, kidsL_succ]
  by_cases h : par l k = some i
  · rw [if_pos h, if_pos h, List.foldl_append]; rfl
  · rw [if_neg h, if_neg h]; rfl
theorem stP_mono {l : List Fld} {cnt : Nat → Nat} {i : Nat} : ∀ (c p : Nat), p + c ≤ (kidsA l i).length → (stP l cnt i p).2.1 ≤ (stP l cnt i (p + c)).2.1 ∧ (stP l cnt i p).2.2 ≤ (stP l cnt i (p + c)).2.2
  | 0, p, _ => ⟨Nat.le_refl _, Nat.le_refl _⟩
  | c + 1, p, h => by
    have h1 := stP_mono (l := l) (cnt := cnt) (i := i) c p (by omega)
    rw [← Nat.add_assoc, stP_succ (by omega)]
    simp only [stepL]
    omega
theorem stP_at {l : List Fld} {cnt : Nat → Nat} {i : Nat} : ∀ p, p ≤ (kidsA l i).length → (stP l cnt i p).1 ≤ (stP l cnt i p).2.1
  | 0, _ => Nat.le_refl _
  | p + 1, h => by
    rw [stP_succ (by omega)]
    simp only [stepL]
    omega
theorem lay_le {l : List Fld} {cnt : Nat → Nat} (ok : LayOK l cnt) (hl : l.length ≤ 200) {i : Nat} (hi : i < l.length) : (lay l cnt i).1 ≤ 1000000000000 ∧ 1 ≤ (lay l cnt i).2 ∧ (lay l cnt i).2 ≤ 8 := by
  obtain ⟨h1, h2⟩ := lay_bound ok l.length i hi (by omega)
  have h3 := h2 l.length fun d hd _ => hd
  have h4 := bigK_le (arrs l i)
  have : (l.length - i) * bigK (arrs l i) ≤ 200 * 4096000000 := Nat.mul_le_mul (by omega) h4
  omega
theorem stP_le {l : List Fld} {cnt : Nat → Nat} {i p : Nat} (hi : i < l.length) (hk : 0 < (kidsA l i).length) (hp : p ≤ (kidsA l i).length) : (stP l cnt i p).1 ≤ (lay l cnt i).1 ∧ (stP l cnt i p).2.1 ≤ (lay l cnt i).1 ∧ (stP l cnt i p).2.2 ≤ (lay l cnt i).2 := by
  have h1 := stP_mono (l := l) (cnt := cnt) (i := i) ((kidsA l i).length - p) p (by omega)
  rw [show p + ((kidsA l i).length - p) = (kidsA l i).length by omega] at h1
  have h2 := stP_at (l := l) (cnt := cnt) (i := i) p hp
  rw [lay_inner hi hk]
  omega
def tkK (l : List Fld) (cnt : Nat → Nat) (k : Nat) : Nat := takeN (lay l cnt k).1 (lay l cnt k).2 (cnt k) (isArr l k)
def offK (l : List Fld) (cnt : Nat → Nat) (k : Nat) : Nat := match par l k with
  | some i => upR (if (fat l i).union then 0 else (stK l cnt i k).1) (lay l cnt k).2
  | none => 0
theorem stK_kid {l : List Fld} {cnt : Nat → Nat} {i k : Nat} (h : par l k = some i) : (stK l cnt i (k + 1)) = (offK l cnt k + tkK l cnt k, max (stK l cnt i k).2.1 (offK l cnt k + tkK l cnt k), max (stK l cnt i k).2.2 (lay l cnt k).2) := by
  rw [stK_succ, if_pos h, offK, h]
  rfl
theorem off_le {l : List Fld} {cnt : Nat → Nat} {i k : Nat} (hi : i < l.length) (hk : k ∈ kidsA l i) : offK l cnt k + tkK l cnt k ≤ (lay l cnt i).1 := by
  obtain ⟨h1, h2⟩ := mem_kids.1 hk
  obtain ⟨h3, h4⟩ := stK_P (l := l) (cnt := cnt) (i := i) (k := k + 1) (by omega)
  have h5 := (stP_le (cnt := cnt) hi (List.length_pos_of_mem hk) h4).1
  rw [← h3, stK_kid h2] at h5
  exact h5
def spotK (l : List Fld) (cnt : Nat → Nat) (k : Nat) : Nat × Nat × Nat := (offK l cnt k, (lay l cnt k).1, upR (lay l cnt k).1 (lay l cnt k).2)
def spE (x : Nat × Nat × Nat) : List AV := [iv x.1, iv x.2.1, iv x.2.2]
/-- What is within the members of i before k. -/
def withinK (l : List Fld) (i k j : Nat) : Bool := (kidsL l k i).any fun c => decide (c ∈ anc l j)
theorem anc_kid {l : List Fld} {k j : Nat} (hj : j < l.length) (hne : j ≠ k) : decide (k ∈ anc l j) = withinK l k l.length j := by
  rw [Bool.eq_iff_iff, decide_eq_true_iff, withinK, List.any_eq_true]
  constructor
  · revert hj hne
    induction j using Nat.strongRecOn with
    | ind j ih =>
      intro hj hne h
      rcases mem_anc.1 h with h' | ⟨p, hp, hk⟩
      · exact absurd h'.symm hne
      · have hpj := par_lt hp
        by_cases hpk : p = k
        · subst hpk
          exact ⟨j, mem_kids.2 ⟨hj, hp⟩, by simpa using anc_self l j⟩
        · obtain ⟨c, hc, ha⟩ := ih p hpj (by omega) hpk hk
          exact ⟨c, hc, by simp at ha ⊢; exact mem_anc.2 (.inr ⟨p, hp, ha⟩)⟩
  · rintro ⟨c, hc, ha⟩
    exact anc_trans (kid_anc hc) (by simpa using ha)
theorem max_nat (a b : Nat) : (if (b : Int) > a then (b : Int) else a) = ((max a b : Nat) : Int) := by
  split <;> omega

end Go.Iron.Try

/- The level package: Layout, as a function; the reference's. -/
namespace Go.Iron.Try
open Go.Proofs

def isRef (l : List Fld) (k : Nat) : Bool := decide (0 ≤ (fat l k).refer)
/-- How many of the first i have a Refer. -/
def rfN (l : List Fld) (i : Nat) : Nat := (List.range i).countP (isRef l)
theorem rfN_succ (l : List Fld) (i : Nat) : rfN l (i + 1) = rfN l i + if isRef l i then 1 else 0 := by
  rw [rfN, List.range_succ, List.countP_append]; simp [rfN]
theorem rfN_le (l : List Fld) (i : Nat) : rfN l i ≤ i := by
  have : rfN l i ≤ (List.range i).length := List.countP_le_length
  simpa using this
def cntV (l : List Fld) (vals : List Int) (i : Nat) : Int := if isRef l i then vals.getD (rfN l i) 0 else (fat l i).count
def vok (l : List Fld) (vals : List Int) (k : Nat) : Bool := !isRef l k || (decide (rfN l k < vals.length) && decide ((fat l k).count ≤ vals.getD (rfN l k) 0) && decide (vals.getD (rfN l k) 0 ≤ 200))
def valsOK (l : List Fld) (vals : List Int) : Bool := (List.range l.length).all (vok l vals) && rfN l l.length == vals.length
def cntN (l : List Fld) (vals : List Int) (i : Nat) : Nat := (cntV l vals i).toNat
abbrev Spot3 := Nat × Nat × Nat
def spotS (nl : Option Bool) (xs : List Spot3) : AV := .slc 3 nl xs.length (encR spE (0, 0, 0) xs)
def spotsL (l : List Fld) (cnt : Nat → Nat) : List Spot3 := (List.range l.length).map (spotK l cnt)
def layoutF (l : List Fld) (vals : List Int) : List Spot3 × Int :=
  if validF l then (if valsOK l vals then (if tkK l (cntN l vals) 0 ≤ 1000000 then (spotsL l (cntN l vals), 0) else ([], 4)) else ([], 11)) else ([], 1)
def layoutA (x : List Spot3 × Int) : AV := .tup [spotS none x.1, iv x.2]

theorem valid_all {l : List Fld} (h : validF l = true) {i : Nat} (hi : i < l.length) : okA l i = true := by
  simp only [validF, okPre, Bool.and_eq_true, allR] at h
  exact h.2 i hi
theorem base_all {l : List Fld} (h : validF l = true) {i : Nat} (hi : i < l.length) : 1 ≤ (fat l i).level ∧ (fat l i).level ≤ 255 ∧ (0 < i → 2 ≤ (fat l i).level) ∧ 0 ≤ (fat l i).count ∧ (fat l i).count ≤ 200 ∧ nameB (fat l i).name = true := by
  have := valid_all h hi
  simp only [okA, baseOK, inR, Bool.and_eq_true, decide_eq_true_eq, Bool.not_eq_true', Bool.and_eq_false_iff, decide_eq_false_iff_not] at this
  exact ⟨by omega, by omega, by omega, by omega, by omega, this.1.1.1.1.1.2⟩
theorem level0 {l : List Fld} (h : validF l = true) : (fat l 0).level = 1 := by
  simp only [validF, Bool.and_eq_true, beq_iff_eq] at h
  exact h.1.2
theorem par_all {l : List Fld} (h : validF l = true) {i : Nat} (hi : i < l.length) (h0 : 0 < i) : ∃ p, par l i = some p ∧ p < i := by
  have := (base_all h hi).2.2.1 h0
  obtain ⟨q, hq, _⟩ := upN_ge (l := l) (v := (fat l i).level) (p := 0) (by rw [level0 h]; omega) h0
  exact ⟨q, hq, par_lt hq⟩
theorem anc0 {l : List Fld} (h : validF l = true) : ∀ j, j < l.length → 0 ∈ anc l j := by
  intro j
  induction j using Nat.strongRecOn with
  | ind j ih =>
    intro hj
    by_cases h0 : j = 0
    · subst h0; exact anc_self l 0
    · obtain ⟨p, hp, hpj⟩ := par_all h hj (by omega)
      exact mem_anc.2 (.inr ⟨p, hp, ih p hpj (by omega)⟩)
theorem vok_all {l : List Fld} {vals : List Int} (h : valsOK l vals = true) {k : Nat} (hk : k < l.length) : vok l vals k = true := by
  simp only [valsOK, Bool.and_eq_true, allR] at h
  exact h.1 k hk
theorem cnt_bounds {l : List Fld} {vals : List Int} (hv : validF l = true) (h : valsOK l vals = true) {k : Nat} (hk : k < l.length) : (fat l k).count ≤ cntV l vals k ∧ cntV l vals k ≤ 200 := by
  have h1 := vok_all h hk
  have h2 := base_all hv hk
  unfold cntV
  unfold vok at h1
  cases hr : isRef l k with
  | false => simp only [Bool.false_eq_true, if_false]; omega
  | true =>
    rw [hr] at h1
    simp only [Bool.not_true, Bool.false_or, Bool.and_eq_true, decide_eq_true_eq] at h1
    simp only [if_true]
    omega
theorem cntN_int {l : List Fld} {vals : List Int} (hv : validF l = true) (h : valsOK l vals = true) {k : Nat} (hk : k < l.length) : ((cntN l vals k : Nat) : Int) = cntV l vals k := by
  have := cnt_bounds hv h hk
  have := base_all hv hk
  unfold cntN
  omega
theorem layOK_of {l : List Fld} {vals : List Int} (hv : validF l = true) (h : valsOK l vals = true) : LayOK l (cntN l vals) where
  typ := fun i hi hk => by
    have := valid_all hv hi
    simp only [okA, Bool.and_eq_true] at this
    have h2 := this.1.1.1.2
    rw [kindOK, inner_kids hi, decide_eq_false hk] at h2
    simp at h2
    exact h2.1
  arr := fun i hi => by
    have := valid_all hv hi
    simp only [okA, Bool.and_eq_true, decide_eq_true_eq] at this
    exact this.1.2
  most := fun i hi => by
    have := cnt_bounds hv h hi
    have := cntN_int hv h hi
    omega
  one := fun i hi ha => by
    have := cnt_bounds hv h hi
    have := cntN_int hv h hi
    have : 0 < (fat l i).count := by simpa [isArr] using ha
    omega
abbrev nilSp : Nat → List AV := encR spE (0, 0, 0) []
theorem not_vals {l : List Fld} {vals : List Int} {k : Nat} (hk : k < l.length) (h : vok l vals k = false) : valsOK l vals = false := by
  rw [valsOK, allPre_false hk h]; rfl

end Go.Iron.Try

/- The level package: sizes of types, in the program. -/
namespace Go.Iron.Try
open Go.Proofs

theorem size_178 (a b : Int) : CallT Try.prog 178 [iv a, iv b] [] (fun o A => o = .ret (fnA 179 [cel a, cel b]) ∧ A = []) := by
  refine callS_body (n := 6) rfl rfl fun w ρ X => ?_
  refine runS_x (I := inf) (J := jnf) ⟨false, false, [], 0, 0⟩ 9999 rfl (by repeat (first | exact obs_nil | refine obs_draw (by kernel_rfl) ?_ | refine obs_same ?_ | refine obs_and ?_ | refine obs_by (by (simp [inB] <;> omega)) ?_)) ?_
  refine runS_freezeBox 0 rfl rfl rfl ?_
  refine runS_freezeBox 1 rfl rfl rfl ?_
  refine runS_drop 0 (Nat.zero_le _) rfl (by repeat (first | exact .nil | refine .row (fun j hj => rfl) ?_ | refine .box rfl ?_ | refine .fam (fun k j hk hj => rfl) ?_ | refine .loop (scrub_under _ _) ?_ | refine .dfr ?_ | refine .gone ?_ | refine .map (fun p hp => by (obtain ⟨k, _, rfl⟩ := List.mem_map.1 hp; rfl)) ?_)) rfl rfl rfl (by repeat (first | exact .nil | refine .cons rfl rfl rfl (scrub_under _ _) ?_)) ?_
  refine runS_ret (I := inf) 0 rfl (Nat.le_refl _) rfl .nil rfl ⟨?_, rfl⟩
  rfl
theorem size_181 (a : Int) : CallT Try.prog 181 [iv a] [] (fun o A => o = .ret (fnA 182 [cel a]) ∧ A = []) := by
  refine callS_body (n := 4) rfl rfl fun w ρ X => ?_
  refine runS_x (I := inf) (J := jnf) ⟨false, false, [], 0, 0⟩ 9999 rfl (by repeat (first | exact obs_nil | refine obs_draw (by kernel_rfl) ?_ | refine obs_same ?_ | refine obs_and ?_ | refine obs_by (by (simp [inB] <;> omega)) ?_)) ?_
  refine runS_freezeBox 0 rfl rfl rfl ?_
  refine runS_drop 0 (Nat.zero_le _) rfl (by repeat (first | exact .nil | refine .row (fun j hj => rfl) ?_ | refine .box rfl ?_ | refine .fam (fun k j hk hj => rfl) ?_ | refine .loop (scrub_under _ _) ?_ | refine .dfr ?_ | refine .gone ?_ | refine .map (fun p hp => by (obtain ⟨k, _, rfl⟩ := List.mem_map.1 hp; rfl)) ?_)) rfl rfl rfl (by repeat (first | exact .nil | refine .cons rfl rfl rfl (scrub_under _ _) ?_)) ?_
  refine runS_ret (I := inf) 0 rfl (Nat.le_refl _) rfl .nil rfl ⟨?_, rfl⟩
  rfl
theorem size_179 (a b : Int) (t : Typ) : CallT Try.prog 179 [.agg (typE t), cel a, cel b] [] (fun o A => o = .ret (.tup [iv a, iv b]) ∧ A = []) := by
  refine callS_body (n := 8) rfl rfl fun w ρ X => ?_
  refine runS_x (I := inf) (J := jnf) ⟨false, false, [], 0, 0⟩ 9999 rfl (by repeat (first | exact obs_nil | refine obs_draw (by kernel_rfl) ?_ | refine obs_same ?_ | refine obs_and ?_ | refine obs_by (by (simp [inB] <;> omega)) ?_)) ?_
  refine runS_ret (I := inf) 0 rfl (Nat.le_refl _) rfl .nil rfl ⟨?_, rfl⟩
  rfl
def varN (t : Typ) : Nat := if t.vary then 2 else 0
theorem size_180 (t : Typ) (n : Nat) (hn : n < 1000000000) {x : Int} (hx : x = n) : CallT Try.prog 180 [.agg (typE t), iv x] [] (fun o A => o = .ret (.tup [iv ((n + varN t : Nat) : Int), iv 1]) ∧ A = []) := by
  subst hx
  refine callS_body (n := 11) rfl rfl fun w ρ X => ?_
  refine runS_x (I := inf) (J := jnf) ⟨false, false, [], 0, 0⟩ 9999 rfl (by repeat (first | exact obs_nil | refine obs_draw (by kernel_rfl) ?_ | refine obs_same ?_ | refine obs_and ?_ | refine obs_by (by (simp [inB] <;> omega)) ?_)) ?_
  refine runS_cond rfl (fun h => ?_) (fun h => ?_)
  · refine runS_x (I := inf) (J := jnf) ⟨false, false, [], 0, 0⟩ 9999 rfl (by repeat (first | exact obs_nil | refine obs_draw (by kernel_rfl) ?_ | refine obs_same ?_ | refine obs_and ?_ | refine obs_by (by (simp [inB] <;> omega)) ?_)) ?_
    refine runS_ret (I := inf) 0 rfl (Nat.le_refl _) rfl .nil rfl ⟨?_, rfl⟩
    have h' : t.vary = true := h
    show Out.ret (.tup [iv (IntKind.wrap .i64 ((n : Int) + 2)), iv 1]) = _
    rw [w64 (by omega) (by omega), varN, h']
    rfl
  · refine runS_x (I := inf) (J := jnf) ⟨false, false, [], 0, 0⟩ 9999 rfl (by repeat (first | exact obs_nil | refine obs_draw (by kernel_rfl) ?_ | refine obs_same ?_ | refine obs_and ?_ | refine obs_by (by (simp [inB] <;> omega)) ?_)) ?_
    refine runS_ret (I := inf) 0 rfl (Nat.le_refl _) rfl .nil rfl ⟨?_, rfl⟩
    have h' : t.vary = false := h
    rw [varN, h']
    rfl
theorem size_183 (t : Typ) (h1 : 0 ≤ t.p) (h2 : t.p ≤ 300) : CallT Try.prog 183 [.agg (typE t)] [] (fun o A => o = .ret (.tup [iv (((t.p.toNat + 2) / 2 : Nat) : Int), iv 1]) ∧ A = []) := by
  refine callS_body (n := 8) rfl rfl fun w ρ X => ?_
  refine runS_x (I := inf) (J := jnf) ⟨false, false, [], 0, 0⟩ 9999 rfl (by repeat (first | exact obs_nil | refine obs_draw (by kernel_rfl) ?_ | refine obs_same ?_ | refine obs_and ?_ | refine obs_by (by (simp [inB] <;> omega)) ?_)) ?_
  refine runS_ret (I := inf) 0 rfl (Nat.le_refl _) rfl .nil rfl ⟨?_, rfl⟩
  rw [← half_int t.p 2 2 h1 h2 (by omega) (by omega)]
  rfl
theorem size_186 (t : Typ) (h : t.pic.length < 9223372036854775807) : CallT Try.prog 186 [.agg (typE t)] [] (fun o A => o = .ret (.tup [iv (t.pic.length : Int), iv 1]) ∧ A = []) := by
  refine callS_body (n := 7) rfl rfl fun w ρ X => ?_
  refine runS_x (I := inf) (J := jnf) ⟨false, false, [], 0, 0⟩ 9999 rfl (by repeat (first | exact obs_nil | refine obs_draw (by kernel_rfl) ?_ | refine obs_same ?_ | refine obs_and ?_ | refine obs_by (by (simp [inB] <;> omega)) ?_)) ?_
  refine runS_ret (I := inf) 0 rfl (Nat.le_refl _) rfl .nil rfl ⟨?_, rfl⟩
  rfl
abbrev varC : AV := .loc [fnA 180 []] 0
theorem size_184 (t : Typ) (h1 : 0 ≤ t.n) (h2 : t.n < 1000000000) : CallT Try.prog 184 [.agg (typE t), varC] [] (fun o A => o = .ret (.tup [iv ((t.n.toNat + varN t : Nat) : Int), iv 1]) ∧ A = []) := by
  obtain ⟨k, p, q, n, v, pic⟩ := t
  dsimp only at h1 h2
  obtain ⟨m, rfl⟩ : ∃ m : Nat, n = m := ⟨n.toNat, by omega⟩
  refine callS_body (n := 12) rfl rfl fun w ρ X => ?_
  refine runS_x (I := inf) (J := jnf) ⟨false, false, [], 0, 0⟩ 9999 rfl (by repeat (first | exact obs_nil | refine obs_draw (by kernel_rfl) ?_ | refine obs_same ?_ | refine obs_and ?_ | refine obs_by (by (simp [inB] <;> omega)) ?_)) ?_
  refine runS_call rfl rfl rfl rfl rfl rfl rfl (size_180 ⟨k, p, q, m, v, pic⟩ m (by omega) rfl) ?_
  refine runS_x (I := inf) (J := jnf) ⟨false, false, [], 0, 0⟩ 9999 rfl (by repeat (first | exact obs_nil | refine obs_draw (by kernel_rfl) ?_ | refine obs_same ?_ | refine obs_and ?_ | refine obs_by (by (simp [inB] <;> omega)) ?_)) ?_
  refine runS_ret (I := inf) 0 rfl (Nat.le_refl _) rfl .nil rfl ⟨?_, rfl⟩
  rfl
theorem size_185 (t : Typ) (h1 : 0 ≤ t.n) (h2 : t.n ≤ 300) : CallT Try.prog 185 [.agg (typE t), varC] [] (fun o A => o = .ret (.tup [iv (((t.n.toNat + 7) / 8 + varN t : Nat) : Int), iv 1]) ∧ A = []) := by
  obtain ⟨k, p, q, n, v, pic⟩ := t
  dsimp only at h1 h2
  obtain ⟨m, rfl⟩ : ∃ m : Nat, n = m := ⟨n.toNat, by omega⟩
  refine callS_body (n := 14) rfl rfl fun w ρ X => ?_
  refine runS_x (I := inf) (J := jnf) ⟨false, false, [], 0, 0⟩ 9999 rfl (by repeat (first | exact obs_nil | refine obs_draw (by kernel_rfl) ?_ | refine obs_same ?_ | refine obs_and ?_ | refine obs_by (by (simp [inB] <;> omega)) ?_)) ?_
  refine runS_call rfl rfl rfl rfl rfl rfl rfl (size_180 ⟨k, p, q, m, v, pic⟩ ((m + 7) / 8) (by omega) (half_int m 7 8 h1 h2 (by omega) (by omega))) ?_
  refine runS_x (I := inf) (J := jnf) ⟨false, false, [], 0, 0⟩ 9999 rfl (by repeat (first | exact obs_nil | refine obs_draw (by kernel_rfl) ?_ | refine obs_same ?_ | refine obs_and ?_ | refine obs_by (by (simp [inB] <;> omega)) ?_)) ?_
  refine runS_ret (I := inf) 0 rfl (Nat.le_refl _) rfl .nil rfl ⟨?_, rfl⟩
  rfl
abbrev litM : List (Value × AV) := mapPut (mapPut [] (Value.int .i64 2) (AV.val (Value.int .i64 15))) (Value.int .i64 4) (AV.val (Value.int .i64 6))
theorem lit_ok2 : okI .i64 litM (Value.int .i64 2) = true := rfl
theorem lit_ok4 : okI .i64 litM (Value.int .i64 4) = true := rfl
theorem size_182a (t : Typ) : CallT Try.prog 182 [.agg (typE t), cel 2] [] (fun o A => o = .ret (.tup [iv (if t.p ≤ 15 then 2 else 4), iv (if t.p ≤ 15 then 2 else 4)]) ∧ A = []) := by
  refine callS_body (n := 20) rfl rfl fun w ρ X => ?_
  refine runS_x (I := inf) (J := jnf) ⟨false, false, [], 0, 0⟩ 9999 rfl (by repeat (first | exact obs_nil | refine obs_draw (by kernel_rfl) ?_ | refine obs_same ?_ | refine obs_and ?_ | refine obs_by (by first | exact fun _ => lit_ok2 | (simp [inB] <;> omega)) ?_)) ?_
  refine runS_cond rfl (fun h => ?_) (fun h => ?_)
  · refine runS_x (I := inf) (J := jnf) ⟨false, false, [], 0, 0⟩ 9999 rfl (by repeat (first | exact obs_nil | refine obs_draw (by kernel_rfl) ?_ | refine obs_same ?_ | refine obs_and ?_ | refine obs_by (by (simp [inB] <;> omega)) ?_)) ?_
    refine runS_ret (I := inf) 0 rfl (Nat.le_refl _) rfl .nil rfl ⟨?_, rfl⟩
    have h' : t.p ≤ 15 := of_decide_eq_true h
    rw [if_pos h']; try rfl
  · refine runS_x (I := inf) (J := jnf) ⟨false, false, [], 0, 0⟩ 9999 rfl (by repeat (first | exact obs_nil | refine obs_draw (by kernel_rfl) ?_ | refine obs_same ?_ | refine obs_and ?_ | refine obs_by (by (simp [inB] <;> omega)) ?_)) ?_
    refine runS_ret (I := inf) 0 rfl (Nat.le_refl _) rfl .nil rfl ⟨?_, rfl⟩
    have h' : ¬ t.p ≤ 15 := of_decide_eq_false h
    rw [if_neg h']; try rfl
theorem size_182b (t : Typ) : CallT Try.prog 182 [.agg (typE t), cel 4] [] (fun o A => o = .ret (.tup [iv (if t.p ≤ 6 then 4 else 8), iv (if t.p ≤ 6 then 4 else 8)]) ∧ A = []) := by
  refine callS_body (n := 20) rfl rfl fun w ρ X => ?_
  refine runS_x (I := inf) (J := jnf) ⟨false, false, [], 0, 0⟩ 9999 rfl (by repeat (first | exact obs_nil | refine obs_draw (by kernel_rfl) ?_ | refine obs_same ?_ | refine obs_and ?_ | refine obs_by (by first | exact fun _ => lit_ok4 | (simp [inB] <;> omega)) ?_)) ?_
  refine runS_cond rfl (fun h => ?_) (fun h => ?_)
  · refine runS_x (I := inf) (J := jnf) ⟨false, false, [], 0, 0⟩ 9999 rfl (by repeat (first | exact obs_nil | refine obs_draw (by kernel_rfl) ?_ | refine obs_same ?_ | refine obs_and ?_ | refine obs_by (by (simp [inB] <;> omega)) ?_)) ?_
    refine runS_ret (I := inf) 0 rfl (Nat.le_refl _) rfl .nil rfl ⟨?_, rfl⟩
    have h' : t.p ≤ 6 := of_decide_eq_true h
    rw [if_pos h']; try rfl
  · refine runS_x (I := inf) (J := jnf) ⟨false, false, [], 0, 0⟩ 9999 rfl (by repeat (first | exact obs_nil | refine obs_draw (by kernel_rfl) ?_ | refine obs_same ?_ | refine obs_and ?_ | refine obs_by (by (simp [inB] <;> omega)) ?_)) ?_
    refine runS_ret (I := inf) 0 rfl (Nat.le_refl _) rfl .nil rfl ⟨?_, rfl⟩
    have h' : ¬ t.p ≤ 6 := of_decide_eq_false h
    rw [if_neg h']; try rfl
def sizesL : List AV := [.val .nilFunc, fnA 182 [cel 2], fnA 183 [], fnA 182 [cel 4], fnA 184 [varC], fnA 185 [varC], fnA 186 [], fnA 179 [cel 4, cel 4], fnA 179 [cel 8, cel 4], fnA 179 [cel 8, cel 4]]
theorem level_sizes : CallT Try.prog 161 [] [] (fun o A => o = .ret (.agg sizesL) ∧ A = []) := by
  refine callS_body (n := 17) rfl rfl fun w ρ X => ?_
  refine runS_x (I := inf) (J := jnf) ⟨false, false, [], 0, 0⟩ 9999 rfl (by repeat (first | exact obs_nil | refine obs_draw (by kernel_rfl) ?_ | refine obs_same ?_ | refine obs_and ?_ | refine obs_by (by (simp [inB] <;> omega)) ?_)) ?_
  refine runS_call rfl rfl rfl rfl rfl rfl rfl (size_181 2) ?_
  refine runS_x (I := inf) (J := jnf) ⟨false, false, [], 0, 0⟩ 9999 rfl (by repeat (first | exact obs_nil | refine obs_draw (by kernel_rfl) ?_ | refine obs_same ?_ | refine obs_and ?_ | refine obs_by (by (simp [inB] <;> omega)) ?_)) ?_
  refine runS_call rfl rfl rfl rfl rfl rfl rfl (size_181 4) ?_
  refine runS_x (I := inf) (J := jnf) ⟨false, false, [], 0, 0⟩ 9999 rfl (by repeat (first | exact obs_nil | refine obs_draw (by kernel_rfl) ?_ | refine obs_same ?_ | refine obs_and ?_ | refine obs_by (by (simp [inB] <;> omega)) ?_)) ?_
  refine runS_call rfl rfl rfl rfl rfl rfl rfl (size_178 4 4) ?_
  refine runS_x (I := inf) (J := jnf) ⟨false, false, [], 0, 0⟩ 9999 rfl (by repeat (first | exact obs_nil | refine obs_draw (by kernel_rfl) ?_ | refine obs_same ?_ | refine obs_and ?_ | refine obs_by (by (simp [inB] <;> omega)) ?_)) ?_
  refine runS_call rfl rfl rfl rfl rfl rfl rfl (size_178 8 4) ?_
  refine runS_x (I := inf) (J := jnf) ⟨false, false, [], 0, 0⟩ 9999 rfl (by repeat (first | exact obs_nil | refine obs_draw (by kernel_rfl) ?_ | refine obs_same ?_ | refine obs_and ?_ | refine obs_by (by (simp [inB] <;> omega)) ?_)) ?_
  refine runS_call rfl rfl rfl rfl rfl rfl rfl (size_178 8 4) ?_
  refine runS_freezeBox 1 rfl rfl rfl ?_
  refine runS_x (I := inf) (J := jnf) ⟨false, false, [], 0, 0⟩ 9999 rfl (by repeat (first | exact obs_nil | refine obs_draw (by kernel_rfl) ?_ | refine obs_same ?_ | refine obs_and ?_ | refine obs_by (by (simp [inB] <;> omega)) ?_)) ?_
  refine runS_ret (I := inf) 0 rfl (Nat.le_refl _) rfl .nil rfl ⟨?_, rfl⟩
  rfl
end Go.Iron.Try

/- The level package: the program's laying. -/
namespace Go.Iron.Try
open Go.Proofs

theorem keyEq_int (a b : Int) : keyEq (.int .i64 a) (.int .i64 b) = decide (a = b) := by
  show intEq a b = _
  rw [Bool.eq_iff_iff, intEq_iff]
  simp
def mpE (l : List Fld) (vals : List Int) (k : Nat) : Value × AV := (.int .i64 k, iv (vals.getD (rfN l k) 0))
/-- The counts asked of the caller, by the fields' numbers. -/
def mpK (l : List Fld) (vals : List Int) (i : Nat) : List (Value × AV) := ((List.range i).filter (isRef l)).map (mpE l vals)
theorem mpK_succ (l : List Fld) (vals : List Int) (i : Nat) : mpK l vals (i + 1) = if isRef l i then mpK l vals i ++ [mpE l vals i] else mpK l vals i := by
  rw [mpK, List.range_succ, List.filter_append]
  by_cases h : isRef l i = true
  · rw [if_pos h]; simp [h, mpK]
  · rw [if_neg h]; simp [h, mpK]
theorem mapFind_snoc (m : List (Value × AV)) (e : Value × AV) (k : Value) : mapFind (m ++ [e]) k = match mapFind m k with
    | some x => some x
    | none => if keyEq e.1 k then some e.2 else none := by
  induction m with
  | nil =>
    show (match keyEq e.1 k with | true => some e.2 | false => none) = _
    cases keyEq e.1 k <;> rfl
  | cons p m ih =>
    obtain ⟨a, x⟩ := p
    show (match keyEq a k with | true => some x | false => mapFind (m ++ [e]) k) = match (match keyEq a k with | true => some x | false => mapFind m k) with | some x => some x | none => _
    cases keyEq a k with
    | true => rfl
    | false => exact ih
theorem mapPut_new {k : Value} {y : AV} : ∀ {m : List (Value × AV)}, mapFind m k = none → mapPut m k y = m ++ [(k, y)]
  | [], _ => rfl
  | (a, x) :: m, h => by
    have h' : (match keyEq a k with | true => some x | false => mapFind m k) = none := h
    show (match keyEq a k with | true => (a, y) :: m | false => (a, x) :: mapPut m k y) = _
    cases hk : keyEq a k with
    | true => rw [hk] at h'; cases h'
    | false =>
      rw [hk] at h'
      rw [mapPut_new h']
      rfl
theorem mpK_find (l : List Fld) (vals : List Int) (k : Nat) : ∀ i, mapFind (mpK l vals i) (.int .i64 k) = if k < i ∧ isRef l k = true then some (iv (vals.getD (rfN l k) 0)) else none
  | 0 => by simp [mpK, mapFind]
  | i + 1 => by
    have ih := mpK_find l vals k i
    rw [mpK_succ]
    cases hi : isRef l i with
    | true =>
      have hk : keyEq (mpE l vals i).1 (.int .i64 k) = decide (i = k) := by
        show keyEq (.int .i64 i) (.int .i64 k) = _
        rw [keyEq_int, Bool.eq_iff_iff]
        simp
        omega
      rw [if_pos rfl, mapFind_snoc, ih, hk]
      by_cases hik : i = k
      · subst hik
        rw [if_neg (show ¬ (i < i ∧ isRef l i = true) from fun h => by omega), if_pos (show i < i + 1 ∧ isRef l i = true from ⟨by omega, hi⟩), decide_eq_true rfl]
        rfl
      · rw [decide_eq_false hik]
        by_cases hlt : k < i ∧ isRef l k = true
        · rw [if_pos hlt, if_pos (show k < i + 1 ∧ isRef l k = true from ⟨by omega, hlt.2⟩)]
        · rw [if_neg hlt, if_neg (show ¬ (k < i + 1 ∧ isRef l k = true) from fun h => hlt ⟨by omega, h.2⟩)]
          rfl
    | false =>
      rw [if_neg (by decide), ih]
      by_cases hlt : k < i ∧ isRef l k = true
      · rw [if_pos hlt, if_pos (show k < i + 1 ∧ isRef l k = true from ⟨by omega, hlt.2⟩)]
      · rw [if_neg hlt, if_neg (show ¬ (k < i + 1 ∧ isRef l k = true) from fun h => hlt ⟨by
          have : k ≠ i := fun e => by rw [e, hi] at h; cases h.2
          omega, h.2⟩)]
theorem mpK_put (l : List Fld) (vals : List Int) (i : Nat) (h : isRef l i = true) : mapPut (mpK l vals i) (.int .i64 i) (iv (vals.getD (rfN l i) 0)) = mpK l vals (i + 1) := by
  rw [mapPut_new (by rw [mpK_find, if_neg (by omega)]), mpK_succ, if_pos h]
  rfl
theorem mpK_has (l : List Fld) (vals : List Int) (k i : Nat) (hk : k < i) : hasK (mpK l vals i) (.int .i64 k) = isRef l k := by
  rw [hasK, mpK_find]
  cases h : isRef l k with
  | true => rw [if_pos ⟨hk, rfl⟩]
  | false => rw [if_neg (fun e => by cases e.2)]
theorem mpK_get (l : List Fld) (vals : List Int) (k i : Nat) (hk : k < i) : getI (mpK l vals i) (.int .i64 k) = if isRef l k then vals.getD (rfN l k) 0 else 0 := by
  rw [getI, mpK_find]
  cases h : isRef l k with
  | true => rw [if_pos ⟨hk, rfl⟩]; rfl
  | false => rw [if_neg (fun e => by cases e.2)]; rfl
theorem mpK_ok (l : List Fld) (vals : List Int) (k i : Nat) : okI .i64 (mpK l vals i) (.int .i64 k) = true := by
  rw [okI, mpK_find]
  by_cases h : k < i ∧ isRef l k = true
  · rw [if_pos h]
  · rw [if_neg h]

theorem kid_pos {l : List Fld} {i p : Nat} (hp : p < (kidsA l i).length) : (kidsL l ((kidsA l i).getD p 0) i).length = p := by
  obtain ⟨h1, h2⟩ := mem_kids.1 (kids_mem hp)
  generalize hc : (kidsA l i).getD p 0 = c at *
  obtain ⟨r, hr⟩ := kidsL_prefix l i (l.length - (c + 1)) (c + 1)
  rw [show c + 1 + (l.length - (c + 1)) = l.length by omega, kidsL_succ, if_pos h2] at hr
  have hr' : kidsA l i = kidsL l c i ++ [c] ++ r := hr
  have hq : (kidsL l c i).length < (kidsA l i).length := by rw [hr']; simp
  have hg : (kidsA l i).getD (kidsL l c i).length 0 = c := by
    rw [hr', List.append_assoc, List.getD_eq_getElem?_getD, List.getElem?_append_right (Nat.le_refl _), Nat.sub_self]
    rfl
  rcases Nat.lt_trichotomy (kidsL l c i).length p with h | h | h
  · have := kids_mono h hp; omega
  · exact h
  · have := kids_mono h hq; omega
theorem off_at {l : List Fld} {cnt : Nat → Nat} {i p : Nat} (hp : p < (kidsA l i).length) : offK l cnt ((kidsA l i).getD p 0) = upR (if (fat l i).union then 0 else (stP l cnt i p).1) (lay l cnt ((kidsA l i).getD p 0)).2 := by
  obtain ⟨h1, h2⟩ := mem_kids.1 (kids_mem hp)
  have h3 := (stK_P (l := l) (cnt := cnt) (i := i) (k := (kidsA l i).getD p 0) (by omega)).1
  rw [kid_pos hp] at h3
  rw [offK, h2, ← h3]
theorem stP_kid {l : List Fld} {cnt : Nat → Nat} {i p : Nat} (hp : p < (kidsA l i).length) : stP l cnt i (p + 1) = (offK l cnt ((kidsA l i).getD p 0) + tkK l cnt ((kidsA l i).getD p 0),
    max (stP l cnt i p).2.1 (offK l cnt ((kidsA l i).getD p 0) + tkK l cnt ((kidsA l i).getD p 0)), max (stP l cnt i p).2.2 (lay l cnt ((kidsA l i).getD p 0)).2) := by
  rw [stP_succ hp, off_at hp]
  rfl
/-- Outside a union the size so far is where the next may lie. -/
theorem stP_same {l : List Fld} {cnt : Nat → Nat} (ok : LayOK l cnt) {i : Nat} (hu : (fat l i).union = false) : ∀ p, p ≤ (kidsA l i).length → (stP l cnt i p).2.1 = (stP l cnt i p).1
  | 0, _ => rfl
  | p + 1, hp => by
    have hk := kids_mem (l := l) (i := i) (q := p) (by omega)
    obtain ⟨h1, h2⟩ := mem_kids.1 hk
    obtain ⟨b1, b2⟩ := (lay_bound ok l.length _ h1 (by omega)).1
    have h3 := off_at (cnt := cnt) (l := l) (i := i) (p := p) (by omega)
    rw [hu] at h3
    simp only [Bool.false_eq_true, if_false] at h3
    have h4 := (upR_bound (n := (stP l cnt i p).1) b1 b2).1
    have h5 := stP_same ok hu p (by omega)
    rw [stP_kid (by omega), h5]
    simp only
    omega
theorem off_union {l : List Fld} {cnt : Nat → Nat} (ok : LayOK l cnt) {i p : Nat} (hu : (fat l i).union = true) (hp : p < (kidsA l i).length) : offK l cnt ((kidsA l i).getD p 0) = 0 := by
  obtain ⟨h1, h2⟩ := mem_kids.1 (kids_mem hp)
  obtain ⟨b1, b2⟩ := (lay_bound ok l.length _ h1 (by omega)).1
  rw [off_at hp, hu]
  simp only [if_true]
  exact upR_zero (by omega)
theorem tk_ge {l : List Fld} {cnt : Nat → Nat} (ok : LayOK l cnt) {k : Nat} (hk : k < l.length) : (lay l cnt k).1 ≤ tkK l cnt k := by
  obtain ⟨b1, b2⟩ := (lay_bound ok l.length _ hk (by omega)).1
  unfold tkK takeN
  split
  · rename_i ha
    have h1 := ok.one k hk ha
    have h2 := (upR_bound (n := (lay l cnt k).1) b1 b2).1
    have : 1 * upR (lay l cnt k).1 (lay l cnt k).2 ≤ cnt k * upR (lay l cnt k).1 (lay l cnt k).2 := Nat.mul_le_mul_right _ h1
    omega
  · exact Nat.le_refl _

/-- Spots of which some have their offset (S), some their size (Z). -/
def sqR (l : List Fld) (cnt : Nat → Nat) (S Z : Nat → Bool) : Nat → List AV := fun k => [iv (if S k then offK l cnt k else 0 : Nat), iv (if Z k then (lay l cnt k).1 else 0 : Nat), iv (if Z k then upR (lay l cnt k).1 (lay l cnt k).2 else 0 : Nat)]
abbrev arnL (o0 o1 o2 o3 : AO) (l : List Fld) (vals : List Int) (R : Nat → List AV) : List AO := [o0, o1, o2, o3, .map 1 (some .i64) (mpK l vals l.length), .row 86 3 1 l.length R, .box 131 [treeS none l, .row 4 1, .row 5 1]]
abbrev lostL (o0 o1 o2 o3 : AO) : List AO := [o0, o1, o2, o3, .gone, .gone, .gone]
abbrev ptrL : AV := .ptr 6 0 0
def Kept4 (m : Nat) (o0 o1 o2 o3 : AO) : Prop := ∀ L, Kept m L → Kept m (o0 :: o1 :: o2 :: o3 :: L)
theorem kept_arn {o0 o1 o2 o3 : AO} (hk : Kept4 7 o0 o1 o2 o3) {l : List Fld} {vals : List Int} {R : Nat → List AV} (hR : ∀ j, j < l.length → AV.unders 7 (R j) = true) : Kept 7 (arnL o0 o1 o2 o3 l vals R) :=
  hk _ (.map (fun p hp => by
    obtain ⟨k, _, rfl⟩ := List.mem_map.1 hp
    rfl) (.row hR (.box rfl .nil)))
theorem level_count {o0 o1 o2 o3 : AO} (hk : Kept4 7 o0 o1 o2 o3) (l : List Fld) (vals : List Int) (S Z : Nat → Bool) (cnt : Nat → Nat) (k : Nat) (hkl : k < l.length) : CallT Try.prog 164 [ptrL, iv k] (arnL o0 o1 o2 o3 l vals (sqR l cnt S Z)) (fun o A => o = .ret (iv (cntV l vals k)) ∧ A = arnL o0 o1 o2 o3 l vals (sqR l cnt S Z)) := by
  have hok := mpK_ok l vals k l.length
  have hh := mpK_has l vals k l.length hkl
  have hg := mpK_get l vals k l.length hkl
  refine callS_body (n := 27) rfl rfl fun w ρ X => ?_
  refine runS_x (I := inf) (J := jnf) ⟨false, false, [], 0, 0⟩ 9999 rfl (by repeat (first | exact obs_nil | refine obs_draw (by kernel_rfl) ?_ | refine obs_same ?_ | refine obs_and ?_ | refine obs_by (by first | exact fun _ => hok | (simp [inB] <;> omega)) ?_)) ?_
  refine runS_cond rfl (fun h => ?_) (fun h => ?_)
  · have hr : isRef l k = true := hh.symm.trans h
    refine runS_x (I := inf) (J := jnf) ⟨false, false, [], 0, 0⟩ 9999 rfl (by repeat (first | exact obs_nil | refine obs_draw (by kernel_rfl) ?_ | refine obs_same ?_ | refine obs_and ?_ | refine obs_by (by (simp [inB] <;> omega)) ?_)) ?_
    refine runS_ret (I := inf) 7 rfl (Nat.le_refl _) rfl (kept_arn hk fun j hj => rfl) rfl ⟨?_, rfl⟩
    show Out.ret (iv (getI (mpK l vals l.length) (.int .i64 k))) = _
    rw [hg, cntV, hr]
    rfl
  · have hr : isRef l k = false := hh.symm.trans h
    refine runS_x (I := inf) (J := jnf) ⟨false, false, [], 0, 0⟩ 9999 rfl (by repeat (first | exact obs_nil | refine obs_draw (by kernel_rfl) ?_ | refine obs_same ?_ | refine obs_and ?_ | refine obs_by (by (simp [inB, hkl] <;> omega)) ?_)) ?_
    refine runS_ret (I := inf) 7 rfl (Nat.le_refl _) rfl (kept_arn hk fun j hj => rfl) rfl ⟨?_, rfl⟩
    rw [cntV, hr]
    rfl
/-- The program's own lay answers so. -/
def layQ (o0 o1 o2 o3 : AO) (l : List Fld) (vals : List Int) (cnt : Nat → Nat) (k : Nat) (S Z : Nat → Bool) (o : Out) (A : List AO) : Prop :=
  if tkK l cnt k ≤ 1000000 then o = .ret (.tup [iv (lay l cnt k).2, iv (tkK l cnt k)]) ∧ A = arnL o0 o1 o2 o3 l vals (sqR l cnt (fun j => S j || withinK l k l.length j) (fun j => Z j || decide (k ∈ anc l j)))
  else o = .pan (.ifc 170 (.agg [iv 4])) ∧ A = lostL o0 o1 o2 o3
def withinQ (o0 o1 o2 o3 : AO) (l : List Fld) (vals : List Int) (cnt : Nat → Nat) (k : Nat) (S Z : Nat → Bool) (o : Out) (A : List AO) : Prop :=
  if (lay l cnt k).1 ≤ 1000000 then o = .ret (.tup [iv (lay l cnt k).1, iv (lay l cnt k).2]) ∧ A = arnL o0 o1 o2 o3 l vals (sqR l cnt (fun j => S j || withinK l k l.length j) (fun j => Z j || withinK l k l.length j))
  else o = .pan (.ifc 170 (.agg [iv 4])) ∧ A = lostL o0 o1 o2 o3

/-- What is within the first p members of i. -/
def withinP (l : List Fld) (i p j : Nat) : Bool := ((kidsA l i).take p).any fun c => decide (c ∈ anc l j)
theorem withinP_succ {l : List Fld} {i p : Nat} (h : p < (kidsA l i).length) (j : Nat) : withinP l i (p + 1) j = (withinP l i p j || decide ((kidsA l i).getD p 0 ∈ anc l j)) := by
  rw [withinP, take_nextN h, List.any_append]
  simp [withinP]
theorem withinP_all (l : List Fld) (i : Nat) : withinP l i (kidsA l i).length = withinK l i l.length := by
  funext j
  rw [withinP, List.take_length]
  rfl
theorem sq_step {l : List Fld} {cnt : Nat → Nat} {i p : Nat} (S Z : Nat → Bool) (h : p < (kidsA l i).length) (j : Nat) (hj : j < l.length) : sqR l cnt (fun j => S j || withinP l i (p + 1) j) (fun j => Z j || withinP l i (p + 1) j) j =
    [iv (if j = (kidsA l i).getD p 0 then offK l cnt j else if ((S j || withinP l i p j) || withinK l ((kidsA l i).getD p 0) l.length j) then offK l cnt j else 0 : Nat),
     iv (if ((Z j || withinP l i p j) || decide ((kidsA l i).getD p 0 ∈ anc l j)) then (lay l cnt j).1 else 0 : Nat), iv (if ((Z j || withinP l i p j) || decide ((kidsA l i).getD p 0 ∈ anc l j)) then upR (lay l cnt j).1 (lay l cnt j).2 else 0 : Nat)] := by
  unfold sqR
  simp only [withinP_succ h, ← Bool.or_assoc]
  by_cases hjc : j = (kidsA l i).getD p 0
  · rw [if_pos hjc]
    have : decide ((kidsA l i).getD p 0 ∈ anc l j) = true := by rw [← hjc]; exact decide_eq_true (anc_self l j)
    rw [this, Bool.or_true, if_pos rfl]
  · rw [if_neg hjc, ← anc_kid hj hjc]
theorem level_within1 {o0 o1 o2 o3 : AO} (hk : Kept4 7 o0 o1 o2 o3) (l : List Fld) (vals : List Int) (cnt : Nat → Nat) (ok : LayOK l cnt) (hl : l.length ≤ 200) (i : Nat) (hi : i < l.length) (hin : 0 < (kidsA l i).length)
    (IH : ∀ c, c ∈ kidsA l i → ∀ S Z, CallT Try.prog 118 [ptrL, iv c] (arnL o0 o1 o2 o3 l vals (sqR l cnt S Z)) (layQ o0 o1 o2 o3 l vals cnt c S Z)) (S Z : Nat → Bool) :
    CallT Try.prog 162 [ptrL, .agg (nodE l i (kidC l i))] (arnL o0 o1 o2 o3 l vals (sqR l cnt S Z)) (withinQ o0 o1 o2 o3 l vals cnt i S Z) := by
  have hkl : (kidsA l i).length ≤ l.length := by have := List.length_filter_le (fun k => par l k == some i) (List.range l.length); simpa [kidsA, kidsL] using this
  refine callS_body (n := 55) rfl rfl fun w ρ X => ?_
  refine runS_x (I := inf) (J := jnf) ⟨false, false, [], 0, 0⟩ 9999 rfl (by repeat (first | exact obs_nil | refine obs_draw (by kernel_rfl) ?_ | refine obs_same ?_ | refine obs_and ?_ | refine obs_by (by (simp [inB] <;> omega)) ?_)) ?_
  refine runS_while (fun (p : Nat) τ ar => (τ 0 = ptrL ∧ τ 3 = .ptr 7 0 0 ∧ τ 4 = iv (stP l cnt i p).2.1 ∧ τ 5 = iv (stP l cnt i p).2.2 ∧ τ 6 = iv (if (fat l i).union then 0 else (stP l cnt i p).1 : Nat) ∧ τ 12 = kidC l i ∧ τ 13 = iv (kidsA l i).length ∧ τ 14 = iv p) ∧
    ar = arnL o0 o1 o2 o3 l vals (sqR l cnt (fun j => S j || withinP l i p j) (fun j => Z j || withinP l i p j)) ++ [.box 144 (nodE l i (kidC l i))] ∧ p ≤ (kidsA l i).length ∧ ∀ q, q < p → tkK l cnt ((kidsA l i).getD q 0) ≤ 1000000) (fun p => (kidsA l i).length - p) 0
    ⟨⟨rfl, rfl, rfl, rfl, ?_, rfl, rfl, rfl⟩, ?_, Nat.zero_le _, fun q h => by omega⟩ ?_
  · show iv (0 : Int) = _
    cases (fat l i).union <;> rfl
  · have : (fun j => S j || withinP l i 0 j) = S := by funext j; simp [withinP]
    have h2 : (fun j => Z j || withinP l i 0 j) = Z := by funext j; simp [withinP]
    rw [this, h2]
    rfl
  rintro p τ' ar' ⟨⟨g0, g3, g4, g5, g6, g12, g13, g14⟩, rfl, hp, hqs⟩ ih
  refine runS_says 0 (by exact g0) (Says.refl _) ?_; refine runS_says 3 (by exact g3) (Says.refl _) ?_; refine runS_says 4 (by exact g4) (Says.refl _) ?_; refine runS_says 5 (by exact g5) (Says.refl _) ?_; refine runS_says 6 (by exact g6) (Says.refl _) ?_; refine runS_says 12 (by exact g12) (Says.refl _) ?_; refine runS_says 13 (by exact g13) (Says.refl _) ?_; refine runS_says 14 (by exact g14) (Says.refl _) ?_
  refine runS_x (I := inf) (J := jnf) ⟨false, false, [], 0, 0⟩ 9999 rfl (by repeat (first | exact obs_nil | refine obs_draw (by kernel_rfl) ?_ | refine obs_same ?_ | refine obs_and ?_ | refine obs_by (by (simp [inB] <;> omega)) ?_)) ?_
  refine runS_cond rfl (fun hc => ?_) (fun hc => ?_)
  · have hpl : p < (kidsA l i).length := by simpa using hc
    have hw2 : IntKind.wrap .i64 ((p : Int) + 1) = ((p + 1 : Nat) : Int) := by rw [w64 (by omega) (by omega)]; rfl
    have hkm := kids_mem hpl
    obtain ⟨hcl, hpar⟩ := mem_kids.1 hkm
    have hpl' : p < kidsN l l.length i := hpl
    have hce : (natR (kidsL l l.length i) p) = [iv ((kidsA l i).getD p 0 : Nat)] := rfl
    refine runS_x (I := inf) (J := jnf) ⟨false, false, [], 0, 0⟩ 9999 rfl (by repeat (first | exact obs_nil | refine obs_draw (by kernel_rfl) ?_ | refine obs_same ?_ | refine obs_and ?_ | refine obs_by (by (simp [inB, hpl'] <;> omega)) ?_)) ?_
    by_cases ht : tkK l cnt ((kidsA l i).getD p 0) ≤ 1000000
    · have hq : ∀ S Z, layQ o0 o1 o2 o3 l vals cnt ((kidsA l i).getD p 0) S Z = fun o A => o = .ret (.tup [iv (lay l cnt ((kidsA l i).getD p 0)).2, iv (tkK l cnt ((kidsA l i).getD p 0))]) ∧ A = arnL o0 o1 o2 o3 l vals (sqR l cnt (fun j => S j || withinK l ((kidsA l i).getD p 0) l.length j) (fun j => Z j || decide ((kidsA l i).getD p 0 ∈ anc l j))) :=
        fun S Z => by funext o A; rw [layQ, if_pos ht]
      have hcall := IH _ hkm (fun j => S j || withinP l i p j) (fun j => Z j || withinP l i p j)
      rw [hq] at hcall
      refine runS_callF (arnL o0 o1 o2 o3 l vals (sqR l cnt (fun j => S j || withinP l i p j) (fun j => Z j || withinP l i p j))) (arnL o0 o1 o2 o3 l vals (sqR l cnt (fun j => (S j || withinP l i p j) || withinK l ((kidsA l i).getD p 0) l.length j) (fun j => (Z j || withinP l i p j) || decide ((kidsA l i).getD p 0 ∈ anc l j)))) [.box 144 (nodE l i (kidC l i))] rfl rfl rfl rfl rfl (show _ = [ptrL, iv ((kidsA l i).getD p 0 : Nat)] from rfl) rfl (kept_arn hk fun j hj => rfl) rfl rfl hcall ?_
      obtain ⟨b1, b2, b3⟩ := lay_le ok hl hcl
      have b4 := (lay_le ok hl hi).1
      have b5 := off_le (cnt := cnt) hi hkm
      obtain ⟨e1, e2, e3⟩ := stP_le (cnt := cnt) hi hin hp
      have hst := stP_kid (cnt := cnt) hpl
      have hcl' : inB (((kidsA l i).getD p 0 : Nat) : Int) l.length = true := inB_nat hcl
      refine runS_x (I := inf) (J := jnf) ⟨false, false, [], 0, 0⟩ 9999 rfl (by repeat (first | exact obs_nil | refine obs_draw (by kernel_rfl) ?_ | refine obs_same ?_ | refine obs_and ?_ | refine obs_by (by (simp [inB] <;> omega)) ?_)) ?_
      refine runS_says 8 (show _ = iv ((kidsA l i).getD p 0 : Nat) from rfl) (Says.refl _) ?_
      refine runS_cond rfl (fun hu => ?_) (fun hu => ?_)
      · have hu' : (fat l i).union = false := by
          have : (!(fat l i).union) = true := hu
          simpa using this
        have hoff := off_at (cnt := cnt) hpl
        rw [hu'] at hoff
        refine runS_x (I := inf) (J := jnf) ⟨false, false, [], 0, 0⟩ 9999 rfl (by repeat (first | exact obs_nil | refine obs_draw (by kernel_rfl) ?_ | refine obs_same ?_ | refine obs_and ?_ | refine obs_by (by (simp [inB] <;> omega)) ?_)) ?_
        refine runS_says 31 (show _ = iv (stP l cnt i p).1 from by
          show iv (if (fat l i).union then 0 else (stP l cnt i p).1 : Nat) = _
          rw [hu']; rfl) (Says.refl _) ?_
        refine runS_call rfl rfl rfl rfl rfl rfl rfl (level_raised (stP l cnt i p).1 (lay l cnt ((kidsA l i).getD p 0)).2 (by omega) b2 b3) ?_
        refine runS_x (I := inf) (J := jnf) ⟨false, false, [], 0, 0⟩ 9999 rfl (by repeat (first | exact obs_nil | refine obs_draw (by kernel_rfl) ?_ | refine obs_same ?_ | refine obs_and ?_ | refine obs_by (by first | exact fun _ => hcl' | (simp [inB] <;> omega)) ?_)) ?_
        refine runS_tell 5 (sqR l cnt (fun j => S j || withinP l i (p + 1) j) (fun j => Z j || withinP l i (p + 1) j)) rfl rfl (fun j hj => ?_) rfl ?_
        · rw [sq_step S Z hpl j hj]
          by_cases hjc : j = (kidsA l i).getD p 0
          · rw [if_pos hjc, hjc]
            refine Eq.trans ?_ setR_self.symm
            rw [hoff]
            rfl
          · rw [if_neg hjc]
            refine Eq.trans ?_ (setR_ne hjc).symm
            rfl
        have hoff' : offK l cnt ((kidsA l i).getD p 0) = upR (stP l cnt i p).1 (lay l cnt ((kidsA l i).getD p 0)).2 := hoff
        have hsame := stP_same ok hu' (p + 1) hpl
        have hat : IntKind.wrap .i64 ((upR (stP l cnt i p).1 (lay l cnt ((kidsA l i).getD p 0)).2 : Int) + (tkK l cnt ((kidsA l i).getD p 0) : Int)) = (((stP l cnt i (p + 1)).1 : Nat) : Int) := by
          rw [← hoff', w64 (by omega) (by omega), hst]
          rfl
        refine ih (p + 1) _ _ (by omega) ⟨⟨rfl, rfl, ?_, ?_, ?_, rfl, rfl, ?_⟩, rfl, by omega, fun q hq' => ?_⟩
        · rw [hsame]
          exact congrArg iv hat
        · rw [hst]
          exact congrArg iv (max_nat _ _)
        · rw [hu']
          exact congrArg iv hat
        · exact congrArg iv hw2
        · by_cases hqp : q = p
          · rw [hqp]; exact ht
          · exact hqs q (by omega)
      · have hu' : (fat l i).union = true := by
          have : (!(fat l i).union) = false := hu
          simpa using this
        have hoff := off_union ok hu' hpl
        refine runS_x (I := inf) (J := jnf) ⟨false, false, [], 0, 0⟩ 9999 rfl (by repeat (first | exact obs_nil | refine obs_draw (by kernel_rfl) ?_ | refine obs_same ?_ | refine obs_and ?_ | refine obs_by (by (simp [inB] <;> omega)) ?_)) ?_
        refine runS_tell 5 (sqR l cnt (fun j => S j || withinP l i (p + 1) j) (fun j => Z j || withinP l i (p + 1) j)) rfl rfl (fun j hj => ?_) rfl ?_
        · rw [sq_step S Z hpl j hj]
          by_cases hjc : j = (kidsA l i).getD p 0
          · rw [if_pos hjc, hjc, hoff]
            unfold sqR
            rw [hoff, ite_self]
          · rw [if_neg hjc]
            rfl
        refine ih (p + 1) _ _ (by omega) ⟨⟨rfl, rfl, ?_, ?_, ?_, rfl, rfl, ?_⟩, rfl, by omega, fun q hq' => ?_⟩
        · rw [hst, hoff, Nat.zero_add]
          exact congrArg iv (max_nat _ _)
        · rw [hst]
          exact congrArg iv (max_nat _ _)
        · rw [hu']
          rfl
        · exact congrArg iv hw2
        · by_cases hqp : q = p
          · rw [hqp]; exact ht
          · exact hqs q (by omega)
    · have hq : ∀ S Z, layQ o0 o1 o2 o3 l vals cnt ((kidsA l i).getD p 0) S Z = fun o A => o = .pan (.ifc 170 (.agg [iv 4])) ∧ A = lostL o0 o1 o2 o3 :=
        fun S Z => by funext o A; rw [layQ, if_neg ht]
      have hcall := IH _ hkm (fun j => S j || withinP l i p j) (fun j => Z j || withinP l i p j)
      rw [hq] at hcall
      refine runS_callFP (arnL o0 o1 o2 o3 l vals (sqR l cnt (fun j => S j || withinP l i p j) (fun j => Z j || withinP l i p j))) (lostL o0 o1 o2 o3) [.box 144 (nodE l i (kidC l i))] rfl rfl rfl rfl rfl (show _ = [ptrL, iv ((kidsA l i).getD p 0 : Nat)] from rfl) rfl (kept_arn hk fun j hj => rfl) rfl rfl hcall ?_
      refine runS_pan 7 rfl (Nat.le_refl _) rfl (hk _ (.gone (.gone (.gone .nil)))) ?_
      have h1 := off_le (cnt := cnt) hi hkm
      rw [withinQ, if_neg (by omega)]
      exact ⟨rfl, rfl⟩
  · have hpe : p = (kidsA l i).length := by simp at hc; omega
    have hsz : (stP l cnt i p).2 = lay l cnt i := by rw [lay_inner hi hin, hpe]
    have hfin := withinP_all l i
    rw [← hpe] at hfin
    refine runS_x (I := inf) (J := jnf) ⟨false, false, [], 0, 0⟩ 9999 rfl (by repeat (first | exact obs_nil | refine obs_draw (by kernel_rfl) ?_ | refine obs_same ?_ | refine obs_and ?_ | refine obs_by (by (simp [inB] <;> omega)) ?_)) ?_
    by_cases ht : (lay l cnt i).1 ≤ 1000000
    · have hd : decide (((stP l cnt i p).2.1 : Int) ≤ 1000000) = true := by rw [hsz]; exact decide_eq_true (by omega)
      refine runS_says 51 (show _ = bv true from congrArg bv hd) (Says.refl _) ?_
      refine runS_call rfl rfl rfl rfl rfl rfl rfl (must_ok 4) ?_
      refine runS_x (I := inf) (J := jnf) ⟨false, false, [], 0, 0⟩ 9999 rfl (by repeat (first | exact obs_nil | refine obs_draw (by kernel_rfl) ?_ | refine obs_same ?_ | refine obs_and ?_ | refine obs_by (by (simp [inB] <;> omega)) ?_)) ?_
      refine runS_ret (I := inf) 7 rfl (Nat.le_refl _) rfl (kept_arn hk fun j hj => rfl) rfl ?_
      rw [withinQ, if_pos ht, ← hsz, hfin]
      exact ⟨rfl, rfl⟩
    · have hd : decide (((stP l cnt i p).2.1 : Int) ≤ 1000000) = false := by rw [hsz]; exact decide_eq_false (by omega)
      refine runS_says 51 (show _ = bv false from congrArg bv hd) (Says.refl _) ?_
      refine runS_callP rfl rfl rfl rfl rfl rfl rfl (must_no 4) ?_
      refine runS_lose 4 rfl ?_
      refine runS_lose 5 rfl ?_
      refine runS_lose 6 rfl ?_
      refine runS_pan 7 rfl (Nat.le_refl _) rfl (hk _ (.gone (.gone (.gone .nil)))) ?_
      rw [withinQ, if_neg ht]
      exact ⟨rfl, rfl⟩
end Go.Iron.Try

/- The level package: the program's lay. -/
namespace Go.Iron.Try
open Go.Proofs

section
variable {P : Program} {f0 : FuncId} {C : Cx} {S : List AF} {ar ar' : List AO} {Q : Out → List AO → Prop}
theorem runS_arEq (h : ar = ar') (hr : RunS P f0 C S ar' Q) : RunS P f0 C S ar Q := h ▸ hr
end
theorem callT_to {P : Program} {g : Nat} {xs : List AV} {ar : List AO} {r : AV} {t : Typ} (h : CallT P g xs ar (fun o A => o = .ret r ∧ A = [])) (he : r = .tup [iv (lieN t).1, iv (lieN t).2]) : CallT P g xs ar (fun o A => o = .ret (.tup [iv (lieN t).1, iv (lieN t).2]) ∧ A = []) := by
  rw [← he]; exact h
theorem lie_1 (p q n : Int) (v : Bool) (pic : Str) : CallT Try.prog 182 [.agg (typE ⟨1, p, q, n, v, pic⟩), cel 2] [] (fun o A => o = .ret (.tup [iv (lieN ⟨1, p, q, n, v, pic⟩).1, iv (lieN ⟨1, p, q, n, v, pic⟩).2]) ∧ A = []) :=
  callT_to (size_182a _) (by
    show AV.tup [iv (if p ≤ 15 then 2 else 4), iv (if p ≤ 15 then 2 else 4)] = AV.tup [iv (((if p ≤ 15 then (2, 2) else (4, 4) : Nat × Nat).1 : Nat) : Int), iv (((if p ≤ 15 then (2, 2) else (4, 4) : Nat × Nat).2 : Nat) : Int)]
    split <;> rfl)
theorem lie_2 (p q n : Int) (v : Bool) (pic : Str) (h : validT ⟨2, p, q, n, v, pic⟩ = true) : CallT Try.prog 183 [.agg (typE ⟨2, p, q, n, v, pic⟩)] [] (fun o A => o = .ret (.tup [iv (lieN ⟨2, p, q, n, v, pic⟩).1, iv (lieN ⟨2, p, q, n, v, pic⟩).2]) ∧ A = []) := by
  have : inR p 1 15 && inR q 0 31 && n == 0 && !v && pic.isEmpty := h
  simp only [inR, Bool.and_eq_true, decide_eq_true_eq] at this
  exact callT_to (size_183 ⟨2, p, q, n, v, pic⟩ (show 0 ≤ p by omega) (show p ≤ 300 by omega)) rfl
theorem lie_3 (p q n : Int) (v : Bool) (pic : Str) : CallT Try.prog 182 [.agg (typE ⟨3, p, q, n, v, pic⟩), cel 4] [] (fun o A => o = .ret (.tup [iv (lieN ⟨3, p, q, n, v, pic⟩).1, iv (lieN ⟨3, p, q, n, v, pic⟩).2]) ∧ A = []) :=
  callT_to (size_182b _) (by
    show AV.tup [iv (if p ≤ 6 then 4 else 8), iv (if p ≤ 6 then 4 else 8)] = AV.tup [iv (((if p ≤ 6 then (4, 4) else (8, 8) : Nat × Nat).1 : Nat) : Int), iv (((if p ≤ 6 then (4, 4) else (8, 8) : Nat × Nat).2 : Nat) : Int)]
    split <;> rfl)
theorem lie_4 (p q n : Int) (v : Bool) (pic : Str) (h : validT ⟨4, p, q, n, v, pic⟩ = true) : CallT Try.prog 184 [.agg (typE ⟨4, p, q, n, v, pic⟩), varC] [] (fun o A => o = .ret (.tup [iv (lieN ⟨4, p, q, n, v, pic⟩).1, iv (lieN ⟨4, p, q, n, v, pic⟩).2]) ∧ A = []) := by
  have : p == 0 && q == 0 && inR n 0 250 && pic.isEmpty := h
  simp only [inR, Bool.and_eq_true, decide_eq_true_eq] at this
  exact callT_to (size_184 ⟨4, p, q, n, v, pic⟩ (show 0 ≤ n by omega) (show n < 1000000000 by omega)) rfl
theorem lie_5 (p q n : Int) (v : Bool) (pic : Str) (h : validT ⟨5, p, q, n, v, pic⟩ = true) : CallT Try.prog 185 [.agg (typE ⟨5, p, q, n, v, pic⟩), varC] [] (fun o A => o = .ret (.tup [iv (lieN ⟨5, p, q, n, v, pic⟩).1, iv (lieN ⟨5, p, q, n, v, pic⟩).2]) ∧ A = []) := by
  have : p == 0 && q == 0 && inR n 0 250 && pic.isEmpty := h
  simp only [inR, Bool.and_eq_true, decide_eq_true_eq] at this
  exact callT_to (size_185 ⟨5, p, q, n, v, pic⟩ (show 0 ≤ n by omega) (show n ≤ 300 by omega)) rfl
theorem lie_6 (p q n : Int) (v : Bool) (pic : Str) (h : validT ⟨6, p, q, n, v, pic⟩ = true) : CallT Try.prog 186 [.agg (typE ⟨6, p, q, n, v, pic⟩)] [] (fun o A => o = .ret (.tup [iv (lieN ⟨6, p, q, n, v, pic⟩).1, iv (lieN ⟨6, p, q, n, v, pic⟩).2]) ∧ A = []) := by
  have : p == 0 && q == 0 && n == 0 && !v && decide (1 ≤ pic.length) && decide (pic.length ≤ 80) := h
  simp only [Bool.and_eq_true, decide_eq_true_eq] at this
  exact callT_to (size_186 ⟨6, p, q, n, v, pic⟩ (show pic.length < 9223372036854775807 by omega)) rfl
theorem lie_7 (p q n : Int) (v : Bool) (pic : Str) : CallT Try.prog 179 [.agg (typE ⟨7, p, q, n, v, pic⟩), cel 4, cel 4] [] (fun o A => o = .ret (.tup [iv (lieN ⟨7, p, q, n, v, pic⟩).1, iv (lieN ⟨7, p, q, n, v, pic⟩).2]) ∧ A = []) :=
  callT_to (size_179 4 4 _) rfl
theorem lie_8 (p q n : Int) (v : Bool) (pic : Str) : CallT Try.prog 179 [.agg (typE ⟨8, p, q, n, v, pic⟩), cel 8, cel 4] [] (fun o A => o = .ret (.tup [iv (lieN ⟨8, p, q, n, v, pic⟩).1, iv (lieN ⟨8, p, q, n, v, pic⟩).2]) ∧ A = []) :=
  callT_to (size_179 8 4 _) rfl
theorem lie_9 (p q n : Int) (v : Bool) (pic : Str) : CallT Try.prog 179 [.agg (typE ⟨9, p, q, n, v, pic⟩), cel 8, cel 4] [] (fun o A => o = .ret (.tup [iv (lieN ⟨9, p, q, n, v, pic⟩).1, iv (lieN ⟨9, p, q, n, v, pic⟩).2]) ∧ A = []) :=
  callT_to (size_179 8 4 _) rfl

theorem level_lay {o0 o1 o2 o3 : AO} (hk : Kept4 7 o0 o1 o2 o3) (l : List Fld) (vals : List Int) (ok : LayOK l (cntN l vals)) (hv : validF l = true) (hvo : valsOK l vals = true) (hl : l.length ≤ 200) : ∀ (m i : Nat), i < l.length → l.length - i ≤ m → ∀ (S Z : Nat → Bool),
    CallT Try.prog 118 [ptrL, iv i] (arnL o0 o1 o2 o3 l vals (sqR l (cntN l vals) S Z)) (layQ o0 o1 o2 o3 l vals (cntN l vals) i S Z)
  | 0, i, hi, hm, S, Z => by omega
  | m + 1, i, hi, hm, S, Z => by
    refine callS_body (n := 73) rfl rfl fun w ρ X => ?_
    refine runS_x (I := inf) (J := jnf) ⟨false, false, [], 0, 0⟩ 9999 rfl (by repeat (first | exact obs_nil | refine obs_draw (by kernel_rfl) ?_ | refine obs_same ?_ | refine obs_and ?_ | refine obs_by (by (simp [inB, hi] <;> omega)) ?_)) ?_
    refine runS_cut (fun τ ar => (τ 0 = ptrL ∧ τ 1 = iv i ∧ τ 4 = iv (lay l (cntN l vals) i).2 ∧ τ 6 = .ptr 7 0 0 ∧ τ 7 = iv (lay l (cntN l vals) i).1) ∧ (lay l (cntN l vals) i).1 ≤ 1000000 ∧ ar = arnL o0 o1 o2 o3 l vals (sqR l (cntN l vals) (fun j => S j || withinK l i l.length j) (fun j => Z j || withinK l i l.length j)) ++ [.box 144 (nodE l i (kidC l i))]) (fun rest => ?_) ?_
    · refine runS_cond rfl (fun hlf => ?_) (fun hlf => ?_)
      · have hkn : ¬ 0 < (kidsA l i).length := by
          have : (((kidsN l l.length i : Nat) : Int) == 0) = true := hlf
          have : kidsN l l.length i = 0 := by simpa using this
          show ¬ 0 < kidsN l l.length i
          omega
        have hleaf := lay_leaf (cnt := cntN l vals) hi hkn
        have hvt := ok.typ i hi hkn
        have hwn : ∀ X : Nat → Bool, (fun j => X j || withinK l i l.length j) = X := by
          intro X
          have : kidsL l l.length i = [] := List.eq_nil_of_length_eq_zero (by show (kidsA l i).length = 0; omega)
          funext j
          rw [withinK, this]
          simp
        obtain ⟨z1, z2, z3⟩ := lieN_bound hvt
        rw [hwn, hwn, hleaf] at rest
        obtain ⟨d1, d2⟩ := valid_kind hvt
        cases ht : (fat l i).typ with
        | mk k p q n v pic =>
          rw [ht] at hvt d1 d2 z1 rest
          have hnode : nodE l i (kidC l i) = [iv (fat l i).level, sv (fat l i).name, iv (fat l i).count, iv k, iv p, iv q, iv n, bv v, sv pic, bv (fat l i).union, iv (fat l i).refer, iv i, iv (opI (par l i)), iv (dep l i), kidC l i] := by
            unfold nodE
            rw [ht]
          refine runS_arEq (show _ = arnL o0 o1 o2 o3 l vals (sqR l (cntN l vals) S Z) ++ [.box 144 (nodE l i (kidC l i))] from rfl) ?_
          rw [hnode]
          rw [hnode] at rest
          dsimp only at d1 d2
          have : k = 1 ∨ k = 2 ∨ k = 3 ∨ k = 4 ∨ k = 5 ∨ k = 6 ∨ k = 7 ∨ k = 8 ∨ k = 9 := by omega
          rcases this with rfl | rfl | rfl | rfl | rfl | rfl | rfl | rfl | rfl
          · refine runS_draw 15 (by kernel_rfl) (lexj_x (I := inf) (J := jnf) 99 rfl rfl (by repeat (first | exact obs_nil | refine obs_same ?_ | refine obs_and ?_ | refine obs_by (by (simp [inB] <;> omega)) ?_)) (lexj_call rfl rfl rfl rfl rfl rfl rfl rfl level_sizes (lexj_x (I := inf) (J := jnf) 99 rfl rfl (by repeat (first | exact obs_nil | refine obs_same ?_ | refine obs_and ?_ | refine obs_by (by (simp [inB] <;> omega)) ?_)) (lexj_call rfl rfl rfl rfl rfl rfl rfl rfl (lie_1 p q n v pic) (lexj_x (I := inf) (J := jnf) 99 rfl rfl (by repeat (first | exact obs_nil | refine obs_same ?_ | refine obs_and ?_ | refine obs_by (by (simp [inB] <;> omega)) ?_)) lexj_nil))))) ?_
            refine runS_x (I := inf) (J := jnf) ⟨false, false, [], 2, 0⟩ 9999 rfl (by repeat (first | exact obs_nil | refine obs_draw (by kernel_rfl) ?_ | refine obs_same ?_ | refine obs_and ?_ | refine obs_by (by (simp [inB] <;> omega)) ?_)) ?_
            exact rest _ _ ⟨⟨rfl, rfl, rfl, rfl, rfl⟩, by omega, rfl⟩
          · refine runS_draw 15 (by kernel_rfl) (lexj_x (I := inf) (J := jnf) 99 rfl rfl (by repeat (first | exact obs_nil | refine obs_same ?_ | refine obs_and ?_ | refine obs_by (by (simp [inB] <;> omega)) ?_)) (lexj_call rfl rfl rfl rfl rfl rfl rfl rfl level_sizes (lexj_x (I := inf) (J := jnf) 99 rfl rfl (by repeat (first | exact obs_nil | refine obs_same ?_ | refine obs_and ?_ | refine obs_by (by (simp [inB] <;> omega)) ?_)) (lexj_call rfl rfl rfl rfl rfl rfl rfl rfl (lie_2 p q n v pic hvt) (lexj_x (I := inf) (J := jnf) 99 rfl rfl (by repeat (first | exact obs_nil | refine obs_same ?_ | refine obs_and ?_ | refine obs_by (by (simp [inB] <;> omega)) ?_)) lexj_nil))))) ?_
            refine runS_x (I := inf) (J := jnf) ⟨false, false, [], 2, 0⟩ 9999 rfl (by repeat (first | exact obs_nil | refine obs_draw (by kernel_rfl) ?_ | refine obs_same ?_ | refine obs_and ?_ | refine obs_by (by (simp [inB] <;> omega)) ?_)) ?_
            exact rest _ _ ⟨⟨rfl, rfl, rfl, rfl, rfl⟩, by omega, rfl⟩
          · refine runS_draw 15 (by kernel_rfl) (lexj_x (I := inf) (J := jnf) 99 rfl rfl (by repeat (first | exact obs_nil | refine obs_same ?_ | refine obs_and ?_ | refine obs_by (by (simp [inB] <;> omega)) ?_)) (lexj_call rfl rfl rfl rfl rfl rfl rfl rfl level_sizes (lexj_x (I := inf) (J := jnf) 99 rfl rfl (by repeat (first | exact obs_nil | refine obs_same ?_ | refine obs_and ?_ | refine obs_by (by (simp [inB] <;> omega)) ?_)) (lexj_call rfl rfl rfl rfl rfl rfl rfl rfl (lie_3 p q n v pic) (lexj_x (I := inf) (J := jnf) 99 rfl rfl (by repeat (first | exact obs_nil | refine obs_same ?_ | refine obs_and ?_ | refine obs_by (by (simp [inB] <;> omega)) ?_)) lexj_nil))))) ?_
            refine runS_x (I := inf) (J := jnf) ⟨false, false, [], 2, 0⟩ 9999 rfl (by repeat (first | exact obs_nil | refine obs_draw (by kernel_rfl) ?_ | refine obs_same ?_ | refine obs_and ?_ | refine obs_by (by (simp [inB] <;> omega)) ?_)) ?_
            exact rest _ _ ⟨⟨rfl, rfl, rfl, rfl, rfl⟩, by omega, rfl⟩
          · refine runS_draw 15 (by kernel_rfl) (lexj_x (I := inf) (J := jnf) 99 rfl rfl (by repeat (first | exact obs_nil | refine obs_same ?_ | refine obs_and ?_ | refine obs_by (by (simp [inB] <;> omega)) ?_)) (lexj_call rfl rfl rfl rfl rfl rfl rfl rfl level_sizes (lexj_x (I := inf) (J := jnf) 99 rfl rfl (by repeat (first | exact obs_nil | refine obs_same ?_ | refine obs_and ?_ | refine obs_by (by (simp [inB] <;> omega)) ?_)) (lexj_call rfl rfl rfl rfl rfl rfl rfl rfl (lie_4 p q n v pic hvt) (lexj_x (I := inf) (J := jnf) 99 rfl rfl (by repeat (first | exact obs_nil | refine obs_same ?_ | refine obs_and ?_ | refine obs_by (by (simp [inB] <;> omega)) ?_)) lexj_nil))))) ?_
            refine runS_x (I := inf) (J := jnf) ⟨false, false, [], 2, 0⟩ 9999 rfl (by repeat (first | exact obs_nil | refine obs_draw (by kernel_rfl) ?_ | refine obs_same ?_ | refine obs_and ?_ | refine obs_by (by (simp [inB] <;> omega)) ?_)) ?_
            exact rest _ _ ⟨⟨rfl, rfl, rfl, rfl, rfl⟩, by omega, rfl⟩
          · refine runS_draw 15 (by kernel_rfl) (lexj_x (I := inf) (J := jnf) 99 rfl rfl (by repeat (first | exact obs_nil | refine obs_same ?_ | refine obs_and ?_ | refine obs_by (by (simp [inB] <;> omega)) ?_)) (lexj_call rfl rfl rfl rfl rfl rfl rfl rfl level_sizes (lexj_x (I := inf) (J := jnf) 99 rfl rfl (by repeat (first | exact obs_nil | refine obs_same ?_ | refine obs_and ?_ | refine obs_by (by (simp [inB] <;> omega)) ?_)) (lexj_call rfl rfl rfl rfl rfl rfl rfl rfl (lie_5 p q n v pic hvt) (lexj_x (I := inf) (J := jnf) 99 rfl rfl (by repeat (first | exact obs_nil | refine obs_same ?_ | refine obs_and ?_ | refine obs_by (by (simp [inB] <;> omega)) ?_)) lexj_nil))))) ?_
            refine runS_x (I := inf) (J := jnf) ⟨false, false, [], 2, 0⟩ 9999 rfl (by repeat (first | exact obs_nil | refine obs_draw (by kernel_rfl) ?_ | refine obs_same ?_ | refine obs_and ?_ | refine obs_by (by (simp [inB] <;> omega)) ?_)) ?_
            exact rest _ _ ⟨⟨rfl, rfl, rfl, rfl, rfl⟩, by omega, rfl⟩
          · refine runS_draw 15 (by kernel_rfl) (lexj_x (I := inf) (J := jnf) 99 rfl rfl (by repeat (first | exact obs_nil | refine obs_same ?_ | refine obs_and ?_ | refine obs_by (by (simp [inB] <;> omega)) ?_)) (lexj_call rfl rfl rfl rfl rfl rfl rfl rfl level_sizes (lexj_x (I := inf) (J := jnf) 99 rfl rfl (by repeat (first | exact obs_nil | refine obs_same ?_ | refine obs_and ?_ | refine obs_by (by (simp [inB] <;> omega)) ?_)) (lexj_call rfl rfl rfl rfl rfl rfl rfl rfl (lie_6 p q n v pic hvt) (lexj_x (I := inf) (J := jnf) 99 rfl rfl (by repeat (first | exact obs_nil | refine obs_same ?_ | refine obs_and ?_ | refine obs_by (by (simp [inB] <;> omega)) ?_)) lexj_nil))))) ?_
            refine runS_x (I := inf) (J := jnf) ⟨false, false, [], 2, 0⟩ 9999 rfl (by repeat (first | exact obs_nil | refine obs_draw (by kernel_rfl) ?_ | refine obs_same ?_ | refine obs_and ?_ | refine obs_by (by (simp [inB] <;> omega)) ?_)) ?_
            exact rest _ _ ⟨⟨rfl, rfl, rfl, rfl, rfl⟩, by omega, rfl⟩
          · refine runS_draw 15 (by kernel_rfl) (lexj_x (I := inf) (J := jnf) 99 rfl rfl (by repeat (first | exact obs_nil | refine obs_same ?_ | refine obs_and ?_ | refine obs_by (by (simp [inB] <;> omega)) ?_)) (lexj_call rfl rfl rfl rfl rfl rfl rfl rfl level_sizes (lexj_x (I := inf) (J := jnf) 99 rfl rfl (by repeat (first | exact obs_nil | refine obs_same ?_ | refine obs_and ?_ | refine obs_by (by (simp [inB] <;> omega)) ?_)) (lexj_call rfl rfl rfl rfl rfl rfl rfl rfl (lie_7 p q n v pic) (lexj_x (I := inf) (J := jnf) 99 rfl rfl (by repeat (first | exact obs_nil | refine obs_same ?_ | refine obs_and ?_ | refine obs_by (by (simp [inB] <;> omega)) ?_)) lexj_nil))))) ?_
            refine runS_x (I := inf) (J := jnf) ⟨false, false, [], 2, 0⟩ 9999 rfl (by repeat (first | exact obs_nil | refine obs_draw (by kernel_rfl) ?_ | refine obs_same ?_ | refine obs_and ?_ | refine obs_by (by (simp [inB] <;> omega)) ?_)) ?_
            exact rest _ _ ⟨⟨rfl, rfl, rfl, rfl, rfl⟩, by omega, rfl⟩
          · refine runS_draw 15 (by kernel_rfl) (lexj_x (I := inf) (J := jnf) 99 rfl rfl (by repeat (first | exact obs_nil | refine obs_same ?_ | refine obs_and ?_ | refine obs_by (by (simp [inB] <;> omega)) ?_)) (lexj_call rfl rfl rfl rfl rfl rfl rfl rfl level_sizes (lexj_x (I := inf) (J := jnf) 99 rfl rfl (by repeat (first | exact obs_nil | refine obs_same ?_ | refine obs_and ?_ | refine obs_by (by (simp [inB] <;> omega)) ?_)) (lexj_call rfl rfl rfl rfl rfl rfl rfl rfl (lie_8 p q n v pic) (lexj_x (I := inf) (J := jnf) 99 rfl rfl (by repeat (first | exact obs_nil | refine obs_same ?_ | refine obs_and ?_ | refine obs_by (by (simp [inB] <;> omega)) ?_)) lexj_nil))))) ?_
            refine runS_x (I := inf) (J := jnf) ⟨false, false, [], 2, 0⟩ 9999 rfl (by repeat (first | exact obs_nil | refine obs_draw (by kernel_rfl) ?_ | refine obs_same ?_ | refine obs_and ?_ | refine obs_by (by (simp [inB] <;> omega)) ?_)) ?_
            exact rest _ _ ⟨⟨rfl, rfl, rfl, rfl, rfl⟩, by omega, rfl⟩
          · refine runS_draw 15 (by kernel_rfl) (lexj_x (I := inf) (J := jnf) 99 rfl rfl (by repeat (first | exact obs_nil | refine obs_same ?_ | refine obs_and ?_ | refine obs_by (by (simp [inB] <;> omega)) ?_)) (lexj_call rfl rfl rfl rfl rfl rfl rfl rfl level_sizes (lexj_x (I := inf) (J := jnf) 99 rfl rfl (by repeat (first | exact obs_nil | refine obs_same ?_ | refine obs_and ?_ | refine obs_by (by (simp [inB] <;> omega)) ?_)) (lexj_call rfl rfl rfl rfl rfl rfl rfl rfl (lie_9 p q n v pic) (lexj_x (I := inf) (J := jnf) 99 rfl rfl (by repeat (first | exact obs_nil | refine obs_same ?_ | refine obs_and ?_ | refine obs_by (by (simp [inB] <;> omega)) ?_)) lexj_nil))))) ?_
            refine runS_x (I := inf) (J := jnf) ⟨false, false, [], 2, 0⟩ 9999 rfl (by repeat (first | exact obs_nil | refine obs_draw (by kernel_rfl) ?_ | refine obs_same ?_ | refine obs_and ?_ | refine obs_by (by (simp [inB] <;> omega)) ?_)) ?_
            exact rest _ _ ⟨⟨rfl, rfl, rfl, rfl, rfl⟩, by omega, rfl⟩
      · have hkn : 0 < (kidsA l i).length := by
          have : (((kidsN l l.length i : Nat) : Int) == 0) = false := hlf
          have : ¬ kidsN l l.length i = 0 := by simpa using this
          show 0 < kidsN l l.length i
          omega
        refine runS_arEq (show _ = arnL o0 o1 o2 o3 l vals (sqR l (cntN l vals) S Z) ++ [.box 144 (nodE l i (kidC l i))] from rfl) ?_
        refine runS_x (I := inf) (J := jnf) ⟨false, false, [], 2, 0⟩ 9999 rfl (by repeat (first | exact obs_nil | refine obs_draw (by kernel_rfl) ?_ | refine obs_same ?_ | refine obs_and ?_ | refine obs_by (by (simp [inB] <;> omega)) ?_)) ?_
        have hcall := level_within1 hk l vals (cntN l vals) ok hl i hi hkn (fun c hc S Z => level_lay hk l vals ok hv hvo hl m c (kid_gt hc).2 (by have := (kid_gt hc).1; omega) S Z) S Z
        by_cases ht : (lay l (cntN l vals) i).1 ≤ 1000000
        · have hq : withinQ o0 o1 o2 o3 l vals (cntN l vals) i S Z = fun o A => o = .ret (.tup [iv (lay l (cntN l vals) i).1, iv (lay l (cntN l vals) i).2]) ∧ A = arnL o0 o1 o2 o3 l vals (sqR l (cntN l vals) (fun j => S j || withinK l i l.length j) (fun j => Z j || withinK l i l.length j)) := by
            funext o A; rw [withinQ, if_pos ht]
          rw [hq] at hcall
          refine runS_callF (arnL o0 o1 o2 o3 l vals (sqR l (cntN l vals) S Z)) (arnL o0 o1 o2 o3 l vals (sqR l (cntN l vals) (fun j => S j || withinK l i l.length j) (fun j => Z j || withinK l i l.length j))) [.box 144 (nodE l i (kidC l i))] rfl rfl rfl rfl rfl (show _ = [ptrL, .agg (nodE l i (kidC l i))] from rfl) rfl (kept_arn hk fun j hj => rfl) rfl rfl hcall ?_
          refine runS_x (I := inf) (J := jnf) ⟨false, false, [], 2, 0⟩ 9999 rfl (by repeat (first | exact obs_nil | refine obs_draw (by kernel_rfl) ?_ | refine obs_same ?_ | refine obs_and ?_ | refine obs_by (by (simp [inB] <;> omega)) ?_)) ?_
          exact rest _ _ ⟨⟨rfl, rfl, rfl, rfl, rfl⟩, ht, rfl⟩
        · have hq : withinQ o0 o1 o2 o3 l vals (cntN l vals) i S Z = fun o A => o = .pan (.ifc 170 (.agg [iv 4])) ∧ A = lostL o0 o1 o2 o3 := by
            funext o A; rw [withinQ, if_neg ht]
          rw [hq] at hcall
          refine runS_callFP (arnL o0 o1 o2 o3 l vals (sqR l (cntN l vals) S Z)) (lostL o0 o1 o2 o3) [.box 144 (nodE l i (kidC l i))] rfl rfl rfl rfl rfl (show _ = [ptrL, .agg (nodE l i (kidC l i))] from rfl) rfl (kept_arn hk fun j hj => rfl) rfl rfl hcall ?_
          refine runS_pan 7 rfl (Nat.le_refl _) rfl (hk _ (.gone (.gone (.gone .nil)))) ?_
          have := tk_ge ok hi
          rw [layQ, if_neg (by omega)]
          exact ⟨rfl, rfl⟩
    rintro τ2 ar2 ⟨⟨g0, g1, g4, g6, g7⟩, hsz, rfl⟩
    refine runS_says 0 (by exact g0) (Says.refl _) ?_; refine runS_says 1 (by exact g1) (Says.refl _) ?_; refine runS_says 4 (by exact g4) (Says.refl _) ?_; refine runS_says 6 (by exact g6) (Says.refl _) ?_; refine runS_says 7 (by exact g7) (Says.refl _) ?_
    obtain ⟨b1, b2, b3⟩ := lay_le ok hl hi
    refine runS_x (I := inf) (J := jnf) ⟨false, false, [], 0, 0⟩ 9999 rfl (by repeat (first | exact obs_nil | refine obs_draw (by kernel_rfl) ?_ | refine obs_same ?_ | refine obs_and ?_ | refine obs_by (by (simp [inB, hi] <;> omega)) ?_)) ?_
    refine runS_call rfl rfl rfl rfl rfl rfl rfl (level_raised (lay l (cntN l vals) i).1 (lay l (cntN l vals) i).2 (by omega) b2 b3) ?_
    refine runS_x (I := inf) (J := jnf) ⟨false, false, [], 0, 0⟩ 5 rfl (by repeat (first | exact obs_nil | refine obs_draw (by kernel_rfl) ?_ | refine obs_same ?_ | refine obs_and ?_ | refine obs_by (by (simp [inB, hi] <;> omega)) ?_)) ?_
    refine runS_tell 5 (fun j => [iv (if (S j || withinK l i l.length j) then offK l (cntN l vals) j else 0 : Nat), iv (if j = i then (lay l (cntN l vals) j).1 else if (Z j || withinK l i l.length j) then (lay l (cntN l vals) j).1 else 0 : Nat),
      iv (if (Z j || withinK l i l.length j) then upR (lay l (cntN l vals) j).1 (lay l (cntN l vals) j).2 else 0 : Nat)]) rfl rfl (fun j hj => ?_) rfl ?_
    · by_cases hji : j = i
      · rw [if_pos hji, hji]
        refine Eq.trans ?_ setR_self.symm
        rfl
      · rw [if_neg hji]
        refine Eq.trans ?_ (setR_ne hji).symm
        rfl
    refine runS_x (I := inf) (J := jnf) ⟨false, false, [], 0, 0⟩ 9999 rfl (by repeat (first | exact obs_nil | refine obs_draw (by kernel_rfl) ?_ | refine obs_same ?_ | refine obs_and ?_ | refine obs_by (by (simp [inB, hi] <;> omega)) ?_)) ?_
    refine runS_tell 5 (sqR l (cntN l vals) (fun j => S j || withinK l i l.length j) (fun j => Z j || decide (i ∈ anc l j))) rfl rfl (fun j hj => ?_) rfl ?_
    · show [iv (if (S j || withinK l i l.length j) then offK l (cntN l vals) j else 0 : Nat), iv (if (Z j || decide (i ∈ anc l j)) then (lay l (cntN l vals) j).1 else 0 : Nat), iv (if (Z j || decide (i ∈ anc l j)) then upR (lay l (cntN l vals) j).1 (lay l (cntN l vals) j).2 else 0 : Nat)] = _
      by_cases hji : j = i
      · rw [hji, decide_eq_true (anc_self l i), Bool.or_true, if_pos rfl, if_pos rfl]
        refine Eq.trans ?_ setR_self.symm
        show _ = [iv (if (S i || withinK l i l.length i) then offK l (cntN l vals) i else 0 : Nat), iv (if i = i then (lay l (cntN l vals) i).1 else if (Z i || withinK l i l.length i) then (lay l (cntN l vals) i).1 else 0 : Nat), iv (upR (lay l (cntN l vals) i).1 (lay l (cntN l vals) i).2 : Nat)]
        rw [if_pos (rfl : i = i)]
      · rw [anc_kid hj hji]
        refine Eq.trans ?_ (setR_ne hji).symm
        rw [if_neg hji]
    have hS' : tkK l (cntN l vals) i = if isArr l i then cntN l vals i * upR (lay l (cntN l vals) i).1 (lay l (cntN l vals) i).2 else (lay l (cntN l vals) i).1 := rfl
    have b5 := (upR_bound (n := (lay l (cntN l vals) i).1) b2 b3).2
    have hcb := ok.most i hi
    have hmul : cntN l vals i * upR (lay l (cntN l vals) i).1 (lay l (cntN l vals) i).2 ≤ 200 * 2000000 := Nat.mul_le_mul hcb (by omega)
    refine runS_cut (fun τ ar => (τ 4 = iv (lay l (cntN l vals) i).2 ∧ τ 5 = iv (tkK l (cntN l vals) i)) ∧ ar = arnL o0 o1 o2 o3 l vals (sqR l (cntN l vals) (fun j => S j || withinK l i l.length j) (fun j => Z j || decide (i ∈ anc l j))) ++ [.box 144 (nodE l i (kidC l i))]) (fun rest => ?_) ?_
    · refine runS_cond rfl (fun ha => ?_) (fun ha => ?_)
      · have ha' : isArr l i = true := ha
        rw [ha', if_pos rfl] at hS'
        refine runS_draw 9 (by kernel_rfl) (lexj_x (I := inf) (J := jnf) 99 rfl rfl (by repeat (first | exact obs_nil | refine obs_same ?_ | refine obs_and ?_ | refine obs_by (by (simp [inB, hi] <;> omega)) ?_)) (lexj_callF (arnL o0 o1 o2 o3 l vals (sqR l (cntN l vals) (fun j => S j || withinK l i l.length j) (fun j => Z j || decide (i ∈ anc l j)))) [.box 144 (nodE l i (kidC l i))] rfl rfl rfl rfl rfl rfl rfl (show _ = [ptrL, iv i] from rfl) rfl (kept_arn hk fun j hj => rfl) (level_count hk l vals _ _ (cntN l vals) i hi) (lexj_x (I := inf) (J := jnf) 99 rfl rfl (by repeat (first | exact obs_nil | refine obs_same ?_ | refine obs_and ?_ | refine obs_by (by (simp [inB, hi] <;> omega)) ?_)) lexj_nil))) ?_
        refine runS_x (I := inf) (J := jnf) ⟨false, false, [], 2, 0⟩ 9999 rfl (by repeat (first | exact obs_nil | refine obs_draw (by kernel_rfl) ?_ | refine obs_same ?_ | refine obs_and ?_ | refine obs_by (by (simp [inB] <;> omega)) ?_)) ?_
        refine rest _ _ ⟨⟨rfl, ?_⟩, rfl⟩
        have hz : (Z i || decide (i ∈ anc l i)) = true := by rw [decide_eq_true (anc_self l i), Bool.or_true]
        show iv (IntKind.wrap .i64 (cntV l vals i * ((if (Z i || decide (i ∈ anc l i)) then upR (lay l (cntN l vals) i).1 (lay l (cntN l vals) i).2 else 0 : Nat) : Int))) = _
        rw [hz, if_pos rfl, hS', ← cntN_int hv hvo hi, ← Int.natCast_mul, w64 (by omega) (by omega)]
      · have ha' : isArr l i = false := ha
        rw [ha', if_neg (by decide)] at hS'
        refine runS_x (I := inf) (J := jnf) ⟨false, false, [], 2, 0⟩ 9999 rfl (by repeat (first | exact obs_nil | refine obs_draw (by kernel_rfl) ?_ | refine obs_same ?_ | refine obs_and ?_ | refine obs_by (by (simp [inB] <;> omega)) ?_)) ?_
        refine rest _ _ ⟨⟨rfl, ?_⟩, rfl⟩
        rw [hS']; rfl
    rintro τ3 ar3 ⟨⟨g4, g5⟩, rfl⟩
    refine runS_says 4 (by exact g4) (Says.refl _) ?_; refine runS_says 5 (by exact g5) (Says.refl _) ?_
    refine runS_x (I := inf) (J := jnf) ⟨false, false, [], 0, 0⟩ 9999 rfl (by repeat (first | exact obs_nil | refine obs_draw (by kernel_rfl) ?_ | refine obs_same ?_ | refine obs_and ?_ | refine obs_by (by (simp [inB] <;> omega)) ?_)) ?_
    by_cases ht : tkK l (cntN l vals) i ≤ 1000000
    · have hd : decide ((tkK l (cntN l vals) i : Int) ≤ 1000000) = true := decide_eq_true (by omega)
      refine runS_says 69 (show _ = bv true from congrArg bv hd) (Says.refl _) ?_
      refine runS_call rfl rfl rfl rfl rfl rfl rfl (must_ok 4) ?_
      refine runS_x (I := inf) (J := jnf) ⟨false, false, [], 0, 0⟩ 9999 rfl (by repeat (first | exact obs_nil | refine obs_draw (by kernel_rfl) ?_ | refine obs_same ?_ | refine obs_and ?_ | refine obs_by (by (simp [inB] <;> omega)) ?_)) ?_
      refine runS_ret (I := inf) 7 rfl (Nat.le_refl _) rfl (kept_arn hk fun j hj => rfl) rfl ?_
      rw [layQ, if_pos ht]
      exact ⟨rfl, rfl⟩
    · have hd : decide ((tkK l (cntN l vals) i : Int) ≤ 1000000) = false := decide_eq_false (by omega)
      refine runS_says 69 (show _ = bv false from congrArg bv hd) (Says.refl _) ?_
      refine runS_callP rfl rfl rfl rfl rfl rfl rfl (must_no 4) ?_
      refine runS_lose 4 rfl ?_
      refine runS_lose 5 rfl ?_
      refine runS_lose 6 rfl ?_
      refine runS_pan 7 rfl (Nat.le_refl _) rfl (hk _ (.gone (.gone (.gone .nil)))) ?_
      rw [layQ, if_neg ht]
      exact ⟨rfl, rfl⟩
end Go.Iron.Try

/- The level package: Layout. -/
namespace Go.Iron.Try
open Go.Proofs

def spZ : Nat → List AV := fun _ => [iv 0, iv 0, iv 0]
abbrev layS (nl n2 : Option Bool) (l : List Fld) (vals : List Int) (M : List (Value × AV)) : List AO := [.box 41 [fldS nl l], .box 23 [intS n2 vals], .box 81 [.val (.slice none 0 0)], .box 51 [iv 0], .map 1 (some .i64) M, .row 86 3 1 l.length spZ, .box 131 [treeS none l, .row 4 1, .row 5 1]]
theorem level_Layout (nl n2 : Option Bool) (l : List Fld) (vals : List Int) (hs : smallF l) (h2 : vals.length < 1000000000) : CallT Try.prog 68 [fldS nl l, intS n2 vals] [] (fun o A => o = .ret (layoutA (layoutF l vals)) ∧ A = []) := by
  have hb := hs.1
  by_cases hv : validF l = true
  · have hlen := valid_len hv
    refine callS_body (n := 10) rfl rfl fun w ρ X => ?_
    refine runS_x (I := inf) (J := jnf) ⟨false, false, [113, 114], 0, 0⟩ 9999 rfl (by repeat (first | exact obs_nil | refine obs_draw (by kernel_rfl) ?_ | refine obs_same ?_ | refine obs_and ?_ | refine obs_by (by (simp [inB] <;> omega)) ?_)) ?_
    refine runS_hole ?_
    refine runS_hole ?_
    refine runS_drawG (ch := []) 6 [2, 5] (fun b => [.box 41 [fldS nl l], .box 23 [intS n2 vals], .box 81 [.val (.slice none 0 0)], .box 51 [iv 0], cond (b.getD 0 false) (.map 1 (some .i64) []) .hole, cond (b.getD 1 false) (.row 86 3 1 l.length (fun _ => [iv 0, iv 0, iv 0])) .hole]) none (c := 9) jnfI.draw (by kernel_rfl) rfl (lexg_g (I := inf) (J := jnf) none ⟨⟨⟨_, rfl, (by repeat (first | exact obs_nil | refine obs_same ?_ | refine obs_and ?_ | refine obs_by (by (simp [inB, hlen] <;> omega)) ?_))⟩, (by first | exact .inl (by decide +kernel) | exact .inr ⟨_, rfl, (by repeat (first | exact obs_nil | refine obs_same ?_ | refine obs_and ?_ | refine obs_by (by (simp [inB, hlen] <;> omega)) ?_))⟩)⟩, (by first | exact .inl (by decide +kernel) | exact .inr ⟨⟨_, rfl, (by repeat (first | exact obs_nil | refine obs_same ?_ | refine obs_and ?_ | refine obs_by (by (simp [inB, hlen] <;> omega)) ?_))⟩, (by first | exact .inl (by decide +kernel) | exact .inr ⟨_, rfl, (by repeat (first | exact obs_nil | refine obs_same ?_ | refine obs_and ?_ | refine obs_by (by (simp [inB, hlen] <;> omega)) ?_))⟩)⟩)⟩ rfl rfl rfl rfl (lexg_call rfl rfl rfl rfl rfl rfl rfl rfl rfl (valid_ok nl l 0 hs hv (by omega)) (lexg_g (I := inf) (J := jnf) (some (.hole 4)) ⟨⟨⟨_, rfl, (by repeat (first | exact obs_nil | refine obs_same ?_ | refine obs_and ?_ | refine obs_by (by (simp [inB, hlen] <;> omega)) ?_))⟩, (by first | exact .inl (by decide +kernel) | exact .inr ⟨_, rfl, (by repeat (first | exact obs_nil | refine obs_same ?_ | refine obs_and ?_ | refine obs_by (by (simp [inB, hlen] <;> omega)) ?_))⟩)⟩, .inl rfl⟩ rfl rfl rfl rfl (lexg_g (I := inf) (J := jnf) none ⟨⟨⟨_, rfl, (by repeat (first | exact obs_nil | refine obs_same ?_ | refine obs_and ?_ | refine obs_by (by (simp [inB, hlen] <;> omega)) ?_))⟩, (by first | exact .inl (by decide +kernel) | exact .inr ⟨_, rfl, (by repeat (first | exact obs_nil | refine obs_same ?_ | refine obs_and ?_ | refine obs_by (by (simp [inB, hlen] <;> omega)) ?_))⟩)⟩, (by first | exact .inl (by decide +kernel) | exact .inr ⟨⟨_, rfl, (by repeat (first | exact obs_nil | refine obs_same ?_ | refine obs_and ?_ | refine obs_by (by (simp [inB, hlen] <;> omega)) ?_))⟩, (by first | exact .inl (by decide +kernel) | exact .inr ⟨_, rfl, (by repeat (first | exact obs_nil | refine obs_same ?_ | refine obs_and ?_ | refine obs_by (by (simp [inB, hlen] <;> omega)) ?_))⟩)⟩)⟩ rfl rfl rfl rfl (lexg_g (I := inf) (J := jnf) none ⟨⟨⟨_, rfl, (by repeat (first | exact obs_nil | refine obs_same ?_ | refine obs_and ?_ | refine obs_by (by (simp [inB, hlen] <;> omega)) ?_))⟩, (by first | exact .inl (by decide +kernel) | exact .inr ⟨_, rfl, (by repeat (first | exact obs_nil | refine obs_same ?_ | refine obs_and ?_ | refine obs_by (by (simp [inB, hlen] <;> omega)) ?_))⟩)⟩, (by first | exact .inl (by decide +kernel) | exact .inr ⟨⟨_, rfl, (by repeat (first | exact obs_nil | refine obs_same ?_ | refine obs_and ?_ | refine obs_by (by (simp [inB, hlen] <;> omega)) ?_))⟩, (by first | exact .inl (by decide +kernel) | exact .inr ⟨_, rfl, (by repeat (first | exact obs_nil | refine obs_same ?_ | refine obs_and ?_ | refine obs_by (by (simp [inB, hlen] <;> omega)) ?_))⟩)⟩)⟩ rfl rfl rfl rfl (lexg_g (I := inf) (J := jnf) (some (.hole 5)) ⟨⟨⟨_, rfl, (by repeat (first | exact obs_nil | refine obs_same ?_ | refine obs_and ?_ | refine obs_by (by (simp [inB, hlen] <;> omega)) ?_))⟩, .inl rfl⟩, (by first | exact .inl (by decide +kernel) | exact .inr ⟨⟨_, rfl, (by repeat (first | exact obs_nil | refine obs_same ?_ | refine obs_and ?_ | refine obs_by (by (simp [inB, hlen] <;> omega)) ?_))⟩, .inl rfl⟩)⟩ rfl rfl rfl rfl lexg_nil)))))) rfl (fun _ => ?_) (fun h => by cases h)
    refine runS_x (I := inf) (J := jnf) ⟨false, false, [], 0, 0⟩ 9999 rfl (by repeat (first | exact obs_nil | refine obs_draw (by kernel_rfl) ?_ | refine obs_same ?_ | refine obs_and ?_ | refine obs_by (by (simp [inB] <;> omega)) ?_)) ?_
    refine runS_forget 7 rfl ?_
    refine runS_while (fun (i : Nat) τ ar => (τ 0 = .ptr 0 0 0 ∧ τ 1 = .ptr 1 0 0 ∧ τ 3 = ptrL ∧ τ 4 = iv (rfN l i) ∧ τ 15 = fldS nl l ∧ τ 16 = iv l.length ∧ τ 17 = iv i) ∧ ar = layS nl n2 l vals (mpK l vals i) ∧ i ≤ l.length ∧ (List.range i).all (vok l vals) = true) (fun i => l.length - i) 0
      ⟨⟨rfl, rfl, rfl, rfl, rfl, rfl, rfl⟩, rfl, Nat.zero_le _, rfl⟩ ?_
    rintro i τ' ar' ⟨⟨g0, g1, g3, g4, g15, g16, g17⟩, rfl, hi, hp⟩ ih
    refine runS_says 0 (by exact g0) (Says.refl _) ?_; refine runS_says 1 (by exact g1) (Says.refl _) ?_; refine runS_says 3 (by exact g3) (Says.refl _) ?_; refine runS_says 4 (by exact g4) (Says.refl _) ?_; refine runS_says 15 (by exact g15) (Says.refl _) ?_; refine runS_says 16 (by exact g16) (Says.refl _) ?_; refine runS_says 17 (by exact g17) (Says.refl _) ?_
    have hrf := rfN_le l i
    refine runS_x (I := inf) (J := jnf) ⟨false, false, [], 0, 0⟩ 9999 rfl (by repeat (first | exact obs_nil | refine obs_draw (by kernel_rfl) ?_ | refine obs_same ?_ | refine obs_and ?_ | refine obs_by (by (simp [inB] <;> omega)) ?_)) ?_
    refine runS_cond rfl (fun hlt => ?_) (fun hlt => ?_)
    · have hlt' : i < l.length := by simpa using hlt
      have hw2 : IntKind.wrap .i64 ((i : Int) + 1) = ((i + 1 : Nat) : Int) := by rw [w64 (by omega) (by omega)]; rfl
      refine runS_x (I := inf) (J := jnf) ⟨false, false, [], 0, 0⟩ 9999 rfl (by repeat (first | exact obs_nil | refine obs_draw (by kernel_rfl) ?_ | refine obs_same ?_ | refine obs_and ?_ | refine obs_by (by (simp [inB, hlt'] <;> omega)) ?_)) ?_
      refine runS_cond rfl (fun hr => ?_) (fun hr => ?_)
      · have hr' : isRef l i = false := by
          have : (fat l i).refer < 0 := of_decide_eq_true hr
          rw [isRef, decide_eq_false (by omega)]
        refine runS_x (I := inf) (J := jnf) ⟨false, false, [], 0, 0⟩ 9999 rfl (by repeat (first | exact obs_nil | refine obs_draw (by kernel_rfl) ?_ | refine obs_same ?_ | refine obs_and ?_ | refine obs_by (by (simp [inB] <;> omega)) ?_)) ?_
        refine runS_drop 7 (Nat.zero_le _) rfl (by repeat (first | exact .nil | refine .row (fun j hj => rfl) ?_ | refine .box rfl ?_ | refine .fam (fun k j hk hj => rfl) ?_ | refine .loop (scrub_under _ _) ?_ | refine .dfr ?_ | refine .gone ?_ | refine .map (fun p hp => by (obtain ⟨k, _, rfl⟩ := List.mem_map.1 hp; rfl)) ?_)) rfl rfl rfl (by repeat (first | exact .nil | refine .cons rfl rfl rfl (scrub_under _ _) ?_)) ?_
        refine ih (i + 1) _ _ (by omega) ⟨⟨rfl, rfl, rfl, ?_, rfl, rfl, ?_⟩, ?_, by omega, ?_⟩
        · rw [rfN_succ, hr']; rfl
        · show iv (IntKind.wrap .i64 ((i : Int) + 1)) = _
          rw [hw2]
        · rw [mpK_succ, hr']; rfl
        · rw [allPre_succ, hp, vok, hr']; rfl
      · have hr' : isRef l i = true := by
          have : ¬ (fat l i).refer < 0 := of_decide_eq_false hr
          rw [isRef, decide_eq_true (by omega)]
        refine runS_x (I := inf) (J := jnf) ⟨false, false, [], 0, 0⟩ 9999 rfl (by repeat (first | exact obs_nil | refine obs_draw (by kernel_rfl) ?_ | refine obs_same ?_ | refine obs_and ?_ | refine obs_by (by (simp [inB] <;> omega)) ?_)) ?_
        refine runS_draw 13 (by kernel_rfl) (lexj_x (I := inf) (J := jnf) 99 rfl rfl (by repeat (first | exact obs_nil | refine obs_same ?_ | refine obs_and ?_ | refine obs_by (by (simp [inB] <;> omega)) ?_)) (lexj_callU rfl rfl (by first | exact .v rfl rfl rfl rfl | exact .o rfl rfl rfl rfl) rfl rfl (by repeat (first | exact .nil | refine .cons (.n rfl) ?_ | refine .cons .o ?_ | refine .cons gok_and ?_)) rfl rfl rfl rfl rfl (fun hcond => (level_within _ _ _)) (lexj_x (I := inf) (J := jnf) 99 rfl rfl (by repeat (first | exact obs_nil | refine obs_same ?_ | refine obs_and ?_ | refine obs_by (by (simp [inB] <;> omega)) ?_)) lexj_nil))) ?_
        have hw : (if decide ((rfN l i : Int) < (vals.length : Int)) = true then (decide ((fat l i).count ≤ vals.getD (rfN l i) 0) && decide (vals.getD (rfN l i) 0 ≤ 200)) else false) = vok l vals i := by
          rw [vok, hr']
          generalize vals.getD (rfN l i) 0 = v
          generalize (fat l i).count = c
          rw [Bool.eq_iff_iff]
          simp
          try omega
        by_cases hz : vok l vals i = true
        · have hrl : rfN l i < vals.length := by
            have := hz
            rw [vok, hr'] at this
            simp at this
            exact this.1.1
          refine runS_says 37 (show _ = bv true from congrArg bv (hw.trans hz)) (Says.refl _) ?_
          refine runS_call rfl rfl rfl rfl rfl rfl rfl (must_ok 11) ?_
          refine runS_x (I := inf) (J := jnf) ⟨false, false, [], 0, 0⟩ 9999 rfl (by repeat (first | exact obs_nil | refine obs_draw (by kernel_rfl) ?_ | refine obs_same ?_ | refine obs_and ?_ | refine obs_by (by (simp [inB, hrl] <;> omega)) ?_)) ?_
          refine runS_arEq (show _ = layS nl n2 l vals (mapPut (mpK l vals i) (.int .i64 i) (iv (vals.getD (rfN l i) 0))) ++ [.box 90 (fldE (fat l i))] from rfl) ?_
          rw [mpK_put l vals i hr']
          refine runS_drop 7 (Nat.zero_le _) rfl (by repeat (first | exact .nil | refine .row (fun j hj => rfl) ?_ | refine .box rfl ?_ | refine .fam (fun k j hk hj => rfl) ?_ | refine .loop (scrub_under _ _) ?_ | refine .dfr ?_ | refine .gone ?_ | refine .map (fun p hp => by (obtain ⟨k, _, rfl⟩ := List.mem_map.1 hp; rfl)) ?_)) rfl rfl rfl (by repeat (first | exact .nil | refine .cons rfl rfl rfl (scrub_under _ _) ?_)) ?_
          refine ih (i + 1) _ _ (by omega) ⟨⟨rfl, rfl, rfl, ?_, rfl, rfl, ?_⟩, ?_, by omega, ?_⟩
          · show iv (IntKind.wrap .i64 ((rfN l i : Int) + 1)) = _
            rw [rfN_succ, hr', w64 (by omega) (by omega)]; rfl
          · show iv (IntKind.wrap .i64 ((i : Int) + 1)) = _
            rw [hw2]
          · rfl
          · rw [allPre_succ, hp, hz]; rfl
        · have hz' : vok l vals i = false := by simpa using hz
          refine runS_says 37 (show _ = bv false from congrArg bv (hw.trans hz')) (Says.refl _) ?_
          refine runS_callP rfl rfl rfl rfl rfl rfl rfl (must_no 11) ?_
          refine runS_forget 4 rfl ?_
          refine runS_drop 4 (Nat.zero_le _) rfl (by repeat (first | exact .nil | refine .row (fun j hj => rfl) ?_ | refine .box rfl ?_ | refine .fam (fun k j hk hj => rfl) ?_ | refine .loop (scrub_under _ _) ?_ | refine .dfr ?_ | refine .gone ?_ | refine .map (fun p hp => by (obtain ⟨k, _, rfl⟩ := List.mem_map.1 hp; rfl)) ?_)) rfl rfl rfl (by repeat (first | exact .nil | refine .cons rfl rfl rfl (scrub_under _ _) ?_)) ?_
          refine runS_x (I := inf) (J := jnf) ⟨true, false, [160], 0, 0⟩ 9999 rfl (by repeat (first | exact obs_nil | refine obs_draw (by kernel_rfl) ?_ | refine obs_same ?_ | refine obs_and ?_ | refine obs_by (by (simp [inB] <;> omega)) ?_)) ?_
          refine runS_drawG (ch := []) 4 [3] (fun b => [.box 41 [fldS nl l], .box 23 [intS n2 vals], .box 81 [.val (.slice none 0 0)], .box 51 [iv 0], .box 170 [iv 11]]) none (c := 9) jnfI.draw (by kernel_rfl) rfl (lexg_g (I := inf) (J := jnf) none ⟨⟨_, rfl, (by repeat (first | exact obs_nil | refine obs_same ?_ | refine obs_and ?_ | refine obs_by (by (simp [inB] <;> omega)) ?_))⟩, (by first | exact .inl (by decide +kernel) | exact .inr ⟨_, rfl, (by repeat (first | exact obs_nil | refine obs_same ?_ | refine obs_and ?_ | refine obs_by (by (simp [inB] <;> omega)) ?_))⟩)⟩ rfl rfl rfl rfl (lexg_g (I := inf) (J := jnf) none ⟨⟨_, rfl, (by repeat (first | exact obs_nil | refine obs_same ?_ | refine obs_and ?_ | refine obs_by (by (simp [inB] <;> omega)) ?_))⟩, (by first | exact .inl (by decide +kernel) | exact .inr ⟨_, rfl, (by repeat (first | exact obs_nil | refine obs_same ?_ | refine obs_and ?_ | refine obs_by (by (simp [inB] <;> omega)) ?_))⟩)⟩ rfl rfl rfl rfl (lexg_g (I := inf) (J := jnf) none ⟨⟨_, rfl, (by repeat (first | exact obs_nil | refine obs_same ?_ | refine obs_and ?_ | refine obs_by (by (simp [inB] <;> omega)) ?_))⟩, (by first | exact .inl (by decide +kernel) | exact .inr ⟨_, rfl, (by repeat (first | exact obs_nil | refine obs_same ?_ | refine obs_and ?_ | refine obs_by (by (simp [inB] <;> omega)) ?_))⟩)⟩ rfl rfl rfl rfl (lexg_g (I := inf) (J := jnf) (some .store) ⟨⟨_, rfl, (by repeat (first | exact obs_nil | refine obs_same ?_ | refine obs_and ?_ | refine obs_by (by (simp [inB] <;> omega)) ?_))⟩, .inl rfl⟩ rfl rfl rfl rfl lexg_nil)))) rfl (fun _ => ?_) (fun h => by cases h)
          refine runS_x (I := inf) (J := jnf) ⟨true, false, [160], 0, 0⟩ 9999 rfl (by repeat (first | exact obs_nil | refine obs_draw (by kernel_rfl) ?_ | refine obs_same ?_ | refine obs_and ?_ | refine obs_by (by (simp [inB] <;> omega)) ?_)) ?_
          refine runS_says 4 rfl (says_nil0 (sz := 3) (r := nilSp) (Nat.zero_le _)) ?_
          refine runS_ret (I := inf) 0 rfl (Nat.le_refl _) rfl .nil rfl ⟨?_, rfl⟩
          rw [layoutF, if_pos hv, not_vals hlt' hz']
          rfl
    · have hie : i = l.length := by simp at hlt; omega
      subst hie
      refine runS_x (I := inf) (J := jnf) ⟨false, false, [], 0, 0⟩ 9999 rfl (by repeat (first | exact obs_nil | refine obs_draw (by kernel_rfl) ?_ | refine obs_same ?_ | refine obs_and ?_ | refine obs_by (by (simp [inB] <;> omega)) ?_)) ?_
      by_cases hz : valsOK l vals = true
      · have hd : ((rfN l l.length : Int) == (vals.length : Int)) = true := by
          simp only [valsOK, Bool.and_eq_true, beq_iff_eq] at hz
          rw [beq_iff_eq]
          omega
        refine runS_says 54 (show _ = bv true from congrArg bv hd) (Says.refl _) ?_
        refine runS_call rfl rfl rfl rfl rfl rfl rfl (must_ok 11) ?_
        refine runS_x (I := inf) (J := jnf) ⟨false, false, [], 0, 0⟩ 9999 rfl (by repeat (first | exact obs_nil | refine obs_draw (by kernel_rfl) ?_ | refine obs_same ?_ | refine obs_and ?_ | refine obs_by (by (simp [inB] <;> omega)) ?_)) ?_
        have ok := layOK_of hv hz
        have hk : Kept4 7 (.box 41 [fldS nl l]) (.box 23 [intS n2 vals]) (.box 81 [.val (.slice none 0 0)]) (.box 51 [iv 0]) := fun L h => .box rfl (.box rfl (.box rfl (.box rfl h)))
        refine runS_tell 5 (sqR l (cntN l vals) (fun _ => false) (fun _ => false)) rfl rfl (fun j hj => rfl) rfl ?_
        have hcall := level_lay hk l vals ok hv hz hlen.2 l.length 0 (by omega) (by omega) (fun _ => false) (fun _ => false)
        by_cases ht : tkK l (cntN l vals) 0 ≤ 1000000
        · have hq : layQ (.box 41 [fldS nl l]) (.box 23 [intS n2 vals]) (.box 81 [.val (.slice none 0 0)]) (.box 51 [iv 0]) l vals (cntN l vals) 0 (fun _ => false) (fun _ => false) = fun o A => o = .ret (.tup [iv (lay l (cntN l vals) 0).2, iv (tkK l (cntN l vals) 0)]) ∧ A = arnL (.box 41 [fldS nl l]) (.box 23 [intS n2 vals]) (.box 81 [.val (.slice none 0 0)]) (.box 51 [iv 0]) l vals (sqR l (cntN l vals) (fun j => false || withinK l 0 l.length j) (fun j => false || decide (0 ∈ anc l j))) := by
            funext o A; rw [layQ, if_pos ht]
          rw [hq] at hcall
          refine runS_callF (arnL (.box 41 [fldS nl l]) (.box 23 [intS n2 vals]) (.box 81 [.val (.slice none 0 0)]) (.box 51 [iv 0]) l vals (sqR l (cntN l vals) (fun _ => false) (fun _ => false)))
            (arnL (.box 41 [fldS nl l]) (.box 23 [intS n2 vals]) (.box 81 [.val (.slice none 0 0)]) (.box 51 [iv 0]) l vals (sqR l (cntN l vals) (fun j => false || withinK l 0 l.length j) (fun j => false || decide (0 ∈ anc l j)))) [] rfl rfl rfl rfl rfl (show _ = [ptrL, iv ((0 : Nat) : Int)] from rfl) rfl (kept_arn hk fun j hj => rfl) rfl rfl hcall ?_
          refine runS_tell 5 (encR spE (0, 0, 0) (spotsL l (cntN l vals))) rfl rfl (fun j hj => ?_) rfl ?_
          · have e : (spotsL l (cntN l vals)).getD j (0, 0, 0) = spotK l (cntN l vals) j := by
              rw [spotsL, List.getD_eq_getElem?_getD, List.getElem?_map, List.getElem?_range hj]; rfl
            show spE ((spotsL l (cntN l vals)).getD j (0, 0, 0)) = _
            rw [e]
            show _ = [iv (if (false || withinK l 0 l.length j) then offK l (cntN l vals) j else 0 : Nat), iv (if (false || decide (0 ∈ anc l j)) then (lay l (cntN l vals) j).1 else 0 : Nat), iv (if (false || decide (0 ∈ anc l j)) then upR (lay l (cntN l vals) j).1 (lay l (cntN l vals) j).2 else 0 : Nat)]
            have h1 : (false || decide (0 ∈ anc l j)) = true := by rw [decide_eq_true (anc0 hv j hj)]; rfl
            rw [h1]
            by_cases hj0 : j = 0
            · subst hj0
              have : offK l (cntN l vals) 0 = 0 := rfl
              unfold spE spotK
              rw [this, ite_self]
              rfl
            · have h2 : (false || withinK l 0 l.length j) = true := by rw [← anc_kid hj hj0]; exact h1
              rw [h2]
              rfl
          refine runS_x (I := inf) (J := jnf) ⟨true, false, [160], 0, 0⟩ 9999 rfl (by repeat (first | exact obs_nil | refine obs_draw (by kernel_rfl) ?_ | refine obs_same ?_ | refine obs_and ?_ | refine obs_by (by (simp [inB] <;> omega)) ?_)) ?_
          have hsl : (spotsL l (cntN l vals)).length = l.length := by simp [spotsL]
          refine runS_freeze 4 rfl rfl rfl (fun j hj => rfl) ?_
          refine runS_ret (I := inf) 0 rfl (Nat.le_refl _) rfl .nil rfl ⟨?_, rfl⟩
          rw [layoutF, if_pos hv, if_pos hz, if_pos ht]
          rw [layoutA, spotS, hsl]
          try rfl
        · have hq : layQ (.box 41 [fldS nl l]) (.box 23 [intS n2 vals]) (.box 81 [.val (.slice none 0 0)]) (.box 51 [iv 0]) l vals (cntN l vals) 0 (fun _ => false) (fun _ => false) = fun o A => o = .pan (.ifc 170 (.agg [iv 4])) ∧ A = lostL (.box 41 [fldS nl l]) (.box 23 [intS n2 vals]) (.box 81 [.val (.slice none 0 0)]) (.box 51 [iv 0]) := by
            funext o A; rw [layQ, if_neg ht]
          rw [hq] at hcall
          refine runS_callFP (arnL (.box 41 [fldS nl l]) (.box 23 [intS n2 vals]) (.box 81 [.val (.slice none 0 0)]) (.box 51 [iv 0]) l vals (sqR l (cntN l vals) (fun _ => false) (fun _ => false)))
            (lostL (.box 41 [fldS nl l]) (.box 23 [intS n2 vals]) (.box 81 [.val (.slice none 0 0)]) (.box 51 [iv 0])) [] rfl rfl rfl rfl rfl (show _ = [ptrL, iv ((0 : Nat) : Int)] from rfl) rfl (kept_arn hk fun j hj => rfl) rfl rfl hcall ?_
          refine runS_forget 4 rfl ?_
          refine runS_drop 4 (Nat.zero_le _) rfl (by repeat (first | exact .nil | refine .row (fun j hj => rfl) ?_ | refine .box rfl ?_ | refine .fam (fun k j hk hj => rfl) ?_ | refine .loop (scrub_under _ _) ?_ | refine .dfr ?_ | refine .gone ?_ | refine .map (fun p hp => by (obtain ⟨k, _, rfl⟩ := List.mem_map.1 hp; rfl)) ?_)) rfl rfl rfl (by repeat (first | exact .nil | refine .cons rfl rfl rfl (scrub_under _ _) ?_)) ?_
          refine runS_x (I := inf) (J := jnf) ⟨true, false, [160], 0, 0⟩ 9999 rfl (by repeat (first | exact obs_nil | refine obs_draw (by kernel_rfl) ?_ | refine obs_same ?_ | refine obs_and ?_ | refine obs_by (by (simp [inB] <;> omega)) ?_)) ?_
          refine runS_drawG (ch := []) 4 [3] (fun b => [.box 41 [fldS nl l], .box 23 [intS n2 vals], .box 81 [.val (.slice none 0 0)], .box 51 [iv 0], .box 170 [iv 4]]) none (c := 9) jnfI.draw (by kernel_rfl) rfl (lexg_g (I := inf) (J := jnf) none ⟨⟨_, rfl, (by repeat (first | exact obs_nil | refine obs_same ?_ | refine obs_and ?_ | refine obs_by (by (simp [inB] <;> omega)) ?_))⟩, (by first | exact .inl (by decide +kernel) | exact .inr ⟨_, rfl, (by repeat (first | exact obs_nil | refine obs_same ?_ | refine obs_and ?_ | refine obs_by (by (simp [inB] <;> omega)) ?_))⟩)⟩ rfl rfl rfl rfl (lexg_g (I := inf) (J := jnf) none ⟨⟨_, rfl, (by repeat (first | exact obs_nil | refine obs_same ?_ | refine obs_and ?_ | refine obs_by (by (simp [inB] <;> omega)) ?_))⟩, (by first | exact .inl (by decide +kernel) | exact .inr ⟨_, rfl, (by repeat (first | exact obs_nil | refine obs_same ?_ | refine obs_and ?_ | refine obs_by (by (simp [inB] <;> omega)) ?_))⟩)⟩ rfl rfl rfl rfl (lexg_g (I := inf) (J := jnf) none ⟨⟨_, rfl, (by repeat (first | exact obs_nil | refine obs_same ?_ | refine obs_and ?_ | refine obs_by (by (simp [inB] <;> omega)) ?_))⟩, (by first | exact .inl (by decide +kernel) | exact .inr ⟨_, rfl, (by repeat (first | exact obs_nil | refine obs_same ?_ | refine obs_and ?_ | refine obs_by (by (simp [inB] <;> omega)) ?_))⟩)⟩ rfl rfl rfl rfl (lexg_g (I := inf) (J := jnf) (some .store) ⟨⟨_, rfl, (by repeat (first | exact obs_nil | refine obs_same ?_ | refine obs_and ?_ | refine obs_by (by (simp [inB] <;> omega)) ?_))⟩, .inl rfl⟩ rfl rfl rfl rfl lexg_nil)))) rfl (fun _ => ?_) (fun h => by cases h)
          refine runS_x (I := inf) (J := jnf) ⟨true, false, [160], 0, 0⟩ 9999 rfl (by repeat (first | exact obs_nil | refine obs_draw (by kernel_rfl) ?_ | refine obs_same ?_ | refine obs_and ?_ | refine obs_by (by (simp [inB] <;> omega)) ?_)) ?_
          refine runS_says 4 rfl (says_nil0 (sz := 3) (r := nilSp) (Nat.zero_le _)) ?_
          refine runS_ret (I := inf) 0 rfl (Nat.le_refl _) rfl .nil rfl ⟨?_, rfl⟩
          rw [layoutF, if_pos hv, if_pos hz, if_neg ht]
          rfl
      · have hd : ((rfN l l.length : Int) == (vals.length : Int)) = false := by
          have : valsOK l vals = false := by simpa using hz
          rw [valsOK, hp, Bool.true_and, beq_eq_false_iff_ne] at this
          rw [beq_eq_false_iff_ne]
          omega
        refine runS_says 54 (show _ = bv false from congrArg bv hd) (Says.refl _) ?_
        refine runS_callP rfl rfl rfl rfl rfl rfl rfl (must_no 11) ?_
        refine runS_forget 4 rfl ?_
        refine runS_drop 4 (Nat.zero_le _) rfl (by repeat (first | exact .nil | refine .row (fun j hj => rfl) ?_ | refine .box rfl ?_ | refine .fam (fun k j hk hj => rfl) ?_ | refine .loop (scrub_under _ _) ?_ | refine .dfr ?_ | refine .gone ?_ | refine .map (fun p hp => by (obtain ⟨k, _, rfl⟩ := List.mem_map.1 hp; rfl)) ?_)) rfl rfl rfl (by repeat (first | exact .nil | refine .cons rfl rfl rfl (scrub_under _ _) ?_)) ?_
        refine runS_x (I := inf) (J := jnf) ⟨true, false, [160], 0, 0⟩ 9999 rfl (by repeat (first | exact obs_nil | refine obs_draw (by kernel_rfl) ?_ | refine obs_same ?_ | refine obs_and ?_ | refine obs_by (by (simp [inB] <;> omega)) ?_)) ?_
        refine runS_drawG (ch := []) 4 [3] (fun b => [.box 41 [fldS nl l], .box 23 [intS n2 vals], .box 81 [.val (.slice none 0 0)], .box 51 [iv 0], .box 170 [iv 11]]) none (c := 9) jnfI.draw (by kernel_rfl) rfl (lexg_g (I := inf) (J := jnf) none ⟨⟨_, rfl, (by repeat (first | exact obs_nil | refine obs_same ?_ | refine obs_and ?_ | refine obs_by (by (simp [inB] <;> omega)) ?_))⟩, (by first | exact .inl (by decide +kernel) | exact .inr ⟨_, rfl, (by repeat (first | exact obs_nil | refine obs_same ?_ | refine obs_and ?_ | refine obs_by (by (simp [inB] <;> omega)) ?_))⟩)⟩ rfl rfl rfl rfl (lexg_g (I := inf) (J := jnf) none ⟨⟨_, rfl, (by repeat (first | exact obs_nil | refine obs_same ?_ | refine obs_and ?_ | refine obs_by (by (simp [inB] <;> omega)) ?_))⟩, (by first | exact .inl (by decide +kernel) | exact .inr ⟨_, rfl, (by repeat (first | exact obs_nil | refine obs_same ?_ | refine obs_and ?_ | refine obs_by (by (simp [inB] <;> omega)) ?_))⟩)⟩ rfl rfl rfl rfl (lexg_g (I := inf) (J := jnf) none ⟨⟨_, rfl, (by repeat (first | exact obs_nil | refine obs_same ?_ | refine obs_and ?_ | refine obs_by (by (simp [inB] <;> omega)) ?_))⟩, (by first | exact .inl (by decide +kernel) | exact .inr ⟨_, rfl, (by repeat (first | exact obs_nil | refine obs_same ?_ | refine obs_and ?_ | refine obs_by (by (simp [inB] <;> omega)) ?_))⟩)⟩ rfl rfl rfl rfl (lexg_g (I := inf) (J := jnf) (some .store) ⟨⟨_, rfl, (by repeat (first | exact obs_nil | refine obs_same ?_ | refine obs_and ?_ | refine obs_by (by (simp [inB] <;> omega)) ?_))⟩, .inl rfl⟩ rfl rfl rfl rfl lexg_nil)))) rfl (fun _ => ?_) (fun h => by cases h)
        refine runS_x (I := inf) (J := jnf) ⟨true, false, [160], 0, 0⟩ 9999 rfl (by repeat (first | exact obs_nil | refine obs_draw (by kernel_rfl) ?_ | refine obs_same ?_ | refine obs_and ?_ | refine obs_by (by (simp [inB] <;> omega)) ?_)) ?_
        refine runS_says 4 rfl (says_nil0 (sz := 3) (r := nilSp) (Nat.zero_le _)) ?_
        refine runS_ret (I := inf) 0 rfl (Nat.le_refl _) rfl .nil rfl ⟨?_, rfl⟩
        rw [layoutF, if_pos hv, if_neg hz]
        rfl
  · refine callS_body (n := 10) rfl rfl fun w ρ X => ?_
    refine runS_x (I := inf) (J := jnf) ⟨false, false, [113, 114], 0, 0⟩ 9999 rfl (by repeat (first | exact obs_nil | refine obs_draw (by kernel_rfl) ?_ | refine obs_same ?_ | refine obs_and ?_ | refine obs_by (by (simp [inB] <;> omega)) ?_)) ?_
    refine runS_hole ?_
    refine runS_hole ?_
    refine runS_drawG 6 [2, 5] (fun b => [.box 41 [fldS nl l], .box 23 [intS n2 vals], .box 81 [.val (.slice none 0 0)], .box 51 [iv 0], cond (b.getD 0 false) (.map 1 (some .i64) []) .hole, cond (b.getD 1 false) (.row 86 3 1 l.length (fun _ => [iv 0, iv 0, iv 0])) .hole]) (some 1) (c := 9) jnfI.draw (by kernel_rfl) rfl (lexg_g (I := inf) (J := jnf) none ⟨⟨⟨_, rfl, (by repeat (first | exact obs_nil | refine obs_same ?_ | refine obs_and ?_ | refine obs_by (by (simp [inB, hb] <;> omega)) ?_))⟩, (by first | exact .inl (by decide +kernel) | exact .inr ⟨_, rfl, (by repeat (first | exact obs_nil | refine obs_same ?_ | refine obs_and ?_ | refine obs_by (by (simp [inB, hb] <;> omega)) ?_))⟩)⟩, (by first | exact .inl (by decide +kernel) | exact .inr ⟨⟨_, rfl, (by repeat (first | exact obs_nil | refine obs_same ?_ | refine obs_and ?_ | refine obs_by (by (simp [inB, hb] <;> omega)) ?_))⟩, (by first | exact .inl (by decide +kernel) | exact .inr ⟨_, rfl, (by repeat (first | exact obs_nil | refine obs_same ?_ | refine obs_and ?_ | refine obs_by (by (simp [inB, hb] <;> omega)) ?_))⟩)⟩)⟩ rfl rfl rfl rfl (lexg_pan rfl rfl rfl rfl rfl rfl rfl rfl (valid_bad1 nl l 0 hs (by simpa using hv)) (lexg_g (I := inf) (J := jnf) (some (.hole 4)) ⟨⟨⟨_, rfl, (by repeat (first | exact obs_nil | refine obs_same ?_ | refine obs_and ?_ | refine obs_by (by (simp [inB, hb] <;> omega)) ?_))⟩, (by first | exact .inl (by decide +kernel) | exact .inr ⟨_, rfl, (by repeat (first | exact obs_nil | refine obs_same ?_ | refine obs_and ?_ | refine obs_by (by (simp [inB, hb] <;> omega)) ?_))⟩)⟩, .inl rfl⟩ rfl rfl rfl rfl (lexg_g (I := inf) (J := jnf) none ⟨⟨⟨_, rfl, (by repeat (first | exact obs_nil | refine obs_same ?_ | refine obs_and ?_ | refine obs_by (by (simp [inB, hb] <;> omega)) ?_))⟩, (by first | exact .inl (by decide +kernel) | exact .inr ⟨_, rfl, (by repeat (first | exact obs_nil | refine obs_same ?_ | refine obs_and ?_ | refine obs_by (by (simp [inB, hb] <;> omega)) ?_))⟩)⟩, (by first | exact .inl (by decide +kernel) | exact .inr ⟨⟨_, rfl, (by repeat (first | exact obs_nil | refine obs_same ?_ | refine obs_and ?_ | refine obs_by (by (simp [inB, hb] <;> omega)) ?_))⟩, (by first | exact .inl (by decide +kernel) | exact .inr ⟨_, rfl, (by repeat (first | exact obs_nil | refine obs_same ?_ | refine obs_and ?_ | refine obs_by (by (simp [inB, hb] <;> omega)) ?_))⟩)⟩)⟩ rfl rfl rfl rfl (lexg_g (I := inf) (J := jnf) none ⟨⟨⟨_, rfl, (by repeat (first | exact obs_nil | refine obs_same ?_ | refine obs_and ?_ | refine obs_by (by (simp [inB, hb] <;> omega)) ?_))⟩, (by first | exact .inl (by decide +kernel) | exact .inr ⟨_, rfl, (by repeat (first | exact obs_nil | refine obs_same ?_ | refine obs_and ?_ | refine obs_by (by (simp [inB, hb] <;> omega)) ?_))⟩)⟩, (by first | exact .inl (by decide +kernel) | exact .inr ⟨⟨_, rfl, (by repeat (first | exact obs_nil | refine obs_same ?_ | refine obs_and ?_ | refine obs_by (by (simp [inB, hb] <;> omega)) ?_))⟩, (by first | exact .inl (by decide +kernel) | exact .inr ⟨_, rfl, (by repeat (first | exact obs_nil | refine obs_same ?_ | refine obs_and ?_ | refine obs_by (by (simp [inB, hb] <;> omega)) ?_))⟩)⟩)⟩ rfl rfl rfl rfl (lexg_g (I := inf) (J := jnf) (some (.hole 5)) ⟨⟨⟨_, rfl, (by repeat (first | exact obs_nil | refine obs_same ?_ | refine obs_and ?_ | refine obs_by (by (simp [inB, hb] <;> omega)) ?_))⟩, .inl rfl⟩, (by first | exact .inl (by decide +kernel) | exact .inr ⟨⟨_, rfl, (by repeat (first | exact obs_nil | refine obs_same ?_ | refine obs_and ?_ | refine obs_by (by (simp [inB, hb] <;> omega)) ?_))⟩, .inl rfl⟩)⟩ rfl rfl rfl rfl lexg_nil)))))) rfl (fun h => by cases h) (fun _ b tt => ?_)
    refine runS_lose 4 rfl ?_
    refine runS_lose 5 rfl ?_
    refine runS_x (I := inf) (J := jnf) ⟨true, false, [160], 0, 0⟩ 9999 rfl (by repeat (first | exact obs_nil | refine obs_draw (by kernel_rfl) ?_ | refine obs_same ?_ | refine obs_and ?_ | refine obs_by (by (simp [inB] <;> omega)) ?_)) ?_
    refine runS_drawG (ch := []) 4 [3] (fun b => [.box 41 [fldS nl l], .box 23 [intS n2 vals], .box 81 [.val (.slice none 0 0)], .box 51 [iv 0], .gone, .gone, .box 170 [iv 1]]) none (c := 9) jnfI.draw (by kernel_rfl) rfl (lexg_g (I := inf) (J := jnf) none ⟨⟨_, rfl, (by repeat (first | exact obs_nil | refine obs_same ?_ | refine obs_and ?_ | refine obs_by (by (simp [inB] <;> omega)) ?_))⟩, (by first | exact .inl (by decide +kernel) | exact .inr ⟨_, rfl, (by repeat (first | exact obs_nil | refine obs_same ?_ | refine obs_and ?_ | refine obs_by (by (simp [inB] <;> omega)) ?_))⟩)⟩ rfl rfl rfl rfl (lexg_g (I := inf) (J := jnf) none ⟨⟨_, rfl, (by repeat (first | exact obs_nil | refine obs_same ?_ | refine obs_and ?_ | refine obs_by (by (simp [inB] <;> omega)) ?_))⟩, (by first | exact .inl (by decide +kernel) | exact .inr ⟨_, rfl, (by repeat (first | exact obs_nil | refine obs_same ?_ | refine obs_and ?_ | refine obs_by (by (simp [inB] <;> omega)) ?_))⟩)⟩ rfl rfl rfl rfl (lexg_g (I := inf) (J := jnf) none ⟨⟨_, rfl, (by repeat (first | exact obs_nil | refine obs_same ?_ | refine obs_and ?_ | refine obs_by (by (simp [inB] <;> omega)) ?_))⟩, (by first | exact .inl (by decide +kernel) | exact .inr ⟨_, rfl, (by repeat (first | exact obs_nil | refine obs_same ?_ | refine obs_and ?_ | refine obs_by (by (simp [inB] <;> omega)) ?_))⟩)⟩ rfl rfl rfl rfl (lexg_g (I := inf) (J := jnf) (some .store) ⟨⟨_, rfl, (by repeat (first | exact obs_nil | refine obs_same ?_ | refine obs_and ?_ | refine obs_by (by (simp [inB] <;> omega)) ?_))⟩, .inl rfl⟩ rfl rfl rfl rfl lexg_nil)))) rfl (fun _ => ?_) (fun h => by cases h)
    refine runS_x (I := inf) (J := jnf) ⟨true, false, [160], 0, 0⟩ 9999 rfl (by repeat (first | exact obs_nil | refine obs_draw (by kernel_rfl) ?_ | refine obs_same ?_ | refine obs_and ?_ | refine obs_by (by (simp [inB] <;> omega)) ?_)) ?_
    refine runS_says 4 rfl (says_nil0 (sz := 3) (r := nilSp) (Nat.zero_le _)) ?_
    refine runS_ret (I := inf) 0 rfl (Nat.le_refl _) rfl .nil rfl ⟨?_, rfl⟩
    rw [layoutF, if_neg hv]
    rfl
end Go.Iron.Try

/- The level package's laws: light, awake. -/
namespace Go.Iron.Try
open Go.Proofs

def litL : List Fld := [⟨1, [65], 0, ⟨0, 0, 0, 0, false, []⟩, false, -1⟩, ⟨2, [66], 0, ⟨1, 31, 0, 0, false, []⟩, false, -1⟩, ⟨2, [67], 0, ⟨4, 0, 0, 3, false, []⟩, false, -1⟩, ⟨2, [68], 0, ⟨1, 15, 0, 0, false, []⟩, false, -1⟩]
theorem lit_layout : layoutF litL [] = ([(0, 10, 12), (0, 4, 4), (4, 3, 3), (8, 2, 2)], 0) := by decide +kernel
theorem lit_small : smallF litL := ⟨by decide, fun i hi => by
  have : i < 4 := hi
  rcases i with _ | _ | _ | _ | i
  · exact ⟨by decide, by decide⟩
  · exact ⟨by decide, by decide⟩
  · exact ⟨by decide, by decide⟩
  · exact ⟨by decide, by decide⟩
  · omega⟩
theorem lev_awake : CallT Try.prog 67 [] [] (fun o A => o = .ret (bv true) ∧ A = []) := by
  refine callS_body (n := 45) rfl rfl fun w ρ X => ?_
  refine runS_x (I := inf) (J := jnf) ⟨false, false, [], 0, 0⟩ 9999 rfl (by repeat (first | exact obs_nil | refine obs_draw (by kernel_rfl) ?_ | refine obs_same ?_ | refine obs_and ?_ | refine obs_by (by (simp [inB] <;> omega)) ?_)) ?_
  refine runS_tell 0 (encR fldE fld0 litL) rfl (m' := 4) rfl ?_ rfl ?_
  · intro i hi
    rcases i with _ | _ | _ | _ | i <;> first | rfl | omega
  refine runS_freeze 13 rfl rfl rfl (fun i hi => ?_) ?_
  · rcases i with _ | _ | _ | _ | i <;> first | rfl | omega
  refine runS_drop 0 (Nat.zero_le _) rfl (by repeat (first | exact .nil | refine .row (fun j hj => rfl) ?_ | refine .box rfl ?_ | refine .fam (fun k j hk hj => rfl) ?_ | refine .loop (scrub_under _ _) ?_ | refine .dfr ?_ | refine .gone ?_ | refine .map (fun p hp => by (obtain ⟨k, _, rfl⟩ := List.mem_map.1 hp; rfl)) ?_)) rfl rfl rfl (by repeat (first | exact .nil | refine .cons rfl rfl rfl (scrub_under _ _) ?_)) ?_
  have hcall := callT_says (.cons (Says.refl _) (.cons (says_nil0 (sz := 1) (r := intR []) (Nat.zero_le _)) .nil)) (level_Layout none none litL [] lit_small (by decide))
  rw [lit_layout] at hcall
  refine runS_call rfl rfl rfl rfl rfl rfl rfl hcall ?_
  refine runS_x (I := inf) (J := jnf) ⟨false, false, [], 0, 0⟩ 9999 rfl (by repeat (first | exact obs_nil | refine obs_draw (by kernel_rfl) ?_ | refine obs_same ?_ | refine obs_and ?_ | refine obs_by (by (simp [inB] <;> omega)) ?_)) ?_
  refine runS_ret (I := inf) 0 rfl (Nat.le_refl _) rfl .nil rfl ⟨?_, rfl⟩
  rfl
def lightT (l : List Fld) (i : Nat) : Bool := decide ((fat l i).name.length ≤ 100) && decide ((fat l i).typ.pic.length ≤ 300)
def lightF (l : List Fld) : Bool := (List.range (min l.length 250)).all (lightT l) && decide (l.length ≤ 210)
theorem lev_light (nl : Option Bool) (l : List Fld) (hb : l.length < 1000000000000000) : CallT Try.prog 66 [fldS nl l] [] (fun o A => o = .ret (bv (lightF l)) ∧ A = []) := by
  refine callS_body (n := 34) rfl rfl fun w ρ X => ?_
  refine runS_x (I := inf) (J := jnf) ⟨false, false, [], 0, 0⟩ 9999 rfl (by repeat (first | exact obs_nil | refine obs_draw (by kernel_rfl) ?_ | refine obs_same ?_ | refine obs_and ?_ | refine obs_by (by (simp [inB] <;> omega)) ?_)) ?_
  refine runS_while (fun (i : Nat) τ ar => (τ 0 = fldS nl l ∧ τ 3 = iv i) ∧ ar = [] ∧ i ≤ l.length ∧ i ≤ 250 ∧ (List.range i).all (lightT l) = true) (fun i => l.length - i) 0 ⟨⟨rfl, rfl⟩, rfl, Nat.zero_le _, Nat.zero_le _, rfl⟩ ?_
  rintro i τ' ar' ⟨⟨h0, h3⟩, rfl, hi, hi2, hp⟩ ih
  refine runS_says 0 (by exact h0) (Says.refl _) ?_; refine runS_says 3 (by exact h3) (Says.refl _) ?_
  refine runS_x (I := inf) (J := jnf) ⟨false, false, [], 0, 0⟩ 9999 rfl (by repeat (first | exact obs_nil | refine obs_draw (by kernel_rfl) ?_ | refine obs_same ?_ | refine obs_and ?_ | refine obs_by (by (simp [inB] <;> omega)) ?_)) ?_
  refine runS_cond rfl (fun hlt => ?_) (fun hlt => ?_)
  · have hlt' : i < l.length ∧ i < 250 := by
      have : (if decide ((i : Int) < (l.length : Int)) = true then decide ((i : Int) < 250) else false) = true := hlt
      simp at this
      omega
    have hl1 := hlt'.1
    refine runS_x (I := inf) (J := jnf) ⟨false, false, [], 0, 0⟩ 9999 rfl (by repeat (first | exact obs_nil | refine obs_draw (by kernel_rfl) ?_ | refine obs_same ?_ | refine obs_and ?_ | refine obs_by (by (simp [inB, hl1] <;> omega)) ?_)) ?_
    have hw : (if decide (((fat l i).name.length : Int) > 100) = true then true else decide (((fat l i).typ.pic.length : Int) > 300)) = !lightT l i := by
      rw [lightT, Bool.eq_iff_iff]
      simp
      try omega
    refine runS_cond rfl (fun hz => ?_) (fun hz => ?_)
    · refine runS_x (I := inf) (J := jnf) ⟨false, false, [], 0, 0⟩ 9999 rfl (by repeat (first | exact obs_nil | refine obs_draw (by kernel_rfl) ?_ | refine obs_same ?_ | refine obs_and ?_ | refine obs_by (by (simp [inB] <;> omega)) ?_)) ?_
      refine runS_ret (I := inf) 0 rfl (Nat.le_refl _) rfl .nil rfl ⟨?_, rfl⟩
      have hz' : lightT l i = false := by have := hw.symm.trans hz; simpa using this
      rw [lightF, allPre_false (show i < min l.length 250 by omega) hz']
      rfl
    · have hz' : lightT l i = true := by have := hw.symm.trans hz; simpa using this
      refine runS_x (I := inf) (J := jnf) ⟨false, false, [], 0, 0⟩ 9999 rfl (by repeat (first | exact obs_nil | refine obs_draw (by kernel_rfl) ?_ | refine obs_same ?_ | refine obs_and ?_ | refine obs_by (by (simp [inB] <;> omega)) ?_)) ?_
      refine ih (i + 1) _ _ (by omega) ⟨⟨rfl, ?_⟩, rfl, by omega, by omega, by rw [allPre_succ, hp, hz']; rfl⟩
      show iv (IntKind.wrap .i64 ((i : Int) + 1)) = _
      rw [w64 (by omega) (by omega)]; rfl
  · refine runS_x (I := inf) (J := jnf) ⟨false, false, [], 0, 0⟩ 9999 rfl (by repeat (first | exact obs_nil | refine obs_draw (by kernel_rfl) ?_ | refine obs_same ?_ | refine obs_and ?_ | refine obs_by (by (simp [inB] <;> omega)) ?_)) ?_
    refine runS_ret (I := inf) 0 rfl (Nat.le_refl _) rfl .nil rfl ⟨?_, rfl⟩
    have hge : min l.length 250 = i := by
      have : (if decide ((i : Int) < (l.length : Int)) = true then decide ((i : Int) < 250) else false) = false := hlt
      simp at this
      omega
    rw [lightF, hge, hp, Bool.true_and]
    refine congrArg (fun b => Out.ret (bv b)) ?_
    rw [Bool.eq_iff_iff]
    simp
    omega
theorem light_small {l : List Fld} (h : lightF l = true) : smallF l := by
  simp only [lightF, Bool.and_eq_true, decide_eq_true_eq] at h
  refine ⟨by omega, fun i hi => ?_⟩
  have := allR.1 h.1 i (by omega)
  simp only [lightT, Bool.and_eq_true, decide_eq_true_eq] at this
  omega
end Go.Iron.Try

/- The level package: what Normal and Path say of one another. -/
namespace Go.Iron.Try
open Go.Proofs

end Go.Iron.Try

/- The level package's laws: levelOne. -/
namespace Go.Iron.Try
open Go.Proofs

end Go.Iron.Try

/- The level package: Leaves, of both. -/
namespace Go.Iron.Try
open Go.Proofs

/-- The members without members, in the first n. -/
def leafN (l : List Fld) (n : Nat) : List Nat := (List.range n).filter fun k => !innerB l k
theorem leafN_succ (l : List Fld) (n : Nat) : leafN l (n + 1) = if innerB l n then leafN l n else leafN l n ++ [n] := by
  unfold leafN
  rw [List.range_succ, List.filter_append]
  by_cases h : innerB l n = true <;> simp [h]
theorem leafN_len (l : List Fld) (n : Nat) : (leafN l n).length ≤ n := by
  have := List.length_filter_le (fun k => !innerB l k) (List.range n)
  rwa [List.length_range] at this
def natS (xs : List Nat) : AV := .slc 1 none xs.length (natR xs)
abbrev nilN : Nat → List AV := natR []
theorem natR_snoc {acc : List Nat} {v : Nat} {r2 : Nat → List AV} (h : r2 0 = [iv v]) : ∀ j, j < acc.length + 1 → natR (acc ++ [v]) j = appR acc.length (natR acc) r2 j := fun j hj => encR_snoc (enc := fun k : Nat => [iv k]) (d := 0) (acc := acc) (v := v) h j hj
theorem level_leaves (nl : Option Bool) (l : List Fld) (hb : l.length < 1000000000) : CallT Try.prog 123 [treeS nl l] [] (fun o A => o = .ret (natS (leafN l l.length)) ∧ A = []) := by
  refine callS_body (n := 23) rfl rfl fun w ρ X => ?_
  refine runS_x (I := inf) (J := jnf) ⟨false, false, [], 0, 0⟩ 9999 rfl (by repeat (first | exact obs_nil | refine obs_draw (by kernel_rfl) ?_ | refine obs_same ?_ | refine obs_and ?_ | refine obs_by (by (simp [inB] <;> omega)) ?_)) ?_
  refine runS_nilRow 3 3 1 nilN rfl rfl ?_
  refine runS_while (fun (i : Nat) τ ar => (τ 3 = .row 0 (leafN l i).length ∧ τ 6 = treeS nl l ∧ τ 7 = iv l.length ∧ τ 8 = iv i) ∧ ar = [.row 3 1 (leafN l i).length (leafN l i).length (natR (leafN l i))] ∧ i ≤ l.length) (fun i => l.length - i) 0 ⟨⟨rfl, rfl, rfl, rfl⟩, rfl, Nat.zero_le _⟩ ?_
  rintro i τ' ar' ⟨⟨g3, g6, g7, g8⟩, rfl, hi⟩ ih
  refine runS_says 3 (by exact g3) (Says.refl _) ?_; refine runS_says 6 (by exact g6) (Says.refl _) ?_; refine runS_says 7 (by exact g7) (Says.refl _) ?_; refine runS_says 8 (by exact g8) (Says.refl _) ?_
  have hle := leafN_len l i
  refine runS_x (I := inf) (J := jnf) ⟨false, false, [], 0, 0⟩ 9999 rfl (by repeat (first | exact obs_nil | refine obs_draw (by kernel_rfl) ?_ | refine obs_same ?_ | refine obs_and ?_ | refine obs_by (by (simp [inB] <;> omega)) ?_)) ?_
  refine runS_cond rfl (fun hlt => ?_) (fun hlt => ?_)
  · have hlt' : i < l.length := by simpa using hlt
    have hw2 : IntKind.wrap .i64 ((i : Int) + 1) = ((i + 1 : Nat) : Int) := by rw [w64 (by omega) (by omega)]; rfl
    refine runS_x (I := inf) (J := jnf) ⟨false, false, [], 0, 0⟩ 9999 rfl (by repeat (first | exact obs_nil | refine obs_draw (by kernel_rfl) ?_ | refine obs_same ?_ | refine obs_and ?_ | refine obs_by (by (simp [inB, hlt'] <;> omega)) ?_)) ?_
    refine runS_cond rfl (fun hz => ?_) (fun hz => ?_)
    · have hin : innerB l i = false := by
        have : (((kidsN l l.length i : Nat) : Int) == 0) = true := hz
        have : kidsN l l.length i = 0 := by simpa using this
        rw [inner_kids hlt', decide_eq_false]
        show ¬ 0 < kidsN l l.length i
        omega
      have hs := leafN_succ l i
      rw [hin, if_neg (by decide)] at hs
      refine runS_x (I := inf) (J := jnf) ⟨false, false, [], 0, 0⟩ 9999 rfl (by repeat (first | exact obs_nil | refine obs_draw (by kernel_rfl) ?_ | refine obs_same ?_ | refine obs_and ?_ | refine obs_by (by (simp [inB] <;> omega)) ?_)) ?_
      refine runS_tell 0 (natR (leafN l i ++ [i])) rfl (m' := (leafN l i).length + 1) rfl (natR_snoc rfl) rfl ?_
      refine runS_drop 1 (Nat.zero_le _) rfl (by repeat (first | exact .nil | refine .row (fun j hj => rfl) ?_ | refine .box rfl ?_ | refine .fam (fun k j hk hj => rfl) ?_ | refine .loop (scrub_under _ _) ?_ | refine .dfr ?_ | refine .gone ?_ | refine .map (fun p hp => by (obtain ⟨k, _, rfl⟩ := List.mem_map.1 hp; rfl)) ?_)) rfl rfl rfl (by repeat (first | exact .nil | refine .cons rfl rfl rfl (scrub_under _ _) ?_)) ?_
      refine ih (i + 1) _ _ (by omega) ⟨⟨?_, rfl, rfl, congrArg iv hw2⟩, ?_, by omega⟩
      · rw [hs, List.length_append]; rfl
      · rw [hs, List.length_append]; rfl
    · have hin : innerB l i = true := by
        have : (((kidsN l l.length i : Nat) : Int) == 0) = false := hz
        have : ¬ kidsN l l.length i = 0 := by simpa using this
        rw [inner_kids hlt', decide_eq_true]
        show 0 < kidsN l l.length i
        omega
      have hs := leafN_succ l i
      rw [hin, if_pos rfl] at hs
      refine runS_x (I := inf) (J := jnf) ⟨false, false, [], 0, 0⟩ 9999 rfl (by repeat (first | exact obs_nil | refine obs_draw (by kernel_rfl) ?_ | refine obs_same ?_ | refine obs_and ?_ | refine obs_by (by (simp [inB] <;> omega)) ?_)) ?_
      refine runS_drop 1 (Nat.zero_le _) rfl (by repeat (first | exact .nil | refine .row (fun j hj => rfl) ?_ | refine .box rfl ?_ | refine .fam (fun k j hk hj => rfl) ?_ | refine .loop (scrub_under _ _) ?_ | refine .dfr ?_ | refine .gone ?_ | refine .map (fun p hp => by (obtain ⟨k, _, rfl⟩ := List.mem_map.1 hp; rfl)) ?_)) rfl rfl rfl (by repeat (first | exact .nil | refine .cons rfl rfl rfl (scrub_under _ _) ?_)) ?_
      refine ih (i + 1) _ _ (by omega) ⟨⟨?_, rfl, rfl, congrArg iv hw2⟩, ?_, by omega⟩
      · rw [hs]; rfl
      · rw [hs]
  · have : i = l.length := by simp at hlt; omega
    subst this
    refine runS_freeze 3 rfl rfl rfl (fun j hj => rfl) ?_
    refine runS_x (I := inf) (J := jnf) ⟨false, false, [], 0, 0⟩ 9999 rfl (by repeat (first | exact obs_nil | refine obs_draw (by kernel_rfl) ?_ | refine obs_same ?_ | refine obs_and ?_ | refine obs_by (by (simp [inB] <;> omega)) ?_)) ?_
    refine runS_ret (I := inf) 0 rfl (Nat.le_refl _) rfl .nil rfl ⟨?_, rfl⟩
    rfl
end Go.Iron.Try

/- The level package: ByName and Same, as functions. -/
namespace Go.Iron.Try
open Go.Proofs

/-- Two members have the same names below the first. -/
def eqT (a b : List Fld) (i k : Nat) : Bool := decide ((pth a i).drop 1 = (pth b k).drop 1)
def leafB (l : List Fld) (i : Nat) : Bool := !innerB l i
def pairB (a b : List Fld) (i k : Nat) : Bool := leafB a i && leafB b k && eqT a b i k
def rowB (c : Nat → Nat → Bool) (i n : Nat) : List (Nat × Nat) := ((List.range n).filter (c i)).map fun k => (i, k)
def pairN (c : Nat → Nat → Bool) (m n : Nat) : List (Nat × Nat) := (List.range n).flatMap fun i => rowB c i m
theorem rowB_succ (c : Nat → Nat → Bool) (i n : Nat) : rowB c i (n + 1) = if c i n then rowB c i n ++ [(i, n)] else rowB c i n := by
  unfold rowB
  rw [List.range_succ, List.filter_append]
  by_cases h : c i n <;> simp [h]
theorem pairN_succ (c : Nat → Nat → Bool) (m n : Nat) : pairN c m (n + 1) = pairN c m n ++ rowB c n m := by
  simp [pairN, List.range_succ]
theorem rowB_len (c : Nat → Nat → Bool) (i n : Nat) : (rowB c i n).length = (List.range n).countP (c i) := by
  simp [rowB, List.countP_eq_length_filter]
theorem pairN_col (c : Nat → Nat → Bool) (n : Nat) : ∀ m, (pairN (fun i k => c k i) n m).length + (List.range m).countP (c n) = (pairN (fun i k => c k i) (n + 1) m).length
  | 0 => rfl
  | m + 1 => by
    rw [pairN_succ, pairN_succ, List.length_append, List.length_append, ← pairN_col c n m, rowB_len, rowB_len, List.range_succ, List.range_succ, List.countP_append, List.countP_append]
    simp
    omega
theorem pairN_none (c : Nat → Nat → Bool) : ∀ m, (pairN c 0 m).length = 0
  | 0 => rfl
  | m + 1 => by rw [pairN_succ, List.length_append, pairN_none c m]; rfl
theorem pairN_swap (c : Nat → Nat → Bool) (m : Nat) : ∀ n, (pairN c m n).length = (pairN (fun i k => c k i) n m).length
  | 0 => by rw [pairN_none]; rfl
  | n + 1 => by rw [pairN_succ, List.length_append, pairN_swap c m n, rowB_len, pairN_col]
theorem pairN_le (c : Nat → Nat → Bool) (m : Nat) : ∀ n, (pairN c m n).length ≤ n * m
  | 0 => by simp [pairN]
  | n + 1 => by
    rw [pairN_succ, List.length_append, rowB_len, Nat.succ_mul]
    have := pairN_le c m n
    have h2 : (List.range m).countP (c n) ≤ (List.range m).length := List.countP_le_length
    rw [List.length_range] at h2
    omega
theorem mem_pairN {c : Nat → Nat → Bool} {m n : Nat} {x : Nat × Nat} : x ∈ pairN c m n ↔ x.1 < n ∧ x.2 < m ∧ c x.1 x.2 = true := by
  obtain ⟨i, k⟩ := x
  simp only [pairN, rowB, List.mem_flatMap, List.mem_range, List.mem_map, List.mem_filter]
  constructor
  · rintro ⟨i', h1, k', ⟨h2, h3⟩, e⟩
    cases e
    exact ⟨h1, h2, h3⟩
  · rintro ⟨h1, h2, h3⟩
    exact ⟨i, h1, k, ⟨h2, h3⟩, rfl⟩
/-- By the leaves alone. -/
theorem rowB_leaf (a b : List Fld) (i m : Nat) : rowB (pairB a b) i m = if leafB a i then ((leafN b m).filter (eqT a b i)).map (fun k => (i, k)) else [] := by
  unfold rowB leafN
  by_cases h : leafB a i
  · rw [if_pos h, List.filter_filter]
    congr 2
    funext k
    unfold pairB
    rw [h, Bool.true_and, Bool.and_comm]
    rfl
  · rw [if_neg h]
    have : (List.range m).filter (pairB a b i) = [] := by
      rw [List.filter_eq_nil_iff]
      intro k _
      unfold pairB
      simp [h]
    rw [this]; rfl
def byNameF (a b : List Fld) : List (Nat × Nat) × Int := if (validF a && validF b) = true then (pairN (pairB a b) b.length a.length, 0) else ([], 1)
def sameB (a b : List Fld) (i : Nat) : Bool := decide (dep a i = dep b i) && (fat a i).count == (fat b i).count && (fat a i).union == (fat b i).union && decide ((fat a i).typ = (fat b i).typ)
def sameF (a b : List Fld) : Bool × Int := if (validF a && validF b) = true then (a.length == b.length && (List.range a.length).all (sameB a b), 0) else (false, 1)
theorem eqT_comm (a b : List Fld) (i k : Nat) : eqT a b i k = eqT b a k i := by
  unfold eqT
  rw [Bool.eq_iff_iff, decide_eq_true_iff, decide_eq_true_iff]
  exact ⟨Eq.symm, Eq.symm⟩
theorem pairB_comm (a b : List Fld) (i k : Nat) : pairB a b i k = pairB b a k i := by
  unfold pairB
  rw [eqT_comm, Bool.and_comm (leafB a i)]
theorem byName_swap (a b : List Fld) : (byNameF b a).1.length = (byNameF a b).1.length ∧ (byNameF b a).2 = (byNameF a b).2 ∧ ∀ x, x ∈ (byNameF a b).1 → (x.2, x.1) ∈ (byNameF b a).1 := by
  unfold byNameF
  rw [Bool.and_comm (validF b)]
  split
  · refine ⟨?_, rfl, fun x hx => ?_⟩
    · dsimp only
      rw [pairN_swap (pairB a b)]
      congr 2
      funext i k
      exact pairB_comm ..
    · obtain ⟨h1, h2, h3⟩ := mem_pairN.1 hx
      exact mem_pairN.2 ⟨h2, h1, by rw [← pairB_comm]; exact h3⟩
  · exact ⟨rfl, rfl, fun x hx => by cases hx⟩
end Go.Iron.Try

/- The level package: Same, of both. -/
namespace Go.Iron.Try
open Go.Proofs

theorem typB (x y : Typ) : (x.kind == y.kind && (x.p == y.p && (x.q == y.q && (x.n == y.n && (x.vary == y.vary && ((bs x.pic).toList == (bs y.pic).toList && true)))))) = decide (x = y) := by
  rw [bs_toList, bs_toList]
  obtain ⟨a1, a2, a3, a4, a5, a6⟩ := x
  obtain ⟨b1, b2, b3, b4, b5, b6⟩ := y
  rw [Bool.eq_iff_iff]
  simp
def sameA (x : Bool × Int) : AV := .tup [bv x.1, iv x.2]
theorem sameF_no {a b : List Fld} (hv : (validF a && validF b) = true) {i : Nat} (hl : a.length = b.length) (hi : i < a.length) (h : sameB a b i = false) : sameF a b = (false, 0) := by
  rw [sameF, if_pos hv, allPre_false hi h, Bool.and_false]
theorem sameF_len {a b : List Fld} (hv : (validF a && validF b) = true) (hl : ¬ a.length = b.length) : sameF a b = (false, 0) := by
  rw [sameF, if_pos hv]
  have : (a.length == b.length) = false := by rw [beq_eq_false_iff_ne]; exact hl
  rw [this]; rfl
theorem sameF_yes {a b : List Fld} (hv : (validF a && validF b) = true) (hl : a.length = b.length) (h : (List.range a.length).all (sameB a b) = true) : sameF a b = (true, 0) := by
  rw [sameF, if_pos hv, h]
  have : (a.length == b.length) = true := by rw [beq_iff_eq]; exact hl
  rw [this]; rfl
theorem valids {a b : List Fld} (hv : (validF a && validF b) = true) : validF a = true ∧ validF b = true := by rwa [Bool.and_eq_true] at hv
theorem ref_Same (n1 n2 : Option Bool) (a b : List Fld) (ha : smallF a) (hb : smallF b) : CallT Try.prog 89 [fldS n1 a, fldS n2 b] [] (fun o A => o = .ret (sameA (sameF a b)) ∧ A = []) := by
  have hb1 := ha.1
  have hb2 := hb.1
  refine callS_body (n := 72) rfl rfl fun w ρ X => ?_
  refine runS_x (I := inf) (J := jnf) ⟨false, false, [], 0, 0⟩ 9999 rfl (by repeat (first | exact obs_nil | refine obs_draw (by kernel_rfl) ?_ | refine obs_same ?_ | refine obs_and ?_ | refine obs_by (by (simp [inB] <;> omega)) ?_)) ?_
  refine runS_call rfl rfl rfl rfl rfl rfl rfl (ref_valid n1 a ha) ?_
  refine runS_x (I := inf) (J := jnf) ⟨false, false, [], 0, 0⟩ 9999 rfl (by repeat (first | exact obs_nil | refine obs_draw (by kernel_rfl) ?_ | refine obs_same ?_ | refine obs_and ?_ | refine obs_by (by (simp [inB] <;> omega)) ?_)) ?_
  refine runS_callU rfl rfl (by first | exact .v rfl rfl rfl rfl | exact .o rfl rfl rfl rfl) rfl rfl (by repeat (first | exact .nil | refine .cons (.n rfl) ?_ | refine .cons .o ?_ | refine .cons gok_and ?_)) rfl rfl rfl rfl rfl (fun _ => (ref_valid n2 b hb)) ?_
  refine runS_x (I := inf) (J := jnf) ⟨false, false, [], 0, 0⟩ 9999 rfl (by repeat (first | exact obs_nil | refine obs_draw (by kernel_rfl) ?_ | refine obs_same ?_ | refine obs_and ?_ | refine obs_by (by (simp [inB] <;> omega)) ?_)) ?_
  have hw : (if (!validF a) = true then true else !validF b) = !(validF a && validF b) := by cases validF a <;> cases validF b <;> rfl
  refine runS_cond rfl (fun h => ?_) (fun h => ?_)
  · refine runS_x (I := inf) (J := jnf) ⟨false, false, [], 0, 0⟩ 9999 rfl (by repeat (first | exact obs_nil | refine obs_draw (by kernel_rfl) ?_ | refine obs_same ?_ | refine obs_and ?_ | refine obs_by (by (simp [inB] <;> omega)) ?_)) ?_
    have hv : (validF a && validF b) = false := by have := hw.symm.trans h; rwa [Bool.not_eq_true'] at this
    refine runS_ret (I := inf) 0 rfl (Nat.le_refl _) rfl .nil rfl ⟨?_, rfl⟩
    rw [sameF, hv]; rfl
  have hv : (validF a && validF b) = true := by have := hw.symm.trans h; rwa [Bool.not_eq_false'] at this
  refine runS_x (I := inf) (J := jnf) ⟨false, false, [], 0, 0⟩ 9999 rfl (by repeat (first | exact obs_nil | refine obs_draw (by kernel_rfl) ?_ | refine obs_same ?_ | refine obs_and ?_ | refine obs_by (by (simp [inB] <;> omega)) ?_)) ?_
  refine runS_cond rfl (fun h2 => ?_) (fun h2 => ?_)
  · refine runS_x (I := inf) (J := jnf) ⟨false, false, [], 0, 0⟩ 9999 rfl (by repeat (first | exact obs_nil | refine obs_draw (by kernel_rfl) ?_ | refine obs_same ?_ | refine obs_and ?_ | refine obs_by (by (simp [inB] <;> omega)) ?_)) ?_
    refine runS_ret (I := inf) 0 rfl (Nat.le_refl _) rfl .nil rfl ⟨?_, rfl⟩
    rw [sameF_len hv (by simp at h2; omega)]
    rfl
  have hl : a.length = b.length := by simp at h2; omega
  refine runS_x (I := inf) (J := jnf) ⟨false, false, [], 0, 0⟩ 9999 rfl (by repeat (first | exact obs_nil | refine obs_draw (by kernel_rfl) ?_ | refine obs_same ?_ | refine obs_and ?_ | refine obs_by (by (simp [inB] <;> omega)) ?_)) ?_
  refine runS_while (fun (i : Nat) τ ar => (τ 0 = fldS n1 a ∧ τ 1 = fldS n2 b ∧ τ 6 = iv i) ∧ ar = [] ∧ i ≤ a.length ∧ (List.range i).all (sameB a b) = true) (fun i => a.length - i) 0 ⟨⟨rfl, rfl, rfl⟩, rfl, Nat.zero_le _, rfl⟩ ?_
  rintro i τ' ar' ⟨⟨g0, g1, g6⟩, rfl, hi, hp⟩ ih
  refine runS_says 0 (by exact g0) (Says.refl _) ?_; refine runS_says 1 (by exact g1) (Says.refl _) ?_; refine runS_says 6 (by exact g6) (Says.refl _) ?_
  refine runS_x (I := inf) (J := jnf) ⟨false, false, [], 0, 0⟩ 9999 rfl (by repeat (first | exact obs_nil | refine obs_draw (by kernel_rfl) ?_ | refine obs_same ?_ | refine obs_and ?_ | refine obs_by (by (simp [inB] <;> omega)) ?_)) ?_
  refine runS_cond rfl (fun hlt => ?_) (fun hlt => ?_)
  · have hlt' : i < a.length := by simpa using hlt
    have hlb : i < b.length := by omega
    have hw2 : IntKind.wrap .i64 ((i : Int) + 1) = ((i + 1 : Nat) : Int) := by rw [w64 (by omega) (by omega)]; rfl
    refine runS_x (I := inf) (J := jnf) ⟨false, false, [], 0, 0⟩ 9999 rfl (by repeat (first | exact obs_nil | refine obs_draw (by kernel_rfl) ?_ | refine obs_same ?_ | refine obs_and ?_ | refine obs_by (by (simp [inB] <;> omega)) ?_)) ?_
    refine runS_draw 46 (by kernel_rfl) (lexj_x (I := inf) (J := jnf) 99 rfl rfl (by repeat (first | exact obs_nil | refine obs_same ?_ | refine obs_and ?_ | refine obs_by (by (simp [inB, hlt', hlb] <;> omega)) ?_)) (lexj_call rfl rfl rfl rfl rfl rfl rfl rfl (ref_depth n1 a i hlt' (by omega)) (lexj_x (I := inf) (J := jnf) 99 rfl rfl (by repeat (first | exact obs_nil | refine obs_same ?_ | refine obs_and ?_ | refine obs_by (by (simp [inB, hlt', hlb] <;> omega)) ?_)) (lexj_call rfl rfl rfl rfl rfl rfl rfl rfl (ref_depth n2 b i hlb (by omega)) (lexj_x (I := inf) (J := jnf) 99 rfl rfl (by repeat (first | exact obs_nil | refine obs_same ?_ | refine obs_and ?_ | refine obs_by (by (simp [inB, hlt', hlb] <;> omega)) ?_)) lexj_nil))))) ?_
    refine runS_x (I := inf) (J := jnf) ⟨false, false, [], 0, 0⟩ 9999 rfl (by repeat (first | exact obs_nil | refine obs_draw (by kernel_rfl) ?_ | refine obs_same ?_ | refine obs_and ?_ | refine obs_by (by (simp [inB] <;> omega)) ?_)) ?_
    have hw3 : (if (if (if ((dep a i : Int) != (dep b i : Int)) = true then true else (fat a i).count != (fat b i).count) = true then true else (fat a i).union != (fat b i).union) = true then true
        else !((fat a i).typ.kind == (fat b i).typ.kind && ((fat a i).typ.p == (fat b i).typ.p && ((fat a i).typ.q == (fat b i).typ.q && ((fat a i).typ.n == (fat b i).typ.n && ((fat a i).typ.vary == (fat b i).typ.vary && ((bs (fat a i).typ.pic).toList == (bs (fat b i).typ.pic).toList && true))))))) = !sameB a b i := by
      rw [typB]
      have e1 : ((dep a i : Int) != (dep b i : Int)) = !decide (dep a i = dep b i) := by rw [Bool.eq_iff_iff]; simp; omega
      unfold sameB bne
      unfold bne at e1
      rw [e1]
      cases decide (dep a i = dep b i) <;> cases ((fat a i).count == (fat b i).count) <;> cases ((fat a i).union == (fat b i).union) <;> cases (decide ((fat a i).typ = (fat b i).typ)) <;> rfl
    refine runS_cond rfl (fun hz => ?_) (fun hz => ?_)
    · have hz' : sameB a b i = false := by have := hw3.symm.trans hz; rwa [Bool.not_eq_true'] at this
      refine runS_x (I := inf) (J := jnf) ⟨false, false, [], 0, 0⟩ 9999 rfl (by repeat (first | exact obs_nil | refine obs_draw (by kernel_rfl) ?_ | refine obs_same ?_ | refine obs_and ?_ | refine obs_by (by (simp [inB] <;> omega)) ?_)) ?_
      refine runS_ret (I := inf) 0 rfl (Nat.le_refl _) rfl .nil rfl ⟨?_, rfl⟩
      rw [sameF_no hv hl hlt' hz']
      rfl
    · have hz' : sameB a b i = true := by have := hw3.symm.trans hz; rwa [Bool.not_eq_false'] at this
      refine runS_x (I := inf) (J := jnf) ⟨false, false, [], 0, 0⟩ 9999 rfl (by repeat (first | exact obs_nil | refine obs_draw (by kernel_rfl) ?_ | refine obs_same ?_ | refine obs_and ?_ | refine obs_by (by (simp [inB] <;> omega)) ?_)) ?_
      exact ih (i + 1) _ _ (by omega) ⟨⟨rfl, rfl, congrArg iv hw2⟩, rfl, by omega, by rw [allPre_succ, hp, hz']; rfl⟩
  · have : i = a.length := by simp at hlt; omega
    subst this
    refine runS_x (I := inf) (J := jnf) ⟨false, false, [], 0, 0⟩ 9999 rfl (by repeat (first | exact obs_nil | refine obs_draw (by kernel_rfl) ?_ | refine obs_same ?_ | refine obs_and ?_ | refine obs_by (by (simp [inB] <;> omega)) ?_)) ?_
    refine runS_ret (I := inf) 0 rfl (Nat.le_refl _) rfl .nil rfl ⟨?_, rfl⟩
    rw [sameF_yes hv hl hp]
    rfl
end Go.Iron.Try

/- The level package: Same. -/
namespace Go.Iron.Try
open Go.Proofs

theorem level_Same (n1 n2 : Option Bool) (a b : List Fld) (ha : smallF a) (hb : smallF b) : CallT Try.prog 88 [fldS n1 a, fldS n2 b] [] (fun o A => o = .ret (sameA (sameF a b)) ∧ A = []) := by
  have hb1 := ha.1
  have hb2 := hb.1
  by_cases hv : (validF a && validF b) = true
  · obtain ⟨hv1, hv2⟩ := valids hv
    have hw : (if validF a = true then validF b else false) = true := by rw [hv1, hv2]; rfl
    refine callS_body (n := 10) rfl rfl fun w ρ X => ?_
    refine runS_x (I := inf) (J := jnf) ⟨false, false, [151, 152], 0, 0⟩ 9999 rfl (by repeat (first | exact obs_nil | refine obs_draw (by kernel_rfl) ?_ | refine obs_same ?_ | refine obs_and ?_ | refine obs_by (by (simp [inB] <;> omega)) ?_)) ?_
    refine runS_call rfl rfl rfl rfl rfl rfl rfl (level_valid n1 a ha) ?_
    refine runS_x (I := inf) (J := jnf) ⟨false, false, [], 0, 0⟩ 9999 rfl (by repeat (first | exact obs_nil | refine obs_draw (by kernel_rfl) ?_ | refine obs_same ?_ | refine obs_and ?_ | refine obs_by (by (simp [inB] <;> omega)) ?_)) ?_
    refine runS_callU rfl rfl (by first | exact .v rfl rfl rfl rfl | exact .o rfl rfl rfl rfl) rfl rfl (by repeat (first | exact .nil | refine .cons (.n rfl) ?_ | refine .cons .o ?_ | refine .cons gok_and ?_)) rfl rfl rfl rfl rfl (fun _ => (level_valid n2 b hb)) ?_
    refine runS_x (I := inf) (J := jnf) ⟨false, false, [], 0, 0⟩ 9999 rfl (by repeat (first | exact obs_nil | refine obs_draw (by kernel_rfl) ?_ | refine obs_same ?_ | refine obs_and ?_ | refine obs_by (by (simp [inB] <;> omega)) ?_)) ?_
    refine runS_says 10 (show _ = bv true from congrArg bv hw) (Says.refl _) ?_
    refine runS_call rfl rfl rfl rfl rfl rfl rfl (must_ok 1) ?_
    refine runS_x (I := inf) (J := jnf) ⟨false, false, [], 0, 0⟩ 9999 rfl (by repeat (first | exact obs_nil | refine obs_draw (by kernel_rfl) ?_ | refine obs_same ?_ | refine obs_and ?_ | refine obs_by (by (simp [inB] <;> omega)) ?_)) ?_
    refine runS_draw 4 (by kernel_rfl) (lexj_x (I := inf) (J := jnf) 99 rfl rfl (by repeat (first | exact obs_nil | refine obs_same ?_ | refine obs_and ?_ | refine obs_by (by (simp [inB] <;> omega)) ?_)) (lexj_call rfl rfl rfl rfl rfl rfl rfl rfl (level_tree n1 a hb1) (lexj_x (I := inf) (J := jnf) 99 rfl rfl (by repeat (first | exact obs_nil | refine obs_same ?_ | refine obs_and ?_ | refine obs_by (by (simp [inB] <;> omega)) ?_)) (lexj_call rfl rfl rfl rfl rfl rfl rfl rfl (level_tree n2 b hb2) (lexj_x (I := inf) (J := jnf) 99 rfl rfl (by repeat (first | exact obs_nil | refine obs_same ?_ | refine obs_and ?_ | refine obs_by (by (simp [inB] <;> omega)) ?_)) lexj_nil))))) ?_
    refine runS_x (I := inf) (J := jnf) ⟨false, false, [153, 154], 0, 0⟩ 9999 rfl (by repeat (first | exact obs_nil | refine obs_draw (by kernel_rfl) ?_ | refine obs_same ?_ | refine obs_and ?_ | refine obs_by (by (simp [inB] <;> omega)) ?_)) ?_
    refine runS_cond rfl (fun h2 => ?_) (fun h2 => ?_)
    · refine runS_x (I := inf) (J := jnf) ⟨true, false, [177], 0, 0⟩ 9999 rfl (by repeat (first | exact obs_nil | refine obs_draw (by kernel_rfl) ?_ | refine obs_same ?_ | refine obs_and ?_ | refine obs_by (by (simp [inB] <;> omega)) ?_)) ?_
      refine runS_ret (I := inf) 0 rfl (Nat.le_refl _) rfl .nil rfl ⟨?_, rfl⟩
      rw [sameF_len hv (by simp at h2; omega)]
      rfl
    have hl : a.length = b.length := by simp at h2; omega
    refine runS_x (I := inf) (J := jnf) ⟨false, false, [154], 0, 0⟩ 9999 rfl (by repeat (first | exact obs_nil | refine obs_draw (by kernel_rfl) ?_ | refine obs_same ?_ | refine obs_and ?_ | refine obs_by (by (simp [inB] <;> omega)) ?_)) ?_
    refine runS_forget 4 rfl ?_
    refine runS_while (fun (i : Nat) τ ar => (τ 1 = treeS none b ∧ τ 2 = .fn (.func 154) [] ∧ τ 15 = treeS none a ∧ τ 16 = iv a.length ∧ τ 17 = iv i) ∧ ar = [.box 41 [fldS n1 a], .box 41 [fldS n2 b], .box 4 [bv false], .box 51 [iv 0]] ∧ i ≤ a.length ∧ (List.range i).all (sameB a b) = true) (fun i => a.length - i) 0 ⟨⟨rfl, rfl, rfl, rfl, rfl⟩, rfl, Nat.zero_le _, rfl⟩ ?_
    rintro i τ' ar' ⟨⟨g1, g2, g15, g16, g17⟩, rfl, hi, hp⟩ ih
    refine runS_says 1 (by exact g1) (Says.refl _) ?_; refine runS_says 2 (by exact g2) (Says.refl _) ?_; refine runS_says 15 (by exact g15) (Says.refl _) ?_; refine runS_says 16 (by exact g16) (Says.refl _) ?_; refine runS_says 17 (by exact g17) (Says.refl _) ?_
    refine runS_x (I := inf) (J := jnf) ⟨false, false, [], 0, 0⟩ 9999 rfl (by repeat (first | exact obs_nil | refine obs_draw (by kernel_rfl) ?_ | refine obs_same ?_ | refine obs_and ?_ | refine obs_by (by (simp [inB] <;> omega)) ?_)) ?_
    refine runS_cond rfl (fun hlt => ?_) (fun hlt => ?_)
    · have hlt' : i < a.length := by simpa using hlt
      have hlb : i < b.length := by omega
      have hw2 : IntKind.wrap .i64 ((i : Int) + 1) = ((i + 1 : Nat) : Int) := by rw [w64 (by omega) (by omega)]; rfl
      refine runS_x (I := inf) (J := jnf) ⟨false, false, [154], 0, 0⟩ 9999 rfl (by repeat (first | exact obs_nil | refine obs_draw (by kernel_rfl) ?_ | refine obs_same ?_ | refine obs_and ?_ | refine obs_by (by (simp [inB, hlt', hlb] <;> omega)) ?_)) ?_
      have hw3 : (!(if (if (if ((dep a i : Int) == (dep b i : Int)) = true then (fat a i).count == (fat b i).count else false) = true then (fat a i).union == (fat b i).union else false) = true
          then ((fat a i).typ.kind == (fat b i).typ.kind && ((fat a i).typ.p == (fat b i).typ.p && ((fat a i).typ.q == (fat b i).typ.q && ((fat a i).typ.n == (fat b i).typ.n && ((fat a i).typ.vary == (fat b i).typ.vary && ((bs (fat a i).typ.pic).toList == (bs (fat b i).typ.pic).toList && true)))))) else false)) = !sameB a b i := by
        rw [typB]
        have e1 : ((dep a i : Int) == (dep b i : Int)) = decide (dep a i = dep b i) := by rw [Bool.eq_iff_iff]; simp; omega
        unfold sameB
        rw [e1]
        cases decide (dep a i = dep b i) <;> cases ((fat a i).count == (fat b i).count) <;> cases ((fat a i).union == (fat b i).union) <;> cases (decide ((fat a i).typ = (fat b i).typ)) <;> rfl
      refine runS_cond rfl (fun hz => ?_) (fun hz => ?_)
      · have hz' : sameB a b i = false := by have := hw3.symm.trans hz; rwa [Bool.not_eq_true'] at this
        refine runS_forget 4 rfl ?_
        refine runS_drop 4 (Nat.zero_le _) rfl (by repeat (first | exact .nil | refine .row (fun j hj => rfl) ?_ | refine .box rfl ?_ | refine .fam (fun k j hk hj => rfl) ?_ | refine .loop (scrub_under _ _) ?_ | refine .dfr ?_ | refine .gone ?_ | refine .map (fun p hp => by (obtain ⟨k, _, rfl⟩ := List.mem_map.1 hp; rfl)) ?_)) rfl rfl rfl (by repeat (first | exact .nil | refine .cons rfl rfl rfl (scrub_under _ _) ?_)) ?_
        refine runS_x (I := inf) (J := jnf) ⟨true, false, [177], 0, 0⟩ 9999 rfl (by repeat (first | exact obs_nil | refine obs_draw (by kernel_rfl) ?_ | refine obs_same ?_ | refine obs_and ?_ | refine obs_by (by (simp [inB] <;> omega)) ?_)) ?_
        refine runS_ret (I := inf) 0 rfl (Nat.le_refl _) rfl .nil rfl ⟨?_, rfl⟩
        rw [sameF_no hv hl hlt' hz']
        rfl
      · have hz' : sameB a b i = true := by have := hw3.symm.trans hz; rwa [Bool.not_eq_false'] at this
        refine runS_x (I := inf) (J := jnf) ⟨false, false, [], 0, 0⟩ 9999 rfl (by repeat (first | exact obs_nil | refine obs_draw (by kernel_rfl) ?_ | refine obs_same ?_ | refine obs_and ?_ | refine obs_by (by (simp [inB] <;> omega)) ?_)) ?_
        refine runS_drop 4 (Nat.zero_le _) rfl (by repeat (first | exact .nil | refine .row (fun j hj => rfl) ?_ | refine .box rfl ?_ | refine .fam (fun k j hk hj => rfl) ?_ | refine .loop (scrub_under _ _) ?_ | refine .dfr ?_ | refine .gone ?_ | refine .map (fun p hp => by (obtain ⟨k, _, rfl⟩ := List.mem_map.1 hp; rfl)) ?_)) rfl rfl rfl (by repeat (first | exact .nil | refine .cons rfl rfl rfl (scrub_under _ _) ?_)) ?_
        exact ih (i + 1) _ _ (by omega) ⟨⟨rfl, rfl, rfl, rfl, congrArg iv hw2⟩, rfl, by omega, by rw [allPre_succ, hp, hz']; rfl⟩
    · have : i = a.length := by simp at hlt; omega
      subst this
      refine runS_x (I := inf) (J := jnf) ⟨true, false, [177], 0, 0⟩ 9999 rfl (by repeat (first | exact obs_nil | refine obs_draw (by kernel_rfl) ?_ | refine obs_same ?_ | refine obs_and ?_ | refine obs_by (by (simp [inB] <;> omega)) ?_)) ?_
      refine runS_ret (I := inf) 0 rfl (Nat.le_refl _) rfl .nil rfl ⟨?_, rfl⟩
      rw [sameF_yes hv hl hp]
      rfl
  · have hv' : (validF a && validF b) = false := by simpa using hv
    have hw : (if validF a = true then validF b else false) = false := by
      rw [← hv']
      cases validF a <;> rfl
    refine callS_body (n := 10) rfl rfl fun w ρ X => ?_
    refine runS_x (I := inf) (J := jnf) ⟨false, false, [151, 152], 0, 0⟩ 9999 rfl (by repeat (first | exact obs_nil | refine obs_draw (by kernel_rfl) ?_ | refine obs_same ?_ | refine obs_and ?_ | refine obs_by (by (simp [inB] <;> omega)) ?_)) ?_
    refine runS_call rfl rfl rfl rfl rfl rfl rfl (level_valid n1 a ha) ?_
    refine runS_x (I := inf) (J := jnf) ⟨false, false, [], 0, 0⟩ 9999 rfl (by repeat (first | exact obs_nil | refine obs_draw (by kernel_rfl) ?_ | refine obs_same ?_ | refine obs_and ?_ | refine obs_by (by (simp [inB] <;> omega)) ?_)) ?_
    refine runS_callU rfl rfl (by first | exact .v rfl rfl rfl rfl | exact .o rfl rfl rfl rfl) rfl rfl (by repeat (first | exact .nil | refine .cons (.n rfl) ?_ | refine .cons .o ?_ | refine .cons gok_and ?_)) rfl rfl rfl rfl rfl (fun _ => (level_valid n2 b hb)) ?_
    refine runS_x (I := inf) (J := jnf) ⟨false, false, [], 0, 0⟩ 9999 rfl (by repeat (first | exact obs_nil | refine obs_draw (by kernel_rfl) ?_ | refine obs_same ?_ | refine obs_and ?_ | refine obs_by (by (simp [inB] <;> omega)) ?_)) ?_
    refine runS_says 10 (show _ = bv false from congrArg bv hw) (Says.refl _) ?_
    refine runS_callP rfl rfl rfl rfl rfl rfl rfl (must_no 1) ?_
    refine runS_x (I := inf) (J := jnf) ⟨true, false, [177], 0, 0⟩ 9999 rfl (by repeat (first | exact obs_nil | refine obs_draw (by kernel_rfl) ?_ | refine obs_same ?_ | refine obs_and ?_ | refine obs_by (by (simp [inB] <;> omega)) ?_)) ?_
    refine runS_drawG (ch := []) 4 [3] (fun b' => [.box 41 [fldS n1 a], .box 41 [fldS n2 b], .box 4 [bv false], .box 51 [iv 0], .box 170 [iv 1]]) none (c := 9) jnfI.draw (by kernel_rfl) rfl (lexg_g (I := inf) (J := jnf) none ⟨⟨_, rfl, (by repeat (first | exact obs_nil | refine obs_same ?_ | refine obs_and ?_ | refine obs_by (by (simp [inB] <;> omega)) ?_))⟩, (by first | exact .inl (by decide +kernel) | exact .inr ⟨_, rfl, (by repeat (first | exact obs_nil | refine obs_same ?_ | refine obs_and ?_ | refine obs_by (by (simp [inB] <;> omega)) ?_))⟩)⟩ rfl rfl rfl rfl (lexg_g (I := inf) (J := jnf) none ⟨⟨_, rfl, (by repeat (first | exact obs_nil | refine obs_same ?_ | refine obs_and ?_ | refine obs_by (by (simp [inB] <;> omega)) ?_))⟩, (by first | exact .inl (by decide +kernel) | exact .inr ⟨_, rfl, (by repeat (first | exact obs_nil | refine obs_same ?_ | refine obs_and ?_ | refine obs_by (by (simp [inB] <;> omega)) ?_))⟩)⟩ rfl rfl rfl rfl (lexg_g (I := inf) (J := jnf) none ⟨⟨_, rfl, (by repeat (first | exact obs_nil | refine obs_same ?_ | refine obs_and ?_ | refine obs_by (by (simp [inB] <;> omega)) ?_))⟩, (by first | exact .inl (by decide +kernel) | exact .inr ⟨_, rfl, (by repeat (first | exact obs_nil | refine obs_same ?_ | refine obs_and ?_ | refine obs_by (by (simp [inB] <;> omega)) ?_))⟩)⟩ rfl rfl rfl rfl (lexg_g (I := inf) (J := jnf) (some .store) ⟨⟨_, rfl, (by repeat (first | exact obs_nil | refine obs_same ?_ | refine obs_and ?_ | refine obs_by (by (simp [inB] <;> omega)) ?_))⟩, .inl rfl⟩ rfl rfl rfl rfl lexg_nil)))) rfl (fun _ => ?_) (fun h => by cases h)
    refine runS_x (I := inf) (J := jnf) ⟨true, false, [177], 0, 0⟩ 9999 rfl (by repeat (first | exact obs_nil | refine obs_draw (by kernel_rfl) ?_ | refine obs_same ?_ | refine obs_and ?_ | refine obs_by (by (simp [inB] <;> omega)) ?_)) ?_
    refine runS_ret (I := inf) 0 rfl (Nat.le_refl _) rfl .nil rfl ⟨?_, rfl⟩
    rw [sameF, hv']
    rfl
end Go.Iron.Try

/- The level package: ByName, of both. -/
namespace Go.Iron.Try
open Go.Proofs

@[reducible] def prE (x : Nat × Nat) : List AV := [iv x.1, iv x.2]
def prS (nl : Option Bool) (xs : List (Nat × Nat)) : AV := .slc 2 nl xs.length (encR prE (0, 0) xs)
def prA (x : List (Nat × Nat) × Int) : AV := .tup [prS none x.1, iv x.2]
abbrev nilPr : Nat → List AV := encR prE (0, 0) []
theorem prR_snoc {acc : List (Nat × Nat)} {v : Nat × Nat} {r2 : Nat → List AV} (h : r2 0 = prE v) : ∀ j, j < acc.length + 1 → encR prE (0, 0) (acc ++ [v]) j = appR acc.length (encR prE (0, 0) acc) r2 j := fun j hj => encR_snoc (enc := prE) (d := (0, 0)) (acc := acc) (v := v) h j hj
theorem dropS (nl : Option Bool) (p : List Str) (hp : 0 < p.length) : Says (.slc 1 nl ((p.length : Int) - 1).toNat (shiftR (encR (fun s => [sv s]) [] p) (Int.toNat 1))) (txtS nl (p.drop 1)) := by
  refine says_slc (by simp) fun i hi => ?_
  show [sv ((p.drop 1).getD i [])] = [sv (p.getD (1 + i) [])]
  rw [List.getD_eq_getElem?_getD, List.getD_eq_getElem?_getD, List.getElem?_drop]
theorem ref_sameD (n1 n2 : Option Bool) (p q : List Str) (h1 : p.length < 1000000000) (hp : 0 < p.length) (hq : 0 < q.length) :
    CallT Try.prog 150 [.slc 1 n1 ((p.length : Int) - 1).toNat (shiftR (encR (fun s => [sv s]) [] p) (Int.toNat 1)), .slc 1 n2 ((q.length : Int) - 1).toNat (shiftR (encR (fun s => [sv s]) [] q) (Int.toNat 1))] []
      (fun o A => o = .ret (bv (decide (p.drop 1 = q.drop 1))) ∧ A = []) :=
  callT_says (.cons (dropS n1 p hp) (.cons (dropS n2 q hq) .nil)) (ref_same n1 n2 (p.drop 1) (q.drop 1) (by simp; omega))
theorem level_sameD (n1 n2 : Option Bool) (p q : List Str) (h1 : p.length < 1000000000) (hp : 0 < p.length) (hq : 0 < q.length) :
    CallT Try.prog 142 [.slc 1 n1 ((p.length : Int) - 1).toNat (shiftR (encR (fun s => [sv s]) [] p) (Int.toNat 1)), .slc 1 n2 ((q.length : Int) - 1).toNat (shiftR (encR (fun s => [sv s]) [] q) (Int.toNat 1))] []
      (fun o A => o = .ret (bv (decide (p.drop 1 = q.drop 1))) ∧ A = []) :=
  callT_says (.cons (dropS n1 p hp) (.cons (dropS n2 q hq) .nil)) (slices_equalTexts n1 n2 (p.drop 1) (q.drop 1) (by simp; omega))
/-- The pairs so far: of the first i members, and of the next with the first k. -/
def prsK (c : Nat → Nat → Bool) (m i k : Nat) : List (Nat × Nat) := pairN c m i ++ rowB c i k
theorem prsK_le (c : Nat → Nat → Bool) (m i k : Nat) (hk : k ≤ m) : (prsK c m i k).length ≤ (i + 1) * m := by
  have h1 := pairN_le c m i
  have h2 : (rowB c i k).length ≤ k := by
    rw [rowB_len]
    have : (List.range k).countP (c i) ≤ (List.range k).length := List.countP_le_length
    simpa using this
  rw [prsK, List.length_append, Nat.succ_mul]
  omega
theorem prsK_zero (c : Nat → Nat → Bool) (m i : Nat) : prsK c m i 0 = pairN c m i := by simp [prsK, rowB]
theorem prsK_all (c : Nat → Nat → Bool) (m i : Nat) : prsK c m i m = pairN c m (i + 1) := by rw [prsK, pairN_succ]
theorem prsK_succ (c : Nat → Nat → Bool) (m i k : Nat) : prsK c m i (k + 1) = if c i k then prsK c m i k ++ [(i, k)] else prsK c m i k := by
  unfold prsK
  rw [rowB_succ]
  split <;> simp
theorem ref_ByName (n1 n2 : Option Bool) (a b : List Fld) (ha : smallF a) (hb : smallF b) : CallT Try.prog 87 [fldS n1 a, fldS n2 b] [] (fun o A => o = .ret (prA (byNameF a b)) ∧ A = []) := by
  have hb1 := ha.1
  have hb2 := hb.1
  refine callS_body (n := 57) rfl rfl fun w ρ X => ?_
  refine runS_x (I := inf) (J := jnf) ⟨false, false, [], 0, 0⟩ 9999 rfl (by repeat (first | exact obs_nil | refine obs_draw (by kernel_rfl) ?_ | refine obs_same ?_ | refine obs_and ?_ | refine obs_by (by (simp [inB] <;> omega)) ?_)) ?_
  refine runS_call rfl rfl rfl rfl rfl rfl rfl (ref_valid n1 a ha) ?_
  refine runS_x (I := inf) (J := jnf) ⟨false, false, [], 0, 0⟩ 9999 rfl (by repeat (first | exact obs_nil | refine obs_draw (by kernel_rfl) ?_ | refine obs_same ?_ | refine obs_and ?_ | refine obs_by (by (simp [inB] <;> omega)) ?_)) ?_
  refine runS_callU rfl rfl (by first | exact .v rfl rfl rfl rfl | exact .o rfl rfl rfl rfl) rfl rfl (by repeat (first | exact .nil | refine .cons (.n rfl) ?_ | refine .cons .o ?_ | refine .cons gok_and ?_)) rfl rfl rfl rfl rfl (fun _ => (ref_valid n2 b hb)) ?_
  refine runS_x (I := inf) (J := jnf) ⟨false, false, [], 0, 0⟩ 9999 rfl (by repeat (first | exact obs_nil | refine obs_draw (by kernel_rfl) ?_ | refine obs_same ?_ | refine obs_and ?_ | refine obs_by (by (simp [inB] <;> omega)) ?_)) ?_
  have hw : (if (!validF a) = true then true else !validF b) = !(validF a && validF b) := by cases validF a <;> cases validF b <;> rfl
  refine runS_cond rfl (fun h => ?_) (fun h => ?_)
  · refine runS_x (I := inf) (J := jnf) ⟨false, false, [], 0, 0⟩ 9999 rfl (by repeat (first | exact obs_nil | refine obs_draw (by kernel_rfl) ?_ | refine obs_same ?_ | refine obs_and ?_ | refine obs_by (by (simp [inB] <;> omega)) ?_)) ?_
    have hv : (validF a && validF b) = false := by have := hw.symm.trans h; rwa [Bool.not_eq_true'] at this
    refine runS_says 4 rfl (says_nil0 (sz := 2) (r := nilPr) (Nat.zero_le _)) ?_
    refine runS_ret (I := inf) 0 rfl (Nat.le_refl _) rfl .nil rfl ⟨?_, rfl⟩
    rw [byNameF, hv]; rfl
  have hv : (validF a && validF b) = true := by have := hw.symm.trans h; rwa [Bool.not_eq_false'] at this
  obtain ⟨hv1, hv2⟩ := valids hv
  have hn1 := valid_len hv1
  have hn2 := valid_len hv2
  have hF : byNameF a b = (pairN (pairB a b) b.length a.length, 0) := by rw [byNameF, if_pos hv]
  generalize hc : pairB a b = c at hF
  refine runS_x (I := inf) (J := jnf) ⟨false, false, [], 0, 0⟩ 9999 rfl (by repeat (first | exact obs_nil | refine obs_draw (by kernel_rfl) ?_ | refine obs_same ?_ | refine obs_and ?_ | refine obs_by (by (simp [inB] <;> omega)) ?_)) ?_
  refine runS_nilRow 6 103 2 nilPr rfl rfl ?_
  refine runS_while (fun (i : Nat) τ ar => (τ 0 = fldS n1 a ∧ τ 1 = fldS n2 b ∧ τ 6 = .row 0 (pairN c b.length i).length ∧ τ 7 = iv i) ∧ ar = [.row 103 2 (pairN c b.length i).length (pairN c b.length i).length (encR prE (0, 0) (pairN c b.length i))] ∧ i ≤ a.length) (fun i => a.length - i) 0 ⟨⟨rfl, rfl, rfl, rfl⟩, rfl, Nat.zero_le _⟩ ?_
  rintro i τ' ar' ⟨⟨g0, g1, g6, g7⟩, rfl, hi⟩ ih
  refine runS_says 0 (by exact g0) (Says.refl _) ?_; refine runS_says 1 (by exact g1) (Says.refl _) ?_; refine runS_says 6 (by exact g6) (Says.refl _) ?_; refine runS_says 7 (by exact g7) (Says.refl _) ?_
  refine runS_x (I := inf) (J := jnf) ⟨false, false, [], 0, 0⟩ 9999 rfl (by repeat (first | exact obs_nil | refine obs_draw (by kernel_rfl) ?_ | refine obs_same ?_ | refine obs_and ?_ | refine obs_by (by (simp [inB] <;> omega)) ?_)) ?_
  refine runS_cond rfl (fun hlt => ?_) (fun hlt => ?_)
  · have hlt' : i < a.length := by simpa using hlt
    have hw2 : IntKind.wrap .i64 ((i : Int) + 1) = ((i + 1 : Nat) : Int) := by rw [w64 (by omega) (by omega)]; rfl
    have hpi := pth_pos a i
    have hpl := pth_len a i
    have hsq : (i + 1) * b.length ≤ 200 * 200 := Nat.mul_le_mul (by omega) hn2.2
    refine runS_x (I := inf) (J := jnf) ⟨false, false, [], 0, 0⟩ 9999 rfl (by repeat (first | exact obs_nil | refine obs_draw (by kernel_rfl) ?_ | refine obs_same ?_ | refine obs_and ?_ | refine obs_by (by (simp [inB] <;> omega)) ?_)) ?_
    refine runS_while (fun (k : Nat) τ ar => (τ 0 = fldS n1 a ∧ τ 1 = fldS n2 b ∧ τ 6 = .row 0 (prsK c b.length i k).length ∧ τ 7 = iv i ∧ τ 8 = iv k) ∧ ar = [.row 103 2 (prsK c b.length i k).length (prsK c b.length i k).length (encR prE (0, 0) (prsK c b.length i k))] ∧ k ≤ b.length) (fun k => b.length - k) 0 ⟨⟨rfl, rfl, by rw [prsK_zero]; rfl, rfl, rfl⟩, by rw [prsK_zero], Nat.zero_le _⟩ ?_
    rintro k τ' ar' ⟨⟨g0, g1, g6, g7, g8⟩, rfl, hk⟩ ih2
    refine runS_says 0 (by exact g0) (Says.refl _) ?_; refine runS_says 1 (by exact g1) (Says.refl _) ?_; refine runS_says 6 (by exact g6) (Says.refl _) ?_; refine runS_says 7 (by exact g7) (Says.refl _) ?_; refine runS_says 8 (by exact g8) (Says.refl _) ?_
    have hle := prsK_le c b.length i k hk
    refine runS_x (I := inf) (J := jnf) ⟨false, false, [], 0, 0⟩ 9999 rfl (by repeat (first | exact obs_nil | refine obs_draw (by kernel_rfl) ?_ | refine obs_same ?_ | refine obs_and ?_ | refine obs_by (by (simp [inB] <;> omega)) ?_)) ?_
    refine runS_cond rfl (fun hltk => ?_) (fun hltk => ?_)
    · have hltk' : k < b.length := by simpa using hltk
      have hw3 : IntKind.wrap .i64 ((k : Int) + 1) = ((k + 1 : Nat) : Int) := by rw [w64 (by omega) (by omega)]; rfl
      have hpk := pth_pos b k
      have hs1 := prsK_succ c b.length i k
      refine runS_x (I := inf) (J := jnf) ⟨false, false, [], 0, 0⟩ 9999 rfl (by repeat (first | exact obs_nil | refine obs_draw (by kernel_rfl) ?_ | refine obs_same ?_ | refine obs_and ?_ | refine obs_by (by (simp [inB] <;> omega)) ?_)) ?_
      refine runS_draw 21 (by kernel_rfl) (lexj_x (I := inf) (J := jnf) 99 rfl rfl (by repeat (first | exact obs_nil | refine obs_same ?_ | refine obs_and ?_ | refine obs_by (by (simp [inB, hpi, hpk] <;> omega)) ?_)) (lexj_call rfl rfl rfl rfl rfl rfl rfl rfl (ref_inner n1 a i hlt' (by omega)) (lexj_x (I := inf) (J := jnf) 99 rfl rfl (by repeat (first | exact obs_nil | refine obs_same ?_ | refine obs_and ?_ | refine obs_by (by (simp [inB, hpi, hpk] <;> omega)) ?_)) (lexj_callU rfl rfl (by first | exact .v rfl rfl rfl rfl | exact .o rfl rfl rfl rfl) rfl rfl (by repeat (first | exact .nil | refine .cons (.n rfl) ?_ | refine .cons .o ?_ | refine .cons gok_and ?_)) rfl rfl rfl rfl rfl (fun hcond => (ref_inner n2 b k hltk' (by omega))) (lexj_x (I := inf) (J := jnf) 99 rfl rfl (by repeat (first | exact obs_nil | refine obs_same ?_ | refine obs_and ?_ | refine obs_by (by (simp [inB, hpi, hpk] <;> omega)) ?_)) (lexj_callU rfl rfl (by first | exact .v rfl rfl rfl rfl | exact .o rfl rfl rfl rfl) rfl rfl (by repeat (first | exact .nil | refine .cons (.n rfl) ?_ | refine .cons .o ?_ | refine .cons gok_and ?_)) rfl rfl rfl rfl rfl (fun hcond => (ref_path n1 a i hlt' hb1)) (lexj_x (I := inf) (J := jnf) 99 rfl rfl (by repeat (first | exact obs_nil | refine obs_same ?_ | refine obs_and ?_ | refine obs_by (by (simp [inB, hpi, hpk] <;> omega)) ?_)) (lexj_callU rfl rfl (by first | exact .v rfl rfl rfl rfl | exact .o rfl rfl rfl rfl) rfl rfl (by repeat (first | exact .nil | refine .cons (.n rfl) ?_ | refine .cons .o ?_ | refine .cons gok_and ?_)) rfl rfl rfl rfl rfl (fun hcond => (ref_path n2 b k hltk' hb2)) (lexj_x (I := inf) (J := jnf) 99 rfl rfl (by repeat (first | exact obs_nil | refine obs_same ?_ | refine obs_and ?_ | refine obs_by (by (simp [inB, hpi, hpk] <;> omega)) ?_)) (lexj_callU rfl rfl (by first | exact .v rfl rfl rfl rfl | exact .o rfl rfl rfl rfl) rfl rfl (by repeat (first | exact .nil | refine .cons (.n rfl) ?_ | refine .cons .o ?_ | refine .cons gok_and ?_)) rfl rfl rfl rfl rfl (fun hcond => (ref_sameD none none (pth a i) (pth b k) (by omega) hpi hpk)) (lexj_x (I := inf) (J := jnf) 99 rfl rfl (by repeat (first | exact obs_nil | refine obs_same ?_ | refine obs_and ?_ | refine obs_by (by (simp [inB, hpi, hpk] <;> omega)) ?_)) lexj_nil))))))))))) ?_
      refine runS_x (I := inf) (J := jnf) ⟨false, false, [], 0, 0⟩ 9999 rfl (by repeat (first | exact obs_nil | refine obs_draw (by kernel_rfl) ?_ | refine obs_same ?_ | refine obs_and ?_ | refine obs_by (by (simp [inB] <;> omega)) ?_)) ?_
      have hw4 : (if (if (!innerB a i) = true then !innerB b k else false) = true then decide ((pth a i).drop 1 = (pth b k).drop 1) else false) = c i k := by
        rw [← hc, pairB, leafB, leafB, eqT]
        cases innerB a i <;> cases innerB b k <;> simp
      refine runS_cond rfl (fun hz => ?_) (fun hz => ?_)
      · rw [if_pos (hw4.symm.trans hz)] at hs1
        refine runS_x (I := inf) (J := jnf) ⟨false, false, [], 0, 0⟩ 9999 rfl (by repeat (first | exact obs_nil | refine obs_draw (by kernel_rfl) ?_ | refine obs_same ?_ | refine obs_and ?_ | refine obs_by (by (simp [inB] <;> omega)) ?_)) ?_
        refine runS_tell 0 (encR prE (0, 0) (prsK c b.length i k ++ [(i, k)])) rfl (m' := (prsK c b.length i k).length + 1) rfl (prR_snoc rfl) rfl ?_
        refine runS_drop 1 (Nat.zero_le _) rfl (by repeat (first | exact .nil | refine .row (fun j hj => rfl) ?_ | refine .box rfl ?_ | refine .fam (fun k j hk hj => rfl) ?_ | refine .loop (scrub_under _ _) ?_ | refine .dfr ?_ | refine .gone ?_ | refine .map (fun p hp => by (obtain ⟨k, _, rfl⟩ := List.mem_map.1 hp; rfl)) ?_)) rfl rfl rfl (by repeat (first | exact .nil | refine .cons rfl rfl rfl (scrub_under _ _) ?_)) ?_
        exact ih2 (k + 1) _ _ (by omega) ⟨⟨rfl, rfl, by rw [hs1, List.length_append]; rfl, rfl, congrArg iv hw3⟩, by rw [hs1, List.length_append]; rfl, by omega⟩
      · rw [if_neg (by rw [hw4.symm.trans hz]; decide)] at hs1
        refine runS_x (I := inf) (J := jnf) ⟨false, false, [], 0, 0⟩ 9999 rfl (by repeat (first | exact obs_nil | refine obs_draw (by kernel_rfl) ?_ | refine obs_same ?_ | refine obs_and ?_ | refine obs_by (by (simp [inB] <;> omega)) ?_)) ?_
        exact ih2 (k + 1) _ _ (by omega) ⟨⟨rfl, rfl, by rw [hs1]; rfl, rfl, congrArg iv hw3⟩, by rw [hs1], by omega⟩
    · have hke : k = b.length := by simp at hltk; omega
      subst hke
      rw [prsK_all]
      refine runS_x (I := inf) (J := jnf) ⟨false, false, [], 0, 0⟩ 9999 rfl (by repeat (first | exact obs_nil | refine obs_draw (by kernel_rfl) ?_ | refine obs_same ?_ | refine obs_and ?_ | refine obs_by (by (simp [inB] <;> omega)) ?_)) ?_
      exact ih (i + 1) _ _ (by omega) ⟨⟨rfl, rfl, rfl, congrArg iv hw2⟩, rfl, by omega⟩
  · have : i = a.length := by simp at hlt; omega
    subst this
    refine runS_freeze 6 rfl rfl rfl (fun j hj => rfl) ?_
    refine runS_x (I := inf) (J := jnf) ⟨false, false, [], 0, 0⟩ 9999 rfl (by repeat (first | exact obs_nil | refine obs_draw (by kernel_rfl) ?_ | refine obs_same ?_ | refine obs_and ?_ | refine obs_by (by (simp [inB] <;> omega)) ?_)) ?_
    refine runS_ret (I := inf) 0 rfl (Nat.le_refl _) rfl .nil rfl ⟨?_, rfl⟩
    rw [hF]
    rfl
end Go.Iron.Try

/- The level package: ByName. -/
namespace Go.Iron.Try
open Go.Proofs

def outP (a b : List Fld) (p : Nat) : List (Nat × Nat) := ((leafN a a.length).take p).flatMap fun i => rowB (pairB a b) i b.length
def inP (a b : List Fld) (i q : Nat) : List (Nat × Nat) := (((leafN b b.length).take q).filter (eqT a b i)).map fun k => (i, k)
theorem outP_succ {a b : List Fld} {p : Nat} (h : p < (leafN a a.length).length) : outP a b (p + 1) = outP a b p ++ rowB (pairB a b) ((leafN a a.length).getD p 0) b.length := by
  rw [outP, take_nextN h, List.flatMap_append, outP]
  simp
theorem inP_succ {a b : List Fld} {i q : Nat} (h : q < (leafN b b.length).length) : inP a b i (q + 1) = if eqT a b i ((leafN b b.length).getD q 0) then inP a b i q ++ [(i, (leafN b b.length).getD q 0)] else inP a b i q := by
  rw [inP, take_nextN h, List.filter_append, inP]
  by_cases he : eqT a b i ((leafN b b.length).getD q 0) = true
  · rw [if_pos he, List.filter_cons_of_pos he]; simp
  · rw [if_neg he, List.filter_cons_of_neg he]; simp
theorem leaf_at {l : List Fld} {n p : Nat} (h : p < (leafN l n).length) : (leafN l n).getD p 0 < n ∧ leafB l ((leafN l n).getD p 0) = true := by
  have : (leafN l n).getD p 0 ∈ leafN l n := by
    rw [List.getD_eq_getElem?_getD, List.getElem?_eq_getElem h]
    exact List.getElem_mem h
  unfold leafN at this
  rw [List.mem_filter, List.mem_range] at this
  exact this
theorem inP_all {a b : List Fld} {i : Nat} (h : leafB a i = true) : inP a b i (leafN b b.length).length = rowB (pairB a b) i b.length := by
  rw [rowB_leaf, if_pos h, inP, List.take_length]
theorem out_all (a b : List Fld) (m : Nat) : ∀ n, (leafN a n).flatMap (fun i => rowB (pairB a b) i m) = pairN (pairB a b) m n
  | 0 => rfl
  | n + 1 => by
    rw [pairN_succ, ← out_all a b m n, leafN_succ]
    cases h : innerB a n
    · rw [if_neg (by decide), List.flatMap_append]; simp
    · rw [if_pos rfl, rowB_leaf, if_neg (by rw [leafB, h]; decide), List.append_nil]
theorem outP_all (a b : List Fld) : outP a b (leafN a a.length).length = pairN (pairB a b) b.length a.length := by
  rw [outP, List.take_length, out_all]
theorem inP_le (a b : List Fld) (i q : Nat) : (inP a b i q).length ≤ b.length := by
  have h1 : (inP a b i q).length ≤ ((leafN b b.length).take q).length := by
    rw [inP, List.length_map]
    exact List.length_filter_le _ _
  have h2 := leafN_len b b.length
  rw [List.length_take] at h1
  omega
theorem rowB_le (c : Nat → Nat → Bool) (i n : Nat) : (rowB c i n).length ≤ n := by
  rw [rowB_len]
  have : (List.range n).countP (c i) ≤ (List.range n).length := List.countP_le_length
  simpa using this
theorem outP_le (a b : List Fld) : ∀ p, p ≤ (leafN a a.length).length → (outP a b p).length ≤ p * b.length
  | 0, _ => by simp [outP]
  | p + 1, h => by
    rw [outP_succ (by omega), List.length_append, Nat.succ_mul]
    have h1 := outP_le a b p (by omega)
    have h2 := rowB_le (pairB a b) ((leafN a a.length).getD p 0) b.length
    omega
theorem level_ByName (n1 n2 : Option Bool) (a b : List Fld) (ha : smallF a) (hb : smallF b) : CallT Try.prog 86 [fldS n1 a, fldS n2 b] [] (fun o A => o = .ret (prA (byNameF a b)) ∧ A = []) := by
  have hb1 := ha.1
  have hb2 := hb.1
  by_cases hv : (validF a && validF b) = true
  · obtain ⟨hv1, hv2⟩ := valids hv
    have hn1 := valid_len hv1
    have hn2 := valid_len hv2
    have hw : (if validF a = true then validF b else false) = true := by rw [hv1, hv2]; rfl
    refine callS_body (n := 10) rfl rfl fun w ρ X => ?_
    refine runS_x (I := inf) (J := jnf) ⟨false, false, [148, 149], 0, 0⟩ 9999 rfl (by repeat (first | exact obs_nil | refine obs_draw (by kernel_rfl) ?_ | refine obs_same ?_ | refine obs_and ?_ | refine obs_by (by (simp [inB] <;> omega)) ?_)) ?_
    refine runS_call rfl rfl rfl rfl rfl rfl rfl (level_valid n1 a ha) ?_
    refine runS_x (I := inf) (J := jnf) ⟨false, false, [], 0, 0⟩ 9999 rfl (by repeat (first | exact obs_nil | refine obs_draw (by kernel_rfl) ?_ | refine obs_same ?_ | refine obs_and ?_ | refine obs_by (by (simp [inB] <;> omega)) ?_)) ?_
    refine runS_callU rfl rfl (by first | exact .v rfl rfl rfl rfl | exact .o rfl rfl rfl rfl) rfl rfl (by repeat (first | exact .nil | refine .cons (.n rfl) ?_ | refine .cons .o ?_ | refine .cons gok_and ?_)) rfl rfl rfl rfl rfl (fun _ => (level_valid n2 b hb)) ?_
    refine runS_x (I := inf) (J := jnf) ⟨false, false, [], 0, 0⟩ 9999 rfl (by repeat (first | exact obs_nil | refine obs_draw (by kernel_rfl) ?_ | refine obs_same ?_ | refine obs_and ?_ | refine obs_by (by (simp [inB] <;> omega)) ?_)) ?_
    refine runS_says 15 (show _ = bv true from congrArg bv hw) (Says.refl _) ?_
    refine runS_call rfl rfl rfl rfl rfl rfl rfl (must_ok 1) ?_
    refine runS_x (I := inf) (J := jnf) ⟨false, false, [], 0, 0⟩ 9999 rfl (by repeat (first | exact obs_nil | refine obs_draw (by kernel_rfl) ?_ | refine obs_same ?_ | refine obs_and ?_ | refine obs_by (by (simp [inB] <;> omega)) ?_)) ?_
    refine runS_draw 4 (by kernel_rfl) (lexj_x (I := inf) (J := jnf) 99 rfl rfl (by repeat (first | exact obs_nil | refine obs_same ?_ | refine obs_and ?_ | refine obs_by (by (simp [inB] <;> omega)) ?_)) (lexj_call rfl rfl rfl rfl rfl rfl rfl rfl (level_tree n1 a hb1) (lexj_x (I := inf) (J := jnf) 99 rfl rfl (by repeat (first | exact obs_nil | refine obs_same ?_ | refine obs_and ?_ | refine obs_by (by (simp [inB] <;> omega)) ?_)) (lexj_call rfl rfl rfl rfl rfl rfl rfl rfl (level_tree n2 b hb2) (lexj_x (I := inf) (J := jnf) 99 rfl rfl (by repeat (first | exact obs_nil | refine obs_same ?_ | refine obs_and ?_ | refine obs_by (by (simp [inB] <;> omega)) ?_)) lexj_nil))))) ?_
    refine runS_x (I := inf) (J := jnf) ⟨false, false, [], 0, 0⟩ 9999 rfl (by repeat (first | exact obs_nil | refine obs_draw (by kernel_rfl) ?_ | refine obs_same ?_ | refine obs_and ?_ | refine obs_by (by (simp [inB] <;> omega)) ?_)) ?_
    refine runS_call rfl rfl rfl rfl rfl rfl rfl (level_leaves none a hb1) ?_
    refine runS_x (I := inf) (J := jnf) ⟨false, false, [], 0, 0⟩ 9999 rfl (by repeat (first | exact obs_nil | refine obs_draw (by kernel_rfl) ?_ | refine obs_same ?_ | refine obs_and ?_ | refine obs_by (by (simp [inB] <;> omega)) ?_)) ?_
    refine runS_nilRow 5 103 2 nilPr rfl rfl ?_
    refine runS_forget 5 rfl ?_
    have hla := leafN_len a a.length
    have hlb := leafN_len b b.length
    refine runS_while (fun (p : Nat) τ ar => (τ 3 = treeS none a ∧ τ 4 = treeS none b ∧ τ 5 = .row 4 (outP a b p).length ∧ τ 22 = natS (leafN a a.length) ∧ τ 23 = iv (leafN a a.length).length ∧ τ 24 = iv p) ∧ ar = [.box 41 [fldS n1 a], .box 41 [fldS n2 b], .box 98 [.val (.slice none 0 0)], .box 51 [iv 0], .row 103 2 (outP a b p).length (outP a b p).length (encR prE (0, 0) (outP a b p))] ∧ p ≤ (leafN a a.length).length) (fun p => (leafN a a.length).length - p) 0 ⟨⟨rfl, rfl, rfl, rfl, rfl, rfl⟩, rfl, Nat.zero_le _⟩ ?_
    rintro p τ' ar' ⟨⟨g3, g4, g5, g22, g23, g24⟩, rfl, hp⟩ ih
    refine runS_says 3 (by exact g3) (Says.refl _) ?_; refine runS_says 4 (by exact g4) (Says.refl _) ?_; refine runS_says 5 (by exact g5) (Says.refl _) ?_; refine runS_says 22 (by exact g22) (Says.refl _) ?_; refine runS_says 23 (by exact g23) (Says.refl _) ?_; refine runS_says 24 (by exact g24) (Says.refl _) ?_
    refine runS_x (I := inf) (J := jnf) ⟨false, false, [], 0, 0⟩ 9999 rfl (by repeat (first | exact obs_nil | refine obs_draw (by kernel_rfl) ?_ | refine obs_same ?_ | refine obs_and ?_ | refine obs_by (by (simp [inB] <;> omega)) ?_)) ?_
    refine runS_cond rfl (fun hlt => ?_) (fun hlt => ?_)
    · have hlt' : p < (leafN a a.length).length := by simpa using hlt
      have hw2 : IntKind.wrap .i64 ((p : Int) + 1) = ((p + 1 : Nat) : Int) := by rw [w64 (by omega) (by omega)]; rfl
      obtain ⟨hi1, hi2⟩ := leaf_at hlt'
      have ho1 := outP_le a b p hp
      have hsq : p * b.length ≤ 200 * 200 := Nat.mul_le_mul (by omega) hn2.2
      have hos := outP_succ (b := b) hlt'
      generalize hie : (leafN a a.length).getD p 0 = i at *
      refine runS_x (I := inf) (J := jnf) ⟨false, false, [], 0, 0⟩ 9999 rfl (by repeat (first | exact obs_nil | refine obs_draw (by kernel_rfl) ?_ | refine obs_same ?_ | refine obs_and ?_ | refine obs_by (by (simp [inB, hlt'] <;> omega)) ?_)) ?_
      refine runS_says 7 (show _ = iv (i : Int) from congrArg (fun x : Nat => iv x) hie) (Says.refl _) ?_
      refine runS_call rfl rfl rfl rfl rfl rfl rfl (level_leaves none b hb2) ?_
      refine runS_x (I := inf) (J := jnf) ⟨false, false, [], 0, 0⟩ 9999 rfl (by repeat (first | exact obs_nil | refine obs_draw (by kernel_rfl) ?_ | refine obs_same ?_ | refine obs_and ?_ | refine obs_by (by (simp [inB] <;> omega)) ?_)) ?_
      have hil := hi1
      have hpi := pth_pos a i
      have hpl := pth_len a i
      refine runS_while (fun (q : Nat) τ ar => (τ 3 = treeS none a ∧ τ 4 = treeS none b ∧ τ 5 = .row 4 (outP a b p ++ inP a b i q).length ∧ τ 7 = iv i ∧ τ 22 = natS (leafN a a.length) ∧ τ 23 = iv (leafN a a.length).length ∧ τ 24 = iv p ∧ τ 29 = natS (leafN b b.length) ∧ τ 30 = iv (leafN b b.length).length ∧ τ 31 = iv q) ∧ ar = [.box 41 [fldS n1 a], .box 41 [fldS n2 b], .box 98 [.val (.slice none 0 0)], .box 51 [iv 0], .row 103 2 (outP a b p ++ inP a b i q).length (outP a b p ++ inP a b i q).length (encR prE (0, 0) (outP a b p ++ inP a b i q))] ∧ q ≤ (leafN b b.length).length) (fun q => (leafN b b.length).length - q) 0
        ⟨⟨rfl, rfl, by rw [show inP a b i 0 = [] from rfl, List.append_nil]; rfl, rfl, rfl, rfl, rfl, rfl, rfl, rfl⟩, by rw [show inP a b i 0 = [] from rfl, List.append_nil], Nat.zero_le _⟩ ?_
      rintro q τ' ar' ⟨⟨g3, g4, g5, g7, g22, g23, g24, g29, g30, g31⟩, rfl, hq⟩ ih2
      refine runS_says 3 (by exact g3) (Says.refl _) ?_; refine runS_says 4 (by exact g4) (Says.refl _) ?_; refine runS_says 5 (by exact g5) (Says.refl _) ?_; refine runS_says 7 (by exact g7) (Says.refl _) ?_; refine runS_says 22 (by exact g22) (Says.refl _) ?_; refine runS_says 23 (by exact g23) (Says.refl _) ?_; refine runS_says 24 (by exact g24) (Says.refl _) ?_; refine runS_says 29 (by exact g29) (Says.refl _) ?_; refine runS_says 30 (by exact g30) (Says.refl _) ?_; refine runS_says 31 (by exact g31) (Says.refl _) ?_
      refine runS_x (I := inf) (J := jnf) ⟨false, false, [], 0, 0⟩ 9999 rfl (by repeat (first | exact obs_nil | refine obs_draw (by kernel_rfl) ?_ | refine obs_same ?_ | refine obs_and ?_ | refine obs_by (by (simp [inB] <;> omega)) ?_)) ?_
      refine runS_cond rfl (fun hltq => ?_) (fun hltq => ?_)
      · have hltq' : q < (leafN b b.length).length := by simpa using hltq
        have hw3 : IntKind.wrap .i64 ((q : Int) + 1) = ((q + 1 : Nat) : Int) := by rw [w64 (by omega) (by omega)]; rfl
        obtain ⟨hk1, hk2⟩ := leaf_at hltq'
        have his := inP_succ (i := i) (a := a) hltq'
        have hle : (outP a b p ++ inP a b i q).length ≤ 40000 + 200 := by
          rw [List.length_append]
          have := inP_le a b i q
          omega
        have hle2 : (outP a b p).length + (inP a b i q).length ≤ 40000 + 200 := by rwa [List.length_append] at hle
        generalize hke : (leafN b b.length).getD q 0 = k at *
        have hpk := pth_pos b k
        refine runS_x (I := inf) (J := jnf) ⟨false, false, [], 0, 0⟩ 9999 rfl (by repeat (first | exact obs_nil | refine obs_draw (by kernel_rfl) ?_ | refine obs_same ?_ | refine obs_and ?_ | refine obs_by (by (simp [inB, hltq'] <;> omega)) ?_)) ?_
        refine runS_says 9 (show _ = iv (k : Int) from congrArg (fun x : Nat => iv x) hke) (Says.refl _) ?_
        refine runS_draw 9 (by kernel_rfl) (lexj_x (I := inf) (J := jnf) 99 rfl rfl (by repeat (first | exact obs_nil | refine obs_same ?_ | refine obs_and ?_ | refine obs_by (by (simp [inB, hpi, hpk] <;> omega)) ?_)) (lexj_call rfl rfl rfl rfl rfl rfl rfl rfl (level_path none a i hi1 hb1) (lexj_x (I := inf) (J := jnf) 99 rfl rfl (by repeat (first | exact obs_nil | refine obs_same ?_ | refine obs_and ?_ | refine obs_by (by (simp [inB, hpi, hpk] <;> omega)) ?_)) (lexj_call rfl rfl rfl rfl rfl rfl rfl rfl (level_path none b k hk1 hb2) (lexj_x (I := inf) (J := jnf) 99 rfl rfl (by repeat (first | exact obs_nil | refine obs_same ?_ | refine obs_and ?_ | refine obs_by (by (simp [inB, hpi, hpk] <;> omega)) ?_)) (lexj_call rfl rfl rfl rfl rfl rfl rfl rfl (level_sameD none none (pth a i) (pth b k) (by omega) hpi hpk) (lexj_x (I := inf) (J := jnf) 99 rfl rfl (by repeat (first | exact obs_nil | refine obs_same ?_ | refine obs_and ?_ | refine obs_by (by (simp [inB, hpi, hpk] <;> omega)) ?_)) lexj_nil))))))) ?_
        refine runS_x (I := inf) (J := jnf) ⟨false, false, [], 0, 0⟩ 9999 rfl (by repeat (first | exact obs_nil | refine obs_draw (by kernel_rfl) ?_ | refine obs_same ?_ | refine obs_and ?_ | refine obs_by (by (simp [inB] <;> omega)) ?_)) ?_
        refine runS_cond rfl (fun hz => ?_) (fun hz => ?_)
        · have hz' : eqT a b i k = true := hz
          rw [if_pos hz'] at his
          refine runS_x (I := inf) (J := jnf) ⟨false, false, [], 0, 0⟩ 9999 rfl (by repeat (first | exact obs_nil | refine obs_draw (by kernel_rfl) ?_ | refine obs_same ?_ | refine obs_and ?_ | refine obs_by (by (simp [inB] <;> omega)) ?_)) ?_
          refine runS_tell 4 (encR prE (0, 0) ((outP a b p ++ inP a b i q) ++ [(i, k)])) rfl (m' := (outP a b p ++ inP a b i q).length + 1) rfl (prR_snoc rfl) rfl ?_
          refine runS_drop 5 (Nat.zero_le _) rfl (by repeat (first | exact .nil | refine .row (fun j hj => rfl) ?_ | refine .box rfl ?_ | refine .fam (fun k j hk hj => rfl) ?_ | refine .loop (scrub_under _ _) ?_ | refine .dfr ?_ | refine .gone ?_ | refine .map (fun p hp => by (obtain ⟨k, _, rfl⟩ := List.mem_map.1 hp; rfl)) ?_)) rfl rfl rfl (by repeat (first | exact .nil | refine .cons rfl rfl rfl (scrub_under _ _) ?_)) ?_
          refine ih2 (q + 1) _ _ (by omega) ⟨⟨rfl, rfl, ?_, rfl, rfl, rfl, rfl, rfl, rfl, congrArg iv hw3⟩, ?_, by omega⟩
          · rw [his, ← List.append_assoc, List.length_append (bs := [(i, k)])]; rfl
          · rw [his, ← List.append_assoc, List.length_append (bs := [(i, k)])]; rfl
        · have hz' : eqT a b i k = false := hz
          rw [if_neg (by rw [hz']; decide)] at his
          refine runS_x (I := inf) (J := jnf) ⟨false, false, [], 0, 0⟩ 9999 rfl (by repeat (first | exact obs_nil | refine obs_draw (by kernel_rfl) ?_ | refine obs_same ?_ | refine obs_and ?_ | refine obs_by (by (simp [inB] <;> omega)) ?_)) ?_
          exact ih2 (q + 1) _ _ (by omega) ⟨⟨rfl, rfl, by rw [his]; rfl, rfl, rfl, rfl, rfl, rfl, rfl, congrArg iv hw3⟩, by rw [his], by omega⟩
      · have hqe : q = (leafN b b.length).length := by simp at hltq; omega
        subst hqe
        rw [inP_all hi2, ← hos]
        refine runS_x (I := inf) (J := jnf) ⟨false, false, [], 0, 0⟩ 9999 rfl (by repeat (first | exact obs_nil | refine obs_draw (by kernel_rfl) ?_ | refine obs_same ?_ | refine obs_and ?_ | refine obs_by (by (simp [inB] <;> omega)) ?_)) ?_
        exact ih (p + 1) _ _ (by omega) ⟨⟨rfl, rfl, rfl, rfl, rfl, congrArg iv hw2⟩, rfl, by omega⟩
    · have : p = (leafN a a.length).length := by simp at hlt; omega
      subst this
      refine runS_freeze 5 rfl rfl rfl (fun j hj => rfl) ?_
      refine runS_x (I := inf) (J := jnf) ⟨true, false, [176], 0, 0⟩ 9999 rfl (by repeat (first | exact obs_nil | refine obs_draw (by kernel_rfl) ?_ | refine obs_same ?_ | refine obs_and ?_ | refine obs_by (by (simp [inB] <;> omega)) ?_)) ?_
      refine runS_ret (I := inf) 0 rfl (Nat.le_refl _) rfl .nil rfl ⟨?_, rfl⟩
      rw [byNameF, if_pos hv, outP_all]
      rfl
  · have hv' : (validF a && validF b) = false := by simpa using hv
    have hw : (if validF a = true then validF b else false) = false := by
      rw [← hv']
      cases validF a <;> rfl
    refine callS_body (n := 10) rfl rfl fun w ρ X => ?_
    refine runS_x (I := inf) (J := jnf) ⟨false, false, [148, 149], 0, 0⟩ 9999 rfl (by repeat (first | exact obs_nil | refine obs_draw (by kernel_rfl) ?_ | refine obs_same ?_ | refine obs_and ?_ | refine obs_by (by (simp [inB] <;> omega)) ?_)) ?_
    refine runS_call rfl rfl rfl rfl rfl rfl rfl (level_valid n1 a ha) ?_
    refine runS_x (I := inf) (J := jnf) ⟨false, false, [], 0, 0⟩ 9999 rfl (by repeat (first | exact obs_nil | refine obs_draw (by kernel_rfl) ?_ | refine obs_same ?_ | refine obs_and ?_ | refine obs_by (by (simp [inB] <;> omega)) ?_)) ?_
    refine runS_callU rfl rfl (by first | exact .v rfl rfl rfl rfl | exact .o rfl rfl rfl rfl) rfl rfl (by repeat (first | exact .nil | refine .cons (.n rfl) ?_ | refine .cons .o ?_ | refine .cons gok_and ?_)) rfl rfl rfl rfl rfl (fun _ => (level_valid n2 b hb)) ?_
    refine runS_x (I := inf) (J := jnf) ⟨false, false, [], 0, 0⟩ 9999 rfl (by repeat (first | exact obs_nil | refine obs_draw (by kernel_rfl) ?_ | refine obs_same ?_ | refine obs_and ?_ | refine obs_by (by (simp [inB] <;> omega)) ?_)) ?_
    refine runS_says 15 (show _ = bv false from congrArg bv hw) (Says.refl _) ?_
    refine runS_callP rfl rfl rfl rfl rfl rfl rfl (must_no 1) ?_
    refine runS_x (I := inf) (J := jnf) ⟨true, false, [176], 0, 0⟩ 9999 rfl (by repeat (first | exact obs_nil | refine obs_draw (by kernel_rfl) ?_ | refine obs_same ?_ | refine obs_and ?_ | refine obs_by (by (simp [inB] <;> omega)) ?_)) ?_
    refine runS_drawG (ch := []) 4 [3] (fun b' => [.box 41 [fldS n1 a], .box 41 [fldS n2 b], .box 98 [.val (.slice none 0 0)], .box 51 [iv 0], .box 170 [iv 1]]) none (c := 9) jnfI.draw (by kernel_rfl) rfl (lexg_g (I := inf) (J := jnf) none ⟨⟨_, rfl, (by repeat (first | exact obs_nil | refine obs_same ?_ | refine obs_and ?_ | refine obs_by (by (simp [inB] <;> omega)) ?_))⟩, (by first | exact .inl (by decide +kernel) | exact .inr ⟨_, rfl, (by repeat (first | exact obs_nil | refine obs_same ?_ | refine obs_and ?_ | refine obs_by (by (simp [inB] <;> omega)) ?_))⟩)⟩ rfl rfl rfl rfl (lexg_g (I := inf) (J := jnf) none ⟨⟨_, rfl, (by repeat (first | exact obs_nil | refine obs_same ?_ | refine obs_and ?_ | refine obs_by (by (simp [inB] <;> omega)) ?_))⟩, (by first | exact .inl (by decide +kernel) | exact .inr ⟨_, rfl, (by repeat (first | exact obs_nil | refine obs_same ?_ | refine obs_and ?_ | refine obs_by (by (simp [inB] <;> omega)) ?_))⟩)⟩ rfl rfl rfl rfl (lexg_g (I := inf) (J := jnf) none ⟨⟨_, rfl, (by repeat (first | exact obs_nil | refine obs_same ?_ | refine obs_and ?_ | refine obs_by (by (simp [inB] <;> omega)) ?_))⟩, (by first | exact .inl (by decide +kernel) | exact .inr ⟨_, rfl, (by repeat (first | exact obs_nil | refine obs_same ?_ | refine obs_and ?_ | refine obs_by (by (simp [inB] <;> omega)) ?_))⟩)⟩ rfl rfl rfl rfl (lexg_g (I := inf) (J := jnf) (some .store) ⟨⟨_, rfl, (by repeat (first | exact obs_nil | refine obs_same ?_ | refine obs_and ?_ | refine obs_by (by (simp [inB] <;> omega)) ?_))⟩, .inl rfl⟩ rfl rfl rfl rfl lexg_nil)))) rfl (fun _ => ?_) (fun h => by cases h)
    refine runS_x (I := inf) (J := jnf) ⟨true, false, [176], 0, 0⟩ 9999 rfl (by repeat (first | exact obs_nil | refine obs_draw (by kernel_rfl) ?_ | refine obs_same ?_ | refine obs_and ?_ | refine obs_by (by (simp [inB] <;> omega)) ?_)) ?_
    refine runS_says 4 rfl (says_nil0 (sz := 2) (r := nilPr) (Nat.zero_le _)) ?_
    refine runS_ret (I := inf) 0 rfl (Nat.le_refl _) rfl .nil rfl ⟨?_, rfl⟩
    rw [byNameF, hv']
    rfl
end Go.Iron.Try

/- The level package's laws: levelByName. -/
namespace Go.Iron.Try
open Go.Proofs

theorem byName_len (a b : List Fld) : (byNameF a b).1.length ≤ 40000 := by
  unfold byNameF
  split
  · rename_i hv
    obtain ⟨h1, h2⟩ := valids hv
    have h3 := pairN_le (pairB a b) b.length a.length
    have h4 : a.length * b.length ≤ 200 * 200 := Nat.mul_le_mul (valid_len h1).2 (valid_len h2).2
    dsimp only
    omega
  · exact Nat.zero_le _
def turnB (x y : Nat × Nat) : Bool := y.1 == x.2 && y.2 == x.1
def metN (zs : List (Nat × Nat)) (x : Nat × Nat) (k : Nat) : Bool := (zs.take k).any (turnB x)
theorem metN_succ {zs : List (Nat × Nat)} {x : Nat × Nat} {k : Nat} (h : k < zs.length) : metN zs x (k + 1) = (metN zs x k || turnB x (zs.getD k (0, 0))) := by
  unfold metN
  rw [List.take_succ_eq_append_getElem h, List.any_append, List.getD_eq_getElem?_getD, List.getElem?_eq_getElem h]
  simp
theorem metN_all {zs : List (Nat × Nat)} {x : Nat × Nat} (h : (x.2, x.1) ∈ zs) : metN zs x zs.length = true := by
  rw [metN, List.take_length, List.any_eq_true]
  exact ⟨_, h, by simp [turnB]⟩
theorem lev_levelByName (n1 n2 : Option Bool) (a b : List Fld) (hb1 : a.length < 1000000000000000) (hb2 : b.length < 1000000000000000) : CallT Try.prog 32 [fldS n1 a, fldS n2 b] [] (fun out A => out = .ret (bv true) ∧ A = []) := by
  refine callS_body (n := 146) rfl rfl fun w ρ X => ?_
  refine runS_x (I := inf) (J := jnf) ⟨false, false, [], 0, 0⟩ 9999 rfl (by repeat (first | exact obs_nil | refine obs_draw (by kernel_rfl) ?_ | refine obs_same ?_ | refine obs_and ?_ | refine obs_by (by (simp [inB] <;> omega)) ?_)) ?_
  refine runS_call rfl rfl rfl rfl rfl rfl rfl (lev_light n1 a hb1) ?_
  refine runS_x (I := inf) (J := jnf) ⟨false, false, [], 0, 0⟩ 9999 rfl (by repeat (first | exact obs_nil | refine obs_draw (by kernel_rfl) ?_ | refine obs_same ?_ | refine obs_and ?_ | refine obs_by (by (simp [inB] <;> omega)) ?_)) ?_
  refine runS_callU rfl rfl (by first | exact .v rfl rfl rfl rfl | exact .o rfl rfl rfl rfl) rfl rfl (by repeat (first | exact .nil | refine .cons (.n rfl) ?_ | refine .cons .o ?_ | refine .cons gok_and ?_)) rfl rfl rfl rfl rfl (fun _ => (lev_light n2 b hb2)) ?_
  refine runS_x (I := inf) (J := jnf) ⟨false, false, [], 0, 0⟩ 9999 rfl (by repeat (first | exact obs_nil | refine obs_draw (by kernel_rfl) ?_ | refine obs_same ?_ | refine obs_and ?_ | refine obs_by (by (simp [inB] <;> omega)) ?_)) ?_
  refine runS_cond rfl (fun h => ?_) (fun h => ?_)
  · refine runS_x (I := inf) (J := jnf) ⟨false, false, [], 0, 0⟩ 9999 rfl (by repeat (first | exact obs_nil | refine obs_draw (by kernel_rfl) ?_ | refine obs_same ?_ | refine obs_and ?_ | refine obs_by (by (simp [inB] <;> omega)) ?_)) ?_
    refine runS_call rfl rfl rfl rfl rfl rfl rfl lev_awake ?_
    refine runS_x (I := inf) (J := jnf) ⟨false, false, [], 0, 0⟩ 9999 rfl (by repeat (first | exact obs_nil | refine obs_draw (by kernel_rfl) ?_ | refine obs_same ?_ | refine obs_and ?_ | refine obs_by (by (simp [inB] <;> omega)) ?_)) ?_
    refine runS_ret (I := inf) 0 rfl (Nat.le_refl _) rfl .nil rfl ⟨?_, rfl⟩
    rfl
  have hlt : lightF a = true ∧ lightF b = true := by
    have h' : (if (!lightF a) = true then true else !lightF b) = false := h
    cases hl : lightF a <;> cases ho : lightF b <;> rw [hl, ho] at h' <;> simp at h' ⊢
  have ha := light_small hlt.1
  have hb := light_small hlt.2
  have hx1 := byName_len a b
  have hz1 := byName_len b a
  obtain ⟨w1, w2, w3⟩ := byName_swap a b
  refine runS_x (I := inf) (J := jnf) ⟨false, false, [], 0, 0⟩ 9999 rfl (by repeat (first | exact obs_nil | refine obs_draw (by kernel_rfl) ?_ | refine obs_same ?_ | refine obs_and ?_ | refine obs_by (by (simp [inB] <;> omega)) ?_)) ?_
  refine runS_call rfl rfl rfl rfl rfl rfl rfl (level_ByName n1 n2 a b ha hb) ?_
  refine runS_x (I := inf) (J := jnf) ⟨false, false, [], 0, 0⟩ 9999 rfl (by repeat (first | exact obs_nil | refine obs_draw (by kernel_rfl) ?_ | refine obs_same ?_ | refine obs_and ?_ | refine obs_by (by (simp [inB] <;> omega)) ?_)) ?_
  refine runS_call rfl rfl rfl rfl rfl rfl rfl (ref_ByName n1 n2 a b ha hb) ?_
  refine runS_x (I := inf) (J := jnf) ⟨false, false, [], 0, 0⟩ 9999 rfl (by repeat (first | exact obs_nil | refine obs_draw (by kernel_rfl) ?_ | refine obs_same ?_ | refine obs_and ?_ | refine obs_by (by (simp [inB] <;> omega)) ?_)) ?_
  refine runS_call rfl rfl rfl rfl rfl rfl rfl (level_Same n1 n2 a b ha hb) ?_
  refine runS_x (I := inf) (J := jnf) ⟨false, false, [], 0, 0⟩ 9999 rfl (by repeat (first | exact obs_nil | refine obs_draw (by kernel_rfl) ?_ | refine obs_same ?_ | refine obs_and ?_ | refine obs_by (by (simp [inB] <;> omega)) ?_)) ?_
  refine runS_call rfl rfl rfl rfl rfl rfl rfl (ref_Same n1 n2 a b ha hb) ?_
  refine runS_x (I := inf) (J := jnf) ⟨false, false, [], 0, 0⟩ 9999 rfl (by repeat (first | exact obs_nil | refine obs_draw (by kernel_rfl) ?_ | refine obs_same ?_ | refine obs_and ?_ | refine obs_by (by (simp [inB] <;> omega)) ?_)) ?_
  refine runS_cond rfl (fun h => ?_) (fun h => ?_)
  · exfalso
    simp at h
  refine runS_x (I := inf) (J := jnf) ⟨false, false, [], 0, 0⟩ 9999 rfl (by repeat (first | exact obs_nil | refine obs_draw (by kernel_rfl) ?_ | refine obs_same ?_ | refine obs_and ?_ | refine obs_by (by (simp [inB] <;> omega)) ?_)) ?_
  refine runS_while (fun (i : Nat) τ ar => (τ 0 = fldS n1 a ∧ τ 1 = fldS n2 b ∧ τ 5 = prS none (byNameF a b).1 ∧ τ 7 = prS none (byNameF a b).1 ∧ τ 8 = iv (byNameF a b).2 ∧ τ 13 = iv i) ∧ ar = [] ∧ i ≤ (byNameF a b).1.length) (fun i => (byNameF a b).1.length - i) 0 ⟨⟨rfl, rfl, rfl, rfl, rfl, rfl⟩, rfl, Nat.zero_le _⟩ ?_
  rintro i τ' ar' ⟨⟨g0, g1, g5, g7, g8, g13⟩, rfl, hi⟩ ih
  refine runS_says 0 (by exact g0) (Says.refl _) ?_; refine runS_says 1 (by exact g1) (Says.refl _) ?_; refine runS_says 5 (by exact g5) (Says.refl _) ?_; refine runS_says 7 (by exact g7) (Says.refl _) ?_; refine runS_says 8 (by exact g8) (Says.refl _) ?_; refine runS_says 13 (by exact g13) (Says.refl _) ?_
  refine runS_x (I := inf) (J := jnf) ⟨false, false, [], 0, 0⟩ 9999 rfl (by repeat (first | exact obs_nil | refine obs_draw (by kernel_rfl) ?_ | refine obs_same ?_ | refine obs_and ?_ | refine obs_by (by (simp [inB] <;> omega)) ?_)) ?_
  refine runS_cond rfl (fun hlt => ?_) (fun hlt => ?_)
  · have hlt' : i < (byNameF a b).1.length := by simpa using hlt
    have hw2 : IntKind.wrap .i64 ((i : Int) + 1) = ((i + 1 : Nat) : Int) := by rw [w64 (by omega) (by omega)]; rfl
    refine runS_x (I := inf) (J := jnf) ⟨false, false, [], 0, 0⟩ 9999 rfl (by repeat (first | exact obs_nil | refine obs_draw (by kernel_rfl) ?_ | refine obs_same ?_ | refine obs_and ?_ | refine obs_by (by (simp [inB, hlt'] <;> omega)) ?_)) ?_
    refine runS_cond rfl (fun h => ?_) (fun h => ?_)
    · exfalso
      simp at h
    refine runS_x (I := inf) (J := jnf) ⟨false, false, [], 0, 0⟩ 9999 rfl (by repeat (first | exact obs_nil | refine obs_draw (by kernel_rfl) ?_ | refine obs_same ?_ | refine obs_and ?_ | refine obs_by (by (simp [inB] <;> omega)) ?_)) ?_
    exact ih (i + 1) _ _ (by omega) ⟨⟨rfl, rfl, rfl, rfl, rfl, congrArg iv hw2⟩, rfl, by omega⟩
  refine runS_x (I := inf) (J := jnf) ⟨false, false, [], 0, 0⟩ 9999 rfl (by repeat (first | exact obs_nil | refine obs_draw (by kernel_rfl) ?_ | refine obs_same ?_ | refine obs_and ?_ | refine obs_by (by (simp [inB] <;> omega)) ?_)) ?_
  refine runS_call rfl rfl rfl rfl rfl rfl rfl (level_ByName n2 n1 b a hb ha) ?_
  refine runS_x (I := inf) (J := jnf) ⟨false, false, [], 0, 0⟩ 9999 rfl (by repeat (first | exact obs_nil | refine obs_draw (by kernel_rfl) ?_ | refine obs_same ?_ | refine obs_and ?_ | refine obs_by (by (simp [inB] <;> omega)) ?_)) ?_
  refine runS_cond rfl (fun h => ?_) (fun h => ?_)
  · exfalso
    have h' : (if (!(((byNameF b a).2 == 0) == ((byNameF a b).2 == 0))) = true then true else (((byNameF b a).1.length : Int) != ((byNameF a b).1.length : Int))) = true := h
    rw [w1, w2] at h'
    simp at h'
  refine runS_x (I := inf) (J := jnf) ⟨false, false, [], 0, 0⟩ 9999 rfl (by repeat (first | exact obs_nil | refine obs_draw (by kernel_rfl) ?_ | refine obs_same ?_ | refine obs_and ?_ | refine obs_by (by (simp [inB] <;> omega)) ?_)) ?_
  refine runS_while (fun (i : Nat) τ ar => (τ 5 = prS none (byNameF a b).1 ∧ τ 14 = prS none (byNameF b a).1 ∧ τ 15 = iv i) ∧ ar = [] ∧ i ≤ (byNameF a b).1.length) (fun i => (byNameF a b).1.length - i) 0 ⟨⟨rfl, rfl, rfl⟩, rfl, Nat.zero_le _⟩ ?_
  rintro i τ' ar' ⟨⟨g5, g14, g15⟩, rfl, hi⟩ ih
  refine runS_says 5 (by exact g5) (Says.refl _) ?_; refine runS_says 14 (by exact g14) (Says.refl _) ?_; refine runS_says 15 (by exact g15) (Says.refl _) ?_
  refine runS_x (I := inf) (J := jnf) ⟨false, false, [], 0, 0⟩ 9999 rfl (by repeat (first | exact obs_nil | refine obs_draw (by kernel_rfl) ?_ | refine obs_same ?_ | refine obs_and ?_ | refine obs_by (by (simp [inB] <;> omega)) ?_)) ?_
  refine runS_cond rfl (fun hlt => ?_) (fun hlt => ?_)
  · have hlt' : i < (byNameF a b).1.length := by simpa using hlt
    have hw2 : IntKind.wrap .i64 ((i : Int) + 1) = ((i + 1 : Nat) : Int) := by rw [w64 (by omega) (by omega)]; rfl
    have hmem : (byNameF a b).1.getD i (0, 0) ∈ (byNameF a b).1 := by
      rw [List.getD_eq_getElem?_getD, List.getElem?_eq_getElem hlt']
      exact List.getElem_mem hlt'
    have hmet := metN_all (w3 _ hmem)
    generalize hx : (byNameF a b).1.getD i (0, 0) = x at *
    refine runS_x (I := inf) (J := jnf) ⟨false, false, [], 0, 0⟩ 9999 rfl (by repeat (first | exact obs_nil | refine obs_draw (by kernel_rfl) ?_ | refine obs_same ?_ | refine obs_and ?_ | refine obs_by (by (simp [inB] <;> omega)) ?_)) ?_
    refine runS_while (fun (k : Nat) τ ar => (τ 5 = prS none (byNameF a b).1 ∧ τ 14 = prS none (byNameF b a).1 ∧ τ 15 = iv i ∧ τ 16 = bv (metN (byNameF b a).1 x k) ∧ τ 17 = iv k) ∧ ar = [] ∧ k ≤ (byNameF b a).1.length) (fun k => (byNameF b a).1.length - k) 0 ⟨⟨rfl, rfl, rfl, rfl, rfl⟩, rfl, Nat.zero_le _⟩ ?_
    rintro k τ' ar' ⟨⟨g5, g14, g15, g16, g17⟩, rfl, hk⟩ ih2
    refine runS_says 5 (by exact g5) (Says.refl _) ?_; refine runS_says 14 (by exact g14) (Says.refl _) ?_; refine runS_says 15 (by exact g15) (Says.refl _) ?_; refine runS_says 16 (by exact g16) (Says.refl _) ?_; refine runS_says 17 (by exact g17) (Says.refl _) ?_
    refine runS_x (I := inf) (J := jnf) ⟨false, false, [], 0, 0⟩ 9999 rfl (by repeat (first | exact obs_nil | refine obs_draw (by kernel_rfl) ?_ | refine obs_same ?_ | refine obs_and ?_ | refine obs_by (by (simp [inB] <;> omega)) ?_)) ?_
    refine runS_cond rfl (fun hltk => ?_) (fun hltk => ?_)
    · have hltk' : k < (byNameF b a).1.length := by simpa using hltk
      have hw3 : IntKind.wrap .i64 ((k : Int) + 1) = ((k + 1 : Nat) : Int) := by rw [w64 (by omega) (by omega)]; rfl
      refine runS_x (I := inf) (J := jnf) ⟨false, false, [], 0, 0⟩ 9999 rfl (by repeat (first | exact obs_nil | refine obs_draw (by kernel_rfl) ?_ | refine obs_same ?_ | refine obs_and ?_ | refine obs_by (by (simp [inB, hlt', hltk'] <;> omega)) ?_)) ?_
      refine ih2 (k + 1) _ _ (by omega) ⟨⟨rfl, rfl, rfl, ?_, ?_⟩, rfl, by omega⟩
      · rw [metN_succ hltk']
        show bv (if metN (byNameF b a).1 x k = true then true else (if (((((byNameF b a).1.getD k (0, 0)).1 : Nat) : Int) == ((((byNameF a b).1.getD i (0, 0)).2 : Nat) : Int)) = true then ((((byNameF b a).1.getD k (0, 0)).2 : Nat) : Int) == ((((byNameF a b).1.getD i (0, 0)).1 : Nat) : Int) else false)) = _
        rw [hx]
        have e : ∀ (p q : Nat), ((p : Int) == (q : Int)) = (p == q) := fun p q => by rw [Bool.eq_iff_iff]; simp; omega
        rw [e, e, turnB]
        cases metN (byNameF b a).1 x k <;> cases (((byNameF b a).1.getD k (0, 0)).1 == x.2) <;> simp
      · exact congrArg iv hw3
    · have hke : k = (byNameF b a).1.length := by simp at hltk; omega
      subst hke
      rw [hmet]
      refine runS_x (I := inf) (J := jnf) ⟨false, false, [], 0, 0⟩ 9999 rfl (by repeat (first | exact obs_nil | refine obs_draw (by kernel_rfl) ?_ | refine obs_same ?_ | refine obs_and ?_ | refine obs_by (by (simp [inB] <;> omega)) ?_)) ?_
      refine runS_cond rfl (fun h => ?_) (fun h => ?_)
      · exfalso
        simp at h
      refine runS_x (I := inf) (J := jnf) ⟨false, false, [], 0, 0⟩ 9999 rfl (by repeat (first | exact obs_nil | refine obs_draw (by kernel_rfl) ?_ | refine obs_same ?_ | refine obs_and ?_ | refine obs_by (by (simp [inB] <;> omega)) ?_)) ?_
      exact ih (i + 1) _ _ (by omega) ⟨⟨rfl, rfl, congrArg iv hw2⟩, rfl, by omega⟩
  refine runS_x (I := inf) (J := jnf) ⟨false, false, [], 0, 0⟩ 9999 rfl (by repeat (first | exact obs_nil | refine obs_draw (by kernel_rfl) ?_ | refine obs_same ?_ | refine obs_and ?_ | refine obs_by (by (simp [inB] <;> omega)) ?_)) ?_
  refine runS_call rfl rfl rfl rfl rfl rfl rfl lev_awake ?_
  refine runS_x (I := inf) (J := jnf) ⟨false, false, [], 0, 0⟩ 9999 rfl (by repeat (first | exact obs_nil | refine obs_draw (by kernel_rfl) ?_ | refine obs_same ?_ | refine obs_and ?_ | refine obs_by (by (simp [inB] <;> omega)) ?_)) ?_
  refine runS_ret (I := inf) 0 rfl (Nat.le_refl _) rfl .nil rfl ⟨?_, rfl⟩
  rfl
theorem lev_LevelByName (n1 n2 : Option Bool) (a b : List Fld) (hb : a.length * 104 ≤ 140737488351232) (hb2 : b.length * 104 ≤ 140737488351232) : CallT Try.prog 10 [fldS n1 a, fldS n2 b] [] (fun out A => out = .ret (bv true) ∧ A = []) := by
  refine callS_body (n := 24) rfl rfl fun w ρ X => ?_
  refine runS_x (I := inf) (J := jnf) ⟨false, false, [], 0, 0⟩ 9999 rfl (by repeat (first | exact obs_nil | refine obs_draw (by kernel_rfl) ?_ | refine obs_same ?_ | refine obs_and ?_ | refine obs_by (by (simp [inB] <;> omega)) ?_)) ?_
  refine runS_call rfl rfl rfl rfl rfl rfl rfl (stay_fields n1 a (by omega)) ?_
  refine runS_x (I := inf) (J := jnf) ⟨false, false, [], 0, 0⟩ 9999 rfl (by repeat (first | exact obs_nil | refine obs_draw (by kernel_rfl) ?_ | refine obs_same ?_ | refine obs_and ?_ | refine obs_by (by (simp [inB] <;> omega)) ?_)) ?_
  refine runS_call rfl rfl rfl rfl rfl rfl rfl (stay_fields n2 b (by omega)) ?_
  refine runS_x (I := inf) (J := jnf) ⟨false, false, [], 0, 0⟩ 9999 rfl (by repeat (first | exact obs_nil | refine obs_draw (by kernel_rfl) ?_ | refine obs_same ?_ | refine obs_and ?_ | refine obs_by (by (simp [inB] <;> omega)) ?_)) ?_
  refine runS_call rfl rfl rfl rfl rfl rfl rfl (lev_levelByName n1 n2 a b (by omega) (by omega)) ?_
  refine runS_x (I := inf) (J := jnf) ⟨false, false, [], 0, 0⟩ 9999 rfl (by repeat (first | exact obs_nil | refine obs_draw (by kernel_rfl) ?_ | refine obs_same ?_ | refine obs_and ?_ | refine obs_by (by (simp [inB] <;> omega)) ?_)) ?_
  refine runS_callU rfl rfl (by first | exact .v rfl rfl rfl rfl | exact .o rfl rfl rfl rfl) rfl rfl (by repeat (first | exact .nil | refine .cons (.n rfl) ?_ | refine .cons .o ?_ | refine .cons gok_and ?_)) rfl rfl rfl rfl rfl (fun _ => (stay_sameFields _ _ a a (by omega))) ?_
  refine runS_x (I := inf) (J := jnf) ⟨false, false, [], 0, 0⟩ 9999 rfl (by repeat (first | exact obs_nil | refine obs_draw (by kernel_rfl) ?_ | refine obs_same ?_ | refine obs_and ?_ | refine obs_by (by (simp [inB] <;> omega)) ?_)) ?_
  refine runS_callU rfl rfl (by first | exact .v rfl rfl rfl rfl | exact .o rfl rfl rfl rfl) rfl rfl (by repeat (first | exact .nil | refine .cons (.n rfl) ?_ | refine .cons .o ?_ | refine .cons gok_and ?_)) rfl rfl rfl rfl rfl (fun _ => (stay_sameFields _ _ b b (by omega))) ?_
  refine runS_x (I := inf) (J := jnf) ⟨false, false, [], 0, 0⟩ 9999 rfl (by repeat (first | exact obs_nil | refine obs_draw (by kernel_rfl) ?_ | refine obs_same ?_ | refine obs_and ?_ | refine obs_by (by (simp [inB] <;> omega)) ?_)) ?_
  refine runS_ret (I := inf) 0 rfl (Nat.le_refl _) rfl .nil rfl ⟨?_, rfl⟩
  show Out.ret (bv (if (if true = true then decide (a = a) else false) = true then decide (b = b) else false)) = _
  simp
end Go.Iron.Try
