/- ArrayDefined (seat Ytamhonbhoelohaa): the law's own functions. -/
import Derived.Test.YtamhonbhoelohaaArrR
import Derived.Test.YtamhonbhoelohaaArrJ
import Derived.Test.YtamhonbhoelohaaArrH
namespace Go.Iron.Try
open Go.Proofs

theorem defL_some (base own : List Dim) (l : List ISub) : ∀ (c i : Nat) (acc o : List Int), (defL base own l c i acc).1 = some o →
    o.length = acc.length + c ∧ (∀ j, j < acc.length → o.getD j 0 = acc.getD j 0) ∧ ∀ j : Nat, j < c → out base (leadL l (atD own ((i + j : Nat) : Int))) = 0 ∧ o.getD (acc.length + j) 0 = place base (leadL l (atD own ((i + j : Nat) : Int)))
  | 0, i, acc, o, h => by
    simp [defL] at h
    subst h
    exact ⟨by simp, fun j _ => rfl, fun j hj => by omega⟩
  | c + 1, i, acc, o, h => by
    unfold defL at h
    split at h
    · rename_i hq
      obtain ⟨h1, h2, h3⟩ := defL_some base own l c (i + 1) _ o h
      refine ⟨by rw [h1]; simp; omega, fun j hj => ?_, fun j hj => ?_⟩
      · rw [h2 j (by simp; omega)]
        simp [List.getD_eq_getElem?_getD, List.getElem?_append_left hj]
      · cases j with
        | zero =>
          refine ⟨hq, ?_⟩
          have := h2 acc.length (by simp)
          simpa [List.getD_eq_getElem?_getD] using this
        | succ j =>
          obtain ⟨h4, h5⟩ := h3 j (by omega)
          refine ⟨by rw [show i + (j + 1) = i + 1 + j by omega]; exact h4, ?_⟩
          have e : (acc ++ [place base (leadL l (atD own i))]).length + j = acc.length + (j + 1) := by simp; omega
          rw [e] at h5
          rw [show i + (j + 1) = i + 1 + j by omega]
          exact h5
    · cases h

theorem defined_some {base own : List Dim} {l : List ISub} {o : List Int} (h : (definedF base own l).1 = some o) :
    validD own = true ∧ (o.length : Int) = items own ∧ (∀ i : Nat, i < o.length → throughF base own l (atD own i) = (o.getD i 0, 0, 0, 0)) := by
  unfold definedF at h
  split at h
  · rename_i ha
    split at h
    · rename_i hn
      obtain ⟨hvb, hvo, hlb⟩ := asked_zero ha
      have hfo := fit_valid hvo
      have hit := items_bounds hfo.1
      obtain ⟨h1, _, h3⟩ := defL_some base own l _ 0 [] o h
      simp at h1
      refine ⟨hvo, by omega, fun i hi => ?_⟩
      obtain ⟨h4, h5⟩ := h3 i (by omega)
      simp only [Nat.zero_add, List.length_nil] at h4 h5
      obtain ⟨q1, q2, _⟩ := at_law hfo.1 (Int.natCast_nonneg i) (by omega)
      have hbad : ¬ l.any badI = true := by
        intro hb
        unfold askedF at ha
        simp only [hb, if_true] at ha
        split at ha <;> omega
      have hnm : ¬ l.any (fun x => decide (x.1 > own.length)) = true := by
        intro hb
        unfold namesF at hn
        simp only [hb, if_true] at hn
        omega
      have hv : ¬ (!validD base || !validD own) = true := by simp [hvb, hvo]
      unfold throughF
      rw [if_neg hv, if_neg hbad, if_neg (by omega), if_neg (by omega), if_neg hnm, if_neg (by omega), if_neg (by omega), h5]
    · cases h
  · cases h

set_option maxHeartbeats 4000000 in
theorem law_arrayDefined (n1 n2 n3 n4 : Option Bool) (base own : List Dim) (l : List ISub) (ss : List Int) :
    CallT Try.prog 20 [dimS n1 base, dimS n2 own, isubS n3 l, intS n4 ss] [] (fun o A => o = .ret (bv true) ∧ A = []) := by
  refine callT_body (n := 151) rfl rfl fun w ρ X => ?_
  refine run_x (I := inf) 99 rfl (by repeat (first | exact obs_nil | refine obs_same ?_ | refine obs_and ?_ | refine obs_by (by (simp [inB] <;> omega)) ?_)) ?_
  refine run_cond rfl (fun h => ?_) (fun h => ?_)
  · refine run_x (I := inf) 99 rfl (by repeat (first | exact obs_nil | refine obs_same ?_ | refine obs_and ?_ | refine obs_by (by (simp [inB] <;> omega)) ?_)) ?_
    refine run_call rfl rfl rfl rfl rfl rfl rfl rfl law_awake ?_
    refine run_x (I := inf) 99 rfl (by repeat (first | exact obs_nil | refine obs_same ?_ | refine obs_and ?_ | refine obs_by (by (simp [inB] <;> omega)) ?_)) ?_
    refine run_retX (I := inf) 0 rfl (Nat.le_refl _) rfl .nil rfl ⟨?_, rfl⟩
    rfl
  have hlen : base.length ≤ 20 ∧ own.length ≤ 20 ∧ l.length ≤ 20 ∧ ss.length ≤ 20 := by
    simp at h
    omega
  refine run_x (I := inf) 99 rfl (by repeat (first | exact obs_nil | refine obs_same ?_ | refine obs_and ?_ | refine obs_by (by (simp [inB] <;> omega)) ?_)) ?_
  refine run_call rfl rfl rfl rfl rfl rfl rfl rfl (a_Through n1 n2 n3 n4 base own l ss (by omega)) ?_
  refine run_x (I := inf) 99 rfl (by repeat (first | exact obs_nil | refine obs_same ?_ | refine obs_and ?_ | refine obs_by (by (simp [inB] <;> omega)) ?_)) ?_
  refine run_call rfl rfl rfl rfl rfl rfl rfl rfl (r_Through n1 n2 n3 n4 base own l ss (by omega)) ?_
  refine run_x (I := inf) 99 rfl (by repeat (first | exact obs_nil | refine obs_same ?_ | refine obs_and ?_ | refine obs_by (by (simp [inB] <;> omega)) ?_)) ?_
  refine run_cond rfl (fun h => ?_) (fun h => ?_)
  · exfalso; simp at h
  refine run_x (I := inf) 99 rfl (by repeat (first | exact obs_nil | refine obs_same ?_ | refine obs_and ?_ | refine obs_by (by (simp [inB] <;> omega)) ?_)) ?_
  refine run_call rfl rfl rfl rfl rfl rfl rfl rfl (a_Defined n1 n2 n3 base own l (by omega)) ?_
  refine run_x (I := inf) 99 rfl (by repeat (first | exact obs_nil | refine obs_same ?_ | refine obs_and ?_ | refine obs_by (by (simp [inB] <;> omega)) ?_)) ?_
  refine run_call rfl rfl rfl rfl rfl rfl rfl rfl (r_Defined n1 n2 n3 base own l (by omega)) ?_
  refine run_x (I := inf) 99 rfl (by repeat (first | exact obs_nil | refine obs_same ?_ | refine obs_and ?_ | refine obs_by (by (simp [inB] <;> omega)) ?_)) ?_
  obtain ⟨D, hD⟩ : ∃ D, D = definedF base own l := ⟨_, rfl⟩
  rw [← hD]
  obtain ⟨oo, c, at', e⟩ := D
  have hsome : ∀ o, oo = some o → validD own = true ∧ (o.length : Int) = items own ∧ (∀ i : Nat, i < o.length → throughF base own l (atD own i) = (o.getD i 0, 0, 0, 0)) := fun o ho => defined_some (by rw [← hD]; exact ho)
  have hol : (oo.getD []).length ≤ 200 := by
    cases oo with
    | none => simp
    | some o =>
      obtain ⟨h1, h2, _⟩ := hsome o rfl
      have hit := items_bounds (fit_valid h1).1
      simp only [Option.getD_some]
      omega
  refine run_call rfl rfl rfl rfl rfl rfl rfl rfl (law_ints (nlO oo) (nlO oo) (oo.getD []) (oo.getD []) (by omega)) ?_
  refine run_x (I := inf) 99 rfl (by repeat (first | exact obs_nil | refine obs_same ?_ | refine obs_and ?_ | refine obs_by (by (simp [inB] <;> omega)) ?_)) ?_
  refine run_cond rfl (fun h => ?_) (fun h => ?_)
  · exfalso; simp at h
  refine run_x (I := inf) 99 rfl (by repeat (first | exact obs_nil | refine obs_same ?_ | refine obs_and ?_ | refine obs_by (by (simp [inB] <;> omega)) ?_)) ?_
  refine run_while (fun (i : Nat) τ ar => (τ 0 = dimS n1 base ∧ τ 1 = dimS n2 own ∧ τ 2 = isubS n3 l ∧ τ 17 = intS (nlO oo) (oo.getD []) ∧ τ 19 = iv i) ∧ ar = [] ∧ i ≤ (oo.getD []).length) (fun i => (oo.getD []).length - i)
    0 ⟨⟨rfl, rfl, rfl, rfl, rfl⟩, rfl, Nat.zero_le _⟩ ?_
  rintro i τ' ar' ⟨⟨g0, g1, g2, g17, g19⟩, rfl, hi⟩ ih
  refine run_says 0 (by exact g0) (Says.refl _) ?_; refine run_says 1 (by exact g1) (Says.refl _) ?_; refine run_says 2 (by exact g2) (Says.refl _) ?_; refine run_says 17 (by exact g17) (Says.refl _) ?_; refine run_says 19 (by exact g19) (Says.refl _) ?_
  refine run_x (I := inf) 99 rfl (by repeat (first | exact obs_nil | refine obs_same ?_ | refine obs_and ?_ | refine obs_by (by (simp [inB] <;> omega)) ?_)) ?_
  refine run_cond rfl (fun hlt => ?_) (fun hlt => ?_)
  · have hlt' : i < (oo.getD []).length := by simpa using hlt
    obtain ⟨o, rfl⟩ : ∃ o, oo = some o := by
      cases oo with
      | none => simp at hlt'
      | some o => exact ⟨o, rfl⟩
    obtain ⟨h1, h2, h3⟩ := hsome o rfl
    have hfo := fit_valid h1
    have hit := items_bounds hfo.1
    simp only [Option.getD_some] at hlt'
    have ht := h3 i hlt'
    refine run_x (I := inf) 99 rfl (by repeat (first | exact obs_nil | refine obs_same ?_ | refine obs_and ?_ | refine obs_by (by (simp [inB] <;> omega)) ?_)) ?_
    refine run_call rfl rfl rfl rfl rfl rfl rfl rfl (r_at n2 own i (by omega) (by omega) (by omega) hfo.1) ?_
    refine run_x (I := inf) 99 rfl (by repeat (first | exact obs_nil | refine obs_same ?_ | refine obs_and ?_ | refine obs_by (by (simp [inB] <;> omega)) ?_)) ?_
    refine run_call rfl rfl rfl rfl rfl rfl rfl rfl (a_Through n1 n2 n3 none base own l (atD own i) (by omega)) ?_
    rw [ht]
    refine run_x (I := inf) 99 rfl (by repeat (first | exact obs_nil | refine obs_same ?_ | refine obs_and ?_ | refine obs_by (by (simp [inB, hlt'] <;> omega)) ?_)) ?_
    refine run_cond rfl (fun hc => ?_) (fun hc => ?_)
    · exfalso; simp at hc
    refine run_x (I := inf) 99 rfl (by repeat (first | exact obs_nil | refine obs_same ?_ | refine obs_and ?_ | refine obs_by (by (simp [inB] <;> omega)) ?_)) ?_
    refine ih (i + 1) _ _ (by simp only [Option.getD_some]; omega) ⟨⟨rfl, rfl, rfl, rfl, ?_⟩, rfl, by simp only [Option.getD_some]; omega⟩
    show iv (IntKind.wrap .i64 ((i : Int) + 1)) = _
    rw [w64 (by omega) (by omega)]; rfl
  · refine run_x (I := inf) 99 rfl (by repeat (first | exact obs_nil | refine obs_same ?_ | refine obs_and ?_ | refine obs_by (by (simp [inB] <;> omega)) ?_)) ?_
    refine run_call rfl rfl rfl rfl rfl rfl rfl rfl law_awake ?_
    refine run_x (I := inf) 99 rfl (by repeat (first | exact obs_nil | refine obs_same ?_ | refine obs_and ?_ | refine obs_by (by (simp [inB] <;> omega)) ?_)) ?_
    refine run_retX (I := inf) 0 rfl (Nat.le_refl _) rfl .nil rfl ⟨?_, rfl⟩
    rfl

theorem law_ArrayDefined (n1 n2 n3 n4 : Option Bool) (base own : List Dim) (l : List ISub) (ss : List Int) (hb1 : base.length * 16 ≤ 140737488355328) (hb2 : own.length * 16 ≤ 140737488355328) (hb3 : l.length * 24 ≤ 140737488355328) (hb4 : ss.length * 8 ≤ 140737488355328) :
    CallT Try.prog 5 [dimS n1 base, dimS n2 own, isubS n3 l, intS n4 ss] [] (fun o A => o = .ret (bv true) ∧ A = []) := by
  refine callT_body (n := 46) rfl rfl fun w ρ X => ?_
  refine run_x (I := inf) 99 rfl (by repeat (first | exact obs_nil | refine obs_same ?_ | refine obs_and ?_ | refine obs_by (by (simp [inB] <;> omega)) ?_)) ?_
  refine run_call rfl rfl rfl rfl rfl rfl rfl rfl (stay_dims n1 base hb1) ?_
  refine run_x (I := inf) 99 rfl (by repeat (first | exact obs_nil | refine obs_same ?_ | refine obs_and ?_ | refine obs_by (by (simp [inB] <;> omega)) ?_)) ?_
  refine run_call rfl rfl rfl rfl rfl rfl rfl rfl (stay_dims n2 own hb2) ?_
  refine run_x (I := inf) 99 rfl (by repeat (first | exact obs_nil | refine obs_same ?_ | refine obs_and ?_ | refine obs_by (by (simp [inB] <;> omega)) ?_)) ?_
  refine run_call rfl rfl rfl rfl rfl rfl rfl rfl (stay_subs n3 l hb3) ?_
  refine run_x (I := inf) 99 rfl (by repeat (first | exact obs_nil | refine obs_same ?_ | refine obs_and ?_ | refine obs_by (by (simp [inB] <;> omega)) ?_)) ?_
  refine run_call rfl rfl rfl rfl rfl rfl rfl rfl (stay_ints n4 ss hb4) ?_
  refine run_x (I := inf) 99 rfl (by repeat (first | exact obs_nil | refine obs_same ?_ | refine obs_and ?_ | refine obs_by (by (simp [inB] <;> omega)) ?_)) ?_
  refine run_call rfl rfl rfl rfl rfl rfl rfl rfl (law_arrayDefined n1 n2 n3 n4 base own l ss) ?_
  refine run_x (I := inf) 99 rfl (by repeat (first | exact obs_nil | refine obs_same ?_ | refine obs_and ?_ | refine obs_by (by (simp [inB] <;> omega)) ?_)) ?_
  refine run_callU rfl rfl (by first | exact .v rfl rfl rfl rfl | exact .o rfl rfl rfl rfl) rfl rfl (by repeat (first | exact .nil | refine .cons (.n rfl) ?_ | refine .cons .o ?_ | refine .cons gok_and ?_)) rfl rfl rfl rfl rfl (fun _ => (stay_sameDims n1 none base base (by omega))) ?_
  refine run_x (I := inf) 99 rfl (by repeat (first | exact obs_nil | refine obs_same ?_ | refine obs_and ?_ | refine obs_by (by (simp [inB] <;> omega)) ?_)) ?_
  refine run_callU rfl rfl (by first | exact .v rfl rfl rfl rfl | exact .o rfl rfl rfl rfl) rfl rfl (by repeat (first | exact .nil | refine .cons (.n rfl) ?_ | refine .cons .o ?_ | refine .cons gok_and ?_)) rfl rfl rfl rfl rfl (fun _ => (stay_sameDims n2 none own own (by omega))) ?_
  refine run_x (I := inf) 99 rfl (by repeat (first | exact obs_nil | refine obs_same ?_ | refine obs_and ?_ | refine obs_by (by (simp [inB] <;> omega)) ?_)) ?_
  refine run_callU rfl rfl (by first | exact .v rfl rfl rfl rfl | exact .o rfl rfl rfl rfl) rfl rfl (by repeat (first | exact .nil | refine .cons (.n rfl) ?_ | refine .cons .o ?_ | refine .cons gok_and ?_)) rfl rfl rfl rfl rfl (fun _ => (stay_sameSubs n3 none l l (by omega))) ?_
  refine run_x (I := inf) 99 rfl (by repeat (first | exact obs_nil | refine obs_same ?_ | refine obs_and ?_ | refine obs_by (by (simp [inB] <;> omega)) ?_)) ?_
  refine run_callU rfl rfl (by first | exact .v rfl rfl rfl rfl | exact .o rfl rfl rfl rfl) rfl rfl (by repeat (first | exact .nil | refine .cons (.n rfl) ?_ | refine .cons .o ?_ | refine .cons gok_and ?_)) rfl rfl rfl rfl rfl (fun _ => (stay_sameInts n4 none ss ss (by omega))) ?_
  refine run_x (I := inf) 99 rfl (by repeat (first | exact obs_nil | refine obs_same ?_ | refine obs_and ?_ | refine obs_by (by (simp [inB] <;> omega)) ?_)) ?_
  refine run_retX (I := inf) 0 rfl (Nat.le_refl _) rfl .nil rfl ⟨?_, rfl⟩
  simp
  rfl
end Go.Iron.Try
