/- ArrayOne (seat Ytamhonbhoelohaa): the law's own functions. -/
import Derived.Test.YtamhonbhoelohaaArrG
namespace Go.Iron.Try
open Go.Proofs

theorem atD_length (ds : List Dim) (off : Int) : (atD ds off).length = ds.length := by
  have key : ∀ (k : Nat) (off : Int) (xs : List Int), (fillD ds k off xs).length = xs.length := by
    intro k
    induction k with
    | zero => intro off xs; rfl
    | succ k ih => intro off xs; simp only [fillD]; rw [ih]; simp
  unfold atD
  rw [key]; simp
theorem subsF_len (ds : List Dim) (off : Int) : ((subsF ds off).1.getD []).length ≤ ds.length := by
  unfold subsF
  split
  · split
    · simp
    · simp [atD_length]
  · simp
theorem nextF_len (ds : List Dim) (ss : List Int) : ((nextF ds ss).1.getD []).length ≤ ds.length := by
  unfold nextF
  repeat' split
  all_goals simp [atD_length]

set_option maxHeartbeats 4000000 in
theorem law_arrayOne (n1 n2 : Option Bool) (ds : List Dim) (n : Int) (ss : List Int) (off : Int) :
    CallT Try.prog 13 [dimS n1 ds, iv n, intS n2 ss, iv off] [] (fun o A => o = .ret (bv true) ∧ A = []) := by
  refine callT_body (n := 258) rfl rfl fun w ρ X => ?_
  refine run_x (I := inf) 99 rfl (by repeat (first | exact obs_nil | refine obs_same ?_ | refine obs_and ?_ | refine obs_by (by (simp [inB] <;> omega)) ?_)) ?_
  refine run_cond rfl (fun h => ?_) (fun h => ?_)
  · refine run_x (I := inf) 99 rfl (by repeat (first | exact obs_nil | refine obs_same ?_ | refine obs_and ?_ | refine obs_by (by (simp [inB] <;> omega)) ?_)) ?_
    refine run_call rfl rfl rfl rfl rfl rfl rfl rfl law_awake ?_
    refine run_x (I := inf) 99 rfl (by repeat (first | exact obs_nil | refine obs_same ?_ | refine obs_and ?_ | refine obs_by (by (simp [inB] <;> omega)) ?_)) ?_
    refine run_retX (I := inf) 0 rfl (Nat.le_refl _) rfl .nil rfl ⟨?_, rfl⟩
    rfl
  have hlen : ds.length ≤ 20 ∧ ss.length ≤ 20 := by simp at h; omega
  refine run_x (I := inf) 99 rfl (by repeat (first | exact obs_nil | refine obs_same ?_ | refine obs_and ?_ | refine obs_by (by (simp [inB] <;> omega)) ?_)) ?_
  refine run_call rfl rfl rfl rfl rfl rfl rfl rfl (a_Count n1 ds) ?_
  refine run_x (I := inf) 99 rfl (by repeat (first | exact obs_nil | refine obs_same ?_ | refine obs_and ?_ | refine obs_by (by (simp [inB] <;> omega)) ?_)) ?_
  refine run_call rfl rfl rfl rfl rfl rfl rfl rfl (r_Count n1 ds) ?_
  refine run_x (I := inf) 99 rfl (by repeat (first | exact obs_nil | refine obs_same ?_ | refine obs_and ?_ | refine obs_by (by (simp [inB] <;> omega)) ?_)) ?_
  refine run_call rfl rfl rfl rfl rfl rfl rfl rfl (a_Valid n1 ds) ?_
  refine run_x (I := inf) 99 rfl (by repeat (first | exact obs_nil | refine obs_same ?_ | refine obs_and ?_ | refine obs_by (by (simp [inB] <;> omega)) ?_)) ?_
  refine run_call rfl rfl rfl rfl rfl rfl rfl rfl (r_Valid n1 ds) ?_
  refine run_x (I := inf) 99 rfl (by repeat (first | exact obs_nil | refine obs_same ?_ | refine obs_and ?_ | refine obs_by (by (simp [inB] <;> omega)) ?_)) ?_
  refine run_cond rfl (fun h => ?_) (fun h => ?_)
  · exfalso; simp at h
  refine run_x (I := inf) 99 rfl (by repeat (first | exact obs_nil | refine obs_same ?_ | refine obs_and ?_ | refine obs_by (by (simp [inB] <;> omega)) ?_)) ?_
  refine run_call rfl rfl rfl rfl rfl rfl rfl rfl (a_Low n1 ds n) ?_
  refine run_x (I := inf) 99 rfl (by repeat (first | exact obs_nil | refine obs_same ?_ | refine obs_and ?_ | refine obs_by (by (simp [inB] <;> omega)) ?_)) ?_
  refine run_call rfl rfl rfl rfl rfl rfl rfl rfl (r_Low n1 ds n) ?_
  refine run_x (I := inf) 99 rfl (by repeat (first | exact obs_nil | refine obs_same ?_ | refine obs_and ?_ | refine obs_by (by (simp [inB] <;> omega)) ?_)) ?_
  refine run_cond rfl (fun h => ?_) (fun h => ?_)
  · exfalso; simp at h
  refine run_x (I := inf) 99 rfl (by repeat (first | exact obs_nil | refine obs_same ?_ | refine obs_and ?_ | refine obs_by (by (simp [inB] <;> omega)) ?_)) ?_
  refine run_call rfl rfl rfl rfl rfl rfl rfl rfl (a_High n1 ds n) ?_
  refine run_x (I := inf) 99 rfl (by repeat (first | exact obs_nil | refine obs_same ?_ | refine obs_and ?_ | refine obs_by (by (simp [inB] <;> omega)) ?_)) ?_
  refine run_call rfl rfl rfl rfl rfl rfl rfl rfl (r_High n1 ds n) ?_
  refine run_x (I := inf) 99 rfl (by repeat (first | exact obs_nil | refine obs_same ?_ | refine obs_and ?_ | refine obs_by (by (simp [inB] <;> omega)) ?_)) ?_
  refine run_cond rfl (fun h => ?_) (fun h => ?_)
  · exfalso; simp at h
  refine run_x (I := inf) 99 rfl (by repeat (first | exact obs_nil | refine obs_same ?_ | refine obs_and ?_ | refine obs_by (by (simp [inB] <;> omega)) ?_)) ?_
  refine run_call rfl rfl rfl rfl rfl rfl rfl rfl (a_Extent n1 ds n) ?_
  refine run_x (I := inf) 99 rfl (by repeat (first | exact obs_nil | refine obs_same ?_ | refine obs_and ?_ | refine obs_by (by (simp [inB] <;> omega)) ?_)) ?_
  refine run_call rfl rfl rfl rfl rfl rfl rfl rfl (r_Extent n1 ds n) ?_
  refine run_x (I := inf) 99 rfl (by repeat (first | exact obs_nil | refine obs_same ?_ | refine obs_and ?_ | refine obs_by (by (simp [inB] <;> omega)) ?_)) ?_
  refine run_cond rfl (fun h => ?_) (fun h => ?_)
  · exfalso; simp at h
  refine run_x (I := inf) 99 rfl (by repeat (first | exact obs_nil | refine obs_same ?_ | refine obs_and ?_ | refine obs_by (by (simp [inB] <;> omega)) ?_)) ?_
  refine run_call rfl rfl rfl rfl rfl rfl rfl rfl (a_Offset n1 n2 ds ss) ?_
  refine run_x (I := inf) 99 rfl (by repeat (first | exact obs_nil | refine obs_same ?_ | refine obs_and ?_ | refine obs_by (by (simp [inB] <;> omega)) ?_)) ?_
  refine run_call rfl rfl rfl rfl rfl rfl rfl rfl (r_Offset n1 n2 ds ss) ?_
  refine run_x (I := inf) 99 rfl (by repeat (first | exact obs_nil | refine obs_same ?_ | refine obs_and ?_ | refine obs_by (by (simp [inB] <;> omega)) ?_)) ?_
  refine run_cond rfl (fun h => ?_) (fun h => ?_)
  · exfalso; simp at h
  refine run_x (I := inf) 99 rfl (by repeat (first | exact obs_nil | refine obs_same ?_ | refine obs_and ?_ | refine obs_by (by (simp [inB] <;> omega)) ?_)) ?_
  refine run_call rfl rfl rfl rfl rfl rfl rfl rfl (a_Subs n1 ds off) ?_
  refine run_x (I := inf) 99 rfl (by repeat (first | exact obs_nil | refine obs_same ?_ | refine obs_and ?_ | refine obs_by (by (simp [inB] <;> omega)) ?_)) ?_
  refine run_call rfl rfl rfl rfl rfl rfl rfl rfl (r_Subs n1 ds off) ?_
  refine run_x (I := inf) 99 rfl (by repeat (first | exact obs_nil | refine obs_same ?_ | refine obs_and ?_ | refine obs_by (by (simp [inB] <;> omega)) ?_)) ?_
  refine run_call rfl rfl rfl rfl rfl rfl rfl rfl (law_ints (nlO (subsF ds off).1) (nlO (subsF ds off).1) _ _ (by have := subsF_len ds off; omega)) ?_
  refine run_x (I := inf) 99 rfl (by repeat (first | exact obs_nil | refine obs_same ?_ | refine obs_and ?_ | refine obs_by (by (simp [inB] <;> omega)) ?_)) ?_
  refine run_cond rfl (fun h => ?_) (fun h => ?_)
  · exfalso; simp at h
  refine run_x (I := inf) 99 rfl (by repeat (first | exact obs_nil | refine obs_same ?_ | refine obs_and ?_ | refine obs_by (by (simp [inB] <;> omega)) ?_)) ?_
  refine run_call rfl rfl rfl rfl rfl rfl rfl rfl (a_Next n1 n2 ds ss) ?_
  refine run_x (I := inf) 99 rfl (by repeat (first | exact obs_nil | refine obs_same ?_ | refine obs_and ?_ | refine obs_by (by (simp [inB] <;> omega)) ?_)) ?_
  refine run_call rfl rfl rfl rfl rfl rfl rfl rfl (r_Next n1 n2 ds ss) ?_
  refine run_x (I := inf) 99 rfl (by repeat (first | exact obs_nil | refine obs_same ?_ | refine obs_and ?_ | refine obs_by (by (simp [inB] <;> omega)) ?_)) ?_
  refine run_call rfl rfl rfl rfl rfl rfl rfl rfl (law_ints (nlO (nextF ds ss).1) (nlO (nextF ds ss).1) _ _ (by have := nextF_len ds ss; omega)) ?_
  refine run_x (I := inf) 99 rfl (by repeat (first | exact obs_nil | refine obs_same ?_ | refine obs_and ?_ | refine obs_by (by (simp [inB] <;> omega)) ?_)) ?_
  refine run_cond rfl (fun h => ?_) (fun h => ?_)
  · exfalso; simp at h
  refine run_x (I := inf) 99 rfl (by repeat (first | exact obs_nil | refine obs_same ?_ | refine obs_and ?_ | refine obs_by (by (simp [inB] <;> omega)) ?_)) ?_
  refine run_call rfl rfl rfl rfl rfl rfl rfl rfl (r_Valid n1 ds) ?_
  refine run_x (I := inf) 99 rfl (by repeat (first | exact obs_nil | refine obs_same ?_ | refine obs_and ?_ | refine obs_by (by (simp [inB] <;> omega)) ?_)) ?_
  refine run_cond rfl (fun h => ?_) (fun h => ?_)
  · refine run_x (I := inf) 99 rfl (by repeat (first | exact obs_nil | refine obs_same ?_ | refine obs_and ?_ | refine obs_by (by (simp [inB] <;> omega)) ?_)) ?_
    refine run_call rfl rfl rfl rfl rfl rfl rfl rfl law_awake ?_
    refine run_x (I := inf) 99 rfl (by repeat (first | exact obs_nil | refine obs_same ?_ | refine obs_and ?_ | refine obs_by (by (simp [inB] <;> omega)) ?_)) ?_
    refine run_retX (I := inf) 0 rfl (Nat.le_refl _) rfl .nil rfl ⟨?_, rfl⟩
    rfl
  have hv : validD ds = true := by simpa using h
  have hf := fit_valid hv
  have hit := items_bounds hf.1
  refine run_x (I := inf) 99 rfl (by repeat (first | exact obs_nil | refine obs_same ?_ | refine obs_and ?_ | refine obs_by (by (simp [inB] <;> omega)) ?_)) ?_
  refine run_call rfl rfl rfl rfl rfl rfl rfl rfl (a_Subs n1 ds 0) ?_
  have hs0 : subsF ds 0 = (some (atD ds 0), 0) := by
    simp only [subsF, hv, if_true]
    rw [if_neg (by simp; omega)]
  rw [hs0]
  refine run_x (I := inf) 99 rfl (by repeat (first | exact obs_nil | refine obs_same ?_ | refine obs_and ?_ | refine obs_by (by (simp [inB] <;> omega)) ?_)) ?_
  have hc : countF ds = (items ds, 0) := by simp only [countF, hv, if_true]
  rw [hc]
  refine run_while (fun (i : Nat) τ ar => (τ 0 = dimS n1 ds ∧ τ 9 = iv (items ds) ∧ τ 10 = iv 0 ∧ τ 25 = iv i ∧ (∃ nl, τ 21 = intS nl (if (i : Int) < items ds then atD ds i else []))) ∧ ar = [] ∧ (i : Int) ≤ items ds) (fun i => (items ds).toNat - i)
    0 ⟨⟨rfl, rfl, rfl, rfl, none, ?_⟩, rfl, by omega⟩ ?_
  · rw [if_pos (show ((0 : Nat) : Int) < items ds by omega)]; rfl
  rintro i τ' ar' ⟨⟨g0, g9, g10, g25, nl, g21⟩, rfl, hi⟩ ih
  refine run_says 0 (by exact g0) (Says.refl _) ?_; refine run_says 9 (by exact g9) (Says.refl _) ?_; refine run_says 10 (by exact g10) (Says.refl _) ?_; refine run_says 25 (by exact g25) (Says.refl _) ?_; refine run_says 21 (by exact g21) (Says.refl _) ?_
  refine run_x (I := inf) 99 rfl (by repeat (first | exact obs_nil | refine obs_same ?_ | refine obs_and ?_ | refine obs_by (by (simp [inB] <;> omega)) ?_)) ?_
  refine run_cond rfl (fun hlt => ?_) (fun hlt => ?_)
  · have hlt' : (i : Int) < items ds := by simpa using hlt
    rw [if_pos hlt']
    refine run_x (I := inf) 99 rfl (by repeat (first | exact obs_nil | refine obs_same ?_ | refine obs_and ?_ | refine obs_by (by (simp [inB] <;> omega)) ?_)) ?_
    refine run_call rfl rfl rfl rfl rfl rfl rfl rfl (a_Offset n1 nl ds (atD ds i)) ?_
    rw [offF_at hv (by omega) hlt']
    refine run_x (I := inf) 99 rfl (by repeat (first | exact obs_nil | refine obs_same ?_ | refine obs_and ?_ | refine obs_by (by (simp [inB] <;> omega)) ?_)) ?_
    refine run_cond rfl (fun hc => ?_) (fun hc => ?_)
    · exfalso; simp at hc
    refine run_x (I := inf) 99 rfl (by repeat (first | exact obs_nil | refine obs_same ?_ | refine obs_and ?_ | refine obs_by (by (simp [inB] <;> omega)) ?_)) ?_
    refine run_call rfl rfl rfl rfl rfl rfl rfl rfl (a_Next n1 nl ds (atD ds i)) ?_
    rw [nextF_at hv (by omega) hlt']
    have hw : IntKind.wrap .i64 ((i : Int) + 1) = ((i + 1 : Nat) : Int) := by rw [w64] <;> omega
    by_cases hlast : (i : Int) + 1 = items ds
    · rw [if_pos hlast]
      refine run_x (I := inf) 99 rfl (by repeat (first | exact obs_nil | refine obs_same ?_ | refine obs_and ?_ | refine obs_by (by (simp [inB] <;> omega)) ?_)) ?_
      refine run_cond rfl (fun hc => ?_) (fun hc => ?_)
      · exfalso; rw [hw] at hc; simp at hc; omega
      refine run_x (I := inf) 99 rfl (by repeat (first | exact obs_nil | refine obs_same ?_ | refine obs_and ?_ | refine obs_by (by (simp [inB] <;> omega)) ?_)) ?_
      refine ih (i + 1) _ _ (by omega) ⟨⟨rfl, rfl, rfl, ?_, some true, ?_⟩, rfl, by omega⟩
      · show iv (IntKind.wrap .i64 ((i : Int) + 1)) = _
        rw [hw]
      · rw [if_neg (show ¬ ((i + 1 : Nat) : Int) < items ds by omega)]; rfl
    · rw [if_neg hlast]
      refine run_x (I := inf) 99 rfl (by repeat (first | exact obs_nil | refine obs_same ?_ | refine obs_and ?_ | refine obs_by (by (simp [inB] <;> omega)) ?_)) ?_
      refine run_cond rfl (fun hc => ?_) (fun hc => ?_)
      · exfalso; rw [hw] at hc; simp at hc; omega
      refine run_x (I := inf) 99 rfl (by repeat (first | exact obs_nil | refine obs_same ?_ | refine obs_and ?_ | refine obs_by (by (simp [inB] <;> omega)) ?_)) ?_
      refine ih (i + 1) _ _ (by omega) ⟨⟨rfl, rfl, rfl, ?_, none, ?_⟩, rfl, by omega⟩
      · show iv (IntKind.wrap .i64 ((i : Int) + 1)) = _
        rw [hw]
      · rw [if_pos (show ((i + 1 : Nat) : Int) < items ds by omega)]; rfl
  · refine run_x (I := inf) 99 rfl (by repeat (first | exact obs_nil | refine obs_same ?_ | refine obs_and ?_ | refine obs_by (by (simp [inB] <;> omega)) ?_)) ?_
    refine run_call rfl rfl rfl rfl rfl rfl rfl rfl law_awake ?_
    refine run_x (I := inf) 99 rfl (by repeat (first | exact obs_nil | refine obs_same ?_ | refine obs_and ?_ | refine obs_by (by (simp [inB] <;> omega)) ?_)) ?_
    refine run_retX (I := inf) 0 rfl (Nat.le_refl _) rfl .nil rfl ⟨?_, rfl⟩
    rfl

theorem law_ArrayOne (n1 n2 : Option Bool) (ds : List Dim) (n : Int) (ss : List Int) (off : Int) (hb1 : ds.length * 16 ≤ 140737488355328) (hb2 : ss.length * 8 ≤ 140737488355328) :
    CallT Try.prog 3 [dimS n1 ds, iv n, intS n2 ss, iv off] [] (fun o A => o = .ret (bv true) ∧ A = []) := by
  refine callT_body (n := 30) rfl rfl fun w ρ X => ?_
  refine run_x (I := inf) 99 rfl (by repeat (first | exact obs_nil | refine obs_same ?_ | refine obs_and ?_ | refine obs_by (by (simp [inB] <;> omega)) ?_)) ?_
  refine run_call rfl rfl rfl rfl rfl rfl rfl rfl (stay_dims n1 ds hb1) ?_
  refine run_x (I := inf) 99 rfl (by repeat (first | exact obs_nil | refine obs_same ?_ | refine obs_and ?_ | refine obs_by (by (simp [inB] <;> omega)) ?_)) ?_
  refine run_call rfl rfl rfl rfl rfl rfl rfl rfl (stay_ints n2 ss hb2) ?_
  refine run_x (I := inf) 99 rfl (by repeat (first | exact obs_nil | refine obs_same ?_ | refine obs_and ?_ | refine obs_by (by (simp [inB] <;> omega)) ?_)) ?_
  refine run_call rfl rfl rfl rfl rfl rfl rfl rfl (law_arrayOne n1 n2 ds n ss off) ?_
  refine run_x (I := inf) 99 rfl (by repeat (first | exact obs_nil | refine obs_same ?_ | refine obs_and ?_ | refine obs_by (by (simp [inB] <;> omega)) ?_)) ?_
  refine run_callU rfl rfl (by first | exact .v rfl rfl rfl rfl | exact .o rfl rfl rfl rfl) rfl rfl (by repeat (first | exact .nil | refine .cons (.n rfl) ?_ | refine .cons .o ?_ | refine .cons gok_and ?_)) rfl rfl rfl rfl rfl (fun _ => (stay_sameDims n1 none ds ds (by omega))) ?_
  refine run_x (I := inf) 99 rfl (by repeat (first | exact obs_nil | refine obs_same ?_ | refine obs_and ?_ | refine obs_by (by (simp [inB] <;> omega)) ?_)) ?_
  refine run_callU rfl rfl (by first | exact .v rfl rfl rfl rfl | exact .o rfl rfl rfl rfl) rfl rfl (by repeat (first | exact .nil | refine .cons (.n rfl) ?_ | refine .cons .o ?_ | refine .cons gok_and ?_)) rfl rfl rfl rfl rfl (fun _ => (stay_sameInts n2 none ss ss (by omega))) ?_
  refine run_x (I := inf) 99 rfl (by repeat (first | exact obs_nil | refine obs_same ?_ | refine obs_and ?_ | refine obs_by (by (simp [inB] <;> omega)) ?_)) ?_
  refine run_retX (I := inf) 0 rfl (Nat.le_refl _) rfl .nil rfl ⟨?_, rfl⟩
  simp
  rfl
end Go.Iron.Try
