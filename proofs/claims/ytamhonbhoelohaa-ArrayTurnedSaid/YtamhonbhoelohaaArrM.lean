/- The array package's functions (seat Ytamhonbhoelohaa): Through. -/
import Derived.Test.YtamhonbhoelohaaArrL
namespace Go.Iron.Try
open Go.Proofs

def wideB (n : Int) : Bool := decide (n < -32768) || decide (n ≥ 32768)
theorem a_wide (n : Int) : CallT Try.prog 158 [iv n] [] (fun o A => o = .ret (bv (wideB n)) ∧ A = []) := by
  refine callT_body (n := 9) rfl rfl fun w ρ X => ?_
  refine run_x (I := inf) 99 rfl (by repeat (first | exact obs_nil | refine obs_same ?_ | refine obs_and ?_ | refine obs_by (by (simp [inB] <;> omega)) ?_)) ?_
  refine run_retX (I := inf) 0 rfl (Nat.le_refl _) rfl .nil rfl ⟨?_, rfl⟩
  show Out.ret (bv (if decide (n < -32768) then true else decide (n ≥ 32768))) = _
  congr 2
  unfold wideB
  cases decide (n < -32768) <;> rfl

/-- The error of own places. -/
def mappedF (base own : List Dim) (l : List ISub) : Int := if l.any badI then 1 else if l.length = base.length then namesF own l else 11

theorem a_mapped (n1 n2 n3 : Option Bool) (base own : List Dim) (l : List ISub) (hlen : l.length < 9223372036854775807) : CallT Try.prog 105 [dimS n1 base, dimS n2 own, isubS n3 l] [] (fun o A => o = .ret (iv (mappedF base own l)) ∧ A = []) := by
  refine callT_body (n := 61) rfl rfl fun w ρ X => ?_
  refine run_x (I := inf) 99 rfl (by repeat (first | exact obs_nil | refine obs_same ?_ | refine obs_and ?_ | refine obs_by (by (simp [inB] <;> omega)) ?_)) ?_
  refine run_while (fun (i : Nat) τ ar => (τ 0 = dimS n1 base ∧ τ 1 = dimS n2 own ∧ τ 2 = isubS n3 l ∧ τ 7 = .fn (.func 158) [] ∧ τ 12 = isubS n3 l ∧ τ 13 = iv l.length ∧ τ 14 = iv i) ∧ ar = [] ∧ i ≤ l.length ∧ (l.drop i).any badI = l.any badI) (fun i => l.length - i) 0
    ⟨⟨rfl, rfl, rfl, rfl, rfl, rfl, rfl⟩, rfl, Nat.zero_le _, rfl⟩ ?_
  rintro i τ' ar' ⟨⟨g0, g1, g2, g7, g12, g13, g14⟩, rfl, hi, hp⟩ ih
  refine run_says 0 (by exact g0) (Says.refl _) ?_; refine run_says 1 (by exact g1) (Says.refl _) ?_; refine run_says 2 (by exact g2) (Says.refl _) ?_; refine run_says 7 (by exact g7) (Says.refl _) ?_; refine run_says 12 (by exact g12) (Says.refl _) ?_; refine run_says 13 (by exact g13) (Says.refl _) ?_; refine run_says 14 (by exact g14) (Says.refl _) ?_
  refine run_x (I := inf) 99 rfl (by repeat (first | exact obs_nil | refine obs_same ?_ | refine obs_and ?_ | refine obs_by (by (simp [inB] <;> omega)) ?_)) ?_
  refine run_cond rfl (fun hlt => ?_) (fun hlt => ?_)
  · have hlt' : i < l.length := by simpa using hlt
    have hany := any_drop (d := ((0, 0, 0) : ISub)) hlt' hp
    refine run_x (I := inf) 99 rfl (by repeat (first | exact obs_nil | refine obs_same ?_ | refine obs_and ?_ | refine obs_by (by (simp [inB, hlt'] <;> omega)) ?_)) ?_
    generalize hd0 : l.getD ((i : Nat) : Int).toNat (0, 0, 0) = x
    rw [Int.toNat_natCast] at hd0
    rw [hd0] at hany
    refine run_callU rfl rfl (by first | exact .v rfl rfl rfl rfl | exact .o rfl rfl rfl rfl) rfl rfl (by repeat (first | exact .nil | refine .cons (.n rfl) ?_ | refine .cons .o ?_ | refine .cons gok_and ?_)) rfl rfl rfl rfl rfl (fun _ => (a_wide x.2.1)) ?_
    refine run_x (I := inf) 99 rfl (by repeat (first | exact obs_nil | refine obs_same ?_ | refine obs_and ?_ | refine obs_by (by (simp [inB] <;> omega)) ?_)) ?_
    refine run_callU rfl rfl (by first | exact .v rfl rfl rfl rfl | exact .o rfl rfl rfl rfl) rfl rfl (by repeat (first | exact .nil | refine .cons (.n rfl) ?_ | refine .cons .o ?_ | refine .cons gok_and ?_)) rfl rfl rfl rfl rfl (fun _ => (a_wide x.2.2)) ?_
    refine run_x (I := inf) 99 rfl (by repeat (first | exact obs_nil | refine obs_same ?_ | refine obs_and ?_ | refine obs_by (by (simp [inB] <;> omega)) ?_)) ?_
    refine run_cond rfl (fun hc => ?_) (fun hc => ?_)
    · refine run_x (I := inf) 99 rfl (by repeat (first | exact obs_nil | refine obs_same ?_ | refine obs_and ?_ | refine obs_by (by (simp [inB] <;> omega)) ?_)) ?_
      refine run_retX (I := inf) 0 rfl (Nat.le_refl _) rfl .nil rfl ⟨?_, rfl⟩
      have hb : badI x = true := by simp [wideB] at hc; simp [badI]; omega
      have h1 : l.any badI = true := by rw [hany, hb]; rfl
      simp only [mappedF, h1, if_true]; rfl
    · have hb : badI x = false := by simp [wideB] at hc; simp [badI]; omega
      rw [hb, Bool.false_or] at hany
      refine run_x (I := inf) 99 rfl (by repeat (first | exact obs_nil | refine obs_same ?_ | refine obs_and ?_ | refine obs_by (by (simp [inB] <;> omega)) ?_)) ?_
      refine run_drop 0 (Nat.le_refl _) rfl .nil ?_
      refine ih (i + 1) _ _ (by omega) ⟨⟨rfl, rfl, rfl, rfl, rfl, rfl, ?_⟩, rfl, by omega, hany.symm⟩
      show iv (IntKind.wrap .i64 ((i : Int) + 1)) = _
      rw [w64 (by omega) (by omega)]; rfl
  · have hi' : i = l.length := by simp at hlt; omega
    subst hi'
    rw [List.drop_length] at hp
    have h1 : l.any badI = false := by rw [← hp]; rfl
    refine run_x (I := inf) 99 rfl (by repeat (first | exact obs_nil | refine obs_same ?_ | refine obs_and ?_ | refine obs_by (by (simp [inB] <;> omega)) ?_)) ?_
    refine run_cond rfl (fun hc => ?_) (fun hc => ?_)
    · refine run_x (I := inf) 99 rfl (by repeat (first | exact obs_nil | refine obs_same ?_ | refine obs_and ?_ | refine obs_by (by (simp [inB] <;> omega)) ?_)) ?_
      refine run_retX (I := inf) 0 rfl (Nat.le_refl _) rfl .nil rfl ⟨?_, rfl⟩
      have h2 : ¬ l.length = base.length := by simp at hc; omega
      simp only [mappedF, h1, h2, Bool.false_eq_true, if_false]; rfl
    · have h2 : l.length = base.length := by simp at hc; omega
      have hres : mappedF base own l = namesF own l := by simp only [mappedF, h1, h2, Bool.false_eq_true, if_false, if_true]
      rw [hres]
      refine run_x (I := inf) 99 rfl (by repeat (first | exact obs_nil | refine obs_same ?_ | refine obs_and ?_ | refine obs_by (by (simp [inB] <;> omega)) ?_)) ?_
      refine run_while (fun (i : Nat) τ ar => (τ 1 = dimS n2 own ∧ τ 49 = isubS n3 l ∧ τ 50 = iv l.length ∧ τ 51 = iv i) ∧ ar = [] ∧ i ≤ l.length ∧ (l.drop i).any (fun x => decide (x.1 > own.length)) = l.any (fun x => decide (x.1 > own.length))) (fun i => l.length - i) 0
        ⟨⟨rfl, rfl, rfl, rfl⟩, rfl, Nat.zero_le _, rfl⟩ ?_
      rintro i τ' ar' ⟨⟨g1, g49, g50, g51⟩, rfl, hi, hp⟩ ih
      refine run_says 1 (by exact g1) (Says.refl _) ?_; refine run_says 49 (by exact g49) (Says.refl _) ?_; refine run_says 50 (by exact g50) (Says.refl _) ?_; refine run_says 51 (by exact g51) (Says.refl _) ?_
      refine run_x (I := inf) 99 rfl (by repeat (first | exact obs_nil | refine obs_same ?_ | refine obs_and ?_ | refine obs_by (by (simp [inB] <;> omega)) ?_)) ?_
      refine run_cond rfl (fun hlt => ?_) (fun hlt => ?_)
      · have hlt' : i < l.length := by simpa using hlt
        have hany := any_drop (d := ((0, 0, 0) : ISub)) hlt' hp
        refine run_x (I := inf) 99 rfl (by repeat (first | exact obs_nil | refine obs_same ?_ | refine obs_and ?_ | refine obs_by (by (simp [inB, hlt'] <;> omega)) ?_)) ?_
        generalize hd0 : l.getD ((i : Nat) : Int).toNat (0, 0, 0) = x
        rw [Int.toNat_natCast] at hd0
        rw [hd0] at hany
        refine run_cond rfl (fun hc => ?_) (fun hc => ?_)
        · refine run_x (I := inf) 99 rfl (by repeat (first | exact obs_nil | refine obs_same ?_ | refine obs_and ?_ | refine obs_by (by (simp [inB] <;> omega)) ?_)) ?_
          refine run_retX (I := inf) 0 rfl (Nat.le_refl _) rfl .nil rfl ⟨?_, rfl⟩
          have h1 : l.any (fun x => decide (x.1 > own.length)) = true := by rw [hany]; simp at hc; simp [hc]
          simp only [namesF, h1, if_true]; rfl
        · have hb : decide (x.1 > own.length) = false := by simp at hc; simp [hc]
          rw [hb, Bool.false_or] at hany
          refine run_x (I := inf) 99 rfl (by repeat (first | exact obs_nil | refine obs_same ?_ | refine obs_and ?_ | refine obs_by (by (simp [inB] <;> omega)) ?_)) ?_
          refine run_drop 0 (Nat.le_refl _) rfl .nil ?_
          refine ih (i + 1) _ _ (by omega) ⟨⟨rfl, rfl, rfl, ?_⟩, rfl, by omega, hany.symm⟩
          show iv (IntKind.wrap .i64 ((i : Int) + 1)) = _
          rw [w64 (by omega) (by omega)]; rfl
      · have hi' : i = l.length := by simp at hlt; omega
        subst hi'
        rw [List.drop_length] at hp
        have h1 : l.any (fun x => decide (x.1 > own.length)) = false := by rw [← hp]; rfl
        refine run_x (I := inf) 99 rfl (by repeat (first | exact obs_nil | refine obs_same ?_ | refine obs_and ?_ | refine obs_by (by (simp [inB] <;> omega)) ?_)) ?_
        refine run_retX (I := inf) 0 rfl (Nat.le_refl _) rfl .nil rfl ⟨?_, rfl⟩
        simp only [namesF, h1, Bool.false_eq_true, if_false]; rfl
end Go.Iron.Try
