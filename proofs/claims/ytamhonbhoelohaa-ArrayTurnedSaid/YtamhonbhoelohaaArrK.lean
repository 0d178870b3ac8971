/- The array package's functions (seat Ytamhonbhoelohaa): own places. -/
import Derived.Test.YtamhonbhoelohaaArrJ
namespace Go.Iron.Try
open Go.Proofs

/-- An own place that is invalid. -/
def badI (x : ISub) : Bool := decide (x.1 < 0) || decide (x.2.1 < -32768) || decide (x.2.1 > 32767) || decide (x.2.2 < -32768) || decide (x.2.2 > 32767) || (decide (x.1 = 0) && decide (x.2.1 ≠ 0))
def askedF (base own : List Dim) (l : List ISub) : Int :=
  if !validD base || !validD own then 1 else if l.any badI then 1 else if l.length = base.length then 0 else 11
def namesF (own : List Dim) (l : List ISub) : Int := if l.any (fun x => decide (x.1 > own.length)) then 7 else 0

theorem any_drop {α : Type} {d : α} {p : α → Bool} {l : List α} {i : Nat} (hi : i < l.length) (h : (l.drop i).any p = l.any p) : l.any p = (p (l.getD i d) || (l.drop (i + 1)).any p) := by
  rw [← h, getD_drop (d := d) hi]; rfl

theorem r_asked (n1 n2 n3 : Option Bool) (base own : List Dim) (l : List ISub) (hlen : l.length < 9223372036854775807) : CallT Try.prog 107 [dimS n1 base, dimS n2 own, isubS n3 l] [] (fun o A => o = .ret (iv (askedF base own l)) ∧ A = []) := by
  refine callT_body (n := 65) rfl rfl fun w ρ X => ?_
  refine run_x (I := inf) 99 rfl (by repeat (first | exact obs_nil | refine obs_same ?_ | refine obs_and ?_ | refine obs_by (by (simp [inB] <;> omega)) ?_)) ?_
  refine run_call rfl rfl rfl rfl rfl rfl rfl rfl (r_Valid n1 base) ?_
  refine run_x (I := inf) 99 rfl (by repeat (first | exact obs_nil | refine obs_same ?_ | refine obs_and ?_ | refine obs_by (by (simp [inB] <;> omega)) ?_)) ?_
  refine run_callU rfl rfl (by first | exact .v rfl rfl rfl rfl | exact .o rfl rfl rfl rfl) rfl rfl (by repeat (first | exact .nil | refine .cons (.n rfl) ?_ | refine .cons .o ?_ | refine .cons gok_and ?_)) rfl rfl rfl rfl rfl (fun _ => (r_Valid n2 own)) ?_
  refine run_x (I := inf) 99 rfl (by repeat (first | exact obs_nil | refine obs_same ?_ | refine obs_and ?_ | refine obs_by (by (simp [inB] <;> omega)) ?_)) ?_
  refine run_cond rfl (fun h => ?_) (fun h => ?_)
  · refine run_x (I := inf) 99 rfl (by repeat (first | exact obs_nil | refine obs_same ?_ | refine obs_and ?_ | refine obs_by (by (simp [inB] <;> omega)) ?_)) ?_
    refine run_retX (I := inf) 0 rfl (Nat.le_refl _) rfl .nil rfl ⟨?_, rfl⟩
    have h' : (!validD base || !validD own) = true := by simp at h ⊢; cases hb : validD base <;> simp_all
    simp only [askedF, h', if_true]; rfl
  · have h' : (!validD base || !validD own) = false := by simp at h ⊢; cases hb : validD base <;> simp_all
    refine run_x (I := inf) 99 rfl (by repeat (first | exact obs_nil | refine obs_same ?_ | refine obs_and ?_ | refine obs_by (by (simp [inB] <;> omega)) ?_)) ?_
    refine run_while (fun (i : Nat) τ ar => (τ 0 = dimS n1 base ∧ τ 2 = isubS n3 l ∧ τ 7 = iv i) ∧ ar = [] ∧ i ≤ l.length ∧ (l.drop i).any badI = l.any badI) (fun i => l.length - i) 0 ⟨⟨rfl, rfl, rfl⟩, rfl, Nat.zero_le _, rfl⟩ ?_
    rintro i τ' ar' ⟨⟨g0, g2, g7⟩, rfl, hi, hp⟩ ih
    refine run_says 0 (by exact g0) (Says.refl _) ?_; refine run_says 2 (by exact g2) (Says.refl _) ?_; refine run_says 7 (by exact g7) (Says.refl _) ?_
    refine run_x (I := inf) 99 rfl (by repeat (first | exact obs_nil | refine obs_same ?_ | refine obs_and ?_ | refine obs_by (by (simp [inB] <;> omega)) ?_)) ?_
    refine run_cond rfl (fun hlt => ?_) (fun hlt => ?_)
    · have hlt' : i < l.length := by simpa using hlt
      have hany := any_drop (d := ((0, 0, 0) : ISub)) hlt' hp
      refine run_x (I := inf) 99 rfl (by repeat (first | exact obs_nil | refine obs_same ?_ | refine obs_and ?_ | refine obs_by (by (simp [inB, hlt'] <;> omega)) ?_)) ?_
      generalize hd0 : l.getD ((i : Nat) : Int).toNat (0, 0, 0) = x
      rw [Int.toNat_natCast] at hd0
      rw [hd0] at hany
      refine run_cond rfl (fun hc => ?_) (fun hc => ?_)
      · refine run_x (I := inf) 99 rfl (by repeat (first | exact obs_nil | refine obs_same ?_ | refine obs_and ?_ | refine obs_by (by (simp [inB] <;> omega)) ?_)) ?_
        refine run_retX (I := inf) 0 rfl (Nat.le_refl _) rfl .nil rfl ⟨?_, rfl⟩
        have hb : badI x = true := by simp at hc; simp [badI]; omega
        have h1 : l.any badI = true := by rw [hany, hb]; rfl
        simp only [askedF, h', h1, if_true, Bool.false_eq_true, if_false]; rfl
      · have hb : badI x = false := by simp at hc; simp [badI]; omega
        rw [hb, Bool.false_or] at hany
        refine run_x (I := inf) 99 rfl (by repeat (first | exact obs_nil | refine obs_same ?_ | refine obs_and ?_ | refine obs_by (by (simp [inB] <;> omega)) ?_)) ?_
        refine run_drop 0 (Nat.le_refl _) rfl .nil ?_
        refine ih (i + 1) _ _ (by omega) ⟨⟨rfl, rfl, ?_⟩, rfl, by omega, hany.symm⟩
        show iv (IntKind.wrap .i64 ((i : Int) + 1)) = _
        rw [w64 (by omega) (by omega)]; rfl
    · have hi' : i = l.length := by simp at hlt; omega
      subst hi'
      rw [List.drop_length] at hp
      have h1 : l.any badI = false := by rw [← hp]; rfl
      refine run_x (I := inf) 99 rfl (by repeat (first | exact obs_nil | refine obs_same ?_ | refine obs_and ?_ | refine obs_by (by (simp [inB] <;> omega)) ?_)) ?_
      refine run_cond rfl (fun hc => ?_) (fun hc => ?_)
      · refine run_x (I := inf) 99 rfl (by repeat (first | exact obs_nil | refine obs_same ?_ | refine obs_and ?_ | refine obs_by (by (simp [inB] <;> omega)) ?_)) ?_
        refine run_retX (I := inf) 0 rfl (Nat.le_refl _) rfl .nil rfl ⟨?_, rfl⟩
        have h2 : ¬ l.length = base.length := by simp at hc; omega
        simp only [askedF, h', h1, h2, Bool.false_eq_true, if_false]; rfl
      · refine run_x (I := inf) 99 rfl (by repeat (first | exact obs_nil | refine obs_same ?_ | refine obs_and ?_ | refine obs_by (by (simp [inB] <;> omega)) ?_)) ?_
        refine run_retX (I := inf) 0 rfl (Nat.le_refl _) rfl .nil rfl ⟨?_, rfl⟩
        have h2 : l.length = base.length := by simp at hc; omega
        simp only [askedF, h', h1, h2, if_true, Bool.false_eq_true, if_false]; rfl

theorem r_names (n2 n3 : Option Bool) (own : List Dim) (l : List ISub) (hlen : l.length < 9223372036854775807) : CallT Try.prog 108 [dimS n2 own, isubS n3 l] [] (fun o A => o = .ret (iv (namesF own l)) ∧ A = []) := by
  refine callT_body (n := 20) rfl rfl fun w ρ X => ?_
  refine run_x (I := inf) 99 rfl (by repeat (first | exact obs_nil | refine obs_same ?_ | refine obs_and ?_ | refine obs_by (by (simp [inB] <;> omega)) ?_)) ?_
  refine run_while (fun (i : Nat) τ ar => (τ 0 = dimS n2 own ∧ τ 1 = isubS n3 l ∧ τ 5 = iv i) ∧ ar = [] ∧ i ≤ l.length ∧ (l.drop i).any (fun x => decide (x.1 > own.length)) = l.any (fun x => decide (x.1 > own.length))) (fun i => l.length - i) 0 ⟨⟨rfl, rfl, rfl⟩, rfl, Nat.zero_le _, rfl⟩ ?_
  rintro i τ' ar' ⟨⟨g0, g2, g7⟩, rfl, hi, hp⟩ ih
  refine run_says 0 (by exact g0) (Says.refl _) ?_; refine run_says 1 (by exact g2) (Says.refl _) ?_; refine run_says 5 (by exact g7) (Says.refl _) ?_
  refine run_x (I := inf) 99 rfl (by repeat (first | exact obs_nil | refine obs_same ?_ | refine obs_and ?_ | refine obs_by (by (simp [inB] <;> omega)) ?_)) ?_
  refine run_cond rfl (fun hlt => ?_) (fun hlt => ?_)
  · have hlt' : i < l.length := by simpa using hlt
    have hany := any_drop (d := ((0, 0, 0) : ISub)) hlt' hp
    refine run_x (I := inf) 99 rfl (by repeat (first | exact obs_nil | refine obs_same ?_ | refine obs_and ?_ | refine obs_by (by (simp [inB, hlt'] <;> omega)) ?_)) ?_
    generalize hd0 : l.getD ((i : Nat) : Int).toNat (0, 0, 0) = x
    rw [Int.toNat_natCast] at hd0
    rw [hd0] at hany
    refine run_cond rfl (fun hc => ?_) (fun hc => ?_)
    · refine run_x (I := inf) 99 rfl (by repeat (first | exact obs_nil | refine obs_same ?_ | refine obs_and ?_ | refine obs_by (by (simp [inB] <;> omega)) ?_)) ?_
      refine run_retX (I := inf) 0 rfl (Nat.le_refl _) rfl .nil rfl ⟨?_, rfl⟩
      have h1 : l.any (fun x => decide (x.1 > own.length)) = true := by rw [hany]; simp at hc; simp [hc]
      simp only [namesF, h1, if_true]; rfl
    · have hb : decide (x.1 > own.length) = false := by simp at hc; simp [hc]
      rw [hb, Bool.false_or] at hany
      refine run_x (I := inf) 99 rfl (by repeat (first | exact obs_nil | refine obs_same ?_ | refine obs_and ?_ | refine obs_by (by (simp [inB] <;> omega)) ?_)) ?_
      refine ih (i + 1) _ _ (by omega) ⟨⟨rfl, rfl, ?_⟩, rfl, by omega, hany.symm⟩
      show iv (IntKind.wrap .i64 ((i : Int) + 1)) = _
      rw [w64 (by omega) (by omega)]; rfl
  · have hi' : i = l.length := by simp at hlt; omega
    subst hi'
    rw [List.drop_length] at hp
    have h1 : l.any (fun x => decide (x.1 > own.length)) = false := by rw [← hp]; rfl
    refine run_x (I := inf) 99 rfl (by repeat (first | exact obs_nil | refine obs_same ?_ | refine obs_and ?_ | refine obs_by (by (simp [inB] <;> omega)) ?_)) ?_
    refine run_retX (I := inf) 0 rfl (Nat.le_refl _) rfl .nil rfl ⟨?_, rfl⟩
    simp only [namesF, h1, Bool.false_eq_true, if_false]; rfl
end Go.Iron.Try
