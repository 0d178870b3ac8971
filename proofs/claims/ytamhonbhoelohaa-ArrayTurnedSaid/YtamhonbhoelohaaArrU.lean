/- The array package's functions (seat Ytamhonbhoelohaa): Section. -/
import Derived.Test.YtamhonbhoelohaaArrS
namespace Go.Iron.Try
open Go.Proofs

def badC (x : Cross) : Bool := x.2 && decide (x.1 ≠ 0)
def idxC : List Cross → Int → Int
  | [], _ => -1
  | x :: l, i => if badC x then i else idxC l (i + 1)
theorem idxC_any : ∀ (l : List Cross) (i : Int), 0 ≤ i → decide (idxC l i ≥ 0) = l.any badC
  | [], i, h => by simp [idxC]
  | x :: l, i, h => by
    unfold idxC
    by_cases hb : badC x = true
    · rw [if_pos hb]
      simp [hb, h]
    · rw [if_neg hb]
      simp only [List.any_cons, hb, Bool.false_or]
      exact idxC_any l (i + 1) (by omega)

theorem c_index (nl : Option Bool) (l : List Cross) (hlen : l.length < 1000) : CallT Try.prog 156 [crossS nl l, .fn (.func 102) []] [] (fun o A => o = .ret (iv (idxC l 0)) ∧ A = []) := by
  refine callS_body (n := 19) rfl rfl fun w ρ X => ?_
  refine runS_x (I := inf) (J := jnf) ⟨false, false, []⟩ 9999 rfl (by repeat (first | exact obs_nil | refine obs_draw (by kernel_rfl) ?_ | refine obs_same ?_ | refine obs_and ?_ | refine obs_by (by (simp [inB] <;> omega)) ?_)) ?_
  refine runS_while (fun (i : Nat) τ ar => (τ 0 = crossS nl l ∧ τ 1 = .fn (.func 102) [] ∧ τ 7 = iv l.length ∧ τ 8 = iv i) ∧ ar = [] ∧ i ≤ l.length ∧ idxC (l.drop i) i = idxC l 0) (fun i => l.length - i) 0
    ⟨⟨rfl, rfl, rfl, rfl⟩, rfl, Nat.zero_le _, rfl⟩ ?_
  rintro i τ' ar' ⟨⟨g0, g1, g7, g8⟩, rfl, hi, hd⟩ ih
  refine runS_says 0 (by exact g0) (Says.refl _) ?_; refine runS_says 1 (by exact g1) (Says.refl _) ?_; refine runS_says 7 (by exact g7) (Says.refl _) ?_; refine runS_says 8 (by exact g8) (Says.refl _) ?_
  refine runS_x (I := inf) (J := jnf) ⟨false, false, []⟩ 9999 rfl (by repeat (first | exact obs_nil | refine obs_draw (by kernel_rfl) ?_ | refine obs_same ?_ | refine obs_and ?_ | refine obs_by (by (simp [inB] <;> omega)) ?_)) ?_
  refine runS_cond rfl (fun hlt => ?_) (fun hlt => ?_)
  · have hlt' : i < l.length := by simpa using hlt
    rw [getD_drop (d := ((0, false) : Cross)) hlt'] at hd
    rw [idxC] at hd
    refine runS_x (I := inf) (J := jnf) ⟨false, false, [102]⟩ 9999 rfl (by repeat (first | exact obs_nil | refine obs_draw (by kernel_rfl) ?_ | refine obs_same ?_ | refine obs_and ?_ | refine obs_by (by (simp [inB, hlt'] <;> omega)) ?_)) ?_
    generalize hx : l.getD ((i : Nat) : Int).toNat (0, false) = x
    rw [Int.toNat_natCast] at hx
    rw [hx] at hd
    refine runS_cond rfl (fun hc => ?_) (fun hc => ?_)
    · have hb : badC x = true := by unfold badC; cases h2 : x.2 <;> simp_all
      rw [if_pos hb] at hd
      refine runS_x (I := inf) (J := jnf) ⟨false, false, []⟩ 9999 rfl (by repeat (first | exact obs_nil | refine obs_draw (by kernel_rfl) ?_ | refine obs_same ?_ | refine obs_and ?_ | refine obs_by (by (simp [inB] <;> omega)) ?_)) ?_
      refine runS_ret (I := inf) 0 rfl (Nat.le_refl _) rfl .nil rfl ⟨?_, rfl⟩
      rw [← hd]
      rfl
    · have hb : ¬ badC x = true := by unfold badC; cases h2 : x.2 <;> simp_all
      rw [if_neg hb] at hd
      refine runS_x (I := inf) (J := jnf) ⟨false, false, []⟩ 9999 rfl (by repeat (first | exact obs_nil | refine obs_draw (by kernel_rfl) ?_ | refine obs_same ?_ | refine obs_and ?_ | refine obs_by (by (simp [inB] <;> omega)) ?_)) ?_
      refine runS_drop 0 (Nat.zero_le _) rfl (by repeat (first | exact .nil | refine .row (fun j hj => rfl) ?_ | refine .box rfl ?_ | refine .loop (scrub_under _ _) ?_ | refine .dfr ?_ | refine .gone ?_)) rfl rfl rfl (by repeat (first | exact .nil | refine .cons rfl rfl rfl (scrub_under _ _) ?_)) ?_
      refine ih (i + 1) _ _ (by omega) ⟨⟨rfl, rfl, rfl, ?_⟩, rfl, by omega, hd⟩
      show iv (IntKind.wrap .i64 ((i : Int) + 1)) = _
      rw [w64 (by omega) (by omega)]; rfl
  · have hi' : i = l.length := by simp at hlt; omega
    subst hi'
    rw [List.drop_length] at hd
    refine runS_x (I := inf) (J := jnf) ⟨false, false, []⟩ 9999 rfl (by repeat (first | exact obs_nil | refine obs_draw (by kernel_rfl) ?_ | refine obs_same ?_ | refine obs_and ?_ | refine obs_by (by (simp [inB] <;> omega)) ?_)) ?_
    refine runS_ret (I := inf) 0 rfl (Nat.le_refl _) rfl .nil rfl ⟨?_, rfl⟩
    rw [← hd]
    rfl

theorem c_contains (nl : Option Bool) (l : List Cross) (hlen : l.length < 1000) : CallT Try.prog 101 [crossS nl l, .fn (.func 102) []] [] (fun o A => o = .ret (bv (l.any badC)) ∧ A = []) := by
  refine callS_body (n := 9) rfl rfl fun w ρ X => ?_
  refine runS_x (I := inf) (J := jnf) ⟨false, false, []⟩ 9999 rfl (by repeat (first | exact obs_nil | refine obs_draw (by kernel_rfl) ?_ | refine obs_same ?_ | refine obs_and ?_ | refine obs_by (by (simp [inB] <;> omega)) ?_)) ?_
  refine runS_call rfl rfl rfl rfl rfl rfl rfl (c_index nl l hlen) ?_
  refine runS_x (I := inf) (J := jnf) ⟨false, false, []⟩ 9999 rfl (by repeat (first | exact obs_nil | refine obs_draw (by kernel_rfl) ?_ | refine obs_same ?_ | refine obs_and ?_ | refine obs_by (by (simp [inB] <;> omega)) ?_)) ?_
  refine runS_ret (I := inf) 0 rfl (Nat.le_refl _) rfl .nil rfl ⟨?_, rfl⟩
  rw [← idxC_any l 0 (by omega)]
  rfl

/-- An element is in a cross section. -/
def withinL : List Cross → List Int → Nat → Bool
  | [], _, _ => true
  | x :: l, ss, i => (x.2 || decide (ss.getD i 0 = x.1)) && withinL l ss (i + 1)

theorem c_within (n1 n2 : Option Bool) (l : List Cross) (ss : List Int) (hlen : l.length < 1000) (hls : ss.length = l.length) : CallT Try.prog 103 [intS n2 ss, .ptr 0 0 0] [.box 29 [crossS n1 l]] (fun o A => o = .ret (bv (withinL l ss 0)) ∧ A = [.box 29 [crossS n1 l]]) := by
  refine callS_body (n := 26) rfl rfl fun w ρ X => ?_
  refine runS_x (I := inf) (J := jnf) ⟨false, false, []⟩ 9999 rfl (by repeat (first | exact obs_nil | refine obs_draw (by kernel_rfl) ?_ | refine obs_same ?_ | refine obs_and ?_ | refine obs_by (by (simp [inB] <;> omega)) ?_)) ?_
  refine runS_while (fun (i : Nat) τ ar => (τ 0 = intS n2 ss ∧ τ 6 = crossS n1 l ∧ τ 7 = iv l.length ∧ τ 8 = iv i) ∧ ar = [.box 29 [crossS n1 l]] ∧ i ≤ l.length ∧ withinL (l.drop i) ss i = withinL l ss 0) (fun i => l.length - i) 0
    ⟨⟨rfl, rfl, rfl, rfl⟩, rfl, Nat.zero_le _, rfl⟩ ?_
  rintro i τ' ar' ⟨⟨g0, g6, g7, g8⟩, rfl, hi, hd⟩ ih
  refine runS_says 0 (by exact g0) (Says.refl _) ?_; refine runS_says 6 (by exact g6) (Says.refl _) ?_; refine runS_says 7 (by exact g7) (Says.refl _) ?_; refine runS_says 8 (by exact g8) (Says.refl _) ?_
  refine runS_x (I := inf) (J := jnf) ⟨false, false, []⟩ 9999 rfl (by repeat (first | exact obs_nil | refine obs_draw (by kernel_rfl) ?_ | refine obs_same ?_ | refine obs_and ?_ | refine obs_by (by (simp [inB] <;> omega)) ?_)) ?_
  refine runS_cond rfl (fun hlt => ?_) (fun hlt => ?_)
  · have hlt' : i < l.length := by simpa using hlt
    rw [getD_drop (d := ((0, false) : Cross)) hlt'] at hd
    rw [withinL] at hd
    refine runS_x (I := inf) (J := jnf) ⟨false, false, []⟩ 9999 rfl (by repeat (first | exact obs_nil | refine obs_draw (by kernel_rfl) ?_ | refine obs_same ?_ | refine obs_and ?_ | refine obs_by (by (simp [inB, hlt', hls] <;> omega)) ?_)) ?_
    generalize hx : l.getD ((i : Nat) : Int).toNat (0, false) = x
    rw [Int.toNat_natCast] at hx
    rw [hx] at hd
    refine runS_cond rfl (fun hc => ?_) (fun hc => ?_)
    · have hb : (x.2 || decide (ss.getD i 0 = x.1)) = false := by cases h2 : x.2 <;> simp_all
      rw [hb] at hd
      refine runS_x (I := inf) (J := jnf) ⟨false, false, []⟩ 9999 rfl (by repeat (first | exact obs_nil | refine obs_draw (by kernel_rfl) ?_ | refine obs_same ?_ | refine obs_and ?_ | refine obs_by (by (simp [inB] <;> omega)) ?_)) ?_
      refine runS_ret (I := inf) 1 rfl (Nat.le_refl _) rfl (.box rfl .nil) rfl ⟨?_, rfl⟩
      rw [← hd]
      rfl
    · have hb : (x.2 || decide (ss.getD i 0 = x.1)) = true := by cases h2 : x.2 <;> simp_all
      rw [hb, Bool.true_and] at hd
      refine runS_x (I := inf) (J := jnf) ⟨false, false, []⟩ 9999 rfl (by repeat (first | exact obs_nil | refine obs_draw (by kernel_rfl) ?_ | refine obs_same ?_ | refine obs_and ?_ | refine obs_by (by (simp [inB] <;> omega)) ?_)) ?_
      refine runS_drop 1 (Nat.le_refl _) rfl (.box rfl .nil) rfl rfl rfl .nil ?_
      refine ih (i + 1) _ _ (by omega) ⟨⟨rfl, rfl, rfl, ?_⟩, rfl, by omega, hd⟩
      show iv (IntKind.wrap .i64 ((i : Int) + 1)) = _
      rw [w64 (by omega) (by omega)]; rfl
  · have hi' : i = l.length := by simp at hlt; omega
    subst hi'
    rw [List.drop_length] at hd
    refine runS_x (I := inf) (J := jnf) ⟨false, false, []⟩ 9999 rfl (by repeat (first | exact obs_nil | refine obs_draw (by kernel_rfl) ?_ | refine obs_same ?_ | refine obs_and ?_ | refine obs_by (by (simp [inB] <;> omega)) ?_)) ?_
    refine runS_ret (I := inf) 1 rfl (Nat.le_refl _) rfl (.box rfl .nil) rfl ⟨?_, rfl⟩
    rw [← hd]
    rfl
end Go.Iron.Try
