/- The array package's functions (seat Ytamhonbhoelohaa): dimensions. -/
import Derived.Test.YtamhonbhoelohaaArrB
namespace Go.Iron.Try
open Go.Proofs

/-- What is told of a dimension. -/
def dimF (F : Dim → Int) (ds : List Dim) (n : Int) : Int × Int :=
  if validD ds then (if decide (n < 1) || decide (n > ds.length) then (0, 7) else (F (ds.getD (n - 1).toNat (0, 0)), 0)) else (0, 1)

theorem dim_in {n : Int} {i : Nat} {ds : List Dim} (hf : fitL n ds) (hi : i < ds.length) : -32768 ≤ (ds.getD i (0, 0)).1 ∧ (ds.getD i (0, 0)).1 ≤ (ds.getD i (0, 0)).2 ∧ (ds.getD i (0, 0)).2 < 32768 := by
  induction ds generalizing n i with
  | nil => simp at hi
  | cons d l ih =>
    cases i with
    | zero => exact hf.1
    | succ i => simpa using ih hf.2.2 (by simpa using hi)

theorem a_dimension {g : FuncId} {gn : Func} {gc : Code} [Fun Try.prog g gn gc] (F : Dim → Int) (hF : ∀ d : Dim, -32768 ≤ d.1 → d.1 ≤ d.2 → d.2 < 32768 → CallT Try.prog g [.agg [iv d.1, iv d.2]] [] (fun out A => out = .ret (iv (F d)) ∧ A = []))
    (nl : Option Bool) (ds : List Dim) (n : Int) : CallT Try.prog 92 [dimS nl ds, iv n, .fn (.func g) []] [] (fun out A => out = .ret (.tup [iv (dimF F ds n).1, iv (dimF F ds n).2]) ∧ A = []) := by
  refine callT_body (n := 28) rfl rfl fun w ρ X => ?_
  refine run_x (I := inf) 99 rfl (by repeat (first | exact obs_nil | refine obs_same ?_ | refine obs_and ?_ | refine obs_by (by (simp [inB] <;> omega)) ?_)) ?_
  refine run_call rfl rfl rfl rfl rfl rfl rfl rfl (a_Valid nl ds) ?_
  refine run_x (I := inf) 99 rfl (by repeat (first | exact obs_nil | refine obs_same ?_ | refine obs_and ?_ | refine obs_by (by (simp [inB] <;> omega)) ?_)) ?_
  refine run_cond rfl (fun h => ?_) (fun h => ?_)
  · refine run_x (I := inf) 99 rfl (by repeat (first | exact obs_nil | refine obs_same ?_ | refine obs_and ?_ | refine obs_by (by (simp [inB] <;> omega)) ?_)) ?_
    refine run_retX (I := inf) 0 rfl (Nat.le_refl _) rfl .nil rfl ⟨?_, rfl⟩
    have h' : validD ds = false := by simpa using h
    simp only [dimF, h']; rfl
  · have h' : validD ds = true := by simpa using h
    have hf := fit_valid h'
    refine run_x (I := inf) 99 rfl (by repeat (first | exact obs_nil | refine obs_same ?_ | refine obs_and ?_ | refine obs_by (by (simp [inB] <;> omega)) ?_)) ?_
    refine run_cond rfl (fun hc => ?_) (fun hc => ?_)
    · refine run_x (I := inf) 99 rfl (by repeat (first | exact obs_nil | refine obs_same ?_ | refine obs_and ?_ | refine obs_by (by (simp [inB] <;> omega)) ?_)) ?_
      refine run_retX (I := inf) 0 rfl (Nat.le_refl _) rfl .nil rfl ⟨?_, rfl⟩
      have hc' : (decide (n < 1) || decide (n > ds.length)) = true := by simp at hc ⊢; omega
      simp only [dimF, h', hc', if_true]; rfl
    · have hc' : (decide (n < 1) || decide (n > ds.length)) = false := by simp at hc ⊢; omega
      have hn : 1 ≤ n ∧ n ≤ ds.length := by simp at hc'; omega
      have hw : IntKind.wrap .i64 (n - 1) = n - 1 := w64 (by omega) (by omega)
      refine run_x (I := inf) 99 rfl (by repeat (first | exact obs_nil | refine obs_same ?_ | refine obs_and ?_ | refine obs_by (by (simp [inB, hw, hn] <;> omega)) ?_)) ?_
      rw [hw]
      have hd := dim_in (i := (n - 1).toNat) hf.1 (by omega)
      have hdF := hF _ hd.1 hd.2.1 hd.2.2
      have hres : dimF F ds n = (F (ds.getD (n - 1).toNat (0, 0)), 0) := by simp only [dimF, h', hc', if_true, Bool.false_eq_true, if_false]
      rw [hres]
      generalize ds.getD (n - 1).toNat (0, 0) = d at hdF ⊢
      refine run_call rfl rfl rfl rfl rfl rfl rfl rfl hdF ?_
      refine run_x (I := inf) 99 rfl (by repeat (first | exact obs_nil | refine obs_same ?_ | refine obs_and ?_ | refine obs_by (by (simp [inB] <;> omega)) ?_)) ?_
      refine run_retX (I := inf) 0 rfl (Nat.le_refl _) rfl .nil rfl ⟨?_, rfl⟩
      rfl

theorem a_low1 (d : Dim) (h1 : -32768 ≤ d.1) (h2 : d.1 ≤ d.2) (h3 : d.2 < 32768) : CallT Try.prog 93 [.agg [iv d.1, iv d.2]] [] (fun out A => out = .ret (iv d.1) ∧ A = []) := by
  refine callT_body (n := 5) rfl rfl fun w ρ X => ?_
  refine run_x (I := inf) 99 rfl (by repeat (first | exact obs_nil | refine obs_same ?_ | refine obs_and ?_ | refine obs_by (by (simp [inB] <;> omega)) ?_)) ?_
  refine run_retX (I := inf) 0 rfl (Nat.le_refl _) rfl .nil rfl ⟨?_, rfl⟩
  rfl
theorem a_high1 (d : Dim) (h1 : -32768 ≤ d.1) (h2 : d.1 ≤ d.2) (h3 : d.2 < 32768) : CallT Try.prog 95 [.agg [iv d.1, iv d.2]] [] (fun out A => out = .ret (iv d.2) ∧ A = []) := by
  refine callT_body (n := 5) rfl rfl fun w ρ X => ?_
  refine run_x (I := inf) 99 rfl (by repeat (first | exact obs_nil | refine obs_same ?_ | refine obs_and ?_ | refine obs_by (by (simp [inB] <;> omega)) ?_)) ?_
  refine run_retX (I := inf) 0 rfl (Nat.le_refl _) rfl .nil rfl ⟨?_, rfl⟩
  rfl
theorem a_Low (nl : Option Bool) (ds : List Dim) (n : Int) : CallT Try.prog 38 [dimS nl ds, iv n] [] (fun out A => out = .ret (.tup [iv (dimF (·.1) ds n).1, iv (dimF (·.1) ds n).2]) ∧ A = []) := by
  refine callT_body (n := 11) rfl rfl fun w ρ X => ?_
  refine run_x (I := inf) 99 rfl (by repeat (first | exact obs_nil | refine obs_same ?_ | refine obs_and ?_ | refine obs_by (by (simp [inB] <;> omega)) ?_)) ?_
  refine run_call rfl rfl rfl rfl rfl rfl rfl rfl (a_dimension (·.1) a_low1 nl ds n) ?_
  refine run_x (I := inf) 99 rfl (by repeat (first | exact obs_nil | refine obs_same ?_ | refine obs_and ?_ | refine obs_by (by (simp [inB] <;> omega)) ?_)) ?_
  refine run_retX (I := inf) 0 rfl (Nat.le_refl _) rfl .nil rfl ⟨?_, rfl⟩
  rfl
theorem a_High (nl : Option Bool) (ds : List Dim) (n : Int) : CallT Try.prog 40 [dimS nl ds, iv n] [] (fun out A => out = .ret (.tup [iv (dimF (·.2) ds n).1, iv (dimF (·.2) ds n).2]) ∧ A = []) := by
  refine callT_body (n := 11) rfl rfl fun w ρ X => ?_
  refine run_x (I := inf) 99 rfl (by repeat (first | exact obs_nil | refine obs_same ?_ | refine obs_and ?_ | refine obs_by (by (simp [inB] <;> omega)) ?_)) ?_
  refine run_call rfl rfl rfl rfl rfl rfl rfl rfl (a_dimension (·.2) a_high1 nl ds n) ?_
  refine run_x (I := inf) 99 rfl (by repeat (first | exact obs_nil | refine obs_same ?_ | refine obs_and ?_ | refine obs_by (by (simp [inB] <;> omega)) ?_)) ?_
  refine run_retX (I := inf) 0 rfl (Nat.le_refl _) rfl .nil rfl ⟨?_, rfl⟩
  rfl
theorem a_Extent (nl : Option Bool) (ds : List Dim) (n : Int) : CallT Try.prog 42 [dimS nl ds, iv n] [] (fun out A => out = .ret (.tup [iv (dimF ext ds n).1, iv (dimF ext ds n).2]) ∧ A = []) := by
  refine callT_body (n := 11) rfl rfl fun w ρ X => ?_
  refine run_x (I := inf) 99 rfl (by repeat (first | exact obs_nil | refine obs_same ?_ | refine obs_and ?_ | refine obs_by (by (simp [inB] <;> omega)) ?_)) ?_
  refine run_call rfl rfl rfl rfl rfl rfl rfl rfl (a_dimension ext extent nl ds n) ?_
  refine run_x (I := inf) 99 rfl (by repeat (first | exact obs_nil | refine obs_same ?_ | refine obs_and ?_ | refine obs_by (by (simp [inB] <;> omega)) ?_)) ?_
  refine run_retX (I := inf) 0 rfl (Nat.le_refl _) rfl .nil rfl ⟨?_, rfl⟩
  rfl

/-- A dimension by its number. -/
def ofF (ds : List Dim) (n : Int) : Dim × Int :=
  if validD ds then (if decide (n < 1) || decide (n > ds.length) then ((0, 0), 7) else (ds.getD (n - 1).toNat (0, 0), 0)) else ((0, 0), 1)
theorem ofF_dim (F : Dim → Int) (hF : F (0, 0) = 0) (ds : List Dim) (n : Int) : dimF F ds n = (F (ofF ds n).1, (ofF ds n).2) := by
  unfold dimF ofF
  split
  · split <;> simp [hF]
  · simp [hF]

theorem r_of (nl : Option Bool) (ds : List Dim) (n : Int) : CallT Try.prog 94 [dimS nl ds, iv n] [] (fun out A => out = .ret (.tup [.agg [iv (ofF ds n).1.1, iv (ofF ds n).1.2], iv (ofF ds n).2]) ∧ A = []) := by
  refine callT_body (n := 26) rfl rfl fun w ρ X => ?_
  refine run_x (I := inf) 99 rfl (by repeat (first | exact obs_nil | refine obs_same ?_ | refine obs_and ?_ | refine obs_by (by (simp [inB] <;> omega)) ?_)) ?_
  refine run_call rfl rfl rfl rfl rfl rfl rfl rfl (r_Valid nl ds) ?_
  refine run_x (I := inf) 99 rfl (by repeat (first | exact obs_nil | refine obs_same ?_ | refine obs_and ?_ | refine obs_by (by (simp [inB] <;> omega)) ?_)) ?_
  refine run_cond rfl (fun h => ?_) (fun h => ?_)
  · refine run_x (I := inf) 99 rfl (by repeat (first | exact obs_nil | refine obs_same ?_ | refine obs_and ?_ | refine obs_by (by (simp [inB] <;> omega)) ?_)) ?_
    refine run_retX (I := inf) 0 rfl (Nat.le_refl _) rfl .nil rfl ⟨?_, rfl⟩
    have h' : validD ds = false := by simpa using h
    simp only [ofF, h']; rfl
  · have h' : validD ds = true := by simpa using h
    have hf := fit_valid h'
    refine run_x (I := inf) 99 rfl (by repeat (first | exact obs_nil | refine obs_same ?_ | refine obs_and ?_ | refine obs_by (by (simp [inB] <;> omega)) ?_)) ?_
    refine run_cond rfl (fun hc => ?_) (fun hc => ?_)
    · refine run_x (I := inf) 99 rfl (by repeat (first | exact obs_nil | refine obs_same ?_ | refine obs_and ?_ | refine obs_by (by (simp [inB] <;> omega)) ?_)) ?_
      refine run_retX (I := inf) 0 rfl (Nat.le_refl _) rfl .nil rfl ⟨?_, rfl⟩
      have hc' : (decide (n < 1) || decide (n > ds.length)) = true := by simp at hc ⊢; omega
      simp only [ofF, h', hc', if_true]; rfl
    · have hc' : (decide (n < 1) || decide (n > ds.length)) = false := by simp at hc ⊢; omega
      have hn : 1 ≤ n ∧ n ≤ ds.length := by simp at hc'; omega
      have hw : IntKind.wrap .i64 (n - 1) = n - 1 := w64 (by omega) (by omega)
      refine run_x (I := inf) 99 rfl (by repeat (first | exact obs_nil | refine obs_same ?_ | refine obs_and ?_ | refine obs_by (by (simp [inB, hw, hn] <;> omega)) ?_)) ?_
      rw [hw]
      have hres : ofF ds n = (ds.getD (n - 1).toNat (0, 0), 0) := by simp only [ofF, h', hc', if_true, Bool.false_eq_true, if_false]
      rw [hres]
      refine run_retX (I := inf) 0 rfl (Nat.le_refl _) rfl .nil rfl ⟨?_, rfl⟩
      rfl

theorem r_Low (nl : Option Bool) (ds : List Dim) (n : Int) : CallT Try.prog 39 [dimS nl ds, iv n] [] (fun out A => out = .ret (.tup [iv (dimF (·.1) ds n).1, iv (dimF (·.1) ds n).2]) ∧ A = []) := by
  refine callT_body (n := 17) rfl rfl fun w ρ X => ?_
  refine run_x (I := inf) 99 rfl (by repeat (first | exact obs_nil | refine obs_same ?_ | refine obs_and ?_ | refine obs_by (by (simp [inB] <;> omega)) ?_)) ?_
  refine run_call rfl rfl rfl rfl rfl rfl rfl rfl (r_of nl ds n) ?_
  refine run_x (I := inf) 99 rfl (by repeat (first | exact obs_nil | refine obs_same ?_ | refine obs_and ?_ | refine obs_by (by (simp [inB] <;> omega)) ?_)) ?_
  refine run_retX (I := inf) 0 rfl (Nat.le_refl _) rfl .nil rfl ⟨?_, rfl⟩
  rw [ofF_dim (·.1) rfl]
  rfl
theorem r_High (nl : Option Bool) (ds : List Dim) (n : Int) : CallT Try.prog 41 [dimS nl ds, iv n] [] (fun out A => out = .ret (.tup [iv (dimF (·.2) ds n).1, iv (dimF (·.2) ds n).2]) ∧ A = []) := by
  refine callT_body (n := 17) rfl rfl fun w ρ X => ?_
  refine run_x (I := inf) 99 rfl (by repeat (first | exact obs_nil | refine obs_same ?_ | refine obs_and ?_ | refine obs_by (by (simp [inB] <;> omega)) ?_)) ?_
  refine run_call rfl rfl rfl rfl rfl rfl rfl rfl (r_of nl ds n) ?_
  refine run_x (I := inf) 99 rfl (by repeat (first | exact obs_nil | refine obs_same ?_ | refine obs_and ?_ | refine obs_by (by (simp [inB] <;> omega)) ?_)) ?_
  refine run_retX (I := inf) 0 rfl (Nat.le_refl _) rfl .nil rfl ⟨?_, rfl⟩
  rw [ofF_dim (·.2) rfl]
  rfl
theorem r_Extent (nl : Option Bool) (ds : List Dim) (n : Int) : CallT Try.prog 43 [dimS nl ds, iv n] [] (fun out A => out = .ret (.tup [iv (dimF ext ds n).1, iv (dimF ext ds n).2]) ∧ A = []) := by
  refine callT_body (n := 23) rfl rfl fun w ρ X => ?_
  refine run_x (I := inf) 99 rfl (by repeat (first | exact obs_nil | refine obs_same ?_ | refine obs_and ?_ | refine obs_by (by (simp [inB] <;> omega)) ?_)) ?_
  refine run_call rfl rfl rfl rfl rfl rfl rfl rfl (r_of nl ds n) ?_
  refine run_x (I := inf) 99 rfl (by repeat (first | exact obs_nil | refine obs_same ?_ | refine obs_and ?_ | refine obs_by (by (simp [inB] <;> omega)) ?_)) ?_
  refine run_cond rfl (fun h => ?_) (fun h => ?_)
  · refine run_x (I := inf) 99 rfl (by repeat (first | exact obs_nil | refine obs_same ?_ | refine obs_and ?_ | refine obs_by (by (simp [inB] <;> omega)) ?_)) ?_
    refine run_retX (I := inf) 0 rfl (Nat.le_refl _) rfl .nil rfl ⟨?_, rfl⟩
    have : dimF ext ds n = (0, (ofF ds n).2) := by
      unfold dimF ofF at *
      revert h
      split
      · split
        · simp
        · simp
      · simp
    rw [this]
    rfl
  · refine run_x (I := inf) 99 rfl (by repeat (first | exact obs_nil | refine obs_same ?_ | refine obs_and ?_ | refine obs_by (by (simp [inB] <;> omega)) ?_)) ?_
    refine run_retX (I := inf) 0 rfl (Nat.le_refl _) rfl .nil rfl ⟨?_, rfl⟩
    have h0 : (ofF ds n).2 = 0 := by simpa using h
    have hd : dimF ext ds n = (ext (ofF ds n).1, 0) ∧ -32768 ≤ (ofF ds n).1.1 ∧ (ofF ds n).1.1 ≤ (ofF ds n).1.2 ∧ (ofF ds n).1.2 < 32768 := by
      by_cases hv : validD ds = true
      · by_cases hc : (decide (n < 1) || decide (n > ds.length)) = true
        · simp only [ofF, hv, hc, if_true] at h0; omega
        · have hn : 1 ≤ n ∧ n ≤ ds.length := by simp at hc; omega
          have hd := dim_in (i := (n - 1).toNat) (fit_valid hv).1 (by omega)
          simp only [dimF, ofF, hv, hc, if_true, if_false, Bool.false_eq_true]
          exact ⟨trivial, hd⟩
      · simp only [ofF, hv, if_false, Bool.false_eq_true] at h0; omega
    rw [hd.1]
    show Out.ret (.tup [iv (IntKind.wrap .i64 (IntKind.wrap .i64 ((ofF ds n).1.2 - (ofF ds n).1.1) + 1)), iv 0]) = _
    rw [w64 (x := (ofF ds n).1.2 - (ofF ds n).1.1) (by omega) (by omega), w64 (by omega) (by omega)]
    rfl
end Go.Iron.Try
