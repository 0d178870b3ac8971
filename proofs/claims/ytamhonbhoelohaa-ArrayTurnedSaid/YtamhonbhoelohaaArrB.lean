/- The array package's functions (seat Ytamhonbhoelohaa): bounds, their number. -/
import Derived.Test.YtamhonbhoelohaaArrA
namespace Go.Iron.Try
open Go.Proofs

/-- How many subscripts a dimension has. -/
def ext (d : Dim) : Int := d.2 - d.1 + 1
def badD (d : Dim) : Bool := decide (d.1 < -32768) || decide (d.2 ≥ 32768) || decide (d.1 > d.2)
def validL : Int → List Dim → Bool
  | _, [] => true
  | n, d :: l => if badD d then false else if n * ext d > 200 then false else validL (n * ext d) l
def validD (ds : List Dim) : Bool := decide (1 ≤ ds.length) && decide (ds.length ≤ 3) && validL 1 ds
def prodL : Int → List Dim → Int
  | n, [] => n
  | n, d :: l => prodL (n * ext d) l
def items (ds : List Dim) : Int := prodL 1 ds

theorem extent (d : Dim) (h1 : -32768 ≤ d.1) (h2 : d.1 ≤ d.2) (h3 : d.2 < 32768) : CallT Try.prog 96 [.agg [iv d.1, iv d.2]] [] (fun out A => out = .ret (iv (ext d)) ∧ A = []) := by
  refine callT_body (n := 9) rfl rfl fun w ρ X => ?_
  refine run_x (I := inf) 99 rfl (by repeat (first | exact obs_nil | refine obs_same ?_ | refine obs_and ?_ | refine obs_by (by (simp [inB] <;> omega)) ?_)) ?_
  refine run_retX (I := inf) 0 rfl (Nat.le_refl _) rfl .nil rfl ⟨?_, rfl⟩
  show Out.ret (iv (IntKind.wrap .i64 (IntKind.wrap .i64 (d.2 - d.1) + 1))) = _
  rw [w64 (x := d.2 - d.1) (by omega) (by omega), w64 (by omega) (by omega)]
  rfl

theorem getD_drop {α : Type} {d : α} {xs : List α} {i : Nat} (h : i < xs.length) : xs.drop i = xs.getD i d :: xs.drop (i + 1) := by
  rw [List.drop_eq_getElem_cons h, List.getD_eq_getElem?_getD, List.getElem?_eq_getElem h, Option.getD_some]
theorem mul_le_200 {n e : Int} (h1 : 1 ≤ n) (h2 : n ≤ 200) (h3 : 1 ≤ e) (h4 : e ≤ 65536) : 1 ≤ n * e ∧ n * e ≤ 13107200 := by
  constructor
  · have := Int.mul_le_mul h1 h3 (by omega) (by omega); omega
  · have := Int.mul_le_mul h2 h4 (by omega) (by omega); omega

theorem a_valid (nl : Option Bool) (ds : List Dim) : CallT Try.prog 91 [dimS nl ds] [] (fun out A => out = .ret (bv (validD ds)) ∧ A = []) := by
  refine callT_body (n := 42) rfl rfl fun w ρ X => ?_
  refine run_x (I := inf) 99 rfl (by repeat (first | exact obs_nil | refine obs_same ?_ | refine obs_and ?_ | refine obs_by (by (simp [inB] <;> omega)) ?_)) ?_
  refine run_cond rfl (fun h => ?_) (fun h => ?_)
  · refine run_x (I := inf) 99 rfl (by repeat (first | exact obs_nil | refine obs_same ?_ | refine obs_and ?_ | refine obs_by (by (simp [inB] <;> omega)) ?_)) ?_
    refine run_retX (I := inf) 0 rfl (Nat.le_refl _) rfl .nil rfl ⟨?_, rfl⟩
    show Out.ret (bv false) = _
    have : validD ds = false := by
      simp at h
      simp [validD]; omega
    rw [this]
  · have hlen : 1 ≤ ds.length ∧ ds.length ≤ 3 := by simp at h; omega
    refine run_x (I := inf) 99 rfl (by repeat (first | exact obs_nil | refine obs_same ?_ | refine obs_and ?_ | refine obs_by (by (simp [inB] <;> omega)) ?_)) ?_
    refine run_while (fun (x : Int × Nat) τ ar => (τ 3 = iv x.1 ∧ τ 14 = dimS nl ds ∧ τ 15 = iv ds.length ∧ τ 16 = iv x.2) ∧ ar = [] ∧ x.2 ≤ ds.length ∧ 1 ≤ x.1 ∧ x.1 ≤ 200 ∧ validL x.1 (ds.drop x.2) = validL 1 ds) (fun x => ds.length - x.2)
      (1, 0) ⟨⟨rfl, rfl, rfl, rfl⟩, rfl, Nat.zero_le _, by omega, by omega, rfl⟩ ?_
    rintro ⟨n, i⟩ τ' ar' ⟨⟨h3, h14, h15, h16⟩, rfl, hi, hn1, hn2, hv⟩ ih
    dsimp only at h3 h16 hi hn1 hn2 hv ih
    refine run_says 3 (by exact h3) (Says.refl _) ?_; refine run_says 14 (by exact h14) (Says.refl _) ?_; refine run_says 15 (by exact h15) (Says.refl _) ?_; refine run_says 16 (by exact h16) (Says.refl _) ?_
    refine run_x (I := inf) 99 rfl (by repeat (first | exact obs_nil | refine obs_same ?_ | refine obs_and ?_ | refine obs_by (by (simp [inB] <;> omega)) ?_)) ?_
    refine run_cond rfl (fun hlt => ?_) (fun hlt => ?_)
    · have hlt' : i < ds.length := by simpa using hlt
      refine run_x (I := inf) 99 rfl (by repeat (first | exact obs_nil | refine obs_same ?_ | refine obs_and ?_ | refine obs_by (by (simp [inB, hlt'] <;> omega)) ?_)) ?_
      have hdr := getD_drop (d := ((0, 0) : Dim)) hlt'
      rw [hdr] at hv
      generalize hd : ds.getD ((i : Nat) : Int).toNat (0, 0) = d
      rw [Int.toNat_natCast] at hd
      rw [hd] at hv
      refine run_cond rfl (fun hc => ?_) (fun hc => ?_)
      · refine run_x (I := inf) 99 rfl (by repeat (first | exact obs_nil | refine obs_same ?_ | refine obs_and ?_ | refine obs_by (by (simp [inB] <;> omega)) ?_)) ?_
        refine run_retX (I := inf) 0 rfl (Nat.le_refl _) rfl .nil rfl ⟨?_, rfl⟩
        show Out.ret (bv false) = _
        have hb : badD d = true := by simp at hc; simp [badD]; omega
        have : validD ds = false := by simp only [validL, hb, if_true] at hv; simp [validD, ← hv]
        rw [this]
      · have hb : badD d = false := by simp at hc; simp [badD]; omega
        have hr : -32768 ≤ d.1 ∧ d.1 ≤ d.2 ∧ d.2 < 32768 := by simp [badD] at hb; omega
        obtain ⟨m1, m2⟩ := mul_le_200 (e := ext d) hn1 hn2 (by unfold ext; omega) (by unfold ext; omega)
        refine run_x (I := inf) 99 rfl (by repeat (first | exact obs_nil | refine obs_same ?_ | refine obs_and ?_ | refine obs_by (by (simp [inB] <;> omega)) ?_)) ?_
        refine run_call rfl rfl rfl rfl rfl rfl rfl rfl (extent d hr.1 hr.2.1 hr.2.2) ?_
        refine run_x (I := inf) 99 rfl (by repeat (first | exact obs_nil | refine obs_same ?_ | refine obs_and ?_ | refine obs_by (by (simp [inB] <;> omega)) ?_)) ?_
        have hw : IntKind.wrap .i64 (n * ext d) = n * ext d := w64 (by omega) (by omega)
        refine run_says 3 rfl (y := iv (n * ext d)) (by rw [hw]; exact Says.refl _) ?_
        refine run_cond rfl (fun hc2 => ?_) (fun hc2 => ?_)
        · refine run_x (I := inf) 99 rfl (by repeat (first | exact obs_nil | refine obs_same ?_ | refine obs_and ?_ | refine obs_by (by (simp [inB] <;> omega)) ?_)) ?_
          refine run_retX (I := inf) 0 rfl (Nat.le_refl _) rfl .nil rfl ⟨?_, rfl⟩
          show Out.ret (bv false) = _
          have h200 : n * ext d > 200 := by rw [hw] at hc2; simpa using hc2
          have : validD ds = false := by simp only [validL, hb, Bool.false_eq_true, if_false, h200, if_true] at hv; simp [validD, ← hv]
          rw [this]
        · refine run_x (I := inf) 99 rfl (by repeat (first | exact obs_nil | refine obs_same ?_ | refine obs_and ?_ | refine obs_by (by (simp [inB] <;> omega)) ?_)) ?_
          refine run_drop 0 (Nat.le_refl _) rfl .nil ?_
          have h200 : ¬ n * ext d > 200 := by rw [hw] at hc2; simp at hc2; omega
          refine ih (n * ext d, i + 1) _ _ (by dsimp only; omega) ⟨⟨rfl, rfl, rfl, ?_⟩, rfl, by dsimp only; omega, m1, by dsimp only; omega, ?_⟩
          · show iv (IntKind.wrap .i64 ((i : Int) + 1)) = _
            rw [w64 (by omega) (by omega)]; rfl
          · simp only [validL, hb, Bool.false_eq_true, if_false, h200] at hv
            exact hv
    · refine run_x (I := inf) 99 rfl (by repeat (first | exact obs_nil | refine obs_same ?_ | refine obs_and ?_ | refine obs_by (by (simp [inB] <;> omega)) ?_)) ?_
      refine run_retX (I := inf) 0 rfl (Nat.le_refl _) rfl .nil rfl ⟨?_, rfl⟩
      show Out.ret (bv true) = _
      have hi' : i = ds.length := by simp at hlt; omega
      subst hi'
      rw [List.drop_length] at hv
      simp [validD, ← hv, validL, hlen]

theorem a_Valid (nl : Option Bool) (ds : List Dim) : CallT Try.prog 36 [dimS nl ds] [] (fun out A => out = .ret (bv (validD ds)) ∧ A = []) := by
  refine callT_body (n := 5) rfl rfl fun w ρ X => ?_
  refine run_x (I := inf) 99 rfl (by repeat (first | exact obs_nil | refine obs_same ?_ | refine obs_and ?_ | refine obs_by (by (simp [inB] <;> omega)) ?_)) ?_
  refine run_call rfl rfl rfl rfl rfl rfl rfl rfl (a_valid nl ds) ?_
  refine run_x (I := inf) 99 rfl (by repeat (first | exact obs_nil | refine obs_same ?_ | refine obs_and ?_ | refine obs_by (by (simp [inB] <;> omega)) ?_)) ?_
  refine run_retX (I := inf) 0 rfl (Nat.le_refl _) rfl .nil rfl ⟨?_, rfl⟩
  rfl

theorem r_Valid (nl : Option Bool) (ds : List Dim) : CallT Try.prog 37 [dimS nl ds] [] (fun out A => out = .ret (bv (validD ds)) ∧ A = []) := by
  refine callT_body (n := 66) rfl rfl fun w ρ X => ?_
  refine run_x (I := inf) 99 rfl (by repeat (first | exact obs_nil | refine obs_same ?_ | refine obs_and ?_ | refine obs_by (by (simp [inB] <;> omega)) ?_)) ?_
  refine run_while (fun (x : Int × Nat) τ ar => (τ 3 = iv x.1 ∧ τ 0 = dimS nl ds ∧ τ 4 = iv x.2) ∧ ar = [] ∧ x.2 ≤ ds.length ∧ x.2 ≤ 4 ∧ 1 ≤ x.1 ∧ x.1 ≤ 200 ∧ validL x.1 (ds.drop x.2) = validL 1 ds) (fun x => ds.length - x.2)
    (1, 0) ⟨⟨rfl, rfl, rfl⟩, rfl, Nat.zero_le _, by omega, by omega, by omega, rfl⟩ ?_
  rintro ⟨n, i⟩ τ' ar' ⟨⟨h3, h0, h4⟩, rfl, hi, hi4, hn1, hn2, hv⟩ ih
  dsimp only at h3 h4 hi hi4 hn1 hn2 hv ih
  refine run_says 3 (by exact h3) (Says.refl _) ?_; refine run_says 0 (by exact h0) (Says.refl _) ?_; refine run_says 4 (by exact h4) (Says.refl _) ?_
  refine run_x (I := inf) 99 rfl (by repeat (first | exact obs_nil | refine obs_same ?_ | refine obs_and ?_ | refine obs_by (by (simp [inB] <;> omega)) ?_)) ?_
  refine run_cond rfl (fun hlt => ?_) (fun hlt => ?_)
  · have hlt' : i < ds.length ∧ i < 4 := by simp at hlt; omega
    refine run_x (I := inf) 99 rfl (by repeat (first | exact obs_nil | refine obs_same ?_ | refine obs_and ?_ | refine obs_by (by (simp [inB] <;> omega)) ?_)) ?_
    refine run_draw 27 (by kernel_rfl) (by kernel_rfl) (lex_x (I := inf) 99 rfl rfl (by repeat (first | exact obs_nil | refine obs_same ?_ | refine obs_and ?_ | refine obs_by (by (simp [inB, hlt'.1] <;> omega)) ?_)) lex_nil) ?_
    have hdr := getD_drop (d := ((0, 0) : Dim)) hlt'.1
    rw [hdr] at hv
    refine run_x (I := inf) 99 rfl (by repeat (first | exact obs_nil | refine obs_same ?_ | refine obs_and ?_ | refine obs_by (by (simp [inB] <;> omega)) ?_)) ?_
    generalize hd0 : ds.getD ((i : Nat) : Int).toNat (0, 0) = d
    have hd := hd0
    rw [Int.toNat_natCast] at hd
    rw [hd] at hv
    refine run_cond rfl (fun hc => ?_) (fun hc => ?_)
    · refine run_x (I := inf) 99 rfl (by repeat (first | exact obs_nil | refine obs_same ?_ | refine obs_and ?_ | refine obs_by (by (simp [inB] <;> omega)) ?_)) ?_
      refine run_retX (I := inf) 0 rfl (Nat.le_refl _) rfl .nil rfl ⟨?_, rfl⟩
      show Out.ret (bv false) = _
      have hb : badD d = true := by simp at hc; simp [badD]; omega
      have : validD ds = false := by simp only [validL, hb, if_true] at hv; simp [validD, ← hv]
      rw [this]
    · have hb : badD d = false := by simp at hc; simp [badD]; omega
      have hr : -32768 ≤ d.1 ∧ d.1 ≤ d.2 ∧ d.2 < 32768 := by simp [badD] at hb; omega
      obtain ⟨m1, m2⟩ := mul_le_200 (e := ext d) hn1 hn2 (by unfold ext; omega) (by unfold ext; omega)
      refine run_x (I := inf) 99 rfl (by repeat (first | exact obs_nil | refine obs_same ?_ | refine obs_and ?_ | refine obs_by (by (simp [inB] <;> omega)) ?_)) ?_
      refine run_draw 15 (by kernel_rfl) (by kernel_rfl) (lex_x (I := inf) 99 rfl rfl (by repeat (first | exact obs_nil | refine obs_same ?_ | refine obs_and ?_ | refine obs_by (by (simp [inB, hlt'.1] <;> omega)) ?_)) lex_nil) ?_
      refine run_x (I := inf) 99 rfl (by repeat (first | exact obs_nil | refine obs_same ?_ | refine obs_and ?_ | refine obs_by (by (simp [inB] <;> omega)) ?_)) ?_
      rw [hd0]
      have hw : IntKind.wrap .i64 (n * IntKind.wrap .i64 (IntKind.wrap .i64 (d.2 - d.1) + 1)) = n * ext d := by
        rw [w64 (x := d.2 - d.1) (by omega) (by omega), w64 (x := d.2 - d.1 + 1) (by omega) (by omega)]
        exact w64 (by unfold ext at m1 m2; omega) (by unfold ext at m1 m2; omega)
      refine run_says 3 rfl (y := iv (n * ext d)) (by rw [← hw]; exact Says.refl _) ?_
      refine run_cond rfl (fun hc2 => ?_) (fun hc2 => ?_)
      · refine run_x (I := inf) 99 rfl (by repeat (first | exact obs_nil | refine obs_same ?_ | refine obs_and ?_ | refine obs_by (by (simp [inB] <;> omega)) ?_)) ?_
        refine run_retX (I := inf) 0 rfl (Nat.le_refl _) rfl .nil rfl ⟨?_, rfl⟩
        show Out.ret (bv false) = _
        have h200 : n * ext d > 200 := by rw [hw] at hc2; simpa using hc2
        have : validD ds = false := by simp only [validL, hb, Bool.false_eq_true, if_false, h200, if_true] at hv; simp [validD, ← hv]
        rw [this]
      · refine run_x (I := inf) 99 rfl (by repeat (first | exact obs_nil | refine obs_same ?_ | refine obs_and ?_ | refine obs_by (by (simp [inB] <;> omega)) ?_)) ?_
        refine run_drop 0 (Nat.le_refl _) rfl .nil ?_
        have h200 : ¬ n * ext d > 200 := by rw [hw] at hc2; simp at hc2; omega
        refine ih (n * ext d, i + 1) _ _ (by dsimp only; omega) ⟨⟨rfl, rfl, ?_⟩, rfl, by dsimp only; omega, by dsimp only; omega, m1, by dsimp only; omega, ?_⟩
        · show iv (IntKind.wrap .i64 ((i : Int) + 1)) = _
          rw [w64 (by omega) (by omega)]; rfl
        · simp only [validL, hb, Bool.false_eq_true, if_false, h200] at hv
          exact hv
  · refine run_x (I := inf) 99 rfl (by repeat (first | exact obs_nil | refine obs_same ?_ | refine obs_and ?_ | refine obs_by (by (simp [inB] <;> omega)) ?_)) ?_
    refine run_retX (I := inf) 0 rfl (Nat.le_refl _) rfl .nil rfl ⟨?_, rfl⟩
    have hx : i = ds.length ∨ i = 4 := by simp at hlt; omega
    have : validD ds = (if decide (1 ≤ (ds.length : Int)) then decide ((ds.length : Int) ≤ 3) else false) := by
      rcases hx with hx | hx
      · subst hx
        rw [List.drop_length] at hv
        simp [validD, ← hv, validL]
        by_cases h1 : 1 ≤ ds.length <;> by_cases h3 : ds.length ≤ 3 <;> simp [h1, h3] <;> omega
      · have h3 : ¬ ds.length ≤ 3 := by omega
        simp [validD, h3]; omega
    rw [this]
    rfl

/-- All partial products are small. -/
def fitL : Int → List Dim → Prop
  | _, [] => True
  | n, d :: l => (-32768 ≤ d.1 ∧ d.1 ≤ d.2 ∧ d.2 < 32768) ∧ n * ext d ≤ 200 ∧ fitL (n * ext d) l
theorem fit_of : ∀ {n : Int} {ds : List Dim}, validL n ds = true → fitL n ds
  | _, [], _ => trivial
  | n, d :: l, h => by
    unfold validL at h
    split at h
    · cases h
    · rename_i hb
      split at h
      · cases h
      · rename_i h2
        have hb' : badD d = false := by simpa using hb
        exact ⟨by simp [badD] at hb'; omega, by omega, fit_of h⟩
theorem fit_valid {ds : List Dim} (h : validD ds = true) : fitL 1 ds ∧ 1 ≤ ds.length ∧ ds.length ≤ 3 := by
  simp only [validD, Bool.and_eq_true, decide_eq_true_eq] at h
  exact ⟨fit_of h.2, h.1.1, h.1.2⟩

theorem a_count (nl : Option Bool) (ds : List Dim) (hlen : ds.length < 9223372036854775807) (hf : fitL 1 ds) : CallT Try.prog 90 [dimS nl ds] [] (fun out A => out = .ret (iv (items ds)) ∧ A = []) := by
  refine callT_body (n := 18) rfl rfl fun w ρ X => ?_
  refine run_x (I := inf) 99 rfl (by repeat (first | exact obs_nil | refine obs_same ?_ | refine obs_and ?_ | refine obs_by (by (simp [inB] <;> omega)) ?_)) ?_
  refine run_while (fun (x : Int × Nat) τ ar => (τ 3 = iv x.1 ∧ τ 6 = dimS nl ds ∧ τ 7 = iv ds.length ∧ τ 8 = iv x.2) ∧ ar = [] ∧ x.2 ≤ ds.length ∧ 1 ≤ x.1 ∧ x.1 ≤ 200 ∧ fitL x.1 (ds.drop x.2) ∧ prodL x.1 (ds.drop x.2) = items ds) (fun x => ds.length - x.2)
    (1, 0) ⟨⟨rfl, rfl, rfl, rfl⟩, rfl, Nat.zero_le _, by omega, by omega, hf, rfl⟩ ?_
  rintro ⟨n, i⟩ τ' ar' ⟨⟨h3, h0, h7, h4⟩, rfl, hi, hn1, hn2, hv, hpr⟩ ih
  dsimp only at h3 h4 hi hn1 hn2 hv hpr ih
  refine run_says 3 (by exact h3) (Says.refl _) ?_; refine run_says 6 (by exact h0) (Says.refl _) ?_; refine run_says 7 (by exact h7) (Says.refl _) ?_; refine run_says 8 (by exact h4) (Says.refl _) ?_
  refine run_x (I := inf) 99 rfl (by repeat (first | exact obs_nil | refine obs_same ?_ | refine obs_and ?_ | refine obs_by (by (simp [inB] <;> omega)) ?_)) ?_
  refine run_cond rfl (fun hlt => ?_) (fun hlt => ?_)
  · have hlt' : i < ds.length := by simpa using hlt
    have hdr := getD_drop (d := ((0, 0) : Dim)) hlt'
    rw [hdr] at hv hpr
    refine run_x (I := inf) 99 rfl (by repeat (first | exact obs_nil | refine obs_same ?_ | refine obs_and ?_ | refine obs_by (by (simp [inB, hlt'] <;> omega)) ?_)) ?_
    generalize hd0 : ds.getD ((i : Nat) : Int).toNat (0, 0) = d
    have hd := hd0
    rw [Int.toNat_natCast] at hd
    rw [hd] at hv hpr
    obtain ⟨hr, hp2, hv'⟩ := hv
    obtain ⟨m1, m2⟩ := mul_le_200 (e := ext d) hn1 hn2 (by unfold ext; omega) (by unfold ext; omega)
    refine run_call rfl rfl rfl rfl rfl rfl rfl rfl (extent d hr.1 hr.2.1 hr.2.2) ?_
    refine run_x (I := inf) 99 rfl (by repeat (first | exact obs_nil | refine obs_same ?_ | refine obs_and ?_ | refine obs_by (by (simp [inB] <;> omega)) ?_)) ?_
    refine run_drop 0 (Nat.le_refl _) rfl .nil ?_
    refine ih (n * ext d, i + 1) _ _ (by dsimp only; omega) ⟨⟨?_, rfl, rfl, ?_⟩, rfl, by dsimp only; omega, m1, hp2, hv', hpr⟩
    · show iv (IntKind.wrap .i64 (n * ext d)) = _
      rw [w64 (by omega) (by omega)]
    · show iv (IntKind.wrap .i64 ((i : Int) + 1)) = _
      rw [w64 (by omega) (by omega)]; rfl
  · refine run_x (I := inf) 99 rfl (by repeat (first | exact obs_nil | refine obs_same ?_ | refine obs_and ?_ | refine obs_by (by (simp [inB] <;> omega)) ?_)) ?_
    refine run_retX (I := inf) 0 rfl (Nat.le_refl _) rfl .nil rfl ⟨?_, rfl⟩
    have hi' : i = ds.length := by simp at hlt; omega
    subst hi'
    rw [List.drop_length] at hpr
    show Out.ret (iv n) = _
    rw [← hpr]; rfl

theorem r_items (nl : Option Bool) (ds : List Dim) (hlen : ds.length < 9223372036854775807) (hf : fitL 1 ds) : CallT Try.prog 54 [dimS nl ds] [] (fun out A => out = .ret (iv (items ds)) ∧ A = []) := by
  refine callT_body (n := 26) rfl rfl fun w ρ X => ?_
  refine run_x (I := inf) 99 rfl (by repeat (first | exact obs_nil | refine obs_same ?_ | refine obs_and ?_ | refine obs_by (by (simp [inB] <;> omega)) ?_)) ?_
  refine run_while (fun (x : Int × Nat) τ ar => (τ 3 = iv x.1 ∧ τ 0 = dimS nl ds ∧ τ 4 = iv x.2) ∧ ar = [] ∧ x.2 ≤ ds.length ∧ 1 ≤ x.1 ∧ x.1 ≤ 200 ∧ fitL x.1 (ds.drop x.2) ∧ prodL x.1 (ds.drop x.2) = items ds) (fun x => ds.length - x.2)
    (1, 0) ⟨⟨rfl, rfl, rfl⟩, rfl, Nat.zero_le _, by omega, by omega, hf, rfl⟩ ?_
  rintro ⟨n, i⟩ τ' ar' ⟨⟨h3, h0, h4⟩, rfl, hi, hn1, hn2, hv, hpr⟩ ih
  dsimp only at h3 h4 hi hn1 hn2 hv hpr ih
  refine run_says 3 (by exact h3) (Says.refl _) ?_; refine run_says 0 (by exact h0) (Says.refl _) ?_; refine run_says 4 (by exact h4) (Says.refl _) ?_
  refine run_x (I := inf) 99 rfl (by repeat (first | exact obs_nil | refine obs_same ?_ | refine obs_and ?_ | refine obs_by (by (simp [inB] <;> omega)) ?_)) ?_
  refine run_cond rfl (fun hlt => ?_) (fun hlt => ?_)
  · have hlt' : i < ds.length := by simpa using hlt
    have hdr := getD_drop (d := ((0, 0) : Dim)) hlt'
    rw [hdr] at hv hpr
    refine run_x (I := inf) 99 rfl (by repeat (first | exact obs_nil | refine obs_same ?_ | refine obs_and ?_ | refine obs_by (by (simp [inB] <;> omega)) ?_)) ?_
    refine run_draw 15 (by kernel_rfl) (by kernel_rfl) (lex_x (I := inf) 99 rfl rfl (by repeat (first | exact obs_nil | refine obs_same ?_ | refine obs_and ?_ | refine obs_by (by (simp [inB, hlt'] <;> omega)) ?_)) lex_nil) ?_
    refine run_x (I := inf) 99 rfl (by repeat (first | exact obs_nil | refine obs_same ?_ | refine obs_and ?_ | refine obs_by (by (simp [inB] <;> omega)) ?_)) ?_
    generalize hd0 : ds.getD ((i : Nat) : Int).toNat (0, 0) = d
    have hd := hd0
    rw [Int.toNat_natCast] at hd
    rw [hd] at hv hpr
    obtain ⟨hr, hp2, hv'⟩ := hv
    obtain ⟨m1, m2⟩ := mul_le_200 (e := ext d) hn1 hn2 (by unfold ext; omega) (by unfold ext; omega)
    have hw : IntKind.wrap .i64 (n * IntKind.wrap .i64 (IntKind.wrap .i64 (d.2 - d.1) + 1)) = n * ext d := by
      rw [w64 (x := d.2 - d.1) (by omega) (by omega), w64 (x := d.2 - d.1 + 1) (by omega) (by omega)]
      exact w64 (by unfold ext at m1 m2; omega) (by unfold ext at m1 m2; omega)
    refine ih (n * ext d, i + 1) _ _ (by dsimp only; omega) ⟨⟨?_, rfl, ?_⟩, rfl, by dsimp only; omega, m1, hp2, hv', hpr⟩
    · show iv (IntKind.wrap .i64 (n * IntKind.wrap .i64 (IntKind.wrap .i64 (d.2 - d.1) + 1))) = _
      rw [hw]
    · show iv (IntKind.wrap .i64 ((i : Int) + 1)) = _
      rw [w64 (by omega) (by omega)]; rfl
  · refine run_x (I := inf) 99 rfl (by repeat (first | exact obs_nil | refine obs_same ?_ | refine obs_and ?_ | refine obs_by (by (simp [inB] <;> omega)) ?_)) ?_
    refine run_retX (I := inf) 0 rfl (Nat.le_refl _) rfl .nil rfl ⟨?_, rfl⟩
    have hi' : i = ds.length := by simp at hlt; omega
    subst hi'
    rw [List.drop_length] at hpr
    show Out.ret (iv n) = _
    rw [← hpr]; rfl

/-- Count's answer. -/
def countF (ds : List Dim) : Int × Int := if validD ds then (items ds, 0) else (0, 1)
theorem a_Count (nl : Option Bool) (ds : List Dim) : CallT Try.prog 34 [dimS nl ds] [] (fun out A => out = .ret (.tup [iv (countF ds).1, iv (countF ds).2]) ∧ A = []) := by
  refine callT_body (n := 9) rfl rfl fun w ρ X => ?_
  refine run_x (I := inf) 99 rfl (by repeat (first | exact obs_nil | refine obs_same ?_ | refine obs_and ?_ | refine obs_by (by (simp [inB] <;> omega)) ?_)) ?_
  refine run_call rfl rfl rfl rfl rfl rfl rfl rfl (a_Valid nl ds) ?_
  refine run_x (I := inf) 99 rfl (by repeat (first | exact obs_nil | refine obs_same ?_ | refine obs_and ?_ | refine obs_by (by (simp [inB] <;> omega)) ?_)) ?_
  refine run_cond rfl (fun h => ?_) (fun h => ?_)
  · refine run_x (I := inf) 99 rfl (by repeat (first | exact obs_nil | refine obs_same ?_ | refine obs_and ?_ | refine obs_by (by (simp [inB] <;> omega)) ?_)) ?_
    refine run_retX (I := inf) 0 rfl (Nat.le_refl _) rfl .nil rfl ⟨?_, rfl⟩
    have h' : validD ds = false := by simpa using h
    simp only [countF, h']; rfl
  · have h' : validD ds = true := by simpa using h
    have hf := fit_valid h'
    refine run_x (I := inf) 99 rfl (by repeat (first | exact obs_nil | refine obs_same ?_ | refine obs_and ?_ | refine obs_by (by (simp [inB] <;> omega)) ?_)) ?_
    refine run_call rfl rfl rfl rfl rfl rfl rfl rfl (a_count nl ds (by omega) hf.1) ?_
    refine run_x (I := inf) 99 rfl (by repeat (first | exact obs_nil | refine obs_same ?_ | refine obs_and ?_ | refine obs_by (by (simp [inB] <;> omega)) ?_)) ?_
    refine run_retX (I := inf) 0 rfl (Nat.le_refl _) rfl .nil rfl ⟨?_, rfl⟩
    simp only [countF, h']; rfl
theorem r_Count (nl : Option Bool) (ds : List Dim) : CallT Try.prog 35 [dimS nl ds] [] (fun out A => out = .ret (.tup [iv (countF ds).1, iv (countF ds).2]) ∧ A = []) := by
  refine callT_body (n := 9) rfl rfl fun w ρ X => ?_
  refine run_x (I := inf) 99 rfl (by repeat (first | exact obs_nil | refine obs_same ?_ | refine obs_and ?_ | refine obs_by (by (simp [inB] <;> omega)) ?_)) ?_
  refine run_call rfl rfl rfl rfl rfl rfl rfl rfl (r_Valid nl ds) ?_
  refine run_x (I := inf) 99 rfl (by repeat (first | exact obs_nil | refine obs_same ?_ | refine obs_and ?_ | refine obs_by (by (simp [inB] <;> omega)) ?_)) ?_
  refine run_cond rfl (fun h => ?_) (fun h => ?_)
  · refine run_x (I := inf) 99 rfl (by repeat (first | exact obs_nil | refine obs_same ?_ | refine obs_and ?_ | refine obs_by (by (simp [inB] <;> omega)) ?_)) ?_
    refine run_retX (I := inf) 0 rfl (Nat.le_refl _) rfl .nil rfl ⟨?_, rfl⟩
    have h' : validD ds = false := by simpa using h
    simp only [countF, h']; rfl
  · have h' : validD ds = true := by simpa using h
    have hf := fit_valid h'
    refine run_x (I := inf) 99 rfl (by repeat (first | exact obs_nil | refine obs_same ?_ | refine obs_and ?_ | refine obs_by (by (simp [inB] <;> omega)) ?_)) ?_
    refine run_call rfl rfl rfl rfl rfl rfl rfl rfl (r_items nl ds (by omega) hf.1) ?_
    refine run_x (I := inf) 99 rfl (by repeat (first | exact obs_nil | refine obs_same ?_ | refine obs_and ?_ | refine obs_by (by (simp [inB] <;> omega)) ?_)) ?_
    refine run_retX (I := inf) 0 rfl (Nat.le_refl _) rfl .nil rfl ⟨?_, rfl⟩
    simp only [countF, h']; rfl
end Go.Iron.Try
