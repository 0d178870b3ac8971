/- The array package's functions (seat Ytamhonbhoelohaa): offsets. -/
import Derived.Test.YtamhonbhoelohaaArrC
namespace Go.Iron.Try
open Go.Proofs

/-- The first subscript that is out, from i + 1 on; 0: none. -/
def outL : Int → List Dim → List Int → Int
  | i, d :: l, s :: t => if decide (s < d.1) || decide (s > d.2) then i + 1 else outL (i + 1) l t
  | _, _, _ => 0
def placeL : Int → List Dim → List Int → Int
  | n, d :: l, s :: t => placeL (n * ext d + s - d.1) l t
  | n, _, _ => n
def out (ds : List Dim) (ss : List Int) : Int := outL 0 ds ss
def place (ds : List Dim) (ss : List Int) : Int := placeL 0 ds ss

theorem step_lt {n p e s : Int} (h0 : 0 ≤ n) (h1 : n < p) (hs : 0 ≤ s) (he : s < e) : 0 ≤ n * e + s ∧ n * e + s < p * e := by
  have h2 : 0 ≤ n * e := Int.mul_nonneg h0 (by omega)
  have h3 : (n + 1) * e ≤ p * e := Int.mul_le_mul_of_nonneg_right (by omega) (by omega)
  rw [Int.add_mul] at h3
  omega

theorem a_offset (n1 n2 : Option Bool) (ds : List Dim) (ss : List Int) (hl : ss.length = ds.length) (hlen : ds.length < 1000) (hf : fitL 1 ds) :
    CallT Try.prog 97 [dimS n1 ds, intS n2 ss] [] (fun o A => o = .ret (.tup [iv (if out ds ss = 0 then place ds ss else 0), iv (out ds ss)]) ∧ A = []) := by
  refine callT_body (n := 47) rfl rfl fun w ρ X => ?_
  refine run_x (I := inf) 99 rfl (by repeat (first | exact obs_nil | refine obs_same ?_ | refine obs_and ?_ | refine obs_by (by (simp [inB] <;> omega)) ?_)) ?_
  refine run_while (fun (x : Int × Int × Nat) τ ar => (τ 1 = intS n2 ss ∧ τ 4 = iv x.1 ∧ τ 8 = dimS n1 ds ∧ τ 9 = iv ds.length ∧ τ 10 = iv x.2.2) ∧ ar = [] ∧ x.2.2 ≤ ds.length ∧ 1 ≤ x.2.1 ∧ x.2.1 ≤ 200 ∧ 0 ≤ x.1 ∧ x.1 < x.2.1 ∧ fitL x.2.1 (ds.drop x.2.2) ∧
      outL x.2.2 (ds.drop x.2.2) (ss.drop x.2.2) = out ds ss ∧ placeL x.1 (ds.drop x.2.2) (ss.drop x.2.2) = place ds ss) (fun x => ds.length - x.2.2)
    (0, 1, 0) ⟨⟨rfl, rfl, rfl, rfl, rfl⟩, rfl, Nat.zero_le _, (by dsimp only; omega), (by dsimp only; omega), (by dsimp only; omega), (by dsimp only; omega), hf, rfl, rfl⟩ ?_
  rintro ⟨n, p, i⟩ τ' ar' ⟨⟨h1, h4, h8, h9, h10⟩, rfl, hi, hp1, hp2, hn1, hn2, hv, ho, hpl⟩ ih
  dsimp only at h4 h10 hi hp1 hp2 hn1 hn2 hv ho hpl ih
  refine run_says 1 (by exact h1) (Says.refl _) ?_; refine run_says 4 (by exact h4) (Says.refl _) ?_; refine run_says 8 (by exact h8) (Says.refl _) ?_; refine run_says 9 (by exact h9) (Says.refl _) ?_; refine run_says 10 (by exact h10) (Says.refl _) ?_
  refine run_x (I := inf) 99 rfl (by repeat (first | exact obs_nil | refine obs_same ?_ | refine obs_and ?_ | refine obs_by (by (simp [inB] <;> omega)) ?_)) ?_
  refine run_cond rfl (fun hlt => ?_) (fun hlt => ?_)
  · have hlt' : i < ds.length := by simpa using hlt
    have hlt2 : i < ss.length := by omega
    rw [getD_drop (d := ((0, 0) : Dim)) hlt'] at hv ho hpl
    rw [getD_drop (d := (0 : Int)) hlt2] at ho hpl
    refine run_x (I := inf) 99 rfl (by repeat (first | exact obs_nil | refine obs_same ?_ | refine obs_and ?_ | refine obs_by (by (simp [inB, hlt'] <;> omega)) ?_)) ?_
    refine run_draw 16 (by kernel_rfl) (by kernel_rfl) (lex_x (I := inf) 99 rfl rfl (by repeat (first | exact obs_nil | refine obs_same ?_ | refine obs_and ?_ | refine obs_by (by (simp [inB, hlt'] <;> omega)) ?_)) lex_nil) ?_
    refine run_x (I := inf) 99 rfl (by repeat (first | exact obs_nil | refine obs_same ?_ | refine obs_and ?_ | refine obs_by (by (simp [inB] <;> omega)) ?_)) ?_
    generalize hd0 : ds.getD ((i : Nat) : Int).toNat (0, 0) = d
    have hd := hd0
    rw [Int.toNat_natCast] at hd
    generalize hs0 : ss.getD ((i : Nat) : Int).toNat 0 = s
    have hs := hs0
    rw [Int.toNat_natCast] at hs
    rw [hd] at hv ho hpl
    rw [hs] at ho hpl
    obtain ⟨hr, hp3, hv'⟩ := hv
    refine run_cond rfl (fun hc => ?_) (fun hc => ?_)
    · refine run_x (I := inf) 99 rfl (by repeat (first | exact obs_nil | refine obs_same ?_ | refine obs_and ?_ | refine obs_by (by (simp [inB] <;> omega)) ?_)) ?_
      refine run_retX (I := inf) 0 rfl (Nat.le_refl _) rfl .nil rfl ⟨?_, rfl⟩
      have hc' : (decide (s < d.1) || decide (s > d.2)) = true := by simp at hc ⊢; omega
      simp only [outL, hc', if_true] at ho
      have hne : ¬ out ds ss = 0 := by omega
      simp only [hne, if_false]
      show Out.ret (.tup [iv 0, iv (IntKind.wrap .i64 ((i : Int) + 1))]) = _
      rw [w64 (by omega) (by omega), ho]
    · have hc' : (decide (s < d.1) || decide (s > d.2)) = false := by simp at hc ⊢; omega
      have hs2 : d.1 ≤ s ∧ s ≤ d.2 := by simp at hc'; omega
      simp only [outL, hc', Bool.false_eq_true, if_false] at ho
      simp only [placeL] at hpl
      obtain ⟨m1, m2⟩ := mul_le_200 (e := ext d) hp1 hp2 (by unfold ext; omega) (by unfold ext; omega)
      obtain ⟨q1, q2⟩ := step_lt (e := ext d) (s := s - d.1) hn1 hn2 (by omega) (by unfold ext; omega)
      obtain ⟨q3, q4⟩ := step_lt (e := ext d) (s := 0) hn1 hn2 (by omega) (by unfold ext; omega)
      refine run_x (I := inf) 99 rfl (by repeat (first | exact obs_nil | refine obs_same ?_ | refine obs_and ?_ | refine obs_by (by (simp [inB] <;> omega)) ?_)) ?_
      refine run_draw 13 (by kernel_rfl) (by kernel_rfl) (lex_x (I := inf) 99 rfl rfl (by repeat (first | exact obs_nil | refine obs_same ?_ | refine obs_and ?_ | refine obs_by (by (simp [inB, hlt'] <;> omega)) ?_)) (lex_call rfl rfl rfl rfl rfl rfl rfl rfl (extent d hr.1 hr.2.1 hr.2.2) (lex_x (I := inf) 99 rfl rfl (by repeat (first | exact obs_nil | refine obs_same ?_ | refine obs_and ?_ | refine obs_by (by (simp [inB, hlt'] <;> omega)) ?_)) lex_nil))) ?_
      rw [hs0]
      refine run_x (I := inf) 99 rfl (by repeat (first | exact obs_nil | refine obs_same ?_ | refine obs_and ?_ | refine obs_by (by (simp [inB] <;> omega)) ?_)) ?_
      refine run_drop 0 (Nat.le_refl _) rfl .nil ?_
      have hw : IntKind.wrap .i64 (IntKind.wrap .i64 (IntKind.wrap .i64 (n * ext d) + s) - d.1) = n * ext d + s - d.1 := by
        rw [w64 (x := n * ext d) (by omega) (by omega), w64 (x := n * ext d + s) (by omega) (by omega), w64 (by omega) (by omega)]
      refine ih (n * ext d + s - d.1, p * ext d, i + 1) _ _ (by dsimp only; omega) ⟨⟨rfl, ?_, rfl, rfl, ?_⟩, rfl, by dsimp only; omega, m1, hp3, by dsimp only; omega, by dsimp only; omega, hv', ho, hpl⟩
      · show iv (IntKind.wrap .i64 (IntKind.wrap .i64 (IntKind.wrap .i64 (n * ext d) + s) - d.1)) = _
        rw [hw]
      · show iv (IntKind.wrap .i64 ((i : Int) + 1)) = _
        rw [w64 (by omega) (by omega)]; rfl
  · refine run_x (I := inf) 99 rfl (by repeat (first | exact obs_nil | refine obs_same ?_ | refine obs_and ?_ | refine obs_by (by (simp [inB] <;> omega)) ?_)) ?_
    refine run_retX (I := inf) 0 rfl (Nat.le_refl _) rfl .nil rfl ⟨?_, rfl⟩
    have hi' : i = ds.length := by simp at hlt; omega
    subst hi'
    rw [List.drop_length] at ho hpl
    have h0 : out ds ss = 0 := by rw [← ho]; simp [outL]
    have hpl' : place ds ss = n := by rw [← hpl]; simp [placeL]
    simp only [h0, hpl', if_true]
    rfl

theorem r_out (n1 n2 : Option Bool) (ds : List Dim) (ss : List Int) (hl : ss.length = ds.length) (hlen : ds.length < 1000) :
    CallT Try.prog 98 [dimS n1 ds, intS n2 ss] [] (fun o A => o = .ret (iv (out ds ss)) ∧ A = []) := by
  refine callT_body (n := 36) rfl rfl fun w ρ X => ?_
  refine run_x (I := inf) 99 rfl (by repeat (first | exact obs_nil | refine obs_same ?_ | refine obs_and ?_ | refine obs_by (by (simp [inB] <;> omega)) ?_)) ?_
  refine run_while (fun (i : Nat) τ ar => (τ 0 = dimS n1 ds ∧ τ 1 = intS n2 ss ∧ τ 5 = iv i) ∧ ar = [] ∧ i ≤ ds.length ∧ outL i (ds.drop i) (ss.drop i) = out ds ss) (fun i => ds.length - i)
    0 ⟨⟨rfl, rfl, rfl⟩, rfl, Nat.zero_le _, rfl⟩ ?_
  rintro i τ' ar' ⟨⟨h0, h1, h5⟩, rfl, hi, ho⟩ ih
  refine run_says 0 (by exact h0) (Says.refl _) ?_; refine run_says 1 (by exact h1) (Says.refl _) ?_; refine run_says 5 (by exact h5) (Says.refl _) ?_
  refine run_x (I := inf) 99 rfl (by repeat (first | exact obs_nil | refine obs_same ?_ | refine obs_and ?_ | refine obs_by (by (simp [inB] <;> omega)) ?_)) ?_
  refine run_cond rfl (fun hlt => ?_) (fun hlt => ?_)
  · have hlt' : i < ds.length := by simpa using hlt
    have hlt2 : i < ss.length := by omega
    rw [getD_drop (d := ((0, 0) : Dim)) hlt', getD_drop (d := (0 : Int)) hlt2] at ho
    refine run_x (I := inf) 99 rfl (by repeat (first | exact obs_nil | refine obs_same ?_ | refine obs_and ?_ | refine obs_by (by (simp [inB] <;> omega)) ?_)) ?_
    refine run_draw 22 (by kernel_rfl) (by kernel_rfl) (lex_x (I := inf) 99 rfl rfl (by repeat (first | exact obs_nil | refine obs_same ?_ | refine obs_and ?_ | refine obs_by (by (simp [inB, hlt'] <;> omega)) ?_)) lex_nil) ?_
    refine run_x (I := inf) 99 rfl (by repeat (first | exact obs_nil | refine obs_same ?_ | refine obs_and ?_ | refine obs_by (by (simp [inB] <;> omega)) ?_)) ?_
    generalize hd0 : ds.getD ((i : Nat) : Int).toNat (0, 0) = d
    have hd := hd0
    rw [Int.toNat_natCast] at hd
    generalize hs0 : ss.getD ((i : Nat) : Int).toNat 0 = s
    have hs := hs0
    rw [Int.toNat_natCast] at hs
    rw [hd, hs] at ho
    refine run_cond rfl (fun hc => ?_) (fun hc => ?_)
    · refine run_x (I := inf) 99 rfl (by repeat (first | exact obs_nil | refine obs_same ?_ | refine obs_and ?_ | refine obs_by (by (simp [inB] <;> omega)) ?_)) ?_
      refine run_retX (I := inf) 0 rfl (Nat.le_refl _) rfl .nil rfl ⟨?_, rfl⟩
      have hc' : (decide (s < d.1) || decide (s > d.2)) = true := by simp at hc ⊢; omega
      simp only [outL, hc', if_true] at ho
      show Out.ret (iv (IntKind.wrap .i64 ((i : Int) + 1))) = _
      rw [w64 (by omega) (by omega), ho]
    · have hc' : (decide (s < d.1) || decide (s > d.2)) = false := by simp at hc ⊢; omega
      simp only [outL, hc', Bool.false_eq_true, if_false] at ho
      refine run_x (I := inf) 99 rfl (by repeat (first | exact obs_nil | refine obs_same ?_ | refine obs_and ?_ | refine obs_by (by (simp [inB] <;> omega)) ?_)) ?_
      refine ih (i + 1) _ _ (by omega) ⟨⟨rfl, rfl, ?_⟩, rfl, by omega, ho⟩
      show iv (IntKind.wrap .i64 ((i : Int) + 1)) = _
      rw [w64 (by omega) (by omega)]; rfl
  · refine run_x (I := inf) 99 rfl (by repeat (first | exact obs_nil | refine obs_same ?_ | refine obs_and ?_ | refine obs_by (by (simp [inB] <;> omega)) ?_)) ?_
    refine run_retX (I := inf) 0 rfl (Nat.le_refl _) rfl .nil rfl ⟨?_, rfl⟩
    have hi' : i = ds.length := by simp at hlt; omega
    subst hi'
    rw [List.drop_length] at ho
    have h0 : out ds ss = 0 := by rw [← ho]; simp [outL]
    rw [h0]
    rfl

theorem r_place (n1 n2 : Option Bool) (ds : List Dim) (ss : List Int) (hl : ss.length = ds.length) (hlen : ds.length < 1000) (hf : fitL 1 ds) (ho : out ds ss = 0) :
    CallT Try.prog 99 [dimS n1 ds, intS n2 ss] [] (fun o A => o = .ret (iv (place ds ss)) ∧ A = []) := by
  refine callT_body (n := 39) rfl rfl fun w ρ X => ?_
  refine run_x (I := inf) 99 rfl (by repeat (first | exact obs_nil | refine obs_same ?_ | refine obs_and ?_ | refine obs_by (by (simp [inB] <;> omega)) ?_)) ?_
  refine run_while (fun (x : Int × Int × Nat) τ ar => (τ 0 = dimS n1 ds ∧ τ 1 = intS n2 ss ∧ τ 5 = iv x.1 ∧ τ 6 = iv x.2.2) ∧ ar = [] ∧ x.2.2 ≤ ds.length ∧ 1 ≤ x.2.1 ∧ x.2.1 ≤ 200 ∧ 0 ≤ x.1 ∧ x.1 < x.2.1 ∧ fitL x.2.1 (ds.drop x.2.2) ∧
      outL x.2.2 (ds.drop x.2.2) (ss.drop x.2.2) = 0 ∧ placeL x.1 (ds.drop x.2.2) (ss.drop x.2.2) = place ds ss) (fun x => ds.length - x.2.2)
    (0, 1, 0) ⟨⟨rfl, rfl, rfl, rfl⟩, rfl, Nat.zero_le _, (by dsimp only; omega), (by dsimp only; omega), (by dsimp only; omega), (by dsimp only; omega), hf, ho, rfl⟩ ?_
  rintro ⟨n, p, i⟩ τ' ar' ⟨⟨h0, h1, h5, h6⟩, rfl, hi, hp1, hp2, hn1, hn2, hv, ho, hpl⟩ ih
  dsimp only at h5 h6 hi hp1 hp2 hn1 hn2 hv ho hpl ih
  refine run_says 0 (by exact h0) (Says.refl _) ?_; refine run_says 1 (by exact h1) (Says.refl _) ?_; refine run_says 5 (by exact h5) (Says.refl _) ?_; refine run_says 6 (by exact h6) (Says.refl _) ?_
  refine run_x (I := inf) 99 rfl (by repeat (first | exact obs_nil | refine obs_same ?_ | refine obs_and ?_ | refine obs_by (by (simp [inB] <;> omega)) ?_)) ?_
  refine run_cond rfl (fun hlt => ?_) (fun hlt => ?_)
  · have hlt' : i < ds.length := by simpa using hlt
    have hlt2 : i < ss.length := by omega
    rw [getD_drop (d := ((0, 0) : Dim)) hlt'] at hv ho hpl
    rw [getD_drop (d := (0 : Int)) hlt2] at ho hpl
    refine run_x (I := inf) 99 rfl (by repeat (first | exact obs_nil | refine obs_same ?_ | refine obs_and ?_ | refine obs_by (by (simp [inB] <;> omega)) ?_)) ?_
    refine run_draw 26 (by kernel_rfl) (by kernel_rfl) (lex_x (I := inf) 99 rfl rfl (by repeat (first | exact obs_nil | refine obs_same ?_ | refine obs_and ?_ | refine obs_by (by (simp [inB, hlt'] <;> omega)) ?_)) lex_nil) ?_
    refine run_x (I := inf) 99 rfl (by repeat (first | exact obs_nil | refine obs_same ?_ | refine obs_and ?_ | refine obs_by (by (simp [inB] <;> omega)) ?_)) ?_
    generalize hd0 : ds.getD ((i : Nat) : Int).toNat (0, 0) = d
    have hd := hd0
    rw [Int.toNat_natCast] at hd
    generalize hs0 : ss.getD ((i : Nat) : Int).toNat 0 = s
    have hs := hs0
    rw [Int.toNat_natCast] at hs
    rw [hd] at hv ho hpl
    rw [hs] at ho hpl
    obtain ⟨hr, hp3, hv'⟩ := hv
    have hs2 : d.1 ≤ s ∧ s ≤ d.2 := by
      by_cases hc : (decide (s < d.1) || decide (s > d.2)) = true
      · simp only [outL, hc, if_true] at ho; omega
      · simp at hc; omega
    have hc' : (decide (s < d.1) || decide (s > d.2)) = false := by simp; omega
    simp only [outL, hc', Bool.false_eq_true, if_false] at ho
    simp only [placeL] at hpl
    obtain ⟨m1, m2⟩ := mul_le_200 (e := ext d) hp1 hp2 (by unfold ext; omega) (by unfold ext; omega)
    obtain ⟨q1, q2⟩ := step_lt (e := ext d) (s := s - d.1) hn1 hn2 (by omega) (by unfold ext; omega)
    obtain ⟨q3, q4⟩ := step_lt (e := ext d) (s := 0) hn1 hn2 (by omega) (by unfold ext; omega)
    have hw : IntKind.wrap .i64 (IntKind.wrap .i64 (IntKind.wrap .i64 (n * IntKind.wrap .i64 (IntKind.wrap .i64 (d.2 - d.1) + 1)) + s) - d.1) = n * ext d + s - d.1 := by
      rw [w64 (x := d.2 - d.1) (by omega) (by omega), w64 (x := d.2 - d.1 + 1) (by omega) (by omega), show d.2 - d.1 + 1 = ext d from rfl, w64 (x := n * ext d) (by omega) (by omega), w64 (x := n * ext d + s) (by omega) (by omega), w64 (by omega) (by omega)]
    refine ih (n * ext d + s - d.1, p * ext d, i + 1) _ _ (by dsimp only; omega) ⟨⟨rfl, rfl, ?_, ?_⟩, rfl, by dsimp only; omega, m1, hp3, by dsimp only; omega, by dsimp only; omega, hv', ho, hpl⟩
    · show iv (IntKind.wrap .i64 (IntKind.wrap .i64 (IntKind.wrap .i64 (n * IntKind.wrap .i64 (IntKind.wrap .i64 (d.2 - d.1) + 1)) + s) - d.1)) = _
      rw [hw]
    · show iv (IntKind.wrap .i64 ((i : Int) + 1)) = _
      rw [w64 (by omega) (by omega)]; rfl
  · refine run_x (I := inf) 99 rfl (by repeat (first | exact obs_nil | refine obs_same ?_ | refine obs_and ?_ | refine obs_by (by (simp [inB] <;> omega)) ?_)) ?_
    refine run_retX (I := inf) 0 rfl (Nat.le_refl _) rfl .nil rfl ⟨?_, rfl⟩
    have hi' : i = ds.length := by simp at hlt; omega
    subst hi'
    rw [List.drop_length] at hpl
    have hpl' : place ds ss = n := by rw [← hpl]; simp [placeL]
    rw [hpl']
    rfl

/-- Offset's answer. -/
def offF (ds : List Dim) (ss : List Int) : Int × Int × Int × Int :=
  if validD ds then (if ss.length = ds.length then (if out ds ss = 0 then (place ds ss, 0, 0, 0) else (0, 7, out ds ss, 0)) else (0, 0, 0, 11)) else (0, 0, 0, 1)
def tup4 (x : Int × Int × Int × Int) : AV := .tup [iv x.1, iv x.2.1, iv x.2.2.1, iv x.2.2.2]

theorem out_nonneg : ∀ (i : Int) (ds : List Dim) (ss : List Int), 0 ≤ i → 0 ≤ outL i ds ss
  | i, [], ss, h => by simp [outL]
  | i, d :: l, [], h => by simp [outL]
  | i, d :: l, s :: t, h => by
    unfold outL
    split
    · omega
    · exact out_nonneg (i + 1) l t (by omega)

theorem a_Offset (n1 n2 : Option Bool) (ds : List Dim) (ss : List Int) : CallT Try.prog 44 [dimS n1 ds, intS n2 ss] [] (fun o A => o = .ret (tup4 (offF ds ss)) ∧ A = []) := by
  refine callT_body (n := 28) rfl rfl fun w ρ X => ?_
  refine run_x (I := inf) 99 rfl (by repeat (first | exact obs_nil | refine obs_same ?_ | refine obs_and ?_ | refine obs_by (by (simp [inB] <;> omega)) ?_)) ?_
  refine run_call rfl rfl rfl rfl rfl rfl rfl rfl (a_Valid n1 ds) ?_
  refine run_x (I := inf) 99 rfl (by repeat (first | exact obs_nil | refine obs_same ?_ | refine obs_and ?_ | refine obs_by (by (simp [inB] <;> omega)) ?_)) ?_
  refine run_cond rfl (fun h => ?_) (fun h => ?_)
  · refine run_x (I := inf) 99 rfl (by repeat (first | exact obs_nil | refine obs_same ?_ | refine obs_and ?_ | refine obs_by (by (simp [inB] <;> omega)) ?_)) ?_
    refine run_retX (I := inf) 0 rfl (Nat.le_refl _) rfl .nil rfl ⟨?_, rfl⟩
    have h' : validD ds = false := by simpa using h
    simp only [offF, h']; rfl
  · have h' : validD ds = true := by simpa using h
    have hf := fit_valid h'
    refine run_x (I := inf) 99 rfl (by repeat (first | exact obs_nil | refine obs_same ?_ | refine obs_and ?_ | refine obs_by (by (simp [inB] <;> omega)) ?_)) ?_
    refine run_cond rfl (fun hc => ?_) (fun hc => ?_)
    · refine run_x (I := inf) 99 rfl (by repeat (first | exact obs_nil | refine obs_same ?_ | refine obs_and ?_ | refine obs_by (by (simp [inB] <;> omega)) ?_)) ?_
      refine run_retX (I := inf) 0 rfl (Nat.le_refl _) rfl .nil rfl ⟨?_, rfl⟩
      have hc' : ¬ ss.length = ds.length := by simp at hc; omega
      simp only [offF, h', hc', if_true, if_false]; rfl
    · have hc' : ss.length = ds.length := by simp at hc; omega
      refine run_x (I := inf) 99 rfl (by repeat (first | exact obs_nil | refine obs_same ?_ | refine obs_and ?_ | refine obs_by (by (simp [inB] <;> omega)) ?_)) ?_
      refine run_call rfl rfl rfl rfl rfl rfl rfl rfl (a_offset n1 n2 ds ss hc' (by omega) hf.1) ?_
      refine run_x (I := inf) 99 rfl (by repeat (first | exact obs_nil | refine obs_same ?_ | refine obs_and ?_ | refine obs_by (by (simp [inB] <;> omega)) ?_)) ?_
      have hnn : 0 ≤ out ds ss := out_nonneg 0 ds ss (by omega)
      refine run_cond rfl (fun hp => ?_) (fun hp => ?_)
      · refine run_x (I := inf) 99 rfl (by repeat (first | exact obs_nil | refine obs_same ?_ | refine obs_and ?_ | refine obs_by (by (simp [inB] <;> omega)) ?_)) ?_
        refine run_retX (I := inf) 0 rfl (Nat.le_refl _) rfl .nil rfl ⟨?_, rfl⟩
        have hp' : ¬ out ds ss = 0 := by simp at hp; omega
        simp only [offF, h', hc', hp', if_true, if_false]; rfl
      · refine run_x (I := inf) 99 rfl (by repeat (first | exact obs_nil | refine obs_same ?_ | refine obs_and ?_ | refine obs_by (by (simp [inB] <;> omega)) ?_)) ?_
        refine run_retX (I := inf) 0 rfl (Nat.le_refl _) rfl .nil rfl ⟨?_, rfl⟩
        have hp' : out ds ss = 0 := by simp at hp; omega
        simp only [offF, h', hc', hp', if_true]
        rfl

theorem r_Offset (n1 n2 : Option Bool) (ds : List Dim) (ss : List Int) : CallT Try.prog 45 [dimS n1 ds, intS n2 ss] [] (fun o A => o = .ret (tup4 (offF ds ss)) ∧ A = []) := by
  refine callT_body (n := 28) rfl rfl fun w ρ X => ?_
  refine run_x (I := inf) 99 rfl (by repeat (first | exact obs_nil | refine obs_same ?_ | refine obs_and ?_ | refine obs_by (by (simp [inB] <;> omega)) ?_)) ?_
  refine run_call rfl rfl rfl rfl rfl rfl rfl rfl (r_Valid n1 ds) ?_
  refine run_x (I := inf) 99 rfl (by repeat (first | exact obs_nil | refine obs_same ?_ | refine obs_and ?_ | refine obs_by (by (simp [inB] <;> omega)) ?_)) ?_
  refine run_cond rfl (fun h => ?_) (fun h => ?_)
  · refine run_x (I := inf) 99 rfl (by repeat (first | exact obs_nil | refine obs_same ?_ | refine obs_and ?_ | refine obs_by (by (simp [inB] <;> omega)) ?_)) ?_
    refine run_retX (I := inf) 0 rfl (Nat.le_refl _) rfl .nil rfl ⟨?_, rfl⟩
    have h' : validD ds = false := by simpa using h
    simp only [offF, h']; rfl
  · have h' : validD ds = true := by simpa using h
    have hf := fit_valid h'
    refine run_x (I := inf) 99 rfl (by repeat (first | exact obs_nil | refine obs_same ?_ | refine obs_and ?_ | refine obs_by (by (simp [inB] <;> omega)) ?_)) ?_
    refine run_cond rfl (fun hc => ?_) (fun hc => ?_)
    · refine run_x (I := inf) 99 rfl (by repeat (first | exact obs_nil | refine obs_same ?_ | refine obs_and ?_ | refine obs_by (by (simp [inB] <;> omega)) ?_)) ?_
      refine run_retX (I := inf) 0 rfl (Nat.le_refl _) rfl .nil rfl ⟨?_, rfl⟩
      have hc' : ¬ ss.length = ds.length := by simp at hc; omega
      simp only [offF, h', hc', if_true, if_false]; rfl
    · have hc' : ss.length = ds.length := by simp at hc; omega
      refine run_x (I := inf) 99 rfl (by repeat (first | exact obs_nil | refine obs_same ?_ | refine obs_and ?_ | refine obs_by (by (simp [inB] <;> omega)) ?_)) ?_
      refine run_call rfl rfl rfl rfl rfl rfl rfl rfl (r_out n1 n2 ds ss hc' (by omega)) ?_
      refine run_x (I := inf) 99 rfl (by repeat (first | exact obs_nil | refine obs_same ?_ | refine obs_and ?_ | refine obs_by (by (simp [inB] <;> omega)) ?_)) ?_
      have hnn : 0 ≤ out ds ss := out_nonneg 0 ds ss (by omega)
      refine run_cond rfl (fun hp => ?_) (fun hp => ?_)
      · refine run_x (I := inf) 99 rfl (by repeat (first | exact obs_nil | refine obs_same ?_ | refine obs_and ?_ | refine obs_by (by (simp [inB] <;> omega)) ?_)) ?_
        refine run_retX (I := inf) 0 rfl (Nat.le_refl _) rfl .nil rfl ⟨?_, rfl⟩
        have hp' : ¬ out ds ss = 0 := by simp at hp; omega
        simp only [offF, h', hc', hp', if_true, if_false]; rfl
      · have hp' : out ds ss = 0 := by simp at hp; omega
        refine run_x (I := inf) 99 rfl (by repeat (first | exact obs_nil | refine obs_same ?_ | refine obs_and ?_ | refine obs_by (by (simp [inB] <;> omega)) ?_)) ?_
        refine run_call rfl rfl rfl rfl rfl rfl rfl rfl (r_place n1 n2 ds ss hc' (by omega) hf.1 hp') ?_
        refine run_x (I := inf) 99 rfl (by repeat (first | exact obs_nil | refine obs_same ?_ | refine obs_and ?_ | refine obs_by (by (simp [inB] <;> omega)) ?_)) ?_
        refine run_retX (I := inf) 0 rfl (Nat.le_refl _) rfl .nil rfl ⟨?_, rfl⟩
        simp only [offF, h', hc', hp', if_true]
        rfl
end Go.Iron.Try
