/- The array package's functions (seat Ytamhonbhoelohaa): Subs, Next. -/
import Derived.Test.YtamhonbhoelohaaArrE
namespace Go.Iron.Try
open Go.Proofs

theorem stay_sameInts (n1 n2 : Option Bool) (xs ys : List Int) (hb : xs.length < 9223372036854775807) : CallT Try.prog 15 [intS n1 xs, intS n2 ys] [] (fun out A => out = .ret (bv (decide (xs = ys))) ∧ A = []) := by
  refine callT_body (n := 26) rfl rfl fun w ρ X => ?_
  refine run_x (I := inf) 99 rfl (by simp only [app, obs_cons, obs_nil']) ?_
  refine run_cond rfl (fun h => ?_) (fun h => ?_)
  · refine run_x (I := inf) 99 rfl (by simp only [app, obs_cons, obs_nil']) ?_
    refine run_drop 0 (Nat.le_refl _) rfl .nil (run_ret (.tmp .nil) ⟨?_, rfl⟩)
    show Out.ret (bv false) = _
    have : xs ≠ ys := fun e => by subst e; simp at h
    simp [this]
  · have hl : xs.length = ys.length := ieq (by simpa using h)
    refine run_x (I := inf) 99 rfl (by simp only [app, obs_cons, obs_nil']) ?_
    refine run_while (fun (i : Nat) τ ar => (τ 0 = intS n1 xs ∧ τ 1 = intS n2 ys ∧ τ 5 = iv i) ∧ ar = [] ∧ i ≤ xs.length ∧ xs.take i = ys.take i) (fun i => xs.length - i) 0 ⟨⟨rfl, rfl, rfl⟩, rfl, Nat.zero_le _, rfl⟩ ?_
    rintro i τ' ar' ⟨⟨h0, h1, h5⟩, rfl, hi, hp⟩ ih
    refine run_says 0 h0 (Says.refl _) (run_says 1 (by exact h1) (Says.refl _) (run_says 5 (by exact h5) (Says.refl _) ?_))
    refine run_x (I := inf) 99 rfl (by simp only [app, obs_cons, obs_nil']) ?_
    refine run_cond rfl (fun hlt => ?_) (fun hlt => ?_)
    · have hlt' : i < xs.length := by simpa using hlt
      refine run_x (I := inf) 99 rfl (by simp only [app, obs_cons, obs_nil']) ?_
      refine run_draw 9 (by kernel_rfl) (by kernel_rfl) (lex_x (I := inf) 99 rfl rfl (by simp only [app, obs_cons, obs_nil']; simp [inB, hlt', ← hl]) lex_nil) ?_
      refine run_x (I := inf) 99 rfl (by simp only [app, obs_cons, obs_nil']) ?_
      refine run_cond rfl (fun hne => ?_) (fun hne => ?_)
      · refine run_x (I := inf) 99 rfl (by simp only [app, obs_cons, obs_nil']) ?_
        refine run_drop 0 (Nat.le_refl _) rfl .nil (run_ret (.tmp .nil) ⟨?_, rfl⟩)
        show Out.ret (bv false) = _
        have : xs ≠ ys := fun e => by subst e; simp at hne
        simp [this]
      · refine run_x (I := inf) 99 rfl (by simp only [app, obs_cons, obs_nil']) ?_
        have hs : IntKind.wrap .i64 ((i : Int) + 1) = ((i + 1 : Nat) : Int) := by rw [w64] <;> omega
        refine ih (i + 1) _ _ (by omega) ⟨⟨rfl, rfl, ?_⟩, rfl, by omega, ?_⟩
        · show iv (IntKind.wrap .i64 ((i : Int) + 1)) = _
          rw [hs]
        · refine take_next (d := 0) hl hlt' hp ?_
          simp at hne
          exact hne
    · refine run_x (I := inf) 99 rfl (by simp only [app, obs_cons, obs_nil']) ?_
      refine run_drop 0 (Nat.le_refl _) rfl .nil (run_ret (.tmp .nil) ⟨?_, rfl⟩)
      show Out.ret (bv true) = _
      have hi' : i = xs.length := by simp at hlt; omega
      subst hi'
      have : xs = ys := by rw [List.take_length] at hp; rw [hp, hl, List.take_length]
      simp [this]
theorem law_ints (n1 n2 : Option Bool) (xs ys : List Int) (hb : xs.length < 9223372036854775807) : CallT Try.prog 48 [intS n1 xs, intS n2 ys] [] (fun out A => out = .ret (bv (decide (xs = ys))) ∧ A = []) := by
  refine callT_body (n := 26) rfl rfl fun w ρ X => ?_
  refine run_x (I := inf) 99 rfl (by simp only [app, obs_cons, obs_nil']) ?_
  refine run_cond rfl (fun h => ?_) (fun h => ?_)
  · refine run_x (I := inf) 99 rfl (by simp only [app, obs_cons, obs_nil']) ?_
    refine run_drop 0 (Nat.le_refl _) rfl .nil (run_ret (.tmp .nil) ⟨?_, rfl⟩)
    show Out.ret (bv false) = _
    have : xs ≠ ys := fun e => by subst e; simp at h
    simp [this]
  · have hl : xs.length = ys.length := ieq (by simpa using h)
    refine run_x (I := inf) 99 rfl (by simp only [app, obs_cons, obs_nil']) ?_
    refine run_while (fun (i : Nat) τ ar => (τ 0 = intS n1 xs ∧ τ 1 = intS n2 ys ∧ τ 5 = iv i) ∧ ar = [] ∧ i ≤ xs.length ∧ xs.take i = ys.take i) (fun i => xs.length - i) 0 ⟨⟨rfl, rfl, rfl⟩, rfl, Nat.zero_le _, rfl⟩ ?_
    rintro i τ' ar' ⟨⟨h0, h1, h5⟩, rfl, hi, hp⟩ ih
    refine run_says 0 h0 (Says.refl _) (run_says 1 (by exact h1) (Says.refl _) (run_says 5 (by exact h5) (Says.refl _) ?_))
    refine run_x (I := inf) 99 rfl (by simp only [app, obs_cons, obs_nil']) ?_
    refine run_cond rfl (fun hlt => ?_) (fun hlt => ?_)
    · have hlt' : i < xs.length := by simpa using hlt
      refine run_x (I := inf) 99 rfl (by simp only [app, obs_cons, obs_nil']) ?_
      refine run_draw 9 (by kernel_rfl) (by kernel_rfl) (lex_x (I := inf) 99 rfl rfl (by simp only [app, obs_cons, obs_nil']; simp [inB, hlt', ← hl]) lex_nil) ?_
      refine run_x (I := inf) 99 rfl (by simp only [app, obs_cons, obs_nil']) ?_
      refine run_cond rfl (fun hne => ?_) (fun hne => ?_)
      · refine run_x (I := inf) 99 rfl (by simp only [app, obs_cons, obs_nil']) ?_
        refine run_drop 0 (Nat.le_refl _) rfl .nil (run_ret (.tmp .nil) ⟨?_, rfl⟩)
        show Out.ret (bv false) = _
        have : xs ≠ ys := fun e => by subst e; simp at hne
        simp [this]
      · refine run_x (I := inf) 99 rfl (by simp only [app, obs_cons, obs_nil']) ?_
        have hs : IntKind.wrap .i64 ((i : Int) + 1) = ((i + 1 : Nat) : Int) := by rw [w64] <;> omega
        refine ih (i + 1) _ _ (by omega) ⟨⟨rfl, rfl, ?_⟩, rfl, by omega, ?_⟩
        · show iv (IntKind.wrap .i64 ((i : Int) + 1)) = _
          rw [hs]
        · refine take_next (d := 0) hl hlt' hp ?_
          simp at hne
          exact hne
    · refine run_x (I := inf) 99 rfl (by simp only [app, obs_cons, obs_nil']) ?_
      refine run_drop 0 (Nat.le_refl _) rfl .nil (run_ret (.tmp .nil) ⟨?_, rfl⟩)
      show Out.ret (bv true) = _
      have hi' : i = xs.length := by simp at hlt; omega
      subst hi'
      have : xs = ys := by rw [List.take_length] at hp; rw [hp, hl, List.take_length]
      simp [this]
theorem r_Equal (n1 n2 : Option Bool) (xs ys : List Dim) (hb : xs.length < 9223372036854775807) : CallT Try.prog 53 [dimS n1 xs, dimS n2 ys] [] (fun out A => out = .ret (bv (decide (xs = ys))) ∧ A = []) := by
  refine callT_body (n := 26) rfl rfl fun w ρ X => ?_
  refine run_x (I := inf) 99 rfl (by simp only [app, obs_cons, obs_nil']) ?_
  refine run_cond rfl (fun h => ?_) (fun h => ?_)
  · refine run_x (I := inf) 99 rfl (by simp only [app, obs_cons, obs_nil']) ?_
    refine run_drop 0 (Nat.le_refl _) rfl .nil (run_ret (.tmp .nil) ⟨?_, rfl⟩)
    show Out.ret (bv false) = _
    have : xs ≠ ys := fun e => by subst e; simp at h
    simp [this]
  · have hl : xs.length = ys.length := ieq (by simpa using h)
    refine run_x (I := inf) 99 rfl (by simp only [app, obs_cons, obs_nil']) ?_
    refine run_while (fun (i : Nat) τ ar => (τ 0 = dimS n1 xs ∧ τ 1 = dimS n2 ys ∧ τ 5 = iv i) ∧ ar = [] ∧ i ≤ xs.length ∧ xs.take i = ys.take i) (fun i => xs.length - i) 0 ⟨⟨rfl, rfl, rfl⟩, rfl, Nat.zero_le _, rfl⟩ ?_
    rintro i τ' ar' ⟨⟨h0, h1, h5⟩, rfl, hi, hp⟩ ih
    refine run_says 0 h0 (Says.refl _) (run_says 1 (by exact h1) (Says.refl _) (run_says 5 (by exact h5) (Says.refl _) ?_))
    refine run_x (I := inf) 99 rfl (by simp only [app, obs_cons, obs_nil']) ?_
    refine run_cond rfl (fun hlt => ?_) (fun hlt => ?_)
    · have hlt' : i < xs.length := by simpa using hlt
      refine run_x (I := inf) 99 rfl (by simp only [app, obs_cons, obs_nil']) ?_
      refine run_draw 9 (by kernel_rfl) (by kernel_rfl) (lex_x (I := inf) 99 rfl rfl (by simp only [app, obs_cons, obs_nil']; simp [inB, hlt', ← hl]) lex_nil) ?_
      refine run_x (I := inf) 99 rfl (by simp only [app, obs_cons, obs_nil']) ?_
      refine run_cond rfl (fun hne => ?_) (fun hne => ?_)
      · refine run_x (I := inf) 99 rfl (by simp only [app, obs_cons, obs_nil']) ?_
        refine run_drop 0 (Nat.le_refl _) rfl .nil (run_ret (.tmp .nil) ⟨?_, rfl⟩)
        show Out.ret (bv false) = _
        have : xs ≠ ys := fun e => by subst e; simp at hne
        simp [this]
      · refine run_x (I := inf) 99 rfl (by simp only [app, obs_cons, obs_nil']) ?_
        have hs : IntKind.wrap .i64 ((i : Int) + 1) = ((i + 1 : Nat) : Int) := by rw [w64] <;> omega
        refine ih (i + 1) _ _ (by omega) ⟨⟨rfl, rfl, ?_⟩, rfl, by omega, ?_⟩
        · show iv (IntKind.wrap .i64 ((i : Int) + 1)) = _
          rw [hs]
        · refine take_next (d := (0, 0)) hl hlt' hp ?_
          simp at hne
          exact Prod.ext hne.1 hne.2
    · refine run_x (I := inf) 99 rfl (by simp only [app, obs_cons, obs_nil']) ?_
      refine run_drop 0 (Nat.le_refl _) rfl .nil (run_ret (.tmp .nil) ⟨?_, rfl⟩)
      show Out.ret (bv true) = _
      have hi' : i = xs.length := by simp at hlt; omega
      subst hi'
      have : xs = ys := by rw [List.take_length] at hp; rw [hp, hl, List.take_length]
      simp [this]

theorem prodL_bounds : ∀ (n : Int) (ds : List Dim), fitL n ds → 1 ≤ n → n ≤ 200 → 1 ≤ prodL n ds ∧ prodL n ds ≤ 200
  | n, [], _, h1, h2 => ⟨h1, h2⟩
  | n, d :: l, h, h1, h2 => by
    obtain ⟨hr, hp, hf⟩ := h
    obtain ⟨m1, m2⟩ := mul_le_200 (e := ext d) h1 h2 (by unfold ext; omega) (by unfold ext; omega)
    exact prodL_bounds (n * ext d) l hf m1 hp
theorem items_bounds {ds : List Dim} (h : fitL 1 ds) : 1 ≤ items ds ∧ items ds ≤ 200 := prodL_bounds _ _ h (by omega) (by omega)

/-- Subs' answer: the subscripts, and the error. -/
def subsF (ds : List Dim) (off : Int) : Option (List Int) × Int :=
  if validD ds then (if decide (off < 0) || decide (off ≥ items ds) then (none, 7) else (some (atD ds off), 0)) else (none, 1)
/-- nil, or a list. -/
def nlO : Option (List Int) → Option Bool
  | none => some true
  | some _ => none
def optS (o : Option (List Int)) : AV := .slc 1 (nlO o) (o.getD []).length (intR (o.getD []))

theorem a_Subs (n1 : Option Bool) (ds : List Dim) (off : Int) : CallT Try.prog 46 [dimS n1 ds, iv off] [] (fun o A => o = .ret (.tup [optS (subsF ds off).1, iv (subsF ds off).2]) ∧ A = []) := by
  refine callT_body (n := 22) rfl rfl fun w ρ X => ?_
  refine run_x (I := inf) 99 rfl (by repeat (first | exact obs_nil | refine obs_same ?_ | refine obs_and ?_ | refine obs_by (by (simp [inB] <;> omega)) ?_)) ?_
  refine run_call rfl rfl rfl rfl rfl rfl rfl rfl (a_Valid n1 ds) ?_
  refine run_x (I := inf) 99 rfl (by repeat (first | exact obs_nil | refine obs_same ?_ | refine obs_and ?_ | refine obs_by (by (simp [inB] <;> omega)) ?_)) ?_
  refine run_cond rfl (fun h => ?_) (fun h => ?_)
  · refine run_x (I := inf) 99 rfl (by repeat (first | exact obs_nil | refine obs_same ?_ | refine obs_and ?_ | refine obs_by (by (simp [inB] <;> omega)) ?_)) ?_
    refine run_says 4 rfl (says_nil (sz := 1) (r := intR []) (Nat.zero_le _)) ?_
    refine run_retX (I := inf) 0 rfl (Nat.le_refl _) rfl .nil rfl ⟨?_, rfl⟩
    have h' : validD ds = false := by simpa using h
    simp only [subsF, h']; rfl
  · have h' : validD ds = true := by simpa using h
    have hf := fit_valid h'
    refine run_x (I := inf) 99 rfl (by repeat (first | exact obs_nil | refine obs_same ?_ | refine obs_and ?_ | refine obs_by (by (simp [inB] <;> omega)) ?_)) ?_
    refine run_callU rfl rfl (by first | exact .v rfl rfl rfl rfl | exact .o rfl rfl rfl rfl) rfl rfl (by repeat (first | exact .nil | refine .cons (.n rfl) ?_ | refine .cons .o ?_ | refine .cons gok_and ?_)) rfl rfl rfl rfl rfl (fun _ => (a_count n1 ds (by omega) hf.1)) ?_
    refine run_x (I := inf) 99 rfl (by repeat (first | exact obs_nil | refine obs_same ?_ | refine obs_and ?_ | refine obs_by (by (simp [inB] <;> omega)) ?_)) ?_
    refine run_cond rfl (fun hc => ?_) (fun hc => ?_)
    · refine run_x (I := inf) 99 rfl (by repeat (first | exact obs_nil | refine obs_same ?_ | refine obs_and ?_ | refine obs_by (by (simp [inB] <;> omega)) ?_)) ?_
      refine run_says 4 rfl (says_nil (sz := 1) (r := intR []) (Nat.zero_le _)) ?_
      refine run_retX (I := inf) 0 rfl (Nat.le_refl _) rfl .nil rfl ⟨?_, rfl⟩
      have hc' : (decide (off < 0) || decide (off ≥ items ds)) = true := by simp at hc ⊢; omega
      simp only [subsF, h', hc', if_true]; rfl
    · have hc' : (decide (off < 0) || decide (off ≥ items ds)) = false := by simp at hc ⊢; omega
      have ho : 0 ≤ off ∧ off < items ds := by simp at hc'; omega
      have hb := items_bounds hf.1
      refine run_x (I := inf) 99 rfl (by repeat (first | exact obs_nil | refine obs_same ?_ | refine obs_and ?_ | refine obs_by (by (simp [inB] <;> omega)) ?_)) ?_
      refine run_call rfl rfl rfl rfl rfl rfl rfl rfl (a_subs n1 ds off ho.1 (by omega) (by omega) hf.1) ?_
      refine run_x (I := inf) 99 rfl (by repeat (first | exact obs_nil | refine obs_same ?_ | refine obs_and ?_ | refine obs_by (by (simp [inB] <;> omega)) ?_)) ?_
      refine run_retX (I := inf) 0 rfl (Nat.le_refl _) rfl .nil rfl ⟨?_, rfl⟩
      simp only [subsF, h', hc', if_true, Bool.false_eq_true, if_false]; rfl

theorem r_Subs (n1 : Option Bool) (ds : List Dim) (off : Int) : CallT Try.prog 47 [dimS n1 ds, iv off] [] (fun o A => o = .ret (.tup [optS (subsF ds off).1, iv (subsF ds off).2]) ∧ A = []) := by
  refine callT_body (n := 22) rfl rfl fun w ρ X => ?_
  refine run_x (I := inf) 99 rfl (by repeat (first | exact obs_nil | refine obs_same ?_ | refine obs_and ?_ | refine obs_by (by (simp [inB] <;> omega)) ?_)) ?_
  refine run_call rfl rfl rfl rfl rfl rfl rfl rfl (r_Valid n1 ds) ?_
  refine run_x (I := inf) 99 rfl (by repeat (first | exact obs_nil | refine obs_same ?_ | refine obs_and ?_ | refine obs_by (by (simp [inB] <;> omega)) ?_)) ?_
  refine run_cond rfl (fun h => ?_) (fun h => ?_)
  · refine run_x (I := inf) 99 rfl (by repeat (first | exact obs_nil | refine obs_same ?_ | refine obs_and ?_ | refine obs_by (by (simp [inB] <;> omega)) ?_)) ?_
    refine run_says 4 rfl (says_nil (sz := 1) (r := intR []) (Nat.zero_le _)) ?_
    refine run_retX (I := inf) 0 rfl (Nat.le_refl _) rfl .nil rfl ⟨?_, rfl⟩
    have h' : validD ds = false := by simpa using h
    simp only [subsF, h']; rfl
  · have h' : validD ds = true := by simpa using h
    have hf := fit_valid h'
    refine run_x (I := inf) 99 rfl (by repeat (first | exact obs_nil | refine obs_same ?_ | refine obs_and ?_ | refine obs_by (by (simp [inB] <;> omega)) ?_)) ?_
    refine run_callU rfl rfl (by first | exact .v rfl rfl rfl rfl | exact .o rfl rfl rfl rfl) rfl rfl (by repeat (first | exact .nil | refine .cons (.n rfl) ?_ | refine .cons .o ?_ | refine .cons gok_and ?_)) rfl rfl rfl rfl rfl (fun _ => (r_items n1 ds (by omega) hf.1)) ?_
    refine run_x (I := inf) 99 rfl (by repeat (first | exact obs_nil | refine obs_same ?_ | refine obs_and ?_ | refine obs_by (by (simp [inB] <;> omega)) ?_)) ?_
    refine run_cond rfl (fun hc => ?_) (fun hc => ?_)
    · refine run_x (I := inf) 99 rfl (by repeat (first | exact obs_nil | refine obs_same ?_ | refine obs_and ?_ | refine obs_by (by (simp [inB] <;> omega)) ?_)) ?_
      refine run_says 4 rfl (says_nil (sz := 1) (r := intR []) (Nat.zero_le _)) ?_
      refine run_retX (I := inf) 0 rfl (Nat.le_refl _) rfl .nil rfl ⟨?_, rfl⟩
      have hc' : (decide (off < 0) || decide (off ≥ items ds)) = true := by simp at hc ⊢; omega
      simp only [subsF, h', hc', if_true]; rfl
    · have hc' : (decide (off < 0) || decide (off ≥ items ds)) = false := by simp at hc ⊢; omega
      have ho : 0 ≤ off ∧ off < items ds := by simp at hc'; omega
      have hb := items_bounds hf.1
      refine run_x (I := inf) 99 rfl (by repeat (first | exact obs_nil | refine obs_same ?_ | refine obs_and ?_ | refine obs_by (by (simp [inB] <;> omega)) ?_)) ?_
      refine run_call rfl rfl rfl rfl rfl rfl rfl rfl (r_at n1 ds off ho.1 (by omega) (by omega) hf.1) ?_
      refine run_x (I := inf) 99 rfl (by repeat (first | exact obs_nil | refine obs_same ?_ | refine obs_and ?_ | refine obs_by (by (simp [inB] <;> omega)) ?_)) ?_
      refine run_retX (I := inf) 0 rfl (Nat.le_refl _) rfl .nil rfl ⟨?_, rfl⟩
      simp only [subsF, h', hc', if_true, Bool.false_eq_true, if_false]; rfl

theorem placeL_lt : ∀ (p n i : Int) (ds : List Dim) (ss : List Int), fitL p ds → ss.length = ds.length → outL i ds ss = 0 → 0 ≤ i → 0 ≤ n → n < p → 0 ≤ placeL n ds ss ∧ placeL n ds ss < prodL p ds
  | p, n, i, [], [], _, _, _, _, h0, h1 => ⟨h0, h1⟩
  | p, n, i, d :: l, s :: t, hf, hl, ho, hi, h0, h1 => by
    obtain ⟨hr, hp, hf'⟩ := hf
    unfold outL at ho
    split at ho
    · omega
    · rename_i hc
      simp at hc
      obtain ⟨q1, q2⟩ := step_lt (e := ext d) (s := s - d.1) h0 h1 (by omega) (by unfold ext; omega)
      unfold placeL prodL
      rw [show n * ext d + s - d.1 = n * ext d + (s - d.1) by omega]
      exact placeL_lt _ _ (i + 1) l t hf' (by simpa using hl) ho (by omega) q1 q2
theorem place_lt {ds : List Dim} {ss : List Int} (hf : fitL 1 ds) (hl : ss.length = ds.length) (ho : out ds ss = 0) : 0 ≤ place ds ss ∧ place ds ss < items ds :=
  placeL_lt 1 0 0 ds ss hf hl ho (by omega) (by omega) (by omega)

/-- Next's answer. -/
def nextF (ds : List Dim) (ss : List Int) : Option (List Int) × Bool × Int :=
  if validD ds then (if ss.length = ds.length then (if out ds ss = 0 then (if place ds ss + 1 = items ds then (none, false, 0) else (some (atD ds (place ds ss + 1)), true, 0)) else (none, false, 7)) else (none, false, 11)) else (none, false, 1)
def nextA (x : Option (List Int) × Bool × Int) : AV := .tup [optS x.1, bv x.2.1, iv x.2.2]

theorem a_Next (n1 n2 : Option Bool) (ds : List Dim) (ss : List Int) : CallT Try.prog 49 [dimS n1 ds, intS n2 ss] [] (fun o A => o = .ret (nextA (nextF ds ss)) ∧ A = []) := by
  refine callT_body (n := 38) rfl rfl fun w ρ X => ?_
  refine run_x (I := inf) 99 rfl (by repeat (first | exact obs_nil | refine obs_same ?_ | refine obs_and ?_ | refine obs_by (by (simp [inB] <;> omega)) ?_)) ?_
  refine run_call rfl rfl rfl rfl rfl rfl rfl rfl (a_Valid n1 ds) ?_
  refine run_x (I := inf) 99 rfl (by repeat (first | exact obs_nil | refine obs_same ?_ | refine obs_and ?_ | refine obs_by (by (simp [inB] <;> omega)) ?_)) ?_
  refine run_cond rfl (fun h => ?_) (fun h => ?_)
  · refine run_x (I := inf) 99 rfl (by repeat (first | exact obs_nil | refine obs_same ?_ | refine obs_and ?_ | refine obs_by (by (simp [inB] <;> omega)) ?_)) ?_
    refine run_says 4 rfl (says_nil (sz := 1) (r := intR []) (Nat.zero_le _)) ?_
    refine run_retX (I := inf) 0 rfl (Nat.le_refl _) rfl .nil rfl ⟨?_, rfl⟩
    have h' : validD ds = false := by simpa using h
    simp only [nextF, h']; rfl
  · have h' : validD ds = true := by simpa using h
    have hf := fit_valid h'
    refine run_x (I := inf) 99 rfl (by repeat (first | exact obs_nil | refine obs_same ?_ | refine obs_and ?_ | refine obs_by (by (simp [inB] <;> omega)) ?_)) ?_
    refine run_cond rfl (fun hc => ?_) (fun hc => ?_)
    · refine run_x (I := inf) 99 rfl (by repeat (first | exact obs_nil | refine obs_same ?_ | refine obs_and ?_ | refine obs_by (by (simp [inB] <;> omega)) ?_)) ?_
      refine run_says 4 rfl (says_nil (sz := 1) (r := intR []) (Nat.zero_le _)) ?_
      refine run_retX (I := inf) 0 rfl (Nat.le_refl _) rfl .nil rfl ⟨?_, rfl⟩
      have hc' : ¬ ss.length = ds.length := by simp at hc; omega
      simp only [nextF, h', hc', if_true, if_false]; rfl
    · have hc' : ss.length = ds.length := by simp at hc; omega
      refine run_x (I := inf) 99 rfl (by repeat (first | exact obs_nil | refine obs_same ?_ | refine obs_and ?_ | refine obs_by (by (simp [inB] <;> omega)) ?_)) ?_
      refine run_call rfl rfl rfl rfl rfl rfl rfl rfl (a_offset n1 n2 ds ss hc' (by omega) hf.1) ?_
      refine run_x (I := inf) 99 rfl (by repeat (first | exact obs_nil | refine obs_same ?_ | refine obs_and ?_ | refine obs_by (by (simp [inB] <;> omega)) ?_)) ?_
      have hnn : 0 ≤ out ds ss := out_nonneg 0 ds ss (by omega)
      refine run_cond rfl (fun hp => ?_) (fun hp => ?_)
      · refine run_x (I := inf) 99 rfl (by repeat (first | exact obs_nil | refine obs_same ?_ | refine obs_and ?_ | refine obs_by (by (simp [inB] <;> omega)) ?_)) ?_
        refine run_says 4 rfl (says_nil (sz := 1) (r := intR []) (Nat.zero_le _)) ?_
        refine run_retX (I := inf) 0 rfl (Nat.le_refl _) rfl .nil rfl ⟨?_, rfl⟩
        have hp' : ¬ out ds ss = 0 := by simp at hp; omega
        simp only [nextF, h', hc', hp', if_true, if_false]; rfl
      · have hp' : out ds ss = 0 := by simp at hp; omega
        obtain ⟨b1, b2⟩ := place_lt hf.1 hc' hp'
        have b3 := items_bounds hf.1
        have hw : IntKind.wrap .i64 (place ds ss + 1) = place ds ss + 1 := w64 (by omega) (by omega)
        rw [if_pos hp']
        refine run_x (I := inf) 99 rfl (by repeat (first | exact obs_nil | refine obs_same ?_ | refine obs_and ?_ | refine obs_by (by (simp [inB] <;> omega)) ?_)) ?_
        refine run_call rfl rfl rfl rfl rfl rfl rfl rfl (a_count n1 ds (by omega) hf.1) ?_
        rw [hw]
        refine run_x (I := inf) 99 rfl (by repeat (first | exact obs_nil | refine obs_same ?_ | refine obs_and ?_ | refine obs_by (by (simp [inB] <;> omega)) ?_)) ?_
        refine run_cond rfl (fun hq => ?_) (fun hq => ?_)
        · refine run_x (I := inf) 99 rfl (by repeat (first | exact obs_nil | refine obs_same ?_ | refine obs_and ?_ | refine obs_by (by (simp [inB] <;> omega)) ?_)) ?_
          refine run_says 4 rfl (says_nil (sz := 1) (r := intR []) (Nat.zero_le _)) ?_
          refine run_retX (I := inf) 0 rfl (Nat.le_refl _) rfl .nil rfl ⟨?_, rfl⟩
          have hq' : place ds ss + 1 = items ds := by simpa using hq
          simp only [nextF, h', hc', hp', hq', if_true]; rfl
        · have hq' : ¬ place ds ss + 1 = items ds := by simpa using hq
          refine run_x (I := inf) 99 rfl (by repeat (first | exact obs_nil | refine obs_same ?_ | refine obs_and ?_ | refine obs_by (by (simp [inB] <;> omega)) ?_)) ?_
          rw [hw]
          refine run_call rfl rfl rfl rfl rfl rfl rfl rfl (a_subs n1 ds (place ds ss + 1) (by omega) (by omega) (by omega) hf.1) ?_
          refine run_x (I := inf) 99 rfl (by repeat (first | exact obs_nil | refine obs_same ?_ | refine obs_and ?_ | refine obs_by (by (simp [inB] <;> omega)) ?_)) ?_
          refine run_retX (I := inf) 0 rfl (Nat.le_refl _) rfl .nil rfl ⟨?_, rfl⟩
          simp only [nextF, h', hc', hp', hq', if_true, if_false]; rfl

theorem r_Next (n1 n2 : Option Bool) (ds : List Dim) (ss : List Int) : CallT Try.prog 50 [dimS n1 ds, intS n2 ss] [] (fun o A => o = .ret (nextA (nextF ds ss)) ∧ A = []) := by
  refine callT_body (n := 34) rfl rfl fun w ρ X => ?_
  refine run_x (I := inf) 99 rfl (by repeat (first | exact obs_nil | refine obs_same ?_ | refine obs_and ?_ | refine obs_by (by (simp [inB] <;> omega)) ?_)) ?_
  refine run_call rfl rfl rfl rfl rfl rfl rfl rfl (r_Valid n1 ds) ?_
  refine run_x (I := inf) 99 rfl (by repeat (first | exact obs_nil | refine obs_same ?_ | refine obs_and ?_ | refine obs_by (by (simp [inB] <;> omega)) ?_)) ?_
  refine run_cond rfl (fun h => ?_) (fun h => ?_)
  · refine run_x (I := inf) 99 rfl (by repeat (first | exact obs_nil | refine obs_same ?_ | refine obs_and ?_ | refine obs_by (by (simp [inB] <;> omega)) ?_)) ?_
    refine run_says 4 rfl (says_nil (sz := 1) (r := intR []) (Nat.zero_le _)) ?_
    refine run_retX (I := inf) 0 rfl (Nat.le_refl _) rfl .nil rfl ⟨?_, rfl⟩
    have h' : validD ds = false := by simpa using h
    simp only [nextF, h']; rfl
  · have h' : validD ds = true := by simpa using h
    have hf := fit_valid h'
    refine run_x (I := inf) 99 rfl (by repeat (first | exact obs_nil | refine obs_same ?_ | refine obs_and ?_ | refine obs_by (by (simp [inB] <;> omega)) ?_)) ?_
    refine run_cond rfl (fun hc => ?_) (fun hc => ?_)
    · refine run_x (I := inf) 99 rfl (by repeat (first | exact obs_nil | refine obs_same ?_ | refine obs_and ?_ | refine obs_by (by (simp [inB] <;> omega)) ?_)) ?_
      refine run_says 4 rfl (says_nil (sz := 1) (r := intR []) (Nat.zero_le _)) ?_
      refine run_retX (I := inf) 0 rfl (Nat.le_refl _) rfl .nil rfl ⟨?_, rfl⟩
      have hc' : ¬ ss.length = ds.length := by simp at hc; omega
      simp only [nextF, h', hc', if_true, if_false]; rfl
    · have hc' : ss.length = ds.length := by simp at hc; omega
      refine run_x (I := inf) 99 rfl (by repeat (first | exact obs_nil | refine obs_same ?_ | refine obs_and ?_ | refine obs_by (by (simp [inB] <;> omega)) ?_)) ?_
      refine run_call rfl rfl rfl rfl rfl rfl rfl rfl (r_out n1 n2 ds ss hc' (by omega)) ?_
      refine run_x (I := inf) 99 rfl (by repeat (first | exact obs_nil | refine obs_same ?_ | refine obs_and ?_ | refine obs_by (by (simp [inB] <;> omega)) ?_)) ?_
      have hnn : 0 ≤ out ds ss := out_nonneg 0 ds ss (by omega)
      refine run_cond rfl (fun hp => ?_) (fun hp => ?_)
      · refine run_x (I := inf) 99 rfl (by repeat (first | exact obs_nil | refine obs_same ?_ | refine obs_and ?_ | refine obs_by (by (simp [inB] <;> omega)) ?_)) ?_
        refine run_says 4 rfl (says_nil (sz := 1) (r := intR []) (Nat.zero_le _)) ?_
        refine run_retX (I := inf) 0 rfl (Nat.le_refl _) rfl .nil rfl ⟨?_, rfl⟩
        have hp' : ¬ out ds ss = 0 := by simp at hp; omega
        simp only [nextF, h', hc', hp', if_true, if_false]; rfl
      · have hp' : out ds ss = 0 := by simp at hp; omega
        obtain ⟨b1, b2⟩ := place_lt hf.1 hc' hp'
        have b3 := items_bounds hf.1
        have hw : IntKind.wrap .i64 (place ds ss + 1) = place ds ss + 1 := w64 (by omega) (by omega)
        refine run_x (I := inf) 99 rfl (by repeat (first | exact obs_nil | refine obs_same ?_ | refine obs_and ?_ | refine obs_by (by (simp [inB] <;> omega)) ?_)) ?_
        refine run_call rfl rfl rfl rfl rfl rfl rfl rfl (r_place n1 n2 ds ss hc' (by omega) hf.1 hp') ?_
        refine run_x (I := inf) 99 rfl (by repeat (first | exact obs_nil | refine obs_same ?_ | refine obs_and ?_ | refine obs_by (by (simp [inB] <;> omega)) ?_)) ?_
        rw [hw]
        refine run_call rfl rfl rfl rfl rfl rfl rfl rfl (r_items n1 ds (by omega) hf.1) ?_
        refine run_x (I := inf) 99 rfl (by repeat (first | exact obs_nil | refine obs_same ?_ | refine obs_and ?_ | refine obs_by (by (simp [inB] <;> omega)) ?_)) ?_
        refine run_cond rfl (fun hq => ?_) (fun hq => ?_)
        · refine run_x (I := inf) 99 rfl (by repeat (first | exact obs_nil | refine obs_same ?_ | refine obs_and ?_ | refine obs_by (by (simp [inB] <;> omega)) ?_)) ?_
          refine run_says 4 rfl (says_nil (sz := 1) (r := intR []) (Nat.zero_le _)) ?_
          refine run_retX (I := inf) 0 rfl (Nat.le_refl _) rfl .nil rfl ⟨?_, rfl⟩
          have hq' : place ds ss + 1 = items ds := by simpa using hq
          simp only [nextF, h', hc', hp', hq', if_true]; rfl
        · have hq' : ¬ place ds ss + 1 = items ds := by simpa using hq
          refine run_x (I := inf) 99 rfl (by repeat (first | exact obs_nil | refine obs_same ?_ | refine obs_and ?_ | refine obs_by (by (simp [inB] <;> omega)) ?_)) ?_
          refine run_call rfl rfl rfl rfl rfl rfl rfl rfl (r_at n1 ds (place ds ss + 1) (by omega) (by omega) (by omega) hf.1) ?_
          refine run_x (I := inf) 99 rfl (by repeat (first | exact obs_nil | refine obs_same ?_ | refine obs_and ?_ | refine obs_by (by (simp [inB] <;> omega)) ?_)) ?_
          refine run_retX (I := inf) 0 rfl (Nat.le_refl _) rfl .nil rfl ⟨?_, rfl⟩
          simp only [nextF, h', hc', hp', hq', if_true, if_false]; rfl

theorem law_awake : CallT Try.prog 33 [] [] (fun o A => o = .ret (bv true) ∧ A = []) := by
  refine callT_body (n := 25) rfl rfl fun w ρ X => ?_
  refine run_x (I := inf) 99 rfl (by repeat (first | exact obs_nil | refine obs_same ?_ | refine obs_and ?_ | refine obs_by (by (simp [inB] <;> omega)) ?_)) ?_
  refine run_tell 0 (dimR [(1, 2), (0, 2)]) rfl rfl (fun i hi => by rcases i with _ | _ | i <;> first | rfl | omega) rfl ?_
  refine run_tell 1 (intR [2, 1]) rfl rfl (fun i hi => by rcases i with _ | _ | i <;> first | rfl | omega) rfl ?_
  refine run_freeze 8 rfl rfl rfl (fun i hi => rfl) ?_
  refine run_freeze 9 rfl rfl rfl (fun i hi => rfl) ?_
  refine run_drop 0 (Nat.le_refl _) rfl .nil ?_
  refine run_call rfl rfl rfl rfl rfl rfl rfl rfl (a_Offset none none [(1, 2), (0, 2)] [2, 1]) ?_
  rw [show offF [(1, 2), (0, 2)] [2, 1] = (4, 0, 0, 0) from by decide]
  refine run_x (I := inf) 99 rfl (by repeat (first | exact obs_nil | refine obs_same ?_ | refine obs_and ?_ | refine obs_by (by (simp [inB] <;> omega)) ?_)) ?_
  refine run_retX (I := inf) 0 rfl (Nat.le_refl _) rfl .nil rfl ⟨?_, rfl⟩
  rfl
end Go.Iron.Try
