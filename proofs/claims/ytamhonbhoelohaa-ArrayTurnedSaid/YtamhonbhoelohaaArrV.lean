/- The array package's functions (seat Ytamhonbhoelohaa): Section of the program. -/
import Derived.Test.YtamhonbhoelohaaArrU
namespace Go.Iron.Try
open Go.Proofs

/-- The own bounds of a cross section. -/
def secL (d : List Dim) : List Cross → Nat → List Dim → Option (List Dim) × Int
  | [], _, acc => (some acc, 0)
  | x :: l, i, acc => if x.2 = true then secL d l (i + 1) (acc ++ [d.getD i (0, 0)]) else if x.1 < (d.getD i (0, 0)).1 ∨ x.1 > (d.getD i (0, 0)).2 then (none, i + 1) else secL d l (i + 1) acc
/-- Its offsets. -/
def secO (d : List Dim) (l : List Cross) : Nat → Nat → List Int → List Int
  | 0, _, acc => acc
  | c + 1, i, acc => secO d l c (i + 1) (if withinL l (atD d i) 0 = true then acc ++ [(i : Int)] else acc)
def sectionG (d : List Dim) (l : List Cross) : Option (List Dim) × Int → List Dim × List Int × Int × Int × Int
  | (none, a) => ([], [], 7, a, 0)
  | (some own, _) => (own, secO d l (items d).toNat 0 [], 0, 0, 0)
abbrev nilD : Nat → List AV := dimR []
abbrev nilI : Nat → List AV := intR []
/-- Section's answer. -/
def sectionF (d : List Dim) (l : List Cross) : List Dim × List Int × Int × Int × Int :=
  if (!validD d || l.any badC) = true then ([], [], 0, 0, 1) else if ¬ l.length = d.length then ([], [], 0, 0, 11)
  else sectionG d l (secL d l 0 [])
def sectionA (x : List Dim × List Int × Int × Int × Int) : AV := .tup [dimS none x.1, intS none x.2.1, iv x.2.2.1, iv x.2.2.2.1, iv x.2.2.2.2]

theorem a_Section (n1 n2 : Option Bool) (d : List Dim) (l : List Cross) (hlen : l.length < 1000) : CallT Try.prog 51 [dimS n1 d, crossS n2 l] [] (fun o A => o = .ret (sectionA (sectionF d l)) ∧ A = []) := by
  refine callS_body (n := 79) rfl rfl fun w ρ X => ?_
  refine runS_x (I := inf) (J := jnf) ⟨false, false, []⟩ 9999 rfl (by repeat (first | exact obs_nil | refine obs_draw (by kernel_rfl) ?_ | refine obs_same ?_ | refine obs_and ?_ | refine obs_by (by (simp [inB] <;> omega)) ?_)) ?_
  refine runS_call rfl rfl rfl rfl rfl rfl rfl (a_Valid n1 d) ?_
  refine runS_x (I := inf) (J := jnf) ⟨false, false, []⟩ 9999 rfl (by repeat (first | exact obs_nil | refine obs_draw (by kernel_rfl) ?_ | refine obs_same ?_ | refine obs_and ?_ | refine obs_by (by (simp [inB] <;> omega)) ?_)) ?_
  refine runS_callU rfl rfl (by first | exact .v rfl rfl rfl rfl | exact .o rfl rfl rfl rfl) rfl rfl (by repeat (first | exact .nil | refine .cons (.n rfl) ?_ | refine .cons .o ?_ | refine .cons gok_and ?_)) rfl rfl rfl rfl rfl (fun _ => (c_contains n2 l hlen)) ?_
  refine runS_x (I := inf) (J := jnf) ⟨false, false, []⟩ 9999 rfl (by repeat (first | exact obs_nil | refine obs_draw (by kernel_rfl) ?_ | refine obs_same ?_ | refine obs_and ?_ | refine obs_by (by (simp [inB] <;> omega)) ?_)) ?_
  refine runS_cond rfl (fun h => ?_) (fun h => ?_)
  · have h' : (!validD d || l.any badC) = true := by simp at h ⊢; cases hb : validD d <;> simp_all
    refine runS_x (I := inf) (J := jnf) ⟨false, false, []⟩ 9999 rfl (by repeat (first | exact obs_nil | refine obs_draw (by kernel_rfl) ?_ | refine obs_same ?_ | refine obs_and ?_ | refine obs_by (by (simp [inB] <;> omega)) ?_)) ?_
    refine runS_saysBox 1 0 _ rfl rfl (says_nil0 (sz := 1) (r := nilI) (Nat.zero_le _)) rfl rfl ?_
    refine runS_says 4 rfl (says_nil0 (sz := 2) (r := nilD) (Nat.zero_le _)) ?_
    refine runS_ret (I := inf) 0 rfl (Nat.le_refl _) rfl .nil rfl ⟨?_, rfl⟩
    rw [sectionF, if_pos h']
    rfl
  have h' : ¬ (!validD d || l.any badC) = true := by simp at h ⊢; cases hb : validD d <;> simp_all
  have hv : validD d = true := by cases hb : validD d <;> simp_all
  have hfo := fit_valid hv
  have hit := items_bounds hfo.1
  refine runS_x (I := inf) (J := jnf) ⟨false, false, []⟩ 9999 rfl (by repeat (first | exact obs_nil | refine obs_draw (by kernel_rfl) ?_ | refine obs_same ?_ | refine obs_and ?_ | refine obs_by (by (simp [inB] <;> omega)) ?_)) ?_
  refine runS_cond rfl (fun h2 => ?_) (fun h2 => ?_)
  · have h2' : ¬ l.length = d.length := by simp at h2; omega
    refine runS_x (I := inf) (J := jnf) ⟨false, false, []⟩ 9999 rfl (by repeat (first | exact obs_nil | refine obs_draw (by kernel_rfl) ?_ | refine obs_same ?_ | refine obs_and ?_ | refine obs_by (by (simp [inB] <;> omega)) ?_)) ?_
    refine runS_saysBox 1 0 _ rfl rfl (says_nil0 (sz := 1) (r := nilI) (Nat.zero_le _)) rfl rfl ?_
    refine runS_says 4 rfl (says_nil0 (sz := 2) (r := nilD) (Nat.zero_le _)) ?_
    refine runS_ret (I := inf) 0 rfl (Nat.le_refl _) rfl .nil rfl ⟨?_, rfl⟩
    rw [sectionF, if_neg h', if_pos h2']
    rfl
  have hl : l.length = d.length := by simp at h2; omega
  obtain ⟨E, hE⟩ : ∃ E, E = secL d l 0 [] := ⟨_, rfl⟩
  have hF : sectionF d l = sectionG d l E := by
    rw [sectionF, if_neg h', if_neg (by simp [hl]), hE]
  rw [hF]
  refine runS_x (I := inf) (J := jnf) ⟨false, false, []⟩ 9999 rfl (by repeat (first | exact obs_nil | refine obs_draw (by kernel_rfl) ?_ | refine obs_same ?_ | refine obs_and ?_ | refine obs_by (by (simp [inB] <;> omega)) ?_)) ?_
  refine runS_nilRow 4 63 2 (encR (fun p : Dim => [iv p.1, iv p.2]) (0, 0) []) rfl rfl ?_
  refine runS_while (fun (x : Nat × List Dim) τ ar => (τ 0 = dimS n1 d ∧ τ 3 = .ptr 0 0 0 ∧ τ 4 = .row 2 x.2.length ∧ τ 5 = .ptr 1 0 0 ∧ τ 28 = crossS n2 l ∧ τ 29 = iv l.length ∧ τ 30 = iv x.1) ∧
    ar = [.box 29 [crossS n2 l], .box 23 [.val (.slice none 0 0)], .row 63 2 x.2.length x.2.length (encR (fun p : Dim => [iv p.1, iv p.2]) (0, 0) x.2)] ∧ x.1 ≤ l.length ∧ x.2.length ≤ x.1 ∧ secL d (l.drop x.1) x.1 x.2 = E) (fun x => l.length - x.1)
    (0, []) ⟨⟨rfl, rfl, rfl, rfl, rfl, rfl, rfl⟩, rfl, Nat.zero_le _, Nat.zero_le _, hE.symm⟩ ?_
  rintro ⟨i, acc⟩ τ' ar' ⟨⟨g0, g3, g4, g5, g28, g29, g30⟩, rfl, hi, hal, hd⟩ ih
  dsimp only at g4 g30 hi hal hd ih
  refine runS_says 0 (by exact g0) (Says.refl _) ?_; refine runS_says 3 (by exact g3) (Says.refl _) ?_; refine runS_says 4 (by exact g4) (Says.refl _) ?_; refine runS_says 5 (by exact g5) (Says.refl _) ?_; refine runS_says 28 (by exact g28) (Says.refl _) ?_; refine runS_says 29 (by exact g29) (Says.refl _) ?_; refine runS_says 30 (by exact g30) (Says.refl _) ?_
  refine runS_x (I := inf) (J := jnf) ⟨false, false, []⟩ 9999 rfl (by repeat (first | exact obs_nil | refine obs_draw (by kernel_rfl) ?_ | refine obs_same ?_ | refine obs_and ?_ | refine obs_by (by (simp [inB] <;> omega)) ?_)) ?_
  refine runS_cond rfl (fun hlt => ?_) (fun hlt => ?_)
  · have hlt' : i < l.length := by simpa using hlt
    rw [getD_drop (d := ((0, false) : Cross)) hlt', secL] at hd
    refine runS_x (I := inf) (J := jnf) ⟨false, false, []⟩ 9999 rfl (by repeat (first | exact obs_nil | refine obs_draw (by kernel_rfl) ?_ | refine obs_same ?_ | refine obs_and ?_ | refine obs_by (by (simp [inB, hlt'] <;> omega)) ?_)) ?_
    generalize hx : l.getD ((i : Nat) : Int).toNat (0, false) = x
    rw [Int.toNat_natCast] at hx
    rw [hx] at hd
    refine runS_cond rfl (fun hc => ?_) (fun hc => ?_)
    · rw [if_pos hc] at hd
      refine runS_x (I := inf) (J := jnf) ⟨false, false, []⟩ 9999 rfl (by repeat (first | exact obs_nil | refine obs_draw (by kernel_rfl) ?_ | refine obs_same ?_ | refine obs_and ?_ | refine obs_by (by (simp [inB, hlt', hl] <;> omega)) ?_)) ?_
      refine runS_tell 2 (encR (fun p : Dim => [iv p.1, iv p.2]) (0, 0) (acc ++ [d.getD i (0, 0)])) rfl (m' := (acc ++ [d.getD i (0, 0)]).length) (by simp) (encR_snoc rfl) rfl ?_
      refine runS_drop 3 (Nat.zero_le _) rfl (by repeat (first | exact .nil | refine .row (fun j hj => rfl) ?_ | refine .box rfl ?_ | refine .loop (scrub_under _ _) ?_ | refine .dfr ?_ | refine .gone ?_)) rfl rfl rfl (by repeat (first | exact .nil | refine .cons rfl rfl rfl (scrub_under _ _) ?_)) ?_
      refine ih (i + 1, acc ++ [d.getD i (0, 0)]) _ _ (by dsimp only; omega) ⟨⟨rfl, rfl, ?_, rfl, rfl, rfl, ?_⟩, ?_, by dsimp only; omega, by simp; omega, hd⟩
      · simp only [List.length_append, List.length_cons, List.length_nil]; rfl
      · show iv (IntKind.wrap .i64 ((i : Int) + 1)) = _
        rw [w64 (by omega) (by omega)]; rfl
      · simp only [List.length_append, List.length_cons, List.length_nil]
    · rw [if_neg (by simp [hc])] at hd
      refine runS_x (I := inf) (J := jnf) ⟨false, false, []⟩ 9999 rfl (by repeat (first | exact obs_nil | refine obs_draw (by kernel_rfl) ?_ | refine obs_same ?_ | refine obs_and ?_ | refine obs_by (by (simp [inB, hlt', hl] <;> omega)) ?_)) ?_
      refine runS_cond rfl (fun hq => ?_) (fun hq => ?_)
      · have hq' : x.1 < (d.getD i (0, 0)).1 ∨ x.1 > (d.getD i (0, 0)).2 := by
          by_cases h1 : x.1 < (d.getD i (0, 0)).1 <;> simp_all
        rw [if_pos hq'] at hd
        refine runS_x (I := inf) (J := jnf) ⟨false, false, []⟩ 9999 rfl (by repeat (first | exact obs_nil | refine obs_draw (by kernel_rfl) ?_ | refine obs_same ?_ | refine obs_and ?_ | refine obs_by (by (simp [inB] <;> omega)) ?_)) ?_
        refine runS_saysBox 1 0 _ rfl rfl (says_nil0 (sz := 1) (r := nilI) (Nat.zero_le _)) rfl rfl ?_
        refine runS_says 4 rfl (says_nil0 (sz := 2) (r := nilD) (Nat.zero_le _)) ?_
        refine runS_ret (I := inf) 0 rfl (Nat.le_refl _) rfl .nil rfl ⟨?_, rfl⟩
        rw [← hd]
        show Out.ret (.tup [_, _, iv 7, iv (IntKind.wrap .i64 ((i : Int) + 1)), iv 0]) = _
        rw [w64 (by omega) (by omega)]
        rfl
      · have hq' : ¬ (x.1 < (d.getD i (0, 0)).1 ∨ x.1 > (d.getD i (0, 0)).2) := by
          simp only [Int.toNat_natCast] at hq
          rintro (h1 | h1)
          · rw [decide_eq_true h1] at hq; simp at hq
          · rw [show decide (x.1 > (d.getD i (0, 0)).2) = true from decide_eq_true h1] at hq; split at hq <;> cases hq
        rw [if_neg hq'] at hd
        refine runS_x (I := inf) (J := jnf) ⟨false, false, []⟩ 9999 rfl (by repeat (first | exact obs_nil | refine obs_draw (by kernel_rfl) ?_ | refine obs_same ?_ | refine obs_and ?_ | refine obs_by (by (simp [inB] <;> omega)) ?_)) ?_
        refine runS_drop 3 (Nat.zero_le _) rfl (by repeat (first | exact .nil | refine .row (fun j hj => rfl) ?_ | refine .box rfl ?_ | refine .loop (scrub_under _ _) ?_ | refine .dfr ?_ | refine .gone ?_)) rfl rfl rfl (by repeat (first | exact .nil | refine .cons rfl rfl rfl (scrub_under _ _) ?_)) ?_
        refine ih (i + 1, acc) _ _ (by dsimp only; omega) ⟨⟨rfl, rfl, rfl, rfl, rfl, rfl, ?_⟩, rfl, by dsimp only; omega, by dsimp only; omega, hd⟩
        show iv (IntKind.wrap .i64 ((i : Int) + 1)) = _
        rw [w64 (by omega) (by omega)]; rfl
  · have hi' : i = l.length := by simp at hlt; omega
    subst hi'
    rw [List.drop_length, secL] at hd
    subst hd
    refine runS_x (I := inf) (J := jnf) ⟨false, false, [104, 157]⟩ 9999 rfl (by repeat (first | exact obs_nil | refine obs_draw (by kernel_rfl) ?_ | refine obs_same ?_ | refine obs_and ?_ | refine obs_by (by (simp [inB] <;> omega)) ?_)) ?_
    refine runS_call rfl rfl rfl rfl rfl rfl rfl (a_count n1 d (by omega) hfo.1) ?_
    refine runS_x (I := inf) (J := jnf) ⟨false, false, [104, 157]⟩ 9999 rfl (by repeat (first | exact obs_nil | refine obs_draw (by kernel_rfl) ?_ | refine obs_same ?_ | refine obs_and ?_ | refine obs_by (by (simp [inB] <;> omega)) ?_)) ?_
    refine runS_nilRowBox 1 0 3 1 (encR (fun z : Int => [iv z]) 0 []) rfl rfl rfl rfl rfl ?_
    refine runS_forget 8 rfl ?_; refine runS_forgetLoop 8 6 rfl rfl ?_
    refine runS_name 6 rfl (fun L => rfl) (fun L hL => ?_)
    refine runS_while (fun (x : Nat × List Int) τ ar => (τ 0 = .yld 6 ∧ τ 1 = .ptr 4 0 0 ∧ τ 5 = iv (items d) ∧ τ 6 = iv x.1) ∧
      ar = [.box 29 [crossS n2 l], .box 23 [.row 7 x.2.length], .row 63 2 acc.length acc.length (encR (fun p : Dim => [iv p.1, iv p.2]) (0, 0) acc), .box 116 [.fn (.func 103) [.ptr 0 0 0]], .box 104 [dimS n1 d], .dfr true, L, .row 3 1 x.2.length x.2.length (encR (fun z : Int => [iv z]) 0 x.2)] ∧
      (x.1 : Int) ≤ items d ∧ x.2.length ≤ x.1 ∧ secO d l ((items d).toNat - x.1) x.1 x.2 = secO d l (items d).toNat 0 []) (fun x => (items d).toNat - x.1)
      (0, []) ⟨⟨rfl, rfl, rfl, rfl⟩, rfl, by dsimp only; omega, Nat.zero_le _, rfl⟩ ?_
    rintro ⟨i, offs⟩ τ' ar' ⟨⟨g0, g1, g5, g6⟩, rfl, hi, hal2, hd⟩ ih
    dsimp only at g6 hi hal2 hd ih
    subst hL
    refine runS_says 0 (by exact g0) (Says.refl _) ?_; refine runS_says 1 (by exact g1) (Says.refl _) ?_; refine runS_says 5 (by exact g5) (Says.refl _) ?_; refine runS_says 6 (by exact g6) (Says.refl _) ?_
    refine runS_x (I := inf) (J := jnf) ⟨false, false, []⟩ 9999 rfl (by repeat (first | exact obs_nil | refine obs_draw (by kernel_rfl) ?_ | refine obs_same ?_ | refine obs_and ?_ | refine obs_by (by (simp [inB] <;> omega)) ?_)) ?_
    refine runS_cond rfl (fun hlt => ?_) (fun hlt => ?_)
    · have hlt' : (i : Int) < items d := by simpa using hlt
      obtain ⟨hat, hout, _⟩ := at_law hfo.1 (Int.natCast_nonneg i) hlt'
      obtain ⟨c, hc⟩ : ∃ c, (items d).toNat - i = c + 1 := ⟨(items d).toNat - i - 1, by omega⟩
      rw [hc, secO] at hd
      refine runS_x (I := inf) (J := jnf) ⟨false, false, []⟩ 9999 rfl (by repeat (first | exact obs_nil | refine obs_draw (by kernel_rfl) ?_ | refine obs_same ?_ | refine obs_and ?_ | refine obs_by (by (simp [inB] <;> omega)) ?_)) ?_
      refine runS_call rfl rfl rfl rfl rfl rfl rfl (a_subs n1 d i (by omega) (by omega) (by omega) hfo.1) ?_
      refine runS_x (I := inf) (J := jnf) ⟨false, false, []⟩ 9999 rfl (by repeat (first | exact obs_nil | refine obs_draw (by kernel_rfl) ?_ | refine obs_same ?_ | refine obs_and ?_ | refine obs_by (by (simp [inB] <;> omega)) ?_)) ?_
      refine runS_callF [.box 29 [crossS n2 l]] [.box 29 [crossS n2 l]] _ rfl rfl rfl rfl rfl rfl rfl (.box rfl .nil) rfl rfl (c_within n2 none l (atD d i) hlen (by omega)) ?_
      refine runS_x (I := inf) (J := jnf) ⟨false, false, []⟩ 9999 rfl (by repeat (first | exact obs_nil | refine obs_draw (by kernel_rfl) ?_ | refine obs_same ?_ | refine obs_and ?_ | refine obs_by (by (simp [inB] <;> omega)) ?_)) ?_
      refine runS_cond rfl (fun hq => ?_) (fun hq => ?_)
      · rw [if_pos hq] at hd
        refine runS_x (I := inf) (J := jnf) ⟨true, false, []⟩ 9999 rfl (by repeat (first | exact obs_nil | refine obs_draw (by kernel_rfl) ?_ | refine obs_same ?_ | refine obs_and ?_ | refine obs_by (by (simp [inB] <;> omega)) ?_)) ?_
        refine runS_tell 7 (encR (fun z : Int => [iv z]) 0 (offs ++ [(i : Int)])) rfl (m' := (offs ++ [(i : Int)]).length) (by simp) (encR_snoc rfl) rfl ?_
        refine runS_drop 8 (Nat.zero_le _) rfl (by repeat (first | exact .nil | refine .row (fun j hj => rfl) ?_ | refine .box rfl ?_ | refine .loop (scrub_under _ _) ?_ | refine .dfr ?_ | refine .gone ?_)) rfl rfl rfl (by repeat (first | exact .nil | refine .cons rfl rfl rfl (scrub_under _ _) ?_)) ?_
        refine ih (i + 1, offs ++ [(i : Int)]) _ _ (by dsimp only; omega) ⟨⟨rfl, rfl, rfl, ?_⟩, ?_, by dsimp only; omega, by simp; omega, ?_⟩
        · show iv (IntKind.wrap .i64 ((i : Int) + 1)) = _
          rw [w64 (by omega) (by omega)]; rfl
        · simp only [List.length_append, List.length_cons, List.length_nil]; rfl
        · rw [show (items d).toNat - (i + 1) = c by omega]; exact hd
      · rw [if_neg (by simp [hq])] at hd
        refine runS_x (I := inf) (J := jnf) ⟨true, false, []⟩ 9999 rfl (by repeat (first | exact obs_nil | refine obs_draw (by kernel_rfl) ?_ | refine obs_same ?_ | refine obs_and ?_ | refine obs_by (by (simp [inB] <;> omega)) ?_)) ?_
        refine runS_drop 8 (Nat.zero_le _) rfl (by repeat (first | exact .nil | refine .row (fun j hj => rfl) ?_ | refine .box rfl ?_ | refine .loop (scrub_under _ _) ?_ | refine .dfr ?_ | refine .gone ?_)) rfl rfl rfl (by repeat (first | exact .nil | refine .cons rfl rfl rfl (scrub_under _ _) ?_)) ?_
        refine ih (i + 1, offs) _ _ (by dsimp only; omega) ⟨⟨rfl, rfl, rfl, ?_⟩, rfl, by dsimp only; omega, by dsimp only; omega, ?_⟩
        · show iv (IntKind.wrap .i64 ((i : Int) + 1)) = _
          rw [w64 (by omega) (by omega)]; rfl
        · dsimp only; rw [show (items d).toNat - (i + 1) = c by omega]; exact hd
    · have hi' : (i : Int) = items d := by simp at hlt; omega
      rw [show (items d).toNat - i = 0 by omega, secO] at hd
      refine runS_x (I := inf) (J := jnf) ⟨false, false, []⟩ 9999 rfl (by repeat (first | exact obs_nil | refine obs_draw (by kernel_rfl) ?_ | refine obs_same ?_ | refine obs_and ?_ | refine obs_by (by (simp [inB] <;> omega)) ?_)) ?_
      refine runS_freezeCell 1 0 rfl rfl rfl rfl (fun j hj => rfl) rfl rfl rfl ?_
      refine runS_freeze 4 rfl rfl rfl (fun j hj => rfl) ?_
      refine runS_ret (I := inf) 0 rfl (Nat.le_refl _) rfl .nil rfl ⟨?_, rfl⟩
      rw [sectionG, ← hd]
      rfl
end Go.Iron.Try
