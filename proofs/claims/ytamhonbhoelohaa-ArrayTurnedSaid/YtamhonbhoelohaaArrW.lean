/- The array package's functions (seat Ytamhonbhoelohaa): Section of the reference. -/
import Derived.Test.YtamhonbhoelohaaArrV
namespace Go.Iron.Try
open Go.Proofs

theorem r_Section (n1 n2 : Option Bool) (d : List Dim) (l : List Cross) (hlen : l.length < 1000) : CallT Try.prog 52 [dimS n1 d, crossS n2 l] [] (fun o A => o = .ret (sectionA (sectionF d l)) ∧ A = []) := by
  refine callS_body (n := 130) rfl rfl fun w ρ X => ?_
  refine runS_x (I := inf) (J := jnf) ⟨false, false, []⟩ 9999 rfl (by repeat (first | exact obs_nil | refine obs_draw (by kernel_rfl) ?_ | refine obs_same ?_ | refine obs_and ?_ | refine obs_by (by (simp [inB] <;> omega)) ?_)) ?_
  refine runS_call rfl rfl rfl rfl rfl rfl rfl (r_Valid n1 d) ?_
  refine runS_x (I := inf) (J := jnf) ⟨false, false, []⟩ 9999 rfl (by repeat (first | exact obs_nil | refine obs_draw (by kernel_rfl) ?_ | refine obs_same ?_ | refine obs_and ?_ | refine obs_by (by (simp [inB] <;> omega)) ?_)) ?_
  refine runS_cond rfl (fun h => ?_) (fun h => ?_)
  · have h' : (!validD d || l.any badC) = true := by simp at h ⊢; exact .inl h
    refine runS_x (I := inf) (J := jnf) ⟨false, false, []⟩ 9999 rfl (by repeat (first | exact obs_nil | refine obs_draw (by kernel_rfl) ?_ | refine obs_same ?_ | refine obs_and ?_ | refine obs_by (by (simp [inB] <;> omega)) ?_)) ?_
    refine runS_says 5 rfl (says_nil0 (sz := 1) (r := nilI) (Nat.zero_le _)) ?_
    refine runS_says 4 rfl (says_nil0 (sz := 2) (r := nilD) (Nat.zero_le _)) ?_
    refine runS_ret (I := inf) 0 rfl (Nat.le_refl _) rfl .nil rfl ⟨?_, rfl⟩
    rw [sectionF, if_pos h']
    rfl
  have hv : validD d = true := by simpa using h
  have hfo := fit_valid hv
  have hit := items_bounds hfo.1
  refine runS_x (I := inf) (J := jnf) ⟨false, false, []⟩ 9999 rfl (by repeat (first | exact obs_nil | refine obs_draw (by kernel_rfl) ?_ | refine obs_same ?_ | refine obs_and ?_ | refine obs_by (by (simp [inB] <;> omega)) ?_)) ?_
  refine runS_while (fun (i : Nat) τ ar => (τ 0 = dimS n1 d ∧ τ 1 = crossS n2 l ∧ τ 9 = iv i) ∧ ar = [] ∧ i ≤ l.length ∧ (l.drop i).any badC = l.any badC) (fun i => l.length - i) 0
    ⟨⟨rfl, rfl, rfl⟩, rfl, Nat.zero_le _, rfl⟩ ?_
  rintro i τ' ar' ⟨⟨g0, g1, g9⟩, rfl, hi, hd⟩ ih
  refine runS_says 0 (by exact g0) (Says.refl _) ?_; refine runS_says 1 (by exact g1) (Says.refl _) ?_; refine runS_says 9 (by exact g9) (Says.refl _) ?_
  refine runS_x (I := inf) (J := jnf) ⟨false, false, []⟩ 9999 rfl (by repeat (first | exact obs_nil | refine obs_draw (by kernel_rfl) ?_ | refine obs_same ?_ | refine obs_and ?_ | refine obs_by (by (simp [inB] <;> omega)) ?_)) ?_
  refine runS_cond rfl (fun hlt => ?_) (fun hlt => ?_)
  · have hlt' : i < l.length := by simpa using hlt
    rw [getD_drop (d := ((0, false) : Cross)) hlt', List.any_cons] at hd
    refine runS_x (I := inf) (J := jnf) ⟨false, false, []⟩ 9999 rfl (by repeat (first | exact obs_nil | refine obs_draw (by kernel_rfl) ?_ | refine obs_same ?_ | refine obs_and ?_ | refine obs_by (by (simp [inB, hlt'] <;> omega)) ?_)) ?_
    generalize hx : l.getD ((i : Nat) : Int).toNat (0, false) = x
    rw [Int.toNat_natCast] at hx
    rw [hx] at hd
    refine runS_cond rfl (fun hc => ?_) (fun hc => ?_)
    · have hb : badC x = true := by unfold badC; cases h2 : x.2 <;> simp_all
      rw [hb, Bool.true_or] at hd
      refine runS_x (I := inf) (J := jnf) ⟨false, false, []⟩ 9999 rfl (by repeat (first | exact obs_nil | refine obs_draw (by kernel_rfl) ?_ | refine obs_same ?_ | refine obs_and ?_ | refine obs_by (by (simp [inB] <;> omega)) ?_)) ?_
      refine runS_says 5 rfl (says_nil0 (sz := 1) (r := nilI) (Nat.zero_le _)) ?_
      refine runS_says 4 rfl (says_nil0 (sz := 2) (r := nilD) (Nat.zero_le _)) ?_
      refine runS_ret (I := inf) 0 rfl (Nat.le_refl _) rfl .nil rfl ⟨?_, rfl⟩
      rw [sectionF, if_pos (by rw [← hd]; simp)]
      rfl
    · have hb : badC x = false := by unfold badC; cases h2 : x.2 <;> simp_all
      rw [hb, Bool.false_or] at hd
      refine runS_x (I := inf) (J := jnf) ⟨false, false, []⟩ 9999 rfl (by repeat (first | exact obs_nil | refine obs_draw (by kernel_rfl) ?_ | refine obs_same ?_ | refine obs_and ?_ | refine obs_by (by (simp [inB] <;> omega)) ?_)) ?_
      refine ih (i + 1) _ _ (by omega) ⟨⟨rfl, rfl, ?_⟩, rfl, by omega, hd⟩
      show iv (IntKind.wrap .i64 ((i : Int) + 1)) = _
      rw [w64 (by omega) (by omega)]; rfl
  have hi' : i = l.length := by simp at hlt; omega
  subst hi'
  rw [List.drop_length, List.any_nil] at hd
  have h' : ¬ (!validD d || l.any badC) = true := by rw [← hd, hv]; simp
  refine runS_x (I := inf) (J := jnf) ⟨false, false, []⟩ 9999 rfl (by repeat (first | exact obs_nil | refine obs_draw (by kernel_rfl) ?_ | refine obs_same ?_ | refine obs_and ?_ | refine obs_by (by (simp [inB] <;> omega)) ?_)) ?_
  refine runS_cond rfl (fun h2 => ?_) (fun h2 => ?_)
  · have h2' : ¬ l.length = d.length := by simp at h2; omega
    refine runS_x (I := inf) (J := jnf) ⟨false, false, []⟩ 9999 rfl (by repeat (first | exact obs_nil | refine obs_draw (by kernel_rfl) ?_ | refine obs_same ?_ | refine obs_and ?_ | refine obs_by (by (simp [inB] <;> omega)) ?_)) ?_
    refine runS_says 5 rfl (says_nil0 (sz := 1) (r := nilI) (Nat.zero_le _)) ?_
    refine runS_says 4 rfl (says_nil0 (sz := 2) (r := nilD) (Nat.zero_le _)) ?_
    refine runS_ret (I := inf) 0 rfl (Nat.le_refl _) rfl .nil rfl ⟨?_, rfl⟩
    rw [sectionF, if_neg h', if_pos h2']
    rfl
  have hl : l.length = d.length := by simp at h2; omega
  obtain ⟨E, hE⟩ : ∃ E, E = secL d l 0 [] := ⟨_, rfl⟩
  have hF : sectionF d l = sectionG d l E := by
    rw [sectionF, if_neg h', if_neg (by simp [hl]), hE]
  rw [hF]
  refine runS_x (I := inf) (J := jnf) ⟨false, false, []⟩ 9999 rfl (by repeat (first | exact obs_nil | refine obs_draw (by kernel_rfl) ?_ | refine obs_same ?_ | refine obs_and ?_ | refine obs_by (by (simp [inB] <;> omega)) ?_)) ?_
  refine runS_nilRow 10 63 2 (encR (fun p : Dim => [iv p.1, iv p.2]) (0, 0) []) rfl rfl ?_
  refine runS_while (fun (x : Nat × List Dim) τ ar => (τ 0 = dimS n1 d ∧ τ 1 = crossS n2 l ∧ τ 10 = .row 0 x.2.length ∧ τ 11 = iv x.1) ∧
    ar = [.row 63 2 x.2.length x.2.length (encR (fun p : Dim => [iv p.1, iv p.2]) (0, 0) x.2)] ∧ x.1 ≤ l.length ∧ x.2.length ≤ x.1 ∧ secL d (l.drop x.1) x.1 x.2 = E) (fun x => l.length - x.1)
    (0, []) ⟨⟨rfl, rfl, rfl, rfl⟩, rfl, Nat.zero_le _, Nat.zero_le _, hE.symm⟩ ?_
  rintro ⟨i, acc⟩ τ' ar' ⟨⟨g0, g1, g10, g11⟩, rfl, hi, hal, hd⟩ ih
  dsimp only at g10 g11 hi hal hd ih
  refine runS_says 0 (by exact g0) (Says.refl _) ?_; refine runS_says 1 (by exact g1) (Says.refl _) ?_; refine runS_says 10 (by exact g10) (Says.refl _) ?_; refine runS_says 11 (by exact g11) (Says.refl _) ?_
  refine runS_x (I := inf) (J := jnf) ⟨false, false, []⟩ 9999 rfl (by repeat (first | exact obs_nil | refine obs_draw (by kernel_rfl) ?_ | refine obs_same ?_ | refine obs_and ?_ | refine obs_by (by (simp [inB] <;> omega)) ?_)) ?_
  refine runS_cond rfl (fun hlt => ?_) (fun hlt => ?_)
  · have hlt' : i < l.length := by simpa using hlt
    rw [getD_drop (d := ((0, false) : Cross)) hlt', secL] at hd
    refine runS_x (I := inf) (J := jnf) ⟨false, false, []⟩ 9999 rfl (by repeat (first | exact obs_nil | refine obs_draw (by kernel_rfl) ?_ | refine obs_same ?_ | refine obs_and ?_ | refine obs_by (by (simp [inB, hlt'] <;> omega)) ?_)) ?_
    generalize hx : l.getD ((i : Nat) : Int).toNat (0, false) = x
    have hx2 := hx
    rw [Int.toNat_natCast] at hx
    rw [hx] at hd
    refine runS_cond rfl (fun hc => ?_) (fun hc => ?_)
    · rw [if_pos hc] at hd
      refine runS_x (I := inf) (J := jnf) ⟨false, false, []⟩ 9999 rfl (by repeat (first | exact obs_nil | refine obs_draw (by kernel_rfl) ?_ | refine obs_same ?_ | refine obs_and ?_ | refine obs_by (by (simp [inB, hlt', hl] <;> omega)) ?_)) ?_
      refine runS_tell 0 (encR (fun p : Dim => [iv p.1, iv p.2]) (0, 0) (acc ++ [d.getD i (0, 0)])) rfl (m' := (acc ++ [d.getD i (0, 0)]).length) (by simp) (encR_snoc rfl) rfl ?_
      refine runS_drop 1 (Nat.zero_le _) rfl (by repeat (first | exact .nil | refine .row (fun j hj => rfl) ?_ | refine .box rfl ?_ | refine .loop (scrub_under _ _) ?_ | refine .dfr ?_ | refine .gone ?_)) rfl rfl rfl (by repeat (first | exact .nil | refine .cons rfl rfl rfl (scrub_under _ _) ?_)) ?_
      refine ih (i + 1, acc ++ [d.getD i (0, 0)]) _ _ (by dsimp only; omega) ⟨⟨rfl, rfl, ?_, ?_⟩, ?_, by dsimp only; omega, by simp; omega, hd⟩
      · simp only [List.length_append, List.length_cons, List.length_nil]; rfl
      · show iv (IntKind.wrap .i64 ((i : Int) + 1)) = _
        rw [w64 (by omega) (by omega)]; rfl
      · simp only [List.length_append, List.length_cons, List.length_nil]
    · rw [if_neg (by simp [hc])] at hd
      refine runS_x (I := inf) (J := jnf) ⟨false, false, []⟩ 9999 rfl (by repeat (first | exact obs_nil | refine obs_draw (by kernel_rfl) ?_ | refine obs_same ?_ | refine obs_and ?_ | refine obs_by (by (simp [inB, hlt', hl] <;> omega)) ?_)) ?_
      rw [hx2]
      refine runS_cond rfl (fun hq => ?_) (fun hq => ?_)
      · have hq' : x.1 < (d.getD i (0, 0)).1 ∨ x.1 > (d.getD i (0, 0)).2 := by
          by_cases h1 : x.1 < (d.getD i (0, 0)).1 <;> simp_all
        rw [if_pos hq'] at hd
        refine runS_x (I := inf) (J := jnf) ⟨false, false, []⟩ 9999 rfl (by repeat (first | exact obs_nil | refine obs_draw (by kernel_rfl) ?_ | refine obs_same ?_ | refine obs_and ?_ | refine obs_by (by (simp [inB] <;> omega)) ?_)) ?_
        refine runS_says 5 rfl (says_nil0 (sz := 1) (r := nilI) (Nat.zero_le _)) ?_
        refine runS_says 4 rfl (says_nil0 (sz := 2) (r := nilD) (Nat.zero_le _)) ?_
        refine runS_ret (I := inf) 0 rfl (Nat.le_refl _) rfl .nil rfl ⟨?_, rfl⟩
        rw [← hd]
        show Out.ret (.tup [_, _, iv 7, iv (IntKind.wrap .i64 ((i : Int) + 1)), iv 0]) = _
        rw [w64 (by omega) (by omega)]
        rfl
      · have hq' : ¬ (x.1 < (d.getD i (0, 0)).1 ∨ x.1 > (d.getD i (0, 0)).2) := by
          simp only [Int.toNat_natCast] at hq
          rintro (h1 | h1)
          · rw [decide_eq_true h1] at hq; simp at hq
          · rw [show decide (x.1 > (d.getD i (0, 0)).2) = true from decide_eq_true h1] at hq; split at hq <;> cases hq
        rw [if_neg hq'] at hd
        refine runS_x (I := inf) (J := jnf) ⟨false, false, []⟩ 9999 rfl (by repeat (first | exact obs_nil | refine obs_draw (by kernel_rfl) ?_ | refine obs_same ?_ | refine obs_and ?_ | refine obs_by (by (simp [inB] <;> omega)) ?_)) ?_
        refine runS_drop 1 (Nat.zero_le _) rfl (by repeat (first | exact .nil | refine .row (fun j hj => rfl) ?_ | refine .box rfl ?_ | refine .loop (scrub_under _ _) ?_ | refine .dfr ?_ | refine .gone ?_)) rfl rfl rfl (by repeat (first | exact .nil | refine .cons rfl rfl rfl (scrub_under _ _) ?_)) ?_
        refine ih (i + 1, acc) _ _ (by dsimp only; omega) ⟨⟨rfl, rfl, rfl, ?_⟩, rfl, by dsimp only; omega, by dsimp only; omega, hd⟩
        show iv (IntKind.wrap .i64 ((i : Int) + 1)) = _
        rw [w64 (by omega) (by omega)]; rfl
  have hi' : i = l.length := by simp at hlt; omega
  subst hi'
  rw [List.drop_length, secL] at hd
  subst hd
  refine runS_x (I := inf) (J := jnf) ⟨false, false, []⟩ 9999 rfl (by repeat (first | exact obs_nil | refine obs_draw (by kernel_rfl) ?_ | refine obs_same ?_ | refine obs_and ?_ | refine obs_by (by (simp [inB] <;> omega)) ?_)) ?_
  refine runS_nilRow 12 3 1 (encR (fun z : Int => [iv z]) 0 []) rfl rfl ?_
  refine runS_while (fun (x : Nat × List Int) τ ar => (τ 0 = dimS n1 d ∧ τ 1 = crossS n2 l ∧ τ 10 = .row 0 acc.length ∧ τ 12 = .row 1 x.2.length ∧ τ 13 = iv x.1) ∧
    ar = [.row 63 2 acc.length acc.length (encR (fun p : Dim => [iv p.1, iv p.2]) (0, 0) acc), .row 3 1 x.2.length x.2.length (encR (fun z : Int => [iv z]) 0 x.2)] ∧
    (x.1 : Int) ≤ items d ∧ x.2.length ≤ x.1 ∧ secO d l ((items d).toNat - x.1) x.1 x.2 = secO d l (items d).toNat 0 []) (fun x => (items d).toNat - x.1)
    (0, []) ⟨⟨rfl, rfl, rfl, rfl, rfl⟩, rfl, by dsimp only; omega, Nat.zero_le _, rfl⟩ ?_
  rintro ⟨i, offs⟩ τ' ar' ⟨⟨g0, g1, g10, g12, g13⟩, rfl, hi, hal2, hd⟩ ih
  dsimp only at g12 g13 hi hal2 hd ih
  refine runS_says 0 (by exact g0) (Says.refl _) ?_; refine runS_says 1 (by exact g1) (Says.refl _) ?_; refine runS_says 10 (by exact g10) (Says.refl _) ?_; refine runS_says 12 (by exact g12) (Says.refl _) ?_; refine runS_says 13 (by exact g13) (Says.refl _) ?_
  refine runS_x (I := inf) (J := jnf) ⟨false, false, []⟩ 9999 rfl (by repeat (first | exact obs_nil | refine obs_draw (by kernel_rfl) ?_ | refine obs_same ?_ | refine obs_and ?_ | refine obs_by (by (simp [inB] <;> omega)) ?_)) ?_
  refine runS_call rfl rfl rfl rfl rfl rfl rfl (r_items n1 d (by omega) hfo.1) ?_
  refine runS_x (I := inf) (J := jnf) ⟨false, false, []⟩ 9999 rfl (by repeat (first | exact obs_nil | refine obs_draw (by kernel_rfl) ?_ | refine obs_same ?_ | refine obs_and ?_ | refine obs_by (by (simp [inB] <;> omega)) ?_)) ?_
  refine runS_cond rfl (fun hlt => ?_) (fun hlt => ?_)
  · have hlt' : (i : Int) < items d := by simpa using hlt
    obtain ⟨hat, hout, _⟩ := at_law hfo.1 (Int.natCast_nonneg i) hlt'
    obtain ⟨c, hc⟩ : ∃ c, (items d).toNat - i = c + 1 := ⟨(items d).toNat - i - 1, by omega⟩
    rw [hc, secO] at hd
    refine runS_x (I := inf) (J := jnf) ⟨false, false, []⟩ 9999 rfl (by repeat (first | exact obs_nil | refine obs_draw (by kernel_rfl) ?_ | refine obs_same ?_ | refine obs_and ?_ | refine obs_by (by (simp [inB] <;> omega)) ?_)) ?_
    refine runS_call rfl rfl rfl rfl rfl rfl rfl (r_at n1 d i (by omega) (by omega) (by omega) hfo.1) ?_
    refine runS_x (I := inf) (J := jnf) ⟨false, false, []⟩ 9999 rfl (by repeat (first | exact obs_nil | refine obs_draw (by kernel_rfl) ?_ | refine obs_same ?_ | refine obs_and ?_ | refine obs_by (by (simp [inB] <;> omega)) ?_)) ?_
    refine runS_while (fun (x : Nat × Bool) τ ar => (τ 0 = dimS n1 d ∧ τ 1 = crossS n2 l ∧ τ 10 = .row 0 acc.length ∧ τ 12 = .row 1 offs.length ∧ τ 13 = iv i ∧ τ 14 = intS none (atD d i) ∧ τ 15 = bv x.2 ∧ τ 16 = iv x.1) ∧
      ar = [.row 63 2 acc.length acc.length (encR (fun p : Dim => [iv p.1, iv p.2]) (0, 0) acc), .row 3 1 offs.length offs.length (encR (fun z : Int => [iv z]) 0 offs)] ∧
      x.1 ≤ l.length ∧ (x.2 && withinL (l.drop x.1) (atD d i) x.1) = withinL l (atD d i) 0) (fun x => l.length - x.1)
      (0, true) ⟨⟨rfl, rfl, rfl, rfl, rfl, rfl, rfl, rfl⟩, rfl, Nat.zero_le _, rfl⟩ ?_
    rintro ⟨k, is⟩ τ' ar' ⟨⟨g0, g1, g10, g12, g13, g14, g15, g16⟩, rfl, hk, hw⟩ ih2
    dsimp only at g15 g16 hk hw ih2
    refine runS_says 0 (by exact g0) (Says.refl _) ?_; refine runS_says 1 (by exact g1) (Says.refl _) ?_; refine runS_says 10 (by exact g10) (Says.refl _) ?_; refine runS_says 12 (by exact g12) (Says.refl _) ?_; refine runS_says 13 (by exact g13) (Says.refl _) ?_; refine runS_says 14 (by exact g14) (Says.refl _) ?_; refine runS_says 15 (by exact g15) (Says.refl _) ?_; refine runS_says 16 (by exact g16) (Says.refl _) ?_
    refine runS_x (I := inf) (J := jnf) ⟨false, false, []⟩ 9999 rfl (by repeat (first | exact obs_nil | refine obs_draw (by kernel_rfl) ?_ | refine obs_same ?_ | refine obs_and ?_ | refine obs_by (by (simp [inB] <;> omega)) ?_)) ?_
    refine runS_cond rfl (fun hlt2 => ?_) (fun hlt2 => ?_)
    · have hlt2' : k < l.length := by simpa using hlt2
      rw [getD_drop (d := ((0, false) : Cross)) hlt2', withinL] at hw
      refine runS_x (I := inf) (J := jnf) ⟨false, false, []⟩ 9999 rfl (by repeat (first | exact obs_nil | refine obs_draw (by kernel_rfl) ?_ | refine obs_same ?_ | refine obs_and ?_ | refine obs_by (by (simp [inB, hlt2', hat, hl] <;> omega)) ?_)) ?_
      refine ih2 (k + 1, is && ((l.getD k (0, false)).2 || decide ((atD d i).getD k 0 = (l.getD k (0, false)).1))) _ _ (by dsimp only; omega) ⟨⟨rfl, rfl, rfl, rfl, rfl, rfl, ?_, ?_⟩, rfl, by dsimp only; omega, ?_⟩
      · refine congrArg bv (?_ : (_ : Bool) = _)
        rw [Int.toNat_natCast]
        generalize l.getD k (0, false) = x
        cases is <;> cases h2 : x.2 <;> simp [h2]
        rfl
      · show iv (IntKind.wrap .i64 ((k : Int) + 1)) = _
        rw [w64 (by omega) (by omega)]; rfl
      · dsimp only
        rw [Bool.and_assoc]
        exact hw
    have hk' : k = l.length := by simp at hlt2; omega
    subst hk'
    rw [List.drop_length, withinL, Bool.and_true] at hw
    refine runS_x (I := inf) (J := jnf) ⟨false, false, []⟩ 9999 rfl (by repeat (first | exact obs_nil | refine obs_draw (by kernel_rfl) ?_ | refine obs_same ?_ | refine obs_and ?_ | refine obs_by (by (simp [inB] <;> omega)) ?_)) ?_
    refine runS_cond rfl (fun hq => ?_) (fun hq => ?_)
    · rw [if_pos (by rw [← hw]; exact hq)] at hd
      refine runS_x (I := inf) (J := jnf) ⟨false, false, []⟩ 9999 rfl (by repeat (first | exact obs_nil | refine obs_draw (by kernel_rfl) ?_ | refine obs_same ?_ | refine obs_and ?_ | refine obs_by (by (simp [inB] <;> omega)) ?_)) ?_
      refine runS_tell 1 (encR (fun z : Int => [iv z]) 0 (offs ++ [(i : Int)])) rfl (m' := (offs ++ [(i : Int)]).length) (by simp) (encR_snoc rfl) rfl ?_
      refine runS_drop 2 (Nat.zero_le _) rfl (by repeat (first | exact .nil | refine .row (fun j hj => rfl) ?_ | refine .box rfl ?_ | refine .loop (scrub_under _ _) ?_ | refine .dfr ?_ | refine .gone ?_)) rfl rfl rfl (by repeat (first | exact .nil | refine .cons rfl rfl rfl (scrub_under _ _) ?_)) ?_
      refine ih (i + 1, offs ++ [(i : Int)]) _ _ (by dsimp only; omega) ⟨⟨rfl, rfl, rfl, ?_, ?_⟩, ?_, by dsimp only; omega, by simp; omega, ?_⟩
      · simp only [List.length_append, List.length_cons, List.length_nil]; rfl
      · show iv (IntKind.wrap .i64 ((i : Int) + 1)) = _
        rw [w64 (by omega) (by omega)]; rfl
      · simp only [List.length_append, List.length_cons, List.length_nil]
      · rw [show (items d).toNat - (i + 1) = c by omega]; exact hd
    · rw [if_neg (by rw [← hw]; simp [hq])] at hd
      refine runS_x (I := inf) (J := jnf) ⟨false, false, []⟩ 9999 rfl (by repeat (first | exact obs_nil | refine obs_draw (by kernel_rfl) ?_ | refine obs_same ?_ | refine obs_and ?_ | refine obs_by (by (simp [inB] <;> omega)) ?_)) ?_
      refine ih (i + 1, offs) _ _ (by dsimp only; omega) ⟨⟨rfl, rfl, rfl, rfl, ?_⟩, rfl, by dsimp only; omega, by dsimp only; omega, ?_⟩
      · show iv (IntKind.wrap .i64 ((i : Int) + 1)) = _
        rw [w64 (by omega) (by omega)]; rfl
      · dsimp only; rw [show (items d).toNat - (i + 1) = c by omega]; exact hd
  have hi' : (i : Int) = items d := by simp at hlt; omega
  rw [show (items d).toNat - i = 0 by omega, secO] at hd
  refine runS_x (I := inf) (J := jnf) ⟨false, false, []⟩ 9999 rfl (by repeat (first | exact obs_nil | refine obs_draw (by kernel_rfl) ?_ | refine obs_same ?_ | refine obs_and ?_ | refine obs_by (by (simp [inB] <;> omega)) ?_)) ?_
  refine runS_freeze 4 rfl rfl rfl (fun j hj => rfl) ?_
  refine runS_freeze 5 rfl rfl rfl (fun j hj => rfl) ?_
  refine runS_ret (I := inf) 0 rfl (Nat.le_refl _) rfl .nil rfl ⟨?_, rfl⟩
  rw [sectionG, ← hd]
  rfl
end Go.Iron.Try
