/- The array package's functions (seat Ytamhonbhoelohaa): Turned of the reference. -/
import Derived.Test.YtamhonbhoelohaaArrTC
namespace Go.Iron.Try
open Go.Proofs

theorem r_Turned (n1 n2 : Option Bool) (d : List Dim) (order : List Int) (hlen : order.length < 1000) : CallT Try.prog 65 [dimS n1 d, intS n2 order] [] (fun o A => o = .ret (turnedA (turnedF d order)) ∧ A = []) := by
  refine callS_body (n := 107) rfl rfl fun w ρ X => ?_
  refine runS_x (I := inf) (J := jnf) ⟨false, false, []⟩ 9999 rfl (by repeat (first | exact obs_nil | refine obs_draw (by kernel_rfl) ?_ | refine obs_same ?_ | refine obs_and ?_ | refine obs_by (by (simp [inB] <;> omega)) ?_)) ?_
  refine runS_call rfl rfl rfl rfl rfl rfl rfl (r_Valid n1 d) ?_
  refine runS_x (I := inf) (J := jnf) ⟨false, false, []⟩ 9999 rfl (by repeat (first | exact obs_nil | refine obs_draw (by kernel_rfl) ?_ | refine obs_same ?_ | refine obs_and ?_ | refine obs_by (by (simp [inB] <;> omega)) ?_)) ?_
  refine runS_cond rfl (fun h => ?_) (fun h => ?_)
  · have h' : ¬ validD d = true := by simpa using h
    refine runS_x (I := inf) (J := jnf) ⟨false, false, []⟩ 9999 rfl (by repeat (first | exact obs_nil | refine obs_draw (by kernel_rfl) ?_ | refine obs_same ?_ | refine obs_and ?_ | refine obs_by (by (simp [inB] <;> omega)) ?_)) ?_
    refine runS_says 5 rfl (says_nil0 (sz := 1) (r := nilI) (Nat.zero_le _)) ?_
    refine runS_says 4 rfl (says_nil0 (sz := 2) (r := nilD) (Nat.zero_le _)) ?_
    refine runS_ret (I := inf) 0 rfl (Nat.le_refl _) rfl .nil rfl ⟨?_, rfl⟩
    rw [turnedF, if_pos h']
    rfl
  have hv : validD d = true := by simpa using h
  have hfo := fit_valid hv
  have hit := items_bounds hfo.1
  refine runS_x (I := inf) (J := jnf) ⟨false, false, []⟩ 9999 rfl (by repeat (first | exact obs_nil | refine obs_draw (by kernel_rfl) ?_ | refine obs_same ?_ | refine obs_and ?_ | refine obs_by (by (simp [inB] <;> omega)) ?_)) ?_
  refine runS_cond rfl (fun h2 => ?_) (fun h2 => ?_)
  · have h2' : ¬ order.length = d.length := by simp at h2; omega
    refine runS_x (I := inf) (J := jnf) ⟨false, false, []⟩ 9999 rfl (by repeat (first | exact obs_nil | refine obs_draw (by kernel_rfl) ?_ | refine obs_same ?_ | refine obs_and ?_ | refine obs_by (by (simp [inB] <;> omega)) ?_)) ?_
    refine runS_says 5 rfl (says_nil0 (sz := 1) (r := nilI) (Nat.zero_le _)) ?_
    refine runS_says 4 rfl (says_nil0 (sz := 2) (r := nilD) (Nat.zero_le _)) ?_
    refine runS_ret (I := inf) 0 rfl (Nat.le_refl _) rfl .nil rfl ⟨?_, rfl⟩
    rw [turnedF, if_neg (by simp [hv]), if_pos h2']
    rfl
  have hl : order.length = d.length := by simp at h2; omega
  obtain ⟨E, hE⟩ : ∃ E, E = ordL d order [] [] := ⟨_, rfl⟩
  have hF : turnedF d order = turnG d order E := by
    rw [turnedF, if_neg (by simp [hv]), if_neg (by simp [hl]), hE]
  rw [hF]
  refine runS_x (I := inf) (J := jnf) ⟨false, false, []⟩ 9999 rfl (by repeat (first | exact obs_nil | refine obs_draw (by kernel_rfl) ?_ | refine obs_same ?_ | refine obs_and ?_ | refine obs_by (by (simp [inB] <;> omega)) ?_)) ?_
  refine runS_nilRow 7 63 2 (encR (fun p : Dim => [iv p.1, iv p.2]) (0, 0) []) rfl rfl ?_
  refine runS_while (fun (x : Nat × List Dim) τ ar => (τ 0 = dimS n1 d ∧ τ 1 = intS n2 order ∧ τ 7 = .row 0 x.2.length ∧ τ 8 = iv x.1) ∧
    ar = [.row 63 2 x.2.length x.2.length (encR (fun p : Dim => [iv p.1, iv p.2]) (0, 0) x.2)] ∧ x.1 ≤ order.length ∧ x.2.length ≤ x.1 ∧ ordL d (order.drop x.1) (order.take x.1) x.2 = E) (fun x => order.length - x.1)
    (0, []) ⟨⟨rfl, rfl, rfl, rfl⟩, rfl, Nat.zero_le _, Nat.zero_le _, hE.symm⟩ ?_
  rintro ⟨i, acc⟩ τ' ar' ⟨⟨g0, g1, g7, g8⟩, rfl, hi, hal, hd⟩ ih
  dsimp only at g7 g8 hi hal hd ih
  refine runS_says 0 (by exact g0) (Says.refl _) ?_; refine runS_says 1 (by exact g1) (Says.refl _) ?_; refine runS_says 7 (by exact g7) (Says.refl _) ?_; refine runS_says 8 (by exact g8) (Says.refl _) ?_
  refine runS_x (I := inf) (J := jnf) ⟨false, false, []⟩ 9999 rfl (by repeat (first | exact obs_nil | refine obs_draw (by kernel_rfl) ?_ | refine obs_same ?_ | refine obs_and ?_ | refine obs_by (by (simp [inB] <;> omega)) ?_)) ?_
  refine runS_cond rfl (fun hlt => ?_) (fun hlt => ?_)
  · have hlt' : i < order.length := by simpa using hlt
    rw [getD_drop (d := (0 : Int)) hlt', ordL] at hd
    refine runS_x (I := inf) (J := jnf) ⟨false, false, []⟩ 9999 rfl (by repeat (first | exact obs_nil | refine obs_draw (by kernel_rfl) ?_ | refine obs_same ?_ | refine obs_and ?_ | refine obs_by (by (simp [inB, hlt'] <;> omega)) ?_)) ?_
    generalize hx : order.getD ((i : Nat) : Int).toNat 0 = x
    have hx2 := hx
    rw [Int.toNat_natCast] at hx
    rw [hx] at hd
    refine runS_cond rfl (fun hc => ?_) (fun hc => ?_)
    · have hbad : x < 1 ∨ x > d.length ∨ x ∈ order.take i := by
        by_cases h1 : x < 1
        · exact .inl h1
        · refine .inr (.inl ?_)
          simpa [h1] using hc
      rw [if_pos hbad] at hd
      refine runS_x (I := inf) (J := jnf) ⟨false, false, []⟩ 9999 rfl (by repeat (first | exact obs_nil | refine obs_draw (by kernel_rfl) ?_ | refine obs_same ?_ | refine obs_and ?_ | refine obs_by (by (simp [inB] <;> omega)) ?_)) ?_
      refine runS_says 5 rfl (says_nil0 (sz := 1) (r := nilI) (Nat.zero_le _)) ?_
      refine runS_says 4 rfl (says_nil0 (sz := 2) (r := nilD) (Nat.zero_le _)) ?_
      refine runS_ret (I := inf) 0 rfl (Nat.le_refl _) rfl .nil rfl ⟨?_, rfl⟩
      rw [← hd]
      rfl
    have hgood : ¬ x < 1 ∧ ¬ x > d.length := by
      by_cases h1 : x < 1
      · simp [h1] at hc
      · simp [h1] at hc; exact ⟨h1, by omega⟩
    refine runS_x (I := inf) (J := jnf) ⟨false, false, []⟩ 9999 rfl (by repeat (first | exact obs_nil | refine obs_draw (by kernel_rfl) ?_ | refine obs_same ?_ | refine obs_and ?_ | refine obs_by (by (simp [inB] <;> omega)) ?_)) ?_
    refine runS_while (fun (k : Nat) τ ar => (τ 0 = dimS n1 d ∧ τ 1 = intS n2 order ∧ τ 7 = .row 0 acc.length ∧ τ 8 = iv i ∧ τ 9 = iv k) ∧
      ar = [.row 63 2 acc.length acc.length (encR (fun p : Dim => [iv p.1, iv p.2]) (0, 0) acc)] ∧ k ≤ i ∧ ¬ x ∈ order.take k) (fun k => i - k)
      0 ⟨⟨rfl, rfl, rfl, rfl, rfl⟩, rfl, Nat.zero_le _, by simp⟩ ?_
    rintro k τ' ar' ⟨⟨g0, g1, g7, g8, g9⟩, rfl, hk, hn⟩ ih2
    refine runS_says 0 (by exact g0) (Says.refl _) ?_; refine runS_says 1 (by exact g1) (Says.refl _) ?_; refine runS_says 7 (by exact g7) (Says.refl _) ?_; refine runS_says 8 (by exact g8) (Says.refl _) ?_; refine runS_says 9 (by exact g9) (Says.refl _) ?_
    refine runS_x (I := inf) (J := jnf) ⟨false, false, []⟩ 9999 rfl (by repeat (first | exact obs_nil | refine obs_draw (by kernel_rfl) ?_ | refine obs_same ?_ | refine obs_and ?_ | refine obs_by (by (simp [inB] <;> omega)) ?_)) ?_
    refine runS_cond rfl (fun hlt2 => ?_) (fun hlt2 => ?_)
    · have hlt2' : k < i := by simpa using hlt2
      refine runS_x (I := inf) (J := jnf) ⟨false, false, []⟩ 9999 rfl (by repeat (first | exact obs_nil | refine obs_draw (by kernel_rfl) ?_ | refine obs_same ?_ | refine obs_and ?_ | refine obs_by (by (simp [inB, hlt', hlt2'] <;> omega)) ?_)) ?_
      rw [hx2]
      have htk : order.take (k + 1) = order.take k ++ [order.getD k 0] := by
        rw [List.take_succ_eq_append_getElem (by omega), List.getD_eq_getElem?_getD, List.getElem?_eq_getElem (by omega), Option.getD_some]
      refine runS_cond rfl (fun hq => ?_) (fun hq => ?_)
      · have hbad : x < 1 ∨ x > d.length ∨ x ∈ order.take i := by
          refine .inr (.inr ?_)
          have he : order.getD k 0 = x := by simpa using hq
          have : x ∈ order.take (k + 1) := by rw [htk, he]; simp
          exact List.take_subset_take_left order (by omega) this
        rw [if_pos hbad] at hd
        refine runS_x (I := inf) (J := jnf) ⟨false, false, []⟩ 9999 rfl (by repeat (first | exact obs_nil | refine obs_draw (by kernel_rfl) ?_ | refine obs_same ?_ | refine obs_and ?_ | refine obs_by (by (simp [inB] <;> omega)) ?_)) ?_
        refine runS_says 5 rfl (says_nil0 (sz := 1) (r := nilI) (Nat.zero_le _)) ?_
        refine runS_says 4 rfl (says_nil0 (sz := 2) (r := nilD) (Nat.zero_le _)) ?_
        refine runS_ret (I := inf) 0 rfl (Nat.le_refl _) rfl .nil rfl ⟨?_, rfl⟩
        rw [← hd]
        rfl
      refine runS_x (I := inf) (J := jnf) ⟨false, false, []⟩ 9999 rfl (by repeat (first | exact obs_nil | refine obs_draw (by kernel_rfl) ?_ | refine obs_same ?_ | refine obs_and ?_ | refine obs_by (by (simp [inB] <;> omega)) ?_)) ?_
      refine ih2 (k + 1) _ _ (by omega) ⟨⟨rfl, rfl, rfl, rfl, ?_⟩, rfl, by omega, ?_⟩
      · show iv (IntKind.wrap .i64 ((k : Int) + 1)) = _
        rw [w64 (by omega) (by omega)]; rfl
      · rw [htk]
        have he : ¬ order.getD k 0 = x := by simpa using hq
        simp [hn]
        intro h
        exact he (by simp [List.getD_eq_getElem?_getD, h])
    have hk' : k = i := by simp at hlt2; omega
    subst hk'
    rw [if_neg (by rintro (h | h | h); exact hgood.1 h; exact hgood.2 h; exact hn h)] at hd
    have hw : IntKind.wrap .i64 (x - 1) = x - 1 := w64 (by omega) (by omega)
    have hin : inB (IntKind.wrap .i64 (order.getD ((k : Nat) : Int).toNat 0 - 1)) d.length = true := by rw [hx2, hw, inB_iff]; omega
    have hts : order.take k ++ [x] = order.take (k + 1) := by
      rw [List.take_succ_eq_append_getElem hlt', ← hx, List.getD_eq_getElem?_getD, List.getElem?_eq_getElem hlt', Option.getD_some]
    rw [hts] at hd
    refine runS_x (I := inf) (J := jnf) ⟨false, false, []⟩ 9999 rfl (by repeat (first | exact obs_nil | refine obs_draw (by kernel_rfl) ?_ | refine obs_same ?_ | refine obs_and ?_ | refine obs_by (by first | exact fun _ => hin | (simp [inB, hlt'] <;> omega)) ?_)) ?_
    rw [hx2, hw]
    refine runS_tell 0 (encR (fun p : Dim => [iv p.1, iv p.2]) (0, 0) (acc ++ [d.getD (x - 1).toNat (0, 0)])) rfl (m' := (acc ++ [d.getD (x - 1).toNat (0, 0)]).length) (by simp) (encR_snoc rfl) rfl ?_
    refine runS_drop 1 (Nat.zero_le _) rfl (by repeat (first | exact .nil | refine .row (fun j hj => rfl) ?_ | refine .box rfl ?_ | refine .loop (scrub_under _ _) ?_ | refine .dfr ?_ | refine .gone ?_)) rfl rfl rfl (by repeat (first | exact .nil | refine .cons rfl rfl rfl (scrub_under _ _) ?_)) ?_
    refine ih (k + 1, acc ++ [d.getD (x - 1).toNat (0, 0)]) _ _ (by dsimp only; omega) ⟨⟨rfl, rfl, ?_, ?_⟩, ?_, by dsimp only; omega, by simp; omega, hd⟩
    · simp only [List.length_append, List.length_cons, List.length_nil]; rfl
    · show iv (IntKind.wrap .i64 ((k : Int) + 1)) = _
      rw [w64 (by omega) (by omega)]; rfl
    · simp only [List.length_append, List.length_cons, List.length_nil]
  have hi' : i = order.length := by simp at hlt; omega
  subst hi'
  rw [List.drop_length, ordL] at hd
  subst hd
  have hP := ord_cases hfo.2.1 hfo.2.2 hl hE.symm
  obtain ⟨hf2, hi2, hl2, _⟩ := perm_fit hP hfo.1
  refine runS_freeze 7 rfl rfl rfl (fun j hj => rfl) ?_
  refine runS_says 7 rfl (y := dimS none acc) (Says.refl _) ?_
  refine runS_x (I := inf) (J := jnf) ⟨false, false, []⟩ 9999 rfl (by repeat (first | exact obs_nil | refine obs_draw (by kernel_rfl) ?_ | refine obs_same ?_ | refine obs_and ?_ | refine obs_by (by (simp [inB] <;> omega)) ?_)) ?_
  refine runS_nilRow 10 3 1 (encR (fun z : Int => [iv z]) 0 []) rfl rfl ?_
  refine runS_while (fun (x : Nat × List Int) τ ar => (τ 0 = dimS n1 d ∧ τ 1 = intS n2 order ∧ τ 7 = dimS none acc ∧ τ 10 = .row 1 x.2.length ∧ τ 11 = iv x.1) ∧
    ar = [.gone, .row 3 1 x.2.length x.2.length (encR (fun z : Int => [iv z]) 0 x.2)] ∧
    (x.1 : Int) ≤ items acc ∧ x.2.length ≤ x.1 ∧ turO d order acc ((items acc).toNat - x.1) x.1 x.2 = turO d order acc (items acc).toNat 0 []) (fun x => (items acc).toNat - x.1)
    (0, []) ⟨⟨rfl, rfl, rfl, rfl, rfl⟩, rfl, by dsimp only; omega, Nat.zero_le _, rfl⟩ ?_
  rintro ⟨i, offs⟩ τ' ar' ⟨⟨g0, g1, g7, g10, g11⟩, rfl, hi, hal2, hd⟩ ih
  dsimp only at g10 g11 hi hal2 hd ih
  refine runS_says 0 (by exact g0) (Says.refl _) ?_; refine runS_says 1 (by exact g1) (Says.refl _) ?_; refine runS_says 7 (by exact g7) (Says.refl _) ?_; refine runS_says 10 (by exact g10) (Says.refl _) ?_; refine runS_says 11 (by exact g11) (Says.refl _) ?_
  refine runS_x (I := inf) (J := jnf) ⟨false, false, []⟩ 9999 rfl (by repeat (first | exact obs_nil | refine obs_draw (by kernel_rfl) ?_ | refine obs_same ?_ | refine obs_and ?_ | refine obs_by (by (simp [inB] <;> omega)) ?_)) ?_
  refine runS_call rfl rfl rfl rfl rfl rfl rfl (r_items none acc (by omega) hf2) ?_
  refine runS_x (I := inf) (J := jnf) ⟨false, false, []⟩ 9999 rfl (by repeat (first | exact obs_nil | refine obs_draw (by kernel_rfl) ?_ | refine obs_same ?_ | refine obs_and ?_ | refine obs_by (by (simp [inB] <;> omega)) ?_)) ?_
  refine runS_cond rfl (fun hlt => ?_) (fun hlt => ?_)
  · have hlt' : (i : Int) < items acc := by simpa using hlt
    obtain ⟨hat, hout, _⟩ := at_law hf2 (Int.natCast_nonneg i) hlt'
    obtain ⟨pl, po⟩ := perm_at hP hf2 (Int.natCast_nonneg i) hlt'
    obtain ⟨c, hc⟩ : ∃ c, (items acc).toNat - i = c + 1 := ⟨(items acc).toNat - i - 1, by omega⟩
    rw [hc, turO] at hd
    refine runS_x (I := inf) (J := jnf) ⟨false, false, []⟩ 9999 rfl (by repeat (first | exact obs_nil | refine obs_draw (by kernel_rfl) ?_ | refine obs_same ?_ | refine obs_and ?_ | refine obs_by (by (simp [inB] <;> omega)) ?_)) ?_
    refine runS_call rfl rfl rfl rfl rfl rfl rfl (r_at none acc i (by omega) (by omega) (by omega) hf2) ?_
    refine runS_x (I := inf) (J := jnf) ⟨false, false, []⟩ 9999 rfl (by repeat (first | exact obs_nil | refine obs_draw (by kernel_rfl) ?_ | refine obs_same ?_ | refine obs_and ?_ | refine obs_by (by (simp [inB] <;> omega)) ?_)) ?_
    refine runS_tell 2 (intR (zeros d)) rfl (m' := (zeros d).length) (by simp [zeros]) (fun j hj => rep_intR _ _ (by simpa using hj)) rfl ?_
    refine runS_while (fun (x : Nat × List Int) τ ar => (τ 0 = dimS n1 d ∧ τ 1 = intS n2 order ∧ τ 7 = dimS none acc ∧ τ 10 = .row 1 offs.length ∧ τ 11 = iv i ∧ τ 12 = intS none (atD acc i) ∧ τ 13 = .row 2 0 ∧ τ 14 = iv x.1) ∧
      ar = [.gone, .row 3 1 offs.length offs.length (encR (fun z : Int => [iv z]) 0 offs), .row 3 1 0 x.2.length (intR x.2)] ∧
      x.1 ≤ order.length ∧ x.2.length = d.length ∧ permF (order.drop x.1) ((atD acc i).drop x.1) x.2 = permF order (atD acc i) (zeros d)) (fun x => order.length - x.1)
      (0, zeros d) ⟨⟨rfl, rfl, rfl, rfl, rfl, rfl, rfl, rfl⟩, rfl, Nat.zero_le _, by simp [zeros], rfl⟩ ?_
    rintro ⟨j, t⟩ τ' ar' ⟨⟨g0, g1, g7, g10, g11, g12, g13, g14⟩, rfl, hj, htl, hp⟩ ih2
    dsimp only at g14 hj htl hp ih2
    refine runS_says 0 (by exact g0) (Says.refl _) ?_; refine runS_says 1 (by exact g1) (Says.refl _) ?_; refine runS_says 7 (by exact g7) (Says.refl _) ?_; refine runS_says 10 (by exact g10) (Says.refl _) ?_; refine runS_says 11 (by exact g11) (Says.refl _) ?_; refine runS_says 12 (by exact g12) (Says.refl _) ?_; refine runS_says 13 (by exact g13) (Says.refl _) ?_; refine runS_says 14 (by exact g14) (Says.refl _) ?_
    refine runS_x (I := inf) (J := jnf) ⟨false, false, []⟩ 9999 rfl (by repeat (first | exact obs_nil | refine obs_draw (by kernel_rfl) ?_ | refine obs_same ?_ | refine obs_and ?_ | refine obs_by (by (simp [inB] <;> omega)) ?_)) ?_
    refine runS_cond rfl (fun hlt2 => ?_) (fun hlt2 => ?_)
    · have hlt2' : j < order.length := by simpa using hlt2
      obtain ⟨r1, r2⟩ := order_range hP hlt2'
      rw [getD_drop (d := (0 : Int)) hlt2', getD_drop (d := (0 : Int)) (xs := atD acc i) (by omega), permF] at hp
      generalize hx : order.getD j 0 = x at r1 r2 hp
      have hw : IntKind.wrap .i64 (x - 1) = x - 1 := w64 (by omega) (by omega)
      have hin : inB (IntKind.wrap .i64 (order.getD ((j : Nat) : Int).toNat 0 - 1)) t.length = true := by rw [Int.toNat_natCast, hx, hw, inB_iff]; omega
      have hin2 : inB (((IntKind.wrap .i64 (order.getD ((j : Nat) : Int).toNat 0 - 1)).toNat : Nat) : Int) t.length = true := by rw [Int.toNat_natCast, hx, hw, inB_iff]; omega
      refine runS_x (I := inf) (J := jnf) ⟨false, false, []⟩ 9999 rfl (by repeat (first | exact obs_nil | refine obs_draw (by kernel_rfl) ?_ | refine obs_same ?_ | refine obs_and ?_ | refine obs_by (by first | exact fun _ => hin | exact fun _ => hin2 | (simp [inB, hlt2', hat, hl2, hl] <;> omega)) ?_)) ?_
      refine runS_tell 2 (intR (t.set (x - 1).toNat ((atD acc i).getD j 0))) rfl (m' := (t.set (x - 1).toNat ((atD acc i).getD j 0)).length) (by simp) (fun k hk => ?_) rfl ?_
      · have := setR_enc (enc := fun z : Int => [iv z]) (d := 0) (ms := t) (k := (x - 1).toNat) (v := (atD acc i).getD j 0) rfl (by omega) k (by simpa using hk)
        refine this.trans ?_
        rw [Int.toNat_natCast, hx, hw]
        rfl
      refine ih2 (j + 1, t.set (x - 1).toNat ((atD acc i).getD j 0)) _ _ (by dsimp only; omega) ⟨⟨rfl, rfl, rfl, rfl, rfl, rfl, rfl, ?_⟩, rfl, by dsimp only; omega, by simpa using htl, hp⟩
      show iv (IntKind.wrap .i64 ((j : Int) + 1)) = _
      rw [w64 (by omega) (by omega)]; rfl
    have hj' : j = order.length := by simp at hlt2; omega
    subst hj'
    have hp' : t = permF order (atD acc i) (zeros d) := by rw [← hp, List.drop_length]; simp [permF]
    subst hp'
    refine runS_x (I := inf) (J := jnf) ⟨false, false, []⟩ 9999 rfl (by repeat (first | exact obs_nil | refine obs_draw (by kernel_rfl) ?_ | refine obs_same ?_ | refine obs_and ?_ | refine obs_by (by (simp [inB] <;> omega)) ?_)) ?_
    refine runS_freezeRow 2 rfl rfl (fun j hj => rfl) ?_
    refine runS_says 101 rfl (y := intS none (permF order (atD acc i) (zeros d))) (Says.refl _) ?_
    refine runS_call rfl rfl rfl rfl rfl rfl rfl (r_place n1 none d (permF order (atD acc i) (zeros d)) pl (by omega) hfo.1 po) ?_
    have ho : place d (permF order (atD acc i) (zeros d)) = offT d order acc i := by unfold offT; rw [if_pos po]
    rw [ho]
    refine runS_x (I := inf) (J := jnf) ⟨false, false, []⟩ 9999 rfl (by repeat (first | exact obs_nil | refine obs_draw (by kernel_rfl) ?_ | refine obs_same ?_ | refine obs_and ?_ | refine obs_by (by (simp [inB] <;> omega)) ?_)) ?_
    refine runS_tell 1 (encR (fun z : Int => [iv z]) 0 (offs ++ [offT d order acc i])) rfl (m' := (offs ++ [offT d order acc i]).length) (by simp) (encR_snoc rfl) rfl ?_
    refine runS_drop 2 (Nat.zero_le _) rfl (by repeat (first | exact .nil | refine .row (fun j hj => rfl) ?_ | refine .box rfl ?_ | refine .loop (scrub_under _ _) ?_ | refine .dfr ?_ | refine .gone ?_)) rfl rfl rfl (by repeat (first | exact .nil | refine .cons rfl rfl rfl (scrub_under _ _) ?_)) ?_
    refine ih (i + 1, offs ++ [offT d order acc i]) _ _ (by dsimp only; omega) ⟨⟨rfl, rfl, rfl, ?_, ?_⟩, ?_, by dsimp only; omega, by simp; omega, ?_⟩
    · simp only [List.length_append, List.length_cons, List.length_nil]; rfl
    · show iv (IntKind.wrap .i64 ((i : Int) + 1)) = _
      rw [w64 (by omega) (by omega)]; rfl
    · simp only [List.length_append, List.length_cons, List.length_nil]
    · rw [show (items acc).toNat - (i + 1) = c by omega]; exact hd
  have hi' : (i : Int) = items acc := by simp at hlt; omega
  rw [show (items acc).toNat - i = 0 by omega, turO] at hd
  refine runS_x (I := inf) (J := jnf) ⟨false, false, []⟩ 9999 rfl (by repeat (first | exact obs_nil | refine obs_draw (by kernel_rfl) ?_ | refine obs_same ?_ | refine obs_and ?_ | refine obs_by (by (simp [inB] <;> omega)) ?_)) ?_
  refine runS_freeze 5 rfl rfl rfl (fun j hj => rfl) ?_
  refine runS_ret (I := inf) 0 rfl (Nat.le_refl _) rfl .nil rfl ⟨?_, rfl⟩
  rw [turnG, ← hd]
  rfl
end Go.Iron.Try
