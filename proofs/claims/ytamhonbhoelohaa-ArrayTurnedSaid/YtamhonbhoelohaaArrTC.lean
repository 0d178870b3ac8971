/- The array package's functions (seat Ytamhonbhoelohaa): Turned. -/
import Derived.Test.YtamhonbhoelohaaArrTB
namespace Go.Iron.Try
open Go.Proofs

theorem says_slc {sz m m' : Nat} {nl : Option Bool} {r r' : Nat → List AV} (hm : m' = m) (hr : ∀ i, i < m → r' i = r i) : Says (.slc sz nl m r) (.slc sz nl m' r') := fun w O ρ v h => by
  subst hm
  obtain ⟨A, cap, g, rfl, h1, h2, h3, h4, h5, h6, h7⟩ := rv_slc h
  exact .slc rfl h1 h2 h3 (fun i hi => by rw [hr i hi]; exact h4 i hi) h5 g (fun i j x a hi hx => h6 i j x a hi (by rw [← hr i hi]; exact hx)) (fun i j x hi hx => h7 i j x hi (by rw [← hr i hi]; exact hx))

def idxI : List Int → Int → Int → Int
  | [], _, _ => -1
  | y :: l, x, i => if x = y then i else idxI l x (i + 1)
theorem idxI_mem : ∀ (l : List Int) (x i : Int), 0 ≤ i → decide (idxI l x i ≥ 0) = decide (x ∈ l)
  | [], x, i, h => by simp [idxI]
  | y :: l, x, i, h => by
    unfold idxI
    by_cases hb : x = y
    · rw [if_pos hb]; simp [hb, h]
    · rw [if_neg hb, idxI_mem l x (i + 1) (by omega)]; simp [hb]

theorem i_index (nl : Option Bool) (m : Nat) (r : Nat → List AV) (l : List Int) (x : Int) (hm : l.length = m) (hr : ∀ i, i < m → intR l i = r i) (hlen : l.length < 1000) : CallT Try.prog 159 [.slc 1 nl m r, iv x] [] (fun o A => o = .ret (iv (idxI l x 0)) ∧ A = []) := by
  refine callS_body (n := 19) rfl rfl fun w ρ X => ?_
  refine runS_says 0 rfl (y := intS nl l) (says_slc hm hr) ?_
  refine runS_x (I := inf) (J := jnf) ⟨false, false, []⟩ 9999 rfl (by repeat (first | exact obs_nil | refine obs_draw (by kernel_rfl) ?_ | refine obs_same ?_ | refine obs_and ?_ | refine obs_by (by (simp [inB] <;> omega)) ?_)) ?_
  refine runS_while (fun (i : Nat) τ ar => (τ 0 = intS nl l ∧ τ 1 = iv x ∧ τ 7 = iv l.length ∧ τ 8 = iv i) ∧ ar = [] ∧ i ≤ l.length ∧ idxI (l.drop i) x i = idxI l x 0) (fun i => l.length - i) 0
    ⟨⟨rfl, rfl, rfl, rfl⟩, rfl, Nat.zero_le _, rfl⟩ ?_
  rintro i τ' ar' ⟨⟨g0, g1, g7, g8⟩, rfl, hi, hd⟩ ih
  refine runS_says 0 (by exact g0) (Says.refl _) ?_; refine runS_says 1 (by exact g1) (Says.refl _) ?_; refine runS_says 7 (by exact g7) (Says.refl _) ?_; refine runS_says 8 (by exact g8) (Says.refl _) ?_
  refine runS_x (I := inf) (J := jnf) ⟨false, false, []⟩ 9999 rfl (by repeat (first | exact obs_nil | refine obs_draw (by kernel_rfl) ?_ | refine obs_same ?_ | refine obs_and ?_ | refine obs_by (by (simp [inB] <;> omega)) ?_)) ?_
  refine runS_cond rfl (fun hlt => ?_) (fun hlt => ?_)
  · have hlt' : i < l.length := by simpa using hlt
    rw [getD_drop (d := (0 : Int)) hlt', idxI] at hd
    refine runS_x (I := inf) (J := jnf) ⟨false, false, []⟩ 9999 rfl (by repeat (first | exact obs_nil | refine obs_draw (by kernel_rfl) ?_ | refine obs_same ?_ | refine obs_and ?_ | refine obs_by (by (simp [inB, hlt'] <;> omega)) ?_)) ?_
    rw [Int.toNat_natCast]
    refine runS_cond rfl (fun hc => ?_) (fun hc => ?_)
    · rw [if_pos (by simpa using hc)] at hd
      refine runS_x (I := inf) (J := jnf) ⟨false, false, []⟩ 9999 rfl (by repeat (first | exact obs_nil | refine obs_draw (by kernel_rfl) ?_ | refine obs_same ?_ | refine obs_and ?_ | refine obs_by (by (simp [inB] <;> omega)) ?_)) ?_
      refine runS_ret (I := inf) 0 rfl (Nat.le_refl _) rfl .nil rfl ⟨?_, rfl⟩
      rw [← hd]
      rfl
    · rw [if_neg (by simpa using hc)] at hd
      refine runS_x (I := inf) (J := jnf) ⟨false, false, []⟩ 9999 rfl (by repeat (first | exact obs_nil | refine obs_draw (by kernel_rfl) ?_ | refine obs_same ?_ | refine obs_and ?_ | refine obs_by (by (simp [inB] <;> omega)) ?_)) ?_
      refine ih (i + 1) _ _ (by omega) ⟨⟨rfl, rfl, rfl, ?_⟩, rfl, by omega, hd⟩
      show iv (IntKind.wrap .i64 ((i : Int) + 1)) = _
      rw [w64 (by omega) (by omega)]; rfl
  · have hi' : i = l.length := by simp at hlt; omega
    subst hi'
    rw [List.drop_length] at hd
    refine runS_x (I := inf) (J := jnf) ⟨false, false, []⟩ 9999 rfl (by repeat (first | exact obs_nil | refine obs_draw (by kernel_rfl) ?_ | refine obs_same ?_ | refine obs_and ?_ | refine obs_by (by (simp [inB] <;> omega)) ?_)) ?_
    refine runS_ret (I := inf) 0 rfl (Nat.le_refl _) rfl .nil rfl ⟨?_, rfl⟩
    rw [← hd]
    rfl

theorem i_contains (nl : Option Bool) (m : Nat) (r : Nat → List AV) (l : List Int) (x : Int) (hm : l.length = m) (hr : ∀ i, i < m → intR l i = r i) (hlen : l.length < 1000) : CallT Try.prog 112 [.slc 1 nl m r, iv x] [] (fun o A => o = .ret (bv (decide (x ∈ l))) ∧ A = []) := by
  refine callS_body (n := 9) rfl rfl fun w ρ X => ?_
  refine runS_x (I := inf) (J := jnf) ⟨false, false, []⟩ 9999 rfl (by repeat (first | exact obs_nil | refine obs_draw (by kernel_rfl) ?_ | refine obs_same ?_ | refine obs_and ?_ | refine obs_by (by (simp [inB] <;> omega)) ?_)) ?_
  refine runS_call rfl rfl rfl rfl rfl rfl rfl (i_index nl m r l x hm hr hlen) ?_
  refine runS_x (I := inf) (J := jnf) ⟨false, false, []⟩ 9999 rfl (by repeat (first | exact obs_nil | refine obs_draw (by kernel_rfl) ?_ | refine obs_same ?_ | refine obs_and ?_ | refine obs_by (by (simp [inB] <;> omega)) ?_)) ?_
  refine runS_ret (I := inf) 0 rfl (Nat.le_refl _) rfl .nil rfl ⟨?_, rfl⟩
  rw [← idxI_mem l x 0 (by omega)]
  rfl

theorem perm_at {d : List Dim} {order : List Int} {own : List Dim} (h : Perm3 d order own) (hf : fitL 1 own) {k : Int} (h0 : 0 ≤ k) (h1 : k < items own) : (permF order (atD own k) (zeros d)).length = d.length ∧ out d (permF order (atD own k) (zeros d)) = 0 := by
  obtain ⟨p1, p2, _⟩ := at_law hf h0 h1
  exact perm_out h p1 p2

theorem drop_cons {α : Type} {d : α} {xs : List α} {i : Nat} (h : i < xs.length) : xs.drop i = xs.getD i d :: xs.drop (i + 1) := getD_drop h

theorem order_range {d : List Dim} {order : List Int} {own : List Dim} (h : Perm3 d order own) {i : Nat} (hi : i < order.length) : 1 ≤ order.getD i 0 ∧ order.getD i 0 ≤ d.length := by
  rcases h with ⟨x, rfl, rfl, rfl⟩ | ⟨x, y, rfl, ⟨rfl, rfl⟩ | ⟨rfl, rfl⟩⟩ | ⟨x, y, z, rfl, ⟨rfl, rfl⟩ | ⟨rfl, rfl⟩ | ⟨rfl, rfl⟩ | ⟨rfl, rfl⟩ | ⟨rfl, rfl⟩ | ⟨rfl, rfl⟩⟩
  · match i, hi with
    | 0, _ => exact ⟨by decide, by simp⟩
  · match i, hi with
    | 0, _ => exact ⟨by decide, by simp⟩
    | 1, _ => exact ⟨by decide, by simp⟩
  · match i, hi with
    | 0, _ => exact ⟨by decide, by simp⟩
    | 1, _ => exact ⟨by decide, by simp⟩
  all_goals
    match i, hi with
    | 0, _ => exact ⟨by decide, by simp⟩
    | 1, _ => exact ⟨by decide, by simp⟩
    | 2, _ => exact ⟨by decide, by simp⟩

theorem take_row {order : List Int} {i : Nat} (h : i < order.length) : ∀ j, j < ((i : Int) - 0).toNat → intR (order.take i) j = shiftR (intR order) (0 : Int).toNat j := by
  intro j hj
  have hj' : j < i := by omega
  show [iv ((order.take i).getD j 0)] = [iv (order.getD (0 + j) 0)]
  rw [Nat.zero_add]
  simp [List.getD_eq_getElem?_getD, List.getElem?_take, hj']

theorem a_Turned (n1 n2 : Option Bool) (d : List Dim) (order : List Int) (hlen : order.length < 1000) : CallT Try.prog 64 [dimS n1 d, intS n2 order] [] (fun o A => o = .ret (turnedA (turnedF d order)) ∧ A = []) := by
  refine callS_body (n := 92) rfl rfl fun w ρ X => ?_
  refine runS_x (I := inf) (J := jnf) ⟨false, false, []⟩ 9999 rfl (by repeat (first | exact obs_nil | refine obs_draw (by kernel_rfl) ?_ | refine obs_same ?_ | refine obs_and ?_ | refine obs_by (by (simp [inB] <;> omega)) ?_)) ?_
  refine runS_call rfl rfl rfl rfl rfl rfl rfl (a_Valid n1 d) ?_
  refine runS_x (I := inf) (J := jnf) ⟨false, false, []⟩ 9999 rfl (by repeat (first | exact obs_nil | refine obs_draw (by kernel_rfl) ?_ | refine obs_same ?_ | refine obs_and ?_ | refine obs_by (by (simp [inB] <;> omega)) ?_)) ?_
  refine runS_cond rfl (fun h => ?_) (fun h => ?_)
  · have h' : ¬ validD d = true := by simpa using h
    refine runS_x (I := inf) (J := jnf) ⟨false, false, []⟩ 9999 rfl (by repeat (first | exact obs_nil | refine obs_draw (by kernel_rfl) ?_ | refine obs_same ?_ | refine obs_and ?_ | refine obs_by (by (simp [inB] <;> omega)) ?_)) ?_
    refine runS_saysBox 2 0 _ rfl rfl (says_nil0 (sz := 1) (r := nilI) (Nat.zero_le _)) rfl rfl ?_
    refine runS_says 4 rfl (says_nil0 (sz := 2) (r := nilD) (Nat.zero_le _)) ?_
    refine runS_ret (I := inf) 0 rfl (Nat.le_refl _) rfl .nil rfl ⟨?_, rfl⟩
    rw [turnedF, if_pos h']
    rfl
  have hv : validD d = true := by simpa using h
  have hfo := fit_valid hv
  have hit := items_bounds hfo.1
  refine runS_x (I := inf) (J := jnf) ⟨false, false, []⟩ 9999 rfl (by repeat (first | exact obs_nil | refine obs_draw (by kernel_rfl) ?_ | refine obs_same ?_ | refine obs_and ?_ | refine obs_by (by (simp [inB] <;> omega)) ?_)) ?_
  refine runS_cond rfl (fun h2 => ?_) (fun h2 => ?_)
  · have h2' : ¬ order.length = d.length := by simp at h2; omega
    refine runS_x (I := inf) (J := jnf) ⟨false, false, []⟩ 9999 rfl (by repeat (first | exact obs_nil | refine obs_draw (by kernel_rfl) ?_ | refine obs_same ?_ | refine obs_and ?_ | refine obs_by (by (simp [inB] <;> omega)) ?_)) ?_
    refine runS_saysBox 2 0 _ rfl rfl (says_nil0 (sz := 1) (r := nilI) (Nat.zero_le _)) rfl rfl ?_
    refine runS_says 4 rfl (says_nil0 (sz := 2) (r := nilD) (Nat.zero_le _)) ?_
    refine runS_ret (I := inf) 0 rfl (Nat.le_refl _) rfl .nil rfl ⟨?_, rfl⟩
    rw [turnedF, if_neg (by simp [hv]), if_pos h2']
    rfl
  have hl : order.length = d.length := by simp at h2; omega
  obtain ⟨E, hE⟩ : ∃ E, E = ordL d order [] [] := ⟨_, rfl⟩
  have hF : turnedF d order = turnG d order E := by
    rw [turnedF, if_neg (by simp [hv]), if_neg (by simp [hl]), hE]
  rw [hF]
  refine runS_x (I := inf) (J := jnf) ⟨false, false, []⟩ 9999 rfl (by repeat (first | exact obs_nil | refine obs_draw (by kernel_rfl) ?_ | refine obs_same ?_ | refine obs_and ?_ | refine obs_by (by (simp [inB] <;> omega)) ?_)) ?_
  refine runS_nilRow 4 63 2 (encR (fun p : Dim => [iv p.1, iv p.2]) (0, 0) []) rfl rfl ?_
  refine runS_while (fun (x : Nat × List Dim) τ ar => (τ 2 = .ptr 0 0 0 ∧ τ 3 = .ptr 1 0 0 ∧ τ 4 = .row 3 x.2.length ∧ τ 5 = .ptr 2 0 0 ∧ τ 26 = intS n2 order ∧ τ 27 = iv order.length ∧ τ 28 = iv x.1) ∧
    ar = [.box 22 [dimS n1 d], .box 23 [intS n2 order], .box 23 [.val (.slice none 0 0)], .row 63 2 x.2.length x.2.length (encR (fun p : Dim => [iv p.1, iv p.2]) (0, 0) x.2)] ∧ x.1 ≤ order.length ∧ x.2.length ≤ x.1 ∧ ordL d (order.drop x.1) (order.take x.1) x.2 = E) (fun x => order.length - x.1)
    (0, []) ⟨⟨rfl, rfl, rfl, rfl, rfl, rfl, rfl⟩, rfl, Nat.zero_le _, Nat.zero_le _, hE.symm⟩ ?_
  rintro ⟨i, acc⟩ τ' ar' ⟨⟨g2, g3, g4, g5, g26, g27, g28⟩, rfl, hi, hal, hd⟩ ih
  dsimp only at g4 g28 hi hal hd ih
  refine runS_says 2 (by exact g2) (Says.refl _) ?_; refine runS_says 3 (by exact g3) (Says.refl _) ?_; refine runS_says 4 (by exact g4) (Says.refl _) ?_; refine runS_says 5 (by exact g5) (Says.refl _) ?_; refine runS_says 26 (by exact g26) (Says.refl _) ?_; refine runS_says 27 (by exact g27) (Says.refl _) ?_; refine runS_says 28 (by exact g28) (Says.refl _) ?_
  refine runS_x (I := inf) (J := jnf) ⟨false, false, []⟩ 9999 rfl (by repeat (first | exact obs_nil | refine obs_draw (by kernel_rfl) ?_ | refine obs_same ?_ | refine obs_and ?_ | refine obs_by (by (simp [inB] <;> omega)) ?_)) ?_
  refine runS_cond rfl (fun hlt => ?_) (fun hlt => ?_)
  · have hlt' : i < order.length := by simpa using hlt
    rw [getD_drop (d := (0 : Int)) hlt', ordL] at hd
    refine runS_x (I := inf) (J := jnf) ⟨false, false, []⟩ 9999 rfl (by repeat (first | exact obs_nil | refine obs_draw (by kernel_rfl) ?_ | refine obs_same ?_ | refine obs_and ?_ | refine obs_by (by (simp [inB, hlt'] <;> omega)) ?_)) ?_
    generalize hx : order.getD ((i : Nat) : Int).toNat 0 = x
    rw [Int.toNat_natCast] at hx
    rw [hx] at hd
    refine runS_callU rfl rfl (by first | exact .v rfl rfl rfl rfl | exact .o rfl rfl rfl rfl) rfl rfl (by repeat (first | exact .nil | refine .cons (.n rfl) ?_ | refine .cons .o ?_ | refine .cons gok_and ?_)) rfl rfl rfl rfl rfl (fun _ => (i_contains n2 _ _ (order.take i) x (by simp; omega) (take_row hlt') (by simp; omega))) ?_
    refine runS_x (I := inf) (J := jnf) ⟨false, false, []⟩ 9999 rfl (by repeat (first | exact obs_nil | refine obs_draw (by kernel_rfl) ?_ | refine obs_same ?_ | refine obs_and ?_ | refine obs_by (by (simp [inB] <;> omega)) ?_)) ?_
    refine runS_cond rfl (fun hc => ?_) (fun hc => ?_)
    · have hbad : x < 1 ∨ x > d.length ∨ x ∈ order.take i := by
        by_cases h1 : x < 1
        · exact .inl h1
        · by_cases h2 : x > d.length
          · exact .inr (.inl h2)
          · refine .inr (.inr ?_)
            simpa [h1, h2] using hc
      rw [if_pos hbad] at hd
      refine runS_x (I := inf) (J := jnf) ⟨false, false, []⟩ 9999 rfl (by repeat (first | exact obs_nil | refine obs_draw (by kernel_rfl) ?_ | refine obs_same ?_ | refine obs_and ?_ | refine obs_by (by (simp [inB] <;> omega)) ?_)) ?_
      refine runS_saysBox 2 0 _ rfl rfl (says_nil0 (sz := 1) (r := nilI) (Nat.zero_le _)) rfl rfl ?_
      refine runS_says 4 rfl (says_nil0 (sz := 2) (r := nilD) (Nat.zero_le _)) ?_
      refine runS_ret (I := inf) 0 rfl (Nat.le_refl _) rfl .nil rfl ⟨?_, rfl⟩
      rw [← hd]
      rfl
    · have hgood : ¬ (x < 1 ∨ x > d.length ∨ x ∈ order.take i) := by
        rintro (h1 | h1 | h1)
        · simp [h1] at hc
        · by_cases h0 : x < 1
          · simp [h0] at hc
          · simp [h0, h1] at hc
        · by_cases h0 : x < 1
          · simp [h0] at hc
          · by_cases h2 : x > d.length
            · simp [h0, h2] at hc
            · simp [h0, h2] at hc; exact hc h1
      rw [if_neg hgood] at hd
      have hw : IntKind.wrap .i64 (x - 1) = x - 1 := w64 (by omega) (by omega)
      have hin : inB (IntKind.wrap .i64 (x - 1)) d.length = true := by rw [hw, inB_iff]; omega
      have hts : order.take i ++ [x] = order.take (i + 1) := by
        rw [List.take_succ_eq_append_getElem hlt', ← hx, List.getD_eq_getElem?_getD, List.getElem?_eq_getElem hlt', Option.getD_some]
      rw [hts] at hd
      refine runS_x (I := inf) (J := jnf) ⟨false, false, []⟩ 9999 rfl (by repeat (first | exact obs_nil | refine obs_draw (by kernel_rfl) ?_ | refine obs_same ?_ | refine obs_and ?_ | refine obs_by (by first | exact fun _ => hin | (simp [inB, hlt'] <;> omega)) ?_)) ?_
      rw [hw]
      refine runS_tell 3 (encR (fun p : Dim => [iv p.1, iv p.2]) (0, 0) (acc ++ [d.getD (x - 1).toNat (0, 0)])) rfl (m' := (acc ++ [d.getD (x - 1).toNat (0, 0)]).length) (by simp) (encR_snoc rfl) rfl ?_
      refine runS_drop 4 (Nat.zero_le _) rfl (by repeat (first | exact .nil | refine .row (fun j hj => rfl) ?_ | refine .box rfl ?_ | refine .loop (scrub_under _ _) ?_ | refine .dfr ?_ | refine .gone ?_)) rfl rfl rfl (by repeat (first | exact .nil | refine .cons rfl rfl rfl (scrub_under _ _) ?_)) ?_
      refine ih (i + 1, acc ++ [d.getD (x - 1).toNat (0, 0)]) _ _ (by dsimp only; omega) ⟨⟨rfl, rfl, ?_, rfl, rfl, rfl, ?_⟩, ?_, by dsimp only; omega, by simp; omega, hd⟩
      · simp only [List.length_append, List.length_cons, List.length_nil]; rfl
      · show iv (IntKind.wrap .i64 ((i : Int) + 1)) = _
        rw [w64 (by omega) (by omega)]; rfl
      · simp only [List.length_append, List.length_cons, List.length_nil]
  have hi' : i = order.length := by simp at hlt; omega
  subst hi'
  rw [List.drop_length, ordL] at hd
  subst hd
  have hP := ord_cases hfo.2.1 hfo.2.2 hl hE.symm
  obtain ⟨hf2, hi2, hl2, _⟩ := perm_fit hP hfo.1
  refine runS_freeze 4 rfl rfl rfl (fun j hj => rfl) ?_
  refine runS_says 4 rfl (y := dimS none acc) (Says.refl _) ?_
  refine runS_x (I := inf) (J := jnf) ⟨false, false, [104, 157]⟩ 9999 rfl (by repeat (first | exact obs_nil | refine obs_draw (by kernel_rfl) ?_ | refine obs_same ?_ | refine obs_and ?_ | refine obs_by (by (simp [inB] <;> omega)) ?_)) ?_
  refine runS_call rfl rfl rfl rfl rfl rfl rfl (a_count none acc (by omega) hf2) ?_
  refine runS_x (I := inf) (J := jnf) ⟨false, false, [104, 157]⟩ 9999 rfl (by repeat (first | exact obs_nil | refine obs_draw (by kernel_rfl) ?_ | refine obs_same ?_ | refine obs_and ?_ | refine obs_by (by (simp [inB] <;> omega)) ?_)) ?_
  refine runS_nilRowBox 2 0 3 1 (encR (fun z : Int => [iv z]) 0 []) rfl rfl rfl rfl rfl ?_
  refine runS_forget 8 rfl ?_; refine runS_forgetLoop 8 6 rfl rfl ?_
  refine runS_name 6 rfl (fun L => rfl) (fun L hL => ?_)
  refine runS_while (fun (x : Nat × List Int) τ ar => (τ 0 = .yld 6 ∧ τ 1 = .ptr 4 0 0 ∧ τ 5 = iv (items acc) ∧ τ 6 = iv x.1) ∧
    ar = [.box 22 [dimS n1 d], .box 23 [intS n2 order], .box 23 [.row 7 x.2.length], .gone, .box 104 [dimS none acc], .dfr true, L, .row 3 1 x.2.length x.2.length (encR (fun z : Int => [iv z]) 0 x.2)] ∧
    (x.1 : Int) ≤ items acc ∧ x.2.length ≤ x.1 ∧ turO d order acc ((items acc).toNat - x.1) x.1 x.2 = turO d order acc (items acc).toNat 0 []) (fun x => (items acc).toNat - x.1)
    (0, []) ⟨⟨rfl, rfl, rfl, rfl⟩, rfl, by dsimp only; omega, Nat.zero_le _, rfl⟩ ?_
  rintro ⟨i, offs⟩ τ' ar' ⟨⟨g0, g1, g5, g6⟩, rfl, hi, hal2, hd⟩ ih
  dsimp only at g6 hi hal2 hd ih
  subst hL
  refine runS_says 0 (by exact g0) (Says.refl _) ?_; refine runS_says 1 (by exact g1) (Says.refl _) ?_; refine runS_says 5 (by exact g5) (Says.refl _) ?_; refine runS_says 6 (by exact g6) (Says.refl _) ?_
  refine runS_x (I := inf) (J := jnf) ⟨false, false, []⟩ 9999 rfl (by repeat (first | exact obs_nil | refine obs_draw (by kernel_rfl) ?_ | refine obs_same ?_ | refine obs_and ?_ | refine obs_by (by (simp [inB] <;> omega)) ?_)) ?_
  refine runS_cond rfl (fun hlt => ?_) (fun hlt => ?_)
  · have hlt' : (i : Int) < items acc := by simpa using hlt
    obtain ⟨hat, hout, _⟩ := at_law hf2 (Int.natCast_nonneg i) hlt'
    obtain ⟨pl, po⟩ := perm_at hP hf2 (Int.natCast_nonneg i) hlt'
    obtain ⟨c, hc⟩ : ∃ c, (items acc).toNat - i = c + 1 := ⟨(items acc).toNat - i - 1, by omega⟩
    rw [hc, turO] at hd
    refine runS_x (I := inf) (J := jnf) ⟨false, false, []⟩ 9999 rfl (by repeat (first | exact obs_nil | refine obs_draw (by kernel_rfl) ?_ | refine obs_same ?_ | refine obs_and ?_ | refine obs_by (by (simp [inB] <;> omega)) ?_)) ?_
    refine runS_call rfl rfl rfl rfl rfl rfl rfl (a_subs none acc i (by omega) (by omega) (by omega) hf2) ?_
    refine runS_x (I := inf) (J := jnf) ⟨false, false, []⟩ 9999 rfl (by repeat (first | exact obs_nil | refine obs_draw (by kernel_rfl) ?_ | refine obs_same ?_ | refine obs_and ?_ | refine obs_by (by (simp [inB] <;> omega)) ?_)) ?_
    refine runS_tell 8 (intR (zeros d)) rfl (m' := (zeros d).length) (by simp [zeros]) (fun j hj => rep_intR _ _ (by simpa using hj)) rfl ?_
    refine runS_name 6 rfl (fun L => rfl) (fun L2 hL2 => ?_)
    refine runS_while (fun (x : Nat × List Int) τ ar => (τ 2 = .ptr 0 0 0 ∧ τ 5 = .ptr 2 0 0 ∧ τ 10 = intS none (atD acc i) ∧ τ 11 = .row 8 0 ∧ τ 64 = intS n2 order ∧ τ 65 = iv order.length ∧ τ 66 = iv x.1) ∧
      ar = [.box 22 [dimS n1 d], .box 23 [intS n2 order], .box 23 [.row 7 offs.length], .gone, .box 104 [dimS none acc], .dfr true, L2, .row 3 1 offs.length offs.length (encR (fun z : Int => [iv z]) 0 offs), .row 3 1 0 x.2.length (intR x.2)] ∧
      x.1 ≤ order.length ∧ x.2.length = d.length ∧ permF (order.drop x.1) ((atD acc i).drop x.1) x.2 = permF order (atD acc i) (zeros d)) (fun x => order.length - x.1)
      (0, zeros d) ⟨⟨rfl, rfl, rfl, rfl, rfl, rfl, rfl⟩, rfl, Nat.zero_le _, by simp [zeros], rfl⟩ ?_
    rintro ⟨j, t⟩ τ' ar' ⟨⟨g2, g5, g10, g11, g64, g65, g66⟩, rfl, hj, htl, hp⟩ ih2
    dsimp only at g66 hj htl hp ih2
    refine runS_says 2 (by exact g2) (Says.refl _) ?_; refine runS_says 5 (by exact g5) (Says.refl _) ?_; refine runS_says 10 (by exact g10) (Says.refl _) ?_; refine runS_says 11 (by exact g11) (Says.refl _) ?_; refine runS_says 64 (by exact g64) (Says.refl _) ?_; refine runS_says 65 (by exact g65) (Says.refl _) ?_; refine runS_says 66 (by exact g66) (Says.refl _) ?_
    refine runS_x (I := inf) (J := jnf) ⟨false, false, []⟩ 9999 rfl (by repeat (first | exact obs_nil | refine obs_draw (by kernel_rfl) ?_ | refine obs_same ?_ | refine obs_and ?_ | refine obs_by (by (simp [inB] <;> omega)) ?_)) ?_
    refine runS_cond rfl (fun hlt2 => ?_) (fun hlt2 => ?_)
    · have hlt2' : j < order.length := by simpa using hlt2
      obtain ⟨r1, r2⟩ := order_range hP hlt2'
      rw [getD_drop (d := (0 : Int)) hlt2', getD_drop (d := (0 : Int)) (xs := atD acc i) (by omega), permF] at hp
      generalize hx : order.getD j 0 = x at r1 r2 hp
      have hw : IntKind.wrap .i64 (x - 1) = x - 1 := w64 (by omega) (by omega)
      have hin : inB (IntKind.wrap .i64 (order.getD ((j : Nat) : Int).toNat 0 - 1)) t.length = true := by rw [Int.toNat_natCast, hx, hw, inB_iff]; omega
      have hin2 : inB (((IntKind.wrap .i64 (order.getD ((j : Nat) : Int).toNat 0 - 1)).toNat : Nat) : Int) t.length = true := by rw [Int.toNat_natCast, hx, hw, inB_iff]; omega
      refine runS_x (I := inf) (J := jnf) ⟨false, false, []⟩ 9999 rfl (by repeat (first | exact obs_nil | refine obs_draw (by kernel_rfl) ?_ | refine obs_same ?_ | refine obs_and ?_ | refine obs_by (by first | exact fun _ => hin | exact fun _ => hin2 | (simp [inB, hlt2', hat, hl2, hl] <;> omega)) ?_)) ?_
      refine runS_tell 8 (intR (t.set (x - 1).toNat ((atD acc i).getD j 0))) rfl (m' := (t.set (x - 1).toNat ((atD acc i).getD j 0)).length) (by simp) (fun k hk => ?_) rfl ?_
      · have := setR_enc (enc := fun z : Int => [iv z]) (d := 0) (ms := t) (k := (x - 1).toNat) (v := (atD acc i).getD j 0) rfl (by omega) k (by simpa using hk)
        refine this.trans ?_
        rw [Int.toNat_natCast, hx, hw]
        rfl
      refine ih2 (j + 1, t.set (x - 1).toNat ((atD acc i).getD j 0)) _ _ (by dsimp only; omega) ⟨⟨rfl, rfl, rfl, rfl, rfl, rfl, ?_⟩, rfl, by dsimp only; omega, by simpa using htl, hp⟩
      show iv (IntKind.wrap .i64 ((j : Int) + 1)) = _
      rw [w64 (by omega) (by omega)]; rfl
    have hj' : j = order.length := by simp at hlt2; omega
    subst hj'
    have hp' : t = permF order (atD acc i) (zeros d) := by rw [← hp, List.drop_length]; simp [permF]
    subst hp'
    subst hL2
    refine runS_x (I := inf) (J := jnf) ⟨false, false, []⟩ 9999 rfl (by repeat (first | exact obs_nil | refine obs_draw (by kernel_rfl) ?_ | refine obs_same ?_ | refine obs_and ?_ | refine obs_by (by (simp [inB] <;> omega)) ?_)) ?_
    refine runS_freezeRow 8 rfl rfl (fun j hj => rfl) ?_
    refine runS_says 82 rfl (y := intS none (permF order (atD acc i) (zeros d))) (Says.refl _) ?_
    refine runS_call rfl rfl rfl rfl rfl rfl rfl (a_offset n1 none d (permF order (atD acc i) (zeros d)) pl (by omega) hfo.1) ?_
    refine runS_x (I := inf) (J := jnf) ⟨true, false, []⟩ 9999 rfl (by repeat (first | exact obs_nil | refine obs_draw (by kernel_rfl) ?_ | refine obs_same ?_ | refine obs_and ?_ | refine obs_by (by (simp [inB] <;> omega)) ?_)) ?_
    refine runS_tell 7 (encR (fun z : Int => [iv z]) 0 (offs ++ [offT d order acc i])) rfl (m' := (offs ++ [offT d order acc i]).length) (by simp) (encR_snoc rfl) rfl ?_
    refine runS_drop 8 (Nat.zero_le _) rfl (by repeat (first | exact .nil | refine .row (fun j hj => rfl) ?_ | refine .box rfl ?_ | refine .loop (scrub_under _ _) ?_ | refine .dfr ?_ | refine .gone ?_)) rfl rfl rfl (by repeat (first | exact .nil | refine .cons rfl rfl rfl (scrub_under _ _) ?_)) ?_
    refine ih (i + 1, offs ++ [offT d order acc i]) _ _ (by dsimp only; omega) ⟨⟨rfl, rfl, rfl, ?_⟩, ?_, by dsimp only; omega, by simp; omega, ?_⟩
    · show iv (IntKind.wrap .i64 ((i : Int) + 1)) = _
      rw [w64 (by omega) (by omega)]; rfl
    · simp only [List.length_append, List.length_cons, List.length_nil]; rfl
    · rw [show (items acc).toNat - (i + 1) = c by omega]; exact hd
  have hi' : (i : Int) = items acc := by simp at hlt; omega
  rw [show (items acc).toNat - i = 0 by omega, turO] at hd
  refine runS_x (I := inf) (J := jnf) ⟨false, false, []⟩ 9999 rfl (by repeat (first | exact obs_nil | refine obs_draw (by kernel_rfl) ?_ | refine obs_same ?_ | refine obs_and ?_ | refine obs_by (by (simp [inB] <;> omega)) ?_)) ?_
  refine runS_freezeCell 2 0 rfl rfl rfl rfl (fun j hj => rfl) rfl rfl rfl ?_
  refine runS_ret (I := inf) 0 rfl (Nat.le_refl _) rfl .nil rfl ⟨?_, rfl⟩
  rw [turnG, ← hd]
  rfl
end Go.Iron.Try
