/- The array package (seat Ytamhonbhoelohaa): the plain law of offsets. -/
import Derived.Test.YtamhonbhoelohaaArrF
namespace Go.Iron.Try

theorem placeL_snoc : ∀ (n : Int) (ds : List Dim) (ss : List Int) (d : Dim) (s : Int), ss.length = ds.length → placeL n (ds ++ [d]) (ss ++ [s]) = placeL n ds ss * ext d + s - d.1
  | n, [], [], d, s, _ => by simp [placeL]
  | n, e :: l, t :: u, d, s, h => by
    simp only [List.cons_append, placeL]
    exact placeL_snoc _ l u d s (by simpa using h)
theorem outL_snoc : ∀ (i : Int) (ds : List Dim) (ss : List Int) (d : Dim) (s : Int), ss.length = ds.length → outL i ds ss = 0 → d.1 ≤ s → s ≤ d.2 → 0 ≤ i → outL i (ds ++ [d]) (ss ++ [s]) = 0
  | i, [], [], d, s, _, _, h1, h2, _ => by
    simp only [List.nil_append, outL]
    rw [if_neg (by simp; omega)]
  | i, e :: l, t :: u, d, s, h, ho, h1, h2, hi => by
    simp only [List.cons_append, outL] at ho ⊢
    split at ho
    · omega
    · rename_i hc
      rw [if_neg hc]
      exact outL_snoc _ l u d s (by simpa using h) ho h1 h2 (by omega)
theorem prodL_snoc : ∀ (n : Int) (ds : List Dim) (d : Dim), prodL n (ds ++ [d]) = prodL n ds * ext d
  | n, [], d => rfl
  | n, e :: l, d => by simp only [List.cons_append, prodL]; exact prodL_snoc _ l d

theorem fill_law (ds : List Dim) (hf : fitL 1 ds) : ∀ (k : Nat) (off : Int) (xs : List Int), k ≤ ds.length → xs.length = ds.length → 0 ≤ off → off < prodL 1 (ds.take k) →
    (fillD ds k off xs).length = ds.length ∧ (fillD ds k off xs).drop k = xs.drop k ∧ outL 0 (ds.take k) ((fillD ds k off xs).take k) = 0 ∧ placeL 0 (ds.take k) ((fillD ds k off xs).take k) = off
  | 0, off, xs, _, hx, h0, h1 => by
    simp only [List.take_zero, prodL] at h1
    refine ⟨hx, rfl, rfl, ?_⟩
    simp only [List.take_zero, placeL, fillD]
    omega
  | k + 1, off, xs, hk, hx, h0, h1 => by
    have hk' : k < ds.length := by omega
    have he := ext_bounds hf hk'
    have hr := dim_in hf hk'
    have htk : ds.take (k + 1) = ds.take k ++ [ds.getD k (0, 0)] := by
      rw [List.take_succ_eq_append_getElem hk', List.getD_eq_getElem?_getD, List.getElem?_eq_getElem hk', Option.getD_some]
    rw [htk, prodL_snoc] at h1
    generalize hd : ds.getD k (0, 0) = d at he hr h1 htk
    have hm0 : 0 ≤ off.tmod (ext d) := Int.tmod_nonneg _ h0
    have hm1 : off.tmod (ext d) < ext d := Int.tmod_lt_of_pos _ (by omega)
    have hq0 : 0 ≤ off.tdiv (ext d) := Int.tdiv_nonneg h0 (by omega)
    have hqm : off.tdiv (ext d) * ext d + off.tmod (ext d) = off := Int.tdiv_mul_add_tmod off (ext d)
    have hq1 : off.tdiv (ext d) < prodL 1 (ds.take k) := by
      by_cases hlt : off.tdiv (ext d) < prodL 1 (ds.take k)
      · exact hlt
      · have := Int.mul_le_mul_of_nonneg_right (show prodL 1 (ds.take k) ≤ off.tdiv (ext d) by omega) (show 0 ≤ ext d by omega)
        omega
    have hex : ext d = d.2 - d.1 + 1 := rfl
    obtain ⟨i1, i2, i3, i4⟩ := fill_law ds hf k (off.tdiv (ext d)) (xs.set k (d.1 + off.tmod (ext d))) (by omega) (by simpa using hx) hq0 hq1
    have hfd : fillD ds (k + 1) off xs = fillD ds k (off.tdiv (ext d)) (xs.set k (d.1 + off.tmod (ext d))) := by simp only [fillD, hd]
    rw [hfd]
    generalize fillD ds k (off.tdiv (ext d)) (xs.set k (d.1 + off.tmod (ext d))) = S at i1 i2 i3 i4 ⊢
    have hdrop : S.drop k = (d.1 + off.tmod (ext d)) :: xs.drop (k + 1) := by
      rw [i2, List.drop_eq_getElem_cons (by simp; omega)]
      simp [List.drop_set_of_lt]
    have hk2 : k < S.length := by omega
    have hSk : S[k] = d.1 + off.tmod (ext d) := by
      rw [List.drop_eq_getElem_cons hk2] at hdrop
      exact (List.cons.inj hdrop).1
    have hS2 : S.drop (k + 1) = xs.drop (k + 1) := by
      rw [List.drop_eq_getElem_cons hk2] at hdrop
      exact (List.cons.inj hdrop).2
    have hSt : S.take (k + 1) = S.take k ++ [d.1 + off.tmod (ext d)] := by rw [List.take_succ_eq_append_getElem hk2, hSk]
    have hlen : (S.take k).length = (ds.take k).length := by simp [i1]
    refine ⟨i1, hS2, ?_, ?_⟩
    · rw [htk, hSt]
      exact outL_snoc 0 _ _ d _ hlen i3 (by omega) (by omega) (by omega)
    · rw [htk, hSt, placeL_snoc 0 _ _ d _ hlen, i4]
      omega

/-- The subscripts of an offset lead back to it. -/
theorem at_law {ds : List Dim} (hf : fitL 1 ds) {k : Int} (h0 : 0 ≤ k) (h1 : k < items ds) : (atD ds k).length = ds.length ∧ out ds (atD ds k) = 0 ∧ place ds (atD ds k) = k := by
  obtain ⟨i1, i2, i3, i4⟩ := fill_law ds hf ds.length k (List.replicate ds.length 0) (Nat.le_refl _) (by simp) h0 (by rw [List.take_length]; exact h1)
  rw [List.take_length] at i3 i4
  rw [List.take_of_length_le (by omega)] at i3 i4
  exact ⟨i1, i3, i4⟩

theorem offF_at {ds : List Dim} (hv : validD ds = true) {k : Int} (h0 : 0 ≤ k) (h1 : k < items ds) : offF ds (atD ds k) = (k, 0, 0, 0) := by
  obtain ⟨a1, a2, a3⟩ := at_law (fit_valid hv).1 h0 h1
  simp [offF, hv, a1, a2, a3]
theorem nextF_at {ds : List Dim} (hv : validD ds = true) {k : Int} (h0 : 0 ≤ k) (h1 : k < items ds) : nextF ds (atD ds k) = if k + 1 = items ds then (none, false, 0) else (some (atD ds (k + 1)), true, 0) := by
  obtain ⟨a1, a2, a3⟩ := at_law (fit_valid hv).1 h0 h1
  simp [nextF, hv, a1, a2, a3]
end Go.Iron.Try
