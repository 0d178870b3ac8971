/- ArraySections (seat Ytamhonbhoelohaa): the plain law. -/
import Derived.Test.YtamhonbhoelohaaArrW
namespace Go.Iron.Try
open Go.Proofs

theorem secL_len (d : List Dim) : ∀ (l : List Cross) (i : Nat) (acc own : List Dim) (a : Int), secL d l i acc = (some own, a) → own.length ≤ acc.length + l.length
  | [], i, acc, own, a, h => by simp [secL] at h; simp [h.1]
  | x :: l, i, acc, own, a, h => by
    rw [secL] at h
    split at h
    · have := secL_len d l _ _ own a h; simp at this ⊢; omega
    · split at h
      · simp at h
      · have := secL_len d l _ _ own a h; simp at this ⊢; omega
theorem secO_len (d : List Dim) (l : List Cross) : ∀ (c i : Nat) (acc : List Int), (secO d l c i acc).length ≤ acc.length + c
  | 0, i, acc => by simp [secO]
  | c + 1, i, acc => by
    rw [secO]
    refine Nat.le_trans (secO_len d l c (i + 1) _) ?_
    split <;> simp <;> omega
theorem sectionF_len (d : List Dim) (l : List Cross) (hd : d.length ≤ 20) (hl : l.length ≤ 20) : (sectionF d l).1.length ≤ 20 ∧ (sectionF d l).2.1.length ≤ 200 := by
  unfold sectionF
  split
  · simp
  · rename_i h'
    split
    · simp
    · have hv : validD d = true := by cases hb : validD d <;> simp_all
      have hit := items_bounds (fit_valid hv).1
      cases hE : secL d l 0 [] with
      | mk o a =>
        cases o with
        | none => simp [sectionG]
        | some own =>
          have h1 := secL_len d l 0 [] own a hE
          have h2 := secO_len d l (items d).toNat 0 []
          simp only [sectionG]
          simp at h1 h2
          constructor <;> omega

/-- A section by its first subscript. -/
def xsC (len : Nat) (n : Int) : List Cross := (n, false) :: List.replicate (len - 1) (0, true)
def a0 (d : List Dim) (k : Int) : Int := (atD d k).getD 0 0
def ksC (d : List Dim) (n : Int) : List Nat := (List.range (items d).toNat).filter (fun k => decide (a0 d k = n))

theorem within_stars (ss : List Int) : ∀ (c i : Nat), withinL (List.replicate c (0, true)) ss i = true
  | 0, i => rfl
  | c + 1, i => by rw [List.replicate_succ, withinL]; simp [within_stars ss c (i + 1)]
theorem within_xs (len : Nat) (n : Int) (ss : List Int) : withinL (xsC len n) ss 0 = decide (ss.getD 0 0 = n) := by
  rw [xsC, withinL, within_stars]; simp
theorem any_xs (len : Nat) (n : Int) : (xsC len n).any badC = false := by
  rw [xsC, List.any_cons]
  have : badC (n, false) = false := by simp [badC]
  rw [this, Bool.false_or, List.any_eq_false]
  intro x hx
  rw [(List.mem_replicate.1 hx).2]
  simp [badC]
theorem sec_stars (d : List Dim) : ∀ (c i : Nat) (acc : List Dim), ∃ own, secL d (List.replicate c (0, true)) i acc = (some own, 0)
  | 0, i, acc => ⟨acc, rfl⟩
  | c + 1, i, acc => by rw [List.replicate_succ, secL]; simp only [if_true]; exact sec_stars d c (i + 1) _
theorem secO_filter (d : List Dim) (l : List Cross) : ∀ (c i : Nat) (acc : List Int), secO d l c i acc = acc ++ ((List.range' i c).filter (fun k : Nat => withinL l (atD d (k : Int)) 0)).map (fun k : Nat => (k : Int))
  | 0, i, acc => by simp [secO]
  | c + 1, i, acc => by
    rw [secO, secO_filter d l c (i + 1), List.range'_succ, List.filter_cons]
    split <;> simp
theorem section_xs {d : List Dim} (hv : validD d = true) {n : Int} (h1 : (d.getD 0 (0, 0)).1 ≤ n) (h2 : n ≤ (d.getD 0 (0, 0)).2) : ∃ own, sectionF d (xsC d.length n) = (own, (ksC d n).map (fun k : Nat => (k : Int)), 0, 0, 0) := by
  obtain ⟨_, hl, _⟩ := fit_valid hv
  have hlen : (xsC d.length n).length = d.length := by simp [xsC]; omega
  obtain ⟨own, ho⟩ := sec_stars d (d.length - 1) 1 []
  refine ⟨own, ?_⟩
  have hs : secL d (xsC d.length n) 0 [] = (some own, 0) := by
    rw [xsC, secL, if_neg (by simp), if_neg (by dsimp only; omega)]
    exact ho
  rw [sectionF, if_neg (by rw [any_xs, hv]; simp), if_neg (by simp [hlen]), hs, sectionG, secO_filter, List.nil_append, ← List.range_eq_range']
  congr 2
  unfold ksC
  congr 1
  refine List.filter_congr fun k _ => ?_
  rw [within_xs]
  rfl

theorem a0_bounds {d : List Dim} (hv : validD d = true) {k : Int} (h0 : 0 ≤ k) (h1 : k < items d) : (d.getD 0 (0, 0)).1 ≤ a0 d k ∧ a0 d k ≤ (d.getD 0 (0, 0)).2 := by
  have hf := fit_valid hv
  obtain ⟨p1, p2, _⟩ := at_law hf.1 h0 h1
  unfold a0
  revert p1 p2
  generalize atD d k = ss
  intro p1 p2
  cases d with
  | nil => simp at hf
  | cons x d =>
    cases ss with
    | nil => simp at p1
    | cons s ss =>
      unfold out outL at p2
      simp only [List.getD_cons_zero]
      split at p2
      · omega
      · rename_i h
        simp at h
        omega
end Go.Iron.Try
