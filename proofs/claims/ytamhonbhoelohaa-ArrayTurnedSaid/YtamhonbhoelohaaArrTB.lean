/- ArrayTurned (seat Ytamhonbhoelohaa): the plain law. -/
import Derived.Test.YtamhonbhoelohaaArrTA
namespace Go.Iron.Try
open Go.Proofs

/-! ### Places and subscripts, there and back -/
theorem outL_zero {i : Int} (hi : 0 ≤ i) {d : Dim} {l : List Dim} {s : Int} {t : List Int} (h : outL i (d :: l) (s :: t) = 0) : d.1 ≤ s ∧ s ≤ d.2 ∧ outL (i + 1) l t = 0 := by
  unfold outL at h
  split at h
  · omega
  · rename_i h1
    simp at h1
    exact ⟨h1.1, h1.2, h⟩
theorem prodL_mono : ∀ (ds : List Dim) (ss : List Int) (i n m : Int), 0 ≤ i → ss.length = ds.length → outL i ds ss = 0 → n ≤ m → prodL n ds ≤ prodL m ds
  | [], ss, i, n, m, hi, hl, ho, h => h
  | d :: l, [], i, n, m, hi, hl, ho, h => by simp at hl
  | d :: l, s :: t, i, n, m, hi, hl, ho, h => by
    obtain ⟨h1, h2, h3⟩ := outL_zero hi ho
    unfold prodL
    refine prodL_mono l t (i + 1) _ _ (by omega) (by simpa using hl) h3 ?_
    exact Int.mul_le_mul_of_nonneg_right h (by unfold ext; omega)
theorem placeL_bounds : ∀ (ds : List Dim) (ss : List Int) (i n : Int), 0 ≤ i → ss.length = ds.length → outL i ds ss = 0 → 0 ≤ n → 0 ≤ placeL n ds ss ∧ placeL n ds ss + 1 ≤ prodL (n + 1) ds
  | [], [], i, n, hi, hl, ho, h => ⟨h, Int.le_refl _⟩
  | [], s :: t, i, n, hi, hl, ho, h => by simp at hl
  | d :: l, [], i, n, hi, hl, ho, h => by simp at hl
  | d :: l, s :: t, i, n, hi, hl, ho, h => by
    obtain ⟨h1, h2, h3⟩ := outL_zero hi ho
    have he : 0 ≤ n * ext d := Int.mul_nonneg h (by unfold ext; omega)
    obtain ⟨q1, q2⟩ := placeL_bounds l t (i + 1) (n * ext d + s - d.1) (by omega) (by simpa using hl) h3 (by omega)
    unfold placeL prodL
    refine ⟨q1, Int.le_trans q2 (prodL_mono l t (i + 1) _ _ (by omega) (by simpa using hl) h3 ?_)⟩
    rw [Int.add_mul]
    unfold ext at *
    omega
theorem placeL_inj : ∀ (ds : List Dim) (ss tt : List Int) (i n m : Int), 0 ≤ i → ss.length = ds.length → tt.length = ds.length → outL i ds ss = 0 → outL i ds tt = 0 → placeL n ds ss = placeL m ds tt → n = m ∧ ss = tt
  | [], [], [], i, n, m, hi, h1, h2, o1, o2, h => ⟨h, rfl⟩
  | [], _ :: _, _, i, n, m, hi, h1, h2, o1, o2, h => by simp at h1
  | [], [], _ :: _, i, n, m, hi, h1, h2, o1, o2, h => by simp at h2
  | d :: l, [], _, i, n, m, hi, h1, h2, o1, o2, h => by simp at h1
  | d :: l, _ :: _, [], i, n, m, hi, h1, h2, o1, o2, h => by simp at h2
  | d :: l, s :: ss, t :: tt, i, n, m, hi, h1, h2, o1, o2, h => by
    obtain ⟨a1, a2, a3⟩ := outL_zero hi o1
    obtain ⟨b1, b2, b3⟩ := outL_zero hi o2
    unfold placeL at h
    obtain ⟨c1, c2⟩ := placeL_inj l ss tt (i + 1) _ _ (by omega) (by simpa using h1) (by simpa using h2) a3 b3 h
    subst c2
    have he : s - d.1 < ext d := by unfold ext; omega
    have he2 : t - d.1 < ext d := by unfold ext; omega
    have hnm : n = m := by
      rcases Int.lt_trichotomy n m with h' | h' | h'
      · have : (n + 1) * ext d ≤ m * ext d := Int.mul_le_mul_of_nonneg_right (by omega) (by omega)
        rw [Int.add_mul] at this
        omega
      · exact h'
      · have : (m + 1) * ext d ≤ n * ext d := Int.mul_le_mul_of_nonneg_right (by omega) (by omega)
        rw [Int.add_mul] at this
        omega
    subst hnm
    exact ⟨rfl, by rw [show s = t by omega]⟩
theorem at_place {ds : List Dim} (hf : fitL 1 ds) {u : List Int} (hl : u.length = ds.length) (ho : out ds u = 0) : 0 ≤ place ds u ∧ place ds u < items ds ∧ atD ds (place ds u) = u := by
  obtain ⟨q1, q2⟩ := placeL_bounds ds u 0 0 (by omega) hl ho (by omega)
  rw [Int.zero_add] at q2
  have h1 : place ds u < items ds := by unfold place items; omega
  refine ⟨q1, h1, ?_⟩
  obtain ⟨p1, p2, p3⟩ := at_law hf q1 h1
  exact (placeL_inj ds _ _ 0 0 0 (by omega) p1 hl p2 ho p3).2

/-! ### The order -/
def ordL (d : List Dim) : List Int → List Int → List Dim → Option (List Dim)
  | [], _, acc => some acc
  | n :: o, seen, acc => if n < 1 ∨ n > d.length ∨ n ∈ seen then none else ordL d o (seen ++ [n]) (acc ++ [d.getD (n - 1).toNat (0, 0)])
def permF : List Int → List Int → List Int → List Int
  | n :: o, x :: s, t => permF o s (t.set (n - 1).toNat x)
  | _, _, t => t
def zeros (d : List Dim) : List Int := List.replicate d.length 0
def offT (d : List Dim) (order : List Int) (own : List Dim) (k : Int) : Int := if out d (permF order (atD own k) (zeros d)) = 0 then place d (permF order (atD own k) (zeros d)) else 0
def turO (d : List Dim) (order : List Int) (own : List Dim) : Nat → Nat → List Int → List Int
  | 0, _, acc => acc
  | c + 1, i, acc => turO d order own c (i + 1) (acc ++ [offT d order own i])
def turnG (d : List Dim) (order : List Int) : Option (List Dim) → List Dim × List Int × Int
  | none => ([], [], 7)
  | some own => (own, turO d order own (items own).toNat 0 [], 0)
/-- Turned's answer. -/
def turnedF (d : List Dim) (order : List Int) : List Dim × List Int × Int :=
  if ¬ validD d = true then ([], [], 1) else if ¬ order.length = d.length then ([], [], 11) else turnG d order (ordL d order [] [])
def turnedA (x : List Dim × List Int × Int) : AV := .tup [dimS none x.1, intS none x.2.1, iv x.2.2]

def Perm3 (d : List Dim) (order : List Int) (own : List Dim) : Prop :=
  (∃ x, d = [x] ∧ order = [1] ∧ own = [x]) ∨
  (∃ x y, d = [x, y] ∧ (order = [1, 2] ∧ own = [x, y] ∨ order = [2, 1] ∧ own = [y, x])) ∨
  (∃ x y z, d = [x, y, z] ∧ (order = [1, 2, 3] ∧ own = [x, y, z] ∨ order = [1, 3, 2] ∧ own = [x, z, y] ∨ order = [2, 1, 3] ∧ own = [y, x, z] ∨ order = [2, 3, 1] ∧ own = [y, z, x] ∨ order = [3, 1, 2] ∧ own = [z, x, y] ∨ order = [3, 2, 1] ∧ own = [z, y, x]))

theorem ordL_step {d : List Dim} {n : Int} {o seen : List Int} {acc own : List Dim} (h : ordL d (n :: o) seen acc = some own) : 1 ≤ n ∧ n ≤ d.length ∧ ¬ n ∈ seen ∧ ordL d o (seen ++ [n]) (acc ++ [d.getD (n - 1).toNat (0, 0)]) = some own := by
  rw [ordL] at h
  split at h
  · cases h
  · rename_i h1
    exact ⟨by omega, by omega, fun h' => h1 (.inr (.inr h')), h⟩
theorem ord_cases {d : List Dim} {order : List Int} {own : List Dim} (h1 : 1 ≤ d.length) (h3 : d.length ≤ 3) (hl : order.length = d.length) (h : ordL d order [] [] = some own) : Perm3 d order own := by
  match d, order, h1, h3, hl with
  | [x], [a], _, _, _ =>
    obtain ⟨a1, a2, _, h⟩ := ordL_step h
    simp [ordL] at h a2
    obtain rfl : a = 1 := by omega
    exact .inl ⟨x, rfl, rfl, h.symm⟩
  | [x, y], [a, b], _, _, _ =>
    obtain ⟨a1, a2, _, h⟩ := ordL_step h
    obtain ⟨b1, b2, b3, h⟩ := ordL_step h
    simp [ordL] at h a2 b2 b3
    refine .inr (.inl ⟨x, y, rfl, ?_⟩)
    have ha : a = 1 ∨ a = 2 := by omega
    have hb : b = 1 ∨ b = 2 := by omega
    rcases ha with rfl | rfl <;> rcases hb with rfl | rfl <;> first | (exact absurd rfl b3) | (subst h; simp)
  | [x, y, z], [a, b, c], _, _, _ =>
    obtain ⟨a1, a2, _, h⟩ := ordL_step h
    obtain ⟨b1, b2, b3, h⟩ := ordL_step h
    obtain ⟨c1, c2, c3, h⟩ := ordL_step h
    simp [ordL] at h a2 b2 b3 c2 c3
    refine .inr (.inr ⟨x, y, z, rfl, ?_⟩)
    have ha : a = 1 ∨ a = 2 ∨ a = 3 := by omega
    have hb : b = 1 ∨ b = 2 ∨ b = 3 := by omega
    have hc : c = 1 ∨ c = 2 ∨ c = 3 := by omega
    rcases ha with rfl | rfl | rfl <;> rcases hb with rfl | rfl | rfl <;> first | (exact absurd rfl b3) | (rcases hc with rfl | rfl | rfl <;> first | (exact absurd rfl c3.1) | (exact absurd rfl c3.2) | (subst h; simp))
  | [], _, h1, _, _ => simp at h1
  | _ :: _ :: _ :: _ :: _, _, _, h3, _ => simp at h3
  | [x], [], _, _, hl => simp at hl
  | [x], _ :: _ :: _, _, _, hl => simp at hl
  | [x, y], [], _, _, hl => simp at hl
  | [x, y], [_], _, _, hl => simp at hl
  | [x, y], _ :: _ :: _ :: _, _, _, hl => simp at hl
  | [x, y, z], [], _, _, hl => simp at hl
  | [x, y, z], [_], _, _, hl => simp at hl
  | [x, y, z], [_, _], _, _, hl => simp at hl
  | [x, y, z], _ :: _ :: _ :: _ :: _, _, _, hl => simp at hl

def okD (d : Dim) : Prop := -32768 ≤ d.1 ∧ d.1 ≤ d.2 ∧ d.2 < 32768
theorem fit1 {x : Dim} : fitL 1 [x] ↔ okD x ∧ ext x ≤ 200 := by simp [fitL, okD]
theorem ext_pos {x : Dim} (h : okD x) : 1 ≤ ext x := by unfold okD at h; unfold ext; omega
theorem le_mul_one' {a b : Int} (ha : 0 ≤ a) (hb : 1 ≤ b) : a ≤ a * b := by
  have := Int.mul_le_mul_of_nonneg_left hb ha
  rw [Int.mul_one] at this
  exact this
theorem fit2 {x y : Dim} : fitL 1 [x, y] ↔ okD x ∧ okD y ∧ ext x * ext y ≤ 200 := by
  simp only [fitL, Int.one_mul, and_true]
  constructor
  · rintro ⟨h1, _, h2, h3⟩; exact ⟨h1, h2, h3⟩
  · rintro ⟨h1, h2, h3⟩
    have e1 := ext_pos h1
    have e2 := ext_pos h2
    have := le_mul_one' (a := ext x) (by omega) e2
    exact ⟨h1, by omega, h2, h3⟩
theorem fit3 {x y z : Dim} : fitL 1 [x, y, z] ↔ okD x ∧ okD y ∧ okD z ∧ ext x * ext y * ext z ≤ 200 := by
  simp only [fitL, Int.one_mul, and_true]
  constructor
  · rintro ⟨h1, _, h2, _, h3, h4⟩; exact ⟨h1, h2, h3, h4⟩
  · rintro ⟨h1, h2, h3, h4⟩
    have e1 := ext_pos h1
    have e2 := ext_pos h2
    have e3 := ext_pos h3
    have p1 := le_mul_one' (a := ext x) (by omega) e2
    have p2 := le_mul_one' (a := ext x * ext y) (by omega) e3
    exact ⟨h1, by omega, h2, by omega, h3, h4⟩
theorem items1 (x : Dim) : items [x] = ext x := by simp [items, prodL]
theorem items2 (x y : Dim) : items [x, y] = ext x * ext y := by simp [items, prodL]
theorem items3 (x y z : Dim) : items [x, y, z] = ext x * ext y * ext z := by simp [items, prodL]

theorem perm_fit {d : List Dim} {order : List Int} {own : List Dim} (h : Perm3 d order own) (hf : fitL 1 d) : fitL 1 own ∧ items own = items d ∧ own.length = d.length ∧ order.length = d.length := by
  rcases h with ⟨x, rfl, rfl, rfl⟩ | ⟨x, y, rfl, ⟨rfl, rfl⟩ | ⟨rfl, rfl⟩⟩ | ⟨x, y, z, rfl, ⟨rfl, rfl⟩ | ⟨rfl, rfl⟩ | ⟨rfl, rfl⟩ | ⟨rfl, rfl⟩ | ⟨rfl, rfl⟩ | ⟨rfl, rfl⟩⟩
  · exact ⟨hf, rfl, rfl, rfl⟩
  · exact ⟨hf, rfl, rfl, rfl⟩
  · rw [fit2] at hf ⊢; rw [items2, items2, Int.mul_comm (ext y)]; exact ⟨⟨hf.2.1, hf.1, hf.2.2⟩, rfl, rfl, rfl⟩
  · exact ⟨hf, rfl, rfl, rfl⟩
  all_goals
    rw [fit3] at hf ⊢
    obtain ⟨h1, h2, h3, h4⟩ := hf
    rw [items3, items3]
    refine ⟨⟨by assumption, by assumption, by assumption, ?_⟩, ?_, rfl, rfl⟩
    · refine Int.le_trans (Int.le_of_eq ?_) h4
      simp only [Int.mul_comm, Int.mul_left_comm, Int.mul_assoc]
    · simp only [Int.mul_comm, Int.mul_left_comm, Int.mul_assoc]

theorem outL1 {i : Int} (hi : 0 ≤ i) {x : Dim} {a : Int} : outL i [x] [a] = 0 ↔ x.1 ≤ a ∧ a ≤ x.2 := by
  simp only [outL]
  constructor
  · intro h; split at h
    · omega
    · rename_i h'; simp at h'; exact h'
  · intro h; rw [if_neg (by simp; omega)]
theorem outL2 {i : Int} (hi : 0 ≤ i) {x : Dim} {a : Int} {l : List Dim} {s : List Int} : outL i (x :: l) (a :: s) = 0 ↔ x.1 ≤ a ∧ a ≤ x.2 ∧ outL (i + 1) l s = 0 := by
  constructor
  · exact outL_zero hi
  · rintro ⟨h1, h2, h3⟩
    unfold outL
    rw [if_neg (by simp; omega)]
    exact h3
theorem perm_out {d : List Dim} {order : List Int} {own : List Dim} (h : Perm3 d order own) {s : List Int} (hl : s.length = own.length) (ho : out own s = 0) : (permF order s (zeros d)).length = d.length ∧ out d (permF order s (zeros d)) = 0 := by
  unfold out at ho ⊢
  rcases h with ⟨x, rfl, rfl, rfl⟩ | ⟨x, y, rfl, ⟨rfl, rfl⟩ | ⟨rfl, rfl⟩⟩ | ⟨x, y, z, rfl, ⟨rfl, rfl⟩ | ⟨rfl, rfl⟩ | ⟨rfl, rfl⟩ | ⟨rfl, rfl⟩ | ⟨rfl, rfl⟩ | ⟨rfl, rfl⟩⟩
  · match s, hl with
    | [a], _ => exact ⟨rfl, ho⟩
  · match s, hl with
    | [a, b], _ =>
      refine ⟨rfl, ?_⟩
      rw [outL2 (by omega), outL1 (by omega)] at ho
      obtain ⟨h1, h2, h3, h4⟩ := ho
      show outL 0 [_, _] [_, _] = 0
      rw [outL2 (by omega), outL1 (by omega)]
      exact ⟨by assumption, by assumption, by assumption, by assumption⟩
  · match s, hl with
    | [a, b], _ =>
      refine ⟨rfl, ?_⟩
      rw [outL2 (by omega), outL1 (by omega)] at ho
      obtain ⟨h1, h2, h3, h4⟩ := ho
      show outL 0 [_, _] [_, _] = 0
      rw [outL2 (by omega), outL1 (by omega)]
      exact ⟨by assumption, by assumption, by assumption, by assumption⟩
  · match s, hl with
    | [a, b, c], _ =>
      refine ⟨rfl, ?_⟩
      rw [outL2 (by omega), outL2 (by omega), outL1 (by omega)] at ho
      obtain ⟨h1, h2, h3, h4, h5, h6⟩ := ho
      show outL 0 [_, _, _] [_, _, _] = 0
      rw [outL2 (by omega), outL2 (by omega), outL1 (by omega)]
      exact ⟨by assumption, by assumption, by assumption, by assumption, by assumption, by assumption⟩
  · match s, hl with
    | [a, b, c], _ =>
      refine ⟨rfl, ?_⟩
      rw [outL2 (by omega), outL2 (by omega), outL1 (by omega)] at ho
      obtain ⟨h1, h2, h3, h4, h5, h6⟩ := ho
      show outL 0 [_, _, _] [_, _, _] = 0
      rw [outL2 (by omega), outL2 (by omega), outL1 (by omega)]
      exact ⟨by assumption, by assumption, by assumption, by assumption, by assumption, by assumption⟩
  · match s, hl with
    | [a, b, c], _ =>
      refine ⟨rfl, ?_⟩
      rw [outL2 (by omega), outL2 (by omega), outL1 (by omega)] at ho
      obtain ⟨h1, h2, h3, h4, h5, h6⟩ := ho
      show outL 0 [_, _, _] [_, _, _] = 0
      rw [outL2 (by omega), outL2 (by omega), outL1 (by omega)]
      exact ⟨by assumption, by assumption, by assumption, by assumption, by assumption, by assumption⟩
  · match s, hl with
    | [a, b, c], _ =>
      refine ⟨rfl, ?_⟩
      rw [outL2 (by omega), outL2 (by omega), outL1 (by omega)] at ho
      obtain ⟨h1, h2, h3, h4, h5, h6⟩ := ho
      show outL 0 [_, _, _] [_, _, _] = 0
      rw [outL2 (by omega), outL2 (by omega), outL1 (by omega)]
      exact ⟨by assumption, by assumption, by assumption, by assumption, by assumption, by assumption⟩
  · match s, hl with
    | [a, b, c], _ =>
      refine ⟨rfl, ?_⟩
      rw [outL2 (by omega), outL2 (by omega), outL1 (by omega)] at ho
      obtain ⟨h1, h2, h3, h4, h5, h6⟩ := ho
      show outL 0 [_, _, _] [_, _, _] = 0
      rw [outL2 (by omega), outL2 (by omega), outL1 (by omega)]
      exact ⟨by assumption, by assumption, by assumption, by assumption, by assumption, by assumption⟩
  · match s, hl with
    | [a, b, c], _ =>
      refine ⟨rfl, ?_⟩
      rw [outL2 (by omega), outL2 (by omega), outL1 (by omega)] at ho
      obtain ⟨h1, h2, h3, h4, h5, h6⟩ := ho
      show outL 0 [_, _, _] [_, _, _] = 0
      rw [outL2 (by omega), outL2 (by omega), outL1 (by omega)]
      exact ⟨by assumption, by assumption, by assumption, by assumption, by assumption, by assumption⟩
end Go.Iron.Try
