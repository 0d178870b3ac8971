/- Iron: one operation. -/
import Derived.Test.YtamhonbhoelohaaIronA
import Derived.Deep.MidRow
namespace Go.Iron

/-! ### What is asked of types -/
class Ty (P : Program) (t : TypeId) (sz : outParam Nat) (ag : outParam Bool) : Prop where
  size : (P.info? t).map (·.size) = some sz
  desc : (P.underlying t).map TypeDesc.isRow = some ag
class ElT (P : Program) (t : TypeId) (e : outParam TypeId) : Prop where
  h : P.underlying t = some (.slice e)
class FldT (P : Program) (t : TypeId) (j : Nat) (off : outParam Nat) (ft : outParam TypeId) : Prop where
  h : ∃ fs f, P.underlying t = some (.struct fs) ∧ fs[j]? = some f ∧ f.offset = off ∧ f.type = ft
/-- The zero value's cells. -/
class ZeroT (P : Program) (t : TypeId) (cs : outParam (List AV)) (bytes : outParam Nat) : Prop where
  h : ∃ z, (P.info? t).map (fun i => (i.zero, i.size, i.bytes)) = some (some z, cs.length, bytes) ∧ z.cells.toList.map .val = cs ∧ z.cells.toList.all (·.oneCell') = true ∧ Nat.blt 0 bytes = true ∧ Nat.blt 0 cs.length = true
theorem ZeroT.all {P : Program} {t : TypeId} {cs : List AV} {bytes : Nat} (hz : ZeroT P t cs bytes) :
    ∃ i z, P.info? t = some i ∧ i.zero = some z ∧ i.bytes = bytes ∧ i.size = cs.length ∧ z.cells.size = cs.length ∧ z.cells.toList.map .val = cs ∧ z.cells.toList.all (·.oneCell') = true ∧ 0 < bytes ∧ 0 < cs.length := by
  obtain ⟨z, h1, h2, h3, h4, h5⟩ := hz.h
  cases hi : P.info? t with
  | none => simp [hi] at h1
  | some i =>
    simp [hi] at h1
    exact ⟨i, z, rfl, h1.1, h1.2.2, h1.2.1, by rw [← h2]; simp, h2, h3, by simpa [Nat.blt_eq] using h4, by simpa [Nat.blt_eq] using h5⟩
class ArrT (P : Program) (t : TypeId) (len : outParam Nat) (e : outParam TypeId) : Prop where
  h : P.underlying t = some (.array len e)

/-! ### Lists, told at once -/
def nth {α : Type} : List α → Nat → Option α
  | [], _ => none
  | x :: _, 0 => some x
  | _ :: l, n + 1 => nth l n
theorem nth_eq {α : Type} (l : List α) (n : Nat) : nth l n = l[n]? := by
  induction l generalizing n with
  | nil => simp [nth]
  | cons x l ih => cases n <;> simp [nth, ih]
/-- n elements from the place off on. -/
def sub {α : Type} : List α → Nat → Nat → Option (List α)
  | [], 0, 0 => some []
  | [], _, _ => none
  | _ :: l, off + 1, n => sub l off n
  | _ :: _, 0, 0 => some []
  | x :: l, 0, n + 1 => match sub l 0 n with
    | some r => some (x :: r)
    | none => none
theorem sub_spec {α : Type} (l : List α) : ∀ (off n : Nat) r, sub l off n = some r → r.length = n ∧ ∀ j, j < n → l[off + j]? = r[j]? := by
  induction l with
  | nil =>
    intro off n r h
    cases off <;> cases n <;> simp [sub] at h
    subst h
    simp
  | cons x l ih =>
    intro off n r h
    cases off with
    | succ off =>
      obtain ⟨h1, h2⟩ := ih off n r (by simpa [sub] using h)
      exact ⟨h1, fun j hj => by rw [← h2 j hj, show off + 1 + j = (off + j) + 1 by omega]; simp⟩
    | zero =>
      cases n with
      | zero => simp [sub] at h; subst h; simp
      | succ n =>
        simp only [sub] at h
        cases hs : sub l 0 n with
        | none => simp [hs] at h
        | some r' =>
          simp [hs] at h
          subst h
          obtain ⟨h1, h2⟩ := ih 0 n r' hs
          refine ⟨by simp [h1], fun j hj => ?_⟩
          cases j with
          | zero => simp
          | succ j =>
            have := h2 j (by omega)
            simp only [Nat.zero_add] at this ⊢
            simpa using this
/-- Written over from the place off on. -/
def splice {α : Type} : List α → Nat → List α → Option (List α)
  | l, 0, [] => some l
  | [], _, _ => none
  | x :: l, off + 1, ys => match splice l off ys with
    | some r => some (x :: r)
    | none => none
  | _ :: l, 0, y :: ys => match splice l 0 ys with
    | some r => some (y :: r)
    | none => none
theorem splice_spec {α : Type} (l : List α) : ∀ (off : Nat) (ys r : List α), splice l off ys = some r → off + ys.length ≤ l.length ∧ r = l.take off ++ ys ++ l.drop (off + ys.length) := by
  induction l with
  | nil =>
    intro off ys r h
    cases off <;> cases ys <;> simp [splice] at h
    subst h
    simp
  | cons x l ih =>
    intro off ys r h
    cases off with
    | zero =>
      cases ys with
      | nil => simp [splice] at h; subst h; simp
      | cons y ys =>
        simp only [splice] at h
        cases hs : splice l 0 ys with
        | none => simp [hs] at h
        | some r' =>
          simp [hs] at h
          subst h
          obtain ⟨h1, h2⟩ := ih 0 ys r' hs
          refine ⟨by simp at h1 ⊢; omega, by rw [h2]; simp⟩
    | succ off =>
      simp only [splice] at h
      cases hs : splice l off ys with
      | none => simp [hs] at h
      | some r' =>
        simp [hs] at h
        subst h
        obtain ⟨h1, h2⟩ := ih off ys r' hs
        refine ⟨by simp at h1 ⊢; omega, ?_⟩
        rw [h2, show off + 1 + ys.length = off + ys.length + 1 by omega]
        simp
def setN {α : Type} : List α → Nat → α → Option (List α)
  | [], _, _ => none
  | _ :: l, 0, y => some (y :: l)
  | x :: l, n + 1, y => match setN l n y with
    | some r => some (x :: r)
    | none => none
theorem setN_spec {α : Type} (l : List α) : ∀ (n : Nat) (y : α) r, setN l n y = some r → n < l.length ∧ r = l.set n y := by
  induction l with
  | nil => intro n y r h; simp [setN] at h
  | cons x l ih =>
    intro n y r h
    cases n with
    | zero => simp [setN] at h; subst h; simp
    | succ n =>
      simp only [setN] at h
      cases hs : setN l n y with
      | none => simp [hs] at h
      | some r' =>
        simp [hs] at h
        subst h
        obtain ⟨h1, h2⟩ := ih n y r' hs
        exact ⟨by simpa using h1, by rw [h2]; simp⟩
/-- One behind the last. -/
def snoc {α : Type} : List α → α → List α
  | [], y => [y]
  | x :: l, y => x :: snoc l y
theorem snoc_eq {α : Type} (l : List α) (y : α) : snoc l y = l ++ [y] := by induction l <;> simp [snoc, *]
def snocN {α : Type} : List α → α → Option (List α × Nat)
  | [], y => some ([y], 0)
  | x :: l, y => match snocN l y with
    | some (r, n) => some (x :: r, n + 1)
    | none => none
theorem snocN_spec {α : Type} (l : List α) (y : α) : ∀ r n, snocN l y = some (r, n) → r = l ++ [y] ∧ n = l.length := by
  induction l with
  | nil => intro r n h; simp [snocN] at h; simp [h]
  | cons x l ih =>
    intro r n h
    simp only [snocN] at h
    cases hs : snocN l y with
    | none => simp [hs] at h
    | some p =>
      obtain ⟨r', n'⟩ := p
      simp [hs] at h
      obtain ⟨h1, h2⟩ := ih r' n' hs
      simp [← h.1, ← h.2, h1, h2]

/-- A slot written. -/
def upd (τ : Nat → AV) (d : Nat) (x : AV) : Nat → AV := fun t =>
  match Nat.beq t d with
  | true => x
  | false => τ t
theorem upd_eq (τ : Nat → AV) (d : Nat) (x : AV) (t : Nat) : upd τ d x t = if t = d then x else τ t := by
  unfold upd
  by_cases h : t = d
  · subst h
    simp
  · have : Nat.beq t d = false := by
      cases hb : Nat.beq t d with
      | false => rfl
      | true => exact absurd (Nat.eq_of_beq_eq_true hb) h
    simp [this, h]
theorem upd_self (τ : Nat → AV) (d : Nat) (x : AV) (h : τ d = x) : upd τ d x = τ := by
  funext t
  rw [upd_eq]
  split <;> simp_all

/-! ### One operation's meaning -/
def OpStep (P : Program) (τ : Nat → AV) (ar : List AO) (o : Oper) (x : AV) (ar' : List AO) : Prop :=
  ∀ (C : Cx) (a : Act) (w : World) (ρ : List Loc), RelA C ρ ar w → Slots w (Ow C ρ ar) ρ τ a.tmps →
    ∃ r v w' ρ', (execOp a.eval o).run P w = .ok r w' ∧ (r = .value v ∨ r = .skip ∧ v = undef) ∧ RelA C ρ' ar' w' ∧ Compat ρ ρ' ∧
      Pres w (Ow C ρ ar) w' (Ow C ρ' ar') ∧ RV w' (Ow C ρ' ar') ρ' x v

section
variable {P : Program} {f n : Nat} {C : Cx} {τ : Nat → AV} {ar ar' : List AO} {k : List Item} {Q : Out → List AO → Prop} {ops : Array Oper}

theorem not_defer {o : Oper} {ρ' : Operand → Value} {w w' : World} {r : Next} {v : Value} (hr : (execOp ρ' o).run P w = .ok r w') (hv : r = .value v ∨ r = .skip ∧ v = undef) : ∀ c, o.op ≠ .defer c := by
  intro c hc
  simp only [execOp, hc] at hr
  cases hd : (resolve ρ' c o.type).run P w with
  | ok d w1 =>
    simp [hd] at hr
    rcases hv with rfl | ⟨rfl, _⟩ <;> simp at hr
  | halt z w1 => simp [hd] at hr

theorem step_op_value {b : Frame} {a : Act} {cs : List Frame} {w w' : World} {i : Nat} {rest : List Nat} {o : Oper} {r : Next} {v : Value} (ho : ops[i]? = some o)
    (hw : Region.wanted o (yielded ops a.tmps) = true) (hr : (execOp a.eval o).run P w = .ok r w') (hv : r = .value v ∨ r = .skip ∧ v = undef) :
    step P (lone (b.atR a (.inRegion ops (i :: rest) :: k)) cs w) = .next (lone (b.atR (a.put o.dst v) (.inRegion ops rest :: k)) cs w') := by
  have hg := stepGR_op (P := P) (b := b) (k := k) (cs := cs) (w := w) (rest := rest) ho hw
  rw [Oper.semAt_eq _ _ _ (not_defer hr hv)] at hg
  have hfin : ∀ v, (b.atR a (.inRegion ops (i :: rest) :: k)).finish v = b.atR (a.put o.dst v) (.inRegion ops rest :: k) := by
    intro v; rw [Frame.finish_atR, ho]; rfl
  refine step_lone_go ?_
  rw [hg, ← hfin]
  rcases hv with rfl | ⟨rfl, rfl⟩ <;> simp [stepG.apply, hr]

theorem run_region {id : Nat} (h : Run P f n C τ ar (.inRegion ops (List.range ops.size) :: k) Q) : Run P f n C τ ar (.code (.region id ops false) :: k) Q :=
  run_step (fun _ _ _ _ => stepR_region) h
theorem run_regionEnd (h : Run P f n C τ ar k Q) : Run P f n C τ ar (.inRegion ops [] :: k) Q := run_step (fun _ _ _ _ => stepR_region_end) h

theorem put_tmps_size (a : Act) (d : Option Tmp) (v : Value) : (a.put d v).tmps.size = a.tmps.size := by cases d <;> simp [Act.put]
theorem put_defers (a : Act) (d : Option Tmp) (v : Value) : (a.put d v).defers = a.defers := by cases d <;> rfl

theorem slots_put {w : World} {O : Nat → Prop} {ρ : List Loc} {a : Act} {d : Nat} {x : AV} {v : Value} (h : Slots w O ρ τ a.tmps) (hd : d < a.tmps.size) (hx : RV w O ρ x v) :
    Slots w O ρ (upd τ d x) (a.put (some d) v).tmps := by
  intro t
  rw [upd_eq]
  by_cases ht : t = d
  · subst ht
    simpa [Act.put, hd, Array.getD_eq_getD_getElem?] using hx
  · have := h t
    simp only [if_neg ht, Act.put, Array.getD_eq_getD_getElem?] at this ⊢
    rw [Array.getElem?_setIfInBounds_ne (fun e => ht e.symm)]
    exact this

/-- An operation without a guard, its value kept. -/
theorem run_op {i : Nat} {rest : List Nat} {o : Oper} {d : Nat} {x : AV} (ho : ops[i]? = some o) (hg : o.guard = none) (hd : o.dst = some d) (hdn : Nat.blt d n = true)
    (hs : OpStep P τ ar o x ar') (h : Run P f n C (upd τ d x) ar' (.inRegion ops rest :: k) Q) : Run P f n C τ ar (.inRegion ops (i :: rest) :: k) Q := by
  intro b a w ρ cs g1 g2 g3 g4 g5 g6
  obtain ⟨r, v, w', ρ', hr, hv, hR, hc, hp, hx⟩ := hs C a w ρ g5 g6
  have hst := step_op_value (P := P) (b := b) (k := k) (cs := cs) (rest := rest) ho (by simp [Region.wanted, hg]) hr hv
  have hdn' : d < a.tmps.size := by rw [g3]; simpa [Nat.blt_eq] using hdn
  obtain ⟨e, w2, fr, s, q⟩ := h b (a.put o.dst v) w' ρ' cs g1 g2 (by rw [put_tmps_size]; exact g3) (by rw [put_defers]; exact g4) hR (by rw [hd]; exact slots_put (g6.mono hp hc) hdn' hx)
  exact ⟨e, w2, fr, .head hst s, q⟩

/-- An operation without a guard, its value dropped. -/
theorem run_op0 {i : Nat} {rest : List Nat} {o : Oper} {x : AV} (ho : ops[i]? = some o) (hg : o.guard = none) (hd : o.dst = none)
    (hs : OpStep P τ ar o x ar') (h : Run P f n C τ ar' (.inRegion ops rest :: k) Q) : Run P f n C τ ar (.inRegion ops (i :: rest) :: k) Q := by
  intro b a w ρ cs g1 g2 g3 g4 g5 g6
  obtain ⟨r, v, w', ρ', hr, hv, hR, hc, hp, hx⟩ := hs C a w ρ g5 g6
  have hst := step_op_value (P := P) (b := b) (k := k) (cs := cs) (rest := rest) ho (by simp [Region.wanted, hg]) hr hv
  obtain ⟨e, w2, fr, s, q⟩ := h b (a.put o.dst v) w' ρ' cs g1 g2 (by rw [put_tmps_size]; exact g3) (by rw [put_defers]; exact g4) hR (by rw [hd]; exact g6.mono hp hc)
  exact ⟨e, w2, fr, .head hst s, q⟩

/-- What the guard's operation has yielded. -/
def guardA (τ : Nat → AV) (ops : Array Oper) (j : Nat) : Option AV := ((ops[j]?).bind (·.dst)).map τ

theorem wanted_of_guard {w : World} {O : Nat → Prop} {ρ : List Loc} {a : Act} {o : Oper} {j : Nat} {want b : Bool} {d : Nat} {oj : Oper} (h : Slots w O ρ τ a.tmps) (hg : o.guard = some (j, want))
    (hj : ops[j]? = some oj) (hd : oj.dst = some d) (hdn : d < a.tmps.size) (hb : τ d = .val (.bool b)) : Region.wanted o (yielded ops a.tmps) = (b == want) := by
  have hv : a.tmps[d]? = some (.bool b) := by
    have := h d
    rw [hb] at this
    have := rv_val this
    rw [Array.getD_eq_getD_getElem?] at this
    rw [Array.getElem?_eq_getElem hdn] at this ⊢
    simpa using this
  simp [Region.wanted, hg, yielded, hj, hd, hv]

/-- An operation under a guard that holds: as without it. -/
theorem run_opG {i : Nat} {rest : List Nat} {o oj : Oper} {d j dj : Nat} {want : Bool} {x : AV} (ho : ops[i]? = some o) (hg : o.guard = some (j, want)) (hj : ops[j]? = some oj) (hdj : oj.dst = some dj)
    (hdjn : Nat.blt dj n = true) (hb : τ dj = .val (.bool want)) (hd : o.dst = some d) (hdn : Nat.blt d n = true)
    (hs : OpStep P τ ar o x ar') (h : Run P f n C (upd τ d x) ar' (.inRegion ops rest :: k) Q) : Run P f n C τ ar (.inRegion ops (i :: rest) :: k) Q := by
  intro b a w ρ cs g1 g2 g3 g4 g5 g6
  obtain ⟨r, v, w', ρ', hr, hv, hR, hc, hp, hx⟩ := hs C a w ρ g5 g6
  have hw : Region.wanted o (yielded ops a.tmps) = true := by
    rw [wanted_of_guard g6 hg hj hdj (by rw [g3]; simpa [Nat.blt_eq] using hdjn) hb]; simp
  have hst := step_op_value (P := P) (b := b) (k := k) (cs := cs) (rest := rest) ho hw hr hv
  have hdn' : d < a.tmps.size := by rw [g3]; simpa [Nat.blt_eq] using hdn
  obtain ⟨e, w2, fr, s, q⟩ := h b (a.put o.dst v) w' ρ' cs g1 g2 (by rw [put_tmps_size]; exact g3) (by rw [put_defers]; exact g4) hR (by rw [hd]; exact slots_put (g6.mono hp hc) hdn' hx)
  exact ⟨e, w2, fr, .head hst s, q⟩

/-- An operation under a guard that doesn't hold is passed over. -/
theorem run_opS {i : Nat} {rest : List Nat} {o oj : Oper} {d j dj : Nat} {want : Bool} (ho : ops[i]? = some o) (hg : o.guard = some (j, want)) (hj : ops[j]? = some oj) (hdj : oj.dst = some dj)
    (hdjn : Nat.blt dj n = true) (hb : τ dj = .val (.bool (!want))) (hd : o.dst = some d) (hdn : Nat.blt d n = true)
    (h : Run P f n C (upd τ d .bad) ar (.inRegion ops rest :: k) Q) : Run P f n C τ ar (.inRegion ops (i :: rest) :: k) Q := by
  intro b a w ρ cs g1 g2 g3 g4 g5 g6
  have hw : Region.wanted o (yielded ops a.tmps) = false := by
    rw [wanted_of_guard g6 hg hj hdj (by rw [g3]; simpa [Nat.blt_eq] using hdjn) hb]; cases want <;> rfl
  have hst := stepR_op_skip (P := P) (b := b) (a := a) (k := k) (cs := cs) (w := w) (ops := ops) (i := i) (rest := rest) (by simp [ho, hw])
  simp only [ho, Option.bind_some] at hst
  have hdn' : d < a.tmps.size := by rw [g3]; simpa [Nat.blt_eq] using hdn
  obtain ⟨e, w2, fr, s, q⟩ := h b (a.put o.dst undef) w ρ cs g1 g2 (by rw [put_tmps_size]; exact g3) (by rw [put_defers]; exact g4) g5 (by rw [hd]; exact slots_put g6 hdn' .bad)
  exact ⟨e, w2, fr, .head hst s, q⟩

/-! ### Operations under a guard that isn't decided: what they yield is told under a condition -/
def memN : Nat → List Nat → Bool
  | _, [] => false
  | t, x :: l => match Nat.beq t x with
    | true => true
    | false => memN t l
theorem memN_iff {t : Nat} {l : List Nat} : memN t l = true ↔ t ∈ l := by
  induction l with
  | nil => simp [memN]
  | cons x l ih =>
    simp only [memN, List.mem_cons]
    cases h : Nat.beq t x with
    | true => simp [Nat.eq_of_beq_eq_true h]
    | false => simp [ih]; intro e; subst e; simp at h
def tmpsOf : List Operand → List Nat
  | [] => []
  | .tmp t :: l => t :: tmpsOf l
  | _ :: l => tmpsOf l
theorem tmpsOf_mem {t : Nat} {l : List Operand} (h : Operand.tmp t ∈ l) : t ∈ tmpsOf l := by
  induction l with
  | nil => simp at h
  | cons x l ih =>
    rcases List.mem_cons.1 h with rfl | h'
    · simp [tmpsOf]
    · cases x <;> simp [tmpsOf, ih h']
/-- What holds where the condition does. -/
def AV.strip : AV → AV
  | .opt _ x => x
  | x => x
/-- The operands' slots, under the condition. -/
def opT (l : List Nat) (τ : Nat → AV) : Nat → AV := fun t => match memN t l with
  | true => (τ t).strip
  | false => .bad
def AV.plain : AV → Bool
  | .opt _ _ => false
  | _ => true
inductive GOK (c : Bool) : AV → Prop
  | o {x} : GOK c (.opt c x)
  | i {c' x} : (c = true → c' = true) → GOK c (.opt c' x)
  | n {x} : x.plain = true → GOK c x
theorem gok_and {c1 c2 : Bool} {x : AV} : GOK (c1 && c2) (.opt c1 x) := .i fun h => by simp at h; exact h.1
inductive GOKs (c : Bool) (τ : Nat → AV) : List Nat → Prop
  | nil : GOKs c τ []
  | cons {t l} : GOK c (τ t) → GOKs c τ l → GOKs c τ (t :: l)
theorem strip_ok {w : World} {O : Nat → Prop} {ρ : List Loc} {c : Bool} {x : AV} {v : Value} (hc : c = true) (hg : GOK c x) (h : RV w O ρ x v) : RV w O ρ x.strip v := by
  cases hg with
  | o => exact rv_opt h hc
  | i hi => exact rv_opt h (hi hc)
  | n hn => cases x <;> first | exact h | simp [AV.plain] at hn
theorem opT_slots {w : World} {O : Nat → Prop} {ρ : List Loc} {tmps : Array Value} {c : Bool} (hc : c = true) {l : List Nat} (hg : GOKs c τ l) (h : Slots w O ρ τ tmps) : Slots w O ρ (opT l τ) tmps := by
  intro t
  unfold opT
  cases hm : memN t l with
  | false => exact .bad
  | true =>
    have ht := memN_iff.1 hm
    induction hg with
    | nil => simp at ht
    | @cons t' l hgt _ ih =>
      by_cases e : t = t'
      · subst e
        exact strip_ok hc hgt (h t)
      · have h' : t ∈ l := by simpa [e] using ht
        exact ih (memN_iff.2 h') h'

/-- What the guard's slot says: a Bool, perhaps itself under a condition. -/
def AV.boolC : AV → Option (Option Bool × Bool)
  | .val (.bool b) => some (none, b)
  | .opt c (.val (.bool b)) => some (some c, b)
  | _ => none
/-- When such a guard lets by. -/
def condOf : Option Bool → Bool → Bool → Bool
  | none, b, want => b == want
  | some c, b, want => c && (b == want)

/-- What a slot that is a guard says. -/
inductive GuardA (n : Nat) (τ : Nat → AV) (ops : Array Oper) : Nat → Option Bool → Bool → Prop
  | v {j oj dj b} : ops[j]? = some oj → oj.dst = some dj → Nat.blt dj n = true → τ dj = .val (.bool b) → GuardA n τ ops j none b
  | o {j oj dj b c} : ops[j]? = some oj → oj.dst = some dj → Nat.blt dj n = true → τ dj = .opt c (.val (.bool b)) → GuardA n τ ops j (some c) b

theorem wanted_of {w : World} {O : Nat → Prop} {ρ : List Loc} {a : Act} {o : Oper} {j : Nat} {want b : Bool} {oc : Option Bool} (h : Slots w O ρ τ a.tmps) (hn : a.tmps.size = n) (hg : o.guard = some (j, want))
    (hb : GuardA n τ ops j oc b) : Region.wanted o (yielded ops a.tmps) = condOf oc b want := by
  cases hb with
  | v h1 h2 h3 h4 => exact wanted_of_guard h hg h1 h2 (by rw [hn]; simpa [Nat.blt_eq] using h3) h4
  | @o oj dj b c h1 h2 h3 h4 =>
    have hlt : dj < a.tmps.size := by rw [hn]; simpa [Nat.blt_eq] using h3
    have hr := h dj
    rw [h4] at hr
    have hget : a.tmps.getD dj undef = a.tmps[dj] := by simp [Array.getD_eq_getD_getElem?, hlt]
    rw [hget] at hr
    have hy : yielded ops a.tmps j = (match a.tmps[dj] with | .bool b => some b | _ => none) := by
      simp only [yielded, h1, h2, Option.bind_some, Array.getElem?_eq_getElem hlt]
      cases a.tmps[dj] <;> rfl
    cases c with
    | true =>
      have := rv_val (rv_opt hr rfl)
      simp only [Region.wanted, hg, hy, this, condOf, Bool.true_and]
      rfl
    | false =>
      have := rv_optF hr rfl
      simp only [Region.wanted, hg, hy, this, condOf, Bool.false_and]
      rfl

/-- The slots L; those of l under the condition. -/
def opS (L l : List Nat) (τ : Nat → AV) : Nat → AV := fun t => match memN t l with
  | true => (τ t).strip
  | false => match memN t L with
    | true => τ t
    | false => .bad
theorem opS_slots {w : World} {O : Nat → Prop} {ρ : List Loc} {tmps : Array Value} {c : Bool} (hc : c = true) {L l : List Nat} (hg : GOKs c τ l) (h : Slots w O ρ τ tmps) : Slots w O ρ (opS L l τ) tmps := by
  intro t
  have h1 := opT_slots hc hg h t
  unfold opS
  unfold opT at h1
  cases hm : memN t l with
  | true => simp only [hm] at h1; exact h1
  | false =>
    dsimp only
    cases hm2 : memN t L with
    | true => exact h t
    | false => exact .bad
/-- The slots that an operation under a condition reads in any case. -/
def sops : Op → List Nat
  | .pick c _ _ => tmpsOf [c]
  | op => tmpsOf op.operands.toList
theorem tmpsOf_mem2 {l : List Operand} {t : Nat} (h : t ∈ tmpsOf l) : Operand.tmp t ∈ l := by
  induction l with
  | nil => simp [tmpsOf] at h
  | cons x l ih =>
    cases x with
    | tmp u =>
      simp [tmpsOf] at h
      rcases h with rfl | h
      · simp
      · exact List.mem_cons_of_mem _ (ih h)
    | const v => exact List.mem_cons_of_mem _ (ih (by simpa [tmpsOf] using h))
    | global g => exact List.mem_cons_of_mem _ (ih (by simpa [tmpsOf] using h))
    | func g => exact List.mem_cons_of_mem _ (ih (by simpa [tmpsOf] using h))
theorem mem_tmpsOf2 {l : List Operand} {t : Nat} (h : Operand.tmp t ∈ l) : t ∈ tmpsOf l := by
  induction l with
  | nil => simp at h
  | cons x l ih =>
    rcases List.mem_cons.1 h with rfl | h'
    · simp [tmpsOf]
    · cases x <;> simp [tmpsOf, ih h']
theorem sops_sub {op : Op} {t : Nat} (h : t ∈ sops op) : t ∈ tmpsOf op.operands.toList := by
  unfold sops at h
  split at h
  · rename_i c y z
    have := tmpsOf_mem2 h
    exact mem_tmpsOf2 (by simp at this; simp [Op.operands, this])
  · exact h

/-- The state behind an operation whose guard isn't decided; what is read in any case is told under the condition. -/
theorem run_opV {i : Nat} {rest : List Nat} {o : Oper} {d j : Nat} {want b : Bool} {oc : Option Bool} {x : AV} (ho : ops[i]? = some o) (hg : o.guard = some (j, want)) (hb : GuardA n τ ops j oc b) (hd : o.dst = some d) (hdn : Nat.blt d n = true)
    {L l : List Nat} (hgk : GOKs (condOf oc b want) τ l)
    (hs : condOf oc b want = true → OpStep P (opS L l τ) ar o x ar) (h : Run P f n C (upd τ d (.opt (condOf oc b want) x)) ar (.inRegion ops rest :: k) Q) : Run P f n C τ ar (.inRegion ops (i :: rest) :: k) Q := by
  intro b' a w ρ cs g1 g2 g3 g4 g5 g6
  have hw := wanted_of g6 g3 hg hb
  have hdn' : d < a.tmps.size := by rw [g3]; simpa [Nat.blt_eq] using hdn
  cases hc : condOf oc b want with
  | true =>
    obtain ⟨r, v, w', ρ', hr, hv, hR, hcm, hp, hx⟩ := hs hc C a w ρ g5 (opS_slots hc hgk g6)
    have hst := step_op_value (P := P) (b := b') (k := k) (cs := cs) (rest := rest) ho (hw.trans hc) hr hv
    obtain ⟨e, w2, fr, s, q⟩ := h b' (a.put o.dst v) w' ρ' cs g1 g2 (by rw [put_tmps_size]; exact g3) (by rw [put_defers]; exact g4) hR (by
      rw [hd]; exact slots_put (g6.mono hp hcm) hdn' (.opt (fun _ => hx) (fun h' => by rw [hc] at h'; cases h')))
    exact ⟨e, w2, fr, .head hst s, q⟩
  | false =>
    have hst := stepR_op_skip (P := P) (b := b') (a := a) (k := k) (cs := cs) (w := w) (ops := ops) (i := i) (rest := rest) (by simp [ho, hw, hc])
    simp only [ho, Option.bind_some] at hst
    obtain ⟨e, w2, fr, s, q⟩ := h b' (a.put o.dst undef) w ρ cs g1 g2 (by rw [put_tmps_size]; exact g3) (by rw [put_defers]; exact g4) g5 (by
      rw [hd]; exact slots_put g6 hdn' (.opt (fun h' => by rw [hc] at h'; cases h') (fun _ => rfl)))
    exact ⟨e, w2, fr, .head hst s, q⟩

/-- The state behind an operation whose guard isn't decided. -/
theorem run_opU {i : Nat} {rest : List Nat} {o : Oper} {d j : Nat} {want b : Bool} {oc : Option Bool} {x : AV} (ho : ops[i]? = some o) (hg : o.guard = some (j, want)) (hb : GuardA n τ ops j oc b) (hd : o.dst = some d) (hdn : Nat.blt d n = true)
    {l : List Nat} (hl : tmpsOf o.op.operands.toList = l) (hgk : GOKs (condOf oc b want) τ l)
    (hs : condOf oc b want = true → OpStep P (opT l τ) ar o x ar) (h : Run P f n C (upd τ d (.opt (condOf oc b want) x)) ar (.inRegion ops rest :: k) Q) : Run P f n C τ ar (.inRegion ops (i :: rest) :: k) Q := by
  intro b' a w ρ cs g1 g2 g3 g4 g5 g6
  have hw := wanted_of g6 g3 hg hb
  have hdn' : d < a.tmps.size := by rw [g3]; simpa [Nat.blt_eq] using hdn
  cases hc : condOf oc b want with
  | true =>
    obtain ⟨r, v, w', ρ', hr, hv, hR, hcm, hp, hx⟩ := hs hc C a w ρ g5 (opT_slots hc hgk g6)
    have hst := step_op_value (P := P) (b := b') (k := k) (cs := cs) (rest := rest) ho (hw.trans hc) hr hv
    obtain ⟨e, w2, fr, s, q⟩ := h b' (a.put o.dst v) w' ρ' cs g1 g2 (by rw [put_tmps_size]; exact g3) (by rw [put_defers]; exact g4) hR (by
      rw [hd]; exact slots_put (g6.mono hp hcm) hdn' (.opt (fun _ => hx) (fun h' => by rw [hc] at h'; cases h')))
    exact ⟨e, w2, fr, .head hst s, q⟩
  | false =>
    have hst := stepR_op_skip (P := P) (b := b') (a := a) (k := k) (cs := cs) (w := w) (ops := ops) (i := i) (rest := rest) (by simp [ho, hw, hc])
    simp only [ho, Option.bind_some] at hst
    obtain ⟨e, w2, fr, s, q⟩ := h b' (a.put o.dst undef) w ρ cs g1 g2 (by rw [put_tmps_size]; exact g3) (by rw [put_defers]; exact g4) g5 (by
      rw [hd]; exact slots_put g6 hdn' (.opt (fun h' => by rw [hc] at h'; cases h') (fun _ => rfl)))
    exact ⟨e, w2, fr, .head hst s, q⟩

/-! ### Operations that leave the world alone -/
/-- A step that makes no memory: its run, in whatever world. -/
theorem opStep_same {o : Oper} {x : AV} (h : ∀ (C : Cx) (a : Act) (w : World) (ρ : List Loc), RelA C ρ ar w → Slots w (Ow C ρ ar) ρ τ a.tmps → ∃ v, (execOp a.eval o).run P w = .ok (.value v) w ∧ RV w (Ow C ρ ar) ρ x v) :
    OpStep P τ ar o x ar := fun C a w ρ h1 h2 => by
  obtain ⟨v, hr, hx⟩ := h C a w ρ h1 h2
  exact ⟨_, v, w, ρ, hr, .inl rfl, h1, Compat.refl _, Pres.refl _ _, hx⟩

theorem op_mv {o : Oper} {y : Operand} {x : AV} (ho : o.op = .move y ∨ o.op = .assign y) (hx : evA τ y = x) : OpStep P τ ar o x ar :=
  opStep_same fun C a w ρ _ h => ⟨a.eval y, by rcases ho with ho | ho <;> simp [execOp, ho], hx ▸ evA_ok h y⟩
theorem op_move_val {o : Oper} {y : Operand} {v : Value} (ho : o.op = .move y) (hx : evA τ y = .val v) : OpStep P τ ar o (.val v) ar := op_mv (.inl ho) hx
theorem op_move_slc {o : Oper} {y : Operand} {sz : Nat} {nl : Option Bool} {m : Nat} {r : Nat → List AV} (ho : o.op = .move y) (hx : evA τ y = .slc sz nl m r) : OpStep P τ ar o (.slc sz nl m r) ar := op_mv (.inl ho) hx
theorem op_move_ptr {o : Oper} {y : Operand} {id ver off : Nat} (ho : o.op = .move y) (hx : evA τ y = .ptr id ver off) : OpStep P τ ar o (.ptr id ver off) ar := op_mv (.inl ho) hx
theorem op_move_agg {o : Oper} {y : Operand} {cs : List AV} (ho : o.op = .move y) (hx : evA τ y = .agg cs) : OpStep P τ ar o (.agg cs) ar := op_mv (.inl ho) hx
theorem op_move_tup {o : Oper} {y : Operand} {cs : List AV} (ho : o.op = .move y) (hx : evA τ y = .tup cs) : OpStep P τ ar o (.tup cs) ar := op_mv (.inl ho) hx
theorem op_move_row {o : Oper} {y : Operand} {id ver : Nat} (ho : o.op = .move y) (hx : evA τ y = .row id ver) : OpStep P τ ar o (.row id ver) ar := op_mv (.inl ho) hx
theorem op_move_fn {o : Oper} {y : Operand} {f : Fn} {cs : List AV} (ho : o.op = .move y) (hx : evA τ y = .fn f cs) : OpStep P τ ar o (.fn f cs) ar := op_mv (.inl ho) hx
theorem op_move_ifc {o : Oper} {y : Operand} {t : TypeId} {z : AV} (ho : o.op = .move y) (hx : evA τ y = .ifc t z) : OpStep P τ ar o (.ifc t z) ar := op_mv (.inl ho) hx
theorem op_move_loc {o : Oper} {y : Operand} {cs : List AV} {off : Nat} (ho : o.op = .move y) (hx : evA τ y = .loc cs off) : OpStep P τ ar o (.loc cs off) ar := op_mv (.inl ho) hx
theorem op_assign_val {o : Oper} {y : Operand} {v : Value} (ho : o.op = .assign y) (hx : evA τ y = .val v) : OpStep P τ ar o (.val v) ar := op_mv (.inr ho) hx
theorem op_assign_slc {o : Oper} {y : Operand} {sz : Nat} {nl : Option Bool} {m : Nat} {r : Nat → List AV} (ho : o.op = .assign y) (hx : evA τ y = .slc sz nl m r) : OpStep P τ ar o (.slc sz nl m r) ar := op_mv (.inr ho) hx
theorem op_assign_ptr {o : Oper} {y : Operand} {id ver off : Nat} (ho : o.op = .assign y) (hx : evA τ y = .ptr id ver off) : OpStep P τ ar o (.ptr id ver off) ar := op_mv (.inr ho) hx
theorem op_assign_agg {o : Oper} {y : Operand} {cs : List AV} (ho : o.op = .assign y) (hx : evA τ y = .agg cs) : OpStep P τ ar o (.agg cs) ar := op_mv (.inr ho) hx
theorem op_assign_tup {o : Oper} {y : Operand} {cs : List AV} (ho : o.op = .assign y) (hx : evA τ y = .tup cs) : OpStep P τ ar o (.tup cs) ar := op_mv (.inr ho) hx
theorem op_assign_row {o : Oper} {y : Operand} {id ver : Nat} (ho : o.op = .assign y) (hx : evA τ y = .row id ver) : OpStep P τ ar o (.row id ver) ar := op_mv (.inr ho) hx
theorem op_assign_fn {o : Oper} {y : Operand} {f : Fn} {cs : List AV} (ho : o.op = .assign y) (hx : evA τ y = .fn f cs) : OpStep P τ ar o (.fn f cs) ar := op_mv (.inr ho) hx
theorem op_assign_ifc {o : Oper} {y : Operand} {t : TypeId} {z : AV} (ho : o.op = .assign y) (hx : evA τ y = .ifc t z) : OpStep P τ ar o (.ifc t z) ar := op_mv (.inr ho) hx
theorem op_assign_loc {o : Oper} {y : Operand} {cs : List AV} {off : Nat} (ho : o.op = .assign y) (hx : evA τ y = .loc cs off) : OpStep P τ ar o (.loc cs off) ar := op_mv (.inr ho) hx

theorem eval_val {w : World} {O : Nat → Prop} {ρ : List Loc} {a : Act} (h : Slots w O ρ τ a.tmps) {x : Operand} {v : Value} (hx : evA τ x = .val v) : a.eval x = v :=
  rv_val (by have := evA_ok h x; rwa [hx] at this)

theorem op_pickT {o : Oper} {c y z : Operand} (ho : o.op = .pick c y z) (hc : evA τ c = .val (.bool true)) : OpStep P τ ar o (evA τ y) ar :=
  opStep_same fun C a w ρ _ h => ⟨a.eval y, by simp [execOp, ho, eval_val h hc, asBool], evA_ok h y⟩
theorem op_pickF {o : Oper} {c y z : Operand} (ho : o.op = .pick c y z) (hc : evA τ c = .val (.bool false)) : OpStep P τ ar o (evA τ z) ar :=
  opStep_same fun C a w ρ _ h => ⟨a.eval z, by simp [execOp, ho, eval_val h hc, asBool], evA_ok h z⟩
/-- Both arms there: a Bool of both. -/
theorem op_pickB {o : Oper} {c y z : Operand} {b p q : Bool} (ho : o.op = .pick c y z) (hc : evA τ c = .val (.bool b)) (hy : evA τ y = .val (.bool p)) (hz : evA τ z = .val (.bool q)) :
    OpStep P τ ar o (.val (.bool (if b then p else q))) ar :=
  opStep_same fun C a w ρ _ h => ⟨.bool (if b then p else q), by cases b <;> simp [execOp, ho, eval_val h hc, eval_val h hy, eval_val h hz, asBool], .val⟩

theorem op_pickOr {o : Oper} {c y z : Operand} {b p q : Bool} (ho : o.op = .pick c y z) (hc : evA τ c = .val (.bool b)) (hy : evA τ y = .val (.bool p)) (hz : evA τ z = .opt (b == false) (.val (.bool q))) :
    OpStep P τ ar o (.val (.bool (if b then p else q))) ar :=
  opStep_same fun C a w ρ _ h => ⟨.bool (if b then p else q), by
    have hv := evA_ok h z
    rw [hz] at hv
    cases b with
    | true => simp [execOp, ho, eval_val h hc, eval_val h hy, asBool]
    | false => have := rv_val (rv_opt hv rfl); simp [execOp, ho, eval_val h hc, this, asBool], .val⟩
theorem op_pickAnd {o : Oper} {c y z : Operand} {b p q : Bool} (ho : o.op = .pick c y z) (hc : evA τ c = .val (.bool b)) (hy : evA τ y = .opt (b == true) (.val (.bool p))) (hz : evA τ z = .val (.bool q)) :
    OpStep P τ ar o (.val (.bool (if b then p else q))) ar :=
  opStep_same fun C a w ρ _ h => ⟨.bool (if b then p else q), by
    have hv := evA_ok h y
    rw [hy] at hv
    cases b with
    | true => have := rv_val (rv_opt hv rfl); simp [execOp, ho, eval_val h hc, this, asBool]
    | false => simp [execOp, ho, eval_val h hc, eval_val h hz, asBool], .val⟩

/-- Of whole numbers. -/
def arithV : BinOp → IntKind → Int → Int → Option Value
  | .add, k, x, y => some (.int k (k.wrap (x + y)))
  | .sub, k, x, y => some (.int k (k.wrap (x - y)))
  | .mul, k, x, y => some (.int k (k.wrap (x * y)))
  | .eql, _, x, y => some (.bool (x == y))
  | .neq, _, x, y => some (.bool (x != y))
  | .lss, _, x, y => some (.bool (x < y))
  | .leq, _, x, y => some (.bool (x ≤ y))
  | .gtr, _, x, y => some (.bool (x > y))
  | .geq, _, x, y => some (.bool (x ≥ y))
  | _, _, _, _ => none
theorem op_arith {o : Oper} {op : BinOp} {xt yt : TypeId} {x y : Operand} {k : IntKind} {p q : Int} {v : Value} (ho : o.op = .binOp op xt x y yt) (hx : evA τ x = .val (.int k p)) (hy : evA τ y = .val (.int k q))
    (hv : arithV op k p q = some v) : OpStep P τ ar o (.val v) ar :=
  opStep_same fun C a w ρ _ h => ⟨v, by
    cases op <;> simp [arithV] at hv <;> subst hv <;> simp [execOp, ho, eval_val h hx, eval_val h hy, eqGuard, binOp, Op.intArith, Op.intCmp], .val⟩
theorem op_quo {o : Oper} {xt yt : TypeId} {x y : Operand} {k : IntKind} {p q : Int} (ho : o.op = .binOp .quo xt x y yt) (hx : evA τ x = .val (.int k p)) (hy : evA τ y = .val (.int k q))
    (hq : q ≠ 0) : OpStep P τ ar o (.val (.int k (k.wrap (p.tdiv q)))) ar :=
  opStep_same fun C a w ρ _ h => ⟨_, by
    simp [execOp, ho, eval_val h hx, eval_val h hy, eqGuard, binOp, Op.intDiv, hq], .val⟩
theorem op_rem {o : Oper} {xt yt : TypeId} {x y : Operand} {k : IntKind} {p q : Int} (ho : o.op = .binOp .rem xt x y yt) (hx : evA τ x = .val (.int k p)) (hy : evA τ y = .val (.int k q))
    (hq : q ≠ 0) : OpStep P τ ar o (.val (.int k (p.tmod q))) ar :=
  opStep_same fun C a w ρ _ h => ⟨_, by
    simp [execOp, ho, eval_val h hx, eval_val h hy, eqGuard, binOp, Op.intDiv, hq], .val⟩
theorem op_not {o : Oper} {xt : TypeId} {x : Operand} {b : Bool} (ho : o.op = .unOp .not xt x) (hx : evA τ x = .val (.bool b)) : OpStep P τ ar o (.val (.bool (!b))) ar :=
  opStep_same fun C a w ρ _ h => ⟨_, by simp [execOp, ho, eval_val h hx, Op.unary], .val⟩
theorem op_neg {o : Oper} {xt : TypeId} {x : Operand} {k : IntKind} {p : Int} (ho : o.op = .unOp .neg xt x) (hx : evA τ x = .val (.int k p)) : OpStep P τ ar o (.val (.int k (k.wrap (0 - p)))) ar :=
  opStep_same fun C a w ρ _ h => ⟨_, by simp [execOp, ho, eval_val h hx, Op.unary, Op.intArith], .val⟩

theorem op_extract {o : Oper} {x : Operand} {j : Nat} {l : List AV} {y : AV} (ho : o.op = .extract x j) (hx : evA τ x = .tup l) (hy : nth l j = some y) : OpStep P τ ar o y ar :=
  opStep_same fun C a w ρ _ h => by
    have hv := evA_ok h x
    rw [hx] at hv
    rw [nth_eq] at hy
    obtain ⟨vs, e, hl, hr⟩ := rv_tup hv
    have hj : j < vs.size := by rw [← hl]; exact (List.getElem?_eq_some_iff.1 hy).1
    exact ⟨vs[j], by simp [execOp, ho, e, Instr.extract, hj], hr j y _ hy (by simp [hj])⟩

theorem op_len_slc {o : Oper} {x : Operand} {t e : TypeId} [ElT P t e] {sz : Nat} {nl : Option Bool} {m : Nat} {r : Nat → List AV} (ho : o.op = .call { callee := .builtin .len, args := #[x], argTypes := #[t] })
    (hx : evA τ x = .slc sz nl m r) : OpStep P τ ar o (.val (.int .i64 m)) ar :=
  opStep_same fun C a w ρ _ h => by
    have hv := evA_ok h x
    rw [hx] at hv
    obtain ⟨A, cap, g, e1, _⟩ := rv_slc hv
    exact ⟨_, by simp [execOp, ho, resolve, invoke, builtin, e1, Builtin.len_, run_underlying (ElT.h (P := P) (t := t)), goInt], .val⟩

theorem op_len_str {o : Oper} {x : Operand} {t : TypeId} {s : ByteArray} (ho : o.op = .call { callee := .builtin .len, args := #[x], argTypes := #[t] }) (ht : P.underlying t = some .string)
    (hx : evA τ x = .val (.string s)) : OpStep P τ ar o (.val (.int .i64 s.size)) ar :=
  opStep_same fun C a w ρ _ h => ⟨_, by simp [execOp, ho, resolve, invoke, builtin, eval_val h hx, Builtin.len_, run_underlying ht, goInt], .val⟩

theorem op_len_nil {o : Oper} {x : Operand} {t e : TypeId} [ElT P t e] {c : Nat} (ho : o.op = .call { callee := .builtin .len, args := #[x], argTypes := #[t] })
    (hx : evA τ x = .val (.slice none 0 c)) : OpStep P τ ar o (.val (.int .i64 0)) ar :=
  opStep_same fun C a w ρ _ h => ⟨_, by simp [execOp, ho, resolve, invoke, builtin, eval_val h hx, Builtin.len_, run_underlying (ElT.h (P := P) (t := t)), goInt], .val⟩

theorem add_add (a : Addr) (m n : Nat) (h : a.spot = none) : (a.add m).add n = a.add (m + n) := by
  unfold Addr.add
  by_cases hm : m = 0
  · subst hm
    simp
  · by_cases hn : n = 0
    · subst hn
      simp
    · simp [hm, hn, Nat.add_assoc]

theorem spot_of_cell {w : World} {a : Addr} {n : Nat} {u : Value} (h : w.cell? (a.add n) = some u) (h0 : n = 0 ∨ True) : (a.add n).spot = none := by
  unfold World.cell? at h
  split at h
  · split at h
    · cases h
    · rename_i hs
      cases hsp : (a.add n).spot with
      | none => rfl
      | some z => simp [hsp] at hs
  · cases h

theorem add_add' {w : World} {a : Addr} {m n : Nat} {u : Value} (h : w.cell? (a.add (m + n)) = some u) : (a.add m).add n = a.add (m + n) := by
  by_cases hn : n = 0
  · subst hn
    simp [Addr.add]
  · unfold Addr.add
    by_cases hm : m = 0
    · subst hm; simp [hn]
    · simp [hm, hn, Nat.add_assoc]

theorem run_elem {w : World} {t e : TypeId} (h : P.underlying t = some (.slice e)) : P.elem t = e := by simp [Program.elem, h]

/-- An index is within. -/
def inB (i : Int) (m : Nat) : Bool := decide (0 ≤ i) && decide (i < m)
theorem inB_iff {i : Int} {m : Nat} : inB i m = true ↔ 0 ≤ i ∧ i < m := by simp [inB]

/-- xs[i]'s place, of a slice that is read. -/
theorem op_index_slc {o : Oper} {x y : Operand} {t e : TypeId} {sz sz' : Nat} {ag : Bool} [ElT P t e] [Ty P e sz ag] {nl : Option Bool} {m : Nat} {r : Nat → List AV} {kk : IntKind} {i : Int}
    (ho : o.op = .indexAddr t x y) (hx : evA τ x = .slc sz' nl m r) (hy : evA τ y = .val (.int kk i)) (hsz : sz' = sz) (hb : inB i m = true) : OpStep P τ ar o (.loc (r i.toNat) 0) ar :=
  opStep_same fun C a w ρ _ h => by
    subst hsz
    obtain ⟨h0, h1⟩ := inB_iff.1 hb
    have hv := evA_ok h x
    rw [hx] at hv
    obtain ⟨A, cap, g, e1, e3, e4, e5, e6, e7, e8, e9⟩ := rv_slc hv
    have hi : i.toNat < m := by omega
    obtain ⟨ad, rfl, hb, hO⟩ := e7 (by omega)
    have hs := Ty.size (P := P) (t := e)
    cases hinf : P.info? e with
    | none => simp [hinf] at hs
    | some info =>
      simp [hinf] at hs
      refine ⟨.pointer (some (ad.add (i.toNat * sz'))), ?_, ?_⟩
      · have hel := ElT.h (P := P) (t := t)
        have hc : 0 ≤ i ∧ i < (m : Int) := by omega
        simp [execOp, ho, e1, eval_val h hy, Instr.indexAt, run_underlying hel, asIntOf, hc, sizeOf, typeInfo, hinf, hs]
      · refine .loc (by rw [add_block]; exact hb) (by rw [add_block]; exact hO) (fun j => g i.toNat j) (fun j z hz => ?_) (fun j z hz => ?_)
        · rw [Nat.zero_add] at hz
          obtain ⟨c1, c2⟩ := e8 _ _ _ _ hi hz rfl
          exact ⟨by rw [add_add' c1]; exact c1, c2⟩
        · rw [Nat.zero_add] at hz
          exact e9 _ _ _ hi hz

theorem run_fieldAt_ok {w : World} {t : TypeId} {j off : Nat} {ft : TypeId} {sz : Nat} {ag : Bool} [hf : FldT P t j off ft] [ht : Ty P ft sz ag] (hsz : sz ≠ 0) (a : Addr) :
    (Instr.fieldAt t (.pointer (some a)) j).run P w = .ok (.pointer (some (a.add off))) w := by
  obtain ⟨fs, f, h1, h2, h3, h4⟩ := hf.h
  have hs := ht.size
  cases hinf : P.info? ft with
  | none => simp [hinf] at hs
  | some info =>
    simp [hinf] at hs
    subst h4
    simp [Instr.fieldAt, run_underlying h1, h2, Instr.sureAddr, fieldPlace, sizeOf, typeInfo, hinf, hs, hsz, h3]

theorem op_field_loc {o : Oper} {x : Operand} {t : TypeId} {j off : Nat} {ft : TypeId} {sz : Nat} {ag : Bool} [FldT P t j off ft] [Ty P ft sz ag] {cs : List AV} {o1 : Nat}
    (ho : o.op = .fieldAddr t x j) (hx : evA τ x = .loc cs o1) (hsz : Nat.beq sz 0 = false) {o2 : Nat} (h2 : Nat.add o1 off = o2) : OpStep P τ ar o (.loc cs o2) ar :=
  opStep_same fun C a w ρ _ h => by
    subst h2
    show ∃ v, _ ∧ RV _ _ _ (.loc cs (o1 + off)) v
    have hv := evA_ok h x
    rw [hx] at hv
    obtain ⟨ad, g, e1, e2, e3, e4, e5⟩ := rv_loc hv
    have hsz' : sz ≠ 0 := fun e => by subst e; cases hsz
    refine ⟨.pointer (some (ad.add off)), by simp [execOp, ho, e1, run_fieldAt_ok hsz'], ?_⟩
    refine .loc (by rw [add_block]; exact e2) (by rw [add_block]; exact e3) (fun j => g (off + j)) (fun j z hz => ?_) (fun j z hz => ?_)
    · rw [Nat.add_assoc] at hz
      obtain ⟨c1, c2⟩ := e4 _ _ hz
      exact ⟨by rw [add_add' c1]; exact c1, c2⟩
    · rw [Nat.add_assoc] at hz
      exact e5 _ _ hz

theorem op_field_ptr {o : Oper} {x : Operand} {t : TypeId} {j off : Nat} {ft : TypeId} {sz : Nat} {ag : Bool} [FldT P t j off ft] [Ty P ft sz ag] {id ver o1 : Nat} {ob : AO}
    (ho : o.op = .fieldAddr t x j) (hx : evA τ x = .ptr id ver o1) (hob : nth ar id = some ob) (hver : (match ob with | .box _ _ => some 0 | _ => none) = some ver) (hsz : Nat.beq sz 0 = false) {o2 : Nat} (h2 : Nat.add o1 off = o2) :
    OpStep P τ ar o (.ptr id ver o2) ar :=
  opStep_same fun C a w ρ hR h => by
    subst h2
    show ∃ v, _ ∧ RV _ _ _ (.ptr id ver (o1 + off)) v
    have hv := evA_ok h x
    rw [hx] at hv
    obtain ⟨L, e1, e2, e3, e4⟩ := rv_ptr hv
    have hsz' : sz ≠ 0 := fun e => by subst e; cases hsz
    rw [nth_eq] at hob
    have hL : ver = L.ver := by
      have := hR.obj id ob L hob e1
      cases ob with
      | gone => simp at hver
      | box e cs => simp at hver; rw [← hver]; exact this.1.symm
      | row e sz v m r => simp at hver
      | loop _ _ _ _ _ _ _ _ => simp at hver
      | dfr _ => simp at hver
    obtain ⟨b, hb, e5⟩ := e4 hL
    have hadd : (⟨b, o1, none⟩ : Addr).add off = ⟨b, o1 + off, none⟩ := by unfold Addr.add; split <;> simp_all
    exact ⟨.pointer (some ((⟨b, o1, none⟩ : Addr).add off)), by simp [execOp, ho, e5, run_fieldAt_ok hsz'], .ptr e1 e2 rfl fun _ => ⟨b, hb, by rw [hadd]⟩⟩

theorem isAgg_run {w : World} {t : TypeId} {sz : Nat} {ag : Bool} [h : Ty P t sz ag] : (isAgg t).run P w = .ok ag w := by
  have hd := h.desc
  cases hu : P.underlying t with
  | none => simp [hu] at hd
  | some d =>
    simp [hu] at hd
    unfold isAgg
    rw [Sem.run_bind, run_underlying hu w]
    cases d <;> simp_all [TypeDesc.isRow]
theorem sizeOf_run {w : World} {t : TypeId} {sz : Nat} {ag : Bool} [h : Ty P t sz ag] : (sizeOf t).run P w = .ok sz w := by
  have hs := h.size
  cases hinf : P.info? t with
  | none => simp [hinf] at hs
  | some info => simp [hinf] at hs; simp [sizeOf, typeInfo, hinf, hs]

/-- What a load of so many cells hands on. -/
def loadA (ag : Bool) (sz : Nat) (cs : List AV) (off : Nat) : Option AV :=
  match ag with
  | true => match sub cs off sz with
    | some r => some (.agg r)
    | none => none
  | false => nth cs off

theorem load_cells {w : World} {O : Nat → Prop} {ρ : List Loc} {t : TypeId} {sz : Nat} {ag : Bool} [Ty P t sz ag] {cs : List AV} {off : Nat} {x : AV} {a : Addr} (g : Nat → Value) (hx : loadA ag sz cs off = some x)
    (h1 : ∀ (j : Nat) y, cs[off + j]? = some y → w.cell? (a.add j) = some (g j) ∧ (g j).oneCell' = true) (h2 : ∀ (j : Nat) y, cs[off + j]? = some y → RV w O ρ y (g j)) :
    ∃ v, (Instr.loadAt t (.pointer (some a))).run P w = .ok v w ∧ RV w O ρ x v := by
  cases ag with
  | false =>
    simp only [loadA, nth_eq] at hx
    have c := h1 0 x (by simpa using hx)
    refine ⟨g 0, ?_, h2 0 x (by simpa using hx)⟩
    have h0 : a.add 0 = a := by simp [Addr.add]
    rw [h0] at c
    simp [Instr.loadAt, Instr.sureAddr, loadVar, isAgg_run (P := P) (t := t) (sz := sz) (ag := false), c.1]
  | true =>
    simp only [loadA] at hx
    cases hs : sub cs off sz with
    | none => simp [hs] at hx
    | some r =>
      simp [hs] at hx
      subst hx
      obtain ⟨hl, hr⟩ := sub_spec cs off sz r hs
      have hget : ∀ j, j < sz → ∃ y, cs[off + j]? = some y ∧ r[j]? = some y := fun j hj => by
        have : j < r.length := by omega
        exact ⟨r[j], by rw [hr j hj]; simp [this], by simp [this]⟩
      have hrun := run_loadCells (P := P) (w := w) a sz g (fun j hj => by obtain ⟨y, hy, _⟩ := hget j hj; exact (h1 j y hy).1)
      refine ⟨.agg ((List.range sz).map g).toArray, ?_, ?_⟩
      · simp [Instr.loadAt, Instr.sureAddr, loadVar, isAgg_run (P := P) (t := t) (sz := sz) (ag := true), sizeOf_run (P := P) (t := t) (sz := sz) (ag := true), hrun]
      · refine .agg (by simp [hl]) (fun i y v hy hv => ?_) (fun i v hv => ?_)
        · have hi : i < sz := by rw [← hl]; exact (List.getElem?_eq_some_iff.1 hy).1
          simp [hi] at hv
          subst hv
          exact h2 i y (by rw [hr i hi]; exact hy)
        · have hi : i < sz := by have := (Array.getElem?_eq_some_iff.1 hv).1; simpa using this
          simp [hi] at hv
          subst hv
          obtain ⟨y, hy, _⟩ := hget i hi
          exact (h1 i y hy).2

theorem op_load_loc {o : Oper} {p : Operand} {t : TypeId} {sz : Nat} {ag : Bool} [Ty P t sz ag] {cs : List AV} {off : Nat} {x : AV} (ho : o.op = .load t p) (hp : evA τ p = .loc cs off) (hx : loadA ag sz cs off = some x) :
    OpStep P τ ar o x ar :=
  opStep_same fun C a w ρ _ h => by
    have hv := evA_ok h p
    rw [hp] at hv
    obtain ⟨ad, g, e1, e2, e3, e4, e5⟩ := rv_loc hv
    obtain ⟨v, hr, hq⟩ := load_cells (P := P) (ρ := []) (t := t) g hx e4 e5
    exact ⟨v, by simp [execOp, ho, e1, hr], hq.up⟩

/-- An object's cells and version. -/
def AO.cells : AO → Option (Nat × List AV)
  | .box _ cs => some (0, cs)
  | .row _ _ _ _ _ => none
  | .gone => none
  | .loop _ _ _ _ _ _ _ _ => none
  | .dfr _ => none

/-- What lies behind a pointer of one's own. -/
theorem ptr_cells {w : World} {ρ : List Loc} {C : Cx} (hR : RelA C ρ ar w) {id ver off : Nat} {v : Value} {ob : AO} {cs : List AV} (hv : RV w (Ow C ρ ar) ρ (.ptr id ver off) v) (hob : ar[id]? = some ob) (hcs : ob.cells = some (ver, cs)) :
    ∃ (b : Nat) (g : Nat → Value), v = .pointer (some ⟨b, off, none⟩) ∧ (∀ (j : Nat) y, cs[off + j]? = some y → w.cell? ((⟨b, off, none⟩ : Addr).add j) = some (g j) ∧ (g j).oneCell' = true) ∧
      ∀ (j : Nat) y, cs[off + j]? = some y → RV w (Ow C ρ ar) ρ y (g j) := by
  obtain ⟨L, e1, e2, e3, e4⟩ := rv_ptr hv
  have hob' := hR.obj id ob L hob e1
  have hadd : ∀ (b j : Nat), (⟨b, off, none⟩ : Addr).add j = ⟨b, off + j, none⟩ := fun b j => by unfold Addr.add; split <;> simp_all
  cases ob with
  | gone => simp [AO.cells] at hcs
  | box e c =>
    simp [AO.cells] at hcs
    obtain ⟨rfl, rfl⟩ := hcs
    obtain ⟨hL, b, vs, hLv, hh, hc1, hc2⟩ := hob'
    obtain ⟨b', hb', e5⟩ := e4 hL.symm
    have : b' = b := by simp [Loc.blk, hLv] at hb'; exact hb'.symm
    subst this
    refine ⟨b', fun j => vs.toList.getD (off + j) undef, e5, fun j y hy => ?_, fun j y hy => ?_⟩
    · have hj : off + j < vs.toList.length := by rw [hc1]; exact (List.getElem?_eq_some_iff.1 hy).1
      have hg : vs.toList[off + j]? = some (vs.toList.getD (off + j) undef) := by simp [List.getD_eq_getElem?_getD, List.getElem?_eq_getElem hj]
      refine ⟨?_, (hc2 _ _ _ hy hg).2⟩
      rw [hadd, cell_of_row w b' (off + j) vs e (0, 0) hh]
      simpa using hg
    · have hj : off + j < vs.toList.length := by rw [hc1]; exact (List.getElem?_eq_some_iff.1 hy).1
      have hg : vs.toList[off + j]? = some (vs.toList.getD (off + j) undef) := by simp [List.getD_eq_getElem?_getD, List.getElem?_eq_getElem hj]
      exact (hc2 _ _ _ hy hg).1
  | row e sz ve m r => simp [AO.cells] at hcs
  | loop _ _ _ _ _ _ _ _ => simp [AO.cells] at hcs
  | dfr _ => simp [AO.cells] at hcs

theorem op_load_ptr {o : Oper} {p : Operand} {t : TypeId} {sz : Nat} {ag : Bool} [Ty P t sz ag] {id ver off : Nat} {ob : AO} {cs : List AV} {x : AV} (ho : o.op = .load t p) (hp : evA τ p = .ptr id ver off)
    (hob : nth ar id = some ob) (hcs : ob.cells = some (ver, cs)) (hx : loadA ag sz cs off = some x) : OpStep P τ ar o x ar :=
  opStep_same fun C a w ρ hR h => by
    have hv := evA_ok h p
    rw [hp] at hv
    rw [nth_eq] at hob
    obtain ⟨b, g, e1, e2, e3⟩ := ptr_cells hR hv hob hcs
    obtain ⟨v, hr, hq⟩ := load_cells (P := P) (t := t) g hx e2 e3
    exact ⟨v, by simp [execOp, ho, e1, hr], hq⟩

end
end Go.Iron
