/- Iron: a program logic over the walk's base: abstract values, objects of the call's own, and what relates them to a world. -/
import Derived.WalkKit
import Derived.KernelRfl
import Derived.AtR
import Derived.Laws.AppendOwn
namespace Go.Iron

/-- Abstract values. -/
inductive AV where
  | bad
  | val (v : Value)
  | agg (cs : List AV)
  | tup (vs : List AV)
  | slc (sz : Nat) (nl : Option Bool) (m : Nat) (r : Nat → List AV)
  | loc (cs : List AV) (off : Nat)
  | ptr (id ver off : Nat)
  | row (id ver : Nat)
  | elt (id ver sz i o : Nat)
  | fn (f : Fn) (caps : List AV)
  | ifc (t : TypeId) (x : AV)
  | opt (c : Bool) (x : AV)
  | yld (id : Nat)

/-- Where an object lies. -/
structure Loc where
  ver : Nat
  v : Value

def Loc.blk (L : Loc) : Option Nat :=
  match L.v with
  | .pointer (some a) => some a.block
  | .slice (some a) _ _ => some a.block
  | _ => none

/-- An abstract value stands for a value. -/
inductive RV (w : World) (O : Nat → Prop) : List Loc → AV → Value → Prop
  | bad {ρ v} : RV w O ρ .bad v
  | val {ρ v} : RV w O ρ (.val v) v
  | agg {ρ cs} {vs : Array Value} : cs.length = vs.size → (∀ (i : Nat) x v, cs[i]? = some x → vs[i]? = some v → RV w O ρ x v) →
      (∀ (i : Nat) v, vs[i]? = some v → v.oneCell' = true) → RV w O ρ (.agg cs) (.agg vs)
  | tup {ρ cs} {vs : Array Value} : cs.length = vs.size → (∀ (i : Nat) x v, cs[i]? = some x → vs[i]? = some v → RV w O ρ x v) → RV w O ρ (.tup cs) (.tuple vs)
  | slc {ρ sz nl m} {r : Nat → List AV} {A : Option Addr} {n cap : Nat} : n = m → n ≤ cap → cap ≤ maxLen → (∀ b, nl = some b → b = A.isNone) →
      (∀ (i : Nat), i < m → (r i).length = sz) →
      (0 < n → ∃ a, A = some a ∧ a.block < w.heap.size ∧ ¬ O a.block) →
      (g : Nat → Nat → Value) →
      (∀ (i j : Nat) x a, i < m → (r i)[j]? = some x → A = some a → w.cell? (a.add (i * sz + j)) = some (g i j) ∧ (g i j).oneCell' = true) →
      (∀ (i j : Nat) x, i < m → (r i)[j]? = some x → RV w O [] x (g i j)) →
      RV w O ρ (.slc sz nl m r) (.slice A n cap)
  | loc {ρ cs off} {a : Addr} : a.block < w.heap.size → ¬ O a.block →
      (g : Nat → Value) → (∀ (j : Nat) x, cs[off + j]? = some x → w.cell? (a.add j) = some (g j) ∧ (g j).oneCell' = true) →
      (∀ (j : Nat) x, cs[off + j]? = some x → RV w O [] x (g j)) → RV w O ρ (.loc cs off) (.pointer (some a))
  | ptr {ρ id ver off} {L : Loc} {v} : ρ[id]? = some L → ver ≤ L.ver → v.oneCell' = true → (ver = L.ver → ∃ b, L.blk = some b ∧ v = .pointer (some ⟨b, off, none⟩)) → RV w O ρ (.ptr id ver off) v
  | row {ρ id ver} {L : Loc} {v} : ρ[id]? = some L → ver ≤ L.ver → v.oneCell' = true → (ver = L.ver → v = L.v) → RV w O ρ (.row id ver) v
  | elt {ρ id ver sz i o} {L : Loc} {v} : ρ[id]? = some L → ver ≤ L.ver → v.oneCell' = true → (ver = L.ver → ∃ b, L.blk = some b ∧ v = .pointer (some ⟨b, i * sz + o, none⟩)) → RV w O ρ (.elt id ver sz i o) v
  | fn {ρ f cs} {vs : Array Value} : cs.length = vs.size → (∀ (i : Nat) x v, cs[i]? = some x → vs[i]? = some v → RV w O ρ x v) → RV w O ρ (.fn f cs) (.func f #[] vs)
  | ifc {ρ t x v} : RV w O ρ x v → RV w O ρ (.ifc t x) (.iface t v)
  | opt {ρ c x v} : (c = true → RV w O ρ x v) → (c = false → v = undef) → RV w O ρ (.opt c x) v
  | yld {ρ id l} {L : Loc} : ρ[id]? = some L → (L.ver = 0 → L.v = .pointer (some ⟨l, 0, none⟩)) → RV w O ρ (.yld id) (.func (.yield l) #[] #[])

/-- Later places of the same objects. -/
def Compat (ρ ρ' : List Loc) : Prop := ∀ (i : Nat) L, ρ[i]? = some L → ∃ L', ρ'[i]? = some L' ∧ L.ver ≤ L'.ver ∧ (L.ver = L'.ver → L'.v = L.v)

theorem Compat.refl (ρ : List Loc) : Compat ρ ρ := fun i L h => ⟨L, h, Nat.le_refl _, fun _ => rfl⟩
theorem Compat.trans {a b c : List Loc} (h : Compat a b) (k : Compat b c) : Compat a c := fun i L hL => by
  obtain ⟨L1, h1, h2, h3⟩ := h i L hL
  obtain ⟨L2, k1, k2, k3⟩ := k i L1 h1
  exact ⟨L2, k1, Nat.le_trans h2 k2, fun e => (k3 (by omega)).trans (h3 (by omega))⟩
theorem Compat.nil (ρ : List Loc) : Compat [] ρ := fun i L h => by simp at h
theorem Compat.append (ρ : List Loc) (x : List Loc) : Compat ρ (ρ ++ x) := fun i L h => ⟨L, by rw [List.getElem?_append_left (List.getElem?_eq_some_iff.1 h).1]; exact h, Nat.le_refl _, fun _ => rfl⟩
theorem Compat.set {ρ : List Loc} {i : Nat} {L L' : Loc} (h : ρ[i]? = some L) (hv : L.ver ≤ L'.ver) (he : L.ver = L'.ver → L'.v = L.v) : Compat ρ (ρ.set i L') := fun j M hM => by
  by_cases hij : i = j
  · subst hij
    rw [h] at hM
    cases hM
    exact ⟨L', by rw [List.getElem?_set_self (List.getElem?_eq_some_iff.1 h).1], hv, he⟩
  · exact ⟨M, by rw [List.getElem?_set_ne hij]; exact hM, Nat.le_refl _, fun _ => rfl⟩

theorem blk_of_eq {L L' : Loc} (h : L'.v = L.v) : L'.blk = L.blk := by simp [Loc.blk, h]

/-- What isn't owned lies as it lay, and isn't owned later. -/
def Pres (w : World) (O : Nat → Prop) (w' : World) (O' : Nat → Prop) : Prop :=
  w.heap.size ≤ w'.heap.size ∧ ∀ b, b < w.heap.size → ¬ O b → w'.heap[b]? = w.heap[b]? ∧ ¬ O' b

theorem Pres.refl (w : World) (O : Nat → Prop) : Pres w O w O := ⟨Nat.le_refl _, fun _ _ h => ⟨rfl, h⟩⟩
theorem Pres.trans {w w1 w2 : World} {O O1 O2 : Nat → Prop} (h : Pres w O w1 O1) (k : Pres w1 O1 w2 O2) : Pres w O w2 O2 :=
  ⟨Nat.le_trans h.1 k.1, fun b hb hO => by
    obtain ⟨h1, h2⟩ := h.2 b hb hO
    obtain ⟨k1, k2⟩ := k.2 b (Nat.lt_of_lt_of_le hb h.1) h2
    exact ⟨k1.trans h1, k2⟩⟩

theorem add_block (a : Addr) (n : Nat) : (a.add n).block = a.block := by unfold Addr.add; split <;> rfl

theorem RV.mono {w w' : World} {O O' : Nat → Prop} (hp : Pres w O w' O') {ρ : List Loc} {x : AV} {v : Value} (h : RV w O ρ x v) :
    ∀ {ρ' : List Loc}, Compat ρ ρ' → RV w' O' ρ' x v := by
  induction h with
  | bad => exact fun _ => .bad
  | val => exact fun _ => .val
  | agg h1 _ h3 ih => exact fun hc => .agg h1 (fun i x v a b => ih i x v a b hc) h3
  | tup h1 _ ih => exact fun hc => .tup h1 (fun i x v a b => ih i x v a b hc)
  | @slc ρ sz nl m r A n cap h1 h2 h3 h4 h5 h6 g h7 _ ih =>
    intro ρ' hc
    refine .slc h1 h2 h3 h4 h5 (fun hn => ?_) g (fun i j x a e1 e2 e3 => ?_) (fun i j x e1 e2 => ih i j x e1 e2 (Compat.refl []))
    · obtain ⟨a, e, hb, hO⟩ := h6 hn
      exact ⟨a, e, Nat.lt_of_lt_of_le hb hp.1, (hp.2 _ hb hO).2⟩
    · obtain ⟨hu, h1'⟩ := h7 i j x a e1 e2 e3
      obtain ⟨a', e', hb, hO⟩ := h6 (by omega)
      rw [e3] at e'
      cases e'
      refine ⟨?_, h1'⟩
      rw [← hu]
      exact World.cell?_of_block (by rw [add_block]; exact (hp.2 _ hb hO).1)
  | @loc ρ cs off a h1 h2 g h3 _ ih =>
    intro ρ' hc
    refine .loc (Nat.lt_of_lt_of_le h1 hp.1) (hp.2 _ h1 h2).2 g (fun j x e1 => ?_) (fun j x e1 => ih j x e1 (Compat.refl []))
    obtain ⟨hu, h1'⟩ := h3 j x e1
    refine ⟨?_, h1'⟩
    rw [← hu]
    exact World.cell?_of_block (by rw [add_block]; exact (hp.2 _ h1 h2).1)
  | @ptr ρ id ver off L v h1 h2 h3 h4 =>
    intro ρ' hc
    obtain ⟨L', e1, e2, e3⟩ := hc id L h1
    refine .ptr e1 (Nat.le_trans h2 e2) h3 fun e => ?_
    obtain ⟨b, hb, hv⟩ := h4 (by omega)
    exact ⟨b, by rw [blk_of_eq (e3 (by omega))]; exact hb, hv⟩
  | @row ρ id ver L v h1 h2 h3 h4 =>
    intro ρ' hc
    obtain ⟨L', e1, e2, e3⟩ := hc id L h1
    exact .row e1 (Nat.le_trans h2 e2) h3 fun e => by rw [h4 (by omega), e3 (by omega)]
  | @elt ρ id ver sz i o L v h1 h2 h3 h4 =>
    intro ρ' hc
    obtain ⟨L', e1, e2, e3⟩ := hc id L h1
    refine .elt e1 (Nat.le_trans h2 e2) h3 fun e => ?_
    obtain ⟨b, hb, hv⟩ := h4 (by omega)
    exact ⟨b, by rw [blk_of_eq (e3 (by omega))]; exact hb, hv⟩
  | fn h1 _ ih => exact fun hc => .fn h1 (fun i x v a b => ih i x v a b hc)
  | ifc _ ih => exact fun hc => .ifc (ih hc)
  | opt _ h2 ih => exact fun hc => .opt (fun h => ih h hc) h2
  | yld h1 h2 =>
    intro ρ' hc
    obtain ⟨L', e1, e2, e3⟩ := hc _ _ h1
    exact .yld e1 fun e => by rw [e3 (by omega), h2 (by omega)]

/-- One cell. -/
def AV.cellB : AV → Bool
  | .val v => v.oneCell'
  | .agg _ | .tup _ | .bad | .opt _ _ => false
  | _ => true

theorem RV.one {w : World} {O : Nat → Prop} {ρ : List Loc} {x : AV} {v : Value} (h : RV w O ρ x v) (hc : x.cellB = true) : v.oneCell' = true := by
  cases h <;> first | (simp [AV.cellB] at hc; done) | rfl | assumption | (simpa [AV.cellB] using hc)

/-- Objects of one's own. -/
inductive AO where
  | gone
  | box (e : TypeId) (cs : List AV)
  | row (e : TypeId) (sz ver m : Nat) (r : Nat → List AV)
  | loop (st : LoopState) (pd : Option Code) (f : FuncId) (n : Nat) (τ : Nat → AV) (ps : Array Tmp) (asg body : Code)
  | dfr (op : Bool)

def AO.live : AO → Bool
  | .gone => false
  | _ => true

def Owned (ρ : List Loc) (ar : List AO) (b : Nat) : Prop := ∃ (i : Nat) (o : AO) (L : Loc), ar[i]? = some o ∧ o.live = true ∧ ρ[i]? = some L ∧ L.blk = some b

def Cells (w : World) (O : Nat → Prop) (ρ : List Loc) (cs : List AV) (vs : List Value) : Prop :=
  vs.length = cs.length ∧ ∀ (i : Nat) x v, cs[i]? = some x → vs[i]? = some v → RV w O ρ x v ∧ v.oneCell' = true

theorem Cells.mono {w w' : World} {O O' : Nat → Prop} (hp : Pres w O w' O') {ρ ρ' : List Loc} {cs : List AV} {vs : List Value} (h : Cells w O ρ cs vs) (hc : Compat ρ ρ') : Cells w' O' ρ' cs vs :=
  ⟨h.1, fun i x v a b => ⟨(h.2 i x v a b).1.mono hp hc, (h.2 i x v a b).2⟩⟩

/-- A row's cells, element by element. -/
structure RowC (w : World) (O : Nat → Prop) (ρ : List Loc) (sz m : Nat) (r : Nat → List AV) (vs : List Value) : Prop where
  len : vs.length = m * sz
  rows : ∀ i, i < m → (r i).length = sz
  get : ∀ (i j : Nat) x v, i < m → (r i)[j]? = some x → vs[i * sz + j]? = some v → RV w O ρ x v ∧ v.oneCell' = true

theorem RowC.mono {w w' : World} {O O' : Nat → Prop} (hp : Pres w O w' O') {ρ ρ' : List Loc} {sz m : Nat} {r : Nat → List AV} {vs : List Value} (h : RowC w O ρ sz m r vs) (hc : Compat ρ ρ') : RowC w' O' ρ' sz m r vs :=
  ⟨h.len, h.rows, fun i j x v a b c => ⟨(h.get i j x v a b c).1.mono hp hc, (h.get i j x v a b c).2⟩⟩

def Slots (w : World) (O : Nat → Prop) (ρ : List Loc) (τ : Nat → AV) (tmps : Array Value) : Prop := ∀ t, RV w O ρ (τ t) (tmps.getD t undef)

theorem Slots.mono {w w' : World} {O O' : Nat → Prop} (hp : Pres w O w' O') {ρ ρ' : List Loc} {τ : Nat → AV} {tmps : Array Value} (h : Slots w O ρ τ tmps) (hc : Compat ρ ρ') : Slots w' O' ρ' τ tmps :=
  fun t => (h t).mono hp hc

def ObjOK (w : World) (O : Nat → Prop) (ρ : List Loc) : AO → Loc → Prop
  | .gone, _ => True
  | .box e cs, L => L.ver = 0 ∧ ∃ b vs, L.v = .pointer (some ⟨b, 0, none⟩) ∧ w.heap[b]? = some (.cells vs e (0, 0)) ∧ Cells w O ρ cs vs.toList
  | .row e sz ver m r, L => L.ver = ver ∧ ∃ xs, w.ownsRow 0 e sz L.v m xs ∧ RowC w O ρ sz m r xs
  | .loop st pd f n τ ps asg body, L => L.ver = 0 ∧ ∃ b tmps dd, L.v = .pointer (some ⟨b, 0, none⟩) ∧ w.heap[b]? = some (.loop { state := st, pending := pd, fn := f, tmps, params := ps, assign := asg, body, defers := dd }) ∧ tmps.size = n ∧ Slots w O ρ τ tmps
  | .dfr op, L => L.ver = 0 ∧ ∃ b, L.v = .pointer (some ⟨b, 0, none⟩) ∧ w.heap[b]? = some (.deferred (if op then some [] else none))

/-- What a frame has put off, and what it stands for: a call (`fn g as`: its arguments and what it captured), or a range's block (`bad`). -/
def DefR (w : World) (O : Nat → Prop) (ρ : List Loc) (p : Deferred × AV) : Prop :=
  match p.2 with
  | .fn g l => ∃ (vs cvs : Array Value), p.1 = { target := .fn g cvs, args := vs } ∧ l.length = (vs ++ cvs).size ∧ ∀ (i : Nat) x v, l[i]? = some x → (vs ++ cvs)[i]? = some v → RV w O ρ x v
  | .bad => ∃ r, p.1 = { target := .collected r, args := #[] } ∧ w.heap[r]? = some (.deferred (some [])) ∧ ¬ O r
  | _ => False

theorem DefR.mono {w w' : World} {O O' : Nat → Prop} (hp : Pres w O w' O') {ρ ρ' : List Loc} (hc : Compat ρ ρ') {p : Deferred × AV} (h : DefR w O ρ p) : DefR w' O' ρ' p := by
  obtain ⟨d, x⟩ := p
  unfold DefR at h ⊢
  cases x with
  | fn g l =>
    obtain ⟨vs, cvs, h1, h2, h3⟩ := h
    exact ⟨vs, cvs, h1, h2, fun i x v a b => (h3 i x v a b).mono hp hc⟩
  | bad =>
    obtain ⟨r, h1, h2, h3⟩ := h
    obtain ⟨k1, k2⟩ := hp.2 r (Array.getElem?_eq_some_iff.1 h2).1 h3
    exact ⟨r, h1, k1.trans h2, k2⟩
  | _ => exact h.elim

structure Cx where
  w0 : World
  ρ0 : List Loc
  ar0 : List AO
  X : Nat → Prop
  rd : Option Nat
  D : List (Deferred × AV)
abbrev cx (w : World) (ρ : List Loc) (ar : List AO) (X : Nat → Prop) : Cx := ⟨w, ρ, ar, X, none, []⟩

/-- What may be written by somebody: the caller's own (X), and one's own. -/
def Ow (C : Cx) (ρ : List Loc) (ar : List AO) (b : Nat) : Prop := C.X b ∨ Owned ρ ar b

structure RelA (C : Cx) (ρ : List Loc) (ar : List AO) (w : World) : Prop where
  len : ρ.length = ar.length
  len0 : C.ρ0.length = C.ar0.length
  obj : ∀ (i : Nat) o L, ar[i]? = some o → ρ[i]? = some L → ObjOK w (Ow C ρ ar) ρ o L
  disj : ∀ (i j : Nat) o o' L L' b, i ≠ j → ar[i]? = some o → ar[j]? = some o' → o.live = true → o'.live = true → ρ[i]? = some L → ρ[j]? = some L' → L.blk = some b → L'.blk = some b → False
  far : ∀ b, C.X b → b < w.heap.size
  apart : ∀ b, C.X b → ¬ Owned ρ ar b
  size : C.w0.heap.size ≤ w.heap.size
  os : w.os = C.w0.os
  tape : w.tape = C.w0.tape
  output : w.output = C.w0.output
  heap : ∀ k, k < C.w0.heap.size → ¬ Owned C.ρ0 C.ar0 k → w.heap[k]? = C.w0.heap[k]?
  new : ∀ b, Owned ρ ar b → C.w0.heap.size ≤ b ∨ Owned C.ρ0 C.ar0 b
  comp : Compat C.ρ0 ρ
  defs : ∀ p ∈ C.D, DefR w (Ow C ρ ar) ρ p

theorem ObjOK.lt {w : World} {O : Nat → Prop} {ρ : List Loc} {o : AO} {L : Loc} {b : Nat} (h : ObjOK w O ρ o L) (hl : o.live = true) (hb : L.blk = some b) : b < w.heap.size := by
  cases o with
  | gone => simp [AO.live] at hl
  | box e cs =>
    obtain ⟨_, b', vs, h1, h2, _⟩ := h
    simp [Loc.blk, h1] at hb
    subst hb
    exact (Array.getElem?_eq_some_iff.1 h2).1
  | row e sz ver m r =>
    obtain ⟨_, xs, h1, _⟩ := h
    rcases h1.2 with ⟨hv, _⟩ | ⟨g, cap, cur, hv, _, hg, _⟩
    · simp [Loc.blk, hv] at hb
    · simp [Loc.blk, hv] at hb
      subst hb
      exact (Array.getElem?_eq_some_iff.1 hg).1
  | loop st pd f n τ ps asg body =>
    obtain ⟨_, b', tmps, dd, h1, h2, _⟩ := h
    simp [Loc.blk, h1] at hb
    subst hb
    exact (Array.getElem?_eq_some_iff.1 h2).1
  | dfr op =>
    obtain ⟨_, b', h1, h2⟩ := h
    simp [Loc.blk, h1] at hb
    subst hb
    exact (Array.getElem?_eq_some_iff.1 h2).1

theorem RelA.lt {C : Cx} {ρ : List Loc} {ar : List AO} {w : World} (h : RelA C ρ ar w) {b : Nat} (hb : Owned ρ ar b) : b < w.heap.size := by
  obtain ⟨i, o, L, h1, h2, h3, h4⟩ := hb
  exact (h.obj i o L h1 h3).lt h2 h4

/-- What the world outside sees of a step. -/
theorem RelA.pres {C : Cx} {ρ : List Loc} {ar : List AO} {w : World} (h : RelA C ρ ar w) : Pres C.w0 (Ow C C.ρ0 C.ar0) w (Ow C ρ ar) :=
  ⟨h.size, fun b hb hO => ⟨h.heap b hb (fun h' => hO (.inr h')), fun hO' => by
    rcases hO' with h' | h'
    · exact hO (.inl h')
    · rcases h.new b h' with h1 | h1
      · omega
      · exact hO (.inr h1)⟩⟩

inductive Out where
  | ret (x : AV)
  | pan (x : AV)
  | jmp (j : Option Code)

/-- How a frame comes to its end: it leaves, or its round of a range is over. -/
inductive Fin where
  | norm (e : Ending)
  | jump (j : Option Code)

def OutR (w : World) (O : Nat → Prop) (ρ : List Loc) : Out → Fin → Prop
  | .ret x, .norm (.returned v) => RV w O ρ x v
  | .pan x, .norm (.panicked chain) => ∃ v, chain = [{ v, recovered := false }] ∧ RV w O ρ x v
  | .jmp j, .jump j' => j = j'
  | _, _ => False

/-- The frame stands at its end. -/
def EndsAs (P : Program) (rd : Option Nat) (fr : Frame) (w : World) : Fin → Prop
  | .norm e => fr.leaving P w e
  | .jump j => rd.isSome = true ∧ ∃ (b : Frame) (a : Act) (todo : List Item), fr = b.atR a todo ∧ b.roundOf = rd ∧ b.kind = .normal ∧ a.defers = [] ∧
      (todo = [] ∧ j = none ∨ (∃ k, todo = .code .ret :: k) ∧ j = some .ret ∨ ∃ id k, todo = .code (.exit id) :: k ∧ exitTo id k = none ∧ j = some (.exit id))

def Done (C : Cx) (Q : Out → List AO → Prop) (e : Fin) (w : World) : Prop :=
  ∃ out ar ρ, Q out ar ∧ RelA C ρ ar w ∧ OutR w (Ow C ρ ar) ρ out e

/-- From here on the frame comes to its end, and to what is asked. -/
def Run (P : Program) (f n : Nat) (C : Cx) (τ : Nat → AV) (ar : List AO) (todo : List Item) (Q : Out → List AO → Prop) : Prop :=
  ∀ (b : Frame) (a : Act) (w : World) (ρ : List Loc) (cs : List Frame), b.fn = f → b.kind = .normal ∧ b.roundOf = C.rd → a.tmps.size = n → a.defers = C.D.map (·.1) → RelA C ρ ar w → Slots w (Ow C ρ ar) ρ τ a.tmps →
    ∃ e w' fr, Steps P (lone (b.atR a todo) cs w) (lone fr cs w') ∧ fr.fn = f ∧ EndsAs P C.rd fr w' e ∧ Done C Q e w'

/-- A function's contract. -/
def CallT (P : Program) (f : Nat) (args : List AV) (ar : List AO) (Q : Out → List AO → Prop) : Prop :=
  ∀ (w : World) (ρ : List Loc) (X : Nat → Prop) (vs : Array Value), RelA (cx w ρ ar X) ρ ar w → vs.size = args.length → (∀ (i : Nat) x v, args[i]? = some x → vs[i]? = some v → RV w (Ow (cx w ρ ar X) ρ ar) ρ x v) →
    Calls P f vs w fun e w' => Done (cx w ρ ar X) Q (.norm e) w'

section
variable {P : Program} {f n : Nat} {C : Cx} {τ : Nat → AV} {ar : List AO} {k : List Item} {Q : Out → List AO → Prop}

theorem run_step {todo todo' : List Item} (hs : ∀ (b : Frame) (a : Act) (cs : List Frame) (w : World), step P (lone (b.atR a todo) cs w) = .next (lone (b.atR a todo') cs w)) (h : Run P f n C τ ar todo' Q) : Run P f n C τ ar todo Q :=
  fun b a w ρ cs h1 h2 h3 h4 h5 h6 => by
    obtain ⟨e, w', fr, s, r⟩ := h b a w ρ cs h1 h2 h3 h4 h5 h6
    exact ⟨e, w', fr, .head (hs b a cs w) s, r⟩

theorem run_skip (h : Run P f n C τ ar k Q) : Run P f n C τ ar (.code .skip :: k) Q := run_step (fun _ _ _ _ => stepR_skip) h
theorem run_label {l : Nat} (h : Run P f n C τ ar k Q) : Run P f n C τ ar (.code (.label l) :: k) Q := run_step (fun _ _ _ _ => stepR_label) h
theorem run_inBlock {id : Nat} (h : Run P f n C τ ar k Q) : Run P f n C τ ar (.inBlock id :: k) Q := run_step (fun _ _ _ _ => stepR_inBlock) h
theorem run_seq {x y : Code} (h : Run P f n C τ ar (.code x :: .code y :: k) Q) : Run P f n C τ ar (.code (.seq x y) :: k) Q := run_step (fun _ _ _ _ => stepR_seq) h
theorem run_block {id : Nat} {c : Code} (h : Run P f n C τ ar (.code c :: .inBlock id :: k) Q) : Run P f n C τ ar (.code (.block id c) :: k) Q := run_step (fun _ _ _ _ => stepR_block) h
theorem run_loop {c : Code} (h : Run P f n C τ ar (.code c :: .inLoop c :: k) Q) : Run P f n C τ ar (.code (.loop c) :: k) Q := run_step (fun _ _ _ _ => stepR_loop) h
theorem run_inLoop {c : Code} (h : Run P f n C τ ar (.code c :: .inLoop c :: k) Q) : Run P f n C τ ar (.inLoop c :: k) Q := run_step (fun _ _ _ _ => stepR_inLoop) h
theorem run_exit {id : Nat} {k' : List Item} (hk : exitTo id k = some k') (h : Run P f n C τ ar k' Q) : Run P f n C τ ar (.code (.exit id) :: k) Q := run_step (fun _ _ _ _ => stepR_exit hk) h

theorem rv_val {w : World} {O : Nat → Prop} {ρ : List Loc} {u v : Value} (h : RV w O ρ (.val u) v) : v = u := by
  generalize e : AV.val u = x at h
  cases h <;> cases e
  rfl

theorem rv_tup {w : World} {O : Nat → Prop} {ρ : List Loc} {cs : List AV} {v : Value} (h : RV w O ρ (.tup cs) v) :
    ∃ vs : Array Value, v = .tuple vs ∧ cs.length = vs.size ∧ ∀ (i : Nat) x u, cs[i]? = some x → vs[i]? = some u → RV w O ρ x u := by
  generalize e : AV.tup cs = x at h
  cases h <;> cases e
  exact ⟨_, rfl, by assumption, by assumption⟩
theorem rv_agg {w : World} {O : Nat → Prop} {ρ : List Loc} {cs : List AV} {v : Value} (h : RV w O ρ (.agg cs) v) :
    ∃ vs : Array Value, v = .agg vs ∧ cs.length = vs.size ∧ (∀ (i : Nat) x u, cs[i]? = some x → vs[i]? = some u → RV w O ρ x u) ∧ ∀ (i : Nat) u, vs[i]? = some u → u.oneCell' = true := by
  generalize e : AV.agg cs = x at h
  cases h <;> cases e
  exact ⟨_, rfl, by assumption, by assumption, by assumption⟩
theorem rv_fn {w : World} {O : Nat → Prop} {ρ : List Loc} {f : Fn} {cs : List AV} {v : Value} (h : RV w O ρ (.fn f cs) v) :
    ∃ vs : Array Value, v = .func f #[] vs ∧ cs.length = vs.size ∧ ∀ (i : Nat) x u, cs[i]? = some x → vs[i]? = some u → RV w O ρ x u := by
  generalize e : AV.fn f cs = x at h
  cases h <;> cases e
  exact ⟨_, rfl, by assumption, by assumption⟩
theorem rv_ifc {w : World} {O : Nat → Prop} {ρ : List Loc} {t : TypeId} {y : AV} {v : Value} (h : RV w O ρ (.ifc t y) v) : ∃ u, v = .iface t u ∧ RV w O ρ y u := by
  generalize e : AV.ifc t y = x at h
  cases h <;> cases e
  exact ⟨_, rfl, by assumption⟩
theorem rv_ptr {w : World} {O : Nat → Prop} {ρ : List Loc} {id ver off : Nat} {v : Value} (h : RV w O ρ (.ptr id ver off) v) :
    ∃ L, ρ[id]? = some L ∧ ver ≤ L.ver ∧ v.oneCell' = true ∧ (ver = L.ver → ∃ b, L.blk = some b ∧ v = .pointer (some ⟨b, off, none⟩)) := by
  generalize e : AV.ptr id ver off = x at h
  cases h <;> cases e
  exact ⟨_, by assumption, by assumption, by assumption, by assumption⟩
theorem rv_row {w : World} {O : Nat → Prop} {ρ : List Loc} {id ver : Nat} {v : Value} (h : RV w O ρ (.row id ver) v) :
    ∃ L, ρ[id]? = some L ∧ ver ≤ L.ver ∧ v.oneCell' = true ∧ (ver = L.ver → v = L.v) := by
  generalize e : AV.row id ver = x at h
  cases h <;> cases e
  exact ⟨_, by assumption, by assumption, by assumption, by assumption⟩
theorem rv_elt {w : World} {O : Nat → Prop} {ρ : List Loc} {id ver sz i o : Nat} {v : Value} (h : RV w O ρ (.elt id ver sz i o) v) :
    ∃ L, ρ[id]? = some L ∧ ver ≤ L.ver ∧ v.oneCell' = true ∧ (ver = L.ver → ∃ b, L.blk = some b ∧ v = .pointer (some ⟨b, i * sz + o, none⟩)) := by
  generalize e : AV.elt id ver sz i o = x at h
  cases h <;> cases e
  exact ⟨_, by assumption, by assumption, by assumption, by assumption⟩
theorem rv_loc {w : World} {O : Nat → Prop} {ρ : List Loc} {cs : List AV} {off : Nat} {v : Value} (h : RV w O ρ (.loc cs off) v) :
    ∃ (a : Addr) (g : Nat → Value), v = .pointer (some a) ∧ a.block < w.heap.size ∧ ¬ O a.block ∧ (∀ (j : Nat) x, cs[off + j]? = some x → w.cell? (a.add j) = some (g j) ∧ (g j).oneCell' = true) ∧
      ∀ (j : Nat) x, cs[off + j]? = some x → RV w O [] x (g j) := by
  generalize e : AV.loc cs off = x at h
  cases h <;> cases e
  exact ⟨_, _, rfl, by assumption, by assumption, by assumption, by assumption⟩
theorem rv_slc {w : World} {O : Nat → Prop} {ρ : List Loc} {sz : Nat} {nl : Option Bool} {m : Nat} {r : Nat → List AV} {v : Value} (h : RV w O ρ (.slc sz nl m r) v) :
    ∃ (A : Option Addr) (cap : Nat) (g : Nat → Nat → Value), v = .slice A m cap ∧ m ≤ cap ∧ cap ≤ maxLen ∧ (∀ b, nl = some b → b = A.isNone) ∧ (∀ (i : Nat), i < m → (r i).length = sz) ∧
      (0 < m → ∃ a, A = some a ∧ a.block < w.heap.size ∧ ¬ O a.block) ∧
      (∀ (i j : Nat) x a, i < m → (r i)[j]? = some x → A = some a → w.cell? (a.add (i * sz + j)) = some (g i j) ∧ (g i j).oneCell' = true) ∧
      (∀ (i j : Nat) x, i < m → (r i)[j]? = some x → RV w O [] x (g i j)) := by
  generalize e : AV.slc sz nl m r = x at h
  cases h <;> cases e
  subst_vars
  exact ⟨_, _, _, rfl, by assumption, by assumption, by assumption, by assumption, by assumption, by assumption, by assumption⟩
theorem rv_yld {w : World} {O : Nat → Prop} {ρ : List Loc} {id : Nat} {v : Value} (h : RV w O ρ (.yld id) v) :
    ∃ L l, ρ[id]? = some L ∧ (L.ver = 0 → L.v = .pointer (some ⟨l, 0, none⟩)) ∧ v = .func (.yield l) #[] #[] := by
  generalize e : AV.yld id = x at h
  cases h <;> cases e
  exact ⟨_, _, by assumption, by assumption, rfl⟩
theorem rv_opt {w : World} {O : Nat → Prop} {ρ : List Loc} {c : Bool} {y : AV} {v : Value} (h : RV w O ρ (.opt c y) v) (hc : c = true) : RV w O ρ y v := by
  generalize e : AV.opt c y = x at h
  cases h <;> cases e
  rename_i h1 h2
  exact h2 hc
theorem rv_optF {w : World} {O : Nat → Prop} {ρ : List Loc} {c : Bool} {y : AV} {v : Value} (h : RV w O ρ (.opt c y) v) (hc : c = false) : v = undef := by
  generalize e : AV.opt c y = x at h
  cases h <;> cases e
  rename_i h1 h2
  exact h1 hc
theorem RV.up {w : World} {O : Nat → Prop} {ρ : List Loc} {x : AV} {v : Value} (h : RV w O [] x v) : RV w O ρ x v := h.mono (Pres.refl _ _) (Compat.nil _)

/-- What a program's operand stands for. -/
def evA (τ : Nat → AV) : Operand → AV
  | .tmp t => τ t
  | .const v => .val v
  | .global g => .val (.pointer (some ⟨g, 0, none⟩))
  | .func f => .fn (.func f) []

theorem evA_ok {w : World} {O : Nat → Prop} {ρ : List Loc} {a : Act} (h : Slots w O ρ τ a.tmps) (x : Operand) : RV w O ρ (evA τ x) (a.eval x) := by
  cases x with
  | tmp t => exact h t
  | const v => exact .val
  | global g => exact .val
  | func f => exact .fn rfl (fun i x v h => by simp at h)

theorem run_cond {c : Operand} {x y : Code} {t : Bool} (hc : evA τ c = .val (.bool t)) (h1 : t = true → Run P f n C τ ar (.code x :: k) Q) (h2 : t = false → Run P f n C τ ar (.code y :: k) Q) :
    Run P f n C τ ar (.code (.cond c x y) :: k) Q := by
  intro b a w ρ cs g1 g2 g3 g4 g5 g6
  have hv : a.eval c = .bool t := by have := evA_ok g6 c; rw [hc] at this; exact rv_val this
  have hs := stepR_cond (P := P) (b := b) (k := k) (cs := cs) (w := w) (x := x) (y := y) hv
  cases t with
  | true =>
    obtain ⟨e, w', fr, s, r⟩ := h1 rfl b a w ρ cs g1 g2 g3 g4 g5 g6
    exact ⟨e, w', fr, .head hs (by simpa using s), r⟩
  | false =>
    obtain ⟨e, w', fr, s, r⟩ := h2 rfl b a w ρ cs g1 g2 g3 g4 g5 g6
    exact ⟨e, w', fr, .head hs (by simpa using s), r⟩

/-- What the result variables hold. -/
def resA (τ : Nat → AV) (ar : List AO) : List ResultVar → Option (List AV)
  | [] => some []
  | .tmp t :: r => (resA τ ar r).map (τ t :: ·)
  | .cell _ _ :: _ => none

end
end Go.Iron
