/- Iron: a program logic over the walk's base: abstract values, objects of the call's own, and what relates them to a world. -/
import Derived.WalkKit
import Derived.KernelRfl
import Derived.AtR
import Derived.Laws.AppendOwn
import Derived.Deep.MidRow
import Derived.Maps.AppendAt
import Derived.Laws.OwnMore
import Derived.Laws.StructEq
import Derived.ChangeKeysEq
import Derived.Still
namespace Go.Iron

inductive AV where
  | bad
  | val (v : Value)
  | agg (cs : List AV)
  | tup (vs : List AV)
  | slc (sz : Nat) (nl : Option Bool) (m : Nat) (r : Nat → List AV)
  | loc (cs : List AV) (off : Nat)
  | ptr (id ver off : Nat)
  | row (id ver : Nat)
  | elt (id ver sz i o : Nat)
  | fn (f : Fn) (caps : List AV)
  | bnd (f : Fn) (first : List AV)
  | ifc (t : TypeId) (x : AV)
  | opt (c : Bool) (x : AV)
  | yld (id : Nat)
  | mem (id ver k : Nat)

structure Loc where
  ver : Nat
  v : Value

def Loc.blk (L : Loc) : Option Nat :=
  match L.v with
  | .pointer (some a) => some a.block
  | .slice (some a) _ _ => some a.block
  | .map (some b) => some b
  | _ => none

def Loc.more (L : Loc) : List Nat :=
  match L.v with
  | .tuple vs => vs.toList.filterMap fun v => match v with
    | .slice (some a) _ _ => some a.block
    | _ => none
  | _ => []
def Loc.has (L : Loc) (b : Nat) : Prop := L.blk = some b ∨ b ∈ L.more

inductive RV (w : World) (O : Nat → Prop) : List Loc → AV → Value → Prop
  | bad {ρ v} : RV w O ρ .bad v
  | val {ρ v} : RV w O ρ (.val v) v
  | agg {ρ cs} {vs : Array Value} : cs.length = vs.size → (∀ (i : Nat) x v, cs[i]? = some x → vs[i]? = some v → RV w O ρ x v) →
      (∀ (i : Nat) v, vs[i]? = some v → v.oneCell' = true) → RV w O ρ (.agg cs) (.agg vs)
  | tup {ρ cs} {vs : Array Value} : cs.length = vs.size → (∀ (i : Nat) x v, cs[i]? = some x → vs[i]? = some v → RV w O ρ x v) → RV w O ρ (.tup cs) (.tuple vs)
  | slc {ρ sz nl m} {r : Nat → List AV} {A : Option Addr} {n cap : Nat} : n = m → n ≤ cap → cap ≤ maxLen → (∀ b, nl = some b → b = A.isNone) →
      (∀ (i : Nat), i < m → (r i).length = sz) →
      (0 < n → ∃ a, A = some a ∧ a.block < w.heap.size ∧ ¬ O a.block) →
      (g : Nat → Nat → Value) →
      (∀ (i j : Nat) x a, i < m → (r i)[j]? = some x → A = some a → w.cell? (a.add (i * sz + j)) = some (g i j) ∧ (g i j).oneCell' = true) →
      (∀ (i j : Nat) x, i < m → (r i)[j]? = some x → RV w O [] x (g i j)) →
      RV w O ρ (.slc sz nl m r) (.slice A n cap)
  | loc {ρ cs off} {a : Addr} : a.block < w.heap.size → ¬ O a.block →
      (g : Nat → Value) → (∀ (j : Nat) x, cs[off + j]? = some x → w.cell? (a.add j) = some (g j) ∧ (g j).oneCell' = true) →
      (∀ (j : Nat) x, cs[off + j]? = some x → RV w O [] x (g j)) → RV w O ρ (.loc cs off) (.pointer (some a))
  | ptr {ρ id ver off} {L : Loc} {v} : ρ[id]? = some L → ver ≤ L.ver → v.oneCell' = true → (ver = L.ver → ∃ b, L.blk = some b ∧ v = .pointer (some ⟨b, off, none⟩)) → RV w O ρ (.ptr id ver off) v
  | row {ρ id ver} {L : Loc} {v} : ρ[id]? = some L → ver ≤ L.ver → v.oneCell' = true → (ver = L.ver → v = L.v) → RV w O ρ (.row id ver) v
  | elt {ρ id ver sz i o} {L : Loc} {v} : ρ[id]? = some L → ver ≤ L.ver → v.oneCell' = true → (ver = L.ver → ∃ b, L.blk = some b ∧ v = .pointer (some ⟨b, i * sz + o, none⟩)) → RV w O ρ (.elt id ver sz i o) v
  | fn {ρ f cs} {vs : Array Value} : cs.length = vs.size → (∀ (i : Nat) x v, cs[i]? = some x → vs[i]? = some v → RV w O ρ x v) → RV w O ρ (.fn f cs) (.func f #[] vs)
  | bnd {ρ f cs} {vs : Array Value} : cs.length = vs.size → (∀ (i : Nat) x v, cs[i]? = some x → vs[i]? = some v → RV w O ρ x v) → RV w O ρ (.bnd f cs) (.func f vs #[])
  | ifc {ρ t x v} : RV w O ρ x v → RV w O ρ (.ifc t x) (.iface t v)
  | opt {ρ c x v} : (c = true → RV w O ρ x v) → (c = false → v = undef) → RV w O ρ (.opt c x) v
  | mem {ρ id ver k} {L : Loc} {v} : ρ[id]? = some L → ver ≤ L.ver → v.oneCell' = true → (ver = L.ver → ∃ vals, L.v = .tuple vals ∧ vals[k]? = some v) → RV w O ρ (.mem id ver k) v
  | yld {ρ id l} {L : Loc} : ρ[id]? = some L → (L.ver = 0 → L.v = .pointer (some ⟨l, 0, none⟩)) → RV w O ρ (.yld id) (.func (.yield l) #[] #[])

def Compat (ρ ρ' : List Loc) : Prop := ∀ (i : Nat) L, ρ[i]? = some L → ∃ L', ρ'[i]? = some L' ∧ L.ver ≤ L'.ver ∧ (L.ver = L'.ver → L'.v = L.v)

theorem Compat.refl (ρ : List Loc) : Compat ρ ρ := fun i L h => ⟨L, h, Nat.le_refl _, fun _ => rfl⟩
theorem Compat.trans {a b c : List Loc} (h : Compat a b) (k : Compat b c) : Compat a c := fun i L hL => by
  obtain ⟨L1, h1, h2, h3⟩ := h i L hL
  obtain ⟨L2, k1, k2, k3⟩ := k i L1 h1
  exact ⟨L2, k1, Nat.le_trans h2 k2, fun e => (k3 (by omega)).trans (h3 (by omega))⟩
theorem Compat.nil (ρ : List Loc) : Compat [] ρ := fun i L h => by simp at h
theorem Compat.append (ρ : List Loc) (x : List Loc) : Compat ρ (ρ ++ x) := fun i L h => ⟨L, by rw [List.getElem?_append_left (List.getElem?_eq_some_iff.1 h).1]; exact h, Nat.le_refl _, fun _ => rfl⟩
theorem Compat.set {ρ : List Loc} {i : Nat} {L L' : Loc} (h : ρ[i]? = some L) (hv : L.ver ≤ L'.ver) (he : L.ver = L'.ver → L'.v = L.v) : Compat ρ (ρ.set i L') := fun j M hM => by
  by_cases hij : i = j
  · subst hij
    rw [h] at hM
    cases hM
    exact ⟨L', by rw [List.getElem?_set_self (List.getElem?_eq_some_iff.1 h).1], hv, he⟩
  · exact ⟨M, by rw [List.getElem?_set_ne hij]; exact hM, Nat.le_refl _, fun _ => rfl⟩

theorem blk_of_eq {L L' : Loc} (h : L'.v = L.v) : L'.blk = L.blk := by simp [Loc.has, Loc.more, Loc.blk, h]

def Pres (w : World) (O : Nat → Prop) (w' : World) (O' : Nat → Prop) : Prop :=
  w.heap.size ≤ w'.heap.size ∧ ∀ b, b < w.heap.size → ¬ O b → w'.heap[b]? = w.heap[b]? ∧ ¬ O' b

theorem Pres.refl (w : World) (O : Nat → Prop) : Pres w O w O := ⟨Nat.le_refl _, fun _ _ h => ⟨rfl, h⟩⟩
theorem Pres.trans {w w1 w2 : World} {O O1 O2 : Nat → Prop} (h : Pres w O w1 O1) (k : Pres w1 O1 w2 O2) : Pres w O w2 O2 :=
  ⟨Nat.le_trans h.1 k.1, fun b hb hO => by
    obtain ⟨h1, h2⟩ := h.2 b hb hO
    obtain ⟨k1, k2⟩ := k.2 b (Nat.lt_of_lt_of_le hb h.1) h2
    exact ⟨k1.trans h1, k2⟩⟩

theorem add_block (a : Addr) (n : Nat) : (a.add n).block = a.block := by unfold Addr.add; split <;> rfl

theorem RV.mono {w w' : World} {O O' : Nat → Prop} (hp : Pres w O w' O') {ρ : List Loc} {x : AV} {v : Value} (h : RV w O ρ x v) :
    ∀ {ρ' : List Loc}, Compat ρ ρ' → RV w' O' ρ' x v := by
  induction h with
  | bad => exact fun _ => .bad
  | val => exact fun _ => .val
  | agg h1 _ h3 ih => exact fun hc => .agg h1 (fun i x v a b => ih i x v a b hc) h3
  | tup h1 _ ih => exact fun hc => .tup h1 (fun i x v a b => ih i x v a b hc)
  | @slc ρ sz nl m r A n cap h1 h2 h3 h4 h5 h6 g h7 _ ih =>
    intro ρ' hc
    refine .slc h1 h2 h3 h4 h5 (fun hn => ?_) g (fun i j x a e1 e2 e3 => ?_) (fun i j x e1 e2 => ih i j x e1 e2 (Compat.refl []))
    · obtain ⟨a, e, hb, hO⟩ := h6 hn
      exact ⟨a, e, Nat.lt_of_lt_of_le hb hp.1, (hp.2 _ hb hO).2⟩
    · obtain ⟨hu, h1'⟩ := h7 i j x a e1 e2 e3
      obtain ⟨a', e', hb, hO⟩ := h6 (by omega)
      rw [e3] at e'
      cases e'
      refine ⟨?_, h1'⟩
      rw [← hu]
      exact World.cell?_of_block (by rw [add_block]; exact (hp.2 _ hb hO).1)
  | @loc ρ cs off a h1 h2 g h3 _ ih =>
    intro ρ' hc
    refine .loc (Nat.lt_of_lt_of_le h1 hp.1) (hp.2 _ h1 h2).2 g (fun j x e1 => ?_) (fun j x e1 => ih j x e1 (Compat.refl []))
    obtain ⟨hu, h1'⟩ := h3 j x e1
    refine ⟨?_, h1'⟩
    rw [← hu]
    exact World.cell?_of_block (by rw [add_block]; exact (hp.2 _ h1 h2).1)
  | @ptr ρ id ver off L v h1 h2 h3 h4 =>
    intro ρ' hc
    obtain ⟨L', e1, e2, e3⟩ := hc id L h1
    refine .ptr e1 (Nat.le_trans h2 e2) h3 fun e => ?_
    obtain ⟨b, hb, hv⟩ := h4 (by omega)
    exact ⟨b, by rw [blk_of_eq (e3 (by omega))]; exact hb, hv⟩
  | @row ρ id ver L v h1 h2 h3 h4 =>
    intro ρ' hc
    obtain ⟨L', e1, e2, e3⟩ := hc id L h1
    exact .row e1 (Nat.le_trans h2 e2) h3 fun e => by rw [h4 (by omega), e3 (by omega)]
  | @elt ρ id ver sz i o L v h1 h2 h3 h4 =>
    intro ρ' hc
    obtain ⟨L', e1, e2, e3⟩ := hc id L h1
    refine .elt e1 (Nat.le_trans h2 e2) h3 fun e => ?_
    obtain ⟨b, hb, hv⟩ := h4 (by omega)
    exact ⟨b, by rw [blk_of_eq (e3 (by omega))]; exact hb, hv⟩
  | fn h1 _ ih => exact fun hc => .fn h1 (fun i x v a b => ih i x v a b hc)
  | bnd h1 _ ih => exact fun hc => .bnd h1 (fun i x v a b => ih i x v a b hc)
  | ifc _ ih => exact fun hc => .ifc (ih hc)
  | opt _ h2 ih => exact fun hc => .opt (fun h => ih h hc) h2
  | yld h1 h2 =>
    intro ρ' hc
    obtain ⟨L', e1, e2, e3⟩ := hc _ _ h1
    exact .yld e1 fun e => by rw [e3 (by omega), h2 (by omega)]
  | @mem ρ id ver k L v h1 h2 h3 h4 =>
    intro ρ' hc
    obtain ⟨L', e1, e2, e3⟩ := hc id L h1
    refine .mem e1 (Nat.le_trans h2 e2) h3 fun e => ?_
    obtain ⟨vals, hb, hv⟩ := h4 (by omega)
    exact ⟨vals, by rw [e3 (by omega)]; exact hb, hv⟩

def AV.cellB : AV → Bool
  | .val v => v.oneCell'
  | .agg _ | .tup _ | .bad | .opt _ _ => false
  | _ => true

theorem RV.one {w : World} {O : Nat → Prop} {ρ : List Loc} {x : AV} {v : Value} (h : RV w O ρ x v) (hc : x.cellB = true) : v.oneCell' = true := by
  cases h <;> first | (simp [AV.cellB] at hc; done) | rfl | assumption | (simpa [AV.cellB] using hc)

inductive AO where
  | gone
  | hole
  | box (e : TypeId) (cs : List AV)
  | row (e : TypeId) (sz ver m : Nat) (r : Nat → List AV)
  | fam (e : TypeId) (sz ver m : Nat) (ms : Nat → Nat) (rs : Nat → Nat → List AV)
  | loop (st : LoopState) (pd : Option Code) (f : FuncId) (n : Nat) (τ : Nat → AV) (ps : Array Tmp) (asg body : Code)
  | dfr (op : Bool)
  | iter (s : List UInt8) (pos : Nat)
  | map (ver : Nat) (kk : Option IntKind) (l : List (Value × AV))
  | byt (m : Nat) (r : Nat → Int)

def keyOK : Option IntKind → Value → Bool
  | none, .string _ => true
  | some .i64, .int .i64 _ => true
  | some .u8, .int .u8 _ => true
  | some .i32, .int .i32 _ => true
  | _, _ => false
def MapR (w : World) (O : Nat → Prop) (ρ : List Loc) (l : List (Value × AV)) (es : List MapEntry) : Prop :=
  es.map (·.key) = l.map (·.1) ∧ ∀ (i : Nat) p e, l[i]? = some p → es[i]? = some e → RV w O ρ p.2 e.val
theorem MapR.mono {w w' : World} {O O' : Nat → Prop} (hp : Pres w O w' O') {ρ ρ' : List Loc} {l : List (Value × AV)} {es : List MapEntry} (h : MapR w O ρ l es) (hc : Compat ρ ρ') : MapR w' O' ρ' l es :=
  ⟨h.1, fun i p e a b => (h.2 i p e a b).mono hp hc⟩

def AO.live : AO → Bool
  | .gone => false
  | .hole => false
  | _ => true

def Owned (ρ : List Loc) (ar : List AO) (b : Nat) : Prop := ∃ (i : Nat) (o : AO) (L : Loc), ar[i]? = some o ∧ o.live = true ∧ ρ[i]? = some L ∧ L.has b

def Cells (w : World) (O : Nat → Prop) (ρ : List Loc) (cs : List AV) (vs : List Value) : Prop :=
  vs.length = cs.length ∧ ∀ (i : Nat) x v, cs[i]? = some x → vs[i]? = some v → RV w O ρ x v ∧ v.oneCell' = true

theorem Cells.mono {w w' : World} {O O' : Nat → Prop} (hp : Pres w O w' O') {ρ ρ' : List Loc} {cs : List AV} {vs : List Value} (h : Cells w O ρ cs vs) (hc : Compat ρ ρ') : Cells w' O' ρ' cs vs :=
  ⟨h.1, fun i x v a b => ⟨(h.2 i x v a b).1.mono hp hc, (h.2 i x v a b).2⟩⟩

structure RowC (w : World) (O : Nat → Prop) (ρ : List Loc) (sz m : Nat) (r : Nat → List AV) (vs : List Value) : Prop where
  len : vs.length = m * sz
  rows : ∀ i, i < m → (r i).length = sz
  get : ∀ (i j : Nat) x v, i < m → (r i)[j]? = some x → vs[i * sz + j]? = some v → RV w O ρ x v ∧ v.oneCell' = true

theorem RowC.mono {w w' : World} {O O' : Nat → Prop} (hp : Pres w O w' O') {ρ ρ' : List Loc} {sz m : Nat} {r : Nat → List AV} {vs : List Value} (h : RowC w O ρ sz m r vs) (hc : Compat ρ ρ') : RowC w' O' ρ' sz m r vs :=
  ⟨h.len, h.rows, fun i j x v a b c => ⟨(h.get i j x v a b c).1.mono hp hc, (h.get i j x v a b c).2⟩⟩

def Slots (w : World) (O : Nat → Prop) (ρ : List Loc) (τ : Nat → AV) (tmps : Array Value) : Prop := ∀ t, RV w O ρ (τ t) (tmps.getD t undef)

theorem Slots.mono {w w' : World} {O O' : Nat → Prop} (hp : Pres w O w' O') {ρ ρ' : List Loc} {τ : Nat → AV} {tmps : Array Value} (h : Slots w O ρ τ tmps) (hc : Compat ρ ρ') : Slots w' O' ρ' τ tmps :=
  fun t => (h t).mono hp hc

def ObjOK (w : World) (O : Nat → Prop) (ρ : List Loc) : AO → Loc → Prop
  | .gone, _ => True
  | .hole, L => L.ver = 0 ∧ L.v = .tuple #[]
  | .box e cs, L => L.ver = 0 ∧ ∃ b vs, L.v = .pointer (some ⟨b, 0, none⟩) ∧ w.heap[b]? = some (.cells vs e (0, 0)) ∧ Cells w O ρ cs vs.toList
  | .row e sz ver m r, L => L.ver = ver ∧ ∃ xs, w.ownsRow 0 e sz L.v m xs ∧ RowC w O ρ sz m r xs
  | .fam e sz ver m ms rs, L => L.ver = ver ∧ ∃ vals : Array Value, L.v = .tuple vals ∧ vals.size = m ∧ (∀ (k : Nat) v, vals[k]? = some v → ∃ xs, w.ownsRow 0 e sz v (ms k) xs ∧ RowC w O ρ sz (ms k) (rs k) xs) ∧
      ∀ (k k' : Nat) v v' b, k ≠ k' → vals[k]? = some v → vals[k']? = some v' → v.ownBlock = some b → v'.ownBlock = some b → False
  | .loop st pd f n τ ps asg body, L => L.ver = 0 ∧ ∃ b tmps dd, L.v = .pointer (some ⟨b, 0, none⟩) ∧ w.heap[b]? = some (.loop { state := st, pending := pd, fn := f, tmps, params := ps, assign := asg, body, defers := dd }) ∧ tmps.size = n ∧ Slots w O ρ τ tmps
  | .dfr op, L => L.ver = 0 ∧ ∃ b, L.v = .pointer (some ⟨b, 0, none⟩) ∧ w.heap[b]? = some (.deferred (if op then some [] else none))
  | .iter s pos, L => L.ver = 0 ∧ ∃ b, L.v = .pointer (some ⟨b, 0, none⟩) ∧ w.heap[b]? = some (.stringIter ⟨s.toArray⟩ pos)
  | .map ver kk l, L => L.ver = ver ∧ ∃ b es clock, L.v = .map (some b) ∧ w.heap[b]? = some (.map es clock) ∧ (∀ p ∈ l, keyOK kk p.1 = true) ∧ MapR w O ρ l es.toList
  | .byt m r, L => L.ver = 0 ∧ ∃ g cap cur e fz, L.v = .slice (some ⟨g, 0, none⟩) m cap ∧ w.heap[g]? = some (.cells cur e fz) ∧ cur.size ≤ fz.1 ∧ m ≤ cap ∧ cap ≤ maxLen ∧ m ≤ cur.size ∧ ∀ (i : Nat), i < m → cur[i]? = some (.int .u8 (r i))

def DefR (w : World) (O : Nat → Prop) (ρ : List Loc) (p : Deferred × AV) : Prop :=
  match p.2 with
  | .fn g l => ∃ (vs cvs : Array Value), p.1 = { target := .fn g cvs, args := vs } ∧ l.length = (vs ++ cvs).size ∧ ∀ (i : Nat) x v, l[i]? = some x → (vs ++ cvs)[i]? = some v → RV w O ρ x v
  | .bad => ∃ r, p.1 = { target := .collected r, args := #[] } ∧ w.heap[r]? = some (.deferred (some [])) ∧ ¬ O r
  | _ => False

theorem DefR.mono {w w' : World} {O O' : Nat → Prop} (hp : Pres w O w' O') {ρ ρ' : List Loc} (hc : Compat ρ ρ') {p : Deferred × AV} (h : DefR w O ρ p) : DefR w' O' ρ' p := by
  obtain ⟨d, x⟩ := p
  unfold DefR at h ⊢
  cases x with
  | fn g l =>
    obtain ⟨vs, cvs, h1, h2, h3⟩ := h
    exact ⟨vs, cvs, h1, h2, fun i x v a b => (h3 i x v a b).mono hp hc⟩
  | bad =>
    obtain ⟨r, h1, h2, h3⟩ := h
    obtain ⟨k1, k2⟩ := hp.2 r (Array.getElem?_eq_some_iff.1 h2).1 h3
    exact ⟨r, h1, k1.trans h2, k2⟩
  | _ => exact h.elim

structure Cx where
  w0 : World
  ρ0 : List Loc
  ar0 : List AO
  X : Nat → Prop
  rd : Option Nat
  D : List (Deferred × AV)
abbrev cx (w : World) (ρ : List Loc) (ar : List AO) (X : Nat → Prop) : Cx := ⟨w, ρ, ar, X, none, []⟩

class Globs where
  tabs : List (Nat × (Array Value → Prop))
variable [Globs]
def Stands (C : Cx) : Prop := ∀ p ∈ Globs.tabs, (∃ cs e fz, C.w0.heap[p.1]? = some (.cells cs e fz) ∧ p.2 cs) ∧ ¬ C.X p.1 ∧ ¬ Owned C.ρ0 C.ar0 p.1

def Ow (C : Cx) (ρ : List Loc) (ar : List AO) (b : Nat) : Prop := C.X b ∨ Owned ρ ar b

structure RelA (C : Cx) (ρ : List Loc) (ar : List AO) (w : World) : Prop where
  len : ρ.length = ar.length
  len0 : C.ρ0.length = C.ar0.length ∧ Stands C
  obj : ∀ (i : Nat) o L, ar[i]? = some o → ρ[i]? = some L → ObjOK w (Ow C ρ ar) ρ o L
  disj : ∀ (i j : Nat) o o' L L' b, i ≠ j → ar[i]? = some o → ar[j]? = some o' → o.live = true → o'.live = true → ρ[i]? = some L → ρ[j]? = some L' → L.has b → L'.has b → False
  far : ∀ b, C.X b → b < w.heap.size
  apart : ∀ b, C.X b → ¬ Owned ρ ar b
  size : C.w0.heap.size ≤ w.heap.size
  os : w.os = C.w0.os
  tape : w.tape = C.w0.tape
  output : w.output = C.w0.output
  heap : ∀ k, k < C.w0.heap.size → ¬ Owned C.ρ0 C.ar0 k → w.heap[k]? = C.w0.heap[k]?
  new : ∀ b, Owned ρ ar b → C.w0.heap.size ≤ b ∨ Owned C.ρ0 C.ar0 b
  comp : Compat C.ρ0 ρ
  defs : ∀ p ∈ C.D, DefR w (Ow C ρ ar) ρ p

omit [Globs] in
theorem ObjOK.lt {w : World} {O : Nat → Prop} {ρ : List Loc} {o : AO} {L : Loc} {b : Nat} (h : ObjOK w O ρ o L) (hl : o.live = true) (hb : L.has b) : b < w.heap.size := by
  cases o with
  | gone => simp [AO.live] at hl
  | hole => simp [AO.live] at hl
  | box e cs =>
    obtain ⟨_, b', vs, h1, h2, _⟩ := h
    simp [Loc.has, Loc.more, Loc.blk, h1] at hb
    subst hb
    exact (Array.getElem?_eq_some_iff.1 h2).1
  | row e sz ver m r =>
    obtain ⟨_, xs, h1, _⟩ := h
    rcases h1.2 with ⟨hv, _⟩ | ⟨g, cap, cur, hv, _, hg, _⟩
    · simp [Loc.has, Loc.more, Loc.blk, hv] at hb
    · simp [Loc.has, Loc.more, Loc.blk, hv] at hb
      subst hb
      exact (Array.getElem?_eq_some_iff.1 hg).1
  | fam e sz ver m ms rs =>
    obtain ⟨_, vals, h1, h2, h3, _⟩ := h
    simp only [Loc.has, Loc.blk, Loc.more, h1, reduceCtorEq, false_or, List.mem_filterMap] at hb
    obtain ⟨v, hv, hb⟩ := hb
    obtain ⟨k, hk⟩ := List.mem_iff_getElem?.1 hv
    rw [Array.getElem?_toList] at hk
    obtain ⟨xs, ho, _⟩ := h3 k v hk
    rcases ho.2 with ⟨hv', _⟩ | ⟨g, cap, cur, hv', _, hg, _⟩
    · subst hv'; cases hb
    · subst hv'
      cases hb
      exact (Array.getElem?_eq_some_iff.1 hg).1
  | loop st pd f n τ ps asg body =>
    obtain ⟨_, b', tmps, dd, h1, h2, _⟩ := h
    simp [Loc.has, Loc.more, Loc.blk, h1] at hb
    subst hb
    exact (Array.getElem?_eq_some_iff.1 h2).1
  | dfr op =>
    obtain ⟨_, b', h1, h2⟩ := h
    simp [Loc.has, Loc.more, Loc.blk, h1] at hb
    subst hb
    exact (Array.getElem?_eq_some_iff.1 h2).1
  | iter s pos =>
    obtain ⟨_, b', h1, h2⟩ := h
    simp [Loc.has, Loc.more, Loc.blk, h1] at hb
    subst hb
    exact (Array.getElem?_eq_some_iff.1 h2).1
  | map ver kk l =>
    obtain ⟨_, b', es, clock, h1, h2, _⟩ := h
    simp [Loc.has, Loc.more, Loc.blk, h1] at hb
    subst hb
    exact (Array.getElem?_eq_some_iff.1 h2).1
  | byt m r =>
    obtain ⟨_, g, cap, cur, e, fz, h1, h2, _⟩ := h
    simp [Loc.has, Loc.more, Loc.blk, h1] at hb
    subst hb
    exact (Array.getElem?_eq_some_iff.1 h2).1

theorem RelA.lt {C : Cx} {ρ : List Loc} {ar : List AO} {w : World} (h : RelA C ρ ar w) {b : Nat} (hb : Owned ρ ar b) : b < w.heap.size := by
  obtain ⟨i, o, L, h1, h2, h3, h4⟩ := hb
  exact (h.obj i o L h1 h3).lt h2 h4

theorem RelA.stand {C : Cx} {ρ : List Loc} {ar : List AO} {w : World} (h : RelA C ρ ar w) : ∀ p ∈ Globs.tabs, (∃ cs e fz, w.heap[p.1]? = some (.cells cs e fz) ∧ p.2 cs) ∧ ¬ Ow C ρ ar p.1 := fun p hp => by
  obtain ⟨⟨cs, e, fz, h1, h2⟩, h3, h4⟩ := h.len0.2 p hp
  have hlt : p.1 < C.w0.heap.size := (Array.getElem?_eq_some_iff.1 h1).1
  refine ⟨⟨cs, e, fz, (h.heap p.1 hlt h4).trans h1, h2⟩, fun hO => ?_⟩
  rcases hO with hO | hO
  · exact h3 hO
  · rcases h.new p.1 hO with h5 | h5
    · omega
    · exact h4 h5

theorem RelA.stands {C : Cx} {ρ ρ' : List Loc} {ar ar' : List AO} {w : World} {X : Nat → Prop} (h : RelA C ρ ar w) (hX : ∀ b, X b → Ow C ρ ar b) (hO : ∀ b, Owned ρ' ar' b → Ow C ρ ar b) : Stands (cx w ρ' ar' X) := fun p hp =>
  ⟨(h.stand p hp).1, fun hb => (h.stand p hp).2 (hX _ hb), fun hb => (h.stand p hp).2 (hO _ hb)⟩

inductive Out where
  | ret (x : AV)
  | pan (x : AV)
  | jmp (j : Option Code)

inductive Fin where
  | norm (e : Ending)
  | jump (j : Option Code)

def OutR (w : World) (O : Nat → Prop) (ρ : List Loc) : Out → Fin → Prop
  | .ret x, .norm (.returned v) => RV w O ρ x v
  | .pan x, .norm (.panicked chain) => ∃ v, chain = [{ v, recovered := false }] ∧ RV w O ρ x v
  | .jmp j, .jump j' => j = j'
  | _, _ => False

def EndsAs (P : Program) (rd : Option Nat) (fr : Frame) (w : World) : Fin → Prop
  | .norm e => fr.leaving P w e
  | .jump j => rd.isSome = true ∧ ∃ (b : Frame) (a : Act) (todo : List Item), fr = b.atR a todo ∧ b.roundOf = rd ∧ b.kind = .normal ∧ a.defers = [] ∧
      (todo = [] ∧ j = none ∨ (∃ k, todo = .code .ret :: k) ∧ j = some .ret ∨ ∃ id k, todo = .code (.exit id) :: k ∧ exitTo id k = none ∧ j = some (.exit id))

def Done (C : Cx) (Q : Out → List AO → Prop) (e : Fin) (w : World) : Prop :=
  ∃ out ar ρ, Q out ar ∧ RelA C ρ ar w ∧ OutR w (Ow C ρ ar) ρ out e

def Run (P : Program) (f n : Nat) (C : Cx) (τ : Nat → AV) (ar : List AO) (todo : List Item) (Q : Out → List AO → Prop) : Prop :=
  ∀ (b : Frame) (a : Act) (w : World) (ρ : List Loc) (cs : List Frame), b.fn = f → b.kind = .normal ∧ b.roundOf = C.rd → a.tmps.size = n → a.defers = C.D.map (·.1) → RelA C ρ ar w → Slots w (Ow C ρ ar) ρ τ a.tmps →
    ∃ e w' fr, Steps P (lone (b.atR a todo) cs w) (lone fr cs w') ∧ fr.fn = f ∧ EndsAs P C.rd fr w' e ∧ Done C Q e w'

def CallT (P : Program) (f : Nat) (args : List AV) (ar : List AO) (Q : Out → List AO → Prop) : Prop :=
  ∀ (w : World) (ρ : List Loc) (X : Nat → Prop) (vs : Array Value), RelA (cx w ρ ar X) ρ ar w → vs.size = args.length → (∀ (i : Nat) x v, args[i]? = some x → vs[i]? = some v → RV w (Ow (cx w ρ ar X) ρ ar) ρ x v) →
    Calls P f vs w fun e w' => Done (cx w ρ ar X) Q (.norm e) w'

section
variable {P : Program} {f n : Nat} {C : Cx} {τ : Nat → AV} {ar : List AO} {k : List Item} {Q : Out → List AO → Prop}

omit [Globs] in
theorem rv_val {w : World} {O : Nat → Prop} {ρ : List Loc} {u v : Value} (h : RV w O ρ (.val u) v) : v = u := by
  generalize e : AV.val u = x at h
  cases h <;> cases e
  rfl

omit [Globs] in
theorem rv_tup {w : World} {O : Nat → Prop} {ρ : List Loc} {cs : List AV} {v : Value} (h : RV w O ρ (.tup cs) v) :
    ∃ vs : Array Value, v = .tuple vs ∧ cs.length = vs.size ∧ ∀ (i : Nat) x u, cs[i]? = some x → vs[i]? = some u → RV w O ρ x u := by
  generalize e : AV.tup cs = x at h
  cases h <;> cases e
  exact ⟨_, rfl, by assumption, by assumption⟩
omit [Globs] in
theorem rv_agg {w : World} {O : Nat → Prop} {ρ : List Loc} {cs : List AV} {v : Value} (h : RV w O ρ (.agg cs) v) :
    ∃ vs : Array Value, v = .agg vs ∧ cs.length = vs.size ∧ (∀ (i : Nat) x u, cs[i]? = some x → vs[i]? = some u → RV w O ρ x u) ∧ ∀ (i : Nat) u, vs[i]? = some u → u.oneCell' = true := by
  generalize e : AV.agg cs = x at h
  cases h <;> cases e
  exact ⟨_, rfl, by assumption, by assumption, by assumption⟩
omit [Globs] in
theorem rv_fn {w : World} {O : Nat → Prop} {ρ : List Loc} {f : Fn} {cs : List AV} {v : Value} (h : RV w O ρ (.fn f cs) v) :
    ∃ vs : Array Value, v = .func f #[] vs ∧ cs.length = vs.size ∧ ∀ (i : Nat) x u, cs[i]? = some x → vs[i]? = some u → RV w O ρ x u := by
  generalize e : AV.fn f cs = x at h
  cases h <;> cases e
  exact ⟨_, rfl, by assumption, by assumption⟩
omit [Globs] in
theorem rv_ifc {w : World} {O : Nat → Prop} {ρ : List Loc} {t : TypeId} {y : AV} {v : Value} (h : RV w O ρ (.ifc t y) v) : ∃ u, v = .iface t u ∧ RV w O ρ y u := by
  generalize e : AV.ifc t y = x at h
  cases h <;> cases e
  exact ⟨_, rfl, by assumption⟩
omit [Globs] in
theorem rv_ptr {w : World} {O : Nat → Prop} {ρ : List Loc} {id ver off : Nat} {v : Value} (h : RV w O ρ (.ptr id ver off) v) :
    ∃ L, ρ[id]? = some L ∧ ver ≤ L.ver ∧ v.oneCell' = true ∧ (ver = L.ver → ∃ b, L.blk = some b ∧ v = .pointer (some ⟨b, off, none⟩)) := by
  generalize e : AV.ptr id ver off = x at h
  cases h <;> cases e
  exact ⟨_, by assumption, by assumption, by assumption, by assumption⟩
omit [Globs] in
theorem rv_row {w : World} {O : Nat → Prop} {ρ : List Loc} {id ver : Nat} {v : Value} (h : RV w O ρ (.row id ver) v) :
    ∃ L, ρ[id]? = some L ∧ ver ≤ L.ver ∧ v.oneCell' = true ∧ (ver = L.ver → v = L.v) := by
  generalize e : AV.row id ver = x at h
  cases h <;> cases e
  exact ⟨_, by assumption, by assumption, by assumption, by assumption⟩
omit [Globs] in
theorem rv_elt {w : World} {O : Nat → Prop} {ρ : List Loc} {id ver sz i o : Nat} {v : Value} (h : RV w O ρ (.elt id ver sz i o) v) :
    ∃ L, ρ[id]? = some L ∧ ver ≤ L.ver ∧ v.oneCell' = true ∧ (ver = L.ver → ∃ b, L.blk = some b ∧ v = .pointer (some ⟨b, i * sz + o, none⟩)) := by
  generalize e : AV.elt id ver sz i o = x at h
  cases h <;> cases e
  exact ⟨_, by assumption, by assumption, by assumption, by assumption⟩
omit [Globs] in
theorem rv_loc {w : World} {O : Nat → Prop} {ρ : List Loc} {cs : List AV} {off : Nat} {v : Value} (h : RV w O ρ (.loc cs off) v) :
    ∃ (a : Addr) (g : Nat → Value), v = .pointer (some a) ∧ a.block < w.heap.size ∧ ¬ O a.block ∧ (∀ (j : Nat) x, cs[off + j]? = some x → w.cell? (a.add j) = some (g j) ∧ (g j).oneCell' = true) ∧
      ∀ (j : Nat) x, cs[off + j]? = some x → RV w O [] x (g j) := by
  generalize e : AV.loc cs off = x at h
  cases h <;> cases e
  exact ⟨_, _, rfl, by assumption, by assumption, by assumption, by assumption⟩
omit [Globs] in
theorem rv_slc {w : World} {O : Nat → Prop} {ρ : List Loc} {sz : Nat} {nl : Option Bool} {m : Nat} {r : Nat → List AV} {v : Value} (h : RV w O ρ (.slc sz nl m r) v) :
    ∃ (A : Option Addr) (cap : Nat) (g : Nat → Nat → Value), v = .slice A m cap ∧ m ≤ cap ∧ cap ≤ maxLen ∧ (∀ b, nl = some b → b = A.isNone) ∧ (∀ (i : Nat), i < m → (r i).length = sz) ∧
      (0 < m → ∃ a, A = some a ∧ a.block < w.heap.size ∧ ¬ O a.block) ∧
      (∀ (i j : Nat) x a, i < m → (r i)[j]? = some x → A = some a → w.cell? (a.add (i * sz + j)) = some (g i j) ∧ (g i j).oneCell' = true) ∧
      (∀ (i j : Nat) x, i < m → (r i)[j]? = some x → RV w O [] x (g i j)) := by
  generalize e : AV.slc sz nl m r = x at h
  cases h <;> cases e
  subst_vars
  exact ⟨_, _, _, rfl, by assumption, by assumption, by assumption, by assumption, by assumption, by assumption, by assumption⟩
omit [Globs] in
theorem rv_yld {w : World} {O : Nat → Prop} {ρ : List Loc} {id : Nat} {v : Value} (h : RV w O ρ (.yld id) v) :
    ∃ L l, ρ[id]? = some L ∧ (L.ver = 0 → L.v = .pointer (some ⟨l, 0, none⟩)) ∧ v = .func (.yield l) #[] #[] := by
  generalize e : AV.yld id = x at h
  cases h <;> cases e
  exact ⟨_, _, by assumption, by assumption, rfl⟩
omit [Globs] in
theorem rv_opt {w : World} {O : Nat → Prop} {ρ : List Loc} {c : Bool} {y : AV} {v : Value} (h : RV w O ρ (.opt c y) v) (hc : c = true) : RV w O ρ y v := by
  generalize e : AV.opt c y = x at h
  cases h <;> cases e
  rename_i h1 h2
  exact h2 hc
omit [Globs] in
theorem rv_optF {w : World} {O : Nat → Prop} {ρ : List Loc} {c : Bool} {y : AV} {v : Value} (h : RV w O ρ (.opt c y) v) (hc : c = false) : v = undef := by
  generalize e : AV.opt c y = x at h
  cases h <;> cases e
  rename_i h1 h2
  exact h1 hc
omit [Globs] in
theorem RV.up {w : World} {O : Nat → Prop} {ρ : List Loc} {x : AV} {v : Value} (h : RV w O [] x v) : RV w O ρ x v := h.mono (Pres.refl _ _) (Compat.nil _)

def evA (τ : Nat → AV) : Operand → AV
  | .tmp t => τ t
  | .const v => .val v
  | .global g => .val (.pointer (some ⟨g, 0, none⟩))
  | .func f => .fn (.func f) []

omit [Globs] in
theorem evA_ok {w : World} {O : Nat → Prop} {ρ : List Loc} {a : Act} (h : Slots w O ρ τ a.tmps) (x : Operand) : RV w O ρ (evA τ x) (a.eval x) := by
  cases x with
  | tmp t => exact h t
  | const v => exact .val
  | global g => exact .val
  | func f => exact .fn rfl (fun i x v h => by simp at h)

def resA (τ : Nat → AV) (ar : List AO) : List ResultVar → Option (List AV)
  | [] => some []
  | .tmp t :: r => (resA τ ar r).map (τ t :: ·)
  | .cell _ _ :: _ => none

end
end Go.Iron

/- Iron: one operation. -/
namespace Go.Iron

variable [Globs]
/-! ### What is asked of types -/
class Ty (P : Program) (t : TypeId) (sz : outParam Nat) (ag : outParam Bool) : Prop where
  size : (P.info? t).map (·.size) = some sz
  desc : (P.underlying t).map TypeDesc.isRow = some ag
class ElT (P : Program) (t : TypeId) (e : outParam TypeId) : Prop where
  h : P.underlying t = some (.slice e)
class FldT (P : Program) (t : TypeId) (j : Nat) (off : outParam Nat) (ft : outParam TypeId) : Prop where
  h : ∃ fs f, P.underlying t = some (.struct fs) ∧ fs[j]? = some f ∧ f.offset = off ∧ f.type = ft
class ZeroT (P : Program) (t : TypeId) (cs : outParam (List AV)) (bytes : outParam Nat) : Prop where
  h : ∃ z, (P.info? t).map (fun i => (i.zero, i.size, i.bytes)) = some (some z, cs.length, bytes) ∧ z.cells.toList.map .val = cs ∧ z.cells.toList.all (·.oneCell') = true ∧ Nat.blt 0 bytes = true ∧ Nat.blt 0 cs.length = true
omit [Globs] in
theorem ZeroT.all {P : Program} {t : TypeId} {cs : List AV} {bytes : Nat} (hz : ZeroT P t cs bytes) :
    ∃ i z, P.info? t = some i ∧ i.zero = some z ∧ i.bytes = bytes ∧ i.size = cs.length ∧ z.cells.size = cs.length ∧ z.cells.toList.map .val = cs ∧ z.cells.toList.all (·.oneCell') = true ∧ 0 < bytes ∧ 0 < cs.length := by
  obtain ⟨z, h1, h2, h3, h4, h5⟩ := hz.h
  cases hi : P.info? t with
  | none => simp [hi] at h1
  | some i =>
    simp [hi] at h1
    exact ⟨i, z, rfl, h1.1, h1.2.2, h1.2.1, by rw [← h2]; simp, h2, h3, by simpa [Nat.blt_eq] using h4, by simpa [Nat.blt_eq] using h5⟩
class ArrT (P : Program) (t : TypeId) (len : outParam Nat) (e : outParam TypeId) : Prop where
  h : P.underlying t = some (.array len e)

/-! ### Lists, told at once -/
def nth {α : Type} : List α → Nat → Option α
  | [], _ => none
  | x :: _, 0 => some x
  | _ :: l, n + 1 => nth l n
omit [Globs] in
theorem nth_eq {α : Type} (l : List α) (n : Nat) : nth l n = l[n]? := by
  induction l generalizing n with
  | nil => simp [nth]
  | cons x l ih => cases n <;> simp [nth, ih]
def sub {α : Type} : List α → Nat → Nat → Option (List α)
  | [], 0, 0 => some []
  | [], _, _ => none
  | _ :: l, off + 1, n => sub l off n
  | _ :: _, 0, 0 => some []
  | x :: l, 0, n + 1 => match sub l 0 n with
    | some r => some (x :: r)
    | none => none
omit [Globs] in
theorem sub_spec {α : Type} (l : List α) : ∀ (off n : Nat) r, sub l off n = some r → r.length = n ∧ ∀ j, j < n → l[off + j]? = r[j]? := by
  induction l with
  | nil =>
    intro off n r h
    cases off <;> cases n <;> simp [sub] at h
    subst h
    simp
  | cons x l ih =>
    intro off n r h
    cases off with
    | succ off =>
      obtain ⟨h1, h2⟩ := ih off n r (by simpa [sub] using h)
      exact ⟨h1, fun j hj => by rw [← h2 j hj, show off + 1 + j = (off + j) + 1 by omega]; simp⟩
    | zero =>
      cases n with
      | zero => simp [sub] at h; subst h; simp
      | succ n =>
        simp only [sub] at h
        cases hs : sub l 0 n with
        | none => simp [hs] at h
        | some r' =>
          simp [hs] at h
          subst h
          obtain ⟨h1, h2⟩ := ih 0 n r' hs
          refine ⟨by simp [h1], fun j hj => ?_⟩
          cases j with
          | zero => simp
          | succ j =>
            have := h2 j (by omega)
            simp only [Nat.zero_add] at this ⊢
            simpa using this
def splice {α : Type} : List α → Nat → List α → Option (List α)
  | l, 0, [] => some l
  | [], _, _ => none
  | x :: l, off + 1, ys => match splice l off ys with
    | some r => some (x :: r)
    | none => none
  | _ :: l, 0, y :: ys => match splice l 0 ys with
    | some r => some (y :: r)
    | none => none
omit [Globs] in
theorem splice_spec {α : Type} (l : List α) : ∀ (off : Nat) (ys r : List α), splice l off ys = some r → off + ys.length ≤ l.length ∧ r = l.take off ++ ys ++ l.drop (off + ys.length) := by
  induction l with
  | nil =>
    intro off ys r h
    cases off <;> cases ys <;> simp [splice] at h
    subst h
    simp
  | cons x l ih =>
    intro off ys r h
    cases off with
    | zero =>
      cases ys with
      | nil => simp [splice] at h; subst h; simp
      | cons y ys =>
        simp only [splice] at h
        cases hs : splice l 0 ys with
        | none => simp [hs] at h
        | some r' =>
          simp [hs] at h
          subst h
          obtain ⟨h1, h2⟩ := ih 0 ys r' hs
          refine ⟨by simp at h1 ⊢; omega, by rw [h2]; simp⟩
    | succ off =>
      simp only [splice] at h
      cases hs : splice l off ys with
      | none => simp [hs] at h
      | some r' =>
        simp [hs] at h
        subst h
        obtain ⟨h1, h2⟩ := ih off ys r' hs
        refine ⟨by simp at h1 ⊢; omega, ?_⟩
        rw [h2, show off + 1 + ys.length = off + ys.length + 1 by omega]
        simp
def setN {α : Type} : List α → Nat → α → Option (List α)
  | [], _, _ => none
  | _ :: l, 0, y => some (y :: l)
  | x :: l, n + 1, y => match setN l n y with
    | some r => some (x :: r)
    | none => none
omit [Globs] in
theorem setN_spec {α : Type} (l : List α) : ∀ (n : Nat) (y : α) r, setN l n y = some r → n < l.length ∧ r = l.set n y := by
  induction l with
  | nil => intro n y r h; simp [setN] at h
  | cons x l ih =>
    intro n y r h
    cases n with
    | zero => simp [setN] at h; subst h; simp
    | succ n =>
      simp only [setN] at h
      cases hs : setN l n y with
      | none => simp [hs] at h
      | some r' =>
        simp [hs] at h
        subst h
        obtain ⟨h1, h2⟩ := ih n y r' hs
        exact ⟨by simpa using h1, by rw [h2]; simp⟩
def snoc {α : Type} : List α → α → List α
  | [], y => [y]
  | x :: l, y => x :: snoc l y
def snocN {α : Type} : List α → α → Option (List α × Nat)
  | [], y => some ([y], 0)
  | x :: l, y => match snocN l y with
    | some (r, n) => some (x :: r, n + 1)
    | none => none
omit [Globs] in
theorem snocN_spec {α : Type} (l : List α) (y : α) : ∀ r n, snocN l y = some (r, n) → r = l ++ [y] ∧ n = l.length := by
  induction l with
  | nil => intro r n h; simp [snocN] at h; simp [h]
  | cons x l ih =>
    intro r n h
    simp only [snocN] at h
    cases hs : snocN l y with
    | none => simp [hs] at h
    | some p =>
      obtain ⟨r', n'⟩ := p
      simp [hs] at h
      obtain ⟨h1, h2⟩ := ih r' n' hs
      simp [← h.1, ← h.2, h1, h2]

def upd (τ : Nat → AV) (d : Nat) (x : AV) : Nat → AV := fun t =>
  match Nat.beq t d with
  | true => x
  | false => τ t
omit [Globs] in
theorem upd_eq (τ : Nat → AV) (d : Nat) (x : AV) (t : Nat) : upd τ d x t = if t = d then x else τ t := by
  unfold upd
  by_cases h : t = d
  · subst h
    simp
  · have : Nat.beq t d = false := by
      cases hb : Nat.beq t d with
      | false => rfl
      | true => exact absurd (Nat.eq_of_beq_eq_true hb) h
    simp [this, h]
/-! ### One operation's meaning -/
def OpStep (P : Program) (τ : Nat → AV) (ar : List AO) (o : Oper) (x : AV) (ar' : List AO) : Prop :=
  ∀ (C : Cx) (a : Act) (w : World) (ρ : List Loc), RelA C ρ ar w → Slots w (Ow C ρ ar) ρ τ a.tmps →
    ∃ r v w' ρ', (execOp a.eval o).run P w = .ok r w' ∧ (r = .value v ∨ r = .skip ∧ v = undef) ∧ RelA C ρ' ar' w' ∧ Compat ρ ρ' ∧
      Pres w (Ow C ρ ar) w' (Ow C ρ' ar') ∧ RV w' (Ow C ρ' ar') ρ' x v

section
variable {P : Program} {f n : Nat} {C : Cx} {τ : Nat → AV} {ar ar' : List AO} {k : List Item} {Q : Out → List AO → Prop} {ops : Array Oper}

omit [Globs] in
theorem not_defer {o : Oper} {ρ' : Operand → Value} {w w' : World} {r : Next} {v : Value} (hr : (execOp ρ' o).run P w = .ok r w') (hv : r = .value v ∨ r = .skip ∧ v = undef) : ∀ c, o.op ≠ .defer c := by
  intro c hc
  simp only [execOp, hc] at hr
  cases hd : (resolve ρ' c o.type).run P w with
  | ok d w1 =>
    simp [hd] at hr
    rcases hv with rfl | ⟨rfl, _⟩ <;> simp at hr
  | halt z w1 => simp [hd] at hr

omit [Globs] in
theorem step_op_value {b : Frame} {a : Act} {cs : List Frame} {w w' : World} {i : Nat} {rest : List Nat} {o : Oper} {r : Next} {v : Value} (ho : ops[i]? = some o)
    (hw : Region.wanted o (yielded ops a.tmps) = true) (hr : (execOp a.eval o).run P w = .ok r w') (hv : r = .value v ∨ r = .skip ∧ v = undef) :
    step P (lone (b.atR a (.inRegion ops (i :: rest) :: k)) cs w) = .next (lone (b.atR (a.put o.dst v) (.inRegion ops rest :: k)) cs w') := by
  have hg := stepGR_op (P := P) (b := b) (k := k) (cs := cs) (w := w) (rest := rest) ho hw
  rw [Oper.semAt_eq _ _ _ (not_defer hr hv)] at hg
  have hfin : ∀ v, (b.atR a (.inRegion ops (i :: rest) :: k)).finish v = b.atR (a.put o.dst v) (.inRegion ops rest :: k) := by
    intro v; rw [Frame.finish_atR, ho]; rfl
  refine step_lone_go ?_
  rw [hg, ← hfin]
  rcases hv with rfl | ⟨rfl, rfl⟩ <;> simp [stepG.apply, hr]

omit [Globs] in
theorem put_tmps_size (a : Act) (d : Option Tmp) (v : Value) : (a.put d v).tmps.size = a.tmps.size := by cases d <;> simp [Act.put]
omit [Globs] in
theorem put_defers (a : Act) (d : Option Tmp) (v : Value) : (a.put d v).defers = a.defers := by cases d <;> rfl

omit [Globs] in
theorem slots_put {w : World} {O : Nat → Prop} {ρ : List Loc} {a : Act} {d : Nat} {x : AV} {v : Value} (h : Slots w O ρ τ a.tmps) (hd : d < a.tmps.size) (hx : RV w O ρ x v) :
    Slots w O ρ (upd τ d x) (a.put (some d) v).tmps := by
  intro t
  rw [upd_eq]
  by_cases ht : t = d
  · subst ht
    simpa [Act.put, hd, Array.getD_eq_getD_getElem?] using hx
  · have := h t
    simp only [if_neg ht, Act.put, Array.getD_eq_getD_getElem?] at this ⊢
    rw [Array.getElem?_setIfInBounds_ne (fun e => ht e.symm)]
    exact this

omit [Globs] in
theorem wanted_of_guard {w : World} {O : Nat → Prop} {ρ : List Loc} {a : Act} {o : Oper} {j : Nat} {want b : Bool} {d : Nat} {oj : Oper} (h : Slots w O ρ τ a.tmps) (hg : o.guard = some (j, want))
    (hj : ops[j]? = some oj) (hd : oj.dst = some d) (hdn : d < a.tmps.size) (hb : τ d = .val (.bool b)) : Region.wanted o (yielded ops a.tmps) = (b == want) := by
  have hv : a.tmps[d]? = some (.bool b) := by
    have := h d
    rw [hb] at this
    have := rv_val this
    rw [Array.getD_eq_getD_getElem?] at this
    rw [Array.getElem?_eq_getElem hdn] at this ⊢
    simpa using this
  simp [Region.wanted, hg, yielded, hj, hd, hv]

/-! ### Operations under a guard that isn't decided: what they yield is told under a condition -/
def memN : Nat → List Nat → Bool
  | _, [] => false
  | t, x :: l => match Nat.beq t x with
    | true => true
    | false => memN t l
omit [Globs] in
theorem memN_iff {t : Nat} {l : List Nat} : memN t l = true ↔ t ∈ l := by
  induction l with
  | nil => simp [memN]
  | cons x l ih =>
    simp only [memN, List.mem_cons]
    cases h : Nat.beq t x with
    | true => simp [Nat.eq_of_beq_eq_true h]
    | false => simp [ih]; intro e; subst e; simp at h
def tmpsOf : List Operand → List Nat
  | [] => []
  | .tmp t :: l => t :: tmpsOf l
  | _ :: l => tmpsOf l
def AV.strip : AV → AV
  | .opt _ x => x
  | x => x
def opT (l : List Nat) (τ : Nat → AV) : Nat → AV := fun t => match memN t l with
  | true => (τ t).strip
  | false => .bad
def AV.plain : AV → Bool
  | .opt _ _ => false
  | _ => true
inductive GOK (c : Bool) : AV → Prop
  | o {x} : GOK c (.opt c x)
  | i {c' x} : (c = true → c' = true) → GOK c (.opt c' x)
  | n {x} : x.plain = true → GOK c x
omit [Globs] in
theorem gok_and {c1 c2 : Bool} {x : AV} : GOK (c1 && c2) (.opt c1 x) := .i fun h => by simp at h; exact h.1
inductive GOKs (c : Bool) (τ : Nat → AV) : List Nat → Prop
  | nil : GOKs c τ []
  | cons {t l} : GOK c (τ t) → GOKs c τ l → GOKs c τ (t :: l)
omit [Globs] in
theorem strip_ok {w : World} {O : Nat → Prop} {ρ : List Loc} {c : Bool} {x : AV} {v : Value} (hc : c = true) (hg : GOK c x) (h : RV w O ρ x v) : RV w O ρ x.strip v := by
  cases hg with
  | o => exact rv_opt h hc
  | i hi => exact rv_opt h (hi hc)
  | n hn => cases x <;> first | exact h | simp [AV.plain] at hn
omit [Globs] in
theorem opT_slots {w : World} {O : Nat → Prop} {ρ : List Loc} {tmps : Array Value} {c : Bool} (hc : c = true) {l : List Nat} (hg : GOKs c τ l) (h : Slots w O ρ τ tmps) : Slots w O ρ (opT l τ) tmps := by
  intro t
  unfold opT
  cases hm : memN t l with
  | false => exact .bad
  | true =>
    have ht := memN_iff.1 hm
    induction hg with
    | nil => simp at ht
    | @cons t' l hgt _ ih =>
      by_cases e : t = t'
      · subst e
        exact strip_ok hc hgt (h t)
      · have h' : t ∈ l := by simpa [e] using ht
        exact ih (memN_iff.2 h') h'

def condOf : Option Bool → Bool → Bool → Bool
  | none, b, want => b == want
  | some c, b, want => c && (b == want)

inductive GuardA (n : Nat) (τ : Nat → AV) (ops : Array Oper) : Nat → Option Bool → Bool → Prop
  | v {j oj dj b} : ops[j]? = some oj → oj.dst = some dj → Nat.blt dj n = true → τ dj = .val (.bool b) → GuardA n τ ops j none b
  | o {j oj dj b c} : ops[j]? = some oj → oj.dst = some dj → Nat.blt dj n = true → τ dj = .opt c (.val (.bool b)) → GuardA n τ ops j (some c) b

omit [Globs] in
theorem wanted_of {w : World} {O : Nat → Prop} {ρ : List Loc} {a : Act} {o : Oper} {j : Nat} {want b : Bool} {oc : Option Bool} (h : Slots w O ρ τ a.tmps) (hn : a.tmps.size = n) (hg : o.guard = some (j, want))
    (hb : GuardA n τ ops j oc b) : Region.wanted o (yielded ops a.tmps) = condOf oc b want := by
  cases hb with
  | v h1 h2 h3 h4 => exact wanted_of_guard h hg h1 h2 (by rw [hn]; simpa [Nat.blt_eq] using h3) h4
  | @o oj dj b c h1 h2 h3 h4 =>
    have hlt : dj < a.tmps.size := by rw [hn]; simpa [Nat.blt_eq] using h3
    have hr := h dj
    rw [h4] at hr
    have hget : a.tmps.getD dj undef = a.tmps[dj] := by simp [Array.getD_eq_getD_getElem?, hlt]
    rw [hget] at hr
    have hy : yielded ops a.tmps j = (match a.tmps[dj] with | .bool b => some b | _ => none) := by
      simp only [yielded, h1, h2, Option.bind_some, Array.getElem?_eq_getElem hlt]
      cases a.tmps[dj] <;> rfl
    cases c with
    | true =>
      have := rv_val (rv_opt hr rfl)
      simp only [Region.wanted, hg, hy, this, condOf, Bool.true_and]
      rfl
    | false =>
      have := rv_optF hr rfl
      simp only [Region.wanted, hg, hy, this, condOf, Bool.false_and]
      rfl

def opS (L l : List Nat) (τ : Nat → AV) : Nat → AV := fun t => match memN t l with
  | true => (τ t).strip
  | false => match memN t L with
    | true => τ t
    | false => .bad
omit [Globs] in
theorem opS_slots {w : World} {O : Nat → Prop} {ρ : List Loc} {tmps : Array Value} {c : Bool} (hc : c = true) {L l : List Nat} (hg : GOKs c τ l) (h : Slots w O ρ τ tmps) : Slots w O ρ (opS L l τ) tmps := by
  intro t
  have h1 := opT_slots hc hg h t
  unfold opS
  unfold opT at h1
  cases hm : memN t l with
  | true => simp only [hm] at h1; exact h1
  | false =>
    dsimp only
    cases hm2 : memN t L with
    | true => exact h t
    | false => exact .bad
def sops : Op → List Nat
  | .pick c _ _ => tmpsOf [c]
  | op => tmpsOf op.operands.toList
omit [Globs] in
theorem tmpsOf_mem2 {l : List Operand} {t : Nat} (h : t ∈ tmpsOf l) : Operand.tmp t ∈ l := by
  induction l with
  | nil => simp [tmpsOf] at h
  | cons x l ih =>
    cases x with
    | tmp u =>
      simp [tmpsOf] at h
      rcases h with rfl | h
      · simp
      · exact List.mem_cons_of_mem _ (ih h)
    | const v => exact List.mem_cons_of_mem _ (ih (by simpa [tmpsOf] using h))
    | global g => exact List.mem_cons_of_mem _ (ih (by simpa [tmpsOf] using h))
    | func g => exact List.mem_cons_of_mem _ (ih (by simpa [tmpsOf] using h))
omit [Globs] in
theorem mem_tmpsOf2 {l : List Operand} {t : Nat} (h : Operand.tmp t ∈ l) : t ∈ tmpsOf l := by
  induction l with
  | nil => simp at h
  | cons x l ih =>
    rcases List.mem_cons.1 h with rfl | h'
    · simp [tmpsOf]
    · cases x <;> simp [tmpsOf, ih h']
omit [Globs] in
theorem sops_sub {op : Op} {t : Nat} (h : t ∈ sops op) : t ∈ tmpsOf op.operands.toList := by
  unfold sops at h
  split at h
  · rename_i c y z
    have := tmpsOf_mem2 h
    exact mem_tmpsOf2 (by simp at this; simp [Op.operands, this])
  · exact h

/-! ### Operations that leave the world alone -/
theorem opStep_same {o : Oper} {x : AV} (h : ∀ (C : Cx) (a : Act) (w : World) (ρ : List Loc), RelA C ρ ar w → Slots w (Ow C ρ ar) ρ τ a.tmps → ∃ v, (execOp a.eval o).run P w = .ok (.value v) w ∧ RV w (Ow C ρ ar) ρ x v) :
    OpStep P τ ar o x ar := fun C a w ρ h1 h2 => by
  obtain ⟨v, hr, hx⟩ := h C a w ρ h1 h2
  exact ⟨_, v, w, ρ, hr, .inl rfl, h1, Compat.refl _, Pres.refl _ _, hx⟩

theorem op_mv {o : Oper} {y : Operand} {x : AV} (ho : o.op = .move y ∨ o.op = .assign y) (hx : evA τ y = x) : OpStep P τ ar o x ar :=
  opStep_same fun C a w ρ _ h => ⟨a.eval y, by rcases ho with ho | ho <;> simp [execOp, ho], hx ▸ evA_ok h y⟩
omit [Globs] in
theorem eval_val {w : World} {O : Nat → Prop} {ρ : List Loc} {a : Act} (h : Slots w O ρ τ a.tmps) {x : Operand} {v : Value} (hx : evA τ x = .val v) : a.eval x = v :=
  rv_val (by have := evA_ok h x; rwa [hx] at this)

theorem op_pickB {o : Oper} {c y z : Operand} {b p q : Bool} (ho : o.op = .pick c y z) (hc : evA τ c = .val (.bool b)) (hy : evA τ y = .val (.bool p)) (hz : evA τ z = .val (.bool q)) :
    OpStep P τ ar o (.val (.bool (if b then p else q))) ar :=
  opStep_same fun C a w ρ _ h => ⟨.bool (if b then p else q), by cases b <;> simp [execOp, ho, eval_val h hc, eval_val h hy, eval_val h hz, asBool], .val⟩

def arithV : BinOp → IntKind → Int → Int → Option Value
  | .add, k, x, y => some (.int k (k.wrap (x + y)))
  | .sub, k, x, y => some (.int k (k.wrap (x - y)))
  | .mul, k, x, y => some (.int k (k.wrap (x * y)))
  | .eql, _, x, y => some (.bool (x == y))
  | .neq, _, x, y => some (.bool (x != y))
  | .lss, _, x, y => some (.bool (x < y))
  | .leq, _, x, y => some (.bool (x ≤ y))
  | .gtr, _, x, y => some (.bool (x > y))
  | .geq, _, x, y => some (.bool (x ≥ y))
  | _, _, _, _ => none
theorem op_arith {o : Oper} {op : BinOp} {xt yt : TypeId} {x y : Operand} {k : IntKind} {p q : Int} {v : Value} (ho : o.op = .binOp op xt x y yt) (hx : evA τ x = .val (.int k p)) (hy : evA τ y = .val (.int k q))
    (hv : arithV op k p q = some v) : OpStep P τ ar o (.val v) ar :=
  opStep_same fun C a w ρ _ h => ⟨v, by
    cases op <;> simp [arithV] at hv <;> subst hv <;> simp [execOp, ho, eval_val h hx, eval_val h hy, eqGuard, binOp, Op.intArith, Op.intCmp], .val⟩
theorem op_quo {o : Oper} {xt yt : TypeId} {x y : Operand} {k : IntKind} {p q : Int} (ho : o.op = .binOp .quo xt x y yt) (hx : evA τ x = .val (.int k p)) (hy : evA τ y = .val (.int k q))
    (hq : q ≠ 0) : OpStep P τ ar o (.val (.int k (k.wrap (p.tdiv q)))) ar :=
  opStep_same fun C a w ρ _ h => ⟨_, by
    simp [execOp, ho, eval_val h hx, eval_val h hy, eqGuard, binOp, Op.intDiv, hq], .val⟩
theorem op_rem {o : Oper} {xt yt : TypeId} {x y : Operand} {k : IntKind} {p q : Int} (ho : o.op = .binOp .rem xt x y yt) (hx : evA τ x = .val (.int k p)) (hy : evA τ y = .val (.int k q))
    (hq : q ≠ 0) : OpStep P τ ar o (.val (.int k (p.tmod q))) ar :=
  opStep_same fun C a w ρ _ h => ⟨_, by
    simp [execOp, ho, eval_val h hx, eval_val h hy, eqGuard, binOp, Op.intDiv, hq], .val⟩
theorem op_not {o : Oper} {xt : TypeId} {x : Operand} {b : Bool} (ho : o.op = .unOp .not xt x) (hx : evA τ x = .val (.bool b)) : OpStep P τ ar o (.val (.bool (!b))) ar :=
  opStep_same fun C a w ρ _ h => ⟨_, by simp [execOp, ho, eval_val h hx, Op.unary], .val⟩
theorem op_neg {o : Oper} {xt : TypeId} {x : Operand} {k : IntKind} {p : Int} (ho : o.op = .unOp .neg xt x) (hx : evA τ x = .val (.int k p)) : OpStep P τ ar o (.val (.int k (k.wrap (0 - p)))) ar :=
  opStep_same fun C a w ρ _ h => ⟨_, by simp [execOp, ho, eval_val h hx, Op.unary, Op.intArith], .val⟩

theorem op_extract {o : Oper} {x : Operand} {j : Nat} {l : List AV} {y : AV} (ho : o.op = .extract x j) (hx : evA τ x = .tup l) (hy : nth l j = some y) : OpStep P τ ar o y ar :=
  opStep_same fun C a w ρ _ h => by
    have hv := evA_ok h x
    rw [hx] at hv
    rw [nth_eq] at hy
    obtain ⟨vs, e, hl, hr⟩ := rv_tup hv
    have hj : j < vs.size := by rw [← hl]; exact (List.getElem?_eq_some_iff.1 hy).1
    exact ⟨vs[j], by simp [execOp, ho, e, Instr.extract, hj], hr j y _ hy (by simp [hj])⟩

theorem op_len_slc {o : Oper} {x : Operand} {t e : TypeId} [ElT P t e] {sz : Nat} {nl : Option Bool} {m : Nat} {r : Nat → List AV} (ho : o.op = .call { callee := .builtin .len, args := #[x], argTypes := #[t] })
    (hx : evA τ x = .slc sz nl m r) : OpStep P τ ar o (.val (.int .i64 m)) ar :=
  opStep_same fun C a w ρ _ h => by
    have hv := evA_ok h x
    rw [hx] at hv
    obtain ⟨A, cap, g, e1, _⟩ := rv_slc hv
    exact ⟨_, by simp [execOp, ho, resolve, invoke, builtin, e1, Builtin.len_, run_underlying (ElT.h (P := P) (t := t)), goInt], .val⟩

theorem op_len_str {o : Oper} {x : Operand} {t : TypeId} {s : ByteArray} (ho : o.op = .call { callee := .builtin .len, args := #[x], argTypes := #[t] }) (ht : P.underlying t = some .string)
    (hx : evA τ x = .val (.string s)) : OpStep P τ ar o (.val (.int .i64 s.size)) ar :=
  opStep_same fun C a w ρ _ h => ⟨_, by simp [execOp, ho, resolve, invoke, builtin, eval_val h hx, Builtin.len_, run_underlying ht, goInt], .val⟩

theorem op_len_nil {o : Oper} {x : Operand} {t e : TypeId} [ElT P t e] {c : Nat} (ho : o.op = .call { callee := .builtin .len, args := #[x], argTypes := #[t] })
    (hx : evA τ x = .val (.slice none 0 c)) : OpStep P τ ar o (.val (.int .i64 0)) ar :=
  opStep_same fun C a w ρ _ h => ⟨_, by simp [execOp, ho, resolve, invoke, builtin, eval_val h hx, Builtin.len_, run_underlying (ElT.h (P := P) (t := t)), goInt], .val⟩

omit [Globs] in
theorem add_add' {w : World} {a : Addr} {m n : Nat} {u : Value} (h : w.cell? (a.add (m + n)) = some u) : (a.add m).add n = a.add (m + n) := by
  by_cases hn : n = 0
  · subst hn
    simp [Addr.add]
  · unfold Addr.add
    by_cases hm : m = 0
    · subst hm; simp [hn]
    · simp [hm, hn, Nat.add_assoc]

def inB (i : Int) (m : Nat) : Bool := decide (0 ≤ i) && decide (i < m)
omit [Globs] in
theorem inB_iff {i : Int} {m : Nat} : inB i m = true ↔ 0 ≤ i ∧ i < m := by simp [inB]

theorem op_index_slc {o : Oper} {x y : Operand} {t e : TypeId} {sz sz' : Nat} {ag : Bool} [ElT P t e] [Ty P e sz ag] {nl : Option Bool} {m : Nat} {r : Nat → List AV} {kk : IntKind} {i : Int}
    (ho : o.op = .indexAddr t x y) (hx : evA τ x = .slc sz' nl m r) (hy : evA τ y = .val (.int kk i)) (hsz : sz' = sz) (hb : inB i m = true) : OpStep P τ ar o (.loc (r i.toNat) 0) ar :=
  opStep_same fun C a w ρ _ h => by
    subst hsz
    obtain ⟨h0, h1⟩ := inB_iff.1 hb
    have hv := evA_ok h x
    rw [hx] at hv
    obtain ⟨A, cap, g, e1, e3, e4, e5, e6, e7, e8, e9⟩ := rv_slc hv
    have hi : i.toNat < m := by omega
    obtain ⟨ad, rfl, hb, hO⟩ := e7 (by omega)
    have hs := Ty.size (P := P) (t := e)
    cases hinf : P.info? e with
    | none => simp [hinf] at hs
    | some info =>
      simp [hinf] at hs
      refine ⟨.pointer (some (ad.add (i.toNat * sz'))), ?_, ?_⟩
      · have hel := ElT.h (P := P) (t := t)
        have hc : 0 ≤ i ∧ i < (m : Int) := by omega
        simp [execOp, ho, e1, eval_val h hy, Instr.indexAt, run_underlying hel, asIntOf, hc, sizeOf, typeInfo, hinf, hs]
      · refine .loc (by rw [add_block]; exact hb) (by rw [add_block]; exact hO) (fun j => g i.toNat j) (fun j z hz => ?_) (fun j z hz => ?_)
        · rw [Nat.zero_add] at hz
          obtain ⟨c1, c2⟩ := e8 _ _ _ _ hi hz rfl
          exact ⟨by rw [add_add' c1]; exact c1, c2⟩
        · rw [Nat.zero_add] at hz
          exact e9 _ _ _ hi hz

omit [Globs] in
theorem run_fieldAt_ok {w : World} {t : TypeId} {j off : Nat} {ft : TypeId} {sz : Nat} {ag : Bool} [hf : FldT P t j off ft] [ht : Ty P ft sz ag] (hsz : sz ≠ 0) (a : Addr) :
    (Instr.fieldAt t (.pointer (some a)) j).run P w = .ok (.pointer (some (a.add off))) w := by
  obtain ⟨fs, f, h1, h2, h3, h4⟩ := hf.h
  have hs := ht.size
  cases hinf : P.info? ft with
  | none => simp [hinf] at hs
  | some info =>
    simp [hinf] at hs
    subst h4
    simp [Instr.fieldAt, run_underlying h1, h2, Instr.sureAddr, fieldPlace, sizeOf, typeInfo, hinf, hs, hsz, h3]

theorem op_field_loc {o : Oper} {x : Operand} {t : TypeId} {j off : Nat} {ft : TypeId} {sz : Nat} {ag : Bool} [FldT P t j off ft] [Ty P ft sz ag] {cs : List AV} {o1 : Nat}
    (ho : o.op = .fieldAddr t x j) (hx : evA τ x = .loc cs o1) (hsz : Nat.beq sz 0 = false) {o2 : Nat} (h2 : Nat.add o1 off = o2) : OpStep P τ ar o (.loc cs o2) ar :=
  opStep_same fun C a w ρ _ h => by
    subst h2
    show ∃ v, _ ∧ RV _ _ _ (.loc cs (o1 + off)) v
    have hv := evA_ok h x
    rw [hx] at hv
    obtain ⟨ad, g, e1, e2, e3, e4, e5⟩ := rv_loc hv
    have hsz' : sz ≠ 0 := fun e => by subst e; cases hsz
    refine ⟨.pointer (some (ad.add off)), by simp [execOp, ho, e1, run_fieldAt_ok hsz'], ?_⟩
    refine .loc (by rw [add_block]; exact e2) (by rw [add_block]; exact e3) (fun j => g (off + j)) (fun j z hz => ?_) (fun j z hz => ?_)
    · rw [Nat.add_assoc] at hz
      obtain ⟨c1, c2⟩ := e4 _ _ hz
      exact ⟨by rw [add_add' c1]; exact c1, c2⟩
    · rw [Nat.add_assoc] at hz
      exact e5 _ _ hz

theorem op_field_ptr {o : Oper} {x : Operand} {t : TypeId} {j off : Nat} {ft : TypeId} {sz : Nat} {ag : Bool} [FldT P t j off ft] [Ty P ft sz ag] {id ver o1 : Nat} {ob : AO}
    (ho : o.op = .fieldAddr t x j) (hx : evA τ x = .ptr id ver o1) (hob : nth ar id = some ob) (hver : (match ob with | .box _ _ => some 0 | _ => none) = some ver) (hsz : Nat.beq sz 0 = false) {o2 : Nat} (h2 : Nat.add o1 off = o2) :
    OpStep P τ ar o (.ptr id ver o2) ar :=
  opStep_same fun C a w ρ hR h => by
    subst h2
    show ∃ v, _ ∧ RV _ _ _ (.ptr id ver (o1 + off)) v
    have hv := evA_ok h x
    rw [hx] at hv
    obtain ⟨L, e1, e2, e3, e4⟩ := rv_ptr hv
    have hsz' : sz ≠ 0 := fun e => by subst e; cases hsz
    rw [nth_eq] at hob
    have hL : ver = L.ver := by
      have := hR.obj id ob L hob e1
      cases ob with
      | gone => simp at hver
      | hole => simp at hver
      | box e cs => simp at hver; rw [← hver]; exact this.1.symm
      | row e sz v m r => simp at hver
      | loop _ _ _ _ _ _ _ _ => simp at hver
      | fam _ _ _ _ _ _ => simp at hver
      | dfr _ => simp at hver
      | iter _ _ => simp at hver
      | map _ _ _ => simp at hver
      | byt _ _ => simp at hver
    obtain ⟨b, hb, e5⟩ := e4 hL
    have hadd : (⟨b, o1, none⟩ : Addr).add off = ⟨b, o1 + off, none⟩ := by unfold Addr.add; split <;> simp_all
    exact ⟨.pointer (some ((⟨b, o1, none⟩ : Addr).add off)), by simp [execOp, ho, e5, run_fieldAt_ok hsz'], .ptr e1 e2 rfl fun _ => ⟨b, hb, by rw [hadd]⟩⟩

omit [Globs] in
theorem isAgg_run {w : World} {t : TypeId} {sz : Nat} {ag : Bool} [h : Ty P t sz ag] : (isAgg t).run P w = .ok ag w := by
  have hd := h.desc
  cases hu : P.underlying t with
  | none => simp [hu] at hd
  | some d =>
    simp [hu] at hd
    unfold isAgg
    rw [Sem.run_bind, run_underlying hu w]
    cases d <;> simp_all [TypeDesc.isRow]
omit [Globs] in
theorem sizeOf_run {w : World} {t : TypeId} {sz : Nat} {ag : Bool} [h : Ty P t sz ag] : (sizeOf t).run P w = .ok sz w := by
  have hs := h.size
  cases hinf : P.info? t with
  | none => simp [hinf] at hs
  | some info => simp [hinf] at hs; simp [sizeOf, typeInfo, hinf, hs]

def loadA (ag : Bool) (sz : Nat) (cs : List AV) (off : Nat) : Option AV :=
  match ag with
  | true => match sub cs off sz with
    | some r => some (.agg r)
    | none => none
  | false => nth cs off

omit [Globs] in
theorem load_cells {w : World} {O : Nat → Prop} {ρ : List Loc} {t : TypeId} {sz : Nat} {ag : Bool} [Ty P t sz ag] {cs : List AV} {off : Nat} {x : AV} {a : Addr} (g : Nat → Value) (hx : loadA ag sz cs off = some x)
    (h1 : ∀ (j : Nat) y, cs[off + j]? = some y → w.cell? (a.add j) = some (g j) ∧ (g j).oneCell' = true) (h2 : ∀ (j : Nat) y, cs[off + j]? = some y → RV w O ρ y (g j)) :
    ∃ v, (Instr.loadAt t (.pointer (some a))).run P w = .ok v w ∧ RV w O ρ x v := by
  cases ag with
  | false =>
    simp only [loadA, nth_eq] at hx
    have c := h1 0 x (by simpa using hx)
    refine ⟨g 0, ?_, h2 0 x (by simpa using hx)⟩
    have h0 : a.add 0 = a := by simp [Addr.add]
    rw [h0] at c
    simp [Instr.loadAt, Instr.sureAddr, loadVar, isAgg_run (P := P) (t := t) (sz := sz) (ag := false), c.1]
  | true =>
    simp only [loadA] at hx
    cases hs : sub cs off sz with
    | none => simp [hs] at hx
    | some r =>
      simp [hs] at hx
      subst hx
      obtain ⟨hl, hr⟩ := sub_spec cs off sz r hs
      have hget : ∀ j, j < sz → ∃ y, cs[off + j]? = some y ∧ r[j]? = some y := fun j hj => by
        have : j < r.length := by omega
        exact ⟨r[j], by rw [hr j hj]; simp [this], by simp [this]⟩
      have hrun := run_loadCells (P := P) (w := w) a sz g (fun j hj => by obtain ⟨y, hy, _⟩ := hget j hj; exact (h1 j y hy).1)
      refine ⟨.agg ((List.range sz).map g).toArray, ?_, ?_⟩
      · simp [Instr.loadAt, Instr.sureAddr, loadVar, isAgg_run (P := P) (t := t) (sz := sz) (ag := true), sizeOf_run (P := P) (t := t) (sz := sz) (ag := true), hrun]
      · refine .agg (by simp [hl]) (fun i y v hy hv => ?_) (fun i v hv => ?_)
        · have hi : i < sz := by rw [← hl]; exact (List.getElem?_eq_some_iff.1 hy).1
          simp [hi] at hv
          subst hv
          exact h2 i y (by rw [hr i hi]; exact hy)
        · have hi : i < sz := by have := (Array.getElem?_eq_some_iff.1 hv).1; simpa using this
          simp [hi] at hv
          subst hv
          obtain ⟨y, hy, _⟩ := hget i hi
          exact (h1 i y hy).2

theorem op_load_loc {o : Oper} {p : Operand} {t : TypeId} {sz : Nat} {ag : Bool} [Ty P t sz ag] {cs : List AV} {off : Nat} {x : AV} (ho : o.op = .load t p) (hp : evA τ p = .loc cs off) (hx : loadA ag sz cs off = some x) :
    OpStep P τ ar o x ar :=
  opStep_same fun C a w ρ _ h => by
    have hv := evA_ok h p
    rw [hp] at hv
    obtain ⟨ad, g, e1, e2, e3, e4, e5⟩ := rv_loc hv
    obtain ⟨v, hr, hq⟩ := load_cells (P := P) (ρ := []) (t := t) g hx e4 e5
    exact ⟨v, by simp [execOp, ho, e1, hr], hq.up⟩

def AO.cells : AO → Option (Nat × List AV)
  | .box _ cs => some (0, cs)
  | .row _ _ _ _ _ => none
  | .gone => none
  | .hole => none
  | .loop _ _ _ _ _ _ _ _ => none
  | .fam _ _ _ _ _ _ => none
  | .dfr _ => none
  | .iter _ _ => none
  | .map _ _ _ => none
  | .byt _ _ => none

theorem ptr_cells {w : World} {ρ : List Loc} {C : Cx} (hR : RelA C ρ ar w) {id ver off : Nat} {v : Value} {ob : AO} {cs : List AV} (hv : RV w (Ow C ρ ar) ρ (.ptr id ver off) v) (hob : ar[id]? = some ob) (hcs : ob.cells = some (ver, cs)) :
    ∃ (b : Nat) (g : Nat → Value), v = .pointer (some ⟨b, off, none⟩) ∧ (∀ (j : Nat) y, cs[off + j]? = some y → w.cell? ((⟨b, off, none⟩ : Addr).add j) = some (g j) ∧ (g j).oneCell' = true) ∧
      ∀ (j : Nat) y, cs[off + j]? = some y → RV w (Ow C ρ ar) ρ y (g j) := by
  obtain ⟨L, e1, e2, e3, e4⟩ := rv_ptr hv
  have hob' := hR.obj id ob L hob e1
  have hadd : ∀ (b j : Nat), (⟨b, off, none⟩ : Addr).add j = ⟨b, off + j, none⟩ := fun b j => by unfold Addr.add; split <;> simp_all
  cases ob with
  | gone => simp [AO.cells] at hcs
  | hole => simp [AO.cells] at hcs
  | box e c =>
    simp [AO.cells] at hcs
    obtain ⟨rfl, rfl⟩ := hcs
    obtain ⟨hL, b, vs, hLv, hh, hc1, hc2⟩ := hob'
    obtain ⟨b', hb', e5⟩ := e4 hL.symm
    have : b' = b := by simp [Loc.blk, hLv] at hb'; exact hb'.symm
    subst this
    refine ⟨b', fun j => vs.toList.getD (off + j) undef, e5, fun j y hy => ?_, fun j y hy => ?_⟩
    · have hj : off + j < vs.toList.length := by rw [hc1]; exact (List.getElem?_eq_some_iff.1 hy).1
      have hg : vs.toList[off + j]? = some (vs.toList.getD (off + j) undef) := by simp [List.getD_eq_getElem?_getD, List.getElem?_eq_getElem hj]
      refine ⟨?_, (hc2 _ _ _ hy hg).2⟩
      rw [hadd, cell_of_row w b' (off + j) vs e (0, 0) hh]
      simpa using hg
    · have hj : off + j < vs.toList.length := by rw [hc1]; exact (List.getElem?_eq_some_iff.1 hy).1
      have hg : vs.toList[off + j]? = some (vs.toList.getD (off + j) undef) := by simp [List.getD_eq_getElem?_getD, List.getElem?_eq_getElem hj]
      exact (hc2 _ _ _ hy hg).1
  | row e sz ve m r => simp [AO.cells] at hcs
  | loop _ _ _ _ _ _ _ _ => simp [AO.cells] at hcs
  | fam _ _ _ _ _ _ => simp [AO.cells] at hcs
  | dfr _ => simp [AO.cells] at hcs
  | iter _ _ => simp [AO.cells] at hcs
  | map _ _ _ => simp [AO.cells] at hcs
  | byt _ _ => simp [AO.cells] at hcs

theorem op_load_ptr {o : Oper} {p : Operand} {t : TypeId} {sz : Nat} {ag : Bool} [Ty P t sz ag] {id ver off : Nat} {ob : AO} {cs : List AV} {x : AV} (ho : o.op = .load t p) (hp : evA τ p = .ptr id ver off)
    (hob : nth ar id = some ob) (hcs : ob.cells = some (ver, cs)) (hx : loadA ag sz cs off = some x) : OpStep P τ ar o x ar :=
  opStep_same fun C a w ρ hR h => by
    have hv := evA_ok h p
    rw [hp] at hv
    rw [nth_eq] at hob
    obtain ⟨b, g, e1, e2, e3⟩ := ptr_cells hR hv hob hcs
    obtain ⟨v, hr, hq⟩ := load_cells (P := P) (t := t) g hx e2 e3
    exact ⟨v, by simp [execOp, ho, e1, hr], hq⟩

end
end Go.Iron

/- Iron: operations that make or write memory of the call's own. -/
namespace Go.Iron

variable [Globs]
omit [Globs] in
theorem owned_snoc {ρ : List Loc} {ar : List AO} {L : Loc} {o : AO} (hl : ρ.length = ar.length) {b : Nat} (h : Owned (ρ ++ [L]) (ar ++ [o]) b) : Owned ρ ar b ∨ (o.live = true ∧ L.has b) := by
  obtain ⟨i, o', L', h1, h2, h3, h4⟩ := h
  by_cases hi : i < ar.length
  · rw [List.getElem?_append_left hi] at h1
    rw [List.getElem?_append_left (by omega)] at h3
    exact .inl ⟨i, o', L', h1, h2, h3, h4⟩
  · have hi' : i < (ar ++ [o]).length := (List.getElem?_eq_some_iff.1 h1).1
    simp at hi'
    have : i = ar.length := by omega
    subst this
    rw [List.getElem?_append_right (Nat.le_refl _)] at h1
    rw [List.getElem?_append_right (by omega)] at h3
    simp at h1
    simp [hl] at h3
    subst h1
    subst h3
    exact .inr ⟨h2, h4⟩
omit [Globs] in
theorem ObjOK.mono {w w' : World} {O O' : Nat → Prop} (hp : Pres w O w' O') {ρ ρ' : List Loc} (hc : Compat ρ ρ') {o : AO} {L : Loc} (hb : ∀ b, L.has b → w'.heap[b]? = w.heap[b]?) (h : ObjOK w O ρ o L) : ObjOK w' O' ρ' o L := by
  cases o with
  | gone => trivial
  | hole => exact h
  | box e cs =>
    obtain ⟨h0, b, vs, h1, h2, h3⟩ := h
    exact ⟨h0, b, vs, h1, by rw [hb b (by simp [Loc.has, Loc.blk, h1])]; exact h2, h3.mono hp hc⟩
  | row e sz ver m r =>
    obtain ⟨h0, xs, h1, h2⟩ := h
    refine ⟨h0, xs, ⟨h1.1, ?_⟩, h2.mono hp hc⟩
    rcases h1.2 with hv | ⟨g, cap, cur, hv, hg, hh, hr⟩
    · exact .inl hv
    · exact .inr ⟨g, cap, cur, hv, hg, by rw [hb g (by simp [Loc.has, Loc.blk, hv])]; exact hh, hr⟩
  | fam e sz ver m ms rs =>
    obtain ⟨h0, vals, h1, h2, h3, h4⟩ := h
    refine ⟨h0, vals, h1, h2, fun k v hk => ?_, h4⟩
    obtain ⟨xs, a1, a2⟩ := h3 k v hk
    refine ⟨xs, ⟨a1.1, ?_⟩, a2.mono hp hc⟩
    rcases a1.2 with hv | ⟨g, cap, cur, hv, hg, hh, hr⟩
    · exact .inl hv
    · refine .inr ⟨g, cap, cur, hv, hg, ?_, hr⟩
      rw [hb g ?_]
      · exact hh
      · refine .inr ?_
        simp only [Loc.more, h1, List.mem_filterMap]
        exact ⟨v, List.mem_of_getElem? (by rw [Array.getElem?_toList]; exact hk), by rw [hv]⟩
  | loop st pd f n τ ps asg body =>
    obtain ⟨h0, b, tmps, dd, h1, h2, h3, h4⟩ := h
    exact ⟨h0, b, tmps, dd, h1, by rw [hb b (by simp [Loc.has, Loc.blk, h1])]; exact h2, h3, h4.mono hp hc⟩
  | dfr op =>
    obtain ⟨h0, b, h1, h2⟩ := h
    exact ⟨h0, b, h1, by rw [hb b (by simp [Loc.has, Loc.blk, h1])]; exact h2⟩
  | iter s pos =>
    obtain ⟨h0, b, h1, h2⟩ := h
    exact ⟨h0, b, h1, by rw [hb b (by simp [Loc.has, Loc.blk, h1])]; exact h2⟩
  | map ver kk l =>
    obtain ⟨h0, b, es, ck, h1, h2, h4, h3⟩ := h
    exact ⟨h0, b, es, ck, h1, by rw [hb b (by simp [Loc.has, Loc.blk, h1])]; exact h2, h4, h3.mono hp hc⟩
  | byt m r =>
    obtain ⟨h0, g, cap, cur, e, fz, h1, h2, h3⟩ := h
    exact ⟨h0, g, cap, cur, e, fz, h1, by rw [hb g (by simp [Loc.has, Loc.blk, h1])]; exact h2, h3⟩

theorem RelA.add {C : Cx} {ρ : List Loc} {ar : List AO} {w w' : World} (h : RelA C ρ ar w) {o : AO} {L : Loc} (hs : w.heap.size ≤ w'.heap.size) (hk : ∀ k, k < w.heap.size → w'.heap[k]? = w.heap[k]?)
    (h1 : w'.os = w.os) (h2 : w'.tape = w.tape) (h3 : w'.output = w.output) (hL : ∀ b, L.has b → w.heap.size ≤ b)
    (hO : Pres w (Ow C ρ ar) w' (Ow C (ρ ++ [L]) (ar ++ [o])) → ObjOK w' (Ow C (ρ ++ [L]) (ar ++ [o])) (ρ ++ [L]) o L) :
    RelA C (ρ ++ [L]) (ar ++ [o]) w' ∧ Pres w (Ow C ρ ar) w' (Ow C (ρ ++ [L]) (ar ++ [o])) ∧ Compat ρ (ρ ++ [L]) := by
  have hp : Pres w (Ow C ρ ar) w' (Ow C (ρ ++ [L]) (ar ++ [o])) := ⟨hs, fun b hb hn => ⟨hk b hb, fun hn' => by
    rcases hn' with hn' | hn'
    · exact hn (.inl hn')
    · rcases owned_snoc h.len hn' with h' | ⟨_, h'⟩
      · exact hn (.inr h')
      · have := hL b h'; omega⟩⟩
  refine ⟨?_, hp, Compat.append _ _⟩
  refine ⟨by simp [h.len], h.len0, ?_, ?_, fun b hb => Nat.lt_of_lt_of_le (h.far b hb) hs, fun b hb hn => (owned_snoc h.len hn).elim (h.apart b hb) (fun z => by have := hL b z.2; have := h.far b hb; omega), Nat.le_trans h.size hs, h1.trans h.os, h2.trans h.tape, h3.trans h.output, fun k hk' hn => (hk k (Nat.lt_of_lt_of_le hk' h.size)).trans (h.heap k hk' hn), ?_, h.comp.trans (Compat.append _ _), fun p hp' => (h.defs p hp').mono hp (Compat.append _ _)⟩
  · intro i o' L' e1 e2
    by_cases hi : i < ar.length
    · rw [List.getElem?_append_left hi] at e1
      rw [List.getElem?_append_left (by rw [h.len]; exact hi)] at e2
      have ho := h.obj i o' L' e1 e2
      cases hl : o'.live with
      | false => cases o' <;> simp [AO.live] at hl <;> first | trivial | exact ho
      | true => exact ho.mono hp (Compat.append _ _) fun b hb => hk b (ho.lt hl hb)
    · have hi' : i < (ar ++ [o]).length := (List.getElem?_eq_some_iff.1 e1).1
      simp at hi'
      have : i = ar.length := by omega
      subst this
      rw [List.getElem?_append_right (Nat.le_refl _)] at e1
      rw [List.getElem?_append_right (by rw [h.len]; exact Nat.le_refl _)] at e2
      simp at e1
      simp [h.len] at e2
      subst e1
      subst e2
      exact hO hp
  · intro i j o1 o2 L1 L2 b hij e1 e2 l1 l2 e3 e4 b1 b2
    have key : ∀ (i : Nat) o1 L1, (ar ++ [o])[i]? = some o1 → (ρ ++ [L])[i]? = some L1 → (i < ar.length ∧ ar[i]? = some o1 ∧ ρ[i]? = some L1) ∨ (i = ar.length ∧ L1 = L) := by
      intro i o1 L1 e1 e3
      by_cases hi : i < ar.length
      · rw [List.getElem?_append_left hi] at e1
        rw [List.getElem?_append_left (by rw [h.len]; exact hi)] at e3
        exact .inl ⟨hi, e1, e3⟩
      · have hi' : i < (ar ++ [o]).length := (List.getElem?_eq_some_iff.1 e1).1
        simp at hi'
        have : i = ar.length := by omega
        subst this
        rw [List.getElem?_append_right (by rw [h.len]; exact Nat.le_refl _)] at e3
        simp [h.len] at e3
        exact .inr ⟨rfl, e3.symm⟩
    rcases key i o1 L1 e1 e3 with ⟨hi, e1', e3'⟩ | ⟨hi, rfl⟩ <;> rcases key j o2 L2 e2 e4 with ⟨hj, e2', e4'⟩ | ⟨hj, rfl⟩
    · exact h.disj i j o1 o2 L1 L2 b hij e1' e2' l1 l2 e3' e4' b1 b2
    · have := (h.obj i o1 L1 e1' e3').lt l1 b1; have := hL b b2; omega
    · have := (h.obj j o2 L2 e2' e4').lt l2 b2; have := hL b b1; omega
    · omega
  · intro b hb
    rcases owned_snoc h.len hb with h' | ⟨_, h'⟩
    · exact h.new b h'
    · exact .inl (Nat.le_trans h.size (hL b h'))

omit [Globs] in
theorem owned_set {ρ : List Loc} {ar : List AO} {i : Nat} {L' : Loc} {o' : AO} {b : Nat} (h : Owned (ρ.set i L') (ar.set i o') b) : Owned ρ ar b ∨ L'.has b := by
  obtain ⟨j, o, L, h1, h2, h3, h4⟩ := h
  by_cases hij : i = j
  · subst hij
    rw [List.getElem?_set_self' ] at h3
    cases hρ : ρ[i]? with
    | none => simp [hρ] at h3
    | some M => simp [hρ] at h3; subst h3; exact .inr h4
  · rw [List.getElem?_set_ne hij] at h1 h3
    exact .inl ⟨j, o, L, h1, h2, h3, h4⟩

theorem RelA.putF {C : Cx} {ρ : List Loc} {ar : List AO} {w w' : World} (h : RelA C ρ ar w) {i : Nat} {o o' : AO} {L L' : Loc} (ho : ar[i]? = some o) (hL : ρ[i]? = some L) (hlive : ∀ b, L.has b → o.live = true)
    (hs : w.heap.size ≤ w'.heap.size) (hk : ∀ k, k < w.heap.size → ¬ L.has k → w'.heap[k]? = w.heap[k]?) (h1 : w'.os = w.os) (h2 : w'.tape = w.tape) (h3 : w'.output = w.output)
    (hb : ∀ b, L'.has b → L.has b ∨ w.heap.size ≤ b) (hv : L.ver ≤ L'.ver) (he : L.ver = L'.ver → L'.v = L.v)
    (hO : Pres w (Ow C ρ ar) w' (Ow C (ρ.set i L') (ar.set i o')) → Compat ρ (ρ.set i L') → ObjOK w' (Ow C (ρ.set i L') (ar.set i o')) (ρ.set i L') o' L') :
    RelA C (ρ.set i L') (ar.set i o') w' ∧ Pres w (Ow C ρ ar) w' (Ow C (ρ.set i L') (ar.set i o')) ∧ Compat ρ (ρ.set i L') := by
  have hown : ∀ b, L.has b → Owned ρ ar b := fun b e => ⟨i, o, L, ho, hlive b e, hL, e⟩
  have hp : Pres w (Ow C ρ ar) w' (Ow C (ρ.set i L') (ar.set i o')) := ⟨hs, fun b hb' hn => ⟨hk b hb' (fun e => hn (.inr (hown b e))), fun hn' => by
    rcases hn' with hn' | hn'
    · exact hn (.inl hn')
    · rcases owned_set hn' with h' | h'
      · exact hn (.inr h')
      · rcases hb b h' with h'' | h''
        · exact hn (.inr (hown b h''))
        · omega⟩⟩
  have hc : Compat ρ (ρ.set i L') := Compat.set hL hv he
  refine ⟨?_, hp, hc⟩
  refine ⟨by simp [h.len], h.len0, ?_, ?_, fun b hb' => Nat.lt_of_lt_of_le (h.far b hb') hs, fun b hb' hn => (owned_set hn).elim (h.apart b hb') (fun z => (hb b z).elim (fun y => h.apart b hb' (hown b y)) (fun y => by have := h.far b hb'; omega)), Nat.le_trans h.size hs, h1.trans h.os, h2.trans h.tape, h3.trans h.output, fun k hk' hn => ?_, ?_, h.comp.trans hc, fun p hp' => (h.defs p hp').mono hp hc⟩
  · intro j oj Lj e1 e2
    by_cases hij : i = j
    · subst hij
      rw [List.getElem?_set_self (List.getElem?_eq_some_iff.1 ho).1] at e1
      rw [List.getElem?_set_self (List.getElem?_eq_some_iff.1 hL).1] at e2
      cases e1
      cases e2
      exact hO hp hc
    · rw [List.getElem?_set_ne hij] at e1 e2
      have hoj := h.obj j oj Lj e1 e2
      cases hl : oj.live with
      | false => cases oj <;> simp [AO.live] at hl <;> first | trivial | exact hoj
      | true => exact hoj.mono hp hc fun b hb' => hk b (hoj.lt hl hb') fun e => h.disj i j o oj L Lj b hij ho e1 (hlive b e) hl hL e2 e hb'
  · intro j k o1 o2 L1 L2 b hjk e1 e2 l1 l2 e3 e4 b1 b2
    have other : ∀ (m : Nat) om Lm, i ≠ m → (ar.set i o')[m]? = some om → (ρ.set i L')[m]? = some Lm → om.live = true → Lm.has b → L'.has b → False := by
      intro m om Lm him e1 e2 hl hbm hb'
      rw [List.getElem?_set_ne him] at e1 e2
      rcases hb b hb' with h' | h'
      · exact h.disj i m o om L Lm b him ho e1 (hlive b h') hl hL e2 h' hbm
      · have := (h.obj m om Lm e1 e2).lt hl hbm; omega
    have self : ∀ (m : Nat) Lm, i = m → (ρ.set i L')[m]? = some Lm → Lm = L' := by
      intro m Lm e e2
      subst e
      rw [List.getElem?_set_self (List.getElem?_eq_some_iff.1 hL).1] at e2
      exact (Option.some.inj e2).symm
    by_cases hij : i = j
    · have := self j L1 hij e3
      subst this
      exact other k o2 L2 (fun e => hjk (hij.symm.trans e)) e2 e4 l2 b2 b1
    · by_cases hik : i = k
      · have := self k L2 hik e4
        subst this
        exact other j o1 L1 hij e1 e3 l1 b1 b2
      · rw [List.getElem?_set_ne hij] at e1 e3
        rw [List.getElem?_set_ne hik] at e2 e4
        exact h.disj j k o1 o2 L1 L2 b hjk e1 e2 l1 l2 e3 e4 b1 b2
  · by_cases hb' : L.has k
    · rcases h.new k (hown k hb') with h' | h'
      · omega
      · exact absurd h' hn
    · exact (hk k (Nat.lt_of_lt_of_le hk' h.size) hb').trans (h.heap k hk' hn)
  · intro b hb'
    rcases owned_set hb' with h' | h'
    · exact h.new b h'
    · rcases hb b h' with h'' | h''
      · exact h.new b (hown b h'')
      · exact .inl (Nat.le_trans h.size h'')

theorem RelA.put {C : Cx} {ρ : List Loc} {ar : List AO} {w w' : World} (h : RelA C ρ ar w) {i : Nat} {o o' : AO} {L L' : Loc} (ho : ar[i]? = some o) (hL : ρ[i]? = some L) (hlive : o.live = true)
    (hs : w.heap.size ≤ w'.heap.size) (hk : ∀ k, k < w.heap.size → ¬ L.has k → w'.heap[k]? = w.heap[k]?) (h1 : w'.os = w.os) (h2 : w'.tape = w.tape) (h3 : w'.output = w.output)
    (hb : ∀ b, L'.has b → L.has b ∨ w.heap.size ≤ b) (hv : L.ver ≤ L'.ver) (he : L.ver = L'.ver → L'.v = L.v)
    (hO : Pres w (Ow C ρ ar) w' (Ow C (ρ.set i L') (ar.set i o')) → Compat ρ (ρ.set i L') → ObjOK w' (Ow C (ρ.set i L') (ar.set i o')) (ρ.set i L') o' L') :
    RelA C (ρ.set i L') (ar.set i o') w' ∧ Pres w (Ow C ρ ar) w' (Ow C (ρ.set i L') (ar.set i o')) ∧ Compat ρ (ρ.set i L') :=
  h.putF ho hL (fun _ _ => hlive) hs hk h1 h2 h3 hb hv he hO

def cellsA : AV → Option (List AV)
  | .agg cs => some cs
  | .tup _ | .bad | .opt _ _ => none
  | .val v => match v.oneCell' with
    | true => some [.val v]
    | false => none
  | x => some [x]

omit [Globs] in
theorem cells_one {v : Value} (h : v.oneCell' = true) : v.cells = #[v] := by cases v <;> first | rfl | simp [Value.oneCell'] at h

omit [Globs] in
theorem cellsA_ok {w : World} {O : Nat → Prop} {ρ : List Loc} {x : AV} {v : Value} {cs : List AV} (h : RV w O ρ x v) (hc : cellsA x = some cs) : Cells w O ρ cs v.cells.toList := by
  have one : x.cellB = true → cs = [x] → Cells w O ρ cs v.cells.toList := by
    intro hx e
    subst e
    have h1 := h.one hx
    rw [cells_one h1]
    refine ⟨rfl, fun i y u hy hu => ?_⟩
    cases i with
    | zero => simp at hy hu; subst hy; subst hu; exact ⟨h, h1⟩
    | succ i => simp at hy
  cases x with
  | agg l =>
    simp [cellsA] at hc
    subst hc
    obtain ⟨vs, rfl, h1, h2, h3⟩ := rv_agg h
    refine ⟨by simp [Value.cells, h1], fun i y u hy hu => ?_⟩
    simp only [Value.cells, Array.getElem?_toList] at hu
    exact ⟨h2 i y u hy hu, h3 i u hu⟩
  | val v' =>
    simp only [cellsA] at hc
    cases hv : v'.oneCell' with
    | false => simp [hv] at hc
    | true => simp [hv] at hc; exact one (by simpa [AV.cellB] using hv) hc.symm
  | bad => simp [cellsA] at hc
  | tup l => simp [cellsA] at hc
  | slc a b c d => simp [cellsA] at hc; exact one rfl hc.symm
  | loc a b => simp [cellsA] at hc; exact one rfl hc.symm
  | ptr a b c => simp [cellsA] at hc; exact one rfl hc.symm
  | row a b => simp [cellsA] at hc; exact one rfl hc.symm
  | elt a b c d e => simp [cellsA] at hc; exact one rfl hc.symm
  | fn a b => simp [cellsA] at hc; exact one rfl hc.symm
  | bnd a b => simp [cellsA] at hc; exact one rfl hc.symm
  | ifc a b => simp [cellsA] at hc; exact one rfl hc.symm
  | opt a b => simp [cellsA] at hc
  | yld a => simp [cellsA] at hc; exact one rfl hc.symm
  | mem a b c => simp [cellsA] at hc; exact one rfl hc.symm

section
variable {P : Program} {f n : Nat} {C : Cx} {τ : Nat → AV} {ar ar' : List AO} {k : List Item} {Q : Out → List AO → Prop} {ops : Array Oper}

theorem rel_box {ρ : List Loc} {w : World} (h : RelA C ρ ar w) (e : TypeId) {cs : List AV} {vs : Array Value} (hc : Cells w (Ow C ρ ar) ρ cs vs.toList) :
    RelA C (ρ ++ [⟨0, .pointer (some ⟨w.heap.size, 0, none⟩)⟩]) (ar ++ [.box e cs]) (w.alloc (.cells vs e)) ∧
      Pres w (Ow C ρ ar) (w.alloc (.cells vs e)) (Ow C (ρ ++ [⟨0, .pointer (some ⟨w.heap.size, 0, none⟩)⟩]) (ar ++ [.box e cs])) ∧ Compat ρ (ρ ++ [⟨0, .pointer (some ⟨w.heap.size, 0, none⟩)⟩]) :=
  h.add (w' := w.alloc (.cells vs e)) (by simp) (fun k hk => heap_alloc_old w _ hk) rfl rfl rfl (fun b hb => by simp [Loc.has, Loc.more, Loc.blk] at hb; omega)
    (fun hp => ⟨rfl, w.heap.size, vs, rfl, heap_alloc_new w _, hc.mono hp (Compat.append _ _)⟩)

theorem op_box {o : Oper} {e : TypeId} {y : Operand} {cs : List AV} {id : Nat} (ho : o.op = .box e y) (hy : cellsA (evA τ y) = some cs) (har : snocN ar (.box e cs) = some (ar', id)) : OpStep P τ ar o (.ptr id 0 0) ar' := by
  intro C a w ρ hR hS
  obtain ⟨rfl, rfl⟩ := snocN_spec _ _ _ _ har
  have hc := cellsA_ok (evA_ok hS y) hy
  obtain ⟨h1, h2, h3⟩ := rel_box hR e hc
  refine ⟨.value (.pointer (some ⟨w.heap.size, 0, none⟩)), _, _, _, ?_, .inl rfl, h1, h3, h2, ?_⟩
  · simp [execOp, ho, Instr.box, newVar, newRow]
  · refine .ptr (L := ⟨0, .pointer (some ⟨w.heap.size, 0, none⟩)⟩) (by rw [List.getElem?_append_right (by rw [hR.len]; exact Nat.le_refl _)]; simp [hR.len]) (Nat.le_refl _) rfl fun _ => ⟨_, rfl, rfl⟩

theorem op_alloc {o : Oper} {e : TypeId} {cs : List AV} {bytes id : Nat} [hz : ZeroT P e cs bytes] (ho : o.op = .alloc e) (har : snocN ar (.box e cs) = some (ar', id)) : OpStep P τ ar o (.ptr id 0 0) ar' := by
  intro C a w ρ hR hS
  obtain ⟨rfl, rfl⟩ := snocN_spec _ _ _ _ har
  obtain ⟨i, z, z1, z2, z3, z4, z4', z5, z6, z7, z8⟩ := hz.all
  have hc : Cells w (Ow C ρ ar) ρ cs z.cells.toList := by
    subst z5
    refine ⟨by simp, fun j x v hx hv => ?_⟩
    simp only [List.getElem?_map, hv, Option.map_some, Option.some.injEq] at hx
    subst hx
    exact ⟨.val, List.all_eq_true.1 z6 v (List.mem_of_getElem? hv)⟩
  obtain ⟨h1, h2, h3⟩ := rel_box hR e hc
  refine ⟨.value (.pointer (some ⟨w.heap.size, 0, none⟩)), _, _, _, ?_, .inl rfl, h1, h3, h2, ?_⟩
  · simp [execOp, ho, Instr.alloc, newVar, newRow, zeroValue, typeInfo, z1, z2]
  · refine .ptr (L := ⟨0, .pointer (some ⟨w.heap.size, 0, none⟩)⟩) (by rw [List.getElem?_append_right (by rw [hR.len]; exact Nat.le_refl _)]; simp [hR.len]) (Nat.le_refl _) rfl fun _ => ⟨_, rfl, rfl⟩

omit [Globs] in
theorem cells_splice {w : World} {O : Nat → Prop} {ρ : List Loc} {cs ys cs' : List AV} {vs us : List Value} {off : Nat} (h : Cells w O ρ cs vs) (k : Cells w O ρ ys us) (hs : splice cs off ys = some cs') :
    Cells w O ρ cs' (vs.take off ++ us ++ vs.drop (off + us.length)) := by
  obtain ⟨h1, rfl⟩ := splice_spec _ _ _ _ hs
  have hl : vs.length = cs.length := h.1
  have hk : us.length = ys.length := k.1
  refine ⟨by simp [hl, hk], fun i x v hx hv => ?_⟩
  have hlt : (vs.take off).length = off := by rw [List.length_take]; omega
  have hct : (cs.take off).length = off := by rw [List.length_take]; omega
  by_cases h1' : i < off
  · rw [List.append_assoc, List.getElem?_append_left (by omega), List.getElem?_take, if_pos h1'] at hx hv
    exact h.2 i x v hx hv
  · by_cases h2' : i < off + us.length
    · rw [List.append_assoc, List.getElem?_append_right (by omega), List.getElem?_append_left (by omega)] at hx hv
      rw [hct] at hx
      rw [hlt] at hv
      exact k.2 _ x v hx hv
    · rw [List.getElem?_append_right (by simp; omega)] at hx hv
      simp only [List.length_append, hct, hlt, List.getElem?_drop] at hx hv
      rw [hk] at hv
      exact h.2 _ x v (by rw [← hx]) (by rw [← hv])

omit [Globs] in
theorem take_splice {α : Type} {cur xs us : List α} {m off : Nat} (h : cur.take m = xs) (hm : m ≤ cur.length) (hl : off + us.length ≤ m) :
    (cur.take off ++ us ++ cur.drop (off + us.length)).take m = xs.take off ++ us ++ xs.drop (off + us.length) := by
  subst h
  have h1 : (cur.take off).length = off := by rw [List.length_take]; omega
  have h2 : ((cur.take m).take off).length = off := by rw [List.length_take, List.length_take]; omega
  apply List.ext_getElem?
  intro i
  rw [List.getElem?_take]
  simp only [List.getElem?_append, List.length_append, h1, h2, List.getElem?_take, List.getElem?_drop]
  by_cases hi : i < m
  · by_cases h3 : i < off
    · simp [hi, h3, show i < off + us.length by omega]
    · by_cases h4 : i < off + us.length
      · simp [hi, h3, h4]
      · simp [hi, h3, h4, show off + us.length + (i - (off + us.length)) < m by omega]
  · have h4 : ¬ i < off + us.length := by omega
    simp [hi, h4, show ¬ off + us.length + (i - (off + us.length)) < m by omega]

def AO.with : AO → List AV → AO
  | .box e _, cs => .box e cs
  | .row e sz v m r, _ => .row e sz v m r
  | .gone, _ => .gone
  | .hole, _ => .hole
  | .loop a b c d e f g h, _ => .loop a b c d e f g h
  | .fam a b c d e f, _ => .fam a b c d e f
  | .dfr a, _ => .dfr a
  | .iter a b, _ => .iter a b
  | .map a b c, _ => .map a b c
  | .byt a b, _ => .byt a b

theorem rel_store {ρ : List Loc} {w : World} (hR : RelA C ρ ar w) {id ver off : Nat} {ob ob' : AO} {cs ys cs' : List AV} {v u : Value} (hv : RV w (Ow C ρ ar) ρ (.ptr id ver off) v) (hob : ar[id]? = some ob) (hcs : ob.cells = some (ver, cs))
    (hys : Cells w (Ow C ρ ar) ρ ys u.cells.toList) (hsp : splice cs off ys = some cs') (hob' : ob.with cs' = ob') (t : TypeId)
    (hsz : (P.info? t).map (·.size) = some ys.length) :
    ∃ w' ρ', (Instr.storeAt t v u).run P w = .ok () w' ∧ RelA C ρ' (ar.set id ob') w' ∧ Compat ρ ρ' ∧ Pres w (Ow C ρ ar) w' (Ow C ρ' (ar.set id ob')) := by
  obtain ⟨L, e1, e2, e3, e4⟩ := rv_ptr hv
  have hobj := hR.obj id ob L hob e1
  have hlen : u.cells.toList.length = ys.length := hys.1
  have store : ∀ (b : Nat) (cur : Array Value) (e : TypeId), w.heap[b]? = some (.cells cur e (0, 0)) → off + ys.length ≤ cur.size →
      (Instr.storeAt t (.pointer (some ⟨b, off, none⟩)) u).run P w = .ok () (w.setRow b (cur.toList.take off ++ u.cells.toList ++ cur.toList.drop (off + u.cells.toList.length)).toArray) := by
    intro b cur e hh hfit
    have := run_storeCells_at P b off e u.cells.toList 0 cur w hh (by omega) (fun x hx => by
      obtain ⟨i, hi⟩ := List.mem_iff_getElem?.1 hx
      have hi' : i < ys.length := by rw [← hlen]; exact (List.getElem?_eq_some_iff.1 hi).1
      exact (hys.2 i ys[i] x (by simp [hi']) hi).2)
    cases hinf : P.info? t with
    | none => simp [hinf] at hsz
    | some info =>
      simp [hinf] at hsz
      simp only [Nat.add_zero] at this
      have hsz2 : u.cells.size = info.size := by rw [hsz, ← hlen]; simp
      simp [Instr.storeAt, Instr.sureAddr, storeVar, sizeOf, typeInfo, hinf, hsz2, this]
  have heap' : ∀ (b : Nat) (cs2 : Array Value) k, k ≠ b → (w.setRow b cs2).heap[k]? = w.heap[k]? := fun b cs2 k hk => setRow_other w b k cs2 hk
  cases ob with
  | gone => simp [AO.cells] at hcs
  | hole => simp [AO.cells] at hcs
  | box e c =>
    simp [AO.cells] at hcs
    obtain ⟨rfl, rfl⟩ := hcs
    obtain ⟨hL, b, vs, hLv, hh, hc⟩ := hobj
    obtain ⟨b', hb', e5⟩ := e4 hL.symm
    have hbb : b' = b := by simp [Loc.blk, hLv] at hb'; exact hb'.symm
    subst hbb
    obtain ⟨hs1, hs2⟩ := splice_spec _ _ _ _ hsp
    have hfit : off + ys.length ≤ vs.size := by have := hc.1; simp at this; omega
    have hrun := store b' vs e hh hfit
    subst e5
    simp only [AO.with] at hob'
    subst hob'
    obtain ⟨r1, r2, r3⟩ := hR.put (L' := L) (o' := .box e cs') (w' := w.setRow b' (vs.toList.take off ++ u.cells.toList ++ vs.toList.drop (off + u.cells.toList.length)).toArray) hob e1 rfl (by simp)
      (fun k _ hk => heap' b' _ k (fun e => hk (by rw [e]; exact .inl hb'))) rfl rfl rfl (fun b hb => .inl hb) (Nat.le_refl _) (fun _ => rfl)
      (fun hp hc' => ⟨hL, b', _, hLv, setRow_heap w b' vs _ e _ hh, by
        have := cells_splice (hc.mono hp hc') (hys.mono hp hc') hsp
        simpa using this⟩)
    exact ⟨_, _, hrun, r1, r3, r2⟩
  | row e sz vr m r => simp [AO.cells] at hcs
  | loop _ _ _ _ _ _ _ _ => simp [AO.cells] at hcs
  | fam _ _ _ _ _ _ => simp [AO.cells] at hcs
  | dfr _ => simp [AO.cells] at hcs
  | iter _ _ => simp [AO.cells] at hcs
  | map _ _ _ => simp [AO.cells] at hcs
  | byt _ _ => simp [AO.cells] at hcs

theorem op_store {o : Oper} {t : TypeId} {sz : Nat} {ag : Bool} [ht : Ty P t sz ag] {p y : Operand} {id ver off : Nat} {ob : AO} {cs ys cs' : List AV} (ho : o.op = .store t p y) (hp : evA τ p = .ptr id ver off)
    (hob : nth ar id = some ob) (hcs : ob.cells = some (ver, cs)) (hy : cellsA (evA τ y) = some ys) (hl : Nat.beq ys.length sz = true) (hsp : splice cs off ys = some cs') (har : setN ar id (ob.with cs') = some ar') :
    OpStep P τ ar o (.val undef) ar' := by
  intro C a w ρ hR hS
  rw [nth_eq] at hob
  obtain ⟨_, rfl⟩ := setN_spec _ _ _ _ har
  have hv := evA_ok hS p
  rw [hp] at hv
  obtain ⟨w', ρ', r1, r2, r3, r4⟩ := rel_store (P := P) hR hv hob hcs (cellsA_ok (evA_ok hS y) hy) hsp rfl t (by rw [ht.size, Nat.eq_of_beq_eq_true hl])
  exact ⟨.skip, undef, w', ρ', by simp [execOp, ho, r1], .inr ⟨rfl, rfl⟩, r2, r3, r4, .val⟩

theorem rel_storeElt {ρ : List Loc} {w : World} (hR : RelA C ρ ar w) {id ver sz i o m : Nat} {e : TypeId} {r r' : Nat → List AV} {ys : List AV} {v u : Value} (hv : RV w (Ow C ρ ar) ρ (.elt id ver sz i o) v) (hob : ar[id]? = some (.row e sz ver m r)) (hi : i < m)
    (hys : Cells w (Ow C ρ ar) ρ ys u.cells.toList) (hsp : splice (r i) o ys = some (r' i)) (hoth : ∀ k, k < m → k ≠ i → r' k = r k) (t : TypeId)
    (hsz : (P.info? t).map (·.size) = some ys.length) :
    ∃ w' ρ', (Instr.storeAt t v u).run P w = .ok () w' ∧ RelA C ρ' (ar.set id (.row e sz ver m r')) w' ∧ Compat ρ ρ' ∧ Pres w (Ow C ρ ar) w' (Ow C ρ' (ar.set id (.row e sz ver m r'))) := by
  obtain ⟨L, e1, e2, e3, e4⟩ := rv_elt hv
  have hobj := hR.obj id _ L hob e1
  have hlen : u.cells.toList.length = ys.length := hys.1
  have heap' : ∀ (b : Nat) (cs2 : Array Value) k, k ≠ b → (w.setRow b cs2).heap[k]? = w.heap[k]? := fun b cs2 k hk => setRow_other w b k cs2 hk
  obtain ⟨hL, xs, hown, hc⟩ := hobj
  obtain ⟨b', hb', e5⟩ := e4 hL.symm
  obtain ⟨hs1, hs2⟩ := splice_spec _ _ _ _ hsp
  subst e5
  have hri := hc.rows i hi
  have hin : i * sz + sz ≤ m * sz := by rw [← Nat.succ_mul]; exact Nat.mul_le_mul_right _ hi
  rcases hown.2 with ⟨hv', _⟩ | ⟨g, cap, cur, hv', hg0, hh, h5, h6, h7, h8⟩
  · simp [Loc.blk, hv'] at hb'
  · have hbb : g = b' := by simp [Loc.blk, hv'] at hb'; exact hb'
    subst hbb
    have hxl : xs.length = m * sz := hown.1
    have hms : m * sz ≤ cur.size := by rw [h7]; exact Nat.mul_le_mul_right _ h5
    have hfit : i * sz + o + ys.length ≤ cur.size := by omega
    have hrun : (Instr.storeAt t (.pointer (some ⟨g, i * sz + o, none⟩)) u).run P w = .ok () (w.setRow g (cur.toList.take (i * sz + o) ++ u.cells.toList ++ cur.toList.drop (i * sz + o + u.cells.toList.length)).toArray) := by
      have := run_storeCells_at P g (i * sz + o) e u.cells.toList 0 cur w hh (by omega) (fun x hx => by
        obtain ⟨j, hj⟩ := List.mem_iff_getElem?.1 hx
        have hj' : j < ys.length := by rw [← hlen]; exact (List.getElem?_eq_some_iff.1 hj).1
        exact (hys.2 j ys[j] x (by simp [hj']) hj).2)
      cases hinf : P.info? t with
      | none => simp [hinf] at hsz
      | some info =>
        simp [hinf] at hsz
        simp only [Nat.add_zero] at this
        have hsz2 : u.cells.size = info.size := by rw [hsz, ← hlen]; simp
        simp [Instr.storeAt, Instr.sureAddr, storeVar, sizeOf, typeInfo, hinf, hsz2, this]
    have htake : (cur.toList.take (i * sz + o) ++ u.cells.toList ++ cur.toList.drop (i * sz + o + u.cells.toList.length)).take (m * sz) = xs.take (i * sz + o) ++ u.cells.toList ++ xs.drop (i * sz + o + u.cells.toList.length) :=
      take_splice h8 (by simpa using hms) (by omega)
    have hsz1 : (xs.take (i * sz + o) ++ u.cells.toList ++ xs.drop (i * sz + o + u.cells.toList.length)).length = m * sz := by
      rw [← htake, List.length_take, List.length_append, List.length_append, List.length_take, List.length_drop, Array.length_toList]
      omega
    have hsz2 : (cur.toList.take (i * sz + o) ++ u.cells.toList ++ cur.toList.drop (i * sz + o + u.cells.toList.length)).length = cap * sz := by
      rw [List.length_append, List.length_append, List.length_take, List.length_drop, Array.length_toList]
      omega
    have hr' : (r' i).length = sz := by rw [hs2]; simp; omega
    obtain ⟨r1, r2, r3⟩ := hR.put (L' := L) (o' := .row e sz ver m r') (w' := w.setRow g (cur.toList.take (i * sz + o) ++ u.cells.toList ++ cur.toList.drop (i * sz + o + u.cells.toList.length)).toArray) hob e1 rfl (by simp)
      (fun k _ hk => heap' g _ k (fun e => hk (by rw [e]; exact .inl hb'))) rfl rfl rfl (fun b hb => .inl hb) (Nat.le_refl _) (fun _ => rfl)
      (fun hp hc' => ⟨hL, xs.take (i * sz + o) ++ u.cells.toList ++ xs.drop (i * sz + o + u.cells.toList.length), ⟨hsz1, .inr ⟨g, cap, _, hv', hg0, setRow_heap w g cur _ e _ hh, h5, h6, by rw [List.size_toArray]; exact hsz2, by rw [List.toList_toArray]; exact htake⟩⟩, hsz1,
        fun k hk => (by
          by_cases hki : k = i
          · subst hki; exact hr'
          · rw [hoth k hk hki]; exact hc.rows k hk), fun k j x y hk hx hy => (by
          have hkin : k * sz + sz ≤ m * sz := by rw [← Nat.succ_mul]; exact Nat.mul_le_mul_right _ hk
          have hl1 : (xs.take (i * sz + o)).length = i * sz + o := by rw [List.length_take]; omega
          by_cases hki : k = i
          · subst hki
            have hj : j < sz := by rw [← hr']; exact (List.getElem?_eq_some_iff.1 hx).1
            rw [hs2] at hx
            have hl2 : ((r k).take o).length = o := by rw [List.length_take]; omega
            by_cases hjo : j < o
            · rw [List.append_assoc, List.getElem?_append_left (by omega), List.getElem?_take, if_pos (by omega)] at hx hy
              exact (fun z => ⟨z.1.mono hp hc', z.2⟩) (hc.get k j x y hk hx hy)
            · by_cases hjo2 : j < o + ys.length
              · rw [List.append_assoc, List.getElem?_append_right (by omega), List.getElem?_append_left (by omega)] at hx hy
                rw [hl1] at hy
                rw [hl2] at hx
                rw [show k * sz + j - (k * sz + o) = j - o by omega] at hy
                exact (fun z => ⟨z.1.mono hp hc', z.2⟩) (hys.2 _ x y hx hy)
              · rw [List.getElem?_append_right (by rw [List.length_append, hl2]; omega)] at hx
                rw [List.getElem?_append_right (by rw [List.length_append, hl1]; omega)] at hy
                simp only [List.length_append, hl1, hl2, List.getElem?_drop] at hx hy
                rw [show o + ys.length + (j - (o + ys.length)) = j by omega] at hx
                rw [show k * sz + o + u.cells.toList.length + (k * sz + j - (k * sz + o + u.cells.toList.length)) = k * sz + j by omega] at hy
                exact (fun z => ⟨z.1.mono hp hc', z.2⟩) (hc.get k j x y hk hx hy)
          · rw [hoth k hk hki] at hx
            have hj : j < sz := by rw [← hc.rows k hk]; exact (List.getElem?_eq_some_iff.1 hx).1
            have hy' : xs[k * sz + j]? = some y := by
              rcases Nat.lt_or_gt_of_ne hki with h' | h'
              · have : k * sz + sz ≤ i * sz := by rw [← Nat.succ_mul]; exact Nat.mul_le_mul_right _ h'
                rw [List.append_assoc, List.getElem?_append_left (by omega), List.getElem?_take, if_pos (by omega)] at hy
                exact hy
              · have : i * sz + sz ≤ k * sz := by rw [← Nat.succ_mul]; exact Nat.mul_le_mul_right _ h'
                rw [List.getElem?_append_right (by rw [List.length_append, hl1]; omega)] at hy
                simp only [List.length_append, hl1, List.getElem?_drop] at hy
                rw [show i * sz + o + u.cells.toList.length + (k * sz + j - (i * sz + o + u.cells.toList.length)) = k * sz + j by omega] at hy
                exact hy
            exact (fun z => ⟨z.1.mono hp hc', z.2⟩) (hc.get k j x y hk hx hy'))⟩)
    exact ⟨_, _, hrun, r1, r3, r2⟩

theorem op_storeElt {o : Oper} {t : TypeId} {szt : Nat} {ag : Bool} [ht : Ty P t szt ag] {p y : Operand} {id ver sz i oo m : Nat} {e : TypeId} {r : Nat → List AV} (r' : Nat → List AV) {ys : List AV} (ho : o.op = .store t p y) (hp : evA τ p = .elt id ver sz i oo)
    (hob : nth ar id = some (.row e sz ver m r)) (hi : i < m) (hy : cellsA (evA τ y) = some ys) (hl : Nat.beq ys.length szt = true) (hsp : splice (r i) oo ys = some (r' i)) (hoth : ∀ k, k < m → k ≠ i → r' k = r k) (har : setN ar id (.row e sz ver m r') = some ar') :
    OpStep P τ ar o (.val undef) ar' := by
  intro C a w ρ hR hS
  rw [nth_eq] at hob
  obtain ⟨_, rfl⟩ := setN_spec _ _ _ _ har
  have hv := evA_ok hS p
  rw [hp] at hv
  obtain ⟨w', ρ', r1, r2, r3, r4⟩ := rel_storeElt (P := P) hR hv hob hi (cellsA_ok (evA_ok hS y) hy) hsp hoth t (by rw [ht.size, Nat.eq_of_beq_eq_true hl])
  exact ⟨.skip, undef, w', ρ', by simp [execOp, ho, r1], .inr ⟨rfl, rfl⟩, r2, r3, r4, .val⟩

theorem op_index_row {o : Oper} {x y : Operand} {t e e' : TypeId} {sz sz' m : Nat} {ag : Bool} [ElT P t e] [Ty P e sz ag] {id ver : Nat} {r : Nat → List AV} {kk : IntKind} {i : Int}
    (ho : o.op = .indexAddr t x y) (hx : evA τ x = .row id ver) (hob : nth ar id = some (.row e' sz' ver m r)) (hy : evA τ y = .val (.int kk i)) (hsz : sz' = sz) (hb : inB i m = true) : OpStep P τ ar o (.elt id ver sz i.toNat 0) ar :=
  opStep_same fun C a w ρ hR h => by
    subst hsz
    obtain ⟨h0, h1⟩ := inB_iff.1 hb
    have hv := evA_ok h x
    rw [hx] at hv
    obtain ⟨L, e1, e2, e3, e4⟩ := rv_row hv
    rw [nth_eq] at hob
    obtain ⟨hL, xs, hown, hc⟩ := hR.obj id _ L hob e1
    have e5 := e4 hL.symm
    have hi : i.toNat < m := by omega
    have hs := Ty.size (P := P) (t := e)
    cases hinf : P.info? e with
    | none => simp [hinf] at hs
    | some info =>
      simp [hinf] at hs
      rcases hown.2 with ⟨hv', hm0⟩ | ⟨g, cap, cur, hv', hg0, hh, h5, h6, h7, h8⟩
      · omega
      · refine ⟨.pointer (some ⟨g, i.toNat * sz', none⟩), ?_, ?_⟩
        · have hel := ElT.h (P := P) (t := t)
          have hc : 0 ≤ i ∧ i < (m : Int) := by omega
          have hadd : (⟨g, 0, none⟩ : Addr).add (i.toNat * sz') = ⟨g, i.toNat * sz', none⟩ := by unfold Addr.add; split <;> simp_all
          simp [execOp, ho, e5, hv', eval_val h hy, Instr.indexAt, run_underlying hel, asIntOf, hc, sizeOf, typeInfo, hinf, hs, hadd]
        · exact .elt e1 e2 rfl fun _ => ⟨g, by simp [Loc.blk, hv'], by simp⟩

theorem op_len_row {o : Oper} {x : Operand} {t e e' : TypeId} [ElT P t e] {id ver sz m : Nat} {r : Nat → List AV} (ho : o.op = .call { callee := .builtin .len, args := #[x], argTypes := #[t] })
    (hx : evA τ x = .row id ver) (hob : nth ar id = some (.row e' sz ver m r)) : OpStep P τ ar o (.val (.int .i64 m)) ar :=
  opStep_same fun C a w ρ hR h => by
    have hv := evA_ok h x
    rw [hx] at hv
    obtain ⟨L, e1, e2, e3, e4⟩ := rv_row hv
    rw [nth_eq] at hob
    obtain ⟨hL, xs, hown, hc⟩ := hR.obj id _ L hob e1
    have e5 := e4 hL.symm
    rcases hown.2 with ⟨hv', hm0⟩ | ⟨g, cap, cur, hv', hg0, hh, h5, h6, h7, h8⟩
    · exact ⟨.int .i64 m, by simp [execOp, ho, resolve, invoke, builtin, e5, hv', hm0, Builtin.len_, run_underlying (ElT.h (P := P) (t := t)), goInt], .val⟩
    · exact ⟨.int .i64 m, by simp [execOp, ho, resolve, invoke, builtin, e5, hv', Builtin.len_, run_underlying (ElT.h (P := P) (t := t)), goInt], .val⟩

theorem op_field_elt {o : Oper} {x : Operand} {t : TypeId} {j off : Nat} {ft : TypeId} {sz : Nat} {ag : Bool} [FldT P t j off ft] [Ty P ft sz ag] {id ver sze i o1 m : Nat} {e : TypeId} {r : Nat → List AV}
    (ho : o.op = .fieldAddr t x j) (hx : evA τ x = .elt id ver sze i o1) (hob : nth ar id = some (.row e sze ver m r)) (hsz : Nat.beq sz 0 = false) :
    OpStep P τ ar o (.elt id ver sze i (Nat.add o1 off)) ar :=
  opStep_same fun C a w ρ hR h => by
    show ∃ v, _ ∧ RV _ _ _ (.elt id ver sze i (o1 + off)) v
    have hv := evA_ok h x
    rw [hx] at hv
    obtain ⟨L, e1, e2, e3, e4⟩ := rv_elt hv
    have hsz' : sz ≠ 0 := fun e => by subst e; cases hsz
    rw [nth_eq] at hob
    have hL : ver = L.ver := (hR.obj id _ L hob e1).1.symm
    obtain ⟨b, hb, e5⟩ := e4 hL
    have hadd : (⟨b, i * sze + o1, none⟩ : Addr).add off = ⟨b, i * sze + (o1 + off), none⟩ := by unfold Addr.add; split <;> simp_all; omega
    exact ⟨.pointer (some ((⟨b, i * sze + o1, none⟩ : Addr).add off)), by simp [execOp, ho, e5, run_fieldAt_ok hsz'], .elt e1 e2 rfl fun _ => ⟨b, hb, by rw [hadd]⟩⟩

theorem op_load_elt {o : Oper} {p : Operand} {t : TypeId} {szt : Nat} {ag : Bool} [Ty P t szt ag] {id ver sz i off m : Nat} {e : TypeId} {r : Nat → List AV} {x : AV} (ho : o.op = .load t p) (hp : evA τ p = .elt id ver sz i off)
    (hob : nth ar id = some (.row e sz ver m r)) (hb : inB i m = true) (hx : loadA ag szt (r i) off = some x) : OpStep P τ ar o x ar :=
  opStep_same fun C a w ρ hR h => by
    have hv := evA_ok h p
    rw [hp] at hv
    obtain ⟨L, e1, e2, e3, e4⟩ := rv_elt hv
    rw [nth_eq] at hob
    obtain ⟨hL, xs, hown, hc⟩ := hR.obj id _ L hob e1
    obtain ⟨b, hb1, e5⟩ := e4 hL.symm
    have hi : i < m := by have := (inB_iff.1 hb).2; omega
    have hblk : L.v.ownBlock = some b := by
      unfold Loc.blk at hb1
      rcases hown.2 with ⟨hv', _⟩ | ⟨g, cap, cur, hv', _⟩ <;> simp [hv'] at hb1
      simp [hv', Value.ownBlock, hb1]
    have hadd : ∀ (b off j : Nat), (⟨b, off, none⟩ : Addr).add j = ⟨b, off + j, none⟩ := fun b off j => by unfold Addr.add; split <;> simp_all
    have hin : i * sz + sz ≤ m * sz := by rw [← Nat.succ_mul]; exact Nat.mul_le_mul_right _ hi
    have hg : ∀ j y, (r i)[off + j]? = some y → xs[i * sz + (off + j)]? = some (xs.getD (i * sz + (off + j)) undef) := fun j y hy => by
      have h1 := (List.getElem?_eq_some_iff.1 hy).1
      rw [hc.rows i hi] at h1
      have hj : i * sz + (off + j) < xs.length := by rw [hc.len]; omega
      simp [List.getD_eq_getElem?_getD, List.getElem?_eq_getElem hj]
    obtain ⟨v, hr, hq⟩ := load_cells (P := P) (w := w) (O := Ow C ρ ar) (ρ := ρ) (t := t) (a := ⟨b, i * sz + off, none⟩) (fun j => xs.getD (i * sz + (off + j)) undef) hx
      (fun j y hy => ⟨by
        have := hown.cells hblk (i * sz + (off + j)) _ (hg j y hy)
        rw [hadd] at this ⊢
        rw [Nat.zero_add] at this
        rw [Nat.add_assoc]
        exact this, (hc.get i (off + j) y _ hi hy (hg j y hy)).2⟩)
      (fun j y hy => (hc.get i (off + j) y _ hi hy (hg j y hy)).1)
    exact ⟨v, by simp [execOp, ho, e5, hr], hq⟩

end
end Go.Iron

/- Iron: less told, a function's begin and end, calls. -/
namespace Go.Iron

variable [Globs]
mutual
def AV.under (m : Nat) : AV → Bool
  | .agg cs => AV.unders m cs
  | .tup cs => AV.unders m cs
  | .ptr id _ _ => Nat.blt id m
  | .row id _ => Nat.blt id m
  | .elt id _ _ _ _ => Nat.blt id m
  | .fn _ cs => AV.unders m cs
  | .bnd _ cs => AV.unders m cs
  | .ifc _ x => AV.under m x
  | .opt _ x => AV.under m x
  | .yld id => Nat.blt id m
  | .mem id _ _ => Nat.blt id m
  | .bad | .val _ | .slc _ _ _ _ | .loc _ _ => true
def AV.unders (m : Nat) : List AV → Bool
  | [] => true
  | x :: l => match AV.under m x with
    | true => AV.unders m l
    | false => false
end

omit [Globs] in
theorem unders_get {m : Nat} {l : List AV} (h : AV.unders m l = true) {i : Nat} {x : AV} (hx : l[i]? = some x) : x.under m = true := by
  induction l generalizing i with
  | nil => simp at hx
  | cons y l ih =>
    simp only [AV.unders] at h
    cases hy : y.under m with
    | false => simp [hy] at h
    | true =>
      simp [hy] at h
      cases i with
      | zero => simp at hx; subst hx; exact hy
      | succ i => exact ih h (by simpa using hx)

omit [Globs] in
theorem RV.take {w : World} {O O' : Nat → Prop} (hO : ∀ b, O' b → O b) {ρ : List Loc} {x : AV} {v : Value} (h : RV w O ρ x v) : ∀ {m : Nat}, x.under m = true → RV w O' (ρ.take m) x v := by
  have hp : Pres w O w O' := ⟨Nat.le_refl _, fun b _ hn => ⟨rfl, fun hn' => hn (hO b hn')⟩⟩
  induction h with
  | bad => exact fun _ => .bad
  | val => exact fun _ => .val
  | agg h1 _ h3 ih => exact fun hb => .agg h1 (fun i x v a b => ih i x v a b (unders_get (by simpa [AV.under] using hb) a)) h3
  | tup h1 _ ih => exact fun hb => .tup h1 (fun i x v a b => ih i x v a b (unders_get (by simpa [AV.under] using hb) a))
  | slc h1 h2 h3 h4 h5 h6 g h7 h8 _ => exact fun _ => (RV.slc (ρ := []) h1 h2 h3 h4 h5 h6 g h7 h8).mono hp (Compat.nil _)
  | loc h1 h2 g h3 h4 _ => exact fun _ => (RV.loc (ρ := []) h1 h2 g h3 h4).mono hp (Compat.nil _)
  | @ptr ρ id ver off L v h1 h2 h3 h4 =>
    intro m hb
    have hlt : id < m := by simpa [AV.under, Nat.blt_eq] using hb
    exact .ptr (by rw [List.getElem?_take, if_pos hlt]; exact h1) h2 h3 h4
  | @row ρ id ver L v h1 h2 h3 h4 =>
    intro m hb
    have hlt : id < m := by simpa [AV.under, Nat.blt_eq] using hb
    exact .row (by rw [List.getElem?_take, if_pos hlt]; exact h1) h2 h3 h4
  | @elt ρ id ver sz i o L v h1 h2 h3 h4 =>
    intro m hb
    have hlt : id < m := by simpa [AV.under, Nat.blt_eq] using hb
    exact .elt (by rw [List.getElem?_take, if_pos hlt]; exact h1) h2 h3 h4
  | fn h1 _ ih => exact fun hb => .fn h1 (fun i x v a b => ih i x v a b (unders_get (by simpa [AV.under] using hb) a))
  | bnd h1 _ ih => exact fun hb => .bnd h1 (fun i x v a b => ih i x v a b (unders_get (by simpa [AV.under] using hb) a))
  | ifc _ ih => exact fun hb => .ifc (ih (by simpa [AV.under] using hb))
  | opt _ h2 ih => exact fun hb => .opt (fun h => ih h (by simpa [AV.under] using hb)) h2
  | @mem ρ id ver k L v h1 h2 h3 h4 =>
    intro m hb
    have hlt : id < m := by simpa [AV.under, Nat.blt_eq] using hb
    exact .mem (by rw [List.getElem?_take, if_pos hlt]; exact h1) h2 h3 h4
  | yld h1 h2 =>
    intro m hb
    have hlt := hb
    simp only [AV.under, Nat.blt_eq] at hlt
    exact .yld (by rw [List.getElem?_take, if_pos hlt]; exact h1) h2

def scrub (m : Nat) (τ : Nat → AV) : Nat → AV := fun t =>
  match (τ t).under m with
  | true => τ t
  | false => .bad
omit [Globs] in
theorem Slots.scrubbed {w : World} {O O' : Nat → Prop} (hO : ∀ b, O' b → O b) {ρ : List Loc} {τ : Nat → AV} {tmps : Array Value} (h : Slots w O ρ τ tmps) (m : Nat) : Slots w O' (ρ.take m) (scrub m τ) tmps := fun t => by
  unfold scrub
  split
  · rename_i hb
    exact (h t).take hO hb
  · exact .bad
omit [Globs] in
theorem scrub_under (m : Nat) (τ : Nat → AV) (t : Nat) : (scrub m τ t).under m = true := by
  unfold scrub
  split
  · assumption
  · rfl
omit [Globs] in
theorem Slots.kept {w : World} {O O' : Nat → Prop} (hO : ∀ b, O' b → O b) {ρ : List Loc} {τ : Nat → AV} {tmps : Array Value} {m : Nat} (hu : ∀ t, (τ t).under m = true) (h : Slots w O ρ τ tmps) : Slots w O' (ρ.take m) τ tmps :=
  fun t => (h t).take hO (hu t)
inductive Kept (m : Nat) : List AO → Prop
  | nil : Kept m []
  | gone {l} : Kept m l → Kept m (.gone :: l)
  | hole {l} : Kept m l → Kept m (.hole :: l)
  | box {e cs l} : AV.unders m cs = true → Kept m l → Kept m (.box e cs :: l)
  | row {e sz v k r l} : (∀ i, i < k → AV.unders m (r i) = true) → Kept m l → Kept m (.row e sz v k r :: l)
  | loop {st pd f n τ ps asg body l} : (∀ t, (τ t).under m = true) → Kept m l → Kept m (.loop st pd f n τ ps asg body :: l)
  | dfr {op l} : Kept m l → Kept m (.dfr op :: l)
  | iter {s pos l} : Kept m l → Kept m (.iter s pos :: l)
  | fam {e sz v k ms rs l} : (∀ j i, j < k → i < ms j → AV.unders m (rs j i) = true) → Kept m l → Kept m (.fam e sz v k ms rs :: l)
  | map {ver kk xs l} : (∀ p ∈ xs, p.2.under m = true) → Kept m l → Kept m (.map ver kk xs :: l)
  | byt {k r l} : Kept m l → Kept m (.byt k r :: l)
def AO.underP (m : Nat) : AO → Prop
  | .gone => True
  | .hole => True
  | .box _ cs => AV.unders m cs = true
  | .row _ _ _ k r => ∀ i, i < k → AV.unders m (r i) = true
  | .loop _ _ _ _ τ _ _ _ => ∀ t, (τ t).under m = true
  | .dfr _ => True
  | .iter _ _ => True
  | .fam _ _ _ k ms rs => ∀ j i, j < k → i < ms j → AV.unders m (rs j i) = true
  | .map _ _ xs => ∀ p ∈ xs, p.2.under m = true
  | .byt _ _ => True
omit [Globs] in
theorem Kept.mem {m : Nat} {l : List AO} (h : Kept m l) : ∀ o ∈ l, o.underP m := by
  induction h with
  | nil => intro o ho; simp at ho
  | gone _ ih => intro o ho; rcases List.mem_cons.1 ho with rfl | h'; exact trivial; exact ih o h'
  | hole _ ih => intro o ho; rcases List.mem_cons.1 ho with rfl | h'; exact trivial; exact ih o h'
  | box h1 _ ih => intro o ho; rcases List.mem_cons.1 ho with rfl | h'; exact h1; exact ih o h'
  | row h1 _ ih => intro o ho; rcases List.mem_cons.1 ho with rfl | h'; exact h1; exact ih o h'
  | loop h1 _ ih => intro o ho; rcases List.mem_cons.1 ho with rfl | h'; exact h1; exact ih o h'
  | dfr _ ih => intro o ho; rcases List.mem_cons.1 ho with rfl | h'; exact trivial; exact ih o h'
  | iter _ ih => intro o ho; rcases List.mem_cons.1 ho with rfl | h'; exact trivial; exact ih o h'
  | fam h1 _ ih => intro o ho; rcases List.mem_cons.1 ho with rfl | h'; exact h1; exact ih o h'
  | map h1 _ ih => intro o ho; rcases List.mem_cons.1 ho with rfl | h'; exact h1; exact ih o h'
  | byt _ ih => intro o ho; rcases List.mem_cons.1 ho with rfl | h'; exact trivial; exact ih o h'

def takeA : Nat → List AO → Option (List AO)
  | 0, _ => some []
  | _ + 1, [] => none
  | k + 1, o :: l => match takeA k l with
    | some r => some (o :: r)
    | none => none
omit [Globs] in
theorem takeA_spec : ∀ (k : Nat) (l r : List AO), takeA k l = some r → r = l.take k ∧ k ≤ l.length := by
  intro k
  induction k with
  | zero => intro l r h; simp [takeA] at h; subst h; simp
  | succ k ih =>
    intro l r h
    cases l with
    | nil => simp [takeA] at h
    | cons o l =>
      simp only [takeA] at h
      cases hr : takeA k l with
      | none => simp [hr] at h
      | some r' =>
        simp [hr] at h
        subst h
        obtain ⟨h1, h2⟩ := ih l r' hr
        subst h1
        exact ⟨by simp, by simpa using h2⟩

omit [Globs] in
theorem Cells.take {w : World} {O O' : Nat → Prop} (hO : ∀ b, O' b → O b) {ρ : List Loc} {cs : List AV} {vs : List Value} (h : Cells w O ρ cs vs) {m : Nat} (hb : AV.unders m cs = true) : Cells w O' (ρ.take m) cs vs :=
  ⟨h.1, fun i x v a b => ⟨(h.2 i x v a b).1.take hO (unders_get hb a), (h.2 i x v a b).2⟩⟩

omit [Globs] in
theorem DefR.take {w : World} {O O' : Nat → Prop} (hO : ∀ b, O' b → O b) {ρ : List Loc} {p : Deferred × AV} (h : DefR w O ρ p) {m : Nat} (hb : p.2.under m = true) : DefR w O' (ρ.take m) p := by
  obtain ⟨d, x⟩ := p
  unfold DefR at h ⊢
  cases x with
  | fn g l =>
    obtain ⟨vs, cvs, h1, h2, h3⟩ := h
    exact ⟨vs, cvs, h1, h2, fun i x v a b => (h3 i x v a b).take hO (unders_get (by simpa [AV.under] using hb) a)⟩
  | bad =>
    obtain ⟨r, h1, h2, h3⟩ := h
    exact ⟨r, h1, h2, fun h' => h3 (hO _ h')⟩
  | _ => exact h.elim
def defsUnder (m : Nat) : List (Deferred × AV) → Bool
  | [] => true
  | p :: l => match p.2.under m with
    | true => defsUnder m l
    | false => false
omit [Globs] in
theorem defsUnder_mem {m : Nat} {l : List (Deferred × AV)} (h : defsUnder m l = true) : ∀ p ∈ l, p.2.under m = true := by
  induction l with
  | nil => intro p hp; simp at hp
  | cons q l ih =>
    simp only [defsUnder] at h
    cases hq : q.2.under m with
    | false => simp [hq] at h
    | true =>
      simp [hq] at h
      intro p hp
      rcases List.mem_cons.1 hp with rfl | h'
      · exact hq
      · exact ih h p h'

omit [Globs] in
theorem RowC.take {w : World} {O O' : Nat → Prop} (hO : ∀ b, O' b → O b) {ρ : List Loc} {sz k : Nat} {r : Nat → List AV} {vs : List Value} (h : RowC w O ρ sz k r vs) {m : Nat} (hb : ∀ i, i < k → AV.unders m (r i) = true) : RowC w O' (ρ.take m) sz k r vs :=
  ⟨h.len, h.rows, fun i j x v a b c => ⟨(h.get i j x v a b c).1.take hO (unders_get (hb i a) b), (h.get i j x v a b c).2⟩⟩

omit [Globs] in
theorem MapR.take {w : World} {O O' : Nat → Prop} (hO : ∀ b, O' b → O b) {ρ : List Loc} {l : List (Value × AV)} {es : List MapEntry} (h : MapR w O ρ l es) {m : Nat} (hb : ∀ p ∈ l, p.2.under m = true) : MapR w O' (ρ.take m) l es :=
  ⟨h.1, fun i p e a b => (h.2 i p e a b).take hO (hb p (List.mem_of_getElem? a))⟩

theorem rel_take {C : Cx} {ρ : List Loc} {ar ar' : List AO} {w : World} (h : RelA C ρ ar w) {m : Nat} (hm : C.ar0.length ≤ m) (ht : takeA m ar = some ar') (hk : Kept m ar') (hD : defsUnder m C.D = true) :
    RelA C (ρ.take m) ar' w ∧ ∀ b, Ow C (ρ.take m) ar' b → Ow C ρ ar b := by
  obtain ⟨rfl, hl⟩ := takeA_spec _ _ _ ht
  have hb := hk.mem
  have hO : ∀ b, Owned (ρ.take m) (ar.take m) b → Owned ρ ar b := by
    rintro b ⟨i, o, L, h1, h2, h3, h4⟩
    rw [List.getElem?_take] at h1 h3
    split at h1
    · rename_i hi
      rw [if_pos hi] at h3
      exact ⟨i, o, L, h1, h2, h3, h4⟩
    · cases h1
  have hO2 : ∀ b, Ow C (ρ.take m) (ar.take m) b → Ow C ρ ar b := fun b h' => h'.imp (fun z => z) (hO b)
  refine ⟨⟨by simp [h.len], h.len0, ?_, ?_, h.far, fun b hb' hn => h.apart b hb' (hO b hn), h.size, h.os, h.tape, h.output, h.heap, fun b hb' => h.new b (hO b hb'), ?_, fun p hp' => (h.defs p hp').take hO2 (defsUnder_mem hD p hp')⟩, hO2⟩
  · intro i o L h1 h2
    have hbo := hb o (List.mem_of_getElem? h1)
    rw [List.getElem?_take] at h1 h2
    split at h1
    · rename_i hi
      rw [if_pos hi] at h2
      have ho := h.obj i o L h1 h2
      cases o with
      | gone => trivial
      | hole => exact ho
      | box e cs =>
        obtain ⟨h0, b, vs, a1, a2, a3⟩ := ho
        exact ⟨h0, b, vs, a1, a2, a3.take hO2 hbo⟩
      | row e sz ver k r =>
        obtain ⟨h0, xs, a1, a2⟩ := ho
        exact ⟨h0, xs, a1, a2.take hO2 hbo⟩
      | loop st pd f n τ ps asg body =>
        obtain ⟨h0, b, tmps, dd, a1, a2, a3, a4⟩ := ho
        exact ⟨h0, b, tmps, dd, a1, a2, a3, a4.kept hO2 hbo⟩
      | fam e sz ver k ms rs =>
        obtain ⟨h0, vals, a1, a2, a3, a4⟩ := ho
        refine ⟨h0, vals, a1, a2, fun j v hj => ?_, a4⟩
        obtain ⟨xs, c1, c2⟩ := a3 j v hj
        exact ⟨xs, c1, c2.take hO2 fun i hi => hbo j i (by rw [← a2]; exact (Array.getElem?_eq_some_iff.1 hj).1) hi⟩
      | dfr op => exact ho
      | iter _ _ => exact ho
      | map ver kk xs =>
        obtain ⟨h0, b, es, ck, a1, a2, a4, a3⟩ := ho
        exact ⟨h0, b, es, ck, a1, a2, a4, a3.take hO2 hbo⟩
      | byt _ _ => exact ho
    · cases h1
  · intro i j o o' L L' b hij h1 h2 l1 l2 h3 h4 b1 b2
    rw [List.getElem?_take] at h1 h2 h3 h4
    split at h1
    · split at h2
      · rename_i hi hj
        rw [if_pos hi] at h3
        rw [if_pos hj] at h4
        exact h.disj i j o o' L L' b hij h1 h2 l1 l2 h3 h4 b1 b2
      · cases h2
    · cases h1
  · intro i L hL
    obtain ⟨L', a1, a2⟩ := h.comp i L hL
    have hi : i < C.ρ0.length := (List.getElem?_eq_some_iff.1 hL).1
    exact ⟨L', by rw [List.getElem?_take, if_pos (by have := h.len0; omega)]; exact a1, a2⟩

mutual
def AV.data : AV → Bool
  | .agg cs => AV.datas cs
  | .tup cs => AV.datas cs
  | .ptr _ _ _ | .row _ _ | .elt _ _ _ _ _ | .bad | .yld _ | .mem _ _ _ => false
  | .fn _ cs => AV.datas cs
  | .bnd _ cs => AV.datas cs
  | .ifc _ x => AV.data x
  | .opt _ x => AV.data x
  | .val _ | .slc _ _ _ _ | .loc _ _ => true
def AV.datas : List AV → Bool
  | [] => true
  | x :: l => match AV.data x with
    | true => AV.datas l
    | false => false
end
omit [Globs] in
theorem datas_get {l : List AV} (h : AV.datas l = true) {i : Nat} {x : AV} (hx : l[i]? = some x) : x.data = true := by
  induction l generalizing i with
  | nil => simp at hx
  | cons y l ih =>
    simp only [AV.datas] at h
    cases hy : y.data with
    | false => simp [hy] at h
    | true =>
      simp [hy] at h
      cases i with
      | zero => simp at hx; subst hx; exact hy
      | succ i => exact ih h (by simpa using hx)
omit [Globs] in
theorem RV.data {w : World} {O : Nat → Prop} {ρ : List Loc} {x : AV} {v : Value} (h : RV w O ρ x v) : x.data = true → ∀ ρ', RV w O ρ' x v := by
  have hp : Pres w O w O := Pres.refl _ _
  induction h with
  | bad => exact fun h => by simp [AV.data] at h
  | val => exact fun _ _ => .val
  | agg h1 _ h3 ih => exact fun hb ρ' => .agg h1 (fun i x v a b => ih i x v a b (datas_get (by simpa [AV.data] using hb) a) ρ') h3
  | tup h1 _ ih => exact fun hb ρ' => .tup h1 (fun i x v a b => ih i x v a b (datas_get (by simpa [AV.data] using hb) a) ρ')
  | slc h1 h2 h3 h4 h5 h6 g h7 h8 _ => exact fun _ _ => .slc h1 h2 h3 h4 h5 h6 g h7 h8
  | loc h1 h2 g h3 h4 _ => exact fun _ _ => .loc h1 h2 g h3 h4
  | ptr => exact fun h => by simp [AV.data] at h
  | row => exact fun h => by simp [AV.data] at h
  | elt => exact fun h => by simp [AV.data] at h
  | fn h1 _ ih => exact fun hb ρ' => .fn h1 (fun i x v a b => ih i x v a b (datas_get (by simpa [AV.data] using hb) a) ρ')
  | bnd h1 _ ih => exact fun hb ρ' => .bnd h1 (fun i x v a b => ih i x v a b (datas_get (by simpa [AV.data] using hb) a) ρ')
  | ifc _ ih => exact fun hb ρ' => .ifc (ih (by simpa [AV.data] using hb) ρ')
  | opt _ h2 ih => exact fun hb ρ' => .opt (fun h => ih h (by simpa [AV.data] using hb) ρ') h2
  | yld => exact fun h => by simp [AV.data] at h
  | mem => exact fun h => by simp [AV.data] at h
omit [Globs] in
theorem RV.fewer {w : World} {O O' : Nat → Prop} (hO : ∀ b, O' b → O b) {ρ : List Loc} {x : AV} {v : Value} (h : RV w O ρ x v) : RV w O' ρ x v :=
  h.mono ⟨Nat.le_refl _, fun b _ hn => ⟨rfl, fun hn' => hn (hO b hn')⟩⟩ (Compat.refl _)

section
variable {P : Program} {f n : Nat} {C : Cx} {τ τ' : Nat → AV} {ar ar' : List AO} {k todo : List Item} {Q : Out → List AO → Prop} {ops : Array Oper}

def Says (x y : AV) : Prop := ∀ w O ρ v, RV w O ρ x v → RV w O ρ y v
omit [Globs] in
theorem Says.refl (x : AV) : Says x x := fun _ _ _ _ h => h
theorem rel_freeze {ρ : List Loc} {w : World} (h : RelA C ρ ar w) {id ver sz m : Nat} {e : TypeId} {r : Nat → List AV} (hob : ar[id]? = some (.row e sz ver m r)) (hd : ∀ i, i < m → AV.datas (r i) = true) :
    RelA C ρ (ar.set id .gone) w ∧ (∀ b, Ow C ρ (ar.set id .gone) b → Ow C ρ ar b) ∧ ∀ v, RV w (Ow C ρ ar) ρ (.row id ver) v → RV w (Ow C ρ (ar.set id .gone)) ρ (.slc sz none m r) v := by
  have hO : ∀ b, Owned ρ (ar.set id .gone) b → Owned ρ ar b := by
    rintro b ⟨i, o, L, h1, h2, h3, h4⟩
    by_cases hi : id = i
    · subst hi
      rw [List.getElem?_set_self (List.getElem?_eq_some_iff.1 hob).1] at h1
      cases h1
      simp [AO.live] at h2
    · rw [List.getElem?_set_ne hi] at h1
      exact ⟨i, o, L, h1, h2, h3, h4⟩
  have hO2 : ∀ b, Ow C ρ (ar.set id .gone) b → Ow C ρ ar b := fun b h' => h'.imp (fun z => z) (hO b)
  have hp : Pres w (Ow C ρ ar) w (Ow C ρ (ar.set id .gone)) := ⟨Nat.le_refl _, fun b _ hn => ⟨rfl, fun hn' => hn (hO2 b hn')⟩⟩
  refine ⟨⟨by simp [h.len], h.len0, ?_, ?_, h.far, fun b hb' hn => h.apart b hb' (hO b hn), h.size, h.os, h.tape, h.output, h.heap, fun b hb => h.new b (hO b hb), h.comp, fun p hp' => (h.defs p hp').mono hp (Compat.refl _)⟩, hO2, ?_⟩
  · intro i o L h1 h2
    by_cases hi : id = i
    · subst hi
      rw [List.getElem?_set_self (List.getElem?_eq_some_iff.1 hob).1] at h1
      cases h1
      trivial
    · rw [List.getElem?_set_ne hi] at h1
      exact (h.obj i o L h1 h2).mono hp (Compat.refl _) fun _ _ => rfl
  · intro i j o o' L L' b hij h1 h2 l1 l2 h3 h4 b1 b2
    have key : ∀ (i : Nat) o, (ar.set id .gone)[i]? = some o → o.live = true → ar[i]? = some o := by
      intro i o h1 hl
      by_cases hi : id = i
      · subst hi
        rw [List.getElem?_set_self (List.getElem?_eq_some_iff.1 hob).1] at h1
        cases h1
        simp [AO.live] at hl
      · rwa [List.getElem?_set_ne hi] at h1
    exact h.disj i j o o' L L' b hij (key i o h1 l1) (key j o' h2 l2) l1 l2 h3 h4 b1 b2
  · intro v hv
    obtain ⟨L, e1, e2, e3, e4⟩ := rv_row hv
    obtain ⟨hL, xs, hown, hcc⟩ := h.obj id _ L hob e1
    have hvL := e4 hL.symm
    subst hvL
    have hlt : ∀ i j x, i < m → (r i)[j]? = some x → ∃ u, xs[i * sz + j]? = some u ∧ RV w (Ow C ρ ar) ρ x u ∧ u.oneCell' = true ∧ x.data = true := by
      intro i j x h1 h2
      have hj := (List.getElem?_eq_some_iff.1 h2).1
      rw [hcc.rows i h1] at hj
      have hin : i * sz + sz ≤ m * sz := by rw [← Nat.succ_mul]; exact Nat.mul_le_mul_right _ h1
      have hi : i * sz + j < xs.length := by rw [hcc.len]; omega
      refine ⟨xs[i * sz + j], by simp [hi], ?_⟩
      obtain ⟨a1, a2⟩ := hcc.get i j x xs[i * sz + j] h1 h2 (by simp [hi])
      exact ⟨a1, a2, datas_get (hd i h1) h2⟩
    rcases hown.2 with ⟨hv', hn⟩ | ⟨g, cap, cur, hv', hg0, hh, h5, h6, h7, h8⟩
    · rw [hv']
      subst hn
      exact .slc rfl (Nat.le_refl _) (Nat.zero_le _) (fun b e => by cases e) (fun i h => by omega) (fun h => by omega) (fun _ _ => undef) (fun i j x a h => by omega) (fun i j x h => by omega)
    · rw [hv']
      have hb : L.v.ownBlock = some g := by rw [hv']; rfl
      refine .slc rfl h5 h6 (fun b e => by cases e) hcc.rows (fun _ => ⟨⟨g, 0, none⟩, rfl, (Array.getElem?_eq_some_iff.1 hh).1, ?_⟩) (fun i j => xs.getD (i * sz + j) undef) ?_ ?_
      · rintro (hX | ⟨i, o, L2, a1, a2, a3, a4⟩)
        · exact h.apart g hX ⟨id, _, L, hob, rfl, e1, by simp [Loc.has, Loc.blk, hv']⟩
        by_cases hi : id = i
        · subst hi
          rw [List.getElem?_set_self (List.getElem?_eq_some_iff.1 hob).1] at a1
          cases a1
          simp [AO.live] at a2
        · rw [List.getElem?_set_ne hi] at a1
          exact h.disj id i _ o L L2 g hi hob a1 rfl a2 e1 a3 (by simp [Loc.has, Loc.blk, hv']) a4
      · intro i j x a h1 h2 ha
        cases ha
        obtain ⟨u, hu, _, h1c, _⟩ := hlt i j x h1 h2
        have : xs.getD (i * sz + j) undef = u := by simp [List.getD_eq_getElem?_getD, hu]
        rw [this]
        exact ⟨hown.cells hb _ _ hu, h1c⟩
      · intro i j x h1 h2
        obtain ⟨u, hu, hr, _, hdt⟩ := hlt i j x h1 h2
        have : xs.getD (i * sz + j) undef = u := by simp [List.getD_eq_getElem?_getD, hu]
        rw [this]
        exact (hr.data hdt []).fewer hO2

/-! ### The end -/
inductive Res (P : Program) (τ : Nat → AV) (ar : List AO) : List ResultVar → List AV → Prop
  | nil : Res P τ ar [] []
  | tmp {t rs xs} : Res P τ ar rs xs → Res P τ ar (.tmp t :: rs) (τ t :: xs)
  | cell {p t rs xs sz ag id ver off ob cs x} : Ty P t sz ag → τ p = .ptr id ver off → nth ar id = some ob → ob.cells = some (ver, cs) → loadA ag sz cs off = some x → Res P τ ar rs xs → Res P τ ar (.cell p t :: rs) (x :: xs)

def outA : List AV → AV
  | [x] => x
  | l => .tup l

def resF (tmps : Array Value) : ResultVar → Sem Value
  | .tmp t => pure (tmps.getD t undef)
  | .cell a t => do loadVar t (← asAddr (tmps.getD a undef))
omit [Globs] in
theorem results_eq (fn : Func) (tmps : Array Value) : results fn tmps = (do
    let vs ← fn.results.mapM (resF tmps)
    pure (if h : vs.size = 1 then vs[0] else .tuple vs)) := rfl

theorem mapM_res {w : World} {ρ : List Loc} (hR : RelA C ρ ar w) {tmps : Array Value} (hS : Slots w (Ow C ρ ar) ρ τ tmps) {rs : List ResultVar} {xs : List AV} (h : Res P τ ar rs xs) :
    ∃ vs : List Value, (rs.mapM (resF tmps)).run P w = .ok vs w ∧ vs.length = xs.length ∧
      ∀ (i : Nat) x v, xs[i]? = some x → vs[i]? = some v → RV w (Ow C ρ ar) ρ x v := by
  induction h with
  | nil => exact ⟨[], by simp, rfl, fun i x v h => by simp at h⟩
  | @tmp t rs xs _ ih =>
    obtain ⟨vs, h1, h2, h3⟩ := ih
    refine ⟨tmps.getD t undef :: vs, by simp only [List.mapM_cons, resF, Sem.run_bind, Sem.run_pure, Result.andThen_ok, h1], by simp [h2], fun i x v hx hv => ?_⟩
    cases i with
    | zero => rw [List.getElem?_cons_zero] at hx hv; cases hv; cases hx; exact hS t
    | succ i => exact h3 i x v (by simpa using hx) (by simpa using hv)
  | @cell p t rs xs sz ag id ver off ob cs x hty hp hob hcs hld _ ih =>
    obtain ⟨vs, h1, h2, h3⟩ := ih
    have hv := hS p
    rw [hp] at hv
    rw [nth_eq] at hob
    obtain ⟨b, g, e1, e2, e3⟩ := ptr_cells hR hv hob hcs
    obtain ⟨v, hr, hq⟩ := load_cells (P := P) (t := t) g hld e2 e3
    have hr' : (loadVar t ⟨b, off, none⟩).run P w = .ok v w := by simpa [Instr.loadAt, Instr.sureAddr] using hr
    refine ⟨v :: vs, ?_, by simp [h2], fun i x v hx hv => ?_⟩
    · have ha : (asAddr (tmps.getD p undef)).run P w = .ok ⟨b, off, none⟩ w := by rw [e1]; rfl
      simp only [List.mapM_cons, resF, Sem.run_bind, ha, Sem.run_pure, Result.andThen_ok, hr', h1]
    · cases i with
      | zero => rw [List.getElem?_cons_zero] at hx hv; cases hv; cases hx; exact hq
      | succ i => exact h3 i _ _ (by simpa using hx) (by simpa using hv)

theorem results_run {w : World} {ρ : List Loc} (hR : RelA C ρ ar w) {tmps : Array Value} (hS : Slots w (Ow C ρ ar) ρ τ tmps) {fn : Func} {xs : List AV} (h : Res P τ ar fn.results.toList xs) :
    ∃ v, (results fn tmps).run P w = .ok v w ∧ RV w (Ow C ρ ar) ρ (outA xs) v := by
  obtain ⟨vs, h1, h2, h3⟩ := mapM_res hR hS h
  have hm : (fn.results.mapM (resF tmps)).run P w = .ok vs.toArray w := by
    rw [Array.mapM_eq_mapM_toList, Sem.run_map, h1]
    rfl
  refine ⟨if h : vs.toArray.size = 1 then vs.toArray[0] else .tuple vs.toArray, ?_, ?_⟩
  · rw [results_eq, Sem.run_bind, hm]
    rfl
  · match xs, h2, h3 with
    | [x], h2, h3 =>
      match vs, h2, h3 with
      | [v], _, h3 => exact h3 0 x v rfl rfl
    | [], h2, h3 =>
      have : vs = [] := List.eq_nil_of_length_eq_zero (by simpa using h2)
      subst this
      exact .tup rfl (fun i x v h => by simp at h)
    | x :: y :: r, h2, h3 =>
      have hne : vs.toArray.size ≠ 1 := by simp [h2]
      rw [dif_neg hne]
      exact .tup (by simp [h2]) (fun i x v hx hv => h3 i x v hx (by simpa using hv))

end
end Go.Iron

/- Iron: functions: begin, end, calls. -/
namespace Go.Iron

variable [Globs]
def bodyOf (fn : Func) : Code := fn.body.getD .skip

class Fun (P : Program) (g : FuncId) (fn : outParam Func) (c : outParam Code) : Prop where
  h : P.funcs[g]? = some fn
  b : fn.body = some c
  nm : (fn.name == "runtime.NumGoroutine") = false

section
variable {P : Program} {f n : Nat} {C : Cx} {τ τ' : Nat → AV} {ar ar' : List AO} {k todo : List Item} {Q : Out → List AO → Prop} {ops : Array Oper}

def argsT (args : List AV) : Nat → AV := fun t => match nth args t with
  | some x => x
  | none => .val undef

/-! ### Calls -/
def underAll : List AV → Bool
  | [] => true
  | x :: l => match x.under 0 with
    | true => underAll l
    | false => false
omit [Globs] in
theorem underAll_get {l : List AV} (h : underAll l = true) {i : Nat} {x : AV} (hx : l[i]? = some x) : x.under 0 = true := by
  induction l generalizing i with
  | nil => simp at hx
  | cons y l ih =>
    simp only [underAll] at h
    cases hy : y.under 0 with
    | false => simp [hy] at h
    | true =>
      simp [hy] at h
      cases i with
      | zero => simp at hx; subst hx; exact hy
      | succ i => exact ih h (by simpa using hx)

theorem callT_pure {g : FuncId} {as : List AV} {Q0 : Out → Prop} (h : CallT P g as [] (fun out A => Q0 out ∧ A = [])) (hu : underAll as = true) {w : World} {ρ : List Loc} {vs : Array Value} (hR : RelA C ρ ar w) (hl : vs.size = as.length)
    (hv : ∀ (j : Nat) x v, as[j]? = some x → vs[j]? = some v → RV w (Ow C ρ ar) ρ x v) :
    Calls P g vs w fun e w' => ∃ out ρ', Q0 out ∧ RelA C ρ' ar w' ∧ Compat ρ ρ' ∧ Pres w (Ow C ρ ar) w' (Ow C ρ' ar) ∧ OutR w' (Ow C ρ' ar) ρ' out (.norm e) := by
  have hr0 : RelA (cx w [] [] (Ow C ρ ar)) [] [] w := ⟨rfl, ⟨rfl, hR.stands (fun b hb => hb) (fun b ⟨i, o, L, h, _⟩ => by simp at h)⟩, fun i o L h => by simp at h, fun i j o o' L L' b hij h => by simp at h, fun b hb => by
    rcases hb with hb | hb
    · exact hR.far b hb
    · exact hR.lt hb, fun b _ ⟨i, o, L, h, _⟩ => by simp at h, Nat.le_refl _, rfl, rfl, rfl, fun _ _ _ => rfl, fun b ⟨i, o, L, h, _⟩ => by simp at h, Compat.refl _, fun p hp => by simp at hp⟩
  have hOw : ∀ b, Ow (cx w [] [] (Ow C ρ ar)) [] [] b ↔ Ow C ρ ar b := fun b => ⟨fun h => h.elim (fun z => z) (fun ⟨i, o, L, h, _⟩ => by simp at h), .inl⟩
  refine (h w [] (Ow C ρ ar) vs hr0 hl fun i x v hx hv' => ?_).mono fun e w' hd => ?_
  · have := (hv i x v hx hv').take (O' := Ow (cx w [] [] (Ow C ρ ar)) [] []) (fun b hb => (hOw b).1 hb) (m := 0) (underAll_get hu hx)
    simpa using this
  · obtain ⟨out, A, ρ', ⟨hQ, rfl⟩, hR', ho⟩ := hd
    have hρ : ρ' = [] := List.eq_nil_of_length_eq_zero hR'.len
    subst hρ
    have hheap : ∀ k, k < w.heap.size → w'.heap[k]? = w.heap[k]? := fun k hk => hR'.heap k hk (fun ⟨i, o, L, h, _⟩ => by simp at h)
    have hp : Pres w (Ow C ρ ar) w' (Ow C ρ ar) := ⟨hR'.size, fun b hb hn => ⟨hheap b hb, hn⟩⟩
    refine ⟨out, ρ, hQ, ⟨hR.len, hR.len0, fun i o L h1 h2 => ?_, hR.disj, fun b hb => Nat.lt_of_lt_of_le (hR.far b hb) hR'.size, hR.apart, Nat.le_trans hR.size hR'.size, hR'.os.trans hR.os, hR'.tape.trans hR.tape, hR'.output.trans hR.output, fun k hk hn => (hheap k (Nat.lt_of_lt_of_le hk hR.size)).trans (hR.heap k hk hn), hR.new, hR.comp, fun p hp' => (hR.defs p hp').mono hp (Compat.refl _)⟩, Compat.refl _, hp, ?_⟩
    · have hob := hR.obj i o L h1 h2
      cases hlv : o.live with
      | false => cases o <;> simp [AO.live] at hlv <;> first | trivial | exact hob
      | true => exact hob.mono hp (Compat.refl _) fun b hb => hheap b (hob.lt hlv hb)
    · have up : ∀ x v, RV w' (Ow (cx w [] [] (Ow C ρ ar)) [] []) [] x v → RV w' (Ow C ρ ar) ρ x v := fun x v hx => (hx.fewer (O' := Ow C ρ ar) (fun b hb => (hOw b).2 hb)).up
      cases out with
      | ret x => cases e with
        | returned v => exact up x v ho
        | panicked c => exact ho.elim
        | outgrown => exact ho.elim
      | pan x => cases e with
        | returned v => exact ho.elim
        | panicked c => obtain ⟨v, h1, h2⟩ := ho; exact ⟨v, h1, up x v h2⟩
        | outgrown => exact ho.elim
      | jmp j => exact ho.elim

end
end Go.Iron

/- Iron: structs, slices and rows that are built; append; interfaces. -/
namespace Go.Iron

variable [Globs]
omit [Globs] in
theorem set_run (us : List Value) : ∀ (off j0 : Nat) (cs : Array Value), off + j0 + us.length ≤ cs.size →
    ((us.zipIdx j0).foldl (fun (cs : Array Value) (p : Value × Nat) => cs.setIfInBounds (off + p.2) p.1) cs).toList = cs.toList.take (off + j0) ++ us ++ cs.toList.drop (off + j0 + us.length) := by
  induction us with
  | nil => intro off j0 cs h; simp
  | cons u us ih =>
    intro off j0 cs h
    simp only [List.zipIdx_cons, List.foldl_cons]
    rw [ih off (j0 + 1) _ (by simp at h ⊢; omega)]
    simp only [Array.toList_setIfInBounds, List.length_cons] at h ⊢
    have hlt : off + j0 < cs.toList.length := by simp; omega
    rw [show off + (j0 + 1) = off + j0 + 1 by omega, List.take_succ_eq_append_getElem (by simpa using hlt), List.getElem_set_self, List.take_set_of_le (Nat.le_refl _), List.drop_set_of_lt (by omega)]
    simp only [List.append_assoc, List.cons_append, List.nil_append]
    rw [show off + j0 + 1 + us.length = off + j0 + (us.length + 1) by omega]

def fillA (place : Nat → Option (Nat × Nat)) : List AV → List (Nat × List AV) → Option (List AV)
  | cs, [] => some cs
  | cs, (i, ys) :: r => match place i with
    | none => none
    | some (off, sz) => match Nat.beq ys.length sz with
      | false => none
      | true => match splice cs off ys with
        | some cs' => fillA place cs' r
        | none => none

def PartsOK (w : World) (O : Nat → Prop) (ρ : List Loc) : List (Nat × List AV) → List (Nat × Value) → Prop
  | [], [] => True
  | (i, ys) :: l, (j, v) :: m => i = j ∧ Cells w O ρ ys v.cells.toList ∧ PartsOK w O ρ l m
  | _, _ => False

omit [Globs] in
theorem fill_ok {w : World} {O : Nat → Prop} {ρ : List Loc} {place : Nat → Option (Nat × Nat)} : ∀ (as : List (Nat × List AV)) (ps : List (Nat × Value)) (cs cs' : List AV) (vs : Array Value), Cells w O ρ cs vs.toList → PartsOK w O ρ as ps →
    fillA place cs as = some cs' → ∃ vs', Instr.fill place vs ps = some vs' ∧ Cells w O ρ cs' vs'.toList
  | [], [], cs, cs', vs, hc, _, h => by simp [fillA] at h; subst h; exact ⟨vs, rfl, hc⟩
  | [], _ :: _, _, _, _, _, hp, _ => hp.elim
  | (i, ys) :: as, [], _, _, _, _, hp, _ => hp.elim
  | (i, ys) :: as, (j, v) :: ps, cs, cs', vs, hc, ⟨e, hy, hp⟩, h => by
    subst e
    simp only [fillA] at h
    cases hpl : place i with
    | none => simp [hpl] at h
    | some p =>
      obtain ⟨off, sz⟩ := p
      simp only [hpl] at h
      cases hl : Nat.beq ys.length sz with
      | false => simp [hl] at h
      | true =>
        simp only [hl] at h
        cases hs : splice cs off ys with
        | none => simp [hs] at h
        | some cs1 =>
          simp only [hs] at h
          have hl' := Nat.eq_of_beq_eq_true hl
          have hvl : v.cells.size = sz := by have := hy.1; simp at this; omega
          obtain ⟨h1, h2⟩ := splice_spec _ _ _ _ hs
          have hcl : vs.size = cs.length := by have := hc.1; simpa using this
          have hrun := set_run v.cells.toList off 0 vs (by simp; omega)
          have hc1 := cells_splice hc hy hs
          have hfold : (v.cells.zipIdx.foldl (fun (cs : Array Value) (p : Value × Nat) => cs.setIfInBounds (off + p.2) p.1) vs).toList = vs.toList.take off ++ v.cells.toList ++ vs.toList.drop (off + v.cells.toList.length) := by
            rw [← Array.foldl_toList, Array.toList_zipIdx]
            simpa using hrun
          obtain ⟨vs', h3, h4⟩ := fill_ok as ps cs1 cs' _ (by rw [hfold]; exact hc1) hp h
          refine ⟨vs', ?_, h4⟩
          simp only [Instr.fill, hpl]
          rw [if_neg (by simp; omega)]
          exact h3

def partsA (τ : Nat → AV) : List (Nat × Operand) → Option (List (Nat × List AV))
  | [] => some []
  | (i, y) :: l => match cellsA (evA τ y), partsA τ l with
    | some ys, some r => some ((i, ys) :: r)
    | _, _ => none

omit [Globs] in
theorem partsA_ok {w : World} {O : Nat → Prop} {ρ : List Loc} {τ : Nat → AV} {a : Act} (h : Slots w O ρ τ a.tmps) : ∀ (l : List (Nat × Operand)) r, partsA τ l = some r → PartsOK w O ρ r (l.map fun p => (p.1, a.eval p.2))
  | [], r, hr => by simp [partsA] at hr; subst hr; trivial
  | (i, y) :: l, r, hr => by
    simp only [partsA] at hr
    cases hy : cellsA (evA τ y) with
    | none => simp [hy] at hr
    | some ys =>
      cases hl : partsA τ l with
      | none => simp [hy, hl] at hr
      | some r' =>
        simp [hy, hl] at hr
        subst hr
        exact ⟨rfl, cellsA_ok (evA_ok h y) hy, partsA_ok h l r' hl⟩

class StrT (P : Program) (t : TypeId) (pl : outParam (List (Nat × Nat))) : Prop where
  h : ∃ fs, P.underlying t = some (.struct fs) ∧ fs.toList.map (fun f => some (f.offset, ((P.info? f.type).map (·.size)))) = pl.map (fun p => some (p.1, some p.2))

section
variable {P : Program} {f n : Nat} {C : Cx} {τ τ' : Nat → AV} {ar ar' : List AO} {k todo : List Item} {Q : Out → List AO → Prop} {ops : Array Oper}

omit [Globs] in
theorem zero_cells {w : World} {O : Nat → Prop} {ρ : List Loc} {cs : List AV} {z : Value} (h1 : z.cells.toList.map .val = cs) (h2 : z.cells.toList.all (·.oneCell') = true) : Cells w O ρ cs z.cells.toList := by
  subst h1
  refine ⟨by simp, fun j x v hx hv => ?_⟩
  simp only [List.getElem?_map, hv, Option.map_some, Option.some.injEq] at hx
  subst hx
  exact ⟨.val, List.all_eq_true.1 h2 v (List.mem_of_getElem? hv)⟩

theorem op_build {o : Oper} {t : TypeId} {parts : Array (Nat × Operand)} {z0 cs : List AV} {bytes : Nat} {pl : List (Nat × Nat)} {as : List (Nat × List AV)} [hz : ZeroT P t z0 bytes] [hs : StrT P t pl] (ho : o.op = .build t parts)
    (has : partsA τ parts.toList = some as) (hc : fillA (nth pl) z0 as = some cs) : OpStep P τ ar o (.agg cs) ar :=
  opStep_same fun C a w ρ hR h => by
    obtain ⟨i, z, z1, z2, z3, z4, z4', z5, z6, z7, z8⟩ := hz.all
    obtain ⟨fs, f1, f2⟩ := hs.h
    have hplace : (nth pl) = fun i => pl[i]? := funext fun i => nth_eq _ _
    rw [hplace] at hc
    obtain ⟨vs', h1, h2⟩ := fill_ok (place := fun i => pl[i]?) as _ z0 cs z.cells (zero_cells z5 z6) (partsA_ok h _ _ has) hc
    refine ⟨.agg vs', ?_, ?_⟩
    · have hmap : (fs.mapM (m := Sem) fun f => do pure (f.offset, ← sizeOf f.type)).run P w = .ok pl.toArray w := by
        rw [Array.mapM_eq_mapM_toList, Sem.run_map]
        have : ∀ (l : List Field) (pl : List (Nat × Nat)), l.map (fun f => some (f.offset, ((P.info? f.type).map (·.size)))) = pl.map (fun p => some (p.1, some p.2)) →
            (l.mapM (m := Sem) fun f => do pure (f.offset, ← sizeOf f.type)).run P w = .ok pl w := by
          intro l
          induction l with
          | nil => intro pl h; cases pl <;> simp at h; rfl
          | cons f l ih =>
            intro pl h
            cases pl with
            | nil => simp at h
            | cons p pl =>
              simp only [List.map_cons, List.cons.injEq, Option.some.injEq, Prod.mk.injEq] at h
              obtain ⟨⟨e1, e2⟩, e3⟩ := h
              cases hinf : P.info? f.type with
              | none => simp [hinf] at e2
              | some info =>
                simp [hinf] at e2
                have hsz : (sizeOf f.type).run P w = .ok info.size w := by simp [sizeOf, typeInfo, hinf]
                simp only [List.mapM_cons, Sem.run_bind, hsz, Result.andThen_ok, Sem.run_pure, ih pl e3, e1, e2]
        rw [this fs.toList pl f2]
        rfl
      have hparts : (parts.map fun x => (x.1, a.eval x.2)).toList = parts.toList.map fun p => (p.1, a.eval p.2) := by simp
      simp only [execOp, ho, Instr.build, Sem.run_bind, zeroValue, typeInfo, run_program, Result.andThen_ok, z1, z2, Sem.run_pure, run_underlying f1, hmap]
      have hget : (fun (i : Nat) => pl.toArray[i]?) = fun (i : Nat) => pl[i]? := by funext i; simp
      rw [hget, hparts, h1]
      rfl
    · refine .agg (by have := h2.1; simp at this; omega) (fun i x v hx hv => (h2.2 i x v hx (by simpa using hv)).1) (fun i v hv => ?_)
      have hi : i < cs.length := by have := h2.1; simp at this; have := (Array.getElem?_eq_some_iff.1 hv).1; omega
      exact (h2.2 i cs[i] v (by simp [hi]) (by simpa using hv)).2

theorem op_field_val {o : Oper} {t : TypeId} {x : Operand} {j off sz : Nat} {ag : Bool} {ft : TypeId} [hf : FldT P t j off ft] [ht : Ty P ft sz ag] {cs : List AV} {y : AV} (ho : o.op = .field t x j) (hx : evA τ x = .agg cs) (hy : loadA ag sz cs off = some y) :
    OpStep P τ ar o y ar :=
  opStep_same fun C a w ρ hR h => by
    have hv := evA_ok h x
    rw [hx] at hv
    obtain ⟨vs, e1, e2, e3, e4⟩ := rv_agg hv
    obtain ⟨fs, fl, h1, h2, h3, h4⟩ := hf.h
    subst h4
    have hp : ∃ v, (part fl.type vs fl.offset).run P w = .ok v w ∧ RV w (Ow C ρ ar) ρ y v := by
      cases ag with
      | false =>
        simp only [loadA, nth_eq] at hy
        have hi : off < vs.size := by rw [← e2]; exact (List.getElem?_eq_some_iff.1 hy).1
        refine ⟨vs[off], ?_, e3 off y _ hy (by simp [hi])⟩
        simp [part, isAgg_run (P := P) (t := fl.type) (sz := sz) (ag := false), h3, hi]
      | true =>
        simp only [loadA] at hy
        cases hs : sub cs off sz with
        | none => simp [hs] at hy
        | some r =>
          simp [hs] at hy
          subst hy
          obtain ⟨hl, hr⟩ := sub_spec cs off sz r hs
          have hfit : ∀ j, j < sz → off + j < vs.size := fun j hj => by
            have : cs[off + j]? = r[j]? := hr j hj
            have hjr : j < r.length := by omega
            rw [List.getElem?_eq_getElem hjr] at this
            rw [← e2]; exact (List.getElem?_eq_some_iff.1 this).1
          refine ⟨.agg (vs.extract off (off + sz)), ?_, ?_⟩
          · simp [part, isAgg_run (P := P) (t := fl.type) (sz := sz) (ag := true), sizeOf_run (P := P) (t := fl.type) (sz := sz) (ag := true), h3]
          · have hsz : sz = 0 ∨ off + sz ≤ vs.size := by
              rcases Nat.eq_zero_or_pos sz with h0 | h0
              · exact .inl h0
              · have := hfit (sz - 1) (by omega); right; omega
            have hel : ∀ i v, (vs.extract off (off + sz))[i]? = some v → i < sz ∧ vs[off + i]? = some v := fun i v hv => by
              have hi := (Array.getElem?_eq_some_iff.1 hv).1
              simp at hi
              have : i < sz := by omega
              refine ⟨this, ?_⟩
              rw [Array.getElem?_extract, if_pos hi] at hv
              exact hv
            refine .agg ?_ (fun i x v hx hv => ?_) (fun i v hv => ?_)
            · rw [hl]; simp; rcases hsz with h0 | h0 <;> omega
            · obtain ⟨hi, hv'⟩ := hel i v hv
              exact e3 (off + i) x v (by rw [hr i hi]; exact hx) hv'
            · obtain ⟨hi, hv'⟩ := hel i v hv
              exact e4 _ _ hv'
    obtain ⟨v, hr, hq⟩ := hp
    exact ⟨v, by simp [execOp, ho, e1, Instr.field, run_underlying h1, h2, asAgg, hr], hq⟩

def evAs (τ : Nat → AV) : List Operand → List AV
  | [] => []
  | x :: l => evA τ x :: evAs τ l
omit [Globs] in
theorem evAs_eq (τ : Nat → AV) (l : List Operand) : evAs τ l = l.map (evA τ) := by induction l <;> simp [evAs, *]

theorem op_makeFunc {o : Oper} {g : Fn} {capt : Array Operand} (ho : o.op = .makeFunc g #[] capt) : OpStep P τ ar o (.fn g (evAs τ capt.toList)) ar :=
  opStep_same fun C a w ρ hR h => by
    refine ⟨.func g #[] (capt.map a.eval), by simp [execOp, ho, Instr.makeFunc], .fn (by simp [evAs_eq]) (fun i x v hx hv => ?_)⟩
    simp only [evAs_eq, List.getElem?_map, Array.getElem?_toList, Array.getElem?_map] at hx hv
    cases hc : capt[i]? with
    | none => simp [hc] at hx
    | some z => simp [hc] at hx hv; subst hx; subst hv; exact evA_ok h z

class ConT (P : Program) (t : TypeId) : Prop where
  h : P.concrete t = true
theorem op_makeInterface {o : Oper} {t : TypeId} [ht : ConT P t] {x : Operand} {y : AV} (ho : o.op = .makeInterface t x) (hx : evA τ x = y) : OpStep P τ ar o (.ifc t y) ar :=
  opStep_same fun C a w ρ hR h => ⟨_, by simp [execOp, ho, run_makeInterface w t _ ht.h], .ifc (hx ▸ evA_ok h x)⟩

omit [Globs] in
theorem run_eqIn_bool {w : World} {t : TypeId} (ht : P.underlying t = some .bool) (d : Nat) (p q : Bool) : (Op.equalIn (d + 1) t (.bool p) (.bool q)).run P w = .ok (p == q) w := by
  simp [Op.equalIn, run_underlying ht]
omit [Globs] in
theorem run_binEq {w : World} {t : TypeId} {x y : Value} {b : Bool} (hx : (match x, y with | .int _ _, _ | .float _ _, _ | .complex _ _ _, _ | .string _, _ => false | _, _ => true) = true) (h : (Op.equalIn (9999 + 1) t x y).run P w = .ok b w) :
    (binOp .eql t x y).run P w = .ok (.bool b) w ∧ (binOp .neq t x y).run P w = .ok (.bool (!b)) w := by
  have h' : (Op.equal t x y).run P w = .ok b w := h
  constructor
  · have : binOp .eql t x y = (do pure (.bool (← Op.equal t x y))) := by cases x <;> first | (simp at hx; done) | (cases y <;> rfl)
    rw [this, Sem.run_bind, h']
    rfl
  · have : binOp .neq t x y = (do pure (.bool (!(← Op.equal t x y)))) := by cases x <;> first | (simp at hx; done) | (cases y <;> rfl)
    rw [this, Sem.run_bind, h']
    rfl
theorem op_eqBool {o : Oper} {xt yt : TypeId} {x y : Operand} {p q : Bool} (ht : P.underlying xt = some .bool) (ho : o.op = .binOp .eql xt x y yt) (hx : evA τ x = .val (.bool p)) (hy : evA τ y = .val (.bool q)) : OpStep P τ ar o (.val (.bool (p == q))) ar :=
  opStep_same fun C a w ρ hR h => ⟨_, by
    have := (run_binEq (P := P) (w := w) (t := xt) (x := .bool p) (y := .bool q) rfl (run_eqIn_bool ht 9999 p q)).1
    have hg : ∀ op, (eqGuard op xt x y (.bool p) (.bool q)).run P w = .ok () w := fun op => by unfold eqGuard; cases op <;> rfl
    simp only [execOp, ho, eval_val h hx, eval_val h hy, Sem.run_bind, hg, this, Result.andThen_ok]
    rfl, .val⟩
theorem op_neBool {o : Oper} {xt yt : TypeId} {x y : Operand} {p q : Bool} (ht : P.underlying xt = some .bool) (ho : o.op = .binOp .neq xt x y yt) (hx : evA τ x = .val (.bool p)) (hy : evA τ y = .val (.bool q)) : OpStep P τ ar o (.val (.bool (!(p == q)))) ar :=
  opStep_same fun C a w ρ hR h => ⟨_, by
    have := (run_binEq (P := P) (w := w) (t := xt) (x := .bool p) (y := .bool q) rfl (run_eqIn_bool ht 9999 p q)).2
    have hg : ∀ op, (eqGuard op xt x y (.bool p) (.bool q)).run P w = .ok () w := fun op => by unfold eqGuard; cases op <;> rfl
    simp only [execOp, ho, eval_val h hx, eval_val h hy, Sem.run_bind, hg, this, Result.andThen_ok]
    rfl, .val⟩
theorem op_eqStr {o : Oper} {xt yt : TypeId} {x y : Operand} {p q : ByteArray} (ho : o.op = .binOp .eql xt x y yt) (hx : evA τ x = .val (.string p)) (hy : evA τ y = .val (.string q)) : OpStep P τ ar o (.val (.bool (p.toList == q.toList))) ar :=
  opStep_same fun C a w ρ hR h => ⟨_, by
    have hg : ∀ op, (eqGuard op xt x y (.string p) (.string q)).run P w = .ok () w := fun op => by unfold eqGuard; cases op <;> rfl
    have hb : (binOp .eql xt (.string p) (.string q)).run P w = .ok (.bool (p.toList == q.toList)) w := rfl
    simp only [execOp, ho, eval_val h hx, eval_val h hy, Sem.run_bind, hg, hb, Result.andThen_ok]
    rfl, .val⟩
theorem op_neStr {o : Oper} {xt yt : TypeId} {x y : Operand} {p q : ByteArray} (ho : o.op = .binOp .neq xt x y yt) (hx : evA τ x = .val (.string p)) (hy : evA τ y = .val (.string q)) : OpStep P τ ar o (.val (.bool (!(p.toList == q.toList)))) ar :=
  opStep_same fun C a w ρ hR h => ⟨_, by
    have hg : ∀ op, (eqGuard op xt x y (.string p) (.string q)).run P w = .ok () w := fun op => by unfold eqGuard; cases op <;> rfl
    have hb : (binOp .neq xt (.string p) (.string q)).run P w = .ok (.bool (!(p.toList == q.toList))) w := rfl
    simp only [execOp, ho, eval_val h hx, eval_val h hy, Sem.run_bind, hg, hb, Result.andThen_ok]
    rfl, .val⟩

end
end Go.Iron

/- Iron: rows that are made and appended to; structs compared. -/
namespace Go.Iron

variable [Globs]
section
variable {P : Program} {f n : Nat} {C : Cx} {τ τ' : Nat → AV} {ar ar' : List AO} {k todo : List Item} {Q : Out → List AO → Prop} {ops : Array Oper}

omit [Globs] in
theorem idx_lt {i j m sz : Nat} (hi : i < m) (hj : j < sz) : i * sz + j < m * sz := by
  have : i * sz + sz ≤ m * sz := by rw [← Nat.succ_mul]; exact Nat.mul_le_mul_right _ hi
  omega
omit [Globs] in
theorem idx_div {i j sz : Nat} (hj : j < sz) : (i * sz + j) / sz = i ∧ (i * sz + j) % sz = j := by
  have hp : 0 < sz := by omega
  constructor
  · rw [Nat.mul_comm, Nat.mul_add_div hp, Nat.div_eq_of_lt hj]; omega
  · rw [Nat.mul_comm, Nat.mul_add_mod, Nat.mod_eq_of_lt hj]

def Src (w : World) (O : Nat → Prop) (ρ : List Loc) (sz m : Nat) (r : Nat → List AV) (v : Value) : Prop :=
  ∃ (A : Option Addr) (cap : Nat) (news : List Value), v = .slice A m cap ∧ (A = none → m = 0) ∧ news.length = m * sz ∧ (∀ a, A = some a → ∀ (j : Nat) u, news[j]? = some u → w.cell? (a.add j) = some u) ∧ (∀ u ∈ news, u.oneCell' = true) ∧ RowC w O ρ sz m r news

omit [Globs] in
theorem src_slc {w : World} {O : Nat → Prop} {ρ : List Loc} {sz : Nat} {nl : Option Bool} {m : Nat} {r : Nat → List AV} {v : Value} (hpos : 0 < sz) (h : RV w O ρ (.slc sz nl m r) v) : Src w O ρ sz m r v := by
  obtain ⟨A, cap, g, e1, e3, e4, e5, e6, e7, e8, e9⟩ := rv_slc h
  have key : ∀ k, k < m * sz → k / sz < m ∧ k % sz < (r (k / sz)).length ∧ k / sz * sz + k % sz = k := fun k hk => by
    have h1 : k / sz < m := Nat.div_lt_of_lt_mul (by rw [Nat.mul_comm]; exact hk)
    exact ⟨h1, by rw [e6 _ h1]; exact Nat.mod_lt _ hpos, by rw [Nat.mul_comm]; exact Nat.div_add_mod k sz⟩
  have hget : ∀ (k : Nat) u, ((List.range (m * sz)).map fun k => g (k / sz) (k % sz))[k]? = some u → k < m * sz ∧ u = g (k / sz) (k % sz) := fun k u hu => by
    simp only [List.getElem?_map] at hu
    by_cases hk : k < m * sz
    · simp [hk] at hu; exact ⟨hk, hu.symm⟩
    · simp [hk] at hu
  have hx : 0 < m → ∃ a, A = some a := fun h0 => by obtain ⟨a, ha, _⟩ := e7 h0; exact ⟨a, ha⟩
  refine ⟨A, cap, (List.range (m * sz)).map fun k => g (k / sz) (k % sz), e1, fun ha => ?_, by simp, fun a ha j u hu => ?_, fun u hu => ?_, by simp, e6, fun i j x u hi hxj hu => ?_⟩
  · rcases Nat.eq_zero_or_pos m with h0 | h0
    · exact h0
    · obtain ⟨a, ha'⟩ := hx h0; rw [ha] at ha'; cases ha'
  · obtain ⟨hj, rfl⟩ := hget j u hu
    obtain ⟨k1, k2, k3⟩ := key j hj
    have := (e8 (j / sz) (j % sz) _ a k1 (List.getElem?_eq_getElem k2) ha).1
    rw [k3] at this
    exact this
  · obtain ⟨j, hj0⟩ := List.mem_iff_getElem?.1 hu
    obtain ⟨hj, hj1⟩ := hget j u hj0
    subst hj1
    obtain ⟨k1, k2, k3⟩ := key j hj
    obtain ⟨a, ha⟩ := hx (Nat.lt_of_le_of_lt (Nat.zero_le _) k1)
    exact (e8 (j / sz) (j % sz) _ a k1 (List.getElem?_eq_getElem k2) ha).2
  · obtain ⟨hj, rfl⟩ := hget _ u hu
    have hjs : j < sz := by rw [← e6 i hi]; exact (List.getElem?_eq_some_iff.1 hxj).1
    obtain ⟨d1, d2⟩ := idx_div (i := i) hjs
    rw [d1, d2]
    obtain ⟨a, ha⟩ := hx (by omega)
    exact ⟨(e9 i j x hi hxj).up, (e8 i j x a hi hxj ha).2⟩

theorem src_row {w : World} {ρ : List Loc} {id ver sz m : Nat} {e : TypeId} {r : Nat → List AV} {v : Value} (hpos : 0 < sz) (hR : RelA C ρ ar w) (hob : ar[id]? = some (.row e sz ver m r)) (h : RV w (Ow C ρ ar) ρ (.row id ver) v) : Src w (Ow C ρ ar) ρ sz m r v := by
  obtain ⟨L, e1, e2, e3, e4⟩ := rv_row h
  obtain ⟨hL, xs, hown, hc⟩ := hR.obj id _ L hob e1
  have e5 := e4 hL.symm
  have h1c : ∀ u ∈ xs, u.oneCell' = true := fun u hu => by
    obtain ⟨j, hj⟩ := List.mem_iff_getElem?.1 hu
    have hj' : j < m * sz := by rw [← hc.len]; exact (List.getElem?_eq_some_iff.1 hj).1
    have k1 : j / sz < m := Nat.div_lt_of_lt_mul (by rw [Nat.mul_comm]; exact hj')
    have k2 : j % sz < (r (j / sz)).length := by rw [hc.rows _ k1]; exact Nat.mod_lt _ hpos
    have k3 : j / sz * sz + j % sz = j := by rw [Nat.mul_comm]; exact Nat.div_add_mod j sz
    exact (hc.get _ _ _ u k1 (List.getElem?_eq_getElem k2) (by rw [k3]; exact hj)).2
  subst e5
  rcases hown.2 with ⟨hv', hm0⟩ | ⟨g, cap, cur, hv', hg0, hh, h5, h6, h7, h8⟩
  · subst hm0
    exact ⟨none, 0, xs, hv', fun _ => rfl, hc.len, fun a ha => (by cases ha), h1c, hc⟩
  · refine ⟨some ⟨g, 0, none⟩, cap, xs, hv', fun ha => (by cases ha), hc.len, fun a ha j u hu => ?_, h1c, hc⟩
    cases ha
    exact hown.cells (g := g) (by rw [hv']; rfl) j u hu

def appR (m : Nat) (r r2 : Nat → List AV) : Nat → List AV := fun i => match Nat.blt i m with
  | true => r i
  | false => r2 (i - m)
omit [Globs] in
theorem appR_lt {m i : Nat} {r r2 : Nat → List AV} (h : i < m) : appR m r r2 i = r i := by
  have : Nat.blt i m = true := by simpa [Nat.blt_eq] using h
  simp [appR, this]
omit [Globs] in
theorem appR_ge {m i : Nat} {r r2 : Nat → List AV} (h : m ≤ i) : appR m r r2 i = r2 (i - m) := by
  have : Nat.blt i m = false := by rw [Bool.eq_false_iff]; simp [h]
  simp [appR, this]

omit [Globs] in
theorem run_appendNone {w : World} {t ty e : TypeId} {i : TypeInfo} {sz c n : Nat} {v : Value} {xs : List Value} (ht : P.underlying t = some (.slice e)) (hi : P.info? e = some i) (hown : w.ownsRow 0 e sz v n xs) :
    (Builtin.append_ #[t, t] ty #[v, .slice none 0 c]).run P w = .ok v w := by
  rcases hown.2 with ⟨rfl, rfl⟩ | ⟨g, cap, cur, rfl, _, _, hnc, _⟩
  · simp [Builtin.append_, run_underlying ht, sizeOf, typeInfo, hi, Builtin.lenOf, Builtin.firstCells]
  · simp [Builtin.append_, run_underlying ht, sizeOf, typeInfo, hi, Builtin.lenOf, Builtin.firstCells, hnc, storeCells]

theorem rel_append {ρ : List Loc} {w : World} (hR : RelA C ρ ar w) {t ty e : TypeId} {id ver sz m m2 bytes : Nat} {r r2 : Nat → List AV} {z0 : List AV} {v v2 : Value} [he : ElT P t e] [hz : ZeroT P e z0 bytes]
    (hv : RV w (Ow C ρ ar) ρ (.row id ver) v) (hob : ar[id]? = some (.row e sz ver m r)) (hsz : z0.length = sz) (hsrc : Src w (Ow C ρ ar) ρ sz m2 r2 v2) (hb : Nat.ble ((m + m2) * bytes) 140737488355328 = true) :
    ∃ v' w' ρ', (Builtin.append_ #[t, t] ty #[v, v2]).run P w = .ok v' w' ∧ RelA C ρ' (ar.set id (.row e sz (Nat.succ ver) (m + m2) (appR m r r2))) w' ∧ Compat ρ ρ' ∧
      Pres w (Ow C ρ ar) w' (Ow C ρ' (ar.set id (.row e sz (Nat.succ ver) (m + m2) (appR m r r2)))) ∧ RV w' (Ow C ρ' (ar.set id (.row e sz (Nat.succ ver) (m + m2) (appR m r r2)))) ρ' (.row id (Nat.succ ver)) v' := by
  obtain ⟨i, z, z1, z2, z3, z4, z4', z5, z6, z7, z8⟩ := hz.all
  rw [hsz] at z4 z4' z8
  have hb' : (m + m2) * bytes ≤ 140737488355328 := by simpa [Nat.ble_eq] using hb
  have hmax : m + m2 ≤ maxLen := by
    have : (m + m2) * 1 ≤ (m + m2) * bytes := Nat.mul_le_mul_left _ z7
    simp only [maxLen]
    omega
  obtain ⟨L, e1, e2, e3, e4⟩ := rv_row hv
  obtain ⟨hL, xs, hown, hc⟩ := hR.obj id _ L hob e1
  have e5 := e4 hL.symm
  obtain ⟨A, cap, news, hv2, hA, hnl, hcell, hone, hrc⟩ := hsrc
  have hstep : ∃ v' w', (Builtin.append_ #[t, t] ty #[L.v, v2]).run P w = .ok v' w' ∧ w'.ownsRow 0 e sz v' (m + m2) (xs ++ news) ∧ w.grownBy w' L.v.ownBlock ∧ (v'.ownBlock = L.v.ownBlock ∨ v'.ownBlock = some w.heap.size) := by
    rw [hv2]
    cases A with
    | none =>
      have := hA rfl
      subst this
      have hn0 : news = [] := List.eq_nil_of_length_eq_zero (by simpa using hnl)
      subst hn0
      refine ⟨L.v, w, run_appendNone he.h z1 hown, by simpa using hown, ⟨rfl, rfl, rfl, Nat.le_refl _, fun _ _ _ => rfl⟩, .inl rfl⟩
    | some ad =>
      obtain ⟨v', w', h1, h2, h3, h4, h5⟩ := run_append_own_at (P := P) w 0 t ty e i z sz bytes he.h z1 z2 z4 z3 z4' z8 L.v m xs hown ad m2 cap news hnl (hcell ad rfl) hone hmax hb' (Nat.zero_le _)
      exact ⟨v', w', h1, h2, h3, h5⟩
  obtain ⟨v', w', h1, h2, h3, h5⟩ := hstep
  have hblk : ∀ (w : World) (L : Loc) n xs, w.ownsRow 0 e sz L.v n xs → ∀ b, L.has b ↔ L.v.ownBlock = some b := fun w L n xs h b => by
    rcases h.2 with ⟨hv', _⟩ | ⟨g, cap, cur, hv', _⟩ <;> simp [Loc.has, Loc.more, Loc.blk, hv', Value.ownBlock]
  have hone' : v'.oneCell' = true := by
    rcases h2.2 with ⟨hv', _⟩ | ⟨g, cap, cur, hv', _⟩ <;> rw [hv'] <;> rfl
  obtain ⟨r1, r2', r3⟩ := hR.put (L' := ⟨Nat.succ ver, v'⟩) (o' := .row e sz (Nat.succ ver) (m + m2) (appR m r r2)) (w' := w') hob e1 rfl h3.size
    (fun k hk hne => h3.block k hk (fun e => hne ((hblk w L _ _ hown _).2 e.symm))) h3.os h3.tape h3.output
    (fun b hb => by
      have hb := (hblk w' ⟨Nat.succ ver, v'⟩ _ _ h2 b).1 hb
      rcases h5 with h5 | h5
      · rw [h5] at hb; exact .inl ((hblk w L _ _ hown _).2 hb)
      · rw [h5] at hb; exact .inr (by cases hb; exact Nat.le_refl _)) (by simp [hL]) (fun h => by rw [hL] at h; simp at h)
    (fun hp hc' => ⟨rfl, xs ++ news, h2, by rw [List.length_append, hc.len, hnl, Nat.add_mul], fun i hi => by
      by_cases him : i < m
      · rw [appR_lt him]; exact hc.rows i him
      · rw [appR_ge (by omega)]; exact hrc.rows _ (by omega), fun i j x u hi hxj hu => by
      by_cases him : i < m
      · rw [appR_lt him] at hxj
        have hj : j < sz := by rw [← hc.rows i him]; exact (List.getElem?_eq_some_iff.1 hxj).1
        rw [List.getElem?_append_left (by rw [hc.len]; exact idx_lt him hj)] at hu
        exact (fun z => ⟨z.1.mono hp hc', z.2⟩) (hc.get i j x u him hxj hu)
      · rw [appR_ge (by omega)] at hxj
        have hj : j < sz := by rw [← hrc.rows (i - m) (by omega)]; exact (List.getElem?_eq_some_iff.1 hxj).1
        have hle : m * sz ≤ i * sz := Nat.mul_le_mul_right _ (by omega)
        rw [List.getElem?_append_right (by rw [hc.len]; omega), hc.len, show i * sz + j - m * sz = (i - m) * sz + j by rw [Nat.sub_mul]; omega] at hu
        exact (fun z => ⟨z.1.mono hp hc', z.2⟩) (hrc.get (i - m) j x u (by omega) hxj hu)⟩)
  exact ⟨v', w', _, by rw [e5]; exact h1, r1, r3, r2', .row (L := ⟨Nat.succ ver, v'⟩) (by rw [List.getElem?_set_self (List.getElem?_eq_some_iff.1 e1).1]) (Nat.le_refl _) hone' (fun _ => rfl)⟩

omit [Globs] in
theorem Src.mono {w : World} {O O' : Nat → Prop} {ρ ρ' : List Loc} (hp : Pres w O w O') (hc : Compat ρ ρ') {sz m : Nat} {r : Nat → List AV} {v : Value} (h : Src w O ρ sz m r v) : Src w O' ρ' sz m r v := by
  obtain ⟨A, cap, news, h1, h2, h3, h4, h5, h6⟩ := h
  exact ⟨A, cap, news, h1, h2, h3, h4, h5, h6.mono hp hc⟩

theorem op_append {o : Oper} {t e : TypeId} {x y : Operand} {id ver sz m m2 bytes : Nat} {r r2 : Nat → List AV} {z0 : List AV} [he : ElT P t e] [hz : ZeroT P e z0 bytes] (ho : o.op = .call { callee := .builtin .append, args := #[x, y], argTypes := #[t, t] })
    (hx : evA τ x = .row id ver) (hob : nth ar id = some (.row e sz ver m r)) (hsz : z0.length = sz)
    (hsrc : ∀ (C : Cx) (w : World) (ρ : List Loc) (v : Value), RelA C ρ ar w → RV w (Ow C ρ ar) ρ (evA τ y) v → Src w (Ow C ρ ar) ρ sz m2 r2 v) (hb : Nat.ble ((m + m2) * bytes) 140737488355328 = true)
    (har : setN ar id (.row e sz (Nat.succ ver) (m + m2) (appR m r r2)) = some ar') : OpStep P τ ar o (.row id (Nat.succ ver)) ar' := by
  intro C a w ρ hR hS
  rw [nth_eq] at hob
  obtain ⟨_, rfl⟩ := setN_spec _ _ _ _ har
  have hv := evA_ok hS x
  rw [hx] at hv
  obtain ⟨v', w', ρ', h1, h2, h3, h4, h5⟩ := rel_append (P := P) hR (t := t) (ty := o.type) hv hob hsz (hsrc C w ρ _ hR (evA_ok hS y)) hb
  exact ⟨.value v', v', w', ρ', by simp [execOp, ho, resolve, invoke, builtin, h1], .inl rfl, h2, h3, h4, h5⟩

theorem op_appendNil {o : Oper} {t e : TypeId} {x y : Operand} {m2 bytes id : Nat} {r2 : Nat → List AV} {z0 : List AV} [he : ElT P t e] [hz : ZeroT P e z0 bytes] (ho : o.op = .call { callee := .builtin .append, args := #[x, y], argTypes := #[t, t] })
    (hx : evA τ x = .val (.slice none 0 0))
    (hsrc : ∀ (C : Cx) (w : World) (ρ : List Loc) (v : Value), RelA C ρ ar w → RV w (Ow C ρ ar) ρ (evA τ y) v → Src w (Ow C ρ ar) ρ z0.length m2 r2 v) (hb : Nat.ble ((0 + m2) * bytes) 140737488355328 = true)
    (har : snocN ar (.row e z0.length 1 (0 + m2) (appR 0 r2 r2)) = some (ar', id)) : OpStep P τ ar o (.row id 1) ar' := by
  intro C a w ρ hR hS
  obtain ⟨rfl, rfl⟩ := snocN_spec _ _ _ _ har
  obtain ⟨r1, q2, q3⟩ := hR.add (o := .row e z0.length 0 0 r2) (L := ⟨0, .slice none 0 0⟩) (w' := w) (Nat.le_refl _) (fun _ _ => rfl) rfl rfl rfl (fun b hb => by simp [Loc.has, Loc.more, Loc.blk] at hb)
    (fun hp => ⟨rfl, [], World.ownsRow_nil w 0 e z0.length, by simp, fun i h => by omega, fun i j x v h => by omega⟩)
  have hxv := eval_val hS hx
  have hrow : RV w (Ow C (ρ ++ [⟨0, .slice none 0 0⟩]) (ar ++ [.row e z0.length 0 0 r2])) (ρ ++ [⟨0, .slice none 0 0⟩]) (.row ar.length 0) (.slice none 0 0) :=
    .row (L := ⟨0, .slice none 0 0⟩) (by rw [List.getElem?_append_right (by rw [hR.len]; exact Nat.le_refl _)]; simp [hR.len]) (Nat.le_refl _) rfl (fun _ => rfl)
  obtain ⟨v', w', ρ', h1, h2, h3, h4, h5⟩ := rel_append (P := P) r1 (t := t) (ty := o.type) (v2 := a.eval y) (r := r2) hrow (by simp) rfl ((hsrc C w ρ _ hR (evA_ok hS y)).mono q2 q3) hb
  have hset : (ar ++ [AO.row e z0.length 0 0 r2]).set ar.length (.row e z0.length (Nat.succ 0) (0 + m2) (appR 0 r2 r2)) = ar ++ [.row e z0.length 1 (0 + m2) (appR 0 r2 r2)] := by
    rw [List.set_append_right _ _ (Nat.le_refl _)]; simp
  rw [hset] at h2 h4 h5
  exact ⟨.value v', v', w', ρ', by simp [execOp, ho, resolve, invoke, builtin, hxv, h1], .inl rfl, h2, q3.trans h3, q2.trans h4, h5⟩

theorem rel_newRow {ρ : List Loc} {w w' : World} (h : RelA C ρ ar w) (e : TypeId) {sz m : Nat} {r : Nat → List AV} {xs : List Value} (hw : w' = w.alloc (.cells xs.toArray e)) (hm : m ≤ maxLen) (hc : RowC w (Ow C ρ ar) ρ sz m r xs) :
    RelA C (ρ ++ [⟨0, .slice (some ⟨w.heap.size, 0, none⟩) m m⟩]) (ar ++ [.row e sz 0 m r]) w' ∧
      Pres w (Ow C ρ ar) w' (Ow C (ρ ++ [⟨0, .slice (some ⟨w.heap.size, 0, none⟩) m m⟩]) (ar ++ [.row e sz 0 m r])) ∧ Compat ρ (ρ ++ [⟨0, .slice (some ⟨w.heap.size, 0, none⟩) m m⟩]) := by
  subst hw
  refine h.add (w' := w.alloc (.cells xs.toArray e)) (by simp) (fun k hk => heap_alloc_old w _ hk) rfl rfl rfl (fun b hb => by simp [Loc.has, Loc.more, Loc.blk] at hb; omega) (fun hp => ⟨rfl, xs, ?_, hc.mono hp (Compat.append _ _)⟩)
  have := World.ownsRow_lit (base := 0) (e := e) (size := sz) w xs.toArray m (Nat.zero_le _) hm (by simpa using hc.len)
  simpa using this

def chunk (sz : Nat) (cs : List AV) : Nat → List AV := fun i => (cs.drop (Nat.mul i sz)).take sz

def rowPl (sz : Nat) : Nat → Option (Nat × Nat) := fun i => some (Nat.mul i sz, sz)

omit [Globs] in
theorem toList_made (z : Array Value) (n : Nat) (hp : 0 < z.size) : ∀ (j : Nat), j < n → ((Array.range n).map (z[· % z.size]!)).toList[j]? = some (z[j % z.size]'(Nat.mod_lt _ hp)) := by
  intro j hj
  have h2 : j % z.size < z.size := Nat.mod_lt _ hp
  simp [hj, h2]

def rep (zs : List AV) : Nat → List AV
  | 0 => []
  | n + 1 => zs ++ rep zs n
omit [Globs] in
theorem rep_length (zs : List AV) (n : Nat) : (rep zs n).length = n * zs.length := by
  induction n with
  | zero => simp [rep]
  | succ n ih => simp [rep, ih, Nat.add_mul]; omega
omit [Globs] in
theorem rep_get (zs : List AV) : ∀ (n i j : Nat), i < n → j < zs.length → (rep zs n)[i * zs.length + j]? = zs[j]?
  | 0, i, j, h, _ => by omega
  | n + 1, 0, j, _, hj => by rw [rep, Nat.zero_mul, Nat.zero_add, List.getElem?_append_left hj]
  | n + 1, i + 1, j, h, hj => by
    rw [rep, List.getElem?_append_right (by rw [Nat.add_mul]; omega), show (i + 1) * zs.length + j - zs.length = i * zs.length + j by rw [Nat.add_mul]; omega]
    exact rep_get zs n i j (by omega) hj

omit [Globs] in
theorem made_cells {w : World} {O : Nat → Prop} {ρ : List Loc} {zs : List AV} {z : Value} {n sz : Nat} (h1 : z.cells.toList.map .val = zs) (h2 : z.cells.toList.all (·.oneCell') = true) (hp : 0 < zs.length) (hsz : zs.length = sz) :
    Cells w O ρ (rep zs n) ((Array.range (n * sz)).map (z.cells[· % z.cells.size]!)).toList := by
  have hzl : z.cells.size = zs.length := by rw [← h1]; simp
  subst hsz
  refine ⟨by rw [rep_length]; simp, fun k x v hx hv => ?_⟩
  have hk : k < n * zs.length := by rw [← rep_length]; exact (List.getElem?_eq_some_iff.1 hx).1
  rw [toList_made _ _ (by omega) k hk] at hv
  have k1 : k / zs.length < n := Nat.div_lt_of_lt_mul (by rw [Nat.mul_comm]; exact hk)
  have k3 : k / zs.length * zs.length + k % zs.length = k := by rw [Nat.mul_comm]; exact Nat.div_add_mod k _
  have hx' := rep_get zs n (k / zs.length) (k % zs.length) k1 (Nat.mod_lt _ hp)
  rw [k3, hx] at hx'
  simp only [Option.some.injEq] at hv
  have hm : k % z.cells.size < z.cells.toList.length := by rw [Array.length_toList]; exact Nat.mod_lt _ (by omega)
  have hz : zs[k % zs.length]? = some (.val z.cells.toList[k % z.cells.size]) := by
    subst h1
    simp only [List.getElem?_map, List.length_map, Array.length_toList]
    have : k % z.cells.size < z.cells.size := by simpa using hm
    simp [this]
  rw [hz] at hx'
  cases hx'
  have hv' : v = z.cells.toList[k % z.cells.size] := by rw [← hv]; simp
  rw [← hv']
  exact ⟨.val, List.all_eq_true.1 h2 v (by rw [hv']; exact List.getElem_mem _)⟩

theorem op_buildSlice {o : Oper} {t e : TypeId} {len sz bytes id : Nat} {parts : Array (Nat × Operand)} {z0 cs : List AV} {as : List (Nat × List AV)} [he : ElT P t e] [hz : ZeroT P e z0 bytes] (ho : o.op = .buildSlice t len parts)
    (hsz : z0.length = sz) (has : partsA τ parts.toList = some as) (hc : fillA (rowPl sz) (rep z0 len) as = some cs) (hle : Nat.ble (len * sz) 16777216 = true)
    (har : snocN ar (.row e sz 0 len (chunk sz cs)) = some (ar', id)) : OpStep P τ ar o (.row id 0) ar' := by
  intro C a w ρ hR hS
  obtain ⟨rfl, rfl⟩ := snocN_spec _ _ _ _ har
  obtain ⟨i, z, z1, z2, z3, z4, z4', z5, z6, z7, z8⟩ := hz.all
  have hle' : len * sz ≤ 16777216 := by simpa [Nat.ble_eq] using hle
  have hmax : len ≤ maxLen := by
    have : len * 1 ≤ len * sz := Nat.mul_le_mul_left _ (by omega)
    simp only [maxLen]
    omega
  obtain ⟨vs', h1, h2⟩ := fill_ok (w := w) (O := Ow C ρ ar) (ρ := ρ) (place := rowPl sz) as _ (rep z0 len) cs ((Array.range (len * sz)).map (z.cells[· % z.cells.size]!)) (made_cells z5 z6 z8 hsz) (partsA_ok hS _ _ has) hc
  have hcl : cs.length = len * sz := by
    have key : ∀ (as : List (Nat × List AV)) (c0 cs : List AV), fillA (rowPl sz) c0 as = some cs → cs.length = c0.length := by
      intro as
      induction as with
      | nil => intro c0 cs h; simp [fillA] at h; rw [h]
      | cons p as ih =>
        intro c0 cs h
        obtain ⟨i, ys⟩ := p
        simp only [fillA, rowPl, Nat.mul_eq] at h
        cases hl : ys.length.beq sz with
        | false => simp [hl] at h
        | true =>
          simp only [hl] at h
          cases hsp : splice c0 (i * sz) ys with
          | none => simp [hsp] at h
          | some c1 =>
            simp only [hsp] at h
            obtain ⟨hs1, hs2⟩ := splice_spec _ _ _ _ hsp
            rw [ih _ _ h, hs2]
            simp; omega
    rw [key as _ _ hc, rep_length, hsz]
  have hrc : RowC w (Ow C ρ ar) ρ sz len (chunk sz cs) vs'.toList := by
    refine ⟨by rw [h2.1, hcl], fun i hi => ?_, fun i j x v hi hx hv => ?_⟩
    · have : i * sz + sz ≤ len * sz := by rw [← Nat.succ_mul]; exact Nat.mul_le_mul_right _ hi
      simp [chunk, hcl]; omega
    · have hx' : cs[i * sz + j]? = some x := by
        simp only [chunk, Nat.mul_eq] at hx
        rw [List.getElem?_take] at hx
        split at hx
        · rw [List.getElem?_drop] at hx; exact hx
        · cases hx
      exact h2.2 _ x v hx' hv
  obtain ⟨r1, r2, r3⟩ := rel_newRow hR e (w' := w.alloc (.cells vs' e)) rfl hmax hrc
  refine ⟨.value (.slice (some ⟨w.heap.size, 0, none⟩) len len), _, _, _, ?_, .inl rfl, r1, r3, r2, ?_⟩
  · have hparts : (parts.map fun x => (x.1, a.eval x.2)).toList = parts.toList.map fun p => (p.1, a.eval p.2) := by simp
    have hsize : i.size = sz := by rw [z4, hsz]
    have h1' : Instr.fill (fun i => some (i * sz, sz)) ((Array.range (len * sz)).map (z.cells[· % z.cells.size]!)) (parts.toList.map fun p => (p.1, a.eval p.2)) = some vs' := h1
    have hn : ¬ (16777216 < len * i.size) := by rw [hsize]; omega
    by_cases h0 : len * sz = 0
    · have hcs0 : (Array.range (len * sz)).map (z.cells[· % z.cells.size]!) = #[] := by rw [h0]; simp
      rw [hcs0] at h1'
      simp only [execOp, ho, Instr.buildSlice, Sem.run_bind, run_underlying he.h, Result.andThen_ok, sizeOf, typeInfo, run_program, z1, Sem.run_pure, hsize, hparts, h0]
      have hr0 : ∀ (f : Nat → Value), (Array.range 0).map f = #[] := fun f => by simp
      simp [hr0, h1', newRow]
    · simp only [execOp, ho, Instr.buildSlice, Sem.run_bind, run_underlying he.h, Result.andThen_ok, sizeOf, typeInfo, run_program, z1, Sem.run_pure, hsize, hparts]
      simp [h0, show ¬ 16777216 < len * sz by omega, zeroValue, typeInfo, z1, z2, h1', newRow]
  · exact .row (L := ⟨0, .slice (some ⟨w.heap.size, 0, none⟩) len len⟩) (by rw [List.getElem?_append_right (by rw [hR.len]; exact Nat.le_refl _)]; simp [hR.len]) (Nat.le_refl _) rfl (fun _ => rfl)

theorem op_makeSlice {o : Oper} {t e : TypeId} {x y : Operand} {k1 k2 : IntKind} {l : Int} {sz bytes id : Nat} {z0 : List AV} [he : ElT P t e] [hz : ZeroT P e z0 bytes] (ho : o.op = .makeSlice t x y) (hx : evA τ x = .val (.int k1 l)) (hy : evA τ y = .val (.int k2 l))
    (hsz : z0.length = sz) (h0 : (decide (0 ≤ l) && decide (l * bytes ≤ 140737488355328)) = true)
    (har : snocN ar (.row e sz 0 l.toNat (fun _ => z0)) = some (ar', id)) : OpStep P τ ar o (.row id 0) ar' := by
  intro C a w ρ hR hS
  obtain ⟨rfl, rfl⟩ := snocN_spec _ _ _ _ har
  obtain ⟨i, z, z1, z2, z3, z4, z4', z5, z6, z7, z8⟩ := hz.all
  simp only [Bool.and_eq_true, decide_eq_true_eq] at h0
  obtain ⟨h0, hb⟩ := h0
  obtain ⟨m, rfl⟩ : ∃ m : Nat, l = m := ⟨l.toNat, by omega⟩
  have hb' : (m * bytes : Nat) ≤ 140737488355328 := by rw [← Int.natCast_mul] at hb; omega
  have hmax : m ≤ 140737488355328 := by
    have : m * 1 ≤ m * bytes := Nat.mul_le_mul_left _ z7
    omega
  have hcells := made_cells (w := w) (O := Ow C ρ ar) (ρ := ρ) (n := m) z5 z6 z8 hsz
  have hrc : RowC w (Ow C ρ ar) ρ sz m (fun _ => z0) ((Array.range (m * sz)).map (z.cells[· % z.cells.size]!)).toList := by
    refine ⟨by simp, fun i hi => hsz, fun i j x v hi hx hv => ?_⟩
    have hj : j < z0.length := (List.getElem?_eq_some_iff.1 hx).1
    exact hcells.2 (i * sz + j) x v (by rw [← hsz]; rw [rep_get z0 m i j hi hj]; exact hx) hv
  obtain ⟨r1, r2, r3⟩ := rel_newRow hR e (w' := w.alloc (.cells ((Array.range (m * sz)).map (z.cells[· % z.cells.size]!)) e)) (by rw [Array.toArray_toList]) (by simp only [maxLen]; omega) hrc
  refine ⟨.value (.slice (some ⟨w.heap.size, 0, none⟩) m m), _, _, _, ?_, .inl rfl, r1, r3, r2, ?_⟩
  · have hbz : (i.bytes : Int) * (m : Int) ≤ 281474976710656 := by
      have : ((bytes * m : Nat) : Int) ≤ 281474976710656 := by rw [Nat.mul_comm]; omega
      rw [z3]; rwa [Int.natCast_mul] at this
    have hr := run_make (P := P) w t e i z he.h z1 z2 k1 k2 (m : Int) (m : Int) (by omega) (Int.le_refl _) hbz (by omega)
    have hsize : i.size = sz := by rw [z4, hsz]
    simp only [execOp, ho, eval_val hS hx, eval_val hS hy, Sem.run_bind, hr, Result.andThen_ok, Int.toNat_natCast, hsize, madeCells]
    rfl
  · exact .row (L := ⟨0, .slice (some ⟨w.heap.size, 0, none⟩) m m⟩) (by rw [List.getElem?_append_right (by rw [hR.len]; exact Nat.le_refl _)]; simp [hR.len]) (Nat.le_refl _) rfl (fun _ => rfl)

end
end Go.Iron

/- Iron: an abstract machine that goes as far as it can by itself. -/
namespace Go.Iron

variable [Globs]
def lk {α : Type} : List (Nat × α) → Nat → Option α
  | [], _ => none
  | (k, x) :: l, t => match Nat.beq t k with
    | true => some x
    | false => lk l t
inductive AllL {α : Type} (p : α → Prop) : List α → Prop
  | nil : AllL p []
  | cons {x l} : p x → AllL p l → AllL p (x :: l)
omit [Globs] in
theorem AllL.mem {α : Type} {p : α → Prop} {l : List α} (h : AllL p l) : ∀ x ∈ l, p x := by
  induction h with
  | nil => intro x hx; simp at hx
  | cons h1 _ ih => intro x hx; rcases List.mem_cons.1 hx with rfl | h'; exact h1; exact ih x h'
omit [Globs] in
theorem lk_mem {α : Type} {l : List (Nat × α)} {t : Nat} {x : α} (h : lk l t = some x) : (t, x) ∈ l := by
  induction l with
  | nil => simp [lk] at h
  | cons p l ih =>
    obtain ⟨k, y⟩ := p
    simp only [lk] at h
    cases hb : Nat.beq t k with
    | true => simp [hb] at h; subst h; rw [Nat.eq_of_beq_eq_true hb]; simp
    | false => simp [hb] at h; exact List.mem_cons_of_mem _ (ih h)

inductive EK where
  | int | bool | str
  | struct (fs : List (Nat × TypeId))
  | arr (n : Nat) (e : TypeId) (l : List (Nat × TypeId))

def EqK (P : Program) (t : TypeId) : EK → Prop
  | .int => ∃ k, P.underlying t = some (.int k)
  | .bool => P.underlying t = some .bool
  | .str => P.underlying t = some .string
  | .struct l => (∃ fs, P.underlying t = some (.struct fs) ∧ fs.toList.map (fun f => (f.offset, f.type)) = l ∧ fs.toList.all (fun f => f.name != "_") = true) ∧ P.stoodInHeld t = false ∧ P.eqGuardType P.depth t = false
  | .arr n e l => P.underlying t = some (.array n e) ∧ l = (List.range n).map (fun i => (i * P.cellsOf e, e)) ∧ (P.info? e).isSome = true ∧ P.eqGuardType P.depth t = false

structure TI where
  eqs : List (Nat × EK)
  ty : List (Nat × Nat × Bool)
  el : List (Nat × Nat)
  fld : List (Nat × List (Nat × Nat))
  zero : List (Nat × List AV × Nat)
  bools : List (Nat × Unit)
  conc : List (Nat × Unit)
  pl : List (Nat × List (Nat × Nat))

class Inf (P : Program) (I : outParam TI) : Prop where
  ty : AllL (fun p : Nat × Nat × Bool => Ty P p.1 p.2.1 p.2.2) I.ty
  el : AllL (fun p : Nat × Nat => ElT P p.1 p.2) I.el
  fld : AllL (fun p : Nat × List (Nat × Nat) => ∀ j off ft, nth p.2 j = some (off, ft) → FldT P p.1 j off ft) I.fld
  zero : AllL (fun p : Nat × List AV × Nat => ZeroT P p.1 p.2.1 p.2.2) I.zero
  bools : AllL (fun p : Nat × Unit => P.underlying p.1 = some .bool) I.bools
  conc : AllL (fun p : Nat × Unit => ConT P p.1) I.conc
  pl : AllL (fun p : Nat × List (Nat × Nat) => StrT P p.1 p.2) I.pl
  eqs : AllL (fun p : Nat × EK => EqK P p.1 p.2) I.eqs

omit [Globs] in
theorem fldAll {P : Program} {t : Nat} {l : List (Nat × Nat)} (h : ∃ fs, P.underlying t = some (.struct fs) ∧ fs.toList.map (fun f => (f.offset, f.type)) = l) : ∀ j off ft, nth l j = some (off, ft) → FldT P t j off ft := by
  obtain ⟨fs, h1, rfl⟩ := h
  intro j off ft hj
  rw [nth_eq, List.getElem?_map] at hj
  cases hf : fs.toList[j]? with
  | none => simp [hf] at hj
  | some f =>
    simp [hf] at hj
    exact ⟨⟨fs, f, h1, by simpa using hf, hj.1, hj.2⟩⟩

abbrev Ob := List (Bool × Bool)
def Obs (l : Ob) : Prop := ∀ p ∈ l, p.1 = true → p.2 = true
omit [Globs] in
theorem obs_nil : Obs [] := fun p h => by simp at h
omit [Globs] in
theorem obs_same {c : Bool} {l : Ob} (h : Obs l) : Obs ((c, c) :: l) := fun p hp => by
  rcases List.mem_cons.1 hp with rfl | h'
  · exact fun z => z
  · exact h p h'
omit [Globs] in
theorem obs_and {c d : Bool} {l : Ob} (h : Obs l) : Obs ((c && d, c) :: l) := fun p hp => by
  rcases List.mem_cons.1 hp with rfl | h'
  · intro z; simp at z; exact z.1
  · exact h p h'
omit [Globs] in
theorem obs_by {c d : Bool} {l : Ob} (h' : c = true → d = true) (h : Obs l) : Obs ((c, d) :: l) := fun p hp => by
  rcases List.mem_cons.1 hp with rfl | h''
  · exact h'
  · exact h p h''

def IntKind.idx : IntKind → Nat
  | .i8 => 0 | .i16 => 1 | .i32 => 2 | .i64 => 3 | .u8 => 4 | .u16 => 5 | .u32 => 6 | .u64 => 7
omit [Globs] in
theorem IntKind.idx_inj {k k' : IntKind} (h : Nat.beq (IntKind.idx k) (IntKind.idx k') = true) : k = k' := by
  cases k <;> cases k' <;> first | rfl | simp [IntKind.idx] at h

def frc : AV → Option AV
  | .bad => none
  | .val v => some (.val v)
  | .agg cs => some (.agg cs)
  | .tup cs => some (.tup cs)
  | .slc a b c d => some (.slc a b c d)
  | .loc a b => some (.loc a b)
  | .ptr a b c => some (.ptr a b c)
  | .row a b => some (.row a b)
  | .elt a b c d e => some (.elt a b c d e)
  | .fn a b => some (.fn a b)
  | .bnd a b => some (.bnd a b)
  | .ifc a b => some (.ifc a b)
  | .opt a b => some (.opt a b)
  | .yld a => some (.yld a)
  | .mem a b c => some (.mem a b c)
omit [Globs] in
theorem frc_eq {x y : AV} (h : frc x = some y) : y = x := by cases x <;> simp [frc] at h <;> exact h.symm

def nz : Int → Bool
  | .ofNat 0 => false
  | _ => true
omit [Globs] in
theorem nz_ne {q : Int} (h : nz q = true) : q ≠ 0 := by
  intro e
  subst e
  simp [nz] at h

def eqFs (I : TI) (E : TypeId → AV → AV → Option Bool) (xs ys : List AV) : List (Nat × TypeId) → Option Bool
  | [] => some true
  | (off, ft) :: l => match lk I.ty ft with
    | none => none
    | some (sz, ag) => match loadA ag sz xs off with
      | none => none
      | some a => match loadA ag sz ys off with
        | none => none
        | some b => match E ft a b with
          | none => none
          | some r => match eqFs I E xs ys l with
            | none => none
            | some s => some (r && s)

def eqA (I : TI) : Nat → TypeId → AV → AV → Option Bool
  | 0, _, _, _ => none
  | d + 1, t, x, y => match lk I.eqs t with
    | none => none
    | some .int => match x with
      | .val (.int k p) => match y with
        | .val (.int k' q) => match Nat.beq (IntKind.idx k) (IntKind.idx k') with
          | true => some (p == q)
          | false => none
        | _ => none
      | _ => none
    | some .bool => match x with
      | .val (.bool p) => match y with
        | .val (.bool q) => some (p == q)
        | _ => none
      | _ => none
    | some .str => match x with
      | .val (.string p) => match y with
        | .val (.string q) => some (p.toList == q.toList)
        | _ => none
      | _ => none
    | some (.struct fs) => match x with
      | .agg xs => match y with
        | .agg ys => eqFs I (fun ft a b => eqA I d ft a b) xs ys fs
        | _ => none
      | _ => none
    | some (.arr _ _ fs) => match x with
      | .agg xs => match y with
        | .agg ys => eqFs I (fun ft a b => eqA I d ft a b) xs ys fs
        | _ => none
      | _ => none

def binP (I : TI) (op : BinOp) (xt : TypeId) : AV → AV → Option (AV × Ob)
  | .val (.int k p), .val (.int k' q) => match Nat.beq (IntKind.idx k) (IntKind.idx k') with
    | false => none
    | true => match op with
      | .quo => some (.val (.int k (k.wrap (p.tdiv q))), [(true, nz q)])
      | .rem => some (.val (.int k (p.tmod q)), [(true, nz q)])
      | op => match arithV op k p q with
        | some v => some (.val v, [])
        | none => none
  | .val (.bool p), .val (.bool q) => match lk I.bools xt with
    | none => none
    | some _ => match op with
      | .eql => some (.val (.bool (p == q)), [])
      | .neq => some (.val (.bool (!(p == q))), [])
      | _ => none
  | .val (.string p), .val (.string q) => match op with
    | .eql => some (.val (.bool (p.toList == q.toList)), [])
    | .neq => some (.val (.bool (!(p.toList == q.toList))), [])
    | _ => none
  | .slc _ (some b) _ _, .val (.slice none 0 0) => match lk I.el xt with
    | none => none
    | some _ => match op with
      | .eql => some (.val (.bool b), [])
      | .neq => some (.val (.bool (!b)), [])
      | _ => none
  | .agg xs, .agg ys => match op with
    | .eql => match eqA I 20 xt (.agg xs) (.agg ys) with
      | some b => some (.val (.bool b), [])
      | none => none
    | .neq => match eqA I 20 xt (.agg xs) (.agg ys) with
      | some b => some (.val (.bool (!b)), [])
      | none => none
    | _ => none
  | _, _ => none

def rowP (ar : List AO) (id ver : Nat) : Option (TypeId × Nat × Nat × (Nat → List AV) × Bool) :=
  match nth ar id with
  | some (.row e sz v m r) => some (e, sz, m, r, Nat.beq v ver)
  | _ => none

def lenP (I : TI) (ar : List AO) (t : TypeId) : AV → Option (AV × Ob)
  | .slc _ _ m _ => match lk I.el t with
    | some _ => some (.val (.int .i64 m), [])
    | none => none
  | .row id ver => match lk I.el t with
    | some _ => match rowP ar id ver with
      | some (_, _, m, _, ok) => some (.val (.int .i64 m), [(true, ok)])
      | none => none
    | none => none
  | .val (.slice none 0 _) => match lk I.el t with
    | some _ => some (.val (.int .i64 0), [])
    | none => none
  | _ => none

def objP (ar : List AO) (id ver : Nat) : Option (AO × List AV) :=
  match nth ar id with
  | none => none
  | some ob => match ob.cells with
    | none => none
    | some (v, cs) => match Nat.beq v ver with
      | true => some (ob, cs)
      | false => none

def execP (I : TI) (τ : Nat → AV) (ar : List AO) : Op → Option (AV × Ob)
  | .move y | .assign y => match frc (evA τ y) with
    | some x => some (x, [])
    | none => none
  | .pick c y z => match evA τ c with
    | .val (.bool b) => match evA τ y with
      | .val (.bool p) => match evA τ z with
        | .val (.bool q) => some (.val (.bool (if b then p else q)), [])
        | .opt c' (.val (.bool q)) => some (.val (.bool (if b then p else q)), [(b == false, c')])
        | _ => none
      | .opt c' (.val (.bool p)) => match evA τ z with
        | .val (.bool q) => some (.val (.bool (if b then p else q)), [(b == true, c')])
        | _ => none
      | _ => none
    | _ => none
  | .binOp op xt x y _ => binP I op xt (evA τ x) (evA τ y)
  | .unOp .not _ x => match evA τ x with
    | .val (.bool b) => some (.val (.bool (!b)), [])
    | _ => none
  | .unOp .neg _ x => match evA τ x with
    | .val (.int k p) => some (.val (.int k (k.wrap (0 - p))), [])
    | _ => none
  | .extract x j => match evA τ x with
    | .tup l => match nth l j with
      | some y => match frc y with
        | some y => some (y, [])
        | none => none
      | none => none
    | _ => none
  | .call { callee := .builtin .len, args, argTypes } => match args.toList, argTypes.toList with
    | [x], [t] => lenP I ar t (evA τ x)
    | _, _ => none
  | .load t p => match lk I.ty t with
    | none => none
    | some (sz, ag) => match evA τ p with
      | .loc cs off => match loadA ag sz cs off with
        | some y => match frc y with
          | some y => some (y, [])
          | none => none
        | none => none
      | .ptr id ver off => match objP ar id ver with
        | some (_, cs) => match loadA ag sz cs off with
          | some y => match frc y with
            | some y => some (y, [])
            | none => none
          | none => none
        | none => none
      | .elt id ver sz2 i off => match rowP ar id ver with
        | some (_, sz', m, r, ok) => match Nat.beq sz' sz2 with
          | true => match loadA ag sz (r i) off with
            | some y => match frc y with
              | some y => some (y, [(true, inB i m), (true, ok)])
              | none => none
            | none => none
          | false => none
        | none => none
      | _ => none
  | .indexAddr t x y => match lk I.el t with
    | none => none
    | some e => match lk I.ty e with
      | none => none
      | some (sz, _) => match evA τ y with
        | .val (.int _ i) => match evA τ x with
          | .slc sz' _ m r => match Nat.beq sz' sz with
            | true => some (.loc (r i.toNat) 0, [(true, inB i m)])
            | false => none
          | .row id ver => match rowP ar id ver with
            | some (_, sz', m, _, ok) => match Nat.beq sz' sz with
              | true => some (.elt id ver sz i.toNat 0, [(true, inB i m), (true, ok)])
              | false => none
            | none => none
          | _ => none
        | _ => none
  | .fieldAddr t x j => match lk I.fld t with
    | none => none
    | some fs => match nth fs j with
      | none => none
      | some (off, ft) => match lk I.ty ft with
        | none => none
        | some (sz, _) => match Nat.beq sz 0 with
          | true => none
          | false => match evA τ x with
            | .loc cs o1 => some (.loc cs (Nat.add o1 off), [])
            | .ptr id ver o1 => match objP ar id ver with
              | some _ => some (.ptr id ver (Nat.add o1 off), [])
              | none => none
            | .elt id ver sze i o1 => match rowP ar id ver with
              | some (_, sz', _, _, ok) => match Nat.beq sz' sze with
                | true => some (.elt id ver sze i (Nat.add o1 off), [(true, ok)])
                | false => none
              | none => none
            | _ => none
  | .field t x j => match lk I.fld t with
    | none => none
    | some fs => match nth fs j with
      | none => none
      | some (off, ft) => match lk I.ty ft with
        | none => none
        | some (sz, ag) => match evA τ x with
          | .agg cs => match loadA ag sz cs off with
            | some y => match frc y with
              | some y => some (y, [])
              | none => none
            | none => none
          | _ => none
  | .build t parts => match lk I.zero t, lk I.pl t with
    | some (z0, _), some pl => match partsA τ parts.toList with
      | some as => match fillA (nth pl) z0 as with
        | some cs => some (.agg cs, [])
        | none => none
      | none => none
    | _, _ => none
  | .makeFunc g first capt => match first.toList with
    | [] => some (.fn g (evAs τ capt.toList), [])
    | _ => none
  | .makeInterface t x => match lk I.conc t with
    | some _ => match frc (evA τ x) with
      | some y => some (.ifc t y, [])
      | none => none
    | none => none
  | _ => none

def setR (r : Nat → List AV) (i : Nat) (ys : List AV) : Nat → List AV := fun k => match Nat.beq k i with
  | true => ys
  | false => r k
omit [Globs] in
theorem setR_self {r : Nat → List AV} {i : Nat} {ys : List AV} : setR r i ys i = ys := by simp [setR]
omit [Globs] in
theorem setR_ne {r : Nat → List AV} {i k : Nat} {ys : List AV} (h : k ≠ i) : setR r i ys k = r k := by
  have : Nat.beq k i = false := by rw [Bool.eq_false_iff]; simp [h]
  simp [setR, this]

def srcP (ar : List AO) (sz : Nat) : AV → Option (Nat × (Nat → List AV) × Bool)
  | .slc sz' _ m r => match Nat.beq sz' sz with
    | true => some (m, r, true)
    | false => none
  | .row id ver => match rowP ar id ver with
    | some (_, sz', m, r, ok) => match Nat.beq sz' sz with
      | true => some (m, r, ok)
      | false => none
    | none => none
  | .val (.slice none 0 0) => some (0, fun _ => [], true)
  | _ => none

def execM (I : TI) (τ : Nat → AV) (ar : List AO) : Op → Option (AV × List AO × Ob)
  | .box e y => match cellsA (evA τ y) with
    | some cs => match snocN ar (.box e cs) with
      | some (ar', id) => some (.ptr id 0 0, ar', [])
      | none => none
    | none => none
  | .alloc e => match lk I.zero e with
    | some (cs, _) => match snocN ar (.box e cs) with
      | some (ar', id) => some (.ptr id 0 0, ar', [])
      | none => none
    | none => none
  | .store t p y => match lk I.ty t with
    | none => none
    | some (sz, _) => match evA τ p with
      | .ptr id ver off => match objP ar id ver with
        | some (ob, cs) => match cellsA (evA τ y) with
          | some ys => match Nat.beq ys.length sz with
            | true => match splice cs off ys with
              | some cs' => match ob with
                | .box e _ => match setN ar id (.box e cs') with
                  | some ar' => some (.val undef, ar', [])
                  | none => none
                | _ => none
              | none => none
            | false => none
          | none => none
        | none => none
      | .elt id ver szr i off => match rowP ar id ver with
        | some (e, szr', m, r, ok) => match Nat.beq szr' szr with
          | false => none
          | true => match cellsA (evA τ y) with
            | some ys => match Nat.beq ys.length sz with
              | true => match splice (r i) off ys with
                | some cs' => match setN ar id (.row e szr' ver m (setR r i cs')) with
                  | some ar' => some (.val undef, ar', [(true, inB i m), (true, ok)])
                  | none => none
                | none => none
              | false => none
            | none => none
        | none => none
      | _ => none
  | .buildSlice t len parts => match lk I.el t with
    | none => none
    | some e => match lk I.zero e with
      | none => none
      | some (z0, _) => match partsA τ parts.toList with
        | none => none
        | some as => match fillA (rowPl z0.length) (rep z0 len) as with
          | none => none
          | some cs => match Nat.ble (len * z0.length) 16777216 with
            | false => none
            | true => match snocN ar (.row e z0.length 0 len (chunk z0.length cs)) with
              | some (ar', id) => some (.row id 0, ar', [])
              | none => none
  | .makeSlice t x y => match lk I.el t with
    | none => none
    | some e => match lk I.zero e with
      | none => none
      | some (z0, bytes) => match evA τ x with
        | .val (.int _ l) => match evA τ y with
          | .val (.int _ l') => match snocN ar (.row e z0.length 0 l.toNat (fun _ => z0)) with
            | some (ar', id) => some (.row id 0, ar', [(true, decide (l' = l)), (true, decide (0 ≤ l) && decide (l * bytes ≤ 140737488355328))])
            | none => none
          | _ => none
        | _ => none
  | .call { callee := .builtin .append, args, argTypes } => match args.toList with
    | [x, y] => match argTypes.toList with
      | [t, t'] => match Nat.beq t t' with
        | false => none
        | true => match lk I.el t with
          | none => none
          | some e => match lk I.zero e with
            | none => none
            | some (z0, bytes) => match evA τ x with
              | .row id ver => match rowP ar id ver with
                | none => none
                | some (e', sz, m, r, ok) => match Nat.beq e' e with
                  | false => none
                  | true => match Nat.beq sz z0.length with
                    | false => none
                    | true => match srcP ar z0.length (evA τ y) with
                      | none => none
                      | some (m2, r2, ok2) => match setN ar id (.row e' sz (Nat.succ ver) (m + m2) (appR m r r2)) with
                        | some ar' => some (.row id (Nat.succ ver), ar', [(true, ok), (true, ok2), (true, Nat.ble ((m + m2) * bytes) 140737488355328)])
                        | none => none
              | .val (.slice none 0 0) => match srcP ar z0.length (evA τ y) with
                | none => none
                | some (m2, r2, ok2) => match snocN ar (.row e z0.length 1 (0 + m2) (appR 0 r2 r2)) with
                  | some (ar', id) => some (.row id 1, ar', [(true, ok2), (true, Nat.ble ((0 + m2) * bytes) 140737488355328)])
                  | none => none
              | _ => none
      | _ => none
    | _ => none
  | _ => none

section
variable {P : Program} {f n : Nat} {C : Cx} {τ τ' : Nat → AV} {ar ar' : List AO} {k todo : List Item} {Q : Out → List AO → Prop} {ops : Array Oper} {I : TI}

omit [Globs] in
theorem objP_spec {id ver : Nat} {ob : AO} {cs : List AV} (h : objP ar id ver = some (ob, cs)) : nth ar id = some ob ∧ ob.cells = some (ver, cs) := by
  unfold objP at h
  cases h1 : nth ar id with
  | none => simp [h1] at h
  | some o =>
    cases h2 : o.cells with
    | none => simp [h1, h2] at h
    | some p =>
      obtain ⟨v, c⟩ := p
      cases h3 : Nat.beq v ver with
      | false => simp [h1, h2, h3] at h
      | true =>
        simp [h1, h2, h3] at h
        obtain ⟨rfl, rfl⟩ := h
        rw [Nat.eq_of_beq_eq_true h3] at h2
        exact ⟨rfl, h2⟩

omit [Globs] in
theorem rowP_spec {id ver : Nat} {e sz m : Nat} {r : Nat → List AV} {ok : Bool} (h : rowP ar id ver = some (e, sz, m, r, ok)) (hok : ok = true) : nth ar id = some (.row e sz ver m r) := by
  unfold rowP at h
  split at h
  · rename_i e' sz' v m' r' h1
    simp only [Option.some.injEq, Prod.mk.injEq] at h
    obtain ⟨rfl, rfl, rfl, rfl, rfl⟩ := h
    rw [h1, Nat.eq_of_beq_eq_true hok]
  · cases h

theorem op_pickOr' {o : Oper} {c y z : Operand} {b p q c' : Bool} (ho : o.op = .pick c y z) (hc : evA τ c = .val (.bool b)) (hy : evA τ y = .val (.bool p)) (hz : evA τ z = .opt c' (.val (.bool q))) (hi : (b == false) = true → c' = true) :
    OpStep P τ ar o (.val (.bool (if b then p else q))) ar :=
  opStep_same fun C a w ρ _ h => ⟨.bool (if b then p else q), by
    have hv := evA_ok h z
    rw [hz] at hv
    cases b with
    | true => simp [execOp, ho, eval_val h hc, eval_val h hy, asBool]
    | false => have := rv_val (rv_opt hv (hi rfl)); simp [execOp, ho, eval_val h hc, this, asBool], .val⟩
theorem op_pickAnd' {o : Oper} {c y z : Operand} {b p q c' : Bool} (ho : o.op = .pick c y z) (hc : evA τ c = .val (.bool b)) (hy : evA τ y = .opt c' (.val (.bool p))) (hz : evA τ z = .val (.bool q)) (hi : (b == true) = true → c' = true) :
    OpStep P τ ar o (.val (.bool (if b then p else q))) ar :=
  opStep_same fun C a w ρ _ h => ⟨.bool (if b then p else q), by
    have hv := evA_ok h y
    rw [hy] at hv
    cases b with
    | true => have := rv_val (rv_opt hv (hi rfl)); simp [execOp, ho, eval_val h hc, this, asBool]
    | false => simp [execOp, ho, eval_val h hc, eval_val h hz, asBool], .val⟩

omit [Globs] in
theorem part_ok {w : World} {O : Nat → Prop} {ρ : List Loc} {ft : TypeId} {off sz : Nat} {ag : Bool} [ht : Ty P ft sz ag] {cs : List AV} {y : AV} {v : Value} (hv : RV w O ρ (.agg cs) v) (hy : loadA ag sz cs off = some y) :
    ∃ vs u, v = .agg vs ∧ (part ft vs off).run P w = .ok u w ∧ RV w O ρ y u := by
  obtain ⟨vs, e1, e2, e3, e4⟩ := rv_agg hv
  have hp : ∃ v, (part ft vs off).run P w = .ok v w ∧ RV w O ρ y v := by
    cases ag with
    | false =>
      simp only [loadA, nth_eq] at hy
      have hi : off < vs.size := by rw [← e2]; exact (List.getElem?_eq_some_iff.1 hy).1
      refine ⟨vs[off], ?_, e3 off y _ hy (by simp [hi])⟩
      simp [part, isAgg_run (P := P) (t := ft) (sz := sz) (ag := false), hi]
    | true =>
      simp only [loadA] at hy
      cases hs : sub cs off sz with
      | none => simp [hs] at hy
      | some r =>
        simp [hs] at hy
        subst hy
        obtain ⟨hl, hr⟩ := sub_spec cs off sz r hs
        have hfit : ∀ j, j < sz → off + j < vs.size := fun j hj => by
          have : cs[off + j]? = r[j]? := hr j hj
          have hjr : j < r.length := by omega
          rw [List.getElem?_eq_getElem hjr] at this
          rw [← e2]; exact (List.getElem?_eq_some_iff.1 this).1
        refine ⟨.agg (vs.extract off (off + sz)), ?_, ?_⟩
        · simp [part, isAgg_run (P := P) (t := ft) (sz := sz) (ag := true), sizeOf_run (P := P) (t := ft) (sz := sz) (ag := true)]
        · have hsz : sz = 0 ∨ off + sz ≤ vs.size := by
            rcases Nat.eq_zero_or_pos sz with h0 | h0
            · exact .inl h0
            · have := hfit (sz - 1) (by omega); right; omega
          have hel : ∀ (i : Nat) v, (vs.extract off (off + sz))[i]? = some v → i < sz ∧ vs[off + i]? = some v := fun i v hv => by
            have hi := (Array.getElem?_eq_some_iff.1 hv).1
            simp at hi
            have : i < sz := by omega
            refine ⟨this, ?_⟩
            rw [Array.getElem?_extract, if_pos hi] at hv
            exact hv
          refine .agg ?_ (fun i x v hx hv => ?_) (fun i v hv => ?_)
          · rw [hl]; simp; rcases hsz with h0 | h0 <;> omega
          · obtain ⟨hi, hv'⟩ := hel i v hv
            exact e3 (off + i) x v (by rw [hr i hi]; exact hx) hv'
          · obtain ⟨hi, hv'⟩ := hel i v hv
            exact e4 _ _ hv'
  obtain ⟨u, h1, h2⟩ := hp
  exact ⟨vs, u, e1, h1, h2⟩

omit [Globs] in
theorem eqA_ok [hI : Inf P I] {w : World} {O : Nat → Prop} {ρ : List Loc} : ∀ (d : Nat) (t : TypeId) (x y : AV) (b : Bool), eqA I d t x y = some b → ∀ v u, RV w O ρ x v → RV w O ρ y u → ∀ D, d ≤ D → (Op.equalIn D t v u).run P w = .ok b w
  | 0, _, _, _, _, h => by simp [eqA] at h
  | d + 1, t, x, y, b, h => by
    intro v u hx hy D hD
    obtain ⟨D, rfl⟩ : ∃ D', D = D' + 1 := ⟨D - 1, by omega⟩
    unfold eqA at h
    split at h
    · cases h
    · rename_i hk
      obtain ⟨k, hk⟩ : ∃ k, P.underlying t = some (.int k) := hI.eqs.mem _ (lk_mem hk)
      split at h
      · split at h
        · split at h
          · rename_i hid
            have := IntKind.idx_inj hid
            subst this
            cases h
            rw [rv_val hx, rv_val hy]
            exact run_equalIn_int w D t _ k _ _ hk
          · cases h
        · cases h
      · cases h
    · rename_i hk
      have hk : P.underlying t = some .bool := hI.eqs.mem _ (lk_mem hk)
      split at h
      · split at h
        · cases h
          rw [rv_val hx, rv_val hy]
          exact run_equalIn_bool' w D t _ _ hk
        · cases h
      · cases h
    · rename_i hk
      have hk : P.underlying t = some .string := hI.eqs.mem _ (lk_mem hk)
      split at h
      · split at h
        · cases h
          rw [rv_val hx, rv_val hy]
          exact run_equalIn_string w D t _ _ hk
        · cases h
      · cases h
    · rename_i fs hk
      obtain ⟨⟨fl, f1, f2, f3⟩, hst, _⟩ : EqK P t (.struct fs) := hI.eqs.mem _ (lk_mem hk)
      split at h
      · split at h
        · rename_i xs ys
          obtain ⟨vs, rfl, _⟩ := rv_agg hx
          obtain ⟨us, rfl, _⟩ := rv_agg hy
          have hfo : P.fieldsOf t = fl := by simp [Program.fieldsOf, f1]
          rw [run_equalIn_struct w D t vs us (by rw [hfo]; exact f1) hst, hfo]
          clear hk f1 hfo
          revert f2 f3
          generalize fl.toList = l
          intro f2 f3
          induction l generalizing fs b with
          | nil =>
            simp at f2
            subst f2
            simp [eqFs] at h
            subst h
            simp [Op.eqFields]
          | cons f l ih =>
            cases fs with
            | nil => simp at f2
            | cons p fs =>
              simp only [List.map_cons, List.cons.injEq] at f2
              obtain ⟨rfl, f2⟩ := f2
              simp only [List.all_cons, Bool.and_eq_true, bne_iff_ne] at f3
              simp only [eqFs] at h
              split at h
              · cases h
              · rename_i sz ag hty
                haveI : Ty P f.type sz ag := hI.ty.mem _ (lk_mem hty)
                split at h
                · cases h
                · rename_i a ha
                  split at h
                  · cases h
                  · rename_i b' hb
                    split at h
                    · cases h
                    · rename_i r hr
                      split at h
                      · cases h
                      · rename_i s hs
                        cases h
                        obtain ⟨vs', va, e1, p1, p2⟩ := part_ok (P := P) (ft := f.type) hx ha
                        cases e1
                        obtain ⟨us', ua, e1, q1, q2⟩ := part_ok (P := P) (ft := f.type) hy hb
                        cases e1
                        have hE := eqA_ok d f.type a b' r hr va ua p2 q2 D (by omega)
                        have hrest := ih s fs hs f2 f3.2
                        have hn : (f.name ≠ "_") = True := eq_true f3.1
                        simp only [Op.eqFields, hn, if_true, Sem.run_bind, p1, q1, hE, Result.andThen_ok, Sem.run_ite]
                        cases r
                        · simp
                        · simpa using hrest
        · cases h
      · cases h
    · rename_i n e fs hk
      obtain ⟨f1, f2, f3, _⟩ : EqK P t (.arr n e fs) := hI.eqs.mem _ (lk_mem hk)
      obtain ⟨info, f3⟩ := Option.isSome_iff_exists.1 f3
      split at h
      · split at h
        · rename_i xs ys
          obtain ⟨vs, rfl, _⟩ := rv_agg hx
          obtain ⟨us, rfl, _⟩ := rv_agg hy
          rw [run_equalIn_array w D vs us f1 f3]
          clear hk f1
          revert f2
          generalize List.range n = l
          intro f2
          subst f2
          induction l generalizing b with
          | nil =>
            simp [eqFs] at h
            subst h
            simp [Op.eqItems]
          | cons j l ih =>
            simp only [List.map_cons, eqFs] at h
            split at h
            · cases h
            · rename_i sz ag hty
              haveI : Ty P e sz ag := hI.ty.mem _ (lk_mem hty)
              split at h
              · cases h
              · rename_i a ha
                split at h
                · cases h
                · rename_i b' hb
                  split at h
                  · cases h
                  · rename_i r hr
                    split at h
                    · cases h
                    · rename_i s hs
                      cases h
                      obtain ⟨vs', va, e1, p1, p2⟩ := part_ok (P := P) (ft := e) hx ha
                      cases e1
                      obtain ⟨us', ua, e1, q1, q2⟩ := part_ok (P := P) (ft := e) hy hb
                      cases e1
                      have hE := eqA_ok d e a b' r hr va ua p2 q2 D (by omega)
                      have hrest := ih s hs
                      simp only [Op.eqItems, Sem.run_bind, p1, q1, hE, Result.andThen_ok, Sem.run_ite]
                      cases r
                      · simp
                      · simpa using hrest
        · cases h
      · cases h

theorem op_eqAgg [hI : Inf P I] {o : Oper} {xt yt : TypeId} {x y : Operand} {xs ys : List AV} {b : Bool} (hb : eqA I 20 xt (.agg xs) (.agg ys) = some b) (hx : evA τ x = .agg xs) (hy : evA τ y = .agg ys) :
    (o.op = .binOp .eql xt x y yt → OpStep P τ ar o (.val (.bool b)) ar) ∧ (o.op = .binOp .neq xt x y yt → OpStep P τ ar o (.val (.bool (!b))) ar) := by
  have hg : P.eqGuardType P.depth xt = false := by
    unfold eqA at hb
    split at hb
    · cases hb
    · simp at hb
    · simp at hb
    · simp at hb
    · rename_i fs hk
      obtain ⟨_, _, h⟩ : EqK P xt (.struct fs) := hI.eqs.mem _ (lk_mem hk)
      exact h
    · rename_i n e fs hk
      obtain ⟨_, _, _, h⟩ : EqK P xt (.arr n e fs) := hI.eqs.mem _ (lk_mem hk)
      exact h
  constructor
  all_goals
    intro ho
    refine opStep_same fun C a w ρ hR h => ?_
    have hv := evA_ok h x
    have hu := evA_ok h y
    rw [hx] at hv
    rw [hy] at hu
    obtain ⟨vs, e1, _⟩ := rv_agg hv
    obtain ⟨us, e2, _⟩ := rv_agg hu
    have hE := eqA_ok (P := P) 20 xt _ _ b hb _ _ hv hu 10000 (by omega)
    rw [e1, e2] at hE
  · refine ⟨.bool b, ?_, .val⟩
    simp only [execOp, ho, e1, e2, Sem.run_bind, run_eqGuard_agg w .eql xt x y vs us hg, Result.andThen_ok, run_eql_struct, hE]
    rfl
  · refine ⟨.bool (!b), ?_, .val⟩
    simp only [execOp, ho, e1, e2, Sem.run_bind, run_eqGuard_agg w .neq xt x y vs us hg, Result.andThen_ok, run_neq_struct, hE]
    rfl

theorem op_eqNil {o : Oper} {xt yt e : TypeId} {x y : Operand} {sz m : Nat} {b : Bool} {r : Nat → List AV} (he : P.underlying xt = some (.slice e)) (hx : evA τ x = .slc sz (some b) m r) (hy : evA τ y = .val (.slice none 0 0)) :
    (o.op = .binOp .eql xt x y yt → OpStep P τ ar o (.val (.bool b)) ar) ∧ (o.op = .binOp .neq xt x y yt → OpStep P τ ar o (.val (.bool (!b))) ar) := by
  have key : ∀ (d : Nat) (w : World) (A : Option Addr) (n cap : Nat), (Op.equalIn (d + 1) xt (.slice A n cap) (.slice none 0 0)).run P w = .ok A.isNone w := by
    intro d w A n cap
    cases A <;> simp [Op.equalIn, run_underlying he]
  constructor
  all_goals
    intro ho
    refine opStep_same fun C a w ρ hR h => ?_
    have hv := evA_ok h x
    rw [hx] at hv
    obtain ⟨A, cap, g, e1, _, _, hb, _⟩ := rv_slc hv
    have hb' := hb b rfl
    subst hb'
    have hg : ∀ op, (eqGuard op xt x y (.slice A m cap) (.slice none 0 0)).run P w = .ok () w := fun op => by unfold eqGuard; cases op <;> rfl
    obtain ⟨q1, q2⟩ := run_binEq (P := P) (w := w) (t := xt) (x := .slice A m cap) (y := .slice none 0 0) rfl (key 9999 w A m cap)
  · exact ⟨_, by simp only [execOp, ho, e1, eval_val h hy, Sem.run_bind, hg, q1, Result.andThen_ok]; rfl, .val⟩
  · exact ⟨_, by simp only [execOp, ho, e1, eval_val h hy, Sem.run_bind, hg, q2, Result.andThen_ok]; rfl, .val⟩

theorem binP_ok [hI : Inf P I] {o : Oper} {op : BinOp} {xt yt : TypeId} {x y : Operand} {v : AV} {ob : Ob} (ho : o.op = .binOp op xt x y yt) (h : binP I op xt (evA τ x) (evA τ y) = some (v, ob)) (hob : Obs ob) : OpStep P τ ar o v ar := by
  unfold binP at h
  split at h
  · rename_i k p k' q hx hy
    split at h
    · cases h
    · rename_i hk
      have := IntKind.idx_inj hk
      subst this
      split at h
      · cases h
        exact op_quo ho hx hy (nz_ne (hob _ (List.mem_singleton.2 rfl) rfl))
      · cases h
        exact op_rem ho hx hy (nz_ne (hob _ (List.mem_singleton.2 rfl) rfl))
      · split at h
        · rename_i hv
          cases h
          exact op_arith ho hx hy hv
        · cases h
  · rename_i p q hx hy
    split at h
    · cases h
    · rename_i hb
      have ht := hI.bools.mem _ (lk_mem hb)
      split at h
      · cases h; exact op_eqBool ht ho hx hy
      · cases h; exact op_neBool ht ho hx hy
      · cases h
  · rename_i p q hx hy
    split at h
    · cases h; exact op_eqStr ho hx hy
    · cases h; exact op_neStr ho hx hy
    · cases h
  · rename_i sz b m r hx hy
    split at h
    · cases h
    · rename_i e he
      have he' := (hI.el.mem _ (lk_mem he)).h
      split at h
      · cases h; exact (op_eqNil (P := P) he' hx hy).1 ho
      · cases h; exact (op_eqNil (P := P) he' hx hy).2 ho
      · cases h
  · rename_i xs ys hx hy
    split at h
    · split at h
      · rename_i b hb; cases h; exact (op_eqAgg (P := P) hb hx hy).1 ho
      · cases h
    · split at h
      · rename_i b hb; cases h; exact (op_eqAgg (P := P) hb hx hy).2 ho
      · cases h
    · cases h
  · cases h

theorem execP_ok [hI : Inf P I] {o : Oper} {x : AV} {ob : Ob} (h : execP I τ ar o.op = some (x, ob)) (hob : Obs ob) : OpStep P τ ar o x ar := by
  unfold execP at h
  split at h
  · rename_i y ho
    split at h
    · rename_i x' hx; cases h; exact op_mv (.inl ho) (frc_eq hx).symm
    · cases h
  · rename_i y ho
    split at h
    · rename_i x' hx; cases h; exact op_mv (.inr ho) (frc_eq hx).symm
    · cases h
  · rename_i c y z ho
    split at h
    · rename_i b hc
      split at h
      · rename_i p hy
        split at h
        · rename_i q hz; cases h; exact op_pickB ho hc hy hz
        · rename_i c' q hz; cases h; exact op_pickOr' ho hc hy hz (hob (b == false, c') (List.mem_singleton.2 rfl))
        · cases h
      · rename_i c' p hy
        split at h
        · rename_i q hz; cases h; exact op_pickAnd' ho hc hy hz (hob (b == true, c') (List.mem_singleton.2 rfl))
        · cases h
      · cases h
    · cases h
  · rename_i op xt x y yt ho
    exact binP_ok ho h hob
  · rename_i xt x ho
    split at h
    · rename_i b hx; cases h; exact op_not ho hx
    · cases h
  · rename_i xt x ho
    split at h
    · rename_i b hx; cases h; exact op_neg ho hx
    · cases h
  · rename_i x j ho
    split at h
    · rename_i l hx
      split at h
      · rename_i y hy
        split at h
        · rename_i y' hf; cases h; rw [frc_eq hf]; exact op_extract ho hx hy
        · cases h
      · cases h
    · cases h
  · rename_i args argTypes ho
    split at h
    · rename_i x t ha ht
      have ha' : args = #[x] := by cases args; simp_all
      have ht' : argTypes = #[t] := by cases argTypes; simp_all
      subst ha'
      subst ht'
      unfold lenP at h
      split at h
      · rename_i sz nl l hx
        split at h
        · rename_i e he
          cases h
          haveI := hI.el.mem _ (lk_mem he)
          exact op_len_slc (P := P) (t := t) (e := e) ho hx
        · cases h
      · rename_i id ver hx
        split at h
        · rename_i e he
          haveI := hI.el.mem _ (lk_mem he)
          split at h
          · rename_i e' sz' m r ok hrw
            cases h
            exact op_len_row (P := P) (t := t) (e := e) ho hx (rowP_spec hrw (hob (true, ok) (List.mem_singleton.2 rfl) rfl))
          · cases h
        · cases h
      · rename_i c hx
        split at h
        · rename_i e he
          cases h
          haveI := hI.el.mem _ (lk_mem he)
          exact op_len_nil (P := P) (t := t) (e := e) ho hx
        · cases h
      · cases h
    · cases h
  · rename_i t p ho
    split at h
    · cases h
    · rename_i sz ag ht
      haveI : Ty P t sz ag := hI.ty.mem _ (lk_mem ht)
      split at h
      · rename_i cs off hp
        split at h
        · rename_i y hy
          split at h
          · rename_i y' hf; cases h; rw [frc_eq hf]; exact op_load_loc (P := P) ho hp hy
          · cases h
        · cases h
      · rename_i id ver off hp
        split at h
        · rename_i ob' cs hob'
          obtain ⟨h1, h2⟩ := objP_spec hob'
          split at h
          · rename_i y hy
            split at h
            · rename_i y' hf; cases h; rw [frc_eq hf]; exact op_load_ptr (P := P) ho hp h1 h2 hy
            · cases h
          · cases h
        · cases h
      · rename_i id ver sz2 i off hp
        split at h
        · rename_i e' sz' m r ok hrw
          split at h
          · rename_i hb
            split at h
            · rename_i y hy
              split at h
              · rename_i y' hf
                cases h
                have hrw' := rowP_spec hrw (hob (true, ok) (by simp) rfl)
                rw [Nat.eq_of_beq_eq_true hb] at hrw'
                rw [frc_eq hf]
                exact op_load_elt (P := P) ho hp hrw' (hob (true, inB i m) (by simp) rfl) hy
              · cases h
            · cases h
          · cases h
        · cases h
      · cases h
  · rename_i t x y ho
    split at h
    · cases h
    · rename_i e he
      haveI := hI.el.mem _ (lk_mem he)
      split at h
      · cases h
      · rename_i sz ag hsz
        haveI : Ty P e sz ag := hI.ty.mem _ (lk_mem hsz)
        split at h
        · rename_i kk i hy
          split at h
          · rename_i sz' nl m r hx
            split at h
            · rename_i hb
              cases h
              exact op_index_slc (P := P) (t := t) (e := e) ho hx hy (Nat.eq_of_beq_eq_true hb) (hob (true, inB i m) (List.mem_singleton.2 rfl) rfl)
            · cases h
          · rename_i id ver hx
            split at h
            · rename_i e' sz' m r ok hrw
              split at h
              · rename_i hb
                cases h
                exact op_index_row (P := P) (t := t) (e := e) ho hx (rowP_spec hrw (hob (true, ok) (by simp) rfl)) hy (Nat.eq_of_beq_eq_true hb) (hob (true, inB i m) (by simp) rfl)
              · cases h
            · cases h
          · cases h
        · cases h
  · rename_i t x j ho
    split at h
    · cases h
    · rename_i fs hfs
      split at h
      · cases h
      · rename_i off ft hft
        haveI : FldT P t j off ft := hI.fld.mem _ (lk_mem hfs) j off ft hft
        split at h
        · cases h
        · rename_i sz ag hsz
          haveI : Ty P ft sz ag := hI.ty.mem _ (lk_mem hsz)
          split at h
          · cases h
          · rename_i hnz
            split at h
            · rename_i cs o1 hx; cases h; exact op_field_loc (P := P) ho hx hnz rfl
            · rename_i id ver o1 hx
              split at h
              · rename_i pr hob'
                obtain ⟨ob', cs⟩ := pr
                obtain ⟨h1, h2⟩ := objP_spec hob'
                cases h
                refine op_field_ptr (P := P) ho hx h1 ?_ hnz rfl
                cases ob' <;> simp [AO.cells] at h2 <;> simp [h2.1]
              · cases h
            · rename_i id ver sze i o1 hx
              split at h
              · rename_i e' sz' m r ok hrw
                split at h
                · rename_i hb
                  cases h
                  have := rowP_spec hrw (hob (true, ok) (by simp) rfl)
                  rw [Nat.eq_of_beq_eq_true hb] at this
                  exact op_field_elt (P := P) ho hx this hnz
                · cases h
              · cases h
            · cases h
  · rename_i t x j ho
    split at h
    · cases h
    · rename_i fs hfs
      split at h
      · cases h
      · rename_i off ft hft
        haveI : FldT P t j off ft := hI.fld.mem _ (lk_mem hfs) j off ft hft
        split at h
        · cases h
        · rename_i sz ag hsz
          haveI : Ty P ft sz ag := hI.ty.mem _ (lk_mem hsz)
          split at h
          · rename_i cs hx
            split at h
            · rename_i y hy
              split at h
              · rename_i y' hf; cases h; rw [frc_eq hf]; exact op_field_val (P := P) ho hx hy
              · cases h
            · cases h
          · cases h
  · rename_i t parts ho
    split at h
    · rename_i z0 bytes pl hz hp
      haveI : ZeroT P t z0 bytes := hI.zero.mem _ (lk_mem hz)
      haveI : StrT P t pl := hI.pl.mem _ (lk_mem hp)
      split at h
      · rename_i as has
        split at h
        · rename_i cs hcs; cases h; exact op_build (P := P) ho has hcs
        · cases h
      · cases h
    · cases h
  · rename_i g first capt ho
    split at h
    · rename_i hf
      have hf' : first = #[] := by cases first; simp_all
      subst hf'
      cases h
      exact op_makeFunc ho
    · cases h
  · rename_i t x ho
    split at h
    · rename_i u hu
      haveI : ConT P t := hI.conc.mem _ (lk_mem hu)
      split at h
      · rename_i y hy; cases h; exact op_makeInterface (P := P) ho (frc_eq hy).symm
      · cases h
    · cases h
  · cases h

theorem src_ok {sz m : Nat} {r : Nat → List AV} {x : AV} {ok : Bool} (hpos : 0 < sz) (h : srcP ar sz x = some (m, r, ok)) (hok : ok = true) (C : Cx) (w : World) (ρ : List Loc) (v : Value) (hR : RelA C ρ ar w) (hv : RV w (Ow C ρ ar) ρ x v) : Src w (Ow C ρ ar) ρ sz m r v := by
  unfold srcP at h
  split at h
  · split at h
    · rename_i hb
      cases h
      rw [Nat.eq_of_beq_eq_true hb] at hv
      exact src_slc hpos hv
    · cases h
  · split at h
    · rename_i hrw
      split at h
      · rename_i hb
        cases h
        have hrw' := rowP_spec hrw hok
        rw [Nat.eq_of_beq_eq_true hb, nth_eq] at hrw'
        exact src_row hpos hR hrw' hv
      · cases h
    · cases h
  · cases h
    rw [rv_val hv]
    exact ⟨none, 0, [], rfl, fun _ => rfl, by simp, fun a h => (by cases h), fun u h => (by cases h), by simp, fun i h => by omega, fun i j x v h => by omega⟩
  · cases h

theorem execM_ok [hI : Inf P I] {o : Oper} {x : AV} {ob : Ob} (h : execM I τ ar o.op = some (x, ar', ob)) (hob : Obs ob) : OpStep P τ ar o x ar' := by
  unfold execM at h
  split at h
  · rename_i e y ho
    split at h
    · rename_i cs hcs
      split at h
      · rename_i ar1 id har; cases h; exact op_box ho hcs har
      · cases h
    · cases h
  · rename_i e ho
    split at h
    · rename_i cs bytes hz
      haveI : ZeroT P e cs bytes := hI.zero.mem _ (lk_mem hz)
      split at h
      · rename_i ar1 id har; cases h; exact op_alloc (P := P) ho har
      · cases h
    · cases h
  · rename_i t p y ho
    split at h
    · cases h
    · rename_i sz ag ht
      haveI : Ty P t sz ag := hI.ty.mem _ (lk_mem ht)
      split at h
      · rename_i id ver off hp
        split at h
        · rename_i ob' cs hob'
          obtain ⟨h1, h2⟩ := objP_spec hob'
          split at h
          · rename_i ys hys
            split at h
            · rename_i hl
              split at h
              · rename_i cs' hsp
                split at h
                · rename_i e c
                  split at h
                  · rename_i ar1 har; cases h; exact op_store (P := P) ho hp h1 h2 hys hl hsp har
                  · cases h
                · cases h
              · cases h
            · cases h
          · cases h
        · cases h
      · rename_i id ver szr i off hp
        split at h
        · rename_i e szr' m r ok hrw
          split at h
          · cases h
          · rename_i hb
            have hbe := Nat.eq_of_beq_eq_true hb
            subst hbe
            split at h
            · rename_i ys hys
              split at h
              · rename_i hl
                split at h
                · rename_i cs' hsp
                  split at h
                  · rename_i ar1 har
                    cases h
                    have hrw' := rowP_spec hrw (hob (true, ok) (by simp) rfl)
                    have hin0 : inB i m = true := hob (true, inB i m) (by simp) rfl
                    have hin := (inB_iff.1 hin0).2
                    exact op_storeElt (P := P) (setR r i cs') ho hp hrw' (by omega) hys hl (by rw [setR_self]; exact hsp) (fun k _ hk => setR_ne hk) har
                  · cases h
                · cases h
              · cases h
            · cases h
        · cases h
      · cases h
  · rename_i t len parts ho
    split at h
    · cases h
    · rename_i e he
      haveI := hI.el.mem _ (lk_mem he)
      split at h
      · cases h
      · rename_i z0 bytes hz
        haveI : ZeroT P e z0 bytes := hI.zero.mem _ (lk_mem hz)
        split at h
        · cases h
        · rename_i as has
          split at h
          · cases h
          · rename_i cs hcs
            split at h
            · cases h
            · rename_i hle
              split at h
              · rename_i ar1 id har; cases h; exact op_buildSlice (P := P) (t := t) (e := e) ho rfl has hcs hle har
              · cases h
  · rename_i t x y ho
    split at h
    · cases h
    · rename_i e he
      haveI := hI.el.mem _ (lk_mem he)
      split at h
      · cases h
      · rename_i z0 bytes hz
        haveI : ZeroT P e z0 bytes := hI.zero.mem _ (lk_mem hz)
        split at h
        · rename_i k1 l hx
          split at h
          · rename_i k2 l' hy
            split at h
            · rename_i ar1 id har
              cases h
              have h1 := hob _ (List.mem_cons_self ..) rfl
              have h2 := hob _ (List.mem_cons_of_mem _ (List.mem_cons_self ..)) rfl
              have h1' : l' = l := by simpa using h1
              subst h1'
              exact op_makeSlice (P := P) (t := t) (e := e) ho hx hy rfl h2 har
            · cases h
          · cases h
        · cases h
  · rename_i args argTypes ho
    split at h
    · rename_i x y ha
      have ha' : args = #[x, y] := by cases args; simp_all
      subst ha'
      split at h
      · rename_i t t' ht
        have ht' : argTypes = #[t, t'] := by cases argTypes; simp_all
        subst ht'
        split at h
        · cases h
        · rename_i htt
          have htt' := Nat.eq_of_beq_eq_true htt
          subst htt'
          split at h
          · cases h
          · rename_i e he
            haveI := hI.el.mem _ (lk_mem he)
            split at h
            · cases h
            · rename_i z0 bytes hz
              haveI hzi : ZeroT P e z0 bytes := hI.zero.mem _ (lk_mem hz)
              have hpos : 0 < z0.length := by obtain ⟨_, _, _, _, _, _, _, _, _, _, h⟩ := hzi.all; exact h
              split at h
              · rename_i id ver hx
                split at h
                · cases h
                · rename_i e' sz m r ok hrw
                  split at h
                  · cases h
                  · rename_i hee
                    have hee' := Nat.eq_of_beq_eq_true hee
                    subst hee'
                    split at h
                    · cases h
                    · rename_i hsz
                      have hsz' := Nat.eq_of_beq_eq_true hsz
                      subst hsz'
                      split at h
                      · cases h
                      · rename_i m2 r2 ok2 hsrc
                        split at h
                        · rename_i ar1 har
                          cases h
                          exact op_append (P := P) ho hx (rowP_spec hrw (hob (true, ok) (by simp) rfl)) rfl (fun C w ρ v hR hv => src_ok hpos hsrc (hob (true, ok2) (by simp) rfl) C w ρ v hR hv) (hob (true, _) (List.mem_cons_of_mem _ (List.mem_cons_of_mem _ (List.mem_singleton.2 rfl))) rfl) har
                        · cases h
              · rename_i hx
                split at h
                · cases h
                · rename_i m2 r2 ok2 hsrc
                  split at h
                  · rename_i ar1 id har
                    cases h
                    exact op_appendNil (P := P) ho hx (fun C w ρ v hR hv => src_ok hpos hsrc (hob (true, ok2) (by simp) rfl) C w ρ v hR hv) (hob (true, _) (List.mem_cons_of_mem _ (List.mem_singleton.2 rfl)) rfl) har
                  · cases h
              · cases h
      · cases h
    · cases h
  · cases h

/-! ### The machine -/
def obsOf (c : Bool) (τ : Nat → AV) : List Nat → Ob
  | [] => []
  | t :: l => match τ t with
    | .opt c' _ => (c, c') :: obsOf c τ l
    | _ => obsOf c τ l

omit [Globs] in
theorem goks_of {c : Bool} {l : List Nat} (h : Obs (obsOf c τ l)) : GOKs c τ l := by
  induction l with
  | nil => exact .nil
  | cons t l ih =>
    cases ht : τ t with
    | opt c' x =>
      simp only [obsOf, ht] at h
      exact .cons (by rw [ht]; exact .i (h (c, c') (by simp))) (ih fun p hp => h p (List.mem_cons_of_mem _ hp))
    | bad => simp only [obsOf, ht] at h; exact .cons (by rw [ht]; exact .n rfl) (ih h)
    | val _ => simp only [obsOf, ht] at h; exact .cons (by rw [ht]; exact .n rfl) (ih h)
    | agg _ => simp only [obsOf, ht] at h; exact .cons (by rw [ht]; exact .n rfl) (ih h)
    | tup _ => simp only [obsOf, ht] at h; exact .cons (by rw [ht]; exact .n rfl) (ih h)
    | slc _ _ _ _ => simp only [obsOf, ht] at h; exact .cons (by rw [ht]; exact .n rfl) (ih h)
    | loc _ _ => simp only [obsOf, ht] at h; exact .cons (by rw [ht]; exact .n rfl) (ih h)
    | ptr _ _ _ => simp only [obsOf, ht] at h; exact .cons (by rw [ht]; exact .n rfl) (ih h)
    | row _ _ => simp only [obsOf, ht] at h; exact .cons (by rw [ht]; exact .n rfl) (ih h)
    | elt _ _ _ _ _ => simp only [obsOf, ht] at h; exact .cons (by rw [ht]; exact .n rfl) (ih h)
    | fn _ _ => simp only [obsOf, ht] at h; exact .cons (by rw [ht]; exact .n rfl) (ih h)
    | bnd _ _ => simp only [obsOf, ht] at h; exact .cons (by rw [ht]; exact .n rfl) (ih h)
    | ifc _ _ => simp only [obsOf, ht] at h; exact .cons (by rw [ht]; exact .n rfl) (ih h)
    | yld _ => simp only [obsOf, ht] at h; exact .cons (by rw [ht]; exact .n rfl) (ih h)
    | mem _ _ _ => simp only [obsOf, ht] at h; exact .cons (by rw [ht]; exact .n rfl) (ih h)

def cnd (c : Bool) : Ob → Ob
  | [] => []
  | (a, b) :: l => (c && a, b) :: cnd c l
omit [Globs] in
theorem cnd_spec {c : Bool} {l : Ob} (h : Obs (cnd c l)) (hc : c = true) : Obs l := by
  subst hc
  induction l with
  | nil => exact obs_nil
  | cons p l ih =>
    obtain ⟨a, b⟩ := p
    exact obs_by (fun ha => h (true && a, b) (by simp [cnd]) (by simp [ha])) (ih fun p hp => h p (List.mem_cons_of_mem _ hp))

omit [Globs] in
theorem Obs.app {a b : Ob} (h : Obs (a ++ b)) : Obs a ∧ Obs b := ⟨fun p hp => h p (List.mem_append_left _ hp), fun p hp => h p (List.mem_append_right _ hp)⟩

def app {α : Type} : List α → List α → List α
  | [], l => l
  | x :: m, l => x :: app m l
omit [Globs] in
theorem app_eq {α : Type} (m l : List α) : app m l = m ++ l := by induction m <;> simp [app, *]

end
end Go.Iron

/- Iron: regions that draw their order: one walk of the text's order serves every order, up to where but one operation can come next. -/
namespace Go.Iron

variable [Globs]
section
variable {P : Program} {f n : Nat} {C : Cx} {τ τ' : Nat → AV} {ar ar' : List AO} {k todo : List Item} {Q : Out → List AO → Prop} {ops : Array Oper} {I : TI}

def updO (τ : Nat → AV) (d : Option Tmp) (x : AV) : Nat → AV := match d with
  | some d => upd τ d x
  | none => τ

omit [Globs] in
theorem updO_comm (τ : Nat → AV) {d e : Option Tmp} (x y : AV) (h : ∀ t, d = some t → e ≠ some t) : updO (updO τ d x) e y = updO (updO τ e y) d x := by
  cases d with
  | none => rfl
  | some d =>
    cases e with
    | none => rfl
    | some e =>
      have hne : d ≠ e := fun he => h d rfl (by rw [he])
      funext t
      simp only [updO, upd_eq]
      by_cases h1 : t = e
      · subst h1; simp [Ne.symm hne]
      · simp [h1]

omit [Globs] in
theorem updO_other (τ : Nat → AV) {d : Option Tmp} {x : AV} {t : Nat} (h : d ≠ some t) : updO τ d x t = τ t := by
  cases d with
  | none => rfl
  | some d =>
    simp only [updO, upd_eq]
    rw [if_neg (fun e => h (by rw [e]))]

def OpI (P : Program) (f n : Nat) (ar : List AO) (ops : Array Oper) (i : Nat) (o : Oper) (τ : Nat → AV) (x : AV) : Prop :=
  ∀ τ2 : Nat → AV, (∀ t, t ∈ o.looksAt ops → τ2 t = τ t) → ∀ (C : Cx) (rest : List Nat) (k : List Item) (Q : Out → List AO → Prop),
    (∀ Z, Q (.pan Z) ar → False) ∨ True → Run P f n C (updO τ2 o.dst x) ar (.inRegion ops rest :: k) Q → Run P f n C τ2 ar (.inRegion ops (i :: rest) :: k) Q

theorem OpI.congr {i : Nat} {o : Oper} {x : AV} (h : OpI P f n ar ops i o τ x) (ht : ∀ t, t ∈ o.looksAt ops → τ' t = τ t) : OpI P f n ar ops i o τ' x :=
  fun τ2 h2 C rest k Q hp hr => h τ2 (fun t hm => (h2 t hm).trans (ht t hm)) C rest k Q hp hr

def tailB (ops : Array Oper) : Nat → Nat → Array Bool → Bool
  | 0, _, listed => (Region.ready .any ops listed).isEmpty
  | c + 1, k, listed => (Region.ready .any ops listed == [k]) && tailB ops c (k + 1) (listed.setIfInBounds k true)

omit [Globs] in
theorem tailB_ready {c T : Nat} {listed : Array Bool} (h : tailB ops c T listed = true) : ∀ j ∈ Region.ready .any ops listed, j = T ∧ 0 < c := by
  cases c with
  | zero => simp only [tailB, List.isEmpty_iff] at h; intro j hj; rw [h] at hj; cases hj
  | succ c =>
    simp only [tailB, Bool.and_eq_true, beq_iff_eq] at h
    intro j hj
    rw [h.1] at hj
    exact ⟨by simpa using hj, by omega⟩

omit [Globs] in
theorem go_tail : ∀ (c T t : Nat) (listed : Array Bool), tailB ops c T listed = true → Region.linearise.go .any ops c t listed [] = List.range' T c
  | 0, T, t, listed, _ => by simp [Region.linearise.go]
  | c + 1, T, t, listed, h => by
    simp only [tailB, Bool.and_eq_true, beq_iff_eq] at h
    simp only [Region.linearise.go]
    change (match (Region.ready .any ops listed)[t % (Region.ready .any ops listed).length]? with
      | some i => Region.linearise.go .any ops c (t / (Region.ready .any ops listed).length) (listed.setIfInBounds i true) [i]
      | none => [].reverse) = _
    rw [h.1]
    simp only [List.length_cons, List.length_nil, Nat.zero_add, Nat.mod_one, List.getElem?_cons_zero]
    rw [linearise_go_acc, go_tail c (T + 1) _ _ h.2]
    simp [List.range'_succ]

theorem RelA.draw {ρ : List Loc} {w : World} (h : RelA C ρ ar w) : RelA C ρ ar { w with drawn := w.drawn + 1 } ∧ Pres w (Ow C ρ ar) { w with drawn := w.drawn + 1 } (Ow C ρ ar) := by
  have hp : Pres w (Ow C ρ ar) { w with drawn := w.drawn + 1 } (Ow C ρ ar) := ⟨Nat.le_refl _, fun b _ hn => ⟨rfl, hn⟩⟩
  exact ⟨⟨h.len, h.len0, fun i o L h1 h2 => (h.obj i o L h1 h2).mono hp (Compat.refl _) (fun _ _ => rfl), h.disj, h.far, h.apart, h.size, h.os, h.tape, h.output, h.heap, h.new, h.comp, fun p hp' => (h.defs p hp').mono hp (Compat.refl _)⟩, hp⟩

/-! ### Operations of such a region -/
def opR (l : List Nat) (τ : Nat → AV) : Nat → AV := fun t => match memN t l with
  | true => τ t
  | false => .bad

omit [Globs] in
theorem looks_of {o : Oper} {t : Nat} (h : t ∈ tmpsOf o.op.operands.toList) : t ∈ o.looksAt ops := by
  unfold Oper.looksAt
  refine List.mem_append_left _ ?_
  rw [List.mem_filterMap]
  have : ∀ (l : List Operand), t ∈ tmpsOf l → Operand.tmp t ∈ l := by
    intro l
    induction l with
    | nil => intro h; simp [tmpsOf] at h
    | cons x l ih =>
      intro h
      cases x with
      | tmp u =>
        simp [tmpsOf] at h
        rcases h with rfl | h
        · simp
        · exact List.mem_cons_of_mem _ (ih h)
      | const v => exact List.mem_cons_of_mem _ (ih (by simpa [tmpsOf] using h))
      | global g => exact List.mem_cons_of_mem _ (ih (by simpa [tmpsOf] using h))
      | func g => exact List.mem_cons_of_mem _ (ih (by simpa [tmpsOf] using h))
  exact ⟨.tmp t, this _ h, rfl⟩

theorem OpStep.slots {o : Oper} {x : AV} {τ2 : Nat → AV} (hs : OpStep P τ ar o x ar') (h : ∀ w O ρ tmps, Slots w O ρ τ2 tmps → Slots w O ρ τ tmps) : OpStep P τ2 ar o x ar' :=
  fun C a w ρ hR hS => hs C a w ρ hR (h _ _ _ _ hS)

omit [Globs] in
theorem opR_slots {l : List Nat} {τ2 : Nat → AV} (h : ∀ t, t ∈ l → τ2 t = τ t) (w : World) (O : Nat → Prop) (ρ : List Loc) (tmps : Array Value) (hS : Slots w O ρ τ2 tmps) : Slots w O ρ (opR l τ) tmps := by
  intro t
  unfold opR
  cases hm : memN t l with
  | true => dsimp only; rw [← h t (memN_iff.1 hm)]; exact hS t
  | false => exact .bad

omit [Globs] in
theorem evA_agree {x : Operand} {τ2 : Nat → AV} {l : List Operand} (h : ∀ t, Operand.tmp t ∈ l → τ2 t = τ t) (hx : x ∈ l) : evA τ2 x = evA τ x := by
  cases x with
  | tmp t => exact h t hx
  | const v => rfl
  | global g => rfl
  | func g => rfl

omit [Globs] in
theorem fromB {i : Nat} {l : List Oper} (h : (ops.toList.drop i).take l.length = l) : ∀ j, j < l.length → l[j]? = ops[i + j]? := fun j hj => by
  have : l[j]? = ((ops.toList.drop i).take l.length)[j]? := by rw [h]
  rw [this, List.getElem?_take, if_pos hj, List.getElem?_drop]; simp

end
end Go.Iron

/- Iron: returning, with what is one's own let go. -/
namespace Go.Iron
variable [Globs]
section
variable {P : Program} {f n : Nat} {C : Cx} {τ τ' : Nat → AV} {ar ar' : List AO} {k todo : List Item} {Q : Out → List AO → Prop} {ops : Array Oper}

def resX (I : TI) (τ : Nat → AV) (ar : List AO) : List ResultVar → Option (List AV)
  | [] => some []
  | .tmp t :: rs => match frc (τ t) with
    | none => none
    | some x => match resX I τ ar rs with
      | none => none
      | some xs => some (x :: xs)
  | .cell p t :: rs => match lk I.ty t with
    | none => none
    | some (sz, ag) => match τ p with
      | .ptr id ver off => match objP ar id ver with
        | none => none
        | some (_, cs) => match loadA ag sz cs off with
          | none => none
          | some y => match frc y with
            | none => none
            | some x => match resX I τ ar rs with
              | none => none
              | some xs => some (x :: xs)
      | _ => none
omit [Globs] in
theorem resX_ok {I : TI} [hI : Inf P I] : ∀ (rs : List ResultVar) (xs : List AV), resX I τ ar rs = some xs → Res P τ ar rs xs
  | [], xs, h => by simp [resX] at h; subst h; exact .nil
  | .tmp t :: rs, xs, h => by
    unfold resX at h
    split at h
    · cases h
    · rename_i x hx
      split at h
      · cases h
      · rename_i ys hy
        cases h
        rw [frc_eq hx]
        exact .tmp (resX_ok rs ys hy)
  | .cell p t :: rs, xs, h => by
    unfold resX at h
    split at h
    · cases h
    · rename_i sz ag hty
      split at h
      · rename_i id ver off hp
        split at h
        · cases h
        · rename_i ob cs hob
          obtain ⟨h1, h2⟩ := objP_spec hob
          split at h
          · cases h
          · rename_i y hy
            split at h
            · cases h
            · rename_i x hx
              split at h
              · cases h
              · rename_i ys hys
                cases h
                rw [frc_eq hx]
                exact .cell (hI.ty.mem _ (lk_mem hty)) hp h1 h2 hy (resX_ok rs ys hys)
      · cases h

end
end Go.Iron
