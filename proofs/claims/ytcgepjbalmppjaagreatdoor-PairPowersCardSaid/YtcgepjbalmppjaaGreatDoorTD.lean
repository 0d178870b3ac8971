/- Iron: what came in, opened: arguments of plain data as abstract values. -/
import Derived.Test.YtcgepjbalmppjaaGreatDoorTA
import Derived.WalkKit
import Derived.ProofKit
import Derived.OpenShut
import Derived.ShutString
import Derived.ChangeOld
import Derived.Below
import Derived.SizedLaws
import Derived.Lib.LaidTab
namespace Go.Iron

variable [Globs]
def Non : Nat → Prop := fun _ => False

def Opens (P : Program) (e : TypeId) {α : Type} (encA : α → List AV) : Prop :=
  ∀ (H : Type) (enc : TypeId × Value → H) (w : World) (base : Nat) (spare : Nat → Bool) (held : Bool) (fuel : Nat) (cs : List Value) (x : DataW H × List MemPlace), DataW.trod enc P w base spare held fuel e cs = some x →
    ∃ a : α, (encA a).length = cs.length ∧ ∀ (j : Nat) y v, (encA a)[j]? = some y → cs[j]? = some v → RV w Non [] y v ∧ v.oneCell' = true

section
variable {P : Program} {e t : TypeId}

omit [Globs] in
theorem opens_one {α : Type} {encA : α → AV} (h : ∀ (H : Type) (enc : TypeId × Value → H) (w : World) (base : Nat) (spare : Nat → Bool) (held : Bool) (fuel : Nat) (cs : List Value) (x : DataW H × List MemPlace), DataW.trod enc P w base spare held fuel e cs = some x →
    ∃ a v, cs = [v] ∧ RV w Non [] (encA a) v ∧ v.oneCell' = true) : Opens P e (fun a => [encA a]) := by
  intro H enc w base spare held fuel cs x hx
  obtain ⟨a, v, rfl, h1, h2⟩ := h H enc w base spare held fuel cs x hx
  refine ⟨a, rfl, fun j y u hy hu => ?_⟩
  cases j with
  | zero => simp at hy hu; subst hy; subst hu; exact ⟨h1, h2⟩
  | succ j => simp at hy

omit [Globs] in
theorem opens_int {k : IntKind} (he : P.underlying e = some (.int k)) : Opens P e (fun n : Int => [.val (.int k n)]) :=
  opens_one (encA := fun n : Int => .val (.int k n)) fun H enc w base spare held fuel cs x hx => by
    obtain ⟨n, h, _, _⟩ := DataW.trod_int he hx
    exact ⟨n, _, h, .val, rfl⟩
omit [Globs] in
theorem opens_bool (he : P.underlying e = some .bool) : Opens P e (fun b : Bool => [.val (.bool b)]) :=
  opens_one (encA := fun b : Bool => .val (.bool b)) fun H enc w base spare held fuel cs x hx => by
    obtain ⟨n, h, _⟩ := DataW.trod_bool he hx
    exact ⟨n, _, h, .val, rfl⟩
omit [Globs] in
theorem opens_str (he : P.underlying e = some .string) : Opens P e (fun s : ByteArray => [.val (.string s)]) :=
  opens_one (encA := fun s : ByteArray => .val (.string s)) fun H enc w base spare held fuel cs x hx => by
    obtain ⟨n, h, _⟩ := DataW.trod_string he hx
    exact ⟨n, _, h, .val, rfl⟩

def OpensF (P : Program) (tot : Nat) (fl : List Field) (o : Nat) {α : Type} (encA : α → List AV) : Prop :=
  ∀ (H : Type) (enc : TypeId × Value → H) (w : World) (base : Nat) (spare : Nat → Bool) (held : Bool) (fuel : Nat) (cs : List Value), cs.length = tot →
    (∀ f ∈ fl, ∃ x : DataW H × List MemPlace, DataW.trod enc P w base spare held fuel f.type ((cs.drop f.offset).take (P.cellsOf f.type)) = some x) →
    ∃ a : α, (encA a).length + o = tot ∧ ∀ (j : Nat) y v, (encA a)[j]? = some y → cs[o + j]? = some v → RV w Non [] y v ∧ v.oneCell' = true

omit [Globs] in
theorem opensF_nil {tot : Nat} : OpensF P tot [] tot (fun _ : Unit => []) := fun H enc w base spare held fuel cs _ _ => ⟨(), by simp, fun j y v h => by simp at h⟩
omit [Globs] in
theorem opensF_cons {α β : Type} {e1 : α → List AV} {e2 : β → List AV} {tot o s o' : Nat} {f : Field} {fl : List Field} (ho : f.offset = o) (hs : P.cellsOf f.type = s) (ho' : o + s = o') (hle : o' ≤ tot) (h1 : Opens P f.type e1) (h2 : OpensF P tot fl o' e2) :
    OpensF P tot (f :: fl) o (fun p : α × β => e1 p.1 ++ e2 p.2) := by
  subst ho hs ho'
  intro H enc w base spare held fuel cs hcs hx
  obtain ⟨x, hx1⟩ := hx f (by simp)
  obtain ⟨a, a1, a2⟩ := h1 H enc w base spare held fuel _ x hx1
  obtain ⟨b, b1, b2⟩ := h2 H enc w base spare held fuel cs hcs (fun g hg => hx g (by simp [hg]))
  have hl : (e1 a).length = P.cellsOf f.type := by rw [a1]; simp; omega
  refine ⟨(a, b), by simp; omega, fun j y v hy hv => ?_⟩
  dsimp only at hy
  by_cases hj : j < P.cellsOf f.type
  · rw [List.getElem?_append_left (by omega)] at hy
    refine a2 j y v hy ?_
    rw [List.getElem?_take, if_pos hj, List.getElem?_drop]
    exact hv
  · rw [List.getElem?_append_right (by omega), hl] at hy
    refine b2 _ y v hy ?_
    rw [show f.offset + P.cellsOf f.type + (j - P.cellsOf f.type) = f.offset + j by omega]
    exact hv
omit [Globs] in
theorem opens_struct {α : Type} {encA : α → List AV} {fs : Array Field} {tot : Nat} (ht : P.underlying t = some (.struct fs)) (hc : P.cellsOf t = tot) (h : OpensF P tot fs.toList 0 encA) : Opens P t encA := by
  intro H enc w base spare held fuel cs x hx
  obtain ⟨xs, n, _, _, hl, hxl, hf⟩ := DataW.trod_struct ht hx
  obtain ⟨a, a1, a2⟩ := h H enc w base spare held n cs (by rw [hl, hc]) (fun f hfm => by
    obtain ⟨i, hi⟩ := List.mem_iff_getElem?.1 hfm
    have hi' : i < xs.length := by rw [hxl]; have := (List.getElem?_eq_some_iff.1 hi).1; simpa using this
    exact ⟨xs[i], by rw [hf i f (by simpa using hi)]; simp [hi']⟩)
  exact ⟨a, by omega, fun j y v hy hv => a2 j y v hy (by simpa using hv)⟩
omit [Globs] in
theorem Opens.map {α β : Type} {e1 : α → List AV} {e2 : β → List AV} (h : Opens P t e1) (f : α → β) (hf : ∀ a, e2 (f a) = e1 a) : Opens P t e2 := by
  intro H enc w base spare held fuel cs x hx
  obtain ⟨a, a1, a2⟩ := h H enc w base spare held fuel cs x hx
  exact ⟨f a, by rw [hf]; exact a1, by rw [hf]; exact a2⟩


theorem calls_of {f : FuncId} {as : List AV} {r : AV} {u : Value} (h : CallT P f as [] (fun out A => out = .ret r ∧ A = [])) {W : World} {vs : Array Value} (hl : vs.size = as.length) (hv : ∀ (i : Nat) x v, as[i]? = some x → vs[i]? = some v → RV W Non [] x v) (hr : ∀ W' O v, RV W' O [] r v → v = u)
    (hst : ∀ p ∈ Globs.tabs, ∃ cs e fz, W.heap[p.1]? = some (.cells cs e fz) ∧ p.2 cs := by simp [Globs.tabs]) :
    Calls P f vs W fun e W' => e = .returned u ∧ Go.RowKit.Below W.heap.size W W' := by
  have hOw : ∀ b, Ow (cx W [] [] Non) [] [] b → Non b := fun b hb => hb.elim (fun z => z) (fun ⟨i, o, L, h, _⟩ => by simp at h)
  have hr0 : RelA (cx W [] [] Non) [] [] W := ⟨rfl, ⟨rfl, fun p hp => ⟨hst p hp, fun hb => hb.elim, fun ⟨i, o, L, h, _⟩ => by simp at h⟩⟩, fun i o L h => by simp at h, fun i j o o' L L' b hij h => by simp at h, fun b hb => hb.elim, fun b _ ⟨i, o, L, h, _⟩ => by simp at h, Nat.le_refl _, rfl, rfl, rfl, fun _ _ _ => rfl, fun b ⟨i, o, L, h, _⟩ => by simp at h, Compat.refl _, fun p hp => by simp at hp⟩
  refine (h W [] Non vs hr0 hl fun i x v hx hv' => (hv i x v hx hv').mono ⟨Nat.le_refl _, fun b _ hn => ⟨rfl, fun h => hn (hOw b h)⟩⟩ (Compat.refl _)).mono fun e W' hd => ?_
  obtain ⟨out, A, ρ', ⟨rfl, rfl⟩, hR', ho⟩ := hd
  have hρ : ρ' = [] := List.eq_nil_of_length_eq_zero hR'.len
  subst hρ
  cases e with
  | returned v => exact ⟨by rw [hr _ _ _ ho], ⟨hR'.os, hR'.tape, hR'.output, hR'.size, fun k hk => hR'.heap k hk (fun ⟨i, o, L, h, _⟩ => by simp at h)⟩⟩
  | panicked c => exact ho.elim
  | outgrown => exact ho.elim
end
end Go.Iron

/- Iron: contracts of library functions (Calls) as contracts of mine (CallT). -/
namespace Go.Iron
variable [Globs]
open Go.RowKit

def StandsIn (w : World) : Prop := ∀ p ∈ Globs.tabs, ∃ cs e fz, w.heap[p.1]? = some (.cells cs e fz) ∧ p.2 cs

theorem callT_lib {P : Program} {f : FuncId} {as : List AV} {r : AV}
    (h : ∀ (w : World) (O : Nat → Prop) (vs : Array Value), StandsIn w → vs.size = as.length → (∀ (i : Nat) x v, as[i]? = some x → vs[i]? = some v → RV w O [] x v) →
      Calls P f vs w fun e w' => ∃ v, e = .returned v ∧ Below w.heap.size w w' ∧ ∀ w'' O', RV w'' O' [] r v) :
    CallT P f as [] (fun o A => o = .ret r ∧ A = []) := by
  intro w ρ X vs hR hl hv
  have hρ : ρ = [] := List.eq_nil_of_length_eq_zero hR.len
  subst hρ
  refine (h w _ vs (fun p hp => (hR.stand p hp).1) hl hv).mono fun e w' hd => ?_
  obtain ⟨v, rfl, hB, hr⟩ := hd
  have hno : ∀ b, ¬ Owned [] [] b := fun b ⟨i, o, L, h, _⟩ => by simp at h
  refine ⟨.ret r, [], [], ⟨rfl, rfl⟩, ⟨rfl, hR.len0, fun i o L h => by simp at h, fun i j o o' L L' b hij h => by simp at h, fun b hb => Nat.lt_of_lt_of_le (hR.far b hb) hB.size, fun b _ hb => hno b hb, hB.size, hB.os, hB.tape, hB.output, fun k hk _ => hB.block k hk, fun b hb => (hno b hb).elim, Compat.refl _, fun p hp => by simp at hp⟩, hr _ _⟩
end Go.Iron
