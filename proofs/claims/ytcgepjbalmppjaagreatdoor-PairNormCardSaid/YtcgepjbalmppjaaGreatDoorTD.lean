/- Iron: what came in, opened: arguments of plain data as abstract values. -/
import Derived.Test.YtcgepjbalmppjaaGreatDoorTA
import Derived.WalkKit
import Derived.ProofKit
import Derived.OpenShut
import Derived.ShutString
import Derived.ChangeOld
import Derived.Below
import Derived.SizedLaws
import Derived.Lib.LaidTab
namespace Go.Iron

variable [Globs]
def Non : Nat → Prop := fun _ => False

def Opens (P : Program) (e : TypeId) {α : Type} (encA : α → List AV) : Prop :=
  ∀ (H : Type) (enc : TypeId × Value → H) (w : World) (base : Nat) (spare : Nat → Bool) (held : Bool) (fuel : Nat) (cs : List Value) (x : DataW H × List MemPlace), DataW.trod enc P w base spare held fuel e cs = some x →
    ∃ a : α, (encA a).length = cs.length ∧ ∀ (j : Nat) y v, (encA a)[j]? = some y → cs[j]? = some v → RV w Non [] y v ∧ v.oneCell' = true

section
variable {P : Program} {e t : TypeId}

omit [Globs] in
theorem opens_one {α : Type} {encA : α → AV} (h : ∀ (H : Type) (enc : TypeId × Value → H) (w : World) (base : Nat) (spare : Nat → Bool) (held : Bool) (fuel : Nat) (cs : List Value) (x : DataW H × List MemPlace), DataW.trod enc P w base spare held fuel e cs = some x →
    ∃ a v, cs = [v] ∧ RV w Non [] (encA a) v ∧ v.oneCell' = true) : Opens P e (fun a => [encA a]) := by
  intro H enc w base spare held fuel cs x hx
  obtain ⟨a, v, rfl, h1, h2⟩ := h H enc w base spare held fuel cs x hx
  refine ⟨a, rfl, fun j y u hy hu => ?_⟩
  cases j with
  | zero => simp at hy hu; subst hy; subst hu; exact ⟨h1, h2⟩
  | succ j => simp at hy

omit [Globs] in
theorem opens_str (he : P.underlying e = some .string) : Opens P e (fun s : ByteArray => [.val (.string s)]) :=
  opens_one (encA := fun s : ByteArray => .val (.string s)) fun H enc w base spare held fuel cs x hx => by
    obtain ⟨n, h, _⟩ := DataW.trod_string he hx
    exact ⟨n, _, h, .val, rfl⟩

omit [Globs] in
theorem Opens.map {α β : Type} {e1 : α → List AV} {e2 : β → List AV} (h : Opens P t e1) (f : α → β) (hf : ∀ a, e2 (f a) = e1 a) : Opens P t e2 := by
  intro H enc w base spare held fuel cs x hx
  obtain ⟨a, a1, a2⟩ := h H enc w base spare held fuel cs x hx
  exact ⟨f a, by rw [hf]; exact a1, by rw [hf]; exact a2⟩


theorem calls_of {f : FuncId} {as : List AV} {r : AV} {u : Value} (h : CallT P f as [] (fun out A => out = .ret r ∧ A = [])) {W : World} {vs : Array Value} (hl : vs.size = as.length) (hv : ∀ (i : Nat) x v, as[i]? = some x → vs[i]? = some v → RV W Non [] x v) (hr : ∀ W' O v, RV W' O [] r v → v = u)
    (hst : ∀ p ∈ Globs.tabs, ∃ cs e fz, W.heap[p.1]? = some (.cells cs e fz) ∧ p.2 cs := by simp [Globs.tabs]) :
    Calls P f vs W fun e W' => e = .returned u ∧ Go.RowKit.Below W.heap.size W W' := by
  have hOw : ∀ b, Ow (cx W [] [] Non) [] [] b → Non b := fun b hb => hb.elim (fun z => z) (fun ⟨i, o, L, h, _⟩ => by simp at h)
  have hr0 : RelA (cx W [] [] Non) [] [] W := ⟨rfl, ⟨rfl, fun p hp => ⟨hst p hp, fun hb => hb.elim, fun ⟨i, o, L, h, _⟩ => by simp at h⟩⟩, fun i o L h => by simp at h, fun i j o o' L L' b hij h => by simp at h, fun b hb => hb.elim, fun b _ ⟨i, o, L, h, _⟩ => by simp at h, Nat.le_refl _, rfl, rfl, rfl, fun _ _ _ => rfl, fun b ⟨i, o, L, h, _⟩ => by simp at h, Compat.refl _, fun p hp => by simp at hp⟩
  refine (h W [] Non vs hr0 hl fun i x v hx hv' => (hv i x v hx hv').mono ⟨Nat.le_refl _, fun b _ hn => ⟨rfl, fun h => hn (hOw b h)⟩⟩ (Compat.refl _)).mono fun e W' hd => ?_
  obtain ⟨out, A, ρ', ⟨rfl, rfl⟩, hR', ho⟩ := hd
  have hρ : ρ' = [] := List.eq_nil_of_length_eq_zero hR'.len
  subst hρ
  cases e with
  | returned v => exact ⟨by rw [hr _ _ _ ho], ⟨hR'.os, hR'.tape, hR'.output, hR'.size, fun k hk => hR'.heap k hk (fun ⟨i, o, L, h, _⟩ => by simp at h)⟩⟩
  | panicked c => exact ho.elim
  | outgrown => exact ho.elim
end
end Go.Iron

/- Iron: contracts of library functions (Calls) as contracts of mine (CallT). -/
namespace Go.Iron
variable [Globs]
open Go.RowKit

def StandsIn (w : World) : Prop := ∀ p ∈ Globs.tabs, ∃ cs e fz, w.heap[p.1]? = some (.cells cs e fz) ∧ p.2 cs

theorem callT_lib {P : Program} {f : FuncId} {as : List AV} {r : AV}
    (h : ∀ (w : World) (O : Nat → Prop) (vs : Array Value), StandsIn w → vs.size = as.length → (∀ (i : Nat) x v, as[i]? = some x → vs[i]? = some v → RV w O [] x v) →
      Calls P f vs w fun e w' => ∃ v, e = .returned v ∧ Below w.heap.size w w' ∧ ∀ w'' O', RV w'' O' [] r v) :
    CallT P f as [] (fun o A => o = .ret r ∧ A = []) := by
  intro w ρ X vs hR hl hv
  have hρ : ρ = [] := List.eq_nil_of_length_eq_zero hR.len
  subst hρ
  refine (h w _ vs (fun p hp => (hR.stand p hp).1) hl hv).mono fun e w' hd => ?_
  obtain ⟨v, rfl, hB, hr⟩ := hd
  have hno : ∀ b, ¬ Owned [] [] b := fun b ⟨i, o, L, h, _⟩ => by simp at h
  refine ⟨.ret r, [], [], ⟨rfl, rfl⟩, ⟨rfl, hR.len0, fun i o L h => by simp at h, fun i j o o' L L' b hij h => by simp at h, fun b hb => Nat.lt_of_lt_of_le (hR.far b hb) hB.size, fun b _ hb => hno b hb, hB.size, hB.os, hB.tape, hB.output, fun k hk _ => hB.block k hk, fun b hb => (hno b hb).elim, Compat.refl _, fun p hp => by simp at hp⟩, hr _ _⟩
end Go.Iron
