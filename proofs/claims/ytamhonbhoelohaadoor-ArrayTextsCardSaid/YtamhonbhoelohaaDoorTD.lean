/- Iron: what came in, opened: arguments of plain data as abstract values. -/
import Derived.Test.YtamhonbhoelohaaDoorTA
import Derived.WalkKit
import Derived.ProofKit
import Derived.OpenShut
import Derived.ShutString
import Derived.ChangeOld
import Derived.Below
import Derived.SizedLaws
import Derived.Lib.LaidTab
namespace Go.Iron

variable [Globs]
def Non : Nat → Prop := fun _ => False

/-- Cells of type e are told by an a, whose abstract cells are `encA a`. -/
def Opens (P : Program) (e : TypeId) {α : Type} (encA : α → List AV) : Prop :=
  ∀ (H : Type) (enc : TypeId × Value → H) (w : World) (base : Nat) (spare : Nat → Bool) (held : Bool) (fuel : Nat) (cs : List Value) (x : DataW H × List MemPlace), DataW.trod enc P w base spare held fuel e cs = some x →
    ∃ a : α, (encA a).length = cs.length ∧ ∀ (j : Nat) y v, (encA a)[j]? = some y → cs[j]? = some v → RV w Non [] y v ∧ v.oneCell' = true

section
variable {P : Program} {e t : TypeId}

omit [Globs] in
theorem opens_one {α : Type} {encA : α → AV} (h : ∀ (H : Type) (enc : TypeId × Value → H) (w : World) (base : Nat) (spare : Nat → Bool) (held : Bool) (fuel : Nat) (cs : List Value) (x : DataW H × List MemPlace), DataW.trod enc P w base spare held fuel e cs = some x →
    ∃ a v, cs = [v] ∧ RV w Non [] (encA a) v ∧ v.oneCell' = true) : Opens P e (fun a => [encA a]) := by
  intro H enc w base spare held fuel cs x hx
  obtain ⟨a, v, rfl, h1, h2⟩ := h H enc w base spare held fuel cs x hx
  refine ⟨a, rfl, fun j y u hy hu => ?_⟩
  cases j with
  | zero => simp at hy hu; subst hy; subst hu; exact ⟨h1, h2⟩
  | succ j => simp at hy

omit [Globs] in
theorem opens_int {k : IntKind} (he : P.underlying e = some (.int k)) : Opens P e (fun n : Int => [.val (.int k n)]) :=
  opens_one (encA := fun n : Int => .val (.int k n)) fun H enc w base spare held fuel cs x hx => by
    obtain ⟨n, h, _, _⟩ := DataW.trod_int he hx
    exact ⟨n, _, h, .val, rfl⟩
omit [Globs] in
theorem addr_add (a : Addr) (m n : Nat) : (a.add m).add n = a.add (m + n) := by
  by_cases hn : n = 0
  · subst hn
    simp [Addr.add]
  · unfold Addr.add
    by_cases hm : m = 0
    · subst hm; simp [hn]
    · simp [hm, hn, Nat.add_assoc]
omit [Globs] in
/-- A slice: its elements, told one by one. -/
theorem open_slice {α : Type} {encA : α → List AV} (d : α) {sz : Nat} (ht : P.underlying t = some (.slice e)) (hc : P.cellsOf e = sz) (hpos : 0 < sz) (he : Opens P e encA) {H : Type} {enc : TypeId × Value → H} {w : World} {base : Nat} {spare : Nat → Bool} {held : Bool} {fuel : Nat} {cs : List Value} {x : DataW H × List MemPlace}
    (hx : DataW.trod enc P w base spare held fuel t cs = some x) :
    ∃ (l : List α) (nl : Bool) (v : Value), cs = [v] ∧ v.oneCell' = true ∧ RV w Non [] (.slc sz (some nl) l.length (fun i => encA (l.getD i d))) v ∧ (x.1 = .nil ∧ l = [] ∨ ∃ el sp, x.1 = .slice el sp ∧ el.length = l.length) := by
  subst hc
  rcases DataW.trod_slice ht hx with ⟨rfl, rfl⟩ | ⟨a, len, cap, elems, rest, n, _, rfl, rfl, hb, hl, hm, hlen, hel, hsp, hns⟩
  · exact ⟨[], true, _, rfl, rfl, .slc rfl (Nat.le_refl _) (Nat.zero_le _) (fun b h => by cases h; rfl) (fun i h => by simp at h) (fun h => by omega) (fun _ _ => undef) (fun i j x a h => by simp at h) (fun i j x h => by simp at h), .inl ⟨rfl, rfl⟩⟩
  · have key : ∀ i, i < len → ∃ (b : α) (cs' : List Value), w.cells? base (a.add (i * P.cellsOf e)) (P.cellsOf e) = some cs' ∧ (encA b).length = cs'.length ∧ ∀ (j : Nat) y v, (encA b)[j]? = some y → cs'[j]? = some v → RV w Non [] y v ∧ v.oneCell' = true := by
      intro i hi
      have h1 := hel i hi
      have h2 : i < elems.length := by omega
      rw [List.getElem?_eq_getElem h2] at h1
      cases hcs : w.cells? base (a.add (i * P.cellsOf e)) (P.cellsOf e) with
      | none => simp [hcs] at h1
      | some cs' =>
        simp only [hcs, Option.bind_some] at h1
        obtain ⟨b, b1, b2⟩ := he H enc w base spare held n cs' _ h1
        exact ⟨b, cs', rfl, b1, b2⟩
    have hlist : ∃ l : List α, l.length = len ∧ ∀ i, i < len → ∃ (cs' : List Value), w.cells? base (a.add (i * P.cellsOf e)) (P.cellsOf e) = some cs' ∧ (encA (l.getD i d)).length = cs'.length ∧ ∀ (j : Nat) y v, (encA (l.getD i d))[j]? = some y → cs'[j]? = some v → RV w Non [] y v ∧ v.oneCell' = true := by
      clear hel hlen hx hl hsp hns
      induction len with
      | zero => exact ⟨[], rfl, fun i h => by omega⟩
      | succ m ih =>
        obtain ⟨l, h1, h2⟩ := ih (fun i hi => key i (by omega))
        obtain ⟨b, cs', b1, b2, b3⟩ := key m (by omega)
        refine ⟨l ++ [b], by simp [h1], fun i hi => ?_⟩
        by_cases him : i < m
        · have : (l ++ [b]).getD i d = l.getD i d := by simp [List.getD_eq_getElem?_getD, List.getElem?_append_left (show i < l.length by omega)]
          rw [this]
          exact h2 i him
        · have him' : i = m := by omega
          subst him'
          have : (l ++ [b]).getD i d = b := by simp [List.getD_eq_getElem?_getD, List.getElem?_append_right (show l.length ≤ i by omega), h1]
          rw [this]
          exact ⟨cs', b1, b2, b3⟩
    obtain ⟨l, hll, hk⟩ := hlist
    subst hll
    refine ⟨l, false, _, rfl, rfl, ?_, .inr ⟨_, _, rfl, by simpa using hlen⟩⟩
    have hcell : ∀ i cs', w.cells? base (a.add (i * P.cellsOf e)) (P.cellsOf e) = some cs' → cs'.length = P.cellsOf e ∧ ∀ j, j < P.cellsOf e → w.cell? ((a.add (i * P.cellsOf e)).add j) = cs'[j]? := fun i cs' h => by
      obtain ⟨_, h2, h3⟩ := World.cells?_some h
      exact ⟨h2, h3⟩
    refine .slc rfl hl hm (fun b h => by cases h; rfl) (fun i hi => ?_) (fun h0 => ⟨a, rfl, ?_, fun h => h⟩) (fun i j => ((w.cell? (a.add (i * P.cellsOf e + j))).getD undef)) (fun i j y a' hi hy ha => ?_) (fun i j y hi hy => ?_)
    · obtain ⟨cs', c1, c2, c3⟩ := hk i hi
      rw [c2, (hcell i cs' c1).1]
    · obtain ⟨cs', c1, c2, c3⟩ := hk 0 h0
      have := World.cells?_block c1 hpos
      rwa [add_block] at this
    all_goals
      obtain ⟨cs', c1, c2, c3⟩ := hk i hi
      obtain ⟨d1, d2⟩ := hcell i cs' c1
      have hj : j < P.cellsOf e := by rw [← d1, ← c2]; exact (List.getElem?_eq_some_iff.1 hy).1
      have hj' : j < cs'.length := by omega
      have hv := d2 j hj
      rw [List.getElem?_eq_getElem hj'] at hv
      obtain ⟨r1, r2⟩ := c3 j y _ hy (List.getElem?_eq_getElem hj')
      have hadd : (a.add (i * P.cellsOf e)).add j = a.add (i * P.cellsOf e + j) := addr_add _ _ _
      rw [hadd] at hv
    · cases ha
      rw [hv]
      exact ⟨rfl, r2⟩
    · rw [hv]
      exact r1

/-- A struct's fields from the place o on. -/
def OpensF (P : Program) (tot : Nat) (fl : List Field) (o : Nat) {α : Type} (encA : α → List AV) : Prop :=
  ∀ (H : Type) (enc : TypeId × Value → H) (w : World) (base : Nat) (spare : Nat → Bool) (held : Bool) (fuel : Nat) (cs : List Value), cs.length = tot →
    (∀ f ∈ fl, ∃ x : DataW H × List MemPlace, DataW.trod enc P w base spare held fuel f.type ((cs.drop f.offset).take (P.cellsOf f.type)) = some x) →
    ∃ a : α, (encA a).length + o = tot ∧ ∀ (j : Nat) y v, (encA a)[j]? = some y → cs[o + j]? = some v → RV w Non [] y v ∧ v.oneCell' = true

omit [Globs] in
theorem opensF_nil {tot : Nat} : OpensF P tot [] tot (fun _ : Unit => []) := fun H enc w base spare held fuel cs _ _ => ⟨(), by simp, fun j y v h => by simp at h⟩
omit [Globs] in
theorem opensF_cons {α β : Type} {e1 : α → List AV} {e2 : β → List AV} {tot o s o' : Nat} {f : Field} {fl : List Field} (ho : f.offset = o) (hs : P.cellsOf f.type = s) (ho' : o + s = o') (hle : o' ≤ tot) (h1 : Opens P f.type e1) (h2 : OpensF P tot fl o' e2) :
    OpensF P tot (f :: fl) o (fun p : α × β => e1 p.1 ++ e2 p.2) := by
  subst ho hs ho'
  intro H enc w base spare held fuel cs hcs hx
  obtain ⟨x, hx1⟩ := hx f (by simp)
  obtain ⟨a, a1, a2⟩ := h1 H enc w base spare held fuel _ x hx1
  obtain ⟨b, b1, b2⟩ := h2 H enc w base spare held fuel cs hcs (fun g hg => hx g (by simp [hg]))
  have hl : (e1 a).length = P.cellsOf f.type := by rw [a1]; simp; omega
  refine ⟨(a, b), by simp; omega, fun j y v hy hv => ?_⟩
  dsimp only at hy
  by_cases hj : j < P.cellsOf f.type
  · rw [List.getElem?_append_left (by omega)] at hy
    refine a2 j y v hy ?_
    rw [List.getElem?_take, if_pos hj, List.getElem?_drop]
    exact hv
  · rw [List.getElem?_append_right (by omega), hl] at hy
    refine b2 _ y v hy ?_
    rw [show f.offset + P.cellsOf f.type + (j - P.cellsOf f.type) = f.offset + j by omega]
    exact hv
omit [Globs] in
theorem opens_struct {α : Type} {encA : α → List AV} {fs : Array Field} {tot : Nat} (ht : P.underlying t = some (.struct fs)) (hc : P.cellsOf t = tot) (h : OpensF P tot fs.toList 0 encA) : Opens P t encA := by
  intro H enc w base spare held fuel cs x hx
  obtain ⟨xs, n, _, _, hl, hxl, hf⟩ := DataW.trod_struct ht hx
  obtain ⟨a, a1, a2⟩ := h H enc w base spare held n cs (by rw [hl, hc]) (fun f hfm => by
    obtain ⟨i, hi⟩ := List.mem_iff_getElem?.1 hfm
    have hi' : i < xs.length := by rw [hxl]; have := (List.getElem?_eq_some_iff.1 hi).1; simpa using this
    exact ⟨xs[i], by rw [hf i f (by simpa using hi)]; simp [hi']⟩)
  exact ⟨a, by omega, fun j y v hy hv => a2 j y v hy (by simpa using hv)⟩
omit [Globs] in
theorem Opens.map {α β : Type} {e1 : α → List AV} {e2 : β → List AV} (h : Opens P t e1) (f : α → β) (hf : ∀ a, e2 (f a) = e1 a) : Opens P t e2 := by
  intro H enc w base spare held fuel cs x hx
  obtain ⟨a, a1, a2⟩ := h H enc w base spare held fuel cs x hx
  exact ⟨f a, by rw [hf]; exact a1, by rw [hf]; exact a2⟩


omit [Globs] in
/-- A slice that is an argument. -/
theorem arg_slice {α : Type} {encA : α → List AV} (d : α) {sz bytes : Nat} (ht : P.underlying t = some (.slice e)) (hc : P.cellsOf e = sz) (hpos : 0 < sz) (he : Opens P e encA) (hby : P.bytesOf e = bytes) {H : Type} {enc : TypeId × Value → H} {W : World} {b : Nat} {sp : Nat → Bool} {held : Bool} {v : Value} {dd : DataW H} {ps : List MemPlace}
    {ts : List TypeId} {ds : List (DataW H)} (hsz : (DataW.weightsEach P ts ds).all (· ≤ reachBytes) = true) {j : Nat} (hts : ts[j]? = some t) (hds : ds[j]? = some dd) (hv : ∃ a len cap, v = .slice a len cap) (h : DataW.Trod enc P W b sp held t v dd ps) :
    ∃ (l : List α) (nl : Bool), RV W Non [] (.slc sz (some nl) l.length (fun i => encA (l.getD i d))) v ∧ l.length * bytes ≤ 140737488351232 := by
  obtain ⟨a, len, cap, rfl⟩ := hv
  obtain ⟨fuel, hf⟩ := h
  obtain ⟨l, nl, v', h1, h2, h3, h4⟩ := open_slice d ht hc hpos he hf
  simp [Value.cells] at h1
  subst h1
  refine ⟨l, nl, h3, ?_⟩
  rcases h4 with ⟨_, rfl⟩ | ⟨el, sp', hdd, hl⟩
  · simp
  · dsimp only at hdd
    subst hdd
    have := sized_slice hsz hts hds ht
    rw [hby, hl] at this
    have hr : reachBytes = 140737488351232 := by decide
    rw [hr] at this
    exact Nat.le_trans (Nat.mul_le_mul_right _ (Nat.le_add_right _ _)) this

/-- A law's function, called with what came in: it answers as its contract says, and nothing below has changed. -/
theorem calls_of {f : FuncId} {as : List AV} {r : AV} {u : Value} (h : CallT P f as [] (fun out A => out = .ret r ∧ A = [])) {W : World} {vs : Array Value} (hl : vs.size = as.length) (hv : ∀ (i : Nat) x v, as[i]? = some x → vs[i]? = some v → RV W Non [] x v) (hr : ∀ W' O v, RV W' O [] r v → v = u)
    (hst : ∀ p ∈ Globs.tabs, ∃ cs e fz, W.heap[p.1]? = some (.cells cs e fz) ∧ p.2 cs := by simp [Globs.tabs]) :
    Calls P f vs W fun e W' => e = .returned u ∧ Go.RowKit.Below W.heap.size W W' := by
  have hOw : ∀ b, Ow (cx W [] [] Non) [] [] b → Non b := fun b hb => hb.elim (fun z => z) (fun ⟨i, o, L, h, _⟩ => by simp at h)
  have hr0 : RelA (cx W [] [] Non) [] [] W := ⟨rfl, ⟨rfl, fun p hp => ⟨hst p hp, fun hb => hb.elim, fun ⟨i, o, L, h, _⟩ => by simp at h⟩⟩, fun i o L h => by simp at h, fun i j o o' L L' b hij h => by simp at h, fun b hb => hb.elim, fun b _ ⟨i, o, L, h, _⟩ => by simp at h, Nat.le_refl _, rfl, rfl, rfl, fun _ _ _ => rfl, fun b ⟨i, o, L, h, _⟩ => by simp at h, Compat.refl _, fun p hp => by simp at hp⟩
  refine (h W [] Non vs hr0 hl fun i x v hx hv' => (hv i x v hx hv').mono ⟨Nat.le_refl _, fun b _ hn => ⟨rfl, fun h => hn (hOw b h)⟩⟩ (Compat.refl _)).mono fun e W' hd => ?_
  obtain ⟨out, A, ρ', ⟨rfl, rfl⟩, hR', ho⟩ := hd
  have hρ : ρ' = [] := List.eq_nil_of_length_eq_zero hR'.len
  subst hρ
  cases e with
  | returned v => exact ⟨by rw [hr _ _ _ ho], ⟨hR'.os, hR'.tape, hR'.output, hR'.size, fun k hk => hR'.heap k hk (fun ⟨i, o, L, h, _⟩ => by simp at h)⟩⟩
  | panicked c => exact ho.elim
  | outgrown => exact ho.elim
end
end Go.Iron

/- Iron: contracts of library functions (Calls) as contracts of mine (CallT). -/
namespace Go.Iron
variable [Globs]
open Go.RowKit

/-- What stands, in a world. -/
def StandsIn (w : World) : Prop := ∀ p ∈ Globs.tabs, ∃ cs e fz, w.heap[p.1]? = some (.cells cs e fz) ∧ p.2 cs

/-- A function of the library that makes nothing but what lies behind all that was, and answers with plain data. -/
theorem callT_lib {P : Program} {f : FuncId} {as : List AV} {r : AV}
    (h : ∀ (w : World) (O : Nat → Prop) (vs : Array Value), StandsIn w → vs.size = as.length → (∀ (i : Nat) x v, as[i]? = some x → vs[i]? = some v → RV w O [] x v) →
      Calls P f vs w fun e w' => ∃ v, e = .returned v ∧ Below w.heap.size w w' ∧ ∀ w'' O', RV w'' O' [] r v) :
    CallT P f as [] (fun o A => o = .ret r ∧ A = []) := by
  intro w ρ X vs hR hl hv
  have hρ : ρ = [] := List.eq_nil_of_length_eq_zero hR.len
  subst hρ
  refine (h w _ vs (fun p hp => (hR.stand p hp).1) hl hv).mono fun e w' hd => ?_
  obtain ⟨v, rfl, hB, hr⟩ := hd
  have hno : ∀ b, ¬ Owned [] [] b := fun b ⟨i, o, L, h, _⟩ => by simp at h
  refine ⟨.ret r, [], [], ⟨rfl, rfl⟩, ⟨rfl, hR.len0, fun i o L h => by simp at h, fun i j o o' L L' b hij h => by simp at h, fun b hb => Nat.lt_of_lt_of_le (hR.far b hb) hB.size, fun b _ hb => hno b hb, hB.size, hB.os, hB.tape, hB.output, fun k hk _ => hB.block k hk, fun b hb => (hno b hb).elim, Compat.refl _, fun p hp => by simp at hp⟩, hr _ _⟩
end Go.Iron
