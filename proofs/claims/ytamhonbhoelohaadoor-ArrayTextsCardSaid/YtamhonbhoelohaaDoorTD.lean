/- Iron: what came in, opened: arguments of plain data as abstract values. -/
import Derived.Test.YtamhonbhoelohaaDoorTA
import Derived.Test.YtamhonbhoelohaaDoorTC
import Derived.WalkKit
import Derived.ProofKit
import Derived.OpenShut
import Derived.ShutString
import Derived.ChangeOld
import Derived.Below
import Derived.SizedLaws
import Derived.Lib.LaidTab
import Derived.Lib.AtoiErrMem
namespace Go.Iron

variable [Globs]
def Non : Nat → Prop := fun _ => False

/-- Cells of type e are told by an a, whose abstract cells are `encA a`. -/
def Opens (P : Program) (e : TypeId) {α : Type} (encA : α → List AV) : Prop :=
  ∀ (H : Type) (enc : TypeId × Value → H) (w : World) (base : Nat) (spare : Nat → Bool) (held : Bool) (fuel : Nat) (cs : List Value) (x : DataW H × List MemPlace), DataW.trod enc P w base spare held fuel e cs = some x →
    ∃ a : α, (encA a).length = cs.length ∧ ∀ (j : Nat) y v, (encA a)[j]? = some y → cs[j]? = some v → RV w Non [] y v ∧ v.oneCell' = true

section
variable {P : Program} {e t : TypeId}

omit [Globs] in
theorem opens_one {α : Type} {encA : α → AV} (h : ∀ (H : Type) (enc : TypeId × Value → H) (w : World) (base : Nat) (spare : Nat → Bool) (held : Bool) (fuel : Nat) (cs : List Value) (x : DataW H × List MemPlace), DataW.trod enc P w base spare held fuel e cs = some x →
    ∃ a v, cs = [v] ∧ RV w Non [] (encA a) v ∧ v.oneCell' = true) : Opens P e (fun a => [encA a]) := by
  intro H enc w base spare held fuel cs x hx
  obtain ⟨a, v, rfl, h1, h2⟩ := h H enc w base spare held fuel cs x hx
  refine ⟨a, rfl, fun j y u hy hu => ?_⟩
  cases j with
  | zero => simp at hy hu; subst hy; subst hu; exact ⟨h1, h2⟩
  | succ j => simp at hy

omit [Globs] in
theorem opens_int {k : IntKind} (he : P.underlying e = some (.int k)) : Opens P e (fun n : Int => [.val (.int k n)]) :=
  opens_one (encA := fun n : Int => .val (.int k n)) fun H enc w base spare held fuel cs x hx => by
    obtain ⟨n, h, _, _⟩ := DataW.trod_int he hx
    exact ⟨n, _, h, .val, rfl⟩
omit [Globs] in
theorem addr_add (a : Addr) (m n : Nat) : (a.add m).add n = a.add (m + n) := by
  by_cases hn : n = 0
  · subst hn
    simp [Addr.add]
  · unfold Addr.add
    by_cases hm : m = 0
    · subst hm; simp [hn]
    · simp [hm, hn, Nat.add_assoc]
omit [Globs] in
/-- A slice: its elements, told one by one. -/
theorem open_slice {α : Type} {encA : α → List AV} (d : α) {sz : Nat} (ht : P.underlying t = some (.slice e)) (hc : P.cellsOf e = sz) (hpos : 0 < sz) (he : Opens P e encA) {H : Type} {enc : TypeId × Value → H} {w : World} {base : Nat} {spare : Nat → Bool} {held : Bool} {fuel : Nat} {cs : List Value} {x : DataW H × List MemPlace}
    (hx : DataW.trod enc P w base spare held fuel t cs = some x) :
    ∃ (l : List α) (nl : Bool) (v : Value), cs = [v] ∧ v.oneCell' = true ∧ RV w Non [] (.slc sz (some nl) l.length (fun i => encA (l.getD i d))) v ∧ (x.1 = .nil ∧ l = [] ∨ ∃ el sp, x.1 = .slice el sp ∧ el.length = l.length) := by
  subst hc
  rcases DataW.trod_slice ht hx with ⟨rfl, rfl⟩ | ⟨a, len, cap, elems, rest, n, _, rfl, rfl, hb, hl, hm, hlen, hel, hsp, hns⟩
  · exact ⟨[], true, _, rfl, rfl, .slc rfl (Nat.le_refl _) (Nat.zero_le _) (fun b h => by cases h; rfl) (fun i h => by simp at h) (fun h => by omega) (fun _ _ => undef) (fun i j x a h => by simp at h) (fun i j x h => by simp at h), .inl ⟨rfl, rfl⟩⟩
  · have key : ∀ i, i < len → ∃ (b : α) (cs' : List Value), w.cells? base (a.add (i * P.cellsOf e)) (P.cellsOf e) = some cs' ∧ (encA b).length = cs'.length ∧ ∀ (j : Nat) y v, (encA b)[j]? = some y → cs'[j]? = some v → RV w Non [] y v ∧ v.oneCell' = true := by
      intro i hi
      have h1 := hel i hi
      have h2 : i < elems.length := by omega
      rw [List.getElem?_eq_getElem h2] at h1
      cases hcs : w.cells? base (a.add (i * P.cellsOf e)) (P.cellsOf e) with
      | none => simp [hcs] at h1
      | some cs' =>
        simp only [hcs, Option.bind_some] at h1
        obtain ⟨b, b1, b2⟩ := he H enc w base spare held n cs' _ h1
        exact ⟨b, cs', rfl, b1, b2⟩
    have hlist : ∃ l : List α, l.length = len ∧ ∀ i, i < len → ∃ (cs' : List Value), w.cells? base (a.add (i * P.cellsOf e)) (P.cellsOf e) = some cs' ∧ (encA (l.getD i d)).length = cs'.length ∧ ∀ (j : Nat) y v, (encA (l.getD i d))[j]? = some y → cs'[j]? = some v → RV w Non [] y v ∧ v.oneCell' = true := by
      clear hel hlen hx hl hsp hns
      induction len with
      | zero => exact ⟨[], rfl, fun i h => by omega⟩
      | succ m ih =>
        obtain ⟨l, h1, h2⟩ := ih (fun i hi => key i (by omega))
        obtain ⟨b, cs', b1, b2, b3⟩ := key m (by omega)
        refine ⟨l ++ [b], by simp [h1], fun i hi => ?_⟩
        by_cases him : i < m
        · have : (l ++ [b]).getD i d = l.getD i d := by simp [List.getD_eq_getElem?_getD, List.getElem?_append_left (show i < l.length by omega)]
          rw [this]
          exact h2 i him
        · have him' : i = m := by omega
          subst him'
          have : (l ++ [b]).getD i d = b := by simp [List.getD_eq_getElem?_getD, List.getElem?_append_right (show l.length ≤ i by omega), h1]
          rw [this]
          exact ⟨cs', b1, b2, b3⟩
    obtain ⟨l, hll, hk⟩ := hlist
    subst hll
    refine ⟨l, false, _, rfl, rfl, ?_, .inr ⟨_, _, rfl, by simpa using hlen⟩⟩
    have hcell : ∀ i cs', w.cells? base (a.add (i * P.cellsOf e)) (P.cellsOf e) = some cs' → cs'.length = P.cellsOf e ∧ ∀ j, j < P.cellsOf e → w.cell? ((a.add (i * P.cellsOf e)).add j) = cs'[j]? := fun i cs' h => by
      obtain ⟨_, h2, h3⟩ := World.cells?_some h
      exact ⟨h2, h3⟩
    refine .slc rfl hl hm (fun b h => by cases h; rfl) (fun i hi => ?_) (fun h0 => ⟨a, rfl, ?_, fun h => h⟩) (fun i j => ((w.cell? (a.add (i * P.cellsOf e + j))).getD undef)) (fun i j y a' hi hy ha => ?_) (fun i j y hi hy => ?_)
    · obtain ⟨cs', c1, c2, c3⟩ := hk i hi
      rw [c2, (hcell i cs' c1).1]
    · obtain ⟨cs', c1, c2, c3⟩ := hk 0 h0
      have := World.cells?_block c1 hpos
      rwa [add_block] at this
    all_goals
      obtain ⟨cs', c1, c2, c3⟩ := hk i hi
      obtain ⟨d1, d2⟩ := hcell i cs' c1
      have hj : j < P.cellsOf e := by rw [← d1, ← c2]; exact (List.getElem?_eq_some_iff.1 hy).1
      have hj' : j < cs'.length := by omega
      have hv := d2 j hj
      rw [List.getElem?_eq_getElem hj'] at hv
      obtain ⟨r1, r2⟩ := c3 j y _ hy (List.getElem?_eq_getElem hj')
      have hadd : (a.add (i * P.cellsOf e)).add j = a.add (i * P.cellsOf e + j) := addr_add _ _ _
      rw [hadd] at hv
    · cases ha
      rw [hv]
      exact ⟨rfl, r2⟩
    · rw [hv]
      exact r1

/-- A struct's fields from the place o on. -/
def OpensF (P : Program) (tot : Nat) (fl : List Field) (o : Nat) {α : Type} (encA : α → List AV) : Prop :=
  ∀ (H : Type) (enc : TypeId × Value → H) (w : World) (base : Nat) (spare : Nat → Bool) (held : Bool) (fuel : Nat) (cs : List Value), cs.length = tot →
    (∀ f ∈ fl, ∃ x : DataW H × List MemPlace, DataW.trod enc P w base spare held fuel f.type ((cs.drop f.offset).take (P.cellsOf f.type)) = some x) →
    ∃ a : α, (encA a).length + o = tot ∧ ∀ (j : Nat) y v, (encA a)[j]? = some y → cs[o + j]? = some v → RV w Non [] y v ∧ v.oneCell' = true

omit [Globs] in
theorem opensF_nil {tot : Nat} : OpensF P tot [] tot (fun _ : Unit => []) := fun H enc w base spare held fuel cs _ _ => ⟨(), by simp, fun j y v h => by simp at h⟩
omit [Globs] in
theorem opensF_cons {α β : Type} {e1 : α → List AV} {e2 : β → List AV} {tot o s o' : Nat} {f : Field} {fl : List Field} (ho : f.offset = o) (hs : P.cellsOf f.type = s) (ho' : o + s = o') (hle : o' ≤ tot) (h1 : Opens P f.type e1) (h2 : OpensF P tot fl o' e2) :
    OpensF P tot (f :: fl) o (fun p : α × β => e1 p.1 ++ e2 p.2) := by
  subst ho hs ho'
  intro H enc w base spare held fuel cs hcs hx
  obtain ⟨x, hx1⟩ := hx f (by simp)
  obtain ⟨a, a1, a2⟩ := h1 H enc w base spare held fuel _ x hx1
  obtain ⟨b, b1, b2⟩ := h2 H enc w base spare held fuel cs hcs (fun g hg => hx g (by simp [hg]))
  have hl : (e1 a).length = P.cellsOf f.type := by rw [a1]; simp; omega
  refine ⟨(a, b), by simp; omega, fun j y v hy hv => ?_⟩
  dsimp only at hy
  by_cases hj : j < P.cellsOf f.type
  · rw [List.getElem?_append_left (by omega)] at hy
    refine a2 j y v hy ?_
    rw [List.getElem?_take, if_pos hj, List.getElem?_drop]
    exact hv
  · rw [List.getElem?_append_right (by omega), hl] at hy
    refine b2 _ y v hy ?_
    rw [show f.offset + P.cellsOf f.type + (j - P.cellsOf f.type) = f.offset + j by omega]
    exact hv
omit [Globs] in
theorem opens_struct {α : Type} {encA : α → List AV} {fs : Array Field} {tot : Nat} (ht : P.underlying t = some (.struct fs)) (hc : P.cellsOf t = tot) (h : OpensF P tot fs.toList 0 encA) : Opens P t encA := by
  intro H enc w base spare held fuel cs x hx
  obtain ⟨xs, n, _, _, hl, hxl, hf⟩ := DataW.trod_struct ht hx
  obtain ⟨a, a1, a2⟩ := h H enc w base spare held n cs (by rw [hl, hc]) (fun f hfm => by
    obtain ⟨i, hi⟩ := List.mem_iff_getElem?.1 hfm
    have hi' : i < xs.length := by rw [hxl]; have := (List.getElem?_eq_some_iff.1 hi).1; simpa using this
    exact ⟨xs[i], by rw [hf i f (by simpa using hi)]; simp [hi']⟩)
  exact ⟨a, by omega, fun j y v hy hv => a2 j y v hy (by simpa using hv)⟩
omit [Globs] in
theorem Opens.map {α β : Type} {e1 : α → List AV} {e2 : β → List AV} (h : Opens P t e1) (f : α → β) (hf : ∀ a, e2 (f a) = e1 a) : Opens P t e2 := by
  intro H enc w base spare held fuel cs x hx
  obtain ⟨a, a1, a2⟩ := h H enc w base spare held fuel cs x hx
  exact ⟨f a, by rw [hf]; exact a1, by rw [hf]; exact a2⟩


omit [Globs] in
/-- A slice that is an argument. -/
theorem arg_slice {α : Type} {encA : α → List AV} (d : α) {sz bytes : Nat} (ht : P.underlying t = some (.slice e)) (hc : P.cellsOf e = sz) (hpos : 0 < sz) (he : Opens P e encA) (hby : P.bytesOf e = bytes) {H : Type} {enc : TypeId × Value → H} {W : World} {b : Nat} {sp : Nat → Bool} {held : Bool} {v : Value} {dd : DataW H} {ps : List MemPlace}
    {ts : List TypeId} {ds : List (DataW H)} (hsz : (DataW.weightsEach P ts ds).all (· ≤ reachBytes) = true) {j : Nat} (hts : ts[j]? = some t) (hds : ds[j]? = some dd) (hv : ∃ a len cap, v = .slice a len cap) (h : DataW.Trod enc P W b sp held t v dd ps) :
    ∃ (l : List α) (nl : Bool), RV W Non [] (.slc sz (some nl) l.length (fun i => encA (l.getD i d))) v ∧ l.length * bytes ≤ 140737488351232 := by
  obtain ⟨a, len, cap, rfl⟩ := hv
  obtain ⟨fuel, hf⟩ := h
  obtain ⟨l, nl, v', h1, h2, h3, h4⟩ := open_slice d ht hc hpos he hf
  simp [Value.cells] at h1
  subst h1
  refine ⟨l, nl, h3, ?_⟩
  rcases h4 with ⟨_, rfl⟩ | ⟨el, sp', hdd, hl⟩
  · simp
  · dsimp only at hdd
    subst hdd
    have := sized_slice hsz hts hds ht
    rw [hby, hl] at this
    have hr : reachBytes = 140737488351232 := by decide
    rw [hr] at this
    exact Nat.le_trans (Nat.mul_le_mul_right _ (Nat.le_add_right _ _)) this

/-- A law's function, called with what came in: it answers as its contract says, and nothing below has changed. -/
theorem calls_of {f : FuncId} {as : List AV} {r : AV} {u : Value} (h : CallT P f as [] (fun out A => out = .ret r ∧ A = [])) {W : World} {vs : Array Value} (hl : vs.size = as.length) (hv : ∀ (i : Nat) x v, as[i]? = some x → vs[i]? = some v → RV W Non [] x v) (hr : ∀ W' O v, RV W' O [] r v → v = u)
    (hst : ∀ p ∈ Globs.tabs, ∃ cs e fz, W.heap[p.1]? = some (.cells cs e fz) ∧ p.2 cs := by simp [Globs.tabs]) :
    Calls P f vs W fun e W' => e = .returned u ∧ Go.RowKit.Below W.heap.size W W' := by
  have hOw : ∀ b, Ow (cx W [] [] Non) [] [] b → Non b := fun b hb => hb.elim (fun z => z) (fun ⟨i, o, L, h, _⟩ => by simp at h)
  have hr0 : RelA (cx W [] [] Non) [] [] W := ⟨rfl, ⟨rfl, fun p hp => ⟨hst p hp, fun hb => hb.elim, fun ⟨i, o, L, h, _⟩ => by simp at h⟩⟩, fun i o L h => by simp at h, fun i j o o' L L' b hij h => by simp at h, fun b hb => hb.elim, fun b _ ⟨i, o, L, h, _⟩ => by simp at h, Nat.le_refl _, rfl, rfl, rfl, fun _ _ _ => rfl, fun b ⟨i, o, L, h, _⟩ => by simp at h, Compat.refl _, fun p hp => by simp at hp⟩
  refine (h W [] Non vs hr0 hl fun i x v hx hv' => (hv i x v hx hv').mono ⟨Nat.le_refl _, fun b _ hn => ⟨rfl, fun h => hn (hOw b h)⟩⟩ (Compat.refl _)).mono fun e W' hd => ?_
  obtain ⟨out, A, ρ', ⟨rfl, rfl⟩, hR', ho⟩ := hd
  have hρ : ρ' = [] := List.eq_nil_of_length_eq_zero hR'.len
  subst hρ
  cases e with
  | returned v => exact ⟨by rw [hr _ _ _ ho], ⟨hR'.os, hR'.tape, hR'.output, hR'.size, fun k hk => hR'.heap k hk (fun ⟨i, o, L, h, _⟩ => by simp at h)⟩⟩
  | panicked c => exact ho.elim
  | outgrown => exact ho.elim
end
end Go.Iron

/- Iron: contracts of library functions (Calls) as contracts of mine (CallT). -/
namespace Go.Iron
variable [Globs]
open Go.RowKit

/-- What stands, in a world. -/
def StandsIn (w : World) : Prop := ∀ p ∈ Globs.tabs, ∃ cs e fz, w.heap[p.1]? = some (.cells cs e fz) ∧ p.2 cs

/-- A function of the library that makes nothing but what lies behind all that was, and answers with plain data. -/
theorem callT_lib {P : Program} {f : FuncId} {as : List AV} {r : AV}
    (h : ∀ (w : World) (O : Nat → Prop) (vs : Array Value), StandsIn w → vs.size = as.length → (∀ (i : Nat) x v, as[i]? = some x → vs[i]? = some v → RV w O [] x v) →
      Calls P f vs w fun e w' => ∃ v, e = .returned v ∧ Below w.heap.size w w' ∧ ∀ w'' O', RV w'' O' [] r v) :
    CallT P f as [] (fun o A => o = .ret r ∧ A = []) := by
  intro w ρ X vs hR hl hv
  have hρ : ρ = [] := List.eq_nil_of_length_eq_zero hR.len
  subst hρ
  refine (h w _ vs (fun p hp => (hR.stand p hp).1) hl hv).mono fun e w' hd => ?_
  obtain ⟨v, rfl, hB, hr⟩ := hd
  have hno : ∀ b, ¬ Owned [] [] b := fun b ⟨i, o, L, h, _⟩ => by simp at h
  refine ⟨.ret r, [], [], ⟨rfl, rfl⟩, ⟨rfl, hR.len0, fun i o L h => by simp at h, fun i j o o' L L' b hij h => by simp at h, fun b hb => Nat.lt_of_lt_of_le (hR.far b hb) hB.size, fun b _ hb => hno b hb, hB.size, hB.os, hB.tape, hB.output, fun k hk _ => hB.block k hk, fun b hb => (hno b hb).elim, Compat.refl _, fun p hp => by simp at hp⟩, hr _ _⟩
end Go.Iron

/- The library's functions in the seat of ArrayTexts: Itoa, Atoi, Join. -/
namespace Go.Iron.Tryd
open Go.Proofs Go.RowKit

abbrev Str := List UInt8
abbrev sv (s : Str) : AV := .val (.string (bs s))
def txtR (xs : List Str) : Nat → List AV := encR (fun s => [sv s]) [] xs
def txtS (nl : Option Bool) (l : List Str) : AV := .slc 1 nl l.length (txtR l)
theorem grow_below (w : World) (k : Nat) (os : Array Obj) : Below w.heap.size w (Sort.grow (w.drewN k) os) :=
  ⟨rfl, rfl, rfl, by simp [Sort.grow, World.drewN], fun j hj => by
    simp only [Sort.grow, World.drewN]
    rw [Array.getElem?_append_left hj]⟩
theorem tab_of {w : World} (h : StandsIn w) : Lib.TabIs Tryd.prog w "internal/strconv.uint64pow10" .u64 Lib.pow10Tab := by
  obtain ⟨cs, e, fz, h1, h2⟩ := h _ (List.mem_singleton.2 rfl)
  have hg : Tryd.prog.globalNamed "internal/strconv.uint64pow10" = some 0 := by kernel_rfl
  unfold Lib.TabIs World.var?
  rw [hg]
  dsimp only [Option.bind]
  rw [h1, h2]
theorem lib_itoa (n : Int) (h0 : -9223372036854775808 ≤ n) (h1 : n ≤ 9223372036854775807) : CallT Tryd.prog 21 [iv n] [] (fun o A => o = .ret (sv (Lib.itoa n)) ∧ A = []) :=
  callT_lib fun w O vs hst hl hv => by
    obtain ⟨v, rfl⟩ : ∃ v, vs = #[v] := by
      obtain ⟨l⟩ := vs
      match l, hl with
      | [v], _ => exact ⟨v, rfl⟩
    have hv0 := rv_val (hv 0 _ v rfl rfl)
    subst hv0
    refine (Tryd.strconv_Itoa n h0 h1 w (tab_of hst)).mono fun e w' hh => ?_
    obtain ⟨rfl, k, os, rfl⟩ := hh
    exact ⟨_, rfl, grow_below w k os, fun w'' O' => .val⟩
theorem lib_atoi (s : Str) (n : Int) (hl : s.length ≤ 18) (h : Lib.atoi s = some n) : CallT Tryd.prog 35 [sv s] [] (fun o A => o = .ret (.tup [iv n, .val .nilIface]) ∧ A = []) :=
  callT_lib fun w O vs hst hl' hv => by
    obtain ⟨v, rfl⟩ : ∃ v, vs = #[v] := by
      obtain ⟨l⟩ := vs
      match l, hl' with
      | [v], _ => exact ⟨v, rfl⟩
    have hv0 := rv_val (hv 0 _ v rfl rfl)
    subst hv0
    refine (Tryd.strconv_Atoi (bs s) n (show s.length ≤ 18 from hl) h w).mono fun e w' hh => ?_
    obtain ⟨rfl, t, rfl⟩ := hh
    refine ⟨_, rfl, Lib.bytesWorld_below w 5 t, fun w'' O' => .tup rfl fun i x v hx hv => ?_⟩
    rcases i with _ | _ | i
    · cases hx; cases hv; exact .val
    · cases hx; cases hv; exact .val
    · simp at hx
theorem lib_join (nl : Option Bool) (xs : List Str) (sep : Str) (hn : xs.length ≤ 1000) (hl : (Lib.join xs sep).length ≤ 140737488355328) : CallT Tryd.prog 22 [txtS nl xs, sv sep] [] (fun o A => o = .ret (sv (Lib.join xs sep)) ∧ A = []) :=
  callT_lib fun w O vs hst hl' hv => by
    obtain ⟨v, v2, rfl⟩ : ∃ v v2, vs = #[v, v2] := by
      obtain ⟨l⟩ := vs
      match l, hl' with
      | [v, v2], _ => exact ⟨v, v2, rfl⟩
    have hv1 := rv_val (hv 1 _ v2 rfl rfl)
    subst hv1
    obtain ⟨A, cap, g, e1, e3, e4, e5, e6, e7, e8, e9⟩ := rv_slc (hv 0 _ v rfl rfl)
    subst e1
    cases xs with
    | nil =>
      refine (Tryd.strings_Join_none A cap (bs sep) w).mono fun e w' hh => ?_
      obtain ⟨rfl, rfl⟩ := hh
      exact ⟨_, rfl, Below.refl _ _, fun w'' O' => .val⟩
    | cons x r =>
      obtain ⟨ad, rfl, hb, hO⟩ := e7 (by simp)
      have hspot : ad.spot = none := by
        have h0 := (e8 0 0 _ ad (by simp) rfl rfl).1
        rw [show ad.add (0 * 1 + 0) = ad from rfl] at h0
        cases hsp : ad.spot with
        | none => rfl
        | some k =>
          unfold World.cell? at h0
          rw [hsp] at h0
          split at h0
          · simp at h0
          · cases h0
      obtain ⟨bk, o, spt⟩ := ad
      dsimp only at hspot hb
      subst hspot
      have hj := Tryd.strings_Join bk o cap ((x :: r).map bs) (bs sep) w (fun j y hy => ?_) hb (by simp at hn ⊢; omega) (by simpa using e3) (by
        rw [List.map_map]
        have : ((fun a : ByteArray => a.data.toList) ∘ bs) = fun s : Str => s := by funext s; rfl
        rw [this, List.map_id']
        exact hl)
      · rw [List.length_map] at hj
        refine hj.mono fun e w' hh => ?_
        obtain ⟨rfl, hB⟩ := hh
        refine ⟨_, rfl, hB, fun w'' O' => ?_⟩
        rw [List.map_map]
        have : ((fun a : ByteArray => a.data.toList) ∘ bs) = fun s : Str => s := by funext s; rfl
        rw [this, List.map_id']
        exact .val
      · have hjl : j < (x :: r).length := by
          have := (List.getElem?_eq_some_iff.1 hy).1
          simpa using this
        rw [List.getElem?_map, List.getElem?_eq_getElem hjl] at hy
        have hy' : bs (x :: r)[j] = y := by simpa using hy
        have hcell : txtR (x :: r) j = [sv (x :: r)[j]] := by
          show [sv ((x :: r).getD j [])] = _
          rw [List.getD_eq_getElem?_getD, List.getElem?_eq_getElem hjl]
          rfl
        have h1 := (e8 j 0 (sv (x :: r)[j]) ⟨bk, o, none⟩ hjl (by rw [hcell]; rfl) rfl).1
        have h2 := rv_val (e9 j 0 (sv (x :: r)[j]) hjl (by rw [hcell]; rfl))
        rw [h2, hy'] at h1
        rw [← h1]
        congr 1
        unfold Addr.add
        split
        · rename_i h0; simp at h0; subst h0; rfl
        · simp
end Go.Iron.Tryd

/- The seat of ArrayTexts: the reference's numbers and Text. -/
namespace Go.Iron.Tryd
open Go.Proofs

theorem bs_app (a b : Str) : bs a ++ bs b = bs (a ++ b) := by
  apply ByteArray.ext
  simp [bs, ByteArray.data_append]
def digS (n : Nat) : Str := if n = 0 then [] else Lib.decDigits n
theorem digS_step {n : Nat} (h : 0 < n) : digS n = digS (n / 10) ++ [UInt8.ofNat (48 + n % 10)] := by
  unfold digS
  rw [if_neg (by omega), Lib.decDigits]
  by_cases h1 : n < 10
  · rw [dif_pos h1, if_pos (by omega), Nat.mod_eq_of_lt h1]; rfl
  · rw [dif_neg h1, if_neg (by omega)]
theorem dec_len : ∀ u : Nat, (Lib.decDigits u).length ≤ u + 1 := by
  intro u
  induction u using Nat.strongRecOn with
  | ind u ih =>
    rw [Lib.decDigits]
    by_cases h : u < 10
    · rw [dif_pos h]; simp
    · rw [dif_neg h, List.length_append]
      have := ih (u / 10) (by omega)
      simp
      omega
theorem dig_len (u : Nat) : (digS u).length ≤ u + 1 := by
  unfold digS
  split
  · simp
  · exact dec_len u
theorem bl_textR (m : Nat) (r : Nat → Int) : (bl (textR m r)).length = m := by simp [textR, bl]
theorem blS (s : Str) : (bl (bs s)).length = s.length := rfl
theorem dig_byte {m : Nat} : textR 1 (fun i => getU (chunk 1 (AV.val (Value.int IntKind.u8 (IntKind.u8.wrap (IntKind.i64.wrap (48 + (m : Int).tmod 10)))) :: rep [AV.val (Value.int IntKind.u8 0)] 0) i)) = bs [UInt8.ofNat (48 + m % 10)] := by
  have h1 : (m : Int).tmod 10 = ((m % 10 : Nat) : Int) := rfl
  have h2 : m % 10 < 10 := Nat.mod_lt _ (by decide)
  rw [h1]
  generalize m % 10 = d at *
  have h3 : IntKind.u8.wrap (IntKind.i64.wrap (48 + (d : Int))) = 48 + d := by
    rw [w64 (by omega) (by omega)]
    exact IntWalk.u8_in _ (by omega)
  rw [h3]
  show (⟨⟨[UInt8.ofNat ((48 : Int) + d).toNat]⟩⟩ : ByteArray) = bs [UInt8.ofNat (48 + d)]
  congr 4
theorem ref_Decimal (n : Nat) (hn : n < 1000000000) : CallT Tryd.prog 32 [iv n] [] (fun o A => o = .ret (sv (Lib.decDigits n)) ∧ A = []) := by
  refine callS_body (n := 19) rfl rfl fun w ρ X => ?_
  refine runS_x (I := inf) (J := jnf) ⟨false, false, [], 0, 0⟩ 9999 rfl (by repeat (first | exact obs_nil | refine obs_draw (by kernel_rfl) ?_ | refine obs_same ?_ | refine obs_and ?_ | refine obs_by (by (simp [inB] <;> omega)) ?_)) ?_
  refine runS_cond rfl (fun h => ?_) (fun h => ?_)
  · refine runS_x (I := inf) (J := jnf) ⟨false, false, [], 0, 0⟩ 9999 rfl (by repeat (first | exact obs_nil | refine obs_draw (by kernel_rfl) ?_ | refine obs_same ?_ | refine obs_and ?_ | refine obs_by (by (simp [inB] <;> omega)) ?_)) ?_
    refine runS_ret (I := inf) 0 rfl (Nat.le_refl _) rfl .nil rfl ⟨?_, rfl⟩
    have : n = 0 := by simp at h; omega
    subst this
    rw [Lib.decDigits]
    rfl
  have hn0 : 0 < n := by simp at h; omega
  refine runS_x (I := inf) (J := jnf) ⟨false, false, [], 0, 0⟩ 9999 rfl (by repeat (first | exact obs_nil | refine obs_draw (by kernel_rfl) ?_ | refine obs_same ?_ | refine obs_and ?_ | refine obs_by (by (simp [inB] <;> omega)) ?_)) ?_
  refine runS_while (fun (x : Nat × Str) τ ar => (τ 0 = iv x.1 ∧ τ 3 = sv x.2) ∧ ar = [] ∧ x.1 < 1000000000 ∧ digS n = digS x.1 ++ x.2) (fun x => x.1) (n, []) ⟨⟨rfl, rfl⟩, rfl, hn, by simp⟩ ?_
  rintro ⟨m, acc⟩ τ' ar' ⟨⟨g0, g3⟩, rfl, hm, hp⟩ ih
  dsimp only at g0 g3 hm hp ih
  refine runS_says 0 (by exact g0) (Says.refl _) ?_; refine runS_says 3 (by exact g3) (Says.refl _) ?_
  refine runS_x (I := inf) (J := jnf) ⟨false, false, [], 0, 0⟩ 9999 rfl (by repeat (first | exact obs_nil | refine obs_draw (by kernel_rfl) ?_ | refine obs_same ?_ | refine obs_and ?_ | refine obs_by (by (simp [inB] <;> omega)) ?_)) ?_
  refine runS_cond rfl (fun hlt => ?_) (fun hlt => ?_)
  · have hlt' : 0 < m := by simpa using hlt
    have hal : acc.length ≤ n + 1 := by
      have h1 := dig_len n
      rw [hp, List.length_append] at h1
      omega
    refine runS_x (I := inf) (J := jnf) ⟨false, false, [], 0, 0⟩ 9999 rfl (by repeat (first | exact obs_nil | refine obs_draw (by kernel_rfl) ?_ | refine obs_same ?_ | refine obs_and ?_ | refine obs_by (by (simp [inB, bl_textR, blS] <;> omega)) ?_)) ?_
    refine runS_says 3 (show _ = sv (UInt8.ofNat (48 + m % 10) :: acc) from congrArg (fun b => AV.val (.string b)) ((congrArg (· ++ bs acc) dig_byte).trans (bs_app _ _))) (Says.refl _) ?_
    refine runS_drop 0 (Nat.zero_le _) rfl (by repeat (first | exact .nil | refine .row (fun j hj => rfl) ?_ | refine .box rfl ?_ | refine .fam (fun k j hk hj => rfl) ?_ | refine .loop (scrub_under _ _) ?_ | refine .dfr ?_ | refine .gone ?_ | refine .map (fun p hp => by (obtain ⟨k, _, rfl⟩ := List.mem_map.1 hp; rfl)) ?_)) rfl rfl rfl (by repeat (first | exact .nil | refine .cons rfl rfl rfl (scrub_under _ _) ?_)) ?_
    refine ih (m / 10, UInt8.ofNat (48 + m % 10) :: acc) _ _ ?_ ⟨⟨?_, rfl⟩, rfl, ?_, ?_⟩
    · dsimp only; omega
    · have : (m : Int).tdiv 10 = ((m / 10 : Nat) : Int) := rfl
      show iv (IntKind.wrap .i64 ((m : Int).tdiv 10)) = _
      rw [this, w64 (by omega) (by omega)]
    · dsimp only; omega
    · dsimp only
      rw [hp, digS_step hlt', List.append_assoc]
      rfl
  · have : m = 0 := by simp at hlt; omega
    subst this
    refine runS_x (I := inf) (J := jnf) ⟨false, false, [], 0, 0⟩ 9999 rfl (by repeat (first | exact obs_nil | refine obs_draw (by kernel_rfl) ?_ | refine obs_same ?_ | refine obs_and ?_ | refine obs_by (by (simp [inB] <;> omega)) ?_)) ?_
    refine runS_ret (I := inf) 0 rfl (Nat.le_refl _) rfl .nil rfl ⟨?_, rfl⟩
    have : digS n = Lib.decDigits n := if_neg (by omega)
    rw [← this, hp]
    rfl
end Go.Iron.Tryd

/- The seat of ArrayTexts: Text, of both. -/
namespace Go.Iron.Tryd
open Go.Proofs

theorem bl1 (a : UInt8) : (bl ⟨#[a]⟩).length = 1 := rfl
theorem ref_number (n : Int) (h1 : -1000000 < n) (h2 : n < 1000000) : CallT Tryd.prog 23 [iv n] [] (fun o A => o = .ret (sv (Lib.itoa n)) ∧ A = []) := by
  by_cases hn : n < 0
  · obtain ⟨m, rfl⟩ : ∃ m : Nat, n = -(m : Int) := ⟨n.natAbs, by omega⟩
    have hm0 : 0 < m := by omega
    refine callS_body (n := 11) rfl rfl fun w ρ X => ?_
    refine runS_x (I := inf) (J := jnf) ⟨false, false, [], 0, 0⟩ 9999 rfl (by repeat (first | exact obs_nil | refine obs_draw (by kernel_rfl) ?_ | refine obs_same ?_ | refine obs_and ?_ | refine obs_by (by (simp [inB] <;> omega)) ?_)) ?_
    refine runS_cond rfl (fun h => ?_) (fun h => ?_)
    · refine runS_x (I := inf) (J := jnf) ⟨false, false, [], 0, 0⟩ 9999 rfl (by repeat (first | exact obs_nil | refine obs_draw (by kernel_rfl) ?_ | refine obs_same ?_ | refine obs_and ?_ | refine obs_by (by (simp [inB] <;> omega)) ?_)) ?_
      have hneg : IntKind.wrap .i64 (0 - -(m : Int)) = (m : Int) := by rw [show (0 : Int) - -(m : Int) = m by omega, w64 (by omega) (by omega)]
      refine runS_says 6 (show _ = iv (m : Int) from congrArg iv hneg) (Says.refl _) ?_
      refine runS_call rfl rfl rfl rfl rfl rfl rfl (ref_Decimal m (by omega)) ?_
      have hdl := dec_len m
      refine runS_x (I := inf) (J := jnf) ⟨false, false, [], 0, 0⟩ 9999 rfl (by repeat (first | exact obs_nil | refine obs_draw (by kernel_rfl) ?_ | refine obs_same ?_ | refine obs_and ?_ | refine obs_by (by (simp [inB, blS, bl1, -List.getD_eq_getElem?_getD] <;> omega)) ?_)) ?_
      refine runS_ret (I := inf) 0 rfl (Nat.le_refl _) rfl .nil rfl ⟨?_, rfl⟩
      have e : Lib.itoa (-(m : Int)) = 45 :: Lib.decDigits m := by rw [Lib.itoa, if_pos hn]; congr 1; congr 1; omega
      rw [e]
      exact congrArg (fun b => Out.ret (.val (.string b))) (bs_app [45] (Lib.decDigits m))
    · exfalso; simp at h; omega
  · obtain ⟨m, rfl⟩ : ∃ m : Nat, n = (m : Int) := ⟨n.toNat, by omega⟩
    refine callS_body (n := 11) rfl rfl fun w ρ X => ?_
    refine runS_x (I := inf) (J := jnf) ⟨false, false, [], 0, 0⟩ 9999 rfl (by repeat (first | exact obs_nil | refine obs_draw (by kernel_rfl) ?_ | refine obs_same ?_ | refine obs_and ?_ | refine obs_by (by (simp [inB] <;> omega)) ?_)) ?_
    refine runS_cond rfl (fun h => ?_) (fun h => ?_)
    · exfalso; simp at h; omega
    · refine runS_x (I := inf) (J := jnf) ⟨false, false, [], 0, 0⟩ 9999 rfl (by repeat (first | exact obs_nil | refine obs_draw (by kernel_rfl) ?_ | refine obs_same ?_ | refine obs_and ?_ | refine obs_by (by (simp [inB] <;> omega)) ?_)) ?_
      refine runS_call rfl rfl rfl rfl rfl rfl rfl (ref_Decimal m (by omega)) ?_
      refine runS_x (I := inf) (J := jnf) ⟨false, false, [], 0, 0⟩ 9999 rfl (by repeat (first | exact obs_nil | refine obs_draw (by kernel_rfl) ?_ | refine obs_same ?_ | refine obs_and ?_ | refine obs_by (by (simp [inB] <;> omega)) ?_)) ?_
      refine runS_ret (I := inf) 0 rfl (Nat.le_refl _) rfl .nil rfl ⟨?_, rfl⟩
      rw [Lib.itoa, if_neg hn, Int.toNat_natCast]
      rfl
theorem itoa_len (n : Int) (h1 : -1000000 < n) (h2 : n < 1000000) : (Lib.itoa n).length ≤ 1000002 := by
  unfold Lib.itoa
  split
  · have := dec_len n.natAbs
    simp
    omega
  · have := dec_len n.toNat
    omega
def dimT (d : Dim) : Str := if d.1 ≠ 1 then Lib.itoa d.1 ++ [58] ++ Lib.itoa d.2 else Lib.itoa d.2
def bodyT (ds : List Dim) : Str := Lib.join (ds.map dimT) [44]
def textF (ds : List Dim) : Str := if validD ds then [40] ++ bodyT ds ++ [41] else []
theorem join_snoc {x : Str} {r : List Str} {y sep : Str} : Lib.join (x :: r ++ [y]) sep = Lib.join (x :: r) sep ++ (sep ++ y) := by
  rw [List.cons_append, Lib.join_cons, Lib.join_cons, Lib.joinTail, Lib.joinTail, List.map_append, List.flatten_append]
  simp
theorem dimT_len {d : Dim} (h1 : -1000000 < d.1) (h2 : d.1 < 1000000) (h3 : -1000000 < d.2) (h4 : d.2 < 1000000) : (dimT d).length ≤ 2000005 := by
  have a := itoa_len d.1 h1 h2
  have b := itoa_len d.2 h3 h4
  unfold dimT
  split
  · simp; omega
  · omega
/-- The first i of them. -/
def partT (ds : List Dim) (i : Nat) : Str := bodyT (ds.take i)
theorem partT_succ {ds : List Dim} {i : Nat} (h : i < ds.length) : partT ds (i + 1) = (if 0 < i then partT ds i ++ [44] else partT ds i) ++ dimT (ds.getD i (0, 0)) := by
  have e : ds.take (i + 1) = ds.take i ++ [ds.getD i (0, 0)] := by
    rw [List.take_succ_eq_append_getElem h, List.getD_eq_getElem?_getD, List.getElem?_eq_getElem h]; rfl
  unfold partT bodyT
  rw [e, List.map_append]
  by_cases hi : 0 < i
  · rw [if_pos hi]
    have hne : (ds.take i).map dimT ≠ [] := by
      intro h0
      have := congrArg List.length h0
      rw [List.length_map, List.length_take] at this
      have : min i ds.length = 0 := this
      omega
    obtain ⟨x, r, hx⟩ := List.exists_cons_of_ne_nil hne
    rw [hx]
    show Lib.join (x :: r ++ [dimT (ds.getD i (0, 0))]) [44] = _
    rw [join_snoc]
    simp
  · have : i = 0 := by omega
    subst this
    rw [if_neg (by omega)]
    simp [Lib.join_one, Lib.join_nil]
theorem partT_len {ds : List Dim} (hf : ∀ i, i < ds.length → (dimT (ds.getD i (0, 0))).length ≤ 2000005) : ∀ i, i ≤ ds.length → (partT ds i).length ≤ i * 2000006
  | 0, _ => by simp [partT, bodyT, Lib.join_nil]
  | i + 1, h => by
    rw [partT_succ (by omega)]
    have h1 := partT_len hf i (by omega)
    have h2 := hf i (by omega)
    split <;> simp [-List.getD_eq_getElem?_getD] <;> omega
theorem dim_in {n : Int} {i : Nat} {ds : List Dim} (hf : fitL n ds) (hi : i < ds.length) : -32768 ≤ (ds.getD i (0, 0)).1 ∧ (ds.getD i (0, 0)).1 ≤ (ds.getD i (0, 0)).2 ∧ (ds.getD i (0, 0)).2 < 32768 := by
  induction ds generalizing n i with
  | nil => simp at hi
  | cons d l ih =>
    cases i with
    | zero => exact hf.1
    | succ i => simpa using ih hf.2.2 (by simpa using hi)
theorem dims_bound {ds : List Dim} (hv : validD ds = true) {i : Nat} (hi : i < ds.length) : -1000000 < (ds.getD i (0, 0)).1 ∧ (ds.getD i (0, 0)).1 < 1000000 ∧ -1000000 < (ds.getD i (0, 0)).2 ∧ (ds.getD i (0, 0)).2 < 1000000 := by
  have := dim_in (fit_valid hv).1 hi
  omega
theorem ref_Text (nl : Option Bool) (ds : List Dim) : CallT Tryd.prog 12 [dimS nl ds] [] (fun o A => o = .ret (sv (textF ds)) ∧ A = []) := by
  refine callS_body (n := 43) rfl rfl fun w ρ X => ?_
  refine runS_x (I := inf) (J := jnf) ⟨false, false, [], 0, 0⟩ 9999 rfl (by repeat (first | exact obs_nil | refine obs_draw (by kernel_rfl) ?_ | refine obs_same ?_ | refine obs_and ?_ | refine obs_by (by (simp [inB] <;> omega)) ?_)) ?_
  refine runS_call rfl rfl rfl rfl rfl rfl rfl (r_Valid nl ds) ?_
  refine runS_x (I := inf) (J := jnf) ⟨false, false, [], 0, 0⟩ 9999 rfl (by repeat (first | exact obs_nil | refine obs_draw (by kernel_rfl) ?_ | refine obs_same ?_ | refine obs_and ?_ | refine obs_by (by (simp [inB] <;> omega)) ?_)) ?_
  refine runS_cond rfl (fun h => ?_) (fun h => ?_)
  · refine runS_x (I := inf) (J := jnf) ⟨false, false, [], 0, 0⟩ 9999 rfl (by repeat (first | exact obs_nil | refine obs_draw (by kernel_rfl) ?_ | refine obs_same ?_ | refine obs_and ?_ | refine obs_by (by (simp [inB] <;> omega)) ?_)) ?_
    refine runS_ret (I := inf) 0 rfl (Nat.le_refl _) rfl .nil rfl ⟨?_, rfl⟩
    have hv : validD ds = false := by simpa using h
    rw [textF, hv]; rfl
  have hv : validD ds = true := by simpa using h
  obtain ⟨hf, hl1, hl3⟩ := fit_valid hv
  have hpl := partT_len (ds := ds) fun i hi => by obtain ⟨a, b, c, d⟩ := dims_bound hv hi; exact dimT_len a b c d
  refine runS_x (I := inf) (J := jnf) ⟨false, false, [], 0, 0⟩ 9999 rfl (by repeat (first | exact obs_nil | refine obs_draw (by kernel_rfl) ?_ | refine obs_same ?_ | refine obs_and ?_ | refine obs_by (by (simp [inB] <;> omega)) ?_)) ?_
  refine runS_while (fun (i : Nat) τ ar => (τ 0 = dimS nl ds ∧ τ 3 = sv ([40] ++ partT ds i) ∧ τ 4 = iv i) ∧ ar = [] ∧ i ≤ ds.length) (fun i => ds.length - i) 0 ⟨⟨rfl, rfl, rfl⟩, rfl, Nat.zero_le _⟩ ?_
  rintro i τ' ar' ⟨⟨g0, g3, g4⟩, rfl, hi⟩ ih
  refine runS_says 0 (by exact g0) (Says.refl _) ?_; refine runS_says 3 (by exact g3) (Says.refl _) ?_; refine runS_says 4 (by exact g4) (Says.refl _) ?_
  have hpi := hpl i hi
  refine runS_x (I := inf) (J := jnf) ⟨false, false, [], 0, 0⟩ 9999 rfl (by repeat (first | exact obs_nil | refine obs_draw (by kernel_rfl) ?_ | refine obs_same ?_ | refine obs_and ?_ | refine obs_by (by (simp [inB] <;> omega)) ?_)) ?_
  refine runS_cond rfl (fun hlt => ?_) (fun hlt => ?_)
  · have hlt' : i < ds.length := by simpa using hlt
    have hw2 : IntKind.wrap .i64 ((i : Int) + 1) = ((i + 1 : Nat) : Int) := by rw [w64 (by omega) (by omega)]; rfl
    obtain ⟨b1, b2, b3, b4⟩ := dims_bound hv hlt'
    have hps := partT_succ hlt'
    have q1 := itoa_len _ b1 b2
    have q2 := itoa_len _ b3 b4
    refine runS_x (I := inf) (J := jnf) ⟨false, false, [], 0, 0⟩ 9999 rfl (by repeat (first | exact obs_nil | refine obs_draw (by kernel_rfl) ?_ | refine obs_same ?_ | refine obs_and ?_ | refine obs_by (by (simp [inB] <;> omega)) ?_)) ?_
    refine runS_cut (fun τ ar => (τ 0 = dimS nl ds ∧ τ 3 = sv ([40] ++ (if 0 < i then partT ds i ++ [44] else partT ds i)) ∧ τ 4 = iv i) ∧ ar = []) (fun rest => ?_) ?_
    · refine runS_cond rfl (fun hc => ?_) (fun hc => ?_)
      · have hi0 : 0 < i := by simpa using hc
        refine runS_x (I := inf) (J := jnf) ⟨false, false, [], 7, 0⟩ 9999 rfl (by repeat (first | exact obs_nil | refine obs_draw (by kernel_rfl) ?_ | refine obs_same ?_ | refine obs_and ?_ | refine obs_by (by (simp [inB, blS, bl1, -List.getD_eq_getElem?_getD] <;> omega)) ?_)) ?_
        refine rest _ _ ⟨⟨rfl, ?_, rfl⟩, rfl⟩
        rw [if_pos hi0]
        exact congrArg (fun b => AV.val (.string b)) ((bs_app _ [44]).trans (by rw [List.append_assoc]))
      · have hi0 : ¬ 0 < i := by simpa using hc
        refine runS_x (I := inf) (J := jnf) ⟨false, false, [], 7, 0⟩ 9999 rfl (by repeat (first | exact obs_nil | refine obs_draw (by kernel_rfl) ?_ | refine obs_same ?_ | refine obs_and ?_ | refine obs_by (by (simp [inB] <;> omega)) ?_)) ?_
        refine rest _ _ ⟨⟨rfl, ?_, rfl⟩, rfl⟩
        rw [if_neg hi0]
        rfl
    generalize hpp : (if 0 < i then partT ds i ++ [44] else partT ds i) = pp at *
    have hppl : pp.length ≤ 3 * 2000006 + 1 := by
      rw [← hpp]
      split <;> simp <;> omega
    rintro τ2 ar2 ⟨⟨g0, g3, g4⟩, rfl⟩
    refine runS_says 0 (by exact g0) (Says.refl _) ?_; refine runS_says 3 (by exact g3) (Says.refl _) ?_; refine runS_says 4 (by exact g4) (Says.refl _) ?_
    refine runS_x (I := inf) (J := jnf) ⟨false, false, [], 0, 0⟩ 9999 rfl (by repeat (first | exact obs_nil | refine obs_draw (by kernel_rfl) ?_ | refine obs_same ?_ | refine obs_and ?_ | refine obs_by (by (simp [inB, hlt'] <;> omega)) ?_)) ?_
    refine runS_cond rfl (fun hc => ?_) (fun hc => ?_)
    · have hc' : (ds.getD i (0, 0)).1 ≠ 1 := by
        have : ((ds.getD i (0, 0)).1 != 1) = true := hc
        simpa [-List.getD_eq_getElem?_getD] using this
      refine runS_x (I := inf) (J := jnf) ⟨false, false, [], 0, 0⟩ 9999 rfl (by repeat (first | exact obs_nil | refine obs_draw (by kernel_rfl) ?_ | refine obs_same ?_ | refine obs_and ?_ | refine obs_by (by (simp [inB, hlt'] <;> omega)) ?_)) ?_
      refine runS_call rfl rfl rfl rfl rfl rfl rfl (ref_number (ds.getD i (0, 0)).1 b1 b2) ?_
      refine runS_x (I := inf) (J := jnf) ⟨false, false, [], 0, 0⟩ 9999 rfl (by repeat (first | exact obs_nil | refine obs_draw (by kernel_rfl) ?_ | refine obs_same ?_ | refine obs_and ?_ | refine obs_by (by (simp [inB, blS, bl1, hlt', -List.getD_eq_getElem?_getD] <;> omega)) ?_)) ?_
      refine runS_says 3 (show _ = sv (([40] ++ pp) ++ (Lib.itoa (ds.getD i (0, 0)).1 ++ [58])) from congrArg (fun b => AV.val (.string b)) ((congrArg (bs ([40] ++ pp) ++ ·) (bs_app _ [58])).trans (bs_app _ _))) (Says.refl _) ?_
      refine runS_call rfl rfl rfl rfl rfl rfl rfl (ref_number (ds.getD i (0, 0)).2 b3 b4) ?_
      refine runS_x (I := inf) (J := jnf) ⟨false, false, [], 0, 0⟩ 9999 rfl (by repeat (first | exact obs_nil | refine obs_draw (by kernel_rfl) ?_ | refine obs_same ?_ | refine obs_and ?_ | refine obs_by (by (simp [inB, blS, bl1, -List.getD_eq_getElem?_getD] <;> omega)) ?_)) ?_
      refine ih (i + 1) _ _ (by omega) ⟨⟨rfl, ?_, congrArg iv hw2⟩, rfl, by omega⟩
      rw [hps, dimT, if_pos hc']
      exact congrArg (fun b => AV.val (.string b)) ((bs_app (([40] ++ pp) ++ (Lib.itoa (ds.getD i (0, 0)).1 ++ [58])) (Lib.itoa (ds.getD i (0, 0)).2)).trans (congrArg bs (by simp [-List.getD_eq_getElem?_getD, bl])))
    · have hc' : ¬ (ds.getD i (0, 0)).1 ≠ 1 := by
        have : ((ds.getD i (0, 0)).1 != 1) = false := hc
        simpa [-List.getD_eq_getElem?_getD] using this
      refine runS_x (I := inf) (J := jnf) ⟨false, false, [], 0, 0⟩ 9999 rfl (by repeat (first | exact obs_nil | refine obs_draw (by kernel_rfl) ?_ | refine obs_same ?_ | refine obs_and ?_ | refine obs_by (by (simp [inB, hlt'] <;> omega)) ?_)) ?_
      refine runS_call rfl rfl rfl rfl rfl rfl rfl (ref_number (ds.getD i (0, 0)).2 b3 b4) ?_
      refine runS_x (I := inf) (J := jnf) ⟨false, false, [], 0, 0⟩ 9999 rfl (by repeat (first | exact obs_nil | refine obs_draw (by kernel_rfl) ?_ | refine obs_same ?_ | refine obs_and ?_ | refine obs_by (by (simp [inB, blS, bl1, -List.getD_eq_getElem?_getD] <;> omega)) ?_)) ?_
      refine ih (i + 1) _ _ (by omega) ⟨⟨rfl, ?_, congrArg iv hw2⟩, rfl, by omega⟩
      rw [hps, dimT, if_neg hc']
      exact congrArg (fun b => AV.val (.string b)) ((bs_app ([40] ++ pp) (Lib.itoa (ds.getD i (0, 0)).2)).trans (congrArg bs (by simp [-List.getD_eq_getElem?_getD, bl])))
  · have : i = ds.length := by simp at hlt; omega
    subst this
    refine runS_x (I := inf) (J := jnf) ⟨false, false, [], 0, 0⟩ 9999 rfl (by repeat (first | exact obs_nil | refine obs_draw (by kernel_rfl) ?_ | refine obs_same ?_ | refine obs_and ?_ | refine obs_by (by (simp [inB, blS, bl1, -List.getD_eq_getElem?_getD] <;> omega)) ?_)) ?_
    refine runS_ret (I := inf) 0 rfl (Nat.le_refl _) rfl .nil rfl ⟨?_, rfl⟩
    rw [textF, if_pos hv]
    have : partT ds ds.length = bodyT ds := by rw [partT, List.take_length]
    rw [this]
    exact congrArg (fun b => Out.ret (.val (.string b))) (bs_app _ _)
theorem txtR_snoc {acc : List Str} {v : Str} {r2 : Nat → List AV} (h : r2 0 = [sv v]) : ∀ j, j < acc.length + 1 → txtR (acc ++ [v]) j = appR acc.length (txtR acc) r2 j := fun j hj => encR_snoc (enc := fun s => [sv s]) (d := []) (acc := acc) (v := v) h j hj
theorem a_Text (nl : Option Bool) (ds : List Dim) : CallT Tryd.prog 10 [dimS nl ds] [] (fun o A => o = .ret (sv (textF ds)) ∧ A = []) := by
  refine callS_body (n := 37) rfl rfl fun w ρ X => ?_
  refine runS_x (I := inf) (J := jnf) ⟨false, false, [], 0, 0⟩ 9999 rfl (by repeat (first | exact obs_nil | refine obs_draw (by kernel_rfl) ?_ | refine obs_same ?_ | refine obs_and ?_ | refine obs_by (by (simp [inB] <;> omega)) ?_)) ?_
  refine runS_call rfl rfl rfl rfl rfl rfl rfl (a_Valid nl ds) ?_
  refine runS_x (I := inf) (J := jnf) ⟨false, false, [], 0, 0⟩ 9999 rfl (by repeat (first | exact obs_nil | refine obs_draw (by kernel_rfl) ?_ | refine obs_same ?_ | refine obs_and ?_ | refine obs_by (by (simp [inB] <;> omega)) ?_)) ?_
  refine runS_cond rfl (fun h => ?_) (fun h => ?_)
  · refine runS_x (I := inf) (J := jnf) ⟨false, false, [], 0, 0⟩ 9999 rfl (by repeat (first | exact obs_nil | refine obs_draw (by kernel_rfl) ?_ | refine obs_same ?_ | refine obs_and ?_ | refine obs_by (by (simp [inB] <;> omega)) ?_)) ?_
    refine runS_ret (I := inf) 0 rfl (Nat.le_refl _) rfl .nil rfl ⟨?_, rfl⟩
    have hv : validD ds = false := by simpa using h
    rw [textF, hv]; rfl
  have hv : validD ds = true := by simpa using h
  obtain ⟨hf, hl1, hl3⟩ := fit_valid hv
  have hpl := partT_len (ds := ds) fun i hi => by obtain ⟨a, b, c, d⟩ := dims_bound hv hi; exact dimT_len a b c d
  refine runS_x (I := inf) (J := jnf) ⟨false, false, [], 0, 0⟩ 9999 rfl (by repeat (first | exact obs_nil | refine obs_draw (by kernel_rfl) ?_ | refine obs_same ?_ | refine obs_and ?_ | refine obs_by (by (simp [inB] <;> omega)) ?_)) ?_
  refine runS_nilRow 3 9 1 (txtR []) rfl rfl ?_
  refine runS_while (fun (i : Nat) τ ar => (τ 3 = .row 0 i ∧ τ 10 = dimS nl ds ∧ τ 11 = iv ds.length ∧ τ 12 = iv i) ∧ ar = [.row 9 1 i i (txtR ((ds.take i).map dimT))] ∧ i ≤ ds.length) (fun i => ds.length - i) 0 ⟨⟨rfl, rfl, rfl, rfl⟩, rfl, Nat.zero_le _⟩ ?_
  rintro i τ' ar' ⟨⟨g3, g10, g11, g12⟩, rfl, hi⟩ ih
  refine runS_says 3 (by exact g3) (Says.refl _) ?_; refine runS_says 10 (by exact g10) (Says.refl _) ?_; refine runS_says 11 (by exact g11) (Says.refl _) ?_; refine runS_says 12 (by exact g12) (Says.refl _) ?_
  refine runS_x (I := inf) (J := jnf) ⟨false, false, [], 0, 0⟩ 9999 rfl (by repeat (first | exact obs_nil | refine obs_draw (by kernel_rfl) ?_ | refine obs_same ?_ | refine obs_and ?_ | refine obs_by (by (simp [inB] <;> omega)) ?_)) ?_
  refine runS_cond rfl (fun hlt => ?_) (fun hlt => ?_)
  · have hlt' : i < ds.length := by simpa using hlt
    have hw2 : IntKind.wrap .i64 ((i : Int) + 1) = ((i + 1 : Nat) : Int) := by rw [w64 (by omega) (by omega)]; rfl
    obtain ⟨b1, b2, b3, b4⟩ := dims_bound hv hlt'
    have q1 := itoa_len _ b1 b2
    have q2 := itoa_len _ b3 b4
    have hlen : ((ds.take i).map dimT).length = i := by rw [List.length_map, List.length_take]; omega
    have htk : (ds.take (i + 1)).map dimT = (ds.take i).map dimT ++ [dimT (ds.getD i (0, 0))] := by
      rw [List.take_succ_eq_append_getElem hlt', List.map_append, List.getD_eq_getElem?_getD, List.getElem?_eq_getElem hlt']; rfl
    have hsn : ∀ {r2 : Nat → List AV}, r2 0 = [sv (dimT (ds.getD i (0, 0)))] → ∀ j, j < i + 1 → txtR ((ds.take (i + 1)).map dimT) j = appR i (txtR ((ds.take i).map dimT)) r2 j := fun h j hj => by
      have := txtR_snoc (acc := (ds.take i).map dimT) h j
      rw [hlen] at this
      rw [htk]
      exact this hj
    refine runS_x (I := inf) (J := jnf) ⟨false, false, [], 0, 0⟩ 9999 rfl (by repeat (first | exact obs_nil | refine obs_draw (by kernel_rfl) ?_ | refine obs_same ?_ | refine obs_and ?_ | refine obs_by (by (simp [inB, hlt'] <;> omega)) ?_)) ?_
    refine runS_call rfl rfl rfl rfl rfl rfl rfl (lib_itoa (ds.getD i (0, 0)).2 (by omega) (by omega)) ?_
    refine runS_x (I := inf) (J := jnf) ⟨false, false, [], 0, 0⟩ 9999 rfl (by repeat (first | exact obs_nil | refine obs_draw (by kernel_rfl) ?_ | refine obs_same ?_ | refine obs_and ?_ | refine obs_by (by (simp [inB] <;> omega)) ?_)) ?_
    refine runS_cond rfl (fun hc => ?_) (fun hc => ?_)
    · have hc' : (ds.getD i (0, 0)).1 ≠ 1 := by
        have : ((ds.getD i (0, 0)).1 != 1) = true := hc
        simpa [-List.getD_eq_getElem?_getD] using this
      refine runS_x (I := inf) (J := jnf) ⟨false, false, [], 0, 0⟩ 9999 rfl (by repeat (first | exact obs_nil | refine obs_draw (by kernel_rfl) ?_ | refine obs_same ?_ | refine obs_and ?_ | refine obs_by (by (simp [inB] <;> omega)) ?_)) ?_
      refine runS_call rfl rfl rfl rfl rfl rfl rfl (lib_itoa (ds.getD i (0, 0)).1 (by omega) (by omega)) ?_
      refine runS_x (I := inf) (J := jnf) ⟨false, false, [], 0, 0⟩ 9999 rfl (by repeat (first | exact obs_nil | refine obs_draw (by kernel_rfl) ?_ | refine obs_same ?_ | refine obs_and ?_ | refine obs_by (by (simp [inB, blS, bl1, -List.getD_eq_getElem?_getD] <;> omega)) ?_)) ?_
      refine runS_tell 0 (txtR ((ds.take (i + 1)).map dimT)) rfl (m' := i + 1) rfl (hsn ?_) rfl ?_
      · rw [dimT, if_pos hc']
        exact congrArg (fun b => [AV.val (.string b)]) (((congrArg (· ++ bs _) (bs_app _ [58])).trans (bs_app _ _)).symm) |>.symm
      refine runS_drop 1 (Nat.zero_le _) rfl (by repeat (first | exact .nil | refine .row (fun j hj => rfl) ?_ | refine .box rfl ?_ | refine .fam (fun k j hk hj => rfl) ?_ | refine .loop (scrub_under _ _) ?_ | refine .dfr ?_ | refine .gone ?_ | refine .map (fun p hp => by (obtain ⟨k, _, rfl⟩ := List.mem_map.1 hp; rfl)) ?_)) rfl rfl rfl (by repeat (first | exact .nil | refine .cons rfl rfl rfl (scrub_under _ _) ?_)) ?_
      exact ih (i + 1) _ _ (by omega) ⟨⟨rfl, rfl, rfl, congrArg iv hw2⟩, rfl, by omega⟩
    · have hc' : ¬ (ds.getD i (0, 0)).1 ≠ 1 := by
        have : ((ds.getD i (0, 0)).1 != 1) = false := hc
        simpa [-List.getD_eq_getElem?_getD] using this
      refine runS_x (I := inf) (J := jnf) ⟨false, false, [], 0, 0⟩ 9999 rfl (by repeat (first | exact obs_nil | refine obs_draw (by kernel_rfl) ?_ | refine obs_same ?_ | refine obs_and ?_ | refine obs_by (by (simp [inB] <;> omega)) ?_)) ?_
      refine runS_tell 0 (txtR ((ds.take (i + 1)).map dimT)) rfl (m' := i + 1) rfl (hsn ?_) rfl ?_
      · rw [dimT, if_neg hc']
        rfl
      refine runS_drop 1 (Nat.zero_le _) rfl (by repeat (first | exact .nil | refine .row (fun j hj => rfl) ?_ | refine .box rfl ?_ | refine .fam (fun k j hk hj => rfl) ?_ | refine .loop (scrub_under _ _) ?_ | refine .dfr ?_ | refine .gone ?_ | refine .map (fun p hp => by (obtain ⟨k, _, rfl⟩ := List.mem_map.1 hp; rfl)) ?_)) rfl rfl rfl (by repeat (first | exact .nil | refine .cons rfl rfl rfl (scrub_under _ _) ?_)) ?_
      exact ih (i + 1) _ _ (by omega) ⟨⟨rfl, rfl, rfl, congrArg iv hw2⟩, rfl, by omega⟩
  · have hie : i = ds.length := by simp at hlt; omega
    subst hie
    have hbl : (bodyT ds).length ≤ 3 * 2000006 := by
      have := hpl ds.length (Nat.le_refl _)
      rw [partT, List.take_length] at this
      exact Nat.le_trans this (Nat.mul_le_mul_right _ hl3)
    refine runS_freeze 3 rfl rfl rfl (fun j hj => rfl) ?_
    refine runS_says 3 ((rfl : _ = AV.slc 1 none ds.length (txtR ((ds.take ds.length).map dimT))).trans (show _ = AV.slc 1 none (ds.map dimT).length (txtR (ds.map dimT)) by rw [List.take_length, List.length_map])) (Says.refl _) ?_
    refine runS_x (I := inf) (J := jnf) ⟨false, false, [], 0, 0⟩ 9999 rfl (by repeat (first | exact obs_nil | refine obs_draw (by kernel_rfl) ?_ | refine obs_same ?_ | refine obs_and ?_ | refine obs_by (by (simp [inB] <;> omega)) ?_)) ?_
    refine runS_call rfl rfl rfl rfl rfl rfl rfl (lib_join none (ds.map dimT) [44] (by rw [List.length_map]; omega) (show (bodyT ds).length ≤ _ by omega)) ?_
    have hbl' : (Lib.join (ds.map dimT) [44]).length ≤ 3 * 2000006 := hbl
    refine runS_x (I := inf) (J := jnf) ⟨false, false, [], 0, 0⟩ 9999 rfl (by repeat (first | exact obs_nil | refine obs_draw (by kernel_rfl) ?_ | refine obs_same ?_ | refine obs_and ?_ | refine obs_by (by (simp [inB, blS, bl1, -List.getD_eq_getElem?_getD] <;> omega)) ?_)) ?_
    refine runS_ret (I := inf) 0 rfl (Nat.le_refl _) rfl .nil rfl ⟨?_, rfl⟩
    rw [textF, if_pos hv, bodyT]
    exact congrArg (fun b => Out.ret (.val (.string b))) ((congrArg (· ++ bs [41]) (bs_app [40] _)).trans (bs_app _ _))
end Go.Iron.Tryd

/- The seat of ArrayTexts: numbers in a text, as functions. -/
namespace Go.Iron.Tryd
open Go.Proofs

def byt (s : Str) (p : Nat) : Nat := (s.getD p 0).toNat
def isB (s : Str) (p c : Nat) : Bool := decide (p < s.length) && byt s p == c
def isDg (s : Str) (p : Nat) : Bool := decide (p < s.length) && decide (48 ≤ byt s p) && decide (byt s p ≤ 57)
def dgN (s : Str) : Nat → Nat → Nat
  | 0, _ => 0
  | k + 1, p => if isDg s p then dgN s k (p + 1) + 1 else 0
theorem dgN_le (s : Str) : ∀ k p, dgN s k p ≤ k
  | 0, _ => Nat.le_refl _
  | k + 1, p => by
    unfold dgN
    split
    · have := dgN_le s k (p + 1); omega
    · omega
theorem dgN_all (s : Str) : ∀ k p j, j < dgN s k p → isDg s (p + j) = true
  | 0, p, j, h => by simp [dgN] at h
  | k + 1, p, j, h => by
    unfold dgN at h
    split at h
    · rename_i hd
      cases j with
      | zero => exact hd
      | succ j =>
        have := dgN_all s k (p + 1) j (by omega)
        rwa [show p + 1 + j = p + (j + 1) by omega] at this
    · omega
theorem dgN_eq {s : Str} : ∀ {n k p : Nat}, n ≤ k → (∀ j, j < n → isDg s (p + j) = true) → (n = k ∨ isDg s (p + n) = false) → dgN s k p = n
  | 0, 0, p, _, _, _ => rfl
  | 0, k + 1, p, _, _, h => by
    rcases h with h | h
    · omega
    · unfold dgN
      rw [if_neg (by rw [show p = p + 0 from rfl, h]; decide)]
  | n + 1, 0, p, h, _, _ => by omega
  | n + 1, k + 1, p, h, ha, he => by
    unfold dgN
    rw [if_pos (show isDg s p = true from ha 0 (by omega))]
    rw [dgN_eq (n := n) (k := k) (p := p + 1) (by omega) (fun j hj => by have := ha (j + 1) (by omega); rwa [show p + (j + 1) = p + 1 + j by omega] at this) (he.elim (fun h => .inl (by omega)) fun h => .inr (by rwa [show p + (n + 1) = p + 1 + n by omega] at h))]
inductive Rd (α : Type)
  | ok (x : α) (p : Nat)
  | bad (q r : Nat)
def minP (s : Str) (p : Nat) : Nat := if isB s p 45 then p + 1 else p
def decV (l : Str) : Nat := l.foldl (fun a b => 10 * a + (b.toNat - 48)) 0
def numL (s : Str) (p : Nat) : Nat := if byt s p = 48 then 1 else dgN s 5 p
def numV (s : Str) (p : Nat) : Nat := decV ((s.drop p).take (numL s p))
def numF (s : Str) (p : Nat) : Rd Int :=
  if dgN s 5 (minP s p) = 0 ∨ (isB s p 45 = true ∧ byt s (minP s p) = 48) then .bad (minP s p) (minP s p)
  else .ok (if isB s p 45 then -(numV s (minP s p) : Int) else numV s (minP s p)) (minP s p + numL s (minP s p))
theorem isDg_lt {s : Str} {p : Nat} (h : isDg s p = true) : p < s.length := by
  simp only [isDg, Bool.and_eq_true, decide_eq_true_eq] at h
  exact h.1.1
theorem numL_bounds {s : Str} {p : Nat} (h : dgN s 5 p ≠ 0) : 1 ≤ numL s p ∧ numL s p ≤ 5 ∧ p + numL s p ≤ s.length ∧ (∀ j, j < numL s p → isDg s (p + j) = true) := by
  have h5 := dgN_le s 5 p
  have hall : ∀ j, j < numL s p → isDg s (p + j) = true := fun j hj => by
    unfold numL at hj
    split at hj
    · exact dgN_all s 5 p j (by omega)
    · exact dgN_all s 5 p j hj
  have h1 : 1 ≤ numL s p ∧ numL s p ≤ 5 := by unfold numL; split <;> omega
  have := isDg_lt (hall (numL s p - 1) (by omega))
  exact ⟨h1.1, h1.2, by omega, hall⟩
theorem part_get {s : Str} {p n j : Nat} (h : p + n ≤ s.length) (hj : j < n) : ((s.drop p).take n)[j]? = some (s.getD (p + j) 0) := by
  rw [List.getElem?_take, if_pos hj, List.getElem?_drop, List.getD_eq_getElem?_getD, List.getElem?_eq_getElem (show p + j < s.length by omega)]
  rfl
theorem dec_from : ∀ (l : Str) (acc : Nat), (∀ b ∈ l, 48 ≤ b.toNat ∧ b.toNat ≤ 57) → Lib.decFrom acc l = some (l.foldl (fun a b => 10 * a + (b.toNat - 48)) acc)
  | [], acc, _ => rfl
  | b :: l, acc, h => by
    obtain ⟨h1, h2⟩ := h b (.head _)
    unfold Lib.decFrom Lib.digitVal
    rw [if_pos ⟨h1, h2⟩]
    dsimp only
    rw [dec_from l _ fun c hc => h c (.tail _ hc), List.foldl_cons, Nat.mul_comm acc 10]
theorem atoi_digits {l : Str} (h0 : l ≠ []) (h : ∀ b ∈ l, 48 ≤ b.toNat ∧ b.toNat ≤ 57) : Lib.atoi l = some (decV l : Int) := by
  cases l with
  | nil => exact absurd rfl h0
  | cons b r =>
    obtain ⟨h1, h2⟩ := h b (.head _)
    have e1 : (b == 45) = false := by rw [beq_eq_false_iff_ne]; rintro rfl; revert h1; decide
    have e2 : (b == 43) = false := by rw [beq_eq_false_iff_ne]; rintro rfl; revert h1; decide
    show (if (b == 45) = true then (Lib.decNat r).map fun (m : Nat) => -(m : Int) else if (b == 43) = true then (Lib.decNat r).map fun (m : Nat) => (m : Int) else (Lib.decNat (b :: r)).map fun (m : Nat) => (m : Int)) = _
    rw [e1, e2]
    simp only [Bool.false_eq_true, if_false]
    rw [Lib.decNat, List.isEmpty_cons, if_neg (by decide), dec_from _ 0 h]
    rfl
theorem dec_bound : ∀ (l : Str) (acc : Nat), (∀ b ∈ l, b.toNat ≤ 57) → l.foldl (fun a b => 10 * a + (b.toNat - 48)) acc + 1 ≤ (acc + 1) * 10 ^ l.length
  | [], acc, _ => by simp
  | b :: l, acc, h => by
    have h1 := h b (.head _)
    have h2 := dec_bound l (10 * acc + (b.toNat - 48)) fun c hc => h c (.tail _ hc)
    rw [List.foldl_cons, List.length_cons, Nat.pow_succ]
    refine Nat.le_trans h2 ?_
    rw [Nat.mul_comm (10 ^ l.length) 10, ← Nat.mul_assoc]
    exact Nat.mul_le_mul_right _ (by omega)
theorem numV_spec {s : Str} {p : Nat} (h : dgN s 5 p ≠ 0) : Lib.atoi ((s.drop p).take (numL s p)) = some (numV s p : Int) ∧ numV s p < 100000 := by
  obtain ⟨h1, h2, h3, h4⟩ := numL_bounds h
  have hlen : ((s.drop p).take (numL s p)).length = numL s p := by rw [List.length_take, List.length_drop]; omega
  have hb : ∀ b ∈ (s.drop p).take (numL s p), 48 ≤ b.toNat ∧ b.toNat ≤ 57 := fun b hb => by
    obtain ⟨j, hj⟩ := List.mem_iff_getElem?.1 hb
    have hjl := (List.getElem?_eq_some_iff.1 hj).1
    rw [hlen] at hjl
    rw [part_get h3 hjl] at hj
    have hd := h4 j hjl
    simp only [isDg, Bool.and_eq_true, decide_eq_true_eq] at hd
    have hbb : byt s (p + j) = b.toNat := congrArg UInt8.toNat (Option.some.inj hj)
    omega
  refine ⟨atoi_digits (fun e => by rw [e] at hlen; simp at hlen; omega) hb, ?_⟩
  have := dec_bound ((s.drop p).take (numL s p)) 0 fun b hb' => (hb b hb').2
  rw [hlen] at this
  have h10 : 10 ^ numL s p ≤ 10 ^ 5 := Nat.pow_le_pow_right (by decide) h2
  have e : numV s p = ((s.drop p).take (numL s p)).foldl (fun a b => 10 * a + (b.toNat - 48)) 0 := rfl
  omega
end Go.Iron.Tryd

/- The seat of ArrayTexts: the reader. -/
namespace Go.Iron.Tryd
open Go.Proofs

abbrev rdL (o0 o1 o2 o4 : AO) (s : Str) (p : Nat) : List AO := [o0, o1, o2, .box 41 [sv s, iv p], o4]
/-- The objects beside the reader are sound by themselves. -/
def KeptR (o0 o1 o2 o4 : AO) : Prop := ∀ s p, Kept 5 (rdL o0 o1 o2 o4 s p)
abbrev uv (c : Nat) : AV := .val (.int .u8 (c : Int))
theorem isB_int (s : Str) (p c : Nat) : (if decide ((p : Int) < (s.length : Int)) = true then (((s.getD p 0).toNat : Int) == (c : Int)) else false) = isB s p c := by
  unfold isB byt
  rw [Bool.eq_iff_iff]
  by_cases h : p < s.length
  · simp [h]; omega
  · simp [h]
theorem rd_is {o0 o1 o2 o4 : AO} (hk : KeptR o0 o1 o2 o4) (s : Str) (p c : Nat) (hs : s.length ≤ 1000) (hp : p ≤ 1000) : CallT Tryd.prog 18 [.ptr 3 0 0, uv c] (rdL o0 o1 o2 o4 s p) (fun o A => o = .ret (bv (isB s p c)) ∧ A = rdL o0 o1 o2 o4 s (if isB s p c then p + 1 else p)) := by
  refine callS_body (n := 35) rfl rfl fun w ρ X => ?_
  refine runS_x (I := inf) (J := jnf) ⟨false, false, [], 0, 0⟩ 9999 rfl (by repeat (first | exact obs_nil | refine obs_draw (by kernel_rfl) ?_ | refine obs_same ?_ | refine obs_and ?_ | refine obs_by (by (simp [inB, blS] <;> omega)) ?_)) ?_
  refine runS_cond rfl (fun h => ?_) (fun h => ?_)
  · have hb : isB s p c = true := (isB_int s p c).symm.trans h
    have hw2 : IntKind.wrap .i64 ((p : Int) + 1) = ((p + 1 : Nat) : Int) := by rw [w64 (by omega) (by omega)]; rfl
    refine runS_x (I := inf) (J := jnf) ⟨false, false, [], 0, 0⟩ 9999 rfl (by repeat (first | exact obs_nil | refine obs_draw (by kernel_rfl) ?_ | refine obs_same ?_ | refine obs_and ?_ | refine obs_by (by (simp [inB] <;> omega)) ?_)) ?_
    refine runS_ret (I := inf) 5 rfl (Nat.le_refl _) rfl (by rw [hw2]; exact hk s (p + 1)) rfl ⟨?_, ?_⟩
    · rw [hb]; rfl
    · rw [hb, if_pos rfl, hw2]
  · have hb : isB s p c = false := (isB_int s p c).symm.trans h
    refine runS_x (I := inf) (J := jnf) ⟨false, false, [], 0, 0⟩ 9999 rfl (by repeat (first | exact obs_nil | refine obs_draw (by kernel_rfl) ?_ | refine obs_same ?_ | refine obs_and ?_ | refine obs_by (by (simp [inB] <;> omega)) ?_)) ?_
    refine runS_ret (I := inf) 5 rfl (Nat.le_refl _) rfl (hk s p) rfl ⟨?_, ?_⟩
    · rw [hb]; rfl
    · rw [hb, if_neg (by decide)]
theorem rd_must {o0 o1 o2 o4 : AO} (hk : KeptR o0 o1 o2 o4) (s : Str) (p c : Nat) (hs : s.length ≤ 1000) (hp : p ≤ 1000) : CallT Tryd.prog 16 [.ptr 3 0 0, uv c] (rdL o0 o1 o2 o4 s p) (fun o A => o = (if isB s p c then .ret (.tup []) else .pan (.ifc 38 (.agg [iv p]))) ∧ A = rdL o0 o1 o2 o4 s (if isB s p c then p + 1 else p)) := by
  refine callS_body (n := 14) rfl rfl fun w ρ X => ?_
  refine runS_x (I := inf) (J := jnf) ⟨false, false, [], 0, 0⟩ 9999 rfl (by repeat (first | exact obs_nil | refine obs_draw (by kernel_rfl) ?_ | refine obs_same ?_ | refine obs_and ?_ | refine obs_by (by (simp [inB] <;> omega)) ?_)) ?_
  refine runS_callF (rdL o0 o1 o2 o4 s p) (rdL o0 o1 o2 o4 s (if isB s p c then p + 1 else p)) [] rfl rfl rfl rfl rfl (show _ = [.ptr 3 0 0, uv c] from rfl) rfl (hk s p) rfl rfl (rd_is hk s p c hs hp) ?_
  refine runS_x (I := inf) (J := jnf) ⟨false, false, [], 0, 0⟩ 9999 rfl (by repeat (first | exact obs_nil | refine obs_draw (by kernel_rfl) ?_ | refine obs_same ?_ | refine obs_and ?_ | refine obs_by (by (simp [inB] <;> omega)) ?_)) ?_
  refine runS_cond rfl (fun h => ?_) (fun h => ?_)
  · have hb : isB s p c = false := by simpa using h
    rw [hb]
    refine runS_x (I := inf) (J := jnf) ⟨false, false, [], 0, 0⟩ 9999 rfl (by repeat (first | exact obs_nil | refine obs_draw (by kernel_rfl) ?_ | refine obs_same ?_ | refine obs_and ?_ | refine obs_by (by (simp [inB] <;> omega)) ?_)) ?_
    exact runS_pan 5 rfl (Nat.le_refl _) rfl (hk s p) ⟨rfl, rfl⟩
  · have hb : isB s p c = true := by simpa using h
    rw [hb]
    refine runS_x (I := inf) (J := jnf) ⟨false, false, [], 0, 0⟩ 9999 rfl (by repeat (first | exact obs_nil | refine obs_draw (by kernel_rfl) ?_ | refine obs_same ?_ | refine obs_and ?_ | refine obs_by (by (simp [inB] <;> omega)) ?_)) ?_
    refine runS_ret (I := inf) 5 rfl (Nat.le_refl _) rfl (hk s (p + 1)) rfl ⟨?_, ?_⟩
    · rfl
    · rfl
theorem rd_mustY {o0 o1 o2 o4 : AO} (hk : KeptR o0 o1 o2 o4) (s : Str) (p c : Nat) (hs : s.length ≤ 1000) (hp : p ≤ 1000) (h : isB s p c = true) : CallT Tryd.prog 16 [.ptr 3 0 0, uv c] (rdL o0 o1 o2 o4 s p) (fun o A => o = .ret (.tup []) ∧ A = rdL o0 o1 o2 o4 s (p + 1)) := by
  have := rd_must hk s p c hs hp
  rw [h] at this
  exact this
theorem rd_mustN {o0 o1 o2 o4 : AO} (hk : KeptR o0 o1 o2 o4) (s : Str) (p c : Nat) (hs : s.length ≤ 1000) (hp : p ≤ 1000) (h : isB s p c = false) : CallT Tryd.prog 16 [.ptr 3 0 0, uv c] (rdL o0 o1 o2 o4 s p) (fun o A => o = .pan (.ifc 38 (.agg [iv p])) ∧ A = rdL o0 o1 o2 o4 s p) := by
  have := rd_must hk s p c hs hp
  rw [h] at this
  exact this
def rdQ {α : Type} (o0 o1 o2 o4 : AO) (s : Str) (F : α → AV) : Rd α → Out → List AO → Prop
  | .ok x p => fun o A => o = .ret (F x) ∧ A = rdL o0 o1 o2 o4 s p
  | .bad q r => fun o A => o = .pan (.ifc 38 (.agg [iv q])) ∧ A = rdL o0 o1 o2 o4 s r
theorem isDg_int (s : Str) (p n : Nat) : (if (if (if decide ((n : Int) < 5) = true then decide (((p + n : Nat) : Int) < (s.length : Int)) else false) = true then decide (((s.getD (p + n) 0).toNat : Int) ≥ 48) else false) = true then decide (((s.getD (p + n) 0).toNat : Int) ≤ 57) else false) = (decide (n < 5) && isDg s (p + n)) := by
  unfold isDg byt
  rw [Bool.eq_iff_iff]
  simp [-List.getD_eq_getElem?_getD]
  omega
theorem rd_number {o0 o1 o2 o4 : AO} (hk : KeptR o0 o1 o2 o4) (s : Str) (p : Nat) (hs : s.length ≤ 900) (hp : p ≤ 950) : CallT Tryd.prog 25 [.ptr 3 0 0] (rdL o0 o1 o2 o4 s p) (rdQ o0 o1 o2 o4 s iv (numF s p)) := by
  refine callS_body (n := 77) rfl rfl fun w ρ X => ?_
  refine runS_x (I := inf) (J := jnf) ⟨false, false, [], 0, 0⟩ 9999 rfl (by repeat (first | exact obs_nil | refine obs_draw (by kernel_rfl) ?_ | refine obs_same ?_ | refine obs_and ?_ | refine obs_by (by (simp [inB] <;> omega)) ?_)) ?_
  refine runS_callF (rdL o0 o1 o2 o4 s p) (rdL o0 o1 o2 o4 s (minP s p)) [.box 39 [.ptr 3 0 0]] rfl rfl rfl rfl rfl (show _ = [.ptr 3 0 0, uv 45] from rfl) rfl (hk s p) rfl rfl (rd_is hk s p 45 (by omega) (by omega)) ?_
  have hmp : minP s p ≤ p + 1 := by unfold minP; split <;> omega
  generalize hq : minP s p = q at *
  refine runS_x (I := inf) (J := jnf) ⟨false, false, [34], 0, 0⟩ 9999 rfl (by repeat (first | exact obs_nil | refine obs_draw (by kernel_rfl) ?_ | refine obs_same ?_ | refine obs_and ?_ | refine obs_by (by (simp [inB] <;> omega)) ?_)) ?_
  refine runS_forget 6 rfl ?_
  refine runS_while (fun (n : Nat) τ ar => (τ 0 = .ptr 5 0 0 ∧ τ 2 = iv n) ∧ ar = rdL o0 o1 o2 o4 s q ++ [.box 39 [.ptr 3 0 0]] ∧ n ≤ 5 ∧ ∀ j, j < n → isDg s (q + j) = true) (fun n => 5 - n) 0 ⟨⟨rfl, rfl⟩, rfl, by omega, fun j hj => by omega⟩ ?_
  rintro n τ' ar' ⟨⟨g0, g2⟩, rfl, hn, ha⟩ ih
  refine runS_says 0 (by exact g0) (Says.refl _) ?_; refine runS_says 2 (by exact g2) (Says.refl _) ?_
  have hw1 : IntKind.wrap .i64 ((q : Int) + (n : Int)) = ((q + n : Nat) : Int) := by rw [w64 (by omega) (by omega)]; rfl
  refine runS_x (I := inf) (J := jnf) ⟨false, false, [], 0, 0⟩ 9999 rfl (by repeat (first | exact obs_nil | refine obs_draw (by kernel_rfl) ?_ | refine obs_same ?_ | refine obs_and ?_ | refine obs_by (by (simp [inB, blS, hw1] <;> omega)) ?_)) ?_
  have hcd : (if (if (if decide ((n : Int) < 5) = true then decide (IntKind.wrap .i64 ((q : Int) + (n : Int)) < (s.length : Int)) else false) = true then decide (((s.getD (IntKind.wrap .i64 ((q : Int) + (n : Int))).toNat 0).toNat : Int) ≥ 48) else false) = true then decide (((s.getD (IntKind.wrap .i64 ((q : Int) + (n : Int))).toNat 0).toNat : Int) ≤ 57) else false) = (decide (n < 5) && isDg s (q + n)) := by
    rw [hw1, Int.toNat_natCast]
    exact isDg_int s q n
  refine runS_cond rfl (fun h => ?_) (fun h => ?_)
  · have hb : n < 5 ∧ isDg s (q + n) = true := by have := hcd.symm.trans h; simpa using this
    have hw2 : IntKind.wrap .i64 ((n : Int) + 1) = ((n + 1 : Nat) : Int) := by rw [w64 (by omega) (by omega)]; rfl
    refine runS_x (I := inf) (J := jnf) ⟨false, false, [], 0, 0⟩ 9999 rfl (by repeat (first | exact obs_nil | refine obs_draw (by kernel_rfl) ?_ | refine obs_same ?_ | refine obs_and ?_ | refine obs_by (by (simp [inB] <;> omega)) ?_)) ?_
    refine ih (n + 1) _ _ (by omega) ⟨⟨rfl, congrArg iv hw2⟩, rfl, by omega, fun j hj => ?_⟩
    by_cases hjn : j = n
    · subst hjn; exact hb.2
    · exact ha j (by omega)
  · have hb : n = 5 ∨ isDg s (q + n) = false := by
      have := hcd.symm.trans h
      simp only [Bool.and_eq_false_iff, decide_eq_false_iff_not] at this
      rcases this with h | h
      · exact .inl (by omega)
      · exact .inr h
    have hdn : dgN s 5 q = n := dgN_eq hn ha hb
    by_cases hn0 : n = 0
    · subst hn0
      refine runS_x (I := inf) (J := jnf) ⟨false, false, [], 0, 0⟩ 9999 rfl (by repeat (first | exact obs_nil | refine obs_draw (by kernel_rfl) ?_ | refine obs_same ?_ | refine obs_and ?_ | refine obs_by (by (simp [inB] <;> omega)) ?_)) ?_
      refine runS_cond rfl (fun h2 => ?_) (fun h2 => ?_)
      · refine runS_x (I := inf) (J := jnf) ⟨false, false, [], 0, 0⟩ 9999 rfl (by repeat (first | exact obs_nil | refine obs_draw (by kernel_rfl) ?_ | refine obs_same ?_ | refine obs_and ?_ | refine obs_by (by (simp [inB] <;> omega)) ?_)) ?_
        refine runS_pan 5 rfl (Nat.le_refl _) rfl (hk s q) ?_
        rw [numF, hq, if_pos (.inl hdn)]
        exact ⟨rfl, rfl⟩
      · exfalso
        simp at h2
    · have hd0 := ha 0 (by omega)
      have hql := isDg_lt hd0
      refine runS_x (I := inf) (J := jnf) ⟨false, false, [], 0, 0⟩ 9999 rfl (by repeat (first | exact obs_nil | refine obs_draw (by kernel_rfl) ?_ | refine obs_same ?_ | refine obs_and ?_ | refine obs_by (by (simp [inB, blS, hql] <;> omega)) ?_)) ?_
      have hcd2 : (if ((n : Int) == 0) = true then true else (if isB s p 45 = true then (((s.getD q 0).toNat : Int) == 48) else false)) = (isB s p 45 && byt s q == 48) := by
        have e1 : ((n : Int) == 0) = false := by rw [beq_eq_false_iff_ne]; omega
        rw [e1]
        unfold byt
        cases isB s p 45
        · rfl
        · rw [Bool.eq_iff_iff]; simp; omega
      refine runS_cond rfl (fun h2 => ?_) (fun h2 => ?_)
      · have h2' := hcd2.symm.trans h2
        rw [Bool.and_eq_true, beq_iff_eq] at h2'
        refine runS_x (I := inf) (J := jnf) ⟨false, false, [], 0, 0⟩ 9999 rfl (by repeat (first | exact obs_nil | refine obs_draw (by kernel_rfl) ?_ | refine obs_same ?_ | refine obs_and ?_ | refine obs_by (by (simp [inB] <;> omega)) ?_)) ?_
        refine runS_pan 5 rfl (Nat.le_refl _) rfl (hk s q) ?_
        rw [numF, hq, if_pos (.inr h2')]
        exact ⟨rfl, rfl⟩
      · have h2' := hcd2.symm.trans h2
        rw [Bool.and_eq_false_iff, beq_eq_false_iff_ne] at h2'
        have hnF : numF s p = .ok (if isB s p 45 then -(numV s q : Int) else numV s q) (q + numL s q) := by
          rw [numF, hq, if_neg]
          rintro (h | ⟨h, h'⟩)
          · omega
          · rcases h2' with h2' | h2'
            · rw [h] at h2'; cases h2'
            · exact h2' h'
        obtain ⟨v1, v2⟩ := numV_spec (s := s) (p := q) (by omega)
        obtain ⟨m1, m2, m3, m4⟩ := numL_bounds (s := s) (p := q) (by omega)
        refine runS_x (I := inf) (J := jnf) ⟨false, false, [], 0, 0⟩ 9999 rfl (by repeat (first | exact obs_nil | refine obs_draw (by kernel_rfl) ?_ | refine obs_same ?_ | refine obs_and ?_ | refine obs_by (by (simp [inB, blS, hql] <;> omega)) ?_)) ?_
        have hnl : numL s q = if byt s q = 48 then 1 else n := by rw [numL, hdn]
        refine runS_cut (fun τ ar => (τ 1 = .ptr 5 0 0 ∧ τ 3 = bv (isB s p 45) ∧ τ 5 = iv (numL s q)) ∧ ar = rdL o0 o1 o2 o4 s q ++ [.box 39 [.ptr 3 0 0]]) (fun rest => ?_) ?_
        · refine runS_cond rfl (fun h3 => ?_) (fun h3 => ?_)
          · have h3' : byt s q = 48 := by
              have : (((s.getD q 0).toNat : Int) == 48) = true := h3
              rw [beq_iff_eq] at this
              unfold byt
              omega
            refine runS_x (I := inf) (J := jnf) ⟨false, false, [], 2, 0⟩ 9999 rfl (by repeat (first | exact obs_nil | refine obs_draw (by kernel_rfl) ?_ | refine obs_same ?_ | refine obs_and ?_ | refine obs_by (by (simp [inB] <;> omega)) ?_)) ?_
            refine rest _ _ ⟨⟨rfl, rfl, ?_⟩, rfl⟩
            rw [hnl, if_pos h3']
            rfl
          · have h3' : ¬ byt s q = 48 := by
              have : (((s.getD q 0).toNat : Int) == 48) = false := h3
              rw [beq_eq_false_iff_ne] at this
              unfold byt
              omega
            refine runS_x (I := inf) (J := jnf) ⟨false, false, [], 2, 0⟩ 9999 rfl (by repeat (first | exact obs_nil | refine obs_draw (by kernel_rfl) ?_ | refine obs_same ?_ | refine obs_and ?_ | refine obs_by (by (simp [inB] <;> omega)) ?_)) ?_
            refine rest _ _ ⟨⟨rfl, rfl, ?_⟩, rfl⟩
            rw [hnl, if_neg h3']
            rfl
        rintro τ2 ar2 ⟨⟨g1, g3, g5⟩, rfl⟩
        refine runS_says 1 (by exact g1) (Says.refl _) ?_; refine runS_says 3 (by exact g3) (Says.refl _) ?_; refine runS_says 5 (by exact g5) (Says.refl _) ?_
        have hwm : IntKind.wrap .i64 ((q : Int) + (numL s q : Int)) = ((q + numL s q : Nat) : Int) := by rw [w64 (by omega) (by omega)]; rfl
        have hpart : part2 (q : Int) (IntKind.wrap .i64 ((q : Int) + (numL s q : Int))) s = (s.drop q).take (numL s q) := by
          rw [hwm]
          rw [part2, List.drop_take]
          congr 1
          omega
        have hat := lib_atoi ((s.drop q).take (numL s q)) (numV s q) (by rw [List.length_take]; omega) v1
        rw [← hpart] at hat
        refine runS_x (I := inf) (J := jnf) ⟨false, false, [], 0, 0⟩ 9999 rfl (by repeat (first | exact obs_nil | refine obs_draw (by kernel_rfl) ?_ | refine obs_same ?_ | refine obs_and ?_ | refine obs_by (by (simp [inB] <;> omega)) ?_)) ?_
        refine runS_draw 20 (by kernel_rfl) (lexj_x (I := inf) (J := jnf) 99 rfl rfl (by repeat (first | exact obs_nil | refine obs_same ?_ | refine obs_and ?_ | refine obs_by (by (simp [inB, blS, hwm, m3] <;> omega)) ?_)) (lexj_call rfl rfl rfl rfl rfl rfl rfl rfl hat (lexj_x (I := inf) (J := jnf) 99 rfl rfl (by repeat (first | exact obs_nil | refine obs_same ?_ | refine obs_and ?_ | refine obs_by (by (simp [inB, blS, hwm, m3] <;> omega)) ?_)) lexj_nil))) ?_
        refine runS_x (I := inf) (J := jnf) ⟨false, false, [], 0, 0⟩ 9999 rfl (by repeat (first | exact obs_nil | refine obs_draw (by kernel_rfl) ?_ | refine obs_same ?_ | refine obs_and ?_ | refine obs_by (by (simp [inB] <;> omega)) ?_)) ?_
        refine runS_cond rfl (fun h4 => ?_) (fun h4 => ?_)
        · have h4' : isB s p 45 = true := h4
          refine runS_x (I := inf) (J := jnf) ⟨false, false, [], 0, 0⟩ 9999 rfl (by repeat (first | exact obs_nil | refine obs_draw (by kernel_rfl) ?_ | refine obs_same ?_ | refine obs_and ?_ | refine obs_by (by (simp [inB] <;> omega)) ?_)) ?_
          refine runS_ret (I := inf) 5 rfl (Nat.le_refl _) rfl (by rw [hwm]; exact hk s _) rfl ?_
          rw [hnF, h4', if_pos rfl]
          refine ⟨?_, by rw [hwm]⟩
          have : IntKind.wrap .i64 (0 - (numV s q : Int)) = -(numV s q : Int) := by rw [w64 (by omega) (by omega)]; omega
          exact congrArg (fun x => Out.ret (iv x)) this
        · have h4' : isB s p 45 = false := h4
          refine runS_x (I := inf) (J := jnf) ⟨false, false, [], 0, 0⟩ 9999 rfl (by repeat (first | exact obs_nil | refine obs_draw (by kernel_rfl) ?_ | refine obs_same ?_ | refine obs_and ?_ | refine obs_by (by (simp [inB] <;> omega)) ?_)) ?_
          refine runS_ret (I := inf) 5 rfl (Nat.le_refl _) rfl (by rw [hwm]; exact hk s _) rfl ?_
          rw [hnF, h4', if_neg (by decide)]
          exact ⟨rfl, by rw [hwm]⟩
end Go.Iron.Tryd

/- The seat of ArrayTexts: the reader's dim; Parse, as a function. -/
namespace Go.Iron.Tryd
open Go.Proofs

def dimF (s : Str) (p : Nat) : Rd Dim := match numF s p with
  | .bad q r => .bad q r
  | .ok n q => if isB s q 58 then (if n = 1 then .bad q (q + 1) else match numF s (q + 1) with
    | .bad a b => .bad a b
    | .ok h r => .ok (n, h) r) else .ok (1, n) q
theorem numF_ok {s : Str} {p q : Nat} {n : Int} (h : numF s p = .ok n q) : p < q ∧ q ≤ s.length ∧ -100000 < n ∧ n < 100000 := by
  unfold numF at h
  split at h
  · cases h
  · rename_i hc
    have hd : dgN s 5 (minP s p) ≠ 0 := fun e => hc (.inl e)
    obtain ⟨m1, m2, m3, m4⟩ := numL_bounds hd
    obtain ⟨_, v2⟩ := numV_spec hd
    have hm : p ≤ minP s p := by unfold minP; split <;> omega
    injection h with h1 h2
    subst h2
    refine ⟨by omega, m3, ?_⟩
    subst h1
    split <;> omega
abbrev dmA (d : Dim) : AV := .agg [iv d.1, iv d.2]
theorem isB_lt {s : Str} {p c : Nat} (h : isB s p c = true) : p < s.length := by
  simp only [isB, Bool.and_eq_true, decide_eq_true_eq] at h
  exact h.1
theorem dimF_ok {s : Str} {p q : Nat} {d : Dim} (h : dimF s p = .ok d q) : p < q ∧ q ≤ s.length := by
  unfold dimF at h
  split at h
  · cases h
  · rename_i n q1 hn
    obtain ⟨a1, a2, _⟩ := numF_ok hn
    split at h
    · split at h
      · cases h
      · split at h
        · cases h
        · rename_i hh r hr
          obtain ⟨b1, b2, _⟩ := numF_ok hr
          injection h with h1 h2
          omega
    · injection h with h1 h2
      omega
theorem rd_dim {o0 o1 o2 o4 : AO} (hk : KeptR o0 o1 o2 o4) (s : Str) (p : Nat) (hs : s.length ≤ 900) (hp : p ≤ 940) : CallT Tryd.prog 17 [.ptr 3 0 0] (rdL o0 o1 o2 o4 s p) (rdQ o0 o1 o2 o4 s dmA (dimF s p)) := by
  have hc1 := rd_number hk s p hs (by omega)
  refine callS_body (n := 24) rfl rfl fun w ρ X => ?_
  refine runS_x (I := inf) (J := jnf) ⟨false, false, [], 0, 0⟩ 9999 rfl (by repeat (first | exact obs_nil | refine obs_draw (by kernel_rfl) ?_ | refine obs_same ?_ | refine obs_and ?_ | refine obs_by (by (simp [inB] <;> omega)) ?_)) ?_
  cases hn : numF s p with
  | bad q r =>
    rw [hn] at hc1
    refine runS_callFP (rdL o0 o1 o2 o4 s p) (rdL o0 o1 o2 o4 s r) [.box 33 [iv 0, iv 0]] rfl rfl rfl rfl rfl (show _ = [.ptr 3 0 0] from rfl) rfl (hk s p) rfl rfl hc1 ?_
    refine runS_pan 5 rfl (Nat.le_refl _) rfl (hk s r) ?_
    rw [dimF, hn]
    exact ⟨rfl, rfl⟩
  | ok n q =>
    rw [hn] at hc1
    obtain ⟨a1, a2, a3, a4⟩ := numF_ok hn
    refine runS_callF (rdL o0 o1 o2 o4 s p) (rdL o0 o1 o2 o4 s q) [.box 33 [iv 0, iv 0]] rfl rfl rfl rfl rfl (show _ = [.ptr 3 0 0] from rfl) rfl (hk s p) rfl rfl hc1 ?_
    refine runS_x (I := inf) (J := jnf) ⟨false, false, [], 0, 0⟩ 9999 rfl (by repeat (first | exact obs_nil | refine obs_draw (by kernel_rfl) ?_ | refine obs_same ?_ | refine obs_and ?_ | refine obs_by (by (simp [inB] <;> omega)) ?_)) ?_
    refine runS_callF (rdL o0 o1 o2 o4 s q) (rdL o0 o1 o2 o4 s (if isB s q 58 then q + 1 else q)) [.box 33 [iv 0, iv 0]] rfl rfl rfl rfl rfl (show _ = [.ptr 3 0 0, uv 58] from rfl) rfl (hk s q) rfl rfl (rd_is hk s q 58 (by omega) (by omega)) ?_
    refine runS_x (I := inf) (J := jnf) ⟨false, false, [], 0, 0⟩ 9999 rfl (by repeat (first | exact obs_nil | refine obs_draw (by kernel_rfl) ?_ | refine obs_same ?_ | refine obs_and ?_ | refine obs_by (by (simp [inB] <;> omega)) ?_)) ?_
    refine runS_cond rfl (fun h => ?_) (fun h => ?_)
    · have hb : isB s q 58 = true := h
      have hbl := isB_lt hb
      rw [hb]
      refine runS_x (I := inf) (J := jnf) ⟨false, false, [], 0, 0⟩ 9999 rfl (by repeat (first | exact obs_nil | refine obs_draw (by kernel_rfl) ?_ | refine obs_same ?_ | refine obs_and ?_ | refine obs_by (by (simp [inB] <;> omega)) ?_)) ?_
      refine runS_cond rfl (fun h1 => ?_) (fun h1 => ?_)
      · have h1' : n = 1 := by simpa using h1
        refine runS_x (I := inf) (J := jnf) ⟨false, false, [], 0, 0⟩ 9999 rfl (by repeat (first | exact obs_nil | refine obs_draw (by kernel_rfl) ?_ | refine obs_same ?_ | refine obs_and ?_ | refine obs_by (by (simp [inB] <;> omega)) ?_)) ?_
        refine runS_pan 5 rfl (Nat.le_refl _) rfl (hk s (q + 1)) ?_
        rw [dimF, hn]
        dsimp only
        rw [if_pos hb, if_pos h1']
        exact ⟨rfl, rfl⟩
      · have h1' : ¬ n = 1 := by simpa using h1
        have hc2 := rd_number hk s (q + 1) hs (by omega)
        refine runS_x (I := inf) (J := jnf) ⟨false, false, [], 0, 0⟩ 9999 rfl (by repeat (first | exact obs_nil | refine obs_draw (by kernel_rfl) ?_ | refine obs_same ?_ | refine obs_and ?_ | refine obs_by (by (simp [inB] <;> omega)) ?_)) ?_
        cases hn2 : numF s (q + 1) with
        | bad a b =>
          rw [hn2] at hc2
          refine runS_callFP (rdL o0 o1 o2 o4 s (q + 1)) (rdL o0 o1 o2 o4 s b) [.box 33 [iv 0, iv 0]] rfl rfl rfl rfl rfl (show _ = [.ptr 3 0 0] from rfl) rfl (hk s (q + 1)) rfl rfl hc2 ?_
          refine runS_pan 5 rfl (Nat.le_refl _) rfl (hk s b) ?_
          rw [dimF, hn]
          dsimp only
          rw [if_pos hb, if_neg h1', hn2]
          exact ⟨rfl, rfl⟩
        | ok m r =>
          rw [hn2] at hc2
          refine runS_callF (rdL o0 o1 o2 o4 s (q + 1)) (rdL o0 o1 o2 o4 s r) [.box 33 [iv 0, iv 0]] rfl rfl rfl rfl rfl (show _ = [.ptr 3 0 0] from rfl) rfl (hk s (q + 1)) rfl rfl hc2 ?_
          refine runS_x (I := inf) (J := jnf) ⟨false, false, [], 0, 0⟩ 9999 rfl (by repeat (first | exact obs_nil | refine obs_draw (by kernel_rfl) ?_ | refine obs_same ?_ | refine obs_and ?_ | refine obs_by (by (simp [inB] <;> omega)) ?_)) ?_
          refine runS_ret (I := inf) 5 rfl (Nat.le_refl _) rfl (hk s r) rfl ?_
          rw [dimF, hn]
          dsimp only
          rw [if_pos hb, if_neg h1', hn2]
          exact ⟨rfl, rfl⟩
    · have hb : isB s q 58 = false := h
      rw [hb]
      refine runS_x (I := inf) (J := jnf) ⟨false, false, [], 0, 0⟩ 9999 rfl (by repeat (first | exact obs_nil | refine obs_draw (by kernel_rfl) ?_ | refine obs_same ?_ | refine obs_and ?_ | refine obs_by (by (simp [inB] <;> omega)) ?_)) ?_
      refine runS_ret (I := inf) 5 rfl (Nat.le_refl _) rfl (hk s q) rfl ?_
      rw [dimF, hn]
      dsimp only
      rw [if_neg (by rw [hb]; decide)]
      exact ⟨rfl, rfl⟩

/-- What Parse tells: its dims, or where it is wrong. -/
inductive Pl
  | bad (q : Nat)
  | fin (ds : List Dim) (q : Nat)
def parL (s : Str) (p : Nat) (acc : List Dim) : Pl := match h : dimF s p with
  | .bad q r => .bad q
  | .ok d q => if hb : isB s q 44 = true then parL s (q + 1) (acc ++ [d]) else .fin (acc ++ [d]) q
termination_by s.length - p
decreasing_by
  have h1 := dimF_ok h
  have h2 := isB_lt hb
  omega
theorem parL_bad {s : Str} {p q r : Nat} {acc : List Dim} (h : dimF s p = .bad q r) : parL s p acc = .bad q := by
  rw [parL]
  split
  · rename_i q' r' h'
    rw [h] at h'
    cases h'
    rfl
  · rename_i d q' h'
    rw [h] at h'
    cases h'
theorem parL_ok {s : Str} {p q : Nat} {d : Dim} {acc : List Dim} (h : dimF s p = .ok d q) : parL s p acc = if isB s q 44 = true then parL s (q + 1) (acc ++ [d]) else .fin (acc ++ [d]) q := by
  rw [parL]
  split
  · rename_i q' r' h'
    rw [h] at h'
    cases h'
  · rename_i d' q' h'
    rw [h] at h'
    cases h'
    rfl
def finF (s : Str) : Pl → List Dim × Int × Int
  | .bad q => ([], q, 2)
  | .fin ds q => if isB s q 41 = true then (if q + 1 < s.length then ([], (q + 1 : Nat), 2) else if validD ds = true then (ds, 0, 0) else ([], s.length, 2)) else ([], q, 2)
def parseF (s : Str) : List Dim × Int × Int := if isB s 0 40 = true then finF s (parL s 1 []) else ([], 0, 2)
def parseA (x : List Dim × Int × Int) : AV := .tup [dimS none x.1, iv x.2.1, iv x.2.2]
end Go.Iron.Tryd

/- The seat of ArrayTexts: Parse. -/
namespace Go.Iron.Tryd
open Go.Proofs

abbrev nilD : Nat → List AV := dimR []
abbrev pc0 (n : Nat) : AO := .box 22 [.row 4 n]
abbrev pc1 : AO := .box 3 [iv 0]
abbrev pc2 : AO := .box 27 [iv 0]
abbrev rdArg : List AV := [.ptr 3 0 0]
abbrev nilAc : List Dim := []
abbrev pc4 (acc : List Dim) : AO := .row 33 2 acc.length acc.length (dimR acc)
abbrev rdP (acc : List Dim) (s : Str) (p : Nat) : List AO := rdL (pc0 acc.length) pc1 pc2 (pc4 acc) s p
theorem keptP (n : Nat) (acc : List Dim) : KeptR (pc0 n) pc1 pc2 (pc4 acc) := fun s p => .box rfl (.box rfl (.box rfl (.box rfl (.row (fun j hj => rfl) .nil))))
theorem dimR_snoc {acc : List Dim} {v : Dim} {r2 : Nat → List AV} (h : r2 0 = [iv v.1, iv v.2]) : ∀ j, j < acc.length + 1 → dimR (acc ++ [v]) j = appR acc.length (dimR acc) r2 j := fun j hj => encR_snoc (enc := fun d : Dim => [iv d.1, iv d.2]) (d := (0, 0)) (acc := acc) (v := v) h j hj
theorem a_Parse (s : Str) (hs : s.length ≤ 900) : CallT Tryd.prog 8 [sv s] [] (fun o A => o = .ret (parseA (parseF s)) ∧ A = []) := by
  refine callS_body (n := 47) rfl rfl fun w ρ X => ?_
  refine runS_x (I := inf) (J := jnf) ⟨false, false, [], 0, 0⟩ 9999 rfl (by repeat (first | exact obs_nil | refine obs_draw (by kernel_rfl) ?_ | refine obs_same ?_ | refine obs_and ?_ | refine obs_by (by (simp [inB] <;> omega)) ?_)) ?_
  refine runS_nilRowBox 0 0 33 2 nilD rfl rfl rfl rfl rfl ?_
  cases h40 : isB s 0 40 with
  | false =>
    refine runS_callFP (rdP nilAc s 0) (rdP nilAc s 0) [] rfl rfl rfl rfl rfl (show _ = [.ptr 3 0 0, uv 40] from rfl) rfl (keptP 0 [] s 0) rfl rfl (rd_mustN (keptP 0 []) s 0 40 (by omega) (by omega) h40) ?_
    refine runS_x (I := inf) (J := jnf) ⟨true, false, [15], 0, 0⟩ 9999 rfl (by repeat (first | exact obs_nil | refine obs_draw (by kernel_rfl) ?_ | refine obs_same ?_ | refine obs_and ?_ | refine obs_by (by (simp [inB] <;> omega)) ?_)) ?_
    refine runS_drawG (ch := []) (A2 := fun _ => []) 3 [2] (fun b => [.box 22 [cond (b.getD 0 false) (.val (.slice none 0 0)) (.row 4 0)], .box 3 [iv 0], .box 27 [iv 0], .box 41 [sv s, iv 0], .row 33 2 0 0 (dimR []), .box 38 [iv 0]]) none (c := 9) jnfI.draw (by kernel_rfl) rfl (lexg_g (I := inf) (J := jnf) none ⟨⟨_, rfl, (by repeat (first | exact obs_nil | refine obs_same ?_ | refine obs_and ?_ | refine obs_by (by (simp [inB] <;> omega)) ?_))⟩, (by first | exact .inl (by decide +kernel) | exact .inr ⟨_, rfl, (by repeat (first | exact obs_nil | refine obs_same ?_ | refine obs_and ?_ | refine obs_by (by (simp [inB] <;> omega)) ?_))⟩)⟩ rfl rfl rfl rfl (lexg_g (I := inf) (J := jnf) none ⟨⟨_, rfl, (by repeat (first | exact obs_nil | refine obs_same ?_ | refine obs_and ?_ | refine obs_by (by (simp [inB] <;> omega)) ?_))⟩, (by first | exact .inl (by decide +kernel) | exact .inr ⟨_, rfl, (by repeat (first | exact obs_nil | refine obs_same ?_ | refine obs_and ?_ | refine obs_by (by (simp [inB] <;> omega)) ?_))⟩)⟩ rfl rfl rfl rfl (lexg_g (I := inf) (J := jnf) (some .store) ⟨⟨_, rfl, (by repeat (first | exact obs_nil | refine obs_same ?_ | refine obs_and ?_ | refine obs_by (by (simp [inB] <;> omega)) ?_))⟩, .inl rfl⟩ rfl rfl rfl rfl lexg_nil))) rfl (fun _ => ?_) (fun h => by cases h)
    refine runS_x (I := inf) (J := jnf) ⟨true, false, [15], 0, 0⟩ 9999 rfl (by repeat (first | exact obs_nil | refine obs_draw (by kernel_rfl) ?_ | refine obs_same ?_ | refine obs_and ?_ | refine obs_by (by (simp [inB] <;> omega)) ?_)) ?_
    refine runS_saysBox 0 0 _ rfl rfl (says_nil0 (sz := 2) (r := nilD) (Nat.zero_le _)) rfl rfl ?_
    refine runS_ret (I := inf) 0 rfl (Nat.le_refl _) rfl .nil rfl ⟨?_, rfl⟩
    rw [parseF, if_neg (by rw [h40]; decide)]
    rfl
  | true =>
    refine runS_callF (rdP nilAc s 0) (rdP nilAc s 1) [] rfl rfl rfl rfl rfl (show _ = [.ptr 3 0 0, uv 40] from rfl) rfl (keptP 0 [] s 0) rfl rfl (rd_mustY (keptP 0 []) s 0 40 (by omega) (by omega) h40) ?_
    refine runS_x (I := inf) (J := jnf) ⟨false, false, [], 0, 0⟩ 9999 rfl (by repeat (first | exact obs_nil | refine obs_draw (by kernel_rfl) ?_ | refine obs_same ?_ | refine obs_and ?_ | refine obs_by (by (simp [inB] <;> omega)) ?_)) ?_
    have hF : parseF s = finF s (parL s 1 []) := by rw [parseF, if_pos h40]
    have hd1 := rd_dim (keptP 0 nilAc) s 1 hs (by omega)
    cases hd : dimF s 1 with
    | bad q r =>
      rw [hd] at hd1
      refine runS_drawG (A2 := (fun _ => rdP nilAc s r)) 4 [] (fun _ => rdP nilAc s 1) (some 2) (c := 9) jnfI.draw (by kernel_rfl) rfl (lexg_g (I := inf) (J := jnf) none ⟨_, rfl, (by repeat (first | exact obs_nil | refine obs_same ?_ | refine obs_and ?_ | refine obs_by (by (simp [inB] <;> omega)) ?_))⟩ rfl rfl rfl rfl (lexg_g (I := inf) (J := jnf) none ⟨_, rfl, (by repeat (first | exact obs_nil | refine obs_same ?_ | refine obs_and ?_ | refine obs_by (by (simp [inB] <;> omega)) ?_))⟩ rfl rfl rfl rfl (lexg_panF (rdP nilAc s 1) (rdP nilAc s r) ⟨_, rfl, rfl⟩ rfl rfl rfl rfl (show _ = rdArg from rfl) rfl (keptP 0 nilAc s 1) rfl rfl rfl hd1 (lexg_late rfl (by kernel_rfl) lexg_nil)))) rfl (fun h => by cases h) (fun _ b tt => ?_)
      refine runS_x (I := inf) (J := jnf) ⟨true, false, [15], 0, 0⟩ 9999 rfl (by repeat (first | exact obs_nil | refine obs_draw (by kernel_rfl) ?_ | refine obs_same ?_ | refine obs_and ?_ | refine obs_by (by (simp [inB] <;> omega)) ?_)) ?_
      refine runS_drawG (ch := []) (A2 := fun _ => []) 3 [2] (fun b => [.box 22 [cond (b.getD 0 false) (.val (.slice none 0 0)) (.row 4 0)], .box 3 [iv 0], .box 27 [iv 0], .box 41 [sv s, iv r], .row 33 2 0 0 (dimR []), .box 38 [iv q]]) none (c := 9) jnfI.draw (by kernel_rfl) rfl (lexg_g (I := inf) (J := jnf) none ⟨⟨_, rfl, (by repeat (first | exact obs_nil | refine obs_same ?_ | refine obs_and ?_ | refine obs_by (by (simp [inB] <;> omega)) ?_))⟩, (by first | exact .inl (by decide +kernel) | exact .inr ⟨_, rfl, (by repeat (first | exact obs_nil | refine obs_same ?_ | refine obs_and ?_ | refine obs_by (by (simp [inB] <;> omega)) ?_))⟩)⟩ rfl rfl rfl rfl (lexg_g (I := inf) (J := jnf) none ⟨⟨_, rfl, (by repeat (first | exact obs_nil | refine obs_same ?_ | refine obs_and ?_ | refine obs_by (by (simp [inB] <;> omega)) ?_))⟩, (by first | exact .inl (by decide +kernel) | exact .inr ⟨_, rfl, (by repeat (first | exact obs_nil | refine obs_same ?_ | refine obs_and ?_ | refine obs_by (by (simp [inB] <;> omega)) ?_))⟩)⟩ rfl rfl rfl rfl (lexg_g (I := inf) (J := jnf) (some .store) ⟨⟨_, rfl, (by repeat (first | exact obs_nil | refine obs_same ?_ | refine obs_and ?_ | refine obs_by (by (simp [inB] <;> omega)) ?_))⟩, .inl rfl⟩ rfl rfl rfl rfl lexg_nil))) rfl (fun _ => ?_) (fun h => by cases h)
      refine runS_x (I := inf) (J := jnf) ⟨true, false, [15], 0, 0⟩ 9999 rfl (by repeat (first | exact obs_nil | refine obs_draw (by kernel_rfl) ?_ | refine obs_same ?_ | refine obs_and ?_ | refine obs_by (by (simp [inB] <;> omega)) ?_)) ?_
      refine runS_saysBox 0 0 _ rfl rfl (says_nil0 (sz := 2) (r := nilD) (Nat.zero_le _)) rfl rfl ?_
      refine runS_ret (I := inf) 0 rfl (Nat.le_refl _) rfl .nil rfl ⟨?_, rfl⟩
      rw [hF, parL_bad hd]
      rfl
    | ok d q =>
      rw [hd] at hd1
      obtain ⟨b1, b2⟩ := dimF_ok hd
      have hpl := parL_ok (acc := []) hd
      rw [List.nil_append] at hpl
      refine runS_hole ?_
      refine runS_drawG (ch := []) (A2 := fun _ => []) 4 [2, 3] (fun b => rdP nilAc s (cond (b.getD 0 false) q 1) ++ [cond (b.getD 1 false) (.row 33 2 1 1 (chunk 2 [iv d.1, iv d.2])) .hole]) none (c := 9) jnfI.draw (by kernel_rfl) rfl (lexg_g (I := inf) (J := jnf) none ⟨⟨⟨_, rfl, (by repeat (first | exact obs_nil | refine obs_same ?_ | refine obs_and ?_ | refine obs_by (by (simp [inB] <;> omega)) ?_))⟩, (by first | exact .inl (by decide +kernel) | exact .inr ⟨_, rfl, (by repeat (first | exact obs_nil | refine obs_same ?_ | refine obs_and ?_ | refine obs_by (by (simp [inB] <;> omega)) ?_))⟩)⟩, (by first | exact .inl (by decide +kernel) | exact .inr ⟨⟨_, rfl, (by repeat (first | exact obs_nil | refine obs_same ?_ | refine obs_and ?_ | refine obs_by (by (simp [inB] <;> omega)) ?_))⟩, (by first | exact .inl (by decide +kernel) | exact .inr ⟨_, rfl, (by repeat (first | exact obs_nil | refine obs_same ?_ | refine obs_and ?_ | refine obs_by (by (simp [inB] <;> omega)) ?_))⟩)⟩)⟩ rfl rfl rfl rfl (lexg_g (I := inf) (J := jnf) none ⟨⟨⟨_, rfl, (by repeat (first | exact obs_nil | refine obs_same ?_ | refine obs_and ?_ | refine obs_by (by (simp [inB] <;> omega)) ?_))⟩, (by first | exact .inl (by decide +kernel) | exact .inr ⟨_, rfl, (by repeat (first | exact obs_nil | refine obs_same ?_ | refine obs_and ?_ | refine obs_by (by (simp [inB] <;> omega)) ?_))⟩)⟩, (by first | exact .inl (by decide +kernel) | exact .inr ⟨⟨_, rfl, (by repeat (first | exact obs_nil | refine obs_same ?_ | refine obs_and ?_ | refine obs_by (by (simp [inB] <;> omega)) ?_))⟩, (by first | exact .inl (by decide +kernel) | exact .inr ⟨_, rfl, (by repeat (first | exact obs_nil | refine obs_same ?_ | refine obs_and ?_ | refine obs_by (by (simp [inB] <;> omega)) ?_))⟩)⟩)⟩ rfl rfl rfl rfl (lexg_callF (rdP nilAc s 1) (rdP nilAc s q) ⟨⟨⟨_, rfl, rfl⟩, (by first | exact .inl (by decide +kernel) | exact .inr ⟨_, rfl, rfl⟩)⟩, .inl rfl⟩ rfl rfl rfl rfl rfl (show _ = rdArg from rfl) rfl (keptP 0 nilAc s 1) rfl rfl hd1 (lexg_g (I := inf) (J := jnf) (some (.hole 5)) ⟨⟨⟨_, rfl, (by repeat (first | exact obs_nil | refine obs_same ?_ | refine obs_and ?_ | refine obs_by (by (simp [inB] <;> omega)) ?_))⟩, .inl rfl⟩, (by first | exact .inl (by decide +kernel) | exact .inr ⟨⟨_, rfl, (by repeat (first | exact obs_nil | refine obs_same ?_ | refine obs_and ?_ | refine obs_by (by (simp [inB] <;> omega)) ?_))⟩, .inl rfl⟩)⟩ rfl rfl rfl rfl lexg_nil)))) rfl (fun _ => ?_) (fun h => by cases h)
      refine runS_x (I := inf) (J := jnf) ⟨false, false, [], 0, 0⟩ 9999 rfl (by repeat (first | exact obs_nil | refine obs_draw (by kernel_rfl) ?_ | refine obs_same ?_ | refine obs_and ?_ | refine obs_by (by (simp [inB] <;> omega)) ?_)) ?_
      refine runS_tell 4 (dimR [d]) rfl (m' := 1) rfl (dimR_snoc (acc := []) rfl) rfl ?_
      refine runS_drop 5 (Nat.zero_le _) rfl (by repeat (first | exact .nil | refine .row (fun j hj => rfl) ?_ | refine .box rfl ?_ | refine .fam (fun k j hk hj => rfl) ?_ | refine .loop (scrub_under _ _) ?_ | refine .dfr ?_ | refine .gone ?_ | refine .map (fun p hp => by (obtain ⟨k, _, rfl⟩ := List.mem_map.1 hp; rfl)) ?_)) rfl rfl rfl (by repeat (first | exact .nil | refine .cons rfl rfl rfl (scrub_under _ _) ?_)) ?_
      refine runS_while (fun (x : Nat × List Dim) τ ar => (τ 0 = sv s ∧ τ 2 = .ptr 0 0 0 ∧ τ 3 = .ptr 1 0 0 ∧ τ 4 = .ptr 2 0 0 ∧ τ 5 = .ptr 3 0 0) ∧ ar = rdP x.2 s x.1 ∧ x.1 ≤ s.length ∧ x.2.length ≤ x.1 ∧ parL s 1 [] = if isB s x.1 44 = true then parL s (x.1 + 1) x.2 else .fin x.2 x.1) (fun x => s.length - x.1) (q, [d])
        ⟨⟨rfl, rfl, rfl, rfl, rfl⟩, rfl, b2, by simp; omega, hpl⟩ ?_
      rintro ⟨p, acc⟩ τ' ar' ⟨⟨g0, g2, g3, g4, g5⟩, rfl, hp, hal, hpp⟩ ih
      dsimp only at hp hal hpp ih
      refine runS_says 0 (by exact g0) (Says.refl _) ?_; refine runS_says 2 (by exact g2) (Says.refl _) ?_; refine runS_says 3 (by exact g3) (Says.refl _) ?_; refine runS_says 4 (by exact g4) (Says.refl _) ?_; refine runS_says 5 (by exact g5) (Says.refl _) ?_
      refine runS_x (I := inf) (J := jnf) ⟨false, false, [], 0, 0⟩ 9999 rfl (by repeat (first | exact obs_nil | refine obs_draw (by kernel_rfl) ?_ | refine obs_same ?_ | refine obs_and ?_ | refine obs_by (by (simp [inB] <;> omega)) ?_)) ?_
      refine runS_callF (rdP acc s p) (rdP acc s (if isB s p 44 then p + 1 else p)) [] rfl rfl rfl rfl rfl (show _ = [.ptr 3 0 0, uv 44] from rfl) rfl (keptP acc.length acc s p) rfl rfl (rd_is (keptP acc.length acc) s p 44 (by omega) (by omega)) ?_
      refine runS_x (I := inf) (J := jnf) ⟨false, false, [], 0, 0⟩ 9999 rfl (by repeat (first | exact obs_nil | refine obs_draw (by kernel_rfl) ?_ | refine obs_same ?_ | refine obs_and ?_ | refine obs_by (by (simp [inB] <;> omega)) ?_)) ?_
      refine runS_cond rfl (fun hc => ?_) (fun hc => ?_)
      · have hb : isB s p 44 = true := hc
        have hbl := isB_lt hb
        rw [hb] at hpp ⊢
        rw [if_pos rfl] at hpp
        have hd2 := rd_dim (keptP acc.length acc) s (p + 1) hs (by omega)
        refine runS_x (I := inf) (J := jnf) ⟨false, false, [], 0, 0⟩ 9999 rfl (by repeat (first | exact obs_nil | refine obs_draw (by kernel_rfl) ?_ | refine obs_same ?_ | refine obs_and ?_ | refine obs_by (by (simp [inB] <;> omega)) ?_)) ?_
        cases hd' : dimF s (p + 1) with
        | bad q r =>
          rw [hd'] at hd2
          refine runS_drawG (A2 := (fun _ => rdP acc s r)) 4 [] (fun _ => rdP acc s (p + 1)) (some 2) (c := 9) jnfI.draw (by kernel_rfl) rfl (lexg_g (I := inf) (J := jnf) none ⟨_, rfl, (by repeat (first | exact obs_nil | refine obs_same ?_ | refine obs_and ?_ | refine obs_by (by (simp [inB] <;> omega)) ?_))⟩ rfl rfl rfl rfl (lexg_g (I := inf) (J := jnf) none ⟨_, rfl, (by repeat (first | exact obs_nil | refine obs_same ?_ | refine obs_and ?_ | refine obs_by (by (simp [inB] <;> omega)) ?_))⟩ rfl rfl rfl rfl (lexg_panF (rdP acc s (p + 1)) (rdP acc s r) ⟨_, rfl, rfl⟩ rfl rfl rfl rfl (show _ = rdArg from rfl) rfl (keptP acc.length acc s (p + 1)) rfl rfl rfl hd2 (lexg_late rfl (by kernel_rfl) lexg_nil)))) rfl (fun h => by cases h) (fun _ b tt => ?_)
          refine runS_x (I := inf) (J := jnf) ⟨true, false, [15], 0, 0⟩ 9999 rfl (by repeat (first | exact obs_nil | refine obs_draw (by kernel_rfl) ?_ | refine obs_same ?_ | refine obs_and ?_ | refine obs_by (by (simp [inB] <;> omega)) ?_)) ?_
          refine runS_drawG (ch := []) (A2 := fun _ => []) 3 [2] (fun b => [.box 22 [cond (b.getD 0 false) (.val (.slice none 0 0)) (.row 4 acc.length)], .box 3 [iv 0], .box 27 [iv 0], .box 41 [sv s, iv r], .row 33 2 acc.length acc.length (dimR acc), .box 38 [iv q]]) none (c := 9) jnfI.draw (by kernel_rfl) rfl (lexg_g (I := inf) (J := jnf) none ⟨⟨_, rfl, (by repeat (first | exact obs_nil | refine obs_same ?_ | refine obs_and ?_ | refine obs_by (by (simp [inB] <;> omega)) ?_))⟩, (by first | exact .inl (by decide +kernel) | exact .inr ⟨_, rfl, (by repeat (first | exact obs_nil | refine obs_same ?_ | refine obs_and ?_ | refine obs_by (by (simp [inB] <;> omega)) ?_))⟩)⟩ rfl rfl rfl rfl (lexg_g (I := inf) (J := jnf) none ⟨⟨_, rfl, (by repeat (first | exact obs_nil | refine obs_same ?_ | refine obs_and ?_ | refine obs_by (by (simp [inB] <;> omega)) ?_))⟩, (by first | exact .inl (by decide +kernel) | exact .inr ⟨_, rfl, (by repeat (first | exact obs_nil | refine obs_same ?_ | refine obs_and ?_ | refine obs_by (by (simp [inB] <;> omega)) ?_))⟩)⟩ rfl rfl rfl rfl (lexg_g (I := inf) (J := jnf) (some .store) ⟨⟨_, rfl, (by repeat (first | exact obs_nil | refine obs_same ?_ | refine obs_and ?_ | refine obs_by (by (simp [inB] <;> omega)) ?_))⟩, .inl rfl⟩ rfl rfl rfl rfl lexg_nil))) rfl (fun _ => ?_) (fun h => by cases h)
          refine runS_x (I := inf) (J := jnf) ⟨true, false, [15], 0, 0⟩ 9999 rfl (by repeat (first | exact obs_nil | refine obs_draw (by kernel_rfl) ?_ | refine obs_same ?_ | refine obs_and ?_ | refine obs_by (by (simp [inB] <;> omega)) ?_)) ?_
          refine runS_saysBox 0 0 _ rfl rfl (says_nil0 (sz := 2) (r := nilD) (Nat.zero_le _)) rfl rfl ?_
          refine runS_ret (I := inf) 0 rfl (Nat.le_refl _) rfl .nil rfl ⟨?_, rfl⟩
          rw [hF, hpp, parL_bad hd']
          rfl
        | ok d' q =>
          rw [hd'] at hd2
          obtain ⟨c1, c2⟩ := dimF_ok hd'
          have hpl := parL_ok (acc := acc) hd'
          refine runS_hole ?_
          refine runS_drawG (ch := []) (A2 := fun _ => []) 4 [2, 3] (fun b => rdP acc s (cond (b.getD 0 false) q (p + 1)) ++ [cond (b.getD 1 false) (.row 33 2 1 1 (chunk 2 [iv d'.1, iv d'.2])) .hole]) none (c := 9) jnfI.draw (by kernel_rfl) rfl (lexg_g (I := inf) (J := jnf) none ⟨⟨⟨_, rfl, (by repeat (first | exact obs_nil | refine obs_same ?_ | refine obs_and ?_ | refine obs_by (by (simp [inB] <;> omega)) ?_))⟩, (by first | exact .inl (by decide +kernel) | exact .inr ⟨_, rfl, (by repeat (first | exact obs_nil | refine obs_same ?_ | refine obs_and ?_ | refine obs_by (by (simp [inB] <;> omega)) ?_))⟩)⟩, (by first | exact .inl (by decide +kernel) | exact .inr ⟨⟨_, rfl, (by repeat (first | exact obs_nil | refine obs_same ?_ | refine obs_and ?_ | refine obs_by (by (simp [inB] <;> omega)) ?_))⟩, (by first | exact .inl (by decide +kernel) | exact .inr ⟨_, rfl, (by repeat (first | exact obs_nil | refine obs_same ?_ | refine obs_and ?_ | refine obs_by (by (simp [inB] <;> omega)) ?_))⟩)⟩)⟩ rfl rfl rfl rfl (lexg_g (I := inf) (J := jnf) none ⟨⟨⟨_, rfl, (by repeat (first | exact obs_nil | refine obs_same ?_ | refine obs_and ?_ | refine obs_by (by (simp [inB] <;> omega)) ?_))⟩, (by first | exact .inl (by decide +kernel) | exact .inr ⟨_, rfl, (by repeat (first | exact obs_nil | refine obs_same ?_ | refine obs_and ?_ | refine obs_by (by (simp [inB] <;> omega)) ?_))⟩)⟩, (by first | exact .inl (by decide +kernel) | exact .inr ⟨⟨_, rfl, (by repeat (first | exact obs_nil | refine obs_same ?_ | refine obs_and ?_ | refine obs_by (by (simp [inB] <;> omega)) ?_))⟩, (by first | exact .inl (by decide +kernel) | exact .inr ⟨_, rfl, (by repeat (first | exact obs_nil | refine obs_same ?_ | refine obs_and ?_ | refine obs_by (by (simp [inB] <;> omega)) ?_))⟩)⟩)⟩ rfl rfl rfl rfl (lexg_callF (rdP acc s (p + 1)) (rdP acc s q) ⟨⟨⟨_, rfl, rfl⟩, (by first | exact .inl (by decide +kernel) | exact .inr ⟨_, rfl, rfl⟩)⟩, .inl rfl⟩ rfl rfl rfl rfl rfl (show _ = rdArg from rfl) rfl (keptP acc.length acc s (p + 1)) rfl rfl hd2 (lexg_g (I := inf) (J := jnf) (some (.hole 5)) ⟨⟨⟨_, rfl, (by repeat (first | exact obs_nil | refine obs_same ?_ | refine obs_and ?_ | refine obs_by (by (simp [inB] <;> omega)) ?_))⟩, .inl rfl⟩, (by first | exact .inl (by decide +kernel) | exact .inr ⟨⟨_, rfl, (by repeat (first | exact obs_nil | refine obs_same ?_ | refine obs_and ?_ | refine obs_by (by (simp [inB] <;> omega)) ?_))⟩, .inl rfl⟩)⟩ rfl rfl rfl rfl lexg_nil)))) rfl (fun _ => ?_) (fun h => by cases h)
          refine runS_x (I := inf) (J := jnf) ⟨false, false, [], 0, 0⟩ 9999 rfl (by repeat (first | exact obs_nil | refine obs_draw (by kernel_rfl) ?_ | refine obs_same ?_ | refine obs_and ?_ | refine obs_by (by (simp [inB] <;> omega)) ?_)) ?_
          refine runS_tell 4 (dimR (acc ++ [d'])) rfl (m' := acc.length + 1) rfl (dimR_snoc rfl) rfl ?_
          refine runS_drop 5 (Nat.zero_le _) rfl (by repeat (first | exact .nil | refine .row (fun j hj => rfl) ?_ | refine .box rfl ?_ | refine .fam (fun k j hk hj => rfl) ?_ | refine .loop (scrub_under _ _) ?_ | refine .dfr ?_ | refine .gone ?_ | refine .map (fun p hp => by (obtain ⟨k, _, rfl⟩ := List.mem_map.1 hp; rfl)) ?_)) rfl rfl rfl (by repeat (first | exact .nil | refine .cons rfl rfl rfl (scrub_under _ _) ?_)) ?_
          have hl' : (acc ++ [d']).length = acc.length + 1 := by simp
          refine ih (q, acc ++ [d']) _ _ (by dsimp only; omega) ⟨⟨rfl, rfl, rfl, rfl, rfl⟩, ?_, c2, by dsimp only; omega, by rw [hpp, hpl]⟩
          unfold rdP pc4
          rw [hl']
          rfl
      · have hb : isB s p 44 = false := hc
        rw [hb] at hpp ⊢
        rw [if_neg (by decide)] at hpp
        have hF2 : parseF s = finF s (.fin acc p) := by rw [hF, hpp]
        refine runS_x (I := inf) (J := jnf) ⟨false, false, [], 0, 0⟩ 9999 rfl (by repeat (first | exact obs_nil | refine obs_draw (by kernel_rfl) ?_ | refine obs_same ?_ | refine obs_and ?_ | refine obs_by (by (simp [inB] <;> omega)) ?_)) ?_
        cases h41 : isB s p 41 with
        | false =>
          refine runS_callFP (rdP acc s p) (rdP acc s p) [] rfl rfl rfl rfl rfl (show _ = [.ptr 3 0 0, uv 41] from rfl) rfl (keptP acc.length acc s p) rfl rfl (rd_mustN (keptP acc.length acc) s p 41 (by omega) (by omega) h41) ?_
          refine runS_x (I := inf) (J := jnf) ⟨true, false, [15], 0, 0⟩ 9999 rfl (by repeat (first | exact obs_nil | refine obs_draw (by kernel_rfl) ?_ | refine obs_same ?_ | refine obs_and ?_ | refine obs_by (by (simp [inB] <;> omega)) ?_)) ?_
          refine runS_drawG (ch := []) (A2 := fun _ => []) 3 [2] (fun b => [.box 22 [cond (b.getD 0 false) (.val (.slice none 0 0)) (.row 4 acc.length)], .box 3 [iv 0], .box 27 [iv 0], .box 41 [sv s, iv p], .row 33 2 acc.length acc.length (dimR acc), .box 38 [iv p]]) none (c := 9) jnfI.draw (by kernel_rfl) rfl (lexg_g (I := inf) (J := jnf) none ⟨⟨_, rfl, (by repeat (first | exact obs_nil | refine obs_same ?_ | refine obs_and ?_ | refine obs_by (by (simp [inB] <;> omega)) ?_))⟩, (by first | exact .inl (by decide +kernel) | exact .inr ⟨_, rfl, (by repeat (first | exact obs_nil | refine obs_same ?_ | refine obs_and ?_ | refine obs_by (by (simp [inB] <;> omega)) ?_))⟩)⟩ rfl rfl rfl rfl (lexg_g (I := inf) (J := jnf) none ⟨⟨_, rfl, (by repeat (first | exact obs_nil | refine obs_same ?_ | refine obs_and ?_ | refine obs_by (by (simp [inB] <;> omega)) ?_))⟩, (by first | exact .inl (by decide +kernel) | exact .inr ⟨_, rfl, (by repeat (first | exact obs_nil | refine obs_same ?_ | refine obs_and ?_ | refine obs_by (by (simp [inB] <;> omega)) ?_))⟩)⟩ rfl rfl rfl rfl (lexg_g (I := inf) (J := jnf) (some .store) ⟨⟨_, rfl, (by repeat (first | exact obs_nil | refine obs_same ?_ | refine obs_and ?_ | refine obs_by (by (simp [inB] <;> omega)) ?_))⟩, .inl rfl⟩ rfl rfl rfl rfl lexg_nil))) rfl (fun _ => ?_) (fun h => by cases h)
          refine runS_x (I := inf) (J := jnf) ⟨true, false, [15], 0, 0⟩ 9999 rfl (by repeat (first | exact obs_nil | refine obs_draw (by kernel_rfl) ?_ | refine obs_same ?_ | refine obs_and ?_ | refine obs_by (by (simp [inB] <;> omega)) ?_)) ?_
          refine runS_saysBox 0 0 _ rfl rfl (says_nil0 (sz := 2) (r := nilD) (Nat.zero_le _)) rfl rfl ?_
          refine runS_ret (I := inf) 0 rfl (Nat.le_refl _) rfl .nil rfl ⟨?_, rfl⟩
          rw [hF2, finF, if_neg (by rw [h41]; decide)]
          rfl
        | true =>
          refine runS_callF (rdP acc s p) (rdP acc s (p + 1)) [] rfl rfl rfl rfl rfl (show _ = [.ptr 3 0 0, uv 41] from rfl) rfl (keptP acc.length acc s p) rfl rfl (rd_mustY (keptP acc.length acc) s p 41 (by omega) (by omega) h41) ?_
          refine runS_x (I := inf) (J := jnf) ⟨false, false, [], 0, 0⟩ 9999 rfl (by repeat (first | exact obs_nil | refine obs_draw (by kernel_rfl) ?_ | refine obs_same ?_ | refine obs_and ?_ | refine obs_by (by (simp [inB, blS] <;> omega)) ?_)) ?_
          refine runS_cond rfl (fun h5 => ?_) (fun h5 => ?_)
          · have h5' : p + 1 < s.length := by
              have : decide (((p + 1 : Nat) : Int) < (s.length : Int)) = true := h5
              simp only [decide_eq_true_eq] at this
              omega
            refine runS_x (I := inf) (J := jnf) ⟨false, false, [], 0, 0⟩ 9999 rfl (by repeat (first | exact obs_nil | refine obs_draw (by kernel_rfl) ?_ | refine obs_same ?_ | refine obs_and ?_ | refine obs_by (by (simp [inB] <;> omega)) ?_)) ?_
            refine runS_x (I := inf) (J := jnf) ⟨true, false, [15], 0, 0⟩ 9999 rfl (by repeat (first | exact obs_nil | refine obs_draw (by kernel_rfl) ?_ | refine obs_same ?_ | refine obs_and ?_ | refine obs_by (by (simp [inB] <;> omega)) ?_)) ?_
            refine runS_drawG (ch := []) (A2 := fun _ => []) 3 [2] (fun b => [.box 22 [cond (b.getD 0 false) (.val (.slice none 0 0)) (.row 4 acc.length)], .box 3 [iv 0], .box 27 [iv 0], .box 41 [sv s, iv ((p + 1 : Nat) : Int)], .row 33 2 acc.length acc.length (dimR acc), .box 38 [iv ((p + 1 : Nat) : Int)]]) none (c := 9) jnfI.draw (by kernel_rfl) rfl (lexg_g (I := inf) (J := jnf) none ⟨⟨_, rfl, (by repeat (first | exact obs_nil | refine obs_same ?_ | refine obs_and ?_ | refine obs_by (by (simp [inB] <;> omega)) ?_))⟩, (by first | exact .inl (by decide +kernel) | exact .inr ⟨_, rfl, (by repeat (first | exact obs_nil | refine obs_same ?_ | refine obs_and ?_ | refine obs_by (by (simp [inB] <;> omega)) ?_))⟩)⟩ rfl rfl rfl rfl (lexg_g (I := inf) (J := jnf) none ⟨⟨_, rfl, (by repeat (first | exact obs_nil | refine obs_same ?_ | refine obs_and ?_ | refine obs_by (by (simp [inB] <;> omega)) ?_))⟩, (by first | exact .inl (by decide +kernel) | exact .inr ⟨_, rfl, (by repeat (first | exact obs_nil | refine obs_same ?_ | refine obs_and ?_ | refine obs_by (by (simp [inB] <;> omega)) ?_))⟩)⟩ rfl rfl rfl rfl (lexg_g (I := inf) (J := jnf) (some .store) ⟨⟨_, rfl, (by repeat (first | exact obs_nil | refine obs_same ?_ | refine obs_and ?_ | refine obs_by (by (simp [inB] <;> omega)) ?_))⟩, .inl rfl⟩ rfl rfl rfl rfl lexg_nil))) rfl (fun _ => ?_) (fun h => by cases h)
            refine runS_x (I := inf) (J := jnf) ⟨true, false, [15], 0, 0⟩ 9999 rfl (by repeat (first | exact obs_nil | refine obs_draw (by kernel_rfl) ?_ | refine obs_same ?_ | refine obs_and ?_ | refine obs_by (by (simp [inB] <;> omega)) ?_)) ?_
            refine runS_saysBox 0 0 _ rfl rfl (says_nil0 (sz := 2) (r := nilD) (Nat.zero_le _)) rfl rfl ?_
            refine runS_ret (I := inf) 0 rfl (Nat.le_refl _) rfl .nil rfl ⟨?_, rfl⟩
            rw [hF2, finF, if_pos h41, if_pos h5']
            rfl
          · have h5' : ¬ p + 1 < s.length := by
              have : decide (((p + 1 : Nat) : Int) < (s.length : Int)) = false := h5
              simp only [decide_eq_false_iff_not] at this
              omega
            refine runS_freezeCell 0 0 rfl rfl rfl rfl (fun j hj => rfl) rfl rfl rfl ?_
            refine runS_x (I := inf) (J := jnf) ⟨false, false, [], 0, 0⟩ 9999 rfl (by repeat (first | exact obs_nil | refine obs_draw (by kernel_rfl) ?_ | refine obs_same ?_ | refine obs_and ?_ | refine obs_by (by (simp [inB] <;> omega)) ?_)) ?_
            refine runS_call rfl rfl rfl rfl rfl rfl rfl (a_Valid none acc) ?_
            refine runS_x (I := inf) (J := jnf) ⟨false, false, [], 0, 0⟩ 9999 rfl (by repeat (first | exact obs_nil | refine obs_draw (by kernel_rfl) ?_ | refine obs_same ?_ | refine obs_and ?_ | refine obs_by (by (simp [inB] <;> omega)) ?_)) ?_
            refine runS_cond rfl (fun h6 => ?_) (fun h6 => ?_)
            · have hv : validD acc = false := by simpa using h6
              refine runS_x (I := inf) (J := jnf) ⟨false, false, [], 0, 0⟩ 9999 rfl (by repeat (first | exact obs_nil | refine obs_draw (by kernel_rfl) ?_ | refine obs_same ?_ | refine obs_and ?_ | refine obs_by (by (simp [inB, blS] <;> omega)) ?_)) ?_
              refine runS_x (I := inf) (J := jnf) ⟨true, false, [15], 0, 0⟩ 9999 rfl (by repeat (first | exact obs_nil | refine obs_draw (by kernel_rfl) ?_ | refine obs_same ?_ | refine obs_and ?_ | refine obs_by (by (simp [inB] <;> omega)) ?_)) ?_
              refine runS_drawG (ch := []) (A2 := fun _ => []) 3 [2] (fun b => [.box 22 [cond (b.getD 0 false) (.val (.slice none 0 0)) (.slc 2 none acc.length (dimR acc))], .box 3 [iv 0], .box 27 [iv 0], .box 41 [sv s, iv ((p + 1 : Nat) : Int)], .gone, .box 38 [iv s.length]]) none (c := 9) jnfI.draw (by kernel_rfl) rfl (lexg_g (I := inf) (J := jnf) none ⟨⟨_, rfl, (by repeat (first | exact obs_nil | refine obs_same ?_ | refine obs_and ?_ | refine obs_by (by (simp [inB] <;> omega)) ?_))⟩, (by first | exact .inl (by decide +kernel) | exact .inr ⟨_, rfl, (by repeat (first | exact obs_nil | refine obs_same ?_ | refine obs_and ?_ | refine obs_by (by (simp [inB] <;> omega)) ?_))⟩)⟩ rfl rfl rfl rfl (lexg_g (I := inf) (J := jnf) none ⟨⟨_, rfl, (by repeat (first | exact obs_nil | refine obs_same ?_ | refine obs_and ?_ | refine obs_by (by (simp [inB] <;> omega)) ?_))⟩, (by first | exact .inl (by decide +kernel) | exact .inr ⟨_, rfl, (by repeat (first | exact obs_nil | refine obs_same ?_ | refine obs_and ?_ | refine obs_by (by (simp [inB] <;> omega)) ?_))⟩)⟩ rfl rfl rfl rfl (lexg_g (I := inf) (J := jnf) (some .store) ⟨⟨_, rfl, (by repeat (first | exact obs_nil | refine obs_same ?_ | refine obs_and ?_ | refine obs_by (by (simp [inB] <;> omega)) ?_))⟩, .inl rfl⟩ rfl rfl rfl rfl lexg_nil))) rfl (fun _ => ?_) (fun h => by cases h)
              refine runS_x (I := inf) (J := jnf) ⟨true, false, [15], 0, 0⟩ 9999 rfl (by repeat (first | exact obs_nil | refine obs_draw (by kernel_rfl) ?_ | refine obs_same ?_ | refine obs_and ?_ | refine obs_by (by (simp [inB] <;> omega)) ?_)) ?_
              refine runS_saysBox 0 0 _ rfl rfl (says_nil0 (sz := 2) (r := nilD) (Nat.zero_le _)) rfl rfl ?_
              refine runS_ret (I := inf) 0 rfl (Nat.le_refl _) rfl .nil rfl ⟨?_, rfl⟩
              rw [hF2, finF, if_pos h41, if_neg h5', if_neg (by rw [hv]; decide)]
              rfl
            · have hv : validD acc = true := by simpa using h6
              refine runS_x (I := inf) (J := jnf) ⟨true, false, [15], 0, 0⟩ 9999 rfl (by repeat (first | exact obs_nil | refine obs_draw (by kernel_rfl) ?_ | refine obs_same ?_ | refine obs_and ?_ | refine obs_by (by (simp [inB] <;> omega)) ?_)) ?_
              refine runS_ret (I := inf) 0 rfl (Nat.le_refl _) rfl .nil rfl ⟨?_, rfl⟩
              rw [hF2, finF, if_pos h41, if_neg h5', if_pos hv]
              rfl
end Go.Iron.Tryd

/- The seat of ArrayTexts: the reference's take. -/
namespace Go.Iron.Tryd
open Go.Proofs

theorem dgN_stop (s : Str) : ∀ k p, dgN s k p = k ∨ isDg s (p + dgN s k p) = false
  | 0, p => .inl rfl
  | k + 1, p => by
    unfold dgN
    split
    · rcases dgN_stop s k (p + 1) with h | h
      · exact .inl (by rw [h])
      · refine .inr ?_
        rwa [show p + 1 + dgN s k (p + 1) = p + (dgN s k (p + 1) + 1) by omega] at h
    · rename_i h
      exact .inr (by simpa using h)
theorem dgN_pos {s : Str} {p : Nat} : dgN s 5 p ≠ 0 ↔ isDg s p = true := by
  show (if isDg s p then dgN s 4 (p + 1) + 1 else 0) ≠ 0 ↔ _
  split <;> simp_all
def preV (s : Str) (p k : Nat) : Nat := decV ((s.drop p).take k)
theorem preV_succ {s : Str} {p k : Nat} (h : p + k < s.length) : preV s p (k + 1) = 10 * preV s p k + (byt s (p + k) - 48) := by
  have e : (s.drop p).take (k + 1) = (s.drop p).take k ++ [s.getD (p + k) 0] := by
    have hl : k < (s.drop p).length := by rw [List.length_drop]; omega
    rw [List.take_succ_eq_append_getElem hl]
    congr 2
    rw [List.getElem_drop, List.getD_eq_getElem?_getD, List.getElem?_eq_getElem h]
    rfl
  unfold preV decV
  rw [e, List.foldl_append]
  rfl
theorem preV_one {s : Str} {p : Nat} (h : p < s.length) : preV s p 1 = byt s p - 48 := by
  have := preV_succ (s := s) (p := p) (k := 0) h
  rw [this, show preV s p 0 = 0 from rfl]
  simp
theorem preV_pos {s : Str} {p : Nat} (hb : 48 < byt s p) : ∀ k, p + k < s.length → 1 ≤ preV s p (k + 1)
  | 0, h => by
    have h' : p < s.length := h
    rw [show (0 : Nat) + 1 = 1 from rfl, preV_one h']; omega
  | k + 1, h => by
    rw [preV_succ h]
    have := preV_pos hb k (by omega)
    omega
theorem preV_bound {s : Str} {p k : Nat} (hk : k ≤ 5) (hl : p + k ≤ s.length) (h : ∀ j, j < k → isDg s (p + j) = true) : preV s p k < 100000 := by
  have hb : ∀ b ∈ (s.drop p).take k, b.toNat ≤ 57 := fun b hb => by
    obtain ⟨j, hj⟩ := List.mem_iff_getElem?.1 hb
    have hjl := (List.getElem?_eq_some_iff.1 hj).1
    rw [List.length_take, List.length_drop] at hjl
    rw [part_get hl (by omega)] at hj
    have hd := h j (by omega)
    simp only [isDg, Bool.and_eq_true, decide_eq_true_eq] at hd
    have hbb : byt s (p + j) = b.toNat := congrArg UInt8.toNat (Option.some.inj hj)
    omega
  have := dec_bound ((s.drop p).take k) 0 hb
  have hlen : ((s.drop p).take k).length ≤ 5 := by rw [List.length_take]; omega
  have h10 : 10 ^ ((s.drop p).take k).length ≤ 10 ^ 5 := Nat.pow_le_pow_right (by decide) hlen
  have e : preV s p k = ((s.drop p).take k).foldl (fun a b => 10 * a + (b.toNat - 48)) 0 := rfl
  omega
def takeF (s : Str) (i : Nat) : Int × Int × Int := match numF s i with
  | .bad q _ => (0, 0, q)
  | .ok n q => (n, q, -1)
theorem ref_Digit (c : Int) : CallT Tryd.prog 27 [.val (.int .u8 c)] [] (fun o A => o = .ret (bv (decide (48 ≤ c) && decide (c ≤ 57))) ∧ A = []) := by
  refine callS_body (n := 9) rfl rfl fun w ρ X => ?_
  refine runS_x (I := inf) (J := jnf) ⟨false, false, [], 0, 0⟩ 9999 rfl (by repeat (first | exact obs_nil | refine obs_draw (by kernel_rfl) ?_ | refine obs_same ?_ | refine obs_and ?_ | refine obs_by (by (simp [inB] <;> omega)) ?_)) ?_
  refine runS_ret (I := inf) 0 rfl (Nat.le_refl _) rfl .nil rfl ⟨?_, rfl⟩
  refine congrArg (fun b => Out.ret (bv b)) ?_
  rw [Bool.eq_iff_iff]
  simp
theorem ref_take (s : Str) (i : Nat) (hs : s.length ≤ 900) (hi : i ≤ 950) : CallT Tryd.prog 20 [sv s, iv i] [] (fun o A => o = .ret (.tup [iv (takeF s i).1, iv (takeF s i).2.1, iv (takeF s i).2.2]) ∧ A = []) := by
  refine callS_body (n := 87) rfl rfl fun w ρ X => ?_
  refine runS_x (I := inf) (J := jnf) ⟨false, false, [], 0, 0⟩ 9999 rfl (by repeat (first | exact obs_nil | refine obs_draw (by kernel_rfl) ?_ | refine obs_same ?_ | refine obs_and ?_ | refine obs_by (by (simp [inB, blS] <;> omega)) ?_)) ?_
  have hw1 : IntKind.wrap .i64 ((i : Int) + 1) = ((i + 1 : Nat) : Int) := by rw [w64 (by omega) (by omega)]; rfl
  have hmi := isB_int s i 45
  refine runS_cut (fun τ ar => (τ 0 = sv s ∧ τ 1 = iv (minP s i) ∧ τ 7 = bv (isB s i 45)) ∧ ar = []) (fun rest => ?_) ?_
  · refine runS_cond rfl (fun h => ?_) (fun h => ?_)
    · have hb : isB s i 45 = true := hmi.symm.trans h
      refine runS_x (I := inf) (J := jnf) ⟨false, false, [], 2, 0⟩ 9999 rfl (by repeat (first | exact obs_nil | refine obs_draw (by kernel_rfl) ?_ | refine obs_same ?_ | refine obs_and ?_ | refine obs_by (by (simp [inB] <;> omega)) ?_)) ?_
      refine rest _ _ ⟨⟨rfl, ?_, ?_⟩, rfl⟩
      · have hmq : minP s i = i + 1 := by rw [minP, hb, if_pos rfl]
        rw [hmq]
        exact congrArg iv hw1
      · exact congrArg bv hmi
    · have hb : isB s i 45 = false := hmi.symm.trans h
      refine runS_x (I := inf) (J := jnf) ⟨false, false, [], 2, 0⟩ 9999 rfl (by repeat (first | exact obs_nil | refine obs_draw (by kernel_rfl) ?_ | refine obs_same ?_ | refine obs_and ?_ | refine obs_by (by (simp [inB] <;> omega)) ?_)) ?_
      refine rest _ _ ⟨⟨rfl, ?_, ?_⟩, rfl⟩
      · have hmq : minP s i = i := by rw [minP, hb, if_neg (by decide)]
        rw [hmq]
        rfl
      · exact congrArg bv hmi
  rintro τ1 ar1 ⟨⟨g0, g1, g7⟩, rfl⟩
  refine runS_says 0 (by exact g0) (Says.refl _) ?_; refine runS_says 1 (by exact g1) (Says.refl _) ?_; refine runS_says 7 (by exact g7) (Says.refl _) ?_
  have hmp : minP s i ≤ i + 1 := by unfold minP; split <;> omega
  generalize hq : minP s i = q at *
  refine runS_x (I := inf) (J := jnf) ⟨false, false, [], 0, 0⟩ 9999 rfl (by repeat (first | exact obs_nil | refine obs_draw (by kernel_rfl) ?_ | refine obs_same ?_ | refine obs_and ?_ | refine obs_by (by (simp [inB, blS] <;> omega)) ?_)) ?_
  refine runS_callU rfl rfl (by first | exact .v rfl rfl rfl rfl | exact .o rfl rfl rfl rfl) rfl rfl (by repeat (first | exact .nil | refine .cons (.n rfl) ?_ | refine .cons .o ?_ | refine .cons gok_and ?_)) rfl rfl rfl rfl rfl (fun _ => (ref_Digit _)) ?_
  refine runS_x (I := inf) (J := jnf) ⟨false, false, [], 0, 0⟩ 9999 rfl (by repeat (first | exact obs_nil | refine obs_draw (by kernel_rfl) ?_ | refine obs_same ?_ | refine obs_and ?_ | refine obs_by (by (simp [inB, blS] <;> omega)) ?_)) ?_
  have hcd : (if (if decide ((q : Int) ≥ (s.length : Int)) = true then true else !(decide (48 ≤ ((s.getD q 0).toNat : Int)) && decide (((s.getD q 0).toNat : Int) ≤ 57))) = true then true else (if isB s i 45 = true then (((s.getD q 0).toNat : Int) == 48) else false)) = (!isDg s q || (isB s i 45 && byt s q == 48)) := by
    unfold isDg byt
    rw [Bool.eq_iff_iff]
    cases isB s i 45 <;> simp [-List.getD_eq_getElem?_getD] <;> omega
  refine runS_cond rfl (fun h => ?_) (fun h => ?_)
  · have hb := hcd.symm.trans h
    refine runS_x (I := inf) (J := jnf) ⟨false, false, [], 0, 0⟩ 9999 rfl (by repeat (first | exact obs_nil | refine obs_draw (by kernel_rfl) ?_ | refine obs_same ?_ | refine obs_and ?_ | refine obs_by (by (simp [inB] <;> omega)) ?_)) ?_
    refine runS_ret (I := inf) 0 rfl (Nat.le_refl _) rfl .nil rfl ⟨?_, rfl⟩
    have hbad : numF s i = .bad q q := by
      rw [numF, hq, if_pos]
      rw [Bool.or_eq_true, Bool.and_eq_true, beq_iff_eq] at hb
      rcases hb with hb | hb
      · left
        by_cases h0 : dgN s 5 q = 0
        · exact h0
        · have h1 := dgN_pos.1 (show dgN s 5 q ≠ 0 from h0)
          rw [h1] at hb
          cases hb
      · exact .inr hb
    rw [takeF, hbad]
    rfl
  have hb : isDg s q = true ∧ ¬ (isB s i 45 = true ∧ byt s q = 48) := by
    have := hcd.symm.trans h
    rw [Bool.or_eq_false_iff, Bool.and_eq_false_iff, beq_eq_false_iff_ne] at this
    refine ⟨by simpa using this.1, fun ⟨x, y⟩ => ?_⟩
    rcases this.2 with z | z
    · rw [x] at z; cases z
    · exact z y
  have hdn : dgN s 5 q ≠ 0 := dgN_pos.2 hb.1
  have hql := isDg_lt hb.1
  obtain ⟨m1, m2, m3, m4⟩ := numL_bounds hdn
  have hok : numF s i = .ok (if isB s i 45 then -(numV s q : Int) else numV s q) (q + numL s q) := by
    rw [numF, hq, if_neg]
    rintro (h | h)
    · exact hdn h
    · exact hb.2 h
  have hu8 : ∀ {p : Nat}, isDg s p = true → IntKind.wrap .i64 (IntKind.wrap .u8 (((s.getD p 0).toNat : Int) - 48)) = ((byt s p - 48 : Nat) : Int) := fun {p} hp => by
    simp only [isDg, Bool.and_eq_true, decide_eq_true_eq] at hp
    unfold byt at hp ⊢
    rw [show IntKind.wrap .u8 (((s.getD p 0).toNat : Int) - 48) = ((s.getD p 0).toNat : Int) - 48 from IntWalk.u8_in _ (by omega), w64 (by omega) (by omega)]
    omega
  refine runS_x (I := inf) (J := jnf) ⟨false, false, [], 0, 0⟩ 9999 rfl (by repeat (first | exact obs_nil | refine obs_draw (by kernel_rfl) ?_ | refine obs_same ?_ | refine obs_and ?_ | refine obs_by (by (simp [inB, blS, hql] <;> omega)) ?_)) ?_
  refine runS_says 8 (show _ = iv (preV s q 1 : Nat) from by rw [preV_one hql]; exact congrArg iv (hu8 hb.1)) (Says.refl _) ?_
  have hwq : IntKind.wrap .i64 ((q : Int) + 1) = ((q + 1 : Nat) : Int) := by rw [w64 (by omega) (by omega)]; rfl
  refine runS_while (fun (p : Nat) τ ar => (τ 0 = sv s ∧ τ 1 = iv p ∧ τ 7 = bv (isB s i 45) ∧ τ 8 = iv (preV s q (p - q) : Nat) ∧ τ 9 = iv q) ∧ ar = [] ∧ q + 1 ≤ p ∧ p ≤ q + numL s q) (fun p => q + 5 - p) (q + 1) ⟨⟨rfl, congrArg iv hwq, rfl, by rw [show q + 1 - q = 1 by omega]; rfl, rfl⟩, rfl, Nat.le_refl _, by omega⟩ ?_
  rintro p τ' ar' ⟨⟨g0, g1, g7, g8, g9⟩, rfl, hk1, hk2⟩ ih
  refine runS_says 0 (by exact g0) (Says.refl _) ?_; refine runS_says 1 (by exact g1) (Says.refl _) ?_; refine runS_says 7 (by exact g7) (Says.refl _) ?_; refine runS_says 8 (by exact g8) (Says.refl _) ?_; refine runS_says 9 (by exact g9) (Says.refl _) ?_
  have hpb := preV_bound (s := s) (p := q) (k := p - q) (by omega) (by omega) (fun j hj => m4 j (by omega))
  have hsub : IntKind.wrap .i64 ((p : Int) - (q : Int)) = ((p - q : Nat) : Int) := by rw [w64 (by omega) (by omega)]; omega
  generalize hv : preV s q (p - q) = v at *
  refine runS_x (I := inf) (J := jnf) ⟨false, false, [], 0, 0⟩ 9999 rfl (by repeat (first | exact obs_nil | refine obs_draw (by kernel_rfl) ?_ | refine obs_same ?_ | refine obs_and ?_ | refine obs_by (by (simp [inB, blS] <;> omega)) ?_)) ?_
  refine runS_callU rfl rfl (by first | exact .v rfl rfl rfl rfl | exact .o rfl rfl rfl rfl) rfl rfl (by repeat (first | exact .nil | refine .cons (.n rfl) ?_ | refine .cons .o ?_ | refine .cons gok_and ?_)) rfl rfl rfl rfl rfl (fun _ => (ref_Digit _)) ?_
  refine runS_x (I := inf) (J := jnf) ⟨false, false, [], 0, 0⟩ 9999 rfl (by repeat (first | exact obs_nil | refine obs_draw (by kernel_rfl) ?_ | refine obs_same ?_ | refine obs_and ?_ | refine obs_by (by (simp [inB, blS] <;> omega)) ?_)) ?_
  have hcd2 : (if (if (if decide ((v : Int) > 0) = true then decide ((p : Int) < (s.length : Int)) else false) = true then (decide (48 ≤ ((s.getD p 0).toNat : Int)) && decide (((s.getD p 0).toNat : Int) ≤ 57)) else false) = true then decide (IntKind.wrap .i64 ((p : Int) - (q : Int)) < 5) else false) = (decide (0 < v) && isDg s p && decide (p - q < 5)) := by
    rw [hsub]
    unfold isDg byt
    rw [Bool.eq_iff_iff]
    simp [-List.getD_eq_getElem?_getD]
    omega
  have hqp : q + (p - q) = p := by omega
  refine runS_cond rfl (fun h => ?_) (fun h => ?_)
  · have hc := hcd2.symm.trans h
    simp only [Bool.and_eq_true, decide_eq_true_eq] at hc
    obtain ⟨⟨hv0, hdp⟩, hk5⟩ := hc
    have hpl := isDg_lt hdp
    have hne : ¬ byt s q = 48 := fun e => by
      have : numL s q = 1 := by rw [numL, if_pos e]
      have hp1 : p = q + 1 := by omega
      rw [hp1, show q + 1 - q = 1 by omega, preV_one hql, e] at hv
      omega
    have hnl : numL s q = dgN s 5 q := by rw [numL, if_neg hne]
    have hlt : p - q < numL s q := by
      rcases Nat.lt_or_ge (p - q) (numL s q) with h1 | h1
      · exact h1
      · have he : p - q = dgN s 5 q := by omega
        rcases dgN_stop s 5 q with h2 | h2
        · omega
        · rw [← he, hqp, hdp] at h2
          cases h2
    refine runS_x (I := inf) (J := jnf) ⟨false, false, [], 0, 0⟩ 9999 rfl (by repeat (first | exact obs_nil | refine obs_draw (by kernel_rfl) ?_ | refine obs_same ?_ | refine obs_and ?_ | refine obs_by (by (simp [inB, blS, hpl] <;> omega)) ?_)) ?_
    have hw2 : IntKind.wrap .i64 ((p : Int) + 1) = ((p + 1 : Nat) : Int) := by rw [w64 (by omega) (by omega)]; rfl
    refine ih (p + 1) _ _ (by omega) ⟨⟨rfl, congrArg iv hw2, rfl, ?_, rfl⟩, rfl, by omega, by omega⟩
    rw [show p + 1 - q = (p - q) + 1 by omega, preV_succ (by omega), hv, hqp]
    have hd := hu8 hdp
    have hdb : byt s p ≤ 57 := by simp only [isDg, Bool.and_eq_true, decide_eq_true_eq] at hdp; exact hdp.2
    show iv (IntKind.wrap .i64 (IntKind.wrap .i64 (10 * (v : Int)) + IntKind.wrap .i64 (IntKind.wrap .u8 (((s.getD p 0).toNat : Int) - 48)))) = _
    rw [hd, w64 (x := 10 * (v : Int)) (by omega) (by omega), w64 (by omega) (by omega)]
    rfl
  · have hc := hcd2.symm.trans h
    have hfin : p - q = numL s q := by
      rcases Nat.lt_or_ge (p - q) (numL s q) with h1 | h1
      · exfalso
        have hne : ¬ byt s q = 48 := fun e => by
          have : numL s q = 1 := by rw [numL, if_pos e]
          omega
        have hdq := hb.1
        simp only [isDg, Bool.and_eq_true, decide_eq_true_eq] at hdq
        have hdp : isDg s p = true := by have := m4 (p - q) h1; rwa [hqp] at this
        have hv0 : 1 ≤ v := by
          have := preV_pos (s := s) (p := q) (by omega) (p - q - 1) (by omega)
          rw [show p - q - 1 + 1 = p - q by omega, hv] at this
          exact this
        rw [hdp] at hc
        simp at hc
        omega
      · omega
    have hvv : numV s q = v := by rw [← hv, hfin]; rfl
    have hpq : p = q + numL s q := by omega
    refine runS_x (I := inf) (J := jnf) ⟨false, false, [], 0, 0⟩ 9999 rfl (by repeat (first | exact obs_nil | refine obs_draw (by kernel_rfl) ?_ | refine obs_same ?_ | refine obs_and ?_ | refine obs_by (by (simp [inB] <;> omega)) ?_)) ?_
    refine runS_cond rfl (fun h4 => ?_) (fun h4 => ?_)
    · have h4' : isB s i 45 = true := h4
      refine runS_x (I := inf) (J := jnf) ⟨false, false, [], 0, 0⟩ 9999 rfl (by repeat (first | exact obs_nil | refine obs_draw (by kernel_rfl) ?_ | refine obs_same ?_ | refine obs_and ?_ | refine obs_by (by (simp [inB] <;> omega)) ?_)) ?_
      refine runS_ret (I := inf) 0 rfl (Nat.le_refl _) rfl .nil rfl ⟨?_, rfl⟩
      have hw3 : IntKind.wrap .i64 (0 - (v : Int)) = -(v : Int) := by rw [w64 (by omega) (by omega)]; omega
      rw [takeF, hok]
      dsimp only
      rw [h4', if_pos rfl, hvv, ← hpq]
      exact congrArg (fun x => Out.ret (.tup [iv x, iv p, iv (-1)])) hw3
    · have h4' : isB s i 45 = false := h4
      refine runS_x (I := inf) (J := jnf) ⟨false, false, [], 0, 0⟩ 9999 rfl (by repeat (first | exact obs_nil | refine obs_draw (by kernel_rfl) ?_ | refine obs_same ?_ | refine obs_and ?_ | refine obs_by (by (simp [inB] <;> omega)) ?_)) ?_
      refine runS_ret (I := inf) 0 rfl (Nat.le_refl _) rfl .nil rfl ⟨?_, rfl⟩
      rw [takeF, hok]
      dsimp only
      rw [h4', if_neg (by decide), hvv, ← hpq]
      rfl
end Go.Iron.Tryd

/- The seat of ArrayTexts: the reference's Parse. -/
namespace Go.Iron.Tryd
open Go.Proofs

theorem emptyB (s : Str) : ((bs s).toList == ({ data := #[] } : ByteArray).toList) = decide (s.length = 0) := by
  show ((bs s).toList == (bs []).toList) = _
  rw [bs_toList, bs_toList]
  cases s <;> rfl
theorem finB {s : Str} {q : Nat} (h : isB s q 58 = true) : isB s q 41 = false ∧ isB s q 44 = false := by
  simp only [isB, Bool.and_eq_true, decide_eq_true_eq, beq_iff_eq] at h
  unfold isB
  rw [h.2]
  simp
theorem take_bad {s : Str} {p q r : Nat} (h : numF s p = .bad q r) : takeF s p = (0, 0, (q : Int)) := by rw [takeF, h]
theorem take_ok {s : Str} {p q : Nat} {n : Int} (h : numF s p = .ok n q) : takeF s p = (n, (q : Int), -1) := by rw [takeF, h]
theorem ref_Parse (s : Str) (hs : s.length ≤ 900) : CallT Tryd.prog 9 [sv s] [] (fun o A => o = .ret (parseA (parseF s)) ∧ A = []) := by
  by_cases hs0 : s.length = 0
  · have : s = [] := List.eq_nil_of_length_eq_zero hs0
    subst this
    have hE : ((bs []).toList == ({ data := #[] } : ByteArray).toList) = true := by rw [emptyB]; rfl
    refine callS_body (n := 100) rfl rfl fun w ρ X => ?_
    refine runS_x (I := inf) (J := jnf) ⟨false, false, [], 0, 0⟩ 9999 rfl (by repeat (first | exact obs_nil | refine obs_draw (by kernel_rfl) ?_ | refine obs_same ?_ | refine obs_and ?_ | refine obs_by (by (simp [inB, blS, bs_toList] <;> omega)) ?_)) ?_
    refine runS_cond rfl (fun h => ?_) (fun h => ?_)
    · refine runS_x (I := inf) (J := jnf) ⟨false, false, [], 0, 0⟩ 9999 rfl (by repeat (first | exact obs_nil | refine obs_draw (by kernel_rfl) ?_ | refine obs_same ?_ | refine obs_and ?_ | refine obs_by (by (simp [inB] <;> omega)) ?_)) ?_
      refine runS_says 2 rfl (says_nil0 (sz := 2) (r := nilD) (Nat.zero_le _)) ?_
      refine runS_ret (I := inf) 0 rfl (Nat.le_refl _) rfl .nil rfl ⟨?_, rfl⟩
      rfl
    · exfalso
      have h' : (if ((bs []).toList == ({ data := #[] } : ByteArray).toList) = true then true else ((([] : Str).getD 0 0).toNat : Int) != 40) = false := h
      rw [hE] at h'
      cases h'
  refine callS_body (n := 100) rfl rfl fun w ρ X => ?_
  refine runS_x (I := inf) (J := jnf) ⟨false, false, [], 0, 0⟩ 9999 rfl (by repeat (first | exact obs_nil | refine obs_draw (by kernel_rfl) ?_ | refine obs_same ?_ | refine obs_and ?_ | refine obs_by (by (simp [inB, blS] <;> omega)) ?_)) ?_
  have hc0 : (if ((bs s).toList == ({ data := #[] } : ByteArray).toList) = true then true else (((s.getD 0 0).toNat : Int) != 40)) = !isB s 0 40 := by
    rw [emptyB]
    unfold isB byt
    rw [Bool.eq_iff_iff]
    by_cases h0 : s.length = 0
    · simp [h0]
    · simp [h0, -List.getD_eq_getElem?_getD, -List.length_eq_zero_iff]; omega
  refine runS_cond rfl (fun h => ?_) (fun h => ?_)
  · have h40 : isB s 0 40 = false := by have := hc0.symm.trans h; simpa using this
    refine runS_x (I := inf) (J := jnf) ⟨false, false, [], 0, 0⟩ 9999 rfl (by repeat (first | exact obs_nil | refine obs_draw (by kernel_rfl) ?_ | refine obs_same ?_ | refine obs_and ?_ | refine obs_by (by (simp [inB] <;> omega)) ?_)) ?_
    refine runS_says 2 rfl (says_nil0 (sz := 2) (r := nilD) (Nat.zero_le _)) ?_
    refine runS_ret (I := inf) 0 rfl (Nat.le_refl _) rfl .nil rfl ⟨?_, rfl⟩
    rw [parseF, if_neg (by rw [h40]; decide)]
    rfl
  have h40 : isB s 0 40 = true := by have := hc0.symm.trans h; simpa using this
  have hF : parseF s = finF s (parL s 1 []) := by rw [parseF, if_pos h40]
  refine runS_x (I := inf) (J := jnf) ⟨false, false, [], 0, 0⟩ 9999 rfl (by repeat (first | exact obs_nil | refine obs_draw (by kernel_rfl) ?_ | refine obs_same ?_ | refine obs_and ?_ | refine obs_by (by (simp [inB] <;> omega)) ?_)) ?_
  refine runS_nilRow 5 33 2 nilD rfl rfl ?_
  refine runS_while (fun (x : Nat × List Dim) τ ar => (τ 0 = sv s ∧ τ 5 = .row 0 x.2.length ∧ τ 6 = iv x.1) ∧ ar = [.row 33 2 x.2.length x.2.length (dimR x.2)] ∧ x.1 ≤ s.length ∧ x.2.length ≤ x.1 ∧ parL s 1 [] = parL s x.1 x.2) (fun x => s.length + 1 - x.1) (1, [])
    ⟨⟨rfl, rfl, rfl⟩, rfl, by have := isB_lt h40; omega, Nat.zero_le _, rfl⟩ ?_
  rintro ⟨p, acc⟩ τ' ar' ⟨⟨g0, g5, g6⟩, rfl, hp, hal, hpp⟩ ih
  dsimp only at hp hal hpp ih
  refine runS_says 0 (by exact g0) (Says.refl _) ?_; refine runS_says 5 (by exact g5) (Says.refl _) ?_; refine runS_says 6 (by exact g6) (Says.refl _) ?_
  have hcall := ref_take s p hs (by omega)
  refine runS_x (I := inf) (J := jnf) ⟨false, false, [], 0, 0⟩ 9999 rfl (by repeat (first | exact obs_nil | refine obs_draw (by kernel_rfl) ?_ | refine obs_same ?_ | refine obs_and ?_ | refine obs_by (by (simp [inB] <;> omega)) ?_)) ?_
  cases hn : numF s p with
  | bad q r =>
    rw [take_bad hn] at hcall
    refine runS_call rfl rfl rfl rfl rfl rfl rfl hcall ?_
    refine runS_x (I := inf) (J := jnf) ⟨false, false, [], 0, 0⟩ 9999 rfl (by repeat (first | exact obs_nil | refine obs_draw (by kernel_rfl) ?_ | refine obs_same ?_ | refine obs_and ?_ | refine obs_by (by (simp [inB] <;> omega)) ?_)) ?_
    refine runS_cond rfl (fun h1 => ?_) (fun h1 => ?_)
    · refine runS_x (I := inf) (J := jnf) ⟨false, false, [], 0, 0⟩ 9999 rfl (by repeat (first | exact obs_nil | refine obs_draw (by kernel_rfl) ?_ | refine obs_same ?_ | refine obs_and ?_ | refine obs_by (by (simp [inB] <;> omega)) ?_)) ?_
      refine runS_says 2 rfl (says_nil0 (sz := 2) (r := nilD) (Nat.zero_le _)) ?_
      refine runS_ret (I := inf) 0 rfl (Nat.le_refl _) rfl .nil rfl ⟨?_, rfl⟩
      rw [hF, hpp, parL_bad (r := r) (by rw [dimF, hn])]
      rfl
    · exfalso
      simp at h1
  | ok n q =>
    obtain ⟨a1, a2, a3, a4⟩ := numF_ok hn
    rw [take_ok hn] at hcall
    refine runS_call rfl rfl rfl rfl rfl rfl rfl hcall ?_
    refine runS_x (I := inf) (J := jnf) ⟨false, false, [], 0, 0⟩ 9999 rfl (by repeat (first | exact obs_nil | refine obs_draw (by kernel_rfl) ?_ | refine obs_same ?_ | refine obs_and ?_ | refine obs_by (by (simp [inB] <;> omega)) ?_)) ?_
    refine runS_cond rfl (fun h1 => ?_) (fun h1 => ?_)
    · exfalso
      simp at h1
    refine runS_x (I := inf) (J := jnf) ⟨false, false, [], 0, 0⟩ 9999 rfl (by repeat (first | exact obs_nil | refine obs_draw (by kernel_rfl) ?_ | refine obs_same ?_ | refine obs_and ?_ | refine obs_by (by (simp [inB, blS] <;> omega)) ?_)) ?_
    have hq := isB_int s q 58
    have hcx : (if (if decide ((q : Int) < (s.length : Int)) = true then (((s.getD q 0).toNat : Int) == 58) else false) = true then n != 1 else false) = (isB s q 58 && n != 1) := by
      rw [show ((58 : Int)) = ((58 : Nat) : Int) from rfl, hq]
      cases isB s q 58 <;> rfl
    refine runS_cut (fun τ ar => ∃ (d : Dim) (r : Nat), (τ 0 = sv s ∧ τ 5 = .row 0 acc.length ∧ τ 6 = iv r ∧ τ 10 = .ptr 1 0 0) ∧ ar = [.row 33 2 acc.length acc.length (dimR acc), .box 33 [iv d.1, iv d.2]] ∧ p < r ∧ r ≤ s.length ∧ (dimF s p = .ok d r ∨ (dimF s p = .bad r (r + 1) ∧ isB s r 58 = true))) (fun rest => ?_) ?_
    · refine runS_cond rfl (fun h2 => ?_) (fun h2 => ?_)
      · have hb := hcx.symm.trans h2
        rw [Bool.and_eq_true] at hb
        obtain ⟨hb1, hb2⟩ := hb
        have hn1 : ¬ n = 1 := by simpa using hb2
        have hql := isB_lt hb1
        have hw1 : IntKind.wrap .i64 ((q : Int) + 1) = ((q + 1 : Nat) : Int) := by rw [w64 (by omega) (by omega)]; rfl
        have hcall2 := ref_take s (q + 1) hs (by omega)
        refine runS_x (I := inf) (J := jnf) ⟨false, false, [], 6, 0⟩ 9999 rfl (by repeat (first | exact obs_nil | refine obs_draw (by kernel_rfl) ?_ | refine obs_same ?_ | refine obs_and ?_ | refine obs_by (by (simp [inB] <;> omega)) ?_)) ?_
        refine runS_says 50 (show _ = iv (q + 1 : Nat) from congrArg iv hw1) (Says.refl _) ?_
        cases hn2 : numF s (q + 1) with
        | bad a b =>
          rw [take_bad hn2] at hcall2
          refine runS_call rfl rfl rfl rfl rfl rfl rfl hcall2 ?_
          refine runS_x (I := inf) (J := jnf) ⟨false, false, [], 0, 0⟩ 9999 rfl (by repeat (first | exact obs_nil | refine obs_draw (by kernel_rfl) ?_ | refine obs_same ?_ | refine obs_and ?_ | refine obs_by (by (simp [inB] <;> omega)) ?_)) ?_
          refine runS_cond rfl (fun h3 => ?_) (fun h3 => ?_)
          · refine runS_x (I := inf) (J := jnf) ⟨false, false, [], 0, 0⟩ 9999 rfl (by repeat (first | exact obs_nil | refine obs_draw (by kernel_rfl) ?_ | refine obs_same ?_ | refine obs_and ?_ | refine obs_by (by (simp [inB] <;> omega)) ?_)) ?_
            refine runS_says 2 rfl (says_nil0 (sz := 2) (r := nilD) (Nat.zero_le _)) ?_
            refine runS_ret (I := inf) 0 rfl (Nat.le_refl _) rfl .nil rfl ⟨?_, rfl⟩
            rw [hF, hpp, parL_bad (q := a) (r := b) (by rw [dimF, hn]; dsimp only; rw [if_pos hb1, if_neg hn1, hn2])]
            rfl
          · exfalso
            simp at h3
        | ok m r =>
          obtain ⟨c1, c2, c3, c4⟩ := numF_ok hn2
          rw [take_ok hn2] at hcall2
          refine runS_call rfl rfl rfl rfl rfl rfl rfl hcall2 ?_
          refine runS_x (I := inf) (J := jnf) ⟨false, false, [], 0, 0⟩ 9999 rfl (by repeat (first | exact obs_nil | refine obs_draw (by kernel_rfl) ?_ | refine obs_same ?_ | refine obs_and ?_ | refine obs_by (by (simp [inB] <;> omega)) ?_)) ?_
          refine runS_cond rfl (fun h3 => ?_) (fun h3 => ?_)
          · exfalso
            simp at h3
          · refine runS_x (I := inf) (J := jnf) ⟨false, false, [], 6, 0⟩ 9999 rfl (by repeat (first | exact obs_nil | refine obs_draw (by kernel_rfl) ?_ | refine obs_same ?_ | refine obs_and ?_ | refine obs_by (by (simp [inB] <;> omega)) ?_)) ?_
            refine rest _ _ ⟨(n, m), r, ⟨rfl, rfl, rfl, rfl⟩, rfl, by omega, c2, .inl (by rw [dimF, hn]; dsimp only; rw [if_pos hb1, if_neg hn1, hn2])⟩
      · have hb := hcx.symm.trans h2
        refine runS_x (I := inf) (J := jnf) ⟨false, false, [], 6, 0⟩ 9999 rfl (by repeat (first | exact obs_nil | refine obs_draw (by kernel_rfl) ?_ | refine obs_same ?_ | refine obs_and ?_ | refine obs_by (by (simp [inB] <;> omega)) ?_)) ?_
        refine rest _ _ ⟨(1, n), q, ⟨rfl, rfl, rfl, rfl⟩, rfl, a1, a2, ?_⟩
        rw [dimF, hn]
        dsimp only
        cases h58 : isB s q 58 with
        | false => exact .inl (by rw [if_neg (by decide)])
        | true =>
          rw [h58] at hb
          have hn1 : n = 1 := by simpa using hb
          exact .inr ⟨by rw [if_pos rfl, if_pos hn1], rfl⟩
    rintro τ2 ar2 ⟨d, r, ⟨g0, g5, g6, g10⟩, rfl, hr1, hr2, hdd⟩
    refine runS_says 0 (by exact g0) (Says.refl _) ?_; refine runS_says 5 (by exact g5) (Says.refl _) ?_; refine runS_says 6 (by exact g6) (Says.refl _) ?_; refine runS_says 10 (by exact g10) (Says.refl _) ?_
    refine runS_x (I := inf) (J := jnf) ⟨false, false, [], 0, 0⟩ 9999 rfl (by repeat (first | exact obs_nil | refine obs_draw (by kernel_rfl) ?_ | refine obs_same ?_ | refine obs_and ?_ | refine obs_by (by (simp [inB, blS] <;> omega)) ?_)) ?_
    have hl' : (acc ++ [d]).length = acc.length + 1 := by simp
    refine runS_tell 0 (dimR (acc ++ [d])) rfl (m' := acc.length + 1) rfl (dimR_snoc rfl) rfl ?_
    refine runS_drop 1 (Nat.zero_le _) rfl (by repeat (first | exact .nil | refine .row (fun j hj => rfl) ?_ | refine .box rfl ?_ | refine .fam (fun k j hk hj => rfl) ?_ | refine .loop (scrub_under _ _) ?_ | refine .dfr ?_ | refine .gone ?_ | refine .map (fun p hp => by (obtain ⟨k, _, rfl⟩ := List.mem_map.1 hp; rfl)) ?_)) rfl rfl rfl (by repeat (first | exact .nil | refine .cons rfl rfl rfl (scrub_under _ _) ?_)) ?_
    have hcy := isB_int s r 44
    have h58 : isB s r 44 = true → dimF s p = .ok d r := fun h => by
      rcases hdd with hd | ⟨_, hd⟩
      · exact hd
      · rw [(finB hd).2] at h; cases h
    have hFr : isB s r 44 = false → parseF s = if isB s r 41 = true then finF s (.fin (acc ++ [d]) r) else ([], r, 2) := fun h => by
      rcases hdd with hd | ⟨hd, hd2⟩
      · rw [hF, hpp, parL_ok hd, h, if_neg (by decide)]
        cases h41 : isB s r 41 with
        | true => rw [if_pos rfl]
        | false => rw [if_neg (by decide), finF, if_neg (by rw [h41]; decide)]
      · rw [hF, hpp, parL_bad hd, (finB hd2).1, if_neg (by decide)]
        rfl
    refine runS_cond rfl (fun h4 => ?_) (fun h4 => ?_)
    · have hb : isB s r 44 = true := hcy.symm.trans h4
      have hrl := isB_lt hb
      have hw1 : IntKind.wrap .i64 ((r : Int) + 1) = ((r + 1 : Nat) : Int) := by rw [w64 (by omega) (by omega)]; rfl
      refine runS_x (I := inf) (J := jnf) ⟨false, false, [], 0, 0⟩ 9999 rfl (by repeat (first | exact obs_nil | refine obs_draw (by kernel_rfl) ?_ | refine obs_same ?_ | refine obs_and ?_ | refine obs_by (by (simp [inB] <;> omega)) ?_)) ?_
      refine ih (r + 1, acc ++ [d]) _ _ (by dsimp only; omega) ⟨⟨rfl, ?_, congrArg iv hw1⟩, ?_, by dsimp only; omega, by dsimp only; omega, ?_⟩
      · rw [hl']; rfl
      · rw [hl']
      · rw [hpp, parL_ok (h58 hb), if_pos hb]
    have hb : isB s r 44 = false := hcy.symm.trans h4
    have hFq := hFr hb
    have hcz : (if decide ((r : Int) ≥ (s.length : Int)) = true then true else (((s.getD r 0).toNat : Int) != 41)) = !isB s r 41 := by
      unfold isB byt
      rw [Bool.eq_iff_iff]
      simp [-List.getD_eq_getElem?_getD]
      omega
    refine runS_x (I := inf) (J := jnf) ⟨false, false, [], 0, 0⟩ 9999 rfl (by repeat (first | exact obs_nil | refine obs_draw (by kernel_rfl) ?_ | refine obs_same ?_ | refine obs_and ?_ | refine obs_by (by (simp [inB, blS] <;> omega)) ?_)) ?_
    refine runS_cond rfl (fun h5 => ?_) (fun h5 => ?_)
    · have h41 : isB s r 41 = false := by have := hcz.symm.trans h5; simpa using this
      refine runS_x (I := inf) (J := jnf) ⟨false, false, [], 0, 0⟩ 9999 rfl (by repeat (first | exact obs_nil | refine obs_draw (by kernel_rfl) ?_ | refine obs_same ?_ | refine obs_and ?_ | refine obs_by (by (simp [inB] <;> omega)) ?_)) ?_
      refine runS_says 2 rfl (says_nil0 (sz := 2) (r := nilD) (Nat.zero_le _)) ?_
      refine runS_ret (I := inf) 0 rfl (Nat.le_refl _) rfl .nil rfl ⟨?_, rfl⟩
      rw [hFq, if_neg (by rw [h41]; decide)]
      rfl
    have h41 : isB s r 41 = true := by have := hcz.symm.trans h5; simpa using this
    rw [if_pos h41] at hFq
    have hrl := isB_lt h41
    have hw1 : IntKind.wrap .i64 ((r : Int) + 1) = ((r + 1 : Nat) : Int) := by rw [w64 (by omega) (by omega)]; rfl
    refine runS_x (I := inf) (J := jnf) ⟨false, false, [], 0, 0⟩ 9999 rfl (by repeat (first | exact obs_nil | refine obs_draw (by kernel_rfl) ?_ | refine obs_same ?_ | refine obs_and ?_ | refine obs_by (by (simp [inB, blS] <;> omega)) ?_)) ?_
    refine runS_cond rfl (fun h6 => ?_) (fun h6 => ?_)
    · have h6' : r + 1 < s.length := by
        have : decide (IntKind.wrap .i64 ((r : Int) + 1) < (s.length : Int)) = true := h6
        rw [hw1, decide_eq_true_eq] at this
        omega
      refine runS_x (I := inf) (J := jnf) ⟨false, false, [], 0, 0⟩ 9999 rfl (by repeat (first | exact obs_nil | refine obs_draw (by kernel_rfl) ?_ | refine obs_same ?_ | refine obs_and ?_ | refine obs_by (by (simp [inB] <;> omega)) ?_)) ?_
      refine runS_says 2 rfl (says_nil0 (sz := 2) (r := nilD) (Nat.zero_le _)) ?_
      refine runS_ret (I := inf) 0 rfl (Nat.le_refl _) rfl .nil rfl ⟨?_, rfl⟩
      rw [hFq, finF, if_pos h41, if_pos h6']
      exact congrArg (fun x => Out.ret (.tup [.slc 2 none 0 nilD, iv x, iv 2])) hw1
    have h6' : ¬ r + 1 < s.length := by
      have : decide (IntKind.wrap .i64 ((r : Int) + 1) < (s.length : Int)) = false := h6
      rw [hw1, decide_eq_false_iff_not] at this
      omega
    refine runS_freeze 5 rfl rfl rfl (fun j hj => rfl) ?_
    refine runS_says 5 (show _ = dimS none (acc ++ [d]) from ((rfl : _ = AV.slc 2 none (acc.length + 1) (dimR (acc ++ [d]))).trans (by rw [dimS, hl']))) (Says.refl _) ?_
    refine runS_x (I := inf) (J := jnf) ⟨false, false, [], 0, 0⟩ 9999 rfl (by repeat (first | exact obs_nil | refine obs_draw (by kernel_rfl) ?_ | refine obs_same ?_ | refine obs_and ?_ | refine obs_by (by (simp [inB] <;> omega)) ?_)) ?_
    refine runS_call rfl rfl rfl rfl rfl rfl rfl (r_Valid none (acc ++ [d])) ?_
    refine runS_x (I := inf) (J := jnf) ⟨false, false, [], 0, 0⟩ 9999 rfl (by repeat (first | exact obs_nil | refine obs_draw (by kernel_rfl) ?_ | refine obs_same ?_ | refine obs_and ?_ | refine obs_by (by (simp [inB] <;> omega)) ?_)) ?_
    refine runS_cond rfl (fun h7 => ?_) (fun h7 => ?_)
    · have hv : validD (acc ++ [d]) = false := by simpa using h7
      refine runS_x (I := inf) (J := jnf) ⟨false, false, [], 0, 0⟩ 9999 rfl (by repeat (first | exact obs_nil | refine obs_draw (by kernel_rfl) ?_ | refine obs_same ?_ | refine obs_and ?_ | refine obs_by (by (simp [inB, blS] <;> omega)) ?_)) ?_
      refine runS_says 2 rfl (says_nil0 (sz := 2) (r := nilD) (Nat.zero_le _)) ?_
      refine runS_ret (I := inf) 0 rfl (Nat.le_refl _) rfl .nil rfl ⟨?_, rfl⟩
      rw [hFq, finF, if_pos h41, if_neg h6', if_neg (by rw [hv]; decide)]
      rfl
    · have hv : validD (acc ++ [d]) = true := by simpa using h7
      refine runS_x (I := inf) (J := jnf) ⟨false, false, [], 0, 0⟩ 9999 rfl (by repeat (first | exact obs_nil | refine obs_draw (by kernel_rfl) ?_ | refine obs_same ?_ | refine obs_and ?_ | refine obs_by (by (simp [inB] <;> omega)) ?_)) ?_
      refine runS_ret (I := inf) 0 rfl (Nat.le_refl _) rfl .nil rfl ⟨?_, rfl⟩
      rw [hFq, finF, if_pos h41, if_neg h6', if_pos hv]
      rfl
end Go.Iron.Tryd

/- The seat of ArrayTexts: a text of bounds, read, gives the bounds. -/
namespace Go.Iron.Tryd
open Go.Proofs

theorem at_cons {s : Str} {p : Nat} {b : UInt8} {l : Str} (h : s.drop p = b :: l) : p < s.length ∧ byt s p = b.toNat ∧ s.drop (p + 1) = l := by
  have hl : p < s.length := by
    rcases Nat.lt_or_ge p s.length with h1 | h1
    · exact h1
    · rw [List.drop_eq_nil_of_le h1] at h; cases h
  rw [List.drop_eq_getElem_cons hl] at h
  injection h with h1 h2
  refine ⟨hl, ?_, h2⟩
  unfold byt
  rw [List.getD_eq_getElem?_getD, List.getElem?_eq_getElem hl, ← h1]
  rfl
theorem at_app {s : Str} {p : Nat} {a b : Str} (h : s.drop p = a ++ b) : s.drop (p + a.length) = b := by
  rw [← List.drop_drop, h, List.drop_left]
theorem at_isB {s : Str} {p c : Nat} {b : UInt8} {l : Str} (h : s.drop p = b :: l) : isB s p c = (b.toNat == c) := by
  obtain ⟨h1, h2, _⟩ := at_cons h
  rw [isB, decide_eq_true h1, h2, Bool.true_and]
def digB (b : UInt8) : Prop := 48 ≤ b.toNat ∧ b.toNat ≤ 57
theorem at_isDg {s : Str} {p : Nat} {b : UInt8} {l : Str} (h : s.drop p = b :: l) : isDg s p = true ↔ digB b := by
  obtain ⟨h1, h2, _⟩ := at_cons h
  simp only [isDg, Bool.and_eq_true, decide_eq_true_eq, h2, digB]
  exact ⟨fun h => ⟨h.1.2, h.2⟩, fun h => ⟨⟨h1, h.1⟩, h.2⟩⟩
theorem dg_at {s : Str} : ∀ {ds rest : Str} {k p : Nat}, s.drop p = ds ++ rest → (∀ b ∈ ds, digB b) → ds.length ≤ k → (∃ b t, rest = b :: t ∧ ¬ digB b) → dgN s k p = ds.length
  | [], rest, 0, p, h, _, _, _ => rfl
  | [], rest, k + 1, p, h, _, _, ⟨b, t, hb, hn⟩ => by
    subst hb
    unfold dgN
    rw [if_neg (fun hd => hn ((at_isDg h).1 hd))]
    rfl
  | d :: ds, rest, 0, p, h, _, hk, _ => by simp at hk
  | d :: ds, rest, k + 1, p, h, ha, hk, hr => by
    have h' : s.drop p = d :: (ds ++ rest) := h
    unfold dgN
    rw [if_pos ((at_isDg h').2 (ha d (.head _))), dg_at (at_cons h').2.2 (fun b hb => ha b (.tail _ hb)) (by simpa using hk) hr]
    rfl
theorem u8_dig (d : Nat) (h : d < 10) : (UInt8.ofNat (48 + d)).toNat = 48 + d := by
  rw [UInt8.toNat_ofNat']
  omega
theorem dd_digits : ∀ u : Nat, ∀ b ∈ Lib.decDigits u, digB b := by
  intro u
  induction u using Nat.strongRecOn with
  | ind u ih =>
    intro b hb
    rw [Lib.decDigits] at hb
    by_cases h : u < 10
    · rw [dif_pos h] at hb
      have : b = UInt8.ofNat (48 + u) := by simpa using hb
      rw [this, digB, u8_dig u h]
      omega
    · rw [dif_neg h] at hb
      rcases List.mem_append.1 hb with hb | hb
      · exact ih (u / 10) (by omega) b hb
      · have : b = UInt8.ofNat (48 + u % 10) := by simpa using hb
        have hm := Nat.mod_lt u (show 10 > 0 by decide)
        rw [this, digB, u8_dig _ hm]
        omega
theorem dd_len : ∀ k u : Nat, u < 10 ^ (k + 1) → (Lib.decDigits u).length ≤ k + 1
  | 0, u, h => by
    rw [Lib.decDigits, dif_pos (by simpa using h)]
    simp
  | k + 1, u, h => by
    rw [Lib.decDigits]
    by_cases h1 : u < 10
    · rw [dif_pos h1]; simp
    · rw [dif_neg h1, List.length_append]
      have := dd_len k (u / 10) (by
        rw [Nat.pow_succ] at h
        omega)
      simp
      omega
theorem dd_val : ∀ u : Nat, decV (Lib.decDigits u) = u := by
  intro u
  induction u using Nat.strongRecOn with
  | ind u ih =>
    rw [Lib.decDigits]
    by_cases h : u < 10
    · rw [dif_pos h]
      show 10 * 0 + ((UInt8.ofNat (48 + u)).toNat - 48) = u
      rw [u8_dig u h]
      omega
    · have hm := Nat.mod_lt u (show 10 > 0 by decide)
      rw [dif_neg h, decV, List.foldl_append]
      show 10 * decV (Lib.decDigits (u / 10)) + ((UInt8.ofNat (48 + u % 10)).toNat - 48) = u
      rw [ih (u / 10) (by omega), u8_dig _ hm]
      omega
theorem dd_head : ∀ u : Nat, ∃ b t, Lib.decDigits u = b :: t ∧ (0 < u → b.toNat ≠ 48) := by
  intro u
  induction u using Nat.strongRecOn with
  | ind u ih =>
    rw [Lib.decDigits]
    by_cases h : u < 10
    · rw [dif_pos h]
      exact ⟨_, _, rfl, fun h0 => by rw [u8_dig u h]; omega⟩
    · rw [dif_neg h]
      obtain ⟨b, t, e, hb⟩ := ih (u / 10) (by omega)
      rw [e]
      exact ⟨b, t ++ _, rfl, fun _ => hb (by omega)⟩
theorem num_at {s : Str} {p : Nat} {n : Int} {rest : Str} (h : s.drop p = Lib.itoa n ++ rest) (h1 : -32768 ≤ n) (h2 : n ≤ 32767) (hr : ∃ b t, rest = b :: t ∧ ¬ digB b) : numF s p = .ok n (p + (Lib.itoa n).length) := by
  by_cases hn : n < 0
  · obtain ⟨m, rfl⟩ : ∃ m : Nat, n = -(m : Int) := ⟨n.natAbs, by omega⟩
    have e : Lib.itoa (-(m : Int)) = 45 :: Lib.decDigits m := by rw [Lib.itoa, if_pos hn]; congr 2; omega
    rw [e] at h ⊢
    have hm : isB s p 45 = true := by rw [at_isB (l := Lib.decDigits m ++ rest) h]; rfl
    have hq : minP s p = p + 1 := by rw [minP, if_pos hm]
    have h' : s.drop (p + 1) = Lib.decDigits m ++ rest := (at_cons (l := Lib.decDigits m ++ rest) h).2.2
    have hl := dd_len 4 m (by omega)
    have hd := dg_at (k := 5) h' (dd_digits m) hl hr
    obtain ⟨b, t, eb, hb⟩ := dd_head m
    have hb48 : byt s (p + 1) ≠ 48 := by
      rw [eb] at h'
      rw [(at_cons (l := t ++ rest) h').2.1]
      exact hb (by omega)
    have hpos : (Lib.decDigits m).length ≠ 0 := by rw [eb]; simp
    have hnl : numL s (p + 1) = (Lib.decDigits m).length := by rw [numL, if_neg hb48, hd]
    have hnv : numV s (p + 1) = m := by rw [numV, hnl, h', List.take_left, dd_val]
    rw [numF, hq, if_neg (by rintro (h | h); · omega
                             · exact hb48 h.2), hm, if_pos rfl, hnv, hnl]
    congr 1
    rw [List.length_cons]
    omega
  · obtain ⟨m, rfl⟩ : ∃ m : Nat, n = (m : Int) := ⟨n.toNat, by omega⟩
    have e : Lib.itoa (m : Int) = Lib.decDigits m := by rw [Lib.itoa, if_neg hn, Int.toNat_natCast]
    rw [e] at h ⊢
    obtain ⟨b, t, eb, hb⟩ := dd_head m
    have hdb : digB b := dd_digits m b (by rw [eb]; exact .head _)
    have h0 : s.drop p = b :: (t ++ rest) := by rw [h, eb]; rfl
    have hm : isB s p 45 = false := by rw [at_isB h0, beq_eq_false_iff_ne]; have := hdb.1; omega
    have hq : minP s p = p := by rw [minP, hm, if_neg (by decide)]
    have hl := dd_len 4 m (by omega)
    have hd := dg_at (k := 5) h (dd_digits m) hl hr
    have hpos : (Lib.decDigits m).length ≠ 0 := by rw [eb]; simp
    have hnl : numL s p = (Lib.decDigits m).length := by
      rw [numL]
      by_cases h48 : byt s p = 48
      · have hm0 : m = 0 := by
          rcases Nat.eq_zero_or_pos m with hz | hz
          · exact hz
          · exact absurd ((at_cons h0).2.1 ▸ h48) (hb hz)
        rw [if_pos h48, hm0, Lib.decDigits]
        rfl
      · rw [if_neg h48, hd]
    have hnv : numV s p = m := by rw [numV, hnl, h, List.take_left, dd_val]
    rw [numF, hq, if_neg (by rintro (h | h); · omega
                             · rw [hm] at h; cases h.1), hm, if_neg (by decide), hnv, hnl]
theorem nd (b : UInt8) (t : Str) (h : ¬ digB b) : ∃ b' t', (b :: t : Str) = b' :: t' ∧ ¬ digB b' := ⟨b, t, rfl, h⟩
theorem dim_at {s : Str} {p : Nat} {d : Dim} {b : UInt8} {t : Str} (h : s.drop p = dimT d ++ (b :: t)) (h1 : -32768 ≤ d.1) (h2 : d.1 ≤ 32767) (h3 : -32768 ≤ d.2) (h4 : d.2 ≤ 32767) (hb : ¬ digB b) (hc : b.toNat ≠ 58) : dimF s p = .ok d (p + (dimT d).length) := by
  unfold dimT at h ⊢
  by_cases h1' : d.1 ≠ 1
  · rw [if_pos h1'] at h ⊢
    have e1 : s.drop p = Lib.itoa d.1 ++ (58 :: (Lib.itoa d.2 ++ b :: t)) := by rw [h]; simp
    have n1 := num_at e1 h1 h2 (nd 58 _ (by unfold digB; decide))
    have e2 := at_app e1
    have hB : isB s (p + (Lib.itoa d.1).length) 58 = true := by rw [at_isB e2]; rfl
    have n2 := num_at (at_cons e2).2.2 h3 h4 (nd b t hb)
    rw [dimF, n1]
    dsimp only
    rw [if_pos hB, if_neg h1', n2]
    dsimp only
    congr 1
    simp
    omega
  · rw [if_neg h1'] at h ⊢
    have n1 := num_at h h3 h4 (nd b t hb)
    have hB : isB s (p + (Lib.itoa d.2).length) 58 = false := by rw [at_isB (at_app h), beq_eq_false_iff_ne]; exact hc
    rw [dimF, n1]
    dsimp only
    rw [hB, if_neg (by decide)]
    have : d.1 = 1 := by omega
    rw [← this]
theorem body_cons (d : Dim) (ds : List Dim) : bodyT (d :: ds) = dimT d ++ (if ds = [] then [] else [44] ++ bodyT ds) := by
  unfold bodyT
  cases ds with
  | nil => simp [Lib.join_one]
  | cons e r =>
    rw [if_neg (by simp), List.map_cons, Lib.join_cons, List.map_cons, Lib.join_cons, Lib.joinTail, Lib.joinTail, List.map_cons, List.flatten_cons]
    simp
theorem par_at {s : Str} : ∀ {ds : List Dim} {p : Nat} {acc : List Dim}, ds ≠ [] → (∀ d ∈ ds, -32768 ≤ d.1 ∧ d.1 ≤ 32767 ∧ -32768 ≤ d.2 ∧ d.2 ≤ 32767) → s.drop p = bodyT ds ++ [41] → parL s p acc = .fin (acc ++ ds) (p + (bodyT ds).length)
  | [], p, acc, h0, _, _ => absurd rfl h0
  | d :: ds, p, acc, _, hb, h => by
    obtain ⟨b1, b2, b3, b4⟩ := hb d (.head _)
    rw [body_cons] at h ⊢
    cases ds with
    | nil =>
      rw [if_pos rfl, List.append_nil] at h ⊢
      have hd := dim_at (b := 41) (t := []) h b1 b2 b3 b4 (by unfold digB; decide) (by decide)
      rw [parL_ok hd, at_isB (at_app h)]
      rfl
    | cons e r =>
      rw [if_neg (by simp)] at h ⊢
      have h' : s.drop p = dimT d ++ (44 :: (bodyT (e :: r) ++ [41])) := by rw [h]; simp
      have hd := dim_at h' b1 b2 b3 b4 (by unfold digB; decide) (by decide)
      have e2 := at_app h'
      rw [parL_ok hd, if_pos (by rw [at_isB e2]; rfl), par_at (by simp) (fun x hx => hb x (.tail _ hx)) (at_cons e2).2.2]
      congr 1
      · simp
      · simp; omega
theorem parse_text {ds : List Dim} (hv : validD ds = true) : parseF (textF ds) = (ds, 0, 0) := by
  obtain ⟨hf, hl1, hl3⟩ := fit_valid hv
  have hbnd : ∀ d ∈ ds, -32768 ≤ d.1 ∧ d.1 ≤ 32767 ∧ -32768 ≤ d.2 ∧ d.2 ≤ 32767 := fun d hd => by
    obtain ⟨i, hi⟩ := List.mem_iff_getElem?.1 hd
    have hil := (List.getElem?_eq_some_iff.1 hi).1
    have := dim_in hf hil
    rw [List.getD_eq_getElem?_getD, hi] at this
    simp only [Option.getD_some] at this
    omega
  have ht : textF ds = 40 :: (bodyT ds ++ [41]) := by rw [textF, if_pos hv]; simp
  have hne : ds ≠ [] := fun e => by rw [e] at hl1; simp at hl1
  rw [ht]
  have h40 : isB (40 :: (bodyT ds ++ [41])) 0 40 = true := by rw [at_isB (s := 40 :: (bodyT ds ++ [41])) (p := 0) rfl]; rfl
  have hd : (40 :: (bodyT ds ++ [41]) : Str).drop 1 = bodyT ds ++ [41] := rfl
  have hp := par_at (acc := []) hne hbnd hd
  have h41 : isB (40 :: (bodyT ds ++ [41])) (1 + (bodyT ds).length) 41 = true := by rw [at_isB (at_app hd)]; rfl
  rw [parseF, if_pos h40, hp, List.nil_append, finF, if_pos h41, if_neg (by simp; omega), if_pos hv]
theorem itoa_len6 {n : Int} (h1 : -32768 ≤ n) (h2 : n ≤ 32767) : (Lib.itoa n).length ≤ 6 := by
  unfold Lib.itoa
  split
  · have := dd_len 4 n.natAbs (by omega)
    simp
    omega
  · have := dd_len 4 n.toNat (by omega)
    omega
theorem dim_len {d : Dim} (h1 : -32768 ≤ d.1) (h2 : d.1 ≤ 32767) (h3 : -32768 ≤ d.2) (h4 : d.2 ≤ 32767) : (dimT d).length ≤ 13 := by
  have a := itoa_len6 h1 h2
  have b := itoa_len6 h3 h4
  unfold dimT
  split
  · simp; omega
  · omega
theorem body_len : ∀ ds : List Dim, (∀ d ∈ ds, -32768 ≤ d.1 ∧ d.1 ≤ 32767 ∧ -32768 ≤ d.2 ∧ d.2 ≤ 32767) → (bodyT ds).length ≤ ds.length * 14
  | [], _ => by simp [bodyT, Lib.join_nil]
  | d :: ds, h => by
    obtain ⟨b1, b2, b3, b4⟩ := h d (.head _)
    have a := dim_len b1 b2 b3 b4
    have b := body_len ds fun x hx => h x (.tail _ hx)
    rw [body_cons]
    split <;> simp <;> omega
theorem valid_bnd {ds : List Dim} (hv : validD ds = true) : ∀ d ∈ ds, -32768 ≤ d.1 ∧ d.1 ≤ 32767 ∧ -32768 ≤ d.2 ∧ d.2 ≤ 32767 := fun d hd => by
  obtain ⟨i, hi⟩ := List.mem_iff_getElem?.1 hd
  have hil := (List.getElem?_eq_some_iff.1 hi).1
  have := dim_in (fit_valid hv).1 hil
  rw [List.getD_eq_getElem?_getD, hi] at this
  simp only [Option.getD_some] at this
  omega
theorem text_len (ds : List Dim) : (textF ds).length ≤ 60 := by
  unfold textF
  by_cases hv : validD ds = true
  · rw [if_pos hv]
    have := body_len ds (valid_bnd hv)
    have := (fit_valid hv).2.2
    simp
    omega
  · rw [if_neg hv]
    simp
end Go.Iron.Tryd

/- The seat of ArrayTexts: the law. -/
namespace Go.Iron.Tryd
open Go.Proofs

theorem parse_small {s : Str} : (parseF s).1.length < 1000000000 := by
  unfold parseF
  split
  · unfold finF
    split
    · (show (0 : Nat) < _; decide)
    · split
      · split
        · (show (0 : Nat) < _; decide)
        · split
          · rename_i hv
            have := (fit_valid hv).2.2
            dsimp only
            omega
          · (show (0 : Nat) < _; decide)
      · (show (0 : Nat) < _; decide)
  · (show (0 : Nat) < _; decide)
theorem law_arrayTexts (nl : Option Bool) (ds : List Dim) (s : Str) (hb : ds.length < 1000000000000000) (hb2 : s.length < 1000000000000000) : CallT Tryd.prog 5 [dimS nl ds, sv s] [] (fun o A => o = .ret (bv true) ∧ A = []) := by
  refine callS_body (n := 75) rfl rfl fun w ρ X => ?_
  refine runS_x (I := inf) (J := jnf) ⟨false, false, [], 0, 0⟩ 9999 rfl (by repeat (first | exact obs_nil | refine obs_draw (by kernel_rfl) ?_ | refine obs_same ?_ | refine obs_and ?_ | refine obs_by (by (simp [inB, blS] <;> omega)) ?_)) ?_
  refine runS_cond rfl (fun h => ?_) (fun h => ?_)
  · refine runS_x (I := inf) (J := jnf) ⟨false, false, [], 0, 0⟩ 9999 rfl (by repeat (first | exact obs_nil | refine obs_draw (by kernel_rfl) ?_ | refine obs_same ?_ | refine obs_and ?_ | refine obs_by (by (simp [inB] <;> omega)) ?_)) ?_
    refine runS_call rfl rfl rfl rfl rfl rfl rfl law_awake ?_
    refine runS_x (I := inf) (J := jnf) ⟨false, false, [], 0, 0⟩ 9999 rfl (by repeat (first | exact obs_nil | refine obs_draw (by kernel_rfl) ?_ | refine obs_same ?_ | refine obs_and ?_ | refine obs_by (by (simp [inB] <;> omega)) ?_)) ?_
    refine runS_ret (I := inf) 0 rfl (Nat.le_refl _) rfl .nil rfl ⟨?_, rfl⟩
    rfl
  have hlt : ds.length ≤ 20 ∧ s.length ≤ 300 := by
    have h' : (if decide ((ds.length : Int) > 20) = true then true else decide ((s.length : Int) > 300)) = false := h
    simp at h'
    omega
  have hsm := parse_small (s := s)
  have htl := text_len ds
  refine runS_x (I := inf) (J := jnf) ⟨false, false, [], 0, 0⟩ 9999 rfl (by repeat (first | exact obs_nil | refine obs_draw (by kernel_rfl) ?_ | refine obs_same ?_ | refine obs_and ?_ | refine obs_by (by (simp [inB] <;> omega)) ?_)) ?_
  refine runS_call rfl rfl rfl rfl rfl rfl rfl (a_Parse s (by omega)) ?_
  refine runS_x (I := inf) (J := jnf) ⟨false, false, [], 0, 0⟩ 9999 rfl (by repeat (first | exact obs_nil | refine obs_draw (by kernel_rfl) ?_ | refine obs_same ?_ | refine obs_and ?_ | refine obs_by (by (simp [inB] <;> omega)) ?_)) ?_
  refine runS_call rfl rfl rfl rfl rfl rfl rfl (ref_Parse s (by omega)) ?_
  refine runS_x (I := inf) (J := jnf) ⟨false, false, [], 0, 0⟩ 9999 rfl (by repeat (first | exact obs_nil | refine obs_draw (by kernel_rfl) ?_ | refine obs_same ?_ | refine obs_and ?_ | refine obs_by (by (simp [inB] <;> omega)) ?_)) ?_
  refine runS_call rfl rfl rfl rfl rfl rfl rfl (a_Text nl ds) ?_
  refine runS_x (I := inf) (J := jnf) ⟨false, false, [], 0, 0⟩ 9999 rfl (by repeat (first | exact obs_nil | refine obs_draw (by kernel_rfl) ?_ | refine obs_same ?_ | refine obs_and ?_ | refine obs_by (by (simp [inB] <;> omega)) ?_)) ?_
  refine runS_call rfl rfl rfl rfl rfl rfl rfl (r_Equal none none (parseF s).1 (parseF s).1 (by omega)) ?_
  refine runS_x (I := inf) (J := jnf) ⟨false, false, [], 0, 0⟩ 9999 rfl (by repeat (first | exact obs_nil | refine obs_draw (by kernel_rfl) ?_ | refine obs_same ?_ | refine obs_and ?_ | refine obs_by (by (simp [inB] <;> omega)) ?_)) ?_
  refine runS_callU rfl rfl (by first | exact .v rfl rfl rfl rfl | exact .o rfl rfl rfl rfl) rfl rfl (by repeat (first | exact .nil | refine .cons (.n rfl) ?_ | refine .cons .o ?_ | refine .cons gok_and ?_)) rfl rfl rfl rfl rfl (fun _ => (ref_Text nl ds)) ?_
  refine runS_x (I := inf) (J := jnf) ⟨false, false, [], 0, 0⟩ 9999 rfl (by repeat (first | exact obs_nil | refine obs_draw (by kernel_rfl) ?_ | refine obs_same ?_ | refine obs_and ?_ | refine obs_by (by (simp [inB] <;> omega)) ?_)) ?_
  refine runS_cond rfl (fun h => ?_) (fun h => ?_)
  · exfalso
    have h' : (if (if (if (!decide ((parseF s).1 = (parseF s).1)) = true then true else (parseF s).2.1 != (parseF s).2.1) = true then true else (parseF s).2.2 != (parseF s).2.2) = true then true else !((bs (textF ds)).toList == (bs (textF ds)).toList)) = true := h
    simp at h'
  refine runS_x (I := inf) (J := jnf) ⟨false, false, [], 0, 0⟩ 9999 rfl (by repeat (first | exact obs_nil | refine obs_draw (by kernel_rfl) ?_ | refine obs_same ?_ | refine obs_and ?_ | refine obs_by (by (simp [inB] <;> omega)) ?_)) ?_
  refine runS_call rfl rfl rfl rfl rfl rfl rfl (r_Valid nl ds) ?_
  refine runS_x (I := inf) (J := jnf) ⟨false, false, [], 0, 0⟩ 9999 rfl (by repeat (first | exact obs_nil | refine obs_draw (by kernel_rfl) ?_ | refine obs_same ?_ | refine obs_and ?_ | refine obs_by (by (simp [inB] <;> omega)) ?_)) ?_
  refine runS_cond rfl (fun h => ?_) (fun h => ?_)
  · refine runS_x (I := inf) (J := jnf) ⟨false, false, [], 0, 0⟩ 9999 rfl (by repeat (first | exact obs_nil | refine obs_draw (by kernel_rfl) ?_ | refine obs_same ?_ | refine obs_and ?_ | refine obs_by (by (simp [inB] <;> omega)) ?_)) ?_
    refine runS_call rfl rfl rfl rfl rfl rfl rfl law_awake ?_
    refine runS_x (I := inf) (J := jnf) ⟨false, false, [], 0, 0⟩ 9999 rfl (by repeat (first | exact obs_nil | refine obs_draw (by kernel_rfl) ?_ | refine obs_same ?_ | refine obs_and ?_ | refine obs_by (by (simp [inB] <;> omega)) ?_)) ?_
    refine runS_ret (I := inf) 0 rfl (Nat.le_refl _) rfl .nil rfl ⟨?_, rfl⟩
    rfl
  have hv : validD ds = true := by simpa using h
  have hcall := a_Parse (textF ds) (by omega)
  rw [parse_text hv] at hcall
  refine runS_x (I := inf) (J := jnf) ⟨false, false, [], 0, 0⟩ 9999 rfl (by repeat (first | exact obs_nil | refine obs_draw (by kernel_rfl) ?_ | refine obs_same ?_ | refine obs_and ?_ | refine obs_by (by (simp [inB] <;> omega)) ?_)) ?_
  refine runS_call rfl rfl rfl rfl rfl rfl rfl hcall ?_
  refine runS_x (I := inf) (J := jnf) ⟨false, false, [], 0, 0⟩ 9999 rfl (by repeat (first | exact obs_nil | refine obs_draw (by kernel_rfl) ?_ | refine obs_same ?_ | refine obs_and ?_ | refine obs_by (by (simp [inB] <;> omega)) ?_)) ?_
  refine runS_callU rfl rfl (by first | exact .v rfl rfl rfl rfl | exact .o rfl rfl rfl rfl) rfl rfl (by repeat (first | exact .nil | refine .cons (.n rfl) ?_ | refine .cons .o ?_ | refine .cons gok_and ?_)) rfl rfl rfl rfl rfl (fun _ => (r_Equal none nl ds ds (by omega))) ?_
  refine runS_x (I := inf) (J := jnf) ⟨false, false, [], 0, 0⟩ 9999 rfl (by repeat (first | exact obs_nil | refine obs_draw (by kernel_rfl) ?_ | refine obs_same ?_ | refine obs_and ?_ | refine obs_by (by (simp [inB] <;> omega)) ?_)) ?_
  refine runS_callU rfl rfl (by first | exact .v rfl rfl rfl rfl | exact .o rfl rfl rfl rfl) rfl rfl (by repeat (first | exact .nil | refine .cons (.n rfl) ?_ | refine .cons .o ?_ | refine .cons gok_and ?_)) rfl rfl rfl rfl rfl (fun _ => law_awake) ?_
  refine runS_x (I := inf) (J := jnf) ⟨false, false, [], 0, 0⟩ 9999 rfl (by repeat (first | exact obs_nil | refine obs_draw (by kernel_rfl) ?_ | refine obs_same ?_ | refine obs_and ?_ | refine obs_by (by (simp [inB] <;> omega)) ?_)) ?_
  refine runS_ret (I := inf) 0 rfl (Nat.le_refl _) rfl .nil rfl ⟨?_, rfl⟩
  show Out.ret (bv (if (if ((0 : Int) == 0) = true then decide (ds = ds) else false) = true then true else false)) = _
  simp
theorem law_ArrayTexts (nl : Option Bool) (ds : List Dim) (s : Str) (hb : ds.length * 16 ≤ 140737488351232) (hb2 : s.length ≤ 140737488351232) : CallT Tryd.prog 3 [dimS nl ds, sv s] [] (fun o A => o = .ret (bv true) ∧ A = []) := by
  refine callS_body (n := 16) rfl rfl fun w ρ X => ?_
  refine runS_x (I := inf) (J := jnf) ⟨false, false, [], 0, 0⟩ 9999 rfl (by repeat (first | exact obs_nil | refine obs_draw (by kernel_rfl) ?_ | refine obs_same ?_ | refine obs_and ?_ | refine obs_by (by (simp [inB] <;> omega)) ?_)) ?_
  refine runS_call rfl rfl rfl rfl rfl rfl rfl (stay_dims nl ds (by omega)) ?_
  refine runS_x (I := inf) (J := jnf) ⟨false, false, [], 0, 0⟩ 9999 rfl (by repeat (first | exact obs_nil | refine obs_draw (by kernel_rfl) ?_ | refine obs_same ?_ | refine obs_and ?_ | refine obs_by (by (simp [inB] <;> omega)) ?_)) ?_
  refine runS_call rfl rfl rfl rfl rfl rfl rfl (law_arrayTexts nl ds s (by omega) (by omega)) ?_
  refine runS_x (I := inf) (J := jnf) ⟨false, false, [], 0, 0⟩ 9999 rfl (by repeat (first | exact obs_nil | refine obs_draw (by kernel_rfl) ?_ | refine obs_same ?_ | refine obs_and ?_ | refine obs_by (by (simp [inB] <;> omega)) ?_)) ?_
  refine runS_callU rfl rfl (by first | exact .v rfl rfl rfl rfl | exact .o rfl rfl rfl rfl) rfl rfl (by repeat (first | exact .nil | refine .cons (.n rfl) ?_ | refine .cons .o ?_ | refine .cons gok_and ?_)) rfl rfl rfl rfl rfl (fun _ => (stay_sameDims _ _ ds ds (by omega))) ?_
  refine runS_x (I := inf) (J := jnf) ⟨false, false, [], 0, 0⟩ 9999 rfl (by repeat (first | exact obs_nil | refine obs_draw (by kernel_rfl) ?_ | refine obs_same ?_ | refine obs_and ?_ | refine obs_by (by (simp [inB] <;> omega)) ?_)) ?_
  refine runS_ret (I := inf) 0 rfl (Nat.le_refl _) rfl .nil rfl ⟨?_, rfl⟩
  show Out.ret (bv (if true = true then decide (ds = ds) else false)) = _
  simp
end Go.Iron.Tryd
