/- Iron: several frames at once: calls that are gone into, rounds of ranges, what is put off, panics. -/
import Derived.Test.YtamhonbhoelohaaIronH
import Derived.RangeFuncRecord
namespace Go.Iron

inductive L2 {α β : Type} (R : α → β → Prop) : List α → List β → Prop
  | nil : L2 R [] []
  | cons {a b l m} : R a b → L2 R l m → L2 R (a :: l) (b :: m)
theorem L2.mono {α β : Type} {R R' : α → β → Prop} {l : List α} {m : List β} (h : L2 R l m) (hr : ∀ a b, R a b → R' a b) : L2 R' l m := by
  induction h with
  | nil => exact .nil
  | cons h1 _ ih => exact .cons (hr _ _ h1) ih
theorem l2_cons {α β : Type} {R : α → β → Prop} {a : α} {l : List α} {m : List β} (h : L2 R (a :: l) m) : ∃ b m', m = b :: m' ∧ R a b ∧ L2 R l m' := by
  cases h with
  | cons h1 h2 => exact ⟨_, _, rfl, h1, h2⟩
theorem l2_nil {α β : Type} {R : α → β → Prop} {m : List β} (h : L2 R [] m) : m = [] := by cases h; rfl
theorem l2_app {α β : Type} {R : α → β → Prop} : ∀ {l l' : List α} {m : List β}, L2 R (l ++ l') m → ∃ m1 m2, m = m1 ++ m2 ∧ L2 R l m1 ∧ L2 R l' m2
  | [], l', m, h => ⟨[], m, rfl, .nil, h⟩
  | a :: l, l', m, h => by
    obtain ⟨b, m', rfl, h1, h2⟩ := l2_cons h
    obtain ⟨m1, m2, rfl, h3, h4⟩ := l2_app h2
    exact ⟨b :: m1, m2, rfl, .cons h1 h3, h4⟩
theorem L2.app {α β : Type} {R : α → β → Prop} {l l' : List α} {m m' : List β} (h : L2 R l m) (h' : L2 R l' m') : L2 R (l ++ l') (m ++ m') := by
  induction h with
  | nil => exact h'
  | cons h1 _ ih => exact .cons h1 ih

structure AF where
  f : FuncId
  n : Nat
  τ : Nat → AV
  todo : List Item
  rd : Option Nat
  D : List AV
  kind : CallKind
  mode : FrameMode

/-- An object is named. -/
def RefR (ρ : List Loc) (i l : Nat) : Prop := ∃ L, ρ[i]? = some L ∧ (L.ver = 0 → L.v = .pointer (some ⟨l, 0, none⟩))
theorem RefR.mono {ρ ρ' : List Loc} {i l : Nat} (h : RefR ρ i l) (hc : Compat ρ ρ') : RefR ρ' i l := by
  obtain ⟨L, h1, h2⟩ := h
  obtain ⟨L', e1, e2, e3⟩ := hc _ _ h1
  exact ⟨L', e1, fun e => by rw [e3 (by omega), h2 (by omega)]⟩

inductive ItemR (ρ : List Loc) : Item → Item → Prop
  | code {c} : ItemR ρ (.code c) (.code c)
  | inBlock {c} : ItemR ρ (.inBlock c) (.inBlock c)
  | inLoop {c} : ItemR ρ (.inLoop c) (.inLoop c)
  | inScope {c} : ItemR ρ (.inScope c) (.inScope c)
  | inRegion {a b} : ItemR ρ (.inRegion a b) (.inRegion a b)
  | beginRound : ItemR ρ .beginRound .beginRound
  | inRF {i l} : RefR ρ i l → ItemR ρ (.inRangeFunc i) (.inRangeFunc l)
  | endRF {i l} : RefR ρ i l → ItemR ρ (.endRangeFunc i) (.endRangeFunc l)
theorem ItemR.mono {ρ ρ' : List Loc} (hc : Compat ρ ρ') {x y : Item} (h : ItemR ρ x y) : ItemR ρ' x y := by
  cases h with
  | inRF h => exact .inRF (h.mono hc)
  | endRF h => exact .endRF (h.mono hc)
  | code => exact .code
  | inBlock => exact .inBlock
  | inLoop => exact .inLoop
  | inScope => exact .inScope
  | inRegion => exact .inRegion
  | beginRound => exact .beginRound

theorem exitTo_rel {ρ : List Loc} {id : Nat} {k k' : List Item} (h : L2 (ItemR ρ) k k') : (exitTo id k = none → exitTo id k' = none) ∧ ∀ r, exitTo id k = some r → ∃ r', exitTo id k' = some r' ∧ L2 (ItemR ρ) r r' := by
  induction h with
  | nil => exact ⟨fun h => h, fun r h => by simp [exitTo] at h⟩
  | @cons a b l m h1 h2 ih =>
    cases h1 with
    | @inBlock c =>
      simp only [exitTo]
      cases hc : c == id with
      | true => exact ⟨fun h => by simp at h, fun r h => by simp at h; subst h; exact ⟨_, by simp, h2⟩⟩
      | false => simpa using ih
    | _ => simpa only [exitTo] using ih

inductive RdR (ρ : List Loc) : Option Nat → Option Nat → Prop
  | none : RdR ρ none none
  | some {i l} : RefR ρ i l → RdR ρ (some i) (some l)
theorem RdR.mono {ρ ρ' : List Loc} (hc : Compat ρ ρ') {x y : Option Nat} (h : RdR ρ x y) : RdR ρ' x y := by
  cases h with
  | none => exact .none
  | some h => exact .some (h.mono hc)

/-- What has been put off. -/
inductive DR (w : World) (O : Nat → Prop) (ρ : List Loc) : AV → Deferred → Prop
  | fn {g l} {vs cvs : Array Value} : l.length = (vs ++ cvs).size → (∀ (i : Nat) x v, l[i]? = some x → (vs ++ cvs)[i]? = some v → RV w O ρ x v) → DR w O ρ (.fn g l) { target := .fn g cvs, args := vs }
  | col {i r} : RefR ρ i r → DR w O ρ (.yld i) { target := .collected r, args := #[] }
theorem DR.mono {w w' : World} {O O' : Nat → Prop} (hp : Pres w O w' O') {ρ ρ' : List Loc} (hc : Compat ρ ρ') {x : AV} {d : Deferred} (h : DR w O ρ x d) : DR w' O' ρ' x d := by
  cases h with
  | fn h1 h2 => exact .fn h1 fun i x v a b => (h2 i x v a b).mono hp hc
  | col h => exact .col (h.mono hc)

structure FrR (w : World) (O : Nat → Prop) (ρ : List Loc) (A : AF) (fr : Frame) : Prop where
  fn : fr.fn = A.f
  size : fr.tmps.size = A.n
  slots : Slots w O ρ A.τ fr.tmps
  todo : L2 (ItemR ρ) A.todo fr.todo
  rd : RdR ρ A.rd fr.roundOf
  defs : L2 (DR w O ρ) A.D fr.defers
  kind : fr.kind = A.kind
  mode : fr.mode = A.mode
theorem FrR.mono {w w' : World} {O O' : Nat → Prop} (hp : Pres w O w' O') {ρ ρ' : List Loc} (hc : Compat ρ ρ') {A : AF} {fr : Frame} (h : FrR w O ρ A fr) : FrR w' O' ρ' A fr :=
  ⟨h.fn, h.size, h.slots.mono hp hc, h.todo.mono fun _ _ => ItemR.mono hc, h.rd.mono hc, h.defs.mono fun _ _ => DR.mono hp hc, h.kind, h.mode⟩

def loneS : List Frame → List Frame → World → Machine
  | [], cs, w => lone default cs w
  | fr :: fs, cs, w => lone fr (fs ++ cs) w
theorem loneS_app {ts fs cs : List Frame} {w : World} (h : ts ≠ []) : loneS (ts ++ fs) cs w = loneS ts (fs ++ cs) w := by
  cases ts with
  | nil => exact absurd rfl h
  | cons t ts => simp [loneS]

/-- From here on the lowest frame comes to its end, and to what is asked. -/
def RunS (P : Program) (f0 : FuncId) (C : Cx) (S : List AF) (ar : List AO) (Q : Out → List AO → Prop) : Prop :=
  ∀ (fs cs : List Frame) (w : World) (ρ : List Loc), L2 (FrR w (Ow C ρ ar) ρ) S fs → RelA C ρ ar w →
    ∃ e w' fr, Steps P (loneS fs cs w) (lone fr cs w') ∧ fr.fn = f0 ∧ fr.leaving P w' e ∧ Done C Q (.norm e) w'

def SimT (P : Program) (C : Cx) (T : List AF) (ar : List AO) (T' : List AF) (ar' : List AO) : Prop :=
  ∀ (ts : List Frame) (w : World) (ρ : List Loc) (cs : List Frame), L2 (FrR w (Ow C ρ ar) ρ) T ts → RelA C ρ ar w →
    ∃ ts' w' ρ', Steps P (loneS ts cs w) (loneS ts' cs w') ∧ L2 (FrR w' (Ow C ρ' ar') ρ') T' ts' ∧ RelA C ρ' ar' w' ∧ Compat ρ ρ' ∧ Pres w (Ow C ρ ar) w' (Ow C ρ' ar')

section
variable {P : Program} {f0 : FuncId} {C : Cx} {T T' T2 S S' : List AF} {ar ar' ar2 : List AO} {Q : Out → List AO → Prop} {ops : Array Oper}

theorem SimT.refl : SimT P C T ar T ar := fun ts w ρ cs h hR => ⟨ts, w, ρ, .refl _ _, h, hR, Compat.refl _, Pres.refl _ _⟩
theorem SimT.trans (h : SimT P C T ar T' ar') (h' : SimT P C T' ar' T2 ar2) : SimT P C T ar T2 ar2 := fun ts w ρ cs hts hR => by
  obtain ⟨t1, w1, ρ1, s1, a1, b1, c1, d1⟩ := h ts w ρ cs hts hR
  obtain ⟨t2, w2, ρ2, s2, a2, b2, c2, d2⟩ := h' t1 w1 ρ1 cs a1 b1
  exact ⟨t2, w2, ρ2, s1.trans s2, a2, b2, c1.trans c2, d1.trans d2⟩

theorem runS_sim {A A' : AF} (h : SimT P C (A :: T) ar (A' :: T') ar') (hr : RunS P f0 C (A' :: T' ++ S) ar' Q) : RunS P f0 C (A :: T ++ S) ar Q := by
  intro fs cs w ρ hfs hR
  obtain ⟨ts, ss, rfl, h1, h2⟩ := l2_app (l := A :: T) hfs
  obtain ⟨ts', w', ρ', s1, a1, b1, c1, d1⟩ := h ts w ρ (ss ++ cs) h1 hR
  have e1 : ts ≠ [] := by obtain ⟨b, m, rfl, _⟩ := l2_cons h1; simp
  have e2 : ts' ≠ [] := by obtain ⟨b, m, rfl, _⟩ := l2_cons a1; simp
  obtain ⟨e, w2, fr, s2, r⟩ := hr (ts' ++ ss) cs w' ρ' (a1.app (h2.mono fun _ _ hf => hf.mono d1 c1)) b1
  rw [loneS_app e2] at s2
  rw [loneS_app e1]
  exact ⟨e, w2, fr, s1.trans s2, r⟩

theorem atR_self {fr : Frame} (h : fr.mode = .run) : fr.atR ⟨fr.tmps, fr.defers⟩ fr.todo = fr := by
  cases fr
  simp only at h
  subst h
  rfl

variable {f n : Nat} {τ : Nat → AV} {rd : Option Nat} {D : List AV} {kd : CallKind} {k : List Item}

/-- A step of control. -/
theorem sim_ctl {t1 t2 : List Item} (h : ∀ ρ k1, L2 (ItemR ρ) t1 k1 → ∃ k2, L2 (ItemR ρ) t2 k2 ∧ ∀ (b : Frame) (a : Act) (cs : List Frame) (w : World), step P (lone (b.atR a k1) cs w) = .next (lone (b.atR a k2) cs w)) :
    SimT P C [⟨f, n, τ, t1, rd, D, kd, .run⟩] ar [⟨f, n, τ, t2, rd, D, kd, .run⟩] ar := by
  intro ts w ρ cs hts hR
  obtain ⟨fr, m, rfl, hf, hn⟩ := l2_cons hts
  cases hn
  obtain ⟨k2, h1, h2⟩ := h ρ fr.todo hf.todo
  refine ⟨[fr.atR ⟨fr.tmps, fr.defers⟩ k2], w, ρ, Steps.one ?_, .cons ⟨hf.fn, hf.size, hf.slots, h1, hf.rd, hf.defs, hf.kind, rfl⟩ .nil, hR, Compat.refl _, Pres.refl _ _⟩
  have := h2 fr ⟨fr.tmps, fr.defers⟩ cs w
  rw [atR_self hf.mode] at this
  exact this

theorem ctl_one {x : Item} {t2 : List Item} (hx : ∀ ρ y, ItemR ρ x y → y = x) (h : ∀ ρ k', L2 (ItemR ρ) k k' → ∃ k2, L2 (ItemR ρ) t2 k2 ∧ ∀ (b : Frame) (a : Act) (cs : List Frame) (w : World), step P (lone (b.atR a (x :: k')) cs w) = .next (lone (b.atR a k2) cs w)) :
    SimT P C [⟨f, n, τ, x :: k, rd, D, kd, .run⟩] ar [⟨f, n, τ, t2, rd, D, kd, .run⟩] ar :=
  sim_ctl fun ρ k1 hk => by
    obtain ⟨y, k', rfl, h1, h2⟩ := l2_cons hk
    rw [hx ρ y h1]
    exact h ρ k' h2

theorem itemR_code {ρ : List Loc} {c : Code} {y : Item} (h : ItemR ρ (.code c) y) : y = .code c := by cases h; rfl

theorem sim_skip : SimT P C [⟨f, n, τ, .code .skip :: k, rd, D, kd, .run⟩] ar [⟨f, n, τ, k, rd, D, kd, .run⟩] ar :=
  ctl_one (fun _ _ => itemR_code) fun ρ k' hk => ⟨k', hk, fun _ _ _ _ => stepR_skip⟩
theorem sim_label {l : Nat} : SimT P C [⟨f, n, τ, .code (.label l) :: k, rd, D, kd, .run⟩] ar [⟨f, n, τ, k, rd, D, kd, .run⟩] ar :=
  ctl_one (fun _ _ => itemR_code) fun ρ k' hk => ⟨k', hk, fun _ _ _ _ => stepR_label⟩
theorem sim_inBlock {l : Nat} : SimT P C [⟨f, n, τ, .inBlock l :: k, rd, D, kd, .run⟩] ar [⟨f, n, τ, k, rd, D, kd, .run⟩] ar :=
  ctl_one (fun _ _ h => by cases h; rfl) fun ρ k' hk => ⟨k', hk, fun _ _ _ _ => stepR_inBlock⟩
theorem sim_inScope {c : Code} : SimT P C [⟨f, n, τ, .inScope c :: k, rd, D, kd, .run⟩] ar [⟨f, n, τ, k, rd, D, kd, .run⟩] ar :=
  ctl_one (fun _ _ h => by cases h; rfl) fun ρ k' hk => ⟨k', hk, fun _ _ _ _ => step_lone_go (by simp [stepG, stepG.exec, Frame.atR])⟩
theorem sim_scope {c : Code} : SimT P C [⟨f, n, τ, .code (.scope c) :: k, rd, D, kd, .run⟩] ar [⟨f, n, τ, .code c :: .inScope c :: k, rd, D, kd, .run⟩] ar :=
  ctl_one (fun _ _ => itemR_code) fun ρ k' hk => ⟨_, .cons .code (.cons .inScope hk), fun _ _ _ _ => step_lone_go (by simp [stepG, stepG.exec, Frame.atR])⟩
theorem sim_seq {x y : Code} : SimT P C [⟨f, n, τ, .code (.seq x y) :: k, rd, D, kd, .run⟩] ar [⟨f, n, τ, .code x :: .code y :: k, rd, D, kd, .run⟩] ar :=
  ctl_one (fun _ _ => itemR_code) fun ρ k' hk => ⟨_, .cons .code (.cons .code hk), fun _ _ _ _ => stepR_seq⟩
theorem sim_block {id : Nat} {c : Code} : SimT P C [⟨f, n, τ, .code (.block id c) :: k, rd, D, kd, .run⟩] ar [⟨f, n, τ, .code c :: .inBlock id :: k, rd, D, kd, .run⟩] ar :=
  ctl_one (fun _ _ => itemR_code) fun ρ k' hk => ⟨_, .cons .code (.cons .inBlock hk), fun _ _ _ _ => stepR_block⟩
theorem sim_loop {c : Code} : SimT P C [⟨f, n, τ, .code (.loop c) :: k, rd, D, kd, .run⟩] ar [⟨f, n, τ, .code c :: .inLoop c :: k, rd, D, kd, .run⟩] ar :=
  ctl_one (fun _ _ => itemR_code) fun ρ k' hk => ⟨_, .cons .code (.cons .inLoop hk), fun _ _ _ _ => stepR_loop⟩
theorem sim_inLoop {c : Code} : SimT P C [⟨f, n, τ, .inLoop c :: k, rd, D, kd, .run⟩] ar [⟨f, n, τ, .code c :: .inLoop c :: k, rd, D, kd, .run⟩] ar :=
  ctl_one (fun _ _ h => by cases h; rfl) fun ρ k' hk => ⟨_, .cons .code (.cons .inLoop hk), fun _ _ _ _ => stepR_inLoop⟩
theorem sim_exit {id : Nat} {k2 : List Item} (he : exitTo id k = some k2) : SimT P C [⟨f, n, τ, .code (.exit id) :: k, rd, D, kd, .run⟩] ar [⟨f, n, τ, k2, rd, D, kd, .run⟩] ar :=
  ctl_one (fun _ _ => itemR_code) fun ρ k' hk => by
    obtain ⟨r', h1, h2⟩ := (exitTo_rel hk).2 _ he
    exact ⟨r', h2, fun _ _ _ _ => stepR_exit h1⟩
theorem sim_region {id : Nat} : SimT P C [⟨f, n, τ, .code (.region id ops false) :: k, rd, D, kd, .run⟩] ar [⟨f, n, τ, .inRegion ops (List.range ops.size) :: k, rd, D, kd, .run⟩] ar :=
  ctl_one (fun _ _ => itemR_code) fun ρ k' hk => ⟨_, .cons .inRegion hk, fun _ _ _ _ => stepR_region⟩
theorem sim_regionEnd : SimT P C [⟨f, n, τ, .inRegion ops [] :: k, rd, D, kd, .run⟩] ar [⟨f, n, τ, k, rd, D, kd, .run⟩] ar :=
  ctl_one (fun _ _ h => by cases h; rfl) fun ρ k' hk => ⟨k', hk, fun _ _ _ _ => stepR_region_end⟩

theorem sim_cond {c : Operand} {x y : Code} {t : Bool} (hc : evA τ c = .val (.bool t)) :
    SimT P C [⟨f, n, τ, .code (.cond c x y) :: k, rd, D, kd, .run⟩] ar [⟨f, n, τ, .code (if t then x else y) :: k, rd, D, kd, .run⟩] ar := by
  intro ts w ρ cs hts hR
  obtain ⟨fr, m, rfl, hf, hn⟩ := l2_cons hts
  cases hn
  obtain ⟨y', k', h0, h1, h2⟩ := l2_cons hf.todo
  cases itemR_code h1
  have hv : (⟨fr.tmps, fr.defers⟩ : Act).eval c = .bool t := by have := evA_ok (τ := τ) (a := ⟨fr.tmps, fr.defers⟩) hf.slots c; rw [hc] at this; exact rv_val this
  refine ⟨[fr.atR ⟨fr.tmps, fr.defers⟩ (.code (if t then x else y) :: k')], w, ρ, Steps.one ?_, .cons ⟨hf.fn, hf.size, hf.slots, .cons .code h2, hf.rd, hf.defs, hf.kind, rfl⟩ .nil, hR, Compat.refl _, Pres.refl _ _⟩
  have := stepR_cond (P := P) (b := fr) (k := k') (cs := cs) (w := w) (x := x) (y := y) hv
  rw [← h0, atR_self hf.mode] at this
  exact this

/-- The frame's operation in sight. -/
theorem top_op {w : World} {O : Nat → Prop} {ρ : List Loc} {fr : Frame} {i : Nat} {rest : List Nat} {md : FrameMode} (hf : FrR w O ρ ⟨f, n, τ, .inRegion ops (i :: rest) :: k, rd, D, kd, md⟩ fr) :
    ∃ k', L2 (ItemR ρ) k k' ∧ fr.todo = .inRegion ops (i :: rest) :: k' := by
  obtain ⟨y', k', h0, h1, h2⟩ := l2_cons hf.todo
  cases h1
  exact ⟨k', h2, h0⟩

theorem slots_dst {w : World} {O : Nat → Prop} {ρ : List Loc} {a : Act} {d : Option Nat} {x : AV} {v : Value} (h : Slots w O ρ τ a.tmps) (hd : ∀ t, d = some t → t < a.tmps.size) (hx : RV w O ρ x v) : Slots w O ρ (updO τ d x) (a.put d v).tmps := by
  cases d with
  | none => exact h
  | some t => exact slots_put h (hd t rfl) hx

/-- An operation without a guard. -/
theorem sim_op {i : Nat} {rest : List Nat} {o : Oper} {x : AV} (ho : ops[i]? = some o) (hg : o.guard = none) (hd : ∀ d, o.dst = some d → Nat.blt d n = true) (hs : OpStep P τ ar o x ar') :
    SimT P C [⟨f, n, τ, .inRegion ops (i :: rest) :: k, rd, D, kd, .run⟩] ar [⟨f, n, updO τ o.dst x, .inRegion ops rest :: k, rd, D, kd, .run⟩] ar' := by
  intro ts w ρ cs hts hR
  obtain ⟨fr, m, rfl, hf, hn⟩ := l2_cons hts
  cases hn
  obtain ⟨k', h2, h0⟩ := top_op hf
  obtain ⟨r, v, w', ρ', hr, hv, hR', hc, hp, hx⟩ := hs C ⟨fr.tmps, fr.defers⟩ w ρ hR hf.slots
  refine ⟨[fr.atR ((⟨fr.tmps, fr.defers⟩ : Act).put o.dst v) (.inRegion ops rest :: k')], w', ρ', Steps.one ?_, .cons ⟨hf.fn, by show (((⟨fr.tmps, fr.defers⟩ : Act).put o.dst v).tmps).size = n; rw [put_tmps_size]; exact hf.size, ?_, .cons .inRegion (h2.mono fun _ _ => ItemR.mono hc), hf.rd.mono hc, ?_, hf.kind, rfl⟩ .nil, hR', hc, hp⟩
  · have := step_op_value (P := P) (b := fr) (k := k') (cs := cs) (rest := rest) ho (by simp [Region.wanted, hg]) hr hv
    rw [← h0, atR_self hf.mode] at this
    exact this
  · exact slots_dst (a := ⟨fr.tmps, fr.defers⟩) (hf.slots.mono hp hc) (fun t ht => by have := hd t ht; rw [Nat.blt_eq] at this; show t < fr.tmps.size; rw [hf.size]; exact this) hx
  · show L2 _ D ((⟨fr.tmps, fr.defers⟩ : Act).put o.dst v).defers
    rw [put_defers]
    exact hf.defs.mono fun _ _ => DR.mono hp hc

/-- An operation whose guard is told, or not. -/
theorem sim_opV {i : Nat} {rest : List Nat} {o : Oper} {d j : Nat} {want b : Bool} {oc : Option Bool} {x : AV} (ho : ops[i]? = some o) (hg : o.guard = some (j, want)) (hb : GuardA n τ ops j oc b) (hd : o.dst = some d) (hdn : Nat.blt d n = true)
    {L l : List Nat} (hgk : GOKs (condOf oc b want) τ l) (hs : condOf oc b want = true → OpStep P (opS L l τ) ar o x ar) :
    SimT P C [⟨f, n, τ, .inRegion ops (i :: rest) :: k, rd, D, kd, .run⟩] ar [⟨f, n, upd τ d (.opt (condOf oc b want) x), .inRegion ops rest :: k, rd, D, kd, .run⟩] ar := by
  intro ts w ρ cs hts hR
  obtain ⟨fr, m, rfl, hf, hn⟩ := l2_cons hts
  cases hn
  obtain ⟨k', h2, h0⟩ := top_op hf
  have hw := wanted_of (a := ⟨fr.tmps, fr.defers⟩) hf.slots hf.size hg hb
  have hdn' : d < fr.tmps.size := by rw [hf.size]; simpa [Nat.blt_eq] using hdn
  cases hc : condOf oc b want with
  | true =>
    obtain ⟨r, v, w', ρ', hr, hv, hR', hcm, hp, hx⟩ := hs hc C ⟨fr.tmps, fr.defers⟩ w ρ hR (opS_slots hc hgk hf.slots)
    refine ⟨[fr.atR ((⟨fr.tmps, fr.defers⟩ : Act).put o.dst v) (.inRegion ops rest :: k')], w', ρ', Steps.one ?_, .cons ⟨hf.fn, by show (((⟨fr.tmps, fr.defers⟩ : Act).put o.dst v).tmps).size = n; rw [put_tmps_size]; exact hf.size, ?_, .cons .inRegion (h2.mono fun _ _ => ItemR.mono hcm), hf.rd.mono hcm, ?_, hf.kind, rfl⟩ .nil, hR', hcm, hp⟩
    · have := step_op_value (P := P) (b := fr) (k := k') (cs := cs) (rest := rest) ho (hw.trans hc) hr hv
      rw [← h0, atR_self hf.mode] at this
      exact this
    · rw [hd]
      exact slots_put (a := ⟨fr.tmps, fr.defers⟩) (hf.slots.mono hp hcm) hdn' (.opt (fun _ => hx) (fun h' => by cases h'))
    · show L2 _ D ((⟨fr.tmps, fr.defers⟩ : Act).put o.dst v).defers
      rw [put_defers]
      exact hf.defs.mono fun _ _ => DR.mono hp hcm
  | false =>
    refine ⟨[fr.atR ((⟨fr.tmps, fr.defers⟩ : Act).put o.dst undef) (.inRegion ops rest :: k')], w, ρ, Steps.one ?_, .cons ⟨hf.fn, by show (((⟨fr.tmps, fr.defers⟩ : Act).put o.dst undef).tmps).size = n; rw [put_tmps_size]; exact hf.size, ?_, .cons .inRegion h2, hf.rd, ?_, hf.kind, rfl⟩ .nil, hR, Compat.refl _, Pres.refl _ _⟩
    · have hst := stepR_op_skip (P := P) (b := fr) (a := ⟨fr.tmps, fr.defers⟩) (k := k') (cs := cs) (w := w) (ops := ops) (i := i) (rest := rest) (by simp [ho, hw, hc])
      simp only [ho, Option.bind_some] at hst
      rw [← h0, atR_self hf.mode] at hst
      exact hst
    · rw [hd]
      exact slots_put (a := ⟨fr.tmps, fr.defers⟩) hf.slots hdn' (.opt (fun h' => by cases h') (fun _ => rfl))
    · show L2 _ D ((⟨fr.tmps, fr.defers⟩ : Act).put o.dst undef).defers
      rw [put_defers]
      exact hf.defs
end
end Go.Iron
