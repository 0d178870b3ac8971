/- Iron: less told, a function's begin and end, calls. -/
import Derived.Test.YtamhonbhoelohaaIronC
namespace Go.Iron

mutual
/-- It speaks of no object from m on. -/
def AV.under (m : Nat) : AV → Bool
  | .agg cs => AV.unders m cs
  | .tup cs => AV.unders m cs
  | .ptr id _ _ => Nat.blt id m
  | .row id _ => Nat.blt id m
  | .elt id _ _ _ _ => Nat.blt id m
  | .fn _ cs => AV.unders m cs
  | .ifc _ x => AV.under m x
  | .opt _ x => AV.under m x
  | .yld id => Nat.blt id m
  | .bad | .val _ | .slc _ _ _ _ | .loc _ _ => true
def AV.unders (m : Nat) : List AV → Bool
  | [] => true
  | x :: l => match AV.under m x with
    | true => AV.unders m l
    | false => false
end

theorem unders_get {m : Nat} {l : List AV} (h : AV.unders m l = true) {i : Nat} {x : AV} (hx : l[i]? = some x) : x.under m = true := by
  induction l generalizing i with
  | nil => simp at hx
  | cons y l ih =>
    simp only [AV.unders] at h
    cases hy : y.under m with
    | false => simp [hy] at h
    | true =>
      simp [hy] at h
      cases i with
      | zero => simp at hx; subst hx; exact hy
      | succ i => exact ih h (by simpa using hx)

theorem RV.take {w : World} {O O' : Nat → Prop} (hO : ∀ b, O' b → O b) {ρ : List Loc} {x : AV} {v : Value} (h : RV w O ρ x v) : ∀ {m : Nat}, x.under m = true → RV w O' (ρ.take m) x v := by
  have hp : Pres w O w O' := ⟨Nat.le_refl _, fun b _ hn => ⟨rfl, fun hn' => hn (hO b hn')⟩⟩
  induction h with
  | bad => exact fun _ => .bad
  | val => exact fun _ => .val
  | agg h1 _ h3 ih => exact fun hb => .agg h1 (fun i x v a b => ih i x v a b (unders_get (by simpa [AV.under] using hb) a)) h3
  | tup h1 _ ih => exact fun hb => .tup h1 (fun i x v a b => ih i x v a b (unders_get (by simpa [AV.under] using hb) a))
  | slc h1 h2 h3 h4 h5 h6 g h7 h8 _ => exact fun _ => (RV.slc (ρ := []) h1 h2 h3 h4 h5 h6 g h7 h8).mono hp (Compat.nil _)
  | loc h1 h2 g h3 h4 _ => exact fun _ => (RV.loc (ρ := []) h1 h2 g h3 h4).mono hp (Compat.nil _)
  | @ptr ρ id ver off L v h1 h2 h3 h4 =>
    intro m hb
    have hlt : id < m := by simpa [AV.under, Nat.blt_eq] using hb
    exact .ptr (by rw [List.getElem?_take, if_pos hlt]; exact h1) h2 h3 h4
  | @row ρ id ver L v h1 h2 h3 h4 =>
    intro m hb
    have hlt : id < m := by simpa [AV.under, Nat.blt_eq] using hb
    exact .row (by rw [List.getElem?_take, if_pos hlt]; exact h1) h2 h3 h4
  | @elt ρ id ver sz i o L v h1 h2 h3 h4 =>
    intro m hb
    have hlt : id < m := by simpa [AV.under, Nat.blt_eq] using hb
    exact .elt (by rw [List.getElem?_take, if_pos hlt]; exact h1) h2 h3 h4
  | fn h1 _ ih => exact fun hb => .fn h1 (fun i x v a b => ih i x v a b (unders_get (by simpa [AV.under] using hb) a))
  | ifc _ ih => exact fun hb => .ifc (ih (by simpa [AV.under] using hb))
  | opt _ h2 ih => exact fun hb => .opt (fun h => ih h (by simpa [AV.under] using hb)) h2
  | yld h1 h2 =>
    intro m hb
    have hlt := hb
    simp only [AV.under, Nat.blt_eq] at hlt
    exact .yld (by rw [List.getElem?_take, if_pos hlt]; exact h1) h2

/-- Slots that speak of no object from m on. -/
def scrub (m : Nat) (τ : Nat → AV) : Nat → AV := fun t =>
  match (τ t).under m with
  | true => τ t
  | false => .bad
theorem Slots.scrubbed {w : World} {O O' : Nat → Prop} (hO : ∀ b, O' b → O b) {ρ : List Loc} {τ : Nat → AV} {tmps : Array Value} (h : Slots w O ρ τ tmps) (m : Nat) : Slots w O' (ρ.take m) (scrub m τ) tmps := fun t => by
  unfold scrub
  split
  · rename_i hb
    exact (h t).take hO hb
  · exact .bad
theorem scrub_under (m : Nat) (τ : Nat → AV) (t : Nat) : (scrub m τ t).under m = true := by
  unfold scrub
  split
  · assumption
  · rfl
theorem Slots.kept {w : World} {O O' : Nat → Prop} (hO : ∀ b, O' b → O b) {ρ : List Loc} {τ : Nat → AV} {tmps : Array Value} {m : Nat} (hu : ∀ t, (τ t).under m = true) (h : Slots w O ρ τ tmps) : Slots w O' (ρ.take m) τ tmps :=
  fun t => (h t).take hO (hu t)
def scrubO (m : Nat) : AO → AO
  | .loop st pd f n τ ps asg body => .loop st pd f n (scrub m τ) ps asg body
  | o => o

/-- Objects that speak of none from m on. -/
inductive Kept (m : Nat) : List AO → Prop
  | nil : Kept m []
  | gone {l} : Kept m l → Kept m (.gone :: l)
  | box {e cs l} : AV.unders m cs = true → Kept m l → Kept m (.box e cs :: l)
  | row {e sz v k r l} : (∀ i, i < k → AV.unders m (r i) = true) → Kept m l → Kept m (.row e sz v k r :: l)
  | loop {st pd f n τ ps asg body l} : (∀ t, (τ t).under m = true) → Kept m l → Kept m (.loop st pd f n τ ps asg body :: l)
  | dfr {op l} : Kept m l → Kept m (.dfr op :: l)
def AO.underP (m : Nat) : AO → Prop
  | .gone => True
  | .box _ cs => AV.unders m cs = true
  | .row _ _ _ k r => ∀ i, i < k → AV.unders m (r i) = true
  | .loop _ _ _ _ τ _ _ _ => ∀ t, (τ t).under m = true
  | .dfr _ => True
theorem Kept.mem {m : Nat} {l : List AO} (h : Kept m l) : ∀ o ∈ l, o.underP m := by
  induction h with
  | nil => intro o ho; simp at ho
  | gone _ ih => intro o ho; rcases List.mem_cons.1 ho with rfl | h'; exact trivial; exact ih o h'
  | box h1 _ ih => intro o ho; rcases List.mem_cons.1 ho with rfl | h'; exact h1; exact ih o h'
  | row h1 _ ih => intro o ho; rcases List.mem_cons.1 ho with rfl | h'; exact h1; exact ih o h'
  | loop h1 _ ih => intro o ho; rcases List.mem_cons.1 ho with rfl | h'; exact h1; exact ih o h'
  | dfr _ ih => intro o ho; rcases List.mem_cons.1 ho with rfl | h'; exact trivial; exact ih o h'

/-- The first m objects. -/
def takeA : Nat → List AO → Option (List AO)
  | 0, _ => some []
  | _ + 1, [] => none
  | k + 1, o :: l => match takeA k l with
    | some r => some (o :: r)
    | none => none
theorem takeA_spec : ∀ (k : Nat) (l r : List AO), takeA k l = some r → r = l.take k ∧ k ≤ l.length := by
  intro k
  induction k with
  | zero => intro l r h; simp [takeA] at h; subst h; simp
  | succ k ih =>
    intro l r h
    cases l with
    | nil => simp [takeA] at h
    | cons o l =>
      simp only [takeA] at h
      cases hr : takeA k l with
      | none => simp [hr] at h
      | some r' =>
        simp [hr] at h
        subst h
        obtain ⟨h1, h2⟩ := ih l r' hr
        subst h1
        exact ⟨by simp, by simpa using h2⟩

theorem Cells.take {w : World} {O O' : Nat → Prop} (hO : ∀ b, O' b → O b) {ρ : List Loc} {cs : List AV} {vs : List Value} (h : Cells w O ρ cs vs) {m : Nat} (hb : AV.unders m cs = true) : Cells w O' (ρ.take m) cs vs :=
  ⟨h.1, fun i x v a b => ⟨(h.2 i x v a b).1.take hO (unders_get hb a), (h.2 i x v a b).2⟩⟩

theorem DefR.take {w : World} {O O' : Nat → Prop} (hO : ∀ b, O' b → O b) {ρ : List Loc} {p : Deferred × AV} (h : DefR w O ρ p) {m : Nat} (hb : p.2.under m = true) : DefR w O' (ρ.take m) p := by
  obtain ⟨d, x⟩ := p
  unfold DefR at h ⊢
  cases x with
  | fn g l =>
    obtain ⟨vs, cvs, h1, h2, h3⟩ := h
    exact ⟨vs, cvs, h1, h2, fun i x v a b => (h3 i x v a b).take hO (unders_get (by simpa [AV.under] using hb) a)⟩
  | bad =>
    obtain ⟨r, h1, h2, h3⟩ := h
    exact ⟨r, h1, h2, fun h' => h3 (hO _ h')⟩
  | _ => exact h.elim
/-- What is put off speaks of no object from m on. -/
def defsUnder (m : Nat) : List (Deferred × AV) → Bool
  | [] => true
  | p :: l => match p.2.under m with
    | true => defsUnder m l
    | false => false
theorem defsUnder_mem {m : Nat} {l : List (Deferred × AV)} (h : defsUnder m l = true) : ∀ p ∈ l, p.2.under m = true := by
  induction l with
  | nil => intro p hp; simp at hp
  | cons q l ih =>
    simp only [defsUnder] at h
    cases hq : q.2.under m with
    | false => simp [hq] at h
    | true =>
      simp [hq] at h
      intro p hp
      rcases List.mem_cons.1 hp with rfl | h'
      · exact hq
      · exact ih h p h'

theorem RowC.take {w : World} {O O' : Nat → Prop} (hO : ∀ b, O' b → O b) {ρ : List Loc} {sz k : Nat} {r : Nat → List AV} {vs : List Value} (h : RowC w O ρ sz k r vs) {m : Nat} (hb : ∀ i, i < k → AV.unders m (r i) = true) : RowC w O' (ρ.take m) sz k r vs :=
  ⟨h.len, h.rows, fun i j x v a b c => ⟨(h.get i j x v a b c).1.take hO (unders_get (hb i a) b), (h.get i j x v a b c).2⟩⟩

theorem rel_take {C : Cx} {ρ : List Loc} {ar ar' : List AO} {w : World} (h : RelA C ρ ar w) {m : Nat} (hm : C.ar0.length ≤ m) (ht : takeA m ar = some ar') (hk : Kept m ar') (hD : defsUnder m C.D = true) :
    RelA C (ρ.take m) ar' w ∧ ∀ b, Ow C (ρ.take m) ar' b → Ow C ρ ar b := by
  obtain ⟨rfl, hl⟩ := takeA_spec _ _ _ ht
  have hb := hk.mem
  have hO : ∀ b, Owned (ρ.take m) (ar.take m) b → Owned ρ ar b := by
    rintro b ⟨i, o, L, h1, h2, h3, h4⟩
    rw [List.getElem?_take] at h1 h3
    split at h1
    · rename_i hi
      rw [if_pos hi] at h3
      exact ⟨i, o, L, h1, h2, h3, h4⟩
    · cases h1
  have hO2 : ∀ b, Ow C (ρ.take m) (ar.take m) b → Ow C ρ ar b := fun b h' => h'.imp (fun z => z) (hO b)
  refine ⟨⟨by simp [h.len], h.len0, ?_, ?_, h.far, fun b hb' hn => h.apart b hb' (hO b hn), h.size, h.os, h.tape, h.output, h.heap, fun b hb' => h.new b (hO b hb'), ?_, fun p hp' => (h.defs p hp').take hO2 (defsUnder_mem hD p hp')⟩, hO2⟩
  · intro i o L h1 h2
    have hbo := hb o (List.mem_of_getElem? h1)
    rw [List.getElem?_take] at h1 h2
    split at h1
    · rename_i hi
      rw [if_pos hi] at h2
      have ho := h.obj i o L h1 h2
      cases o with
      | gone => trivial
      | box e cs =>
        obtain ⟨h0, b, vs, a1, a2, a3⟩ := ho
        exact ⟨h0, b, vs, a1, a2, a3.take hO2 hbo⟩
      | row e sz ver k r =>
        obtain ⟨h0, xs, a1, a2⟩ := ho
        exact ⟨h0, xs, a1, a2.take hO2 hbo⟩
      | loop st pd f n τ ps asg body =>
        obtain ⟨h0, b, tmps, dd, a1, a2, a3, a4⟩ := ho
        exact ⟨h0, b, tmps, dd, a1, a2, a3, a4.kept hO2 hbo⟩
      | dfr op => exact ho
    · cases h1
  · intro i j o o' L L' b hij h1 h2 l1 l2 h3 h4 b1 b2
    rw [List.getElem?_take] at h1 h2 h3 h4
    split at h1
    · split at h2
      · rename_i hi hj
        rw [if_pos hi] at h3
        rw [if_pos hj] at h4
        exact h.disj i j o o' L L' b hij h1 h2 l1 l2 h3 h4 b1 b2
      · cases h2
    · cases h1
  · intro i L hL
    obtain ⟨L', a1, a2⟩ := h.comp i L hL
    have hi : i < C.ρ0.length := (List.getElem?_eq_some_iff.1 hL).1
    exact ⟨L', by rw [List.getElem?_take, if_pos (by have := h.len0; omega)]; exact a1, a2⟩

mutual
/-- It speaks of no object at all, and has been told. -/
def AV.data : AV → Bool
  | .agg cs => AV.datas cs
  | .tup cs => AV.datas cs
  | .ptr _ _ _ | .row _ _ | .elt _ _ _ _ _ | .bad | .yld _ => false
  | .fn _ cs => AV.datas cs
  | .ifc _ x => AV.data x
  | .opt _ x => AV.data x
  | .val _ | .slc _ _ _ _ | .loc _ _ => true
def AV.datas : List AV → Bool
  | [] => true
  | x :: l => match AV.data x with
    | true => AV.datas l
    | false => false
end
theorem datas_get {l : List AV} (h : AV.datas l = true) {i : Nat} {x : AV} (hx : l[i]? = some x) : x.data = true := by
  induction l generalizing i with
  | nil => simp at hx
  | cons y l ih =>
    simp only [AV.datas] at h
    cases hy : y.data with
    | false => simp [hy] at h
    | true =>
      simp [hy] at h
      cases i with
      | zero => simp at hx; subst hx; exact hy
      | succ i => exact ih h (by simpa using hx)
theorem datas_of {l : List AV} (h : ∀ x ∈ l, x.data = true) : AV.datas l = true := by
  induction l with
  | nil => rfl
  | cons y l ih => simp [AV.datas, h y (by simp), ih (fun x hx => h x (by simp [hx]))]
theorem RV.data {w : World} {O : Nat → Prop} {ρ : List Loc} {x : AV} {v : Value} (h : RV w O ρ x v) : x.data = true → ∀ ρ', RV w O ρ' x v := by
  have hp : Pres w O w O := Pres.refl _ _
  induction h with
  | bad => exact fun h => by simp [AV.data] at h
  | val => exact fun _ _ => .val
  | agg h1 _ h3 ih => exact fun hb ρ' => .agg h1 (fun i x v a b => ih i x v a b (datas_get (by simpa [AV.data] using hb) a) ρ') h3
  | tup h1 _ ih => exact fun hb ρ' => .tup h1 (fun i x v a b => ih i x v a b (datas_get (by simpa [AV.data] using hb) a) ρ')
  | slc h1 h2 h3 h4 h5 h6 g h7 h8 _ => exact fun _ _ => .slc h1 h2 h3 h4 h5 h6 g h7 h8
  | loc h1 h2 g h3 h4 _ => exact fun _ _ => .loc h1 h2 g h3 h4
  | ptr => exact fun h => by simp [AV.data] at h
  | row => exact fun h => by simp [AV.data] at h
  | elt => exact fun h => by simp [AV.data] at h
  | fn h1 _ ih => exact fun hb ρ' => .fn h1 (fun i x v a b => ih i x v a b (datas_get (by simpa [AV.data] using hb) a) ρ')
  | ifc _ ih => exact fun hb ρ' => .ifc (ih (by simpa [AV.data] using hb) ρ')
  | opt _ h2 ih => exact fun hb ρ' => .opt (fun h => ih h (by simpa [AV.data] using hb) ρ') h2
  | yld => exact fun h => by simp [AV.data] at h
theorem RV.fewer {w : World} {O O' : Nat → Prop} (hO : ∀ b, O' b → O b) {ρ : List Loc} {x : AV} {v : Value} (h : RV w O ρ x v) : RV w O' ρ x v :=
  h.mono ⟨Nat.le_refl _, fun b _ hn => ⟨rfl, fun hn' => hn (hO b hn')⟩⟩ (Compat.refl _)

section
variable {P : Program} {f n : Nat} {C : Cx} {τ τ' : Nat → AV} {ar ar' : List AO} {k todo : List Item} {Q : Out → List AO → Prop} {ops : Array Oper}

/-- What stays of the objects: the first m. -/
theorem run_drop (m : Nat) (hm : C.ar0.length ≤ m) (ht : takeA m ar = some ar') (hk : Kept m ar') (h : Run P f n C (scrub m τ) ar' todo Q) (hD : defsUnder m C.D = true := by rfl) : Run P f n C τ ar todo Q := by
  intro b a w ρ cs g1 g2 g3 g4 g5 g6
  obtain ⟨r1, r2⟩ := rel_take g5 hm ht hk hD
  refine h b a w _ cs g1 g2 g3 g4 r1 fun t => ?_
  unfold scrub
  split
  · rename_i hb
    exact (g6 t).take r2 hb
  · exact .bad

/-- A slot told in another way. -/
def Says (x y : AV) : Prop := ∀ w O ρ v, RV w O ρ x v → RV w O ρ y v
theorem Says.refl (x : AV) : Says x x := fun _ _ _ _ h => h
theorem says_bad (x : AV) : Says x .bad := fun _ _ _ _ _ => .bad
theorem says_nil {c sz : Nat} {r : Nat → List AV} (hc : c ≤ maxLen) : Says (.val (.slice none 0 c)) (.slc sz (some true) 0 r) := fun w O ρ v h => by
  have := rv_val h
  subst this
  exact .slc rfl (Nat.zero_le _) hc (fun b e => by cases e; rfl) (fun i h => by omega) (fun h => by omega) (fun _ _ => undef) (fun i j x a h => by omega) (fun i j x h => by omega)
theorem run_says (t : Nat) {x y : AV} (hx : τ t = x) (hs : Says x y) (h : Run P f n C (upd τ t y) ar todo Q) : Run P f n C τ ar todo Q := by
  intro b a w ρ cs g1 g2 g3 g4 g5 g6
  refine h b a w ρ cs g1 g2 g3 g4 g5 fun j => ?_
  rw [upd_eq]
  split
  · rename_i hj
    subst hj
    exact hs _ _ _ _ (hx ▸ g6 j)
  · exact g6 j

/-- A nil slice as a row of one's own. -/
theorem run_nilRow (t : Nat) (e : TypeId) (sz : Nat) (hx : τ t = .val (.slice none 0 0)) {id : Nat} (r : Nat → List AV) (har : snocN ar (.row e sz 0 0 r) = some (ar', id)) (h : Run P f n C (upd τ t (.row id 0)) ar' todo Q) : Run P f n C τ ar todo Q := by
  intro b a w ρ cs g1 g2 g3 g4 g5 g6
  obtain ⟨rfl, rfl⟩ := snocN_spec _ _ _ _ har
  obtain ⟨r1, r2, r3⟩ := g5.add (o := .row e sz 0 0 r) (L := ⟨0, .slice none 0 0⟩) (w' := w) (Nat.le_refl _) (fun _ _ => rfl) rfl rfl rfl (fun b hb => by simp [Loc.blk] at hb)
    (fun hp => ⟨rfl, [], World.ownsRow_nil w 0 e sz, by simp, fun i h => by omega, fun i j x v h => by omega⟩)
  refine h b a w _ cs g1 g2 g3 g4 r1 fun j => ?_
  rw [upd_eq]
  split
  · rename_i hj
    subst hj
    have := g6 j
    rw [hx] at this
    have hv := rv_val this
    exact .row (L := ⟨0, .slice none 0 0⟩) (by rw [List.getElem?_append_right (by rw [g5.len]; exact Nat.le_refl _)]; simp [g5.len]) (Nat.le_refl _) (by rw [hv]; rfl) (fun _ => hv)
  · exact (g6 j).mono r2 r3

/-- A row of data, from now on read alone. -/
theorem rel_freeze {ρ : List Loc} {w : World} (h : RelA C ρ ar w) {id ver sz m : Nat} {e : TypeId} {r : Nat → List AV} (hob : ar[id]? = some (.row e sz ver m r)) (hd : ∀ i, i < m → AV.datas (r i) = true) :
    RelA C ρ (ar.set id .gone) w ∧ (∀ b, Ow C ρ (ar.set id .gone) b → Ow C ρ ar b) ∧ ∀ v, RV w (Ow C ρ ar) ρ (.row id ver) v → RV w (Ow C ρ (ar.set id .gone)) ρ (.slc sz none m r) v := by
  have hO : ∀ b, Owned ρ (ar.set id .gone) b → Owned ρ ar b := by
    rintro b ⟨i, o, L, h1, h2, h3, h4⟩
    by_cases hi : id = i
    · subst hi
      rw [List.getElem?_set_self (List.getElem?_eq_some_iff.1 hob).1] at h1
      cases h1
      simp [AO.live] at h2
    · rw [List.getElem?_set_ne hi] at h1
      exact ⟨i, o, L, h1, h2, h3, h4⟩
  have hO2 : ∀ b, Ow C ρ (ar.set id .gone) b → Ow C ρ ar b := fun b h' => h'.imp (fun z => z) (hO b)
  have hp : Pres w (Ow C ρ ar) w (Ow C ρ (ar.set id .gone)) := ⟨Nat.le_refl _, fun b _ hn => ⟨rfl, fun hn' => hn (hO2 b hn')⟩⟩
  refine ⟨⟨by simp [h.len], h.len0, ?_, ?_, h.far, fun b hb' hn => h.apart b hb' (hO b hn), h.size, h.os, h.tape, h.output, h.heap, fun b hb => h.new b (hO b hb), h.comp, fun p hp' => (h.defs p hp').mono hp (Compat.refl _)⟩, hO2, ?_⟩
  · intro i o L h1 h2
    by_cases hi : id = i
    · subst hi
      rw [List.getElem?_set_self (List.getElem?_eq_some_iff.1 hob).1] at h1
      cases h1
      trivial
    · rw [List.getElem?_set_ne hi] at h1
      exact (h.obj i o L h1 h2).mono hp (Compat.refl _) fun _ _ => rfl
  · intro i j o o' L L' b hij h1 h2 l1 l2 h3 h4 b1 b2
    have key : ∀ (i : Nat) o, (ar.set id .gone)[i]? = some o → o.live = true → ar[i]? = some o := by
      intro i o h1 hl
      by_cases hi : id = i
      · subst hi
        rw [List.getElem?_set_self (List.getElem?_eq_some_iff.1 hob).1] at h1
        cases h1
        simp [AO.live] at hl
      · rwa [List.getElem?_set_ne hi] at h1
    exact h.disj i j o o' L L' b hij (key i o h1 l1) (key j o' h2 l2) l1 l2 h3 h4 b1 b2
  · intro v hv
    obtain ⟨L, e1, e2, e3, e4⟩ := rv_row hv
    obtain ⟨hL, xs, hown, hcc⟩ := h.obj id _ L hob e1
    have hvL := e4 hL.symm
    subst hvL
    have hlt : ∀ i j x, i < m → (r i)[j]? = some x → ∃ u, xs[i * sz + j]? = some u ∧ RV w (Ow C ρ ar) ρ x u ∧ u.oneCell' = true ∧ x.data = true := by
      intro i j x h1 h2
      have hj := (List.getElem?_eq_some_iff.1 h2).1
      rw [hcc.rows i h1] at hj
      have hin : i * sz + sz ≤ m * sz := by rw [← Nat.succ_mul]; exact Nat.mul_le_mul_right _ h1
      have hi : i * sz + j < xs.length := by rw [hcc.len]; omega
      refine ⟨xs[i * sz + j], by simp [hi], ?_⟩
      obtain ⟨a1, a2⟩ := hcc.get i j x xs[i * sz + j] h1 h2 (by simp [hi])
      exact ⟨a1, a2, datas_get (hd i h1) h2⟩
    rcases hown.2 with ⟨hv', hn⟩ | ⟨g, cap, cur, hv', hg0, hh, h5, h6, h7, h8⟩
    · rw [hv']
      subst hn
      exact .slc rfl (Nat.le_refl _) (Nat.zero_le _) (fun b e => by cases e) (fun i h => by omega) (fun h => by omega) (fun _ _ => undef) (fun i j x a h => by omega) (fun i j x h => by omega)
    · rw [hv']
      have hb : L.v.ownBlock = some g := by rw [hv']; rfl
      refine .slc rfl h5 h6 (fun b e => by cases e) hcc.rows (fun _ => ⟨⟨g, 0, none⟩, rfl, (Array.getElem?_eq_some_iff.1 hh).1, ?_⟩) (fun i j => xs.getD (i * sz + j) undef) ?_ ?_
      · rintro (hX | ⟨i, o, L2, a1, a2, a3, a4⟩)
        · exact h.apart g hX ⟨id, _, L, hob, rfl, e1, by simp [Loc.blk, hv']⟩
        by_cases hi : id = i
        · subst hi
          rw [List.getElem?_set_self (List.getElem?_eq_some_iff.1 hob).1] at a1
          cases a1
          simp [AO.live] at a2
        · rw [List.getElem?_set_ne hi] at a1
          exact h.disj id i _ o L L2 g hi hob a1 rfl a2 e1 a3 (by simp [Loc.blk, hv']) a4
      · intro i j x a h1 h2 ha
        cases ha
        obtain ⟨u, hu, _, h1c, _⟩ := hlt i j x h1 h2
        have : xs.getD (i * sz + j) undef = u := by simp [List.getD_eq_getElem?_getD, hu]
        rw [this]
        exact ⟨hown.cells hb _ _ hu, h1c⟩
      · intro i j x h1 h2
        obtain ⟨u, hu, hr, _, hdt⟩ := hlt i j x h1 h2
        have : xs.getD (i * sz + j) undef = u := by simp [List.getD_eq_getElem?_getD, hu]
        rw [this]
        exact (hr.data hdt []).fewer hO2

theorem run_freeze (t : Nat) {id ver sz m : Nat} {e : TypeId} {r : Nat → List AV} (hx : τ t = .row id ver) (hob : nth ar id = some (.row e sz ver m r)) (har : setN ar id .gone = some ar')
    (hd : ∀ i, i < m → AV.datas (r i) = true) (h : Run P f n C (upd τ t (.slc sz none m r)) ar' todo Q) : Run P f n C τ ar todo Q := by
  intro b a w ρ cs g1 g2 g3 g4 g5 g6
  obtain ⟨_, rfl⟩ := setN_spec _ _ _ _ har
  rw [nth_eq] at hob
  obtain ⟨r1, r2, r3⟩ := rel_freeze g5 hob hd
  refine h b a w ρ cs g1 g2 g3 g4 r1 fun j => ?_
  rw [upd_eq]
  split
  · rename_i hj
    subst hj
    exact r3 _ (hx ▸ g6 j)
  · exact (g6 j).fewer r2

/-- A row told in another way. -/
theorem run_tell (id : Nat) {ver sz m m' : Nat} {e : TypeId} {r : Nat → List AV} (r' : Nat → List AV) (hob : nth ar id = some (.row e sz ver m r)) (hm : m' = m) (hr : ∀ i, i < m → r' i = r i) (har : setN ar id (.row e sz ver m' r') = some ar')
    (h : Run P f n C τ ar' todo Q) : Run P f n C τ ar todo Q := by
  intro b a w ρ cs g1 g2 g3 g4 g5 g6
  subst hm
  obtain ⟨_, rfl⟩ := setN_spec _ _ _ _ har
  rw [nth_eq] at hob
  obtain ⟨L, hL⟩ : ∃ L, ρ[id]? = some L := ⟨ρ[id]'(by rw [g5.len]; exact (List.getElem?_eq_some_iff.1 hob).1), by simp⟩
  have hlen : (ar.set id (.row e sz ver m' r')).length = ar.length := by simp
  have hget : ∀ (j : Nat), (ar.set id (.row e sz ver m' r'))[j]? = if id = j then some (.row e sz ver m' r') else ar[j]? := fun j => by
    rw [List.getElem?_set]
    by_cases hj : id = j
    · subst hj; simp [(List.getElem?_eq_some_iff.1 hob).1]
    · simp [hj]
  have hO : ∀ b, Owned ρ (ar.set id (.row e sz ver m' r')) b ↔ Owned ρ ar b := by
    intro b
    constructor
    · rintro ⟨j, o, L', h1, h2, h3, h4⟩
      rw [hget] at h1
      split at h1
      · rename_i hj; subst hj; cases h1; exact ⟨_, _, L', hob, rfl, h3, h4⟩
      · exact ⟨j, o, L', h1, h2, h3, h4⟩
    · rintro ⟨j, o, L', h1, h2, h3, h4⟩
      by_cases hj : id = j
      · subst hj; exact ⟨_, _, L', by rw [hget, if_pos rfl], rfl, h3, h4⟩
      · exact ⟨j, o, L', by rw [hget, if_neg hj]; exact h1, h2, h3, h4⟩
  have hO2 : Ow C ρ (ar.set id (.row e sz ver m' r')) = Ow C ρ ar := by
    funext b
    exact propext ⟨fun h' => h'.imp (fun z => z) (hO b).1, fun h' => h'.imp (fun z => z) (hO b).2⟩
  refine h b a w ρ cs g1 g2 g3 g4 ⟨by rw [hlen]; exact g5.len, g5.len0, ?_, ?_, g5.far, fun b hb' hn => g5.apart b hb' ((hO b).1 hn), g5.size, g5.os, g5.tape, g5.output, g5.heap, fun b hb => g5.new b ((hO b).1 hb), g5.comp, by rw [hO2]; exact g5.defs⟩ (by rw [hO2]; exact g6)
  · intro j o L' h1 h2
    rw [hO2]
    rw [hget] at h1
    split at h1
    · rename_i hj
      subst hj
      cases h1
      obtain ⟨a1, xs, a2, a3⟩ := g5.obj _ _ L' hob h2
      exact ⟨a1, xs, a2, a3.len, fun i hi => by rw [hr i hi]; exact a3.rows i hi, fun i j x v hi hx hv => a3.get i j x v hi (by rw [← hr i hi]; exact hx) hv⟩
    · exact g5.obj j o L' h1 h2
  · intro i j o o' L1 L2 b hij h1 h2 l1 l2 h3 h4 b1 b2
    rw [hget] at h1 h2
    have key : ∀ (k : Nat) o, (if id = k then some (AO.row e sz ver m' r') else ar[k]?) = some o → ∃ o', ar[k]? = some o' ∧ (o.live = true → o'.live = true) := by
      intro k o hk
      split at hk
      · rename_i hj; subst hj; cases hk; exact ⟨_, hob, fun _ => rfl⟩
      · exact ⟨o, hk, fun z => z⟩
    obtain ⟨p1, q1, q2⟩ := key i o h1
    obtain ⟨p2, q3, q4⟩ := key j o' h2
    exact g5.disj i j p1 p2 L1 L2 b hij q1 q3 (q2 l1) (q4 l2) h3 h4 b1 b2

/-! ### The end -/
inductive Res (P : Program) (τ : Nat → AV) (ar : List AO) : List ResultVar → List AV → Prop
  | nil : Res P τ ar [] []
  | tmp {t rs xs} : Res P τ ar rs xs → Res P τ ar (.tmp t :: rs) (τ t :: xs)
  | cell {p t rs xs sz ag id ver off ob cs x} : Ty P t sz ag → τ p = .ptr id ver off → nth ar id = some ob → ob.cells = some (ver, cs) → loadA ag sz cs off = some x → Res P τ ar rs xs → Res P τ ar (.cell p t :: rs) (x :: xs)

def outA : List AV → AV
  | [x] => x
  | l => .tup l

def resF (tmps : Array Value) : ResultVar → Sem Value
  | .tmp t => pure (tmps.getD t undef)
  | .cell a t => do loadVar t (← asAddr (tmps.getD a undef))
theorem results_eq (fn : Func) (tmps : Array Value) : results fn tmps = (do
    let vs ← fn.results.mapM (resF tmps)
    pure (if h : vs.size = 1 then vs[0] else .tuple vs)) := rfl

theorem mapM_res {w : World} {ρ : List Loc} (hR : RelA C ρ ar w) {tmps : Array Value} (hS : Slots w (Ow C ρ ar) ρ τ tmps) {rs : List ResultVar} {xs : List AV} (h : Res P τ ar rs xs) :
    ∃ vs : List Value, (rs.mapM (resF tmps)).run P w = .ok vs w ∧ vs.length = xs.length ∧
      ∀ (i : Nat) x v, xs[i]? = some x → vs[i]? = some v → RV w (Ow C ρ ar) ρ x v := by
  induction h with
  | nil => exact ⟨[], by simp, rfl, fun i x v h => by simp at h⟩
  | @tmp t rs xs _ ih =>
    obtain ⟨vs, h1, h2, h3⟩ := ih
    refine ⟨tmps.getD t undef :: vs, by simp only [List.mapM_cons, resF, Sem.run_bind, Sem.run_pure, Result.andThen_ok, h1], by simp [h2], fun i x v hx hv => ?_⟩
    cases i with
    | zero => rw [List.getElem?_cons_zero] at hx hv; cases hv; cases hx; exact hS t
    | succ i => exact h3 i x v (by simpa using hx) (by simpa using hv)
  | @cell p t rs xs sz ag id ver off ob cs x hty hp hob hcs hld _ ih =>
    obtain ⟨vs, h1, h2, h3⟩ := ih
    have hv := hS p
    rw [hp] at hv
    rw [nth_eq] at hob
    obtain ⟨b, g, e1, e2, e3⟩ := ptr_cells hR hv hob hcs
    obtain ⟨v, hr, hq⟩ := load_cells (P := P) (t := t) g hld e2 e3
    have hr' : (loadVar t ⟨b, off, none⟩).run P w = .ok v w := by simpa [Instr.loadAt, Instr.sureAddr] using hr
    refine ⟨v :: vs, ?_, by simp [h2], fun i x v hx hv => ?_⟩
    · have ha : (asAddr (tmps.getD p undef)).run P w = .ok ⟨b, off, none⟩ w := by rw [e1]; rfl
      simp only [List.mapM_cons, resF, Sem.run_bind, ha, Sem.run_pure, Result.andThen_ok, hr', h1]
    · cases i with
      | zero => rw [List.getElem?_cons_zero] at hx hv; cases hv; cases hx; exact hq
      | succ i => exact h3 i _ _ (by simpa using hx) (by simpa using hv)

theorem results_run {w : World} {ρ : List Loc} (hR : RelA C ρ ar w) {tmps : Array Value} (hS : Slots w (Ow C ρ ar) ρ τ tmps) {fn : Func} {xs : List AV} (h : Res P τ ar fn.results.toList xs) :
    ∃ v, (results fn tmps).run P w = .ok v w ∧ RV w (Ow C ρ ar) ρ (outA xs) v := by
  obtain ⟨vs, h1, h2, h3⟩ := mapM_res hR hS h
  have hm : (fn.results.mapM (resF tmps)).run P w = .ok vs.toArray w := by
    rw [Array.mapM_eq_mapM_toList, Sem.run_map, h1]
    rfl
  refine ⟨if h : vs.toArray.size = 1 then vs.toArray[0] else .tuple vs.toArray, ?_, ?_⟩
  · rw [results_eq, Sem.run_bind, hm]
    rfl
  · match xs, h2, h3 with
    | [x], h2, h3 =>
      match vs, h2, h3 with
      | [v], _, h3 => exact h3 0 x v rfl rfl
    | [], h2, h3 =>
      have : vs = [] := List.eq_nil_of_length_eq_zero (by simpa using h2)
      subst this
      exact .tup rfl (fun i x v h => by simp at h)
    | x :: y :: r, h2, h3 =>
      have hne : vs.toArray.size ≠ 1 := by simp [h2]
      rw [dif_neg hne]
      exact .tup (by simp [h2]) (fun i x v hx hv => h3 i x v hx (by simpa using hv))

end
end Go.Iron
