/- Iron: regions that draw their order: one walk of the text's order serves every order, up to where but one operation can come next. -/
import Derived.Test.YtamhonbhoelohaaIronX
import Derived.Still
namespace Go.Iron

section
variable {P : Program} {f n : Nat} {C : Cx} {τ τ' : Nat → AV} {ar ar' : List AO} {k todo : List Item} {Q : Out → List AO → Prop} {ops : Array Oper} {I : TI}

def updO (τ : Nat → AV) (d : Option Tmp) (x : AV) : Nat → AV := match d with
  | some d => upd τ d x
  | none => τ

theorem updO_comm (τ : Nat → AV) {d e : Option Tmp} (x y : AV) (h : ∀ t, d = some t → e ≠ some t) : updO (updO τ d x) e y = updO (updO τ e y) d x := by
  cases d with
  | none => rfl
  | some d =>
    cases e with
    | none => rfl
    | some e =>
      have hne : d ≠ e := fun he => h d rfl (by rw [he])
      funext t
      simp only [updO, upd_eq]
      by_cases h1 : t = e
      · subst h1; simp [Ne.symm hne]
      · simp [h1]

theorem updO_other (τ : Nat → AV) {d : Option Tmp} {x : AV} {t : Nat} (h : d ≠ some t) : updO τ d x t = τ t := by
  cases d with
  | none => rfl
  | some d =>
    simp only [updO, upd_eq]
    rw [if_neg (fun e => h (by rw [e]))]

/-- What operation i leaves in its slot, whatever else has been done before, where what it looks at is as τ says; one's own objects stay as they are. -/
def OpI (P : Program) (f n : Nat) (ar : List AO) (ops : Array Oper) (i : Nat) (o : Oper) (τ : Nat → AV) (x : AV) : Prop :=
  ∀ τ2 : Nat → AV, (∀ t, t ∈ o.looksAt ops → τ2 t = τ t) → ∀ (C : Cx) (rest : List Nat) (k : List Item) (Q : Out → List AO → Prop),
    (∀ Z, Q (.pan Z) ar → False) ∨ True → Run P f n C (updO τ2 o.dst x) ar (.inRegion ops rest :: k) Q → Run P f n C τ2 ar (.inRegion ops (i :: rest) :: k) Q

theorem OpI.congr {i : Nat} {o : Oper} {x : AV} (h : OpI P f n ar ops i o τ x) (ht : ∀ t, t ∈ o.looksAt ops → τ' t = τ t) : OpI P f n ar ops i o τ' x :=
  fun τ2 h2 C rest k Q hp hr => h τ2 (fun t hm => (h2 t hm).trans (ht t hm)) C rest k Q hp hr

/-- The text's order. -/
def LexQ (P : Program) (f n : Nat) (ar : List AO) (ops : Array Oper) : Nat → List Oper → (Nat → AV) → (Nat → AV) → Prop
  | _, [], τ, τ' => τ' = τ
  | i, o :: l, τ, τ' => ∃ x, OpI P f n ar ops i o τ x ∧ LexQ P f n ar ops (i + 1) l (updO τ o.dst x) τ'

def aOp (P : Program) (f n : Nat) (ar : List AO) (ops : Array Oper) (i : Nat) (K : (Nat → AV) → Prop) (τ : Nat → AV) : Prop :=
  ∃ o, ops[i]? = some o ∧ ∃ x, OpI P f n ar ops i o τ x ∧ K (updO τ o.dst x)

/-- From k on but one can come next: c of them. -/
def tailB (ops : Array Oper) : Nat → Nat → Array Bool → Bool
  | 0, _, listed => (Region.ready .any ops listed).isEmpty
  | c + 1, k, listed => (Region.ready .any ops listed == [k]) && tailB ops c (k + 1) (listed.setIfInBounds k true)

theorem tailB_ready {c T : Nat} {listed : Array Bool} (h : tailB ops c T listed = true) : ∀ j ∈ Region.ready .any ops listed, j = T ∧ 0 < c := by
  cases c with
  | zero => simp only [tailB, List.isEmpty_iff] at h; intro j hj; rw [h] at hj; cases hj
  | succ c =>
    simp only [tailB, Bool.and_eq_true, beq_iff_eq] at h
    intro j hj
    rw [h.1] at hj
    exact ⟨by simpa using hj, by omega⟩

theorem go_tail : ∀ (c T t : Nat) (listed : Array Bool), tailB ops c T listed = true → Region.linearise.go .any ops c t listed [] = List.range' T c
  | 0, T, t, listed, _ => by simp [Region.linearise.go]
  | c + 1, T, t, listed, h => by
    simp only [tailB, Bool.and_eq_true, beq_iff_eq] at h
    simp only [Region.linearise.go]
    change (match (Region.ready .any ops listed)[t % (Region.ready .any ops listed).length]? with
      | some i => Region.linearise.go .any ops c (t / (Region.ready .any ops listed).length) (listed.setIfInBounds i true) [i]
      | none => [].reverse) = _
    rw [h.1]
    simp only [List.length_cons, List.length_nil, Nat.zero_add, Nat.mod_one, List.getElem?_cons_zero]
    rw [linearise_go_acc, go_tail c (T + 1) _ _ h.2]
    simp [List.range'_succ]

/-- Whatever order is picked from here on. -/
def anyQ (P : Program) (f n : Nat) (ar : List AO) (ops : Array Oper) (T : Nat) (τ' : Nat → AV) : Nat → Array Bool → (Nat → AV) → Prop
  | 0, listed, τ => tailB ops (ops.size - T) T listed = true ∧ τ' = τ
  | fuel + 1, listed, τ => Region.ready .any ops listed ≠ [] ∧
    ∀ i ∈ Region.ready .any ops listed, aOp P f n ar ops i (anyQ P f n ar ops T τ' fuel (listed.setIfInBounds i true)) τ

theorem aOp_mono {i : Nat} {K K' : (Nat → AV) → Prop} (h : ∀ τ, K τ → K' τ) (hh : aOp P f n ar ops i K τ) : aOp P f n ar ops i K' τ := by
  obtain ⟨o, h1, x, h3, h4⟩ := hh
  exact ⟨o, h1, x, h3, h _ h4⟩

/-- One that is apart may be done before or after. -/
theorem aOp_swap {i j : Nat} {oi oj : Oper} {x : AV} (hj : ops[j]? = some oj) (hap : oi.apart ops oj = true) {K : (Nat → AV) → Prop} (hi : OpI P f n ar ops i oi τ x) (h : aOp P f n ar ops j K (updO τ oi.dst x)) :
    aOp P f n ar ops j (fun τ2 => OpI P f n ar ops i oi τ2 x ∧ K (updO τ2 oi.dst x)) τ := by
  obtain ⟨h1, h2, h3⟩ := Oper.apart_spec hap
  obtain ⟨o, e, y, hy, hK⟩ := h
  rw [hj] at e
  cases e
  refine ⟨oj, hj, y, hy.congr fun t ht => (updO_other τ (fun e => h1 t e ht)).symm, hi.congr fun t ht => updO_other τ (fun e => h3 t e ht), ?_⟩
  rw [← updO_comm τ x y h2]
  exact hK

/-- The tail's first waits for i. -/
def waitsB (ops : Array Oper) (T i : Nat) : Bool := match ops[T]? with
  | none => true
  | some o => o.after.any fun e => Region.binds .any e && e.on == i

theorem anyQ_first {T i : Nat} {oi : Oper} {x : AV} (hi : ops[i]? = some oi) (hT : waitsB ops T i = true) : ∀ (fuel : Nat) (listed : Array Bool) (τ : Nat → AV),
    (∀ j oj, ops[j]? = some oj → j ≠ i → listed.getD j true = false → (∀ e ∈ oj.after, Region.binds .any e = true → e.on ≠ i) → oi.apart ops oj = true) →
    i ∈ Region.ready .any ops listed → OpI P f n ar ops i oi τ x → anyQ P f n ar ops T τ' fuel (listed.setIfInBounds i true) (updO τ oi.dst x) → anyQ P f n ar ops T τ' (fuel + 1) listed τ := by
  have hnot' : ∀ (listed : Array Bool) (j : Nat) oj, i ∈ Region.ready .any ops listed → j ∈ Region.ready .any ops listed → ops[j]? = some oj → ∀ e ∈ oj.after, Region.binds .any e = true → e.on ≠ i := by
    intro listed j oj hr hj hoj e he hb heq
    obtain ⟨hjun, oj', hoj', hall⟩ := mem_ready.1 hj
    rw [hoj] at hoj'
    cases hoj'
    have h1 := hall e he hb
    have h0 := (mem_ready.1 hr).1
    rw [heq] at h1
    rcases Nat.lt_or_ge i listed.size with h' | h'
    · simp [h'] at h0 h1; rw [h0] at h1; cases h1
    · simp [Array.getElem?_eq_none h'] at h1
  intro fuel
  induction fuel with
  | zero =>
    intro listed τ _ hr hy H
    refine ⟨fun h => (by rw [h] at hr; cases hr), fun j hj => ?_⟩
    by_cases hji : j = i
    · subst hji; exact ⟨oi, hi, x, hy, H⟩
    · obtain ⟨hjT, hc⟩ := tailB_ready H.1 j (ready_mono hj hji)
      subst hjT
      obtain ⟨hjun, oj, hoj, hall⟩ := mem_ready.1 hj
      simp only [waitsB, hoj] at hT
      obtain ⟨e, he, hb⟩ := Array.any_eq_true'.1 hT
      simp only [Bool.and_eq_true, beq_iff_eq] at hb
      exact absurd hb.2 (hnot' listed j oj hr hj hoj e he hb.1)
  | succ fuel ih =>
    intro listed τ hfree hr hy H
    refine ⟨fun h => (by rw [h] at hr; cases hr), fun j hj => ?_⟩
    by_cases hji : j = i
    · subst hji; exact ⟨oi, hi, x, hy, H⟩
    · have h1 := H.2 j (ready_mono hj hji)
      obtain ⟨hjun, oj, hoj, hall⟩ := mem_ready.1 hj
      have h2 := aOp_swap hoj (hfree j oj hoj hji hjun (hnot' listed j oj hr hj hoj)) hy h1
      have hfree' : ∀ m om, ops[m]? = some om → m ≠ i → (listed.setIfInBounds j true).getD m true = false →
          (∀ e ∈ om.after, Region.binds .any e = true → e.on ≠ i) → oi.apart ops om = true := fun m om hm hmi hun hno => by
        refine hfree m om hm hmi ?_ hno
        by_cases hjm : j = m
        · subst hjm; exact hjun
        · rw [getD_set_ne true hjm] at hun; exact hun
      refine aOp_mono (fun τ2 h3 => ih (listed.setIfInBounds j true) τ2 hfree' (ready_mono hr (Ne.symm hji)) h3.1 ?_) h2
      rw [Array.setIfInBounds_comm _ _ hji]
      exact h3.2

/-- The first T as they come, then one after the other. -/
def lexFromT (ops : Array Oper) (T : Nat) : Nat → Nat → Array Bool → Bool
  | 0, _, listed => tailB ops (ops.size - T) T listed
  | c + 1, m, listed => (Region.ready .any ops listed).contains m && Region.free .any ops listed m && waitsB ops T m && lexFromT ops T c (m + 1) (listed.setIfInBounds m true)

theorem anyQ_lex {T : Nat} : ∀ (l : List Oper) (m : Nat) (listed : Array Bool) (τ : Nat → AV), (∀ j, j < l.length → l[j]? = ops[m + j]?) →
    lexFromT ops T l.length m listed = true → LexQ P f n ar ops m l τ τ' → anyQ P f n ar ops T τ' l.length listed τ
  | [], _, _, _, _, hB, h => ⟨by simpa [lexFromT] using hB, h⟩
  | o :: l, m, listed, τ, hl, hB, h => by
    have h0 : ops[m]? = some o := by simpa using (hl 0 (by simp)).symm
    simp only [List.length_cons, lexFromT, Bool.and_eq_true] at hB
    obtain ⟨⟨⟨hr, hf⟩, hw⟩, hB'⟩ := hB
    obtain ⟨x, hx, hK⟩ := h
    exact anyQ_first h0 hw l.length listed τ (Region.free_spec h0 hf) (by simpa using hr) hx
      (anyQ_lex l (m + 1) _ _ (fun j hj => by have := hl (j + 1) (by simpa using hj); simpa [Nat.add_assoc, Nat.add_comm 1 j] using this) hB' hK)

theorem run_any {T : Nat} (hr : Run P f n C τ' ar (.inRegion ops (List.range' T (ops.size - T)) :: k) Q) : ∀ (fuel : Nat) (listed : Array Bool) (τ : Nat → AV), anyQ P f n ar ops T τ' fuel listed τ →
    ∀ t, Run P f n C τ ar (.inRegion ops (Region.linearise.go .any ops (fuel + (ops.size - T)) t listed []) :: k) Q
  | 0, listed, τ, h, t => by
    rw [Nat.zero_add, go_tail _ _ _ _ h.1, ← h.2]
    exact hr
  | fuel + 1, listed, τ, h, t => by
    rw [show fuel + 1 + (ops.size - T) = (fuel + (ops.size - T)) + 1 by omega]
    simp only [Region.linearise.go]
    change Run P f n C τ ar (.inRegion ops (match (Region.ready .any ops listed)[t % (Region.ready .any ops listed).length]? with
      | some i => Region.linearise.go .any ops (fuel + (ops.size - T)) (t / (Region.ready .any ops listed).length) (listed.setIfInBounds i true) [i]
      | none => [].reverse) :: k) Q
    cases hi : (Region.ready .any ops listed)[t % (Region.ready .any ops listed).length]? with
    | none =>
      exfalso
      cases hr : Region.ready .any ops listed with
      | nil => exact h.1 hr
      | cons x xs =>
        rw [hr] at hi
        have hlt : t % (x :: xs).length < (x :: xs).length := Nat.mod_lt _ (by simp)
        simp at hi
        simp at hlt
        omega
    | some i =>
      simp only []
      rw [linearise_go_acc, List.reverse_singleton, List.singleton_append]
      obtain ⟨o, ho, x, hx, hK⟩ := h.2 i (List.mem_of_getElem? hi)
      exact hx τ (fun _ _ => rfl) C _ k Q (.inr trivial) (run_any hr fuel _ _ hK _)

theorem RelA.draw {ρ : List Loc} {w : World} (h : RelA C ρ ar w) : RelA C ρ ar { w with drawn := w.drawn + 1 } ∧ Pres w (Ow C ρ ar) { w with drawn := w.drawn + 1 } (Ow C ρ ar) := by
  have hp : Pres w (Ow C ρ ar) { w with drawn := w.drawn + 1 } (Ow C ρ ar) := ⟨Nat.le_refl _, fun b _ hn => ⟨rfl, hn⟩⟩
  exact ⟨⟨h.len, h.len0, fun i o L h1 h2 => (h.obj i o L h1 h2).mono hp (Compat.refl _) (fun _ _ => rfl), h.disj, h.far, h.apart, h.size, h.os, h.tape, h.output, h.heap, h.new, h.comp, fun p hp' => (h.defs p hp').mono hp (Compat.refl _)⟩, hp⟩

/-- A region that draws its order: its first T operations as they come, the others one after the other. -/
theorem run_draw (T : Nat) {id : Nat} (hm : P.follows .mixedOrders = true) (hB : (Nat.ble T ops.size && lexFromT ops T T 0 (Array.replicate ops.size false)) = true) (hl : LexQ P f n ar ops 0 (ops.toList.take T) τ τ')
    (h : Run P f n C τ' ar (.inRegion ops (List.range' T (ops.size - T)) :: k) Q) : Run P f n C τ ar (.code (.region id ops true) :: k) Q := by
  simp only [Bool.and_eq_true, Nat.ble_eq] at hB
  obtain ⟨hT, hB⟩ := hB
  intro b a w ρ cs g1 g2 g3 g4 g5 g6
  obtain ⟨r1, r2⟩ := g5.draw
  have hlen : (ops.toList.take T).length = T := by simp; omega
  have hany := anyQ_lex (P := P) (f := f) (n := n) (ar := ar) (T := T) (ops := ops) (τ' := τ') (ops.toList.take T) 0 (Array.replicate ops.size false) τ (fun j hj => by rw [List.getElem?_take, if_pos (by omega)]; simp) (by rw [hlen]; exact hB) hl
  have hrun := run_any (C := C) h _ _ _ hany (w.tape w.drawn (.order b.fn id))
  rw [hlen, show T + (ops.size - T) = ops.size by omega] at hrun
  obtain ⟨e2, w2, fr, s, r⟩ := hrun b a _ ρ cs g1 g2 g3 g4 r1 (g6.mono r2 (Compat.refl _))
  refine ⟨e2, w2, fr, .head stepR_region_draw ?_, r⟩
  simp only [Region.schedule, hm, Bool.true_or, if_true]
  exact s

/-! ### Operations of such a region -/
/-- The slots told, the others not. -/
def opR (l : List Nat) (τ : Nat → AV) : Nat → AV := fun t => match memN t l with
  | true => τ t
  | false => .bad

theorem looks_of {o : Oper} {t : Nat} (h : t ∈ tmpsOf o.op.operands.toList) : t ∈ o.looksAt ops := by
  unfold Oper.looksAt
  refine List.mem_append_left _ ?_
  rw [List.mem_filterMap]
  have : ∀ (l : List Operand), t ∈ tmpsOf l → Operand.tmp t ∈ l := by
    intro l
    induction l with
    | nil => intro h; simp [tmpsOf] at h
    | cons x l ih =>
      intro h
      cases x with
      | tmp u =>
        simp [tmpsOf] at h
        rcases h with rfl | h
        · simp
        · exact List.mem_cons_of_mem _ (ih h)
      | const v => exact List.mem_cons_of_mem _ (ih (by simpa [tmpsOf] using h))
      | global g => exact List.mem_cons_of_mem _ (ih (by simpa [tmpsOf] using h))
      | func g => exact List.mem_cons_of_mem _ (ih (by simpa [tmpsOf] using h))
  exact ⟨.tmp t, this _ h, rfl⟩

theorem OpStep.slots {o : Oper} {x : AV} {τ2 : Nat → AV} (hs : OpStep P τ ar o x ar') (h : ∀ w O ρ tmps, Slots w O ρ τ2 tmps → Slots w O ρ τ tmps) : OpStep P τ2 ar o x ar' :=
  fun C a w ρ hR hS => hs C a w ρ hR (h _ _ _ _ hS)

theorem opR_slots {l : List Nat} {τ2 : Nat → AV} (h : ∀ t, t ∈ l → τ2 t = τ t) (w : World) (O : Nat → Prop) (ρ : List Loc) (tmps : Array Value) (hS : Slots w O ρ τ2 tmps) : Slots w O ρ (opR l τ) tmps := by
  intro t
  unfold opR
  cases hm : memN t l with
  | true => dsimp only; rw [← h t (memN_iff.1 hm)]; exact hS t
  | false => exact .bad

theorem opI_step {i : Nat} {o : Oper} {x : AV} {l : List Nat} (ho : ops[i]? = some o) (hg : o.guard = none) (hdn : ∀ d, o.dst = some d → Nat.blt d n = true) (hl : tmpsOf o.op.operands.toList = l) (hs : OpStep P (opR l τ) ar o x ar) : OpI P f n ar ops i o τ x := by
  intro τ2 h2 C rest k Q _ hr
  have hs2 : OpStep P τ2 ar o x ar := hs.slots (opR_slots (fun t ht => h2 t (looks_of (by rw [hl]; exact ht))))
  cases hd : o.dst with
  | none => rw [hd] at hr; exact run_op0 ho hg hd hs2 hr
  | some d => rw [hd] at hr; exact run_op ho hg hd (hdn d hd) hs2 hr

theorem opI_stepU {i : Nat} {o : Oper} {x : AV} {l : List Nat} {j d : Nat} {want b : Bool} {oc : Option Bool} (ho : ops[i]? = some o) (hg : o.guard = some (j, want)) (hb : GuardA n τ ops j oc b) (hd : o.dst = some d) (hdn : Nat.blt d n = true)
    (hl : l = sops o.op) (hgk : GOKs (condOf oc b want) τ l) (hs : condOf oc b want = true → OpStep P (opS (tmpsOf o.op.operands.toList) l τ) ar o x ar) : OpI P f n ar ops i o τ (.opt (condOf oc b want) x) := by
  intro τ2 h2 C rest k Q _ hr
  have hLk : ∀ t, t ∈ tmpsOf o.op.operands.toList → τ2 t = τ t := fun t ht => h2 t (looks_of ht)
  have hlk : ∀ t, t ∈ l → τ2 t = τ t := fun t ht => hLk t (sops_sub (by rw [← hl]; exact ht))
  have hgd : ∀ dj oj, ops[j]? = some oj → oj.dst = some dj → τ2 dj = τ dj := fun dj oj h1 h3 => h2 dj (by
    unfold Oper.looksAt
    refine List.mem_append_right _ ?_
    simp [hg, h1, h3])
  have hT : opS (tmpsOf o.op.operands.toList) l τ2 = opS (tmpsOf o.op.operands.toList) l τ := by
    funext t
    unfold opS
    cases hm : memN t l with
    | true => dsimp only; rw [hlk t (memN_iff.1 hm)]
    | false =>
      dsimp only
      cases hm2 : memN t (tmpsOf o.op.operands.toList) with
      | true => dsimp only; rw [hLk t (memN_iff.1 hm2)]
      | false => rfl
  have hb2 : GuardA n τ2 ops j oc b := by
    cases hb with
    | @v oj dj b h1 h2' h3 h4 => exact .v h1 h2' h3 (by rw [hgd _ _ h1 h2']; exact h4)
    | @o oj dj b c h1 h2' h3 h4 => exact .o h1 h2' h3 (by rw [hgd _ _ h1 h2']; exact h4)
  have hgk2 : GOKs (condOf oc b want) τ2 l := by
    clear hs hl hT hb2
    induction hgk with
    | nil => exact .nil
    | @cons t' l h1 _ ih => exact .cons (by rw [hlk t' (by simp)]; exact h1) (ih (fun t ht => hlk t (List.mem_cons_of_mem _ ht)))
  rw [hd] at hr
  exact run_opV ho hg hb2 hd hdn hgk2 (fun hc => by rw [hT]; exact hs hc) hr

theorem evA_agree {x : Operand} {τ2 : Nat → AV} {l : List Operand} (h : ∀ t, Operand.tmp t ∈ l → τ2 t = τ t) (hx : x ∈ l) : evA τ2 x = evA τ x := by
  cases x with
  | tmp t => exact h t hx
  | const v => rfl
  | global g => rfl
  | func g => rfl

/-- A call in such a region. -/
theorem opI_call {i : Nat} {o : Oper} {fo : Operand} {xs : Array Operand} {ts : Array TypeId} {g : FuncId} {caps as : List AV} {gn : Func} {gc : Code} [Fun P g gn gc] {fn : Func} {c : Code} [Fun P f fn c] {d : Nat} {r : AV}
    (ho : ops[i]? = some o) (hg : o.guard = none) (hop : o.op = .call { callee := .value fo, args := xs, argTypes := ts }) (hfo : evA τ fo = .fn (.func g) caps) (hdst : o.dst = some d) (hd : Nat.blt d n = true)
    (has : xs.toList.map (evA τ) ++ caps = as) (hu : underAll as = true) (h : CallT P g as [] (fun out A => out = .ret r ∧ A = [])) : OpI P f n ar ops i o τ r := by
  intro τ2 h2 C rest k Q _ hr
  have hmem : ∀ t, Operand.tmp t ∈ (fo :: xs.toList) → τ2 t = τ t := fun t ht => h2 t (by
    unfold Oper.looksAt
    refine List.mem_append_left _ ?_
    rw [List.mem_filterMap]
    refine ⟨.tmp t, ?_, rfl⟩
    rw [hop]
    simpa [Op.operands, Call.operands] using ht)
  rw [hdst] at hr
  refine run_call ho hg hop (by rw [evA_agree hmem (by simp)]; exact hfo) hdst hd ?_ hu h hr
  rw [← has]
  congr 1
  exact List.map_congr_left fun x hx => evA_agree hmem (by simp [hx])

/-- One more, its value told by a step's law. -/
theorem lex_op {i : Nat} {o : Oper} {l : List Oper} {x : AV} (h : OpI P f n ar ops i o τ x) (hr : LexQ P f n ar ops (i + 1) l (updO τ o.dst x) τ') : LexQ P f n ar ops i (o :: l) τ τ' := ⟨x, h, hr⟩
theorem lex_nil {i : Nat} : LexQ P f n ar ops i [] τ τ := rfl

/-- A call. -/
theorem lex_call {i : Nat} {o : Oper} {l : List Oper} {fo : Operand} {xs : Array Operand} {ts : Array TypeId} {g : FuncId} {caps as : List AV} {gn : Func} {gc : Code} [Fun P g gn gc] {fn : Func} {c : Code} [Fun P f fn c] {d : Nat} {r : AV}
    (ho : ops[i]? = some o) (hg : o.guard = none) (hop : o.op = .call { callee := .value fo, args := xs, argTypes := ts }) (hfo : evA τ fo = .fn (.func g) caps) (hdst : o.dst = some d) (hd : Nat.blt d n = true)
    (has : xs.toList.map (evA τ) ++ caps = as) (hu : underAll as = true) (h : CallT P g as [] (fun out A => out = .ret r ∧ A = []))
    (hr : LexQ P f n ar ops (Nat.succ i) l (upd τ d r) τ') : LexQ P f n ar ops i (o :: l) τ τ' :=
  ⟨r, opI_call ho hg hop hfo hdst hd has hu h, by rw [hdst]; exact hr⟩

/-- As far as the machine goes in such a region. -/
def lexA (I : TI) (n : Nat) (ar : List AO) (ops : Array Oper) : Nat → Nat → List Oper → (Nat → AV) → Ob → (Nat → AV) × Nat × List Oper × Ob
  | 0, i, l, τ, ob => (τ, i, l, ob)
  | _ + 1, i, [], τ, ob => (τ, i, [], ob)
  | m + 1, i, o :: l, τ, ob => match o.dst with
    | none => (τ, i, o :: l, ob)
    | some d => match Nat.blt d n with
      | false => (τ, i, o :: l, ob)
      | true => match o.guard with
        | none => match execP I (opR (tmpsOf o.op.operands.toList) τ) ar o.op with
          | some (x, ob') => lexA I n ar ops m (Nat.succ i) l (upd τ d x) (app ob' ob)
          | none => (τ, i, o :: l, ob)
        | some (j, want) => match nth ops.toList j with
          | none => (τ, i, o :: l, ob)
          | some oj => match oj.dst with
            | none => (τ, i, o :: l, ob)
            | some dj => match Nat.blt dj n with
              | false => (τ, i, o :: l, ob)
              | true => match τ dj with
                | .val (.bool b) => match execP I (opS (tmpsOf o.op.operands.toList) (sops o.op) τ) ar o.op with
                  | some (x, ob') => lexA I n ar ops m (Nat.succ i) l (upd τ d (.opt (b == want) x)) (app (obsOf (b == want) τ (sops o.op)) (app (cnd (b == want) ob') ob))
                  | none => (τ, i, o :: l, ob)
                | .opt c (.val (.bool b)) => match execP I (opS (tmpsOf o.op.operands.toList) (sops o.op) τ) ar o.op with
                  | some (x, ob') => lexA I n ar ops m (Nat.succ i) l (upd τ d (.opt (c && (b == want)) x)) (app (obsOf (c && (b == want)) τ (sops o.op)) (app (cnd (c && (b == want)) ob') ob))
                  | none => (τ, i, o :: l, ob)
                | _ => (τ, i, o :: l, ob)

theorem lexA_ok [hI : Inf P I] : ∀ (m i : Nat) (l : List Oper) (τ : Nat → AV) (ob : Ob), (∀ j, j < l.length → l[j]? = ops[i + j]?) → Obs (lexA I n ar ops m i l τ ob).2.2.2 →
    LexQ P f n ar ops (lexA I n ar ops m i l τ ob).2.1 (lexA I n ar ops m i l τ ob).2.2.1 (lexA I n ar ops m i l τ ob).1 τ' → Obs ob ∧ LexQ P f n ar ops i l τ τ'
  | 0, i, l, τ, ob, hl, ho, h => ⟨ho, h⟩
  | m + 1, i, [], τ, ob, hl, ho, h => ⟨ho, h⟩
  | m + 1, i, o :: l, τ, ob, hl, ho, h => by
    have hoi : ops[i]? = some o := by simpa using (hl 0 (by simp)).symm
    have hl' : ∀ j, j < l.length → l[j]? = ops[Nat.succ i + j]? := fun j hj => by have := hl (j + 1) (by simpa using hj); simpa [Nat.add_assoc, Nat.add_comm 1 j] using this
    unfold lexA at ho h
    cases hd : o.dst with
    | none => simp only [hd] at ho h; exact ⟨ho, h⟩
    | some d =>
      simp only [hd] at ho h
      cases hdn : Nat.blt d n with
      | false => simp only [hdn] at ho h; exact ⟨ho, h⟩
      | true =>
        simp only [hdn] at ho h
        cases hg : o.guard with
        | none =>
          simp only [hg] at ho h
          cases hx : execP I (opR (tmpsOf o.op.operands.toList) τ) ar o.op with
          | none => simp only [hx] at ho h; exact ⟨ho, h⟩
          | some p =>
            obtain ⟨x, ob'⟩ := p
            simp only [hx] at ho h
            obtain ⟨h1, h2⟩ := lexA_ok m (Nat.succ i) l _ _ hl' ho h
            rw [app_eq] at h1
            exact ⟨h1.app.2, x, opI_step hoi hg (fun d' e => by rw [hd] at e; cases e; exact hdn) rfl (execP_ok hx h1.app.1), by rw [hd]; exact h2⟩
        | some gw =>
          obtain ⟨j, want⟩ := gw
          simp only [hg] at ho h
          cases hoj : nth ops.toList j with
          | none => simp only [hoj] at ho h; exact ⟨ho, h⟩
          | some oj =>
            simp only [hoj] at ho h
            have hoj' : ops[j]? = some oj := by rw [nth_eq] at hoj; simpa using hoj
            cases hdj : oj.dst with
            | none => simp only [hdj] at ho h; exact ⟨ho, h⟩
            | some dj =>
              simp only [hdj] at ho h
              cases hdjn : Nat.blt dj n with
              | false => simp only [hdjn] at ho h; exact ⟨ho, h⟩
              | true =>
                simp only [hdjn] at ho h
                split at ho
                · rename_i b hb
                  simp only [hb] at h
                  cases hx : execP I (opS (tmpsOf o.op.operands.toList) (sops o.op) τ) ar o.op with
                  | none => simp only [hx] at ho h; exact ⟨ho, h⟩
                  | some p =>
                    obtain ⟨x, ob'⟩ := p
                    simp only [hx] at ho h
                    obtain ⟨h1, h2⟩ := lexA_ok m (Nat.succ i) l _ _ hl' ho h
                    rw [app_eq, app_eq] at h1
                    exact ⟨h1.app.2.app.2, _, opI_stepU (oc := none) (b := b) hoi hg (.v hoj' hdj hdjn hb) hd hdn rfl (goks_of h1.app.1) (fun hc => execP_ok hx (cnd_spec h1.app.2.app.1 hc)), by rw [hd]; exact h2⟩
                · rename_i c b hb
                  simp only [hb] at h
                  cases hx : execP I (opS (tmpsOf o.op.operands.toList) (sops o.op) τ) ar o.op with
                  | none => simp only [hx] at ho h; exact ⟨ho, h⟩
                  | some p =>
                    obtain ⟨x, ob'⟩ := p
                    simp only [hx] at ho h
                    obtain ⟨h1, h2⟩ := lexA_ok m (Nat.succ i) l _ _ hl' ho h
                    rw [app_eq, app_eq] at h1
                    exact ⟨h1.app.2.app.2, _, opI_stepU (oc := some c) (b := b) hoi hg (.o hoj' hdj hdjn hb) hd hdn rfl (goks_of h1.app.1) (fun hc => execP_ok hx (cnd_spec h1.app.2.app.1 hc)), by rw [hd]; exact h2⟩
                · rename_i hb1 hb2
                  split at h
                  · rename_i b hb; exact absurd hb (hb1 b)
                  · rename_i c b hb; exact absurd hb (hb2 c b)
                  · exact ⟨ho, h⟩

theorem fromB {i : Nat} {l : List Oper} (h : (ops.toList.drop i).take l.length = l) : ∀ j, j < l.length → l[j]? = ops[i + j]? := fun j hj => by
  have : l[j]? = ((ops.toList.drop i).take l.length)[j]? := by rw [h]
  rw [this, List.getElem?_take, if_pos hj, List.getElem?_drop]; simp

theorem lex_x [hI : Inf P I] (m : Nat) {i i' : Nat} {l l' : List Oper} {τ1 : Nat → AV} {ob : Ob} (hl : (ops.toList.drop i).take l.length = l) (h : lexA I n ar ops m i l τ [] = (τ1, i', l', ob)) (ho : Obs ob) (hr : LexQ P f n ar ops i' l' τ1 τ') : LexQ P f n ar ops i l τ τ' :=
  (lexA_ok (P := P) (f := f) (τ' := τ') m i l τ [] (fromB hl) (by rw [h]; exact ho) (by rw [h]; exact hr)).2

end
end Go.Iron
