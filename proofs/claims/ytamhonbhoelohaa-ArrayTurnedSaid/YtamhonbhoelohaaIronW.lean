/- Iron: several frames: regions that draw their order. -/
import Derived.Test.YtamhonbhoelohaaIronV
namespace Go.Iron
section
variable {P : Program} {f0 : FuncId} {C : Cx} {T' T2 S S' : List AF} {ar ar' ar2 : List AO} {Q : Out → List AO → Prop} {ops : Array Oper}
variable {f n : Nat} {τ τ' : Nat → AV} {rd : Option Nat} {D : List AV} {kd : CallKind} {k : List Item} {I : TI} {J : TJ}

def execQ (I : TI) (J : TJ) (τ : Nat → AV) (ar : List AO) (op : Op) : Option (AV × Ob) := match execP I τ ar op with
  | some r => some r
  | none => execN I J τ ar op
theorem execQ_ok [hI : Inf P I] [hJ : Inf2 P J] {o : Oper} {x : AV} {ob : Ob} (h : execQ I J τ ar o.op = some (x, ob)) (hob : Obs ob) : OpStep P τ ar o x ar := by
  unfold execQ at h
  split at h
  · rename_i r hr; cases h; exact execP_ok hr hob
  · exact execN_ok h hob

/-- What operation i leaves in its slot, whatever else has been done before, where what it looks at is as τ says; one's own objects stay as they are. -/
def OpJ (P : Program) (n : Nat) (ar : List AO) (ops : Array Oper) (i : Nat) (o : Oper) (τ : Nat → AV) (x : AV) : Prop :=
  ∀ τ2 : Nat → AV, (∀ t, t ∈ o.looksAt ops → τ2 t = τ t) → ∀ (C : Cx) (f : FuncId) (rd : Option Nat) (D : List AV) (kd : CallKind) (rest : List Nat) (k : List Item),
    SimT P C [⟨f, n, τ2, .inRegion ops (i :: rest) :: k, rd, D, kd, .run⟩] ar [⟨f, n, updO τ2 o.dst x, .inRegion ops rest :: k, rd, D, kd, .run⟩] ar
theorem OpJ.congr {i : Nat} {o : Oper} {x : AV} (h : OpJ P n ar ops i o τ x) (ht : ∀ t, t ∈ o.looksAt ops → τ' t = τ t) : OpJ P n ar ops i o τ' x :=
  fun τ2 h2 => h τ2 (fun t hm => (h2 t hm).trans (ht t hm))
/-- The text's order. -/
def LexJ (P : Program) (n : Nat) (ar : List AO) (ops : Array Oper) : Nat → List Oper → (Nat → AV) → (Nat → AV) → Prop
  | _, [], τ, τ' => τ' = τ
  | i, o :: l, τ, τ' => ∃ x, OpJ P n ar ops i o τ x ∧ LexJ P n ar ops (i + 1) l (updO τ o.dst x) τ'

def aOpJ (P : Program) (n : Nat) (ar : List AO) (ops : Array Oper) (i : Nat) (K : (Nat → AV) → Prop) (τ : Nat → AV) : Prop :=
  ∃ o, ops[i]? = some o ∧ ∃ x, OpJ P n ar ops i o τ x ∧ K (updO τ o.dst x)

/-- Whatever order is picked from here on. -/
def anyJ (P : Program) (n : Nat) (ar : List AO) (ops : Array Oper) (T : Nat) (τ' : Nat → AV) : Nat → Array Bool → (Nat → AV) → Prop
  | 0, listed, τ => tailB ops (ops.size - T) T listed = true ∧ τ' = τ
  | fuel + 1, listed, τ => Region.ready .any ops listed ≠ [] ∧
    ∀ i ∈ Region.ready .any ops listed, aOpJ P n ar ops i (anyJ P n ar ops T τ' fuel (listed.setIfInBounds i true)) τ

theorem aOpJ_mono {i : Nat} {K K' : (Nat → AV) → Prop} (h : ∀ τ, K τ → K' τ) (hh : aOpJ P n ar ops i K τ) : aOpJ P n ar ops i K' τ := by
  obtain ⟨o, h1, x, h3, h4⟩ := hh
  exact ⟨o, h1, x, h3, h _ h4⟩

/-- One that is apart may be done before or after. -/
theorem aOpJ_swap {i j : Nat} {oi oj : Oper} {x : AV} (hj : ops[j]? = some oj) (hap : oi.apart ops oj = true) {K : (Nat → AV) → Prop} (hi : OpJ P n ar ops i oi τ x) (h : aOpJ P n ar ops j K (updO τ oi.dst x)) :
    aOpJ P n ar ops j (fun τ2 => OpJ P n ar ops i oi τ2 x ∧ K (updO τ2 oi.dst x)) τ := by
  obtain ⟨h1, h2, h3⟩ := Oper.apart_spec hap
  obtain ⟨o, e, y, hy, hK⟩ := h
  rw [hj] at e
  cases e
  refine ⟨oj, hj, y, hy.congr fun t ht => (updO_other τ (fun e => h1 t e ht)).symm, hi.congr fun t ht => updO_other τ (fun e => h3 t e ht), ?_⟩
  rw [← updO_comm τ x y h2]
  exact hK

theorem anyJ_first {T i : Nat} {oi : Oper} {x : AV} (hi : ops[i]? = some oi) (hT : waitsB ops T i = true) : ∀ (fuel : Nat) (listed : Array Bool) (τ : Nat → AV),
    (∀ j oj, ops[j]? = some oj → j ≠ i → listed.getD j true = false → (∀ e ∈ oj.after, Region.binds .any e = true → e.on ≠ i) → oi.apart ops oj = true) →
    i ∈ Region.ready .any ops listed → OpJ P n ar ops i oi τ x → anyJ P n ar ops T τ' fuel (listed.setIfInBounds i true) (updO τ oi.dst x) → anyJ P n ar ops T τ' (fuel + 1) listed τ := by
  have hnot' : ∀ (listed : Array Bool) (j : Nat) oj, i ∈ Region.ready .any ops listed → j ∈ Region.ready .any ops listed → ops[j]? = some oj → ∀ e ∈ oj.after, Region.binds .any e = true → e.on ≠ i := by
    intro listed j oj hr hj hoj e he hb heq
    obtain ⟨hjun, oj', hoj', hall⟩ := mem_ready.1 hj
    rw [hoj] at hoj'
    cases hoj'
    have h1 := hall e he hb
    have h0 := (mem_ready.1 hr).1
    rw [heq] at h1
    rcases Nat.lt_or_ge i listed.size with h' | h'
    · simp [h'] at h0 h1; rw [h0] at h1; cases h1
    · simp [Array.getElem?_eq_none h'] at h1
  intro fuel
  induction fuel with
  | zero =>
    intro listed τ _ hr hy H
    refine ⟨fun h => (by rw [h] at hr; cases hr), fun j hj => ?_⟩
    by_cases hji : j = i
    · subst hji; exact ⟨oi, hi, x, hy, H⟩
    · obtain ⟨hjT, hc⟩ := tailB_ready H.1 j (ready_mono hj hji)
      subst hjT
      obtain ⟨hjun, oj, hoj, hall⟩ := mem_ready.1 hj
      simp only [waitsB, hoj] at hT
      obtain ⟨e, he, hb⟩ := Array.any_eq_true'.1 hT
      simp only [Bool.and_eq_true, beq_iff_eq] at hb
      exact absurd hb.2 (hnot' listed j oj hr hj hoj e he hb.1)
  | succ fuel ih =>
    intro listed τ hfree hr hy H
    refine ⟨fun h => (by rw [h] at hr; cases hr), fun j hj => ?_⟩
    by_cases hji : j = i
    · subst hji; exact ⟨oi, hi, x, hy, H⟩
    · have h1 := H.2 j (ready_mono hj hji)
      obtain ⟨hjun, oj, hoj, hall⟩ := mem_ready.1 hj
      have h2 := aOpJ_swap hoj (hfree j oj hoj hji hjun (hnot' listed j oj hr hj hoj)) hy h1
      have hfree' : ∀ m om, ops[m]? = some om → m ≠ i → (listed.setIfInBounds j true).getD m true = false →
          (∀ e ∈ om.after, Region.binds .any e = true → e.on ≠ i) → oi.apart ops om = true := fun m om hm hmi hun hno => by
        refine hfree m om hm hmi ?_ hno
        by_cases hjm : j = m
        · subst hjm; exact hjun
        · rw [getD_set_ne true hjm] at hun; exact hun
      refine aOpJ_mono (fun τ2 h3 => ih (listed.setIfInBounds j true) τ2 hfree' (ready_mono hr (Ne.symm hji)) h3.1 ?_) h2
      rw [Array.setIfInBounds_comm _ _ hji]
      exact h3.2

theorem anyJ_lex {T : Nat} : ∀ (l : List Oper) (m : Nat) (listed : Array Bool) (τ : Nat → AV), (∀ j, j < l.length → l[j]? = ops[m + j]?) →
    lexFromT ops T l.length m listed = true → LexJ P n ar ops m l τ τ' → anyJ P n ar ops T τ' l.length listed τ
  | [], _, _, _, _, hB, h => ⟨by simpa [lexFromT] using hB, h⟩
  | o :: l, m, listed, τ, hl, hB, h => by
    have h0 : ops[m]? = some o := by simpa using (hl 0 (by simp)).symm
    simp only [List.length_cons, lexFromT, Bool.and_eq_true] at hB
    obtain ⟨⟨⟨hr, hf⟩, hw⟩, hB'⟩ := hB
    obtain ⟨x, hx, hK⟩ := h
    exact anyJ_first h0 hw l.length listed τ (Region.free_spec h0 hf) (by simpa using hr) hx
      (anyJ_lex l (m + 1) _ _ (fun j hj => by have := hl (j + 1) (by simpa using hj); simpa [Nat.add_assoc, Nat.add_comm 1 j] using this) hB' hK)


theorem sim_any {T : Nat} : ∀ (fuel : Nat) (listed : Array Bool) (τ : Nat → AV), anyJ P n ar ops T τ' fuel listed τ →
    ∀ t, SimT P C [⟨f, n, τ, .inRegion ops (Region.linearise.go .any ops (fuel + (ops.size - T)) t listed []) :: k, rd, D, kd, .run⟩] ar [⟨f, n, τ', .inRegion ops (List.range' T (ops.size - T)) :: k, rd, D, kd, .run⟩] ar
  | 0, listed, τ, h, t => by
    rw [Nat.zero_add, go_tail _ _ _ _ h.1, ← h.2]
    exact SimT.refl
  | fuel + 1, listed, τ, h, t => by
    rw [show fuel + 1 + (ops.size - T) = (fuel + (ops.size - T)) + 1 by omega]
    simp only [Region.linearise.go]
    change SimT P C [⟨f, n, τ, .inRegion ops (match (Region.ready .any ops listed)[t % (Region.ready .any ops listed).length]? with
      | some i => Region.linearise.go .any ops (fuel + (ops.size - T)) (t / (Region.ready .any ops listed).length) (listed.setIfInBounds i true) [i]
      | none => [].reverse) :: k, rd, D, kd, .run⟩] ar _ ar
    cases hi : (Region.ready .any ops listed)[t % (Region.ready .any ops listed).length]? with
    | none =>
      exfalso
      cases hr : Region.ready .any ops listed with
      | nil => exact h.1 hr
      | cons x xs =>
        rw [hr] at hi
        have hlt : t % (x :: xs).length < (x :: xs).length := Nat.mod_lt _ (by simp)
        simp at hi
        simp at hlt
        omega
    | some i =>
      simp only []
      rw [linearise_go_acc, List.reverse_singleton, List.singleton_append]
      obtain ⟨o, ho, x, hx, hK⟩ := h.2 i (List.mem_of_getElem? hi)
      exact (hx τ (fun _ _ => rfl) C f rd D kd _ k).trans (sim_any fuel _ _ hK _)

def drawB (ops : Array Oper) (T : Nat) : Bool := Nat.ble T ops.size && lexFromT ops T T 0 (Array.replicate ops.size false)

/-- A region that draws its order. -/
theorem sim_draw (T : Nat) {id : Nat} (hm : P.follows .mixedOrders = true) (hB : drawB ops T = true) (hl : LexJ P n ar ops 0 (ops.toList.take T) τ τ') :
    SimT P C [⟨f, n, τ, .code (.region id ops true) :: k, rd, D, kd, .run⟩] ar [⟨f, n, τ', .inRegion ops (List.range' T (ops.size - T)) :: k, rd, D, kd, .run⟩] ar := by
  unfold drawB at hB
  simp only [Bool.and_eq_true, Nat.ble_eq] at hB
  obtain ⟨hT, hB⟩ := hB
  have hlen : (ops.toList.take T).length = T := by simp; omega
  have hany := anyJ_lex (P := P) (n := n) (ar := ar) (T := T) (ops := ops) (τ' := τ') (ops.toList.take T) 0 (Array.replicate ops.size false) τ (fun j hj => by rw [List.getElem?_take, if_pos (by omega)]; simp) (by rw [hlen]; exact hB) hl
  intro ts w ρ cs hts hR
  obtain ⟨fr, m, rfl, hf, hn⟩ := l2_cons hts
  cases hn
  obtain ⟨y, k', h0, h1, h2⟩ := l2_cons hf.todo
  cases itemR_code h1
  obtain ⟨r1, r2⟩ := hR.draw
  have hrun := sim_any (C := C) (f := f) (rd := rd) (D := D) (kd := kd) (k := k) _ _ _ hany (w.tape w.drawn (.order fr.fn id))
  rw [hlen, show T + (ops.size - T) = ops.size by omega] at hrun
  let fr1 := fr.atR ⟨fr.tmps, fr.defers⟩ (.inRegion ops (Region.linearise.go .any ops ops.size (w.tape w.drawn (.order fr.fn id)) (Array.replicate ops.size false) []) :: k')
  have hf2 := hf.mono r2 (Compat.refl _)
  obtain ⟨ts', w', ρ', s, a1, a2, a3, a4⟩ := hrun [fr1] { w with drawn := w.drawn + 1 } ρ cs (.cons ⟨hf.fn, hf.size, hf2.slots, .cons .inRegion h2, hf.rd, hf2.defs, hf.kind, rfl⟩ .nil) r1
  refine ⟨ts', w', ρ', .head ?_ s, a1, a2, a3, r2.trans a4⟩
  have := stepR_region_draw (P := P) (b := fr) (a := ⟨fr.tmps, fr.defers⟩) (k := k') (cs := cs) (w := w) (ops := ops) (id := id)
  rw [← h0, atR_self hf.mode] at this
  simp only [Region.schedule, hm, Bool.true_or, if_true] at this
  exact this

theorem opJ_step {i : Nat} {o : Oper} {x : AV} {l : List Nat} (ho : ops[i]? = some o) (hg : o.guard = none) (hdn : ∀ d, o.dst = some d → Nat.blt d n = true) (hl : tmpsOf o.op.operands.toList = l) (hs : OpStep P (opR l τ) ar o x ar) : OpJ P n ar ops i o τ x := by
  intro τ2 h2 C f rd D kd rest k
  exact sim_op ho hg hdn (hs.slots (opR_slots (fun t ht => h2 t (looks_of (by rw [hl]; exact ht)))))

theorem opJ_stepU {i : Nat} {o : Oper} {x : AV} {l : List Nat} {j d : Nat} {want b : Bool} {oc : Option Bool} (ho : ops[i]? = some o) (hg : o.guard = some (j, want)) (hb : GuardA n τ ops j oc b) (hd : o.dst = some d) (hdn : Nat.blt d n = true)
    (hl : l = sops o.op) (hgk : GOKs (condOf oc b want) τ l) (hs : condOf oc b want = true → OpStep P (opS (tmpsOf o.op.operands.toList) l τ) ar o x ar) : OpJ P n ar ops i o τ (.opt (condOf oc b want) x) := by
  intro τ2 h2 C f rd D kd rest k
  have hLk : ∀ t, t ∈ tmpsOf o.op.operands.toList → τ2 t = τ t := fun t ht => h2 t (looks_of ht)
  have hlk : ∀ t, t ∈ l → τ2 t = τ t := fun t ht => hLk t (sops_sub (by rw [← hl]; exact ht))
  have hgd : ∀ dj oj, ops[j]? = some oj → oj.dst = some dj → τ2 dj = τ dj := fun dj oj h1 h3 => h2 dj (by
    unfold Oper.looksAt
    refine List.mem_append_right _ ?_
    simp [hg, h1, h3])
  have hT : opS (tmpsOf o.op.operands.toList) l τ2 = opS (tmpsOf o.op.operands.toList) l τ := by
    funext t
    unfold opS
    cases hm : memN t l with
    | true => dsimp only; rw [hlk t (memN_iff.1 hm)]
    | false =>
      dsimp only
      cases hm2 : memN t (tmpsOf o.op.operands.toList) with
      | true => dsimp only; rw [hLk t (memN_iff.1 hm2)]
      | false => rfl
  have hb2 : GuardA n τ2 ops j oc b := by
    cases hb with
    | @v oj dj b h1 h2' h3 h4 => exact .v h1 h2' h3 (by rw [hgd _ _ h1 h2']; exact h4)
    | @o oj dj b c h1 h2' h3 h4 => exact .o h1 h2' h3 (by rw [hgd _ _ h1 h2']; exact h4)
  have hgk2 : GOKs (condOf oc b want) τ2 l := by
    clear hs hl hT hb2
    induction hgk with
    | nil => exact .nil
    | @cons t' l h1 _ ih => exact .cons (by rw [hlk t' (by simp)]; exact h1) (ih (fun t ht => hlk t (List.mem_cons_of_mem _ ht)))
  have := sim_opV (P := P) (C := C) (f := f) (rd := rd) (D := D) (kd := kd) (k := k) (rest := rest) ho hg hb2 hd hdn hgk2 (fun hc => by rw [hT]; exact hs hc)
  rw [hd]
  exact this

/-- A call of known contract in such a region. -/
theorem opJ_call {i : Nat} {o : Oper} {fo : Operand} {xs : Array Operand} {ts : Array TypeId} {g : FuncId} {caps as : List AV} {gn : Func} {gc : Code} [Fun P g gn gc] {r : AV}
    (ho : ops[i]? = some o) (hg : o.guard = none) (hop : o.op = .call { callee := .value fo, args := xs, argTypes := ts }) (hfo : evA τ fo = .fn (.func g) caps) (hd : dstOK n o.dst = true)
    (has : xs.toList.map (evA τ) ++ caps = as) (hu : AV.unders 0 as = true) (h : CallT P g as [] (fun out A => out = .ret r ∧ A = [])) : OpJ P n ar ops i o τ r := by
  intro τ2 h2 C f rd D kd rest k
  have hmem : ∀ t, Operand.tmp t ∈ (fo :: xs.toList) → τ2 t = τ t := fun t ht => h2 t (by
    unfold Oper.looksAt
    refine List.mem_append_left _ ?_
    rw [List.mem_filterMap]
    refine ⟨.tmp t, ?_, rfl⟩
    rw [hop]
    simpa [Op.operands, Call.operands] using ht)
  refine sim_contract (A := []) (A' := []) (B := ar) rfl ho hg hop (by rw [evA_agree hmem (by simp)]; exact hfo) ?_ hu .nil rfl h hd
  rw [← has]
  congr 1
  exact List.map_congr_left fun x hx => evA_agree hmem (by simp [hx])

theorem lexj_nil {i : Nat} : LexJ P n ar ops i [] τ τ := rfl
theorem lexj_call {i : Nat} {o : Oper} {l : List Oper} {fo : Operand} {xs : Array Operand} {ts : Array TypeId} {g : FuncId} {caps as : List AV} {gn : Func} {gc : Code} [Fun P g gn gc] {d : Nat} {r : AV}
    (ho : ops[i]? = some o) (hg : o.guard = none) (hop : o.op = .call { callee := .value fo, args := xs, argTypes := ts }) (hfo : evA τ fo = .fn (.func g) caps) (hdst : o.dst = some d) (hd : Nat.blt d n = true)
    (has : xs.toList.map (evA τ) ++ caps = as) (hu : AV.unders 0 as = true) (h : CallT P g as [] (fun out A => out = .ret r ∧ A = []))
    (hr : LexJ P n ar ops (Nat.succ i) l (upd τ d r) τ') : LexJ P n ar ops i (o :: l) τ τ' :=
  ⟨r, opJ_call ho hg hop hfo (by rw [hdst]; exact hd) has hu h, by rw [hdst]; exact hr⟩

/-- As far as the machine goes in such a region. -/
def lexB (I : TI) (J : TJ) (n : Nat) (ar : List AO) (ops : Array Oper) : Nat → Nat → List Oper → (Nat → AV) → Ob → (Nat → AV) × Nat × List Oper × Ob
  | 0, i, l, τ, ob => (τ, i, l, ob)
  | _ + 1, i, [], τ, ob => (τ, i, [], ob)
  | m + 1, i, o :: l, τ, ob => match o.dst with
    | none => (τ, i, o :: l, ob)
    | some d => match Nat.blt d n with
      | false => (τ, i, o :: l, ob)
      | true => match o.guard with
        | none => match execQ I J (opR (tmpsOf o.op.operands.toList) τ) ar o.op with
          | some (x, ob') => lexB I J n ar ops m (Nat.succ i) l (upd τ d x) (app ob' ob)
          | none => (τ, i, o :: l, ob)
        | some (j, want) => match nth ops.toList j with
          | none => (τ, i, o :: l, ob)
          | some oj => match oj.dst with
            | none => (τ, i, o :: l, ob)
            | some dj => match Nat.blt dj n with
              | false => (τ, i, o :: l, ob)
              | true => match τ dj with
                | .val (.bool b) => match execQ I J (opS (tmpsOf o.op.operands.toList) (sops o.op) τ) ar o.op with
                  | some (x, ob') => lexB I J n ar ops m (Nat.succ i) l (upd τ d (.opt (b == want) x)) (app (obsOf (b == want) τ (sops o.op)) (app (cnd (b == want) ob') ob))
                  | none => (τ, i, o :: l, ob)
                | .opt c (.val (.bool b)) => match execQ I J (opS (tmpsOf o.op.operands.toList) (sops o.op) τ) ar o.op with
                  | some (x, ob') => lexB I J n ar ops m (Nat.succ i) l (upd τ d (.opt (c && (b == want)) x)) (app (obsOf (c && (b == want)) τ (sops o.op)) (app (cnd (c && (b == want)) ob') ob))
                  | none => (τ, i, o :: l, ob)
                | _ => (τ, i, o :: l, ob)

theorem lexB_ok [hI : Inf P I] [hJ : Inf2 P J] : ∀ (m i : Nat) (l : List Oper) (τ : Nat → AV) (ob : Ob), (∀ j, j < l.length → l[j]? = ops[i + j]?) → Obs (lexB I J n ar ops m i l τ ob).2.2.2 →
    LexJ P n ar ops (lexB I J n ar ops m i l τ ob).2.1 (lexB I J n ar ops m i l τ ob).2.2.1 (lexB I J n ar ops m i l τ ob).1 τ' → Obs ob ∧ LexJ P n ar ops i l τ τ'
  | 0, i, l, τ, ob, hl, ho, h => ⟨ho, h⟩
  | m + 1, i, [], τ, ob, hl, ho, h => ⟨ho, h⟩
  | m + 1, i, o :: l, τ, ob, hl, ho, h => by
    have hoi : ops[i]? = some o := by simpa using (hl 0 (by simp)).symm
    have hl' : ∀ j, j < l.length → l[j]? = ops[Nat.succ i + j]? := fun j hj => by have := hl (j + 1) (by simpa using hj); simpa [Nat.add_assoc, Nat.add_comm 1 j] using this
    unfold lexB at ho h
    cases hd : o.dst with
    | none => simp only [hd] at ho h; exact ⟨ho, h⟩
    | some d =>
      simp only [hd] at ho h
      cases hdn : Nat.blt d n with
      | false => simp only [hdn] at ho h; exact ⟨ho, h⟩
      | true =>
        simp only [hdn] at ho h
        cases hg : o.guard with
        | none =>
          simp only [hg] at ho h
          cases hx : execQ I J (opR (tmpsOf o.op.operands.toList) τ) ar o.op with
          | none => simp only [hx] at ho h; exact ⟨ho, h⟩
          | some p =>
            obtain ⟨x, ob'⟩ := p
            simp only [hx] at ho h
            obtain ⟨h1, h2⟩ := lexB_ok m (Nat.succ i) l _ _ hl' ho h
            rw [app_eq] at h1
            exact ⟨h1.app.2, x, opJ_step hoi hg (fun d' e => by rw [hd] at e; cases e; exact hdn) rfl (execQ_ok hx h1.app.1), by rw [hd]; exact h2⟩
        | some gw =>
          obtain ⟨j, want⟩ := gw
          simp only [hg] at ho h
          cases hoj : nth ops.toList j with
          | none => simp only [hoj] at ho h; exact ⟨ho, h⟩
          | some oj =>
            simp only [hoj] at ho h
            have hoj' : ops[j]? = some oj := by rw [nth_eq] at hoj; simpa using hoj
            cases hdj : oj.dst with
            | none => simp only [hdj] at ho h; exact ⟨ho, h⟩
            | some dj =>
              simp only [hdj] at ho h
              cases hdjn : Nat.blt dj n with
              | false => simp only [hdjn] at ho h; exact ⟨ho, h⟩
              | true =>
                simp only [hdjn] at ho h
                split at ho
                · rename_i b hb
                  simp only [hb] at h
                  cases hx : execQ I J (opS (tmpsOf o.op.operands.toList) (sops o.op) τ) ar o.op with
                  | none => simp only [hx] at ho h; exact ⟨ho, h⟩
                  | some p =>
                    obtain ⟨x, ob'⟩ := p
                    simp only [hx] at ho h
                    obtain ⟨h1, h2⟩ := lexB_ok m (Nat.succ i) l _ _ hl' ho h
                    rw [app_eq, app_eq] at h1
                    exact ⟨h1.app.2.app.2, _, opJ_stepU (oc := none) (b := b) hoi hg (.v hoj' hdj hdjn hb) hd hdn rfl (goks_of h1.app.1) (fun hc => execQ_ok hx (cnd_spec h1.app.2.app.1 hc)), by rw [hd]; exact h2⟩
                · rename_i c b hb
                  simp only [hb] at h
                  cases hx : execQ I J (opS (tmpsOf o.op.operands.toList) (sops o.op) τ) ar o.op with
                  | none => simp only [hx] at ho h; exact ⟨ho, h⟩
                  | some p =>
                    obtain ⟨x, ob'⟩ := p
                    simp only [hx] at ho h
                    obtain ⟨h1, h2⟩ := lexB_ok m (Nat.succ i) l _ _ hl' ho h
                    rw [app_eq, app_eq] at h1
                    exact ⟨h1.app.2.app.2, _, opJ_stepU (oc := some c) (b := b) hoi hg (.o hoj' hdj hdjn hb) hd hdn rfl (goks_of h1.app.1) (fun hc => execQ_ok hx (cnd_spec h1.app.2.app.1 hc)), by rw [hd]; exact h2⟩
                · rename_i hb1 hb2
                  split at h
                  · rename_i b hb; exact absurd hb (hb1 b)
                  · rename_i c b hb; exact absurd hb (hb2 c b)
                  · exact ⟨ho, h⟩


theorem lexj_x [hI : Inf P I] [hJ : Inf2 P J] (m : Nat) {i i' : Nat} {l l' : List Oper} {τ1 : Nat → AV} {ob : Ob} (hl : (ops.toList.drop i).take l.length = l) (h : lexB I J n ar ops m i l τ [] = (τ1, i', l', ob)) (ho : Obs ob) (hr : LexJ P n ar ops i' l' τ1 τ') : LexJ P n ar ops i l τ τ' :=
  (lexB_ok (P := P) (τ' := τ') m i l τ [] (fromB hl) (by rw [h]; exact ho) (by rw [h]; exact hr)).2
end
end Go.Iron
