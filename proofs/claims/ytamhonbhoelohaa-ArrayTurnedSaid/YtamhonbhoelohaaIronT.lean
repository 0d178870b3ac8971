/- Iron: into calls and out of them; rounds of ranges; what is put off; panics. -/
import Derived.Test.YtamhonbhoelohaaIronS
namespace Go.Iron
section
variable {P : Program} {f0 : FuncId} {C : Cx} {T T' T2 S S' : List AF} {ar ar' ar2 : List AO} {Q : Out → List AO → Prop} {ops : Array Oper}
variable {f n : Nat} {τ : Nat → AV} {rd : Option Nat} {D : List AV} {kd : CallKind} {k : List Item}

/-- A function's frame as it begins. -/
theorem frR_enter {g : FuncId} {gn : Func} {c : Code} {w : World} {O : Nat → Prop} {ρ : List Loc} (hgn : P.funcs[g]? = some gn) (hb : gn.body = some c) {as : List AV} {vs : Array Value} (hl : vs.size = as.length) (hn : Nat.ble as.length gn.ntmps = true)
    (hv : ∀ (i : Nat) x v, as[i]? = some x → vs[i]? = some v → RV w O ρ x v) (kd : CallKind) : FrR w O ρ ⟨g, gn.ntmps, argsT as, [.code c], none, [], kd, .run⟩ (Frame.enter P g vs kd) := by
  have hle : as.length ≤ gn.ntmps := by simpa [Nat.ble_eq] using hn
  refine ⟨rfl, by simp [Frame.enter, hgn]; omega, fun t => ?_, ?_, .none, .nil, rfl, rfl⟩
  · simp only [Frame.enter, hgn, Option.map_some, Option.getD_some]
    unfold argsT
    rw [nth_eq]
    cases hx : as[t]? with
    | none =>
      have ht : as.length ≤ t := by simpa using hx
      have : (vs ++ Array.replicate (gn.ntmps - vs.size) undef).getD t undef = undef := by
        rw [Array.getD_eq_getD_getElem?, Array.getElem?_append_right (by omega), Array.getElem?_replicate]
        split <;> rfl
      simp only [this]
      exact .val
    | some x =>
      have ht : t < as.length := (List.getElem?_eq_some_iff.1 hx).1
      have : (vs ++ Array.replicate (gn.ntmps - vs.size) undef).getD t undef = vs[t]'(by omega) := by
        rw [Array.getD_eq_getD_getElem?, Array.getElem?_append_left (by omega)]
        simp [hl, ht]
      simp only [this]
      exact hv t x _ hx (by simp [hl, ht])
  · simp only [Frame.enter, hgn, Option.bind_some, hb, Option.getD_some]
    exact .cons .code .nil

/-- A call's arguments. -/
theorem args_rv {w : World} {O : Nat → Prop} {ρ : List Loc} {a : Act} (h : Slots w O ρ τ a.tmps) (xs : Array Operand) {caps : List AV} {cvs : Array Value} (hcl : caps.length = cvs.size)
    (hcr : ∀ (i : Nat) x u, caps[i]? = some x → cvs[i]? = some u → RV w O ρ x u) :
    (xs.map a.eval ++ cvs).size = (xs.toList.map (evA τ) ++ caps).length ∧ ∀ (j : Nat) x v, (xs.toList.map (evA τ) ++ caps)[j]? = some x → (xs.map a.eval ++ cvs)[j]? = some v → RV w O ρ x v := by
  refine ⟨by simp [hcl], fun j x v hx hv => ?_⟩
  by_cases hj : j < xs.size
  · rw [List.getElem?_append_left (by simpa using hj)] at hx
    rw [Array.getElem?_append_left (by simpa using hj)] at hv
    simp only [List.getElem?_map, Array.getElem?_toList, Array.getElem?_map] at hx hv
    cases hxj : xs[j]? with
    | none => simp [hxj] at hx
    | some z =>
      simp [hxj] at hx hv
      subst hx
      subst hv
      exact evA_ok h z
  · rw [List.getElem?_append_right (by simpa using hj)] at hx
    rw [Array.getElem?_append_right (by simpa using hj)] at hv
    simp only [List.length_map, Array.length_toList, Array.size_map] at hx hv
    exact hcr _ x v hx hv

theorem call_enter {o : Oper} {fo : Operand} {xs : Array Operand} {ts : Array TypeId} {a : Act} {g : FuncId} {gn : Func} {c : Code} {cvs : Array Value} {w : World} (hgn : P.funcs[g]? = some gn) (hb : gn.body = some c) (hnm : (gn.name == "runtime.NumGoroutine") = false)
    (hop : o.op = .call { callee := .value fo, args := xs, argTypes := ts }) (hfo : a.eval fo = .func (.func g) #[] cvs) : (execOp a.eval o).run P w = .ok (.enter g (xs.map a.eval ++ cvs)) w := by
  have hbe : gn.body ≠ none := by rw [hb]; simp
  have hnm' : gn.name ≠ "runtime.NumGoroutine" := by simpa using hnm
  simp [execOp, hop, resolve, hfo, Deferred.ofValue, invoke, callFunc, hgn, hnm', hbe]

/-- Into a call. -/
theorem sim_call {i : Nat} {rest : List Nat} {o : Oper} {fo : Operand} {xs : Array Operand} {ts : Array TypeId} {g : FuncId} {caps as : List AV} {gn : Func} {c : Code} (ho : ops[i]? = some o) (hg : o.guard = none)
    (hop : o.op = .call { callee := .value fo, args := xs, argTypes := ts }) (hfo : evA τ fo = .fn (.func g) caps) (hgn : P.funcs[g]? = some gn) (hb : gn.body = some c) (hnm : (gn.name == "runtime.NumGoroutine") = false)
    (has : xs.toList.map (evA τ) ++ caps = as) (hn : Nat.ble as.length gn.ntmps = true) :
    SimT P C [⟨f, n, τ, .inRegion ops (i :: rest) :: k, rd, D, kd, .run⟩] ar [⟨g, gn.ntmps, argsT as, [.code c], none, [], .normal, .run⟩, ⟨f, n, τ, .inRegion ops (i :: rest) :: k, rd, D, kd, .run⟩] ar := by
  intro ts' w ρ cs hts hR
  obtain ⟨fr, m, rfl, hf, hn'⟩ := l2_cons hts
  cases hn'
  obtain ⟨k', h2, h0⟩ := top_op hf
  have hfv := evA_ok (a := ⟨fr.tmps, fr.defers⟩) hf.slots fo
  rw [show evA τ fo = _ from hfo] at hfv
  obtain ⟨cvs, hfo', hcl, hcr⟩ := rv_fn hfv
  obtain ⟨hl, hv⟩ := args_rv (a := ⟨fr.tmps, fr.defers⟩) hf.slots xs hcl hcr
  rw [show xs.toList.map (evA τ) ++ caps = as from has] at hl hv
  refine ⟨[_, fr], w, ρ, Steps.one ?_, .cons (frR_enter (P := P) hgn hb hl hn hv .normal) (.cons hf .nil), hR, Compat.refl _, Pres.refl _ _⟩
  have hgo := stepGR_op (P := P) (b := fr) (a := ⟨fr.tmps, fr.defers⟩) (k := k') (cs := cs) (w := w) (rest := rest) ho (by simp [Region.wanted, hg])
  rw [Oper.semAt_eq _ _ _ (fun c h => by rw [hop] at h; cases h), ← h0, atR_self hf.mode] at hgo
  have hkind : (match fr.todo with | .call _ true _ _ :: _ => CallKind.wrapped | _ => .normal) = .normal := by rw [h0]
  show step P (lone fr cs w) = .next (lone _ (fr :: cs) w)
  exact step_lone_go (by rw [hgo]; simp [stepG.apply, call_enter (P := P) (w := w) hgn hb hnm hop hfo', h0])

def updL (τ : Nat → AV) : List Nat → List AV → Nat → AV
  | p :: ps, x :: xs => updL (upd τ p x) ps xs
  | _, _ => τ
def allLt (n : Nat) : List Nat → Bool
  | [] => true
  | p :: ps => match Nat.blt p n with
    | true => allLt n ps
    | false => false
theorem updL_ok {w : World} {O : Nat → Prop} {ρ : List Loc} : ∀ (ps : List Nat) (xs : List AV) (vs : List Value) (τ : Nat → AV) (tmps : Array Value), Slots w O ρ τ tmps → tmps.size = n → allLt n ps = true → xs.length = vs.length →
    (∀ (i : Nat) x v, xs[i]? = some x → vs[i]? = some v → RV w O ρ x v) → ps.length = xs.length →
    ((ps.zip vs).foldl (fun tmps (t, a) => tmps.setIfInBounds t a) tmps).size = n ∧ Slots w O ρ (updL τ ps xs) ((ps.zip vs).foldl (fun tmps (t, a) => tmps.setIfInBounds t a) tmps)
  | [], xs, vs, τ, tmps, h1, h2, _, _, _, _ => by
    refine ⟨by simpa using h2, ?_⟩
    cases xs <;> simpa [updL] using h1
  | p :: ps, [], vs, τ, tmps, h1, h2, h3, h4, h5, h6 => by simp at h6
  | p :: ps, x :: xs, [], τ, tmps, h1, h2, h3, h4, h5, h6 => by simp at h4
  | p :: ps, x :: xs, v :: vs, τ, tmps, h1, h2, h3, h4, h5, h6 => by
    simp only [allLt] at h3
    cases hp : Nat.blt p n with
    | false => simp [hp] at h3
    | true =>
      simp only [hp] at h3
      have hp' : p < tmps.size := by rw [h2]; simpa [Nat.blt_eq] using hp
      simp only [List.zip_cons_cons, List.foldl_cons, updL]
      exact updL_ok ps xs vs _ _ (slots_put (a := ⟨tmps, []⟩) h1 hp' (h5 0 x v rfl rfl)) (by simpa using h2) h3 (by simpa using h4) (fun i y u a b => h5 (i + 1) y u (by simpa using a) (by simpa using b)) (by simpa using h6)

/-- An object of one's own, where it lies. -/
theorem obj_at {w : World} {ρ : List Loc} (hR : RelA C ρ ar w) {id l : Nat} {o : AO} (ho : ar[id]? = some o) (hr : RefR ρ id l) (h0 : ∀ L, ObjOK w (Ow C ρ ar) ρ o L → L.ver = 0) :
    ∃ L, ρ[id]? = some L ∧ L.ver = 0 ∧ L.v = .pointer (some ⟨l, 0, none⟩) ∧ ObjOK w (Ow C ρ ar) ρ o L := by
  obtain ⟨L, h1, h2⟩ := hr
  have h3 := hR.obj id o L ho h1
  exact ⟨L, h1, h0 L h3, h2 (h0 L h3), h3⟩

theorem loop_at {w : World} {ρ : List Loc} (hR : RelA C ρ ar w) {id l : Nat} {st pd f2 n2 τ2 ps asg bd} (ho : ar[id]? = some (.loop st pd f2 n2 τ2 ps asg bd)) (hr : RefR ρ id l) :
    ∃ L tmps dd, ρ[id]? = some L ∧ L.ver = 0 ∧ L.v = .pointer (some ⟨l, 0, none⟩) ∧ w.heap[l]? = some (.loop { state := st, pending := pd, fn := f2, tmps, params := ps, assign := asg, body := bd, defers := dd }) ∧ tmps.size = n2 ∧ Slots w (Ow C ρ ar) ρ τ2 tmps := by
  obtain ⟨L, h1, h2, h3, _, b, tmps, dd, h4, h5, h6, h7⟩ := obj_at hR ho hr (fun L h => h.1)
  rw [h3] at h4
  cases h4
  exact ⟨L, tmps, dd, h1, h2, h3, h5, h6, h7⟩

/-- A round begins. -/
theorem sim_yield {i : Nat} {rest : List Nat} {o : Oper} {fo : Operand} {xs : Array Operand} {ts : Array TypeId} {id : Nat} {as : List AV} {st pd f2 n2 τ2 ps asg bd} (ho : ops[i]? = some o) (hg : o.guard = none)
    (hop : o.op = .call { callee := .value fo, args := xs, argTypes := ts }) (hfo : evA τ fo = .yld id) (hl : nth ar id = some (.loop st pd f2 n2 τ2 ps asg bd))
    (has : xs.toList.map (evA τ) = as) (hps : Nat.beq ps.toList.length as.length = true) (hlt : allLt n2 ps.toList = true) :
    SimT P C [⟨f, n, τ, .inRegion ops (i :: rest) :: k, rd, D, kd, .run⟩] ar [⟨f2, n2, updL τ2 ps.toList as, [.code asg, .beginRound, .code bd], some id, [], .normal, .run⟩, ⟨f, n, τ, .inRegion ops (i :: rest) :: k, rd, D, kd, .run⟩] ar := by
  intro ts' w ρ cs hts hR
  obtain ⟨fr, m, rfl, hf, hn'⟩ := l2_cons hts
  cases hn'
  obtain ⟨k', h2, h0⟩ := top_op hf
  rw [nth_eq] at hl
  have hfv := evA_ok (a := ⟨fr.tmps, fr.defers⟩) hf.slots fo
  rw [show evA τ fo = _ from hfo] at hfv
  obtain ⟨L0, l, e1, e2, hfo'⟩ := rv_yld hfv
  obtain ⟨L, tmps, dd, r1, r2, r3, r4, r5, r6⟩ := loop_at hR hl ⟨L0, e1, e2⟩
  obtain ⟨ha, hv⟩ := args_rv (a := ⟨fr.tmps, fr.defers⟩) (caps := []) (cvs := #[]) hf.slots xs rfl (fun i x u h => by simp at h)
  have has' : xs.toList.map (evA τ) = as := has
  simp only [List.append_nil, Array.append_empty, has'] at ha hv
  have hps' : ps.toList.length = as.length := Nat.eq_of_beq_eq_true hps
  obtain ⟨u1, u2⟩ := updL_ok ps.toList as (xs.map (⟨fr.tmps, fr.defers⟩ : Act).eval).toList τ2 tmps r6 r5 hlt (by rw [Array.length_toList]; exact ha.symm) (fun j x v hx hv' => hv j x v hx (by simpa using hv')) hps'
  have hfold : ((ps.zip (xs.map (⟨fr.tmps, fr.defers⟩ : Act).eval)).foldl (fun tmps (t, a) => tmps.setIfInBounds t a) tmps) = ((ps.toList.zip (xs.map (⟨fr.tmps, fr.defers⟩ : Act).eval).toList).foldl (fun tmps (t, a) => tmps.setIfInBounds t a) tmps) := by
    rw [← Array.foldl_toList, Array.toList_zip]
  refine ⟨[_, fr], w, ρ, Steps.one ?_, .cons (b := Frame.round l f2 ((ps.zip (xs.map (⟨fr.tmps, fr.defers⟩ : Act).eval)).foldl (fun tmps (t, a) => tmps.setIfInBounds t a) tmps) asg bd .normal) ⟨rfl, by rw [hfold]; exact u1, by rw [hfold]; exact u2, .cons .code (.cons .beginRound (.cons .code .nil)), .some ⟨L, r1, fun _ => r3⟩, .nil, rfl, rfl⟩ (.cons hf .nil), hR, Compat.refl _, Pres.refl _ _⟩
  have hgo := stepGR_op (P := P) (b := fr) (a := ⟨fr.tmps, fr.defers⟩) (k := k') (cs := cs) (w := w) (rest := rest) ho (by simp [Region.wanted, hg])
  rw [Oper.semAt_eq _ _ _ (fun c h => by rw [hop] at h; cases h), ← h0, atR_self hf.mode] at hgo
  have hrun : (execOp (⟨fr.tmps, fr.defers⟩ : Act).eval o).run P w = .ok (.round l f2 ((ps.zip (xs.map (⟨fr.tmps, fr.defers⟩ : Act).eval)).foldl (fun tmps (t, a) => tmps.setIfInBounds t a) tmps) asg bd) w := by
    have hy := run_yield (P := P) (args := xs.map (⟨fr.tmps, fr.defers⟩ : Act).eval) r4 (by rw [ha, ← hps']; simp)
    simp only [execOp, hop, resolve, hfo', Deferred.ofValue, invoke, Sem.run_bind, Sem.run_pure, Result.andThen_ok, Array.empty_append]
    exact hy
  show step P (lone fr cs w) = .next (lone _ (fr :: cs) w)
  exact step_lone_go (by rw [hgo]; simp [stepG.apply, hrun, h0])

/-- A loop's record is turned. -/
theorem loop_put {w : World} {ρ : List Loc} (hR : RelA C ρ ar w) {id l : Nat} {st pd f2 n2 τ2 ps asg bd} (ho : ar[id]? = some (.loop st pd f2 n2 τ2 ps asg bd)) (hr : RefR ρ id l) (st' : LoopState) (pd' : Option Code) :
    ∃ r : Loop, w.heap[l]? = some (.loop r) ∧ r.state = st ∧ r.pending = pd ∧ ∃ ρ', RelA C ρ' (ar.set id (.loop st' pd' f2 n2 τ2 ps asg bd)) (w.putObj l (.loop { r with state := st', pending := pd' })) ∧ Compat ρ ρ' ∧
      Pres w (Ow C ρ ar) (w.putObj l (.loop { r with state := st', pending := pd' })) (Ow C ρ' (ar.set id (.loop st' pd' f2 n2 τ2 ps asg bd))) := by
  obtain ⟨L, tmps, dd, r1, r2, r3, r4, r5, r6⟩ := loop_at hR ho hr
  have hlt : l < w.heap.size := (Array.getElem?_eq_some_iff.1 r4).1
  have hblk : L.blk = some l := by simp [Loc.blk, r3]
  refine ⟨_, r4, rfl, rfl, ρ.set id L, ?_⟩
  obtain ⟨q1, q2, q3⟩ := hR.put (L' := L) (o' := .loop st' pd' f2 n2 τ2 ps asg bd) (w' := w.putObj l (.loop { state := st', pending := pd', fn := f2, tmps, params := ps, assign := asg, body := bd, defers := dd })) ho r1 rfl (by simp)
    (fun k _ hk => World.putObj_heap_other (fun e => hk (by rw [e]; exact hblk))) rfl rfl rfl (fun b hb => .inl hb) (Nat.le_refl _) (fun _ => rfl)
    (fun hp hc => ⟨r2, l, tmps, dd, r3, World.putObj_heap_same hlt, r5, r6.mono hp hc⟩)
  exact ⟨q1, q3, q2⟩

theorem rd_some {w : World} {O : Nat → Prop} {ρ : List Loc} {fr : Frame} {id : Nat} {t : List Item} {md : FrameMode} (hf : FrR w O ρ ⟨f, n, τ, t, some id, D, kd, md⟩ fr) : ∃ l, fr.roundOf = some l ∧ RefR ρ id l := by
  have := hf.rd
  generalize fr.roundOf = x at this
  cases this with
  | some h => exact ⟨_, rfl, h⟩
theorem rd_none {w : World} {O : Nat → Prop} {ρ : List Loc} {fr : Frame} {t : List Item} {md : FrameMode} (hf : FrR w O ρ ⟨f, n, τ, t, none, D, kd, md⟩ fr) : fr.roundOf = none := by
  have := hf.rd
  generalize fr.roundOf = x at this
  cases this
  rfl

theorem sim_beginRound {id : Nat} {pd f2 n2 τ2 ps asg bd} (hl : nth ar id = some (.loop .ready pd f2 n2 τ2 ps asg bd)) (har : setN ar id (.loop .busy pd f2 n2 τ2 ps asg bd) = some ar') :
    SimT P C [⟨f, n, τ, .beginRound :: k, some id, D, kd, .run⟩] ar [⟨f, n, τ, k, some id, D, kd, .run⟩] ar' := by
  intro ts w ρ cs hts hR
  obtain ⟨fr, m, rfl, hf, hn⟩ := l2_cons hts
  cases hn
  obtain ⟨_, rfl⟩ := setN_spec _ _ _ _ har
  rw [nth_eq] at hl
  obtain ⟨l, e1, e2⟩ := rd_some hf
  obtain ⟨r, r1, r2, r3, ρ', q1, q2, q3⟩ := loop_put hR hl e2 .busy pd
  obtain ⟨y, k', h0, h1, h2⟩ := l2_cons hf.todo
  cases h1
  have hrec : ({ r with state := .busy, pending := pd } : Loop) = { r with state := .busy } := by rw [← r3]
  rw [hrec] at q1 q3
  refine ⟨[fr.atR ⟨fr.tmps, fr.defers⟩ k'], _, ρ', Steps.one ?_, .cons ⟨hf.fn, hf.size, hf.slots.mono q3 q2, h2.mono fun _ _ => ItemR.mono q2, hf.rd.mono q2, hf.defs.mono fun _ _ => DR.mono q3 q2, hf.kind, rfl⟩ .nil, q1, q2, q3⟩
  have := stepR_beginRound (P := P) (b := fr) (a := ⟨fr.tmps, fr.defers⟩) (k := k') (cs := cs) e1 (run_beginRound r1 r2)
  rw [← h0, atR_self hf.mode] at this
  exact this

/-- A frame goes on with a call's value. -/
def finA (τ : Nat → AV) (todo : List Item) (x : AV) : Option ((Nat → AV) × List Item × Option Nat) := match todo with
  | .inRegion ops (i :: rest) :: k => match nth ops.toList i with
    | some o => some (updO τ o.dst x, .inRegion ops rest :: k, o.dst)
    | none => none
  | .inRangeFunc l :: k => some (τ, .endRangeFunc l :: k, none)
  | _ => none
def dstOK (n : Nat) : Option Nat → Bool
  | some d => Nat.blt d n
  | none => true
theorem fin_ok {w : World} {O : Nat → Prop} {ρ : List Loc} {t t2 : List Item} {τ2 : Nat → AV} {x : AV} {d : Option Nat} {md : FrameMode} (h : finA τ t x = some (τ2, t2, d)) (hd : dstOK n d = true) {fr : Frame} (hf : FrR w O ρ ⟨f, n, τ, t, rd, D, kd, md⟩ fr) {v : Value} (hx : RV w O ρ x v) :
    FrR w O ρ ⟨f, n, τ2, t2, rd, D, kd, md⟩ (fr.finish v) := by
  unfold finA at h
  split at h
  · rename_i ops i rest k
    split at h
    · rename_i o ho
      cases h
      have ho' : ops[i]? = some o := by rw [nth_eq] at ho; simpa using ho
      obtain ⟨k', h2, h0⟩ := top_op hf
      have hb : (ops[i]?).bind (·.dst) = o.dst := by simp [ho']
      have hfin : fr.finish v = { fr with tmps := ((⟨fr.tmps, fr.defers⟩ : Act).put o.dst v).tmps, todo := .inRegion ops rest :: k' } := by
        cases hd' : o.dst <;> simp [Frame.finish, h0, hb, hd', Act.put]
      rw [hfin]
      refine ⟨hf.fn, ?_, ?_, .cons .inRegion h2, hf.rd, hf.defs, hf.kind, hf.mode⟩
      · show ((⟨fr.tmps, fr.defers⟩ : Act).put o.dst v).tmps.size = n
        rw [put_tmps_size]
        exact hf.size
      · refine slots_dst (a := ⟨fr.tmps, fr.defers⟩) hf.slots (fun t ht => ?_) hx
        rw [ht] at hd
        simp only [dstOK, Nat.blt_eq] at hd
        show t < fr.tmps.size
        rw [hf.size]
        exact hd
    · cases h
  · rename_i l k
    cases h
    obtain ⟨y, k', h0, h1, h2⟩ := l2_cons hf.todo
    cases h1 with
    | inRF hr =>
      have hfin : ∀ l', fr.todo = .inRangeFunc l' :: k' → fr.finish v = { fr with todo := .endRangeFunc l' :: k' } := fun l' h => by simp [Frame.finish, h]
      rw [hfin _ h0]
      exact ⟨hf.fn, hf.size, hf.slots, .cons (.endRF hr) h2, hf.rd, hf.defs, hf.kind, hf.mode⟩
  · cases h

/-- A round's end. -/
def roundEnd : List Item → Option (Option Code)
  | [] => some none
  | .code .ret :: _ => some (some .ret)
  | .code (.exit id) :: k => match exitTo id k with
    | none => some (some (.exit id))
    | some _ => none
  | _ => none
theorem sim_endRound {id : Nat} {st pd f2 n2 τ2 ps asg bd} {t tB tB2 : List Item} {jump : Option Code} {d : Option Nat} {fB nB : Nat} {τB τB2 : Nat → AV} {rdB : Option Nat} {DB : List AV} {kB : CallKind} {mB : FrameMode} (hl : nth ar id = some (.loop st pd f2 n2 τ2 ps asg bd))
    (hj : roundEnd t = some jump) (har : setN ar id (.loop (if jump.isNone then .ready else .done) jump f2 n2 τ2 ps asg bd) = some ar') (hfin : finA τB tB (.val (.bool jump.isNone)) = some (τB2, tB2, d)) (hd : dstOK nB d = true) :
    SimT P C [⟨f, n, τ, t, some id, D, .normal, .run⟩, ⟨fB, nB, τB, tB, rdB, DB, kB, mB⟩] ar [⟨fB, nB, τB2, tB2, rdB, DB, kB, mB⟩] ar' := by
  intro ts w ρ cs hts hR
  obtain ⟨fr, m, rfl, hf, hn⟩ := l2_cons hts
  obtain ⟨fb, m, rfl, hb, hn⟩ := l2_cons hn
  cases hn
  obtain ⟨_, rfl⟩ := setN_spec _ _ _ _ har
  rw [nth_eq] at hl
  obtain ⟨l, e1, e2⟩ := rd_some hf
  obtain ⟨r, r1, r2, r3, ρ', q1, q2, q3⟩ := loop_put hR hl e2 (if jump.isNone then .ready else .done) jump
  refine ⟨[fb.finish (.bool jump.isNone)], _, ρ', Steps.one ?_, .cons (fin_ok hfin hd (hb.mono q3 q2) .val) .nil, q1, q2, q3⟩
  have hend := run_endRound (P := P) jump r1
  have hself := atR_self hf.mode
  unfold roundEnd at hj
  split at hj
  · cases hj
    have h0 : fr.todo = [] := l2_nil hf.todo
    have := stepR_round_end (P := P) (b := fr) (a := ⟨fr.tmps, fr.defers⟩) (c := fb) (cs := cs) e1 hf.kind hend
    rw [← h0, hself] at this
    exact this
  · cases hj
    obtain ⟨y, k', h0, h1, h2⟩ := l2_cons hf.todo
    cases itemR_code h1
    have := stepR_round_ret (P := P) (b := fr) (a := ⟨fr.tmps, fr.defers⟩) (k := k') (c := fb) (cs := cs) e1 hf.kind hend
    rw [← h0, hself] at this
    exact this
  · rename_i id' k
    split at hj
    · rename_i hx
      cases hj
      obtain ⟨y, k', h0, h1, h2⟩ := l2_cons hf.todo
      cases itemR_code h1
      have := stepR_round_exit (P := P) (b := fr) (a := ⟨fr.tmps, fr.defers⟩) (k := k') (c := fb) (cs := cs) e1 hf.kind ((exitTo_rel h2).1 hx) hend
      rw [← h0, hself] at this
      exact this
    · cases hj
  · cases hj

def pdK : Option Code → List Item → List Item
  | some c, k => .code c :: k
  | none, k => k
theorem sim_endRange {id : Nat} {st pd f2 n2 τ2 ps asg bd} (hl : nth ar id = some (.loop st pd f2 n2 τ2 ps asg bd)) (hst : (st == .busy) = false) (har : setN ar id (.loop .exhausted pd f2 n2 τ2 ps asg bd) = some ar') :
    SimT P C [⟨f, n, τ, .endRangeFunc id :: k, rd, D, kd, .run⟩] ar [⟨f, n, τ, pdK pd k, rd, D, kd, .run⟩] ar' := by
  intro ts w ρ cs hts hR
  obtain ⟨fr, m, rfl, hf, hn⟩ := l2_cons hts
  cases hn
  obtain ⟨_, rfl⟩ := setN_spec _ _ _ _ har
  rw [nth_eq] at hl
  obtain ⟨y, k', h0, h1, h2⟩ := l2_cons hf.todo
  cases h1 with
  | endRF hr =>
    obtain ⟨r, r1, r2, r3, ρ', q1, q2, q3⟩ := loop_put hR hl hr .exhausted pd
    have hrec : ({ r with state := .exhausted, pending := pd } : Loop) = { r with state := .exhausted } := by rw [← r3]
    rw [hrec] at q1 q3
    have hend := run_endLoop (P := P) r1 (by rw [r2]; cases st <;> simp_all)
    have hk : L2 (ItemR ρ') (pdK pd k) ((pd.map Item.code).toList ++ k') := by
      cases pd with
      | none => exact h2.mono fun _ _ => ItemR.mono q2
      | some c => exact .cons .code (h2.mono fun _ _ => ItemR.mono q2)
    refine ⟨[{ fr with todo := (pd.map Item.code).toList ++ k' }], _, ρ', Steps.one ?_, .cons ⟨hf.fn, hf.size, hf.slots.mono q3 q2, hk, hf.rd.mono q2, hf.defs.mono fun _ _ => DR.mono q3 q2, hf.kind, hf.mode⟩ .nil, q1, q2, q3⟩
    have hm := hf.mode
    refine step_lone_go ?_
    simp only [stepG, hm, stepG.exec, h0, Sem.runT_eq, hend, r3]
    simp

/-! ### Ranges over functions begin -/
theorem sim_range {fo : Operand} {ps : Array Tmp} {asg bd : Code} {g : FuncId} {caps : List AV} {gn : Func} {c : Code} {ida idl : Nat} {ar1 : List AO} (hfo : evA τ fo = .fn (.func g) caps) (hgn : P.funcs[g]? = some gn) (hb : gn.body = some c) (hnm : (gn.name == "runtime.NumGoroutine") = false)
    (h1 : snocN ar (.dfr true) = some (ar1, ida)) (h2 : snocN ar1 (.loop .ready none f n τ ps asg bd) = some (ar', idl)) (hn : Nat.ble (.yld idl :: caps).length gn.ntmps = true) :
    SimT P C [⟨f, n, τ, .code (.rangeFunc fo ps asg bd) :: k, none, D, kd, .run⟩] ar [⟨g, gn.ntmps, argsT (.yld idl :: caps), [.code c], none, [], .normal, .run⟩, ⟨f, n, τ, .inRangeFunc idl :: k, none, .yld ida :: D, kd, .run⟩] ar' := by
  intro ts w ρ cs hts hR
  obtain ⟨fr, m, rfl, hf, hn'⟩ := l2_cons hts
  cases hn'
  obtain ⟨rfl, rfl⟩ := snocN_spec _ _ _ _ h1
  obtain ⟨rfl, rfl⟩ := snocN_spec _ _ _ _ h2
  obtain ⟨y, k', h0, hy, hk⟩ := l2_cons hf.todo
  cases itemR_code hy
  -- the two blocks
  let o1 : Obj := .deferred (some [])
  let o2 : Obj := .loop { state := .ready, pending := none, fn := f, tmps := fr.tmps, params := ps, assign := asg, body := bd, defers := w.heap.size }
  obtain ⟨p1, p2, p3⟩ := hR.add (o := .dfr true) (L := ⟨0, .pointer (some ⟨w.heap.size, 0, none⟩)⟩) (w' := w.alloc o1) (by simp) (fun k hk => heap_alloc_old w _ hk) rfl rfl rfl (fun b hb => by simp [Loc.blk] at hb; omega)
    (fun hp => ⟨rfl, w.heap.size, rfl, heap_alloc_new w _⟩)
  obtain ⟨q1, q2, q3⟩ := p1.add (o := .loop .ready none f n τ ps asg bd) (L := ⟨0, .pointer (some ⟨(w.alloc o1).heap.size, 0, none⟩)⟩) (w' := (w.alloc o1).alloc o2) (by simp) (fun k hk => heap_alloc_old _ _ hk) rfl rfl rfl (fun b hb => by simp [Loc.blk] at hb ⊢; omega)
    (fun hp => ⟨rfl, (w.alloc o1).heap.size, fr.tmps, w.heap.size, rfl, heap_alloc_new _ _, hf.size, (hf.slots.mono p2 p3).mono hp (Compat.append _ _)⟩)
  have hpp := p2.trans q2
  have hcc := p3.trans q3
  have hlen := hR.len
  have ref1 : RefR (ρ ++ [⟨0, .pointer (some ⟨w.heap.size, 0, none⟩)⟩]) ar.length w.heap.size := ⟨_, by rw [List.getElem?_append_right (by omega)]; simp [hlen]; rfl, fun _ => rfl⟩
  have ref2 : RefR ((ρ ++ [⟨0, .pointer (some ⟨w.heap.size, 0, none⟩)⟩]) ++ [⟨0, .pointer (some ⟨(w.alloc o1).heap.size, 0, none⟩)⟩]) (ar ++ [AO.dfr true]).length (w.heap.size + 1) :=
    ⟨_, by rw [List.getElem?_append_right (by simp [hlen])]; simp [hlen]; rfl, fun _ => by simp [World.size_alloc]⟩
  have hfv := evA_ok (a := ⟨fr.tmps, fr.defers⟩) hf.slots fo
  rw [show evA τ fo = _ from hfo] at hfv
  obtain ⟨cvs, hfo', hcl, hcr⟩ := rv_fn hfv
  have hvy : RV ((w.alloc o1).alloc o2) (Ow C ((ρ ++ [⟨0, .pointer (some ⟨w.heap.size, 0, none⟩)⟩]) ++ [⟨0, .pointer (some ⟨(w.alloc o1).heap.size, 0, none⟩)⟩]) ((ar ++ [AO.dfr true]) ++ [AO.loop .ready none f n τ ps asg bd]))
      ((ρ ++ [⟨0, .pointer (some ⟨w.heap.size, 0, none⟩)⟩]) ++ [⟨0, .pointer (some ⟨(w.alloc o1).heap.size, 0, none⟩)⟩]) (.yld (ar ++ [AO.dfr true]).length) (.func (.yield (w.heap.size + 1)) #[] #[]) := by
    obtain ⟨L, e1, e2⟩ := ref2
    exact .yld e1 e2
  have hl : (#[Value.func (.yield (w.heap.size + 1)) #[] #[]] ++ cvs).size = (AV.yld (ar ++ [AO.dfr true]).length :: caps).length := by simp [hcl]; omega
  have hvs : ∀ (i : Nat) x v, (AV.yld (ar ++ [AO.dfr true]).length :: caps)[i]? = some x → (#[Value.func (.yield (w.heap.size + 1)) #[] #[]] ++ cvs)[i]? = some v →
      RV ((w.alloc o1).alloc o2) (Ow C ((ρ ++ [⟨0, .pointer (some ⟨w.heap.size, 0, none⟩)⟩]) ++ [⟨0, .pointer (some ⟨(w.alloc o1).heap.size, 0, none⟩)⟩]) ((ar ++ [AO.dfr true]) ++ [AO.loop .ready none f n τ ps asg bd]))
      ((ρ ++ [⟨0, .pointer (some ⟨w.heap.size, 0, none⟩)⟩]) ++ [⟨0, .pointer (some ⟨(w.alloc o1).heap.size, 0, none⟩)⟩]) x v := by
    intro i x v hx hv
    cases i with
    | zero =>
      rw [Array.getElem?_append_left (by simp)] at hv
      simp at hx hv
      subst hx
      subst hv
      simpa using hvy
    | succ i =>
      rw [Array.getElem?_append_right (by simp)] at hv
      simp at hx hv
      exact (hcr i x v hx hv).mono hpp hcc
  refine ⟨[Frame.enter P g (#[Value.func (.yield (w.heap.size + 1)) #[] #[]] ++ cvs) .normal, { fr with todo := .inRangeFunc (w.heap.size + 1) :: k', defers := { target := .collected w.heap.size, args := #[] } :: fr.defers }], (w.alloc o1).alloc o2, _, Steps.one ?_,
    .cons (frR_enter (P := P) hgn hb hl hn hvs .normal) (.cons ⟨hf.fn, hf.size, hf.slots.mono hpp hcc, .cons (.inRF ref2) (hk.mono fun _ _ => ItemR.mono hcc), hf.rd.mono hcc, .cons (.col (ref1.mono q3)) (hf.defs.mono fun _ _ => DR.mono hpp hcc), hf.kind, hf.mode⟩ .nil), q1, hcc, hpp⟩
  have hrd := rd_none hf
  have hm := hf.mode
  have hent := run_enterLoop_outer (P := P) (w := w) fr.fn fr.tmps ps asg bd
  have hbe : gn.body ≠ none := by rw [hb]; simp
  have hnm' : gn.name ≠ "runtime.NumGoroutine" := by simpa using hnm
  have hev : ∀ a b c d e g', Frame.eval { fn := a, tmps := fr.tmps, todo := b, defers := c, mode := d, kind := e, roundOf := g' } fo = .func (.func g) #[] cvs := fun _ _ _ _ _ _ => by rw [← hfo']; cases fo <;> rfl
  have hec : ∀ (fr' : Frame) (v : Value), fr'.eval (.const v) = v := fun _ _ => rfl
  have hfn : fr.fn = f := hf.fn
  rw [hfn] at hent
  show step P (lone fr cs w) = .next (lone _ (_ :: cs) _)
  refine step_lone_go ?_
  simp only [stepG, hm, stepG.exec, h0, hrd, Sem.runT_eq, hfn, hent]
  simp [stepG.apply, resolve, Sem.runT_eq, Deferred.ofValue, invoke, callFunc, hgn, hnm', hbe, hev, hec]
  simp [hfn, hm, o1, o2]

/-! ### The frame leaves -/
theorem sim_ret {t : List Item} (ht : t = [] ∨ ∃ k, t = .code .ret :: k) : SimT P C [⟨f, n, τ, t, none, D, kd, .run⟩] ar [⟨f, n, τ, t, none, D, kd, .returning⟩] ar := by
  intro ts w ρ cs hts hR
  obtain ⟨fr, m, rfl, hf, hn'⟩ := l2_cons hts
  cases hn'
  refine ⟨[{ fr with mode := .returning }], w, ρ, Steps.one ?_, .cons ⟨hf.fn, hf.size, hf.slots, hf.todo, hf.rd, hf.defs, hf.kind, rfl⟩ .nil, hR, Compat.refl _, Pres.refl _ _⟩
  have hrd := rd_none hf
  have hself := atR_self hf.mode
  rcases ht with rfl | ⟨k, rfl⟩
  · have h0 : fr.todo = [] := l2_nil hf.todo
    have := stepR_end (P := P) (b := fr) (a := ⟨fr.tmps, fr.defers⟩) (cs := cs) (w := w) hrd
    rw [← h0, hself] at this
    exact this
  · obtain ⟨y, k', h0, h1, h2⟩ := l2_cons hf.todo
    cases itemR_code h1
    have := stepR_ret (P := P) (b := fr) (a := ⟨fr.tmps, fr.defers⟩) (k := k') (cs := cs) (w := w) hrd
    rw [← h0, hself] at this
    exact this

/-- A call comes back. -/
theorem sim_back {t tB tB2 : List Item} {d : Option Nat} {fB nB : Nat} {τB τB2 : Nat → AV} {rdB : Option Nat} {DB : List AV} {kB : CallKind} {mB : FrameMode} {fn : Func} {xs : List AV} (hfn : P.funcs[f]? = some fn) (hr : Res P τ ar fn.results.toList xs)
    (hfin : finA τB tB (outA xs) = some (τB2, tB2, d)) (hd : dstOK nB d = true) :
    SimT P C [⟨f, n, τ, t, rd, [], .normal, .returning⟩, ⟨fB, nB, τB, tB, rdB, DB, kB, mB⟩] ar [⟨fB, nB, τB2, tB2, rdB, DB, kB, mB⟩] ar := by
  intro ts w ρ cs hts hR
  obtain ⟨fr, m, rfl, hf, hn⟩ := l2_cons hts
  obtain ⟨fb, m, rfl, hb, hn⟩ := l2_cons hn
  cases hn
  obtain ⟨v, hv, hx⟩ := results_run (P := P) hR hf.slots hr
  refine ⟨[fb.finish v], w, ρ, Steps.one (step_leave_returned ⟨hf.mode, l2_nil hf.defs, hf.kind, fn, by rw [hf.fn]; exact hfn, hv⟩), .cons (fin_ok hfin hd hb hx) .nil, hR, Compat.refl _, Pres.refl _ _⟩

/-- What a deferred call leaves of its caller's mode. -/
def afterD : FrameMode → Option FrameMode
  | .panicking ({ v := _, recovered := true, goexit := false } :: []) => some .returning
  | .panicking ({ v, recovered := false, goexit := g } :: l) => some (.panicking ({ v, recovered := false, goexit := g } :: l))
  | .returning => some .returning
  | _ => none
/-- A deferred call comes back. -/
theorem sim_backD {t tB : List Item} {fB nB : Nat} {τB : Nat → AV} {rdB : Option Nat} {DB : List AV} {kB : CallKind} {mB mB2 : FrameMode} {fn : Func} {xs : List AV} (hfn : P.funcs[f]? = some fn) (hr : Res P τ ar fn.results.toList xs) (hm : afterD mB = some mB2) :
    SimT P C [⟨f, n, τ, t, rd, [], .deferred, .returning⟩, ⟨fB, nB, τB, tB, rdB, DB, kB, mB⟩] ar [⟨fB, nB, τB, tB, rdB, DB, kB, mB2⟩] ar := by
  intro ts w ρ cs hts hR
  obtain ⟨fr, m, rfl, hf, hn⟩ := l2_cons hts
  obtain ⟨fb, m, rfl, hb, hn⟩ := l2_cons hn
  cases hn
  obtain ⟨v, hv, hx⟩ := results_run (P := P) hR hf.slots hr
  refine ⟨[{ fb with mode := mB2 }], w, ρ, Steps.one ?_, .cons ⟨hb.fn, hb.size, hb.slots, hb.todo, hb.rd, hb.defs, hb.kind, rfl⟩ .nil, hR, Compat.refl _, Pres.refl _ _⟩
  have h1 := hf.mode
  have h2 : fr.defers = [] := l2_nil hf.defs
  have h3 := hf.kind
  have h4 : fr.fn = f := hf.fn
  have h5 := hb.mode
  simp only at h1 h3 h5
  show step P (lone fr (fb :: cs) w) = .next (lone _ cs w)
  refine step_lone_go ?_
  unfold afterD at hm
  split at hm
  all_goals first | (cases hm; done) | skip
  all_goals
    cases hm
    simp only [stepG, h1, unwind, h2, h4, hfn, Sem.runT_eq, hv, doReturn, h3, h5]
    simp [List.dropWhile, h5]
    try (cases fb; simp_all)

end
end Go.Iron
