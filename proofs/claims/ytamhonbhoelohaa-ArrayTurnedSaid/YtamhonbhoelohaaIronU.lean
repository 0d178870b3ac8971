/- Iron: what is put off, panics, contracts, less told: for several frames. -/
import Derived.Test.YtamhonbhoelohaaIronT
namespace Go.Iron

/-- Values that speak of no memory. -/
def clVs : List AV → Option (List Value)
  | [] => some []
  | .val v :: l => match v.oneCell' with
    | true => match clVs l with
      | some r => some (v :: r)
      | none => none
    | false => none
  | _ :: _ => none
def clV : AV → Option Value
  | .val v => some v
  | .agg cs => match clVs cs with
    | some l => some (.agg ⟨l⟩)
    | none => none
  | _ => none
theorem clVs_spec : ∀ (cs : List AV) (l : List Value), clVs cs = some l → cs = l.map .val ∧ ∀ v ∈ l, v.oneCell' = true
  | [], l, h => by simp [clVs] at h; subst h; exact ⟨rfl, by simp⟩
  | x :: cs, l, h => by
    cases x with
    | val v =>
      simp only [clVs] at h
      split at h
      · rename_i hv
        split at h
        · rename_i r hr
          cases h
          obtain ⟨h1, h2⟩ := clVs_spec cs r hr
          exact ⟨by rw [h1]; rfl, fun u hu => by rcases List.mem_cons.1 hu with rfl | hu; exact hv; exact h2 u hu⟩
        · cases h
      · cases h
    | _ => simp [clVs] at h
theorem agg_vals {w : World} {O : Nat → Prop} {ρ : List Loc} {l : List Value} (h : ∀ v ∈ l, v.oneCell' = true) : RV w O ρ (.agg (l.map .val)) (.agg ⟨l⟩) := by
  refine .agg (by simp) (fun i x v hx hv => ?_) (fun i v hv => ?_)
  · have hv' : l[i]? = some v := by simpa using hv
    rw [List.getElem?_map, hv'] at hx
    cases hx
    exact .val
  · have hv' : l[i]? = some v := by simpa using hv
    exact h v (List.mem_of_getElem? hv')
theorem rv_cl {w : World} {O : Nat → Prop} {ρ : List Loc} {x : AV} {v u : Value} (h : clV x = some v) (hr : RV w O ρ x u) : u = v := by
  unfold clV at h
  split at h
  · cases h; exact rv_val hr
  · rename_i cs
    split at h
    · rename_i l hl
      cases h
      obtain ⟨rfl, h2⟩ := clVs_spec _ _ hl
      obtain ⟨vs, rfl, h3, h4, _⟩ := rv_agg hr
      have : vs.toList = l := by
        refine List.ext_getElem? fun i => ?_
        simp only [List.length_map] at h3
        by_cases hi : i < l.length
        · have hi' : i < vs.size := by omega
          have e1 : vs[i]? = some vs[i] := by simp [hi']
          have := rv_val (h4 i (.val l[i]) vs[i] (by simp [hi]) e1)
          rw [Array.getElem?_toList, e1, this]
          simp [hi]
        · rw [Array.getElem?_toList, Array.getElem?_eq_none (by omega), List.getElem?_eq_none (by omega)]
      rw [← this]
    · cases h
  · cases h

def allOne : List Value → Bool
  | [] => true
  | v :: l => match v.oneCell' with
    | true => allOne l
    | false => false
theorem allOne_spec {l : List Value} (h : allOne l = true) : ∀ v ∈ l, v.oneCell' = true := by
  induction l with
  | nil => simp
  | cons v l ih =>
    simp only [allOne] at h
    split at h
    · rename_i hv
      intro u hu
      rcases List.mem_cons.1 hu with rfl | hu
      · exact hv
      · exact ih h u hu
    · cases h
def mapVal : List Value → List AV
  | [] => []
  | v :: l => .val v :: mapVal l
theorem mapVal_eq (l : List Value) : mapVal l = l.map .val := by induction l <;> simp [mapVal, *]
/-- A panic's value as the logic tells it. -/
def toA : Value → Option AV
  | .iface t (.agg ⟨l⟩) => match allOne l with
    | true => some (.ifc t (.agg (mapVal l)))
    | false => none
  | .iface t u => some (.ifc t (.val u))
  | _ => none
theorem toA_ok {w : World} {O : Nat → Prop} {ρ : List Loc} {v : Value} {x : AV} (h : toA v = some x) : RV w O ρ x v := by
  unfold toA at h
  split at h
  · rename_i t l
    split at h
    · rename_i hl
      cases h
      rw [mapVal_eq]
      exact .ifc (agg_vals (allOne_spec hl))
    · cases h
  · cases h; exact .ifc .val
  · cases h

section
variable {P : Program} {f0 : FuncId} {C : Cx} {T T' T2 S S' : List AF} {ar ar' ar2 : List AO} {Q : Out → List AO → Prop} {ops : Array Oper}
variable {f n : Nat} {τ : Nat → AV} {rd : Option Nat} {D : List AV} {kd : CallKind} {k : List Item}

theorem sim_panic {i : Nat} {rest : List Nat} {o : Oper} {y : Operand} {t : TypeId} {x : AV} {v : Value} (ho : ops[i]? = some o) (hg : o.guard = none) (hop : o.op = .panic y) (hy : evA τ y = .ifc t x) (hv : clV x = some v) :
    SimT P C [⟨f, n, τ, .inRegion ops (i :: rest) :: k, rd, D, kd, .run⟩] ar [⟨f, n, τ, .inRegion ops (i :: rest) :: k, rd, D, kd, .panicking [{ v := .iface t v, recovered := false }]⟩] ar := by
  intro ts w ρ cs hts hR
  obtain ⟨fr, m, rfl, hf, hn'⟩ := l2_cons hts
  cases hn'
  obtain ⟨k', h2, h0⟩ := top_op hf
  have hfv := evA_ok (a := ⟨fr.tmps, fr.defers⟩) hf.slots y
  rw [show evA τ y = _ from hy] at hfv
  obtain ⟨u, hu, hx⟩ := rv_ifc hfv
  have := rv_cl hv hx
  subst this
  refine ⟨[{ fr with mode := .panicking [{ v := .iface t u, recovered := false }] }], w, ρ, Steps.one ?_, .cons ⟨hf.fn, hf.size, hf.slots, hf.todo, hf.rd, hf.defs, hf.kind, rfl⟩ .nil, hR, Compat.refl _, Pres.refl _ _⟩
  have hgo := stepGR_op (P := P) (b := fr) (a := ⟨fr.tmps, fr.defers⟩) (k := k') (cs := cs) (w := w) (rest := rest) ho (by simp [Region.wanted, hg])
  rw [Oper.semAt_eq _ _ _ (fun c h => by rw [hop] at h; cases h), ← h0, atR_self hf.mode] at hgo
  have hrun : (execOp (⟨fr.tmps, fr.defers⟩ : Act).eval o).run P w = .halt (.panic (.iface t u)) w := by simp [execOp, hop, hu, Instr.panic]
  have hm := hf.mode
  show step P (lone fr cs w) = .next (lone _ cs w)
  exact step_lone_go (by rw [hgo]; simp [stepG.apply, hrun, Frame.raise, hm])

/-- A closure is put off. -/
theorem sim_defer {i : Nat} {rest : List Nat} {o : Oper} {fo : Operand} {xs : Array Operand} {ts : Array TypeId} {g : Fn} {caps as : List AV} (ho : ops[i]? = some o) (hg : o.guard = none) (hop : o.op = .defer { callee := .value fo, args := xs, argTypes := ts })
    (hfo : evA τ fo = .fn g caps) (has : xs.toList.map (evA τ) ++ caps = as) (hd : o.dst = none) :
    SimT P C [⟨f, n, τ, .inRegion ops (i :: rest) :: k, none, D, kd, .run⟩] ar [⟨f, n, τ, .inRegion ops rest :: k, none, .fn g as :: D, kd, .run⟩] ar := by
  intro ts w ρ cs hts hR
  obtain ⟨fr, m, rfl, hf, hn'⟩ := l2_cons hts
  cases hn'
  obtain ⟨k', h2, h0⟩ := top_op hf
  have hfv := evA_ok (a := ⟨fr.tmps, fr.defers⟩) hf.slots fo
  rw [show evA τ fo = _ from hfo] at hfv
  obtain ⟨cvs, hfo', hcl, hcr⟩ := rv_fn hfv
  obtain ⟨hl, hv⟩ := args_rv (a := ⟨fr.tmps, fr.defers⟩) hf.slots xs hcl hcr
  rw [show xs.toList.map (evA τ) ++ caps = as from has] at hl hv
  refine ⟨[{ fr with todo := .inRegion ops rest :: k', defers := { target := .fn g cvs, args := xs.map (⟨fr.tmps, fr.defers⟩ : Act).eval } :: fr.defers }], w, ρ, Steps.one ?_,
    .cons ⟨hf.fn, hf.size, hf.slots, .cons .inRegion h2, hf.rd, .cons (.fn hl.symm hv) hf.defs, hf.kind, hf.mode⟩ .nil, hR, Compat.refl _, Pres.refl _ _⟩
  have hgo := stepGR_op (P := P) (b := fr) (a := ⟨fr.tmps, fr.defers⟩) (k := k') (cs := cs) (w := w) (rest := rest) ho (by simp [Region.wanted, hg])
  rw [rd_none hf, Oper.semAt_none, ← h0, atR_self hf.mode] at hgo
  have hrun : (execOp (⟨fr.tmps, fr.defers⟩ : Act).eval o).run P w = .ok (.defer { target := .fn g cvs, args := xs.map (⟨fr.tmps, fr.defers⟩ : Act).eval }) w := by
    simp [execOp, hop, resolve, hfo', Deferred.ofValue]
  show step P (lone fr cs w) = .next (lone _ cs w)
  exact step_lone_go (by rw [hgo]; simp [stepG.apply, hrun, Frame.finish, h0, ho, hd])

/-- recover() in a call that was put off. -/
theorem sim_recover {i : Nat} {rest : List Nat} {o : Oper} {x : AV} {v : Value} {fB nB : Nat} {τB : Nat → AV} {tB : List Item} {rdB : Option Nat} {DB : List AV} {kB : CallKind} {xs : Array Operand} {ts : Array TypeId} {older : List PanicEntry}
    (ho : ops[i]? = some o) (hg : o.guard = none) (hop : o.op = .call { callee := .builtin .recover, args := xs, argTypes := ts }) (hx : toA v = some x) (hd : dstOK n o.dst = true) :
    SimT P C [⟨f, n, τ, .inRegion ops (i :: rest) :: k, none, D, .deferred, .run⟩, ⟨fB, nB, τB, tB, rdB, DB, kB, .panicking ({ v, recovered := false, goexit := false } :: older)⟩] ar
      [⟨f, n, updO τ o.dst x, .inRegion ops rest :: k, none, D, .deferred, .run⟩, ⟨fB, nB, τB, tB, rdB, DB, kB, .panicking ({ v, recovered := true, goexit := false } :: older)⟩] ar := by
  intro ts' w ρ cs hts hR
  obtain ⟨fr, m, rfl, hf, hn'⟩ := l2_cons hts
  obtain ⟨fb, m, rfl, hb, hn⟩ := l2_cons hn'
  cases hn
  obtain ⟨k', h2, h0⟩ := top_op hf
  have hfin := fin_ok (t := .inRegion ops (i :: rest) :: k) (x := x) (v := v) (d := o.dst) (τ2 := updO τ o.dst x) (t2 := .inRegion ops rest :: k) (by simp [finA, nth_eq, ho]) hd hf (toA_ok hx)
  refine ⟨[fr.finish v, { fb with mode := .panicking ({ v, recovered := true, goexit := false } :: older) }], w, ρ, Steps.one ?_, .cons hfin (.cons ⟨hb.fn, hb.size, hb.slots, hb.todo, hb.rd, hb.defs, hb.kind, rfl⟩ .nil), hR, Compat.refl _, Pres.refl _ _⟩
  have hgo := stepGR_op (P := P) (b := fr) (a := ⟨fr.tmps, fr.defers⟩) (k := k') (cs := fb :: cs) (w := w) (rest := rest) ho (by simp [Region.wanted, hg])
  rw [rd_none hf, Oper.semAt_none, ← h0, atR_self hf.mode] at hgo
  have hrun : (execOp (⟨fr.tmps, fr.defers⟩ : Act).eval o).run P w = .ok .recover w := by simp [execOp, hop, resolve, invoke, builtin]
  have hk := hf.kind
  have hm := hb.mode
  simp only at hk hm
  show step P (lone fr (fb :: cs) w) = .next (lone _ (_ :: cs) w)
  exact step_lone_go (by rw [hgo]; simp [stepG.apply, hrun, rd_none hf, tryRecover, hk, hm])
theorem sim_recoverNil {i : Nat} {rest : List Nat} {o : Oper} {fB nB : Nat} {τB : Nat → AV} {tB : List Item} {rdB : Option Nat} {DB : List AV} {kB : CallKind} {xs : Array Operand} {ts : Array TypeId}
    (ho : ops[i]? = some o) (hg : o.guard = none) (hop : o.op = .call { callee := .builtin .recover, args := xs, argTypes := ts }) (hd : dstOK n o.dst = true) :
    SimT P C [⟨f, n, τ, .inRegion ops (i :: rest) :: k, none, D, .deferred, .run⟩, ⟨fB, nB, τB, tB, rdB, DB, kB, .returning⟩] ar
      [⟨f, n, updO τ o.dst (.val .nilIface), .inRegion ops rest :: k, none, D, .deferred, .run⟩, ⟨fB, nB, τB, tB, rdB, DB, kB, .returning⟩] ar := by
  intro ts' w ρ cs hts hR
  obtain ⟨fr, m, rfl, hf, hn'⟩ := l2_cons hts
  obtain ⟨fb, m, rfl, hb, hn⟩ := l2_cons hn'
  cases hn
  obtain ⟨k', h2, h0⟩ := top_op hf
  have hfin := fin_ok (t := .inRegion ops (i :: rest) :: k) (x := .val .nilIface) (v := .nilIface) (d := o.dst) (τ2 := updO τ o.dst (.val .nilIface)) (t2 := .inRegion ops rest :: k) (by simp [finA, nth_eq, ho]) hd hf .val
  refine ⟨[fr.finish .nilIface, fb], w, ρ, Steps.one ?_, .cons hfin (.cons hb .nil), hR, Compat.refl _, Pres.refl _ _⟩
  have hgo := stepGR_op (P := P) (b := fr) (a := ⟨fr.tmps, fr.defers⟩) (k := k') (cs := fb :: cs) (w := w) (rest := rest) ho (by simp [Region.wanted, hg])
  rw [rd_none hf, Oper.semAt_none, ← h0, atR_self hf.mode] at hgo
  have hrun : (execOp (⟨fr.tmps, fr.defers⟩ : Act).eval o).run P w = .ok .recover w := by simp [execOp, hop, resolve, invoke, builtin]
  have hk := hf.kind
  have hm := hb.mode
  simp only at hk hm
  show step P (lone fr (fb :: cs) w) = .next (lone _ (fb :: cs) w)
  exact step_lone_go (by rw [hgo]; simp [stepG.apply, hrun, rd_none hf, tryRecover, hk, hm])

def notRun : FrameMode → Bool
  | .run => false
  | _ => true
/-- What a range's rounds put off: nothing. -/
theorem sim_unCol {t : List Item} {md : FrameMode} {id : Nat} (hm : notRun md = true) (hl : nth ar id = some (.dfr true)) (har : setN ar id (.dfr false) = some ar') :
    SimT P C [⟨f, n, τ, t, rd, .yld id :: D, kd, md⟩] ar [⟨f, n, τ, t, rd, D, kd, md⟩] ar' := by
  intro ts w ρ cs hts hR
  obtain ⟨fr, m, rfl, hf, hn'⟩ := l2_cons hts
  cases hn'
  obtain ⟨_, rfl⟩ := setN_spec _ _ _ _ har
  rw [nth_eq] at hl
  obtain ⟨d, ds, h0, h1, h2⟩ := l2_cons hf.defs
  cases h1 with
  | @col _ r hr =>
    obtain ⟨L, e1, e2, e3, _, b, e4, e5⟩ := obj_at hR hl hr (fun L h => h.1)
    rw [e3] at e4
    cases e4
    have hblk : L.blk = some r := by simp [Loc.blk, e3]
    have hlt : r < w.heap.size := (Array.getElem?_eq_some_iff.1 e5).1
    obtain ⟨q1, q2, q3⟩ := hR.put (L' := L) (o' := .dfr false) (w' := w.putObj r (.deferred none)) hl e1 rfl (by simp)
      (fun k _ hk => World.putObj_heap_other (fun e => hk (by rw [e]; exact hblk))) rfl rfl rfl (fun b hb => .inl hb) (Nat.le_refl _) (fun _ => rfl)
      (fun hp hc => ⟨e2, r, e3, World.putObj_heap_same hlt⟩)
    refine ⟨[{ fr with defers := ds }], _, _, Steps.one ?_, .cons ⟨hf.fn, hf.size, hf.slots.mono q2 q3, hf.todo.mono fun _ _ => ItemR.mono q3, hf.rd.mono q3, h2.mono fun _ _ => DR.mono q2 q3, hf.kind, hf.mode⟩ .nil, q1, q3, q2⟩
    have htk := run_takeDeferred (P := P) e5
    have hmd := hf.mode
    simp only at hmd
    show step P (lone fr cs w) = .next (lone _ cs _)
    refine step_lone_go ?_
    cases md with
    | run => cases hm
    | returning => simp [stepG, hmd, unwind, h0, Sem.runT_eq, htk]
    | panicking ch => simp [stepG, hmd, unwind, h0, Sem.runT_eq, htk]

/-- A call that was put off. -/
theorem sim_unFn {t : List Item} {md : FrameMode} {g : FuncId} {as : List AV} {gn : Func} {c : Code} (hm : notRun md = true) (hgn : P.funcs[g]? = some gn) (hb : gn.body = some c) (hnm : (gn.name == "runtime.NumGoroutine") = false) (hn : Nat.ble as.length gn.ntmps = true) :
    SimT P C [⟨f, n, τ, t, rd, .fn (.func g) as :: D, kd, md⟩] ar [⟨g, gn.ntmps, argsT as, [.code c], none, [], .deferred, .run⟩, ⟨f, n, τ, t, rd, D, kd, md⟩] ar := by
  intro ts w ρ cs hts hR
  obtain ⟨fr, m, rfl, hf, hn'⟩ := l2_cons hts
  cases hn'
  obtain ⟨d, ds, h0, h1, h2⟩ := l2_cons hf.defs
  cases h1 with
  | @fn _ _ vs cvs hl hv =>
    refine ⟨[Frame.enter P g (vs ++ cvs) .deferred, { fr with defers := ds }], w, ρ, Steps.one ?_, .cons (frR_enter (P := P) hgn hb hl.symm hn hv .deferred) (.cons ⟨hf.fn, hf.size, hf.slots, hf.todo, hf.rd, h2, hf.kind, hf.mode⟩ .nil), hR, Compat.refl _, Pres.refl _ _⟩
    have hmd := hf.mode
    simp only at hmd
    have hbe : gn.body ≠ none := by rw [hb]; simp
    have hnm' : gn.name ≠ "runtime.NumGoroutine" := by simpa using hnm
    show step P (lone fr cs w) = .next (lone _ (_ :: cs) _)
    refine step_lone_go ?_
    cases md with
    | run => cases hm
    | returning => simp [stepG, hmd, unwind, h0, callDeferred, invoke, Sem.runT_eq, callFunc, hgn, hbe, hnm']
    | panicking ch => simp [stepG, hmd, unwind, h0, callDeferred, invoke, Sem.runT_eq, callFunc, hgn, hbe, hnm']

def raiseM (ch : List PanicEntry) : FrameMode → FrameMode
  | .panicking old => .panicking (ch ++ old)
  | _ => .panicking ch
/-- A panic goes on in the caller. -/
theorem sim_backP {t tB : List Item} {ch : List PanicEntry} {fB nB : Nat} {τB : Nat → AV} {rdB : Option Nat} {DB : List AV} {kB : CallKind} {mB : FrameMode} {fn : Func} (hfn : P.funcs[f]? = some fn) :
    SimT P C [⟨f, n, τ, t, rd, [], kd, .panicking ch⟩, ⟨fB, nB, τB, tB, rdB, DB, kB, mB⟩] ar [⟨fB, nB, τB, tB, rdB, DB, kB, raiseM ch mB⟩] ar := by
  intro ts w ρ cs hts hR
  obtain ⟨fr, m, rfl, hf, hn'⟩ := l2_cons hts
  obtain ⟨fb, m, rfl, hb, hn⟩ := l2_cons hn'
  cases hn
  have hfn' : fr.fn = f := hf.fn
  refine ⟨[fb.raise ch], w, ρ, Steps.one (step_leave_panicked ⟨hf.mode, l2_nil hf.defs, fn, by rw [hfn']; exact hfn⟩), .cons ?_ .nil, hR, Compat.refl _, Pres.refl _ _⟩
  have hm := hb.mode
  simp only at hm
  cases mB with
  | run => simp only [Frame.raise, hm]; exact ⟨hb.fn, hb.size, hb.slots, hb.todo, hb.rd, hb.defs, hb.kind, rfl⟩
  | returning => simp only [Frame.raise, hm]; exact ⟨hb.fn, hb.size, hb.slots, hb.todo, hb.rd, hb.defs, hb.kind, rfl⟩
  | panicking old => simp only [Frame.raise, hm]; exact ⟨hb.fn, hb.size, hb.slots, hb.todo, hb.rd, hb.defs, hb.kind, rfl⟩

/-! ### Contracts -/
/-- A call of known contract that is lent the first objects: it comes back, or panics. -/
theorem sim_contract {i : Nat} {rest : List Nat} {o : Oper} {fo : Operand} {xs : Array Operand} {ts : Array TypeId} {g : FuncId} {caps as : List AV} {gn : Func} {c : Code} {A A' B : List AO} {r : AV} (har : ar = A ++ B) (ho : ops[i]? = some o) (hg : o.guard = none)
    (hop : o.op = .call { callee := .value fo, args := xs, argTypes := ts }) (hfo : evA τ fo = .fn (.func g) caps) [hF : Fun P g gn c]
    (has : xs.toList.map (evA τ) ++ caps = as) (hu : AV.unders A.length as = true) (hk : Kept A.length A) (hA' : A'.length = A.length) (h : CallT P g as A (fun out A1 => out = .ret r ∧ A1 = A')) (hd : dstOK n o.dst = true) :
    SimT P C [⟨f, n, τ, .inRegion ops (i :: rest) :: k, rd, D, kd, .run⟩] ar [⟨f, n, updO τ o.dst r, .inRegion ops rest :: k, rd, D, kd, .run⟩] (A' ++ B) := by
  subst har
  intro ts' w ρ cs hts hR
  obtain ⟨fr, m, rfl, hf, hn'⟩ := l2_cons hts
  cases hn'
  obtain ⟨k', h2, h0⟩ := top_op hf
  have hfv := evA_ok (a := ⟨fr.tmps, fr.defers⟩) hf.slots fo
  rw [show evA τ fo = _ from hfo] at hfv
  obtain ⟨cvs, hfo', hcl, hcr⟩ := rv_fn hfv
  obtain ⟨hl, hv⟩ := args_rv (a := ⟨fr.tmps, fr.defers⟩) hf.slots xs hcl hcr
  rw [show xs.toList.map (evA τ) ++ caps = as from has] at hl hv
  have hcall := callT_frame (C := C) (A := A) (B := B) (S := fun out A1 => out = .ret r ∧ A1 = A') (fun w ρ X vs a b c => (h w ρ X vs a b c).mono fun e w' hd => by
    obtain ⟨out, A1, ρ1, ⟨h1, rfl⟩, h2, h3⟩ := hd
    exact ⟨out, A1, ρ1, ⟨⟨h1, rfl⟩, hA'⟩, h2, h3⟩) hu hk hR hl hv
  obtain ⟨e, w', fr', ⟨out, A1, ρ', ⟨rfl, rfl⟩, q1, q2, q3, q4⟩, hst, hfr, hlv⟩ := hcall (fr :: cs)
  have hgo := stepGR_op (P := P) (b := fr) (a := ⟨fr.tmps, fr.defers⟩) (k := k') (cs := cs) (w := w) (rest := rest) ho (by simp [Region.wanted, hg])
  rw [Oper.semAt_eq _ _ _ (fun c h => by rw [hop] at h; cases h), ← h0, atR_self hf.mode] at hgo
  have henter : step P (lone fr cs w) = .next (lone (Frame.enter P g (xs.map (⟨fr.tmps, fr.defers⟩ : Act).eval ++ cvs) .normal) (fr :: cs) w) :=
    step_lone_go (by rw [hgo]; simp [stepG.apply, call_enter (P := P) (w := w) hF.h hF.b hF.nm hop hfo', h0])
  cases e with
  | returned v =>
    exact ⟨[fr.finish v], w', ρ', .head henter (Steps.trans hst (.one (step_leave_returned hlv))), .cons (fin_ok (τ2 := updO τ o.dst r) (t2 := .inRegion ops rest :: k) (d := o.dst) (by simp [finA, nth_eq, ho]) hd (hf.mono q3 q2) q4) .nil, q1, q2, q3⟩
  | panicked chain => exact q4.elim
  | outgrown => exact q4.elim
/-- A call of known contract that panics. -/
theorem sim_contractP {i : Nat} {rest : List Nat} {o : Oper} {fo : Operand} {xs : Array Operand} {ts : Array TypeId} {g : FuncId} {caps as : List AV} {gn : Func} {c : Code} {A A' B : List AO} {t : TypeId} {x : AV} {v : Value} (har : ar = A ++ B) (ho : ops[i]? = some o) (hg : o.guard = none)
    (hop : o.op = .call { callee := .value fo, args := xs, argTypes := ts }) (hfo : evA τ fo = .fn (.func g) caps) [hF : Fun P g gn c]
    (has : xs.toList.map (evA τ) ++ caps = as) (hu : AV.unders A.length as = true) (hk : Kept A.length A) (hA' : A'.length = A.length) (hv : clV x = some v) (h : CallT P g as A (fun out A1 => out = .pan (.ifc t x) ∧ A1 = A')) :
    SimT P C [⟨f, n, τ, .inRegion ops (i :: rest) :: k, rd, D, kd, .run⟩] ar [⟨f, n, τ, .inRegion ops (i :: rest) :: k, rd, D, kd, .panicking [{ v := .iface t v, recovered := false }]⟩] (A' ++ B) := by
  subst har
  intro ts' w ρ cs hts hR
  obtain ⟨fr, m, rfl, hf, hn'⟩ := l2_cons hts
  cases hn'
  obtain ⟨k', h2, h0⟩ := top_op hf
  have hfv := evA_ok (a := ⟨fr.tmps, fr.defers⟩) hf.slots fo
  rw [show evA τ fo = _ from hfo] at hfv
  obtain ⟨cvs, hfo', hcl, hcr⟩ := rv_fn hfv
  obtain ⟨hl, hv'⟩ := args_rv (a := ⟨fr.tmps, fr.defers⟩) hf.slots xs hcl hcr
  rw [show xs.toList.map (evA τ) ++ caps = as from has] at hl hv'
  have hcall := callT_frame (C := C) (A := A) (B := B) (S := fun out A1 => out = .pan (.ifc t x) ∧ A1 = A') (fun w ρ X vs a b c => (h w ρ X vs a b c).mono fun e w' hd => by
    obtain ⟨out, A1, ρ1, ⟨h1, rfl⟩, h2, h3⟩ := hd
    exact ⟨out, A1, ρ1, ⟨⟨h1, rfl⟩, hA'⟩, h2, h3⟩) hu hk hR hl hv'
  obtain ⟨e, w', fr', ⟨out, A1, ρ', ⟨rfl, rfl⟩, q1, q2, q3, q4⟩, hst, hfr, hlv⟩ := hcall (fr :: cs)
  have hgo := stepGR_op (P := P) (b := fr) (a := ⟨fr.tmps, fr.defers⟩) (k := k') (cs := cs) (w := w) (rest := rest) ho (by simp [Region.wanted, hg])
  rw [Oper.semAt_eq _ _ _ (fun c h => by rw [hop] at h; cases h), ← h0, atR_self hf.mode] at hgo
  have henter : step P (lone fr cs w) = .next (lone (Frame.enter P g (xs.map (⟨fr.tmps, fr.defers⟩ : Act).eval ++ cvs) .normal) (fr :: cs) w) :=
    step_lone_go (by rw [hgo]; simp [stepG.apply, call_enter (P := P) (w := w) hF.h hF.b hF.nm hop hfo', h0])
  cases e with
  | returned v => exact q4.elim
  | panicked chain =>
    obtain ⟨u, rfl, hu'⟩ := q4
    obtain ⟨u2, rfl, hu2⟩ := rv_ifc hu'
    have := rv_cl hv hu2
    subst this
    have hf' := hf.mono q3 q2
    have hm := hf.mode
    simp only at hm
    refine ⟨[fr.raise _], w', ρ', .head henter (Steps.trans hst (.one (step_leave_panicked hlv))), .cons ?_ .nil, q1, q2, q3⟩
    simp only [Frame.raise, hm]
    exact ⟨hf'.fn, hf'.size, hf'.slots, hf'.todo, hf'.rd, hf'.defs, hf'.kind, rfl⟩
  | outgrown => exact q4.elim
end
end Go.Iron
