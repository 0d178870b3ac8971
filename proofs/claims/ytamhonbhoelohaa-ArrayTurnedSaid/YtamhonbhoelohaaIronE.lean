/- Iron: functions: begin, end, calls. -/
import Derived.Test.YtamhonbhoelohaaIronD
namespace Go.Iron

def bodyOf (fn : Func) : Code := fn.body.getD .skip

/-- A function with a body. -/
class Fun (P : Program) (g : FuncId) (fn : outParam Func) (c : outParam Code) : Prop where
  h : P.funcs[g]? = some fn
  b : fn.body = some c
  nm : (fn.name == "runtime.NumGoroutine") = false

section
variable {P : Program} {f n : Nat} {C : Cx} {τ τ' : Nat → AV} {ar ar' : List AO} {k todo : List Item} {Q : Out → List AO → Prop} {ops : Array Oper}

/-- The parameters' slots. -/
def argsT (args : List AV) : Nat → AV := fun t => match nth args t with
  | some x => x
  | none => .val undef

theorem callT_body {fn : Func} {c : Code} {args : List AV} [hf : Fun P f fn c] (hn : fn.ntmps = n) (hargs : Nat.ble args.length n = true)
    (h : ∀ w ρ X, Run P f n (cx w ρ ar X) (argsT args) ar [.code c] Q) : CallT P f args ar Q := by
  intro w ρ X vs hR hl hv cs
  let b : Frame := { (default : Frame) with fn := f, kind := .normal, roundOf := none }
  have hle : args.length ≤ n := by simpa [Nat.ble_eq] using hargs
  have henter : Frame.enter P f vs .normal = b.atR { tmps := vs ++ Array.replicate (fn.ntmps - vs.size) undef, defers := [] } [.code c] := by
    simp [Frame.enter, Frame.atR, hf.h, hf.b, b]
  obtain ⟨e, w', fr, s, h1, h2, h3⟩ := h w ρ X b { tmps := vs ++ Array.replicate (fn.ntmps - vs.size) undef, defers := [] } w ρ cs rfl ⟨rfl, rfl⟩ (by simp [hn]; omega) rfl hR (fun t => by
    unfold argsT
    rw [nth_eq]
    cases hx : args[t]? with
    | none =>
      have ht : args.length ≤ t := by simpa using hx
      have : (vs ++ Array.replicate (fn.ntmps - vs.size) undef).getD t undef = undef := by
        rw [Array.getD_eq_getD_getElem?, Array.getElem?_append_right (by omega), Array.getElem?_replicate]
        split <;> rfl
      simp only [this]
      exact .val
    | some x =>
      have ht : t < args.length := (List.getElem?_eq_some_iff.1 hx).1
      have : (vs ++ Array.replicate (fn.ntmps - vs.size) undef).getD t undef = vs[t]'(by omega) := by
        rw [Array.getD_eq_getD_getElem?, Array.getElem?_append_left (by omega)]
        simp [hl, ht]
      simp only [this]
      exact hv t x _ hx (by simp [hl, ht]))
  cases e with
  | jump j => exact absurd h2.1 (by simp)
  | norm e =>
    refine ⟨e, w', fr, h3, ?_, h1, h2⟩
    rw [henter]
    obtain ⟨out, ar1, ρ1, _, _, ho⟩ := h3
    cases e with
    | returned v => exact s
    | panicked chain => exact s
    | outgrown => cases out <;> exact ho.elim

theorem run_ret {fn : Func} {c : Code} [hf : Fun P f fn c] {xs : List AV} (hr : Res P τ ar fn.results.toList xs) (hQ : Q (.ret (outA xs)) ar) (hrd : C.rd = none := by rfl) (hD : C.D = [] := by rfl) : Run P f n C τ ar (.code .ret :: k) Q := by
  intro b a w ρ cs g1 g2 g3 g4 g5 g6
  obtain ⟨v, hv, hx⟩ := results_run g5 g6 hr
  refine ⟨.norm (.returned v), w, { b.atR a (.code .ret :: k) with mode := .returning }, .one (stepR_ret (g2.2.trans hrd)), g1, ⟨rfl, by rw [hD] at g4; exact g4, g2.1, fn, ?_, hv⟩, .ret (outA xs), ar, ρ, hQ, g5, hx⟩
  show P.funcs[b.fn]? = some fn
  rw [g1]
  exact hf.h

theorem run_end {fn : Func} {c : Code} [hf : Fun P f fn c] {xs : List AV} (hr : Res P τ ar fn.results.toList xs) (hQ : Q (.ret (outA xs)) ar) (hrd : C.rd = none := by rfl) (hD : C.D = [] := by rfl) : Run P f n C τ ar [] Q := by
  intro b a w ρ cs g1 g2 g3 g4 g5 g6
  obtain ⟨v, hv, hx⟩ := results_run g5 g6 hr
  refine ⟨.norm (.returned v), w, { b.atR a [] with mode := .returning }, .one (stepR_end (g2.2.trans hrd)), g1, ⟨rfl, by rw [hD] at g4; exact g4, g2.1, fn, ?_, hv⟩, .ret (outA xs), ar, ρ, hQ, g5, hx⟩
  show P.funcs[b.fn]? = some fn
  rw [g1]
  exact hf.h

/-- panic(x). -/
theorem run_panicOp {i : Nat} {rest : List Nat} {o : Oper} {y : Operand} {t : TypeId} {x : AV} {fn : Func} {c : Code} [hf : Fun P f fn c] (ho : ops[i]? = some o) (hg : o.guard = none) (hop : o.op = .panic y) (hy : evA τ y = .ifc t x)
    (hQ : Q (.pan (.ifc t x)) ar) (hD : C.D = [] := by rfl) : Run P f n C τ ar (.inRegion ops (i :: rest) :: k) Q := by
  intro b a w ρ cs g1 g2 g3 g4 g5 g6
  have hv := evA_ok g6 y
  rw [hy] at hv
  obtain ⟨u, hu, hr⟩ := rv_ifc hv
  have hst := stepGR_op (P := P) (b := b) (k := k) (cs := cs) (w := w) (rest := rest) ho (by simp [Region.wanted, hg] : Region.wanted o (yielded ops a.tmps) = true)
  rw [Oper.semAt_eq _ _ _ (fun c h => by rw [hop] at h; cases h)] at hst
  have hrun : (execOp a.eval o).run P w = .halt (.panic (.iface t u)) w := by simp [execOp, hop, hu, Instr.panic]
  refine ⟨.norm (.panicked [{ v := .iface t u, recovered := false }]), w, { b.atR a (.inRegion ops (i :: rest) :: k) with mode := .panicking [{ v := .iface t u, recovered := false }] }, .one (step_lone_go ?_), g1, ⟨rfl, by rw [hD] at g4; exact g4, fn, ?_⟩,
    .pan (.ifc t x), ar, ρ, hQ, g5, _, rfl, .ifc hr⟩
  · rw [hst, ← Frame.raise_atR]
    simp [stepG.apply, hrun]
  · show P.funcs[b.fn]? = some fn
    rw [g1]
    exact hf.h

/-! ### Calls -/
/-- A call that is made: it comes back with what its contract says, or its panic goes on. -/
theorem call_core {i : Nat} {rest : List Nat} {o : Oper} {fo : Operand} {xs : Array Operand} {ts : Array TypeId} {g : FuncId} {caps : List AV} {gn : Func} {gc : Code} [hf : Fun P g gn gc]
    {b : Frame} {a : Act} {w : World} {ρ : List Loc} {cs : List Frame} {τc : Nat → AV} (ho : ops[i]? = some o) (hwant : Region.wanted o (yielded ops a.tmps) = true)
    (hop : o.op = .call { callee := .value fo, args := xs, argTypes := ts }) (hfo : evA τc fo = .fn (.func g) caps) (g5 : RelA C ρ ar w) (g6 : Slots w (Ow C ρ ar) ρ τc a.tmps)
    (S : Out → List AO → Prop)
    (hcall : ∀ (vs : Array Value), vs.size = xs.size + caps.length → (∀ (j : Nat) x v, (xs.toList.map (evA τc) ++ caps)[j]? = some x → vs[j]? = some v → RV w (Ow C ρ ar) ρ x v) →
      Calls P g vs w fun e w' => ∃ out ar' ρ', S out ar' ∧ RelA C ρ' ar' w' ∧ Compat ρ ρ' ∧ Pres w (Ow C ρ ar) w' (Ow C ρ' ar') ∧ OutR w' (Ow C ρ' ar') ρ' out (.norm e)) :
    (∃ x v ar' ρ' w', S (.ret x) ar' ∧ Steps P (lone (b.atR a (.inRegion ops (i :: rest) :: k)) cs w) (lone (b.atR (a.put o.dst v) (.inRegion ops rest :: k)) cs w') ∧ RelA C ρ' ar' w' ∧ Compat ρ ρ' ∧ Pres w (Ow C ρ ar) w' (Ow C ρ' ar') ∧ RV w' (Ow C ρ' ar') ρ' x v) ∨
    (∃ x chain ar' ρ' w', S (.pan x) ar' ∧ Steps P (lone (b.atR a (.inRegion ops (i :: rest) :: k)) cs w) (lone { b.atR a (.inRegion ops (i :: rest) :: k) with mode := .panicking chain } cs w') ∧ RelA C ρ' ar' w' ∧ OutR w' (Ow C ρ' ar') ρ' (.pan x) (.norm (.panicked chain))) := by
  have hfv := evA_ok g6 fo
  rw [hfo] at hfv
  obtain ⟨cvs, hfo', hcl, hcr⟩ := rv_fn hfv
  have hgo := stepGR_op (P := P) (b := b) (k := k) (cs := cs) (w := w) (rest := rest) ho hwant
  rw [Oper.semAt_eq _ _ _ (fun c h => by rw [hop] at h; cases h)] at hgo
  have hrun : (execOp a.eval o).run P w = .ok (.enter g (xs.map a.eval ++ cvs)) w := by
    have hb : gn.body.isNone = false := by rw [hf.b]; rfl
    have hbe : gn.body ≠ none := by rw [hf.b]; simp
    have hnm : gn.name ≠ "runtime.NumGoroutine" := by simpa using hf.nm
    simp [execOp, hop, resolve, hfo', Deferred.ofValue, invoke, callFunc, hf.h, hnm, hbe]
  obtain ⟨e, w', fr, ⟨out, ar1, ρ1, hS, hR1, hc1, hp1, ho1⟩, hst, hfr, hlv⟩ := hcall (xs.map a.eval ++ cvs) (by simp [hcl]) (fun j x v hx hv => by
    by_cases hj : j < xs.size
    · rw [List.getElem?_append_left (by simpa using hj)] at hx
      rw [Array.getElem?_append_left (by simpa using hj)] at hv
      simp only [List.getElem?_map, Array.getElem?_toList, Array.getElem?_map] at hx hv
      cases hxj : xs[j]? with
      | none => simp [hxj] at hx
      | some z =>
        simp [hxj] at hx hv
        subst hx
        subst hv
        exact evA_ok g6 z
    · rw [List.getElem?_append_right (by simpa using hj)] at hx
      rw [Array.getElem?_append_right (by simpa using hj)] at hv
      simp only [List.length_map, Array.length_toList, Array.size_map] at hx hv
      exact hcr _ x v hx hv) (b.atR a (.inRegion ops (i :: rest) :: k) :: cs)
  have hfin : ∀ v, (b.atR a (.inRegion ops (i :: rest) :: k)).finish v = b.atR (a.put o.dst v) (.inRegion ops rest :: k) := by
    intro v; rw [Frame.finish_atR, ho]; rfl
  have henter : step P (lone (b.atR a (.inRegion ops (i :: rest) :: k)) cs w) = .next (lone (Frame.enter P g (xs.map a.eval ++ cvs) .normal) (b.atR a (.inRegion ops (i :: rest) :: k) :: cs) w) :=
    step_lone_go (by rw [hgo]; simp [stepG.apply, hrun, Frame.atR])
  cases e with
  | returned v =>
    cases out with
    | pan x => exact ho1.elim
    | jmp j => exact ho1.elim
    | ret x =>
      have hlast := step_leave_returned (P := P) (c := b.atR a (.inRegion ops (i :: rest) :: k)) (cs := cs) hlv
      rw [hfin] at hlast
      exact .inl ⟨x, v, ar1, ρ1, w', hS, .head henter (Steps.trans hst (.one hlast)), hR1, hc1, hp1, ho1⟩
  | panicked chain =>
    cases out with
    | ret x => exact ho1.elim
    | jmp j => exact ho1.elim
    | pan x =>
      have hlast := step_leave_panicked (P := P) (c := b.atR a (.inRegion ops (i :: rest) :: k)) (cs := cs) hlv
      rw [Frame.raise_atR] at hlast
      exact .inr ⟨x, chain, ar1, ρ1, w', hS, .head henter (Steps.trans hst (.one hlast)), hR1, ho1⟩
  | outgrown => cases out <;> exact ho1.elim

/-- What a call of known contract leaves the caller: `S out ar'`. -/
theorem run_callRaw {i : Nat} {rest : List Nat} {o : Oper} {fo : Operand} {xs : Array Operand} {ts : Array TypeId} {g : FuncId} {caps : List AV} {gn : Func} {gc : Code} [hf : Fun P g gn gc] {fn : Func} {c : Code} [hfn : Fun P f fn c]
    (ho : ops[i]? = some o) (hg : o.guard = none) (hop : o.op = .call { callee := .value fo, args := xs, argTypes := ts }) (hfo : evA τ fo = .fn (.func g) caps)
    (S : Out → List AO → Prop)
    (hcall : ∀ (w : World) (ρ : List Loc) (vs : Array Value), RelA C ρ ar w → vs.size = xs.size + caps.length → (∀ (j : Nat) x v, (xs.toList.map (evA τ) ++ caps)[j]? = some x → vs[j]? = some v → RV w (Ow C ρ ar) ρ x v) →
      Calls P g vs w fun e w' => ∃ out ar' ρ', S out ar' ∧ RelA C ρ' ar' w' ∧ Compat ρ ρ' ∧ Pres w (Ow C ρ ar) w' (Ow C ρ' ar') ∧ OutR w' (Ow C ρ' ar') ρ' out (.norm e))
    (hret : ∀ x ar', S (.ret x) ar' → Run P f n C (match o.dst with | some d => upd τ d x | none => τ) ar' (.inRegion ops rest :: k) Q)
    (hd : ∀ d, o.dst = some d → Nat.blt d n = true)
    (hpan : ∀ x ar', S (.pan x) ar' → Q (.pan x) ar' ∧ C.D = []) : Run P f n C τ ar (.inRegion ops (i :: rest) :: k) Q := by
  intro b a w ρ cs g1 g2 g3 g4 g5 g6
  rcases call_core (k := k) (b := b) (cs := cs) (rest := rest) ho (by simp [Region.wanted, hg] : Region.wanted o (yielded ops a.tmps) = true) hop hfo g5 g6 S (fun vs => hcall w ρ vs g5) with
    ⟨x, v, ar1, ρ1, w', hS, hst, hR1, hc1, hp1, hx⟩ | ⟨x, chain, ar1, ρ1, w', hS, hst, hR1, ho1⟩
  · have hsl : Slots w' (Ow C ρ1 ar1) ρ1 (match o.dst with | some d => upd τ d x | none => τ) (a.put o.dst v).tmps := by
      cases hdst : o.dst with
      | none => exact g6.mono hp1 hc1
      | some d =>
        have := hd d hdst
        exact slots_put (g6.mono hp1 hc1) (by rw [g3]; simpa [Nat.blt_eq] using this) hx
    obtain ⟨e2, w2, fr2, s2, q2⟩ := hret x ar1 hS b (a.put o.dst v) w' ρ1 cs g1 g2 (by rw [put_tmps_size]; exact g3) (by rw [put_defers]; exact g4) hR1 hsl
    exact ⟨e2, w2, fr2, hst.trans s2, q2⟩
  · refine ⟨.norm (.panicked chain), w', { b.atR a (.inRegion ops (i :: rest) :: k) with mode := .panicking chain }, hst, g1, ⟨rfl, by rw [(hpan x ar1 hS).2] at g4; exact g4, fn, ?_⟩, .pan x, ar1, ρ1, (hpan x ar1 hS).1, hR1, ho1⟩
    show P.funcs[b.fn]? = some fn
    rw [g1]
    exact hfn.h

/-- All that is handed over is data. -/
def underAll : List AV → Bool
  | [] => true
  | x :: l => match x.under 0 with
    | true => underAll l
    | false => false
theorem underAll_get {l : List AV} (h : underAll l = true) {i : Nat} {x : AV} (hx : l[i]? = some x) : x.under 0 = true := by
  induction l generalizing i with
  | nil => simp at hx
  | cons y l ih =>
    simp only [underAll] at h
    cases hy : y.under 0 with
    | false => simp [hy] at h
    | true =>
      simp [hy] at h
      cases i with
      | zero => simp at hx; subst hx; exact hy
      | succ i => exact ih h (by simpa using hx)

theorem callT_pure {g : FuncId} {as : List AV} {Q0 : Out → Prop} (h : CallT P g as [] (fun out A => Q0 out ∧ A = [])) (hu : underAll as = true) {w : World} {ρ : List Loc} {vs : Array Value} (hR : RelA C ρ ar w) (hl : vs.size = as.length)
    (hv : ∀ (j : Nat) x v, as[j]? = some x → vs[j]? = some v → RV w (Ow C ρ ar) ρ x v) :
    Calls P g vs w fun e w' => ∃ out ρ', Q0 out ∧ RelA C ρ' ar w' ∧ Compat ρ ρ' ∧ Pres w (Ow C ρ ar) w' (Ow C ρ' ar) ∧ OutR w' (Ow C ρ' ar) ρ' out (.norm e) := by
  have hr0 : RelA (cx w [] [] (Ow C ρ ar)) [] [] w := ⟨rfl, rfl, fun i o L h => by simp at h, fun i j o o' L L' b hij h => by simp at h, fun b hb => by
    rcases hb with hb | hb
    · exact hR.far b hb
    · exact hR.lt hb, fun b _ ⟨i, o, L, h, _⟩ => by simp at h, Nat.le_refl _, rfl, rfl, rfl, fun _ _ _ => rfl, fun b ⟨i, o, L, h, _⟩ => by simp at h, Compat.refl _, fun p hp => by simp at hp⟩
  have hOw : ∀ b, Ow (cx w [] [] (Ow C ρ ar)) [] [] b ↔ Ow C ρ ar b := fun b => ⟨fun h => h.elim (fun z => z) (fun ⟨i, o, L, h, _⟩ => by simp at h), .inl⟩
  refine (h w [] (Ow C ρ ar) vs hr0 hl fun i x v hx hv' => ?_).mono fun e w' hd => ?_
  · have := (hv i x v hx hv').take (O' := Ow (cx w [] [] (Ow C ρ ar)) [] []) (fun b hb => (hOw b).1 hb) (m := 0) (underAll_get hu hx)
    simpa using this
  · obtain ⟨out, A, ρ', ⟨hQ, rfl⟩, hR', ho⟩ := hd
    have hρ : ρ' = [] := List.eq_nil_of_length_eq_zero hR'.len
    subst hρ
    have hheap : ∀ k, k < w.heap.size → w'.heap[k]? = w.heap[k]? := fun k hk => hR'.heap k hk (fun ⟨i, o, L, h, _⟩ => by simp at h)
    have hp : Pres w (Ow C ρ ar) w' (Ow C ρ ar) := ⟨hR'.size, fun b hb hn => ⟨hheap b hb, hn⟩⟩
    refine ⟨out, ρ, hQ, ⟨hR.len, hR.len0, fun i o L h1 h2 => ?_, hR.disj, fun b hb => Nat.lt_of_lt_of_le (hR.far b hb) hR'.size, hR.apart, Nat.le_trans hR.size hR'.size, hR'.os.trans hR.os, hR'.tape.trans hR.tape, hR'.output.trans hR.output, fun k hk hn => (hheap k (Nat.lt_of_lt_of_le hk hR.size)).trans (hR.heap k hk hn), hR.new, hR.comp, fun p hp' => (hR.defs p hp').mono hp (Compat.refl _)⟩, Compat.refl _, hp, ?_⟩
    · have hob := hR.obj i o L h1 h2
      cases hlv : o.live with
      | false => cases o <;> simp [AO.live] at hlv; trivial
      | true => exact hob.mono hp (Compat.refl _) fun b hb => hheap b (hob.lt hlv hb)
    · have up : ∀ x v, RV w' (Ow (cx w [] [] (Ow C ρ ar)) [] []) [] x v → RV w' (Ow C ρ ar) ρ x v := fun x v hx => (hx.fewer (O' := Ow C ρ ar) (fun b hb => (hOw b).2 hb)).up
      cases out with
      | ret x => cases e with
        | returned v => exact up x v ho
        | panicked c => exact ho.elim
        | outgrown => exact ho.elim
      | pan x => cases e with
        | returned v => exact ho.elim
        | panicked c => obtain ⟨v, h1, h2⟩ := ho; exact ⟨v, h1, up x v h2⟩
        | outgrown => exact ho.elim
      | jmp j => exact ho.elim

/-- A call of a function that computes: its result r. -/
theorem run_call {i : Nat} {rest : List Nat} {o : Oper} {fo : Operand} {xs : Array Operand} {ts : Array TypeId} {g : FuncId} {caps as : List AV} {gn : Func} {gc : Code} [Fun P g gn gc] {fn : Func} {c : Code} [Fun P f fn c] {d : Nat} {r : AV}
    (ho : ops[i]? = some o) (hg : o.guard = none) (hop : o.op = .call { callee := .value fo, args := xs, argTypes := ts }) (hfo : evA τ fo = .fn (.func g) caps) (hdst : o.dst = some d) (hd : Nat.blt d n = true)
    (has : xs.toList.map (evA τ) ++ caps = as) (hu : underAll as = true) (h : CallT P g as [] (fun out A => out = .ret r ∧ A = []))
    (hret : Run P f n C (upd τ d r) ar (.inRegion ops rest :: k) Q) : Run P f n C τ ar (.inRegion ops (i :: rest) :: k) Q := by
  refine run_callRaw ho hg hop hfo (fun out ar' => out = .ret r ∧ ar' = ar) (fun w ρ vs hR hl hv => ?_) (fun x ar' hS => ?_) (fun d' hd' => ?_) (fun x ar' hS => ?_)
  · refine (callT_pure (C := C) (ar := ar) (Q0 := fun out => out = .ret r) h hu hR (by rw [hl, ← has]; simp) (by rw [← has]; exact hv)).mono ?_
    rintro e w' ⟨out, ρ', h1, h2, h3, h4, h5⟩
    exact ⟨out, ar, ρ', ⟨h1, rfl⟩, h2, h3, h4, h5⟩
  · obtain ⟨h1, rfl⟩ := hS
    cases h1
    rw [hdst]
    exact hret
  · rw [hdst] at hd'
    cases hd'
    exact hd
  · cases hS.1


/-- The same under a guard that isn't decided. -/
theorem run_callU {i : Nat} {rest : List Nat} {o : Oper} {fo : Operand} {xs : Array Operand} {ts : Array TypeId} {g : FuncId} {caps as : List AV} {gn : Func} {gc : Code} [Fun P g gn gc] {d : Nat} {r : AV}
    {j : Nat} {want bb : Bool} {oc : Option Bool} (ho : ops[i]? = some o) (hg : o.guard = some (j, want)) (hb : GuardA n τ ops j oc bb) (hop : o.op = .call { callee := .value fo, args := xs, argTypes := ts })
    {l : List Nat} (hl : tmpsOf (fo :: xs.toList) = l) (hgk : GOKs (condOf oc bb want) τ l) (hfo : evA (opT l τ) fo = .fn (.func g) caps) (hdst : o.dst = some d) (hd : Nat.blt d n = true)
    (has : xs.toList.map (evA (opT l τ)) ++ caps = as) (hu : underAll as = true) (h : condOf oc bb want = true → CallT P g as [] (fun out A => out = .ret r ∧ A = []))
    (hret : Run P f n C (upd τ d (.opt (condOf oc bb want) r)) ar (.inRegion ops rest :: k) Q) : Run P f n C τ ar (.inRegion ops (i :: rest) :: k) Q := by
  intro b a w ρ cs g1 g2 g3 g4 g5 g6
  have hw := wanted_of g6 g3 hg hb
  have hdn' : d < a.tmps.size := by rw [g3]; simpa [Nat.blt_eq] using hd
  cases hc : condOf oc bb want with
  | true =>
    rcases call_core (k := k) (b := b) (cs := cs) (rest := rest) ho (hw.trans hc) hop hfo g5 (opT_slots hc hgk g6) (fun out ar' => out = .ret r ∧ ar' = ar) (fun vs hl hv => by
        refine (callT_pure (C := C) (ar := ar) (Q0 := fun out => out = .ret r) (h hc) hu g5 (by rw [hl, ← has]; simp) (by rw [← has]; exact hv)).mono ?_
        rintro e w' ⟨out, ρ', h1, h2, h3, h4, h5⟩
        exact ⟨out, ar, ρ', ⟨h1, rfl⟩, h2, h3, h4, h5⟩) with
      ⟨x, v, ar1, ρ1, w', ⟨hS1, rfl⟩, hst, hR1, hc1, hp1, hx⟩ | ⟨x, chain, ar1, ρ1, w', hS, hst, hR1, ho1⟩
    · cases hS1
      obtain ⟨e2, w2, fr2, s2, q2⟩ := hret b (a.put o.dst v) w' ρ1 cs g1 g2 (by rw [put_tmps_size]; exact g3) (by rw [put_defers]; exact g4) hR1 (by
        rw [hdst]; exact slots_put (g6.mono hp1 hc1) hdn' (.opt (fun _ => hx) (fun h' => by rw [hc] at h'; cases h')))
      exact ⟨e2, w2, fr2, hst.trans s2, q2⟩
    · cases hS.1
  | false =>
    have hst := stepR_op_skip (P := P) (b := b) (a := a) (k := k) (cs := cs) (w := w) (ops := ops) (i := i) (rest := rest) (by simp [ho, hw, hc])
    simp only [ho, Option.bind_some] at hst
    obtain ⟨e, w2, fr, s, q⟩ := hret b (a.put o.dst undef) w ρ cs g1 g2 (by rw [put_tmps_size]; exact g3) (by rw [put_defers]; exact g4) g5 (by
      rw [hdst]; exact slots_put g6 hdn' (.opt (fun h' => by rw [hc] at h'; cases h') (fun _ => rfl)))
    exact ⟨e, w2, fr, .head hst s, q⟩

/-- A loop: what its head knows (S, of a number x of its own), and what goes down. -/
theorem run_while {α : Type} (S : α → (Nat → AV) → List AO → Prop) (μ : α → Nat) {c : Code} (x0 : α) (h0 : S x0 τ ar)
    (round : ∀ x τ' ar', S x τ' ar' → (∀ y τ2 ar2, μ y < μ x → S y τ2 ar2 → Run P f n C τ2 ar2 (.inLoop c :: k) Q) → Run P f n C τ' ar' (.code c :: .inLoop c :: k) Q) :
    Run P f n C τ ar (.code (.loop c) :: k) Q := by
  have key : ∀ m x τ' ar', μ x = m → S x τ' ar' → Run P f n C τ' ar' (.code c :: .inLoop c :: k) Q := by
    intro m
    induction m using Nat.strongRecOn with
    | _ m ih =>
      intro x τ' ar' hm hS
      exact round x τ' ar' hS fun y τ2 ar2 hlt hS2 => run_inLoop (ih (μ y) (by omega) y τ2 ar2 rfl hS2)
  exact run_loop (key _ x0 τ ar rfl h0)

end
end Go.Iron
