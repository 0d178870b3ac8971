/- Iron: contracts used by walks of several frames; rows that begin as nil. -/
import Derived.Test.YtamhonbhoelohaaIronR
namespace Go.Iron
section
variable {P : Program} {f0 : FuncId} {C : Cx} {S S' : List AF} {ar ar' ar2 : List AO} {Q : Out → List AO → Prop} {ops : Array Oper}
variable {f n : Nat} {τ τ' : Nat → AV} {rd : Option Nat} {D : List AV} {kd : CallKind} {k : List Item} {I : TI} {J : TJ} {fl : Fl}

/-- A call of a function that computes. -/
theorem runS_call {i : Nat} {rest : List Nat} {o : Oper} {fo : Operand} {xs : Array Operand} {ts : Array TypeId} {g : FuncId} {caps as : List AV} {gn : Func} {c : Code} {r : AV} (ho : ops[i]? = some o) (hg : o.guard = none)
    (hop : o.op = .call { callee := .value fo, args := xs, argTypes := ts }) (hfo : evA τ fo = .fn (.func g) caps) [hF : Fun P g gn c]
    (has : xs.toList.map (evA τ) ++ caps = as) (hu : AV.unders 0 as = true) (hd : dstOK n o.dst = true) (h : CallT P g as [] (fun out A1 => out = .ret r ∧ A1 = []))
    (hr : RunS P f0 C (⟨f, n, updO τ o.dst r, .inRegion ops rest :: k, rd, D, kd, .run⟩ :: S) ar Q) : RunS P f0 C (⟨f, n, τ, .inRegion ops (i :: rest) :: k, rd, D, kd, .run⟩ :: S) ar Q :=
  runS11 (sim_contract (A := []) (A' := []) (B := ar) rfl ho hg hop hfo has hu .nil rfl h hd) hr

/-- A call of a function that panics. -/
theorem runS_callP {i : Nat} {rest : List Nat} {o : Oper} {fo : Operand} {xs : Array Operand} {ts : Array TypeId} {g : FuncId} {caps as : List AV} {gn : Func} {c : Code} {t : TypeId} {x : AV} {v : Value} (ho : ops[i]? = some o) (hg : o.guard = none)
    (hop : o.op = .call { callee := .value fo, args := xs, argTypes := ts }) (hfo : evA τ fo = .fn (.func g) caps) [hF : Fun P g gn c]
    (has : xs.toList.map (evA τ) ++ caps = as) (hu : AV.unders 0 as = true) (hv : clV x = some v) (h : CallT P g as [] (fun out A1 => out = .pan (.ifc t x) ∧ A1 = []))
    (hr : RunS P f0 C (⟨f, n, τ, .inRegion ops (i :: rest) :: k, rd, D, kd, .panicking [{ v := .iface t v, recovered := false }]⟩ :: S) ar Q) : RunS P f0 C (⟨f, n, τ, .inRegion ops (i :: rest) :: k, rd, D, kd, .run⟩ :: S) ar Q :=
  runS11 (sim_contractP (A := []) (A' := []) (B := ar) rfl ho hg hop hfo has hu .nil rfl hv h) hr

/-- A call that is lent the first objects. -/
theorem runS_callF (A A' B : List AO) {i : Nat} {rest : List Nat} {o : Oper} {fo : Operand} {xs : Array Operand} {ts : Array TypeId} {g : FuncId} {caps as : List AV} {gn : Func} {c : Code} {r : AV} (har : ar = A ++ B) (ho : ops[i]? = some o) (hg : o.guard = none)
    (hop : o.op = .call { callee := .value fo, args := xs, argTypes := ts }) (hfo : evA τ fo = .fn (.func g) caps) [hF : Fun P g gn c]
    (has : xs.toList.map (evA τ) ++ caps = as) (hu : AV.unders A.length as = true) (hk : Kept A.length A) (hA' : A'.length = A.length) (hd : dstOK n o.dst = true) (h : CallT P g as A (fun out A1 => out = .ret r ∧ A1 = A'))
    (hr : RunS P f0 C (⟨f, n, updO τ o.dst r, .inRegion ops rest :: k, rd, D, kd, .run⟩ :: S) (A' ++ B) Q) : RunS P f0 C (⟨f, n, τ, .inRegion ops (i :: rest) :: k, rd, D, kd, .run⟩ :: S) ar Q :=
  runS11 (sim_contract (A := A) (A' := A') (B := B) har ho hg hop hfo has hu hk hA' h hd) hr

/-- A call under a guard that isn't decided. -/
theorem runS_callU {i : Nat} {rest : List Nat} {o : Oper} {fo : Operand} {xs : Array Operand} {ts : Array TypeId} {g : FuncId} {caps as : List AV} {gn : Func} {gc : Code} [hF : Fun P g gn gc] {d : Nat} {r : AV}
    {j : Nat} {want bb : Bool} {oc : Option Bool} (ho : ops[i]? = some o) (hg : o.guard = some (j, want)) (hb : GuardA n τ ops j oc bb) (hop : o.op = .call { callee := .value fo, args := xs, argTypes := ts })
    {l : List Nat} (hl : tmpsOf (fo :: xs.toList) = l) (hgk : GOKs (condOf oc bb want) τ l) (hfo : evA (opT l τ) fo = .fn (.func g) caps) (hdst : o.dst = some d) (hd : Nat.blt d n = true)
    (has : xs.toList.map (evA (opT l τ)) ++ caps = as) (hu : underAll as = true) (h : condOf oc bb want = true → CallT P g as [] (fun out A => out = .ret r ∧ A = []))
    (hr : RunS P f0 C (⟨f, n, upd τ d (.opt (condOf oc bb want) r), .inRegion ops rest :: k, rd, D, kd, .run⟩ :: S) ar Q) : RunS P f0 C (⟨f, n, τ, .inRegion ops (i :: rest) :: k, rd, D, kd, .run⟩ :: S) ar Q := by
  refine runS11 (A' := ⟨f, n, upd τ d (.opt (condOf oc bb want) r), .inRegion ops rest :: k, rd, D, kd, .run⟩) (ar' := ar) ?_ hr
  intro ts' w ρ cs hts hR
  obtain ⟨fr, m, rfl, hf, hn'⟩ := l2_cons hts
  cases hn'
  obtain ⟨k', h2, h0⟩ := top_op hf
  have hw := wanted_of (a := ⟨fr.tmps, fr.defers⟩) hf.slots hf.size hg hb
  have hdn' : d < fr.tmps.size := by rw [hf.size]; simpa [Nat.blt_eq] using hd
  cases hc : condOf oc bb want with
  | false =>
    refine ⟨[fr.atR ((⟨fr.tmps, fr.defers⟩ : Act).put o.dst undef) (.inRegion ops rest :: k')], w, ρ, Steps.one ?_, .cons ⟨hf.fn, by show (((⟨fr.tmps, fr.defers⟩ : Act).put o.dst undef).tmps).size = n; rw [put_tmps_size]; exact hf.size, ?_, .cons .inRegion h2, hf.rd, ?_, hf.kind, rfl⟩ .nil, hR, Compat.refl _, Pres.refl _ _⟩
    · have hst := stepR_op_skip (P := P) (b := fr) (a := ⟨fr.tmps, fr.defers⟩) (k := k') (cs := cs) (w := w) (ops := ops) (i := i) (rest := rest) (by simp [ho, hw, hc])
      simp only [ho, Option.bind_some] at hst
      rw [← h0, atR_self hf.mode] at hst
      exact hst
    · rw [hdst]
      exact slots_put (a := ⟨fr.tmps, fr.defers⟩) hf.slots hdn' (.opt (fun h' => by cases h') (fun _ => rfl))
    · show L2 _ D ((⟨fr.tmps, fr.defers⟩ : Act).put o.dst undef).defers
      rw [put_defers]
      exact hf.defs
  | true =>
    have hsl := opT_slots (w := w) (tmps := fr.tmps) hc hgk hf.slots
    have hfv := evA_ok (a := ⟨fr.tmps, fr.defers⟩) hsl fo
    rw [show evA (opT l τ) fo = _ from hfo] at hfv
    obtain ⟨cvs, hfo', hcl, hcr⟩ := rv_fn hfv
    obtain ⟨hl', hv⟩ := args_rv (a := ⟨fr.tmps, fr.defers⟩) hsl xs hcl hcr
    rw [show xs.toList.map (evA (opT l τ)) ++ caps = as from has] at hl' hv
    obtain ⟨e, w', fr', ⟨out, ρ', rfl, q1, q2, q3, q4⟩, hst, hfr, hlv⟩ := callT_pure (C := C) (ar := ar) (Q0 := fun out => out = .ret r) (h hc) hu hR hl' hv (fr :: cs)
    have hgo := stepGR_op (P := P) (b := fr) (a := ⟨fr.tmps, fr.defers⟩) (k := k') (cs := cs) (w := w) (rest := rest) ho (hw.trans hc)
    rw [Oper.semAt_eq _ _ _ (fun c h => by rw [hop] at h; cases h), ← h0, atR_self hf.mode] at hgo
    have henter : step P (lone fr cs w) = .next (lone (Frame.enter P g (xs.map (⟨fr.tmps, fr.defers⟩ : Act).eval ++ cvs) .normal) (fr :: cs) w) :=
      step_lone_go (by rw [hgo]; simp [stepG.apply, call_enter (P := P) (w := w) hF.h hF.b hF.nm hop hfo', h0])
    cases e with
    | returned v =>
      refine ⟨[fr.finish v], w', ρ', .head henter (Steps.trans hst (.one (step_leave_returned hlv))), .cons (fin_ok (τ2 := upd τ d (.opt true r)) (t2 := .inRegion ops rest :: k) (d := some d) (x := .opt true r) (by simp [finA, nth_eq, ho, hdst, updO]) hd (hf.mono q3 q2) (.opt (fun _ => q4) (fun h' => by cases h'))) .nil, q1, q2, q3⟩
    | panicked chain => exact q4.elim
    | outgrown => exact q4.elim

/-- A nil slice as a row of one's own. -/
theorem runS_nilRow (t : Nat) (e : TypeId) (sz : Nat) {tt : List Item} {md : FrameMode} {idr : Nat} (r : Nat → List AV) (hx : τ t = .val (.slice none 0 0)) (har : snocN ar (.row e sz 0 0 r) = some (ar', idr))
    (hr : RunS P f0 C (⟨f, n, upd τ t (.row idr 0), tt, rd, D, kd, md⟩ :: S) ar' Q) : RunS P f0 C (⟨f, n, τ, tt, rd, D, kd, md⟩ :: S) ar Q :=
  runS_weak (fun fs w ρ h1 h2 => by
    obtain ⟨rfl, rfl⟩ := snocN_spec _ _ _ _ har
    obtain ⟨fr, m, rfl, hf, hn⟩ := l2_cons h1
    obtain ⟨r1, r2, r3⟩ := h2.add (o := .row e sz 0 0 r) (L := ⟨0, .slice none 0 0⟩) (w' := w) (Nat.le_refl _) (fun _ _ => rfl) rfl rfl rfl (fun b hb => by simp [Loc.blk] at hb)
      (fun hp => ⟨rfl, [], World.ownsRow_nil w 0 e sz, by simp, fun i h => by omega, fun i j x v h => by omega⟩)
    have hf' := hf.mono r2 r3
    refine ⟨_, .cons ⟨hf.fn, hf.size, fun j => ?_, hf'.todo, hf'.rd, hf'.defs, hf.kind, hf.mode⟩ (frames_mono r2 r3 hn), r1⟩
    show RV _ _ _ (upd τ t _ j) _
    rw [upd_eq]
    split
    · rename_i hj
      subst hj
      have := hf.slots j
      rw [show (⟨f, n, τ, tt, rd, D, kd, md⟩ : AF).τ j = _ from hx] at this
      have hv := rv_val this
      exact .row (L := ⟨0, .slice none 0 0⟩) (by rw [List.getElem?_append_right (by rw [h2.len]; exact Nat.le_refl _)]; simp [h2.len]) (Nat.le_refl _) (by rw [hv]; rfl) (fun _ => hv)
    · exact hf'.slots j) hr

/-- A nil slice in a box, as a row of one's own. -/
theorem runS_nilRowBox (id j : Nat) (e : TypeId) (sz : Nat) {eb : TypeId} {cs cs' : List AV} {ar1 : List AO} {idr : Nat} (r : Nat → List AV) (hob : nth ar id = some (.box eb cs)) (hx : nth cs j = some (.val (.slice none 0 0)))
    (har : snocN ar (.row e sz 0 0 r) = some (ar1, idr)) (hcs : setN cs j (.row idr 0) = some cs') (har' : setN ar1 id (.box eb cs') = some ar') (hr : RunS P f0 C S ar' Q) : RunS P f0 C S ar Q :=
  runS_weak (fun fs w ρ h1 h2 => by
    obtain ⟨rfl, rfl⟩ := snocN_spec _ _ _ _ har
    obtain ⟨hl1, rfl⟩ := setN_spec _ _ _ _ har'
    obtain ⟨hl2, rfl⟩ := setN_spec _ _ _ _ hcs
    rw [nth_eq] at hob hx
    obtain ⟨r1, r2, r3⟩ := h2.add (o := .row e sz 0 0 r) (L := ⟨0, .slice none 0 0⟩) (w' := w) (Nat.le_refl _) (fun _ _ => rfl) rfl rfl rfl (fun b hb => by simp [Loc.blk] at hb)
      (fun hp => ⟨rfl, [], World.ownsRow_nil w 0 e sz, by simp, fun i h => by omega, fun i j x v h => by omega⟩)
    have hid : id < ar.length := (List.getElem?_eq_some_iff.1 hob).1
    obtain ⟨L, hL⟩ : ∃ L, (ρ ++ [⟨0, .slice none 0 0⟩])[id]? = some L := ⟨_, List.getElem?_eq_getElem (by rw [List.length_append, h2.len]; omega)⟩
    have hob' : (ar ++ [AO.row e sz 0 0 r])[id]? = some (.box eb cs) := by rw [List.getElem?_append_left hid]; exact hob
    have hobj := r1.obj id _ L hob' hL
    obtain ⟨hL0, b, vs, hLv, hh, hc1, hc2⟩ := hobj
    obtain ⟨q1, q2, q3⟩ := r1.put (L' := L) (o' := .box eb (cs.set j (.row ar.length 0))) (w' := w) hob' hL rfl (Nat.le_refl _) (fun _ _ _ => rfl) rfl rfl rfl (fun b hb => .inl hb) (Nat.le_refl _) (fun _ => rfl)
      (fun hp hc => ⟨hL0, b, vs, hLv, hh, by simpa using hc1, fun i x v hx' hv => by
        rw [List.getElem?_set] at hx'
        split at hx'
        · rename_i hij
          subst hij
          · cases hx'
            obtain ⟨h3, h4⟩ := hc2 _ _ v hx hv
            have hv0 := rv_val h3
            subst hv0
            refine ⟨(RV.row (L := ⟨0, .slice none 0 0⟩) (ρ := ρ ++ [⟨0, .slice none 0 0⟩]) (by rw [List.getElem?_append_right (by rw [h2.len]; exact Nat.le_refl _)]; simp [h2.len]) (Nat.le_refl _) rfl (fun _ => rfl)).mono hp hc, rfl⟩
        · exact ⟨(hc2 i x v hx' hv).1.mono hp hc, (hc2 i x v hx' hv).2⟩⟩)
    exact ⟨_, frames_mono q2 q3 (frames_mono r2 r3 h1), q1⟩) hr

/-- A box's cell told in another way. -/
theorem runS_saysBox (id j : Nat) {eb : TypeId} {cs cs' : List AV} {x : AV} (y : AV) (hob : nth ar id = some (.box eb cs)) (hx : nth cs j = some x) (hs : Says x y) (hcs : setN cs j y = some cs') (har : setN ar id (.box eb cs') = some ar')
    (hr : RunS P f0 C S ar' Q) : RunS P f0 C S ar Q :=
  runS_weak (fun fs w ρ h1 g5 => by
    obtain ⟨_, rfl⟩ := setN_spec _ _ _ _ har
    obtain ⟨hl2, rfl⟩ := setN_spec _ _ _ _ hcs
    rw [nth_eq] at hob hx
    obtain ⟨L, hL⟩ : ∃ L, ρ[id]? = some L := ⟨ρ[id]'(by rw [g5.len]; exact (List.getElem?_eq_some_iff.1 hob).1), by simp⟩
    obtain ⟨q1, q2, q3⟩ := g5.put (L' := L) (o' := .box eb (cs.set j y)) (w' := w) hob hL rfl (Nat.le_refl _) (fun _ _ _ => rfl) rfl rfl rfl (fun b hb => .inl hb) (Nat.le_refl _) (fun _ => rfl)
      (fun hp hc => by
        obtain ⟨a0, b, vs, a1, a2, a3, a4⟩ := (g5.obj _ _ L hob hL).mono hp hc (fun b hb => rfl)
        refine ⟨a0, b, vs, a1, a2, by simpa using a3, fun i z v hz hv => ?_⟩
        by_cases hij : j = i
        · subst hij
          rw [List.getElem?_set_self hl2] at hz
          cases hz
          exact ⟨hs _ _ _ _ (a4 _ _ v hx hv).1, (a4 _ _ v hx hv).2⟩
        · rw [List.getElem?_set_ne hij] at hz
          exact a4 i z v hz hv)
    exact ⟨_, frames_mono q2 q3 h1, q1⟩) hr

/-- A row that a box holds, from now on read alone. -/
theorem runS_freezeCell (idb j : Nat) {id ver sz m : Nat} {e eb : TypeId} {r : Nat → List AV} {cs cs' : List AV} {ar1 : List AO} (hb : nth ar idb = some (.box eb cs)) (hx : nth cs j = some (.row id ver)) (hob : nth ar id = some (.row e sz ver m r)) (har1 : setN ar id .gone = some ar1)
    (hd : ∀ i, i < m → AV.datas (r i) = true) (hcs : setN cs j (.slc sz none m r) = some cs') (hne : nth ar1 idb = some (.box eb cs)) (har : setN ar1 idb (.box eb cs') = some ar') (hr : RunS P f0 C S ar' Q) : RunS P f0 C S ar Q :=
  runS_weak (fun fs w ρ h1 g5 => by
    obtain ⟨hl1, rfl⟩ := setN_spec _ _ _ _ har1
    obtain ⟨hl2, rfl⟩ := setN_spec _ _ _ _ hcs
    obtain ⟨hl3, rfl⟩ := setN_spec _ _ _ _ har
    rw [nth_eq] at hb hx hob hne
    obtain ⟨r1, r2, r3⟩ := rel_freeze g5 hob hd
    have hp := pres_less (w := w) r2
    obtain ⟨L, hL⟩ : ∃ L, ρ[idb]? = some L := ⟨ρ[idb]'(by rw [g5.len]; exact (List.getElem?_eq_some_iff.1 hb).1), by simp⟩
    obtain ⟨_, b0, vs0, z1, z2, z3, z4⟩ := g5.obj _ _ L hb hL
    obtain ⟨q1, q2, q3⟩ := r1.put (L' := L) (o' := .box eb (cs.set j (.slc sz none m r))) (w' := w) hne hL rfl (Nat.le_refl _) (fun _ _ _ => rfl) rfl rfl rfl (fun b hb => .inl hb) (Nat.le_refl _) (fun _ => rfl)
      (fun hp' hc => by
        obtain ⟨a0, b, vs, a1, a2, a3, a4⟩ := r1.obj _ _ L hne hL
        have hvs : vs0 = vs := by rw [z1] at a1; cases a1; rw [z2] at a2; cases a2; rfl
        subst hvs
        refine ⟨a0, b, vs0, a1, a2, by simpa using a3, fun i z v hz hv => ?_⟩
        by_cases hij : j = i
        · subst hij
          rw [List.getElem?_set_self hl2] at hz
          cases hz
          exact ⟨(r3 _ (z4 _ _ v hx hv).1).mono hp' hc, (z4 _ _ v hx hv).2⟩
        · rw [List.getElem?_set_ne hij] at hz
          exact ⟨(a4 i z v hz hv).1.mono hp' hc, (a4 i z v hz hv).2⟩)
    exact ⟨_, frames_mono q2 q3 (frames_mono hp (Compat.refl _) h1), q1⟩) hr

/-- A row told in another way. -/
theorem runS_tell (id : Nat) {ver sz m m' : Nat} {e : TypeId} {r : Nat → List AV} (r' : Nat → List AV) (hob : nth ar id = some (.row e sz ver m r)) (hm : m' = m) (hr' : ∀ i, i < m → r' i = r i) (har : setN ar id (.row e sz ver m' r') = some ar')
    (hr : RunS P f0 C S ar' Q) : RunS P f0 C S ar Q :=
  runS_weak (fun fs w ρ h1 g5 => by
    subst hm
    obtain ⟨_, rfl⟩ := setN_spec _ _ _ _ har
    rw [nth_eq] at hob
    obtain ⟨L, hL⟩ : ∃ L, ρ[id]? = some L := ⟨ρ[id]'(by rw [g5.len]; exact (List.getElem?_eq_some_iff.1 hob).1), by simp⟩
    obtain ⟨q1, q2, q3⟩ := g5.put (L' := L) (o' := .row e sz ver m' r') (w' := w) hob hL rfl (Nat.le_refl _) (fun _ _ _ => rfl) rfl rfl rfl (fun b hb => .inl hb) (Nat.le_refl _) (fun _ => rfl)
      (fun hp hc => by
        obtain ⟨a1, xs, a2, a3⟩ := (g5.obj _ _ L hob hL).mono hp hc (fun b hb => rfl)
        exact ⟨a1, xs, a2, a3.len, fun i hi => by rw [hr' i hi]; exact a3.rows i hi, fun i j x v hi hx hv => a3.get i j x v hi (by rw [← hr' i hi]; exact hx) hv⟩)
    exact ⟨_, frames_mono q2 q3 h1, q1⟩) hr
theorem says_nil0 {c sz : Nat} {r : Nat → List AV} (hc : c ≤ maxLen) : Says (.val (.slice none 0 c)) (.slc sz none 0 r) := fun w O ρ v h => by
  have := rv_val h
  subst this
  exact .slc rfl (Nat.zero_le _) hc (fun b e => by cases e) (fun i h => by omega) (fun h => by omega) (fun _ _ => undef) (fun i j x a h => by omega) (fun i j x h => by omega)

theorem says_nn {sz m : Nat} {r : Nat → List AV} (hm : 0 < m) : Says (.slc sz none m r) (.slc sz (some false) m r) := fun w O ρ v h => by
  obtain ⟨A, cap, g, rfl, h1, h2, h3, h4, h5, h6, h7⟩ := rv_slc h
  exact .slc rfl h1 h2 (fun b hb => by cases hb; obtain ⟨a, ha, _⟩ := h5 hm; rw [ha]; rfl) h4 h5 g h6 h7
theorem says_nl {sz m : Nat} {nl : Option Bool} {r : Nat → List AV} : Says (.slc sz nl m r) (.slc sz none m r) := fun w O ρ v h => by
  obtain ⟨A, cap, g, rfl, h1, h2, h3, h4, h5, h6, h7⟩ := rv_slc h
  exact .slc rfl h1 h2 (fun b hb => by cases hb) h4 h5 g h6 h7

/-- A region that draws its order, with calls. -/
theorem runS_draw (T : Nat) {id : Nat} [hJ : Inf2 P J] (hB : drawB ops T = true) (hl : LexJ P n ar ops 0 (ops.toList.take T) τ τ') (hr : RunS P f0 C (⟨f, n, τ', .inRegion ops (List.range' T (ops.size - T)) :: k, rd, D, kd, .run⟩ :: S) ar Q) :
    RunS P f0 C (⟨f, n, τ, .code (.region id ops true) :: k, rd, D, kd, .run⟩ :: S) ar Q := runS11 (sim_draw T hJ.draw hB hl) hr

/-- Rows of lists. -/
def encR {α : Type} (enc : α → List AV) (d : α) (xs : List α) : Nat → List AV := fun i => enc (xs.getD i d)
theorem encR_snoc {α : Type} {enc : α → List AV} {d : α} {acc : List α} {v : α} {r2 : Nat → List AV} (h : r2 0 = enc v) : ∀ j, j < acc.length + 1 → encR enc d (acc ++ [v]) j = appR acc.length (encR enc d acc) r2 j := by
  intro j hj
  unfold encR
  by_cases h1 : j < acc.length
  · rw [appR_lt h1]
    simp [List.getD_eq_getElem?_getD, List.getElem?_append_left h1]
  · rw [appR_ge (by omega)]
    have : j = acc.length := by omega
    subst this
    rw [Nat.sub_self, h]
    simp [List.getD_eq_getElem?_getD]
end
end Go.Iron
