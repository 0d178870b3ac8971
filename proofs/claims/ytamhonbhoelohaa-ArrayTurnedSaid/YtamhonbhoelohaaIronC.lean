/- Iron: operations that make or write memory of the call's own. -/
import Derived.Test.YtamhonbhoelohaaIronB
import Derived.Maps.AppendAt
import Derived.Laws.OwnMore
namespace Go.Iron

theorem owned_snoc {ρ : List Loc} {ar : List AO} {L : Loc} {o : AO} (hl : ρ.length = ar.length) {b : Nat} (h : Owned (ρ ++ [L]) (ar ++ [o]) b) : Owned ρ ar b ∨ (o.live = true ∧ L.blk = some b) := by
  obtain ⟨i, o', L', h1, h2, h3, h4⟩ := h
  by_cases hi : i < ar.length
  · rw [List.getElem?_append_left hi] at h1
    rw [List.getElem?_append_left (by omega)] at h3
    exact .inl ⟨i, o', L', h1, h2, h3, h4⟩
  · have hi' : i < (ar ++ [o]).length := (List.getElem?_eq_some_iff.1 h1).1
    simp at hi'
    have : i = ar.length := by omega
    subst this
    rw [List.getElem?_append_right (Nat.le_refl _)] at h1
    rw [List.getElem?_append_right (by omega)] at h3
    simp at h1
    simp [hl] at h3
    subst h1
    subst h3
    exact .inr ⟨h2, h4⟩
theorem owned_old {ρ : List Loc} {ar : List AO} {L : Loc} {o : AO} {b : Nat} (h : Owned ρ ar b) : Owned (ρ ++ [L]) (ar ++ [o]) b := by
  obtain ⟨i, o', L', h1, h2, h3, h4⟩ := h
  exact ⟨i, o', L', by rw [List.getElem?_append_left (List.getElem?_eq_some_iff.1 h1).1]; exact h1, h2, by rw [List.getElem?_append_left (List.getElem?_eq_some_iff.1 h3).1]; exact h3, h4⟩

theorem ObjOK.mono {w w' : World} {O O' : Nat → Prop} (hp : Pres w O w' O') {ρ ρ' : List Loc} (hc : Compat ρ ρ') {o : AO} {L : Loc} (hb : ∀ b, L.blk = some b → w'.heap[b]? = w.heap[b]?) (h : ObjOK w O ρ o L) : ObjOK w' O' ρ' o L := by
  cases o with
  | gone => trivial
  | box e cs =>
    obtain ⟨h0, b, vs, h1, h2, h3⟩ := h
    exact ⟨h0, b, vs, h1, by rw [hb b (by simp [Loc.blk, h1])]; exact h2, h3.mono hp hc⟩
  | row e sz ver m r =>
    obtain ⟨h0, xs, h1, h2⟩ := h
    refine ⟨h0, xs, ⟨h1.1, ?_⟩, h2.mono hp hc⟩
    rcases h1.2 with hv | ⟨g, cap, cur, hv, hg, hh, hr⟩
    · exact .inl hv
    · exact .inr ⟨g, cap, cur, hv, hg, by rw [hb g (by simp [Loc.blk, hv])]; exact hh, hr⟩
  | loop st pd f n τ ps asg body =>
    obtain ⟨h0, b, tmps, dd, h1, h2, h3, h4⟩ := h
    exact ⟨h0, b, tmps, dd, h1, by rw [hb b (by simp [Loc.blk, h1])]; exact h2, h3, h4.mono hp hc⟩
  | dfr op =>
    obtain ⟨h0, b, h1, h2⟩ := h
    exact ⟨h0, b, h1, by rw [hb b (by simp [Loc.blk, h1])]; exact h2⟩

/-- A new object. -/
theorem RelA.add {C : Cx} {ρ : List Loc} {ar : List AO} {w w' : World} (h : RelA C ρ ar w) {o : AO} {L : Loc} (hs : w.heap.size ≤ w'.heap.size) (hk : ∀ k, k < w.heap.size → w'.heap[k]? = w.heap[k]?)
    (h1 : w'.os = w.os) (h2 : w'.tape = w.tape) (h3 : w'.output = w.output) (hL : ∀ b, L.blk = some b → w.heap.size ≤ b)
    (hO : Pres w (Ow C ρ ar) w' (Ow C (ρ ++ [L]) (ar ++ [o])) → ObjOK w' (Ow C (ρ ++ [L]) (ar ++ [o])) (ρ ++ [L]) o L) :
    RelA C (ρ ++ [L]) (ar ++ [o]) w' ∧ Pres w (Ow C ρ ar) w' (Ow C (ρ ++ [L]) (ar ++ [o])) ∧ Compat ρ (ρ ++ [L]) := by
  have hp : Pres w (Ow C ρ ar) w' (Ow C (ρ ++ [L]) (ar ++ [o])) := ⟨hs, fun b hb hn => ⟨hk b hb, fun hn' => by
    rcases hn' with hn' | hn'
    · exact hn (.inl hn')
    · rcases owned_snoc h.len hn' with h' | ⟨_, h'⟩
      · exact hn (.inr h')
      · have := hL b h'; omega⟩⟩
  refine ⟨?_, hp, Compat.append _ _⟩
  refine ⟨by simp [h.len], h.len0, ?_, ?_, fun b hb => Nat.lt_of_lt_of_le (h.far b hb) hs, fun b hb hn => (owned_snoc h.len hn).elim (h.apart b hb) (fun z => by have := hL b z.2; have := h.far b hb; omega), Nat.le_trans h.size hs, h1.trans h.os, h2.trans h.tape, h3.trans h.output, fun k hk' hn => (hk k (Nat.lt_of_lt_of_le hk' h.size)).trans (h.heap k hk' hn), ?_, h.comp.trans (Compat.append _ _), fun p hp' => (h.defs p hp').mono hp (Compat.append _ _)⟩
  · intro i o' L' e1 e2
    by_cases hi : i < ar.length
    · rw [List.getElem?_append_left hi] at e1
      rw [List.getElem?_append_left (by rw [h.len]; exact hi)] at e2
      have ho := h.obj i o' L' e1 e2
      cases hl : o'.live with
      | false => cases o' <;> simp [AO.live] at hl; trivial
      | true => exact ho.mono hp (Compat.append _ _) fun b hb => hk b (ho.lt hl hb)
    · have hi' : i < (ar ++ [o]).length := (List.getElem?_eq_some_iff.1 e1).1
      simp at hi'
      have : i = ar.length := by omega
      subst this
      rw [List.getElem?_append_right (Nat.le_refl _)] at e1
      rw [List.getElem?_append_right (by rw [h.len]; exact Nat.le_refl _)] at e2
      simp at e1
      simp [h.len] at e2
      subst e1
      subst e2
      exact hO hp
  · intro i j o1 o2 L1 L2 b hij e1 e2 l1 l2 e3 e4 b1 b2
    have key : ∀ (i : Nat) o1 L1, (ar ++ [o])[i]? = some o1 → (ρ ++ [L])[i]? = some L1 → (i < ar.length ∧ ar[i]? = some o1 ∧ ρ[i]? = some L1) ∨ (i = ar.length ∧ L1 = L) := by
      intro i o1 L1 e1 e3
      by_cases hi : i < ar.length
      · rw [List.getElem?_append_left hi] at e1
        rw [List.getElem?_append_left (by rw [h.len]; exact hi)] at e3
        exact .inl ⟨hi, e1, e3⟩
      · have hi' : i < (ar ++ [o]).length := (List.getElem?_eq_some_iff.1 e1).1
        simp at hi'
        have : i = ar.length := by omega
        subst this
        rw [List.getElem?_append_right (by rw [h.len]; exact Nat.le_refl _)] at e3
        simp [h.len] at e3
        exact .inr ⟨rfl, e3.symm⟩
    rcases key i o1 L1 e1 e3 with ⟨hi, e1', e3'⟩ | ⟨hi, rfl⟩ <;> rcases key j o2 L2 e2 e4 with ⟨hj, e2', e4'⟩ | ⟨hj, rfl⟩
    · exact h.disj i j o1 o2 L1 L2 b hij e1' e2' l1 l2 e3' e4' b1 b2
    · have := (h.obj i o1 L1 e1' e3').lt l1 b1; have := hL b b2; omega
    · have := (h.obj j o2 L2 e2' e4').lt l2 b2; have := hL b b1; omega
    · omega
  · intro b hb
    rcases owned_snoc h.len hb with h' | ⟨_, h'⟩
    · exact h.new b h'
    · exact .inl (Nat.le_trans h.size (hL b h'))

theorem owned_set {ρ : List Loc} {ar : List AO} {i : Nat} {L' : Loc} {o' : AO} {b : Nat} (h : Owned (ρ.set i L') (ar.set i o') b) : Owned ρ ar b ∨ L'.blk = some b := by
  obtain ⟨j, o, L, h1, h2, h3, h4⟩ := h
  by_cases hij : i = j
  · subst hij
    rw [List.getElem?_set_self' ] at h3
    cases hρ : ρ[i]? with
    | none => simp [hρ] at h3
    | some M => simp [hρ] at h3; subst h3; exact .inr h4
  · rw [List.getElem?_set_ne hij] at h1 h3
    exact .inl ⟨j, o, L, h1, h2, h3, h4⟩

/-- An object turned. -/
theorem RelA.put {C : Cx} {ρ : List Loc} {ar : List AO} {w w' : World} (h : RelA C ρ ar w) {i : Nat} {o o' : AO} {L L' : Loc} (ho : ar[i]? = some o) (hL : ρ[i]? = some L) (hlive : o.live = true)
    (hs : w.heap.size ≤ w'.heap.size) (hk : ∀ k, k < w.heap.size → L.blk ≠ some k → w'.heap[k]? = w.heap[k]?) (h1 : w'.os = w.os) (h2 : w'.tape = w.tape) (h3 : w'.output = w.output)
    (hb : ∀ b, L'.blk = some b → L.blk = some b ∨ w.heap.size ≤ b) (hv : L.ver ≤ L'.ver) (he : L.ver = L'.ver → L'.v = L.v)
    (hO : Pres w (Ow C ρ ar) w' (Ow C (ρ.set i L') (ar.set i o')) → Compat ρ (ρ.set i L') → ObjOK w' (Ow C (ρ.set i L') (ar.set i o')) (ρ.set i L') o' L') :
    RelA C (ρ.set i L') (ar.set i o') w' ∧ Pres w (Ow C ρ ar) w' (Ow C (ρ.set i L') (ar.set i o')) ∧ Compat ρ (ρ.set i L') := by
  have hown : ∀ b, L.blk = some b → Owned ρ ar b := fun b e => ⟨i, o, L, ho, hlive, hL, e⟩
  have hp : Pres w (Ow C ρ ar) w' (Ow C (ρ.set i L') (ar.set i o')) := ⟨hs, fun b hb' hn => ⟨hk b hb' (fun e => hn (.inr (hown b e))), fun hn' => by
    rcases hn' with hn' | hn'
    · exact hn (.inl hn')
    · rcases owned_set hn' with h' | h'
      · exact hn (.inr h')
      · rcases hb b h' with h'' | h''
        · exact hn (.inr (hown b h''))
        · omega⟩⟩
  have hc : Compat ρ (ρ.set i L') := Compat.set hL hv he
  refine ⟨?_, hp, hc⟩
  refine ⟨by simp [h.len], h.len0, ?_, ?_, fun b hb' => Nat.lt_of_lt_of_le (h.far b hb') hs, fun b hb' hn => (owned_set hn).elim (h.apart b hb') (fun z => (hb b z).elim (fun y => h.apart b hb' (hown b y)) (fun y => by have := h.far b hb'; omega)), Nat.le_trans h.size hs, h1.trans h.os, h2.trans h.tape, h3.trans h.output, fun k hk' hn => ?_, ?_, h.comp.trans hc, fun p hp' => (h.defs p hp').mono hp hc⟩
  · intro j oj Lj e1 e2
    by_cases hij : i = j
    · subst hij
      rw [List.getElem?_set_self (List.getElem?_eq_some_iff.1 ho).1] at e1
      rw [List.getElem?_set_self (List.getElem?_eq_some_iff.1 hL).1] at e2
      cases e1
      cases e2
      exact hO hp hc
    · rw [List.getElem?_set_ne hij] at e1 e2
      have hoj := h.obj j oj Lj e1 e2
      cases hl : oj.live with
      | false => cases oj <;> simp [AO.live] at hl; trivial
      | true => exact hoj.mono hp hc fun b hb' => hk b (hoj.lt hl hb') fun e => h.disj i j o oj L Lj b hij ho e1 hlive hl hL e2 e hb'
  · intro j k o1 o2 L1 L2 b hjk e1 e2 l1 l2 e3 e4 b1 b2
    have other : ∀ (m : Nat) om Lm, i ≠ m → (ar.set i o')[m]? = some om → (ρ.set i L')[m]? = some Lm → om.live = true → Lm.blk = some b → L'.blk = some b → False := by
      intro m om Lm him e1 e2 hl hbm hb'
      rw [List.getElem?_set_ne him] at e1 e2
      rcases hb b hb' with h' | h'
      · exact h.disj i m o om L Lm b him ho e1 hlive hl hL e2 h' hbm
      · have := (h.obj m om Lm e1 e2).lt hl hbm; omega
    have self : ∀ (m : Nat) Lm, i = m → (ρ.set i L')[m]? = some Lm → Lm = L' := by
      intro m Lm e e2
      subst e
      rw [List.getElem?_set_self (List.getElem?_eq_some_iff.1 hL).1] at e2
      exact (Option.some.inj e2).symm
    by_cases hij : i = j
    · have := self j L1 hij e3
      subst this
      exact other k o2 L2 (fun e => hjk (hij.symm.trans e)) e2 e4 l2 b2 b1
    · by_cases hik : i = k
      · have := self k L2 hik e4
        subst this
        exact other j o1 L1 hij e1 e3 l1 b1 b2
      · rw [List.getElem?_set_ne hij] at e1 e3
        rw [List.getElem?_set_ne hik] at e2 e4
        exact h.disj j k o1 o2 L1 L2 b hjk e1 e2 l1 l2 e3 e4 b1 b2
  · by_cases hb' : L.blk = some k
    · rcases h.new k (hown k hb') with h' | h'
      · omega
      · exact absurd h' hn
    · exact (hk k (Nat.lt_of_lt_of_le hk' h.size) hb').trans (h.heap k hk' hn)
  · intro b hb'
    rcases owned_set hb' with h' | h'
    · exact h.new b h'
    · rcases hb b h' with h'' | h''
      · exact h.new b (hown b h'')
      · exact .inl (Nat.le_trans h.size h'')

/-- A value's cells. -/
def cellsA : AV → Option (List AV)
  | .agg cs => some cs
  | .tup _ | .bad | .opt _ _ => none
  | .val v => match v.oneCell' with
    | true => some [.val v]
    | false => none
  | x => some [x]

theorem cells_one {v : Value} (h : v.oneCell' = true) : v.cells = #[v] := by cases v <;> first | rfl | simp [Value.oneCell'] at h

theorem cellsA_ok {w : World} {O : Nat → Prop} {ρ : List Loc} {x : AV} {v : Value} {cs : List AV} (h : RV w O ρ x v) (hc : cellsA x = some cs) : Cells w O ρ cs v.cells.toList := by
  have one : x.cellB = true → cs = [x] → Cells w O ρ cs v.cells.toList := by
    intro hx e
    subst e
    have h1 := h.one hx
    rw [cells_one h1]
    refine ⟨rfl, fun i y u hy hu => ?_⟩
    cases i with
    | zero => simp at hy hu; subst hy; subst hu; exact ⟨h, h1⟩
    | succ i => simp at hy
  cases x with
  | agg l =>
    simp [cellsA] at hc
    subst hc
    obtain ⟨vs, rfl, h1, h2, h3⟩ := rv_agg h
    refine ⟨by simp [Value.cells, h1], fun i y u hy hu => ?_⟩
    simp only [Value.cells, Array.getElem?_toList] at hu
    exact ⟨h2 i y u hy hu, h3 i u hu⟩
  | val v' =>
    simp only [cellsA] at hc
    cases hv : v'.oneCell' with
    | false => simp [hv] at hc
    | true => simp [hv] at hc; exact one (by simpa [AV.cellB] using hv) hc.symm
  | bad => simp [cellsA] at hc
  | tup l => simp [cellsA] at hc
  | slc a b c d => simp [cellsA] at hc; exact one rfl hc.symm
  | loc a b => simp [cellsA] at hc; exact one rfl hc.symm
  | ptr a b c => simp [cellsA] at hc; exact one rfl hc.symm
  | row a b => simp [cellsA] at hc; exact one rfl hc.symm
  | elt a b c d e => simp [cellsA] at hc; exact one rfl hc.symm
  | fn a b => simp [cellsA] at hc; exact one rfl hc.symm
  | ifc a b => simp [cellsA] at hc; exact one rfl hc.symm
  | opt a b => simp [cellsA] at hc
  | yld a => simp [cellsA] at hc; exact one rfl hc.symm

section
variable {P : Program} {f n : Nat} {C : Cx} {τ : Nat → AV} {ar ar' : List AO} {k : List Item} {Q : Out → List AO → Prop} {ops : Array Oper}

/-- A new box. -/
theorem rel_box {ρ : List Loc} {w : World} (h : RelA C ρ ar w) (e : TypeId) {cs : List AV} {vs : Array Value} (hc : Cells w (Ow C ρ ar) ρ cs vs.toList) :
    RelA C (ρ ++ [⟨0, .pointer (some ⟨w.heap.size, 0, none⟩)⟩]) (ar ++ [.box e cs]) (w.alloc (.cells vs e)) ∧
      Pres w (Ow C ρ ar) (w.alloc (.cells vs e)) (Ow C (ρ ++ [⟨0, .pointer (some ⟨w.heap.size, 0, none⟩)⟩]) (ar ++ [.box e cs])) ∧ Compat ρ (ρ ++ [⟨0, .pointer (some ⟨w.heap.size, 0, none⟩)⟩]) :=
  h.add (w' := w.alloc (.cells vs e)) (by simp) (fun k hk => heap_alloc_old w _ hk) rfl rfl rfl (fun b hb => by simp [Loc.blk] at hb; omega)
    (fun hp => ⟨rfl, w.heap.size, vs, rfl, heap_alloc_new w _, hc.mono hp (Compat.append _ _)⟩)

theorem op_box {o : Oper} {e : TypeId} {y : Operand} {cs : List AV} {id : Nat} (ho : o.op = .box e y) (hy : cellsA (evA τ y) = some cs) (har : snocN ar (.box e cs) = some (ar', id)) : OpStep P τ ar o (.ptr id 0 0) ar' := by
  intro C a w ρ hR hS
  obtain ⟨rfl, rfl⟩ := snocN_spec _ _ _ _ har
  have hc := cellsA_ok (evA_ok hS y) hy
  obtain ⟨h1, h2, h3⟩ := rel_box hR e hc
  refine ⟨.value (.pointer (some ⟨w.heap.size, 0, none⟩)), _, _, _, ?_, .inl rfl, h1, h3, h2, ?_⟩
  · simp [execOp, ho, Instr.box, newVar, newRow]
  · refine .ptr (L := ⟨0, .pointer (some ⟨w.heap.size, 0, none⟩)⟩) (by rw [List.getElem?_append_right (by rw [hR.len]; exact Nat.le_refl _)]; simp [hR.len]) (Nat.le_refl _) rfl fun _ => ⟨_, rfl, rfl⟩

theorem op_alloc {o : Oper} {e : TypeId} {cs : List AV} {bytes id : Nat} [hz : ZeroT P e cs bytes] (ho : o.op = .alloc e) (har : snocN ar (.box e cs) = some (ar', id)) : OpStep P τ ar o (.ptr id 0 0) ar' := by
  intro C a w ρ hR hS
  obtain ⟨rfl, rfl⟩ := snocN_spec _ _ _ _ har
  obtain ⟨i, z, z1, z2, z3, z4, z4', z5, z6, z7, z8⟩ := hz.all
  have hc : Cells w (Ow C ρ ar) ρ cs z.cells.toList := by
    subst z5
    refine ⟨by simp, fun j x v hx hv => ?_⟩
    simp only [List.getElem?_map, hv, Option.map_some, Option.some.injEq] at hx
    subst hx
    exact ⟨.val, List.all_eq_true.1 z6 v (List.mem_of_getElem? hv)⟩
  obtain ⟨h1, h2, h3⟩ := rel_box hR e hc
  refine ⟨.value (.pointer (some ⟨w.heap.size, 0, none⟩)), _, _, _, ?_, .inl rfl, h1, h3, h2, ?_⟩
  · simp [execOp, ho, Instr.alloc, newVar, newRow, zeroValue, typeInfo, z1, z2]
  · refine .ptr (L := ⟨0, .pointer (some ⟨w.heap.size, 0, none⟩)⟩) (by rw [List.getElem?_append_right (by rw [hR.len]; exact Nat.le_refl _)]; simp [hR.len]) (Nat.le_refl _) rfl fun _ => ⟨_, rfl, rfl⟩

theorem cells_splice {w : World} {O : Nat → Prop} {ρ : List Loc} {cs ys cs' : List AV} {vs us : List Value} {off : Nat} (h : Cells w O ρ cs vs) (k : Cells w O ρ ys us) (hs : splice cs off ys = some cs') :
    Cells w O ρ cs' (vs.take off ++ us ++ vs.drop (off + us.length)) := by
  obtain ⟨h1, rfl⟩ := splice_spec _ _ _ _ hs
  have hl : vs.length = cs.length := h.1
  have hk : us.length = ys.length := k.1
  refine ⟨by simp [hl, hk], fun i x v hx hv => ?_⟩
  have hlt : (vs.take off).length = off := by rw [List.length_take]; omega
  have hct : (cs.take off).length = off := by rw [List.length_take]; omega
  by_cases h1' : i < off
  · rw [List.append_assoc, List.getElem?_append_left (by omega), List.getElem?_take, if_pos h1'] at hx hv
    exact h.2 i x v hx hv
  · by_cases h2' : i < off + us.length
    · rw [List.append_assoc, List.getElem?_append_right (by omega), List.getElem?_append_left (by omega)] at hx hv
      rw [hct] at hx
      rw [hlt] at hv
      exact k.2 _ x v hx hv
    · rw [List.getElem?_append_right (by simp; omega)] at hx hv
      simp only [List.length_append, hct, hlt, List.getElem?_drop] at hx hv
      rw [hk] at hv
      exact h.2 _ x v (by rw [← hx]) (by rw [← hv])

theorem take_splice {α : Type} {cur xs us : List α} {m off : Nat} (h : cur.take m = xs) (hm : m ≤ cur.length) (hl : off + us.length ≤ m) :
    (cur.take off ++ us ++ cur.drop (off + us.length)).take m = xs.take off ++ us ++ xs.drop (off + us.length) := by
  subst h
  have h1 : (cur.take off).length = off := by rw [List.length_take]; omega
  have h2 : ((cur.take m).take off).length = off := by rw [List.length_take, List.length_take]; omega
  apply List.ext_getElem?
  intro i
  rw [List.getElem?_take]
  simp only [List.getElem?_append, List.length_append, h1, h2, List.getElem?_take, List.getElem?_drop]
  by_cases hi : i < m
  · by_cases h3 : i < off
    · simp [hi, h3, show i < off + us.length by omega]
    · by_cases h4 : i < off + us.length
      · simp [hi, h3, h4]
      · simp [hi, h3, h4, show off + us.length + (i - (off + us.length)) < m by omega]
  · have h4 : ¬ i < off + us.length := by omega
    simp [hi, h4, show ¬ off + us.length + (i - (off + us.length)) < m by omega]

/-- An object with other cells. -/
def AO.with : AO → List AV → AO
  | .box e _, cs => .box e cs
  | .row e sz v m r, _ => .row e sz v m r
  | .gone, _ => .gone
  | .loop a b c d e f g h, _ => .loop a b c d e f g h
  | .dfr a, _ => .dfr a

/-- The world behind a store into an object. -/
theorem rel_store {ρ : List Loc} {w : World} (hR : RelA C ρ ar w) {id ver off : Nat} {ob ob' : AO} {cs ys cs' : List AV} {v u : Value} (hv : RV w (Ow C ρ ar) ρ (.ptr id ver off) v) (hob : ar[id]? = some ob) (hcs : ob.cells = some (ver, cs))
    (hys : Cells w (Ow C ρ ar) ρ ys u.cells.toList) (hsp : splice cs off ys = some cs') (hob' : ob.with cs' = ob') (t : TypeId)
    (hsz : (P.info? t).map (·.size) = some ys.length) :
    ∃ w' ρ', (Instr.storeAt t v u).run P w = .ok () w' ∧ RelA C ρ' (ar.set id ob') w' ∧ Compat ρ ρ' ∧ Pres w (Ow C ρ ar) w' (Ow C ρ' (ar.set id ob')) := by
  obtain ⟨L, e1, e2, e3, e4⟩ := rv_ptr hv
  have hobj := hR.obj id ob L hob e1
  have hlen : u.cells.toList.length = ys.length := hys.1
  have store : ∀ (b : Nat) (cur : Array Value) (e : TypeId), w.heap[b]? = some (.cells cur e (0, 0)) → off + ys.length ≤ cur.size →
      (Instr.storeAt t (.pointer (some ⟨b, off, none⟩)) u).run P w = .ok () (w.setRow b (cur.toList.take off ++ u.cells.toList ++ cur.toList.drop (off + u.cells.toList.length)).toArray) := by
    intro b cur e hh hfit
    have := run_storeCells_at P b off e u.cells.toList 0 cur w hh (by omega) (fun x hx => by
      obtain ⟨i, hi⟩ := List.mem_iff_getElem?.1 hx
      have hi' : i < ys.length := by rw [← hlen]; exact (List.getElem?_eq_some_iff.1 hi).1
      exact (hys.2 i ys[i] x (by simp [hi']) hi).2)
    cases hinf : P.info? t with
    | none => simp [hinf] at hsz
    | some info =>
      simp [hinf] at hsz
      simp only [Nat.add_zero] at this
      have hsz2 : u.cells.size = info.size := by rw [hsz, ← hlen]; simp
      simp [Instr.storeAt, Instr.sureAddr, storeVar, sizeOf, typeInfo, hinf, hsz2, this]
  have heap' : ∀ (b : Nat) (cs2 : Array Value) k, k ≠ b → (w.setRow b cs2).heap[k]? = w.heap[k]? := fun b cs2 k hk => setRow_other w b k cs2 hk
  cases ob with
  | gone => simp [AO.cells] at hcs
  | box e c =>
    simp [AO.cells] at hcs
    obtain ⟨rfl, rfl⟩ := hcs
    obtain ⟨hL, b, vs, hLv, hh, hc⟩ := hobj
    obtain ⟨b', hb', e5⟩ := e4 hL.symm
    have hbb : b' = b := by simp [Loc.blk, hLv] at hb'; exact hb'.symm
    subst hbb
    obtain ⟨hs1, hs2⟩ := splice_spec _ _ _ _ hsp
    have hfit : off + ys.length ≤ vs.size := by have := hc.1; simp at this; omega
    have hrun := store b' vs e hh hfit
    subst e5
    simp only [AO.with] at hob'
    subst hob'
    obtain ⟨r1, r2, r3⟩ := hR.put (L' := L) (o' := .box e cs') (w' := w.setRow b' (vs.toList.take off ++ u.cells.toList ++ vs.toList.drop (off + u.cells.toList.length)).toArray) hob e1 rfl (by simp)
      (fun k _ hk => heap' b' _ k (fun e => hk (by rw [e]; exact hb'))) rfl rfl rfl (fun b hb => .inl hb) (Nat.le_refl _) (fun _ => rfl)
      (fun hp hc' => ⟨hL, b', _, hLv, setRow_heap w b' vs _ e _ hh, by
        have := cells_splice (hc.mono hp hc') (hys.mono hp hc') hsp
        simpa using this⟩)
    exact ⟨_, _, hrun, r1, r3, r2⟩
  | row e sz vr m r => simp [AO.cells] at hcs
  | loop _ _ _ _ _ _ _ _ => simp [AO.cells] at hcs
  | dfr _ => simp [AO.cells] at hcs

theorem op_store {o : Oper} {t : TypeId} {sz : Nat} {ag : Bool} [ht : Ty P t sz ag] {p y : Operand} {id ver off : Nat} {ob : AO} {cs ys cs' : List AV} (ho : o.op = .store t p y) (hp : evA τ p = .ptr id ver off)
    (hob : nth ar id = some ob) (hcs : ob.cells = some (ver, cs)) (hy : cellsA (evA τ y) = some ys) (hl : Nat.beq ys.length sz = true) (hsp : splice cs off ys = some cs') (har : setN ar id (ob.with cs') = some ar') :
    OpStep P τ ar o (.val undef) ar' := by
  intro C a w ρ hR hS
  rw [nth_eq] at hob
  obtain ⟨_, rfl⟩ := setN_spec _ _ _ _ har
  have hv := evA_ok hS p
  rw [hp] at hv
  obtain ⟨w', ρ', r1, r2, r3, r4⟩ := rel_store (P := P) hR hv hob hcs (cellsA_ok (evA_ok hS y) hy) hsp rfl t (by rw [ht.size, Nat.eq_of_beq_eq_true hl])
  exact ⟨.skip, undef, w', ρ', by simp [execOp, ho, r1], .inr ⟨rfl, rfl⟩, r2, r3, r4, .val⟩

/-- The world behind a store into an element of one's own row. -/
theorem rel_storeElt {ρ : List Loc} {w : World} (hR : RelA C ρ ar w) {id ver sz i o m : Nat} {e : TypeId} {r r' : Nat → List AV} {ys : List AV} {v u : Value} (hv : RV w (Ow C ρ ar) ρ (.elt id ver sz i o) v) (hob : ar[id]? = some (.row e sz ver m r)) (hi : i < m)
    (hys : Cells w (Ow C ρ ar) ρ ys u.cells.toList) (hsp : splice (r i) o ys = some (r' i)) (hoth : ∀ k, k < m → k ≠ i → r' k = r k) (t : TypeId)
    (hsz : (P.info? t).map (·.size) = some ys.length) :
    ∃ w' ρ', (Instr.storeAt t v u).run P w = .ok () w' ∧ RelA C ρ' (ar.set id (.row e sz ver m r')) w' ∧ Compat ρ ρ' ∧ Pres w (Ow C ρ ar) w' (Ow C ρ' (ar.set id (.row e sz ver m r'))) := by
  obtain ⟨L, e1, e2, e3, e4⟩ := rv_elt hv
  have hobj := hR.obj id _ L hob e1
  have hlen : u.cells.toList.length = ys.length := hys.1
  have heap' : ∀ (b : Nat) (cs2 : Array Value) k, k ≠ b → (w.setRow b cs2).heap[k]? = w.heap[k]? := fun b cs2 k hk => setRow_other w b k cs2 hk
  obtain ⟨hL, xs, hown, hc⟩ := hobj
  obtain ⟨b', hb', e5⟩ := e4 hL.symm
  obtain ⟨hs1, hs2⟩ := splice_spec _ _ _ _ hsp
  subst e5
  have hri := hc.rows i hi
  have hin : i * sz + sz ≤ m * sz := by rw [← Nat.succ_mul]; exact Nat.mul_le_mul_right _ hi
  rcases hown.2 with ⟨hv', _⟩ | ⟨g, cap, cur, hv', hg0, hh, h5, h6, h7, h8⟩
  · simp [Loc.blk, hv'] at hb'
  · have hbb : g = b' := by simp [Loc.blk, hv'] at hb'; exact hb'
    subst hbb
    have hxl : xs.length = m * sz := hown.1
    have hms : m * sz ≤ cur.size := by rw [h7]; exact Nat.mul_le_mul_right _ h5
    have hfit : i * sz + o + ys.length ≤ cur.size := by omega
    have hrun : (Instr.storeAt t (.pointer (some ⟨g, i * sz + o, none⟩)) u).run P w = .ok () (w.setRow g (cur.toList.take (i * sz + o) ++ u.cells.toList ++ cur.toList.drop (i * sz + o + u.cells.toList.length)).toArray) := by
      have := run_storeCells_at P g (i * sz + o) e u.cells.toList 0 cur w hh (by omega) (fun x hx => by
        obtain ⟨j, hj⟩ := List.mem_iff_getElem?.1 hx
        have hj' : j < ys.length := by rw [← hlen]; exact (List.getElem?_eq_some_iff.1 hj).1
        exact (hys.2 j ys[j] x (by simp [hj']) hj).2)
      cases hinf : P.info? t with
      | none => simp [hinf] at hsz
      | some info =>
        simp [hinf] at hsz
        simp only [Nat.add_zero] at this
        have hsz2 : u.cells.size = info.size := by rw [hsz, ← hlen]; simp
        simp [Instr.storeAt, Instr.sureAddr, storeVar, sizeOf, typeInfo, hinf, hsz2, this]
    have htake : (cur.toList.take (i * sz + o) ++ u.cells.toList ++ cur.toList.drop (i * sz + o + u.cells.toList.length)).take (m * sz) = xs.take (i * sz + o) ++ u.cells.toList ++ xs.drop (i * sz + o + u.cells.toList.length) :=
      take_splice h8 (by simpa using hms) (by omega)
    have hsz1 : (xs.take (i * sz + o) ++ u.cells.toList ++ xs.drop (i * sz + o + u.cells.toList.length)).length = m * sz := by
      rw [← htake, List.length_take, List.length_append, List.length_append, List.length_take, List.length_drop, Array.length_toList]
      omega
    have hsz2 : (cur.toList.take (i * sz + o) ++ u.cells.toList ++ cur.toList.drop (i * sz + o + u.cells.toList.length)).length = cap * sz := by
      rw [List.length_append, List.length_append, List.length_take, List.length_drop, Array.length_toList]
      omega
    have hr' : (r' i).length = sz := by rw [hs2]; simp; omega
    obtain ⟨r1, r2, r3⟩ := hR.put (L' := L) (o' := .row e sz ver m r') (w' := w.setRow g (cur.toList.take (i * sz + o) ++ u.cells.toList ++ cur.toList.drop (i * sz + o + u.cells.toList.length)).toArray) hob e1 rfl (by simp)
      (fun k _ hk => heap' g _ k (fun e => hk (by rw [e]; exact hb'))) rfl rfl rfl (fun b hb => .inl hb) (Nat.le_refl _) (fun _ => rfl)
      (fun hp hc' => ⟨hL, xs.take (i * sz + o) ++ u.cells.toList ++ xs.drop (i * sz + o + u.cells.toList.length), ⟨hsz1, .inr ⟨g, cap, _, hv', hg0, setRow_heap w g cur _ e _ hh, h5, h6, by rw [List.size_toArray]; exact hsz2, by rw [List.toList_toArray]; exact htake⟩⟩, hsz1,
        fun k hk => (by
          by_cases hki : k = i
          · subst hki; exact hr'
          · rw [hoth k hk hki]; exact hc.rows k hk), fun k j x y hk hx hy => (by
          have hkin : k * sz + sz ≤ m * sz := by rw [← Nat.succ_mul]; exact Nat.mul_le_mul_right _ hk
          have hl1 : (xs.take (i * sz + o)).length = i * sz + o := by rw [List.length_take]; omega
          by_cases hki : k = i
          · subst hki
            have hj : j < sz := by rw [← hr']; exact (List.getElem?_eq_some_iff.1 hx).1
            rw [hs2] at hx
            have hl2 : ((r k).take o).length = o := by rw [List.length_take]; omega
            by_cases hjo : j < o
            · rw [List.append_assoc, List.getElem?_append_left (by omega), List.getElem?_take, if_pos (by omega)] at hx hy
              exact (fun z => ⟨z.1.mono hp hc', z.2⟩) (hc.get k j x y hk hx hy)
            · by_cases hjo2 : j < o + ys.length
              · rw [List.append_assoc, List.getElem?_append_right (by omega), List.getElem?_append_left (by omega)] at hx hy
                rw [hl1] at hy
                rw [hl2] at hx
                rw [show k * sz + j - (k * sz + o) = j - o by omega] at hy
                exact (fun z => ⟨z.1.mono hp hc', z.2⟩) (hys.2 _ x y hx hy)
              · rw [List.getElem?_append_right (by rw [List.length_append, hl2]; omega)] at hx
                rw [List.getElem?_append_right (by rw [List.length_append, hl1]; omega)] at hy
                simp only [List.length_append, hl1, hl2, List.getElem?_drop] at hx hy
                rw [show o + ys.length + (j - (o + ys.length)) = j by omega] at hx
                rw [show k * sz + o + u.cells.toList.length + (k * sz + j - (k * sz + o + u.cells.toList.length)) = k * sz + j by omega] at hy
                exact (fun z => ⟨z.1.mono hp hc', z.2⟩) (hc.get k j x y hk hx hy)
          · rw [hoth k hk hki] at hx
            have hj : j < sz := by rw [← hc.rows k hk]; exact (List.getElem?_eq_some_iff.1 hx).1
            have hy' : xs[k * sz + j]? = some y := by
              rcases Nat.lt_or_gt_of_ne hki with h' | h'
              · have : k * sz + sz ≤ i * sz := by rw [← Nat.succ_mul]; exact Nat.mul_le_mul_right _ h'
                rw [List.append_assoc, List.getElem?_append_left (by omega), List.getElem?_take, if_pos (by omega)] at hy
                exact hy
              · have : i * sz + sz ≤ k * sz := by rw [← Nat.succ_mul]; exact Nat.mul_le_mul_right _ h'
                rw [List.getElem?_append_right (by rw [List.length_append, hl1]; omega)] at hy
                simp only [List.length_append, hl1, List.getElem?_drop] at hy
                rw [show i * sz + o + u.cells.toList.length + (k * sz + j - (i * sz + o + u.cells.toList.length)) = k * sz + j by omega] at hy
                exact hy
            exact (fun z => ⟨z.1.mono hp hc', z.2⟩) (hc.get k j x y hk hx hy'))⟩)
    exact ⟨_, _, hrun, r1, r3, r2⟩

theorem op_storeElt {o : Oper} {t : TypeId} {szt : Nat} {ag : Bool} [ht : Ty P t szt ag] {p y : Operand} {id ver sz i oo m : Nat} {e : TypeId} {r : Nat → List AV} (r' : Nat → List AV) {ys : List AV} (ho : o.op = .store t p y) (hp : evA τ p = .elt id ver sz i oo)
    (hob : nth ar id = some (.row e sz ver m r)) (hi : i < m) (hy : cellsA (evA τ y) = some ys) (hl : Nat.beq ys.length szt = true) (hsp : splice (r i) oo ys = some (r' i)) (hoth : ∀ k, k < m → k ≠ i → r' k = r k) (har : setN ar id (.row e sz ver m r') = some ar') :
    OpStep P τ ar o (.val undef) ar' := by
  intro C a w ρ hR hS
  rw [nth_eq] at hob
  obtain ⟨_, rfl⟩ := setN_spec _ _ _ _ har
  have hv := evA_ok hS p
  rw [hp] at hv
  obtain ⟨w', ρ', r1, r2, r3, r4⟩ := rel_storeElt (P := P) hR hv hob hi (cellsA_ok (evA_ok hS y) hy) hsp hoth t (by rw [ht.size, Nat.eq_of_beq_eq_true hl])
  exact ⟨.skip, undef, w', ρ', by simp [execOp, ho, r1], .inr ⟨rfl, rfl⟩, r2, r3, r4, .val⟩

/-- xs[i]'s place, of a row of one's own. -/
theorem op_index_row {o : Oper} {x y : Operand} {t e e' : TypeId} {sz sz' m : Nat} {ag : Bool} [ElT P t e] [Ty P e sz ag] {id ver : Nat} {r : Nat → List AV} {kk : IntKind} {i : Int}
    (ho : o.op = .indexAddr t x y) (hx : evA τ x = .row id ver) (hob : nth ar id = some (.row e' sz' ver m r)) (hy : evA τ y = .val (.int kk i)) (hsz : sz' = sz) (hb : inB i m = true) : OpStep P τ ar o (.elt id ver sz i.toNat 0) ar :=
  opStep_same fun C a w ρ hR h => by
    subst hsz
    obtain ⟨h0, h1⟩ := inB_iff.1 hb
    have hv := evA_ok h x
    rw [hx] at hv
    obtain ⟨L, e1, e2, e3, e4⟩ := rv_row hv
    rw [nth_eq] at hob
    obtain ⟨hL, xs, hown, hc⟩ := hR.obj id _ L hob e1
    have e5 := e4 hL.symm
    have hi : i.toNat < m := by omega
    have hs := Ty.size (P := P) (t := e)
    cases hinf : P.info? e with
    | none => simp [hinf] at hs
    | some info =>
      simp [hinf] at hs
      rcases hown.2 with ⟨hv', hm0⟩ | ⟨g, cap, cur, hv', hg0, hh, h5, h6, h7, h8⟩
      · omega
      · refine ⟨.pointer (some ⟨g, i.toNat * sz', none⟩), ?_, ?_⟩
        · have hel := ElT.h (P := P) (t := t)
          have hc : 0 ≤ i ∧ i < (m : Int) := by omega
          have hadd : (⟨g, 0, none⟩ : Addr).add (i.toNat * sz') = ⟨g, i.toNat * sz', none⟩ := by unfold Addr.add; split <;> simp_all
          simp [execOp, ho, e5, hv', eval_val h hy, Instr.indexAt, run_underlying hel, asIntOf, hc, sizeOf, typeInfo, hinf, hs, hadd]
        · exact .elt e1 e2 rfl fun _ => ⟨g, by simp [Loc.blk, hv'], by simp⟩

theorem op_len_row {o : Oper} {x : Operand} {t e e' : TypeId} [ElT P t e] {id ver sz m : Nat} {r : Nat → List AV} (ho : o.op = .call { callee := .builtin .len, args := #[x], argTypes := #[t] })
    (hx : evA τ x = .row id ver) (hob : nth ar id = some (.row e' sz ver m r)) : OpStep P τ ar o (.val (.int .i64 m)) ar :=
  opStep_same fun C a w ρ hR h => by
    have hv := evA_ok h x
    rw [hx] at hv
    obtain ⟨L, e1, e2, e3, e4⟩ := rv_row hv
    rw [nth_eq] at hob
    obtain ⟨hL, xs, hown, hc⟩ := hR.obj id _ L hob e1
    have e5 := e4 hL.symm
    rcases hown.2 with ⟨hv', hm0⟩ | ⟨g, cap, cur, hv', hg0, hh, h5, h6, h7, h8⟩
    · exact ⟨.int .i64 m, by simp [execOp, ho, resolve, invoke, builtin, e5, hv', hm0, Builtin.len_, run_underlying (ElT.h (P := P) (t := t)), goInt], .val⟩
    · exact ⟨.int .i64 m, by simp [execOp, ho, resolve, invoke, builtin, e5, hv', Builtin.len_, run_underlying (ElT.h (P := P) (t := t)), goInt], .val⟩

theorem op_field_elt {o : Oper} {x : Operand} {t : TypeId} {j off : Nat} {ft : TypeId} {sz : Nat} {ag : Bool} [FldT P t j off ft] [Ty P ft sz ag] {id ver sze i o1 m : Nat} {e : TypeId} {r : Nat → List AV}
    (ho : o.op = .fieldAddr t x j) (hx : evA τ x = .elt id ver sze i o1) (hob : nth ar id = some (.row e sze ver m r)) (hsz : Nat.beq sz 0 = false) :
    OpStep P τ ar o (.elt id ver sze i (Nat.add o1 off)) ar :=
  opStep_same fun C a w ρ hR h => by
    show ∃ v, _ ∧ RV _ _ _ (.elt id ver sze i (o1 + off)) v
    have hv := evA_ok h x
    rw [hx] at hv
    obtain ⟨L, e1, e2, e3, e4⟩ := rv_elt hv
    have hsz' : sz ≠ 0 := fun e => by subst e; cases hsz
    rw [nth_eq] at hob
    have hL : ver = L.ver := (hR.obj id _ L hob e1).1.symm
    obtain ⟨b, hb, e5⟩ := e4 hL
    have hadd : (⟨b, i * sze + o1, none⟩ : Addr).add off = ⟨b, i * sze + (o1 + off), none⟩ := by unfold Addr.add; split <;> simp_all; omega
    exact ⟨.pointer (some ((⟨b, i * sze + o1, none⟩ : Addr).add off)), by simp [execOp, ho, e5, run_fieldAt_ok hsz'], .elt e1 e2 rfl fun _ => ⟨b, hb, by rw [hadd]⟩⟩

theorem op_load_elt {o : Oper} {p : Operand} {t : TypeId} {szt : Nat} {ag : Bool} [Ty P t szt ag] {id ver sz i off m : Nat} {e : TypeId} {r : Nat → List AV} {x : AV} (ho : o.op = .load t p) (hp : evA τ p = .elt id ver sz i off)
    (hob : nth ar id = some (.row e sz ver m r)) (hb : inB i m = true) (hx : loadA ag szt (r i) off = some x) : OpStep P τ ar o x ar :=
  opStep_same fun C a w ρ hR h => by
    have hv := evA_ok h p
    rw [hp] at hv
    obtain ⟨L, e1, e2, e3, e4⟩ := rv_elt hv
    rw [nth_eq] at hob
    obtain ⟨hL, xs, hown, hc⟩ := hR.obj id _ L hob e1
    obtain ⟨b, hb1, e5⟩ := e4 hL.symm
    have hi : i < m := by have := (inB_iff.1 hb).2; omega
    have hblk : L.v.ownBlock = some b := by
      unfold Loc.blk at hb1
      rcases hown.2 with ⟨hv', _⟩ | ⟨g, cap, cur, hv', _⟩ <;> simp [hv'] at hb1
      simp [hv', Value.ownBlock, hb1]
    have hadd : ∀ (b off j : Nat), (⟨b, off, none⟩ : Addr).add j = ⟨b, off + j, none⟩ := fun b off j => by unfold Addr.add; split <;> simp_all
    have hin : i * sz + sz ≤ m * sz := by rw [← Nat.succ_mul]; exact Nat.mul_le_mul_right _ hi
    have hg : ∀ j y, (r i)[off + j]? = some y → xs[i * sz + (off + j)]? = some (xs.getD (i * sz + (off + j)) undef) := fun j y hy => by
      have h1 := (List.getElem?_eq_some_iff.1 hy).1
      rw [hc.rows i hi] at h1
      have hj : i * sz + (off + j) < xs.length := by rw [hc.len]; omega
      simp [List.getD_eq_getElem?_getD, List.getElem?_eq_getElem hj]
    obtain ⟨v, hr, hq⟩ := load_cells (P := P) (w := w) (O := Ow C ρ ar) (ρ := ρ) (t := t) (a := ⟨b, i * sz + off, none⟩) (fun j => xs.getD (i * sz + (off + j)) undef) hx
      (fun j y hy => ⟨by
        have := hown.cells hblk (i * sz + (off + j)) _ (hg j y hy)
        rw [hadd] at this ⊢
        rw [Nat.zero_add] at this
        rw [Nat.add_assoc]
        exact this, (hc.get i (off + j) y _ hi hy (hg j y hy)).2⟩)
      (fun j y hy => (hc.get i (off + j) y _ hi hy (hg j y hy)).1)
    exact ⟨v, by simp [execOp, ho, e5, hr], hq⟩

end
end Go.Iron
