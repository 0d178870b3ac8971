/- Iron: structs, slices and rows that are built; append; interfaces. -/
import Derived.Test.YtamhonbhoelohaaIronD
namespace Go.Iron

theorem set_run (us : List Value) : ∀ (off j0 : Nat) (cs : Array Value), off + j0 + us.length ≤ cs.size →
    ((us.zipIdx j0).foldl (fun (cs : Array Value) (p : Value × Nat) => cs.setIfInBounds (off + p.2) p.1) cs).toList = cs.toList.take (off + j0) ++ us ++ cs.toList.drop (off + j0 + us.length) := by
  induction us with
  | nil => intro off j0 cs h; simp
  | cons u us ih =>
    intro off j0 cs h
    simp only [List.zipIdx_cons, List.foldl_cons]
    rw [ih off (j0 + 1) _ (by simp at h ⊢; omega)]
    simp only [Array.toList_setIfInBounds, List.length_cons] at h ⊢
    have hlt : off + j0 < cs.toList.length := by simp; omega
    rw [show off + (j0 + 1) = off + j0 + 1 by omega, List.take_succ_eq_append_getElem (by simpa using hlt), List.getElem_set_self, List.take_set_of_le (Nat.le_refl _), List.drop_set_of_lt (by omega)]
    simp only [List.append_assoc, List.cons_append, List.nil_append]
    rw [show off + j0 + 1 + us.length = off + j0 + (us.length + 1) by omega]

def fillA (place : Nat → Option (Nat × Nat)) : List AV → List (Nat × List AV) → Option (List AV)
  | cs, [] => some cs
  | cs, (i, ys) :: r => match place i with
    | none => none
    | some (off, sz) => match Nat.beq ys.length sz with
      | false => none
      | true => match splice cs off ys with
        | some cs' => fillA place cs' r
        | none => none

def PartsOK (w : World) (O : Nat → Prop) (ρ : List Loc) : List (Nat × List AV) → List (Nat × Value) → Prop
  | [], [] => True
  | (i, ys) :: l, (j, v) :: m => i = j ∧ Cells w O ρ ys v.cells.toList ∧ PartsOK w O ρ l m
  | _, _ => False

theorem fill_ok {w : World} {O : Nat → Prop} {ρ : List Loc} {place : Nat → Option (Nat × Nat)} : ∀ (as : List (Nat × List AV)) (ps : List (Nat × Value)) (cs cs' : List AV) (vs : Array Value), Cells w O ρ cs vs.toList → PartsOK w O ρ as ps →
    fillA place cs as = some cs' → ∃ vs', Instr.fill place vs ps = some vs' ∧ Cells w O ρ cs' vs'.toList
  | [], [], cs, cs', vs, hc, _, h => by simp [fillA] at h; subst h; exact ⟨vs, rfl, hc⟩
  | [], _ :: _, _, _, _, _, hp, _ => hp.elim
  | (i, ys) :: as, [], _, _, _, _, hp, _ => hp.elim
  | (i, ys) :: as, (j, v) :: ps, cs, cs', vs, hc, ⟨e, hy, hp⟩, h => by
    subst e
    simp only [fillA] at h
    cases hpl : place i with
    | none => simp [hpl] at h
    | some p =>
      obtain ⟨off, sz⟩ := p
      simp only [hpl] at h
      cases hl : Nat.beq ys.length sz with
      | false => simp [hl] at h
      | true =>
        simp only [hl] at h
        cases hs : splice cs off ys with
        | none => simp [hs] at h
        | some cs1 =>
          simp only [hs] at h
          have hl' := Nat.eq_of_beq_eq_true hl
          have hvl : v.cells.size = sz := by have := hy.1; simp at this; omega
          obtain ⟨h1, h2⟩ := splice_spec _ _ _ _ hs
          have hcl : vs.size = cs.length := by have := hc.1; simpa using this
          have hrun := set_run v.cells.toList off 0 vs (by simp; omega)
          have hc1 := cells_splice hc hy hs
          have hfold : (v.cells.zipIdx.foldl (fun (cs : Array Value) (p : Value × Nat) => cs.setIfInBounds (off + p.2) p.1) vs).toList = vs.toList.take off ++ v.cells.toList ++ vs.toList.drop (off + v.cells.toList.length) := by
            rw [← Array.foldl_toList, Array.toList_zipIdx]
            simpa using hrun
          obtain ⟨vs', h3, h4⟩ := fill_ok as ps cs1 cs' _ (by rw [hfold]; exact hc1) hp h
          refine ⟨vs', ?_, h4⟩
          simp only [Instr.fill, hpl]
          rw [if_neg (by simp; omega)]
          exact h3

/-- The parts' cells. -/
def partsA (τ : Nat → AV) : List (Nat × Operand) → Option (List (Nat × List AV))
  | [] => some []
  | (i, y) :: l => match cellsA (evA τ y), partsA τ l with
    | some ys, some r => some ((i, ys) :: r)
    | _, _ => none

theorem partsA_ok {w : World} {O : Nat → Prop} {ρ : List Loc} {τ : Nat → AV} {a : Act} (h : Slots w O ρ τ a.tmps) : ∀ (l : List (Nat × Operand)) r, partsA τ l = some r → PartsOK w O ρ r (l.map fun p => (p.1, a.eval p.2))
  | [], r, hr => by simp [partsA] at hr; subst hr; trivial
  | (i, y) :: l, r, hr => by
    simp only [partsA] at hr
    cases hy : cellsA (evA τ y) with
    | none => simp [hy] at hr
    | some ys =>
      cases hl : partsA τ l with
      | none => simp [hy, hl] at hr
      | some r' =>
        simp [hy, hl] at hr
        subst hr
        exact ⟨rfl, cellsA_ok (evA_ok h y) hy, partsA_ok h l r' hl⟩

/-- A struct's places: where each field lies, and how many cells it has. -/
class StrT (P : Program) (t : TypeId) (pl : outParam (List (Nat × Nat))) : Prop where
  h : ∃ fs, P.underlying t = some (.struct fs) ∧ fs.toList.map (fun f => some (f.offset, ((P.info? f.type).map (·.size)))) = pl.map (fun p => some (p.1, some p.2))

section
variable {P : Program} {f n : Nat} {C : Cx} {τ τ' : Nat → AV} {ar ar' : List AO} {k todo : List Item} {Q : Out → List AO → Prop} {ops : Array Oper}

theorem zero_cells {w : World} {O : Nat → Prop} {ρ : List Loc} {cs : List AV} {z : Value} (h1 : z.cells.toList.map .val = cs) (h2 : z.cells.toList.all (·.oneCell') = true) : Cells w O ρ cs z.cells.toList := by
  subst h1
  refine ⟨by simp, fun j x v hx hv => ?_⟩
  simp only [List.getElem?_map, hv, Option.map_some, Option.some.injEq] at hx
  subst hx
  exact ⟨.val, List.all_eq_true.1 h2 v (List.mem_of_getElem? hv)⟩

theorem op_build {o : Oper} {t : TypeId} {parts : Array (Nat × Operand)} {z0 cs : List AV} {bytes : Nat} {pl : List (Nat × Nat)} {as : List (Nat × List AV)} [hz : ZeroT P t z0 bytes] [hs : StrT P t pl] (ho : o.op = .build t parts)
    (has : partsA τ parts.toList = some as) (hc : fillA (nth pl) z0 as = some cs) : OpStep P τ ar o (.agg cs) ar :=
  opStep_same fun C a w ρ hR h => by
    obtain ⟨i, z, z1, z2, z3, z4, z4', z5, z6, z7, z8⟩ := hz.all
    obtain ⟨fs, f1, f2⟩ := hs.h
    have hplace : (nth pl) = fun i => pl[i]? := funext fun i => nth_eq _ _
    rw [hplace] at hc
    obtain ⟨vs', h1, h2⟩ := fill_ok (place := fun i => pl[i]?) as _ z0 cs z.cells (zero_cells z5 z6) (partsA_ok h _ _ has) hc
    refine ⟨.agg vs', ?_, ?_⟩
    · have hmap : (fs.mapM (m := Sem) fun f => do pure (f.offset, ← sizeOf f.type)).run P w = .ok pl.toArray w := by
        rw [Array.mapM_eq_mapM_toList, Sem.run_map]
        have : ∀ (l : List Field) (pl : List (Nat × Nat)), l.map (fun f => some (f.offset, ((P.info? f.type).map (·.size)))) = pl.map (fun p => some (p.1, some p.2)) →
            (l.mapM (m := Sem) fun f => do pure (f.offset, ← sizeOf f.type)).run P w = .ok pl w := by
          intro l
          induction l with
          | nil => intro pl h; cases pl <;> simp at h; rfl
          | cons f l ih =>
            intro pl h
            cases pl with
            | nil => simp at h
            | cons p pl =>
              simp only [List.map_cons, List.cons.injEq, Option.some.injEq, Prod.mk.injEq] at h
              obtain ⟨⟨e1, e2⟩, e3⟩ := h
              cases hinf : P.info? f.type with
              | none => simp [hinf] at e2
              | some info =>
                simp [hinf] at e2
                have hsz : (sizeOf f.type).run P w = .ok info.size w := by simp [sizeOf, typeInfo, hinf]
                simp only [List.mapM_cons, Sem.run_bind, hsz, Result.andThen_ok, Sem.run_pure, ih pl e3, e1, e2]
        rw [this fs.toList pl f2]
        rfl
      have hparts : (parts.map fun x => (x.1, a.eval x.2)).toList = parts.toList.map fun p => (p.1, a.eval p.2) := by simp
      simp only [execOp, ho, Instr.build, Sem.run_bind, zeroValue, typeInfo, run_program, Result.andThen_ok, z1, z2, Sem.run_pure, run_underlying f1, hmap]
      have hget : (fun (i : Nat) => pl.toArray[i]?) = fun (i : Nat) => pl[i]? := by funext i; simp
      rw [hget, hparts, h1]
      rfl
    · refine .agg (by have := h2.1; simp at this; omega) (fun i x v hx hv => (h2.2 i x v hx (by simpa using hv)).1) (fun i v hv => ?_)
      have hi : i < cs.length := by have := h2.1; simp at this; have := (Array.getElem?_eq_some_iff.1 hv).1; omega
      exact (h2.2 i cs[i] v (by simp [hi]) (by simpa using hv)).2

theorem op_field_val {o : Oper} {t : TypeId} {x : Operand} {j off sz : Nat} {ag : Bool} {ft : TypeId} [hf : FldT P t j off ft] [ht : Ty P ft sz ag] {cs : List AV} {y : AV} (ho : o.op = .field t x j) (hx : evA τ x = .agg cs) (hy : loadA ag sz cs off = some y) :
    OpStep P τ ar o y ar :=
  opStep_same fun C a w ρ hR h => by
    have hv := evA_ok h x
    rw [hx] at hv
    obtain ⟨vs, e1, e2, e3, e4⟩ := rv_agg hv
    obtain ⟨fs, fl, h1, h2, h3, h4⟩ := hf.h
    subst h4
    have hp : ∃ v, (part fl.type vs fl.offset).run P w = .ok v w ∧ RV w (Ow C ρ ar) ρ y v := by
      cases ag with
      | false =>
        simp only [loadA, nth_eq] at hy
        have hi : off < vs.size := by rw [← e2]; exact (List.getElem?_eq_some_iff.1 hy).1
        refine ⟨vs[off], ?_, e3 off y _ hy (by simp [hi])⟩
        simp [part, isAgg_run (P := P) (t := fl.type) (sz := sz) (ag := false), h3, hi]
      | true =>
        simp only [loadA] at hy
        cases hs : sub cs off sz with
        | none => simp [hs] at hy
        | some r =>
          simp [hs] at hy
          subst hy
          obtain ⟨hl, hr⟩ := sub_spec cs off sz r hs
          have hfit : ∀ j, j < sz → off + j < vs.size := fun j hj => by
            have : cs[off + j]? = r[j]? := hr j hj
            have hjr : j < r.length := by omega
            rw [List.getElem?_eq_getElem hjr] at this
            rw [← e2]; exact (List.getElem?_eq_some_iff.1 this).1
          refine ⟨.agg (vs.extract off (off + sz)), ?_, ?_⟩
          · simp [part, isAgg_run (P := P) (t := fl.type) (sz := sz) (ag := true), sizeOf_run (P := P) (t := fl.type) (sz := sz) (ag := true), h3]
          · have hsz : sz = 0 ∨ off + sz ≤ vs.size := by
              rcases Nat.eq_zero_or_pos sz with h0 | h0
              · exact .inl h0
              · have := hfit (sz - 1) (by omega); right; omega
            have hel : ∀ i v, (vs.extract off (off + sz))[i]? = some v → i < sz ∧ vs[off + i]? = some v := fun i v hv => by
              have hi := (Array.getElem?_eq_some_iff.1 hv).1
              simp at hi
              have : i < sz := by omega
              refine ⟨this, ?_⟩
              rw [Array.getElem?_extract, if_pos hi] at hv
              exact hv
            refine .agg ?_ (fun i x v hx hv => ?_) (fun i v hv => ?_)
            · rw [hl]; simp; rcases hsz with h0 | h0 <;> omega
            · obtain ⟨hi, hv'⟩ := hel i v hv
              exact e3 (off + i) x v (by rw [hr i hi]; exact hx) hv'
            · obtain ⟨hi, hv'⟩ := hel i v hv
              exact e4 _ _ hv'
    obtain ⟨v, hr, hq⟩ := hp
    exact ⟨v, by simp [execOp, ho, e1, Instr.field, run_underlying h1, h2, asAgg, hr], hq⟩

def evAs (τ : Nat → AV) : List Operand → List AV
  | [] => []
  | x :: l => evA τ x :: evAs τ l
theorem evAs_eq (τ : Nat → AV) (l : List Operand) : evAs τ l = l.map (evA τ) := by induction l <;> simp [evAs, *]

theorem op_makeFunc {o : Oper} {g : Fn} {capt : Array Operand} (ho : o.op = .makeFunc g #[] capt) : OpStep P τ ar o (.fn g (evAs τ capt.toList)) ar :=
  opStep_same fun C a w ρ hR h => by
    refine ⟨.func g #[] (capt.map a.eval), by simp [execOp, ho, Instr.makeFunc], .fn (by simp [evAs_eq]) (fun i x v hx hv => ?_)⟩
    simp only [evAs_eq, List.getElem?_map, Array.getElem?_toList, Array.getElem?_map] at hx hv
    cases hc : capt[i]? with
    | none => simp [hc] at hx
    | some z => simp [hc] at hx hv; subst hx; subst hv; exact evA_ok h z

class ConT (P : Program) (t : TypeId) : Prop where
  h : P.concrete t = true
theorem op_makeInterface {o : Oper} {t : TypeId} [ht : ConT P t] {x : Operand} {y : AV} (ho : o.op = .makeInterface t x) (hx : evA τ x = y) : OpStep P τ ar o (.ifc t y) ar :=
  opStep_same fun C a w ρ hR h => ⟨_, by simp [execOp, ho, run_makeInterface w t _ ht.h], .ifc (hx ▸ evA_ok h x)⟩

theorem run_eqIn_bool {w : World} {t : TypeId} (ht : P.underlying t = some .bool) (d : Nat) (p q : Bool) : (Op.equalIn (d + 1) t (.bool p) (.bool q)).run P w = .ok (p == q) w := by
  simp [Op.equalIn, run_underlying ht]
theorem run_eqIn_str {w : World} {t : TypeId} (ht : P.underlying t = some .string) (d : Nat) (p q : ByteArray) : (Op.equalIn (d + 1) t (.string p) (.string q)).run P w = .ok (p == q) w := by
  simp [Op.equalIn, run_underlying ht]
theorem run_eqIn_int {w : World} {t : TypeId} {k : IntKind} (ht : P.underlying t = some (.int k)) (d : Nat) (k' : IntKind) (p q : Int) : (Op.equalIn (d + 1) t (.int k' p) (.int k' q)).run P w = .ok (p == q) w := by
  simp [Op.equalIn, run_underlying ht]
theorem run_binEq {w : World} {t : TypeId} {x y : Value} {b : Bool} (hx : (match x, y with | .int _ _, _ | .float _ _, _ | .complex _ _ _, _ | .string _, _ => false | _, _ => true) = true) (h : (Op.equalIn (9999 + 1) t x y).run P w = .ok b w) :
    (binOp .eql t x y).run P w = .ok (.bool b) w ∧ (binOp .neq t x y).run P w = .ok (.bool (!b)) w := by
  have h' : (Op.equal t x y).run P w = .ok b w := h
  constructor
  · have : binOp .eql t x y = (do pure (.bool (← Op.equal t x y))) := by cases x <;> first | (simp at hx; done) | (cases y <;> rfl)
    rw [this, Sem.run_bind, h']
    rfl
  · have : binOp .neq t x y = (do pure (.bool (!(← Op.equal t x y)))) := by cases x <;> first | (simp at hx; done) | (cases y <;> rfl)
    rw [this, Sem.run_bind, h']
    rfl
theorem op_eqBool {o : Oper} {xt yt : TypeId} {x y : Operand} {p q : Bool} (ht : P.underlying xt = some .bool) (ho : o.op = .binOp .eql xt x y yt) (hx : evA τ x = .val (.bool p)) (hy : evA τ y = .val (.bool q)) : OpStep P τ ar o (.val (.bool (p == q))) ar :=
  opStep_same fun C a w ρ hR h => ⟨_, by
    have := (run_binEq (P := P) (w := w) (t := xt) (x := .bool p) (y := .bool q) rfl (run_eqIn_bool ht 9999 p q)).1
    have hg : ∀ op, (eqGuard op xt x y (.bool p) (.bool q)).run P w = .ok () w := fun op => by unfold eqGuard; cases op <;> rfl
    simp only [execOp, ho, eval_val h hx, eval_val h hy, Sem.run_bind, hg, this, Result.andThen_ok]
    rfl, .val⟩
theorem op_neBool {o : Oper} {xt yt : TypeId} {x y : Operand} {p q : Bool} (ht : P.underlying xt = some .bool) (ho : o.op = .binOp .neq xt x y yt) (hx : evA τ x = .val (.bool p)) (hy : evA τ y = .val (.bool q)) : OpStep P τ ar o (.val (.bool (!(p == q)))) ar :=
  opStep_same fun C a w ρ hR h => ⟨_, by
    have := (run_binEq (P := P) (w := w) (t := xt) (x := .bool p) (y := .bool q) rfl (run_eqIn_bool ht 9999 p q)).2
    have hg : ∀ op, (eqGuard op xt x y (.bool p) (.bool q)).run P w = .ok () w := fun op => by unfold eqGuard; cases op <;> rfl
    simp only [execOp, ho, eval_val h hx, eval_val h hy, Sem.run_bind, hg, this, Result.andThen_ok]
    rfl, .val⟩
theorem op_eqStr {o : Oper} {xt yt : TypeId} {x y : Operand} {p q : ByteArray} (ho : o.op = .binOp .eql xt x y yt) (hx : evA τ x = .val (.string p)) (hy : evA τ y = .val (.string q)) : OpStep P τ ar o (.val (.bool (p.toList == q.toList))) ar :=
  opStep_same fun C a w ρ hR h => ⟨_, by
    have hg : ∀ op, (eqGuard op xt x y (.string p) (.string q)).run P w = .ok () w := fun op => by unfold eqGuard; cases op <;> rfl
    have hb : (binOp .eql xt (.string p) (.string q)).run P w = .ok (.bool (p.toList == q.toList)) w := rfl
    simp only [execOp, ho, eval_val h hx, eval_val h hy, Sem.run_bind, hg, hb, Result.andThen_ok]
    rfl, .val⟩
theorem op_neStr {o : Oper} {xt yt : TypeId} {x y : Operand} {p q : ByteArray} (ho : o.op = .binOp .neq xt x y yt) (hx : evA τ x = .val (.string p)) (hy : evA τ y = .val (.string q)) : OpStep P τ ar o (.val (.bool (!(p.toList == q.toList)))) ar :=
  opStep_same fun C a w ρ hR h => ⟨_, by
    have hg : ∀ op, (eqGuard op xt x y (.string p) (.string q)).run P w = .ok () w := fun op => by unfold eqGuard; cases op <;> rfl
    have hb : (binOp .neq xt (.string p) (.string q)).run P w = .ok (.bool (!(p.toList == q.toList))) w := rfl
    simp only [execOp, ho, eval_val h hx, eval_val h hy, Sem.run_bind, hg, hb, Result.andThen_ok]
    rfl, .val⟩

end
end Go.Iron
