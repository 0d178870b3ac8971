/- Iron: rows that are made and appended to; structs compared. -/
import Derived.Test.YtamhonbhoelohaaIronF
import Derived.Maps.AppendAt
import Derived.Laws.OwnMore
import Derived.Laws.StructEq
namespace Go.Iron

section
variable {P : Program} {f n : Nat} {C : Cx} {τ τ' : Nat → AV} {ar ar' : List AO} {k todo : List Item} {Q : Out → List AO → Prop} {ops : Array Oper}

theorem idx_lt {i j m sz : Nat} (hi : i < m) (hj : j < sz) : i * sz + j < m * sz := by
  have : i * sz + sz ≤ m * sz := by rw [← Nat.succ_mul]; exact Nat.mul_le_mul_right _ hi
  omega
theorem idx_div {i j sz : Nat} (hj : j < sz) : (i * sz + j) / sz = i ∧ (i * sz + j) % sz = j := by
  have hp : 0 < sz := by omega
  constructor
  · rw [Nat.mul_comm, Nat.mul_add_div hp, Nat.div_eq_of_lt hj]; omega
  · rw [Nat.mul_comm, Nat.mul_add_mod, Nat.mod_eq_of_lt hj]

/-- A slice's cells, and what they stand for. -/
def Src (w : World) (O : Nat → Prop) (ρ : List Loc) (sz m : Nat) (r : Nat → List AV) (v : Value) : Prop :=
  ∃ (A : Option Addr) (cap : Nat) (news : List Value), v = .slice A m cap ∧ (A = none → m = 0) ∧ news.length = m * sz ∧ (∀ a, A = some a → ∀ (j : Nat) u, news[j]? = some u → w.cell? (a.add j) = some u) ∧ (∀ u ∈ news, u.oneCell' = true) ∧ RowC w O ρ sz m r news

theorem src_slc {w : World} {O : Nat → Prop} {ρ : List Loc} {sz : Nat} {nl : Option Bool} {m : Nat} {r : Nat → List AV} {v : Value} (hpos : 0 < sz) (h : RV w O ρ (.slc sz nl m r) v) : Src w O ρ sz m r v := by
  obtain ⟨A, cap, g, e1, e3, e4, e5, e6, e7, e8, e9⟩ := rv_slc h
  have key : ∀ k, k < m * sz → k / sz < m ∧ k % sz < (r (k / sz)).length ∧ k / sz * sz + k % sz = k := fun k hk => by
    have h1 : k / sz < m := Nat.div_lt_of_lt_mul (by rw [Nat.mul_comm]; exact hk)
    exact ⟨h1, by rw [e6 _ h1]; exact Nat.mod_lt _ hpos, by rw [Nat.mul_comm]; exact Nat.div_add_mod k sz⟩
  have hget : ∀ (k : Nat) u, ((List.range (m * sz)).map fun k => g (k / sz) (k % sz))[k]? = some u → k < m * sz ∧ u = g (k / sz) (k % sz) := fun k u hu => by
    simp only [List.getElem?_map] at hu
    by_cases hk : k < m * sz
    · simp [hk] at hu; exact ⟨hk, hu.symm⟩
    · simp [hk] at hu
  have hx : 0 < m → ∃ a, A = some a := fun h0 => by obtain ⟨a, ha, _⟩ := e7 h0; exact ⟨a, ha⟩
  refine ⟨A, cap, (List.range (m * sz)).map fun k => g (k / sz) (k % sz), e1, fun ha => ?_, by simp, fun a ha j u hu => ?_, fun u hu => ?_, by simp, e6, fun i j x u hi hxj hu => ?_⟩
  · rcases Nat.eq_zero_or_pos m with h0 | h0
    · exact h0
    · obtain ⟨a, ha'⟩ := hx h0; rw [ha] at ha'; cases ha'
  · obtain ⟨hj, rfl⟩ := hget j u hu
    obtain ⟨k1, k2, k3⟩ := key j hj
    have := (e8 (j / sz) (j % sz) _ a k1 (List.getElem?_eq_getElem k2) ha).1
    rw [k3] at this
    exact this
  · obtain ⟨j, hj0⟩ := List.mem_iff_getElem?.1 hu
    obtain ⟨hj, hj1⟩ := hget j u hj0
    subst hj1
    obtain ⟨k1, k2, k3⟩ := key j hj
    obtain ⟨a, ha⟩ := hx (Nat.lt_of_le_of_lt (Nat.zero_le _) k1)
    exact (e8 (j / sz) (j % sz) _ a k1 (List.getElem?_eq_getElem k2) ha).2
  · obtain ⟨hj, rfl⟩ := hget _ u hu
    have hjs : j < sz := by rw [← e6 i hi]; exact (List.getElem?_eq_some_iff.1 hxj).1
    obtain ⟨d1, d2⟩ := idx_div (i := i) hjs
    rw [d1, d2]
    obtain ⟨a, ha⟩ := hx (by omega)
    exact ⟨(e9 i j x hi hxj).up, (e8 i j x a hi hxj ha).2⟩

theorem src_row {w : World} {ρ : List Loc} {id ver sz m : Nat} {e : TypeId} {r : Nat → List AV} {v : Value} (hpos : 0 < sz) (hR : RelA C ρ ar w) (hob : ar[id]? = some (.row e sz ver m r)) (h : RV w (Ow C ρ ar) ρ (.row id ver) v) : Src w (Ow C ρ ar) ρ sz m r v := by
  obtain ⟨L, e1, e2, e3, e4⟩ := rv_row h
  obtain ⟨hL, xs, hown, hc⟩ := hR.obj id _ L hob e1
  have e5 := e4 hL.symm
  have h1c : ∀ u ∈ xs, u.oneCell' = true := fun u hu => by
    obtain ⟨j, hj⟩ := List.mem_iff_getElem?.1 hu
    have hj' : j < m * sz := by rw [← hc.len]; exact (List.getElem?_eq_some_iff.1 hj).1
    have k1 : j / sz < m := Nat.div_lt_of_lt_mul (by rw [Nat.mul_comm]; exact hj')
    have k2 : j % sz < (r (j / sz)).length := by rw [hc.rows _ k1]; exact Nat.mod_lt _ hpos
    have k3 : j / sz * sz + j % sz = j := by rw [Nat.mul_comm]; exact Nat.div_add_mod j sz
    exact (hc.get _ _ _ u k1 (List.getElem?_eq_getElem k2) (by rw [k3]; exact hj)).2
  subst e5
  rcases hown.2 with ⟨hv', hm0⟩ | ⟨g, cap, cur, hv', hg0, hh, h5, h6, h7, h8⟩
  · subst hm0
    exact ⟨none, 0, xs, hv', fun _ => rfl, hc.len, fun a ha => (by cases ha), h1c, hc⟩
  · refine ⟨some ⟨g, 0, none⟩, cap, xs, hv', fun ha => (by cases ha), hc.len, fun a ha j u hu => ?_, h1c, hc⟩
    cases ha
    exact hown.cells (g := g) (by rw [hv']; rfl) j u hu

/-- What comes behind what was there. -/
def appR (m : Nat) (r r2 : Nat → List AV) : Nat → List AV := fun i => match Nat.blt i m with
  | true => r i
  | false => r2 (i - m)
theorem appR_lt {m i : Nat} {r r2 : Nat → List AV} (h : i < m) : appR m r r2 i = r i := by
  have : Nat.blt i m = true := by simpa [Nat.blt_eq] using h
  simp [appR, this]
theorem appR_ge {m i : Nat} {r r2 : Nat → List AV} (h : m ≤ i) : appR m r r2 i = r2 (i - m) := by
  have : Nat.blt i m = false := by rw [Bool.eq_false_iff]; simp [h]
  simp [appR, this]

theorem run_appendNone {w : World} {t ty e : TypeId} {i : TypeInfo} {sz c n : Nat} {v : Value} {xs : List Value} (ht : P.underlying t = some (.slice e)) (hi : P.info? e = some i) (hown : w.ownsRow 0 e sz v n xs) :
    (Builtin.append_ #[t, t] ty #[v, .slice none 0 c]).run P w = .ok v w := by
  rcases hown.2 with ⟨rfl, rfl⟩ | ⟨g, cap, cur, rfl, _, _, hnc, _⟩
  · simp [Builtin.append_, run_underlying ht, sizeOf, typeInfo, hi, Builtin.lenOf, Builtin.firstCells]
  · simp [Builtin.append_, run_underlying ht, sizeOf, typeInfo, hi, Builtin.lenOf, Builtin.firstCells, hnc, storeCells]

theorem rel_append {ρ : List Loc} {w : World} (hR : RelA C ρ ar w) {t ty e : TypeId} {id ver sz m m2 bytes : Nat} {r r2 : Nat → List AV} {z0 : List AV} {v v2 : Value} [he : ElT P t e] [hz : ZeroT P e z0 bytes]
    (hv : RV w (Ow C ρ ar) ρ (.row id ver) v) (hob : ar[id]? = some (.row e sz ver m r)) (hsz : z0.length = sz) (hsrc : Src w (Ow C ρ ar) ρ sz m2 r2 v2) (hb : Nat.ble ((m + m2) * bytes) 140737488355328 = true) :
    ∃ v' w' ρ', (Builtin.append_ #[t, t] ty #[v, v2]).run P w = .ok v' w' ∧ RelA C ρ' (ar.set id (.row e sz (Nat.succ ver) (m + m2) (appR m r r2))) w' ∧ Compat ρ ρ' ∧
      Pres w (Ow C ρ ar) w' (Ow C ρ' (ar.set id (.row e sz (Nat.succ ver) (m + m2) (appR m r r2)))) ∧ RV w' (Ow C ρ' (ar.set id (.row e sz (Nat.succ ver) (m + m2) (appR m r r2)))) ρ' (.row id (Nat.succ ver)) v' := by
  obtain ⟨i, z, z1, z2, z3, z4, z4', z5, z6, z7, z8⟩ := hz.all
  rw [hsz] at z4 z4' z8
  have hb' : (m + m2) * bytes ≤ 140737488355328 := by simpa [Nat.ble_eq] using hb
  have hmax : m + m2 ≤ maxLen := by
    have : (m + m2) * 1 ≤ (m + m2) * bytes := Nat.mul_le_mul_left _ z7
    simp only [maxLen]
    omega
  obtain ⟨L, e1, e2, e3, e4⟩ := rv_row hv
  obtain ⟨hL, xs, hown, hc⟩ := hR.obj id _ L hob e1
  have e5 := e4 hL.symm
  obtain ⟨A, cap, news, hv2, hA, hnl, hcell, hone, hrc⟩ := hsrc
  have hstep : ∃ v' w', (Builtin.append_ #[t, t] ty #[L.v, v2]).run P w = .ok v' w' ∧ w'.ownsRow 0 e sz v' (m + m2) (xs ++ news) ∧ w.grownBy w' L.v.ownBlock ∧ (v'.ownBlock = L.v.ownBlock ∨ v'.ownBlock = some w.heap.size) := by
    rw [hv2]
    cases A with
    | none =>
      have := hA rfl
      subst this
      have hn0 : news = [] := List.eq_nil_of_length_eq_zero (by simpa using hnl)
      subst hn0
      refine ⟨L.v, w, run_appendNone he.h z1 hown, by simpa using hown, ⟨rfl, rfl, rfl, Nat.le_refl _, fun _ _ _ => rfl⟩, .inl rfl⟩
    | some ad =>
      obtain ⟨v', w', h1, h2, h3, h4, h5⟩ := run_append_own_at (P := P) w 0 t ty e i z sz bytes he.h z1 z2 z4 z3 z4' z8 L.v m xs hown ad m2 cap news hnl (hcell ad rfl) hone hmax hb' (Nat.zero_le _)
      exact ⟨v', w', h1, h2, h3, h5⟩
  obtain ⟨v', w', h1, h2, h3, h5⟩ := hstep
  have hblk : ∀ (w : World) (L : Loc) n xs, w.ownsRow 0 e sz L.v n xs → L.blk = L.v.ownBlock := fun w L n xs h => by
    rcases h.2 with ⟨hv', _⟩ | ⟨g, cap, cur, hv', _⟩ <;> simp [Loc.blk, hv', Value.ownBlock]
  have hone' : v'.oneCell' = true := by
    rcases h2.2 with ⟨hv', _⟩ | ⟨g, cap, cur, hv', _⟩ <;> rw [hv'] <;> rfl
  obtain ⟨r1, r2', r3⟩ := hR.put (L' := ⟨Nat.succ ver, v'⟩) (o' := .row e sz (Nat.succ ver) (m + m2) (appR m r r2)) (w' := w') hob e1 rfl h3.size
    (fun k hk hne => h3.block k hk (fun e => hne (by rw [hblk w L _ _ hown]; exact e.symm))) h3.os h3.tape h3.output
    (fun b hb => by
      rw [hblk w' ⟨Nat.succ ver, v'⟩ _ _ h2] at hb
      rcases h5 with h5 | h5
      · rw [h5] at hb; exact .inl (by rw [hblk w L _ _ hown]; exact hb)
      · rw [h5] at hb; exact .inr (by cases hb; exact Nat.le_refl _)) (by simp [hL]) (fun h => by rw [hL] at h; simp at h)
    (fun hp hc' => ⟨rfl, xs ++ news, h2, by rw [List.length_append, hc.len, hnl, Nat.add_mul], fun i hi => by
      by_cases him : i < m
      · rw [appR_lt him]; exact hc.rows i him
      · rw [appR_ge (by omega)]; exact hrc.rows _ (by omega), fun i j x u hi hxj hu => by
      by_cases him : i < m
      · rw [appR_lt him] at hxj
        have hj : j < sz := by rw [← hc.rows i him]; exact (List.getElem?_eq_some_iff.1 hxj).1
        rw [List.getElem?_append_left (by rw [hc.len]; exact idx_lt him hj)] at hu
        exact (fun z => ⟨z.1.mono hp hc', z.2⟩) (hc.get i j x u him hxj hu)
      · rw [appR_ge (by omega)] at hxj
        have hj : j < sz := by rw [← hrc.rows (i - m) (by omega)]; exact (List.getElem?_eq_some_iff.1 hxj).1
        have hle : m * sz ≤ i * sz := Nat.mul_le_mul_right _ (by omega)
        rw [List.getElem?_append_right (by rw [hc.len]; omega), hc.len, show i * sz + j - m * sz = (i - m) * sz + j by rw [Nat.sub_mul]; omega] at hu
        exact (fun z => ⟨z.1.mono hp hc', z.2⟩) (hrc.get (i - m) j x u (by omega) hxj hu)⟩)
  exact ⟨v', w', _, by rw [e5]; exact h1, r1, r3, r2', .row (L := ⟨Nat.succ ver, v'⟩) (by rw [List.getElem?_set_self (List.getElem?_eq_some_iff.1 e1).1]) (Nat.le_refl _) hone' (fun _ => rfl)⟩

theorem Src.mono {w : World} {O O' : Nat → Prop} {ρ ρ' : List Loc} (hp : Pres w O w O') (hc : Compat ρ ρ') {sz m : Nat} {r : Nat → List AV} {v : Value} (h : Src w O ρ sz m r v) : Src w O' ρ' sz m r v := by
  obtain ⟨A, cap, news, h1, h2, h3, h4, h5, h6⟩ := h
  exact ⟨A, cap, news, h1, h2, h3, h4, h5, h6.mono hp hc⟩

theorem op_append {o : Oper} {t e : TypeId} {x y : Operand} {id ver sz m m2 bytes : Nat} {r r2 : Nat → List AV} {z0 : List AV} [he : ElT P t e] [hz : ZeroT P e z0 bytes] (ho : o.op = .call { callee := .builtin .append, args := #[x, y], argTypes := #[t, t] })
    (hx : evA τ x = .row id ver) (hob : nth ar id = some (.row e sz ver m r)) (hsz : z0.length = sz)
    (hsrc : ∀ (C : Cx) (w : World) (ρ : List Loc) (v : Value), RelA C ρ ar w → RV w (Ow C ρ ar) ρ (evA τ y) v → Src w (Ow C ρ ar) ρ sz m2 r2 v) (hb : Nat.ble ((m + m2) * bytes) 140737488355328 = true)
    (har : setN ar id (.row e sz (Nat.succ ver) (m + m2) (appR m r r2)) = some ar') : OpStep P τ ar o (.row id (Nat.succ ver)) ar' := by
  intro C a w ρ hR hS
  rw [nth_eq] at hob
  obtain ⟨_, rfl⟩ := setN_spec _ _ _ _ har
  have hv := evA_ok hS x
  rw [hx] at hv
  obtain ⟨v', w', ρ', h1, h2, h3, h4, h5⟩ := rel_append (P := P) hR (t := t) (ty := o.type) hv hob hsz (hsrc C w ρ _ hR (evA_ok hS y)) hb
  exact ⟨.value v', v', w', ρ', by simp [execOp, ho, resolve, invoke, builtin, h1], .inl rfl, h2, h3, h4, h5⟩

/-- append(nil, ..): a row of one's own. -/
theorem op_appendNil {o : Oper} {t e : TypeId} {x y : Operand} {m2 bytes id : Nat} {r2 : Nat → List AV} {z0 : List AV} [he : ElT P t e] [hz : ZeroT P e z0 bytes] (ho : o.op = .call { callee := .builtin .append, args := #[x, y], argTypes := #[t, t] })
    (hx : evA τ x = .val (.slice none 0 0))
    (hsrc : ∀ (C : Cx) (w : World) (ρ : List Loc) (v : Value), RelA C ρ ar w → RV w (Ow C ρ ar) ρ (evA τ y) v → Src w (Ow C ρ ar) ρ z0.length m2 r2 v) (hb : Nat.ble ((0 + m2) * bytes) 140737488355328 = true)
    (har : snocN ar (.row e z0.length 1 (0 + m2) (appR 0 r2 r2)) = some (ar', id)) : OpStep P τ ar o (.row id 1) ar' := by
  intro C a w ρ hR hS
  obtain ⟨rfl, rfl⟩ := snocN_spec _ _ _ _ har
  obtain ⟨r1, q2, q3⟩ := hR.add (o := .row e z0.length 0 0 r2) (L := ⟨0, .slice none 0 0⟩) (w' := w) (Nat.le_refl _) (fun _ _ => rfl) rfl rfl rfl (fun b hb => by simp [Loc.blk] at hb)
    (fun hp => ⟨rfl, [], World.ownsRow_nil w 0 e z0.length, by simp, fun i h => by omega, fun i j x v h => by omega⟩)
  have hxv := eval_val hS hx
  have hrow : RV w (Ow C (ρ ++ [⟨0, .slice none 0 0⟩]) (ar ++ [.row e z0.length 0 0 r2])) (ρ ++ [⟨0, .slice none 0 0⟩]) (.row ar.length 0) (.slice none 0 0) :=
    .row (L := ⟨0, .slice none 0 0⟩) (by rw [List.getElem?_append_right (by rw [hR.len]; exact Nat.le_refl _)]; simp [hR.len]) (Nat.le_refl _) rfl (fun _ => rfl)
  obtain ⟨v', w', ρ', h1, h2, h3, h4, h5⟩ := rel_append (P := P) r1 (t := t) (ty := o.type) (v2 := a.eval y) (r := r2) hrow (by simp) rfl ((hsrc C w ρ _ hR (evA_ok hS y)).mono q2 q3) hb
  have hset : (ar ++ [AO.row e z0.length 0 0 r2]).set ar.length (.row e z0.length (Nat.succ 0) (0 + m2) (appR 0 r2 r2)) = ar ++ [.row e z0.length 1 (0 + m2) (appR 0 r2 r2)] := by
    rw [List.set_append_right _ _ (Nat.le_refl _)]; simp
  rw [hset] at h2 h4 h5
  exact ⟨.value v', v', w', ρ', by simp [execOp, ho, resolve, invoke, builtin, hxv, h1], .inl rfl, h2, q3.trans h3, q2.trans h4, h5⟩

/-- A row that is made. -/
theorem rel_newRow {ρ : List Loc} {w w' : World} (h : RelA C ρ ar w) (e : TypeId) {sz m : Nat} {r : Nat → List AV} {xs : List Value} (hw : w' = w.alloc (.cells xs.toArray e)) (hm : m ≤ maxLen) (hc : RowC w (Ow C ρ ar) ρ sz m r xs) :
    RelA C (ρ ++ [⟨0, .slice (some ⟨w.heap.size, 0, none⟩) m m⟩]) (ar ++ [.row e sz 0 m r]) w' ∧
      Pres w (Ow C ρ ar) w' (Ow C (ρ ++ [⟨0, .slice (some ⟨w.heap.size, 0, none⟩) m m⟩]) (ar ++ [.row e sz 0 m r])) ∧ Compat ρ (ρ ++ [⟨0, .slice (some ⟨w.heap.size, 0, none⟩) m m⟩]) := by
  subst hw
  refine h.add (w' := w.alloc (.cells xs.toArray e)) (by simp) (fun k hk => heap_alloc_old w _ hk) rfl rfl rfl (fun b hb => by simp [Loc.blk] at hb; omega) (fun hp => ⟨rfl, xs, ?_, hc.mono hp (Compat.append _ _)⟩)
  have := World.ownsRow_lit (base := 0) (e := e) (size := sz) w xs.toArray m (Nat.zero_le _) hm (by simpa using hc.len)
  simpa using this

/-- So many cells from the place i * sz on. -/
def chunk (sz : Nat) (cs : List AV) : Nat → List AV := fun i => (cs.drop (Nat.mul i sz)).take sz

def rowPl (sz : Nat) : Nat → Option (Nat × Nat) := fun i => some (Nat.mul i sz, sz)

theorem toList_made (z : Array Value) (n : Nat) (hp : 0 < z.size) : ∀ (j : Nat), j < n → ((Array.range n).map (z[· % z.size]!)).toList[j]? = some (z[j % z.size]'(Nat.mod_lt _ hp)) := by
  intro j hj
  have h2 : j % z.size < z.size := Nat.mod_lt _ hp
  simp [hj, h2]

/-- n times the same cells. -/
def rep (zs : List AV) : Nat → List AV
  | 0 => []
  | n + 1 => zs ++ rep zs n
theorem rep_length (zs : List AV) (n : Nat) : (rep zs n).length = n * zs.length := by
  induction n with
  | zero => simp [rep]
  | succ n ih => simp [rep, ih, Nat.add_mul]; omega
theorem rep_get (zs : List AV) : ∀ (n i j : Nat), i < n → j < zs.length → (rep zs n)[i * zs.length + j]? = zs[j]?
  | 0, i, j, h, _ => by omega
  | n + 1, 0, j, _, hj => by rw [rep, Nat.zero_mul, Nat.zero_add, List.getElem?_append_left hj]
  | n + 1, i + 1, j, h, hj => by
    rw [rep, List.getElem?_append_right (by rw [Nat.add_mul]; omega), show (i + 1) * zs.length + j - zs.length = i * zs.length + j by rw [Nat.add_mul]; omega]
    exact rep_get zs n i j (by omega) hj

theorem made_cells {w : World} {O : Nat → Prop} {ρ : List Loc} {zs : List AV} {z : Value} {n sz : Nat} (h1 : z.cells.toList.map .val = zs) (h2 : z.cells.toList.all (·.oneCell') = true) (hp : 0 < zs.length) (hsz : zs.length = sz) :
    Cells w O ρ (rep zs n) ((Array.range (n * sz)).map (z.cells[· % z.cells.size]!)).toList := by
  have hzl : z.cells.size = zs.length := by rw [← h1]; simp
  subst hsz
  refine ⟨by rw [rep_length]; simp, fun k x v hx hv => ?_⟩
  have hk : k < n * zs.length := by rw [← rep_length]; exact (List.getElem?_eq_some_iff.1 hx).1
  rw [toList_made _ _ (by omega) k hk] at hv
  have k1 : k / zs.length < n := Nat.div_lt_of_lt_mul (by rw [Nat.mul_comm]; exact hk)
  have k3 : k / zs.length * zs.length + k % zs.length = k := by rw [Nat.mul_comm]; exact Nat.div_add_mod k _
  have hx' := rep_get zs n (k / zs.length) (k % zs.length) k1 (Nat.mod_lt _ hp)
  rw [k3, hx] at hx'
  simp only [Option.some.injEq] at hv
  have hm : k % z.cells.size < z.cells.toList.length := by rw [Array.length_toList]; exact Nat.mod_lt _ (by omega)
  have hz : zs[k % zs.length]? = some (.val z.cells.toList[k % z.cells.size]) := by
    subst h1
    simp only [List.getElem?_map, List.length_map, Array.length_toList]
    have : k % z.cells.size < z.cells.size := by simpa using hm
    simp [this]
  rw [hz] at hx'
  cases hx'
  have hv' : v = z.cells.toList[k % z.cells.size] := by rw [← hv]; simp
  rw [← hv']
  exact ⟨.val, List.all_eq_true.1 h2 v (by rw [hv']; exact List.getElem_mem _)⟩

/-- A literal row. -/
theorem op_buildSlice {o : Oper} {t e : TypeId} {len sz bytes id : Nat} {parts : Array (Nat × Operand)} {z0 cs : List AV} {as : List (Nat × List AV)} [he : ElT P t e] [hz : ZeroT P e z0 bytes] (ho : o.op = .buildSlice t len parts)
    (hsz : z0.length = sz) (has : partsA τ parts.toList = some as) (hc : fillA (rowPl sz) (rep z0 len) as = some cs) (hle : Nat.ble (len * sz) 16777216 = true)
    (har : snocN ar (.row e sz 0 len (chunk sz cs)) = some (ar', id)) : OpStep P τ ar o (.row id 0) ar' := by
  intro C a w ρ hR hS
  obtain ⟨rfl, rfl⟩ := snocN_spec _ _ _ _ har
  obtain ⟨i, z, z1, z2, z3, z4, z4', z5, z6, z7, z8⟩ := hz.all
  have hle' : len * sz ≤ 16777216 := by simpa [Nat.ble_eq] using hle
  have hmax : len ≤ maxLen := by
    have : len * 1 ≤ len * sz := Nat.mul_le_mul_left _ (by omega)
    simp only [maxLen]
    omega
  obtain ⟨vs', h1, h2⟩ := fill_ok (w := w) (O := Ow C ρ ar) (ρ := ρ) (place := rowPl sz) as _ (rep z0 len) cs ((Array.range (len * sz)).map (z.cells[· % z.cells.size]!)) (made_cells z5 z6 z8 hsz) (partsA_ok hS _ _ has) hc
  have hcl : cs.length = len * sz := by
    have key : ∀ (as : List (Nat × List AV)) (c0 cs : List AV), fillA (rowPl sz) c0 as = some cs → cs.length = c0.length := by
      intro as
      induction as with
      | nil => intro c0 cs h; simp [fillA] at h; rw [h]
      | cons p as ih =>
        intro c0 cs h
        obtain ⟨i, ys⟩ := p
        simp only [fillA, rowPl, Nat.mul_eq] at h
        cases hl : ys.length.beq sz with
        | false => simp [hl] at h
        | true =>
          simp only [hl] at h
          cases hsp : splice c0 (i * sz) ys with
          | none => simp [hsp] at h
          | some c1 =>
            simp only [hsp] at h
            obtain ⟨hs1, hs2⟩ := splice_spec _ _ _ _ hsp
            rw [ih _ _ h, hs2]
            simp; omega
    rw [key as _ _ hc, rep_length, hsz]
  have hrc : RowC w (Ow C ρ ar) ρ sz len (chunk sz cs) vs'.toList := by
    refine ⟨by rw [h2.1, hcl], fun i hi => ?_, fun i j x v hi hx hv => ?_⟩
    · have : i * sz + sz ≤ len * sz := by rw [← Nat.succ_mul]; exact Nat.mul_le_mul_right _ hi
      simp [chunk, hcl]; omega
    · have hx' : cs[i * sz + j]? = some x := by
        simp only [chunk, Nat.mul_eq] at hx
        rw [List.getElem?_take] at hx
        split at hx
        · rw [List.getElem?_drop] at hx; exact hx
        · cases hx
      exact h2.2 _ x v hx' hv
  obtain ⟨r1, r2, r3⟩ := rel_newRow hR e (w' := w.alloc (.cells vs' e)) rfl hmax hrc
  refine ⟨.value (.slice (some ⟨w.heap.size, 0, none⟩) len len), _, _, _, ?_, .inl rfl, r1, r3, r2, ?_⟩
  · have hparts : (parts.map fun x => (x.1, a.eval x.2)).toList = parts.toList.map fun p => (p.1, a.eval p.2) := by simp
    have hsize : i.size = sz := by rw [z4, hsz]
    have h1' : Instr.fill (fun i => some (i * sz, sz)) ((Array.range (len * sz)).map (z.cells[· % z.cells.size]!)) (parts.toList.map fun p => (p.1, a.eval p.2)) = some vs' := h1
    have hn : ¬ (16777216 < len * i.size) := by rw [hsize]; omega
    by_cases h0 : len * sz = 0
    · have hcs0 : (Array.range (len * sz)).map (z.cells[· % z.cells.size]!) = #[] := by rw [h0]; simp
      rw [hcs0] at h1'
      simp only [execOp, ho, Instr.buildSlice, Sem.run_bind, run_underlying he.h, Result.andThen_ok, sizeOf, typeInfo, run_program, z1, Sem.run_pure, hsize, hparts, h0]
      have hr0 : ∀ (f : Nat → Value), (Array.range 0).map f = #[] := fun f => by simp
      simp [hr0, h1', newRow]
    · simp only [execOp, ho, Instr.buildSlice, Sem.run_bind, run_underlying he.h, Result.andThen_ok, sizeOf, typeInfo, run_program, z1, Sem.run_pure, hsize, hparts]
      simp [h0, show ¬ 16777216 < len * sz by omega, zeroValue, typeInfo, z1, z2, h1', newRow]
  · exact .row (L := ⟨0, .slice (some ⟨w.heap.size, 0, none⟩) len len⟩) (by rw [List.getElem?_append_right (by rw [hR.len]; exact Nat.le_refl _)]; simp [hR.len]) (Nat.le_refl _) rfl (fun _ => rfl)

/-- make([]T, n). -/
theorem op_makeSlice {o : Oper} {t e : TypeId} {x y : Operand} {k1 k2 : IntKind} {l : Int} {sz bytes id : Nat} {z0 : List AV} [he : ElT P t e] [hz : ZeroT P e z0 bytes] (ho : o.op = .makeSlice t x y) (hx : evA τ x = .val (.int k1 l)) (hy : evA τ y = .val (.int k2 l))
    (hsz : z0.length = sz) (h0 : (decide (0 ≤ l) && decide (l * bytes ≤ 140737488355328)) = true)
    (har : snocN ar (.row e sz 0 l.toNat (fun _ => z0)) = some (ar', id)) : OpStep P τ ar o (.row id 0) ar' := by
  intro C a w ρ hR hS
  obtain ⟨rfl, rfl⟩ := snocN_spec _ _ _ _ har
  obtain ⟨i, z, z1, z2, z3, z4, z4', z5, z6, z7, z8⟩ := hz.all
  simp only [Bool.and_eq_true, decide_eq_true_eq] at h0
  obtain ⟨h0, hb⟩ := h0
  obtain ⟨m, rfl⟩ : ∃ m : Nat, l = m := ⟨l.toNat, by omega⟩
  have hb' : (m * bytes : Nat) ≤ 140737488355328 := by rw [← Int.natCast_mul] at hb; omega
  have hmax : m ≤ 140737488355328 := by
    have : m * 1 ≤ m * bytes := Nat.mul_le_mul_left _ z7
    omega
  have hcells := made_cells (w := w) (O := Ow C ρ ar) (ρ := ρ) (n := m) z5 z6 z8 hsz
  have hrc : RowC w (Ow C ρ ar) ρ sz m (fun _ => z0) ((Array.range (m * sz)).map (z.cells[· % z.cells.size]!)).toList := by
    refine ⟨by simp, fun i hi => hsz, fun i j x v hi hx hv => ?_⟩
    have hj : j < z0.length := (List.getElem?_eq_some_iff.1 hx).1
    exact hcells.2 (i * sz + j) x v (by rw [← hsz]; rw [rep_get z0 m i j hi hj]; exact hx) hv
  obtain ⟨r1, r2, r3⟩ := rel_newRow hR e (w' := w.alloc (.cells ((Array.range (m * sz)).map (z.cells[· % z.cells.size]!)) e)) (by rw [Array.toArray_toList]) (by simp only [maxLen]; omega) hrc
  refine ⟨.value (.slice (some ⟨w.heap.size, 0, none⟩) m m), _, _, _, ?_, .inl rfl, r1, r3, r2, ?_⟩
  · have hbz : (i.bytes : Int) * (m : Int) ≤ 281474976710656 := by
      have : ((bytes * m : Nat) : Int) ≤ 281474976710656 := by rw [Nat.mul_comm]; omega
      rw [z3]; rwa [Int.natCast_mul] at this
    have hr := run_make (P := P) w t e i z he.h z1 z2 k1 k2 (m : Int) (m : Int) (by omega) (Int.le_refl _) hbz (by omega)
    have hsize : i.size = sz := by rw [z4, hsz]
    simp only [execOp, ho, eval_val hS hx, eval_val hS hy, Sem.run_bind, hr, Result.andThen_ok, Int.toNat_natCast, hsize, madeCells]
    rfl
  · exact .row (L := ⟨0, .slice (some ⟨w.heap.size, 0, none⟩) m m⟩) (by rw [List.getElem?_append_right (by rw [hR.len]; exact Nat.le_refl _)]; simp [hR.len]) (Nat.le_refl _) rfl (fun _ => rfl)

end
end Go.Iron
