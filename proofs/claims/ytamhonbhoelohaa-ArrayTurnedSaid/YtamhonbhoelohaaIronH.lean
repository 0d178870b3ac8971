/- Iron: calls that are lent the first of one's own objects. -/
import Derived.Test.YtamhonbhoelohaaIronZ
namespace Go.Iron
section
variable {P : Program} {f n : Nat} {C : Cx} {τ τ' : Nat → AV} {ar ar' A A' B : List AO} {k todo : List Item} {Q : Out → List AO → Prop} {ops : Array Oper}

theorem owned_app {ρ : List Loc} {b : Nat} (h : Owned ρ (A ++ B) b) : Owned (ρ.take A.length) A b ∨ Owned (ρ.drop A.length) B b := by
  obtain ⟨i, o, L, h1, h2, h3, h4⟩ := h
  by_cases hi : i < A.length
  · rw [List.getElem?_append_left hi] at h1
    exact .inl ⟨i, o, L, h1, h2, by rw [List.getElem?_take, if_pos hi]; exact h3, h4⟩
  · rw [List.getElem?_append_right (by omega)] at h1
    exact .inr ⟨i - A.length, o, L, h1, h2, by rw [List.getElem?_drop, show A.length + (i - A.length) = i by omega]; exact h3, h4⟩
theorem owned_left {ρ : List Loc} {b : Nat} (h : Owned (ρ.take A.length) A b) : Owned ρ (A ++ B) b := by
  obtain ⟨i, o, L, h1, h2, h3, h4⟩ := h
  have hi : i < A.length := (List.getElem?_eq_some_iff.1 h1).1
  rw [List.getElem?_take, if_pos hi] at h3
  exact ⟨i, o, L, by rw [List.getElem?_append_left hi]; exact h1, h2, h3, h4⟩
theorem owned_right {ρ : List Loc} {b : Nat} (h : Owned (ρ.drop A.length) B b) : Owned ρ (A ++ B) b := by
  obtain ⟨i, o, L, h1, h2, h3, h4⟩ := h
  rw [List.getElem?_drop] at h3
  exact ⟨A.length + i, o, L, by rw [List.getElem?_append_right (by omega), show A.length + i - A.length = i by omega]; exact h1, h2, h3, h4⟩

theorem callT_frame {g : FuncId} {as : List AV} {S : Out → List AO → Prop} (h : CallT P g as A (fun out A' => S out A' ∧ A'.length = A.length)) (hu : AV.unders A.length as = true) (hk : Kept A.length A) {w : World} {ρ : List Loc} {vs : Array Value}
    (hR : RelA C ρ (A ++ B) w) (hl : vs.size = as.length) (hv : ∀ (j : Nat) x v, as[j]? = some x → vs[j]? = some v → RV w (Ow C ρ (A ++ B)) ρ x v) :
    Calls P g vs w fun e w' => ∃ out A' ρ', S out A' ∧ RelA C ρ' (A' ++ B) w' ∧ Compat ρ ρ' ∧ Pres w (Ow C ρ (A ++ B)) w' (Ow C ρ' (A' ++ B)) ∧ OutR w' (Ow C ρ' (A' ++ B)) ρ' out (.norm e) := by
  have hρ := hR.len
  rw [List.length_append] at hρ
  have hta : (ρ.take A.length).length = A.length := by rw [List.length_take]; omega
  let OB : Nat → Prop := fun b => C.X b ∨ Owned (ρ.drop A.length) B b
  have hO : ∀ b, Ow (cx w (ρ.take A.length) A OB) (ρ.take A.length) A b → Ow C ρ (A ++ B) b := fun b hb => by
    rcases hb with (hb | hb) | hb
    · exact .inl hb
    · exact .inr (owned_right hb)
    · exact .inr (owned_left hb)
  have hfarB : ∀ b, OB b → b < w.heap.size := fun b hb => by
    rcases hb with hb | hb
    · exact hR.far b hb
    · exact hR.lt (owned_right hb)
  have hapB : ∀ b, OB b → ¬ Owned (ρ.take A.length) A b := fun b hb ha => by
    rcases hb with hb | hb
    · exact hR.apart b hb (owned_left ha)
    · obtain ⟨i, o, L, h1, h2, h3, h4⟩ := ha
      obtain ⟨j, o', L', k1, k2, k3, k4⟩ := hb
      have hi : i < A.length := (List.getElem?_eq_some_iff.1 h1).1
      rw [List.getElem?_take, if_pos hi] at h3
      rw [List.getElem?_drop] at k3
      exact hR.disj i (A.length + j) o o' L L' b (by omega) (by rw [List.getElem?_append_left hi]; exact h1) (by rw [List.getElem?_append_right (by omega), show A.length + j - A.length = j by omega]; exact k1) h2 k2 h3 k3 h4 k4
  have hr0 : RelA (cx w (ρ.take A.length) A OB) (ρ.take A.length) A w := by
    refine ⟨hta, hta, fun i o L h1 h2 => ?_, fun i j o o' L L' b hij h1 h2 l1 l2 h3 h4 b1 b2 => ?_, hfarB, hapB, Nat.le_refl _, rfl, rfl, rfl, fun _ _ _ => rfl, fun b hb => .inr hb, Compat.refl _, fun p hp => by simp at hp⟩
    · have hi : i < A.length := (List.getElem?_eq_some_iff.1 h1).1
      rw [List.getElem?_take, if_pos hi] at h2
      have ho := hR.obj i o L (by rw [List.getElem?_append_left hi]; exact h1) h2
      have hko := hk.mem o (List.mem_of_getElem? h1)
      cases o with
      | gone => trivial
      | box e cs =>
        obtain ⟨h0, b, vs, a1, a2, a3⟩ := ho
        exact ⟨h0, b, vs, a1, a2, a3.take hO hko⟩
      | row e sz ver k r =>
        obtain ⟨h0, xs, a1, a2⟩ := ho
        exact ⟨h0, xs, a1, a2.take hO hko⟩
      | loop st pd f n τ ps asg body =>
        obtain ⟨h0, b, tmps, dd, a1, a2, a3, a4⟩ := ho
        exact ⟨h0, b, tmps, dd, a1, a2, a3, a4.kept hO hko⟩
      | dfr op => exact ho
    · have hi : i < A.length := (List.getElem?_eq_some_iff.1 h1).1
      have hj : j < A.length := (List.getElem?_eq_some_iff.1 h2).1
      rw [List.getElem?_take, if_pos hi] at h3
      rw [List.getElem?_take, if_pos hj] at h4
      exact hR.disj i j o o' L L' b hij (by rw [List.getElem?_append_left hi]; exact h1) (by rw [List.getElem?_append_left hj]; exact h2) l1 l2 h3 h4 b1 b2
  refine (h w (ρ.take A.length) OB vs hr0 hl fun i x v hx hv' => (hv i x v hx hv').take hO (unders_get hu hx)).mono fun e w' hd => ?_
  obtain ⟨out, A1, ρ1, ⟨hS, hlen⟩, hR1, ho⟩ := hd
  have hρ1 : ρ1.length = A.length := hR1.len.trans hlen
  have hOw : ∀ b, Owned (ρ1 ++ ρ.drop A.length) (A1 ++ B) b ↔ Owned ρ1 A1 b ∨ Owned (ρ.drop A.length) B b := fun b => by
    have e1 : (ρ1 ++ ρ.drop A.length).take A1.length = ρ1 := by rw [hlen, ← hρ1]; exact List.take_left
    have e2 : (ρ1 ++ ρ.drop A.length).drop A1.length = ρ.drop A.length := by rw [hlen, ← hρ1]; exact List.drop_left
    constructor
    · intro hb
      rcases owned_app hb with hb | hb
      · rw [e1] at hb; exact .inl hb
      · rw [e2] at hb; exact .inr hb
    · rintro (hb | hb)
      · exact owned_left (by rw [e1]; exact hb)
      · exact owned_right (by rw [e2]; exact hb)
  have hOeq : ∀ b, Ow C (ρ1 ++ ρ.drop A.length) (A1 ++ B) b ↔ Ow (cx w (ρ.take A.length) A OB) ρ1 A1 b := fun b => by
    constructor
    · rintro (hb | hb)
      · exact .inl (.inl hb)
      · rcases (hOw b).1 hb with hb | hb
        · exact .inr hb
        · exact .inl (.inr hb)
    · rintro ((hb | hb) | hb)
      · exact .inl hb
      · exact .inr ((hOw b).2 (.inr hb))
      · exact .inr ((hOw b).2 (.inl hb))
  have hc : Compat ρ (ρ1 ++ ρ.drop A.length) := fun i L hL => by
    by_cases hi : i < A.length
    · obtain ⟨L', a1, a2⟩ := hR1.comp i L (by show (ρ.take A.length)[i]? = some L; rw [List.getElem?_take, if_pos hi]; exact hL)
      exact ⟨L', by rw [List.getElem?_append_left (by omega)]; exact a1, a2⟩
    · exact ⟨L, by rw [List.getElem?_append_right (by omega), List.getElem?_drop, show A.length + (i - ρ1.length) = i by omega]; exact hL, Nat.le_refl _, fun _ => rfl⟩
  have hheap : ∀ b, b < w.heap.size → ¬ Owned (ρ.take A.length) A b → w'.heap[b]? = w.heap[b]? := fun b h1 h2 => hR1.heap b h1 h2
  have hp : Pres w (Ow C ρ (A ++ B)) w' (Ow C (ρ1 ++ ρ.drop A.length) (A1 ++ B)) := ⟨hR1.size, fun b hb hn => ⟨hheap b hb (fun h' => hn (.inr (owned_left h'))), fun hn' => by
    rcases (hOeq b).1 hn' with (hb' | hb') | hb'
    · exact hn (.inl hb')
    · exact hn (.inr (owned_right hb'))
    · rcases hR1.new b hb' with h' | h'
      · have : w.heap.size ≤ b := h'
        omega
      · exact hn (.inr (owned_left h'))⟩⟩
  have hp1 : Pres w' (Ow (cx w (ρ.take A.length) A OB) ρ1 A1) w' (Ow C (ρ1 ++ ρ.drop A.length) (A1 ++ B)) := ⟨Nat.le_refl _, fun b _ hn => ⟨rfl, fun h' => hn ((hOeq b).1 h')⟩⟩
  refine ⟨out, A1, ρ1 ++ ρ.drop A.length, hS, ⟨by rw [List.length_append, List.length_append, hρ1, hlen, List.length_drop]; omega, hR.len0, fun i o L h1 h2 => ?_, fun i j o o' L L' b hij h1 h2 l1 l2 h3 h4 b1 b2 => ?_, fun b hb => Nat.lt_of_lt_of_le (hR.far b hb) hR1.size, fun b hb hn => ((hOw b).1 hn).elim (hR1.apart b (.inl hb)) (fun z => hR.apart b hb (owned_right z)), Nat.le_trans hR.size hR1.size,
    hR1.os.trans hR.os, hR1.tape.trans hR.tape, hR1.output.trans hR.output, fun b hb hn => ?_, fun b hb => ?_, hR.comp.trans hc, fun p hp' => (hR.defs p hp').mono hp hc⟩, hc, hp, ?_⟩
  · by_cases hi : i < A.length
    · rw [List.getElem?_append_left (by omega)] at h1 h2
      have ho := hR1.obj i o L h1 h2
      cases hl : o.live with
      | false => cases o <;> simp [AO.live] at hl; trivial
      | true => exact ho.mono hp1 (Compat.append _ _) fun b hb => rfl
    · rw [List.getElem?_append_right (by omega)] at h1 h2
      rw [List.getElem?_drop] at h2
      rw [hlen] at h1
      rw [hρ1, show A.length + (i - A.length) = i by omega] at h2
      have ho := hR.obj i o L (by rw [List.getElem?_append_right (by omega)]; exact h1) h2
      cases hl : o.live with
      | false => cases o <;> simp [AO.live] at hl; trivial
      | true => exact ho.mono hp hc fun b hb => hheap b (ho.lt hl hb) fun h' => hapB b (.inr ⟨i - A.length, o, L, h1, hl, by rw [List.getElem?_drop, show A.length + (i - A.length) = i by omega]; exact h2, hb⟩) h'
  · have inA : ∀ (i : Nat) o L, i < A.length → (A1 ++ B)[i]? = some o → (ρ1 ++ ρ.drop A.length)[i]? = some L → A1[i]? = some o ∧ ρ1[i]? = some L := fun i o L hi a b => by
      rw [List.getElem?_append_left (by omega)] at a b
      exact ⟨a, b⟩
    have inB : ∀ (i : Nat) o L, ¬ i < A.length → (A1 ++ B)[i]? = some o → (ρ1 ++ ρ.drop A.length)[i]? = some L → (A ++ B)[i]? = some o ∧ ρ[i]? = some L ∧ B[i - A.length]? = some o ∧ (ρ.drop A.length)[i - A.length]? = some L := fun i o L hi a b => by
      rw [List.getElem?_append_right (by omega)] at a b
      rw [hlen] at a
      rw [hρ1] at b
      exact ⟨by rw [List.getElem?_append_right (by omega)]; exact a, by rw [List.getElem?_drop, show A.length + (i - A.length) = i by omega] at b; exact b, a, b⟩
    have cross : ∀ (i j : Nat) o o' L L', i < A.length → ¬ j < A.length → (A1 ++ B)[i]? = some o → (A1 ++ B)[j]? = some o' → o.live = true → o'.live = true → (ρ1 ++ ρ.drop A.length)[i]? = some L → (ρ1 ++ ρ.drop A.length)[j]? = some L' → L.blk = some b → L'.blk = some b → False := by
      intro i j o o' L L' hi hj a1 a2 m1 m2 a3 a4 c1 c2
      obtain ⟨x1, x2⟩ := inA i o L hi a1 a3
      obtain ⟨y1, y2, y3, y4⟩ := inB j o' L' hj a2 a4
      have hOBb : OB b := .inr ⟨j - A.length, o', L', y3, m2, y4, c2⟩
      rcases hR1.new b ⟨i, o, L, x1, m1, x2, c1⟩ with h' | h'
      · have : w.heap.size ≤ b := h'
        have := hfarB b hOBb
        omega
      · exact hapB b hOBb h'
    by_cases hi : i < A.length <;> by_cases hj : j < A.length
    · obtain ⟨x1, x2⟩ := inA i o L hi h1 h3
      obtain ⟨y1, y2⟩ := inA j o' L' hj h2 h4
      exact hR1.disj i j o o' L L' b hij x1 y1 l1 l2 x2 y2 b1 b2
    · exact cross i j o o' L L' hi hj h1 h2 l1 l2 h3 h4 b1 b2
    · exact cross j i o' o L' L hj hi h2 h1 l2 l1 h4 h3 b2 b1
    · obtain ⟨x1, x2, _⟩ := inB i o L hi h1 h3
      obtain ⟨y1, y2, _⟩ := inB j o' L' hj h2 h4
      exact hR.disj i j o o' L L' b hij x1 y1 l1 l2 x2 y2 b1 b2
  · have hna : ¬ Owned (ρ.take A.length) A b := fun h' => by
      rcases hR.new b (owned_left h') with h2 | h2
      · omega
      · exact hn h2
    exact (hheap b (Nat.lt_of_lt_of_le hb hR.size) hna).trans (hR.heap b hb hn)
  · rcases (hOw b).1 hb with hb | hb
    · rcases hR1.new b hb with h' | h'
      · exact .inl (Nat.le_trans hR.size h')
      · exact hR.new b (owned_left h')
    · exact hR.new b (owned_right hb)
  · have up : ∀ x v, RV w' (Ow (cx w (ρ.take A.length) A OB) ρ1 A1) ρ1 x v → RV w' (Ow C (ρ1 ++ ρ.drop A.length) (A1 ++ B)) (ρ1 ++ ρ.drop A.length) x v := fun x v hx => hx.mono hp1 (Compat.append _ _)
    cases out with
    | ret x => cases e with
      | returned v => exact up x v ho
      | panicked c => exact ho.elim
      | outgrown => exact ho.elim
    | pan x => cases e with
      | returned v => exact ho.elim
      | panicked c => obtain ⟨v, h1, h2⟩ := ho; exact ⟨v, h1, up x v h2⟩
      | outgrown => exact ho.elim
    | jmp j => exact ho.elim


/-! ### A box that is read alone from now on -/
theorem rel_freezeBox {ρ : List Loc} {w : World} (h : RelA C ρ ar w) {id : Nat} {e : TypeId} {cs : List AV} (hob : ar[id]? = some (.box e cs)) (hd : AV.datas cs = true) :
    RelA C ρ (ar.set id .gone) w ∧ (∀ b, Ow C ρ (ar.set id .gone) b → Ow C ρ ar b) ∧ ∀ off v, RV w (Ow C ρ ar) ρ (.ptr id 0 off) v → RV w (Ow C ρ (ar.set id .gone)) ρ (.loc cs off) v := by
  have hO : ∀ b, Owned ρ (ar.set id .gone) b → Owned ρ ar b := by
    rintro b ⟨i, o, L, h1, h2, h3, h4⟩
    by_cases hi : id = i
    · subst hi
      rw [List.getElem?_set_self (List.getElem?_eq_some_iff.1 hob).1] at h1
      cases h1
      simp [AO.live] at h2
    · rw [List.getElem?_set_ne hi] at h1
      exact ⟨i, o, L, h1, h2, h3, h4⟩
  have hO2 : ∀ b, Ow C ρ (ar.set id .gone) b → Ow C ρ ar b := fun b h' => h'.imp (fun z => z) (hO b)
  have hp : Pres w (Ow C ρ ar) w (Ow C ρ (ar.set id .gone)) := ⟨Nat.le_refl _, fun b _ hn => ⟨rfl, fun hn' => hn (hO2 b hn')⟩⟩
  refine ⟨⟨by simp [h.len], h.len0, ?_, ?_, h.far, fun b hb' hn => h.apart b hb' (hO b hn), h.size, h.os, h.tape, h.output, h.heap, fun b hb => h.new b (hO b hb), h.comp, fun p hp' => (h.defs p hp').mono hp (Compat.refl _)⟩, hO2, ?_⟩
  · intro i o L h1 h2
    by_cases hi : id = i
    · subst hi
      rw [List.getElem?_set_self (List.getElem?_eq_some_iff.1 hob).1] at h1
      cases h1
      trivial
    · rw [List.getElem?_set_ne hi] at h1
      exact (h.obj i o L h1 h2).mono hp (Compat.refl _) fun _ _ => rfl
  · intro i j o o' L L' b hij h1 h2 l1 l2 h3 h4 b1 b2
    have key : ∀ (i : Nat) o, (ar.set id .gone)[i]? = some o → o.live = true → ar[i]? = some o := by
      intro i o h1 hl
      by_cases hi : id = i
      · subst hi
        rw [List.getElem?_set_self (List.getElem?_eq_some_iff.1 hob).1] at h1
        cases h1
        simp [AO.live] at hl
      · rwa [List.getElem?_set_ne hi] at h1
    exact h.disj i j o o' L L' b hij (key i o h1 l1) (key j o' h2 l2) l1 l2 h3 h4 b1 b2
  · intro off v hv
    obtain ⟨L, e1, e2, e3, e4⟩ := rv_ptr hv
    obtain ⟨hL, b, vs, hLv, hh, hc1, hc2⟩ := h.obj id _ L hob e1
    obtain ⟨b', hb', e5⟩ := e4 hL.symm
    have hbb : b' = b := by simp [Loc.blk, hLv] at hb'; exact hb'.symm
    subst hbb
    subst e5
    have hadd : ∀ (j : Nat), (⟨b', off, none⟩ : Addr).add j = ⟨b', off + j, none⟩ := fun j => by unfold Addr.add; split <;> simp_all
    have hget : ∀ j y, cs[off + j]? = some y → vs.toList[off + j]? = some (vs.toList.getD (off + j) undef) := fun j y hy => by
      have hj : off + j < vs.toList.length := by rw [hc1]; exact (List.getElem?_eq_some_iff.1 hy).1
      simp [List.getD_eq_getElem?_getD, List.getElem?_eq_getElem hj]
    refine .loc (Array.getElem?_eq_some_iff.1 hh).1 ?_ (fun j => vs.toList.getD (off + j) undef) (fun j y hy => ⟨?_, (hc2 _ _ _ hy (hget j y hy)).2⟩) (fun j y hy => ?_)
    · rintro (hX | ⟨i, o, L2, a1, a2, a3, a4⟩)
      · exact h.apart _ hX ⟨id, _, L, hob, rfl, e1, hb'⟩
      · by_cases hi : id = i
        · subst hi
          rw [List.getElem?_set_self (List.getElem?_eq_some_iff.1 hob).1] at a1
          cases a1
          simp [AO.live] at a2
        · rw [List.getElem?_set_ne hi] at a1
          exact h.disj id i _ o L L2 b' hi hob a1 rfl a2 e1 a3 hb' a4
    · rw [hadd, cell_of_row w b' (off + j) vs e (0, 0) hh]
      simpa using hget j y hy
    · exact ((hc2 _ _ _ hy (hget j y hy)).1.data (datas_get hd hy) []).fewer hO2

/-- A pointer into such a box, read alone. -/
def thaw (id : Nat) (cs : List AV) : AV → AV
  | .ptr id' ver off => match Nat.beq id' id with
    | true => match ver with
      | 0 => .loc cs off
      | v + 1 => .ptr id' (v + 1) off
    | false => .ptr id' ver off
  | x => x

theorem run_freezeBox (id : Nat) {e : TypeId} {cs : List AV} (hob : nth ar id = some (.box e cs)) (har : setN ar id .gone = some ar') (hd : AV.datas cs = true) (h : Run P f n C (fun t => thaw id cs (τ t)) ar' todo Q) : Run P f n C τ ar todo Q := by
  intro b a w ρ cs' g1 g2 g3 g4 g5 g6
  obtain ⟨_, rfl⟩ := setN_spec _ _ _ _ har
  rw [nth_eq] at hob
  obtain ⟨r1, r2, r3⟩ := rel_freezeBox g5 hob hd
  refine h b a w ρ cs' g1 g2 g3 g4 r1 fun j => ?_
  have hj := g6 j
  revert hj
  dsimp only
  generalize τ j = x
  intro hj
  unfold thaw
  split
  · rename_i id' ver off
    split
    · rename_i hb
      have := Nat.eq_of_beq_eq_true hb
      subst this
      cases ver with
      | zero => exact r3 _ _ hj
      | succ v => exact hj.fewer r2
    · exact hj.fewer r2
  · exact hj.fewer r2

/-- A row, read alone. -/
def thawRow (id ver sz m : Nat) (r : Nat → List AV) : AV → AV
  | .row id' ver' => match Nat.beq id' id with
    | true => match Nat.beq ver' ver with
      | true => .slc sz none m r
      | false => .row id' ver'
    | false => .row id' ver'
  | x => x

/-- A row of data, from now on read alone, wherever it is held. -/
theorem run_freezeRow (id : Nat) {ver sz m : Nat} {e : TypeId} {r : Nat → List AV} (hob : nth ar id = some (.row e sz ver m r)) (har : setN ar id .gone = some ar')
    (hd : ∀ i, i < m → AV.datas (r i) = true) (h : Run P f n C (fun t => thawRow id ver sz m r (τ t)) ar' todo Q) : Run P f n C τ ar todo Q := by
  intro b a w ρ cs g1 g2 g3 g4 g5 g6
  obtain ⟨_, rfl⟩ := setN_spec _ _ _ _ har
  rw [nth_eq] at hob
  obtain ⟨r1, r2, r3⟩ := rel_freeze g5 hob hd
  refine h b a w ρ cs g1 g2 g3 g4 r1 fun j => ?_
  have hj := g6 j
  revert hj
  dsimp only
  generalize τ j = x
  intro hj
  unfold thawRow
  split
  · rename_i id' ver'
    split
    · rename_i hb
      split
      · rename_i hb2
        have h1 := Nat.eq_of_beq_eq_true hb
        have h2 := Nat.eq_of_beq_eq_true hb2
        subst h1
        subst h2
        exact r3 _ hj
      · exact hj.fewer r2
    · exact hj.fewer r2
  · exact hj.fewer r2

/-- A call that is lent the first objects. -/
theorem run_callF {i : Nat} {rest : List Nat} {o : Oper} {fo : Operand} {xs : Array Operand} {ts : Array TypeId} {g : FuncId} {caps as : List AV} {gn : Func} {gc : Code} [Fun P g gn gc] {fn : Func} {c : Code} [Fun P f fn c] {d : Nat} {r : AV}
    (A A' B : List AO) (har : ar = A ++ B) (ho : ops[i]? = some o) (hg : o.guard = none) (hop : o.op = .call { callee := .value fo, args := xs, argTypes := ts }) (hfo : evA τ fo = .fn (.func g) caps) (hdst : o.dst = some d) (hd : Nat.blt d n = true)
    (has : xs.toList.map (evA τ) ++ caps = as) (hu : AV.unders A.length as = true) (hk : Kept A.length A) (hA' : A'.length = A.length) (h : CallT P g as A (fun out A1 => out = .ret r ∧ A1 = A'))
    (hret : Run P f n C (upd τ d r) (A' ++ B) (.inRegion ops rest :: k) Q) : Run P f n C τ ar (.inRegion ops (i :: rest) :: k) Q := by
  subst har
  refine run_callRaw ho hg hop hfo (fun out ar' => out = .ret r ∧ ar' = A' ++ B) (fun w ρ vs hR hl hv => ?_) (fun x ar' hS => ?_) (fun d' hd' => ?_) (fun x ar' hS => ?_)
  · refine (callT_frame (C := C) (A := A) (B := B) (S := fun out A1 => out = .ret r ∧ A1 = A') (fun w ρ X vs a b c => (h w ρ X vs a b c).mono fun e w' hd => ?_) hu hk hR (by rw [hl, ← has]; simp) (by rw [← has]; exact hv)).mono ?_
    · obtain ⟨out, A1, ρ1, ⟨h1, rfl⟩, h2, h3⟩ := hd
      exact ⟨out, A1, ρ1, ⟨⟨h1, rfl⟩, hA'⟩, h2, h3⟩
    · rintro e w' ⟨out, A1, ρ', ⟨h1, rfl⟩, h2, h3, h4, h5⟩
      exact ⟨out, A1 ++ B, ρ', ⟨h1, rfl⟩, h2, h3, h4, h5⟩
  · obtain ⟨h1, rfl⟩ := hS
    cases h1
    rw [hdst]
    exact hret
  · rw [hdst] at hd'
    cases hd'
    exact hd
  · cases hS.1
end
end Go.Iron
