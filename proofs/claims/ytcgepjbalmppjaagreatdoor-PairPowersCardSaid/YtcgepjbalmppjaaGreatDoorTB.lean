/- Iron: calls that are lent the first of one's own objects. -/
import Derived.Test.YtcgepjbalmppjaaGreatDoorTA
import Derived.RangeFuncRecord
import Derived.MapKept
import Derived.Lib.ConvBytes
import Derived.Laws.BytesString
namespace Go.Iron
variable [Globs]
section
variable {P : Program} {f n : Nat} {C : Cx} {τ τ' : Nat → AV} {ar ar' A A' B : List AO} {k todo : List Item} {Q : Out → List AO → Prop} {ops : Array Oper}

omit [Globs] in
theorem owned_app {ρ : List Loc} {b : Nat} (h : Owned ρ (A ++ B) b) : Owned (ρ.take A.length) A b ∨ Owned (ρ.drop A.length) B b := by
  obtain ⟨i, o, L, h1, h2, h3, h4⟩ := h
  by_cases hi : i < A.length
  · rw [List.getElem?_append_left hi] at h1
    exact .inl ⟨i, o, L, h1, h2, by rw [List.getElem?_take, if_pos hi]; exact h3, h4⟩
  · rw [List.getElem?_append_right (by omega)] at h1
    exact .inr ⟨i - A.length, o, L, h1, h2, by rw [List.getElem?_drop, show A.length + (i - A.length) = i by omega]; exact h3, h4⟩
omit [Globs] in
theorem owned_left {ρ : List Loc} {b : Nat} (h : Owned (ρ.take A.length) A b) : Owned ρ (A ++ B) b := by
  obtain ⟨i, o, L, h1, h2, h3, h4⟩ := h
  have hi : i < A.length := (List.getElem?_eq_some_iff.1 h1).1
  rw [List.getElem?_take, if_pos hi] at h3
  exact ⟨i, o, L, by rw [List.getElem?_append_left hi]; exact h1, h2, h3, h4⟩
omit [Globs] in
theorem owned_right {ρ : List Loc} {b : Nat} (h : Owned (ρ.drop A.length) B b) : Owned ρ (A ++ B) b := by
  obtain ⟨i, o, L, h1, h2, h3, h4⟩ := h
  rw [List.getElem?_drop] at h3
  exact ⟨A.length + i, o, L, by rw [List.getElem?_append_right (by omega), show A.length + i - A.length = i by omega]; exact h1, h2, h3, h4⟩

theorem callT_frame {g : FuncId} {as : List AV} {S : Out → List AO → Prop} (h : CallT P g as A (fun out A' => S out A' ∧ A'.length = A.length)) (hu : AV.unders A.length as = true) (hk : Kept A.length A) {w : World} {ρ : List Loc} {vs : Array Value}
    (hR : RelA C ρ (A ++ B) w) (hl : vs.size = as.length) (hv : ∀ (j : Nat) x v, as[j]? = some x → vs[j]? = some v → RV w (Ow C ρ (A ++ B)) ρ x v) :
    Calls P g vs w fun e w' => ∃ out A' ρ', S out A' ∧ RelA C ρ' (A' ++ B) w' ∧ Compat ρ ρ' ∧ Pres w (Ow C ρ (A ++ B)) w' (Ow C ρ' (A' ++ B)) ∧ OutR w' (Ow C ρ' (A' ++ B)) ρ' out (.norm e) := by
  have hρ := hR.len
  rw [List.length_append] at hρ
  have hta : (ρ.take A.length).length = A.length := by rw [List.length_take]; omega
  let OB : Nat → Prop := fun b => C.X b ∨ Owned (ρ.drop A.length) B b
  have hO : ∀ b, Ow (cx w (ρ.take A.length) A OB) (ρ.take A.length) A b → Ow C ρ (A ++ B) b := fun b hb => by
    rcases hb with (hb | hb) | hb
    · exact .inl hb
    · exact .inr (owned_right hb)
    · exact .inr (owned_left hb)
  have hfarB : ∀ b, OB b → b < w.heap.size := fun b hb => by
    rcases hb with hb | hb
    · exact hR.far b hb
    · exact hR.lt (owned_right hb)
  have hapB : ∀ b, OB b → ¬ Owned (ρ.take A.length) A b := fun b hb ha => by
    rcases hb with hb | hb
    · exact hR.apart b hb (owned_left ha)
    · obtain ⟨i, o, L, h1, h2, h3, h4⟩ := ha
      obtain ⟨j, o', L', k1, k2, k3, k4⟩ := hb
      have hi : i < A.length := (List.getElem?_eq_some_iff.1 h1).1
      rw [List.getElem?_take, if_pos hi] at h3
      rw [List.getElem?_drop] at k3
      exact hR.disj i (A.length + j) o o' L L' b (by omega) (by rw [List.getElem?_append_left hi]; exact h1) (by rw [List.getElem?_append_right (by omega), show A.length + j - A.length = j by omega]; exact k1) h2 k2 h3 k3 h4 k4
  have hr0 : RelA (cx w (ρ.take A.length) A OB) (ρ.take A.length) A w := by
    refine ⟨hta, ⟨hta, hR.stands (fun b hb => hO b (.inl hb)) (fun b hb => hO b (.inr hb))⟩, fun i o L h1 h2 => ?_, fun i j o o' L L' b hij h1 h2 l1 l2 h3 h4 b1 b2 => ?_, hfarB, hapB, Nat.le_refl _, rfl, rfl, rfl, fun _ _ _ => rfl, fun b hb => .inr hb, Compat.refl _, fun p hp => by simp at hp⟩
    · have hi : i < A.length := (List.getElem?_eq_some_iff.1 h1).1
      rw [List.getElem?_take, if_pos hi] at h2
      have ho := hR.obj i o L (by rw [List.getElem?_append_left hi]; exact h1) h2
      have hko := hk.mem o (List.mem_of_getElem? h1)
      cases o with
      | gone => trivial
      | hole => exact ho
      | box e cs =>
        obtain ⟨h0, b, vs, a1, a2, a3⟩ := ho
        exact ⟨h0, b, vs, a1, a2, a3.take hO hko⟩
      | row e sz ver k r =>
        obtain ⟨h0, xs, a1, a2⟩ := ho
        exact ⟨h0, xs, a1, a2.take hO hko⟩
      | loop st pd f n τ ps asg body =>
        obtain ⟨h0, b, tmps, dd, a1, a2, a3, a4⟩ := ho
        exact ⟨h0, b, tmps, dd, a1, a2, a3, a4.kept hO hko⟩
      | fam e sz ver k ms rs =>
        obtain ⟨h0, vals, a1, a2, a3, a4⟩ := ho
        refine ⟨h0, vals, a1, a2, fun j v hj => ?_, a4⟩
        obtain ⟨xs, c1, c2⟩ := a3 j v hj
        exact ⟨xs, c1, c2.take hO fun i hi => hko j i (by rw [← a2]; exact (Array.getElem?_eq_some_iff.1 hj).1) hi⟩
      | dfr op => exact ho
      | iter _ _ => exact ho
      | map ver kk xs =>
        obtain ⟨h0, b, es, ck, a1, a2, a4, a3⟩ := ho
        exact ⟨h0, b, es, ck, a1, a2, a4, a3.take hO hko⟩
      | byt _ _ => exact ho
    · have hi : i < A.length := (List.getElem?_eq_some_iff.1 h1).1
      have hj : j < A.length := (List.getElem?_eq_some_iff.1 h2).1
      rw [List.getElem?_take, if_pos hi] at h3
      rw [List.getElem?_take, if_pos hj] at h4
      exact hR.disj i j o o' L L' b hij (by rw [List.getElem?_append_left hi]; exact h1) (by rw [List.getElem?_append_left hj]; exact h2) l1 l2 h3 h4 b1 b2
  refine (h w (ρ.take A.length) OB vs hr0 hl fun i x v hx hv' => (hv i x v hx hv').take hO (unders_get hu hx)).mono fun e w' hd => ?_
  obtain ⟨out, A1, ρ1, ⟨hS, hlen⟩, hR1, ho⟩ := hd
  have hρ1 : ρ1.length = A.length := hR1.len.trans hlen
  have hOw : ∀ b, Owned (ρ1 ++ ρ.drop A.length) (A1 ++ B) b ↔ Owned ρ1 A1 b ∨ Owned (ρ.drop A.length) B b := fun b => by
    have e1 : (ρ1 ++ ρ.drop A.length).take A1.length = ρ1 := by rw [hlen, ← hρ1]; exact List.take_left
    have e2 : (ρ1 ++ ρ.drop A.length).drop A1.length = ρ.drop A.length := by rw [hlen, ← hρ1]; exact List.drop_left
    constructor
    · intro hb
      rcases owned_app hb with hb | hb
      · rw [e1] at hb; exact .inl hb
      · rw [e2] at hb; exact .inr hb
    · rintro (hb | hb)
      · exact owned_left (by rw [e1]; exact hb)
      · exact owned_right (by rw [e2]; exact hb)
  have hOeq : ∀ b, Ow C (ρ1 ++ ρ.drop A.length) (A1 ++ B) b ↔ Ow (cx w (ρ.take A.length) A OB) ρ1 A1 b := fun b => by
    constructor
    · rintro (hb | hb)
      · exact .inl (.inl hb)
      · rcases (hOw b).1 hb with hb | hb
        · exact .inr hb
        · exact .inl (.inr hb)
    · rintro ((hb | hb) | hb)
      · exact .inl hb
      · exact .inr ((hOw b).2 (.inr hb))
      · exact .inr ((hOw b).2 (.inl hb))
  have hc : Compat ρ (ρ1 ++ ρ.drop A.length) := fun i L hL => by
    by_cases hi : i < A.length
    · obtain ⟨L', a1, a2⟩ := hR1.comp i L (by show (ρ.take A.length)[i]? = some L; rw [List.getElem?_take, if_pos hi]; exact hL)
      exact ⟨L', by rw [List.getElem?_append_left (by omega)]; exact a1, a2⟩
    · exact ⟨L, by rw [List.getElem?_append_right (by omega), List.getElem?_drop, show A.length + (i - ρ1.length) = i by omega]; exact hL, Nat.le_refl _, fun _ => rfl⟩
  have hheap : ∀ b, b < w.heap.size → ¬ Owned (ρ.take A.length) A b → w'.heap[b]? = w.heap[b]? := fun b h1 h2 => hR1.heap b h1 h2
  have hp : Pres w (Ow C ρ (A ++ B)) w' (Ow C (ρ1 ++ ρ.drop A.length) (A1 ++ B)) := ⟨hR1.size, fun b hb hn => ⟨hheap b hb (fun h' => hn (.inr (owned_left h'))), fun hn' => by
    rcases (hOeq b).1 hn' with (hb' | hb') | hb'
    · exact hn (.inl hb')
    · exact hn (.inr (owned_right hb'))
    · rcases hR1.new b hb' with h' | h'
      · have : w.heap.size ≤ b := h'
        omega
      · exact hn (.inr (owned_left h'))⟩⟩
  have hp1 : Pres w' (Ow (cx w (ρ.take A.length) A OB) ρ1 A1) w' (Ow C (ρ1 ++ ρ.drop A.length) (A1 ++ B)) := ⟨Nat.le_refl _, fun b _ hn => ⟨rfl, fun h' => hn ((hOeq b).1 h')⟩⟩
  refine ⟨out, A1, ρ1 ++ ρ.drop A.length, hS, ⟨by rw [List.length_append, List.length_append, hρ1, hlen, List.length_drop]; omega, hR.len0, fun i o L h1 h2 => ?_, fun i j o o' L L' b hij h1 h2 l1 l2 h3 h4 b1 b2 => ?_, fun b hb => Nat.lt_of_lt_of_le (hR.far b hb) hR1.size, fun b hb hn => ((hOw b).1 hn).elim (hR1.apart b (.inl hb)) (fun z => hR.apart b hb (owned_right z)), Nat.le_trans hR.size hR1.size,
    hR1.os.trans hR.os, hR1.tape.trans hR.tape, hR1.output.trans hR.output, fun b hb hn => ?_, fun b hb => ?_, hR.comp.trans hc, fun p hp' => (hR.defs p hp').mono hp hc⟩, hc, hp, ?_⟩
  · by_cases hi : i < A.length
    · rw [List.getElem?_append_left (by omega)] at h1 h2
      have ho := hR1.obj i o L h1 h2
      cases hl : o.live with
      | false => cases o <;> simp [AO.live] at hl <;> first | trivial | exact ho
      | true => exact ho.mono hp1 (Compat.append _ _) fun b hb => rfl
    · rw [List.getElem?_append_right (by omega)] at h1 h2
      rw [List.getElem?_drop] at h2
      rw [hlen] at h1
      rw [hρ1, show A.length + (i - A.length) = i by omega] at h2
      have ho := hR.obj i o L (by rw [List.getElem?_append_right (by omega)]; exact h1) h2
      cases hl : o.live with
      | false => cases o <;> simp [AO.live] at hl <;> first | trivial | exact ho
      | true => exact ho.mono hp hc fun b hb => hheap b (ho.lt hl hb) fun h' => hapB b (.inr ⟨i - A.length, o, L, h1, hl, by rw [List.getElem?_drop, show A.length + (i - A.length) = i by omega]; exact h2, hb⟩) h'
  · have inA : ∀ (i : Nat) o L, i < A.length → (A1 ++ B)[i]? = some o → (ρ1 ++ ρ.drop A.length)[i]? = some L → A1[i]? = some o ∧ ρ1[i]? = some L := fun i o L hi a b => by
      rw [List.getElem?_append_left (by omega)] at a b
      exact ⟨a, b⟩
    have inB : ∀ (i : Nat) o L, ¬ i < A.length → (A1 ++ B)[i]? = some o → (ρ1 ++ ρ.drop A.length)[i]? = some L → (A ++ B)[i]? = some o ∧ ρ[i]? = some L ∧ B[i - A.length]? = some o ∧ (ρ.drop A.length)[i - A.length]? = some L := fun i o L hi a b => by
      rw [List.getElem?_append_right (by omega)] at a b
      rw [hlen] at a
      rw [hρ1] at b
      exact ⟨by rw [List.getElem?_append_right (by omega)]; exact a, by rw [List.getElem?_drop, show A.length + (i - A.length) = i by omega] at b; exact b, a, b⟩
    have cross : ∀ (i j : Nat) o o' L L', i < A.length → ¬ j < A.length → (A1 ++ B)[i]? = some o → (A1 ++ B)[j]? = some o' → o.live = true → o'.live = true → (ρ1 ++ ρ.drop A.length)[i]? = some L → (ρ1 ++ ρ.drop A.length)[j]? = some L' → L.has b → L'.has b → False := by
      intro i j o o' L L' hi hj a1 a2 m1 m2 a3 a4 c1 c2
      obtain ⟨x1, x2⟩ := inA i o L hi a1 a3
      obtain ⟨y1, y2, y3, y4⟩ := inB j o' L' hj a2 a4
      have hOBb : OB b := .inr ⟨j - A.length, o', L', y3, m2, y4, c2⟩
      rcases hR1.new b ⟨i, o, L, x1, m1, x2, c1⟩ with h' | h'
      · have : w.heap.size ≤ b := h'
        have := hfarB b hOBb
        omega
      · exact hapB b hOBb h'
    by_cases hi : i < A.length <;> by_cases hj : j < A.length
    · obtain ⟨x1, x2⟩ := inA i o L hi h1 h3
      obtain ⟨y1, y2⟩ := inA j o' L' hj h2 h4
      exact hR1.disj i j o o' L L' b hij x1 y1 l1 l2 x2 y2 b1 b2
    · exact cross i j o o' L L' hi hj h1 h2 l1 l2 h3 h4 b1 b2
    · exact cross j i o' o L' L hj hi h2 h1 l2 l1 h4 h3 b2 b1
    · obtain ⟨x1, x2, _⟩ := inB i o L hi h1 h3
      obtain ⟨y1, y2, _⟩ := inB j o' L' hj h2 h4
      exact hR.disj i j o o' L L' b hij x1 y1 l1 l2 x2 y2 b1 b2
  · have hna : ¬ Owned (ρ.take A.length) A b := fun h' => by
      rcases hR.new b (owned_left h') with h2 | h2
      · omega
      · exact hn h2
    exact (hheap b (Nat.lt_of_lt_of_le hb hR.size) hna).trans (hR.heap b hb hn)
  · rcases (hOw b).1 hb with hb | hb
    · rcases hR1.new b hb with h' | h'
      · exact .inl (Nat.le_trans hR.size h')
      · exact hR.new b (owned_left h')
    · exact hR.new b (owned_right hb)
  · have up : ∀ x v, RV w' (Ow (cx w (ρ.take A.length) A OB) ρ1 A1) ρ1 x v → RV w' (Ow C (ρ1 ++ ρ.drop A.length) (A1 ++ B)) (ρ1 ++ ρ.drop A.length) x v := fun x v hx => hx.mono hp1 (Compat.append _ _)
    cases out with
    | ret x => cases e with
      | returned v => exact up x v ho
      | panicked c => exact ho.elim
      | outgrown => exact ho.elim
    | pan x => cases e with
      | returned v => exact ho.elim
      | panicked c => obtain ⟨v, h1, h2⟩ := ho; exact ⟨v, h1, up x v h2⟩
      | outgrown => exact ho.elim
    | jmp j => exact ho.elim


/-! ### A box that is read alone from now on -/
theorem rel_freezeBox {ρ : List Loc} {w : World} (h : RelA C ρ ar w) {id : Nat} {e : TypeId} {cs : List AV} (hob : ar[id]? = some (.box e cs)) (hd : AV.datas cs = true) :
    RelA C ρ (ar.set id .gone) w ∧ (∀ b, Ow C ρ (ar.set id .gone) b → Ow C ρ ar b) ∧ ∀ off v, RV w (Ow C ρ ar) ρ (.ptr id 0 off) v → RV w (Ow C ρ (ar.set id .gone)) ρ (.loc cs off) v := by
  have hO : ∀ b, Owned ρ (ar.set id .gone) b → Owned ρ ar b := by
    rintro b ⟨i, o, L, h1, h2, h3, h4⟩
    by_cases hi : id = i
    · subst hi
      rw [List.getElem?_set_self (List.getElem?_eq_some_iff.1 hob).1] at h1
      cases h1
      simp [AO.live] at h2
    · rw [List.getElem?_set_ne hi] at h1
      exact ⟨i, o, L, h1, h2, h3, h4⟩
  have hO2 : ∀ b, Ow C ρ (ar.set id .gone) b → Ow C ρ ar b := fun b h' => h'.imp (fun z => z) (hO b)
  have hp : Pres w (Ow C ρ ar) w (Ow C ρ (ar.set id .gone)) := ⟨Nat.le_refl _, fun b _ hn => ⟨rfl, fun hn' => hn (hO2 b hn')⟩⟩
  refine ⟨⟨by simp [h.len], h.len0, ?_, ?_, h.far, fun b hb' hn => h.apart b hb' (hO b hn), h.size, h.os, h.tape, h.output, h.heap, fun b hb => h.new b (hO b hb), h.comp, fun p hp' => (h.defs p hp').mono hp (Compat.refl _)⟩, hO2, ?_⟩
  · intro i o L h1 h2
    by_cases hi : id = i
    · subst hi
      rw [List.getElem?_set_self (List.getElem?_eq_some_iff.1 hob).1] at h1
      cases h1
      trivial
    · rw [List.getElem?_set_ne hi] at h1
      exact (h.obj i o L h1 h2).mono hp (Compat.refl _) fun _ _ => rfl
  · intro i j o o' L L' b hij h1 h2 l1 l2 h3 h4 b1 b2
    have key : ∀ (i : Nat) o, (ar.set id .gone)[i]? = some o → o.live = true → ar[i]? = some o := by
      intro i o h1 hl
      by_cases hi : id = i
      · subst hi
        rw [List.getElem?_set_self (List.getElem?_eq_some_iff.1 hob).1] at h1
        cases h1
        simp [AO.live] at hl
      · rwa [List.getElem?_set_ne hi] at h1
    exact h.disj i j o o' L L' b hij (key i o h1 l1) (key j o' h2 l2) l1 l2 h3 h4 b1 b2
  · intro off v hv
    obtain ⟨L, e1, e2, e3, e4⟩ := rv_ptr hv
    obtain ⟨hL, b, vs, hLv, hh, hc1, hc2⟩ := h.obj id _ L hob e1
    obtain ⟨b', hb', e5⟩ := e4 hL.symm
    have hbb : b' = b := by simp [Loc.blk, hLv] at hb'; exact hb'.symm
    subst hbb
    subst e5
    have hadd : ∀ (j : Nat), (⟨b', off, none⟩ : Addr).add j = ⟨b', off + j, none⟩ := fun j => by unfold Addr.add; split <;> simp_all
    have hget : ∀ j y, cs[off + j]? = some y → vs.toList[off + j]? = some (vs.toList.getD (off + j) undef) := fun j y hy => by
      have hj : off + j < vs.toList.length := by rw [hc1]; exact (List.getElem?_eq_some_iff.1 hy).1
      simp [List.getD_eq_getElem?_getD, List.getElem?_eq_getElem hj]
    refine .loc (Array.getElem?_eq_some_iff.1 hh).1 ?_ (fun j => vs.toList.getD (off + j) undef) (fun j y hy => ⟨?_, (hc2 _ _ _ hy (hget j y hy)).2⟩) (fun j y hy => ?_)
    · rintro (hX | ⟨i, o, L2, a1, a2, a3, a4⟩)
      · exact h.apart _ hX ⟨id, _, L, hob, rfl, e1, .inl hb'⟩
      · by_cases hi : id = i
        · subst hi
          rw [List.getElem?_set_self (List.getElem?_eq_some_iff.1 hob).1] at a1
          cases a1
          simp [AO.live] at a2
        · rw [List.getElem?_set_ne hi] at a1
          exact h.disj id i _ o L L2 b' hi hob a1 rfl a2 e1 a3 (.inl hb') a4
    · rw [hadd, cell_of_row w b' (off + j) vs e (0, 0) hh]
      simpa using hget j y hy
    · exact ((hc2 _ _ _ hy (hget j y hy)).1.data (datas_get hd hy) []).fewer hO2

def thaw1 (id : Nat) (cs : List AV) : AV → AV
  | .ptr id' ver off => match Nat.beq id' id with
    | true => match ver with
      | 0 => .loc cs off
      | v + 1 => .ptr id' (v + 1) off
    | false => .ptr id' ver off
  | x => x
def mapA (g : AV → AV) : List AV → List AV
  | [] => []
  | x :: l => g x :: mapA g l
omit [Globs] in
theorem mapA_get {g : AV → AV} : ∀ {l : List AV} {i : Nat} {y : AV}, (mapA g l)[i]? = some y → ∃ x, l[i]? = some x ∧ y = g x
  | [], i, y, h => by simp [mapA] at h
  | x :: l, 0, y, h => by simp [mapA] at h; exact ⟨x, rfl, h.symm⟩
  | x :: l, i + 1, y, h => by simp [mapA] at h; obtain ⟨z, h1, h2⟩ := mapA_get h; exact ⟨z, by simpa using h1, h2⟩
omit [Globs] in
theorem mapA_len {g : AV → AV} (l : List AV) : (mapA g l).length = l.length := by induction l <;> simp [mapA, *]
def thawN (id : Nat) (cs : List AV) : Nat → AV → AV
  | 0, x => thaw1 id cs x
  | n + 1, .fn f l => .fn f (mapA (thawN id cs n) l)
  | n + 1, x => thaw1 id cs x
def thaw (id : Nat) (cs : List AV) (x : AV) : AV := thawN id cs 3 x
omit [Globs] in
theorem thaw1_ok {w : World} {O O' : Nat → Prop} {ρ : List Loc} {id : Nat} {cs : List AV} (r2 : ∀ b, O' b → O b) (r3 : ∀ off v, RV w O ρ (.ptr id 0 off) v → RV w O' ρ (.loc cs off) v) {x : AV} {v : Value} (hj : RV w O ρ x v) : RV w O' ρ (thaw1 id cs x) v := by
  unfold thaw1
  split
  · rename_i id' ver off
    split
    · rename_i hb
      have := Nat.eq_of_beq_eq_true hb
      subst this
      cases ver with
      | zero => exact r3 _ _ hj
      | succ v => exact hj.fewer r2
    · exact hj.fewer r2
  · exact hj.fewer r2
omit [Globs] in
theorem thaw_ok {w : World} {O O' : Nat → Prop} {ρ : List Loc} {id : Nat} {cs : List AV} (r2 : ∀ b, O' b → O b) (r3 : ∀ off v, RV w O ρ (.ptr id 0 off) v → RV w O' ρ (.loc cs off) v) : ∀ (n : Nat) {x : AV} {v : Value}, RV w O ρ x v → RV w O' ρ (thawN id cs n x) v
  | 0, x, v, hj => thaw1_ok r2 r3 hj
  | n + 1, x, v, hj => by
    cases x with
    | fn f l =>
      obtain ⟨vs, rfl, h1, h2⟩ := rv_fn hj
      refine .fn (by rw [mapA_len]; exact h1) fun i y u hy hu => ?_
      obtain ⟨z, hz, rfl⟩ := mapA_get hy
      exact thaw_ok r2 r3 n (h2 i z u hz hu)
    | _ => exact thaw1_ok r2 r3 hj

end
end Go.Iron

/- Iron: several frames at once: calls that are gone into, rounds of ranges, what is put off, panics. -/
namespace Go.Iron

variable [Globs]
inductive L2 {α β : Type} (R : α → β → Prop) : List α → List β → Prop
  | nil : L2 R [] []
  | cons {a b l m} : R a b → L2 R l m → L2 R (a :: l) (b :: m)
omit [Globs] in
theorem L2.mono {α β : Type} {R R' : α → β → Prop} {l : List α} {m : List β} (h : L2 R l m) (hr : ∀ a b, R a b → R' a b) : L2 R' l m := by
  induction h with
  | nil => exact .nil
  | cons h1 _ ih => exact .cons (hr _ _ h1) ih
omit [Globs] in
theorem l2_cons {α β : Type} {R : α → β → Prop} {a : α} {l : List α} {m : List β} (h : L2 R (a :: l) m) : ∃ b m', m = b :: m' ∧ R a b ∧ L2 R l m' := by
  cases h with
  | cons h1 h2 => exact ⟨_, _, rfl, h1, h2⟩
omit [Globs] in
theorem l2_nil {α β : Type} {R : α → β → Prop} {m : List β} (h : L2 R [] m) : m = [] := by cases h; rfl
omit [Globs] in
theorem l2_app {α β : Type} {R : α → β → Prop} : ∀ {l l' : List α} {m : List β}, L2 R (l ++ l') m → ∃ m1 m2, m = m1 ++ m2 ∧ L2 R l m1 ∧ L2 R l' m2
  | [], l', m, h => ⟨[], m, rfl, .nil, h⟩
  | a :: l, l', m, h => by
    obtain ⟨b, m', rfl, h1, h2⟩ := l2_cons h
    obtain ⟨m1, m2, rfl, h3, h4⟩ := l2_app h2
    exact ⟨b :: m1, m2, rfl, .cons h1 h3, h4⟩
omit [Globs] in
theorem L2.app {α β : Type} {R : α → β → Prop} {l l' : List α} {m m' : List β} (h : L2 R l m) (h' : L2 R l' m') : L2 R (l ++ l') (m ++ m') := by
  induction h with
  | nil => exact h'
  | cons h1 _ ih => exact .cons h1 ih

structure AF where
  f : FuncId
  n : Nat
  τ : Nat → AV
  todo : List Item
  rd : Option Nat
  D : List AV
  kind : CallKind
  mode : FrameMode

def RefR (ρ : List Loc) (i l : Nat) : Prop := ∃ L, ρ[i]? = some L ∧ (L.ver = 0 → L.v = .pointer (some ⟨l, 0, none⟩))
omit [Globs] in
theorem RefR.mono {ρ ρ' : List Loc} {i l : Nat} (h : RefR ρ i l) (hc : Compat ρ ρ') : RefR ρ' i l := by
  obtain ⟨L, h1, h2⟩ := h
  obtain ⟨L', e1, e2, e3⟩ := hc _ _ h1
  exact ⟨L', e1, fun e => by rw [e3 (by omega), h2 (by omega)]⟩

inductive ItemR (ρ : List Loc) : Item → Item → Prop
  | code {c} : ItemR ρ (.code c) (.code c)
  | inBlock {c} : ItemR ρ (.inBlock c) (.inBlock c)
  | inLoop {c} : ItemR ρ (.inLoop c) (.inLoop c)
  | inScope {c} : ItemR ρ (.inScope c) (.inScope c)
  | inRegion {a b} : ItemR ρ (.inRegion a b) (.inRegion a b)
  | beginRound : ItemR ρ .beginRound .beginRound
  | inRF {i l} : RefR ρ i l → ItemR ρ (.inRangeFunc i) (.inRangeFunc l)
  | endRF {i l} : RefR ρ i l → ItemR ρ (.endRangeFunc i) (.endRangeFunc l)
omit [Globs] in
theorem ItemR.mono {ρ ρ' : List Loc} (hc : Compat ρ ρ') {x y : Item} (h : ItemR ρ x y) : ItemR ρ' x y := by
  cases h with
  | inRF h => exact .inRF (h.mono hc)
  | endRF h => exact .endRF (h.mono hc)
  | code => exact .code
  | inBlock => exact .inBlock
  | inLoop => exact .inLoop
  | inScope => exact .inScope
  | inRegion => exact .inRegion
  | beginRound => exact .beginRound

omit [Globs] in
theorem exitTo_rel {ρ : List Loc} {id : Nat} {k k' : List Item} (h : L2 (ItemR ρ) k k') : (exitTo id k = none → exitTo id k' = none) ∧ ∀ r, exitTo id k = some r → ∃ r', exitTo id k' = some r' ∧ L2 (ItemR ρ) r r' := by
  induction h with
  | nil => exact ⟨fun h => h, fun r h => by simp [exitTo] at h⟩
  | @cons a b l m h1 h2 ih =>
    cases h1 with
    | @inBlock c =>
      simp only [exitTo]
      cases hc : c == id with
      | true => exact ⟨fun h => by simp at h, fun r h => by simp at h; subst h; exact ⟨_, by simp, h2⟩⟩
      | false => simpa using ih
    | _ => simpa only [exitTo] using ih

inductive RdR (ρ : List Loc) : Option Nat → Option Nat → Prop
  | none : RdR ρ none none
  | some {i l} : RefR ρ i l → RdR ρ (some i) (some l)
omit [Globs] in
theorem RdR.mono {ρ ρ' : List Loc} (hc : Compat ρ ρ') {x y : Option Nat} (h : RdR ρ x y) : RdR ρ' x y := by
  cases h with
  | none => exact .none
  | some h => exact .some (h.mono hc)

inductive DR (w : World) (O : Nat → Prop) (ρ : List Loc) : AV → Deferred → Prop
  | fn {g l} {vs cvs : Array Value} : l.length = (vs ++ cvs).size → (∀ (i : Nat) x v, l[i]? = some x → (vs ++ cvs)[i]? = some v → RV w O ρ x v) → DR w O ρ (.fn g l) { target := .fn g cvs, args := vs }
  | col {i r} : RefR ρ i r → DR w O ρ (.yld i) { target := .collected r, args := #[] }
omit [Globs] in
theorem DR.mono {w w' : World} {O O' : Nat → Prop} (hp : Pres w O w' O') {ρ ρ' : List Loc} (hc : Compat ρ ρ') {x : AV} {d : Deferred} (h : DR w O ρ x d) : DR w' O' ρ' x d := by
  cases h with
  | fn h1 h2 => exact .fn h1 fun i x v a b => (h2 i x v a b).mono hp hc
  | col h => exact .col (h.mono hc)

structure FrR (w : World) (O : Nat → Prop) (ρ : List Loc) (A : AF) (fr : Frame) : Prop where
  fn : fr.fn = A.f
  size : fr.tmps.size = A.n
  slots : Slots w O ρ A.τ fr.tmps
  todo : L2 (ItemR ρ) A.todo fr.todo
  rd : RdR ρ A.rd fr.roundOf
  defs : L2 (DR w O ρ) A.D fr.defers
  kind : fr.kind = A.kind
  mode : fr.mode = A.mode
omit [Globs] in
theorem FrR.mono {w w' : World} {O O' : Nat → Prop} (hp : Pres w O w' O') {ρ ρ' : List Loc} (hc : Compat ρ ρ') {A : AF} {fr : Frame} (h : FrR w O ρ A fr) : FrR w' O' ρ' A fr :=
  ⟨h.fn, h.size, h.slots.mono hp hc, h.todo.mono fun _ _ => ItemR.mono hc, h.rd.mono hc, h.defs.mono fun _ _ => DR.mono hp hc, h.kind, h.mode⟩

def loneS : List Frame → List Frame → World → Machine
  | [], cs, w => lone default cs w
  | fr :: fs, cs, w => lone fr (fs ++ cs) w
omit [Globs] in
theorem loneS_app {ts fs cs : List Frame} {w : World} (h : ts ≠ []) : loneS (ts ++ fs) cs w = loneS ts (fs ++ cs) w := by
  cases ts with
  | nil => exact absurd rfl h
  | cons t ts => simp [loneS]

def RunS (P : Program) (f0 : FuncId) (C : Cx) (S : List AF) (ar : List AO) (Q : Out → List AO → Prop) : Prop :=
  ∀ (fs cs : List Frame) (w : World) (ρ : List Loc), L2 (FrR w (Ow C ρ ar) ρ) S fs → RelA C ρ ar w →
    ∃ e w' fr, Steps P (loneS fs cs w) (lone fr cs w') ∧ fr.fn = f0 ∧ fr.leaving P w' e ∧ Done C Q (.norm e) w'

def SimT (P : Program) (C : Cx) (T : List AF) (ar : List AO) (T' : List AF) (ar' : List AO) : Prop :=
  ∀ (ts : List Frame) (w : World) (ρ : List Loc) (cs : List Frame), L2 (FrR w (Ow C ρ ar) ρ) T ts → RelA C ρ ar w →
    ∃ ts' w' ρ', Steps P (loneS ts cs w) (loneS ts' cs w') ∧ L2 (FrR w' (Ow C ρ' ar') ρ') T' ts' ∧ RelA C ρ' ar' w' ∧ Compat ρ ρ' ∧ Pres w (Ow C ρ ar) w' (Ow C ρ' ar')

section
variable {P : Program} {f0 : FuncId} {C : Cx} {T T' T2 S S' : List AF} {ar ar' ar2 : List AO} {Q : Out → List AO → Prop} {ops : Array Oper}

theorem SimT.refl : SimT P C T ar T ar := fun ts w ρ cs h hR => ⟨ts, w, ρ, .refl _ _, h, hR, Compat.refl _, Pres.refl _ _⟩
theorem SimT.trans (h : SimT P C T ar T' ar') (h' : SimT P C T' ar' T2 ar2) : SimT P C T ar T2 ar2 := fun ts w ρ cs hts hR => by
  obtain ⟨t1, w1, ρ1, s1, a1, b1, c1, d1⟩ := h ts w ρ cs hts hR
  obtain ⟨t2, w2, ρ2, s2, a2, b2, c2, d2⟩ := h' t1 w1 ρ1 cs a1 b1
  exact ⟨t2, w2, ρ2, s1.trans s2, a2, b2, c1.trans c2, d1.trans d2⟩

theorem runS_sim {A A' : AF} (h : SimT P C (A :: T) ar (A' :: T') ar') (hr : RunS P f0 C (A' :: T' ++ S) ar' Q) : RunS P f0 C (A :: T ++ S) ar Q := by
  intro fs cs w ρ hfs hR
  obtain ⟨ts, ss, rfl, h1, h2⟩ := l2_app (l := A :: T) hfs
  obtain ⟨ts', w', ρ', s1, a1, b1, c1, d1⟩ := h ts w ρ (ss ++ cs) h1 hR
  have e1 : ts ≠ [] := by obtain ⟨b, m, rfl, _⟩ := l2_cons h1; simp
  have e2 : ts' ≠ [] := by obtain ⟨b, m, rfl, _⟩ := l2_cons a1; simp
  obtain ⟨e, w2, fr, s2, r⟩ := hr (ts' ++ ss) cs w' ρ' (a1.app (h2.mono fun _ _ hf => hf.mono d1 c1)) b1
  rw [loneS_app e2] at s2
  rw [loneS_app e1]
  exact ⟨e, w2, fr, s1.trans s2, r⟩

omit [Globs] in
theorem atR_self {fr : Frame} (h : fr.mode = .run) : fr.atR ⟨fr.tmps, fr.defers⟩ fr.todo = fr := by
  cases fr
  simp only at h
  subst h
  rfl

variable {f n : Nat} {τ : Nat → AV} {rd : Option Nat} {D : List AV} {kd : CallKind} {k : List Item}

theorem sim_ctl {t1 t2 : List Item} (h : ∀ ρ k1, L2 (ItemR ρ) t1 k1 → ∃ k2, L2 (ItemR ρ) t2 k2 ∧ ∀ (b : Frame) (a : Act) (cs : List Frame) (w : World), step P (lone (b.atR a k1) cs w) = .next (lone (b.atR a k2) cs w)) :
    SimT P C [⟨f, n, τ, t1, rd, D, kd, .run⟩] ar [⟨f, n, τ, t2, rd, D, kd, .run⟩] ar := by
  intro ts w ρ cs hts hR
  obtain ⟨fr, m, rfl, hf, hn⟩ := l2_cons hts
  cases hn
  obtain ⟨k2, h1, h2⟩ := h ρ fr.todo hf.todo
  refine ⟨[fr.atR ⟨fr.tmps, fr.defers⟩ k2], w, ρ, Steps.one ?_, .cons ⟨hf.fn, hf.size, hf.slots, h1, hf.rd, hf.defs, hf.kind, rfl⟩ .nil, hR, Compat.refl _, Pres.refl _ _⟩
  have := h2 fr ⟨fr.tmps, fr.defers⟩ cs w
  rw [atR_self hf.mode] at this
  exact this

theorem ctl_one {x : Item} {t2 : List Item} (hx : ∀ ρ y, ItemR ρ x y → y = x) (h : ∀ ρ k', L2 (ItemR ρ) k k' → ∃ k2, L2 (ItemR ρ) t2 k2 ∧ ∀ (b : Frame) (a : Act) (cs : List Frame) (w : World), step P (lone (b.atR a (x :: k')) cs w) = .next (lone (b.atR a k2) cs w)) :
    SimT P C [⟨f, n, τ, x :: k, rd, D, kd, .run⟩] ar [⟨f, n, τ, t2, rd, D, kd, .run⟩] ar :=
  sim_ctl fun ρ k1 hk => by
    obtain ⟨y, k', rfl, h1, h2⟩ := l2_cons hk
    rw [hx ρ y h1]
    exact h ρ k' h2

omit [Globs] in
theorem itemR_code {ρ : List Loc} {c : Code} {y : Item} (h : ItemR ρ (.code c) y) : y = .code c := by cases h; rfl

theorem sim_skip : SimT P C [⟨f, n, τ, .code .skip :: k, rd, D, kd, .run⟩] ar [⟨f, n, τ, k, rd, D, kd, .run⟩] ar :=
  ctl_one (fun _ _ => itemR_code) fun ρ k' hk => ⟨k', hk, fun _ _ _ _ => stepR_skip⟩
theorem sim_label {l : Nat} : SimT P C [⟨f, n, τ, .code (.label l) :: k, rd, D, kd, .run⟩] ar [⟨f, n, τ, k, rd, D, kd, .run⟩] ar :=
  ctl_one (fun _ _ => itemR_code) fun ρ k' hk => ⟨k', hk, fun _ _ _ _ => stepR_label⟩
theorem sim_inBlock {l : Nat} : SimT P C [⟨f, n, τ, .inBlock l :: k, rd, D, kd, .run⟩] ar [⟨f, n, τ, k, rd, D, kd, .run⟩] ar :=
  ctl_one (fun _ _ h => by cases h; rfl) fun ρ k' hk => ⟨k', hk, fun _ _ _ _ => stepR_inBlock⟩
theorem sim_inScope {c : Code} : SimT P C [⟨f, n, τ, .inScope c :: k, rd, D, kd, .run⟩] ar [⟨f, n, τ, k, rd, D, kd, .run⟩] ar :=
  ctl_one (fun _ _ h => by cases h; rfl) fun ρ k' hk => ⟨k', hk, fun _ _ _ _ => step_lone_go (by simp [stepG, stepG.exec, Frame.atR])⟩
theorem sim_scope {c : Code} : SimT P C [⟨f, n, τ, .code (.scope c) :: k, rd, D, kd, .run⟩] ar [⟨f, n, τ, .code c :: .inScope c :: k, rd, D, kd, .run⟩] ar :=
  ctl_one (fun _ _ => itemR_code) fun ρ k' hk => ⟨_, .cons .code (.cons .inScope hk), fun _ _ _ _ => step_lone_go (by simp [stepG, stepG.exec, Frame.atR])⟩
theorem sim_seq {x y : Code} : SimT P C [⟨f, n, τ, .code (.seq x y) :: k, rd, D, kd, .run⟩] ar [⟨f, n, τ, .code x :: .code y :: k, rd, D, kd, .run⟩] ar :=
  ctl_one (fun _ _ => itemR_code) fun ρ k' hk => ⟨_, .cons .code (.cons .code hk), fun _ _ _ _ => stepR_seq⟩
theorem sim_block {id : Nat} {c : Code} : SimT P C [⟨f, n, τ, .code (.block id c) :: k, rd, D, kd, .run⟩] ar [⟨f, n, τ, .code c :: .inBlock id :: k, rd, D, kd, .run⟩] ar :=
  ctl_one (fun _ _ => itemR_code) fun ρ k' hk => ⟨_, .cons .code (.cons .inBlock hk), fun _ _ _ _ => stepR_block⟩
theorem sim_loop {c : Code} : SimT P C [⟨f, n, τ, .code (.loop c) :: k, rd, D, kd, .run⟩] ar [⟨f, n, τ, .code c :: .inLoop c :: k, rd, D, kd, .run⟩] ar :=
  ctl_one (fun _ _ => itemR_code) fun ρ k' hk => ⟨_, .cons .code (.cons .inLoop hk), fun _ _ _ _ => stepR_loop⟩
theorem sim_inLoop {c : Code} : SimT P C [⟨f, n, τ, .inLoop c :: k, rd, D, kd, .run⟩] ar [⟨f, n, τ, .code c :: .inLoop c :: k, rd, D, kd, .run⟩] ar :=
  ctl_one (fun _ _ h => by cases h; rfl) fun ρ k' hk => ⟨_, .cons .code (.cons .inLoop hk), fun _ _ _ _ => stepR_inLoop⟩
theorem sim_exit {id : Nat} {k2 : List Item} (he : exitTo id k = some k2) : SimT P C [⟨f, n, τ, .code (.exit id) :: k, rd, D, kd, .run⟩] ar [⟨f, n, τ, k2, rd, D, kd, .run⟩] ar :=
  ctl_one (fun _ _ => itemR_code) fun ρ k' hk => by
    obtain ⟨r', h1, h2⟩ := (exitTo_rel hk).2 _ he
    exact ⟨r', h2, fun _ _ _ _ => stepR_exit h1⟩
theorem sim_region {id : Nat} : SimT P C [⟨f, n, τ, .code (.region id ops false) :: k, rd, D, kd, .run⟩] ar [⟨f, n, τ, .inRegion ops (List.range ops.size) :: k, rd, D, kd, .run⟩] ar :=
  ctl_one (fun _ _ => itemR_code) fun ρ k' hk => ⟨_, .cons .inRegion hk, fun _ _ _ _ => stepR_region⟩
theorem sim_regionEnd : SimT P C [⟨f, n, τ, .inRegion ops [] :: k, rd, D, kd, .run⟩] ar [⟨f, n, τ, k, rd, D, kd, .run⟩] ar :=
  ctl_one (fun _ _ h => by cases h; rfl) fun ρ k' hk => ⟨k', hk, fun _ _ _ _ => stepR_region_end⟩

theorem sim_cond {c : Operand} {x y : Code} {t : Bool} (hc : evA τ c = .val (.bool t)) :
    SimT P C [⟨f, n, τ, .code (.cond c x y) :: k, rd, D, kd, .run⟩] ar [⟨f, n, τ, .code (if t then x else y) :: k, rd, D, kd, .run⟩] ar := by
  intro ts w ρ cs hts hR
  obtain ⟨fr, m, rfl, hf, hn⟩ := l2_cons hts
  cases hn
  obtain ⟨y', k', h0, h1, h2⟩ := l2_cons hf.todo
  cases itemR_code h1
  have hv : (⟨fr.tmps, fr.defers⟩ : Act).eval c = .bool t := by have := evA_ok (τ := τ) (a := ⟨fr.tmps, fr.defers⟩) hf.slots c; rw [hc] at this; exact rv_val this
  refine ⟨[fr.atR ⟨fr.tmps, fr.defers⟩ (.code (if t then x else y) :: k')], w, ρ, Steps.one ?_, .cons ⟨hf.fn, hf.size, hf.slots, .cons .code h2, hf.rd, hf.defs, hf.kind, rfl⟩ .nil, hR, Compat.refl _, Pres.refl _ _⟩
  have := stepR_cond (P := P) (b := fr) (k := k') (cs := cs) (w := w) (x := x) (y := y) hv
  rw [← h0, atR_self hf.mode] at this
  exact this

omit [Globs] in
theorem top_op {w : World} {O : Nat → Prop} {ρ : List Loc} {fr : Frame} {i : Nat} {rest : List Nat} {md : FrameMode} (hf : FrR w O ρ ⟨f, n, τ, .inRegion ops (i :: rest) :: k, rd, D, kd, md⟩ fr) :
    ∃ k', L2 (ItemR ρ) k k' ∧ fr.todo = .inRegion ops (i :: rest) :: k' := by
  obtain ⟨y', k', h0, h1, h2⟩ := l2_cons hf.todo
  cases h1
  exact ⟨k', h2, h0⟩

omit [Globs] in
theorem slots_dst {w : World} {O : Nat → Prop} {ρ : List Loc} {a : Act} {d : Option Nat} {x : AV} {v : Value} (h : Slots w O ρ τ a.tmps) (hd : ∀ t, d = some t → t < a.tmps.size) (hx : RV w O ρ x v) : Slots w O ρ (updO τ d x) (a.put d v).tmps := by
  cases d with
  | none => exact h
  | some t => exact slots_put h (hd t rfl) hx

theorem sim_op {i : Nat} {rest : List Nat} {o : Oper} {x : AV} (ho : ops[i]? = some o) (hg : o.guard = none) (hd : ∀ d, o.dst = some d → Nat.blt d n = true) (hs : OpStep P τ ar o x ar') :
    SimT P C [⟨f, n, τ, .inRegion ops (i :: rest) :: k, rd, D, kd, .run⟩] ar [⟨f, n, updO τ o.dst x, .inRegion ops rest :: k, rd, D, kd, .run⟩] ar' := by
  intro ts w ρ cs hts hR
  obtain ⟨fr, m, rfl, hf, hn⟩ := l2_cons hts
  cases hn
  obtain ⟨k', h2, h0⟩ := top_op hf
  obtain ⟨r, v, w', ρ', hr, hv, hR', hc, hp, hx⟩ := hs C ⟨fr.tmps, fr.defers⟩ w ρ hR hf.slots
  refine ⟨[fr.atR ((⟨fr.tmps, fr.defers⟩ : Act).put o.dst v) (.inRegion ops rest :: k')], w', ρ', Steps.one ?_, .cons ⟨hf.fn, by show (((⟨fr.tmps, fr.defers⟩ : Act).put o.dst v).tmps).size = n; rw [put_tmps_size]; exact hf.size, ?_, .cons .inRegion (h2.mono fun _ _ => ItemR.mono hc), hf.rd.mono hc, ?_, hf.kind, rfl⟩ .nil, hR', hc, hp⟩
  · have := step_op_value (P := P) (b := fr) (k := k') (cs := cs) (rest := rest) ho (by simp [Region.wanted, hg]) hr hv
    rw [← h0, atR_self hf.mode] at this
    exact this
  · exact slots_dst (a := ⟨fr.tmps, fr.defers⟩) (hf.slots.mono hp hc) (fun t ht => by have := hd t ht; rw [Nat.blt_eq] at this; show t < fr.tmps.size; rw [hf.size]; exact this) hx
  · show L2 _ D ((⟨fr.tmps, fr.defers⟩ : Act).put o.dst v).defers
    rw [put_defers]
    exact hf.defs.mono fun _ _ => DR.mono hp hc

theorem sim_opV {i : Nat} {rest : List Nat} {o : Oper} {d j : Nat} {want b : Bool} {oc : Option Bool} {x : AV} (ho : ops[i]? = some o) (hg : o.guard = some (j, want)) (hb : GuardA n τ ops j oc b) (hd : o.dst = some d) (hdn : Nat.blt d n = true)
    {L l : List Nat} (hgk : GOKs (condOf oc b want) τ l) (hs : condOf oc b want = true → OpStep P (opS L l τ) ar o x ar) :
    SimT P C [⟨f, n, τ, .inRegion ops (i :: rest) :: k, rd, D, kd, .run⟩] ar [⟨f, n, upd τ d (.opt (condOf oc b want) x), .inRegion ops rest :: k, rd, D, kd, .run⟩] ar := by
  intro ts w ρ cs hts hR
  obtain ⟨fr, m, rfl, hf, hn⟩ := l2_cons hts
  cases hn
  obtain ⟨k', h2, h0⟩ := top_op hf
  have hw := wanted_of (a := ⟨fr.tmps, fr.defers⟩) hf.slots hf.size hg hb
  have hdn' : d < fr.tmps.size := by rw [hf.size]; simpa [Nat.blt_eq] using hdn
  cases hc : condOf oc b want with
  | true =>
    obtain ⟨r, v, w', ρ', hr, hv, hR', hcm, hp, hx⟩ := hs hc C ⟨fr.tmps, fr.defers⟩ w ρ hR (opS_slots hc hgk hf.slots)
    refine ⟨[fr.atR ((⟨fr.tmps, fr.defers⟩ : Act).put o.dst v) (.inRegion ops rest :: k')], w', ρ', Steps.one ?_, .cons ⟨hf.fn, by show (((⟨fr.tmps, fr.defers⟩ : Act).put o.dst v).tmps).size = n; rw [put_tmps_size]; exact hf.size, ?_, .cons .inRegion (h2.mono fun _ _ => ItemR.mono hcm), hf.rd.mono hcm, ?_, hf.kind, rfl⟩ .nil, hR', hcm, hp⟩
    · have := step_op_value (P := P) (b := fr) (k := k') (cs := cs) (rest := rest) ho (hw.trans hc) hr hv
      rw [← h0, atR_self hf.mode] at this
      exact this
    · rw [hd]
      exact slots_put (a := ⟨fr.tmps, fr.defers⟩) (hf.slots.mono hp hcm) hdn' (.opt (fun _ => hx) (fun h' => by cases h'))
    · show L2 _ D ((⟨fr.tmps, fr.defers⟩ : Act).put o.dst v).defers
      rw [put_defers]
      exact hf.defs.mono fun _ _ => DR.mono hp hcm
  | false =>
    refine ⟨[fr.atR ((⟨fr.tmps, fr.defers⟩ : Act).put o.dst undef) (.inRegion ops rest :: k')], w, ρ, Steps.one ?_, .cons ⟨hf.fn, by show (((⟨fr.tmps, fr.defers⟩ : Act).put o.dst undef).tmps).size = n; rw [put_tmps_size]; exact hf.size, ?_, .cons .inRegion h2, hf.rd, ?_, hf.kind, rfl⟩ .nil, hR, Compat.refl _, Pres.refl _ _⟩
    · have hst := stepR_op_skip (P := P) (b := fr) (a := ⟨fr.tmps, fr.defers⟩) (k := k') (cs := cs) (w := w) (ops := ops) (i := i) (rest := rest) (by simp [ho, hw, hc])
      simp only [ho, Option.bind_some] at hst
      rw [← h0, atR_self hf.mode] at hst
      exact hst
    · rw [hd]
      exact slots_put (a := ⟨fr.tmps, fr.defers⟩) hf.slots hdn' (.opt (fun h' => by cases h') (fun _ => rfl))
    · show L2 _ D ((⟨fr.tmps, fr.defers⟩ : Act).put o.dst undef).defers
      rw [put_defers]
      exact hf.defs
end
end Go.Iron

/- Iron: into calls and out of them; rounds of ranges; what is put off; panics. -/
namespace Go.Iron
variable [Globs]
section
variable {P : Program} {f0 : FuncId} {C : Cx} {T T' T2 S S' : List AF} {ar ar' ar2 : List AO} {Q : Out → List AO → Prop} {ops : Array Oper}
variable {f n : Nat} {τ : Nat → AV} {rd : Option Nat} {D : List AV} {kd : CallKind} {k : List Item}

omit [Globs] in
theorem frR_enter {g : FuncId} {gn : Func} {c : Code} {w : World} {O : Nat → Prop} {ρ : List Loc} (hgn : P.funcs[g]? = some gn) (hb : gn.body = some c) {as : List AV} {vs : Array Value} (hl : vs.size = as.length) (hn : Nat.ble as.length gn.ntmps = true)
    (hv : ∀ (i : Nat) x v, as[i]? = some x → vs[i]? = some v → RV w O ρ x v) (kd : CallKind) : FrR w O ρ ⟨g, gn.ntmps, argsT as, [.code c], none, [], kd, .run⟩ (Frame.enter P g vs kd) := by
  have hle : as.length ≤ gn.ntmps := by simpa [Nat.ble_eq] using hn
  refine ⟨rfl, by simp [Frame.enter, hgn]; omega, fun t => ?_, ?_, .none, .nil, rfl, rfl⟩
  · simp only [Frame.enter, hgn, Option.map_some, Option.getD_some]
    unfold argsT
    rw [nth_eq]
    cases hx : as[t]? with
    | none =>
      have ht : as.length ≤ t := by simpa using hx
      have : (vs ++ Array.replicate (gn.ntmps - vs.size) undef).getD t undef = undef := by
        rw [Array.getD_eq_getD_getElem?, Array.getElem?_append_right (by omega), Array.getElem?_replicate]
        split <;> rfl
      simp only [this]
      exact .val
    | some x =>
      have ht : t < as.length := (List.getElem?_eq_some_iff.1 hx).1
      have : (vs ++ Array.replicate (gn.ntmps - vs.size) undef).getD t undef = vs[t]'(by omega) := by
        rw [Array.getD_eq_getD_getElem?, Array.getElem?_append_left (by omega)]
        simp [hl, ht]
      simp only [this]
      exact hv t x _ hx (by simp [hl, ht])
  · simp only [Frame.enter, hgn, Option.bind_some, hb, Option.getD_some]
    exact .cons .code .nil

omit [Globs] in
theorem args_rv {w : World} {O : Nat → Prop} {ρ : List Loc} {a : Act} (h : Slots w O ρ τ a.tmps) (xs : Array Operand) {caps : List AV} {cvs : Array Value} (hcl : caps.length = cvs.size)
    (hcr : ∀ (i : Nat) x u, caps[i]? = some x → cvs[i]? = some u → RV w O ρ x u) :
    (xs.map a.eval ++ cvs).size = (xs.toList.map (evA τ) ++ caps).length ∧ ∀ (j : Nat) x v, (xs.toList.map (evA τ) ++ caps)[j]? = some x → (xs.map a.eval ++ cvs)[j]? = some v → RV w O ρ x v := by
  refine ⟨by simp [hcl], fun j x v hx hv => ?_⟩
  by_cases hj : j < xs.size
  · rw [List.getElem?_append_left (by simpa using hj)] at hx
    rw [Array.getElem?_append_left (by simpa using hj)] at hv
    simp only [List.getElem?_map, Array.getElem?_toList, Array.getElem?_map] at hx hv
    cases hxj : xs[j]? with
    | none => simp [hxj] at hx
    | some z =>
      simp [hxj] at hx hv
      subst hx
      subst hv
      exact evA_ok h z
  · rw [List.getElem?_append_right (by simpa using hj)] at hx
    rw [Array.getElem?_append_right (by simpa using hj)] at hv
    simp only [List.length_map, Array.length_toList, Array.size_map] at hx hv
    exact hcr _ x v hx hv

omit [Globs] in
theorem call_enter {o : Oper} {fo : Operand} {xs : Array Operand} {ts : Array TypeId} {a : Act} {g : FuncId} {gn : Func} {c : Code} {cvs : Array Value} {w : World} (hgn : P.funcs[g]? = some gn) (hb : gn.body = some c) (hnm : (gn.name == "runtime.NumGoroutine") = false)
    (hop : o.op = .call { callee := .value fo, args := xs, argTypes := ts }) (hfo : a.eval fo = .func (.func g) #[] cvs) : (execOp a.eval o).run P w = .ok (.enter g (xs.map a.eval ++ cvs)) w := by
  have hbe : gn.body ≠ none := by rw [hb]; simp
  have hnm' : gn.name ≠ "runtime.NumGoroutine" := by simpa using hnm
  simp [execOp, hop, resolve, hfo, Deferred.ofValue, invoke, callFunc, hgn, hnm', hbe]

theorem sim_call {i : Nat} {rest : List Nat} {o : Oper} {fo : Operand} {xs : Array Operand} {ts : Array TypeId} {g : FuncId} {caps as : List AV} {gn : Func} {c : Code} (ho : ops[i]? = some o) (hg : o.guard = none)
    (hop : o.op = .call { callee := .value fo, args := xs, argTypes := ts }) (hfo : evA τ fo = .fn (.func g) caps) (hgn : P.funcs[g]? = some gn) (hb : gn.body = some c) (hnm : (gn.name == "runtime.NumGoroutine") = false)
    (has : xs.toList.map (evA τ) ++ caps = as) (hn : Nat.ble as.length gn.ntmps = true) :
    SimT P C [⟨f, n, τ, .inRegion ops (i :: rest) :: k, rd, D, kd, .run⟩] ar [⟨g, gn.ntmps, argsT as, [.code c], none, [], .normal, .run⟩, ⟨f, n, τ, .inRegion ops (i :: rest) :: k, rd, D, kd, .run⟩] ar := by
  intro ts' w ρ cs hts hR
  obtain ⟨fr, m, rfl, hf, hn'⟩ := l2_cons hts
  cases hn'
  obtain ⟨k', h2, h0⟩ := top_op hf
  have hfv := evA_ok (a := ⟨fr.tmps, fr.defers⟩) hf.slots fo
  rw [show evA τ fo = _ from hfo] at hfv
  obtain ⟨cvs, hfo', hcl, hcr⟩ := rv_fn hfv
  obtain ⟨hl, hv⟩ := args_rv (a := ⟨fr.tmps, fr.defers⟩) hf.slots xs hcl hcr
  rw [show xs.toList.map (evA τ) ++ caps = as from has] at hl hv
  refine ⟨[_, fr], w, ρ, Steps.one ?_, .cons (frR_enter (P := P) hgn hb hl hn hv .normal) (.cons hf .nil), hR, Compat.refl _, Pres.refl _ _⟩
  have hgo := stepGR_op (P := P) (b := fr) (a := ⟨fr.tmps, fr.defers⟩) (k := k') (cs := cs) (w := w) (rest := rest) ho (by simp [Region.wanted, hg])
  rw [Oper.semAt_eq _ _ _ (fun c h => by rw [hop] at h; cases h), ← h0, atR_self hf.mode] at hgo
  have hkind : (match fr.todo with | .call _ true _ _ :: _ => CallKind.wrapped | _ => .normal) = .normal := by rw [h0]
  show step P (lone fr cs w) = .next (lone _ (fr :: cs) w)
  exact step_lone_go (by rw [hgo]; simp [stepG.apply, call_enter (P := P) (w := w) hgn hb hnm hop hfo', h0])

def updL (τ : Nat → AV) : List Nat → List AV → Nat → AV
  | p :: ps, x :: xs => updL (upd τ p x) ps xs
  | _, _ => τ
def allLt (n : Nat) : List Nat → Bool
  | [] => true
  | p :: ps => match Nat.blt p n with
    | true => allLt n ps
    | false => false
omit [Globs] in
theorem updL_ok {w : World} {O : Nat → Prop} {ρ : List Loc} : ∀ (ps : List Nat) (xs : List AV) (vs : List Value) (τ : Nat → AV) (tmps : Array Value), Slots w O ρ τ tmps → tmps.size = n → allLt n ps = true → xs.length = vs.length →
    (∀ (i : Nat) x v, xs[i]? = some x → vs[i]? = some v → RV w O ρ x v) → ps.length = xs.length →
    ((ps.zip vs).foldl (fun tmps (t, a) => tmps.setIfInBounds t a) tmps).size = n ∧ Slots w O ρ (updL τ ps xs) ((ps.zip vs).foldl (fun tmps (t, a) => tmps.setIfInBounds t a) tmps)
  | [], xs, vs, τ, tmps, h1, h2, _, _, _, _ => by
    refine ⟨by simpa using h2, ?_⟩
    cases xs <;> simpa [updL] using h1
  | p :: ps, [], vs, τ, tmps, h1, h2, h3, h4, h5, h6 => by simp at h6
  | p :: ps, x :: xs, [], τ, tmps, h1, h2, h3, h4, h5, h6 => by simp at h4
  | p :: ps, x :: xs, v :: vs, τ, tmps, h1, h2, h3, h4, h5, h6 => by
    simp only [allLt] at h3
    cases hp : Nat.blt p n with
    | false => simp [hp] at h3
    | true =>
      simp only [hp] at h3
      have hp' : p < tmps.size := by rw [h2]; simpa [Nat.blt_eq] using hp
      simp only [List.zip_cons_cons, List.foldl_cons, updL]
      exact updL_ok ps xs vs _ _ (slots_put (a := ⟨tmps, []⟩) h1 hp' (h5 0 x v rfl rfl)) (by simpa using h2) h3 (by simpa using h4) (fun i y u a b => h5 (i + 1) y u (by simpa using a) (by simpa using b)) (by simpa using h6)

theorem obj_at {w : World} {ρ : List Loc} (hR : RelA C ρ ar w) {id l : Nat} {o : AO} (ho : ar[id]? = some o) (hr : RefR ρ id l) (h0 : ∀ L, ObjOK w (Ow C ρ ar) ρ o L → L.ver = 0) :
    ∃ L, ρ[id]? = some L ∧ L.ver = 0 ∧ L.v = .pointer (some ⟨l, 0, none⟩) ∧ ObjOK w (Ow C ρ ar) ρ o L := by
  obtain ⟨L, h1, h2⟩ := hr
  have h3 := hR.obj id o L ho h1
  exact ⟨L, h1, h0 L h3, h2 (h0 L h3), h3⟩

theorem loop_at {w : World} {ρ : List Loc} (hR : RelA C ρ ar w) {id l : Nat} {st pd f2 n2 τ2 ps asg bd} (ho : ar[id]? = some (.loop st pd f2 n2 τ2 ps asg bd)) (hr : RefR ρ id l) :
    ∃ L tmps dd, ρ[id]? = some L ∧ L.ver = 0 ∧ L.v = .pointer (some ⟨l, 0, none⟩) ∧ w.heap[l]? = some (.loop { state := st, pending := pd, fn := f2, tmps, params := ps, assign := asg, body := bd, defers := dd }) ∧ tmps.size = n2 ∧ Slots w (Ow C ρ ar) ρ τ2 tmps := by
  obtain ⟨L, h1, h2, h3, _, b, tmps, dd, h4, h5, h6, h7⟩ := obj_at hR ho hr (fun L h => h.1)
  rw [h3] at h4
  cases h4
  exact ⟨L, tmps, dd, h1, h2, h3, h5, h6, h7⟩

theorem sim_yield {i : Nat} {rest : List Nat} {o : Oper} {fo : Operand} {xs : Array Operand} {ts : Array TypeId} {id : Nat} {as : List AV} {st pd f2 n2 τ2 ps asg bd} (ho : ops[i]? = some o) (hg : o.guard = none)
    (hop : o.op = .call { callee := .value fo, args := xs, argTypes := ts }) (hfo : evA τ fo = .yld id) (hl : nth ar id = some (.loop st pd f2 n2 τ2 ps asg bd))
    (has : xs.toList.map (evA τ) = as) (hps : Nat.beq ps.toList.length as.length = true) (hlt : allLt n2 ps.toList = true) :
    SimT P C [⟨f, n, τ, .inRegion ops (i :: rest) :: k, rd, D, kd, .run⟩] ar [⟨f2, n2, updL τ2 ps.toList as, [.code asg, .beginRound, .code bd], some id, [], .normal, .run⟩, ⟨f, n, τ, .inRegion ops (i :: rest) :: k, rd, D, kd, .run⟩] ar := by
  intro ts' w ρ cs hts hR
  obtain ⟨fr, m, rfl, hf, hn'⟩ := l2_cons hts
  cases hn'
  obtain ⟨k', h2, h0⟩ := top_op hf
  rw [nth_eq] at hl
  have hfv := evA_ok (a := ⟨fr.tmps, fr.defers⟩) hf.slots fo
  rw [show evA τ fo = _ from hfo] at hfv
  obtain ⟨L0, l, e1, e2, hfo'⟩ := rv_yld hfv
  obtain ⟨L, tmps, dd, r1, r2, r3, r4, r5, r6⟩ := loop_at hR hl ⟨L0, e1, e2⟩
  obtain ⟨ha, hv⟩ := args_rv (a := ⟨fr.tmps, fr.defers⟩) (caps := []) (cvs := #[]) hf.slots xs rfl (fun i x u h => by simp at h)
  have has' : xs.toList.map (evA τ) = as := has
  simp only [List.append_nil, Array.append_empty, has'] at ha hv
  have hps' : ps.toList.length = as.length := Nat.eq_of_beq_eq_true hps
  obtain ⟨u1, u2⟩ := updL_ok ps.toList as (xs.map (⟨fr.tmps, fr.defers⟩ : Act).eval).toList τ2 tmps r6 r5 hlt (by rw [Array.length_toList]; exact ha.symm) (fun j x v hx hv' => hv j x v hx (by simpa using hv')) hps'
  have hfold : ((ps.zip (xs.map (⟨fr.tmps, fr.defers⟩ : Act).eval)).foldl (fun tmps (t, a) => tmps.setIfInBounds t a) tmps) = ((ps.toList.zip (xs.map (⟨fr.tmps, fr.defers⟩ : Act).eval).toList).foldl (fun tmps (t, a) => tmps.setIfInBounds t a) tmps) := by
    rw [← Array.foldl_toList, Array.toList_zip]
  refine ⟨[_, fr], w, ρ, Steps.one ?_, .cons (b := Frame.round l f2 ((ps.zip (xs.map (⟨fr.tmps, fr.defers⟩ : Act).eval)).foldl (fun tmps (t, a) => tmps.setIfInBounds t a) tmps) asg bd .normal) ⟨rfl, by rw [hfold]; exact u1, by rw [hfold]; exact u2, .cons .code (.cons .beginRound (.cons .code .nil)), .some ⟨L, r1, fun _ => r3⟩, .nil, rfl, rfl⟩ (.cons hf .nil), hR, Compat.refl _, Pres.refl _ _⟩
  have hgo := stepGR_op (P := P) (b := fr) (a := ⟨fr.tmps, fr.defers⟩) (k := k') (cs := cs) (w := w) (rest := rest) ho (by simp [Region.wanted, hg])
  rw [Oper.semAt_eq _ _ _ (fun c h => by rw [hop] at h; cases h), ← h0, atR_self hf.mode] at hgo
  have hrun : (execOp (⟨fr.tmps, fr.defers⟩ : Act).eval o).run P w = .ok (.round l f2 ((ps.zip (xs.map (⟨fr.tmps, fr.defers⟩ : Act).eval)).foldl (fun tmps (t, a) => tmps.setIfInBounds t a) tmps) asg bd) w := by
    have hy := run_yield (P := P) (args := xs.map (⟨fr.tmps, fr.defers⟩ : Act).eval) r4 (by rw [ha, ← hps']; simp)
    simp only [execOp, hop, resolve, hfo', Deferred.ofValue, invoke, Sem.run_bind, Sem.run_pure, Result.andThen_ok, Array.empty_append]
    exact hy
  show step P (lone fr cs w) = .next (lone _ (fr :: cs) w)
  exact step_lone_go (by rw [hgo]; simp [stepG.apply, hrun, h0])

theorem loop_put {w : World} {ρ : List Loc} (hR : RelA C ρ ar w) {id l : Nat} {st pd f2 n2 τ2 ps asg bd} (ho : ar[id]? = some (.loop st pd f2 n2 τ2 ps asg bd)) (hr : RefR ρ id l) (st' : LoopState) (pd' : Option Code) :
    ∃ r : Loop, w.heap[l]? = some (.loop r) ∧ r.state = st ∧ r.pending = pd ∧ ∃ ρ', RelA C ρ' (ar.set id (.loop st' pd' f2 n2 τ2 ps asg bd)) (w.putObj l (.loop { r with state := st', pending := pd' })) ∧ Compat ρ ρ' ∧
      Pres w (Ow C ρ ar) (w.putObj l (.loop { r with state := st', pending := pd' })) (Ow C ρ' (ar.set id (.loop st' pd' f2 n2 τ2 ps asg bd))) := by
  obtain ⟨L, tmps, dd, r1, r2, r3, r4, r5, r6⟩ := loop_at hR ho hr
  have hlt : l < w.heap.size := (Array.getElem?_eq_some_iff.1 r4).1
  have hblk : L.blk = some l := by simp [Loc.blk, r3]
  refine ⟨_, r4, rfl, rfl, ρ.set id L, ?_⟩
  obtain ⟨q1, q2, q3⟩ := hR.put (L' := L) (o' := .loop st' pd' f2 n2 τ2 ps asg bd) (w' := w.putObj l (.loop { state := st', pending := pd', fn := f2, tmps, params := ps, assign := asg, body := bd, defers := dd })) ho r1 rfl (by simp)
    (fun k _ hk => World.putObj_heap_other (fun e => hk (by rw [e]; exact .inl hblk))) rfl rfl rfl (fun b hb => .inl hb) (Nat.le_refl _) (fun _ => rfl)
    (fun hp hc => ⟨r2, l, tmps, dd, r3, World.putObj_heap_same hlt, r5, r6.mono hp hc⟩)
  exact ⟨q1, q3, q2⟩

omit [Globs] in
theorem rd_some {w : World} {O : Nat → Prop} {ρ : List Loc} {fr : Frame} {id : Nat} {t : List Item} {md : FrameMode} (hf : FrR w O ρ ⟨f, n, τ, t, some id, D, kd, md⟩ fr) : ∃ l, fr.roundOf = some l ∧ RefR ρ id l := by
  have := hf.rd
  generalize fr.roundOf = x at this
  cases this with
  | some h => exact ⟨_, rfl, h⟩
omit [Globs] in
theorem rd_none {w : World} {O : Nat → Prop} {ρ : List Loc} {fr : Frame} {t : List Item} {md : FrameMode} (hf : FrR w O ρ ⟨f, n, τ, t, none, D, kd, md⟩ fr) : fr.roundOf = none := by
  have := hf.rd
  generalize fr.roundOf = x at this
  cases this
  rfl

theorem sim_beginRound {id : Nat} {pd f2 n2 τ2 ps asg bd} (hl : nth ar id = some (.loop .ready pd f2 n2 τ2 ps asg bd)) (har : setN ar id (.loop .busy pd f2 n2 τ2 ps asg bd) = some ar') :
    SimT P C [⟨f, n, τ, .beginRound :: k, some id, D, kd, .run⟩] ar [⟨f, n, τ, k, some id, D, kd, .run⟩] ar' := by
  intro ts w ρ cs hts hR
  obtain ⟨fr, m, rfl, hf, hn⟩ := l2_cons hts
  cases hn
  obtain ⟨_, rfl⟩ := setN_spec _ _ _ _ har
  rw [nth_eq] at hl
  obtain ⟨l, e1, e2⟩ := rd_some hf
  obtain ⟨r, r1, r2, r3, ρ', q1, q2, q3⟩ := loop_put hR hl e2 .busy pd
  obtain ⟨y, k', h0, h1, h2⟩ := l2_cons hf.todo
  cases h1
  have hrec : ({ r with state := .busy, pending := pd } : Loop) = { r with state := .busy } := by rw [← r3]
  rw [hrec] at q1 q3
  refine ⟨[fr.atR ⟨fr.tmps, fr.defers⟩ k'], _, ρ', Steps.one ?_, .cons ⟨hf.fn, hf.size, hf.slots.mono q3 q2, h2.mono fun _ _ => ItemR.mono q2, hf.rd.mono q2, hf.defs.mono fun _ _ => DR.mono q3 q2, hf.kind, rfl⟩ .nil, q1, q2, q3⟩
  have := stepR_beginRound (P := P) (b := fr) (a := ⟨fr.tmps, fr.defers⟩) (k := k') (cs := cs) e1 (run_beginRound r1 r2)
  rw [← h0, atR_self hf.mode] at this
  exact this

def finA (τ : Nat → AV) (todo : List Item) (x : AV) : Option ((Nat → AV) × List Item × Option Nat) := match todo with
  | .inRegion ops (i :: rest) :: k => match nth ops.toList i with
    | some o => some (updO τ o.dst x, .inRegion ops rest :: k, o.dst)
    | none => none
  | .inRangeFunc l :: k => some (τ, .endRangeFunc l :: k, none)
  | _ => none
def dstOK (n : Nat) : Option Nat → Bool
  | some d => Nat.blt d n
  | none => true
omit [Globs] in
theorem fin_ok {w : World} {O : Nat → Prop} {ρ : List Loc} {t t2 : List Item} {τ2 : Nat → AV} {x : AV} {d : Option Nat} {md : FrameMode} (h : finA τ t x = some (τ2, t2, d)) (hd : dstOK n d = true) {fr : Frame} (hf : FrR w O ρ ⟨f, n, τ, t, rd, D, kd, md⟩ fr) {v : Value} (hx : RV w O ρ x v) :
    FrR w O ρ ⟨f, n, τ2, t2, rd, D, kd, md⟩ (fr.finish v) := by
  unfold finA at h
  split at h
  · rename_i ops i rest k
    split at h
    · rename_i o ho
      cases h
      have ho' : ops[i]? = some o := by rw [nth_eq] at ho; simpa using ho
      obtain ⟨k', h2, h0⟩ := top_op hf
      have hb : (ops[i]?).bind (·.dst) = o.dst := by simp [ho']
      have hfin : fr.finish v = { fr with tmps := ((⟨fr.tmps, fr.defers⟩ : Act).put o.dst v).tmps, todo := .inRegion ops rest :: k' } := by
        cases hd' : o.dst <;> simp [Frame.finish, h0, hb, hd', Act.put]
      rw [hfin]
      refine ⟨hf.fn, ?_, ?_, .cons .inRegion h2, hf.rd, hf.defs, hf.kind, hf.mode⟩
      · show ((⟨fr.tmps, fr.defers⟩ : Act).put o.dst v).tmps.size = n
        rw [put_tmps_size]
        exact hf.size
      · refine slots_dst (a := ⟨fr.tmps, fr.defers⟩) hf.slots (fun t ht => ?_) hx
        rw [ht] at hd
        simp only [dstOK, Nat.blt_eq] at hd
        show t < fr.tmps.size
        rw [hf.size]
        exact hd
    · cases h
  · rename_i l k
    cases h
    obtain ⟨y, k', h0, h1, h2⟩ := l2_cons hf.todo
    cases h1 with
    | inRF hr =>
      have hfin : ∀ l', fr.todo = .inRangeFunc l' :: k' → fr.finish v = { fr with todo := .endRangeFunc l' :: k' } := fun l' h => by simp [Frame.finish, h]
      rw [hfin _ h0]
      exact ⟨hf.fn, hf.size, hf.slots, .cons (.endRF hr) h2, hf.rd, hf.defs, hf.kind, hf.mode⟩
  · cases h

def roundEnd : List Item → Option (Option Code)
  | [] => some none
  | .code .ret :: _ => some (some .ret)
  | .code (.exit id) :: k => match exitTo id k with
    | none => some (some (.exit id))
    | some _ => none
  | _ => none
theorem sim_endRound {id : Nat} {st pd f2 n2 τ2 ps asg bd} {t tB tB2 : List Item} {jump : Option Code} {d : Option Nat} {fB nB : Nat} {τB τB2 : Nat → AV} {rdB : Option Nat} {DB : List AV} {kB : CallKind} {mB : FrameMode} (hl : nth ar id = some (.loop st pd f2 n2 τ2 ps asg bd))
    (hj : roundEnd t = some jump) (har : setN ar id (.loop (if jump.isNone then .ready else .done) jump f2 n2 τ2 ps asg bd) = some ar') (hfin : finA τB tB (.val (.bool jump.isNone)) = some (τB2, tB2, d)) (hd : dstOK nB d = true) :
    SimT P C [⟨f, n, τ, t, some id, D, .normal, .run⟩, ⟨fB, nB, τB, tB, rdB, DB, kB, mB⟩] ar [⟨fB, nB, τB2, tB2, rdB, DB, kB, mB⟩] ar' := by
  intro ts w ρ cs hts hR
  obtain ⟨fr, m, rfl, hf, hn⟩ := l2_cons hts
  obtain ⟨fb, m, rfl, hb, hn⟩ := l2_cons hn
  cases hn
  obtain ⟨_, rfl⟩ := setN_spec _ _ _ _ har
  rw [nth_eq] at hl
  obtain ⟨l, e1, e2⟩ := rd_some hf
  obtain ⟨r, r1, r2, r3, ρ', q1, q2, q3⟩ := loop_put hR hl e2 (if jump.isNone then .ready else .done) jump
  refine ⟨[fb.finish (.bool jump.isNone)], _, ρ', Steps.one ?_, .cons (fin_ok hfin hd (hb.mono q3 q2) .val) .nil, q1, q2, q3⟩
  have hend := run_endRound (P := P) jump r1
  have hself := atR_self hf.mode
  unfold roundEnd at hj
  split at hj
  · cases hj
    have h0 : fr.todo = [] := l2_nil hf.todo
    have := stepR_round_end (P := P) (b := fr) (a := ⟨fr.tmps, fr.defers⟩) (c := fb) (cs := cs) e1 hf.kind hend
    rw [← h0, hself] at this
    exact this
  · cases hj
    obtain ⟨y, k', h0, h1, h2⟩ := l2_cons hf.todo
    cases itemR_code h1
    have := stepR_round_ret (P := P) (b := fr) (a := ⟨fr.tmps, fr.defers⟩) (k := k') (c := fb) (cs := cs) e1 hf.kind hend
    rw [← h0, hself] at this
    exact this
  · rename_i id' k
    split at hj
    · rename_i hx
      cases hj
      obtain ⟨y, k', h0, h1, h2⟩ := l2_cons hf.todo
      cases itemR_code h1
      have := stepR_round_exit (P := P) (b := fr) (a := ⟨fr.tmps, fr.defers⟩) (k := k') (c := fb) (cs := cs) e1 hf.kind ((exitTo_rel h2).1 hx) hend
      rw [← h0, hself] at this
      exact this
    · cases hj
  · cases hj

def pdK : Option Code → List Item → List Item
  | some c, k => .code c :: k
  | none, k => k
theorem sim_endRange {id : Nat} {st pd f2 n2 τ2 ps asg bd} (hl : nth ar id = some (.loop st pd f2 n2 τ2 ps asg bd)) (hst : (st == .busy) = false) (har : setN ar id (.loop .exhausted pd f2 n2 τ2 ps asg bd) = some ar') :
    SimT P C [⟨f, n, τ, .endRangeFunc id :: k, rd, D, kd, .run⟩] ar [⟨f, n, τ, pdK pd k, rd, D, kd, .run⟩] ar' := by
  intro ts w ρ cs hts hR
  obtain ⟨fr, m, rfl, hf, hn⟩ := l2_cons hts
  cases hn
  obtain ⟨_, rfl⟩ := setN_spec _ _ _ _ har
  rw [nth_eq] at hl
  obtain ⟨y, k', h0, h1, h2⟩ := l2_cons hf.todo
  cases h1 with
  | endRF hr =>
    obtain ⟨r, r1, r2, r3, ρ', q1, q2, q3⟩ := loop_put hR hl hr .exhausted pd
    have hrec : ({ r with state := .exhausted, pending := pd } : Loop) = { r with state := .exhausted } := by rw [← r3]
    rw [hrec] at q1 q3
    have hend := run_endLoop (P := P) r1 (by rw [r2]; cases st <;> simp_all)
    have hk : L2 (ItemR ρ') (pdK pd k) ((pd.map Item.code).toList ++ k') := by
      cases pd with
      | none => exact h2.mono fun _ _ => ItemR.mono q2
      | some c => exact .cons .code (h2.mono fun _ _ => ItemR.mono q2)
    refine ⟨[{ fr with todo := (pd.map Item.code).toList ++ k' }], _, ρ', Steps.one ?_, .cons ⟨hf.fn, hf.size, hf.slots.mono q3 q2, hk, hf.rd.mono q2, hf.defs.mono fun _ _ => DR.mono q3 q2, hf.kind, hf.mode⟩ .nil, q1, q2, q3⟩
    have hm := hf.mode
    refine step_lone_go ?_
    simp only [stepG, hm, stepG.exec, h0, Sem.runT_eq, hend, r3]
    simp

/-! ### Ranges over functions begin -/
theorem sim_range {fo : Operand} {ps : Array Tmp} {asg bd : Code} {g : FuncId} {caps : List AV} {gn : Func} {c : Code} {ida idl : Nat} {ar1 : List AO} (hfo : evA τ fo = .fn (.func g) caps) (hgn : P.funcs[g]? = some gn) (hb : gn.body = some c) (hnm : (gn.name == "runtime.NumGoroutine") = false)
    (h1 : snocN ar (.dfr true) = some (ar1, ida)) (h2 : snocN ar1 (.loop .ready none f n τ ps asg bd) = some (ar', idl)) (hn : Nat.ble (.yld idl :: caps).length gn.ntmps = true) :
    SimT P C [⟨f, n, τ, .code (.rangeFunc fo ps asg bd) :: k, none, D, kd, .run⟩] ar [⟨g, gn.ntmps, argsT (.yld idl :: caps), [.code c], none, [], .normal, .run⟩, ⟨f, n, τ, .inRangeFunc idl :: k, none, .yld ida :: D, kd, .run⟩] ar' := by
  intro ts w ρ cs hts hR
  obtain ⟨fr, m, rfl, hf, hn'⟩ := l2_cons hts
  cases hn'
  obtain ⟨rfl, rfl⟩ := snocN_spec _ _ _ _ h1
  obtain ⟨rfl, rfl⟩ := snocN_spec _ _ _ _ h2
  obtain ⟨y, k', h0, hy, hk⟩ := l2_cons hf.todo
  cases itemR_code hy
  -- the two blocks
  let o1 : Obj := .deferred (some [])
  let o2 : Obj := .loop { state := .ready, pending := none, fn := f, tmps := fr.tmps, params := ps, assign := asg, body := bd, defers := w.heap.size }
  obtain ⟨p1, p2, p3⟩ := hR.add (o := .dfr true) (L := ⟨0, .pointer (some ⟨w.heap.size, 0, none⟩)⟩) (w' := w.alloc o1) (by simp) (fun k hk => heap_alloc_old w _ hk) rfl rfl rfl (fun b hb => by simp [Loc.has, Loc.more, Loc.blk] at hb; omega)
    (fun hp => ⟨rfl, w.heap.size, rfl, heap_alloc_new w _⟩)
  obtain ⟨q1, q2, q3⟩ := p1.add (o := .loop .ready none f n τ ps asg bd) (L := ⟨0, .pointer (some ⟨(w.alloc o1).heap.size, 0, none⟩)⟩) (w' := (w.alloc o1).alloc o2) (by simp) (fun k hk => heap_alloc_old _ _ hk) rfl rfl rfl (fun b hb => by simp [Loc.has, Loc.more, Loc.blk] at hb ⊢; omega)
    (fun hp => ⟨rfl, (w.alloc o1).heap.size, fr.tmps, w.heap.size, rfl, heap_alloc_new _ _, hf.size, (hf.slots.mono p2 p3).mono hp (Compat.append _ _)⟩)
  have hpp := p2.trans q2
  have hcc := p3.trans q3
  have hlen := hR.len
  have ref1 : RefR (ρ ++ [⟨0, .pointer (some ⟨w.heap.size, 0, none⟩)⟩]) ar.length w.heap.size := ⟨_, by rw [List.getElem?_append_right (by omega)]; simp [hlen]; rfl, fun _ => rfl⟩
  have ref2 : RefR ((ρ ++ [⟨0, .pointer (some ⟨w.heap.size, 0, none⟩)⟩]) ++ [⟨0, .pointer (some ⟨(w.alloc o1).heap.size, 0, none⟩)⟩]) (ar ++ [AO.dfr true]).length (w.heap.size + 1) :=
    ⟨_, by rw [List.getElem?_append_right (by simp [hlen])]; simp [hlen]; rfl, fun _ => by simp [World.size_alloc]⟩
  have hfv := evA_ok (a := ⟨fr.tmps, fr.defers⟩) hf.slots fo
  rw [show evA τ fo = _ from hfo] at hfv
  obtain ⟨cvs, hfo', hcl, hcr⟩ := rv_fn hfv
  have hvy : RV ((w.alloc o1).alloc o2) (Ow C ((ρ ++ [⟨0, .pointer (some ⟨w.heap.size, 0, none⟩)⟩]) ++ [⟨0, .pointer (some ⟨(w.alloc o1).heap.size, 0, none⟩)⟩]) ((ar ++ [AO.dfr true]) ++ [AO.loop .ready none f n τ ps asg bd]))
      ((ρ ++ [⟨0, .pointer (some ⟨w.heap.size, 0, none⟩)⟩]) ++ [⟨0, .pointer (some ⟨(w.alloc o1).heap.size, 0, none⟩)⟩]) (.yld (ar ++ [AO.dfr true]).length) (.func (.yield (w.heap.size + 1)) #[] #[]) := by
    obtain ⟨L, e1, e2⟩ := ref2
    exact .yld e1 e2
  have hl : (#[Value.func (.yield (w.heap.size + 1)) #[] #[]] ++ cvs).size = (AV.yld (ar ++ [AO.dfr true]).length :: caps).length := by simp [hcl]; omega
  have hvs : ∀ (i : Nat) x v, (AV.yld (ar ++ [AO.dfr true]).length :: caps)[i]? = some x → (#[Value.func (.yield (w.heap.size + 1)) #[] #[]] ++ cvs)[i]? = some v →
      RV ((w.alloc o1).alloc o2) (Ow C ((ρ ++ [⟨0, .pointer (some ⟨w.heap.size, 0, none⟩)⟩]) ++ [⟨0, .pointer (some ⟨(w.alloc o1).heap.size, 0, none⟩)⟩]) ((ar ++ [AO.dfr true]) ++ [AO.loop .ready none f n τ ps asg bd]))
      ((ρ ++ [⟨0, .pointer (some ⟨w.heap.size, 0, none⟩)⟩]) ++ [⟨0, .pointer (some ⟨(w.alloc o1).heap.size, 0, none⟩)⟩]) x v := by
    intro i x v hx hv
    cases i with
    | zero =>
      rw [Array.getElem?_append_left (by simp)] at hv
      simp at hx hv
      subst hx
      subst hv
      simpa using hvy
    | succ i =>
      rw [Array.getElem?_append_right (by simp)] at hv
      simp at hx hv
      exact (hcr i x v hx hv).mono hpp hcc
  refine ⟨[Frame.enter P g (#[Value.func (.yield (w.heap.size + 1)) #[] #[]] ++ cvs) .normal, { fr with todo := .inRangeFunc (w.heap.size + 1) :: k', defers := { target := .collected w.heap.size, args := #[] } :: fr.defers }], (w.alloc o1).alloc o2, _, Steps.one ?_,
    .cons (frR_enter (P := P) hgn hb hl hn hvs .normal) (.cons ⟨hf.fn, hf.size, hf.slots.mono hpp hcc, .cons (.inRF ref2) (hk.mono fun _ _ => ItemR.mono hcc), hf.rd.mono hcc, .cons (.col (ref1.mono q3)) (hf.defs.mono fun _ _ => DR.mono hpp hcc), hf.kind, hf.mode⟩ .nil), q1, hcc, hpp⟩
  have hrd := rd_none hf
  have hm := hf.mode
  have hent := run_enterLoop_outer (P := P) (w := w) fr.fn fr.tmps ps asg bd
  have hbe : gn.body ≠ none := by rw [hb]; simp
  have hnm' : gn.name ≠ "runtime.NumGoroutine" := by simpa using hnm
  have hev : ∀ a b c d e g', Frame.eval { fn := a, tmps := fr.tmps, todo := b, defers := c, mode := d, kind := e, roundOf := g' } fo = .func (.func g) #[] cvs := fun _ _ _ _ _ _ => by rw [← hfo']; cases fo <;> rfl
  have hec : ∀ (fr' : Frame) (v : Value), fr'.eval (.const v) = v := fun _ _ => rfl
  have hfn : fr.fn = f := hf.fn
  rw [hfn] at hent
  show step P (lone fr cs w) = .next (lone _ (_ :: cs) _)
  refine step_lone_go ?_
  simp only [stepG, hm, stepG.exec, h0, hrd, Sem.runT_eq, hfn, hent]
  simp [stepG.apply, resolve, Sem.runT_eq, Deferred.ofValue, invoke, callFunc, hgn, hnm', hbe, hev, hec]
  simp [hfn, hm, o1, o2]

/-! ### The frame leaves -/
theorem sim_ret {t : List Item} (ht : t = [] ∨ ∃ k, t = .code .ret :: k) : SimT P C [⟨f, n, τ, t, none, D, kd, .run⟩] ar [⟨f, n, τ, t, none, D, kd, .returning⟩] ar := by
  intro ts w ρ cs hts hR
  obtain ⟨fr, m, rfl, hf, hn'⟩ := l2_cons hts
  cases hn'
  refine ⟨[{ fr with mode := .returning }], w, ρ, Steps.one ?_, .cons ⟨hf.fn, hf.size, hf.slots, hf.todo, hf.rd, hf.defs, hf.kind, rfl⟩ .nil, hR, Compat.refl _, Pres.refl _ _⟩
  have hrd := rd_none hf
  have hself := atR_self hf.mode
  rcases ht with rfl | ⟨k, rfl⟩
  · have h0 : fr.todo = [] := l2_nil hf.todo
    have := stepR_end (P := P) (b := fr) (a := ⟨fr.tmps, fr.defers⟩) (cs := cs) (w := w) hrd
    rw [← h0, hself] at this
    exact this
  · obtain ⟨y, k', h0, h1, h2⟩ := l2_cons hf.todo
    cases itemR_code h1
    have := stepR_ret (P := P) (b := fr) (a := ⟨fr.tmps, fr.defers⟩) (k := k') (cs := cs) (w := w) hrd
    rw [← h0, hself] at this
    exact this

theorem sim_back {t tB tB2 : List Item} {d : Option Nat} {fB nB : Nat} {τB τB2 : Nat → AV} {rdB : Option Nat} {DB : List AV} {kB : CallKind} {mB : FrameMode} {fn : Func} {xs : List AV} (hfn : P.funcs[f]? = some fn) (hr : Res P τ ar fn.results.toList xs)
    (hfin : finA τB tB (outA xs) = some (τB2, tB2, d)) (hd : dstOK nB d = true) :
    SimT P C [⟨f, n, τ, t, rd, [], .normal, .returning⟩, ⟨fB, nB, τB, tB, rdB, DB, kB, mB⟩] ar [⟨fB, nB, τB2, tB2, rdB, DB, kB, mB⟩] ar := by
  intro ts w ρ cs hts hR
  obtain ⟨fr, m, rfl, hf, hn⟩ := l2_cons hts
  obtain ⟨fb, m, rfl, hb, hn⟩ := l2_cons hn
  cases hn
  obtain ⟨v, hv, hx⟩ := results_run (P := P) hR hf.slots hr
  refine ⟨[fb.finish v], w, ρ, Steps.one (step_leave_returned ⟨hf.mode, l2_nil hf.defs, hf.kind, fn, by rw [hf.fn]; exact hfn, hv⟩), .cons (fin_ok hfin hd hb hx) .nil, hR, Compat.refl _, Pres.refl _ _⟩

def afterD : FrameMode → Option FrameMode
  | .panicking ({ v := _, recovered := true, goexit := false } :: []) => some .returning
  | .panicking ({ v, recovered := false, goexit := g } :: l) => some (.panicking ({ v, recovered := false, goexit := g } :: l))
  | .returning => some .returning
  | _ => none
theorem sim_backD {t tB : List Item} {fB nB : Nat} {τB : Nat → AV} {rdB : Option Nat} {DB : List AV} {kB : CallKind} {mB mB2 : FrameMode} {fn : Func} {xs : List AV} (hfn : P.funcs[f]? = some fn) (hr : Res P τ ar fn.results.toList xs) (hm : afterD mB = some mB2) :
    SimT P C [⟨f, n, τ, t, rd, [], .deferred, .returning⟩, ⟨fB, nB, τB, tB, rdB, DB, kB, mB⟩] ar [⟨fB, nB, τB, tB, rdB, DB, kB, mB2⟩] ar := by
  intro ts w ρ cs hts hR
  obtain ⟨fr, m, rfl, hf, hn⟩ := l2_cons hts
  obtain ⟨fb, m, rfl, hb, hn⟩ := l2_cons hn
  cases hn
  obtain ⟨v, hv, hx⟩ := results_run (P := P) hR hf.slots hr
  refine ⟨[{ fb with mode := mB2 }], w, ρ, Steps.one ?_, .cons ⟨hb.fn, hb.size, hb.slots, hb.todo, hb.rd, hb.defs, hb.kind, rfl⟩ .nil, hR, Compat.refl _, Pres.refl _ _⟩
  have h1 := hf.mode
  have h2 : fr.defers = [] := l2_nil hf.defs
  have h3 := hf.kind
  have h4 : fr.fn = f := hf.fn
  have h5 := hb.mode
  simp only at h1 h3 h5
  show step P (lone fr (fb :: cs) w) = .next (lone _ cs w)
  refine step_lone_go ?_
  unfold afterD at hm
  split at hm
  all_goals first | (cases hm; done) | skip
  all_goals
    cases hm
    simp only [stepG, h1, unwind, h2, h4, hfn, Sem.runT_eq, hv, doReturn, h3, h5]
    simp [List.dropWhile, h5]
    try (cases fb; simp_all)

end
end Go.Iron

/- Iron: what is put off, panics, contracts, less told: for several frames. -/
namespace Go.Iron

variable [Globs]
def clVs : List AV → Option (List Value)
  | [] => some []
  | .val v :: l => match v.oneCell' with
    | true => match clVs l with
      | some r => some (v :: r)
      | none => none
    | false => none
  | _ :: _ => none
def clV : AV → Option Value
  | .val v => some v
  | .agg cs => match clVs cs with
    | some l => some (.agg ⟨l⟩)
    | none => none
  | _ => none
omit [Globs] in
theorem clVs_spec : ∀ (cs : List AV) (l : List Value), clVs cs = some l → cs = l.map .val ∧ ∀ v ∈ l, v.oneCell' = true
  | [], l, h => by simp [clVs] at h; subst h; exact ⟨rfl, by simp⟩
  | x :: cs, l, h => by
    cases x with
    | val v =>
      simp only [clVs] at h
      split at h
      · rename_i hv
        split at h
        · rename_i r hr
          cases h
          obtain ⟨h1, h2⟩ := clVs_spec cs r hr
          exact ⟨by rw [h1]; rfl, fun u hu => by rcases List.mem_cons.1 hu with rfl | hu; exact hv; exact h2 u hu⟩
        · cases h
      · cases h
    | _ => simp [clVs] at h
omit [Globs] in
theorem agg_vals {w : World} {O : Nat → Prop} {ρ : List Loc} {l : List Value} (h : ∀ v ∈ l, v.oneCell' = true) : RV w O ρ (.agg (l.map .val)) (.agg ⟨l⟩) := by
  refine .agg (by simp) (fun i x v hx hv => ?_) (fun i v hv => ?_)
  · have hv' : l[i]? = some v := by simpa using hv
    rw [List.getElem?_map, hv'] at hx
    cases hx
    exact .val
  · have hv' : l[i]? = some v := by simpa using hv
    exact h v (List.mem_of_getElem? hv')
omit [Globs] in
theorem rv_cl {w : World} {O : Nat → Prop} {ρ : List Loc} {x : AV} {v u : Value} (h : clV x = some v) (hr : RV w O ρ x u) : u = v := by
  unfold clV at h
  split at h
  · cases h; exact rv_val hr
  · rename_i cs
    split at h
    · rename_i l hl
      cases h
      obtain ⟨rfl, h2⟩ := clVs_spec _ _ hl
      obtain ⟨vs, rfl, h3, h4, _⟩ := rv_agg hr
      have : vs.toList = l := by
        refine List.ext_getElem? fun i => ?_
        simp only [List.length_map] at h3
        by_cases hi : i < l.length
        · have hi' : i < vs.size := by omega
          have e1 : vs[i]? = some vs[i] := by simp [hi']
          have := rv_val (h4 i (.val l[i]) vs[i] (by simp [hi]) e1)
          rw [Array.getElem?_toList, e1, this]
          simp [hi]
        · rw [Array.getElem?_toList, Array.getElem?_eq_none (by omega), List.getElem?_eq_none (by omega)]
      rw [← this]
    · cases h
  · cases h

def allOne : List Value → Bool
  | [] => true
  | v :: l => match v.oneCell' with
    | true => allOne l
    | false => false
omit [Globs] in
theorem allOne_spec {l : List Value} (h : allOne l = true) : ∀ v ∈ l, v.oneCell' = true := by
  induction l with
  | nil => simp
  | cons v l ih =>
    simp only [allOne] at h
    split at h
    · rename_i hv
      intro u hu
      rcases List.mem_cons.1 hu with rfl | hu
      · exact hv
      · exact ih h u hu
    · cases h
def mapVal : List Value → List AV
  | [] => []
  | v :: l => .val v :: mapVal l
omit [Globs] in
theorem mapVal_eq (l : List Value) : mapVal l = l.map .val := by induction l <;> simp [mapVal, *]
def toA : Value → Option AV
  | .iface t (.agg ⟨l⟩) => match allOne l with
    | true => some (.ifc t (.agg (mapVal l)))
    | false => none
  | .iface t u => some (.ifc t (.val u))
  | _ => none
omit [Globs] in
theorem toA_ok {w : World} {O : Nat → Prop} {ρ : List Loc} {v : Value} {x : AV} (h : toA v = some x) : RV w O ρ x v := by
  unfold toA at h
  split at h
  · rename_i t l
    split at h
    · rename_i hl
      cases h
      rw [mapVal_eq]
      exact .ifc (agg_vals (allOne_spec hl))
    · cases h
  · cases h; exact .ifc .val
  · cases h

section
variable {P : Program} {f0 : FuncId} {C : Cx} {T T' T2 S S' : List AF} {ar ar' ar2 : List AO} {Q : Out → List AO → Prop} {ops : Array Oper}
variable {f n : Nat} {τ : Nat → AV} {rd : Option Nat} {D : List AV} {kd : CallKind} {k : List Item}

theorem sim_panic {i : Nat} {rest : List Nat} {o : Oper} {y : Operand} {t : TypeId} {x : AV} {v : Value} (ho : ops[i]? = some o) (hg : o.guard = none) (hop : o.op = .panic y) (hy : evA τ y = .ifc t x) (hv : clV x = some v) :
    SimT P C [⟨f, n, τ, .inRegion ops (i :: rest) :: k, rd, D, kd, .run⟩] ar [⟨f, n, τ, .inRegion ops (i :: rest) :: k, rd, D, kd, .panicking [{ v := .iface t v, recovered := false }]⟩] ar := by
  intro ts w ρ cs hts hR
  obtain ⟨fr, m, rfl, hf, hn'⟩ := l2_cons hts
  cases hn'
  obtain ⟨k', h2, h0⟩ := top_op hf
  have hfv := evA_ok (a := ⟨fr.tmps, fr.defers⟩) hf.slots y
  rw [show evA τ y = _ from hy] at hfv
  obtain ⟨u, hu, hx⟩ := rv_ifc hfv
  have := rv_cl hv hx
  subst this
  refine ⟨[{ fr with mode := .panicking [{ v := .iface t u, recovered := false }] }], w, ρ, Steps.one ?_, .cons ⟨hf.fn, hf.size, hf.slots, hf.todo, hf.rd, hf.defs, hf.kind, rfl⟩ .nil, hR, Compat.refl _, Pres.refl _ _⟩
  have hgo := stepGR_op (P := P) (b := fr) (a := ⟨fr.tmps, fr.defers⟩) (k := k') (cs := cs) (w := w) (rest := rest) ho (by simp [Region.wanted, hg])
  rw [Oper.semAt_eq _ _ _ (fun c h => by rw [hop] at h; cases h), ← h0, atR_self hf.mode] at hgo
  have hrun : (execOp (⟨fr.tmps, fr.defers⟩ : Act).eval o).run P w = .halt (.panic (.iface t u)) w := by simp [execOp, hop, hu, Instr.panic]
  have hm := hf.mode
  show step P (lone fr cs w) = .next (lone _ cs w)
  exact step_lone_go (by rw [hgo]; simp [stepG.apply, hrun, Frame.raise, hm])

theorem sim_defer {i : Nat} {rest : List Nat} {o : Oper} {fo : Operand} {xs : Array Operand} {ts : Array TypeId} {g : Fn} {caps as : List AV} (ho : ops[i]? = some o) (hg : o.guard = none) (hop : o.op = .defer { callee := .value fo, args := xs, argTypes := ts })
    (hfo : evA τ fo = .fn g caps) (has : xs.toList.map (evA τ) ++ caps = as) (hd : o.dst = none) :
    SimT P C [⟨f, n, τ, .inRegion ops (i :: rest) :: k, none, D, kd, .run⟩] ar [⟨f, n, τ, .inRegion ops rest :: k, none, .fn g as :: D, kd, .run⟩] ar := by
  intro ts w ρ cs hts hR
  obtain ⟨fr, m, rfl, hf, hn'⟩ := l2_cons hts
  cases hn'
  obtain ⟨k', h2, h0⟩ := top_op hf
  have hfv := evA_ok (a := ⟨fr.tmps, fr.defers⟩) hf.slots fo
  rw [show evA τ fo = _ from hfo] at hfv
  obtain ⟨cvs, hfo', hcl, hcr⟩ := rv_fn hfv
  obtain ⟨hl, hv⟩ := args_rv (a := ⟨fr.tmps, fr.defers⟩) hf.slots xs hcl hcr
  rw [show xs.toList.map (evA τ) ++ caps = as from has] at hl hv
  refine ⟨[{ fr with todo := .inRegion ops rest :: k', defers := { target := .fn g cvs, args := xs.map (⟨fr.tmps, fr.defers⟩ : Act).eval } :: fr.defers }], w, ρ, Steps.one ?_,
    .cons ⟨hf.fn, hf.size, hf.slots, .cons .inRegion h2, hf.rd, .cons (.fn hl.symm hv) hf.defs, hf.kind, hf.mode⟩ .nil, hR, Compat.refl _, Pres.refl _ _⟩
  have hgo := stepGR_op (P := P) (b := fr) (a := ⟨fr.tmps, fr.defers⟩) (k := k') (cs := cs) (w := w) (rest := rest) ho (by simp [Region.wanted, hg])
  rw [rd_none hf, Oper.semAt_none, ← h0, atR_self hf.mode] at hgo
  have hrun : (execOp (⟨fr.tmps, fr.defers⟩ : Act).eval o).run P w = .ok (.defer { target := .fn g cvs, args := xs.map (⟨fr.tmps, fr.defers⟩ : Act).eval }) w := by
    simp [execOp, hop, resolve, hfo', Deferred.ofValue]
  show step P (lone fr cs w) = .next (lone _ cs w)
  exact step_lone_go (by rw [hgo]; simp [stepG.apply, hrun, Frame.finish, h0, ho, hd])

theorem sim_recover {i : Nat} {rest : List Nat} {o : Oper} {x : AV} {v : Value} {fB nB : Nat} {τB : Nat → AV} {tB : List Item} {rdB : Option Nat} {DB : List AV} {kB : CallKind} {xs : Array Operand} {ts : Array TypeId} {older : List PanicEntry}
    (ho : ops[i]? = some o) (hg : o.guard = none) (hop : o.op = .call { callee := .builtin .recover, args := xs, argTypes := ts }) (hx : toA v = some x) (hd : dstOK n o.dst = true) :
    SimT P C [⟨f, n, τ, .inRegion ops (i :: rest) :: k, none, D, .deferred, .run⟩, ⟨fB, nB, τB, tB, rdB, DB, kB, .panicking ({ v, recovered := false, goexit := false } :: older)⟩] ar
      [⟨f, n, updO τ o.dst x, .inRegion ops rest :: k, none, D, .deferred, .run⟩, ⟨fB, nB, τB, tB, rdB, DB, kB, .panicking ({ v, recovered := true, goexit := false } :: older)⟩] ar := by
  intro ts' w ρ cs hts hR
  obtain ⟨fr, m, rfl, hf, hn'⟩ := l2_cons hts
  obtain ⟨fb, m, rfl, hb, hn⟩ := l2_cons hn'
  cases hn
  obtain ⟨k', h2, h0⟩ := top_op hf
  have hfin := fin_ok (t := .inRegion ops (i :: rest) :: k) (x := x) (v := v) (d := o.dst) (τ2 := updO τ o.dst x) (t2 := .inRegion ops rest :: k) (by simp [finA, nth_eq, ho]) hd hf (toA_ok hx)
  refine ⟨[fr.finish v, { fb with mode := .panicking ({ v, recovered := true, goexit := false } :: older) }], w, ρ, Steps.one ?_, .cons hfin (.cons ⟨hb.fn, hb.size, hb.slots, hb.todo, hb.rd, hb.defs, hb.kind, rfl⟩ .nil), hR, Compat.refl _, Pres.refl _ _⟩
  have hgo := stepGR_op (P := P) (b := fr) (a := ⟨fr.tmps, fr.defers⟩) (k := k') (cs := fb :: cs) (w := w) (rest := rest) ho (by simp [Region.wanted, hg])
  rw [rd_none hf, Oper.semAt_none, ← h0, atR_self hf.mode] at hgo
  have hrun : (execOp (⟨fr.tmps, fr.defers⟩ : Act).eval o).run P w = .ok .recover w := by simp [execOp, hop, resolve, invoke, builtin]
  have hk := hf.kind
  have hm := hb.mode
  simp only at hk hm
  show step P (lone fr (fb :: cs) w) = .next (lone _ (_ :: cs) w)
  exact step_lone_go (by rw [hgo]; simp [stepG.apply, hrun, rd_none hf, tryRecover, hk, hm])
theorem sim_recoverNil {i : Nat} {rest : List Nat} {o : Oper} {fB nB : Nat} {τB : Nat → AV} {tB : List Item} {rdB : Option Nat} {DB : List AV} {kB : CallKind} {xs : Array Operand} {ts : Array TypeId}
    (ho : ops[i]? = some o) (hg : o.guard = none) (hop : o.op = .call { callee := .builtin .recover, args := xs, argTypes := ts }) (hd : dstOK n o.dst = true) :
    SimT P C [⟨f, n, τ, .inRegion ops (i :: rest) :: k, none, D, .deferred, .run⟩, ⟨fB, nB, τB, tB, rdB, DB, kB, .returning⟩] ar
      [⟨f, n, updO τ o.dst (.val .nilIface), .inRegion ops rest :: k, none, D, .deferred, .run⟩, ⟨fB, nB, τB, tB, rdB, DB, kB, .returning⟩] ar := by
  intro ts' w ρ cs hts hR
  obtain ⟨fr, m, rfl, hf, hn'⟩ := l2_cons hts
  obtain ⟨fb, m, rfl, hb, hn⟩ := l2_cons hn'
  cases hn
  obtain ⟨k', h2, h0⟩ := top_op hf
  have hfin := fin_ok (t := .inRegion ops (i :: rest) :: k) (x := .val .nilIface) (v := .nilIface) (d := o.dst) (τ2 := updO τ o.dst (.val .nilIface)) (t2 := .inRegion ops rest :: k) (by simp [finA, nth_eq, ho]) hd hf .val
  refine ⟨[fr.finish .nilIface, fb], w, ρ, Steps.one ?_, .cons hfin (.cons hb .nil), hR, Compat.refl _, Pres.refl _ _⟩
  have hgo := stepGR_op (P := P) (b := fr) (a := ⟨fr.tmps, fr.defers⟩) (k := k') (cs := fb :: cs) (w := w) (rest := rest) ho (by simp [Region.wanted, hg])
  rw [rd_none hf, Oper.semAt_none, ← h0, atR_self hf.mode] at hgo
  have hrun : (execOp (⟨fr.tmps, fr.defers⟩ : Act).eval o).run P w = .ok .recover w := by simp [execOp, hop, resolve, invoke, builtin]
  have hk := hf.kind
  have hm := hb.mode
  simp only at hk hm
  show step P (lone fr (fb :: cs) w) = .next (lone _ (fb :: cs) w)
  exact step_lone_go (by rw [hgo]; simp [stepG.apply, hrun, rd_none hf, tryRecover, hk, hm])

def notRun : FrameMode → Bool
  | .run => false
  | _ => true
theorem sim_unCol {t : List Item} {md : FrameMode} {id : Nat} (hm : notRun md = true) (hl : nth ar id = some (.dfr true)) (har : setN ar id (.dfr false) = some ar') :
    SimT P C [⟨f, n, τ, t, rd, .yld id :: D, kd, md⟩] ar [⟨f, n, τ, t, rd, D, kd, md⟩] ar' := by
  intro ts w ρ cs hts hR
  obtain ⟨fr, m, rfl, hf, hn'⟩ := l2_cons hts
  cases hn'
  obtain ⟨_, rfl⟩ := setN_spec _ _ _ _ har
  rw [nth_eq] at hl
  obtain ⟨d, ds, h0, h1, h2⟩ := l2_cons hf.defs
  cases h1 with
  | @col _ r hr =>
    obtain ⟨L, e1, e2, e3, _, b, e4, e5⟩ := obj_at hR hl hr (fun L h => h.1)
    rw [e3] at e4
    cases e4
    have hblk : L.blk = some r := by simp [Loc.blk, e3]
    have hlt : r < w.heap.size := (Array.getElem?_eq_some_iff.1 e5).1
    obtain ⟨q1, q2, q3⟩ := hR.put (L' := L) (o' := .dfr false) (w' := w.putObj r (.deferred none)) hl e1 rfl (by simp)
      (fun k _ hk => World.putObj_heap_other (fun e => hk (by rw [e]; exact .inl hblk))) rfl rfl rfl (fun b hb => .inl hb) (Nat.le_refl _) (fun _ => rfl)
      (fun hp hc => ⟨e2, r, e3, World.putObj_heap_same hlt⟩)
    refine ⟨[{ fr with defers := ds }], _, _, Steps.one ?_, .cons ⟨hf.fn, hf.size, hf.slots.mono q2 q3, hf.todo.mono fun _ _ => ItemR.mono q3, hf.rd.mono q3, h2.mono fun _ _ => DR.mono q2 q3, hf.kind, hf.mode⟩ .nil, q1, q3, q2⟩
    have htk := run_takeDeferred (P := P) e5
    have hmd := hf.mode
    simp only at hmd
    show step P (lone fr cs w) = .next (lone _ cs _)
    refine step_lone_go ?_
    cases md with
    | run => cases hm
    | returning => simp [stepG, hmd, unwind, h0, Sem.runT_eq, htk]
    | panicking ch => simp [stepG, hmd, unwind, h0, Sem.runT_eq, htk]

theorem sim_unFn {t : List Item} {md : FrameMode} {g : FuncId} {as : List AV} {gn : Func} {c : Code} (hm : notRun md = true) (hgn : P.funcs[g]? = some gn) (hb : gn.body = some c) (hnm : (gn.name == "runtime.NumGoroutine") = false) (hn : Nat.ble as.length gn.ntmps = true) :
    SimT P C [⟨f, n, τ, t, rd, .fn (.func g) as :: D, kd, md⟩] ar [⟨g, gn.ntmps, argsT as, [.code c], none, [], .deferred, .run⟩, ⟨f, n, τ, t, rd, D, kd, md⟩] ar := by
  intro ts w ρ cs hts hR
  obtain ⟨fr, m, rfl, hf, hn'⟩ := l2_cons hts
  cases hn'
  obtain ⟨d, ds, h0, h1, h2⟩ := l2_cons hf.defs
  cases h1 with
  | @fn _ _ vs cvs hl hv =>
    refine ⟨[Frame.enter P g (vs ++ cvs) .deferred, { fr with defers := ds }], w, ρ, Steps.one ?_, .cons (frR_enter (P := P) hgn hb hl.symm hn hv .deferred) (.cons ⟨hf.fn, hf.size, hf.slots, hf.todo, hf.rd, h2, hf.kind, hf.mode⟩ .nil), hR, Compat.refl _, Pres.refl _ _⟩
    have hmd := hf.mode
    simp only at hmd
    have hbe : gn.body ≠ none := by rw [hb]; simp
    have hnm' : gn.name ≠ "runtime.NumGoroutine" := by simpa using hnm
    show step P (lone fr cs w) = .next (lone _ (_ :: cs) _)
    refine step_lone_go ?_
    cases md with
    | run => cases hm
    | returning => simp [stepG, hmd, unwind, h0, callDeferred, invoke, Sem.runT_eq, callFunc, hgn, hbe, hnm']
    | panicking ch => simp [stepG, hmd, unwind, h0, callDeferred, invoke, Sem.runT_eq, callFunc, hgn, hbe, hnm']

def raiseM (ch : List PanicEntry) : FrameMode → FrameMode
  | .panicking old => .panicking (ch ++ old)
  | _ => .panicking ch
theorem sim_backP {t tB : List Item} {ch : List PanicEntry} {fB nB : Nat} {τB : Nat → AV} {rdB : Option Nat} {DB : List AV} {kB : CallKind} {mB : FrameMode} {fn : Func} (hfn : P.funcs[f]? = some fn) :
    SimT P C [⟨f, n, τ, t, rd, [], kd, .panicking ch⟩, ⟨fB, nB, τB, tB, rdB, DB, kB, mB⟩] ar [⟨fB, nB, τB, tB, rdB, DB, kB, raiseM ch mB⟩] ar := by
  intro ts w ρ cs hts hR
  obtain ⟨fr, m, rfl, hf, hn'⟩ := l2_cons hts
  obtain ⟨fb, m, rfl, hb, hn⟩ := l2_cons hn'
  cases hn
  have hfn' : fr.fn = f := hf.fn
  refine ⟨[fb.raise ch], w, ρ, Steps.one (step_leave_panicked ⟨hf.mode, l2_nil hf.defs, fn, by rw [hfn']; exact hfn⟩), .cons ?_ .nil, hR, Compat.refl _, Pres.refl _ _⟩
  have hm := hb.mode
  simp only at hm
  cases mB with
  | run => simp only [Frame.raise, hm]; exact ⟨hb.fn, hb.size, hb.slots, hb.todo, hb.rd, hb.defs, hb.kind, rfl⟩
  | returning => simp only [Frame.raise, hm]; exact ⟨hb.fn, hb.size, hb.slots, hb.todo, hb.rd, hb.defs, hb.kind, rfl⟩
  | panicking old => simp only [Frame.raise, hm]; exact ⟨hb.fn, hb.size, hb.slots, hb.todo, hb.rd, hb.defs, hb.kind, rfl⟩

/-! ### Contracts -/
theorem sim_contract {i : Nat} {rest : List Nat} {o : Oper} {fo : Operand} {xs : Array Operand} {ts : Array TypeId} {g : FuncId} {caps as : List AV} {gn : Func} {c : Code} {A A' B : List AO} {r : AV} (har : ar = A ++ B) (ho : ops[i]? = some o) (hg : o.guard = none)
    (hop : o.op = .call { callee := .value fo, args := xs, argTypes := ts }) (hfo : evA τ fo = .fn (.func g) caps) [hF : Fun P g gn c]
    (has : xs.toList.map (evA τ) ++ caps = as) (hu : AV.unders A.length as = true) (hk : Kept A.length A) (hA' : A'.length = A.length) (h : CallT P g as A (fun out A1 => out = .ret r ∧ A1 = A')) (hd : dstOK n o.dst = true) :
    SimT P C [⟨f, n, τ, .inRegion ops (i :: rest) :: k, rd, D, kd, .run⟩] ar [⟨f, n, updO τ o.dst r, .inRegion ops rest :: k, rd, D, kd, .run⟩] (A' ++ B) := by
  subst har
  intro ts' w ρ cs hts hR
  obtain ⟨fr, m, rfl, hf, hn'⟩ := l2_cons hts
  cases hn'
  obtain ⟨k', h2, h0⟩ := top_op hf
  have hfv := evA_ok (a := ⟨fr.tmps, fr.defers⟩) hf.slots fo
  rw [show evA τ fo = _ from hfo] at hfv
  obtain ⟨cvs, hfo', hcl, hcr⟩ := rv_fn hfv
  obtain ⟨hl, hv⟩ := args_rv (a := ⟨fr.tmps, fr.defers⟩) hf.slots xs hcl hcr
  rw [show xs.toList.map (evA τ) ++ caps = as from has] at hl hv
  have hcall := callT_frame (C := C) (A := A) (B := B) (S := fun out A1 => out = .ret r ∧ A1 = A') (fun w ρ X vs a b c => (h w ρ X vs a b c).mono fun e w' hd => by
    obtain ⟨out, A1, ρ1, ⟨h1, rfl⟩, h2, h3⟩ := hd
    exact ⟨out, A1, ρ1, ⟨⟨h1, rfl⟩, hA'⟩, h2, h3⟩) hu hk hR hl hv
  obtain ⟨e, w', fr', ⟨out, A1, ρ', ⟨rfl, rfl⟩, q1, q2, q3, q4⟩, hst, hfr, hlv⟩ := hcall (fr :: cs)
  have hgo := stepGR_op (P := P) (b := fr) (a := ⟨fr.tmps, fr.defers⟩) (k := k') (cs := cs) (w := w) (rest := rest) ho (by simp [Region.wanted, hg])
  rw [Oper.semAt_eq _ _ _ (fun c h => by rw [hop] at h; cases h), ← h0, atR_self hf.mode] at hgo
  have henter : step P (lone fr cs w) = .next (lone (Frame.enter P g (xs.map (⟨fr.tmps, fr.defers⟩ : Act).eval ++ cvs) .normal) (fr :: cs) w) :=
    step_lone_go (by rw [hgo]; simp [stepG.apply, call_enter (P := P) (w := w) hF.h hF.b hF.nm hop hfo', h0])
  cases e with
  | returned v =>
    exact ⟨[fr.finish v], w', ρ', .head henter (Steps.trans hst (.one (step_leave_returned hlv))), .cons (fin_ok (τ2 := updO τ o.dst r) (t2 := .inRegion ops rest :: k) (d := o.dst) (by simp [finA, nth_eq, ho]) hd (hf.mono q3 q2) q4) .nil, q1, q2, q3⟩
  | panicked chain => exact q4.elim
  | outgrown => exact q4.elim
theorem sim_contractP {i : Nat} {rest : List Nat} {o : Oper} {fo : Operand} {xs : Array Operand} {ts : Array TypeId} {g : FuncId} {caps as : List AV} {gn : Func} {c : Code} {A A' B : List AO} {t : TypeId} {x : AV} {v : Value} (har : ar = A ++ B) (ho : ops[i]? = some o) (hg : o.guard = none)
    (hop : o.op = .call { callee := .value fo, args := xs, argTypes := ts }) (hfo : evA τ fo = .fn (.func g) caps) [hF : Fun P g gn c]
    (has : xs.toList.map (evA τ) ++ caps = as) (hu : AV.unders A.length as = true) (hk : Kept A.length A) (hA' : A'.length = A.length) (hv : clV x = some v) (h : CallT P g as A (fun out A1 => out = .pan (.ifc t x) ∧ A1 = A')) :
    SimT P C [⟨f, n, τ, .inRegion ops (i :: rest) :: k, rd, D, kd, .run⟩] ar [⟨f, n, τ, .inRegion ops (i :: rest) :: k, rd, D, kd, .panicking [{ v := .iface t v, recovered := false }]⟩] (A' ++ B) := by
  subst har
  intro ts' w ρ cs hts hR
  obtain ⟨fr, m, rfl, hf, hn'⟩ := l2_cons hts
  cases hn'
  obtain ⟨k', h2, h0⟩ := top_op hf
  have hfv := evA_ok (a := ⟨fr.tmps, fr.defers⟩) hf.slots fo
  rw [show evA τ fo = _ from hfo] at hfv
  obtain ⟨cvs, hfo', hcl, hcr⟩ := rv_fn hfv
  obtain ⟨hl, hv'⟩ := args_rv (a := ⟨fr.tmps, fr.defers⟩) hf.slots xs hcl hcr
  rw [show xs.toList.map (evA τ) ++ caps = as from has] at hl hv'
  have hcall := callT_frame (C := C) (A := A) (B := B) (S := fun out A1 => out = .pan (.ifc t x) ∧ A1 = A') (fun w ρ X vs a b c => (h w ρ X vs a b c).mono fun e w' hd => by
    obtain ⟨out, A1, ρ1, ⟨h1, rfl⟩, h2, h3⟩ := hd
    exact ⟨out, A1, ρ1, ⟨⟨h1, rfl⟩, hA'⟩, h2, h3⟩) hu hk hR hl hv'
  obtain ⟨e, w', fr', ⟨out, A1, ρ', ⟨rfl, rfl⟩, q1, q2, q3, q4⟩, hst, hfr, hlv⟩ := hcall (fr :: cs)
  have hgo := stepGR_op (P := P) (b := fr) (a := ⟨fr.tmps, fr.defers⟩) (k := k') (cs := cs) (w := w) (rest := rest) ho (by simp [Region.wanted, hg])
  rw [Oper.semAt_eq _ _ _ (fun c h => by rw [hop] at h; cases h), ← h0, atR_self hf.mode] at hgo
  have henter : step P (lone fr cs w) = .next (lone (Frame.enter P g (xs.map (⟨fr.tmps, fr.defers⟩ : Act).eval ++ cvs) .normal) (fr :: cs) w) :=
    step_lone_go (by rw [hgo]; simp [stepG.apply, call_enter (P := P) (w := w) hF.h hF.b hF.nm hop hfo', h0])
  cases e with
  | returned v => exact q4.elim
  | panicked chain =>
    obtain ⟨u, rfl, hu'⟩ := q4
    obtain ⟨u2, rfl, hu2⟩ := rv_ifc hu'
    have := rv_cl hv hu2
    subst this
    have hf' := hf.mono q3 q2
    have hm := hf.mode
    simp only at hm
    refine ⟨[fr.raise _], w', ρ', .head henter (Steps.trans hst (.one (step_leave_panicked hlv))), .cons ?_ .nil, q1, q2, q3⟩
    simp only [Frame.raise, hm]
    exact ⟨hf'.fn, hf'.size, hf'.slots, hf'.todo, hf'.rd, hf'.defs, hf'.kind, rfl⟩
  | outgrown => exact q4.elim
end
end Go.Iron

/- Iron: maps with keys that are texts or numbers. -/
namespace Go.Iron
variable [Globs]
open Go.MapKept

def bl' (s : ByteArray) : List UInt8 := s.data.toList
omit [Globs] in
theorem bl'_inj {a b : ByteArray} (h : bl' a = bl' b) : a = b := ByteArray.ext (Array.ext' h)
def bytesEq : List UInt8 → List UInt8 → Bool
  | [], [] => true
  | a :: l, b :: m => match Nat.beq a.toNat b.toNat with
    | true => bytesEq l m
    | false => false
  | _, _ => false
omit [Globs] in
theorem bytesEq_iff : ∀ {l m : List UInt8}, bytesEq l m = true ↔ l = m
  | [], [] => by simp [bytesEq]
  | [], _ :: _ => by simp [bytesEq]
  | _ :: _, [] => by simp [bytesEq]
  | a :: l, b :: m => by
    unfold bytesEq
    cases h : Nat.beq a.toNat b.toNat with
    | true =>
      have : a = b := UInt8.toNat_inj.1 (Nat.eq_of_beq_eq_true h)
      simp [this, bytesEq_iff]
    | false =>
      have : a ≠ b := fun e => by rw [e, Nat.beq_refl] at h; cases h
      simp [this]
def intEq : Int → Int → Bool
  | .ofNat a, .ofNat b => Nat.beq a b
  | .negSucc a, .negSucc b => Nat.beq a b
  | _, _ => false
omit [Globs] in
theorem intEq_iff : ∀ {a b : Int}, intEq a b = true ↔ a = b
  | .ofNat a, .ofNat b => by simp only [intEq, Nat.beq_eq, Int.ofNat_eq_natCast]; omega
  | .negSucc a, .negSucc b => by simp [intEq]
  | .ofNat a, .negSucc b => by simp only [intEq, Bool.false_eq_true, false_iff]; intro h; cases h
  | .negSucc a, .ofNat b => by simp only [intEq, Bool.false_eq_true, false_iff]; intro h; cases h
def keyEq : Value → Value → Bool
  | .string a, .string b => bytesEq (bl' a) (bl' b)
  | .int _ a, .int _ b => intEq a b
  | _, _ => false
def keyD : Option IntKind → TypeDesc
  | none => .string
  | some k => .int k
omit [Globs] in
theorem keyOK_is {kk : Option IntKind} {v : Value} (h : keyOK kk v = true) : IsKey (keyD kk) v := by
  unfold keyOK at h
  split at h <;> first | exact trivial | exact rfl | cases h
omit [Globs] in
theorem keyEq_iff {kk : Option IntKind} {u v : Value} (hu : keyOK kk u = true) (hv : keyOK kk v = true) : keyEq u v = true ↔ u = v := by
  unfold keyOK at hu hv
  split at hu <;> split at hv <;> first | cases hu; done | cases hv; done | simp_all [keyEq, bytesEq_iff, intEq_iff]
  exact ⟨bl'_inj, fun h => by rw [h]⟩
def mapFind : List (Value × AV) → Value → Option AV
  | [], _ => none
  | (a, x) :: l, k => match keyEq a k with
    | true => some x
    | false => mapFind l k
def mapPut : List (Value × AV) → Value → AV → List (Value × AV)
  | [], k, y => [(k, y)]
  | (a, x) :: l, k, y => match keyEq a k with
    | true => (a, y) :: l
    | false => (a, x) :: mapPut l k y
def getB (l : List (Value × AV)) (k : Value) : Bool := match mapFind l k with
  | some (.val (.bool b)) => b
  | _ => false
def okB (l : List (Value × AV)) (k : Value) : Bool := match mapFind l k with
  | some (.val (.bool _)) => true
  | none => true
  | _ => false
def getI (l : List (Value × AV)) (k : Value) : Int := match mapFind l k with
  | some (.val (.int _ i)) => i
  | _ => 0
def okI (kd : IntKind) (l : List (Value × AV)) (k : Value) : Bool := match mapFind l k with
  | some (.val (.int .i64 _)) => match kd with | .i64 => true | _ => false
  | none => true
  | _ => false
def hasK (l : List (Value × AV)) (k : Value) : Bool := match mapFind l k with
  | some _ => true
  | none => false
def lookA (l : List (Value × AV)) (k : Value) (z : AV) : AV := match mapFind l k with
  | some x => x
  | none => z

omit [Globs] in
theorem mapR_len {w : World} {O : Nat → Prop} {ρ : List Loc} {l : List (Value × AV)} {es : List MapEntry} (h : MapR w O ρ l es) : es.length = l.length := by
  have := congrArg List.length h.1
  simpa using this
omit [Globs] in
theorem mapR_cons {w : World} {O : Nat → Prop} {ρ : List Loc} {p : Value × AV} {l : List (Value × AV)} {es : List MapEntry} (h : MapR w O ρ (p :: l) es) : ∃ e es', es = e :: es' ∧ e.key = p.1 ∧ RV w O ρ p.2 e.val ∧ MapR w O ρ l es' := by
  obtain ⟨h1, h2⟩ := h
  cases es with
  | nil => simp at h1
  | cons e es =>
    simp at h1
    exact ⟨e, es, rfl, h1.1, h2 0 p e rfl rfl, h1.2, fun i q f a b => h2 (i + 1) q f a b⟩
omit [Globs] in
theorem MapR.nil {w : World} {O : Nat → Prop} {ρ : List Loc} : MapR w O ρ [] [] := ⟨rfl, fun i p e h => by simp at h⟩
omit [Globs] in
theorem MapR.cons {w : World} {O : Nat → Prop} {ρ : List Loc} {p : Value × AV} {e : MapEntry} {l : List (Value × AV)} {es : List MapEntry} (hk : e.key = p.1) (hv : RV w O ρ p.2 e.val) (h : MapR w O ρ l es) : MapR w O ρ (p :: l) (e :: es) :=
  ⟨by simp [hk, h.1], fun i q f a b => by
    cases i with
    | zero => cases a; cases b; exact hv
    | succ i => exact h.2 i q f a b⟩

omit [Globs] in
theorem find_spec {w : World} {O : Nat → Prop} {ρ : List Loc} {kk : Option IntKind} {k : Value} (hk : keyOK kk k = true) : ∀ (l : List (Value × AV)) (es : List MapEntry) (i : Nat), MapR w O ρ l es → (∀ p ∈ l, keyOK kk p.1 = true) →
    (mapFind l k = none ∧ Instr.findNow (keyD kk) k es i = some none ∧ (∀ y, mapPut l k y = l ++ [(k, y)])) ∨
    ∃ (j : Nat) (x : AV) (e : MapEntry), mapFind l k = some x ∧ Instr.findNow (keyD kk) k es i = some (some (i + j, e.val)) ∧ es[j]? = some e ∧ e.key = k ∧ RV w O ρ x e.val ∧ ∀ y, mapPut l k y = l.set j (k, y)
  | [], es, i, h, _ => by
    have := mapR_len h
    cases es with
    | nil => exact .inl ⟨rfl, rfl, fun _ => rfl⟩
    | cons _ _ => simp at this
  | p :: l, es, i, h, ho => by
    obtain ⟨e, es', rfl, h1, h2, h3⟩ := mapR_cons h
    have hp := ho p (.head _)
    obtain ⟨r, hr, hiff⟩ := sameNow_of_keys (keyOK_is hk) (by rw [h1]; exact keyOK_is hp : IsKey (keyD kk) e.key)
    obtain ⟨a, x⟩ := p
    have hq : keyEq a k = r := by
      have := keyEq_iff hp hk
      rw [h1] at hiff
      cases r with
      | true => exact this.2 (hiff.1 rfl).symm
      | false =>
        cases hh : keyEq a k with
        | false => rfl
        | true => have := hiff.2 (this.1 hh).symm; cases this
    cases r with
    | true =>
      have e1 : e.key = k := (hiff.1 rfl).symm
      have e2 : a = k := h1.symm.trans e1
      have hq2 : keyEq k k = true := by rw [e2] at hq; exact hq
      exact .inr ⟨0, x, e, by simp [mapFind, hq], by simp [Instr.findNow, hr], rfl, e1, h2, fun y => by simp [mapPut, hq2, e2]⟩
    | false =>
      rcases find_spec hk l es' (i + 1) h3 (fun p hp => ho p (.tail _ hp)) with ⟨a1, a2, a3⟩ | ⟨j, x', e', a1, a2, a3, a4, a5, a6⟩
      · exact .inl ⟨by simp [mapFind, hq, a1], by simp [Instr.findNow, hr, a2], fun y => by simp [mapPut, hq, a3]⟩
      · exact .inr ⟨j + 1, x', e', by simp [mapFind, hq, a1], by simp [Instr.findNow, hr, a2]; omega, by simpa using a3, a4, a5, fun y => by simp [mapPut, hq, a6]⟩

def MapT (P : Program) (t : TypeId) (kk : Option IntKind) (e : TypeId) : Prop := ∃ kt, P.underlying t = some (.map kt e) ∧ P.underlying kt = some (keyD kk)

section
variable {P : Program} {f n : Nat} {C : Cx} {τ : Nat → AV} {ar ar' : List AO} {ops : Array Oper}

theorem map_at {w : World} {ρ : List Loc} (hR : RelA C ρ ar w) {id ver : Nat} {kk : Option IntKind} {l : List (Value × AV)} {v : Value} (hv : RV w (Ow C ρ ar) ρ (.row id ver) v) (hob : ar[id]? = some (.map ver kk l)) :
    ∃ L b es clock, ρ[id]? = some L ∧ L.ver = ver ∧ L.v = .map (some b) ∧ v = .map (some b) ∧ w.heap[b]? = some (.map es clock) ∧ (∀ p ∈ l, keyOK kk p.1 = true) ∧ MapR w (Ow C ρ ar) ρ l es.toList := by
  obtain ⟨L, e1, e2, e3, e4⟩ := rv_row hv
  obtain ⟨h0, b, es, ck, h1, h2, h3, h4⟩ := hR.obj id _ L hob e1
  exact ⟨L, b, es, ck, e1, h0, h1, (e4 h0.symm).trans h1, h2, h3, h4⟩

def tupO (ok : Bool) (a b : AV) : AV := match ok with
  | true => .tup [a, b]
  | false => a
theorem op_lookup {o : Oper} {t e : TypeId} {m y : Operand} {ok : Bool} {kk : Option IntKind} {id ver : Nat} {l : List (Value × AV)} {k : Value} {z : AV} (hz : ∀ w, ∃ u, (zeroValue e).run P w = .ok u w ∧ ∀ O ρ, RV w O ρ z u) (ht : MapT P t kk e) (ho : o.op = .lookup t m y ok)
    (hm : evA τ m = .row id ver) (hob : nth ar id = some (.map ver kk l)) (hy : evA τ y = .val k) (hk : keyOK kk k = true) :
    OpStep P τ ar o (tupO ok (lookA l k z) (.val (.bool (hasK l k)))) ar :=
  opStep_same fun C a w ρ hR h => by
    have hv := evA_ok h m
    rw [hm] at hv
    rw [nth_eq] at hob
    obtain ⟨L, b, es, ck, _, _, _, hvm, hb, hks, hM⟩ := map_at hR hv hob
    have hv2 := evA_ok h y
    rw [hy] at hv2
    have hy2 := rv_val hv2
    obtain ⟨kt, t1, t2⟩ := ht
    have hc : ∀ em, (Instr.checkKey em 10000 kt k).run P w = .ok () w := fun em => run_checkKey t2 (keyOK_is hk) em 9999
    obtain ⟨u, hu1, hu2⟩ := hz w
    rcases find_spec (w := w) (O := Ow C ρ ar) (ρ := ρ) hk l es.toList 0 hM hks with ⟨a1, a2, a3⟩ | ⟨j, x, e', a1, a2, a3, a4, a5, a6⟩
    · have hf := run_findKey (P := P) (w := w) t2 a2
      cases ok with
      | true =>
        refine ⟨.tuple #[u, .bool false], by simp [execOp, ho, Instr.lookup, run_underlying t1, hvm, MapKept.run_getObj_map hb, hy2, hc, hf, hu1, Result.andThen], .tup rfl fun i x v hx hv => ?_⟩
        rcases i with _ | _ | i
        · cases hx; cases hv; rw [lookA, a1]; exact hu2 _ _
        · cases hx; cases hv; rw [hasK, a1]; exact .val
        · simp at hx
      | false => exact ⟨u, by simp [execOp, ho, Instr.lookup, run_underlying t1, hvm, MapKept.run_getObj_map hb, hy2, hc, hf, hu1, Result.andThen], by rw [lookA, a1]; exact hu2 _ _⟩
    · have hf := run_findKey (P := P) (w := w) t2 a2
      cases ok with
      | true =>
        refine ⟨.tuple #[e'.val, .bool true], by simp [execOp, ho, Instr.lookup, run_underlying t1, hvm, MapKept.run_getObj_map hb, hy2, hc, hf, Result.andThen], .tup rfl fun i x v hx hv => ?_⟩
        rcases i with _ | _ | i
        · cases hx; cases hv; rw [lookA, a1]; exact a5
        · cases hx; cases hv; rw [hasK, a1]; exact .val
        · simp at hx
      | false => exact ⟨e'.val, by simp [execOp, ho, Instr.lookup, run_underlying t1, hvm, MapKept.run_getObj_map hb, hy2, hc, hf, Result.andThen], by rw [lookA, a1]; exact a5⟩

theorem op_makeMap {o : Oper} {t e : TypeId} {kk : Option IntKind} {id : Nat} (ho : o.op = .makeMap t none) (har : snocN ar (.map 0 kk []) = some (ar', id)) : OpStep P τ ar o (.row id 0) ar' := by
  intro C a w ρ hR hS
  obtain ⟨rfl, rfl⟩ := snocN_spec _ _ _ _ har
  obtain ⟨h1, h2, h3⟩ := hR.add (o := .map 0 kk []) (L := ⟨0, .map (some w.heap.size)⟩) (w' := w.alloc (.map #[] 0)) (by simp) (fun k hk => heap_alloc_old w _ hk) rfl rfl rfl (fun b hb => by simp [Loc.has, Loc.more, Loc.blk] at hb; omega)
    (fun hp => ⟨rfl, w.heap.size, #[], 0, rfl, heap_alloc_new w _, (fun p hp => by simp at hp), .nil⟩)
  refine ⟨.value (.map (some w.heap.size)), _, _, _, ?_, .inl rfl, h1, h3, h2, ?_⟩
  · simp [execOp, ho, Instr.makeMap]
  · exact .row (L := ⟨0, .map (some w.heap.size)⟩) (by rw [List.getElem?_append_right (by rw [hR.len]; exact Nat.le_refl _)]; simp [hR.len]) (Nat.le_refl _) rfl fun _ => rfl

theorem op_makeMapH {o : Oper} {t : TypeId} {kk : Option IntKind} {id : Nat} (ho : o.op = .makeMap t none) (hob : nth ar id = some .hole) (har : setN ar id (.map 1 kk []) = some ar') : OpStep P τ ar o (.row id 1) ar' := by
  intro C a w ρ hR hS
  rw [nth_eq] at hob
  obtain ⟨hid, rfl⟩ := setN_spec _ _ _ _ har
  have hid' : id < ρ.length := by rw [hR.len]; exact (List.getElem?_eq_some_iff.1 hob).1
  obtain ⟨L, hL⟩ : ∃ L, ρ[id]? = some L := ⟨ρ[id], by simp [hid']⟩
  obtain ⟨l0, l1⟩ := hR.obj id _ L hob hL
  have hno : ∀ b, ¬ L.has b := fun b hb => by simp [Loc.has, Loc.more, Loc.blk, l1] at hb
  obtain ⟨h1, h2, h3⟩ := hR.putF (o' := .map 1 kk []) (L' := ⟨1, .map (some w.heap.size)⟩) (w' := w.alloc (.map #[] 0)) hob hL (fun b hb => absurd hb (hno b)) (by simp) (fun k hk _ => heap_alloc_old w _ hk) rfl rfl rfl
    (fun b hb => by simp [Loc.has, Loc.more, Loc.blk] at hb; omega) (by rw [l0]; exact Nat.zero_le _) (fun e => by rw [l0] at e; cases e)
    (fun hp hc => ⟨rfl, w.heap.size, #[], 0, rfl, heap_alloc_new w _, (fun p hp => by simp at hp), .nil⟩)
  refine ⟨.value (.map (some w.heap.size)), _, _, _, ?_, .inl rfl, h1, h3, h2, ?_⟩
  · simp [execOp, ho, Instr.makeMap]
  · exact .row (L := ⟨1, .map (some w.heap.size)⟩) (by rw [List.getElem?_set_self hid']) (Nat.le_refl _) rfl fun _ => rfl

omit [Globs] in
theorem MapR.snoc {w : World} {O : Nat → Prop} {ρ : List Loc} {l : List (Value × AV)} {es : List MapEntry} (h : MapR w O ρ l es) {p : Value × AV} {e : MapEntry} (hk : e.key = p.1) (hv : RV w O ρ p.2 e.val) : MapR w O ρ (l ++ [p]) (es ++ [e]) := by
  have hl := mapR_len h
  refine ⟨by simp [h.1, hk], fun i q f a b => ?_⟩
  by_cases hi : i < l.length
  · rw [List.getElem?_append_left hi] at a
    rw [List.getElem?_append_left (by omega)] at b
    exact h.2 i q f a b
  · rw [List.getElem?_append_right (by omega)] at a b
    rw [hl] at b
    cases hj : i - l.length with
    | zero => rw [hj] at a b; cases a; cases b; exact hv
    | succ j => rw [hj] at a; simp at a
omit [Globs] in
theorem MapR.put {w : World} {O : Nat → Prop} {ρ : List Loc} {l : List (Value × AV)} {es : List MapEntry} (h : MapR w O ρ l es) {j : Nat} {k : Value} {y : AV} {e e' : MapEntry} (hj : es[j]? = some e) (hk : e.key = k) (hk' : e'.key = k) (hv : RV w O ρ y e'.val) : MapR w O ρ (l.set j (k, y)) (es.set j e') := by
  have hl := mapR_len h
  have hjl : j < es.length := (List.getElem?_eq_some_iff.1 hj).1
  refine ⟨?_, fun i q f a b => ?_⟩
  · apply List.ext_getElem?
    intro i
    have h1 := congrArg (fun x => x[i]?) h.1
    simp only [List.getElem?_map] at h1 ⊢
    by_cases hij : j = i
    · subst hij
      rw [List.getElem?_set_self hjl, List.getElem?_set_self (by omega)]
      simp [hk']
    · rw [List.getElem?_set_ne hij, List.getElem?_set_ne hij]
      exact h1
  · by_cases hij : j = i
    · subst hij
      rw [List.getElem?_set_self (by omega)] at a
      rw [List.getElem?_set_self hjl] at b
      cases a; cases b; exact hv
    · rw [List.getElem?_set_ne hij] at a b
      exact h.2 i q f a b

theorem op_mapUpdate {o : Oper} {t e : TypeId} {m y x : Operand} {kk : Option IntKind} {id ver : Nat} {l : List (Value × AV)} {k : Value} (ht : MapT P t kk e) (ho : o.op = .mapUpdate t m y x ∨ o.op = .insert t m y x)
    (hm : evA τ m = .row id ver) (hob : nth ar id = some (.map ver kk l)) (hy : evA τ y = .val k) (hk : keyOK kk k = true) (har : setN ar id (.map ver kk (mapPut l k (evA τ x))) = some ar') : OpStep P τ ar o (.val undef) ar' := by
  intro C a w ρ hR h
  have hv := evA_ok h m
  rw [hm] at hv
  rw [nth_eq] at hob
  obtain ⟨_, rfl⟩ := setN_spec _ _ _ _ har
  obtain ⟨L, b, es, ck, hL, hL0, hLv, hvm, hb, hks, hM⟩ := map_at hR hv hob
  have hv2 := evA_ok h y
  rw [hy] at hv2
  have hy2 := rv_val hv2
  have hvx := evA_ok h x
  obtain ⟨kt, t1, t2⟩ := ht
  have hc : ∀ em, (Instr.checkKey em 10000 kt k).run P w = .ok () w := fun em => run_checkKey t2 (keyOK_is hk) em 9999
  have hop : execOp a.eval o = (do let r ← Instr.mapUpdate t (a.eval m) (a.eval y) (a.eval x); pure .skip : Sem _) := by
    rcases ho with ho | ho <;> simp [execOp, ho]
  have hset := heap_set (o' := .map es ck) hb
  have fin : ∀ (es' : Array MapEntry) (ck' : Nat), (Instr.mapUpdate t (a.eval m) (a.eval y) (a.eval x)).run P w = .ok () { w with heap := w.heap.setIfInBounds b (.map es' ck') } →
      (∀ {w' : World} {O' : Nat → Prop} {ρ' : List Loc}, Pres w (Ow C ρ ar) w' O' → Compat ρ ρ' → MapR w' O' ρ' (mapPut l k (evA τ x)) es'.toList) → (∀ p ∈ mapPut l k (evA τ x), keyOK kk p.1 = true) →
      ∃ r v w' ρ', (execOp a.eval o).run P w = .ok r w' ∧ (r = .value v ∨ r = .skip ∧ v = undef) ∧ RelA C ρ' (ar.set id (.map ver kk (mapPut l k (evA τ x)))) w' ∧ Compat ρ ρ' ∧
      Pres w (Ow C ρ ar) w' (Ow C ρ' (ar.set id (.map ver kk (mapPut l k (evA τ x))))) ∧ RV w' (Ow C ρ' (ar.set id (.map ver kk (mapPut l k (evA τ x))))) ρ' (.val undef) v := by
    intro es' ck' hrun hmap hkeys
    have hset := heap_set (o' := Obj.map es' ck') hb
    obtain ⟨r1, r2, r3⟩ := hR.put (L' := L) (o' := .map ver kk (mapPut l k (evA τ x))) (w' := { w with heap := w.heap.setIfInBounds b (.map es' ck') }) hob hL rfl (by simp)
      (fun q _ hq => hset.2 q (fun e => hq (by rw [e]; exact .inl (by simp [Loc.blk, hLv])))) rfl rfl rfl (fun b hb => .inl hb) (Nat.le_refl _) (fun _ => rfl)
      (fun hp hc' => ⟨hL0, b, es', ck', hLv, hset.1, hkeys, hmap hp hc'⟩)
    exact ⟨.skip, undef, _, _, by rw [hop]; simp [hrun, Result.andThen], .inr ⟨rfl, rfl⟩, r1, r3, r2, .val⟩
  rcases find_spec (w := w) (O := Ow C ρ ar) (ρ := ρ) hk l es.toList 0 hM hks with ⟨a1, a2, a3⟩ | ⟨j, x', e', a1, a2, a3, a4, a5, a6⟩
  · have hf := run_findKey (P := P) (w := w) t2 a2
    refine fin (es.push { key := k, val := a.eval x, born := ck }) (ck + 1) (by simp [Instr.mapUpdate, run_underlying t1, hvm, MapKept.run_getObj_map hb, hy2, hc, hf, run_setObj_map _ hb, Result.andThen]) (fun hp hc' => ?_) (fun p hp => ?_)
    · rw [a3, Array.toList_push]
      exact (hM.mono hp hc').snoc rfl (hvx.mono hp hc')
    · rw [a3] at hp
      rcases List.mem_append.1 hp with hp | hp
      · exact hks p hp
      · simp at hp; subst hp; exact hk
  · have hf := run_findKey (P := P) (w := w) t2 a2
    have hj : es[j]? = some e' := by simpa using a3
    refine fin (es.modify j fun e => { e with key := k, val := a.eval x }) ck (by simp [Instr.mapUpdate, run_underlying t1, hvm, MapKept.run_getObj_map hb, hy2, hc, hf, hj, a4, run_keyThatStays (keyOK_is hk), run_setObj_map _ hb, Result.andThen]) (fun hp hc' => ?_) (fun p hp => ?_)
    · rw [a6]
      have e1 : (es.modify j fun e => { e with key := k, val := a.eval x }).toList = es.toList.set j { e' with key := k, val := a.eval x } := by
        apply List.ext_getElem?
        intro i
        rw [Array.getElem?_toList, Array.getElem?_modify]
        by_cases hij : j = i
        · subst hij
          rw [List.getElem?_set_self (List.getElem?_eq_some_iff.1 a3).1]
          simp [hj]
        · rw [List.getElem?_set_ne hij]; simp [hij]
      rw [e1]
      exact (hM.mono hp hc').put a3 a4 rfl (hvx.mono hp hc')
    · rw [a6] at hp
      rcases List.mem_or_eq_of_mem_set hp with hp | rfl
      · exact hks p hp
      · exact hk

theorem op_mapLen {o : Oper} {t e : TypeId} {m : Operand} {kk : Option IntKind} {id ver : Nat} {l : List (Value × AV)} (ht : MapT P t kk e) (ho : o.op = .call { callee := .builtin .len, args := #[m], argTypes := #[t] })
    (hm : evA τ m = .row id ver) (hob : nth ar id = some (.map ver kk l)) : OpStep P τ ar o (.val (.int .i64 l.length)) ar :=
  opStep_same fun C a w ρ hR h => by
    have hv := evA_ok h m
    rw [hm] at hv
    rw [nth_eq] at hob
    obtain ⟨L, b, es, ck, _, _, _, hvm, hb, hks, hM⟩ := map_at hR hv hob
    obtain ⟨kt, t1, t2⟩ := ht
    have hl := mapR_len hM
    refine ⟨.int .i64 es.size, ?_, ?_⟩
    · have hg := MapKept.run_getObj_map (P := P) hb
      simp [execOp, ho, resolve, invoke, builtin, hvm, Builtin.len_, run_underlying t1, hg, goInt, Result.andThen]
    · rw [← hl]; simp; exact .val
end
end Go.Iron

/- Iron: more of operations: texts, what stands in interfaces, numbers' kinds and bits, parts of slices. -/
namespace Go.Iron

variable [Globs]
structure TJ where
  ifs : List (Nat × Unit)
  zv : List (Nat × AV)
  strs : List (Nat × Unit)
  ints : List (Nat × IntKind)
  fns : List (Nat × Func)
  dr : List (Nat × List (Nat × Nat))
  maps : List (Nat × Option IntKind × Nat)
  arrs : List (Nat × Nat × Nat)

def ZV (P : Program) (t : TypeId) (x : AV) : Prop := P.concrete t = true ∧ ∃ z, (P.info? t).bind (fun i => i.zero) = some z ∧ toA (.iface 0 z) = some (.ifc 0 x)

class Inf2 (P : Program) (J : outParam TJ) : Prop where
  ifs : AllL (fun p : Nat × Unit => ∃ ms, P.underlying p.1 = some (.interface ms)) J.ifs
  zv : AllL (fun p : Nat × AV => ZV P p.1 p.2) J.zv
  strs : AllL (fun p : Nat × Unit => P.underlying p.1 = some .string) J.strs
  ints : AllL (fun p : Nat × IntKind => P.underlying p.1 = some (.int p.2)) J.ints
  fns : AllL (fun p : Nat × Func => P.funcs[p.1]? = some p.2 ∧ p.2.body.isSome = true ∧ (p.2.name == "runtime.NumGoroutine") = false) J.fns
  draw : P.follows .mixedOrders = true
  maps : AllL (fun p : Nat × Option IntKind × Nat => MapT P p.1 p.2.1 p.2.2) J.maps
  arrs : AllL (fun p : Nat × Nat × Nat => P.underlying p.1 = some (.array p.2.1 p.2.2)) J.arrs

def bs (l : List UInt8) : ByteArray := ⟨⟨l⟩⟩
def bl (s : ByteArray) : List UInt8 := s.data.toList
omit [Globs] in
@[simp] theorem bl_bs (l : List UInt8) : bl (bs l) = l := rfl
omit [Globs] in
@[simp] theorem bs_bl (s : ByteArray) : bs (bl s) = s := rfl
omit [Globs] in
theorem bs_toList (l : List UInt8) : (bs l).toList = l := by rw [ByteArray.toList_eq]; rfl
omit [Globs] in
theorem size_bl (s : ByteArray) : s.size = (bl s).length := by
  show s.data.size = s.data.toList.length
  rw [Array.length_toList]
def intsB (op : BinOp) (k : IntKind) (x y : Int) : Option Value :=
  match op with
  | .and => some (.int k (k.wrap (BitVec.ofInt k.bits x &&& BitVec.ofInt k.bits y).toNat))
  | .or => some (.int k (k.wrap (BitVec.ofInt k.bits x ||| BitVec.ofInt k.bits y).toNat))
  | .xor => some (.int k (k.wrap (BitVec.ofInt k.bits x ^^^ BitVec.ofInt k.bits y).toNat))
  | .andNot => some (.int k (k.wrap (BitVec.ofInt k.bits x &&& ~~~BitVec.ofInt k.bits y).toNat))
  | _ => none

def binN (J : TJ) (op : BinOp) (xt : TypeId) : AV → AV → Option (AV × Ob)
  | .ifc _ _, .val .nilIface => match lk J.ifs xt with
    | none => none
    | some _ => match op with
      | .eql => some (.val (.bool false), [])
      | .neq => some (.val (.bool true), [])
      | _ => none
  | .val (.string p), .val (.string q) => match op with
    | .add => some (.val (.string (bs (bl p ++ bl q))), [(true, Nat.ble ((bl p).length + (bl q).length) 9223372036854775807)])
    | .lss => some (.val (.bool (Op.bytesLess p.toList q.toList)), [])
    | .leq => some (.val (.bool (Op.bytesLess p.toList q.toList || p.toList == q.toList)), [])
    | .gtr => some (.val (.bool !(Op.bytesLess p.toList q.toList || p.toList == q.toList)), [])
    | .geq => some (.val (.bool !(Op.bytesLess p.toList q.toList)), [])
    | _ => none
  | .val (.int k p), .val (.int k' q) => match op with
    | .shl => some (.val (.int k (k.wrap (p * 2 ^ (min q.toNat k.bits)))), [(true, decide (0 ≤ q))])
    | .shr => some (.val (.int k (p.fdiv (2 ^ (min q.toNat k.bits)))), [(true, decide (0 ≤ q))])
    | op => match Nat.beq (IntKind.idx k) (IntKind.idx k') with
      | false => none
      | true => match intsB op k p q with
        | some v => some (.val v, [])
        | none => none
  | _, _ => none

def loP (τ : Nat → AV) : Option Operand → Option Int
  | none => some 0
  | some x => match evA τ x with
    | .val (.int _ i) => some i
    | _ => none
def hiP (τ : Nat → AV) (m : Nat) : Option Operand → Option Int
  | none => some m
  | some x => match evA τ x with
    | .val (.int _ i) => some i
    | _ => none

def part2 (l h : Int) (s : List UInt8) : List UInt8 := (s.take h.toNat).drop l.toNat
def shiftR (r : Nat → List AV) (l : Nat) : Nat → List AV := fun i => r (l + i)

def max2P (mx : Bool) : AV → AV → Option AV
  | .val (.int k p), .val (.int _ q) => some (.val (.int k (match mx with | true => if q > p then q else p | false => if q < p then q else p)))
  | _, _ => none
def foldP (mx : Bool) (τ : Nat → AV) : AV → List Operand → Option AV
  | x, [] => some x
  | x, y :: l => match max2P mx x (evA τ y) with
    | some z => foldP mx τ z l
    | none => none

def execN (I : TI) (J : TJ) (τ : Nat → AV) (ar : List AO) : Op → Option (AV × Ob)
  | .binOp op xt x y _ => binN J op xt (evA τ x) (evA τ y)
  | .typeAssert x _ t ok => match lk J.zv t with
    | none => none
    | some z => match evA τ x with
      | .ifc t' y => match Nat.beq t' t with
        | true => match ok with
          | true => some (.tup [y, .val (.bool true)], [])
          | false => match frc y with
            | some y => some (y, [])
            | none => none
        | false => match ok with
          | true => some (.tup [z, .val (.bool false)], [])
          | false => none
      | .val .nilIface => match ok with
        | true => some (.tup [z, .val (.bool false)], [])
        | false => none
      | _ => none
  | .call { callee := .builtin .len, args, argTypes } => match args.toList, argTypes.toList with
    | [x], [t] => match lk J.strs t with
      | some _ => match evA τ x with
        | .val (.string s) => some (.val (.int .i64 (bl s).length), [])
        | _ => none
      | none => none
    | _, _ => none
  | .call { callee := .builtin .max, args, argTypes } => match args.toList with
    | x :: l => match foldP true τ (evA τ x) l with
      | some z => match frc z with
        | some z => some (z, [])
        | none => none
      | none => none
    | [] => none
  | .call { callee := .builtin .min, args, argTypes } => match args.toList with
    | x :: l => match foldP false τ (evA τ x) l with
      | some z => match frc z with
        | some z => some (z, [])
        | none => none
      | none => none
    | [] => none
  | .index t x y => match lk J.strs t with
    | some _ => match evA τ x with
      | .val (.string s) => match evA τ y with
        | .val (.int _ i) => some (.val (.int .u8 ((bl s).getD i.toNat 0).toNat), [(true, inB i (bl s).length)])
        | _ => none
      | _ => none
    | none => none
  | .slice t x lo hi none => match evA τ x with
    | .val (.string s) => match lk J.strs t with
      | some _ => match loP τ lo with
        | some l => match hiP τ (bl s).length hi with
          | some h => some (.val (.string (bs (part2 l h (bl s)))), [(true, decide (0 ≤ l) && decide (l ≤ h) && decide (h ≤ (bl s).length))])
          | none => none
        | none => none
      | none => none
    | .slc sz nl m r => match lk I.el t with
      | some e => match lk I.ty e with
        | some (sz', _) => match Nat.beq sz' sz with
          | true => match loP τ lo with
            | some l => match hiP τ m hi with
              | some h => some (.slc sz nl (h - l).toNat (shiftR r l.toNat), [(true, decide (0 ≤ l) && decide (l ≤ h) && decide (h ≤ m))])
              | none => none
            | none => none
          | false => none
        | none => none
      | none => none
    | _ => none
  | .convert s t x => match evA τ x with
    | .val (.int _ p) => match lk J.ints t with
      | some k => match lk J.ints s with
        | some _ => some (.val (.int k (k.wrap p)), [])
        | none => none
      | none => none
    | _ => none
  | _ => none

section
variable {P : Program} {τ : Nat → AV} {ar : List AO} {I : TI} {J : TJ}

theorem op_ifcNil {o : Oper} {xt yt : TypeId} {x y : Operand} {t : TypeId} {z : AV} (ht : ∃ ms, P.underlying xt = some (.interface ms)) (hx : evA τ x = .ifc t z) (hy : evA τ y = .val .nilIface) :
    (o.op = .binOp .eql xt x y yt → OpStep P τ ar o (.val (.bool false)) ar) ∧ (o.op = .binOp .neq xt x y yt → OpStep P τ ar o (.val (.bool true)) ar) := by
  obtain ⟨ms, ht⟩ := ht
  have key : ∀ (d : Nat) (w : World) (u : Value), (Op.equalIn (d + 1) xt (.iface t u) .nilIface).run P w = .ok false w := by
    intro d w u
    simp [Op.equalIn, run_underlying ht]
  constructor
  all_goals
    intro ho
    refine opStep_same fun C a w ρ hR h => ?_
    have hv := evA_ok h x
    rw [hx] at hv
    obtain ⟨u, e1, _⟩ := rv_ifc hv
    have hg : ∀ op, (eqGuard op xt x y (.iface t u) .nilIface).run P w = .ok () w := fun op => by unfold eqGuard; cases op <;> rfl
    obtain ⟨q1, q2⟩ := run_binEq (P := P) (w := w) (t := xt) (x := .iface t u) (y := .nilIface) rfl (key 9999 w u)
  · exact ⟨_, by simp only [execOp, ho, e1, eval_val h hy, Sem.run_bind, hg, q1, Result.andThen_ok]; rfl, .val⟩
  · exact ⟨_, by simp only [execOp, ho, e1, eval_val h hy, Sem.run_bind, hg, q2, Result.andThen_ok]; rfl, .val⟩

theorem op_str {o : Oper} {op : BinOp} {xt yt : TypeId} {x y : Operand} {p q : ByteArray} {v : Value} (ho : o.op = .binOp op xt x y yt) (hx : evA τ x = .val (.string p)) (hy : evA τ y = .val (.string q))
    (h : ∀ w : World, (Op.stringOp op p q).run P w = .ok v w) : OpStep P τ ar o (.val v) ar :=
  opStep_same fun C a w ρ hR hs => by
    have hg : (eqGuard op xt x y (.string p) (.string q)).run P w = .ok () w := by unfold eqGuard; cases op <;> rfl
    have hb : binOp op xt (.string p) (.string q) = Op.stringOp op p q := by cases op <;> rfl
    exact ⟨v, by simp only [execOp, ho, eval_val hs hx, eval_val hs hy, Sem.run_bind, hg, Result.andThen_ok, hb, h]; rfl, .val⟩

theorem op_ints {o : Oper} {op : BinOp} {xt yt : TypeId} {x y : Operand} {k : IntKind} {p q : Int} {v : Value} (ho : o.op = .binOp op xt x y yt) (hx : evA τ x = .val (.int k p)) (hy : evA τ y = .val (.int k q))
    (hv : intsB op k p q = some v) : OpStep P τ ar o (.val v) ar :=
  opStep_same fun C a w ρ hR hs => by
    have hg : (eqGuard op xt x y (.int k p) (.int k q)).run P w = .ok () w := by unfold eqGuard; cases op <;> rfl
    have hb : (binOp op xt (.int k p) (.int k q)).run P w = .ok v w := by
      cases op <;> first | (cases hv; done) | (cases hv; simp [binOp, Op.intBits])
    exact ⟨v, by simp only [execOp, ho, eval_val hs hx, eval_val hs hy, Sem.run_bind, hg, Result.andThen_ok, hb]; rfl, .val⟩

theorem op_shift {o : Oper} {op : BinOp} {xt yt : TypeId} {x y : Operand} {k k' : IntKind} {p q : Int} {r : Int} (ho : o.op = .binOp op xt x y yt) (hx : evA τ x = .val (.int k p)) (hy : evA τ y = .val (.int k' q)) (hq : 0 ≤ q)
    (hop : op = .shl ∧ r = k.wrap (p * 2 ^ (min q.toNat k.bits)) ∨ op = .shr ∧ r = p.fdiv (2 ^ (min q.toNat k.bits))) : OpStep P τ ar o (.val (.int k r)) ar :=
  opStep_same fun C a w ρ hR hs => by
    have hq' : ¬ q < 0 := by omega
    have hg : ∀ op, (eqGuard op xt x y (.int k p) (.int k' q)).run P w = .ok () w := fun op => by unfold eqGuard; cases op <;> rfl
    rcases hop with ⟨rfl, rfl⟩ | ⟨rfl, rfl⟩
    · have hb : (binOp .shl xt (.int k p) (.int k' q)).run P w = .ok (.int k (k.wrap (p * 2 ^ (min q.toNat k.bits)))) w := by simp [binOp, Op.shift, hq']
      exact ⟨_, by simp only [execOp, ho, eval_val hs hx, eval_val hs hy, Sem.run_bind, hg, Result.andThen_ok, hb]; rfl, .val⟩
    · have hb : (binOp .shr xt (.int k p) (.int k' q)).run P w = .ok (.int k (p.fdiv (2 ^ (min q.toNat k.bits)))) w := by simp [binOp, Op.shift, hq']
      exact ⟨_, by simp only [execOp, ho, eval_val hs hx, eval_val hs hy, Sem.run_bind, hg, Result.andThen_ok, hb]; rfl, .val⟩

omit [Globs] in
theorem run_zeroV {t : TypeId} {x : AV} (h : ZV P t x) (w : World) : ∃ z, (zeroValue t).run P w = .ok z w ∧ ∀ O ρ, RV w O ρ x z := by
  obtain ⟨_, z, h1, h3⟩ := h
  obtain ⟨i, h1, h2⟩ : ∃ i, P.info? t = some i ∧ i.zero = some z := by
    cases hi : P.info? t with
    | none => simp [hi] at h1
    | some i => simp [hi] at h1; exact ⟨i, rfl, h1⟩
  refine ⟨z, by simp [zeroValue, typeInfo, h1, h2], fun O ρ => ?_⟩
  have := toA_ok (w := w) (O := O) (ρ := ρ) h3
  obtain ⟨u, e, h⟩ := rv_ifc this
  cases e
  exact h

omit [Globs] in
theorem not_ifc {t : TypeId} (h : P.concrete t = true) : ∃ d, P.underlying t = some d ∧ ∀ ms, d ≠ .interface ms := by
  unfold Program.concrete at h
  cases hd : P.underlying t with
  | none => simp [hd] at h
  | some d => exact ⟨d, rfl, fun ms e => by subst e; simp [hd] at h⟩

theorem op_assert {o : Oper} {x : Operand} {xt t t' : TypeId} {z y : AV} (hz : ZV P t z) (hx : evA τ x = .ifc t' y) :
    (t' = t → o.op = .typeAssert x xt t true → OpStep P τ ar o (.tup [y, .val (.bool true)]) ar) ∧ (t' = t → o.op = .typeAssert x xt t false → OpStep P τ ar o y ar) ∧
    (t' ≠ t → o.op = .typeAssert x xt t true → OpStep P τ ar o (.tup [z, .val (.bool false)]) ar) := by
  obtain ⟨d, hd, hd2⟩ := not_ifc hz.1
  have tup2 : ∀ {w : World} {O : Nat → Prop} {ρ : List Loc} {a : AV} {u : Value} {b : Bool}, RV w O ρ a u → RV w O ρ (.tup [a, .val (.bool b)]) (.tuple #[u, .bool b]) := by
    intro w O ρ a u b h
    refine .tup rfl fun i x v hx hv => ?_
    match i with
    | 0 => simp at hx hv; subst hx; subst hv; exact h
    | 1 => simp at hx hv; subst hx; subst hv; exact .val
    | i + 2 => simp at hx
  refine ⟨?_, ?_, ?_⟩
  · rintro rfl ho
    refine opStep_same fun C a w ρ hR h => ?_
    have hv := evA_ok h x
    rw [hx] at hv
    obtain ⟨u, e1, h1⟩ := rv_ifc hv
    refine ⟨.tuple #[u, .bool true], ?_, tup2 h1⟩
    cases d <;> first | (exact absurd rfl (hd2 _)) | simp [execOp, ho, e1, Instr.typeAssert, run_underlying hd]
  · rintro rfl ho
    refine opStep_same fun C a w ρ hR h => ?_
    have hv := evA_ok h x
    rw [hx] at hv
    obtain ⟨u, e1, h1⟩ := rv_ifc hv
    refine ⟨u, ?_, h1⟩
    cases d <;> first | (exact absurd rfl (hd2 _)) | simp [execOp, ho, e1, Instr.typeAssert, run_underlying hd]
  · intro hne ho
    refine opStep_same fun C a w ρ hR h => ?_
    have hv := evA_ok h x
    rw [hx] at hv
    obtain ⟨u, e1, h1⟩ := rv_ifc hv
    obtain ⟨zv, z1, z2⟩ := run_zeroV hz w
    refine ⟨.tuple #[zv, .bool false], ?_, tup2 (z2 _ _)⟩
    cases d <;> first | (exact absurd rfl (hd2 _)) | simp [execOp, ho, e1, Instr.typeAssert, run_underlying hd, hne, z1]
theorem op_assertNil {o : Oper} {x : Operand} {xt t : TypeId} {z : AV} (hz : ZV P t z) (hx : evA τ x = .val .nilIface) (ho : o.op = .typeAssert x xt t true) : OpStep P τ ar o (.tup [z, .val (.bool false)]) ar := by
  obtain ⟨d, hd, hd2⟩ := not_ifc hz.1
  refine opStep_same fun C a w ρ hR h => ?_
  obtain ⟨zv, z1, z2⟩ := run_zeroV hz w
  refine ⟨.tuple #[zv, .bool false], ?_, ?_⟩
  · cases d <;> first | (exact absurd rfl (hd2 _)) | simp [execOp, ho, eval_val h hx, Instr.typeAssert, run_underlying hd, z1]
  · refine .tup rfl fun i x v hx hv => ?_
    match i with
    | 0 => simp at hx hv; subst hx; subst hv; exact z2 _ _
    | 1 => simp at hx hv; subst hx; subst hv; exact .val
    | i + 2 => simp at hx

theorem op_indexStr {o : Oper} {t : TypeId} {x y : Operand} {s : ByteArray} {k : IntKind} {i : Int} (ht : P.underlying t = some .string) (ho : o.op = .index t x y) (hx : evA τ x = .val (.string s)) (hy : evA τ y = .val (.int k i)) (hi : inB i (bl s).length = true) :
    OpStep P τ ar o (.val (.int .u8 ((bl s).getD i.toNat 0).toNat)) ar :=
  opStep_same fun C a w ρ hR h => by
    obtain ⟨h1, h2⟩ := inB_iff.1 hi
    have hlt : i.toNat < (bl s).length := by omega
    have hg : s[i.toNat]? = some ((bl s).getD i.toNat 0) := by
      have hsz : i.toNat < s.size := by rw [size_bl]; exact hlt
      rw [getElem?_pos s i.toNat hsz, List.getD_eq_getElem?_getD, List.getElem?_eq_getElem hlt]
      rfl
    exact ⟨_, by simp only [execOp, ho, eval_val h hx, eval_val h hy, Instr.index, Sem.run_bind, run_underlying ht, Result.andThen_ok, asIntOf, Sem.run_pure]; simp [h1, hg], .val⟩

omit [Globs] in
theorem bounds_run {w : World} {isS : Bool} {len cap : Nat} {l h : Int} {lo hi : Option Operand} {a : Act} {O : Nat → Prop} {ρ : List Loc} (hs : Slots w O ρ τ a.tmps) (hl : loP τ lo = some l) (hh : hiP τ len hi = some h) (h1 : 0 ≤ l) (h2 : l ≤ h) (h3 : h ≤ len) (hc : len ≤ cap) :
    (Instr.sliceBounds isS len cap (lo.map a.eval) (hi.map a.eval) none).run P w = .ok (l.toNat, h.toNat, cap) w := by
  have hlo : lo = none ∧ l = 0 ∨ ∃ x k, lo = some x ∧ evA τ x = .val (.int k l) := by
    cases lo with
    | none => simp [loP] at hl; exact .inl ⟨rfl, hl.symm⟩
    | some x =>
      simp only [loP] at hl
      split at hl
      · rename_i k i hx; cases hl; exact .inr ⟨x, k, rfl, hx⟩
      · cases hl
  have hhi : hi = none ∧ h = len ∨ ∃ x k, hi = some x ∧ evA τ x = .val (.int k h) := by
    cases hi with
    | none => simp [hiP] at hh; exact .inl ⟨rfl, hh.symm⟩
    | some x =>
      simp only [hiP] at hh
      split at hh
      · rename_i k i hx; cases hh; exact .inr ⟨x, k, rfl, hx⟩
      · cases hh
  have hb : ∀ (x : Operand) (k : IntKind) (i : Int) (y : Nat) (c : BoundsCode), evA τ x = .val (.int k i) → 0 ≤ i → i ≤ y → (Instr.sliceBound (a.eval x) y c).run P w = .ok i.toNat w := by
    intro x k i y c hx hi1 hi2
    simp [Instr.sliceBound, eval_val hs hx, asIntOf, hi1, hi2]
  rcases hlo with ⟨rfl, rfl⟩ | ⟨x, k, rfl, hx⟩ <;> rcases hhi with ⟨rfl, rfl⟩ | ⟨y, k', rfl, hy⟩
  · simp [Instr.sliceBounds]
  · simp only [Instr.sliceBounds, Option.map_none, Option.map_some, Sem.run_bind, Sem.run_pure, Result.andThen_ok, hb y k' h cap _ hy (by omega) (by omega)]; simp
  · have := hb x k l len .sliceB hx (by omega) (by omega)
    simp only [Instr.sliceBounds, Option.map_none, Option.map_some, Sem.run_bind, Sem.run_pure, Result.andThen_ok]
    simp [this]
  · have := hb x k l h.toNat .sliceB hx (by omega) (by omega)
    simp only [Instr.sliceBounds, Option.map_none, Option.map_some, Sem.run_bind, Sem.run_pure, Result.andThen_ok, hb y k' h cap _ hy (by omega) (by omega)]
    simp [this]

theorem op_sliceStr {o : Oper} {t : TypeId} {x : Operand} {lo hi : Option Operand} {s : ByteArray} {l h : Int} (ht : P.underlying t = some .string) (ho : o.op = .slice t x lo hi none) (hx : evA τ x = .val (.string s)) (hl : loP τ lo = some l) (hh : hiP τ (bl s).length hi = some h)
    (h1 : 0 ≤ l) (h2 : l ≤ h) (h3 : h ≤ (bl s).length) : OpStep P τ ar o (.val (.string (bs (part2 l h (bl s))))) ar :=
  opStep_same fun C a w ρ hR hs => by
    have hb := bounds_run (P := P) (isS := false) hs hl hh h1 h2 h3 (Nat.le_refl _)
    have he : s.extract l.toNat h.toNat = bs (part2 l h (bl s)) := by
      apply ByteArray.ext
      apply Array.ext'
      simp [part2, bs, bl, ByteArray.data_extract, List.extract_eq_take_drop, List.drop_take]
    refine ⟨_, ?_, .val⟩
    rw [← size_bl] at hb
    simp only [execOp, ho, eval_val hs hx, Instr.sliceAt, Instr.slice, Sem.run_bind, run_underlying ht, Result.andThen_ok, Option.map_none, hb, Sem.run_pure, he]
    simp [hb, he]

theorem op_sliceSlc {o : Oper} {t e : TypeId} {x : Operand} {lo hi : Option Operand} {sz : Nat} {ag : Bool} {nl : Option Bool} {m : Nat} {r : Nat → List AV} {l h : Int} [he : ElT P t e] [hty : Ty P e sz ag] (ho : o.op = .slice t x lo hi none) (hx : evA τ x = .slc sz nl m r)
    (hl : loP τ lo = some l) (hh : hiP τ m hi = some h) (h1 : 0 ≤ l) (h2 : l ≤ h) (h3 : h ≤ m) : OpStep P τ ar o (.slc sz nl (h - l).toNat (shiftR r l.toNat)) ar :=
  opStep_same fun C a w ρ hR hs => by
    have hv := evA_ok hs x
    rw [hx] at hv
    obtain ⟨A, cap, g, e1, c1, c2, c3, c4, c5, c6, c7⟩ := rv_slc hv
    have hb := bounds_run (P := P) (isS := true) (cap := cap) hs hl hh h1 h2 h3 c1
    have key : ∀ i, i < (h - l).toNat → l.toNat + i < m := by intro i hi; omega
    have kpos : 0 < (h - l).toNat → 0 < m := by intro i; omega
    have klen : h.toNat - l.toNat = (h - l).toNat := by omega
    have kcap : h.toNat - l.toNat ≤ cap - l.toNat := by omega
    have kmax : cap - l.toNat ≤ maxLen := by omega
    refine ⟨.slice (if cap = l.toNat then A else A.map (·.add (l.toNat * sz))) (h.toNat - l.toNat) (cap - l.toNat), ?_, ?_⟩
    · simp only [execOp, ho, e1, Instr.sliceAt, Instr.slice, Sem.run_bind, run_underlying he.h, Result.andThen_ok, Option.map_none, hb, sizeOf_run, Sem.run_pure]
    · by_cases hcap : cap = l.toNat
      · have h0 : h.toNat - l.toNat = 0 := by omega
        rw [if_pos hcap]
        exact .slc klen kcap kmax c3 (fun i hi => by omega) (fun hn => by omega) (fun _ _ => undef) (fun i j x a hi => by omega) (fun i j x hi => by omega)
      · rw [if_neg hcap]
        refine .slc klen kcap kmax (fun b hb' => by rw [c3 b hb']; cases A <;> rfl) (fun i hi => c4 _ (key i hi)) (fun hn => ?_) (fun i j => g (l.toNat + i) j) (fun i j x a' hi hxj ha => ?_) (fun i j x hi hxj => c7 (l.toNat + i) j x (key i hi) hxj)
        · obtain ⟨a', ha, hb1, hb2⟩ := c5 (kpos (by rw [← klen]; exact hn))
          exact ⟨a'.add (l.toNat * sz), by rw [ha]; rfl, by rw [add_block]; exact hb1, by rw [add_block]; exact hb2⟩
        · cases A with
          | none => simp at ha
          | some a0 =>
            simp at ha
            subst ha
            obtain ⟨q1, q2⟩ := c6 (l.toNat + i) j x a0 (key i hi) hxj rfl
            have hadd : (a0.add (l.toNat * sz)).add (i * sz + j) = a0.add ((l.toNat + i) * sz + j) := by
              have : (l.toNat + i) * sz + j = l.toNat * sz + (i * sz + j) := by rw [Nat.add_mul]; omega
              rw [this] at q1 ⊢
              exact add_add' q1
            rw [hadd]
            exact ⟨q1, q2⟩

theorem op_convInt {o : Oper} {s t : TypeId} {x : Operand} {k k0 k1 : IntKind} {p : Int} (ht : P.underlying t = some (.int k)) (hs0 : P.underlying s = some (.int k0)) (ho : o.op = .convert s t x) (hx : evA τ x = .val (.int k1 p)) : OpStep P τ ar o (.val (.int k (k.wrap p))) ar :=
  opStep_same fun C a w ρ hR hs => ⟨_, by simp [execOp, ho, eval_val hs hx, convert, run_underlying ht, run_underlying hs0, Conv.intToInt], .val⟩

omit [Globs] in
theorem fold_ok {mx : Bool} {w : World} {O : Nat → Prop} {ρ : List Loc} {a : Act} (hs : Slots w O ρ τ a.tmps) : ∀ (l : List Operand) (x z : AV) (v : Value), foldP mx τ x l = some z → RV w O ρ x v →
    ∃ u, ((l.map a.eval).foldlM (if mx then Builtin.max2 else Builtin.min2) v).run P w = .ok u w ∧ RV w O ρ z u
  | [], x, z, v, h, hx => by
    simp [foldP] at h
    subst h
    exact ⟨v, by simp, hx⟩
  | y :: l, x, z, v, h, hx => by
    simp only [foldP] at h
    split at h
    · rename_i z1 hz
      unfold max2P at hz
      split at hz
      · rename_i k p k' q hy
        cases hz
        have e1 := rv_val hx
        subst e1
        have e2 := eval_val hs hy
        obtain ⟨u, h1, h2⟩ := fold_ok hs l _ z _ h .val
        refine ⟨u, ?_, h2⟩
        cases mx <;> simpa [Builtin.max2, Builtin.min2, e2] using h1
      · cases hz
    · cases h
end
end Go.Iron

/- Iron: the machine for several frames. -/
namespace Go.Iron
variable [Globs]
section
variable {P : Program} {f0 : FuncId} {C : Cx} {T T' T2 S S' : List AF} {ar ar' ar2 : List AO} {Q : Out → List AO → Prop} {ops : Array Oper}
variable {f n : Nat} {τ τ' : Nat → AV} {rd : Option Nat} {D : List AV} {kd : CallKind} {k : List Item} {I : TI} {J : TJ}

theorem execN_ok [hI : Inf P I] [hJ : Inf2 P J] {o : Oper} {x : AV} {ob : Ob} (h : execN I J τ ar o.op = some (x, ob)) (hob : Obs ob) : OpStep P τ ar o x ar := by
  have hob1 : ∀ {b : Bool} {l : Ob}, ob = (true, b) :: l → b = true := fun e => hob (true, _) (by rw [e]; simp) rfl
  unfold execN at h
  split at h
  · rename_i op xt x y yt ho
    unfold binN at h
    split at h
    · rename_i t z hx hy
      split at h
      · cases h
      · rename_i hk
        have := op_ifcNil (τ := τ) (ar := ar) (o := o) (yt := yt) (hJ.ifs.mem _ (lk_mem hk)) hx hy
        split at h
        · cases h; exact this.1 ho
        · cases h; exact this.2 ho
        · cases h
    · rename_i p q hx hy
      split at h
      · cases h
        have hle := hob1 rfl
        rw [Nat.ble_eq] at hle
        refine op_str ho hx hy fun w => ?_
        have h1 : ¬ (((p.size + q.size : Nat) : Int) > IntKind.i64.max) := by
          rw [size_bl, size_bl]
          have : IntKind.i64.max = 9223372036854775807 := by decide
          omega
        have e : p ++ q = bs (bl p ++ bl q) := by
          apply ByteArray.ext
          apply Array.ext'
          simp [bs, bl]
        simp only [Op.stringOp, h1, if_false, Sem.run_pure, e]
      · cases h; exact op_str ho hx hy fun w => by simp [Op.stringOp]
      · cases h; exact op_str ho hx hy fun w => by simp [Op.stringOp]
      · cases h; exact op_str ho hx hy fun w => by simp [Op.stringOp]
      · cases h; exact op_str ho hx hy fun w => by simp [Op.stringOp]
      · cases h
    · rename_i k p k' q hx hy
      split at h
      · cases h; exact op_shift ho hx hy (of_decide_eq_true (hob1 rfl)) (.inl ⟨rfl, rfl⟩)
      · cases h; exact op_shift ho hx hy (of_decide_eq_true (hob1 rfl)) (.inr ⟨rfl, rfl⟩)
      · split at h
        · cases h
        · rename_i hid
          have := IntKind.idx_inj hid
          subst this
          split at h
          · rename_i v hv; cases h; exact op_ints ho hx hy hv
          · cases h
    · cases h
  · rename_i x xt t ok ho
    split at h
    · cases h
    · rename_i z hz
      have hz : ZV P t z := hJ.zv.mem _ (lk_mem hz)
      split at h
      · rename_i t' y hx
        obtain ⟨a1, a2, a3⟩ := op_assert (τ := τ) (ar := ar) (o := o) (xt := xt) hz hx
        split at h
        · rename_i he
          have he := Nat.eq_of_beq_eq_true he
          split at h
          · cases h; exact a1 he ho
          · split at h
            · rename_i y' hy
              cases h
              rw [frc_eq hy]
              exact a2 he ho
            · cases h
        · rename_i he
          have he : t' ≠ t := fun e => by subst e; simp at he
          split at h
          · cases h; exact a3 he ho
          · cases h
      · rename_i hx
        split at h
        · cases h; exact op_assertNil hz hx ho
        · cases h
      · cases h
  · rename_i args argTypes ho
    split at h
    · rename_i y t hargs htys
      split at h
      · rename_i hk
        have hk : P.underlying t = some .string := hJ.strs.mem _ (lk_mem hk)
        split at h
        · rename_i s hx
          cases h
          have ha : args = #[y] := by cases args; simp at hargs; simp [hargs]
          have ht : argTypes = #[t] := by cases argTypes; simp at htys; simp [htys]
          subst ha; subst ht
          have := op_len_str (P := P) (τ := τ) (ar := ar) ho hk hx
          rw [size_bl] at this
          exact this
        · cases h
      · cases h
    · cases h
  · rename_i args argTypes ho
    split at h
    · rename_i x l hargs
      split at h
      · rename_i z hz
        split at h
        · rename_i z' hz'
          cases h
          rw [frc_eq hz']
          refine opStep_same fun C a w ρ hR hs => ?_
          obtain ⟨u, h1, h2⟩ := fold_ok (P := P) (w := w) hs l _ _ _ hz (evA_ok hs x)
          refine ⟨u, ?_, h2⟩
          simp only [if_true] at h1
          have hm : (args.map a.eval).toList = a.eval x :: l.map a.eval := by simp [hargs]
          simp only [execOp, ho, resolve, invoke, builtin, Sem.run_bind, Sem.run_pure, Result.andThen_ok, Builtin.max_, hm, h1]
        · cases h
      · cases h
    · cases h
  · rename_i args argTypes ho
    split at h
    · rename_i x l hargs
      split at h
      · rename_i z hz
        split at h
        · rename_i z' hz'
          cases h
          rw [frc_eq hz']
          refine opStep_same fun C a w ρ hR hs => ?_
          obtain ⟨u, h1, h2⟩ := fold_ok (P := P) (w := w) hs l _ _ _ hz (evA_ok hs x)
          refine ⟨u, ?_, h2⟩
          simp only [Bool.false_eq_true, if_false] at h1
          have hm : (args.map a.eval).toList = a.eval x :: l.map a.eval := by simp [hargs]
          simp only [execOp, ho, resolve, invoke, builtin, Sem.run_bind, Sem.run_pure, Result.andThen_ok, Builtin.min_, hm, h1]
        · cases h
      · cases h
    · cases h
  · rename_i t x y ho
    split at h
    · rename_i hk
      have hk : P.underlying t = some .string := hJ.strs.mem _ (lk_mem hk)
      split at h
      · rename_i s hx
        split at h
        · rename_i k i hy
          cases h
          exact op_indexStr hk ho hx hy (hob1 rfl)
        · cases h
      · cases h
    · cases h
  · rename_i t x lo hi ho
    split at h
    · rename_i s hx
      split at h
      · rename_i hk
        have hk : P.underlying t = some .string := hJ.strs.mem _ (lk_mem hk)
        split at h
        · rename_i l hl
          split at h
          · rename_i hh hhi
            cases h
            have := hob1 rfl
            simp only [Bool.and_eq_true, decide_eq_true_eq] at this
            exact op_sliceStr hk ho hx hl hhi this.1.1 this.1.2 this.2
          · cases h
        · cases h
      · cases h
    · rename_i sz nl m r hx
      split at h
      · rename_i e he
        haveI := hI.el.mem _ (lk_mem he)
        split at h
        · rename_i sz' ag hty
          haveI : Ty P e sz' ag := hI.ty.mem _ (lk_mem hty)
          split at h
          · rename_i hsz
            have hsz := Nat.eq_of_beq_eq_true hsz
            subst hsz
            split at h
            · rename_i l hl
              split at h
              · rename_i hh hhi
                cases h
                have := hob1 rfl
                simp only [Bool.and_eq_true, decide_eq_true_eq] at this
                exact op_sliceSlc (P := P) ho hx hl hhi this.1.1 this.1.2 this.2
              · cases h
            · cases h
          · cases h
        · cases h
      · cases h
    · cases h
  · rename_i s t x ho
    split at h
    · rename_i k p hx
      split at h
      · rename_i k' hk
        split at h
        · rename_i k0 hk0
          cases h
          exact op_convInt (hJ.ints.mem _ (lk_mem hk)) (hJ.ints.mem _ (lk_mem hk0)) ho hx
        · cases h
      · cases h
    · cases h
  · cases h
end
end Go.Iron

/- Iron: rows of bytes that came from a text. -/
namespace Go.Iron

variable [Globs]
def bytR (s : ByteArray) : Nat → Int := fun i => ((bl' s).getD i 0).toNat
def textR (m : Nat) (r : Nat → Int) : ByteArray := ⟨⟨(List.range m).map fun i => UInt8.ofNat (r i).toNat⟩⟩
def setB (r : Nat → Int) (i : Nat) (v : Int) : Nat → Int := fun k => match Nat.beq k i with
  | true => v
  | false => r k
omit [Globs] in
theorem setB_eq (r : Nat → Int) (i : Nat) (v : Int) (k : Nat) : setB r i v k = if k = i then v else r k := by
  unfold setB
  by_cases h : k = i
  · subst h; simp [Nat.beq_refl]
  · have : Nat.beq k i = false := by rw [Bool.eq_false_iff]; simp [h]
    simp [this, h]

section
variable {P : Program} {f n : Nat} {C : Cx} {τ : Nat → AV} {ar ar' : List AO} {ops : Array Oper}

theorem byt_at {w : World} {ρ : List Loc} (hR : RelA C ρ ar w) {id : Nat} {m : Nat} {r : Nat → Int} {v : Value} (hv : RV w (Ow C ρ ar) ρ (.row id 0) v) (hob : ar[id]? = some (.byt m r)) :
    ∃ L g cap cur e fz, ρ[id]? = some L ∧ L.ver = 0 ∧ L.v = .slice (some ⟨g, 0, none⟩) m cap ∧ v = .slice (some ⟨g, 0, none⟩) m cap ∧ w.heap[g]? = some (.cells cur e fz) ∧ cur.size ≤ fz.1 ∧ m ≤ cap ∧ cap ≤ maxLen ∧ m ≤ cur.size ∧ ∀ (i : Nat), i < m → cur[i]? = some (.int .u8 (r i)) := by
  obtain ⟨L, e1, e2, e3, e4⟩ := rv_row hv
  obtain ⟨h0, g, cap, cur, e, fz, h1, h2⟩ := hR.obj id _ L hob e1
  exact ⟨L, g, cap, cur, e, fz, e1, h0, h1, (e4 h0.symm).trans h1, h2⟩

theorem op_strBytes {o : Oper} {s t e : TypeId} {x : Operand} {p : ByteArray} {id : Nat} (hs : P.underlying s = some .string) (ht : P.underlying t = some (.slice e)) (he : P.underlying e = some (.int .u8)) (ho : o.op = .convert s t x)
    (hx : evA τ x = .val (.string p)) (hm : Nat.ble (bl' p).length maxLen = true) (har : snocN ar (.byt (bl' p).length (bytR p)) = some (ar', id)) : OpStep P τ ar o (.row id 0) ar' := by
  intro C a w ρ hR h
  obtain ⟨rfl, rfl⟩ := snocN_spec _ _ _ _ har
  have hv := evA_ok h x
  rw [hx] at hv
  have hv2 := rv_val hv
  have hrun := Lib.run_convert_string_bytes (P := P) w s t e p hs ht he
  have hsz : p.size = (bl' p).length := by show p.data.size = p.data.toList.length; rw [Array.length_toList]
  have hm2 : p.size ≤ maxLen := by rw [hsz]; exact Nat.le_of_ble_eq_true hm
  obtain ⟨h1, h2, h3⟩ := hR.add (o := .byt (bl' p).length (bytR p)) (L := ⟨0, .slice (some ⟨w.heap.size, 0, none⟩) p.size (grownCap w p.size 0 e)⟩) (w' := Lib.bytesWorld w e p) (by rw [Lib.bytesWorld_size]; omega) (fun k hk => Lib.bytesWorld_at_old w e p k hk)
    rfl rfl rfl (fun b hb => by simp [Loc.has, Loc.more, Loc.blk] at hb; omega)
    (fun hp => by
      have hc : p.size ≤ (Lib.bytesCells w e p).size := by
        unfold Lib.bytesCells
        rw [Array.size_append, Array.size_map]
        exact Nat.le_add_right _ _
      refine ⟨rfl, w.heap.size, _, _, e, _, by rw [hsz], Lib.bytesWorld_at_new w e p, Nat.le_refl _, ?_, ?_, ?_, ?_⟩
      · rw [← hsz]; exact grownCap_ge w _ 0 e
      · exact grownCap_le_maxLen w _ 0 e hm2
      · rw [← hsz]; exact hc
      · intro i hi
        rw [← hsz] at hi
        have hd : i < p.data.size := hi
        have : (Lib.bytesCells w e p)[i]? = some (.int .u8 (p.data[i]'hd).toNat) := by
          unfold Lib.bytesCells
          rw [Array.getElem?_append_left (by simpa using hd)]
          rw [Array.getElem?_map, Array.getElem?_eq_getElem hd]
          rfl
        rw [this]
        simp [bytR, bl', List.getD, Array.getElem?_eq_getElem hd])
  refine ⟨.value (.slice (some ⟨w.heap.size, 0, none⟩) p.size (grownCap w p.size 0 e)), _, _, _, ?_, .inl rfl, h1, h3, h2, ?_⟩
  · simp only [execOp, ho, hv2, Sem.run_bind, hrun, Result.andThen_ok, Sem.run_pure]
  · exact .row (L := ⟨0, .slice (some ⟨w.heap.size, 0, none⟩) p.size (grownCap w p.size 0 e)⟩) (by rw [List.getElem?_append_right (by rw [hR.len]; exact Nat.le_refl _)]; simp [hR.len]) (Nat.le_refl _) rfl fun _ => rfl

theorem op_byt_len {o : Oper} {x : Operand} {t e : TypeId} [ElT P t e] {id m : Nat} {r : Nat → Int} (ho : o.op = .call { callee := .builtin .len, args := #[x], argTypes := #[t] })
    (hx : evA τ x = .row id 0) (hob : nth ar id = some (.byt m r)) : OpStep P τ ar o (.val (.int .i64 m)) ar :=
  opStep_same fun C a w ρ hR h => by
    have hv := evA_ok h x
    rw [hx] at hv
    rw [nth_eq] at hob
    obtain ⟨L, g, cap, cur, e, fz, _, _, _, hv', _⟩ := byt_at hR hv hob
    exact ⟨.int .i64 m, by simp [execOp, ho, resolve, invoke, builtin, hv', Builtin.len_, run_underlying (ElT.h (P := P) (t := t)), goInt], .val⟩

theorem op_byt_index {o : Oper} {x y : Operand} {t e : TypeId} {ag : Bool} [ElT P t e] [Ty P e 1 ag] {id m : Nat} {r : Nat → Int} {kk : IntKind} {i : Int}
    (ho : o.op = .indexAddr t x y) (hx : evA τ x = .row id 0) (hob : nth ar id = some (.byt m r)) (hy : evA τ y = .val (.int kk i)) (hb : inB i m = true) : OpStep P τ ar o (.elt id 0 1 i.toNat 0) ar :=
  opStep_same fun C a w ρ hR h => by
    obtain ⟨h0, h1⟩ := inB_iff.1 hb
    have hv := evA_ok h x
    rw [hx] at hv
    rw [nth_eq] at hob
    obtain ⟨L, g, cap, cur, e', fz, e1, hL0, hLv, hv', _⟩ := byt_at hR hv hob
    have hs := Ty.size (P := P) (t := e)
    cases hinf : P.info? e with
    | none => simp [hinf] at hs
    | some info =>
      simp [hinf] at hs
      have hel := ElT.h (P := P) (t := t)
      have hc : 0 ≤ i ∧ i < (m : Int) := by omega
      refine ⟨.pointer (some ⟨g, i.toNat, none⟩), ?_, .elt e1 (by omega) rfl fun _ => ⟨g, by simp [Loc.blk, hLv], by simp⟩⟩
      have hadd : (⟨g, 0, none⟩ : Addr).add (i.toNat * 1) = ⟨g, i.toNat, none⟩ := by unfold Addr.add; split <;> simp_all
      simp only [Nat.mul_one] at hadd
      simp [execOp, ho, hv', eval_val h hy, Instr.indexAt, run_underlying hel, asIntOf, hc, sizeOf, typeInfo, hinf, hs, hadd]

theorem elt_at {w : World} {ρ : List Loc} (hR : RelA C ρ ar w) {id i : Nat} {m : Nat} {r : Nat → Int} {v : Value} (hv : RV w (Ow C ρ ar) ρ (.elt id 0 1 i 0) v) (hob : ar[id]? = some (.byt m r)) :
    ∃ L g cap cur e fz, ρ[id]? = some L ∧ L.ver = 0 ∧ L.v = .slice (some ⟨g, 0, none⟩) m cap ∧ v = .pointer (some ⟨g, i, none⟩) ∧ w.heap[g]? = some (.cells cur e fz) ∧ cur.size ≤ fz.1 ∧ m ≤ cap ∧ cap ≤ maxLen ∧ m ≤ cur.size ∧ ∀ (i : Nat), i < m → cur[i]? = some (.int .u8 (r i)) := by
  obtain ⟨L, e1, e2, e3, e4⟩ := rv_elt hv
  obtain ⟨h0, g, cap, cur, e, fz, h1, h2⟩ := hR.obj id _ L hob e1
  obtain ⟨b, hb, hb2⟩ := e4 h0.symm
  have : b = g := by simp [Loc.blk, h1] at hb; exact hb.symm
  subst this
  exact ⟨L, b, cap, cur, e, fz, e1, h0, h1, by rw [hb2]; simp, h2⟩

theorem op_byt_load {o : Oper} {p : Operand} {t : TypeId} [Ty P t 1 false] {id i m : Nat} {r : Nat → Int} (ho : o.op = .load t p) (hp : evA τ p = .elt id 0 1 i 0) (hob : nth ar id = some (.byt m r)) (hb : inB i m = true) :
    OpStep P τ ar o (.val (.int .u8 (r i))) ar :=
  opStep_same fun C a w ρ hR h => by
    have hv := evA_ok h p
    rw [hp] at hv
    rw [nth_eq] at hob
    obtain ⟨L, g, cap, cur, e, fz, e1, hL0, hLv, hv', hh, hf, hm1, hm2, hm3, hc⟩ := elt_at hR hv hob
    have hi : i < m := by have := (inB_iff.1 hb).2; omega
    obtain ⟨v, hr, hq⟩ := load_cells (P := P) (w := w) (O := Ow C ρ ar) (ρ := ρ) (t := t) (sz := 1) (ag := false) (cs := [.val (.int .u8 (r i))]) (off := 0) (a := ⟨g, i, none⟩) (fun _ => .int .u8 (r i)) rfl
      (fun j y hy => by
        rcases j with _ | j
        · refine ⟨?_, rfl⟩
          have : (⟨g, i, none⟩ : Addr).add 0 = ⟨g, i, none⟩ := by simp [Addr.add]
          rw [this]
          simp [World.cell?, hh, hc i hi]
        · simp at hy)
      (fun j y hy => by
        rcases j with _ | j
        · cases hy; exact .val
        · simp at hy)
    exact ⟨v, by simp [execOp, ho, hv', hr], hq⟩

theorem op_byt_store {o : Oper} {p y : Operand} {t : TypeId} [ht : Ty P t 1 false] {id i m : Nat} {r : Nat → Int} {v : Int} (ho : o.op = .store t p y) (hp : evA τ p = .elt id 0 1 i 0) (hob : nth ar id = some (.byt m r)) (hb : inB i m = true)
    (hy : evA τ y = .val (.int .u8 v)) (har : setN ar id (.byt m (setB r i v)) = some ar') : OpStep P τ ar o (.val undef) ar' := by
  intro C a w ρ hR h
  have hv := evA_ok h p
  rw [hp] at hv
  rw [nth_eq] at hob
  obtain ⟨_, rfl⟩ := setN_spec _ _ _ _ har
  obtain ⟨L, g, cap, cur, e, fz, e1, hL0, hLv, hv', hh, hf, hm1, hm2, hm3, hc⟩ := elt_at hR hv hob
  have hvy := evA_ok h y
  rw [hy] at hvy
  have hy2 := rv_val hvy
  have hi : i < m := by have := (inB_iff.1 hb).2; omega
  have hcell : w.cell? ⟨g, i, none⟩ = some (.int .u8 (r i)) := by simp [World.cell?, hh, hc i hi]
  have hfr : w.frozen? ⟨g, i, none⟩ = false := by
    obtain ⟨lo, hi'⟩ := fz
    simp [World.frozen?, hh]
    intro hlo
    simp at hf
    omega
  have hrun : (Instr.storeAt t (.pointer (some ⟨g, i, none⟩)) (.int .u8 v)).run P w = .ok () (w.setCell ⟨g, i, none⟩ (.int .u8 v)) := by
    have hs := ht.size
    cases hinf : P.info? t with
    | none => simp [hinf] at hs
    | some info =>
      simp [hinf] at hs
      have hadd : (⟨g, i, none⟩ : Addr).add 0 = ⟨g, i, none⟩ := by simp [Addr.add]
      simp [Instr.storeAt, Instr.sureAddr, storeVar, sizeOf, typeInfo, hinf, hs, Value.cells, storeCells, hadd, run_store_int, stored, hcell, hfr, Result.andThen]
  have hset : (w.setCell ⟨g, i, none⟩ (.int .u8 v)).heap[g]? = some (.cells (cur.setIfInBounds i (.int .u8 v)) e fz) := by
    simp [World.setCell, Array.getElem?_modify, hh]
  obtain ⟨r1, r2, r3⟩ := hR.put (L' := L) (o' := .byt m (setB r i v)) (w' := w.setCell ⟨g, i, none⟩ (.int .u8 v)) hob e1 rfl (by simp [World.setCell])
    (fun q _ hq => by
      have : g ≠ q := fun e => hq (.inl (by simp [Loc.blk, hLv, e]))
      simp [World.setCell, Array.getElem?_modify, this]) rfl rfl rfl (fun b hb => .inl hb) (Nat.le_refl _) (fun _ => rfl)
    (fun hp' hc' => ⟨hL0, g, cap, _, e, fz, hLv, hset, by simpa using hf, hm1, hm2, by simpa using hm3, fun k hk => by
      rw [setB_eq]
      by_cases hki : k = i
      · subst hki
        rw [if_pos rfl, Array.getElem?_setIfInBounds_self_of_lt (by omega)]
      · rw [if_neg hki, Array.getElem?_setIfInBounds_ne (Ne.symm hki)]
        exact hc k hk⟩)
  exact ⟨.skip, undef, _, _, by simp [execOp, ho, hv', hy2, hrun, Result.andThen], .inr ⟨rfl, rfl⟩, r1, r3, r2, .val⟩

omit [Globs] in
theorem textR_fold (r : Nat → Int) (m : Nat) : ((List.range m).map r).foldl (fun s n => s.push (UInt8.ofNat n.toNat)) ByteArray.empty = textR m r := by
  have key : ∀ (l : List Nat) (acc : List UInt8), (l.map r).foldl (fun s n => s.push (UInt8.ofNat n.toNat)) (⟨⟨acc⟩⟩ : ByteArray) = ⟨⟨acc ++ l.map fun i => UInt8.ofNat (r i).toNat⟩⟩ := by
    intro l
    induction l with
    | nil => intro acc; simp
    | cons a l ih =>
      intro acc
      simp only [List.map_cons, List.foldl_cons]
      have : (⟨⟨acc⟩⟩ : ByteArray).push (UInt8.ofNat (r a).toNat) = ⟨⟨acc ++ [UInt8.ofNat (r a).toNat]⟩⟩ := by simp [ByteArray.push]
      rw [this, ih]
      simp
  have := key (List.range m) []
  exact this

theorem op_byt_text {o : Oper} {x : Operand} {s t e : TypeId} {id m : Nat} {r : Nat → Int} (hs : P.underlying s = some (.slice e)) (he : P.underlying e = some (.int .u8)) (ht : P.underlying t = some .string) (ho : o.op = .convert s t x)
    (hx : evA τ x = .row id 0) (hob : nth ar id = some (.byt m r)) : OpStep P τ ar o (.val (.string (textR m r))) ar :=
  opStep_same fun C a w ρ hR h => by
    have hv := evA_ok h x
    rw [hx] at hv
    rw [nth_eq] at hob
    obtain ⟨L, g, cap, cur, e', fz, e1, hL0, hLv, hv', hh, hf, hm1, hm2, hm3, hc⟩ := byt_at hR hv hob
    have hl : (loadCells ⟨g, 0, none⟩ m).run P w = .ok (((List.range m).map r).map (Value.int .u8)).toArray w := by
      have := run_loadCells (P := P) (w := w) (⟨g, 0, none⟩ : Addr) m (fun i => .int .u8 (r i)) (fun j hj => by
        have hadd : (⟨g, 0, none⟩ : Addr).add j = ⟨g, j, none⟩ := by unfold Addr.add; split <;> simp_all
        rw [hadd]
        simp [World.cell?, hh, hc j hj])
      rw [this]
      simp
    have h1 := run_convert_bytes_string (P := P) w s t e (some ⟨g, 0, none⟩) m cap hs he ht
    have h2 := run_bytesToString (P := P) w ⟨g, 0, none⟩ m cap ((List.range m).map r) hl
    rw [textR_fold] at h2
    exact ⟨.string (textR m r), by simp only [execOp, ho, hv', Sem.run_bind, h1, h2, Result.andThen_ok, Sem.run_pure], .val⟩
def getU : List AV → Int
  | [.val (.int .u8 z)] => z
  | _ => 0
def isU : List AV → Bool
  | [.val (.int .u8 _)] => true
  | _ => false
omit [Globs] in
theorem isU_get {l : List AV} (h : isU l = true) : l = [.val (.int .u8 (getU l))] := by
  unfold isU at h
  split at h
  · rfl
  · cases h
def allU (m : Nat) (r : Nat → List AV) : Bool := (List.range m).all fun i => isU (r i)
theorem op_row_text {o : Oper} {x : Operand} {s t e e' : TypeId} {id ver m : Nat} {r : Nat → List AV} (hs : P.underlying s = some (.slice e)) (he : P.underlying e = some (.int .u8)) (ht : P.underlying t = some .string) (ho : o.op = .convert s t x)
    (hx : evA τ x = .row id ver) (hob : nth ar id = some (.row e' 1 ver m r)) (hu : allU m r = true) (hm : Nat.blt 0 m = true) : OpStep P τ ar o (.val (.string (textR m fun i => getU (r i)))) ar :=
  opStep_same fun C a w ρ hR h => by
    have hv := evA_ok h x
    rw [hx] at hv
    obtain ⟨L, e1, e2, e3, e4⟩ := rv_row hv
    rw [nth_eq] at hob
    obtain ⟨hL, xs, hown, hc⟩ := hR.obj id _ L hob e1
    have hv' := e4 hL.symm
    have hm0 : 0 < m := by simpa using hm
    have hu' : ∀ i, i < m → isU (r i) = true := by simpa [allU] using hu
    rcases hown.2 with ⟨_, h0⟩ | ⟨g, cap, cur, hlv, _, hg, hm1, hm2, hm3, hm4⟩
    · omega
    · rw [hlv] at hv'
      have hl : (loadCells ⟨g, 0, none⟩ m).run P w = .ok (((List.range m).map fun i => getU (r i)).map (Value.int .u8)).toArray w := by
        have := run_loadCells (P := P) (w := w) (⟨g, 0, none⟩ : Addr) m (fun i => .int .u8 (getU (r i))) (fun j hj => by
          have hadd : (⟨g, 0, none⟩ : Addr).add j = ⟨g, j, none⟩ := by unfold Addr.add; split <;> simp_all
          rw [hadd]
          have hjc : j < cur.size := by omega
          have hxj : xs[j]? = some cur[j] := by rw [← hm4, List.getElem?_take, if_pos (by omega)]; simp [hjc]
          have := (hc.get j 0 (.val (.int .u8 (getU (r j)))) cur[j] hj (by rw [isU_get (hu' j hj)]; rfl) (by simpa using hxj)).1
          have := rv_val this
          simp [World.cell?, hg, hjc, this])
        rw [this]
        simp
      have h1 := run_convert_bytes_string (P := P) w s t e (some ⟨g, 0, none⟩) m cap hs he ht
      have h2 := run_bytesToString (P := P) w ⟨g, 0, none⟩ m cap ((List.range m).map fun i => getU (r i)) hl
      rw [textR_fold] at h2
      exact ⟨.string (textR m fun i => getU (r i)), by simp only [execOp, ho, hv', Sem.run_bind, h1, h2, Result.andThen_ok, Sem.run_pure], .val⟩
end
end Go.Iron

/- Iron: the machine's further operations: maps, parts of arrays. -/
namespace Go.Iron
variable [Globs]
section
variable {P : Program} {C : Cx} {ar ar' ar2 : List AO} {τ τ' : Nat → AV} {I : TI} {J : TJ}

omit [Globs] in
theorem part_run {w : World} {O : Nat → Prop} {ρ : List Loc} {t : TypeId} {sz off : Nat} {ag : Bool} [ht : Ty P t sz ag] {cs : List AV} {vs : Array Value} {y : AV} (e2 : cs.length = vs.size) (e3 : ∀ (i : Nat) x u, cs[i]? = some x → vs[i]? = some u → RV w O ρ x u) (e4 : ∀ (i : Nat) u, vs[i]? = some u → u.oneCell' = true) (hy : loadA ag sz cs off = some y) : ∃ v, (part t vs off).run P w = .ok v w ∧ RV w O ρ y v := by
  cases ag with
  | false =>
    simp only [loadA, nth_eq] at hy
    have hi : off < vs.size := by rw [← e2]; exact (List.getElem?_eq_some_iff.1 hy).1
    refine ⟨vs[off], ?_, e3 off y _ hy (by simp [hi])⟩
    simp [part, isAgg_run (P := P) (t := t) (sz := sz) (ag := false), hi]
  | true =>
    simp only [loadA] at hy
    cases hs : sub cs off sz with
    | none => simp [hs] at hy
    | some r =>
      simp [hs] at hy
      subst hy
      obtain ⟨hl, hr⟩ := sub_spec cs off sz r hs
      have hfit : ∀ j, j < sz → off + j < vs.size := fun j hj => by
        have : cs[off + j]? = r[j]? := hr j hj
        have hjr : j < r.length := by omega
        rw [List.getElem?_eq_getElem hjr] at this
        rw [← e2]; exact (List.getElem?_eq_some_iff.1 this).1
      refine ⟨.agg (vs.extract off (off + sz)), ?_, ?_⟩
      · simp [part, isAgg_run (P := P) (t := t) (sz := sz) (ag := true), sizeOf_run (P := P) (t := t) (sz := sz) (ag := true)]
      · have hsz : sz = 0 ∨ off + sz ≤ vs.size := by
          rcases Nat.eq_zero_or_pos sz with h0 | h0
          · exact .inl h0
          · have := hfit (sz - 1) (by omega); right; omega
        have hel : ∀ i v, (vs.extract off (off + sz))[i]? = some v → i < sz ∧ vs[off + i]? = some v := fun i v hv => by
          have hi := (Array.getElem?_eq_some_iff.1 hv).1
          simp at hi
          have : i < sz := by omega
          refine ⟨this, ?_⟩
          rw [Array.getElem?_extract, if_pos hi] at hv
          exact hv
        refine .agg ?_ (fun i x v hx hv => ?_) (fun i v hv => ?_)
        · rw [hl]; simp; rcases hsz with h0 | h0 <;> omega
        · obtain ⟨hi, hv'⟩ := hel i v hv
          exact e3 (off + i) x v (by rw [hr i hi]; exact hx) hv'
        · obtain ⟨hi, hv'⟩ := hel i v hv
          exact e4 _ _ hv'

theorem op_indexArr {o : Oper} {x y : Operand} {t e : TypeId} {sz len : Nat} {ag : Bool} [ht : Ty P e sz ag] {cs : List AV} {kk : IntKind} {i : Int} {z : AV} (ha : P.underlying t = some (.array len e)) (ho : o.op = .index t x y) (hx : evA τ x = .agg cs)
    (hy : evA τ y = .val (.int kk i)) (hi : inB i len = true) (hz : loadA ag sz cs (i.toNat * sz) = some z) : OpStep P τ ar o z ar :=
  opStep_same fun C a w ρ hR h => by
    have hv := evA_ok h x
    rw [hx] at hv
    obtain ⟨vs, e1, e2, e3, e4⟩ := rv_agg hv
    have hv2 := evA_ok h y
    rw [hy] at hv2
    have hy2 := rv_val hv2
    obtain ⟨v, hr, hq⟩ := part_run (P := P) (w := w) (t := e) e2 e3 e4 hz
    have hi2 : 0 ≤ i ∧ i < len := by simpa [inB] using hi
    refine ⟨v, ?_, hq⟩
    simp [execOp, ho, e1, hy2, Instr.index, asIntOf, run_underlying ha, hi2, sizeOf_run (P := P) (t := e) (sz := sz) (ag := ag), hr, Result.andThen]

theorem op_buildArr {o : Oper} {t e : TypeId} {len sz bytes : Nat} {ag : Bool} {parts : Array (Nat × Operand)} {z0 cs : List AV} {as : List (Nat × List AV)} [hz : ZeroT P t z0 bytes] [ht : Ty P e sz ag] (ha : P.underlying t = some (.array len e)) (ho : o.op = .build t parts)
    (has : partsA τ parts.toList = some as) (hc : fillA (rowPl sz) z0 as = some cs) : OpStep P τ ar o (.agg cs) ar :=
  opStep_same fun C a w ρ hR h => by
    obtain ⟨i, z, z1, z2, z3, z4, z4', z5, z6, z7, z8⟩ := hz.all
    obtain ⟨vs', h1, h2⟩ := fill_ok (place := rowPl sz) as _ z0 cs z.cells (zero_cells z5 z6) (partsA_ok h _ _ has) hc
    refine ⟨.agg vs', ?_, ?_⟩
    · have hparts : (parts.map fun x => (x.1, a.eval x.2)).toList = parts.toList.map fun p => (p.1, a.eval p.2) := by simp
      have h1' : Instr.fill (fun i => some (i * sz, sz)) z.cells (parts.toList.map fun p => (p.1, a.eval p.2)) = some vs' := h1
      simp only [execOp, ho, Instr.build, Sem.run_bind, zeroValue, typeInfo, run_program, Result.andThen_ok, z1, z2, Sem.run_pure, run_underlying ha, sizeOf_run (P := P) (t := e) (sz := sz) (ag := ag), hparts, h1']
    · refine .agg (by have := h2.1; simp at this; omega) (fun i x v hx hv => (h2.2 i x v hx (by simpa using hv)).1) (fun i v hv => ?_)
      have hi : i < cs.length := by have := h2.1; simp at this; have := (Array.getElem?_eq_some_iff.1 hv).1; omega
      exact (h2.2 i cs[i] v (by simp [hi]) (by simpa using hv)).2

def kkEq : Option IntKind → Option IntKind → Bool
  | none, none => true
  | some a, some b => Nat.beq (IntKind.idx a) (IntKind.idx b)
  | _, _ => false
omit [Globs] in
theorem kkEq_eq {a b : Option IntKind} (h : kkEq a b = true) : a = b := by
  unfold kkEq at h
  split at h
  · rfl
  · rw [IntKind.idx_inj h]
  · cases h

def lookT (l : List (Value × AV)) (k : Value) (ok : Bool) : AV → AV × Ob
  | .val (.bool false) => match ok with
    | true => (.tup [.val (.bool (getB l k)), .val (.bool (hasK l k))], [(true, okB l k)])
    | false => (.val (.bool (getB l k)), [(true, okB l k)])
  | .val (.int .i64 (.ofNat 0)) => match ok with
    | true => (.tup [.val (.int .i64 (getI l k)), .val (.bool (hasK l k))], [(true, okI .i64 l k)])
    | false => (.val (.int .i64 (getI l k)), [(true, okI .i64 l k)])
  | z => match ok with
    | true => (.tup [lookA l k z, .val (.bool (hasK l k))], [])
    | false => (lookA l k z, [])
omit [Globs] in
theorem lookT_eq {l : List (Value × AV)} {k : Value} {ok : Bool} {z : AV} (hob : Obs (lookT l k ok z).2) : (lookT l k ok z).1 = tupO ok (lookA l k z) (.val (.bool (hasK l k))) := by
  unfold lookT at hob ⊢
  split
  · have h2 : okB l k = true → lookA l k (.val (.bool false)) = .val (.bool (getB l k)) := by
      unfold okB lookA getB
      cases mapFind l k with
      | none => intro _; rfl
      | some y => split <;> simp_all
    cases ok with
    | true => rw [h2 (hob (true, _) (.head _) rfl)]; rfl
    | false => rw [h2 (hob (true, _) (.head _) rfl)]; rfl
  · have h2 : okI .i64 l k = true → lookA l k (.val (.int .i64 (.ofNat 0))) = .val (.int .i64 (getI l k)) := by
      unfold okI lookA getI
      cases mapFind l k with
      | none => intro _; rfl
      | some y => split <;> simp_all
    cases ok with
    | true => rw [h2 (hob (true, _) (.head _) rfl)]; rfl
    | false => rw [h2 (hob (true, _) (.head _) rfl)]; rfl
  · cases ok <;> rfl

def execL (I : TI) (J : TJ) (τ : Nat → AV) (ar : List AO) : Op → Option (AV × Ob)
  | .lookup t m y ok => match lk J.maps t with
    | none => none
    | some (kk, e) => match lk J.zv e with
      | none => none
      | some z => match evA τ m with
        | .row id ver => match nth ar id with
          | some (.map ver' kk' l) => match Nat.beq ver' ver with
            | false => none
            | true => match kkEq kk kk' with
              | true => match evA τ y with
                | .val k => match keyOK kk k with
                  | true => some (lookT l k ok z)
                  | false => none
                | _ => none
              | false => none
          | _ => none
        | _ => none
  | .index t x y => match lk J.arrs t with
    | none => none
    | some (len, e) => match lk I.ty e with
      | none => none
      | some (sz, ag) => match evA τ x with
        | .agg cs => match evA τ y with
          | .val (.int _ i) => match loadA ag sz cs (i.toNat * sz) with
            | some z => some (z, [(true, inB i len)])
            | none => none
          | _ => none
        | _ => none
  | .build t parts => match lk J.arrs t with
    | none => none
    | some (_, e) => match lk I.ty e, lk I.zero t with
      | some (sz, _), some (z0, _) => match partsA τ parts.toList with
        | some as => match fillA (rowPl sz) z0 as with
          | some cs => some (.agg cs, [])
          | none => none
        | none => none
      | _, _ => none
  | .call { callee := .builtin .len, args, argTypes } => match args.toList, argTypes.toList with
    | [x], [t] => match lk J.maps t with
      | none => none
      | some (kk, _) => match evA τ x with
        | .row id ver => match nth ar id with
          | some (.map ver' kk' l) => match Nat.beq ver' ver with
            | false => none
            | true => match kkEq kk kk' with
              | true => some (.val (.int .i64 l.length), [])
              | false => none
          | _ => none
        | _ => none
    | _, _ => none
  | _ => none
theorem op_nilNil {o : Oper} {xt yt : TypeId} {x : Operand} (ht : ∃ ms, P.underlying xt = some (.interface ms)) (hx : evA τ x = .val .nilIface) :
    (o.op = .binOp .eql xt x (.const .nilIface) yt → OpStep P τ ar o (.val (.bool true)) ar) ∧ (o.op = .binOp .neq xt x (.const .nilIface) yt → OpStep P τ ar o (.val (.bool false)) ar) := by
  obtain ⟨ms, ht⟩ := ht
  have key : ∀ (d : Nat) (w : World), (Op.equalIn (d + 1) xt .nilIface .nilIface).run P w = .ok true w := by
    intro d w
    simp [Op.equalIn, run_underlying ht]
  constructor
  all_goals
    intro ho
    refine opStep_same fun C a w ρ hR h => ?_
    have hg : ∀ op, (eqGuard op xt x (.const .nilIface) .nilIface .nilIface).run P w = .ok () w := fun op => by unfold eqGuard; cases op <;> (cases x <;> simp)
    have hy : a.eval (.const .nilIface) = .nilIface := rfl
    obtain ⟨q1, q2⟩ := run_binEq (P := P) (w := w) (t := xt) (x := .nilIface) (y := .nilIface) rfl (key 9999 w)
  · exact ⟨_, by simp only [execOp, ho, eval_val h hx, hy, Sem.run_bind, hg, q1, Result.andThen_ok]; rfl, .val⟩
  · exact ⟨_, by simp only [execOp, ho, eval_val h hx, hy, Sem.run_bind, hg, q2, Result.andThen_ok]; rfl, .val⟩

theorem op_nilCheck {o : Oper} {x : Operand} (ho : o.op = .nilCheck x) (h : ∀ {C : Cx} {a : Act} {w : World} {ρ : List Loc}, RelA C ρ ar w → Slots w (Ow C ρ ar) ρ τ a.tmps → ∃ p, a.eval x = .pointer (some p)) : OpStep P τ ar o (evA τ x) ar :=
  opStep_same fun C a w ρ hR hs => by
    obtain ⟨p, hp⟩ := h hR hs
    refine ⟨_, ?_, evA_ok hs x⟩
    simp only [execOp, ho, hp]
    rfl

omit [Globs] in
theorem run_indexAt_ok {w : World} {t e : TypeId} {len sz : Nat} {ag : Bool} [ht : Ty P e sz ag] (ha : P.underlying t = some (.array len e)) (a : Addr) (kk : IntKind) {i : Int} (hi : inB i len = true) :
    (Instr.indexAt t (.pointer (some a)) (.int kk i)).run P w = .ok (.pointer (some (a.add (i.toNat * sz)))) w := by
  have hc : 0 ≤ i ∧ i < (len : Int) := inB_iff.1 hi
  simp [Instr.indexAt, asIntOf, run_underlying ha, Instr.sureAddr, hc, sizeOf_run (P := P) (t := e) (sz := sz) (ag := ag)]
theorem op_idx_loc {o : Oper} {x y : Operand} {t e : TypeId} {len sz : Nat} {ag : Bool} [ht : Ty P e sz ag] {cs : List AV} {o1 : Nat} {kk : IntKind} {i : Int} (ha : P.underlying t = some (.array len e))
    (ho : o.op = .indexAddr t x y) (hx : evA τ x = .loc cs o1) (hy : evA τ y = .val (.int kk i)) (hi : inB i len = true) : OpStep P τ ar o (.loc cs (Nat.add o1 (Nat.mul i.toNat sz))) ar :=
  opStep_same fun C a w ρ _ h => by
    show ∃ v, _ ∧ RV _ _ _ (.loc cs (o1 + i.toNat * sz)) v
    generalize hoff : i.toNat * sz = off
    have hv := evA_ok h x
    rw [hx] at hv
    obtain ⟨ad, g, e1, e2, e3, e4, e5⟩ := rv_loc hv
    refine ⟨.pointer (some (ad.add off)), by simp [execOp, ho, e1, eval_val h hy, run_indexAt_ok (P := P) (sz := sz) (ag := ag) ha ad kk hi, hoff], ?_⟩
    refine .loc (by rw [add_block]; exact e2) (by rw [add_block]; exact e3) (fun j => g (off + j)) (fun j z hz => ?_) (fun j z hz => ?_)
    · rw [Nat.add_assoc] at hz
      obtain ⟨c1, c2⟩ := e4 _ _ hz
      exact ⟨by rw [add_add' c1]; exact c1, c2⟩
    · rw [Nat.add_assoc] at hz
      exact e5 _ _ hz
theorem op_idx_ptr {o : Oper} {x y : Operand} {t e : TypeId} {len sz : Nat} {ag : Bool} [ht : Ty P e sz ag] {id ver o1 : Nat} {ob : AO} {kk : IntKind} {i : Int} (ha : P.underlying t = some (.array len e))
    (ho : o.op = .indexAddr t x y) (hx : evA τ x = .ptr id ver o1) (hy : evA τ y = .val (.int kk i)) (hob : nth ar id = some ob) (hver : (match ob with | .box _ _ => some 0 | _ => none) = some ver) (hi : inB i len = true) :
    OpStep P τ ar o (.ptr id ver (Nat.add o1 (Nat.mul i.toNat sz))) ar :=
  opStep_same fun C a w ρ hR h => by
    show ∃ v, _ ∧ RV _ _ _ (.ptr id ver (o1 + i.toNat * sz)) v
    generalize hoff : i.toNat * sz = off
    have hv := evA_ok h x
    rw [hx] at hv
    obtain ⟨L, e1, e2, e3, e4⟩ := rv_ptr hv
    rw [nth_eq] at hob
    have hL : ver = L.ver := by
      have := hR.obj id ob L hob e1
      cases ob with
      | gone => simp at hver
      | hole => simp at hver
      | box e cs => simp at hver; rw [← hver]; exact this.1.symm
      | row e sz v m r => simp at hver
      | loop _ _ _ _ _ _ _ _ => simp at hver
      | fam _ _ _ _ _ _ => simp at hver
      | dfr _ => simp at hver
      | iter _ _ => simp at hver
      | map _ _ _ => simp at hver
      | byt _ _ => simp at hver
    obtain ⟨b, hb, e5⟩ := e4 hL
    have hadd : (⟨b, o1, none⟩ : Addr).add off = ⟨b, o1 + off, none⟩ := by unfold Addr.add; split <;> simp_all
    exact ⟨.pointer (some ((⟨b, o1, none⟩ : Addr).add off)), by simp [execOp, ho, e5, eval_val h hy, run_indexAt_ok (P := P) (sz := sz) (ag := ag) ha _ kk hi, hoff], .ptr e1 e2 rfl fun _ => ⟨b, hb, by rw [hadd]⟩⟩
theorem op_idx_elt {o : Oper} {x y : Operand} {t e e2 : TypeId} {len sz : Nat} {ag : Bool} [ht : Ty P e sz ag] {id ver sze i1 o1 m : Nat} {r : Nat → List AV} {kk : IntKind} {i : Int} (ha : P.underlying t = some (.array len e))
    (ho : o.op = .indexAddr t x y) (hx : evA τ x = .elt id ver sze i1 o1) (hy : evA τ y = .val (.int kk i)) (hob : nth ar id = some (.row e2 sze ver m r)) (hi : inB i len = true) :
    OpStep P τ ar o (.elt id ver sze i1 (Nat.add o1 (Nat.mul i.toNat sz))) ar :=
  opStep_same fun C a w ρ hR h => by
    show ∃ v, _ ∧ RV _ _ _ (.elt id ver sze i1 (o1 + i.toNat * sz)) v
    generalize hoff : i.toNat * sz = off
    have hv := evA_ok h x
    rw [hx] at hv
    obtain ⟨L, e1, e2, e3, e4⟩ := rv_elt hv
    rw [nth_eq] at hob
    have hL : ver = L.ver := (hR.obj id _ L hob e1).1.symm
    obtain ⟨b, hb, e5⟩ := e4 hL
    have hadd : (⟨b, i1 * sze + o1, none⟩ : Addr).add off = ⟨b, i1 * sze + (o1 + off), none⟩ := by unfold Addr.add; split <;> simp_all; omega
    exact ⟨.pointer (some ((⟨b, i1 * sze + o1, none⟩ : Addr).add off)), by simp [execOp, ho, e5, eval_val h hy, run_indexAt_ok (P := P) (sz := sz) (ag := ag) ha _ kk hi, hoff], .elt e1 e2 rfl fun _ => ⟨b, hb, by rw [hadd]⟩⟩
def idxP (sz len : Nat) (ar : List AO) : AV → AV → Option (AV × Ob)
  | .loc cs o1, .val (.int _ i) => some (.loc cs (Nat.add o1 (Nat.mul i.toNat sz)), [(true, inB i len)])
  | .ptr id ver o1, .val (.int _ i) => match objP ar id ver with
    | some _ => some (.ptr id ver (Nat.add o1 (Nat.mul i.toNat sz)), [(true, inB i len)])
    | none => none
  | .elt id ver sze i1 o1, .val (.int _ i) => match rowP ar id ver with
    | some (_, sz', _, _, ok) => match Nat.beq sz' sze with
      | true => some (.elt id ver sze i1 (Nat.add o1 (Nat.mul i.toNat sz)), [(true, inB i len), (true, ok)])
      | false => none
    | none => none
  | _, _ => none
theorem idxP_ok {o : Oper} {x y : Operand} {t e : TypeId} {len sz : Nat} {ag : Bool} [ht : Ty P e sz ag] (ha : P.underlying t = some (.array len e)) (ho : o.op = .indexAddr t x y) {z : AV} {ob : Ob} (h : idxP sz len ar (evA τ x) (evA τ y) = some (z, ob)) (hob : Obs ob) : OpStep P τ ar o z ar := by
  unfold idxP at h
  split at h
  · rename_i hx hy
    cases h
    exact op_idx_loc ha ho hx hy (hob (true, _) (.head _) rfl)
  · rename_i hx hy
    split at h
    · rename_i pr hob'
      obtain ⟨ob', cs⟩ := pr
      obtain ⟨h1, h2⟩ := objP_spec hob'
      cases h
      refine op_idx_ptr ha ho hx hy h1 ?_ (hob (true, _) (.head _) rfl)
      cases ob' <;> simp [AO.cells] at h2 <;> simp [h2.1]
    · cases h
  · rename_i hx hy
    split at h
    · rename_i hrw
      split at h
      · rename_i hb
        cases h
        have := rowP_spec hrw (hob (true, _) (.tail _ (.head _)) rfl)
        rw [Nat.eq_of_beq_eq_true hb] at this
        exact op_idx_elt ha ho hx hy this (hob (true, _) (.head _) rfl)
      · cases h
    · cases h
  · cases h

def execB (I : TI) (J : TJ) (τ : Nat → AV) (ar : List AO) : Op → Option (AV × Ob)
  | .binOp op xt x (.const .nilIface) _ => match lk J.ifs xt with
    | none => none
    | some _ => match evA τ x with
      | .val .nilIface => match op with
        | .eql => some (.val (.bool true), [])
        | .neq => some (.val (.bool false), [])
        | _ => none
      | _ => none
  | .call { callee := .builtin .len, args, argTypes } => match args.toList, argTypes.toList with
    | [x], [t] => match lk I.el t with
      | none => none
      | some _ => match evA τ x with
        | .row id ver => match ver with
          | 0 => match nth ar id with
            | some (.byt m _) => some (.val (.int .i64 m), [])
            | _ => none
          | _ => none
        | _ => none
    | _, _ => none
  | .indexAddr t x y => match lk I.el t with
    | none => match lk J.arrs t with
      | none => none
      | some (len, e) => match lk I.ty e with
        | some (sz, _) => idxP sz len ar (evA τ x) (evA τ y)
        | none => none
    | some e => match lk I.ty e with
      | some (1, _) => match evA τ x with
        | .row id ver => match ver with
          | 0 => match nth ar id with
            | some (.byt m _) => match evA τ y with
              | .val (.int _ i) => some (.elt id 0 1 i.toNat 0, [(true, inB i m)])
              | _ => none
            | _ => none
          | _ => none
        | _ => none
      | _ => none
  | .load t p => match lk I.ty t with
    | some (1, false) => match evA τ p with
      | .elt id 0 1 i 0 => match nth ar id with
        | some (.byt m r) => some (.val (.int .u8 (r i)), [(true, inB i m)])
        | _ => none
      | _ => none
    | _ => none
  | .convert s t x => match lk J.strs t with
    | none => none
    | some _ => match lk I.el s with
      | none => none
      | some e => match lk J.ints e with
        | some .u8 => match evA τ x with
          | .row id ver => match nth ar id with
            | some (.byt m r) => match ver with
              | 0 => some (.val (.string (textR m r)), [])
              | _ => none
            | some (.row _ sz v m r) => match Nat.beq sz 1 with
              | true => some (.val (.string (textR m fun i => getU (r i))), [(true, Nat.beq v ver), (true, allU m r), (true, Nat.blt 0 m)])
              | false => none
            | _ => none
          | _ => none
        | _ => none
  | .nilCheck x => match evA τ x with
    | .ptr id ver off => match ver with
      | 0 => match nth ar id with
        | some (.box _ _) => some (.ptr id 0 off, [])
        | _ => none
      | _ => none
    | .elt id ver sz i f => match nth ar id with
      | some (.row _ _ ver' _ _) => match Nat.beq ver ver' with
        | true => some (.elt id ver sz i f, [])
        | false => none
      | _ => none
    | .loc cs off => some (.loc cs off, [])
    | _ => none
  | _ => none

theorem execB_ok [hI : Inf P I] [hJ : Inf2 P J] {o : Oper} {x : AV} {ob : Ob} (h : execB I J τ ar o.op = some (x, ob)) (hob : Obs ob) : OpStep P τ ar o x ar := by
  have hob1 : ∀ {b : Bool} {l : Ob}, ob = (true, b) :: l → b = true := fun e => hob (true, _) (by rw [e]; simp) rfl
  unfold execB at h
  split at h
  · rename_i op xt x yt ho
    split at h
    · cases h
    · rename_i hk
      split at h
      · rename_i hx
        have := op_nilNil (τ := τ) (ar := ar) (o := o) (yt := yt) (hJ.ifs.mem _ (lk_mem hk)) hx
        split at h
        · cases h; exact this.1 ho
        · cases h; exact this.2 ho
        · cases h
      · cases h
  · rename_i args argTypes ho
    split at h
    · rename_i xo t ha hat
      split at h
      · cases h
      rename_i e hel
      have hE : ElT P t e := hI.el.mem _ (lk_mem hel)
      split at h
      · rename_i id ver hm
        split at h
        · split at h
          · rename_i m r hob'
            cases h
            exact op_byt_len (by rw [ho, show args = #[xo] from Array.ext' ha, show argTypes = #[t] from Array.ext' hat]) hm hob'
          · cases h
        · cases h
      · cases h
    · cases h
  · rename_i t xo yo ho
    split at h
    · split at h
      · cases h
      rename_i len e hmp
      split at h
      · rename_i sz ag hty
        haveI : Ty P e sz ag := hI.ty.mem _ (lk_mem hty)
        exact idxP_ok (hJ.arrs.mem _ (lk_mem hmp)) ho h hob
      · cases h
    rename_i e hel
    have hE : ElT P t e := hI.el.mem _ (lk_mem hel)
    split at h
    · rename_i ag hty
      have hT : Ty P e 1 ag := hI.ty.mem _ (lk_mem hty)
      split at h
      · rename_i id ver hm
        split at h
        · split at h
          · rename_i m r hob'
            split at h
            · rename_i kd i hy
              cases h
              exact op_byt_index ho hm hob' hy (hob1 rfl)
            · cases h
          · cases h
        · cases h
      · cases h
    · cases h
  · rename_i t p ho
    split at h
    · rename_i hty
      have hT : Ty P t 1 false := hI.ty.mem _ (lk_mem hty)
      split at h
      · rename_i id i hp
        split at h
        · rename_i m r hob'
          cases h
          exact op_byt_load ho hp hob' (hob1 rfl)
        · cases h
      · cases h
    · cases h
  · rename_i s t xo ho
    split at h
    · cases h
    rename_i hst
    split at h
    · cases h
    rename_i e hel
    have hE : ElT P s e := hI.el.mem _ (lk_mem hel)
    split at h
    · rename_i hin
      split at h
      · rename_i id ver hm
        split at h
        · rename_i m r hob'
          split at h
          · cases h
            exact op_byt_text (ElT.h (P := P) (t := s)) (hJ.ints.mem _ (lk_mem hin)) (hJ.strs.mem _ (lk_mem hst)) ho hm hob'
          · cases h
        · rename_i e' sz v m r hob'
          split at h
          · rename_i hb
            cases h
            have hb := Nat.eq_of_beq_eq_true hb
            subst hb
            have h1 := Nat.eq_of_beq_eq_true (hob (true, Nat.beq v ver) (.head _) rfl)
            subst h1
            exact op_row_text (ElT.h (P := P) (t := s)) (hJ.ints.mem _ (lk_mem hin)) (hJ.strs.mem _ (lk_mem hst)) ho hm hob' (hob (true, allU m r) (.tail _ (.head _)) rfl) (hob (true, Nat.blt 0 m) (.tail _ (.tail _ (.head _))) rfl)
          · cases h
        · cases h
      · cases h
    · cases h
  · rename_i xo ho
    split at h
    · rename_i id ver off hm
      split at h
      · split at h
        · rename_i e cs hob'
          cases h
          rw [← hm]
          refine op_nilCheck ho fun {C a w ρ} hR hs => ?_
          have hv := evA_ok hs xo
          rw [hm] at hv
          rw [nth_eq] at hob'
          obtain ⟨L, e1, e2, e3, e4⟩ := rv_ptr hv
          obtain ⟨b, _, e5⟩ := e4 (hR.obj id _ L hob' e1).1.symm
          exact ⟨_, e5⟩
        · cases h
      · cases h
    · rename_i id ver sz i fo hm
      split at h
      · rename_i e sz' ver' m r hob'
        split at h
        · rename_i hvv
          have := Nat.eq_of_beq_eq_true hvv
          subst this
          cases h
          rw [← hm]
          refine op_nilCheck ho fun {C a w ρ} hR hs => ?_
          have hv := evA_ok hs xo
          rw [hm] at hv
          rw [nth_eq] at hob'
          obtain ⟨L, e1, e2, e3, e4⟩ := rv_elt hv
          obtain ⟨b, _, e5⟩ := e4 (hR.obj id _ L hob' e1).1.symm
          exact ⟨_, e5⟩
        · cases h
      · cases h
    · rename_i cs off hm
      cases h
      rw [← hm]
      refine op_nilCheck ho fun {C a w ρ} hR hs => ?_
      have hv := evA_ok hs xo
      rw [hm] at hv
      obtain ⟨p, g, e1, _⟩ := rv_loc hv
      exact ⟨p, e1⟩
    · cases h
  · cases h

theorem execL_ok [hI : Inf P I] [hJ : Inf2 P J] {o : Oper} {x : AV} {ob : Ob} (h : execL I J τ ar o.op = some (x, ob)) (hob : Obs ob) : OpStep P τ ar o x ar := by
  have hob1 : ∀ {b : Bool} {l : Ob}, ob = (true, b) :: l → b = true := fun e => hob (true, _) (by rw [e]; simp) rfl
  unfold execL at h
  split at h
  · rename_i t m y ok ho
    split at h
    · cases h
    rename_i kk e hmp
    split at h
    · cases h
    rename_i z hz
    split at h
    · rename_i id ver hm
      split at h
      · rename_i ver' kk' l hob'
        split at h
        · cases h
        · rename_i hvv
          have := Nat.eq_of_beq_eq_true hvv
          subst this
          split at h
          · rename_i hkk
            have := kkEq_eq hkk
            subst this
            split at h
            · rename_i k hk
              split at h
              · rename_i hko
                have hx := lookT_eq (l := l) (k := k) (ok := ok) (z := z) (by rw [Option.some.inj h]; exact hob)
                rw [show x = (lookT l k ok z).1 by rw [Option.some.inj h], hx]
                exact op_lookup (run_zeroV (hJ.zv.mem _ (lk_mem hz))) (hJ.maps.mem _ (lk_mem hmp)) ho hm hob' hk hko
              · cases h
            · cases h
          · cases h
      · cases h
    · cases h
  · rename_i t xo yo ho
    split at h
    · cases h
    rename_i len e hmp
    split at h
    · cases h
    rename_i sz ag hty
    have hT : Ty P e sz ag := hI.ty.mem _ (lk_mem hty)
    split at h
    · rename_i cs hx
      split at h
      · rename_i kd i hy
        split at h
        · rename_i z hz
          cases h
          exact op_indexArr (hJ.arrs.mem _ (lk_mem hmp)) ho hx hy (hob1 rfl) hz
        · cases h
      · cases h
    · cases h
  · rename_i t parts ho
    split at h
    · cases h
    rename_i len e hmp
    split at h
    · rename_i sz ag z0 bytes hty hzo
      have hT : Ty P e sz ag := hI.ty.mem _ (lk_mem hty)
      have hZ : ZeroT P t z0 bytes := hI.zero.mem _ (lk_mem hzo)
      split at h
      · rename_i as has
        split at h
        · rename_i cs hcs
          cases h
          exact op_buildArr (hJ.arrs.mem _ (lk_mem hmp)) ho has hcs
        · cases h
      · cases h
    · cases h
  · rename_i args argTypes ho
    split at h
    · rename_i xo t ha hat
      split at h
      · cases h
      rename_i kk e hmp
      split at h
      · rename_i id ver hm
        split at h
        · rename_i ver' kk' l hob'
          split at h
          · cases h
          · rename_i hvv
            have := Nat.eq_of_beq_eq_true hvv
            subst this
            split at h
            · rename_i hkk
              have := kkEq_eq hkk
              subst this
              cases h
              refine op_mapLen (hJ.maps.mem _ (lk_mem hmp)) ?_ hm hob'
              rw [ho, show args = #[xo] from Array.ext' ha, show argTypes = #[t] from Array.ext' hat]
            · cases h
        · cases h
      · cases h
    · cases h
  · cases h

def execMB (I : TI) (J : TJ) (τ : Nat → AV) (ar : List AO) : Op → Option (AV × List AO × Ob)
  | .convert s t x => match lk J.strs s with
    | none => none
    | some _ => match lk I.el t with
      | none => none
      | some e => match lk J.ints e with
        | some .u8 => match evA τ x with
          | .val (.string p) => match snocN ar (.byt (bl' p).length (bytR p)) with
            | some (ar', id) => some (.row id 0, ar', [(true, Nat.ble (bl' p).length maxLen)])
            | none => none
          | _ => none
        | _ => none
  | .store t p y => match lk I.ty t with
    | some (1, false) => match evA τ p with
      | .elt id 0 1 i 0 => match nth ar id with
        | some (.byt m r) => match evA τ y with
          | .val (.int .u8 v) => match setN ar id (.byt m (setB r i v)) with
            | some ar' => some (.val undef, ar', [(true, inB i m)])
            | none => none
          | _ => none
        | _ => none
      | _ => none
    | _ => none
  | _ => none
theorem execMB_ok [hI : Inf P I] [hJ : Inf2 P J] {o : Oper} {x : AV} {ob : Ob} (h : execMB I J τ ar o.op = some (x, ar', ob)) (hob : Obs ob) : OpStep P τ ar o x ar' := by
  have hob1 : ∀ {b : Bool} {l : Ob}, ob = (true, b) :: l → b = true := fun e => hob (true, _) (by rw [e]; simp) rfl
  unfold execMB at h
  split at h
  · rename_i s t xo ho
    split at h
    · cases h
    rename_i hst
    split at h
    · cases h
    rename_i e hel
    have hE : ElT P t e := hI.el.mem _ (lk_mem hel)
    split at h
    · rename_i hin
      split at h
      · rename_i p hx
        split at h
        · rename_i ar1 id har
          cases h
          exact op_strBytes (hJ.strs.mem _ (lk_mem hst)) (ElT.h (P := P) (t := t)) (hJ.ints.mem _ (lk_mem hin)) ho hx (hob1 rfl) har
        · cases h
      · cases h
    · cases h
  · rename_i t p y ho
    split at h
    · rename_i hty
      have hT : Ty P t 1 false := hI.ty.mem _ (lk_mem hty)
      split at h
      · rename_i id i hp
        split at h
        · rename_i m r hob'
          split at h
          · rename_i v hy
            split at h
            · rename_i ar1 har
              cases h
              exact op_byt_store ho hp hob' (hob1 rfl) hy har
            · cases h
          · cases h
        · cases h
      · cases h
    · cases h
  · cases h

def execM2 (I : TI) (J : TJ) (τ : Nat → AV) (ar : List AO) : Op → Option (AV × List AO × Ob)
  | .makeMap t r => match lk J.maps t with
    | none => none
    | some (kk, _) => match r with
      | some _ => none
      | none => match snocN ar (.map 0 kk []) with
        | some (ar', id) => some (.row id 0, ar', [])
        | none => none
  | .mapUpdate t m y x | .insert t m y x => match lk J.maps t with
    | none => none
    | some (kk, _) => match evA τ m with
      | .row id ver => match nth ar id with
        | some (.map ver' kk' l) => match Nat.beq ver' ver with
          | false => none
          | true => match kkEq kk kk' with
            | true => match evA τ y with
              | .val k => match keyOK kk k with
                | true => match frc (evA τ x) with
                  | some v => match setN ar id (.map ver kk (mapPut l k v)) with
                    | some ar' => some (.val undef, ar', [])
                    | none => none
                  | none => none
                | false => none
              | _ => none
            | false => none
        | _ => none
      | _ => none
  | _ => none
theorem execM2_ok [hI : Inf P I] [hJ : Inf2 P J] {o : Oper} {x : AV} {ob : Ob} (h : execM2 I J τ ar o.op = some (x, ar', ob)) (hob : Obs ob) : OpStep P τ ar o x ar' := by
  have upd : ∀ {t : TypeId} {m y xo : Operand}, (o.op = .mapUpdate t m y xo ∨ o.op = .insert t m y xo) → (match lk J.maps t with
    | none => none
    | some (kk, _) => match evA τ m with
      | .row id ver => match nth ar id with
        | some (.map ver' kk' l) => match Nat.beq ver' ver with
          | false => none
          | true => match kkEq kk kk' with
            | true => match evA τ y with
              | .val k => match keyOK kk k with
                | true => match frc (evA τ xo) with
                  | some v => match setN ar id (.map ver kk (mapPut l k v)) with
                    | some ar' => some (AV.val undef, ar', ([] : Ob))
                    | none => none
                  | none => none
                | false => none
              | _ => none
            | false => none
        | _ => none
      | _ => none) = some (x, ar', ob) → OpStep P τ ar o x ar' := by
    intro t m y xo ho h
    split at h
    · cases h
    rename_i kk e hmp
    split at h
    · rename_i id ver hm
      split at h
      · rename_i ver' kk' l hob'
        split at h
        · cases h
        · rename_i hvv
          have := Nat.eq_of_beq_eq_true hvv
          subst this
          split at h
          · rename_i hkk
            have := kkEq_eq hkk
            subst this
            split at h
            · rename_i k hk
              split at h
              · rename_i hko
                split at h
                · rename_i v hv
                  have := frc_eq hv
                  subst this
                  split at h
                  · rename_i ar1 har
                    cases h
                    exact op_mapUpdate (hJ.maps.mem _ (lk_mem hmp)) ho hm hob' hk hko har
                  · cases h
                · cases h
              · cases h
            · cases h
          · cases h
      · cases h
    · cases h
  unfold execM2 at h
  split at h
  · rename_i t r ho
    split at h
    · cases h
    rename_i kk e hmp
    split at h
    · cases h
    · split at h
      · rename_i ar1 id har
        cases h
        exact op_makeMap (e := e) ho har
      · cases h
  · rename_i t m y xo ho
    exact upd (.inl ho) h
  · rename_i t m y xo ho
    exact upd (.inr ho) h
  · cases h

def execMM (I : TI) (J : TJ) (τ : Nat → AV) (ar : List AO) (op : Op) : Option (AV × List AO × Ob) := match execM I τ ar op with
  | some r => some r
  | none => match execM2 I J τ ar op with
    | some r => some r
    | none => execMB I J τ ar op
theorem execMM_ok [hI : Inf P I] [hJ : Inf2 P J] {o : Oper} {x : AV} {ob : Ob} (h : execMM I J τ ar o.op = some (x, ar', ob)) (hob : Obs ob) : OpStep P τ ar o x ar' := by
  unfold execMM at h
  split at h
  · rename_i r hr; cases h; exact execM_ok hr hob
  · split at h
    · rename_i r hr; cases h; exact execM2_ok hr hob
    · exact execMB_ok h hob
end
end Go.Iron

/- Iron: several frames: regions that draw their order. -/
namespace Go.Iron
variable [Globs]
section
variable {P : Program} {f0 : FuncId} {C : Cx} {T' T2 S S' : List AF} {ar ar' ar2 : List AO} {Q : Out → List AO → Prop} {ops : Array Oper}
variable {f n : Nat} {τ τ' : Nat → AV} {rd : Option Nat} {D : List AV} {kd : CallKind} {k : List Item} {I : TI} {J : TJ}

def execQ (I : TI) (J : TJ) (τ : Nat → AV) (ar : List AO) (op : Op) : Option (AV × Ob) := match execP I τ ar op with
  | some r => some r
  | none => match execN I J τ ar op with
    | some r => some r
    | none => match execL I J τ ar op with
      | some r => some r
      | none => execB I J τ ar op
theorem execQ_ok [hI : Inf P I] [hJ : Inf2 P J] {o : Oper} {x : AV} {ob : Ob} (h : execQ I J τ ar o.op = some (x, ob)) (hob : Obs ob) : OpStep P τ ar o x ar := by
  unfold execQ at h
  split at h
  · rename_i r hr; cases h; exact execP_ok hr hob
  · split at h
    · rename_i r hr; cases h; exact execN_ok hr hob
    · split at h
      · rename_i r hr; cases h; exact execL_ok hr hob
      · exact execB_ok h hob

def OpJ (P : Program) (n : Nat) (ar : List AO) (ops : Array Oper) (i : Nat) (o : Oper) (τ : Nat → AV) (x : AV) : Prop :=
  ∀ τ2 : Nat → AV, (∀ t, t ∈ o.looksAt ops → τ2 t = τ t) → ∀ (C : Cx) (f : FuncId) (rd : Option Nat) (D : List AV) (kd : CallKind) (rest : List Nat) (k : List Item),
    SimT P C [⟨f, n, τ2, .inRegion ops (i :: rest) :: k, rd, D, kd, .run⟩] ar [⟨f, n, updO τ2 o.dst x, .inRegion ops rest :: k, rd, D, kd, .run⟩] ar
theorem OpJ.congr {i : Nat} {o : Oper} {x : AV} (h : OpJ P n ar ops i o τ x) (ht : ∀ t, t ∈ o.looksAt ops → τ' t = τ t) : OpJ P n ar ops i o τ' x :=
  fun τ2 h2 => h τ2 (fun t hm => (h2 t hm).trans (ht t hm))
def LexJ (P : Program) (n : Nat) (ar : List AO) (ops : Array Oper) : Nat → List Oper → (Nat → AV) → (Nat → AV) → Prop
  | _, [], τ, τ' => τ' = τ
  | i, o :: l, τ, τ' => ∃ x, OpJ P n ar ops i o τ x ∧ LexJ P n ar ops (i + 1) l (updO τ o.dst x) τ'

def aOpJ (P : Program) (n : Nat) (ar : List AO) (ops : Array Oper) (i : Nat) (K : (Nat → AV) → Prop) (τ : Nat → AV) : Prop :=
  ∃ o, ops[i]? = some o ∧ ∃ x, OpJ P n ar ops i o τ x ∧ K (updO τ o.dst x)

def anyJ (P : Program) (n : Nat) (ar : List AO) (ops : Array Oper) (T : Nat) (τ' : Nat → AV) : Nat → Array Bool → (Nat → AV) → Prop
  | 0, listed, τ => tailB ops (ops.size - T) T listed = true ∧ τ' = τ
  | fuel + 1, listed, τ => Region.ready .any ops listed ≠ [] ∧
    ∀ i ∈ Region.ready .any ops listed, aOpJ P n ar ops i (anyJ P n ar ops T τ' fuel (listed.setIfInBounds i true)) τ

theorem aOpJ_mono {i : Nat} {K K' : (Nat → AV) → Prop} (h : ∀ τ, K τ → K' τ) (hh : aOpJ P n ar ops i K τ) : aOpJ P n ar ops i K' τ := by
  obtain ⟨o, h1, x, h3, h4⟩ := hh
  exact ⟨o, h1, x, h3, h _ h4⟩

theorem aOpJ_swap {i j : Nat} {oi oj : Oper} {x : AV} (hj : ops[j]? = some oj) (hap : oi.apart ops oj = true) {K : (Nat → AV) → Prop} (hi : OpJ P n ar ops i oi τ x) (h : aOpJ P n ar ops j K (updO τ oi.dst x)) :
    aOpJ P n ar ops j (fun τ2 => OpJ P n ar ops i oi τ2 x ∧ K (updO τ2 oi.dst x)) τ := by
  obtain ⟨h1, h2, h3⟩ := Oper.apart_spec hap
  obtain ⟨o, e, y, hy, hK⟩ := h
  rw [hj] at e
  cases e
  refine ⟨oj, hj, y, hy.congr fun t ht => (updO_other τ (fun e => h1 t e ht)).symm, hi.congr fun t ht => updO_other τ (fun e => h3 t e ht), ?_⟩
  rw [← updO_comm τ x y h2]
  exact hK

def dirB (ops : Array Oper) (i j : Nat) : Bool := match ops[j]? with
  | some o => o.after.any fun e => Region.binds .any e && e.on == i
  | none => false
def lateB (ops : Array Oper) (q : Nat) : Nat → Nat → Bool
  | 0, _ => false
  | c + 1, j => match ops[j]? with
    | some o => o.after.any fun e => Region.binds .any e && (e.on == q || lateB ops q c e.on)
    | none => false
omit [Globs] in
theorem any_mem {α : Type} {as : Array α} {p : α → Bool} : as.any p = true ↔ ∃ x ∈ as, p x = true := by
  rw [← Array.any_toList, List.any_eq_true]
  simp

omit [Globs] in
theorem getD_set (listed : Array Bool) (i j : Nat) : (listed.setIfInBounds j true).getD i true = if i = j then true else listed.getD i true := by
  by_cases h : j = i
  · subst h
    by_cases hl : j < listed.size
    · simp [Array.getD_eq_getD_getElem?, Array.getElem?_setIfInBounds, hl]
    · simp [Array.getD_eq_getD_getElem?, Array.getElem?_setIfInBounds, hl]
  · simp [Array.getD_eq_getD_getElem?, Array.getElem?_setIfInBounds, h, Ne.symm h]
omit [Globs] in
theorem dirB_iff {i j : Nat} {o : Oper} (ho : ops[j]? = some o) : dirB ops i j = true ↔ ∃ e ∈ o.after, Region.binds .any e = true ∧ e.on = i := by
  unfold dirB
  rw [ho]
  dsimp only
  rw [any_mem]
  simp

omit [Globs] in
theorem getD_tf {listed : Array Bool} {i : Nat} (hi : i < listed.size) : listed.getD i true = listed.getD i false := by
  simp [Array.getD_eq_getD_getElem?, hi]

omit [Globs] in
theorem late_listed {listed : Array Bool} {q : Nat} (hcl : ∀ i j, j < ops.size → listed.getD j true = true → dirB ops i j = true → listed.getD i false = true) :
    ∀ (c j : Nat) (o : Oper), ops[j]? = some o → (∀ e ∈ o.after, Region.binds .any e = true → listed.getD e.on false = true) → lateB ops q c j = true → listed.getD q false = true
  | 0, _, _, _, _, h => by cases h
  | c + 1, j, o, ho, hd, h => by
    simp only [lateB, ho, any_mem, Bool.and_eq_true, Bool.or_eq_true, beq_iff_eq] at h
    obtain ⟨e, he, hb, h⟩ := h
    have hl := hd e he hb
    rcases h with rfl | h
    · exact hl
    · cases hoe : ops[e.on]? with
      | none =>
        cases c with
        | zero => cases h
        | succ c => simp [lateB, hoe] at h
      | some o' =>
        have hs : e.on < ops.size := (Array.getElem?_eq_some_iff.1 hoe).1
        have hlt : listed.getD e.on true = true := by
          simp only [Array.getD_eq_getD_getElem?] at hl ⊢
          cases hg : listed[e.on]? with
          | none => rfl
          | some b => rw [hg] at hl; exact hl
        exact late_listed hcl c e.on o' hoe (fun e' he' hb' => hcl e'.on e.on hs hlt ((dirB_iff hoe).2 ⟨e', he', hb', rfl⟩)) h

def Closed (ops : Array Oper) (listed : Array Bool) : Prop := ∀ i j, j < ops.size → listed.getD j true = true → dirB ops i j = true → listed.getD i false = true
omit [Globs] in
theorem Closed.put {listed : Array Bool} {j : Nat} (h : Closed ops listed) (hr : j ∈ Region.ready .any ops listed) : Closed ops (listed.setIfInBounds j true) := by
  intro i m hm hl hd
  obtain ⟨hjun, oj, hoj, hall⟩ := mem_ready.1 hr
  have hi' : listed.getD i false = true := by
    rw [getD_set] at hl
    by_cases hmj : m = j
    · subst hmj
      obtain ⟨e, he, hb, rfl⟩ := (dirB_iff hoj).1 hd
      exact hall e he hb
    · rw [if_neg hmj] at hl
      exact h i m hm hl hd
  by_cases his : i < listed.size
  · rw [← getD_tf (by simpa using his), getD_set]
    rw [← getD_tf his] at hi'
    rw [hi']
    split <;> rfl
  · rw [show listed.getD i false = false by simp [Array.getD_eq_getD_getElem?, his]] at hi'
    cases hi'
def waitsW (ops : Array Oper) (T i : Nat) : Bool := match ops[T]? with
  | none => true
  | some _ => lateB ops i 6 T
def lexFromW (ops : Array Oper) (T : Nat) : Nat → Nat → Array Bool → Bool
  | 0, _, listed => tailB ops (ops.size - T) T listed
  | c + 1, m, listed => (Region.ready .any ops listed).contains m && Region.free .any ops listed m && waitsW ops T m && lexFromW ops T c (m + 1) (listed.setIfInBounds m true)
theorem anyJ_first {T i : Nat} {oi : Oper} {x : AV} (hi : ops[i]? = some oi) (hT : waitsW ops T i = true) : ∀ (fuel : Nat) (listed : Array Bool) (τ : Nat → AV), Closed ops listed →
    (∀ j oj, ops[j]? = some oj → j ≠ i → listed.getD j true = false → (∀ e ∈ oj.after, Region.binds .any e = true → e.on ≠ i) → oi.apart ops oj = true) →
    i ∈ Region.ready .any ops listed → OpJ P n ar ops i oi τ x → anyJ P n ar ops T τ' fuel (listed.setIfInBounds i true) (updO τ oi.dst x) → anyJ P n ar ops T τ' (fuel + 1) listed τ := by
  have hnot' : ∀ (listed : Array Bool) (j : Nat) oj, i ∈ Region.ready .any ops listed → j ∈ Region.ready .any ops listed → ops[j]? = some oj → ∀ e ∈ oj.after, Region.binds .any e = true → e.on ≠ i := by
    intro listed j oj hr hj hoj e he hb heq
    obtain ⟨hjun, oj', hoj', hall⟩ := mem_ready.1 hj
    rw [hoj] at hoj'
    cases hoj'
    have h1 := hall e he hb
    have h0 := (mem_ready.1 hr).1
    rw [heq] at h1
    rcases Nat.lt_or_ge i listed.size with h' | h'
    · simp [h'] at h0 h1; rw [h0] at h1; cases h1
    · simp [Array.getElem?_eq_none h'] at h1
  intro fuel
  induction fuel with
  | zero =>
    intro listed τ hcl _ hr hy H
    refine ⟨fun h => (by rw [h] at hr; cases hr), fun j hj => ?_⟩
    by_cases hji : j = i
    · subst hji; exact ⟨oi, hi, x, hy, H⟩
    · obtain ⟨hjT, hc⟩ := tailB_ready H.1 j (ready_mono hj hji)
      subst hjT
      obtain ⟨hjun, oj, hoj, hall⟩ := mem_ready.1 hj
      simp only [waitsW, hoj] at hT
      have h1 := late_listed hcl 6 j oj hoj hall hT
      have h0 := (mem_ready.1 hr).1
      by_cases his : i < listed.size
      · rw [← getD_tf his, h0] at h1
        cases h1
      · rw [show listed.getD i false = false by simp [Array.getD_eq_getD_getElem?, his]] at h1
        cases h1
  | succ fuel ih =>
    intro listed τ hcl hfree hr hy H
    refine ⟨fun h => (by rw [h] at hr; cases hr), fun j hj => ?_⟩
    by_cases hji : j = i
    · subst hji; exact ⟨oi, hi, x, hy, H⟩
    · have h1 := H.2 j (ready_mono hj hji)
      obtain ⟨hjun, oj, hoj, hall⟩ := mem_ready.1 hj
      have h2 := aOpJ_swap hoj (hfree j oj hoj hji hjun (hnot' listed j oj hr hj hoj)) hy h1
      have hfree' : ∀ m om, ops[m]? = some om → m ≠ i → (listed.setIfInBounds j true).getD m true = false →
          (∀ e ∈ om.after, Region.binds .any e = true → e.on ≠ i) → oi.apart ops om = true := fun m om hm hmi hun hno => by
        refine hfree m om hm hmi ?_ hno
        by_cases hjm : j = m
        · subst hjm; exact hjun
        · rw [getD_set_ne true hjm] at hun; exact hun
      refine aOpJ_mono (fun τ2 h3 => ih (listed.setIfInBounds j true) τ2 (hcl.put hj) hfree' (ready_mono hr (Ne.symm hji)) h3.1 ?_) h2
      rw [Array.setIfInBounds_comm _ _ hji]
      exact h3.2

theorem anyJ_lex {T : Nat} : ∀ (l : List Oper) (m : Nat) (listed : Array Bool) (τ : Nat → AV), Closed ops listed → (∀ j, j < l.length → l[j]? = ops[m + j]?) →
    lexFromW ops T l.length m listed = true → LexJ P n ar ops m l τ τ' → anyJ P n ar ops T τ' l.length listed τ
  | [], _, _, _, _, _, hB, h => ⟨by simpa [lexFromW] using hB, h⟩
  | o :: l, m, listed, τ, hcl, hl, hB, h => by
    have h0 : ops[m]? = some o := by simpa using (hl 0 (by simp)).symm
    simp only [List.length_cons, lexFromW, Bool.and_eq_true] at hB
    obtain ⟨⟨⟨hr, hf⟩, hw⟩, hB'⟩ := hB
    obtain ⟨x, hx, hK⟩ := h
    have hr' : m ∈ Region.ready .any ops listed := by simpa using hr
    exact anyJ_first h0 hw l.length listed τ hcl (Region.free_spec h0 hf) hr' hx
      (anyJ_lex l (m + 1) _ _ (hcl.put hr') (fun j hj => by have := hl (j + 1) (by simpa using hj); simpa [Nat.add_assoc, Nat.add_comm 1 j] using this) hB' hK)

theorem sim_any {T : Nat} : ∀ (fuel : Nat) (listed : Array Bool) (τ : Nat → AV), anyJ P n ar ops T τ' fuel listed τ →
    ∀ t, SimT P C [⟨f, n, τ, .inRegion ops (Region.linearise.go .any ops (fuel + (ops.size - T)) t listed []) :: k, rd, D, kd, .run⟩] ar [⟨f, n, τ', .inRegion ops (List.range' T (ops.size - T)) :: k, rd, D, kd, .run⟩] ar
  | 0, listed, τ, h, t => by
    rw [Nat.zero_add, go_tail _ _ _ _ h.1, ← h.2]
    exact SimT.refl
  | fuel + 1, listed, τ, h, t => by
    rw [show fuel + 1 + (ops.size - T) = (fuel + (ops.size - T)) + 1 by omega]
    simp only [Region.linearise.go]
    change SimT P C [⟨f, n, τ, .inRegion ops (match (Region.ready .any ops listed)[t % (Region.ready .any ops listed).length]? with
      | some i => Region.linearise.go .any ops (fuel + (ops.size - T)) (t / (Region.ready .any ops listed).length) (listed.setIfInBounds i true) [i]
      | none => [].reverse) :: k, rd, D, kd, .run⟩] ar _ ar
    cases hi : (Region.ready .any ops listed)[t % (Region.ready .any ops listed).length]? with
    | none =>
      exfalso
      cases hr : Region.ready .any ops listed with
      | nil => exact h.1 hr
      | cons x xs =>
        rw [hr] at hi
        have hlt : t % (x :: xs).length < (x :: xs).length := Nat.mod_lt _ (by simp)
        simp at hi
        simp at hlt
        omega
    | some i =>
      simp only []
      rw [linearise_go_acc, List.reverse_singleton, List.singleton_append]
      obtain ⟨o, ho, x, hx, hK⟩ := h.2 i (List.mem_of_getElem? hi)
      exact (hx τ (fun _ _ => rfl) C f rd D kd _ k).trans (sim_any fuel _ _ hK _)

def drawB (ops : Array Oper) (T : Nat) : Bool := Nat.ble T ops.size && lexFromW ops T T 0 (Array.replicate ops.size false)

theorem sim_draw (T : Nat) {id : Nat} (hm : P.follows .mixedOrders = true) (hB : drawB ops T = true) (hl : LexJ P n ar ops 0 (ops.toList.take T) τ τ') :
    SimT P C [⟨f, n, τ, .code (.region id ops true) :: k, rd, D, kd, .run⟩] ar [⟨f, n, τ', .inRegion ops (List.range' T (ops.size - T)) :: k, rd, D, kd, .run⟩] ar := by
  unfold drawB at hB
  simp only [Bool.and_eq_true, Nat.ble_eq] at hB
  obtain ⟨hT, hB⟩ := hB
  have hlen : (ops.toList.take T).length = T := by simp; omega
  have hany := anyJ_lex (P := P) (n := n) (ar := ar) (T := T) (ops := ops) (τ' := τ') (ops.toList.take T) 0 (Array.replicate ops.size false) τ (fun i j hj hl _ => by simp [Array.getD_eq_getD_getElem?, hj] at hl) (fun j hj => by rw [List.getElem?_take, if_pos (by omega)]; simp) (by rw [hlen]; exact hB) hl
  intro ts w ρ cs hts hR
  obtain ⟨fr, m, rfl, hf, hn⟩ := l2_cons hts
  cases hn
  obtain ⟨y, k', h0, h1, h2⟩ := l2_cons hf.todo
  cases itemR_code h1
  obtain ⟨r1, r2⟩ := hR.draw
  have hrun := sim_any (C := C) (f := f) (rd := rd) (D := D) (kd := kd) (k := k) _ _ _ hany (w.tape w.drawn (.order fr.fn id))
  rw [hlen, show T + (ops.size - T) = ops.size by omega] at hrun
  let fr1 := fr.atR ⟨fr.tmps, fr.defers⟩ (.inRegion ops (Region.linearise.go .any ops ops.size (w.tape w.drawn (.order fr.fn id)) (Array.replicate ops.size false) []) :: k')
  have hf2 := hf.mono r2 (Compat.refl _)
  obtain ⟨ts', w', ρ', s, a1, a2, a3, a4⟩ := hrun [fr1] { w with drawn := w.drawn + 1 } ρ cs (.cons ⟨hf.fn, hf.size, hf2.slots, .cons .inRegion h2, hf.rd, hf2.defs, hf.kind, rfl⟩ .nil) r1
  refine ⟨ts', w', ρ', .head ?_ s, a1, a2, a3, r2.trans a4⟩
  have := stepR_region_draw (P := P) (b := fr) (a := ⟨fr.tmps, fr.defers⟩) (k := k') (cs := cs) (w := w) (ops := ops) (id := id)
  rw [← h0, atR_self hf.mode] at this
  simp only [Region.schedule, hm, Bool.true_or, if_true] at this
  exact this

theorem opJ_step {i : Nat} {o : Oper} {x : AV} {l : List Nat} (ho : ops[i]? = some o) (hg : o.guard = none) (hdn : ∀ d, o.dst = some d → Nat.blt d n = true) (hl : tmpsOf o.op.operands.toList = l) (hs : OpStep P (opR l τ) ar o x ar) : OpJ P n ar ops i o τ x := by
  intro τ2 h2 C f rd D kd rest k
  exact sim_op ho hg hdn (hs.slots (opR_slots (fun t ht => h2 t (looks_of (by rw [hl]; exact ht)))))

theorem opJ_stepU {i : Nat} {o : Oper} {x : AV} {l : List Nat} {j d : Nat} {want b : Bool} {oc : Option Bool} (ho : ops[i]? = some o) (hg : o.guard = some (j, want)) (hb : GuardA n τ ops j oc b) (hd : o.dst = some d) (hdn : Nat.blt d n = true)
    (hl : l = sops o.op) (hgk : GOKs (condOf oc b want) τ l) (hs : condOf oc b want = true → OpStep P (opS (tmpsOf o.op.operands.toList) l τ) ar o x ar) : OpJ P n ar ops i o τ (.opt (condOf oc b want) x) := by
  intro τ2 h2 C f rd D kd rest k
  have hLk : ∀ t, t ∈ tmpsOf o.op.operands.toList → τ2 t = τ t := fun t ht => h2 t (looks_of ht)
  have hlk : ∀ t, t ∈ l → τ2 t = τ t := fun t ht => hLk t (sops_sub (by rw [← hl]; exact ht))
  have hgd : ∀ dj oj, ops[j]? = some oj → oj.dst = some dj → τ2 dj = τ dj := fun dj oj h1 h3 => h2 dj (by
    unfold Oper.looksAt
    refine List.mem_append_right _ ?_
    simp [hg, h1, h3])
  have hT : opS (tmpsOf o.op.operands.toList) l τ2 = opS (tmpsOf o.op.operands.toList) l τ := by
    funext t
    unfold opS
    cases hm : memN t l with
    | true => dsimp only; rw [hlk t (memN_iff.1 hm)]
    | false =>
      dsimp only
      cases hm2 : memN t (tmpsOf o.op.operands.toList) with
      | true => dsimp only; rw [hLk t (memN_iff.1 hm2)]
      | false => rfl
  have hb2 : GuardA n τ2 ops j oc b := by
    cases hb with
    | @v oj dj b h1 h2' h3 h4 => exact .v h1 h2' h3 (by rw [hgd _ _ h1 h2']; exact h4)
    | @o oj dj b c h1 h2' h3 h4 => exact .o h1 h2' h3 (by rw [hgd _ _ h1 h2']; exact h4)
  have hgk2 : GOKs (condOf oc b want) τ2 l := by
    clear hs hl hT hb2
    induction hgk with
    | nil => exact .nil
    | @cons t' l h1 _ ih => exact .cons (by rw [hlk t' (by simp)]; exact h1) (ih (fun t ht => hlk t (List.mem_cons_of_mem _ ht)))
  have := sim_opV (P := P) (C := C) (f := f) (rd := rd) (D := D) (kd := kd) (k := k) (rest := rest) ho hg hb2 hd hdn hgk2 (fun hc => by rw [hT]; exact hs hc)
  rw [hd]
  exact this

theorem opJ_call {i : Nat} {o : Oper} {fo : Operand} {xs : Array Operand} {ts : Array TypeId} {g : FuncId} {caps as : List AV} {gn : Func} {gc : Code} [Fun P g gn gc] {r : AV}
    (ho : ops[i]? = some o) (hg : o.guard = none) (hop : o.op = .call { callee := .value fo, args := xs, argTypes := ts }) (hfo : evA τ fo = .fn (.func g) caps) (hd : dstOK n o.dst = true)
    (has : xs.toList.map (evA τ) ++ caps = as) (hu : AV.unders 0 as = true) (h : CallT P g as [] (fun out A => out = .ret r ∧ A = [])) : OpJ P n ar ops i o τ r := by
  intro τ2 h2 C f rd D kd rest k
  have hmem : ∀ t, Operand.tmp t ∈ (fo :: xs.toList) → τ2 t = τ t := fun t ht => h2 t (by
    unfold Oper.looksAt
    refine List.mem_append_left _ ?_
    rw [List.mem_filterMap]
    refine ⟨.tmp t, ?_, rfl⟩
    rw [hop]
    simpa [Op.operands, Call.operands] using ht)
  refine sim_contract (A := []) (A' := []) (B := ar) rfl ho hg hop (by rw [evA_agree hmem (by simp)]; exact hfo) ?_ hu .nil rfl h hd
  rw [← has]
  congr 1
  exact List.map_congr_left fun x hx => evA_agree hmem (by simp [hx])

theorem lexj_nil {i : Nat} : LexJ P n ar ops i [] τ τ := rfl
theorem lexj_call {i : Nat} {o : Oper} {l : List Oper} {fo : Operand} {xs : Array Operand} {ts : Array TypeId} {g : FuncId} {caps as : List AV} {gn : Func} {gc : Code} [Fun P g gn gc] {d : Nat} {r : AV}
    (ho : ops[i]? = some o) (hg : o.guard = none) (hop : o.op = .call { callee := .value fo, args := xs, argTypes := ts }) (hfo : evA τ fo = .fn (.func g) caps) (hdst : o.dst = some d) (hd : Nat.blt d n = true)
    (has : xs.toList.map (evA τ) ++ caps = as) (hu : AV.unders 0 as = true) (h : CallT P g as [] (fun out A => out = .ret r ∧ A = []))
    (hr : LexJ P n ar ops (Nat.succ i) l (upd τ d r) τ') : LexJ P n ar ops i (o :: l) τ τ' :=
  ⟨r, opJ_call ho hg hop hfo (by rw [hdst]; exact hd) has hu h, by rw [hdst]; exact hr⟩

def lexB (I : TI) (J : TJ) (n : Nat) (ar : List AO) (ops : Array Oper) : Nat → Nat → List Oper → (Nat → AV) → Ob → (Nat → AV) × Nat × List Oper × Ob
  | 0, i, l, τ, ob => (τ, i, l, ob)
  | _ + 1, i, [], τ, ob => (τ, i, [], ob)
  | m + 1, i, o :: l, τ, ob => match o.dst with
    | none => (τ, i, o :: l, ob)
    | some d => match Nat.blt d n with
      | false => (τ, i, o :: l, ob)
      | true => match o.guard with
        | none => match execQ I J (opR (tmpsOf o.op.operands.toList) τ) ar o.op with
          | some (x, ob') => lexB I J n ar ops m (Nat.succ i) l (upd τ d x) (app ob' ob)
          | none => (τ, i, o :: l, ob)
        | some (j, want) => match nth ops.toList j with
          | none => (τ, i, o :: l, ob)
          | some oj => match oj.dst with
            | none => (τ, i, o :: l, ob)
            | some dj => match Nat.blt dj n with
              | false => (τ, i, o :: l, ob)
              | true => match τ dj with
                | .val (.bool b) => match execQ I J (opS (tmpsOf o.op.operands.toList) (sops o.op) τ) ar o.op with
                  | some (x, ob') => lexB I J n ar ops m (Nat.succ i) l (upd τ d (.opt (b == want) x)) (app (obsOf (b == want) τ (sops o.op)) (app (cnd (b == want) ob') ob))
                  | none => (τ, i, o :: l, ob)
                | .opt c (.val (.bool b)) => match execQ I J (opS (tmpsOf o.op.operands.toList) (sops o.op) τ) ar o.op with
                  | some (x, ob') => lexB I J n ar ops m (Nat.succ i) l (upd τ d (.opt (c && (b == want)) x)) (app (obsOf (c && (b == want)) τ (sops o.op)) (app (cnd (c && (b == want)) ob') ob))
                  | none => (τ, i, o :: l, ob)
                | _ => (τ, i, o :: l, ob)

theorem lexB_ok [hI : Inf P I] [hJ : Inf2 P J] : ∀ (m i : Nat) (l : List Oper) (τ : Nat → AV) (ob : Ob), (∀ j, j < l.length → l[j]? = ops[i + j]?) → Obs (lexB I J n ar ops m i l τ ob).2.2.2 →
    LexJ P n ar ops (lexB I J n ar ops m i l τ ob).2.1 (lexB I J n ar ops m i l τ ob).2.2.1 (lexB I J n ar ops m i l τ ob).1 τ' → Obs ob ∧ LexJ P n ar ops i l τ τ'
  | 0, i, l, τ, ob, hl, ho, h => ⟨ho, h⟩
  | m + 1, i, [], τ, ob, hl, ho, h => ⟨ho, h⟩
  | m + 1, i, o :: l, τ, ob, hl, ho, h => by
    have hoi : ops[i]? = some o := by simpa using (hl 0 (by simp)).symm
    have hl' : ∀ j, j < l.length → l[j]? = ops[Nat.succ i + j]? := fun j hj => by have := hl (j + 1) (by simpa using hj); simpa [Nat.add_assoc, Nat.add_comm 1 j] using this
    unfold lexB at ho h
    cases hd : o.dst with
    | none => simp only [hd] at ho h; exact ⟨ho, h⟩
    | some d =>
      simp only [hd] at ho h
      cases hdn : Nat.blt d n with
      | false => simp only [hdn] at ho h; exact ⟨ho, h⟩
      | true =>
        simp only [hdn] at ho h
        cases hg : o.guard with
        | none =>
          simp only [hg] at ho h
          cases hx : execQ I J (opR (tmpsOf o.op.operands.toList) τ) ar o.op with
          | none => simp only [hx] at ho h; exact ⟨ho, h⟩
          | some p =>
            obtain ⟨x, ob'⟩ := p
            simp only [hx] at ho h
            obtain ⟨h1, h2⟩ := lexB_ok m (Nat.succ i) l _ _ hl' ho h
            rw [app_eq] at h1
            exact ⟨h1.app.2, x, opJ_step hoi hg (fun d' e => by rw [hd] at e; cases e; exact hdn) rfl (execQ_ok hx h1.app.1), by rw [hd]; exact h2⟩
        | some gw =>
          obtain ⟨j, want⟩ := gw
          simp only [hg] at ho h
          cases hoj : nth ops.toList j with
          | none => simp only [hoj] at ho h; exact ⟨ho, h⟩
          | some oj =>
            simp only [hoj] at ho h
            have hoj' : ops[j]? = some oj := by rw [nth_eq] at hoj; simpa using hoj
            cases hdj : oj.dst with
            | none => simp only [hdj] at ho h; exact ⟨ho, h⟩
            | some dj =>
              simp only [hdj] at ho h
              cases hdjn : Nat.blt dj n with
              | false => simp only [hdjn] at ho h; exact ⟨ho, h⟩
              | true =>
                simp only [hdjn] at ho h
                split at ho
                · rename_i b hb
                  simp only [hb] at h
                  cases hx : execQ I J (opS (tmpsOf o.op.operands.toList) (sops o.op) τ) ar o.op with
                  | none => simp only [hx] at ho h; exact ⟨ho, h⟩
                  | some p =>
                    obtain ⟨x, ob'⟩ := p
                    simp only [hx] at ho h
                    obtain ⟨h1, h2⟩ := lexB_ok m (Nat.succ i) l _ _ hl' ho h
                    rw [app_eq, app_eq] at h1
                    exact ⟨h1.app.2.app.2, _, opJ_stepU (oc := none) (b := b) hoi hg (.v hoj' hdj hdjn hb) hd hdn rfl (goks_of h1.app.1) (fun hc => execQ_ok hx (cnd_spec h1.app.2.app.1 hc)), by rw [hd]; exact h2⟩
                · rename_i c b hb
                  simp only [hb] at h
                  cases hx : execQ I J (opS (tmpsOf o.op.operands.toList) (sops o.op) τ) ar o.op with
                  | none => simp only [hx] at ho h; exact ⟨ho, h⟩
                  | some p =>
                    obtain ⟨x, ob'⟩ := p
                    simp only [hx] at ho h
                    obtain ⟨h1, h2⟩ := lexB_ok m (Nat.succ i) l _ _ hl' ho h
                    rw [app_eq, app_eq] at h1
                    exact ⟨h1.app.2.app.2, _, opJ_stepU (oc := some c) (b := b) hoi hg (.o hoj' hdj hdjn hb) hd hdn rfl (goks_of h1.app.1) (fun hc => execQ_ok hx (cnd_spec h1.app.2.app.1 hc)), by rw [hd]; exact h2⟩
                · rename_i hb1 hb2
                  split at h
                  · rename_i b hb; exact absurd hb (hb1 b)
                  · rename_i c b hb; exact absurd hb (hb2 c b)
                  · exact ⟨ho, h⟩


theorem lexj_x [hI : Inf P I] [hJ : Inf2 P J] (m : Nat) {i i' : Nat} {l l' : List Oper} {τ1 : Nat → AV} {ob : Ob} (hl : (ops.toList.drop i).take l.length = l) (h : lexB I J n ar ops m i l τ [] = (τ1, i', l', ob)) (ho : Obs ob) (hr : LexJ P n ar ops i' l' τ1 τ') : LexJ P n ar ops i l τ τ' :=
  (lexB_ok (P := P) (τ' := τ') m i l τ [] (fromB hl) (by rw [h]; exact ho) (by rw [h]; exact hr)).2
end
end Go.Iron
