/- Iron: the machine for several frames. -/
import Derived.Test.YtamhonbhoelohaaIronN
namespace Go.Iron
section
variable {P : Program} {f0 : FuncId} {C : Cx} {T T' T2 S S' : List AF} {ar ar' ar2 : List AO} {Q : Out → List AO → Prop} {ops : Array Oper}
variable {f n : Nat} {τ τ' : Nat → AV} {rd : Option Nat} {D : List AV} {kd : CallKind} {k : List Item} {I : TI} {J : TJ}

theorem execN_ok [hI : Inf P I] [hJ : Inf2 P J] {o : Oper} {x : AV} {ob : Ob} (h : execN I J τ ar o.op = some (x, ob)) (hob : Obs ob) : OpStep P τ ar o x ar := by
  have hob1 : ∀ {b : Bool} {l : Ob}, ob = (true, b) :: l → b = true := fun e => hob (true, _) (by rw [e]; simp) rfl
  unfold execN at h
  split at h
  · rename_i op xt x y yt ho
    unfold binN at h
    split at h
    · rename_i t z hx hy
      split at h
      · cases h
      · rename_i hk
        have := op_ifcNil (τ := τ) (ar := ar) (o := o) (yt := yt) (hJ.ifs.mem _ (lk_mem hk)) hx hy
        split at h
        · cases h; exact this.1 ho
        · cases h; exact this.2 ho
        · cases h
    · rename_i p q hx hy
      split at h
      · cases h
        have hle := hob1 rfl
        rw [Nat.ble_eq] at hle
        refine op_str ho hx hy fun w => ?_
        have h1 : ¬ (((p.size + q.size : Nat) : Int) > IntKind.i64.max) := by
          rw [size_bl, size_bl]
          have : IntKind.i64.max = 9223372036854775807 := by decide
          omega
        have e : p ++ q = bs (bl p ++ bl q) := by
          apply ByteArray.ext
          apply Array.ext'
          simp [bs, bl]
        simp only [Op.stringOp, h1, if_false, Sem.run_pure, e]
      · cases h; exact op_str ho hx hy fun w => by simp [Op.stringOp]
      · cases h; exact op_str ho hx hy fun w => by simp [Op.stringOp]
      · cases h; exact op_str ho hx hy fun w => by simp [Op.stringOp]
      · cases h; exact op_str ho hx hy fun w => by simp [Op.stringOp]
      · cases h
    · rename_i k p k' q hx hy
      split at h
      · cases h; exact op_shift ho hx hy (of_decide_eq_true (hob1 rfl)) (.inl ⟨rfl, rfl⟩)
      · cases h; exact op_shift ho hx hy (of_decide_eq_true (hob1 rfl)) (.inr ⟨rfl, rfl⟩)
      · split at h
        · cases h
        · rename_i hid
          have := IntKind.idx_inj hid
          subst this
          split at h
          · rename_i v hv; cases h; exact op_ints ho hx hy hv
          · cases h
    · cases h
  · rename_i x xt t ok ho
    split at h
    · cases h
    · rename_i z hz
      have hz : ZV P t z := hJ.zv.mem _ (lk_mem hz)
      split at h
      · rename_i t' y hx
        obtain ⟨a1, a2, a3⟩ := op_assert (τ := τ) (ar := ar) (o := o) (xt := xt) hz hx
        split at h
        · rename_i he
          have he := Nat.eq_of_beq_eq_true he
          split at h
          · cases h; exact a1 he ho
          · split at h
            · rename_i y' hy
              cases h
              rw [frc_eq hy]
              exact a2 he ho
            · cases h
        · rename_i he
          have he : t' ≠ t := fun e => by subst e; simp at he
          split at h
          · cases h; exact a3 he ho
          · cases h
      · rename_i hx
        split at h
        · cases h; exact op_assertNil hz hx ho
        · cases h
      · cases h
  · rename_i args argTypes ho
    split at h
    · rename_i y t hargs htys
      split at h
      · rename_i hk
        have hk : P.underlying t = some .string := hJ.strs.mem _ (lk_mem hk)
        split at h
        · rename_i s hx
          cases h
          have ha : args = #[y] := by cases args; simp at hargs; simp [hargs]
          have ht : argTypes = #[t] := by cases argTypes; simp at htys; simp [htys]
          subst ha; subst ht
          have := op_len_str (P := P) (τ := τ) (ar := ar) ho hk hx
          rw [size_bl] at this
          exact this
        · cases h
      · cases h
    · cases h
  · rename_i args argTypes ho
    split at h
    · rename_i x l hargs
      split at h
      · rename_i z hz
        split at h
        · rename_i z' hz'
          cases h
          rw [frc_eq hz']
          refine opStep_same fun C a w ρ hR hs => ?_
          obtain ⟨u, h1, h2⟩ := fold_ok (P := P) (w := w) hs l _ _ _ hz (evA_ok hs x)
          refine ⟨u, ?_, h2⟩
          simp only [if_true] at h1
          have hm : (args.map a.eval).toList = a.eval x :: l.map a.eval := by simp [hargs]
          simp only [execOp, ho, resolve, invoke, builtin, Sem.run_bind, Sem.run_pure, Result.andThen_ok, Builtin.max_, hm, h1]
        · cases h
      · cases h
    · cases h
  · rename_i args argTypes ho
    split at h
    · rename_i x l hargs
      split at h
      · rename_i z hz
        split at h
        · rename_i z' hz'
          cases h
          rw [frc_eq hz']
          refine opStep_same fun C a w ρ hR hs => ?_
          obtain ⟨u, h1, h2⟩ := fold_ok (P := P) (w := w) hs l _ _ _ hz (evA_ok hs x)
          refine ⟨u, ?_, h2⟩
          simp only [Bool.false_eq_true, if_false] at h1
          have hm : (args.map a.eval).toList = a.eval x :: l.map a.eval := by simp [hargs]
          simp only [execOp, ho, resolve, invoke, builtin, Sem.run_bind, Sem.run_pure, Result.andThen_ok, Builtin.min_, hm, h1]
        · cases h
      · cases h
    · cases h
  · rename_i t x y ho
    split at h
    · rename_i hk
      have hk : P.underlying t = some .string := hJ.strs.mem _ (lk_mem hk)
      split at h
      · rename_i s hx
        split at h
        · rename_i k i hy
          cases h
          exact op_indexStr hk ho hx hy (hob1 rfl)
        · cases h
      · cases h
    · cases h
  · rename_i t x lo hi ho
    split at h
    · rename_i s hx
      split at h
      · rename_i hk
        have hk : P.underlying t = some .string := hJ.strs.mem _ (lk_mem hk)
        split at h
        · rename_i l hl
          split at h
          · rename_i hh hhi
            cases h
            have := hob1 rfl
            simp only [Bool.and_eq_true, decide_eq_true_eq] at this
            exact op_sliceStr hk ho hx hl hhi this.1.1 this.1.2 this.2
          · cases h
        · cases h
      · cases h
    · rename_i sz nl m r hx
      split at h
      · rename_i e he
        haveI := hI.el.mem _ (lk_mem he)
        split at h
        · rename_i sz' ag hty
          haveI : Ty P e sz' ag := hI.ty.mem _ (lk_mem hty)
          split at h
          · rename_i hsz
            have hsz := Nat.eq_of_beq_eq_true hsz
            subst hsz
            split at h
            · rename_i l hl
              split at h
              · rename_i hh hhi
                cases h
                have := hob1 rfl
                simp only [Bool.and_eq_true, decide_eq_true_eq] at this
                exact op_sliceSlc (P := P) ho hx hl hhi this.1.1 this.1.2 this.2
              · cases h
            · cases h
          · cases h
        · cases h
      · cases h
    · cases h
  · rename_i s t x ho
    split at h
    · rename_i k p hx
      split at h
      · rename_i k' hk
        split at h
        · rename_i k0 hk0
          cases h
          exact op_convInt (hJ.ints.mem _ (lk_mem hk)) (hJ.ints.mem _ (lk_mem hk0)) ho hx
        · cases h
      · cases h
    · cases h
  · cases h
end
end Go.Iron
