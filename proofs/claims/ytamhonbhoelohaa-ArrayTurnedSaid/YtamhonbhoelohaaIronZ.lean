/- Iron: returning, with what is one's own let go. -/
import Derived.Test.YtamhonbhoelohaaIronY
namespace Go.Iron
section
variable {P : Program} {f n : Nat} {C : Cx} {τ τ' : Nat → AV} {ar ar' : List AO} {k todo : List Item} {Q : Out → List AO → Prop} {ops : Array Oper}

/-- return; the first m of one's own objects stay. -/
theorem run_retT (m : Nat) {fn : Func} {c : Code} [hf : Fun P f fn c] {xs : List AV} (hr : Res P τ ar fn.results.toList xs) (hm : C.ar0.length ≤ m) (ht : takeA m ar = some ar') (hk : Kept m ar') (hu : (outA xs).under m = true) (hQ : Q (.ret (outA xs)) ar') (hrd : C.rd = none := by rfl) (hD : C.D = [] := by rfl) :
    Run P f n C τ ar (.code .ret :: k) Q := by
  intro b a w ρ cs g1 g2 g3 g4 g5 g6
  obtain ⟨v, hv, hx⟩ := results_run g5 g6 hr
  obtain ⟨r1, r2⟩ := rel_take g5 hm ht hk (by rw [hD]; rfl)
  refine ⟨.norm (.returned v), w, { b.atR a (.code .ret :: k) with mode := .returning }, .one (stepR_ret (g2.2.trans hrd)), g1, ⟨rfl, by rw [hD] at g4; exact g4, g2.1, fn, ?_, hv⟩, .ret (outA xs), ar', ρ.take m, hQ, r1, hx.take r2 hu⟩
  show P.funcs[b.fn]? = some fn
  rw [g1]
  exact hf.h
theorem run_endT (m : Nat) {fn : Func} {c : Code} [hf : Fun P f fn c] {xs : List AV} (hr : Res P τ ar fn.results.toList xs) (hm : C.ar0.length ≤ m) (ht : takeA m ar = some ar') (hk : Kept m ar') (hu : (outA xs).under m = true) (hQ : Q (.ret (outA xs)) ar') (hrd : C.rd = none := by rfl) (hD : C.D = [] := by rfl) :
    Run P f n C τ ar [] Q := by
  intro b a w ρ cs g1 g2 g3 g4 g5 g6
  obtain ⟨v, hv, hx⟩ := results_run g5 g6 hr
  obtain ⟨r1, r2⟩ := rel_take g5 hm ht hk (by rw [hD]; rfl)
  refine ⟨.norm (.returned v), w, { b.atR a [] with mode := .returning }, .one (stepR_end (g2.2.trans hrd)), g1, ⟨rfl, by rw [hD] at g4; exact g4, g2.1, fn, ?_, hv⟩, .ret (outA xs), ar', ρ.take m, hQ, r1, hx.take r2 hu⟩
  show P.funcs[b.fn]? = some fn
  rw [g1]
  exact hf.h

/-- What the result variables hold. -/
def resX (I : TI) (τ : Nat → AV) (ar : List AO) : List ResultVar → Option (List AV)
  | [] => some []
  | .tmp t :: rs => match frc (τ t) with
    | none => none
    | some x => match resX I τ ar rs with
      | none => none
      | some xs => some (x :: xs)
  | .cell p t :: rs => match lk I.ty t with
    | none => none
    | some (sz, ag) => match τ p with
      | .ptr id ver off => match objP ar id ver with
        | none => none
        | some (_, cs) => match loadA ag sz cs off with
          | none => none
          | some y => match frc y with
            | none => none
            | some x => match resX I τ ar rs with
              | none => none
              | some xs => some (x :: xs)
      | _ => none
theorem resX_ok {I : TI} [hI : Inf P I] : ∀ (rs : List ResultVar) (xs : List AV), resX I τ ar rs = some xs → Res P τ ar rs xs
  | [], xs, h => by simp [resX] at h; subst h; exact .nil
  | .tmp t :: rs, xs, h => by
    unfold resX at h
    split at h
    · cases h
    · rename_i x hx
      split at h
      · cases h
      · rename_i ys hy
        cases h
        rw [frc_eq hx]
        exact .tmp (resX_ok rs ys hy)
  | .cell p t :: rs, xs, h => by
    unfold resX at h
    split at h
    · cases h
    · rename_i sz ag hty
      split at h
      · rename_i id ver off hp
        split at h
        · cases h
        · rename_i ob cs hob
          obtain ⟨h1, h2⟩ := objP_spec hob
          split at h
          · cases h
          · rename_i y hy
            split at h
            · cases h
            · rename_i x hx
              split at h
              · cases h
              · rename_i ys hys
                cases h
                rw [frc_eq hx]
                exact .cell (hI.ty.mem _ (lk_mem hty)) hp h1 h2 hy (resX_ok rs ys hys)
      · cases h

/-- return; the first m of one's own objects stay. -/
theorem run_retX {I : TI} [hI : Inf P I] (m : Nat) {fn : Func} {c : Code} [hf : Fun P f fn c] {xs : List AV} (hr : resX I τ ar fn.results.toList = some xs) (hm : C.ar0.length ≤ m) (ht : takeA m ar = some ar') (hk : Kept m ar') (hu : (outA xs).under m = true) (hQ : Q (.ret (outA xs)) ar') (hrd : C.rd = none := by rfl) (hD : C.D = [] := by rfl) :
    Run P f n C τ ar (.code .ret :: k) Q := run_retT m (resX_ok _ _ hr) hm ht hk hu hQ hrd hD
theorem run_endX {I : TI} [hI : Inf P I] (m : Nat) {fn : Func} {c : Code} [hf : Fun P f fn c] {xs : List AV} (hr : resX I τ ar fn.results.toList = some xs) (hm : C.ar0.length ≤ m) (ht : takeA m ar = some ar') (hk : Kept m ar') (hu : (outA xs).under m = true) (hQ : Q (.ret (outA xs)) ar') (hrd : C.rd = none := by rfl) (hD : C.D = [] := by rfl) :
    Run P f n C τ ar [] Q := run_endT m (resX_ok _ _ hr) hm ht hk hu hQ hrd hD
end
end Go.Iron
