/- LevelByName is true of every input, and its arguments stay as they are. -/
import Derived.Test.YtamhonbhoelohaaRows
import Derived.Test.YtamhonbhoelohaaTD
import Derived.Test.YtamhonbhoelohaaTF
namespace Go.Proofs.Ytamhonbhoelohaa.levelByName
open Go.ChangeShapes Go.WideShapes Go.ChangeAt Go.RowKit Go.Iron Go.Iron.Try
open Go.ChangeMaps (open_string shut_string)
theorem own : ownKnob Try.prog.godebug = none := by kernel_rfl
theorem laidOut : laidOutB Try.prog = true := by kernel_rfl
theorem opens_txt : Opens Try.prog 9 (fun s : Str => [sv s]) := (opens_str Try.underlying9).map (fun b => bl b) (fun b => rfl)
theorem opens_typ : Opens Try.prog 88 typE :=
  (opens_struct Try.underlying88 (tot := 6) (by kernel_rfl) (opensF_cons (s := 1) rfl (by kernel_rfl) rfl (by decide) (opens_int (k := .i64) Try.underlying3) (opensF_cons (s := 1) rfl (by kernel_rfl) rfl (by decide) (opens_int (k := .i64) Try.underlying3) (opensF_cons (s := 1) rfl (by kernel_rfl) rfl (by decide) (opens_int (k := .i64) Try.underlying3) (opensF_cons (s := 1) rfl (by kernel_rfl) rfl (by decide) (opens_int (k := .i64) Try.underlying3) (opensF_cons (s := 1) rfl (by kernel_rfl) rfl (by decide) (opens_bool Try.underlying4) (opensF_cons (s := 1) rfl (by kernel_rfl) rfl (by decide) opens_txt opensF_nil))))))).map (fun p => (⟨p.1, p.2.1, p.2.2.1, p.2.2.2.1, p.2.2.2.2.1, p.2.2.2.2.2.1⟩ : Typ)) (fun _ => rfl)
theorem opens_fld : Opens Try.prog 90 fldE :=
  (opens_struct Try.underlying90 (tot := 11) (by kernel_rfl) (opensF_cons (s := 1) rfl (by kernel_rfl) rfl (by decide) (opens_int (k := .i64) Try.underlying3) (opensF_cons (s := 1) rfl (by kernel_rfl) rfl (by decide) opens_txt (opensF_cons (s := 1) rfl (by kernel_rfl) rfl (by decide) (opens_int (k := .i64) Try.underlying3) (opensF_cons (s := 6) rfl (by kernel_rfl) rfl (by decide) opens_typ (opensF_cons (s := 1) rfl (by kernel_rfl) rfl (by decide) (opens_bool Try.underlying4) (opensF_cons (s := 1) rfl (by kernel_rfl) rfl (by decide) (opens_int (k := .i64) Try.underlying3) opensF_nil))))))).map (fun p => (⟨p.1, p.2.1, p.2.2.1, p.2.2.2.1, p.2.2.2.2.1, p.2.2.2.2.2.1⟩ : Fld)) (fun _ => rfl)
set_option maxRecDepth 100000 in
theorem lifted (os : Os) (started : os.Started) (H : Type) (enc : TypeId × Value → H) :
    ReturnsInHanded {} Try.checked os 10 .any (Rows.levelByNameSpec.pre6 enc Try.prog Try.f10 Rows.levelByNameRow.domain false) (Rows.levelByNameSpec.post enc Try.prog Try.f10 false true false false) := by
  refine returnsInHanded_of_change_sized (C := Try.checked) own started (by kernel_rfl) Try.func10
    (ChangeSpec.witness6 (enc := enc) (C := Try.checked) false ⟨#[], #[.slice none 0 0, .slice none 0 0], []⟩ 8 (by kernel_rfl) (by kernel_rfl) (by kernel_rfl) (by kernel_rfl)) ?_
  intro W base args ds gs before hval0 hW hcnd hsz0 _
  have hsz : (DataW.weightsEach Try.prog (Try.f10.params.toList ++ Rows.levelByNameSpec.plain.varTypes Try.prog) (ds ++ gs)).all (· ≤ reachBytes) = true := hsz0
  have hval : ∀ (j : Nat) t v, Try.f10.params[j]? = some t → args[j]? = some v → Value.okWide Try.prog W .any base t v := hval0
  have hW' := hW
  obtain ⟨p, q, hA0, hV, rfl, hfz, hnd⟩ := hW
  have hA : DataW.TrodAll enc Try.prog W 0 (fun _ => true) true Try.f10.params.toList args.toList ds p := hA0
  rw [Try.params10] at hA hval hsz
  obtain ⟨v0, vs0, d0, ds0, p0, q0, hargs, rfl, rfl, h0, r0⟩ := trodAll_cons hA
  obtain ⟨v1, vs1, d1, ds1, p1, q1, rfl, rfl, rfl, h1, r1⟩ := trodAll_cons r0
  obtain ⟨rfl, rfl, rfl⟩ := trodAll_nil r1
  obtain rfl : args = #[v0, v1] := by cases args; simp_all
  obtain ⟨rfl, rfl⟩ := trodVars_none hV
  have lt0 : ∀ x ∈ p0, x.block < W.heap.size := by obtain ⟨m, hm⟩ := h0; exact DataW.trod_lt m _ _ _ hm
  have lt1 : ∀ x ∈ p1, x.block < W.heap.size := by obtain ⟨m, hm⟩ := h1; exact DataW.trod_lt m _ _ _ hm
  obtain ⟨l0, nl0, w0, b0⟩ := arg_slice fld0 (bytes := 104) (sz := 11) Try.underlying41 (by kernel_rfl) (by decide) opens_fld (by kernel_rfl) hsz (j := 0) rfl rfl (okWide_slice Try.underlying41 (hval 0 41 v0 rfl rfl)) h0
  obtain ⟨l1, nl1, w1, b1⟩ := arg_slice fld0 (bytes := 104) (sz := 11) Try.underlying41 (by kernel_rfl) (by decide) opens_fld (by kernel_rfl) hsz (j := 1) rfl rfl (okWide_slice Try.underlying41 (hval 1 41 v1 rfl rfl)) h1
  clear hA0 hval0 hsz0 hsz
  refine (calls_of (u := .bool true) (lev_LevelByName (some nl0) (some nl1) l0 l1 (by omega) (by omega)) rfl (fun i x v hx hv => ?_) (fun W' O v h => rv_val h)).mono fun e W' ⟨he, bel⟩ => ?_
  · rcases i with _ | _ | i
    · cases hx; cases hv; exact w0
    · cases hx; cases hv; exact w1
    · simp at hx
  subst he
  exact ⟨_, rfl, _, _, _, [], _, [], hW', trodAll_mk1 (shut_bool Try.underlying4 _), (trodAll_cons_mk (Below.trod laidOut (by kernel_rfl) (of_decide_eq_true (by kernel_rfl)) h0 bel lt0) (trodAll_cons_mk (Below.trod laidOut (by kernel_rfl) (of_decide_eq_true (by kernel_rfl)) h1 bel lt1) trodAll_mk0)), rfl, bel.frame _, fun h => by cases h⟩
theorem over : Rows.levelByNameRow.holds Try.pinned (OpenSpec.ofChange Rows.levelByNameSpec) :=
  OpenClaim.holds_of_wide 10 Try.f10 rfl rfl rfl rfl rfl rfl rfl ⟨rfl, rfl, rfl, rfl, rfl⟩ rfl rfl rfl rfl rfl (by kernel_rfl) Try.func10 (by kernel_rfl)
    (of_decide_eq_true (by kernel_rfl)) (by unfold Func.isWrapper; first | (rw [if_pos (by decide +kernel)]; kernel_rfl) | (rw [if_neg (by decide +kernel)]; exact ⟨rfl, rfl⟩))
    (fun os started H enc _ => lifted os started H enc)
end Go.Proofs.Ytamhonbhoelohaa.levelByName
namespace Go.Proofs.Ytamhonbhoelohaa
/-- LevelByName, for every input. -/
theorem levelByName_holds : Rows.LevelByNameSaid := levelByName.over
end Go.Proofs.Ytamhonbhoelohaa
