/- ArrayTurned is true of every input, and its arguments stay as they are. -/
import Derived.Test.YtamhonbhoelohaaRows
import Derived.Test.YtamhonbhoelohaaArrTE
import Derived.Test.YtamhonbhoelohaaIronOW
namespace Go.Proofs.Ytamhonbhoelohaa.arrayTurned
open Go.ChangeShapes Go.WideShapes Go.ChangeAt Go.RowKit Go.Iron Go.Iron.Try
open Go.ChangeMaps (open_string shut_string)
theorem own : ownKnob Try.prog.godebug = none := by kernel_rfl
theorem laidOut : laidOutB Try.prog = true := by kernel_rfl
theorem opens_dim : Opens Try.prog 63 (fun d : Dim => [iv d.1, iv d.2]) :=
  (opens_struct Try.underlying63 (tot := 2) (by kernel_rfl) (opensF_cons (s := 1) rfl (by kernel_rfl) rfl (by decide) (opens_int (k := .i64) Try.underlying3) (opensF_cons (s := 1) rfl (by kernel_rfl) rfl (by decide) (opens_int (k := .i64) Try.underlying3) opensF_nil))).map (fun p => (p.1, p.2.1)) (fun _ => rfl)
theorem opens_lists : OpensW Try.prog 22 lstE (fun d : List Dim => d.length * 16 ≤ reachBytes ∧ ∀ b ∈ d, True) :=
  opensW_slice ((0, 0) : Dim) (sz := 2) (bytes := 16) Try.underlying22 (by kernel_rfl) (by decide) (by kernel_rfl) opens_dim.w
set_option maxRecDepth 100000 in
theorem lifted (os : Os) (started : os.Started) (H : Type) (enc : TypeId × Value → H) :
    ReturnsInHanded {} Try.checked os 6 .any (Rows.arrayTurnedSpec.pre6 enc Try.prog Try.f6 Rows.arrayTurnedRow.domain false) (Rows.arrayTurnedSpec.post enc Try.prog Try.f6 false true false false) := by
  refine returnsInHanded_of_change_sized (C := Try.checked) own started (by kernel_rfl) Try.func6
    (ChangeSpec.witness6 (enc := enc) (C := Try.checked) false ⟨#[], #[.slice none 0 0, .slice none 0 0, .slice none 0 0], []⟩ 8 (by kernel_rfl) (by kernel_rfl) (by kernel_rfl) (by kernel_rfl)) ?_
  intro W base args ds gs before hval0 hW hcnd hsz0 _
  have hsz : (DataW.weightsEach Try.prog (Try.f6.params.toList ++ Rows.arrayTurnedSpec.plain.varTypes Try.prog) (ds ++ gs)).all (· ≤ reachBytes) = true := hsz0
  have hval : ∀ (j : Nat) t v, Try.f6.params[j]? = some t → args[j]? = some v → Value.okWide Try.prog W .any base t v := hval0
  have hW' := hW
  obtain ⟨p, q, hA0, hV, rfl, hfz, hnd⟩ := hW
  have hA : DataW.TrodAll enc Try.prog W 0 (fun _ => true) true Try.f6.params.toList args.toList ds p := hA0
  rw [Try.params6] at hA hval hsz
  obtain ⟨v0, vs0, d0, ds0, p0, q0, hargs, rfl, rfl, h0, r0⟩ := trodAll_cons hA
  obtain ⟨v1, vs1, d1, ds1, p1, q1, rfl, rfl, rfl, h1, r1⟩ := trodAll_cons r0
  obtain ⟨v2, vs2, d2, ds2, p2, q2, rfl, rfl, rfl, h2, r2⟩ := trodAll_cons r1
  obtain ⟨rfl, rfl, rfl⟩ := trodAll_nil r2
  obtain rfl : args = #[v0, v1, v2] := by cases args; simp_all
  obtain ⟨rfl, rfl⟩ := trodVars_none hV
  have lt0 : ∀ x ∈ p0, x.block < W.heap.size := by obtain ⟨m, hm⟩ := h0; exact DataW.trod_lt m _ _ _ hm
  have lt1 : ∀ x ∈ p1, x.block < W.heap.size := by obtain ⟨m, hm⟩ := h1; exact DataW.trod_lt m _ _ _ hm
  have lt2 : ∀ x ∈ p2, x.block < W.heap.size := by obtain ⟨m, hm⟩ := h2; exact DataW.trod_lt m _ _ _ hm
  obtain ⟨l0, nl0, w0, b0, c0⟩ := argW_slice ([] : List Dim) (bytes := 24) (sz := 1) Try.underlying37 (by kernel_rfl) (by decide) opens_lists (by kernel_rfl) hsz (j := 0) rfl rfl (okWide_slice Try.underlying37 (hval 0 37 v0 rfl rfl)) h0
  have hr : reachBytes = 140737488351232 := by decide
  rw [hr] at b0 c0
  obtain ⟨l1, nl1, w1, b1⟩ := arg_slice ((0, 0) : Dim) (bytes := 16) (sz := 2) Try.underlying22 (by kernel_rfl) (by decide) opens_dim (by kernel_rfl) hsz (j := 1) rfl rfl (okWide_slice Try.underlying22 (hval 1 22 v1 rfl rfl)) h1
  obtain ⟨l2, nl2, w2, b2⟩ := arg_slice (0 : Int) (bytes := 8) (sz := 1) Try.underlying23 (by kernel_rfl) (by decide) (opens_int (k := .i64) Try.underlying3) (by kernel_rfl) hsz (j := 2) rfl rfl (okWide_slice Try.underlying23 (hval 2 23 v2 rfl rfl)) h2
  clear hA0 hval0 hsz0 hsz
  refine (calls_of (u := .bool true) (law_ArrayTurned (some nl0) (some nl1) (some nl2) l0 l1 l2 (by omega) (fun x hx => by have := (c0 x hx).1; omega) (by omega) (by omega)) rfl (fun i x v hx hv => ?_) (fun W' O v h => rv_val h)).mono fun e W' ⟨he, bel⟩ => ?_
  · rcases i with _ | _ | _ | i
    · cases hx; cases hv; exact w0
    · cases hx; cases hv; exact w1
    · cases hx; cases hv; exact w2
    · simp at hx
  subst he
  exact ⟨_, rfl, _, _, _, [], _, [], hW', trodAll_mk1 (shut_bool Try.underlying4 _), (trodAll_cons_mk (Below.trod laidOut (by kernel_rfl) (of_decide_eq_true (by kernel_rfl)) h0 bel lt0) (trodAll_cons_mk (Below.trod laidOut (by kernel_rfl) (of_decide_eq_true (by kernel_rfl)) h1 bel lt1) (trodAll_cons_mk (Below.trod laidOut (by kernel_rfl) (of_decide_eq_true (by kernel_rfl)) h2 bel lt2) trodAll_mk0))), rfl, bel.frame _, fun h => by cases h⟩
theorem over : Rows.arrayTurnedRow.holds Try.pinned (OpenSpec.ofChange Rows.arrayTurnedSpec) :=
  OpenClaim.holds_of_wide 6 Try.f6 rfl rfl rfl rfl rfl rfl rfl ⟨rfl, rfl, rfl, rfl, rfl⟩ rfl rfl rfl rfl rfl (by kernel_rfl) Try.func6 (by kernel_rfl)
    (of_decide_eq_true (by kernel_rfl)) (by unfold Func.isWrapper; first | (rw [if_pos (by decide +kernel)]; kernel_rfl) | (rw [if_neg (by decide +kernel)]; exact ⟨rfl, rfl⟩))
    (fun os started H enc _ => lifted os started H enc)
end Go.Proofs.Ytamhonbhoelohaa.arrayTurned
namespace Go.Proofs.Ytamhonbhoelohaa
/-- ArrayTurned, for every input. -/
theorem arrayTurned_holds : Rows.ArrayTurnedSaid := arrayTurned.over
end Go.Proofs.Ytamhonbhoelohaa
