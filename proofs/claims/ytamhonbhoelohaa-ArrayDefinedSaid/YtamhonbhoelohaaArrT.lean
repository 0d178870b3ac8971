/- ArrayDefined is true of every input, and its arguments stay as they are. -/
import Derived.Test.YtamhonbhoelohaaRows
import Derived.Test.YtamhonbhoelohaaArrS
import Derived.Test.YtamhonbhoelohaaIronO
namespace Go.Proofs.Ytamhonbhoelohaa.arrayDefined
open Go.ChangeShapes Go.WideShapes Go.ChangeAt Go.RowKit Go.Iron Go.Iron.Try
open Go.ChangeMaps (open_string shut_string)
theorem own : ownKnob Try.prog.godebug = none := by kernel_rfl
theorem laidOut : laidOutB Try.prog = true := by kernel_rfl
theorem opens_dim : Opens Try.prog 63 (fun d : Dim => [iv d.1, iv d.2]) :=
  (opens_struct Try.underlying63 (tot := 2) (by kernel_rfl) (opensF_cons (s := 1) rfl (by kernel_rfl) rfl (by decide) (opens_int (k := .i64) Try.underlying3) (opensF_cons (s := 1) rfl (by kernel_rfl) rfl (by decide) (opens_int (k := .i64) Try.underlying3) opensF_nil))).map (fun p => (p.1, p.2.1)) (fun _ => rfl)
theorem opens_isub : Opens Try.prog 75 (fun d : ISub => [iv d.1, iv d.2.1, iv d.2.2]) :=
  (opens_struct Try.underlying75 (tot := 3) (by kernel_rfl) (opensF_cons (s := 1) rfl (by kernel_rfl) rfl (by decide) (opens_int (k := .i64) Try.underlying3) (opensF_cons (s := 1) rfl (by kernel_rfl) rfl (by decide) (opens_int (k := .i64) Try.underlying3) (opensF_cons (s := 1) rfl (by kernel_rfl) rfl (by decide) (opens_int (k := .i64) Try.underlying3) opensF_nil)))).map (fun p => (p.1, p.2.1, p.2.2.1)) (fun _ => rfl)
set_option maxRecDepth 100000 in
theorem lifted (os : Os) (started : os.Started) (H : Type) (enc : TypeId × Value → H) :
    ReturnsInHanded {} Try.checked os 5 .any (Rows.arrayDefinedSpec.pre6 enc Try.prog Try.f5 Rows.arrayDefinedRow.domain false) (Rows.arrayDefinedSpec.post enc Try.prog Try.f5 false true false false) := by
  refine returnsInHanded_of_change_sized (C := Try.checked) own started (by kernel_rfl) Try.func5
    (ChangeSpec.witness6 (enc := enc) (C := Try.checked) false ⟨#[], #[.slice none 0 0, .slice none 0 0, .slice none 0 0, .slice none 0 0], []⟩ 8 (by kernel_rfl) (by kernel_rfl) (by kernel_rfl) (by kernel_rfl)) ?_
  intro W base args ds gs before hval0 hW hcnd hsz0 _
  have hsz : (DataW.weightsEach Try.prog (Try.f5.params.toList ++ Rows.arrayDefinedSpec.plain.varTypes Try.prog) (ds ++ gs)).all (· ≤ reachBytes) = true := hsz0
  have hval : ∀ (j : Nat) t v, Try.f5.params[j]? = some t → args[j]? = some v → Value.okWide Try.prog W .any base t v := hval0
  have hW' := hW
  obtain ⟨p, q, hA0, hV, rfl, hfz, hnd⟩ := hW
  have hA : DataW.TrodAll enc Try.prog W 0 (fun _ => true) true Try.f5.params.toList args.toList ds p := hA0
  rw [Try.params5] at hA hval hsz
  obtain ⟨v0, vs0, d0, ds0, p0, q0, hargs, rfl, rfl, h0, r0⟩ := trodAll_cons hA
  obtain ⟨v1, vs1, d1, ds1, p1, q1, rfl, rfl, rfl, h1, r1⟩ := trodAll_cons r0
  obtain ⟨v2, vs2, d2, ds2, p2, q2, rfl, rfl, rfl, h2, r2⟩ := trodAll_cons r1
  obtain ⟨v3, vs3, d3, ds3, p3, q3, rfl, rfl, rfl, h3, r3⟩ := trodAll_cons r2
  obtain ⟨rfl, rfl, rfl⟩ := trodAll_nil r3
  obtain rfl : args = #[v0, v1, v2, v3] := by cases args; simp_all
  obtain ⟨rfl, rfl⟩ := trodVars_none hV
  have lt0 : ∀ x ∈ p0, x.block < W.heap.size := by obtain ⟨m, hm⟩ := h0; exact DataW.trod_lt m _ _ _ hm
  have lt1 : ∀ x ∈ p1, x.block < W.heap.size := by obtain ⟨m, hm⟩ := h1; exact DataW.trod_lt m _ _ _ hm
  have lt2 : ∀ x ∈ p2, x.block < W.heap.size := by obtain ⟨m, hm⟩ := h2; exact DataW.trod_lt m _ _ _ hm
  have lt3 : ∀ x ∈ p3, x.block < W.heap.size := by obtain ⟨m, hm⟩ := h3; exact DataW.trod_lt m _ _ _ hm
  obtain ⟨l0, nl0, w0, b0⟩ := arg_slice ((0, 0) : Dim) (bytes := 16) (sz := 2) Try.underlying22 (by kernel_rfl) (by decide) opens_dim (by kernel_rfl) hsz (j := 0) rfl rfl (okWide_slice Try.underlying22 (hval 0 22 v0 rfl rfl)) h0
  obtain ⟨l1, nl1, w1, b1⟩ := arg_slice ((0, 0) : Dim) (bytes := 16) (sz := 2) Try.underlying22 (by kernel_rfl) (by decide) opens_dim (by kernel_rfl) hsz (j := 1) rfl rfl (okWide_slice Try.underlying22 (hval 1 22 v1 rfl rfl)) h1
  obtain ⟨l2, nl2, w2, b2⟩ := arg_slice ((0, 0, 0) : ISub) (bytes := 24) (sz := 3) Try.underlying33 (by kernel_rfl) (by decide) opens_isub (by kernel_rfl) hsz (j := 2) rfl rfl (okWide_slice Try.underlying33 (hval 2 33 v2 rfl rfl)) h2
  obtain ⟨l3, nl3, w3, b3⟩ := arg_slice (0 : Int) (bytes := 8) (sz := 1) Try.underlying23 (by kernel_rfl) (by decide) (opens_int (k := .i64) Try.underlying3) (by kernel_rfl) hsz (j := 3) rfl rfl (okWide_slice Try.underlying23 (hval 3 23 v3 rfl rfl)) h3
  clear hA0 hval0 hsz0 hsz
  refine (calls_of (u := .bool true) (law_ArrayDefined (some nl0) (some nl1) (some nl2) (some nl3) l0 l1 l2 l3 (by omega) (by omega) (by omega) (by omega)) rfl (fun i x v hx hv => ?_) (fun W' O v h => rv_val h)).mono fun e W' ⟨he, bel⟩ => ?_
  · rcases i with _ | _ | _ | _ | i
    · cases hx; cases hv; exact w0
    · cases hx; cases hv; exact w1
    · cases hx; cases hv; exact w2
    · cases hx; cases hv; exact w3
    · simp at hx
  subst he
  exact ⟨_, rfl, _, _, _, [], _, [], hW', trodAll_mk1 (shut_bool Try.underlying4 _), (trodAll_cons_mk (Below.trod laidOut (by kernel_rfl) (of_decide_eq_true (by kernel_rfl)) h0 bel lt0) (trodAll_cons_mk (Below.trod laidOut (by kernel_rfl) (of_decide_eq_true (by kernel_rfl)) h1 bel lt1) (trodAll_cons_mk (Below.trod laidOut (by kernel_rfl) (of_decide_eq_true (by kernel_rfl)) h2 bel lt2) (trodAll_cons_mk (Below.trod laidOut (by kernel_rfl) (of_decide_eq_true (by kernel_rfl)) h3 bel lt3) trodAll_mk0)))), rfl, bel.frame _, fun h => by cases h⟩
theorem over : Rows.arrayDefinedRow.holds Try.pinned (OpenSpec.ofChange Rows.arrayDefinedSpec) :=
  OpenClaim.holds_of_wide 5 Try.f5 rfl rfl rfl rfl rfl rfl rfl ⟨rfl, rfl, rfl, rfl, rfl⟩ rfl rfl rfl rfl rfl (by kernel_rfl) Try.func5 (by kernel_rfl)
    (of_decide_eq_true (by kernel_rfl)) (by unfold Func.isWrapper; first | (rw [if_pos (by decide +kernel)]; kernel_rfl) | (rw [if_neg (by decide +kernel)]; exact ⟨rfl, rfl⟩))
    (fun os started H enc _ => lifted os started H enc)
end Go.Proofs.Ytamhonbhoelohaa.arrayDefined
namespace Go.Proofs.Ytamhonbhoelohaa
/-- ArrayDefined, for every input. -/
theorem arrayDefined_holds : Rows.ArrayDefinedSaid := arrayDefined.over
end Go.Proofs.Ytamhonbhoelohaa
