/- TokenScans is true of every input (the card ties the listed variables), and its argument stays as it is. -/
import Derived.Test.YtmohlahmfkkggaaDoorRows
import Derived.Test.YtmohlahmfkkggaaDoorTD
import Derived.Test.YtmohlahmfkkggaaDoorTG
import Derived.Test.YtmohlahmfkkggaaDoorCards
import Derived.Test.YtmohlahmfkkggaaDoorTie
import Derived.ProofKit
import Derived.LaidMore
import Derived.OpenShut
import Derived.Stop.Joined
import Derived.Lay
import Derived.SevenTiedAt
import Derived.Shelf.Vars
namespace Go.Proofs.YtmohlahmfkkggaaDoor.tokenScans
open Go.ChangeShapes Go.WideShapes Go.ChangeAt Go.RowKit Go.Iron Go.Iron.Tryd
open Go.ChangeMaps (open_string shut_string)
theorem own : ownKnob Tryd.prog.godebug = none := by kernel_rfl
theorem laidOut : laidOutB Tryd.prog = true := by kernel_rfl
/-- The library's variable stands in every world that fits. -/
theorem stands_of {W : World} (h : W.ShapedOpen Tryd.prog) : ∀ p ∈ Globs.tabs, ∃ cs e fz, W.heap[p.1]? = some (.cells cs e fz) ∧ p.2 cs := by
  intro p hp
  have h0 : ((begin Tryd.prog (fun _ _ => 0) default).world.heap[0]?).bind Obj.row? = some (#[.int .i64 0], 3) := by kernel_rfl
  have hg : 0 < Tryd.prog.globals.size := of_decide_eq_true (by kernel_rfl)
  obtain ⟨m, hm⟩ := cell_of_shapedOpen_int h hg h0 rfl (by kernel_rfl) (by kernel_rfl) Tryd.underlying3
  obtain ⟨cs, hh, hs, _⟩ := h.1 0 _ _ hg h0
  have hp' : p = (0, fun cs => ∃ m : Int, cs = #[.int .i64 m]) := by
    cases hp with
    | head => rfl
    | tail _ h => cases h
  subst hp'
  refine ⟨cs, _, _, hh, m, ?_⟩
  have hc : cs[0]? = some (.int .i64 m) := by simpa [World.cell?, hh] using hm
  obtain ⟨l⟩ := cs
  match l, hs, hc with
  | [v], _, hc =>
    have : v = .int .i64 m := by simpa using hc
    rw [this]
set_option maxRecDepth 100000 in
theorem lifted (os : Os) (started : os.Started) (H : Type) (enc : TypeId × Value → H) :
    ReturnsInHanded {} Tryd.checked os 4 .any (fun w args => (Rows.tokenScansSpec.pre enc Tryd.prog Tryd.f4 Rows.tokenScansRow.domain false w args ∧ laidMetH Tryd.prog Rows.tokenScansRow.laid w) ∧ sizedMet enc Tryd.prog Tryd.f4 (OpenSpec.ofChange Rows.tokenScansSpec) false w args)
      (Rows.tokenScansSpec.post enc Tryd.prog Tryd.f4 false true false false) := by
  refine returnsInHanded_of_calls own started (by kernel_rfl)
    (ChangeSpec.witness_shaped (enc := enc) (C := Tryd.checked) (os := os) (X := fun w _ => laidMetH Tryd.prog Rows.tokenScansRow.laid w) false (World.laidAll Tryd.prog os Rows.tokenScansRow.laid) #[.string ⟨#[]⟩] 8 (World.laidAll_os _ _ _) (World.shaped_of_ZipB (by kernel_rfl) (by kernel_rfl)) (by kernel_rfl) (by kernel_rfl) (by kernel_rfl)
      (by rw [MakeChecks.laidMetH_plain _ _ _ (by kernel_rfl)]; exact laidMet_laidAll _ (by kernel_rfl) (by kernel_rfl))) ?_
  intro w0 tape i _ hsh _ hok hpre _
  obtain ⟨_, _, _, fn', hfn', _, _, _, _, hval0⟩ := hok
  obtain rfl : fn' = Tryd.f4 := Option.some.inj (hfn'.symm.trans Tryd.func4)
  obtain ⟨⟨⟨ds, gs, before, hw, hcnd⟩, hL⟩, hz⟩ := hpre
  have hW := DataW.Whole.of_heap (w' := w0.forCall tape i) (by rfl) hw
  have hsz0 := hz.weights hw
  suffices hgoal : Calls Tryd.prog 4 i.args (w0.forCall tape i) fun e W' => ∃ v, e = .returned v ∧ Rows.tokenScansSpec.post enc Tryd.prog Tryd.f4 false true false false (w0.forCall tape i) i.args v W' by
    refine hgoal.mono fun e W' ⟨v, he, hp⟩ => ?_
    subst he
    exact ChangeSpec.post_blind hp
  revert hW hsz0 hval0 hsh
  generalize w0.forCall tape i = W
  generalize i.args = args
  intro hsh hval0 hW hsz0
  have hsz : (DataW.weightsEach Tryd.prog (Tryd.f4.params.toList ++ Rows.tokenScansSpec.plain.varTypes Tryd.prog) (ds ++ gs)).all (· ≤ reachBytes) = true := hsz0
  have hval : ∀ (j : Nat) t v, Tryd.f4.params[j]? = some t → args[j]? = some v → Value.okWide Tryd.prog W .any w0.heap.size t v := hval0
  have hW' := hW
  obtain ⟨p, q, hA0, hV, rfl, hfz, hnd⟩ := hW
  have hA : DataW.TrodAll enc Tryd.prog W 0 (fun _ => true) true Tryd.f4.params.toList args.toList ds p := hA0
  rw [Tryd.params4] at hA hval hsz
  obtain ⟨v0, vs0, d0, ds0, p0, q0, hargs, rfl, rfl, h0, r0⟩ := trodAll_cons hA
  obtain ⟨rfl, rfl, rfl⟩ := trodAll_nil r0
  obtain rfl : args = #[v0] := by cases args; simp_all
  obtain ⟨rfl, rfl⟩ := trodVars_none hV
  obtain ⟨s0, rfl, rfl, rfl, m0⟩ := open_string Tryd.underlying9 (hval 0 9 v0 rfl rfl) h0
  clear hA0 hval0 hsz0 hsz
  have hst := stands_of hsh
  refine (calls_of (u := .bool true) (k_scans s0.data.toList) rfl (fun i x v hx hv => ?_) (fun W' O v h => rv_val h) hst).mono fun e W' ⟨he, bel⟩ => ?_
  · rcases i with _ | i
    · cases hx; cases hv; exact .val
    · simp at hx
  subst he
  exact ⟨_, rfl, _, _, _, [], _, [], hW', trodAll_mk1 (shut_bool Tryd.underlying4 _), (trodAll_cons_mk (shut_string Tryd.underlying9 m0) trodAll_mk0), rfl, bel.frame _, fun h => by cases h⟩
theorem over : Rows.tokenScansRow.holds Tryd.pinned (OpenSpec.ofChange Rows.tokenScansSpec) :=
  OpenClaim.holds_of_wide 4 Tryd.f4 rfl rfl rfl rfl rfl rfl rfl ⟨rfl, rfl, rfl, rfl, rfl⟩ rfl rfl rfl rfl rfl (by kernel_rfl) Tryd.func4 (by kernel_rfl)
    (of_decide_eq_true (by kernel_rfl)) (by unfold Func.isWrapper; first | (rw [if_pos (by decide +kernel)]; kernel_rfl) | (rw [if_neg (by decide +kernel)]; exact ⟨rfl, rfl⟩))
    (fun os started H enc _ => lifted os started H enc)
end Go.Proofs.YtmohlahmfkkggaaDoor.tokenScans
namespace Go.Proofs.YtmohlahmfkkggaaDoor
open Go
/-- TokenScans, the tied card: for every input. -/
theorem tokenScans_holds : Rows.TokenScansCardSaid :=
  Claim7.holds_tied_plain_at .later [] [.data, .pinned, .pinned] true (true, "a9f8815fea1c4352a0bd03fb0c66a9d4db8798344e84629650324e4068dbdd12") true
    tokenScans.over (fun _ h => by cases h) (by kernel_rfl) (fun _ h => by cases h) tokenScans_row_tie rfl ⟨rfl, rfl⟩ (by kernel_rfl) rfl
    (fun f fn hf hfn => by
      obtain rfl : f = 4 := Option.some.inj ((show Tryd.prog.funcNamed "ironbark/ironbarklaw09.TokenScans" = some 4 by kernel_rfl).symm.trans hf) |>.symm
      obtain rfl : fn = Tryd.f4 := (Option.some.inj (Tryd.func4.symm.trans hfn)).symm
      exact ⟨by kernel_rfl, fun j t ht => by
        rw [Tryd.params4] at ht
        have hm : t ∈ [9] := by simpa using Array.mem_of_getElem? ht
        have hall : ([9].all fun u => !Tryd.prog.wantsStandIn u) = true := by kernel_rfl
        exact (show Tryd.prog.wantsStandIn t = false by simpa using List.all_eq_true.1 hall t hm)⟩)
    (by kernel_rfl)
end Go.Proofs.YtmohlahmfkkggaaDoor
