/- TokenConstants is true of every input where the package-level variables start as the program's text lays them (the card ties them), and its argument stays as it is. -/
import Derived.Test.YtmohlahmfkkggaaGreatDoorRows
import Derived.Test.YtmohlahmfkkggaaGreatDoorTD
import Derived.Test.YtmohlahmfkkggaaGreatDoorTH
import Derived.Test.YtmohlahmfkkggaaGreatDoorCards
import Derived.Test.YtmohlahmfkkggaaGreatDoorTie
import Derived.ProofKit
import Derived.LaidMore
import Derived.OpenShut
import Derived.Stop.Joined
import Derived.Lay
import Derived.SevenTiedAt
import Derived.Shelf.Vars
namespace Go.Proofs.YtmohlahmfkkggaaGreatDoor.tokenConstants
open Go.ChangeShapes Go.WideShapes Go.ChangeAt Go.RowKit Go.Iron Go.Iron.Tryz
open Go.ChangeMaps (open_string shut_string)
theorem own : ownKnob Tryz.prog.godebug = none := by kernel_rfl
theorem laidOut : laidOutB Tryz.prog = true := by kernel_rfl
theorem opens_tok : Opens Tryz.prog 29 (fun t : Int × List UInt8 × Int => [iv t.1, sv t.2.1, iv t.2.2]) :=
  (opens_struct Tryz.underlying29 (tot := 3) (by kernel_rfl) (opensF_cons (s := 1) rfl (by kernel_rfl) rfl (by decide) (opens_int (k := .i64) Tryz.underlying3) (opensF_cons (s := 1) rfl (by kernel_rfl) rfl (by decide) (opens_str Tryz.underlying9) (opensF_cons (s := 1) rfl (by kernel_rfl) rfl (by decide) (opens_int (k := .i64) Tryz.underlying3) opensF_nil)))).map (fun p => (p.1, p.2.1.data.toList, p.2.2.1)) (fun _ => rfl)
theorem gPow2 : Tryz.prog.globalNamed "internal/strconv.uint64pow10" = some 3 := by kernel_rfl
theorem tPow : (Tryz.prog.globals[3]?).map (·.type) = some 154 := by kernel_rfl
/-- The library's variable stands in every world that fits. -/
theorem max_of {W : World} (h : W.ShapedOpen Tryz.prog) : ∃ cs e fz, W.heap[0]? = some (.cells cs e fz) ∧ ∃ m : Int, cs = #[.int .i64 m] := by
  have h0 : ((begin Tryz.prog (fun _ _ => 0) default).world.heap[0]?).bind Obj.row? = some (#[.int .i64 0], 3) := by kernel_rfl
  have hg : 0 < Tryz.prog.globals.size := of_decide_eq_true (by kernel_rfl)
  obtain ⟨m, hm⟩ := cell_of_shapedOpen_int h hg h0 rfl (by kernel_rfl) (by kernel_rfl) Tryz.underlying3
  obtain ⟨cs, hh, hs, _⟩ := h.1 0 _ _ hg h0
  refine ⟨cs, _, _, hh, m, ?_⟩
  have hc : cs[0]? = some (.int .i64 m) := by simpa [World.cell?, hh] using hm
  obtain ⟨l⟩ := cs
  match l, hs, hc with
  | [v], _, hc =>
    have : v = .int .i64 m := by simpa using hc
    rw [this]
/-- What the condition says of the table. -/
theorem of_laid {W : World} (h : laidMetH Tryz.prog Rows.tokenConstantsRow.laid W.memory) (hs : W.ShapedOpen Tryz.prog) : ∀ p ∈ Globs.tabs, ∃ cs e fz, W.heap[p.1]? = some (.cells cs e fz) ∧ p.2 cs := by
  rw [MakeChecks.laidMetH_plain _ _ _ (by kernel_rfl)] at h
  obtain ⟨ps, ⟨g0, t0, cs0, f0, p0, q0, hg0, ht0, hv0, hd0, ⟨g1, t1, cs1, f1, p1, q1, hg1, ht1, hv1, hd1, ⟨g2, t2, cs2, f2, p2, q2, hg2, ht2, hv2, hd2, _, _⟩, _⟩, _⟩, _⟩ := h
  obtain rfl := Option.some.inj (gPow2.symm.trans hg2)
  obtain rfl := Option.some.inj (tPow.symm.trans ht2)
  have hc := Lib.cells_of_tab (k := .u64) (zs := Lib.pow10Tab) Tryz.underlying154 Tryz.underlying133 (by kernel_rfl) (by kernel_rfl) (show DataW.trod _ _ _ _ _ _ _ _ _ = some (Lib.tabData .u64 Lib.pow10Tab, _) from hd2)
  intro p hp
  have hp' : p = (0, fun cs => ∃ m : Int, cs = #[.int .i64 m]) ∨ p = (3, fun cs => cs = (Lib.pow10Tab.map (fun z => Value.int .u64 z)).toArray) := by
    cases hp with
    | head => exact .inl rfl
    | tail _ h => cases h with
      | head => exact .inr rfl
      | tail _ h => cases h
  rcases hp' with rfl | rfl
  · exact max_of hs
  unfold World.var? at hv2
  rw [gPow2] at hv2
  dsimp only [Option.bind] at hv2
  split at hv2
  · rename_i cs e fz hh
    refine ⟨cs, e, fz, hh, ?_⟩
    obtain rfl := Option.some.inj hv2
    show cs = _
    apply Array.ext'
    rw [hc]
  · cases hv2
set_option maxRecDepth 100000 in
theorem lifted (os : Os) (started : os.Started) (H : Type) (enc : TypeId × Value → H) :
    ReturnsInHanded {} Tryz.checked os 4 .any (fun w args => (Rows.tokenConstantsSpec.pre enc Tryz.prog Tryz.f4 Rows.tokenConstantsRow.domain false w args ∧ laidMetH Tryz.prog Rows.tokenConstantsRow.laid w) ∧ sizedMet enc Tryz.prog Tryz.f4 (OpenSpec.ofChange Rows.tokenConstantsSpec) false w args)
      (Rows.tokenConstantsSpec.post enc Tryz.prog Tryz.f4 false true false false) := by
  refine returnsInHanded_of_calls own started (by kernel_rfl)
    (ChangeSpec.witness_shaped (enc := enc) (C := Tryz.checked) (os := os) (X := fun w _ => laidMetH Tryz.prog Rows.tokenConstantsRow.laid w) false (World.laidAll Tryz.prog os Rows.tokenConstantsRow.laid) #[.agg #[.int .i64 0, .string ⟨#[]⟩, .int .i64 0]] 8 (World.laidAll_os _ _ _) (World.shaped_of_ZipB (by kernel_rfl) (by kernel_rfl)) (by kernel_rfl) (by kernel_rfl) (by kernel_rfl)
      (by rw [MakeChecks.laidMetH_plain _ _ _ (by kernel_rfl)]; exact laidMet_laidAll _ (by kernel_rfl) (by kernel_rfl))) ?_
  intro w0 tape i _ hsh _ hok hpre _
  obtain ⟨_, _, _, fn', hfn', _, _, _, _, hval0⟩ := hok
  obtain rfl : fn' = Tryz.f4 := Option.some.inj (hfn'.symm.trans Tryz.func4)
  obtain ⟨⟨⟨ds, gs, before, hw, hcnd⟩, hL⟩, hz⟩ := hpre
  have hL : laidMetH Tryz.prog Rows.tokenConstantsRow.laid (w0.forCall tape i).memory := laidMetH.of_heap rfl hL
  have hW := DataW.Whole.of_heap (w' := w0.forCall tape i) (by rfl) hw
  have hsz0 := hz.weights hw
  suffices hgoal : Calls Tryz.prog 4 i.args (w0.forCall tape i) fun e W' => ∃ v, e = .returned v ∧ Rows.tokenConstantsSpec.post enc Tryz.prog Tryz.f4 false true false false (w0.forCall tape i) i.args v W' by
    refine hgoal.mono fun e W' ⟨v, he, hp⟩ => ?_
    subst he
    exact ChangeSpec.post_blind hp
  revert hW hsz0 hval0 hsh hL
  generalize w0.forCall tape i = W
  generalize i.args = args
  intro hsh hval0 hL hW hsz0
  have hval : ∀ (j : Nat) t v, Tryz.f4.params[j]? = some t → args[j]? = some v → Value.okWide Tryz.prog W .any w0.heap.size t v := hval0
  have hW' := hW
  obtain ⟨p, q, hA0, hV, rfl, hfz, hnd⟩ := hW
  have hA : DataW.TrodAll enc Tryz.prog W 0 (fun _ => true) true Tryz.f4.params.toList args.toList ds p := hA0
  rw [Tryz.params4] at hA hval
  obtain ⟨v0, vs0, d0, ds0, p0, q0, hargs, rfl, rfl, h0, r0⟩ := trodAll_cons hA
  obtain ⟨rfl, rfl, rfl⟩ := trodAll_nil r0
  obtain rfl : args = #[v0] := by cases args; simp_all
  obtain ⟨rfl, rfl⟩ := trodVars_none hV
  have lt0 : ∀ x ∈ p0, x.block < W.heap.size := by obtain ⟨m, hm⟩ := h0; exact DataW.trod_lt m _ _ _ hm
  obtain ⟨cs0, rfl, hcs⟩ := okWide_struct Tryz.underlying29 (hval 0 29 v0 rfl rfl)
  obtain ⟨t, ht⟩ : ∃ t : Int × List UInt8 × Int, RV W Non [] (tkI t.1 t.2.1 t.2.2) (.agg cs0) := by
    obtain ⟨m, hm⟩ := h0
    obtain ⟨t, h1, h2⟩ := opens_tok H enc W 0 _ _ m _ _ hm
    refine ⟨t, .agg h1 (fun i x u hx hu => (h2 i x u hx (by simpa [Value.cells] using hu)).1) (fun i u hu => ?_)⟩
    have hi : i < 3 := by
      have := Array.getElem?_eq_some_iff.1 hu
      obtain ⟨hi, _⟩ := this
      have h3 : cs0.size = 3 := by rw [← Array.length_toList]; exact h1.symm
      omega
    have hx : ∃ x, ([iv t.1, sv t.2.1, iv t.2.2] : List AV)[i]? = some x := ⟨_, List.getElem?_eq_getElem hi⟩
    obtain ⟨x, hx⟩ := hx
    exact (h2 i x u hx (by simpa [Value.cells] using hu)).2
  clear hA0 hval0 hsz0
  have hst := of_laid hL hsh
  refine (calls_of (u := .bool true) (k_consts t.1 t.2.1 t.2.2) rfl (fun i x v hx hv => ?_) (fun W' O v h => rv_val h) hst).mono fun e W' ⟨he, bel⟩ => ?_
  · rcases i with _ | i
    · cases hx; cases hv; exact ht
    · simp at hx
  subst he
  exact ⟨_, rfl, _, _, _, [], _, [], hW', trodAll_mk1 (shut_bool Tryz.underlying4 _), (trodAll_cons_mk (Below.trod laidOut (by kernel_rfl) (of_decide_eq_true (by kernel_rfl)) h0 bel lt0) trodAll_mk0), rfl, bel.frame _, fun h => by cases h⟩
theorem over : Rows.tokenConstantsRow.holds Tryz.pinned (OpenSpec.ofChange Rows.tokenConstantsSpec) :=
  OpenClaim.holds_of_wide 4 Tryz.f4 rfl rfl rfl rfl rfl rfl rfl ⟨rfl, rfl, rfl, rfl, rfl⟩ rfl rfl rfl rfl rfl (by kernel_rfl) Tryz.func4 (by kernel_rfl)
    (of_decide_eq_true (by kernel_rfl)) (by unfold Func.isWrapper; first | (rw [if_pos (by decide +kernel)]; kernel_rfl) | (rw [if_neg (by decide +kernel)]; exact ⟨rfl, rfl⟩))
    (fun os started H enc _ => lifted os started H enc)
end Go.Proofs.YtmohlahmfkkggaaGreatDoor.tokenConstants
namespace Go.Proofs.YtmohlahmfkkggaaGreatDoor
open Go
/-- TokenConstants, the tied card: for every input. -/
theorem tokenConstants_holds : Rows.TokenConstantsCardSaid :=
  Claim7.holds_tied_plain_at .later [] [.data, .data, .data, .data, .sentinel, .sentinel, .pinned, .pinned] true (true, "ba38922c7c6d3afa92d7aa23f0fff64f3130b54be5ae434a34e6b4e4d975f4f0") true
    tokenConstants.over (fun _ h => by cases h) (by kernel_rfl) (fun _ h => by cases h) tokenConstants_row_tie rfl ⟨rfl, rfl⟩ (by kernel_rfl) rfl
    (fun f fn hf hfn => by
      obtain rfl : f = 4 := Option.some.inj ((show Tryz.prog.funcNamed "ironbark/ironbarklaw09.TokenConstants" = some 4 by kernel_rfl).symm.trans hf) |>.symm
      obtain rfl : fn = Tryz.f4 := (Option.some.inj (Tryz.func4.symm.trans hfn)).symm
      exact ⟨by kernel_rfl, fun j t ht => by
        rw [Tryz.params4] at ht
        have hm : t ∈ [29] := by simpa using Array.mem_of_getElem? ht
        have hall : ([29].all fun u => !Tryz.prog.wantsStandIn u) = true := by kernel_rfl
        exact (show Tryz.prog.wantsStandIn t = false by simpa using List.all_eq_true.1 hall t hm)⟩)
    (by kernel_rfl)
end Go.Proofs.YtmohlahmfkkggaaGreatDoor
