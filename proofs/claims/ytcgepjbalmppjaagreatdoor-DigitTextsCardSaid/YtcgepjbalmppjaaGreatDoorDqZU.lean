/- DigitTexts is true of every input where the package-level variables start as the program's text lays them (the card ties them), and its arguments stay as they are. -/
import Derived.Test.YtcgepjbalmppjaaGreatDoorRows
import Derived.Test.YtcgepjbalmppjaaGreatDoorTD
import Derived.Test.YtcgepjbalmppjaaGreatDoorTH
import Derived.Test.YtcgepjbalmppjaaGreatDoorCards
import Derived.Test.YtcgepjbalmppjaaGreatDoorTie
import Derived.ProofKit
import Derived.LaidMore
import Derived.OpenShut
import Derived.Stop.Joined
import Derived.Lay
import Derived.SevenTiedAt
import Derived.Shelf.Vars
namespace Go.Proofs.YtcgepjbalmppjaaGreatDoor.digitTexts
open Go.ChangeShapes Go.WideShapes Go.ChangeAt Go.RowKit Go.Iron Go.Iron.Tryz Go.Iron.Dg
open Go.ChangeMaps (open_string shut_string)
theorem own : ownKnob Tryz.prog.godebug = none := by kernel_rfl
theorem laidOut : laidOutB Tryz.prog = true := by kernel_rfl
theorem opens_txt : Opens Tryz.prog 9 (fun s : List UInt8 => [sv s]) := (opens_str Tryz.underlying9).map (fun b => bl b) (fun _ => rfl)
theorem opens_vl : Opens Tryz.prog 23 vlE :=
  (opens_struct Tryz.underlying23 (tot := 4) (by kernel_rfl) (opensF_cons (s := 1) rfl (by kernel_rfl) rfl (by decide) (opens_int (k := .i64) Tryz.underlying3) (opensF_cons (s := 1) rfl (by kernel_rfl) rfl (by decide) (opens_int (k := .i64) Tryz.underlying3) (opensF_cons (s := 1) rfl (by kernel_rfl) rfl (by decide) (opens_int (k := .i64) Tryz.underlying3) (opensF_cons (s := 1) rfl (by kernel_rfl) rfl (by decide) opens_txt opensF_nil))))).map (fun p => (⟨p.1, p.2.1, p.2.2.1, p.2.2.2.1⟩ : Vl)) (fun _ => rfl)
theorem gPow2 : Tryz.prog.globalNamed "internal/strconv.uint64pow10" = some 5 := by kernel_rfl
theorem tPow : (Tryz.prog.globals[5]?).map (·.type) = some 263 := by kernel_rfl
theorem of_laid {W : World} (h : laidMetH Tryz.prog Rows.digitTextsRow.laid W.memory) : ∀ p ∈ Globs.tabs, ∃ cs e fz, W.heap[p.1]? = some (.cells cs e fz) ∧ p.2 cs := by
  rw [MakeChecks.laidMetH_plain _ _ _ (by kernel_rfl)] at h
  obtain ⟨ps, ⟨g0, t0, cs0, f0, p0, q0, hg0, ht0, hv0, hd0, ⟨g1, t1, cs1, f1, p1, q1, hg1, ht1, hv1, hd1, ⟨g2, t2, cs2, f2, p2, q2, hg2, ht2, hv2, hd2, _, _⟩, _⟩, _⟩, _⟩ := h
  obtain rfl := Option.some.inj (gPow2.symm.trans hg2)
  obtain rfl := Option.some.inj (tPow.symm.trans ht2)
  have hc := Lib.cells_of_tab (k := .u64) (zs := Lib.pow10Tab) Tryz.underlying263 Tryz.underlying225 (by kernel_rfl) (by kernel_rfl) (show DataW.trod _ _ _ _ _ _ _ _ _ = some (Lib.tabData .u64 Lib.pow10Tab, _) from hd2)
  intro p hp
  obtain rfl : p = (5, fun cs => cs = (Lib.pow10Tab.map (fun z => Value.int .u64 z)).toArray) := by
    cases hp with
    | head => rfl
    | tail _ h => cases h
  unfold World.var? at hv2
  rw [gPow2] at hv2
  dsimp only [Option.bind] at hv2
  split at hv2
  · rename_i cs e fz hh
    refine ⟨cs, e, fz, hh, ?_⟩
    obtain rfl := Option.some.inj hv2
    show cs = _
    apply Array.ext'
    rw [hc]
  · cases hv2
set_option maxRecDepth 100000 in
theorem lifted (os : Os) (started : os.Started) (H : Type) (enc : TypeId × Value → H) :
    ReturnsInHanded {} Tryz.checked os 11 .any (fun w args => (Rows.digitTextsSpec.pre enc Tryz.prog Tryz.f11 Rows.digitTextsRow.domain false w args ∧ laidMetH Tryz.prog Rows.digitTextsRow.laid w) ∧ sizedMet enc Tryz.prog Tryz.f11 (OpenSpec.ofChange Rows.digitTextsSpec) false w args)
      (Rows.digitTextsSpec.post enc Tryz.prog Tryz.f11 false true false false) := by
  refine returnsInHanded_of_calls own started (by kernel_rfl)
    (ChangeSpec.witness_shaped (enc := enc) (C := Tryz.checked) (os := os) (X := fun w _ => laidMetH Tryz.prog Rows.digitTextsRow.laid w) false (World.laidAll Tryz.prog os Rows.digitTextsRow.laid) #[.agg #[.int .i64 0, .int .i64 0, .int .i64 0, .string ⟨#[]⟩], .string ⟨#[]⟩] 8 (World.laidAll_os _ _ _) (World.shaped_of_ZipB (by kernel_rfl) (by kernel_rfl)) (by kernel_rfl) (by kernel_rfl) (by kernel_rfl)
      (by rw [MakeChecks.laidMetH_plain _ _ _ (by kernel_rfl)]; exact laidMet_laidAll _ (by kernel_rfl) (by kernel_rfl))) ?_
  intro w0 tape i _ hsh _ hok hpre _
  obtain ⟨_, _, _, fn', hfn', _, _, _, _, hval0⟩ := hok
  obtain rfl : fn' = Tryz.f11 := Option.some.inj (hfn'.symm.trans Tryz.func11)
  obtain ⟨⟨⟨ds, gs, before, hw, hcnd⟩, hL⟩, hz⟩ := hpre
  have hL : laidMetH Tryz.prog Rows.digitTextsRow.laid (w0.forCall tape i).memory := laidMetH.of_heap rfl hL
  have hW := DataW.Whole.of_heap (w' := w0.forCall tape i) (by rfl) hw
  suffices hgoal : Calls Tryz.prog 11 i.args (w0.forCall tape i) fun e W' => ∃ v, e = .returned v ∧ Rows.digitTextsSpec.post enc Tryz.prog Tryz.f11 false true false false (w0.forCall tape i) i.args v W' by
    refine hgoal.mono fun e W' ⟨v, he, hp⟩ => ?_
    subst he
    exact ChangeSpec.post_blind hp
  revert hW hval0 hL
  generalize w0.forCall tape i = W
  generalize i.args = args
  intro hval0 hL hW
  have hval : ∀ (j : Nat) t v, Tryz.f11.params[j]? = some t → args[j]? = some v → Value.okWide Tryz.prog W .any w0.heap.size t v := hval0
  have hW' := hW
  obtain ⟨p, q, hA0, hV, rfl, hfz, hnd⟩ := hW
  have hA : DataW.TrodAll enc Tryz.prog W 0 (fun _ => true) true Tryz.f11.params.toList args.toList ds p := hA0
  rw [Tryz.params11] at hA hval
  obtain ⟨v0, vs0, d0, ds0, p0, q0, hargs, rfl, rfl, h0, r0⟩ := trodAll_cons hA
  obtain ⟨v1, vs1, d1, ds1, p1, q1, rfl, rfl, rfl, h1, r1⟩ := trodAll_cons r0
  obtain ⟨rfl, rfl, rfl⟩ := trodAll_nil r1
  obtain rfl : args = #[v0, v1] := by cases args; simp_all
  obtain ⟨rfl, rfl⟩ := trodVars_none hV
  have lt0 : ∀ x ∈ p0, x.block < W.heap.size := by obtain ⟨m, hm⟩ := h0; exact DataW.trod_lt m _ _ _ hm
  have lt1 : ∀ x ∈ p1, x.block < W.heap.size := by obtain ⟨m, hm⟩ := h1; exact DataW.trod_lt m _ _ _ hm
  obtain ⟨cs0, rfl, hcs0⟩ := okWide_struct Tryz.underlying23 (hval 0 23 v0 rfl rfl)
  obtain ⟨t0, ht0⟩ : ∃ t : Vl, RV W Non [] (.agg (vlE t)) (.agg cs0) := by
    obtain ⟨m, hm⟩ := h0
    obtain ⟨t, h1, h2⟩ := opens_vl H enc W 0 _ _ m _ _ hm
    refine ⟨t, .agg h1 (fun i x u hx hu => (h2 i x u hx (by simpa [Value.cells] using hu)).1) (fun i u hu => ?_)⟩
    have hi : i < 4 := by
      obtain ⟨hi, _⟩ := Array.getElem?_eq_some_iff.1 hu
      have h3 : cs0.size = 4 := by rw [← Array.length_toList]; exact h1.symm
      omega
    obtain ⟨x, hx⟩ : ∃ x, (vlE t : List AV)[i]? = some x := ⟨_, List.getElem?_eq_getElem hi⟩
    exact (h2 i x u hx (by simpa [Value.cells] using hu)).2
  obtain ⟨b1, rfl⟩ : ∃ b, v1 = .string b := okWide_string Tryz.underlying9 (hval 1 9 v1 rfl rfl)
  clear hA0 hval0
  refine (calls_of (u := .bool true) (l_texts t0 (bl b1)) rfl (fun i x v hx hv => ?_) (fun W' O v h => rv_val h) (of_laid hL)).mono fun e W' ⟨he, bel⟩ => ?_
  · rcases i with _ | _ | i
    · cases hx; cases hv; exact ht0
    · cases hx; cases hv; exact .val
    · simp at hx
  subst he
  exact ⟨_, rfl, _, _, _, [], _, [], hW', trodAll_mk1 (shut_bool Tryz.underlying4 _), (trodAll_cons_mk (Below.trod laidOut (by kernel_rfl) (of_decide_eq_true (by kernel_rfl)) h0 bel lt0) (trodAll_cons_mk (Below.trod laidOut (by kernel_rfl) (of_decide_eq_true (by kernel_rfl)) h1 bel lt1) trodAll_mk0)), rfl, bel.frame _, fun h => by cases h⟩
theorem over : Rows.digitTextsRow.holds Tryz.pinned (OpenSpec.ofChange Rows.digitTextsSpec) :=
  OpenClaim.holds_of_wide 11 Tryz.f11 rfl rfl rfl rfl rfl rfl rfl ⟨rfl, rfl, rfl, rfl, rfl⟩ rfl rfl rfl rfl rfl (by kernel_rfl) Tryz.func11 (by kernel_rfl)
    (of_decide_eq_true (by kernel_rfl)) (by unfold Func.isWrapper; first | (rw [if_pos (by decide +kernel)]; kernel_rfl) | (rw [if_neg (by decide +kernel)]; exact ⟨rfl, rfl⟩))
    (fun os started H enc _ => lifted os started H enc)
end Go.Proofs.YtcgepjbalmppjaaGreatDoor.digitTexts
namespace Go.Proofs.YtcgepjbalmppjaaGreatDoor
open Go
theorem digitTexts_holds : Rows.DigitTextsCardSaid :=
  Claim7.holds_tied_plain_at .later [] [.data, .data, .data, .data, .sentinel, .sentinel, .pinned] true (true, "01cea90e90b36e6a5321cf8f25b34ac6dae1202632d6f0a03f36c1fc034ee8ee") true
    digitTexts.over (fun _ h => by cases h) (by kernel_rfl) (fun _ h => by cases h) digitTexts_row_tie rfl ⟨rfl, rfl⟩ (by kernel_rfl) rfl
    (fun f fn hf hfn => by
      obtain rfl : f = 11 := Option.some.inj ((show Tryz.prog.funcNamed "ironbark/ironbarklaw01.DigitTexts" = some 11 by kernel_rfl).symm.trans hf) |>.symm
      obtain rfl : fn = Tryz.f11 := (Option.some.inj (Tryz.func11.symm.trans hfn)).symm
      exact ⟨by kernel_rfl, fun j t ht => by
        rw [Tryz.params11] at ht
        have hm : t ∈ [23, 9] := by simpa using Array.mem_of_getElem? ht
        have hall : ([23, 9].all fun u => !Tryz.prog.wantsStandIn u) = true := by kernel_rfl
        exact (show Tryz.prog.wantsStandIn t = false by simpa using List.all_eq_true.1 hall t hm)⟩)
    (by kernel_rfl)
end Go.Proofs.YtcgepjbalmppjaaGreatDoor
