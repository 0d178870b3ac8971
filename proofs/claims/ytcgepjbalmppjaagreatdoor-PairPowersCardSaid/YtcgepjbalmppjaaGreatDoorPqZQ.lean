/- PairPowers is true of every input where the package-level variables start as the program's text lays them (the card ties them), and its arguments stay as they are. -/
import Derived.Test.YtcgepjbalmppjaaGreatDoorRows
import Derived.Test.YtcgepjbalmppjaaGreatDoorTD
import Derived.Test.YtcgepjbalmppjaaGreatDoorTH
import Derived.Test.YtcgepjbalmppjaaGreatDoorCards
import Derived.Test.YtcgepjbalmppjaaGreatDoorTie
import Derived.ProofKit
import Derived.LaidMore
import Derived.OpenShut
import Derived.Stop.Joined
import Derived.Lay
import Derived.SevenTiedAt
import Derived.Shelf.Vars
namespace Go.Proofs.YtcgepjbalmppjaaGreatDoor.pairPowers
open Go.ChangeShapes Go.WideShapes Go.ChangeAt Go.RowKit Go.Iron Go.Iron.Tryz Go.Iron.Dg
open Go.ChangeMaps (open_string shut_string)
theorem own : ownKnob Tryz.prog.godebug = none := by kernel_rfl
theorem laidOut : laidOutB Tryz.prog = true := by kernel_rfl
theorem opens_txt : Opens Tryz.prog 9 (fun s : List UInt8 => [sv s]) := (opens_str Tryz.underlying9).map (fun b => bl b) (fun _ => rfl)
theorem opens_vl : Opens Tryz.prog 23 vlE :=
  (opens_struct Tryz.underlying23 (tot := 4) (by kernel_rfl) (opensF_cons (s := 1) rfl (by kernel_rfl) rfl (by decide) (opens_int (k := .i64) Tryz.underlying3) (opensF_cons (s := 1) rfl (by kernel_rfl) rfl (by decide) (opens_int (k := .i64) Tryz.underlying3) (opensF_cons (s := 1) rfl (by kernel_rfl) rfl (by decide) (opens_int (k := .i64) Tryz.underlying3) (opensF_cons (s := 1) rfl (by kernel_rfl) rfl (by decide) opens_txt opensF_nil))))).map (fun p => (⟨p.1, p.2.1, p.2.2.1, p.2.2.2.1⟩ : Vl)) (fun _ => rfl)
theorem opens_typ : Opens Tryz.prog 25 typE :=
  (opens_struct Tryz.underlying25 (tot := 6) (by kernel_rfl) (opensF_cons (s := 1) rfl (by kernel_rfl) rfl (by decide) (opens_int (k := .i64) Tryz.underlying3) (opensF_cons (s := 1) rfl (by kernel_rfl) rfl (by decide) (opens_int (k := .i64) Tryz.underlying3) (opensF_cons (s := 1) rfl (by kernel_rfl) rfl (by decide) (opens_int (k := .i64) Tryz.underlying3) (opensF_cons (s := 1) rfl (by kernel_rfl) rfl (by decide) (opens_int (k := .i64) Tryz.underlying3) (opensF_cons (s := 1) rfl (by kernel_rfl) rfl (by decide) (opens_bool Tryz.underlying4) (opensF_cons (s := 1) rfl (by kernel_rfl) rfl (by decide) opens_txt opensF_nil))))))).map (fun p => (⟨p.1, p.2.1, p.2.2.1, p.2.2.2.1, p.2.2.2.2.1, p.2.2.2.2.2.1⟩ : Typ)) (fun _ => rfl)
theorem opens_pr : Opens Tryz.prog 41 prE :=
  (opens_struct Tryz.underlying41 (tot := 8) (by kernel_rfl) (opensF_cons (s := 4) rfl (by kernel_rfl) rfl (by decide) opens_vl (opensF_cons (s := 4) rfl (by kernel_rfl) rfl (by decide) opens_vl opensF_nil))).map (fun p => (⟨p.1, p.2.1⟩ : Pr)) (fun _ => rfl)
set_option maxRecDepth 100000 in
theorem lifted (os : Os) (started : os.Started) (H : Type) (enc : TypeId × Value → H) :
    ReturnsInHanded {} Tryz.checked os 9 .any (fun w args => (Rows.pairPowersSpec.pre enc Tryz.prog Tryz.f9 Rows.pairPowersRow.domain false w args ∧ laidMetH Tryz.prog Rows.pairPowersRow.laid w) ∧ sizedMet enc Tryz.prog Tryz.f9 (OpenSpec.ofChange Rows.pairPowersSpec) false w args)
      (Rows.pairPowersSpec.post enc Tryz.prog Tryz.f9 false true false false) := by
  refine returnsInHanded_of_calls own started (by kernel_rfl)
    (ChangeSpec.witness_shaped (enc := enc) (C := Tryz.checked) (os := os) (X := fun w _ => laidMetH Tryz.prog Rows.pairPowersRow.laid w) false (World.laidAll Tryz.prog os Rows.pairPowersRow.laid) #[.agg #[.int .i64 0, .int .i64 0, .int .i64 0, .string ⟨#[]⟩, .int .i64 0, .int .i64 0, .int .i64 0, .string ⟨#[]⟩], .int .i64 0, .agg #[.int .i64 0, .int .i64 0, .int .i64 0, .int .i64 0, .bool false, .string ⟨#[]⟩]] 8 (World.laidAll_os _ _ _) (World.shaped_of_ZipB (by kernel_rfl) (by kernel_rfl)) (by kernel_rfl) (by kernel_rfl) (by kernel_rfl)
      (by rw [MakeChecks.laidMetH_plain _ _ _ (by kernel_rfl)]; exact laidMet_laidAll _ (by kernel_rfl) (by kernel_rfl))) ?_
  intro w0 tape i _ hsh _ hok hpre _
  obtain ⟨_, _, _, fn', hfn', _, _, _, _, hval0⟩ := hok
  obtain rfl : fn' = Tryz.f9 := Option.some.inj (hfn'.symm.trans Tryz.func9)
  obtain ⟨⟨⟨ds, gs, before, hw, hcnd⟩, hL⟩, hz⟩ := hpre
  have hW := DataW.Whole.of_heap (w' := w0.forCall tape i) (by rfl) hw
  suffices hgoal : Calls Tryz.prog 9 i.args (w0.forCall tape i) fun e W' => ∃ v, e = .returned v ∧ Rows.pairPowersSpec.post enc Tryz.prog Tryz.f9 false true false false (w0.forCall tape i) i.args v W' by
    refine hgoal.mono fun e W' ⟨v, he, hp⟩ => ?_
    subst he
    exact ChangeSpec.post_blind hp
  revert hW hval0
  generalize w0.forCall tape i = W
  generalize i.args = args
  intro hval0 hW
  have hval : ∀ (j : Nat) t v, Tryz.f9.params[j]? = some t → args[j]? = some v → Value.okWide Tryz.prog W .any w0.heap.size t v := hval0
  have hW' := hW
  obtain ⟨p, q, hA0, hV, rfl, hfz, hnd⟩ := hW
  have hA : DataW.TrodAll enc Tryz.prog W 0 (fun _ => true) true Tryz.f9.params.toList args.toList ds p := hA0
  rw [Tryz.params9] at hA hval
  obtain ⟨v0, vs0, d0, ds0, p0, q0, hargs, rfl, rfl, h0, r0⟩ := trodAll_cons hA
  obtain ⟨v1, vs1, d1, ds1, p1, q1, rfl, rfl, rfl, h1, r1⟩ := trodAll_cons r0
  obtain ⟨v2, vs2, d2, ds2, p2, q2, rfl, rfl, rfl, h2, r2⟩ := trodAll_cons r1
  obtain ⟨rfl, rfl, rfl⟩ := trodAll_nil r2
  obtain rfl : args = #[v0, v1, v2] := by cases args; simp_all
  obtain ⟨rfl, rfl⟩ := trodVars_none hV
  have lt0 : ∀ x ∈ p0, x.block < W.heap.size := by obtain ⟨m, hm⟩ := h0; exact DataW.trod_lt m _ _ _ hm
  have lt1 : ∀ x ∈ p1, x.block < W.heap.size := by obtain ⟨m, hm⟩ := h1; exact DataW.trod_lt m _ _ _ hm
  have lt2 : ∀ x ∈ p2, x.block < W.heap.size := by obtain ⟨m, hm⟩ := h2; exact DataW.trod_lt m _ _ _ hm
  obtain ⟨cs0, rfl, hcs0⟩ := okWide_struct Tryz.underlying41 (hval 0 41 v0 rfl rfl)
  obtain ⟨t0, ht0⟩ : ∃ t : Pr, RV W Non [] (.agg (prE t)) (.agg cs0) := by
    obtain ⟨m, hm⟩ := h0
    obtain ⟨t, h1, h2⟩ := opens_pr H enc W 0 _ _ m _ _ hm
    refine ⟨t, .agg h1 (fun i x u hx hu => (h2 i x u hx (by simpa [Value.cells] using hu)).1) (fun i u hu => ?_)⟩
    have hi : i < 8 := by
      obtain ⟨hi, _⟩ := Array.getElem?_eq_some_iff.1 hu
      have h3 : cs0.size = 8 := by rw [← Array.length_toList]; exact h1.symm
      omega
    obtain ⟨x, hx⟩ : ∃ x, (prE t : List AV)[i]? = some x := ⟨_, List.getElem?_eq_getElem hi⟩
    exact (h2 i x u hx (by simpa [Value.cells] using hu)).2
  obtain ⟨n1, rfl⟩ : ∃ n, v1 = .int .i64 n := okWide_int Tryz.underlying3 (hval 1 3 v1 rfl rfl)
  obtain ⟨cs2, rfl, hcs2⟩ := okWide_struct Tryz.underlying25 (hval 2 25 v2 rfl rfl)
  obtain ⟨t2, ht2⟩ : ∃ t : Typ, RV W Non [] (.agg (typE t)) (.agg cs2) := by
    obtain ⟨m, hm⟩ := h2
    obtain ⟨t, h1, h2⟩ := opens_typ H enc W 0 _ _ m _ _ hm
    refine ⟨t, .agg h1 (fun i x u hx hu => (h2 i x u hx (by simpa [Value.cells] using hu)).1) (fun i u hu => ?_)⟩
    have hi : i < 6 := by
      obtain ⟨hi, _⟩ := Array.getElem?_eq_some_iff.1 hu
      have h3 : cs2.size = 6 := by rw [← Array.length_toList]; exact h1.symm
      omega
    obtain ⟨x, hx⟩ : ∃ x, (typE t : List AV)[i]? = some x := ⟨_, List.getElem?_eq_getElem hi⟩
    exact (h2 i x u hx (by simpa [Value.cells] using hu)).2
  clear hA0 hval0
  refine (calls_of (u := .bool true) (l_powers t0 n1 t2) rfl (fun i x v hx hv => ?_) (fun W' O v h => rv_val h) (fun p hp => by cases hp)).mono fun e W' ⟨he, bel⟩ => ?_
  · rcases i with _ | _ | _ | i
    · cases hx; cases hv; exact ht0
    · cases hx; cases hv; exact .val
    · cases hx; cases hv; exact ht2
    · simp at hx
  subst he
  exact ⟨_, rfl, _, _, _, [], _, [], hW', trodAll_mk1 (shut_bool Tryz.underlying4 _), (trodAll_cons_mk (Below.trod laidOut (by kernel_rfl) (of_decide_eq_true (by kernel_rfl)) h0 bel lt0) (trodAll_cons_mk (Below.trod laidOut (by kernel_rfl) (of_decide_eq_true (by kernel_rfl)) h1 bel lt1) (trodAll_cons_mk (Below.trod laidOut (by kernel_rfl) (of_decide_eq_true (by kernel_rfl)) h2 bel lt2) trodAll_mk0))), rfl, bel.frame _, fun h => by cases h⟩
theorem over : Rows.pairPowersRow.holds Tryz.pinned (OpenSpec.ofChange Rows.pairPowersSpec) :=
  OpenClaim.holds_of_wide 9 Tryz.f9 rfl rfl rfl rfl rfl rfl rfl ⟨rfl, rfl, rfl, rfl, rfl⟩ rfl rfl rfl rfl rfl (by kernel_rfl) Tryz.func9 (by kernel_rfl)
    (of_decide_eq_true (by kernel_rfl)) (by unfold Func.isWrapper; first | (rw [if_pos (by decide +kernel)]; kernel_rfl) | (rw [if_neg (by decide +kernel)]; exact ⟨rfl, rfl⟩))
    (fun os started H enc _ => lifted os started H enc)
end Go.Proofs.YtcgepjbalmppjaaGreatDoor.pairPowers
namespace Go.Proofs.YtcgepjbalmppjaaGreatDoor
open Go
theorem pairPowers_holds : Rows.PairPowersCardSaid :=
  Claim7.holds_tied_plain_at .later [] [.data, .pinned] true (true, "01cea90e90b36e6a5321cf8f25b34ac6dae1202632d6f0a03f36c1fc034ee8ee") true
    pairPowers.over (fun _ h => by cases h) (by kernel_rfl) (fun _ h => by cases h) pairPowers_row_tie rfl ⟨rfl, rfl⟩ (by kernel_rfl) rfl
    (fun f fn hf hfn => by
      obtain rfl : f = 9 := Option.some.inj ((show Tryz.prog.funcNamed "ironbark/ironbarklaw04.PairPowers" = some 9 by kernel_rfl).symm.trans hf) |>.symm
      obtain rfl : fn = Tryz.f9 := (Option.some.inj (Tryz.func9.symm.trans hfn)).symm
      exact ⟨by kernel_rfl, fun j t ht => by
        rw [Tryz.params9] at ht
        have hm : t ∈ [41, 3, 25] := by simpa using Array.mem_of_getElem? ht
        have hall : ([41, 3, 25].all fun u => !Tryz.prog.wantsStandIn u) = true := by kernel_rfl
        exact (show Tryz.prog.wantsStandIn t = false by simpa using List.all_eq_true.1 hall t hm)⟩)
    (by kernel_rfl)
end Go.Proofs.YtcgepjbalmppjaaGreatDoor
