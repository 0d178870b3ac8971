/- The token seat: tokens shown. -/
import Derived.Test.YtmohlahmfkkggaaDoorTC
import Derived.Test.YtmohlahmfkkggaaDoorTF
namespace Go.Iron.Tryd
open Go.Proofs Go.RowKit Go.Iron.Tok

/-- The library's variable holds some number. -/
theorem cell_of {w : World} (h : StandsIn w) : ∃ m, w.cell? ⟨0, 0, none⟩ = some (.int .i64 m) := by
  obtain ⟨cs, e, fz, h1, m, rfl⟩ := h _ (List.Mem.head _)
  exact ⟨m, by simp [World.cell?, h1]⟩
theorem lib_contains (s p : Str) (hs : s.length ≤ 100000) : CallT Tryd.prog 45 [sv s, sv p] [] (fun o A => o = .ret (bv (decide (0 ≤ Lib.index s p))) ∧ A = []) :=
  callT_lib fun w O vs hst hl hv => by
    obtain ⟨v, v2, rfl⟩ : ∃ v v2, vs = #[v, v2] := by
      obtain ⟨l⟩ := vs
      match l, hl with
      | [v, v2], _ => exact ⟨v, v2, rfl⟩
    have hv0 := rv_val (hv 0 _ v rfl rfl)
    have hv1 := rv_val (hv 1 _ v2 rfl rfl)
    subst hv0
    subst hv1
    obtain ⟨m, hm⟩ := cell_of hst
    refine (Tryd.strings_Contains (bs s) (bs p) m w (show s.length < _ by omega) hm).mono fun e w' hh => ?_
    obtain ⟨rfl, rfl⟩ := hh
    exact ⟨_, rfl, Below.refl _ _, fun w'' O' => .val⟩
theorem lib_replace (s : Str) (hs : s.length ≤ 100000) : CallT Tryd.prog 43 [sv s, sv [39], sv [39, 39]] [] (fun o A => o = .ret (sv (dbl s)) ∧ A = []) :=
  callT_lib fun w O vs hst hl hv => by
    obtain ⟨v, v2, v3, rfl⟩ : ∃ v v2 v3, vs = #[v, v2, v3] := by
      obtain ⟨l⟩ := vs
      match l, hl with
      | [v, v2, v3], _ => exact ⟨v, v2, v3, rfl⟩
    have hv0 := rv_val (hv 0 _ v rfl rfl)
    have hv1 := rv_val (hv 1 _ v2 rfl rfl)
    have hv2 := rv_val (hv 2 _ v3 rfl rfl)
    subst hv0
    subst hv1
    subst hv2
    obtain ⟨m, hm⟩ := cell_of hst
    have hcb := Lib.countB_le (bs [39]) (by decide) s.length (bs s) (Nat.le_refl _)
    have hsz : (bs s).size = s.length := rfl
    rw [hsz] at hcb
    refine (Tryd.strings_ReplaceAll (bs s) (bs [39]) (bs [39, 39]) m w (show s.length < _ by omega) hm (by decide) (by
      rw [hsz]
      have : (bs [39, 39]).size = 2 := rfl
      rw [this]
      omega)).mono fun e w' hh => ?_
    obtain ⟨rfl, hB⟩ := hh
    refine ⟨_, rfl, hB, fun w'' O' => ?_⟩
    have e : Lib.replaceAll (bs s).data.toList (bs [39]).data.toList (bs [39, 39]).data.toList = dbl s := replace_dbl s
    rw [e]
    exact .val
theorem k_writtenA (t : Tk) (ht : t.text.length ≤ 50000) : CallT Tryd.prog 16 [.agg (tkE t)] [] (fun o A => o = .ret (sv (wrS t)) ∧ A = []) := by
  by_cases h3 : t.kind = 3
  · have hd := dbl_le t.text
    have hwr : wrS t = [39] ++ dbl t.text ++ [39] := by unfold wrS; rw [if_pos h3]
    refine callS_body (n := 20) rfl rfl fun w ρ X => ?_
    refine runS_x (I := inf) (J := jnf) ⟨false, false, [], 0, 0⟩ 9999 rfl (by repeat (first | exact obs_nil | refine obs_draw (by kernel_rfl) ?_ | refine obs_same ?_ | refine obs_and ?_ | refine obs_by (by (simp [inB] <;> omega)) ?_)) ?_
    refine runS_cond rfl (fun h => ?_) (fun h => ?_)
    · have hp1 : (bl (ByteArray.mk #[39])).length = 1 := rfl
      refine runS_x (I := inf) (J := jnf) ⟨false, false, [], 0, 0⟩ 9999 rfl (by repeat (first | exact obs_nil | refine obs_draw (by kernel_rfl) ?_ | refine obs_same ?_ | refine obs_and ?_ | refine obs_by (by (simp [inB] <;> omega)) ?_)) ?_
      refine runS_call rfl rfl rfl rfl rfl rfl rfl (lib_replace t.text (by omega)) ?_
      refine runS_x (I := inf) (J := jnf) ⟨false, false, [], 0, 0⟩ 9999 rfl (by repeat (first | exact obs_nil | refine obs_draw (by kernel_rfl) ?_ | refine obs_same ?_ | refine obs_and ?_ | refine obs_by (by (simp [inB, blS, hp1] <;> omega)) ?_)) ?_
      refine runS_ret (I := inf) 0 rfl (Nat.le_refl _) rfl .nil rfl ⟨?_, rfl⟩
      rw [hwr]
      rfl
    · exfalso
      have : (((t.kind : Nat) : Int) == 3) = false := h
      simp at this
      omega
  · exact k_written t (by omega) h3
theorem k_near (t : Tk) (l : Str) (hl : l.length ≤ 100000) : CallT Tryd.prog 44 [.agg (tkE t), sv l] [] (fun o A => o = .ret (bv (nearB t l)) ∧ A = []) := by
  refine callS_body (n := 14) rfl rfl fun w ρ X => ?_
  refine runS_x (I := inf) (J := jnf) ⟨false, false, [], 0, 0⟩ 9999 rfl (by repeat (first | exact obs_nil | refine obs_draw (by kernel_rfl) ?_ | refine obs_same ?_ | refine obs_and ?_ | refine obs_by (by (simp [inB] <;> omega)) ?_)) ?_
  refine runS_callU rfl rfl (by first | exact .v rfl rfl rfl rfl | exact .o rfl rfl rfl rfl) rfl rfl (by repeat (first | exact .nil | refine .cons (.n rfl) ?_ | refine .cons .o ?_ | refine .cons gok_and ?_)) rfl rfl rfl rfl rfl (fun _ => (lib_contains l t.text hl)) ?_
  refine runS_x (I := inf) (J := jnf) ⟨false, false, [], 0, 0⟩ 9999 rfl (by repeat (first | exact obs_nil | refine obs_draw (by kernel_rfl) ?_ | refine obs_same ?_ | refine obs_and ?_ | refine obs_by (by (simp [inB] <;> omega)) ?_)) ?_
  refine runS_ret (I := inf) 0 rfl (Nat.le_refl _) rfl .nil rfl ⟨?_, rfl⟩
  refine congrArg (fun x => Out.ret (bv x)) ?_
  show (if (((t.kind : Nat) : Int) == 5) = true then decide (0 ≤ Lib.index l t.text) else false) = _
  unfold nearB
  have h : (((t.kind : Nat) : Int) == 5) = decide (t.kind = 5) := by rw [Bool.eq_iff_iff]; simp; omega
  rw [h]
  cases decide (t.kind = 5) <;> rfl
theorem k_apart (a b : Tk) (ha : a.text.length ≤ 5000) (hb : b.text.length ≤ 5000) : CallT Tryd.prog 17 [.agg (tkE a), .agg (tkE b)] [] (fun o A => o = .ret (bv (apartB a b)) ∧ A = []) := by
  have hwa := wrS_le a
  have hwb := wrS_le b
  refine callS_body (n := 34) rfl rfl fun w ρ X => ?_
  refine runS_x (I := inf) (J := jnf) ⟨false, false, [], 0, 0⟩ 9999 rfl (by repeat (first | exact obs_nil | refine obs_draw (by kernel_rfl) ?_ | refine obs_same ?_ | refine obs_and ?_ | refine obs_by (by (simp [inB] <;> omega)) ?_)) ?_
  refine runS_call rfl rfl rfl rfl rfl rfl rfl (k_near b [44, 59, 41, 58, 46] (by decide)) ?_
  refine runS_x (I := inf) (J := jnf) ⟨false, false, [], 0, 0⟩ 9999 rfl (by repeat (first | exact obs_nil | refine obs_draw (by kernel_rfl) ?_ | refine obs_same ?_ | refine obs_and ?_ | refine obs_by (by (simp [inB] <;> omega)) ?_)) ?_
  refine runS_callU rfl rfl (by first | exact .v rfl rfl rfl rfl | exact .o rfl rfl rfl rfl) rfl rfl (by repeat (first | exact .nil | refine .cons (.n rfl) ?_ | refine .cons .o ?_ | refine .cons gok_and ?_)) rfl rfl rfl rfl rfl (fun _ => (k_near a [40, 46] (by decide))) ?_
  refine runS_x (I := inf) (J := jnf) ⟨false, false, [], 0, 0⟩ 9999 rfl (by repeat (first | exact obs_nil | refine obs_draw (by kernel_rfl) ?_ | refine obs_same ?_ | refine obs_and ?_ | refine obs_by (by (simp [inB] <;> omega)) ?_)) ?_
  refine runS_callU rfl rfl (by first | exact .v rfl rfl rfl rfl | exact .o rfl rfl rfl rfl) rfl rfl (by repeat (first | exact .nil | refine .cons (.n rfl) ?_ | refine .cons .o ?_ | refine .cons gok_and ?_)) rfl rfl rfl rfl rfl (fun _ => (k_near b [40] (by decide))) ?_
  refine runS_x (I := inf) (J := jnf) ⟨false, false, [], 0, 0⟩ 9999 rfl (by repeat (first | exact obs_nil | refine obs_draw (by kernel_rfl) ?_ | refine obs_same ?_ | refine obs_and ?_ | refine obs_by (by (simp [inB] <;> omega)) ?_)) ?_
  have hcd : (if (if nearB b [44, 59, 41, 58, 46] = true then true else nearB a [40, 46]) = true then true else (if (((a.kind : Nat) : Int) == 1) = true then nearB b [40] else false)) = (nearB b [44, 59, 41, 58, 46] || nearB a [40, 46] || (decide (a.kind = 1) && nearB b [40])) := by
    have h : (((a.kind : Nat) : Int) == 1) = decide (a.kind = 1) := by rw [Bool.eq_iff_iff]; simp; omega
    rw [h]
    cases nearB b [44, 59, 41, 58, 46] <;> cases nearB a [40, 46] <;> cases decide (a.kind = 1) <;> cases nearB b [40] <;> rfl
  refine runS_cond rfl (fun h => ?_) (fun h => ?_)
  · have hc := hcd.symm.trans h
    have hap : apartB a b = !readAs (wrS a ++ wrS b) [a, b] := by unfold apartB; rw [if_pos hc]
    refine runS_x (I := inf) (J := jnf) ⟨false, false, [], 0, 0⟩ 9999 rfl (by repeat (first | exact obs_nil | refine obs_draw (by kernel_rfl) ?_ | refine obs_same ?_ | refine obs_and ?_ | refine obs_by (by (simp [inB] <;> omega)) ?_)) ?_
    refine runS_hole ?_
    refine runS_drawG (ch := []) (A2 := fun _ => []) 8 [7] (fun t => [.box 32 (tkE a), .box 32 (tkE b), cond (t.getD 0 false) (.row 32 3 1 2 (chunk 3 (tkE a ++ tkE b))) .hole]) none (c := 9) jnfI.draw (by kernel_rfl) rfl (lexg_g (I := inf) (J := jnf) none ⟨⟨_, rfl, (by repeat (first | exact obs_nil | refine obs_same ?_ | refine obs_and ?_ | refine obs_by (by (simp [inB, blS] <;> omega)) ?_))⟩, (by first | exact .inl (by decide +kernel) | exact .inr ⟨_, rfl, (by repeat (first | exact obs_nil | refine obs_same ?_ | refine obs_and ?_ | refine obs_by (by (simp [inB, blS] <;> omega)) ?_))⟩)⟩ rfl rfl rfl rfl (lexg_call rfl rfl rfl rfl rfl rfl rfl rfl rfl (k_writtenA a (by omega)) (lexg_g (I := inf) (J := jnf) none ⟨⟨_, rfl, (by repeat (first | exact obs_nil | refine obs_same ?_ | refine obs_and ?_ | refine obs_by (by (simp [inB, blS] <;> omega)) ?_))⟩, (by first | exact .inl (by decide +kernel) | exact .inr ⟨_, rfl, (by repeat (first | exact obs_nil | refine obs_same ?_ | refine obs_and ?_ | refine obs_by (by (simp [inB, blS] <;> omega)) ?_))⟩)⟩ rfl rfl rfl rfl (lexg_call rfl rfl rfl rfl rfl rfl rfl rfl rfl (k_writtenA b (by omega)) (lexg_g (I := inf) (J := jnf) none ⟨⟨_, rfl, (by repeat (first | exact obs_nil | refine obs_same ?_ | refine obs_and ?_ | refine obs_by (by (simp [inB, blS] <;> omega)) ?_))⟩, (by first | exact .inl (by decide +kernel) | exact .inr ⟨_, rfl, (by repeat (first | exact obs_nil | refine obs_same ?_ | refine obs_and ?_ | refine obs_by (by (simp [inB, blS] <;> omega)) ?_))⟩)⟩ rfl rfl rfl rfl (lexg_g (I := inf) (J := jnf) none ⟨⟨_, rfl, (by repeat (first | exact obs_nil | refine obs_same ?_ | refine obs_and ?_ | refine obs_by (by (simp [inB, blS] <;> omega)) ?_))⟩, (by first | exact .inl (by decide +kernel) | exact .inr ⟨_, rfl, (by repeat (first | exact obs_nil | refine obs_same ?_ | refine obs_and ?_ | refine obs_by (by (simp [inB, blS] <;> omega)) ?_))⟩)⟩ rfl rfl rfl rfl (lexg_g (I := inf) (J := jnf) none ⟨⟨_, rfl, (by repeat (first | exact obs_nil | refine obs_same ?_ | refine obs_and ?_ | refine obs_by (by (simp [inB, blS] <;> omega)) ?_))⟩, (by first | exact .inl (by decide +kernel) | exact .inr ⟨_, rfl, (by repeat (first | exact obs_nil | refine obs_same ?_ | refine obs_and ?_ | refine obs_by (by (simp [inB, blS] <;> omega)) ?_))⟩)⟩ rfl rfl rfl rfl (lexg_g (I := inf) (J := jnf) (some (.hole 2)) ⟨⟨_, rfl, (by repeat (first | exact obs_nil | refine obs_same ?_ | refine obs_and ?_ | refine obs_by (by (simp [inB, blS] <;> omega)) ?_))⟩, .inl rfl⟩ rfl rfl rfl rfl lexg_nil)))))))) rfl (fun _ => ?_) (fun h => by cases h)
    refine runS_tell 2 (tkR [a, b]) rfl (m' := 2) rfl (fun i hi => by
      have h01 : i = 0 ∨ i = 1 := by omega
      rcases h01 with rfl | rfl <;> rfl) rfl ?_
    refine runS_freeze 31 rfl rfl rfl (fun j hj => rfl) ?_
    have hlen : (wrS a ++ wrS b).length ≤ 24000 := by rw [List.length_append]; omega
    refine runS_call rfl rfl rfl rfl rfl rfl rfl (k_readAs none (wrS a ++ wrS b) [a, b] hlen (Nat.le_of_ble_eq_true rfl)) ?_
    refine runS_x (I := inf) (J := jnf) ⟨false, false, [], 0, 0⟩ 9999 rfl (by repeat (first | exact obs_nil | refine obs_draw (by kernel_rfl) ?_ | refine obs_same ?_ | refine obs_and ?_ | refine obs_by (by (simp [inB] <;> omega)) ?_)) ?_
    refine runS_ret (I := inf) 0 rfl (Nat.le_refl _) rfl .nil rfl ⟨?_, rfl⟩
    rw [hap]
    rfl
  · have hc := hcd.symm.trans h
    have hap : apartB a b = true := by unfold apartB; rw [if_neg (by rw [hc]; decide)]
    refine runS_x (I := inf) (J := jnf) ⟨false, false, [], 0, 0⟩ 9999 rfl (by repeat (first | exact obs_nil | refine obs_draw (by kernel_rfl) ?_ | refine obs_same ?_ | refine obs_and ?_ | refine obs_by (by (simp [inB] <;> omega)) ?_)) ?_
    refine runS_ret (I := inf) 0 rfl (Nat.le_refl _) rfl .nil rfl ⟨?_, rfl⟩
    rw [hap]
    rfl
theorem b_writeV {a : AV} {v : Nat} {l : Str} (ha : Kept 2 (blV a v l)) (hc : CallT Tryd.prog 46 [bPtr] (blV a v l) (fun o A => o = .ret (.tup []) ∧ A = blV bPtr v l)) (l2 : Str) (hl : l.length ≤ 100000000) (hl2 : l2.length ≤ 100000000) : CallT Tryd.prog 19 [bPtr, sv l2] (blV a v l) (fun o A => o = .ret (.tup [iv l2.length, .val .nilIface]) ∧ A = blV bPtr (v + 1) (l ++ l2)) := by
  obtain ⟨j, hj, hz⟩ := Option.map_eq_some_iff.1 (show (Tryd.prog.info? 5).map (fun i => (i.zero, i.size, i.bytes)) = some (some (.int .u8 0), 1, 1) from by kernel_rfl)
  have hj1 : j.zero = some (.int .u8 0) := congrArg (·.1) hz
  have hj2 : j.size = 1 := congrArg (·.2.1) hz
  have hj3 : j.bytes = 1 := congrArg (·.2.2) hz
  refine callS_body (n := 19) rfl rfl fun w ρ X => ?_
  refine runS_x (I := inf) (J := jnf) ⟨false, false, [], 0, 0⟩ 9999 rfl (by repeat (first | exact obs_nil | refine obs_draw (by kernel_rfl) ?_ | refine obs_same ?_ | refine obs_and ?_ | refine obs_by (by (simp [inB] <;> omega)) ?_)) ?_
  refine runS_callF (blV a v l) (blV bPtr v l) [] rfl rfl rfl rfl rfl (show _ = [bPtr] from rfl) rfl ha rfl rfl hc ?_
  refine runS_x (I := inf) (J := jnf) ⟨false, false, [], 0, 0⟩ 9999 rfl (by repeat (first | exact obs_nil | refine obs_draw (by kernel_rfl) ?_ | refine obs_same ?_ | refine obs_and ?_ | refine obs_by (by (simp [inB] <;> omega)) ?_)) ?_
  refine runS_opA (.row 1 (Nat.succ v)) rfl rfl rfl (op_appendText (l := l2) rfl Tryd.underlying27 Tryd.underlying9 hj hj1 hj2 hj3 rfl rfl rfl (by omega) rfl) ?_
  refine runS_x (I := inf) (J := jnf) ⟨false, false, [], 0, 0⟩ 9999 rfl (by repeat (first | exact obs_nil | refine obs_draw (by kernel_rfl) ?_ | refine obs_same ?_ | refine obs_and ?_ | refine obs_by (by (simp [inB] <;> omega)) ?_)) ?_
  have hl' : (l ++ l2).length = l.length + l2.length := List.length_append
  refine runS_tell 1 (byR (l ++ l2)) rfl (m' := l.length + l2.length) rfl (fun i hi => ?_) rfl ?_
  · unfold byR encR
    by_cases h : i < l.length
    · rw [appR_lt h, List.getD_eq_getElem?_getD, List.getElem?_append_left h, ← List.getD_eq_getElem?_getD]
    · rw [appR_ge (by omega), List.getD_eq_getElem?_getD, List.getElem?_append_right (by omega), ← List.getD_eq_getElem?_getD]
      rfl
  have hkk := kB1V (v + 1) (l ++ l2)
  unfold blV at hkk ⊢
  rw [hl'] at hkk ⊢
  exact runS_ret (I := inf) 2 rfl (Nat.le_refl _) rfl hkk rfl ⟨rfl, rfl⟩
theorem b_lenV {a : AV} {v : Nat} {l : Str} (ha : Kept 2 (blV a v l)) (hl : l.length ≤ 100000000) : CallT Tryd.prog 20 [bPtr] (blV a v l) (fun o A => o = .ret (iv l.length) ∧ A = blV a v l) := by
  refine callS_body (n := 8) rfl rfl fun w ρ X => ?_
  refine runS_x (I := inf) (J := jnf) ⟨false, false, [], 0, 0⟩ 9999 rfl (by repeat (first | exact obs_nil | refine obs_draw (by kernel_rfl) ?_ | refine obs_same ?_ | refine obs_and ?_ | refine obs_by (by (simp [inB] <;> omega)) ?_)) ?_
  exact runS_ret (I := inf) 2 rfl (Nat.le_refl _) rfl ha rfl ⟨rfl, rfl⟩
theorem b_len0 : CallT Tryd.prog 20 [bPtr] [.box 52 [nilP, .val (.slice none 0 0)]] (fun o A => o = .ret (iv 0) ∧ A = [.box 52 [nilP, .val (.slice none 0 0)]]) := by
  refine callS_body (n := 8) rfl rfl fun w ρ X => ?_
  refine runS_x (I := inf) (J := jnf) ⟨false, false, [], 0, 0⟩ 9999 rfl (by repeat (first | exact obs_nil | refine obs_draw (by kernel_rfl) ?_ | refine obs_same ?_ | refine obs_and ?_ | refine obs_by (by (simp [inB] <;> omega)) ?_)) ?_
  exact runS_ret (I := inf) 1 rfl (Nat.le_refl _) rfl (.box rfl .nil) rfl ⟨rfl, rfl⟩
theorem kAV (i v : Nat) (l : Str) : Kept 2 (blV (aOf i) v l) := by cases i; exact kB0V v l; exact kB1V v l
theorem b_writeA (i v : Nat) (l l2 : Str) (hl : l.length ≤ 100000000) (hl2 : l2.length ≤ 100000000) : CallT Tryd.prog 19 [bPtr, sv l2] (blV (aOf i) v l) (fun o A => o = .ret (.tup [iv l2.length, .val .nilIface]) ∧ A = blV bPtr (v + 1) (l ++ l2)) := by
  cases i
  · exact b_writeV (kB0V v l) (b_check0V v l) l2 hl hl2
  · exact b_writeV (kB1V v l) (b_check1V v l) l2 hl hl2
/-- How often the builder has been written to. -/
def verI (l : List Tk) : Nat → Nat
  | 0 => 0
  | i + 1 => verI l i + (if sepI l i = [] then 0 else 1) + 1
theorem showI_le (l : List Tk) (ht : ∀ j, (l.getD j tk0).text.length ≤ 5000) : ∀ i, (showI l i).length ≤ i * 10010
  | 0 => Nat.zero_le _
  | i + 1 => by
    have ih := showI_le l ht i
    have h1 := wrS_le (l.getD i tk0)
    have h2 := ht i
    have h3 : (sepI l i).length ≤ 1 := by
      unfold sepI
      split
      · exact Nat.zero_le _
      · split
        · exact Nat.le_refl _
        · exact Nat.zero_le _
    have e : showI l (i + 1) = showI l i ++ sepI l i ++ wrS (l.getD i tk0) := rfl
    rw [e, List.length_append, List.length_append]
    omega
theorem showI_pos (l : List Tk) (hg : ∀ t ∈ l, Tok.Good t) : ∀ i, i < l.length → 0 < (showI l (i + 1)).length := fun i hi => by
  have h1 := good_len (hg _ (getD_mem hi))
  have e : showI l (i + 1) = showI l i ++ sepI l i ++ wrS (l.getD i tk0) := rfl
  rw [e, List.length_append]
  omega
theorem k_show (n1 : Option Bool) (l : List Tk) (hl : l.length ≤ 5000) (hg : ∀ t ∈ l, Tok.Good t) (ht : ∀ j, (l.getD j tk0).text.length ≤ 5000) : CallT Tryd.prog 10 [tkS n1 l] [] (fun o A => o = .ret (if (showI l l.length).length > 20000 then .tup [sv [], iv 3] else .tup [sv (showI l l.length), iv 0]) ∧ A = []) := by
  refine callS_body (n := 36) rfl rfl fun w ρ X => ?_
  by_cases h0 : l = []
  · subst h0
    refine runS_x (I := inf) (J := jnf) ⟨true, true, [], 0, 0⟩ 9999 rfl (by repeat (first | exact obs_nil | refine obs_draw (by kernel_rfl) ?_ | refine obs_same ?_ | refine obs_and ?_ | refine obs_by (by (simp [inB] <;> omega)) ?_)) ?_
    refine runS_callF [.box 52 [nilP, .val (.slice none 0 0)]] [.box 52 [nilP, .val (.slice none 0 0)]] [] rfl rfl rfl rfl rfl (show _ = [bPtr] from rfl) rfl (.box rfl .nil) rfl rfl b_len0 ?_
    refine runS_x (I := inf) (J := jnf) ⟨false, false, [], 0, 0⟩ 9999 rfl (by repeat (first | exact obs_nil | refine obs_draw (by kernel_rfl) ?_ | refine obs_same ?_ | refine obs_and ?_ | refine obs_by (by (simp [inB] <;> omega)) ?_)) ?_
    refine runS_cond rfl (fun h => by cases h) (fun h => ?_)
    refine runS_x (I := inf) (J := jnf) ⟨false, false, [], 0, 0⟩ 9999 rfl (by repeat (first | exact obs_nil | refine obs_draw (by kernel_rfl) ?_ | refine obs_same ?_ | refine obs_and ?_ | refine obs_by (by (simp [inB] <;> omega)) ?_)) ?_
    refine runS_callF [.box 52 [nilP, .val (.slice none 0 0)]] [.box 52 [nilP, .val (.slice none 0 0)]] [] rfl rfl rfl rfl rfl (show _ = [bPtr] from rfl) rfl (.box rfl .nil) rfl rfl b_text0 ?_
    refine runS_x (I := inf) (J := jnf) ⟨false, false, [], 0, 0⟩ 9999 rfl (by repeat (first | exact obs_nil | refine obs_draw (by kernel_rfl) ?_ | refine obs_same ?_ | refine obs_and ?_ | refine obs_by (by (simp [inB] <;> omega)) ?_)) ?_
    exact runS_ret (I := inf) 0 rfl (Nat.le_refl _) rfl .nil rfl ⟨rfl, rfl⟩
  · refine runS_x (I := inf) (J := jnf) ⟨false, false, [], 0, 0⟩ 9999 rfl (by repeat (first | exact obs_nil | refine obs_draw (by kernel_rfl) ?_ | refine obs_same ?_ | refine obs_and ?_ | refine obs_by (by (simp [inB] <;> omega)) ?_)) ?_
    refine runS_nilRowBox 0 1 5 1 (byR []) rfl rfl rfl rfl rfl ?_
    refine runS_while (fun (i : Nat) τ ar => (τ 0 = tkS n1 l ∧ τ 4 = bPtr ∧ τ 7 = tkS n1 l ∧ τ 8 = iv l.length ∧ τ 9 = iv i) ∧ ar = blV (aOf i) (verI l i) (showI l i) ∧ i ≤ l.length) (fun i => l.length - i) 0 ⟨⟨rfl, rfl, rfl, rfl, rfl⟩, rfl, Nat.zero_le _⟩ ?_
    rintro i τ' ar' ⟨⟨g0, g4, g7, g8, g9⟩, rfl, hi⟩ ih
    refine runS_says 0 (by exact g0) (Says.refl _) ?_; refine runS_says 4 (by exact g4) (Says.refl _) ?_; refine runS_says 7 (by exact g7) (Says.refl _) ?_; refine runS_says 8 (by exact g8) (Says.refl _) ?_; refine runS_says 9 (by exact g9) (Says.refl _) ?_
    have hsl := showI_le l ht i
    refine runS_x (I := inf) (J := jnf) ⟨false, false, [], 0, 0⟩ 9999 rfl (by repeat (first | exact obs_nil | refine obs_draw (by kernel_rfl) ?_ | refine obs_same ?_ | refine obs_and ?_ | refine obs_by (by (simp [inB] <;> omega)) ?_)) ?_
    refine runS_cond rfl (fun h => ?_) (fun h => ?_)
    · have hi' : i < l.length := by simp at h; omega
      have hti := ht i
      have hwi := wrS_le (l.getD i tk0)
      have hw20 : (wrS (l.getD i tk0)).length ≤ 20000 := by omega
      have hval := k_valid (l.getD i tk0) (k_writtenA (l.getD i tk0) (by omega)) (by omega)
      rw [good_valid (hg _ (getD_mem hi')) hw20] at hval
      have hwm : 0 < i → IntKind.wrap .i64 ((i : Int) - 1) = ((i - 1 : Nat) : Int) := fun h => by rw [w64 (by omega) (by omega)]; omega
      have hw1 : IntKind.wrap .i64 ((i : Int) + 1) = ((i + 1 : Nat) : Int) := by rw [w64 (by omega) (by omega)]; rfl
      refine runS_x (I := inf) (J := jnf) ⟨false, false, [], 0, 0⟩ 9999 rfl (by repeat (first | exact obs_nil | refine obs_draw (by kernel_rfl) ?_ | refine obs_same ?_ | refine obs_and ?_ | refine obs_by (by (simp [inB, hi'] <;> omega)) ?_)) ?_
      refine runS_call rfl rfl rfl rfl rfl rfl rfl hval ?_
      refine runS_x (I := inf) (J := jnf) ⟨false, false, [], 0, 0⟩ 9999 rfl (by repeat (first | exact obs_nil | refine obs_draw (by kernel_rfl) ?_ | refine obs_same ?_ | refine obs_and ?_ | refine obs_by (by (simp [inB] <;> omega)) ?_)) ?_
      refine runS_cond rfl (fun h1 => by cases h1) (fun h1 => ?_)
      refine runS_x (I := inf) (J := jnf) ⟨false, false, [], 0, 0⟩ 9999 rfl (by repeat (first | exact obs_nil | refine obs_draw (by kernel_rfl) ?_ | refine obs_same ?_ | refine obs_and ?_ | refine obs_by (by (simp [inB, hi'] <;> omega)) ?_)) ?_
      refine runS_callU rfl rfl (by first | exact .v rfl rfl rfl rfl | exact .o rfl rfl rfl rfl) rfl rfl (by repeat (first | exact .nil | refine .cons (.n rfl) ?_ | refine .cons .o ?_ | refine .cons gok_and ?_)) rfl rfl rfl rfl rfl (fun _ => (k_apart _ _ (ht _) (ht _))) ?_
      refine runS_x (I := inf) (J := jnf) ⟨false, false, [], 0, 0⟩ 9999 rfl (by repeat (first | exact obs_nil | refine obs_draw (by kernel_rfl) ?_ | refine obs_same ?_ | refine obs_and ?_ | refine obs_by (by (simp [inB] <;> omega)) ?_)) ?_
      have hcd : (if decide ((i : Int) > 0) = true then apartB (l.getD (IntKind.wrap .i64 ((i : Int) - 1)).toNat tk0) (l.getD i tk0) else false) = !decide (sepI l i = []) := by
        unfold sepI
        by_cases hi0 : i = 0
        · subst hi0
          rfl
        · have : decide ((i : Int) > 0) = true := by simp; omega
          rw [this, if_pos rfl, hwm (by omega), Int.toNat_natCast, if_neg hi0]
          cases apartB (l.getD (i - 1) tk0) (l.getD i tk0) <;> rfl
      have hsep : sepI l i = [] ∨ (0 < i ∧ sepI l i = [32]) := by
        unfold sepI
        by_cases hi0 : i = 0
        · exact .inl (if_pos hi0)
        · rw [if_neg hi0]
          cases apartB (l.getD (i - 1) tk0) (l.getD i tk0)
          · exact .inl rfl
          · exact .inr ⟨by omega, rfl⟩
      have hseplen : (sepI l i).length ≤ 1 := by
        rcases hsep with h | h
        · rw [h]; exact Nat.zero_le _
        · rw [h.2]; exact Nat.le_refl _
      refine runS_cut (fun τ ar => (τ 0 = tkS n1 l ∧ τ 4 = bPtr ∧ τ 6 = .ptr 2 0 0 ∧ τ 7 = tkS n1 l ∧ τ 8 = iv l.length ∧ τ 9 = iv i) ∧ ar = blV (aOf i) (verI l i + (if sepI l i = [] then 0 else 1)) (showI l i ++ sepI l i) ++ [.box 32 (tkE (l.getD i tk0))]) (fun rest => ?_) ?_
      · refine runS_cond rfl (fun h2 => ?_) (fun h2 => ?_)
        · have hne : sepI l i ≠ [] := by
            have := hcd.symm.trans h2
            simpa using this
          have h32 := hsep.resolve_left hne
          obtain ⟨i', rfl⟩ : ∃ i', i = i' + 1 := ⟨i - 1, by omega⟩
          refine runS_x (I := inf) (J := jnf) ⟨false, false, [], 7, 0⟩ 9999 rfl (by repeat (first | exact obs_nil | refine obs_draw (by kernel_rfl) ?_ | refine obs_same ?_ | refine obs_and ?_ | refine obs_by (by (simp [inB] <;> omega)) ?_)) ?_
          refine runS_callF (blV bPtr (verI l (i' + 1)) (showI l (i' + 1))) (blV bPtr (verI l (i' + 1) + 1) (showI l (i' + 1) ++ [32])) [.box 32 (tkE (l.getD (i' + 1) tk0))] rfl rfl rfl rfl rfl (show _ = [bPtr, uv (32 : UInt8).toNat] from rfl) rfl (kB1V _ _) rfl rfl (b_byteV (kB1V _ _) (b_check1V _ _) 32 (by omega)) ?_
          refine runS_x (I := inf) (J := jnf) ⟨false, false, [], 7, 0⟩ 9999 rfl (by repeat (first | exact obs_nil | refine obs_draw (by kernel_rfl) ?_ | refine obs_same ?_ | refine obs_and ?_ | refine obs_by (by (simp [inB] <;> omega)) ?_)) ?_
          refine rest _ _ ⟨⟨rfl, rfl, rfl, rfl, rfl, rfl⟩, ?_⟩
          rw [if_neg hne, h32.2]
          rfl
        · have he : sepI l i = [] := by
            have := hcd.symm.trans h2
            simpa using this
          refine runS_x (I := inf) (J := jnf) ⟨false, false, [], 7, 0⟩ 9999 rfl (by repeat (first | exact obs_nil | refine obs_draw (by kernel_rfl) ?_ | refine obs_same ?_ | refine obs_and ?_ | refine obs_by (by (simp [inB] <;> omega)) ?_)) ?_
          refine rest _ _ ⟨⟨rfl, rfl, rfl, rfl, rfl, rfl⟩, ?_⟩
          rw [if_pos he, he, List.append_nil]
          rfl
      rintro τ2 ar2 ⟨⟨g0, g4, g6, g7, g8, g9⟩, rfl⟩
      refine runS_says 0 (by exact g0) (Says.refl _) ?_; refine runS_says 4 (by exact g4) (Says.refl _) ?_; refine runS_says 6 (by exact g6) (Says.refl _) ?_; refine runS_says 7 (by exact g7) (Says.refl _) ?_; refine runS_says 8 (by exact g8) (Says.refl _) ?_; refine runS_says 9 (by exact g9) (Says.refl _) ?_
      have hver : verI l (i + 1) = verI l i + (if sepI l i = [] then 0 else 1) + 1 := rfl
      have hshow : showI l (i + 1) = showI l i ++ sepI l i ++ wrS (l.getD i tk0) := rfl
      have hacc : (showI l i ++ sepI l i).length ≤ 100000000 := by rw [List.length_append]; omega
      generalize verI l i + (if sepI l i = [] then 0 else 1) = ver at hver ⊢
      generalize showI l i ++ sepI l i = acc at hshow hacc ⊢
      refine runS_x (I := inf) (J := jnf) ⟨false, false, [], 0, 0⟩ 9999 rfl (by repeat (first | exact obs_nil | refine obs_draw (by kernel_rfl) ?_ | refine obs_same ?_ | refine obs_and ?_ | refine obs_by (by (simp [inB] <;> omega)) ?_)) ?_
      refine runS_call rfl rfl rfl rfl rfl rfl rfl (k_writtenA (l.getD i tk0) (by omega)) ?_
      refine runS_x (I := inf) (J := jnf) ⟨false, false, [], 0, 0⟩ 9999 rfl (by repeat (first | exact obs_nil | refine obs_draw (by kernel_rfl) ?_ | refine obs_same ?_ | refine obs_and ?_ | refine obs_by (by (simp [inB] <;> omega)) ?_)) ?_
      refine runS_callF (blV (aOf i) ver acc) (blV bPtr (ver + 1) (acc ++ wrS (l.getD i tk0))) [.box 32 (tkE (l.getD i tk0))] rfl rfl rfl rfl rfl (show _ = [bPtr, sv (wrS (l.getD i tk0))] from rfl) rfl (kAV _ _ _) rfl rfl (b_writeA i ver acc (wrS (l.getD i tk0)) hacc (by omega)) ?_
      refine runS_x (I := inf) (J := jnf) ⟨false, false, [], 0, 0⟩ 9999 rfl (by repeat (first | exact obs_nil | refine obs_draw (by kernel_rfl) ?_ | refine obs_same ?_ | refine obs_and ?_ | refine obs_by (by (simp [inB] <;> omega)) ?_)) ?_
      refine runS_drop 2 (Nat.zero_le _) rfl (by repeat (first | exact .nil | refine .row (fun j hj => rfl) ?_ | refine .box rfl ?_ | refine .fam (fun k j hk hj => rfl) ?_ | refine .loop (scrub_under _ _) ?_ | refine .dfr ?_ | refine .gone ?_ | refine .map (fun p hp => by (obtain ⟨k, _, rfl⟩ := List.mem_map.1 hp; rfl)) ?_)) rfl rfl rfl (by repeat (first | exact .nil | refine .cons rfl rfl rfl (scrub_under _ _) ?_)) ?_
      exact ih (i + 1) _ _ (by omega) ⟨⟨rfl, rfl, rfl, rfl, congrArg iv hw1⟩, by rw [hver, hshow]; rfl, hi'⟩
    · have hie : i = l.length := by simp at h; omega
      subst hie
      have hne : 0 < l.length := List.length_pos_iff.2 h0
      obtain ⟨n', hn'⟩ : ∃ n', l.length = n' + 1 := ⟨l.length - 1, by omega⟩
      have hpos := showI_pos l hg n' (by omega)
      rw [← hn'] at hpos
      have haO : aOf l.length = bPtr := by rw [hn']; rfl
      rw [haO]
      refine runS_x (I := inf) (J := jnf) ⟨false, false, [], 0, 0⟩ 9999 rfl (by repeat (first | exact obs_nil | refine obs_draw (by kernel_rfl) ?_ | refine obs_same ?_ | refine obs_and ?_ | refine obs_by (by (simp [inB] <;> omega)) ?_)) ?_
      refine runS_callF (blV bPtr (verI l l.length) (showI l l.length)) (blV bPtr (verI l l.length) (showI l l.length)) [] rfl rfl rfl rfl rfl (show _ = [bPtr] from rfl) rfl (kB1V _ _) rfl rfl (b_lenV (kB1V _ _) (by omega)) ?_
      refine runS_x (I := inf) (J := jnf) ⟨false, false, [], 0, 0⟩ 9999 rfl (by repeat (first | exact obs_nil | refine obs_draw (by kernel_rfl) ?_ | refine obs_same ?_ | refine obs_and ?_ | refine obs_by (by (simp [inB] <;> omega)) ?_)) ?_
      refine runS_cond rfl (fun h2 => ?_) (fun h2 => ?_)
      · have hb : (showI l l.length).length > 20000 := by
          have : decide (((showI l l.length).length : Int) > 20000) = true := h2
          simp at this
          omega
        rw [if_pos hb]
        refine runS_x (I := inf) (J := jnf) ⟨false, false, [], 0, 0⟩ 9999 rfl (by repeat (first | exact obs_nil | refine obs_draw (by kernel_rfl) ?_ | refine obs_same ?_ | refine obs_and ?_ | refine obs_by (by (simp [inB] <;> omega)) ?_)) ?_
        exact runS_ret (I := inf) 0 rfl (Nat.le_refl _) rfl .nil rfl ⟨rfl, rfl⟩
      · have hb : ¬ (showI l l.length).length > 20000 := by
          have : decide (((showI l l.length).length : Int) > 20000) = false := h2
          simp at this
          omega
        rw [if_neg hb]
        refine runS_x (I := inf) (J := jnf) ⟨false, false, [], 0, 0⟩ 9999 rfl (by repeat (first | exact obs_nil | refine obs_draw (by kernel_rfl) ?_ | refine obs_same ?_ | refine obs_and ?_ | refine obs_by (by (simp [inB] <;> omega)) ?_)) ?_
        refine runS_callF (blV bPtr (verI l l.length) (showI l l.length)) [.box 52 [bPtr, .row 1 (verI l l.length)], .gone] [] rfl rfl rfl rfl rfl (show _ = [bPtr] from rfl) rfl (kB1V _ _) rfl rfl (b_textV _ (showI l l.length) (by omega) hpos) ?_
        refine runS_x (I := inf) (J := jnf) ⟨false, false, [], 0, 0⟩ 9999 rfl (by repeat (first | exact obs_nil | refine obs_draw (by kernel_rfl) ?_ | refine obs_same ?_ | refine obs_and ?_ | refine obs_by (by (simp [inB] <;> omega)) ?_)) ?_
        exact runS_ret (I := inf) 0 rfl (Nat.le_refl _) rfl .nil rfl ⟨rfl, rfl⟩
end Go.Iron.Tryd

/- The token seat: the law TokenScans. -/
namespace Go.Iron.Tryd
open Go.Proofs Go.RowKit Go.Iron.Tok

theorem k_scans (s : Str) : CallT Tryd.prog 4 [sv s] [] (fun o A => o = .ret (bv true) ∧ A = []) := by
  refine callS_body (n := 119) rfl rfl fun w ρ X => ?_
  refine runS_x (I := inf) (J := jnf) ⟨false, false, [], 0, 0⟩ 9999 rfl (by repeat (first | exact obs_nil | refine obs_draw (by kernel_rfl) ?_ | refine obs_same ?_ | refine obs_and ?_ | refine obs_by (by (simp [inB, blS] <;> omega)) ?_)) ?_
  have hcd : (if decide ((s.length : Int) > 20010) = true then true else (if decide ((s.length : Int) > 4000) = true then decide ((s.length : Int) < 19990) else false)) = decide (s.length > 20010 ∨ (s.length > 4000 ∧ s.length < 19990)) := by
    rw [Bool.eq_iff_iff]
    by_cases h1 : s.length > 20010 <;> by_cases h2 : s.length > 4000 <;> by_cases h3 : s.length < 19990 <;> simp [h1, h2, h3] <;> omega
  refine runS_cond rfl (fun h => ?_) (fun h => ?_)
  · refine runS_x (I := inf) (J := jnf) ⟨false, false, [], 0, 0⟩ 9999 rfl (by repeat (first | exact obs_nil | refine obs_draw (by kernel_rfl) ?_ | refine obs_same ?_ | refine obs_and ?_ | refine obs_by (by (simp [inB] <;> omega)) ?_)) ?_
    refine runS_call rfl rfl rfl rfl rfl rfl rfl k_awake ?_
    refine runS_x (I := inf) (J := jnf) ⟨false, false, [], 0, 0⟩ 9999 rfl (by repeat (first | exact obs_nil | refine obs_draw (by kernel_rfl) ?_ | refine obs_same ?_ | refine obs_and ?_ | refine obs_by (by (simp [inB] <;> omega)) ?_)) ?_
    refine runS_ret (I := inf) 0 rfl (Nat.le_refl _) rfl .nil rfl ⟨?_, rfl⟩
    rfl
  · have hb := of_decide_eq_false (hcd.symm.trans h)
    have hs : s.length ≤ 20010 := by omega
    clear hcd h
    have hlen := scanF_len s
    have hasc := (scanF_good s).2
    have hgood := (scanF_good s).1
    have htext := scanF_text s
    refine runS_x (I := inf) (J := jnf) ⟨false, false, [], 0, 0⟩ 9999 rfl (by repeat (first | exact obs_nil | refine obs_draw (by kernel_rfl) ?_ | refine obs_same ?_ | refine obs_and ?_ | refine obs_by (by (simp [inB] <;> omega)) ?_)) ?_
    refine runS_call rfl rfl rfl rfl rfl rfl rfl (k_scan s (by omega)) ?_
    refine runS_x (I := inf) (J := jnf) ⟨false, false, [], 0, 0⟩ 9999 rfl (by repeat (first | exact obs_nil | refine obs_draw (by kernel_rfl) ?_ | refine obs_same ?_ | refine obs_and ?_ | refine obs_by (by (simp [inB] <;> omega)) ?_)) ?_
    refine runS_call rfl rfl rfl rfl rfl rfl rfl (r_scan s (by omega)) ?_
    refine runS_x (I := inf) (J := jnf) ⟨false, false, [], 0, 0⟩ 9999 rfl (by repeat (first | exact obs_nil | refine obs_draw (by kernel_rfl) ?_ | refine obs_same ?_ | refine obs_and ?_ | refine obs_by (by (simp [inB] <;> omega)) ?_)) ?_
    refine runS_call rfl rfl rfl rfl rfl rfl rfl (k_same none none (scanF s).1 (scanF s).1 true (by omega) (by omega)) ?_
    rw [sameL_refl]
    refine runS_x (I := inf) (J := jnf) ⟨false, false, [], 0, 0⟩ 9999 rfl (by repeat (first | exact obs_nil | refine obs_draw (by kernel_rfl) ?_ | refine obs_same ?_ | refine obs_and ?_ | refine obs_by (by (simp [inB] <;> omega)) ?_)) ?_
    have hcd : (if (if (!true) = true then true else (!(((scanF s).2.1 : Int) == ((scanF s).2.1 : Int)))) = true then true else (!(((scanF s).2.2 : Int) == ((scanF s).2.2 : Int)))) = false := by simp
    refine runS_cond rfl (fun h => ?_) (fun h => ?_)
    · exact absurd (hcd.symm.trans h) (by decide)
    clear hcd h
    generalize hsc : scanF s = x at hlen hasc hgood htext ⊢
    obtain ⟨l, at_, e⟩ := x
    dsimp only at hlen hasc hgood htext
    refine runS_x (I := inf) (J := jnf) ⟨false, false, [], 0, 0⟩ 9999 rfl (by repeat (first | exact obs_nil | refine obs_draw (by kernel_rfl) ?_ | refine obs_same ?_ | refine obs_and ?_ | refine obs_by (by (simp [inB, blS] <;> omega)) ?_)) ?_
    have hcd : (if (!((e : Int) == 0)) = true then true else decide ((s.length : Int) > 4000)) = decide (e ≠ 0 ∨ s.length > 4000) := by
      rw [Bool.eq_iff_iff]
      by_cases h1 : e = 0 <;> by_cases h2 : s.length > 4000 <;> simp [h1, h2] <;> omega
    refine runS_cond rfl (fun h => ?_) (fun h => ?_)
    · refine runS_x (I := inf) (J := jnf) ⟨false, false, [], 0, 0⟩ 9999 rfl (by repeat (first | exact obs_nil | refine obs_draw (by kernel_rfl) ?_ | refine obs_same ?_ | refine obs_and ?_ | refine obs_by (by (simp [inB] <;> omega)) ?_)) ?_
      refine runS_call rfl rfl rfl rfl rfl rfl rfl k_awake ?_
      refine runS_x (I := inf) (J := jnf) ⟨false, false, [], 0, 0⟩ 9999 rfl (by repeat (first | exact obs_nil | refine obs_draw (by kernel_rfl) ?_ | refine obs_same ?_ | refine obs_and ?_ | refine obs_by (by (simp [inB] <;> omega)) ?_)) ?_
      refine runS_ret (I := inf) 0 rfl (Nat.le_refl _) rfl .nil rfl ⟨?_, rfl⟩
      rfl
    · have hb2 := of_decide_eq_false (hcd.symm.trans h)
      have hs4 : s.length ≤ 4000 := by omega
      clear hcd h
      have ht : ∀ j, (l.getD j tk0).text.length ≤ 4250 := fun j => by
        by_cases hj : j < l.length
        · have := htext _ (getD_mem hj)
          omega
        · rw [List.getD_eq_getElem?_getD, List.getElem?_eq_none (by omega)]
          exact Nat.zero_le _
      refine runS_x (I := inf) (J := jnf) ⟨false, false, [], 0, 0⟩ 9999 rfl (by repeat (first | exact obs_nil | refine obs_draw (by kernel_rfl) ?_ | refine obs_same ?_ | refine obs_and ?_ | refine obs_by (by (simp [inB] <;> omega)) ?_)) ?_
      refine runS_while (fun (i : Nat) τ ar => (τ 0 = sv s ∧ τ 3 = tkS none l ∧ τ 9 = iv i) ∧ ar = [] ∧ i ≤ l.length) (fun i => l.length - i) 0 ⟨⟨rfl, rfl, rfl⟩, rfl, Nat.zero_le _⟩ ?_
      rintro i τ' ar' ⟨⟨g0, g3, g9⟩, rfl, hi⟩ ih
      refine runS_says 0 (by exact g0) (Says.refl _) ?_; refine runS_says 3 (by exact g3) (Says.refl _) ?_; refine runS_says 9 (by exact g9) (Says.refl _) ?_
      refine runS_x (I := inf) (J := jnf) ⟨false, false, [], 0, 0⟩ 9999 rfl (by repeat (first | exact obs_nil | refine obs_draw (by kernel_rfl) ?_ | refine obs_same ?_ | refine obs_and ?_ | refine obs_by (by (simp [inB] <;> omega)) ?_)) ?_
      refine runS_cond rfl (fun h => ?_) (fun h => ?_)
      · have hi' : i < l.length := by simp at h; omega
        have hti := ht i
        have hwi := wrS_le (l.getD i tk0)
        have hw20 : (wrS (l.getD i tk0)).length ≤ 20000 := by omega
        have hval := k_valid (l.getD i tk0) (k_writtenA (l.getD i tk0) (by omega)) (by omega)
        rw [good_valid (hgood _ (getD_mem hi')) hw20] at hval
        have hwm : 0 < i → IntKind.wrap .i64 ((i : Int) - 1) = ((i - 1 : Nat) : Int) := fun h => by rw [w64 (by omega) (by omega)]; omega
        have hw1 : IntKind.wrap .i64 ((i : Int) + 1) = ((i + 1 : Nat) : Int) := by rw [w64 (by omega) (by omega)]; rfl
        refine runS_x (I := inf) (J := jnf) ⟨false, false, [], 0, 0⟩ 9999 rfl (by repeat (first | exact obs_nil | refine obs_draw (by kernel_rfl) ?_ | refine obs_same ?_ | refine obs_and ?_ | refine obs_by (by (simp [inB, hi'] <;> omega)) ?_)) ?_
        refine runS_draw 21 (by kernel_rfl) (lexj_x (I := inf) (J := jnf) 99 rfl rfl (by repeat (first | exact obs_nil | refine obs_same ?_ | refine obs_and ?_ | refine obs_by (by (simp [inB, hi'] <;> omega)) ?_)) (lexj_call rfl rfl rfl rfl rfl rfl rfl rfl hval (lexj_x (I := inf) (J := jnf) 99 rfl rfl (by repeat (first | exact obs_nil | refine obs_same ?_ | refine obs_and ?_ | refine obs_by (by (simp [inB, hi'] <;> omega)) ?_)) lexj_nil))) ?_
        refine runS_x (I := inf) (J := jnf) ⟨false, false, [], 0, 0⟩ 9999 rfl (by repeat (first | exact obs_nil | refine obs_draw (by kernel_rfl) ?_ | refine obs_same ?_ | refine obs_and ?_ | refine obs_by (by (simp [inB] <;> omega)) ?_)) ?_
        have hcd2 : (if (!true) = true then true else (if decide ((i : Int) > 0) = true then decide (((l.getD i tk0).at_ : Int) ≤ ((l.getD (IntKind.wrap .i64 ((i : Int) - 1)).toNat tk0).at_ : Int)) else false)) = false := by
          rw [Bool.not_true, if_neg (by decide)]
          by_cases hi0 : i = 0
          · subst hi0
            rfl
          · have h1 : decide ((i : Int) > 0) = true := by simp; omega
            have h2 := hasc (i - 1) (by omega)
            rw [show i - 1 + 1 = i by omega] at h2
            rw [h1, if_pos rfl, hwm (by omega), Int.toNat_natCast]
            simp [-List.getD_eq_getElem?_getD]
            omega
        refine runS_cond rfl (fun h2 => absurd (hcd2.symm.trans h2) (by decide)) (fun h2 => ?_)
        refine runS_x (I := inf) (J := jnf) ⟨false, false, [], 0, 0⟩ 9999 rfl (by repeat (first | exact obs_nil | refine obs_draw (by kernel_rfl) ?_ | refine obs_same ?_ | refine obs_and ?_ | refine obs_by (by (simp [inB] <;> omega)) ?_)) ?_
        exact ih (i + 1) _ _ (by omega) ⟨⟨rfl, rfl, congrArg iv hw1⟩, rfl, hi'⟩
      · have hie : i = l.length := by simp at h; omega
        subst hie
        clear ih
        refine runS_x (I := inf) (J := jnf) ⟨false, false, [], 0, 0⟩ 9999 rfl (by repeat (first | exact obs_nil | refine obs_draw (by kernel_rfl) ?_ | refine obs_same ?_ | refine obs_and ?_ | refine obs_by (by (simp [inB] <;> omega)) ?_)) ?_
        refine runS_call rfl rfl rfl rfl rfl rfl rfl (k_show none l (by omega) hgood (fun j => by have := ht j; omega)) ?_
        by_cases hlong : (showI l l.length).length > 20000
        · rw [if_pos hlong]
          refine runS_x (I := inf) (J := jnf) ⟨false, false, [], 0, 0⟩ 9999 rfl (by repeat (first | exact obs_nil | refine obs_draw (by kernel_rfl) ?_ | refine obs_same ?_ | refine obs_and ?_ | refine obs_by (by (simp [inB] <;> omega)) ?_)) ?_
          refine runS_cond rfl (fun h2 => ?_) (fun h2 => by cases h2)
          refine runS_x (I := inf) (J := jnf) ⟨false, false, [], 0, 0⟩ 9999 rfl (by repeat (first | exact obs_nil | refine obs_draw (by kernel_rfl) ?_ | refine obs_same ?_ | refine obs_and ?_ | refine obs_by (by (simp [inB] <;> omega)) ?_)) ?_
          refine runS_callU rfl rfl (by first | exact .v rfl rfl rfl rfl | exact .o rfl rfl rfl rfl) rfl rfl (by repeat (first | exact .nil | refine .cons (.n rfl) ?_ | refine .cons .o ?_ | refine .cons gok_and ?_)) rfl rfl rfl rfl rfl (fun _ => k_awake) ?_
          refine runS_x (I := inf) (J := jnf) ⟨false, false, [], 0, 0⟩ 9999 rfl (by repeat (first | exact obs_nil | refine obs_draw (by kernel_rfl) ?_ | refine obs_same ?_ | refine obs_and ?_ | refine obs_by (by (simp [inB] <;> omega)) ?_)) ?_
          refine runS_ret (I := inf) 0 rfl (Nat.le_refl _) rfl .nil rfl ⟨?_, rfl⟩
          rfl
        · rw [if_neg hlong]
          obtain ⟨hz, hsm⟩ := show_law l hgood (by omega)
          have hl2 := scanF_len (showI l l.length)
          refine runS_x (I := inf) (J := jnf) ⟨false, false, [], 0, 0⟩ 9999 rfl (by repeat (first | exact obs_nil | refine obs_draw (by kernel_rfl) ?_ | refine obs_same ?_ | refine obs_and ?_ | refine obs_by (by (simp [inB] <;> omega)) ?_)) ?_
          refine runS_cond rfl (fun h2 => by cases h2) (fun h2 => ?_)
          refine runS_x (I := inf) (J := jnf) ⟨false, false, [], 0, 0⟩ 9999 rfl (by repeat (first | exact obs_nil | refine obs_draw (by kernel_rfl) ?_ | refine obs_same ?_ | refine obs_and ?_ | refine obs_by (by (simp [inB] <;> omega)) ?_)) ?_
          refine runS_call rfl rfl rfl rfl rfl rfl rfl (k_scan (showI l l.length) (by omega)) ?_
          refine runS_x (I := inf) (J := jnf) ⟨false, false, [], 0, 0⟩ 9999 rfl (by repeat (first | exact obs_nil | refine obs_draw (by kernel_rfl) ?_ | refine obs_same ?_ | refine obs_and ?_ | refine obs_by (by (simp [inB] <;> omega)) ?_)) ?_
          refine runS_callU rfl rfl (by first | exact .v rfl rfl rfl rfl | exact .o rfl rfl rfl rfl) rfl rfl (by repeat (first | exact .nil | refine .cons (.n rfl) ?_ | refine .cons .o ?_ | refine .cons gok_and ?_)) rfl rfl rfl rfl rfl (fun _ => (k_same none none l (scanF (showI l l.length)).1 false (by omega) (by omega))) ?_
          refine runS_x (I := inf) (J := jnf) ⟨false, false, [], 0, 0⟩ 9999 rfl (by repeat (first | exact obs_nil | refine obs_draw (by kernel_rfl) ?_ | refine obs_same ?_ | refine obs_and ?_ | refine obs_by (by (simp [inB] <;> omega)) ?_)) ?_
          refine runS_callU rfl rfl (by first | exact .v rfl rfl rfl rfl | exact .o rfl rfl rfl rfl) rfl rfl (by repeat (first | exact .nil | refine .cons (.n rfl) ?_ | refine .cons .o ?_ | refine .cons gok_and ?_)) rfl rfl rfl rfl rfl (fun _ => k_awake) ?_
          refine runS_x (I := inf) (J := jnf) ⟨false, false, [], 0, 0⟩ 9999 rfl (by repeat (first | exact obs_nil | refine obs_draw (by kernel_rfl) ?_ | refine obs_same ?_ | refine obs_and ?_ | refine obs_by (by (simp [inB] <;> omega)) ?_)) ?_
          refine runS_ret (I := inf) 0 rfl (Nat.le_refl _) rfl .nil rfl ⟨?_, rfl⟩
          refine congrArg (fun x => Out.ret (bv x)) ?_
          rw [hsm, hz]
          rfl
end Go.Iron.Tryd
