/- The digits' seat: valid types, by the reference and by the program. -/
import Derived.Test.YtcgepjbalmppjaaGreatDoorTC
import Derived.Test.YtcgepjbalmppjaaGreatDoorTE
namespace Go.Iron.Tryz
open Go.Proofs Go.RowKit Go.Iron.Tok Go.Iron.Dg

@[reducible] def typE (t : Typ) : List AV := [iv t.kind, iv t.p, iv t.q, iv t.n, bv t.vary, sv t.pic]
theorem d_within (n a b : Int) : CallT Tryz.prog 86 [iv n, iv a, iv b] [] (fun o A => o = .ret (bv (decide (a ≤ n) && decide (n ≤ b))) ∧ A = []) := by
  refine callS_body (n := 15) rfl rfl fun w ρ X => ?_
  refine rX rfl ?_
  refine runS_ret (I := inf) 0 rfl (Nat.le_refl _) rfl .nil rfl ⟨?_, rfl⟩
  show Out.ret (bv (if decide (n ≥ a) = true then decide (n ≤ b) else false)) = _
  by_cases h : a ≤ n <;> simp [h]
theorem nine {k : Int} (h : 1 ≤ k ∧ k ≤ 9) : k = 1 ∨ k = 2 ∨ k = 3 ∨ k = 4 ∨ k = 5 ∨ k = 6 ∨ k = 7 ∨ k = 8 ∨ k = 9 := by omega
theorem emptyB (s : Str) : ((bs s).toList == ({ data := #[] } : ByteArray).toList) = decide (s.length = 0) := by
  show ((bs s).toList == (bs []).toList) = _
  rw [bs_toList, bs_toList]
  cases s <;> rfl
theorem isEmptyB (s : Str) : s.isEmpty = decide (s.length = 0) := by cases s <;> rfl
theorem blL (s : Str) : (bl (bs s)).length = s.length := rfl
theorem r_valid (t : Typ) : CallT Tryz.prog 13 [.agg (typE t)] [] (fun o A => o = .ret (bv (validT t)) ∧ A = []) := by
  obtain ⟨k, p, q, n, v, pic⟩ := t
  by_cases hk : 1 ≤ k ∧ k ≤ 9
  · rcases nine hk with rfl | rfl | rfl | rfl | rfl | rfl | rfl | rfl | rfl
    all_goals
      refine callS_body (n := 134) rfl rfl fun w ρ X => ?_
      refine rX rfl ?_
      refine runS_callU rfl rfl (by first | exact .v rfl rfl rfl rfl | exact .o rfl rfl rfl rfl) rfl rfl (by repeat (first | exact .nil | refine .cons (.n rfl) ?_ | refine .cons .o ?_ | refine .cons gok_and ?_)) rfl rfl rfl rfl rfl (fun _ => (r_numeric _)) ?_
      refine rX rfl ?_
      refine runS_cond rfl (fun h => ?_) (fun h => ?_)
      · refine runS_x (I := inf) (J := jnf) ⟨true, false, [], 0, 0⟩ 9999 rfl ob1 ?_
        refine runS_ret (I := inf) 0 rfl (Nat.le_refl _) rfl .nil rfl ⟨?_, rfl⟩
        refine congrArg (fun b => Out.ret (bv b)) ?_
        simp only [validT, inR, isEmptyB, emptyB, blL] at h ⊢
        rw [Bool.eq_iff_iff]
        cases v <;> (simp [-List.length_eq_zero_iff] at h ⊢ <;> first | omega | (simp only [decide_eq_true_eq]; omega) | (rw [decide_eq_true_iff]; omega) | (erw [decide_eq_true_iff]; omega))
      · refine runS_x (I := inf) (J := jnf) ⟨true, false, [], 0, 0⟩ 9999 rfl ob1 ?_
        refine runS_ret (I := inf) 0 rfl (Nat.le_refl _) rfl .nil rfl ⟨?_, rfl⟩
        refine congrArg (fun b => Out.ret (bv b)) ?_
        simp only [validT, inR, isEmptyB, emptyB, blL] at h ⊢
        rw [Bool.eq_iff_iff]
        cases v <;> (simp [-List.length_eq_zero_iff] at h ⊢ <;> first | omega | (simp only [decide_eq_true_eq]; omega) | (rw [decide_eq_true_iff]; omega) | (erw [decide_eq_true_iff]; omega))
  · have h0 : validT ⟨k, p, q, n, v, pic⟩ = false := by
      cases hv : validT ⟨k, p, q, n, v, pic⟩ with
      | false => rfl
      | true => exact absurd (valid_kind hv) hk
    rw [h0]
    have nk : ∀ j : Int, 1 ≤ j → j ≤ 9 → (k == j) = false := fun j h1 h2 => by simp; omega
    refine callS_body (n := 134) rfl rfl fun w ρ X => ?_
    refine rX rfl ?_
    refine runS_callU rfl rfl (by first | exact .v rfl rfl rfl rfl | exact .o rfl rfl rfl rfl) rfl rfl (by repeat (first | exact .nil | refine .cons (.n rfl) ?_ | refine .cons .o ?_ | refine .cons gok_and ?_)) rfl rfl rfl rfl rfl (fun _ => (r_numeric _)) ?_
    refine rX rfl ?_
    refine runS_cond rfl (fun h => ?_) (fun h => ?_)
    · refine rX rfl ?_
      refine runS_ret (I := inf) 0 rfl (Nat.le_refl _) rfl .nil rfl ⟨?_, rfl⟩
      rfl
    · refine rX rfl ?_
      refine runS_cond rfl (fun h => ?_) (fun _ => ?_)
      · rw [nk _ (by decide) (by decide)] at h; cases h
      refine rX rfl ?_
      refine runS_cond rfl (fun h => ?_) (fun _ => ?_)
      · rw [nk _ (by decide) (by decide)] at h; cases h
      refine rX rfl ?_
      refine runS_cond rfl (fun h => ?_) (fun _ => ?_)
      · rw [nk _ (by decide) (by decide)] at h; cases h
      refine rX rfl ?_
      refine runS_cond rfl (fun h => ?_) (fun _ => ?_)
      · rw [nk _ (by decide) (by decide)] at h; cases h
      refine rX rfl ?_
      refine runS_cond rfl (fun h => ?_) (fun _ => ?_)
      · rw [nk _ (by decide) (by decide)] at h; cases h
      refine rX rfl ?_
      refine runS_cond rfl (fun h => ?_) (fun _ => ?_)
      · rw [nk _ (by decide) (by decide)] at h; cases h
      refine rX rfl ?_
      refine runS_ret (I := inf) 0 rfl (Nat.le_refl _) rfl .nil rfl ⟨?_, rfl⟩
      refine congrArg (fun b => Out.ret (bv b)) ?_
      simp
      omega

theorem rules_1 (a b : Int) (t : Typ) : CallT Tryz.prog 156 [.agg (typE t), .loc [iv a] 0, .loc [iv b] 0] [] (fun o A => o = .ret (bv (inR t.p 1 a && inR t.q 0 b && t.n == 0 && !t.vary && t.pic.isEmpty)) ∧ A = []) := by
  obtain ⟨k, p, q, n, v, pic⟩ := t
  refine callS_body (n := 30) rfl rfl fun w ρ X => ?_
  refine rX rfl ?_
  refine runS_call rfl rfl rfl rfl rfl rfl rfl (d_within _ _ _) ?_
  refine rX rfl ?_
  refine runS_callU rfl rfl (by first | exact .v rfl rfl rfl rfl | exact .o rfl rfl rfl rfl) rfl rfl (by repeat (first | exact .nil | refine .cons (.n rfl) ?_ | refine .cons .o ?_ | refine .cons gok_and ?_)) rfl rfl rfl rfl rfl (fun _ => (d_within _ _ _)) ?_
  refine rX rfl ?_
  refine runS_ret (I := inf) 0 rfl (Nat.le_refl _) rfl .nil rfl ⟨?_, rfl⟩
  refine congrArg (fun b => Out.ret (bv b)) ?_
  simp only [inR, isEmptyB, emptyB, blL]
  rw [Bool.eq_iff_iff]
  cases v <;> (simp [-List.length_eq_zero_iff] <;> first | omega | (simp only [decide_eq_true_eq]; omega) | (rw [decide_eq_true_iff]; omega) | (erw [decide_eq_true_iff]; omega) | (erw [decide_eq_true_iff, decide_eq_true_iff]; omega))
theorem rules_2 (t : Typ) : CallT Tryz.prog 157 [.agg (typE t)] [] (fun o A => o = .ret (bv (t.p == 0 && t.q == 0 && inR t.n 0 250 && t.pic.isEmpty)) ∧ A = []) := by
  obtain ⟨k, p, q, n, v, pic⟩ := t
  refine callS_body (n := 21) rfl rfl fun w ρ X => ?_
  refine rX rfl ?_
  refine runS_callU rfl rfl (by first | exact .v rfl rfl rfl rfl | exact .o rfl rfl rfl rfl) rfl rfl (by repeat (first | exact .nil | refine .cons (.n rfl) ?_ | refine .cons .o ?_ | refine .cons gok_and ?_)) rfl rfl rfl rfl rfl (fun _ => (d_within _ _ _)) ?_
  refine rX rfl ?_
  refine runS_ret (I := inf) 0 rfl (Nat.le_refl _) rfl .nil rfl ⟨?_, rfl⟩
  refine congrArg (fun b => Out.ret (bv b)) ?_
  simp only [inR, isEmptyB, emptyB, blL]
  rw [Bool.eq_iff_iff]
  simp [-List.length_eq_zero_iff] <;> first | omega | (simp only [decide_eq_true_eq]; omega) | (rw [decide_eq_true_iff]; omega) | (erw [decide_eq_true_iff]; omega) | (erw [decide_eq_true_iff, decide_eq_true_iff]; omega)
theorem rules_3 (t : Typ) : CallT Tryz.prog 158 [.agg (typE t)] [] (fun o A => o = .ret (bv (t.p == 0 && t.q == 0 && t.n == 0 && !t.vary && t.pic.isEmpty)) ∧ A = []) := by
  obtain ⟨k, p, q, n, v, pic⟩ := t
  refine callS_body (n := 8) rfl rfl fun w ρ X => ?_
  refine rX rfl ?_
  refine runS_ret (I := inf) 0 rfl (Nat.le_refl _) rfl .nil rfl ⟨?_, rfl⟩
  refine congrArg (fun b => Out.ret (bv b)) ?_
  simp only [inR, isEmptyB, emptyB, blL]
  rw [Bool.eq_iff_iff]
  cases v <;> (simp [-List.length_eq_zero_iff] <;> first | omega | (simp only [decide_eq_true_eq]; omega) | (rw [decide_eq_true_iff]; omega) | (erw [decide_eq_true_iff]; omega) | (erw [decide_eq_true_iff, decide_eq_true_iff]; omega))
theorem rules_4 (t : Typ) : CallT Tryz.prog 159 [.agg (typE t)] [] (fun o A => o = .ret (bv (t.p == 0 && t.q == 0 && t.n == 0 && !t.vary && decide (1 ≤ t.pic.length) && decide (t.pic.length ≤ 80))) ∧ A = []) := by
  obtain ⟨k, p, q, n, v, pic⟩ := t
  refine callS_body (n := 16) rfl rfl fun w ρ X => ?_
  refine rX rfl ?_
  refine runS_call rfl rfl rfl rfl rfl rfl rfl (d_within _ _ _) ?_
  refine rX rfl ?_
  refine runS_ret (I := inf) 0 rfl (Nat.le_refl _) rfl .nil rfl ⟨?_, rfl⟩
  refine congrArg (fun b => Out.ret (bv b)) ?_
  simp only [inR, isEmptyB, emptyB, blL]
  rw [Bool.eq_iff_iff]
  cases v <;> (simp [-List.length_eq_zero_iff] <;> first | omega | (simp only [decide_eq_true_eq]; omega) | (rw [decide_eq_true_iff]; omega) | (erw [decide_eq_true_iff]; omega) | (erw [decide_eq_true_iff, decide_eq_true_iff]; omega))
theorem rules_5 (t : Typ) : CallT Tryz.prog 160 [.agg (typE t)] [] (fun o A => o = .ret (bv false) ∧ A = []) := by
  refine callS_body (n := 3) rfl rfl fun w ρ X => ?_
  refine rX rfl ?_
  refine runS_ret (I := inf) 0 rfl (Nat.le_refl _) rfl .nil rfl ⟨?_, rfl⟩
  rfl
abbrev fnA (g : Nat) (caps : List AV) : AV := .fn (.func g) caps
abbrev cel (n : Int) : AV := .loc [iv n] 0
theorem rules_mk (a b : Int) : CallT Tryz.prog 155 [iv a, iv b] [] (fun o A => o = .ret (fnA 156 [cel a, cel b]) ∧ A = []) := by
  refine callS_body (n := 6) rfl rfl fun w ρ X => ?_
  refine rX rfl ?_
  refine runS_freezeBox 0 rfl rfl rfl ?_
  refine runS_freezeBox 1 rfl rfl rfl ?_
  refine runS_drop 0 (Nat.zero_le _) rfl (by repeat (first | exact .nil | refine .row (fun j hj => rfl) ?_ | refine .box rfl ?_ | refine .fam (fun k j hk hj => rfl) ?_ | refine .loop (scrub_under _ _) ?_ | refine .dfr ?_ | refine .gone ?_ | refine .map (fun p hp => by (obtain ⟨k, _, rfl⟩ := List.mem_map.1 hp; rfl)) ?_)) rfl rfl rfl (by repeat (first | exact .nil | refine .cons rfl rfl rfl (scrub_under _ _) ?_)) ?_
  refine runS_ret (I := inf) 0 rfl (Nat.le_refl _) rfl .nil rfl ⟨?_, rfl⟩
  rfl
def ruleA : Nat → AV
  | 0 => fnA 160 []
  | 1 => fnA 156 [cel 31, cel 31]
  | 2 => fnA 156 [cel 15, cel 31]
  | 3 => fnA 156 [cel 15, cel 0]
  | 4 => fnA 157 []
  | 5 => fnA 157 []
  | 6 => fnA 159 []
  | _ => fnA 158 []
def ruleR : Nat → List AV := fun i => [ruleA i]
def rulesS : AV := .slc 1 none 10 ruleR
theorem d_rules : CallT Tryz.prog 85 [] [] (fun o A => o = .ret rulesS ∧ A = []) := by
  refine callS_body (n := 20) rfl rfl fun w ρ X => ?_
  refine rX rfl ?_
  refine runS_call rfl rfl rfl rfl rfl rfl rfl (rules_mk 31 31) ?_
  refine rX rfl ?_
  refine runS_call rfl rfl rfl rfl rfl rfl rfl (rules_mk 15 31) ?_
  refine rX rfl ?_
  refine runS_call rfl rfl rfl rfl rfl rfl rfl (rules_mk 15 0) ?_
  refine rX rfl ?_
  refine runS_tell 0 ruleR rfl (m' := 10) rfl ?_ rfl ?_
  · intro i hi
    rcases i with _ | _ | _ | _ | _ | _ | _ | _ | _ | _ | i <;> first | rfl | omega
  refine runS_freeze 0 rfl rfl rfl (fun i hi => ?_) ?_
  · rcases i with _ | _ | _ | _ | _ | _ | _ | _ | _ | _ | i <;> first | rfl | omega
  refine runS_drop 0 (Nat.zero_le _) rfl (by repeat (first | exact .nil | refine .row (fun j hj => rfl) ?_ | refine .box rfl ?_ | refine .fam (fun k j hk hj => rfl) ?_ | refine .loop (scrub_under _ _) ?_ | refine .dfr ?_ | refine .gone ?_ | refine .map (fun p hp => by (obtain ⟨k, _, rfl⟩ := List.mem_map.1 hp; rfl)) ?_)) rfl rfl rfl (by repeat (first | exact .nil | refine .cons rfl rfl rfl (scrub_under _ _) ?_)) ?_
  refine runS_ret (I := inf) 0 rfl (Nat.le_refl _) rfl .nil rfl ⟨?_, rfl⟩
  rfl
theorem d_valid (t : Typ) : CallT Tryz.prog 31 [.agg (typE t)] [] (fun o A => o = .ret (bv (validT t)) ∧ A = []) := by
  by_cases hk : 0 ≤ t.kind ∧ t.kind ≤ 9
  · obtain ⟨k, p, q, n, v, pic⟩ := t
    dsimp only at hk
    have : k = 0 ∨ k = 1 ∨ k = 2 ∨ k = 3 ∨ k = 4 ∨ k = 5 ∨ k = 6 ∨ k = 7 ∨ k = 8 ∨ k = 9 := by omega
    rcases this with rfl | rfl | rfl | rfl | rfl | rfl | rfl | rfl | rfl | rfl
    · refine callS_body (n := 20) rfl rfl fun w ρ X => ?_
      refine rX rfl ?_
      refine runS_call rfl rfl rfl rfl rfl rfl rfl d_rules ?_
      refine rX rfl ?_
      refine runS_draw 15 (by kernel_rfl) (lexj_x (I := inf) (J := jnf) 99 rfl rfl ob0 (lexj_call rfl rfl rfl rfl rfl rfl rfl rfl (d_within _ _ _) (lexj_x (I := inf) (J := jnf) 99 rfl rfl ob0 (lexj_callU rfl rfl (by first | exact .v rfl rfl rfl rfl | exact .o rfl rfl rfl rfl) rfl rfl (by repeat (first | exact .nil | refine .cons (.n rfl) ?_ | refine .cons .o ?_ | refine .cons gok_and ?_)) rfl rfl rfl rfl rfl (fun hcond => (rules_5 _)) (lexj_x (I := inf) (J := jnf) 99 rfl rfl ob0 lexj_nil))))) ?_
      refine rX rfl ?_
      refine runS_ret (I := inf) 0 rfl (Nat.le_refl _) rfl .nil rfl ⟨?_, rfl⟩
      rfl
    · refine callS_body (n := 20) rfl rfl fun w ρ X => ?_
      refine rX rfl ?_
      refine runS_call rfl rfl rfl rfl rfl rfl rfl d_rules ?_
      refine rX rfl ?_
      refine runS_draw 15 (by kernel_rfl) (lexj_x (I := inf) (J := jnf) 99 rfl rfl ob0 (lexj_call rfl rfl rfl rfl rfl rfl rfl rfl (d_within _ _ _) (lexj_x (I := inf) (J := jnf) 99 rfl rfl ob0 (lexj_callU rfl rfl (by first | exact .v rfl rfl rfl rfl | exact .o rfl rfl rfl rfl) rfl rfl (by repeat (first | exact .nil | refine .cons (.n rfl) ?_ | refine .cons .o ?_ | refine .cons gok_and ?_)) rfl rfl rfl rfl rfl (fun hcond => (rules_1 31 31 _)) (lexj_x (I := inf) (J := jnf) 99 rfl rfl ob0 lexj_nil))))) ?_
      refine rX rfl ?_
      refine runS_ret (I := inf) 0 rfl (Nat.le_refl _) rfl .nil rfl ⟨?_, rfl⟩
      rfl
    · refine callS_body (n := 20) rfl rfl fun w ρ X => ?_
      refine rX rfl ?_
      refine runS_call rfl rfl rfl rfl rfl rfl rfl d_rules ?_
      refine rX rfl ?_
      refine runS_draw 15 (by kernel_rfl) (lexj_x (I := inf) (J := jnf) 99 rfl rfl ob0 (lexj_call rfl rfl rfl rfl rfl rfl rfl rfl (d_within _ _ _) (lexj_x (I := inf) (J := jnf) 99 rfl rfl ob0 (lexj_callU rfl rfl (by first | exact .v rfl rfl rfl rfl | exact .o rfl rfl rfl rfl) rfl rfl (by repeat (first | exact .nil | refine .cons (.n rfl) ?_ | refine .cons .o ?_ | refine .cons gok_and ?_)) rfl rfl rfl rfl rfl (fun hcond => (rules_1 15 31 _)) (lexj_x (I := inf) (J := jnf) 99 rfl rfl ob0 lexj_nil))))) ?_
      refine rX rfl ?_
      refine runS_ret (I := inf) 0 rfl (Nat.le_refl _) rfl .nil rfl ⟨?_, rfl⟩
      rfl
    · refine callS_body (n := 20) rfl rfl fun w ρ X => ?_
      refine rX rfl ?_
      refine runS_call rfl rfl rfl rfl rfl rfl rfl d_rules ?_
      refine rX rfl ?_
      refine runS_draw 15 (by kernel_rfl) (lexj_x (I := inf) (J := jnf) 99 rfl rfl ob0 (lexj_call rfl rfl rfl rfl rfl rfl rfl rfl (d_within _ _ _) (lexj_x (I := inf) (J := jnf) 99 rfl rfl ob0 (lexj_callU rfl rfl (by first | exact .v rfl rfl rfl rfl | exact .o rfl rfl rfl rfl) rfl rfl (by repeat (first | exact .nil | refine .cons (.n rfl) ?_ | refine .cons .o ?_ | refine .cons gok_and ?_)) rfl rfl rfl rfl rfl (fun hcond => (rules_1 15 0 _)) (lexj_x (I := inf) (J := jnf) 99 rfl rfl ob0 lexj_nil))))) ?_
      refine rX rfl ?_
      refine runS_ret (I := inf) 0 rfl (Nat.le_refl _) rfl .nil rfl ⟨?_, rfl⟩
      refine congrArg (fun b => Out.ret (bv b)) ?_
      show (if true = true then _ else false) = _
      rw [if_pos rfl]
      simp only [validT, inR]
      rw [Bool.eq_iff_iff]
      simp
      omega
    · refine callS_body (n := 20) rfl rfl fun w ρ X => ?_
      refine rX rfl ?_
      refine runS_call rfl rfl rfl rfl rfl rfl rfl d_rules ?_
      refine rX rfl ?_
      refine runS_draw 15 (by kernel_rfl) (lexj_x (I := inf) (J := jnf) 99 rfl rfl ob0 (lexj_call rfl rfl rfl rfl rfl rfl rfl rfl (d_within _ _ _) (lexj_x (I := inf) (J := jnf) 99 rfl rfl ob0 (lexj_callU rfl rfl (by first | exact .v rfl rfl rfl rfl | exact .o rfl rfl rfl rfl) rfl rfl (by repeat (first | exact .nil | refine .cons (.n rfl) ?_ | refine .cons .o ?_ | refine .cons gok_and ?_)) rfl rfl rfl rfl rfl (fun hcond => (rules_2 _)) (lexj_x (I := inf) (J := jnf) 99 rfl rfl ob0 lexj_nil))))) ?_
      refine rX rfl ?_
      refine runS_ret (I := inf) 0 rfl (Nat.le_refl _) rfl .nil rfl ⟨?_, rfl⟩
      rfl
    · refine callS_body (n := 20) rfl rfl fun w ρ X => ?_
      refine rX rfl ?_
      refine runS_call rfl rfl rfl rfl rfl rfl rfl d_rules ?_
      refine rX rfl ?_
      refine runS_draw 15 (by kernel_rfl) (lexj_x (I := inf) (J := jnf) 99 rfl rfl ob0 (lexj_call rfl rfl rfl rfl rfl rfl rfl rfl (d_within _ _ _) (lexj_x (I := inf) (J := jnf) 99 rfl rfl ob0 (lexj_callU rfl rfl (by first | exact .v rfl rfl rfl rfl | exact .o rfl rfl rfl rfl) rfl rfl (by repeat (first | exact .nil | refine .cons (.n rfl) ?_ | refine .cons .o ?_ | refine .cons gok_and ?_)) rfl rfl rfl rfl rfl (fun hcond => (rules_2 _)) (lexj_x (I := inf) (J := jnf) 99 rfl rfl ob0 lexj_nil))))) ?_
      refine rX rfl ?_
      refine runS_ret (I := inf) 0 rfl (Nat.le_refl _) rfl .nil rfl ⟨?_, rfl⟩
      rfl
    · refine callS_body (n := 20) rfl rfl fun w ρ X => ?_
      refine rX rfl ?_
      refine runS_call rfl rfl rfl rfl rfl rfl rfl d_rules ?_
      refine rX rfl ?_
      refine runS_draw 15 (by kernel_rfl) (lexj_x (I := inf) (J := jnf) 99 rfl rfl ob0 (lexj_call rfl rfl rfl rfl rfl rfl rfl rfl (d_within _ _ _) (lexj_x (I := inf) (J := jnf) 99 rfl rfl ob0 (lexj_callU rfl rfl (by first | exact .v rfl rfl rfl rfl | exact .o rfl rfl rfl rfl) rfl rfl (by repeat (first | exact .nil | refine .cons (.n rfl) ?_ | refine .cons .o ?_ | refine .cons gok_and ?_)) rfl rfl rfl rfl rfl (fun hcond => (rules_4 _)) (lexj_x (I := inf) (J := jnf) 99 rfl rfl ob0 lexj_nil))))) ?_
      refine rX rfl ?_
      refine runS_ret (I := inf) 0 rfl (Nat.le_refl _) rfl .nil rfl ⟨?_, rfl⟩
      rfl
    · refine callS_body (n := 20) rfl rfl fun w ρ X => ?_
      refine rX rfl ?_
      refine runS_call rfl rfl rfl rfl rfl rfl rfl d_rules ?_
      refine rX rfl ?_
      refine runS_draw 15 (by kernel_rfl) (lexj_x (I := inf) (J := jnf) 99 rfl rfl ob0 (lexj_call rfl rfl rfl rfl rfl rfl rfl rfl (d_within _ _ _) (lexj_x (I := inf) (J := jnf) 99 rfl rfl ob0 (lexj_callU rfl rfl (by first | exact .v rfl rfl rfl rfl | exact .o rfl rfl rfl rfl) rfl rfl (by repeat (first | exact .nil | refine .cons (.n rfl) ?_ | refine .cons .o ?_ | refine .cons gok_and ?_)) rfl rfl rfl rfl rfl (fun hcond => (rules_3 _)) (lexj_x (I := inf) (J := jnf) 99 rfl rfl ob0 lexj_nil))))) ?_
      refine rX rfl ?_
      refine runS_ret (I := inf) 0 rfl (Nat.le_refl _) rfl .nil rfl ⟨?_, rfl⟩
      rfl
    · refine callS_body (n := 20) rfl rfl fun w ρ X => ?_
      refine rX rfl ?_
      refine runS_call rfl rfl rfl rfl rfl rfl rfl d_rules ?_
      refine rX rfl ?_
      refine runS_draw 15 (by kernel_rfl) (lexj_x (I := inf) (J := jnf) 99 rfl rfl ob0 (lexj_call rfl rfl rfl rfl rfl rfl rfl rfl (d_within _ _ _) (lexj_x (I := inf) (J := jnf) 99 rfl rfl ob0 (lexj_callU rfl rfl (by first | exact .v rfl rfl rfl rfl | exact .o rfl rfl rfl rfl) rfl rfl (by repeat (first | exact .nil | refine .cons (.n rfl) ?_ | refine .cons .o ?_ | refine .cons gok_and ?_)) rfl rfl rfl rfl rfl (fun hcond => (rules_3 _)) (lexj_x (I := inf) (J := jnf) 99 rfl rfl ob0 lexj_nil))))) ?_
      refine rX rfl ?_
      refine runS_ret (I := inf) 0 rfl (Nat.le_refl _) rfl .nil rfl ⟨?_, rfl⟩
      rfl
    · refine callS_body (n := 20) rfl rfl fun w ρ X => ?_
      refine rX rfl ?_
      refine runS_call rfl rfl rfl rfl rfl rfl rfl d_rules ?_
      refine rX rfl ?_
      refine runS_draw 15 (by kernel_rfl) (lexj_x (I := inf) (J := jnf) 99 rfl rfl ob0 (lexj_call rfl rfl rfl rfl rfl rfl rfl rfl (d_within _ _ _) (lexj_x (I := inf) (J := jnf) 99 rfl rfl ob0 (lexj_callU rfl rfl (by first | exact .v rfl rfl rfl rfl | exact .o rfl rfl rfl rfl) rfl rfl (by repeat (first | exact .nil | refine .cons (.n rfl) ?_ | refine .cons .o ?_ | refine .cons gok_and ?_)) rfl rfl rfl rfl rfl (fun hcond => (rules_3 _)) (lexj_x (I := inf) (J := jnf) 99 rfl rfl ob0 lexj_nil))))) ?_
      refine rX rfl ?_
      refine runS_ret (I := inf) 0 rfl (Nat.le_refl _) rfl .nil rfl ⟨?_, rfl⟩
      rfl
  · have h0 : validT t = false := by
      cases hv : validT t with
      | false => rfl
      | true => have := valid_kind hv; omega
    rw [h0]
    obtain ⟨k, p, q, n, v, pic⟩ := t
    dsimp only at hk
    have hf : (decide (0 ≤ k) && decide (k ≤ 9)) = false := by
      cases hh : (decide (0 ≤ k) && decide (k ≤ 9)) with
      | false => rfl
      | true => simp at hh; omega
    have habs : ∀ {g : FuncId} {xs : List AV}, condOf none (decide (0 ≤ k) && decide (k ≤ 9)) true = true → CallT Tryz.prog g xs [] (fun o A => o = .ret (bv false) ∧ A = []) := fun h => by rw [hf] at h; cases h
    rcases Int.lt_or_le k 0 with h | h
    · obtain ⟨m, rfl⟩ : ∃ m, k = Int.negSucc m := ⟨(-k - 1).toNat, by omega⟩
      refine callS_body (n := 20) rfl rfl fun w ρ X => ?_
      refine rX rfl ?_
      refine runS_call rfl rfl rfl rfl rfl rfl rfl d_rules ?_
      refine rX rfl ?_
      refine runS_draw 15 (by kernel_rfl) (lexj_x (I := inf) (J := jnf) 99 rfl rfl ob0 (lexj_call rfl rfl rfl rfl rfl rfl rfl rfl (d_within _ _ _) (lexj_x (I := inf) (J := jnf) 99 rfl rfl ob0 (lexj_callU rfl rfl (by first | exact .v rfl rfl rfl rfl | exact .o rfl rfl rfl rfl) rfl rfl (by repeat (first | exact .nil | refine .cons (.n rfl) ?_ | refine .cons .o ?_ | refine .cons gok_and ?_)) rfl rfl rfl rfl rfl (fun hcond => (habs hcond)) (lexj_x (I := inf) (J := jnf) 99 rfl rfl ob0 lexj_nil))))) ?_
      refine rX rfl ?_
      refine runS_ret (I := inf) 0 rfl (Nat.le_refl _) rfl .nil rfl ⟨?_, rfl⟩
      show Out.ret (bv (if _ = true then false else false)) = _
      split <;> rfl
    · obtain ⟨m, rfl⟩ : ∃ m : Nat, k = ((m + 10 : Nat) : Int) := ⟨(k - 10).toNat, by omega⟩
      refine callS_body (n := 20) rfl rfl fun w ρ X => ?_
      refine rX rfl ?_
      refine runS_call rfl rfl rfl rfl rfl rfl rfl d_rules ?_
      refine rX rfl ?_
      refine runS_draw 15 (by kernel_rfl) (lexj_x (I := inf) (J := jnf) 99 rfl rfl ob0 (lexj_call rfl rfl rfl rfl rfl rfl rfl rfl (d_within _ _ _) (lexj_x (I := inf) (J := jnf) 99 rfl rfl ob0 (lexj_callU rfl rfl (by first | exact .v rfl rfl rfl rfl | exact .o rfl rfl rfl rfl) rfl rfl (by repeat (first | exact .nil | refine .cons (.n rfl) ?_ | refine .cons .o ?_ | refine .cons gok_and ?_)) rfl rfl rfl rfl rfl (fun hcond => (habs hcond)) (lexj_x (I := inf) (J := jnf) 99 rfl rfl ob0 lexj_nil))))) ?_
      refine rX rfl ?_
      refine runS_ret (I := inf) 0 rfl (Nat.le_refl _) rfl .nil rfl ⟨?_, rfl⟩
      show Out.ret (bv (if _ = true then false else false)) = _
      split <;> rfl
end Go.Iron.Tryz

/- The digits' seat: an exact number fitted to a fixed type. -/
namespace Go.Iron.Tryz
open Go.Proofs Go.RowKit Go.Iron.Tok Go.Iron.Dg

theorem and_mod (x P : Nat) (hx : x < 9223372036854775808) (hP : P ≤ 40) : IntKind.wrap .i64 (((BitVec.ofInt 64 (x : Int) &&& BitVec.ofInt 64 ((2 ^ P - 1 : Nat) : Int)).toNat : Nat) : Int) = ((x % 2 ^ P : Nat) : Int) := by
  have h2 : 2 ^ P ≤ 2 ^ 40 := Nat.pow_le_pow_right (by decide) hP
  have h3 : (2 : Nat) ^ 40 = 1099511627776 := by decide
  have hp : 0 < 2 ^ P := Nat.pow_pos (by decide)
  have hm := Nat.mod_lt x hp
  rw [BitVec.toNat_and, BitVec.ofInt_natCast, BitVec.ofInt_natCast, BitVec.toNat_ofNat, BitVec.toNat_ofNat, Nat.mod_eq_of_lt (by omega), Nat.mod_eq_of_lt (by omega), Nat.and_two_pow_sub_one_eq_mod, w64 (by omega) (by omega)]
theorem d_fixed (L : Lg) (t : Typ) (P Q : Nat) (hk : t.kind = 1 ∧ P ≤ 31 ∨ t.kind = 2 ∧ P ≤ 15) (hP : t.p = P) (hQ : t.q = Q) (hQ2 : Q ≤ 31) (hL : Fits L 1500 1000) : CallT Tryz.prog 176 [lgA L, .agg (typE t)] [] (fun o A => o = .ret (.tup [iv (sgn L.neg (mFix t.kind L.m Q L.exp % bsN t.kind ^ P)), bv (decide (mFix t.kind L.m Q L.exp ≥ bsN t.kind ^ P))]) ∧ A = []) := by
  obtain ⟨kd, p, q, n, vy, pc⟩ := t
  dsimp only at hk hP hQ ⊢
  subst hP; subst hQ
  obtain ⟨hl, he1, he2⟩ := hL
  obtain ⟨ng, hng⟩ : ∃ ng, L.neg = ng := ⟨_, rfl⟩
  rcases hk with ⟨rfl, hP⟩ | ⟨rfl, hP⟩
  · have hl2 : (frm (2 ^ Q)).length ≤ 32 := frm_len_lt.2 (Nat.lt_of_le_of_lt (Nat.pow_le_pow_left (by decide : 2 ≤ 10) Q) (Nat.pow_lt_pow_right (by decide) (by omega)))
    have hp := d_power 2 Q (by decide) (by omega)
    have ht := d_times none none L.m (2 ^ Q) (by omega) (by omega)
    have hml := frm_len_mul L.m (2 ^ Q)
    refine callS_body (n := 78) rfl rfl fun w ρ X => ?_
    refine rX rfl ?_
    refine runS_cond rfl (fun h => ?_) (fun h => by cases h)
    refine rX rfl ?_
    refine runS_call rfl rfl rfl rfl rfl rfl rfl hp ?_
    refine rX rfl ?_
    refine runS_call rfl rfl rfl rfl rfl rfl rfl ht ?_
    refine rX rfl ?_
    refine runS_cond rfl (fun h => by cases h) (fun h => ?_)
    refine rX rfl ?_
    refine runS_cut (fun τ ar => (τ 2 = .ptr 0 0 0 ∧ τ 3 = .ptr 1 0 0 ∧ τ 4 = .ptr 2 0 0 ∧ τ 5 = bv false ∧ τ 6 = limS none (frm (mFix 1 L.m Q L.exp))) ∧ ar = [.box 74 [limS none (frm L.m), bv ng, iv L.exp], .box 25 (typE ⟨1, P, Q, n, vy, pc⟩), .box 3 [iv 0]]) (fun rest => ?_) ?_
    · refine runS_cond rfl (fun h3 => ?_) (fun h3 => ?_)
      · have hlt : L.exp < 0 := of_decide_eq_true h3
        have hE : mFix 1 L.m Q L.exp = L.m * 2 ^ Q / 10 ^ (-L.exp).toNat := by unfold mFix; rw [if_pos rfl, if_pos hlt]
        have hc := d_cut none (L.m * 2 ^ Q) (-L.exp).toNat (by omega) (by omega)
        rw [show (((-L.exp).toNat : Nat) : Int) = IntKind.wrap .i64 (0 - L.exp) by rw [w64 (by omega) (by omega)]; omega] at hc
        rw [← hE] at hc
        refine runS_x (I := inf) (J := jnf) ⟨false, false, [], 2, 0⟩ 9999 rfl ob1 ?_
        refine runS_call rfl rfl rfl rfl rfl rfl rfl hc ?_
        refine runS_x (I := inf) (J := jnf) ⟨false, false, [], 2, 0⟩ 9999 rfl ob1 ?_
        exact rest _ _ ⟨⟨rfl, rfl, rfl, rfl, rfl⟩, by rw [← hng]⟩
      · have hlt : ¬ L.exp < 0 := of_decide_eq_false h3
        have hE : mFix 1 L.m Q L.exp = L.m * 2 ^ Q * 10 ^ L.exp.toNat := by unfold mFix; rw [if_pos rfl, if_neg hlt]
        have hc := d_up none (L.m * 2 ^ Q) L.exp.toNat (by omega) (by omega)
        rw [show ((L.exp.toNat : Nat) : Int) = L.exp by omega] at hc
        rw [← hE] at hc
        refine runS_x (I := inf) (J := jnf) ⟨false, false, [], 2, 0⟩ 9999 rfl ob1 ?_
        refine runS_call rfl rfl rfl rfl rfl rfl rfl hc ?_
        refine runS_x (I := inf) (J := jnf) ⟨false, false, [], 2, 0⟩ 9999 rfl ob1 ?_
        exact rest _ _ ⟨⟨rfl, rfl, rfl, rfl, rfl⟩, by rw [← hng]⟩
    rintro τ2 ar2 ⟨⟨g2, g3, g4, g5, g6⟩, rfl⟩
    have hml2 : (frm (mFix 1 L.m Q L.exp)).length ≤ 4000 := by
      unfold mFix
      rw [if_pos rfl]
      split
      · exact Nat.le_trans (frm_len_mono (Nat.div_le_self _ _)) (by omega)
      · have := frm_len_up (L.m * 2 ^ Q) L.exp.toNat
        omega
    have hpl : (frm (2 ^ P)).length ≤ 32 := frm_len_lt.2 (Nat.lt_of_le_of_lt (Nat.pow_le_pow_left (by decide : 2 ≤ 10) P) (Nat.pow_lt_pow_right (by decide) (by omega)))
    generalize mFix 1 L.m Q L.exp = M at *
    have hvM := val_frm M
    have hdM := fun d (hd : d ∈ frm M) => frm_digit hd
    have hpp := d_power 2 P (by decide) (by omega)
    have hcp := d_compare none none M (2 ^ P) (by omega) (by omega)
    have hcm := cmpR_frm M (2 ^ P)
    have hlarge : decide (cmpR (frm M) (frm (2 ^ P)) ≥ 0) = decide (M ≥ bsN 1 ^ P) := by
      rw [Bool.eq_iff_iff, decide_eq_true_iff, decide_eq_true_iff]
      show _ ↔ M ≥ 2 ^ P
      omega
    have hp40 : 2 ^ P ≤ 2 ^ 31 := Nat.pow_le_pow_right (by decide) hP
    have hp31 : (2 : Nat) ^ 31 = 2147483648 := by decide
    have hpos : 0 < 2 ^ P := Nat.pow_pos (by decide)
    refine runS_says 2 (by exact g2) (Says.refl _) ?_; refine runS_says 3 (by exact g3) (Says.refl _) ?_; refine runS_says 4 (by exact g4) (Says.refl _) ?_; refine runS_says 5 (by exact g5) (Says.refl _) ?_; refine runS_says 6 (by exact g6) (Says.refl _) ?_
    refine rX rfl ?_
    refine runS_cond rfl (fun h => by cases h) (fun h => ?_)
    refine rX rfl ?_
    refine runS_call rfl rfl rfl rfl rfl rfl rfl hpp ?_
    refine rX rfl ?_
    refine runS_call rfl rfl rfl rfl rfl rfl rfl hcp ?_
    generalize hAe : frm M = A at *
    have hw0 : IntKind.wrap .i64 ((A.length : Int) - 1) = (A.length : Int) - 1 := w64 (by omega) (by omega)
    refine runS_x (I := inf) (J := jnf) ⟨false, false, [117, 186], 0, 0⟩ 9999 rfl ob1 ?_
    refine runS_forget 6 rfl ?_; refine runS_forgetLoop 6 5 rfl rfl ?_
    refine runS_name 5 rfl (fun L => rfl) (fun Lo hL => ?_)
    refine runS_while (fun (i : Nat) τ ar => (τ 0 = .yld 5 ∧ τ 1 = .ptr 3 0 0 ∧ τ 3 = iv ((i : Int) - 1)) ∧ ar = [.box 74 [limS none (frm L.m), bv ng, iv L.exp], .box 25 (typE ⟨1, P, Q, n, vy, pc⟩), .box 3 [iv (val (A.drop i) % 2 ^ P : Nat)], .box 72 [limS none A], .dfr true, Lo] ∧ i ≤ A.length) (fun i => i) A.length ⟨⟨rfl, rfl, congrArg iv hw0⟩, by rw [List.drop_length, show val [] % 2 ^ P = 0 from Nat.zero_mod _]; rfl, Nat.le_refl _⟩ ?_
    rintro i τ' ar' ⟨⟨g0, g1, g3⟩, rfl, hi⟩ ih
    subst hL
    refine runS_says 0 (by exact g0) (Says.refl _) ?_; refine runS_says 1 (by exact g1) (Says.refl _) ?_; refine runS_says 3 (by exact g3) (Says.refl _) ?_
    refine rX rfl ?_
    refine runS_cond rfl (fun h => ?_) (fun h => ?_)
    · have hi0 : 0 < i := by
        have : decide ((i : Int) - 1 ≥ 0) = true := h
        simp at this
        omega
      obtain ⟨k, rfl⟩ : ∃ k, i = k + 1 := ⟨i - 1, by omega⟩
      have hk : k < A.length := by omega
      have e1 : (((k + 1 : Nat) : Int) - 1) = (k : Int) := by omega
      rw [e1] at g3 ⊢
      have hwk : IntKind.wrap .i64 ((k : Int) - 1) = (k : Int) - 1 := w64 (by omega) (by omega)
      have hv := val_drop A k
      have hd9 := getD_lt hdM k
      have hvb := Nat.mod_lt (val (A.drop (k + 1))) hpos
      have hstep : val (A.drop k) % 2 ^ P = (val (A.drop (k + 1)) % 2 ^ P * 10 + A.getD k 0) % 2 ^ P := by
        rw [hv, Nat.add_comm, Nat.mul_comm 10, Nat.add_mod, Nat.mul_mod]
        conv => rhs; rw [Nat.add_mod, Nat.mul_mod, Nat.mod_mod]
      generalize val (A.drop (k + 1)) % 2 ^ P = v at *
      have hx : IntKind.wrap .i64 (IntKind.wrap .i64 ((v : Int) * 10) + IntKind.wrap .i64 ((A.getD k 0 : Nat) : Int)) = ((v * 10 + A.getD k 0 : Nat) : Int) := by
        rw [w64 (x := (v : Int) * 10) (by omega) (by omega), w64 (x := ((A.getD k 0 : Nat) : Int)) (by omega) (by omega), w64 (by omega) (by omega)]
        omega
      have hy : IntKind.wrap .i64 (IntKind.wrap .i64 (1 * 2 ^ (min ((P : Int)).toNat 64)) - 1) = ((2 ^ P - 1 : Nat) : Int) := by
        rw [Int.toNat_natCast, Nat.min_eq_left (by omega), Int.one_mul]
        have e : (2 : Int) ^ P = ((2 ^ P : Nat) : Int) := by rw [Int.natCast_pow]; rfl
        rw [e, w64 (x := ((2 ^ P : Nat) : Int)) (by omega) (by omega), w64 (by omega) (by omega)]
        omega
      have hev : IntKind.wrap .i64 (((BitVec.ofInt 64 (IntKind.wrap .i64 (IntKind.wrap .i64 ((v : Int) * 10) + IntKind.wrap .i64 ((A.getD k 0 : Nat) : Int))) &&& BitVec.ofInt 64 (IntKind.wrap .i64 (IntKind.wrap .i64 (1 * 2 ^ (min ((P : Int)).toNat 64)) - 1))).toNat : Nat) : Int) = ((val (A.drop k) % 2 ^ P : Nat) : Int) := by
        rw [hx, hy, hstep]
        exact and_mod _ _ (by omega) (by omega)
      refine runS_x (I := inf) (J := jnf) ⟨true, false, [], 0, 0⟩ 9999 rfl (by repeat (first | exact obs_nil | refine obs_draw (by kernel_rfl) ?_ | refine obs_same ?_ | refine obs_and ?_ | refine obs_by (by (simp [inB, hk] <;> omega)) ?_)) ?_
      refine runS_drop 6 (Nat.zero_le _) rfl (by repeat (first | exact .nil | refine .row (fun j hj => rfl) ?_ | refine .box rfl ?_ | refine .fam (fun k j hk hj => rfl) ?_ | refine .loop (scrub_under _ _) ?_ | refine .dfr ?_ | refine .gone ?_ | refine .map (fun p hp => by (obtain ⟨k, _, rfl⟩ := List.mem_map.1 hp; rfl)) ?_)) rfl rfl rfl (by repeat (first | exact .nil | refine .cons rfl rfl rfl (scrub_under _ _) ?_)) ?_
      exact ih k _ _ (by omega) ⟨⟨rfl, rfl, congrArg iv hwk⟩, by rw [← hev]; rfl, by omega⟩
    · have hi0 : i = 0 := by
        have : decide ((i : Int) - 1 ≥ 0) = false := h
        simp at this
        omega
      subst hi0
      rw [List.drop_zero, hvM, hng]
      have hmr := Nat.mod_lt M hpos
      cases ng
      · refine runS_x (I := inf) (J := jnf) ⟨true, false, [], 0, 0⟩ 9999 rfl ob1 ?_
        refine runS_ret (I := inf) 0 rfl (Nat.le_refl _) rfl .nil rfl ⟨?_, rfl⟩
        rw [← hlarge]
        rfl
      · refine runS_x (I := inf) (J := jnf) ⟨true, false, [], 0, 0⟩ 9999 rfl ob1 ?_
        refine runS_ret (I := inf) 0 rfl (Nat.le_refl _) rfl .nil rfl ⟨?_, rfl⟩
        rw [← hlarge]
        show Out.ret (.tup [iv (IntKind.wrap .i64 (0 - ((M % 2 ^ P : Nat) : Int))), bv _]) = _
        rw [w64 (by omega) (by omega), Int.zero_sub]
        rfl
  · have hsw : IntKind.wrap .i64 (L.exp + (Q : Int)) = L.exp + Q := w64 (by omega) (by omega)
    refine callS_body (n := 78) rfl rfl fun w ρ X => ?_
    refine rX rfl ?_
    refine runS_cond rfl (fun h => by cases h) (fun h => ?_)
    refine rX rfl ?_
    refine runS_cond rfl (fun h => ?_) (fun h => by cases h)
    refine rX rfl ?_
    refine runS_cut (fun τ ar => (τ 2 = .ptr 0 0 0 ∧ τ 3 = .ptr 1 0 0 ∧ τ 4 = .ptr 2 0 0 ∧ τ 5 = bv false ∧ τ 6 = limS none (frm (mFix 2 L.m Q L.exp))) ∧ ar = [.box 74 [limS none (frm L.m), bv ng, iv L.exp], .box 25 (typE ⟨2, P, Q, n, vy, pc⟩), .box 3 [iv 0]]) (fun rest => ?_) ?_
    · refine runS_cond rfl (fun h3 => ?_) (fun h3 => ?_)
      · have hlt : L.exp + Q < 0 := by
          have := of_decide_eq_true h3
          rw [hsw] at this
          exact this
        have hE : mFix 2 L.m Q L.exp = L.m / 10 ^ (-(L.exp + Q)).toNat := by unfold mFix; rw [if_neg (by decide), if_pos hlt]
        have hc := d_cut none L.m (-(L.exp + Q)).toNat (by omega) (by omega)
        rw [show (((-(L.exp + Q)).toNat : Nat) : Int) = IntKind.wrap .i64 (0 - IntKind.wrap .i64 (L.exp + (Q : Int))) by rw [hsw, w64 (by omega) (by omega)]; omega, ← hE] at hc
        refine runS_x (I := inf) (J := jnf) ⟨false, false, [], 2, 0⟩ 9999 rfl ob1 ?_
        refine runS_call rfl rfl rfl rfl rfl rfl rfl hc ?_
        refine runS_x (I := inf) (J := jnf) ⟨false, false, [], 2, 0⟩ 9999 rfl ob1 ?_
        exact rest _ _ ⟨⟨rfl, rfl, rfl, rfl, rfl⟩, by rw [← hng]⟩
      · have hlt : ¬ L.exp + Q < 0 := by
          have := of_decide_eq_false h3
          rw [hsw] at this
          exact this
        have hE : mFix 2 L.m Q L.exp = L.m * 10 ^ (L.exp + Q).toNat := by unfold mFix; rw [if_neg (by decide), if_neg hlt]
        have hc := d_up none L.m (L.exp + Q).toNat (by omega) (by omega)
        rw [show (((L.exp + Q).toNat : Nat) : Int) = IntKind.wrap .i64 (L.exp + (Q : Int)) by rw [hsw]; omega, ← hE] at hc
        refine runS_x (I := inf) (J := jnf) ⟨false, false, [], 2, 0⟩ 9999 rfl ob1 ?_
        refine runS_call rfl rfl rfl rfl rfl rfl rfl hc ?_
        refine runS_x (I := inf) (J := jnf) ⟨false, false, [], 2, 0⟩ 9999 rfl ob1 ?_
        exact rest _ _ ⟨⟨rfl, rfl, rfl, rfl, rfl⟩, by rw [← hng]⟩
    rintro τ2 ar2 ⟨⟨g2, g3, g4, g5, g6⟩, rfl⟩
    have hml2 : (frm (mFix 2 L.m Q L.exp)).length ≤ 4000 := by
      unfold mFix
      rw [if_neg (by decide)]
      split
      · exact Nat.le_trans (frm_len_mono (Nat.div_le_self _ _)) (by omega)
      · have := frm_len_up L.m (L.exp + Q).toNat
        omega
    generalize mFix 2 L.m Q L.exp = M at *
    have hlow := frm_low P M
    have hlt2 := frm_len_lt (n := M) (k := P)
    have hpos : 0 < 10 ^ P := Nat.pow_pos (by decide)
    have hmr := Nat.mod_lt M hpos
    have hp15 : 10 ^ P ≤ 10 ^ 15 := Nat.pow_le_pow_right (by decide) hP
    have hp15' : (10 : Nat) ^ 15 = 1000000000000000 := by decide
    have hdM := fun d (hd : d ∈ frm M) => frm_digit hd
    have hlarge : decide (((frm M).length : Int) > (P : Int)) = decide (M ≥ bsN 2 ^ P) := by
      rw [Bool.eq_iff_iff, decide_eq_true_iff, decide_eq_true_iff]
      show _ ↔ M ≥ 10 ^ P
      omega
    generalize hAe : frm M = A at *
    have hmn : (if (P : Int) < (A.length : Int) then (P : Int) else (A.length : Int)) = ((min P A.length : Nat) : Int) := by split <;> omega
    have htl : (A.take P).length = min P A.length := List.length_take
    refine runS_says 2 (by exact g2) (Says.refl _) ?_; refine runS_says 3 (by exact g3) (Says.refl _) ?_; refine runS_says 4 (by exact g4) (Says.refl _) ?_; refine runS_says 5 (by exact g5) (Says.refl _) ?_; refine runS_says 6 (by exact g6) (Says.refl _) ?_
    refine rX rfl ?_
    refine runS_cond rfl (fun h => ?_) (fun h => by cases h)
    refine runS_x (I := inf) (J := jnf) ⟨false, false, [], 0, 0⟩ 9999 rfl (by repeat (first | exact obs_nil | refine obs_draw (by kernel_rfl) ?_ | refine obs_same ?_ | refine obs_and ?_ | refine obs_by (by (simp [inB, hmn] <;> omega)) ?_)) ?_
    refine runS_says 51 (y := limS none (A.take P)) rfl (fun w O ρ v h => says_nl w O ρ v (says_slc (by rw [htl, hmn]; simp) (fun i hi => ?_) w O ρ v h)) ?_
    · refine Eq.trans (limR_take (Nat.lt_of_lt_of_le hi ?_)) (congrArg (limR A) (Nat.zero_add i).symm)
      show ((if (P : Int) < (A.length : Int) then (P : Int) else (A.length : Int)) - 0).toNat ≤ P
      rw [hmn]
      omega
    refine runS_call rfl rfl rfl rfl rfl rfl rfl (d_numL none (A.take P) (by omega) (fun d hd => hdM d (List.mem_of_mem_take hd))) ?_
    rw [hlow, hng]
    refine rX rfl ?_
    cases ng
    · refine runS_x (I := inf) (J := jnf) ⟨true, false, [], 0, 0⟩ 9999 rfl ob1 ?_
      refine runS_ret (I := inf) 0 rfl (Nat.le_refl _) rfl .nil rfl ⟨?_, rfl⟩
      rw [← hlarge]
      rfl
    · refine runS_x (I := inf) (J := jnf) ⟨true, false, [], 0, 0⟩ 9999 rfl ob1 ?_
      refine runS_ret (I := inf) 0 rfl (Nat.le_refl _) rfl .nil rfl ⟨?_, rfl⟩
      rw [← hlarge]
      show Out.ret (.tup [iv (IntKind.wrap .i64 (0 - ((M % 10 ^ P : Nat) : Int))), bv _]) = _
      rw [w64 (by omega) (by omega), Int.zero_sub]
      rfl
end Go.Iron.Tryz

/- The digits' seat: an exact number fitted to a float, and to any type of numbers. -/
namespace Go.Iron.Tryz
open Go.Proofs Go.RowKit Go.Iron.Tok Go.Iron.Dg

theorem frm_getD (m j : Nat) : (frm m).getD j 0 = m / 10 ^ j % 10 := by
  have h := frm_cut j m
  have h2 : (frm m).getD j 0 = ((frm m).drop j).getD 0 0 := by simp [List.getD_eq_getElem?_getD]
  rw [h2, h]
  by_cases h0 : m / 10 ^ j = 0
  · rw [h0, frm_zero]; rfl
  · rw [frm_pos h0]; rfl
abbrev numA (kd : Int) (r : Int × Int × Int) : AV := .tup [.agg [iv kd, iv r.1, iv r.2.1, sv []], iv r.2.2]
theorem d_float (L : Lg) (p : Nat) (hp : p ≤ 15) (hp0 : 1 ≤ p) (hL : Fits L 1500 1000) : CallT Tryz.prog 175 [lgA L, iv p] [] (fun o A => o = .ret (numA 3 (fltO L.neg (fltL L.m L.exp p))) ∧ A = []) := by
  obtain ⟨hl, he1, he2⟩ := hL
  obtain ⟨ng, hng⟩ : ∃ ng, L.neg = ng := ⟨_, rfl⟩
  have hfl : ∃ m1 e1, normD m1 e1 = fltL L.m L.exp p ∧ m1 ≤ 1000000000000000 ∧ -1000 ≤ e1 ∧ e1 ≤ 3000 ∧ (if (frm L.m).length > p then m1 = rndD (L.m / 10 ^ ((frm L.m).length - p - 1)) ∧ e1 = L.exp + ((frm L.m).length - p : Nat) else m1 = L.m ∧ e1 = L.exp) := by
    unfold fltL
    have h15 : 10 ^ p ≤ 10 ^ 15 := Nat.pow_le_pow_right (by decide) hp
    have h15' : (10 : Nat) ^ 15 = 1000000000000000 := by decide
    by_cases hc : (frm L.m).length > p
    · rw [if_pos hc]
      refine ⟨_, _, rfl, ?_, by omega, by omega, by rw [if_pos hc]; exact ⟨rfl, rfl⟩⟩
      have h1 : L.m / 10 ^ ((frm L.m).length - p - 1) < 10 ^ (p + 1) := by
        rw [Nat.div_lt_iff_lt_mul (Nat.pow_pos (by decide)), ← Nat.pow_add]
        have := frm_lt_pow L.m
        rw [show p + 1 + ((frm L.m).length - p - 1) = (frm L.m).length by omega]
        exact this
      unfold rndD
      rw [Nat.pow_succ] at h1
      split <;> omega
    · rw [if_neg hc]
      refine ⟨_, _, rfl, ?_, by omega, by omega, by rw [if_neg hc]; exact ⟨rfl, rfl⟩⟩
      have := frm_len_lt.1 (show (frm L.m).length ≤ p by omega)
      omega
  obtain ⟨m1, e1, hfn, hm1, hb1, hb2, hcase⟩ := hfl
  rw [← hfn, hng]
  have hwk : IntKind.wrap .i64 (((frm L.m).length : Int) - (p : Int)) = ((frm L.m).length : Int) - p := w64 (by omega) (by omega)
  refine callS_body (n := 87) rfl rfl fun w ρ X => ?_
  refine rX rfl ?_
  refine runS_cut (fun τ ar => (τ 2 = .ptr 0 0 0 ∧ τ 4 = .ptr 1 0 0 ∧ τ 6 = limS none (frm m1) ∧ τ 7 = iv e1) ∧ ar = [.box 74 [limS none (frm L.m), bv ng, iv L.exp], .box 23 [iv 0, iv 0, iv 0, sv []]]) (fun rest => ?_) ?_
  · refine runS_cond rfl (fun h => ?_) (fun h => ?_)
    · have hc : (frm L.m).length > p := by
        have := of_decide_eq_true h
        rw [hwk] at this
        omega
      rw [if_pos hc] at hcase
      obtain ⟨k, hk⟩ : ∃ k, (frm L.m).length = p + k + 1 := ⟨(frm L.m).length - p - 1, by omega⟩
      have hwk2 : IntKind.wrap .i64 (((frm L.m).length : Int) - (p : Int)) = ((k + 1 : Nat) : Int) := by rw [hwk]; omega
      have hwk3 : IntKind.wrap .i64 (((k + 1 : Nat) : Int) - 1) = (k : Int) := by rw [w64 (by omega) (by omega)]; omega
      have hkl : k < (frm L.m).length := by omega
      rw [show (frm L.m).length - p - 1 = k by omega, show (frm L.m).length - p = k + 1 by omega] at hcase
      obtain ⟨c1, c2⟩ := hcase
      have hwe : IntKind.wrap .i64 (L.exp + ((k + 1 : Nat) : Int)) = e1 := by rw [c2, w64 (by omega) (by omega)]
      have hct := d_cut none L.m (k + 1) (by omega) (by omega)
      have hgd := frm_getD L.m k
      have hdv : L.m / 10 ^ (k + 1) = L.m / 10 ^ k / 10 := by rw [Nat.pow_succ, Nat.div_div_eq_div_mul]
      unfold rndD at c1
      have hwk4 : IntKind.wrap .i64 (k : Int) = (k : Int) := w64 (by omega) (by omega)
      rw [← hwk2] at hct hwe
      have hd9 : (frm L.m).getD k 0 ≤ 9 := by rw [hgd]; omega
      refine runS_x (I := inf) (J := jnf) ⟨false, false, [], 2, 0⟩ 9999 rfl (by repeat (first | exact obs_nil | refine obs_draw (by kernel_rfl) ?_ | refine obs_same ?_ | refine obs_and ?_ | refine obs_by (by (simp [inB, hwk2, hwk3, hwk4, hkl] <;> omega)) ?_)) ?_
      refine runS_call rfl rfl rfl rfl rfl rfl rfl hct ?_
      refine runS_x (I := inf) (J := jnf) ⟨false, false, [], 2, 0⟩ 9999 rfl ob1 ?_
      refine runS_cond rfl (fun h2 => ?_) (fun h2 => ?_)
      · have h5 : L.m / 10 ^ k % 10 ≥ 5 := by
          have := of_decide_eq_true h2
          rw [hwk2, hwk3, Int.toNat_natCast, hgd] at this
          omega
        rw [if_pos h5, ← hdv] at c1
        have hcl := frm_len_mono (Nat.div_le_self L.m (10 ^ (k + 1)))
        have hpl := d_plus none none (L.m / 10 ^ (k + 1)) 1 (by omega) (by rw [frm_one]; decide)
        rw [← c1] at hpl
        refine runS_x (I := inf) (J := jnf) ⟨false, false, [], 2, 0⟩ 9999 rfl ob1 ?_
        refine runS_call rfl rfl rfl rfl rfl rfl rfl (d_of 1 (by decide)) ?_
        refine runS_x (I := inf) (J := jnf) ⟨false, false, [], 2, 0⟩ 9999 rfl ob1 ?_
        refine runS_call rfl rfl rfl rfl rfl rfl rfl hpl ?_
        refine runS_x (I := inf) (J := jnf) ⟨false, false, [], 2, 0⟩ 9999 rfl ob1 ?_
        exact rest _ _ ⟨⟨rfl, rfl, rfl, congrArg iv hwe⟩, by rw [← hng]; rfl⟩
      · have h5 : ¬ L.m / 10 ^ k % 10 ≥ 5 := by
          have := of_decide_eq_false h2
          rw [hwk2, hwk3, Int.toNat_natCast, hgd] at this
          omega
        rw [if_neg h5, ← hdv, Nat.add_zero] at c1
        refine runS_x (I := inf) (J := jnf) ⟨false, false, [], 2, 0⟩ 9999 rfl ob1 ?_
        exact rest _ _ ⟨⟨rfl, rfl, by rw [c1]; rfl, congrArg iv hwe⟩, by rw [← hng]; rfl⟩
    · have hc : ¬ (frm L.m).length > p := by
        have := of_decide_eq_false h
        rw [hwk] at this
        omega
      rw [if_neg hc] at hcase
      refine runS_x (I := inf) (J := jnf) ⟨false, false, [], 2, 0⟩ 9999 rfl ob1 ?_
      exact rest _ _ ⟨⟨rfl, rfl, by rw [hcase.1]; rfl, by rw [hcase.2]; rfl⟩, by rw [← hng]; rfl⟩
  rintro τ2 ar2 ⟨⟨g2, g4, g6, g7⟩, rfl⟩
  have hml : (frm m1).length ≤ 16 := frm_len_lt.2 (by omega)
  have hdm := fun d (hd : d ∈ frm m1) => frm_digit hd
  refine runS_says 2 (by exact g2) (Says.refl _) ?_; refine runS_says 4 (by exact g4) (Says.refl _) ?_; refine runS_says 6 (by exact g6) (Says.refl _) ?_; refine runS_says 7 (by exact g7) (Says.refl _) ?_
  refine rX rfl ?_
  refine runS_while (fun (z : Nat) τ ar => (τ 2 = .ptr 0 0 0 ∧ τ 4 = .ptr 1 0 0 ∧ τ 6 = limS none (frm m1) ∧ τ 7 = iv e1 ∧ τ 10 = iv z) ∧ ar = [.box 74 [limS none (frm L.m), bv ng, iv L.exp], .box 23 [iv 0, iv 0, iv 0, sv []]] ∧ z ≤ (frm m1).length ∧ normD m1 e1 = normD (m1 / 10 ^ z) (e1 + z)) (fun z => (frm m1).length - z) 0 ⟨⟨rfl, rfl, rfl, rfl, rfl⟩, rfl, Nat.zero_le _, by rw [Nat.pow_zero, Nat.div_one]; simp⟩ ?_
  rintro z τ' ar' ⟨⟨g2, g4, g6, g7, g10⟩, rfl, hz, hn⟩ ih
  have hgz := frm_getD m1 z
  have hgz9 := frm_getD_lt m1 z
  refine runS_says 2 (by exact g2) (Says.refl _) ?_; refine runS_says 4 (by exact g4) (Says.refl _) ?_; refine runS_says 6 (by exact g6) (Says.refl _) ?_; refine runS_says 7 (by exact g7) (Says.refl _) ?_; refine runS_says 10 (by exact g10) (Says.refl _) ?_
  refine rX rfl ?_
  have hcd : (if decide ((z : Int) < ((frm m1).length : Int)) = true then (((frm m1).getD ((z : Int)).toNat 0 : Nat) : Int) == 0 else false) = decide (z < (frm m1).length ∧ (frm m1).getD z 0 = 0) := by
    rw [Int.toNat_natCast]
    by_cases h : z < (frm m1).length
    · rw [decide_eq_true (show (z : Int) < ((frm m1).length : Int) by omega), if_pos rfl, Bool.eq_iff_iff]
      simp [-List.getD_eq_getElem?_getD, h]
    · rw [decide_eq_false (show ¬ (z : Int) < ((frm m1).length : Int) by omega), Bool.eq_iff_iff]
      simp [h]
  refine runS_cond rfl (fun h => ?_) (fun h => ?_)
  · obtain ⟨h1, h2⟩ := of_decide_eq_true (hcd.symm.trans h)
    have hw1 : IntKind.wrap .i64 ((z : Int) + 1) = ((z + 1 : Nat) : Int) := by rw [w64 (by omega) (by omega)]; rfl
    have hn0 : m1 / 10 ^ z ≠ 0 := by
      intro e
      have hm0 : m1 ≠ 0 := fun e => by rw [e, frm_zero] at h1; simp at h1
      have hge := frm_ge hm0
      have h3 : 10 ^ z ≤ 10 ^ ((frm m1).length - 1) := Nat.pow_le_pow_right (by decide) (by omega)
      have h4 := Nat.div_eq_zero_iff.1 e
      have hp10 : 0 < 10 ^ z := Nat.pow_pos (by decide)
      omega
    refine rX rfl ?_
    refine ih (z + 1) _ _ (by omega) ⟨⟨rfl, rfl, rfl, rfl, congrArg iv hw1⟩, rfl, by omega, ?_⟩
    rw [hn, normD_step hn0 (by rw [← hgz]; exact h2), Nat.div_div_eq_div_mul, ← Nat.pow_succ]
    congr 1
    omega
  · have hno := of_decide_eq_false (hcd.symm.trans h)
    obtain ⟨m2, hm2⟩ : ∃ m2, m1 / 10 ^ z = m2 := ⟨_, rfl⟩
    have hm2l : m2 ≤ m1 := by rw [← hm2]; exact Nat.div_le_self _ _
    have hr : normD m1 e1 = (m2, e1 + z) := by
      rw [hn, hm2]
      by_cases h0 : m2 = 0
      · rw [h0, normD_zero]
      · refine normD_end ?_
        rw [← hm2, ← hgz]
        refine fun e => hno ⟨?_, e⟩
        refine Nat.lt_of_not_le fun hle => h0 ?_
        rw [← hm2]
        exact Nat.div_eq_of_lt (frm_len_lt.1 hle)
    have hct := d_cut none m1 z (by omega) (by omega)
    rw [hm2] at hct
    have hwe : IntKind.wrap .i64 (e1 + (z : Int)) = e1 + z := w64 (by omega) (by omega)
    have hml2 : (frm m2).length ≤ 16 := frm_len_lt.2 (by omega)
    have hwat : IntKind.wrap .i64 (IntKind.wrap .i64 (((frm m2).length : Int) + IntKind.wrap .i64 (e1 + (z : Int))) - 1) = ((frm m2).length : Int) + (e1 + z) - 1 := by
      rw [hwe, w64 (x := ((frm m2).length : Int) + (e1 + (z : Int))) (by omega) (by omega), w64 (by omega) (by omega)]
    rw [hr]
    refine rX rfl ?_
    refine runS_call rfl rfl rfl rfl rfl rfl rfl hct ?_
    refine rX rfl ?_
    refine runS_cond rfl (fun h3 => ?_) (fun h3 => ?_)
    · have h0 : m2 = 0 := by
        have : (((frm m2).length : Int) == 0) = true := h3
        simp only [beq_iff_eq] at this
        exact frm_len0.1 (by omega)
      refine rX rfl ?_
      refine runS_ret (I := inf) 0 rfl (Nat.le_refl _) rfl .nil rfl ⟨?_, rfl⟩
      unfold fltO
      rw [if_pos h0]
      rfl
    · have h0 : m2 ≠ 0 := by
        have : (((frm m2).length : Int) == 0) = false := h3
        simp only [beq_eq_false_iff_ne] at this
        exact fun e => this (by rw [e, frm_zero]; rfl)
      refine rX rfl ?_
      refine runS_cond rfl (fun h4 => ?_) (fun h4 => ?_)
      · have hat : ((frm m2).length : Int) + (e1 + z) - 1 > 75 := by
          have := of_decide_eq_true h4
          rw [hwat] at this
          exact this
        refine rX rfl ?_
        refine runS_ret (I := inf) 0 rfl (Nat.le_refl _) rfl .nil rfl ⟨?_, rfl⟩
        unfold fltO
        rw [if_neg h0, if_pos hat]
        rfl
      · have hat : ¬ ((frm m2).length : Int) + (e1 + z) - 1 > 75 := by
          have := of_decide_eq_false h4
          rw [hwat] at this
          exact this
        refine rX rfl ?_
        refine runS_cond rfl (fun h5 => ?_) (fun h5 => ?_)
        · have hat2 : ((frm m2).length : Int) + (e1 + z) - 1 < -75 := by
            have := of_decide_eq_true h5
            rw [hwat] at this
            exact this
          refine rX rfl ?_
          refine runS_ret (I := inf) 0 rfl (Nat.le_refl _) rfl .nil rfl ⟨?_, rfl⟩
          unfold fltO
          rw [if_neg h0, if_neg hat, if_pos hat2]
          rfl
        · have hat2 : ¬ ((frm m2).length : Int) + (e1 + z) - 1 < -75 := by
            have := of_decide_eq_false h5
            rw [hwat] at this
            exact this
          have hF : fltO ng (m2, e1 + z) = (sgn ng m2, e1 + z, 0) := by
            unfold fltO
            rw [if_neg h0, if_neg hat, if_neg hat2]
          rw [hF]
          refine rX rfl ?_
          refine runS_call rfl rfl rfl rfl rfl rfl rfl (d_number none m2 (by omega)) ?_
          refine rX rfl ?_
          cases ng
          · refine runS_x (I := inf) (J := jnf) ⟨true, false, [], 0, 0⟩ 9999 rfl ob1 ?_
            refine runS_ret (I := inf) 0 rfl (Nat.le_refl _) rfl .nil rfl ⟨?_, rfl⟩
            show Out.ret (.tup [.agg [iv 3, iv (m2 : Nat), iv (IntKind.wrap .i64 (e1 + (z : Int))), sv []], iv 0]) = _
            rw [hwe]
            rfl
          · refine runS_x (I := inf) (J := jnf) ⟨true, false, [], 0, 0⟩ 9999 rfl ob1 ?_
            refine runS_ret (I := inf) 0 rfl (Nat.le_refl _) rfl .nil rfl ⟨?_, rfl⟩
            show Out.ret (.tup [.agg [iv 3, iv (IntKind.wrap .i64 (0 - (m2 : Int))), iv (IntKind.wrap .i64 (e1 + (z : Int))), sv []], iv 0]) = _
            rw [hwe, w64 (by omega) (by omega), Int.zero_sub]
            rfl
end Go.Iron.Tryz

/- The digits' seat: the program's Right, for any value. -/
namespace Go.Iron.Tryz
open Go.Proofs Go.RowKit Go.Iron.Tok Go.Iron.Dg

theorem lib_trim (s cs : Str) (hs : s.length ≤ 4611686018427387904) (hc : cs.length ≤ 100) (ha : ∀ b ∈ cs, b.toNat < 128) : CallT Tryz.prog 88 [sv s, sv cs] [] (fun o A => o = .ret (sv (Lib.trimS s cs)) ∧ A = []) :=
  callT_lib fun w O vs hst hl hv => by
    obtain ⟨v, v2, rfl⟩ : ∃ v v2, vs = #[v, v2] := by
      obtain ⟨l⟩ := vs
      match l, hl with
      | [v, v2], _ => exact ⟨v, v2, rfl⟩
    have hv0 := rv_val (hv 0 _ v rfl rfl)
    have hv1 := rv_val (hv 1 _ v2 rfl rfl)
    subst hv0
    subst hv1
    refine (Tryz.strings_Trim_laid (bs s) (bs cs) w (show s.length ≤ _ by omega) (show cs.length < _ by omega) (fun j b hb => ha b (List.mem_of_getElem? hb))).mono fun e w' hh => ?_
    obtain ⟨rfl, hB⟩ := hh
    exact ⟨_, rfl, hB, fun w'' O' => .val⟩
theorem lib_repeat (s : Str) (c : Nat) (hs : s.length ≤ 10) (hc : c ≤ 100000) : CallT Tryz.prog 84 [sv s, iv c] [] (fun o A => o = .ret (sv (Lib.repeatL s c)) ∧ A = []) :=
  callT_lib fun w O vs hst hl hv => by
    obtain ⟨v, v2, rfl⟩ : ∃ v v2, vs = #[v, v2] := by
      obtain ⟨l⟩ := vs
      match l, hl with
      | [v, v2], _ => exact ⟨v, v2, rfl⟩
    have hv0 := rv_val (hv 0 _ v rfl rfl)
    have hv1 := rv_val (hv 1 _ v2 rfl rfl)
    subst hv0
    subst hv1
    have hm : s.length * c ≤ 10 * 100000 := Nat.mul_le_mul hs hc
    refine (Tryz.strings_Repeat (bs s) c w (by omega) (show s.length * c ≤ _ by omega)).mono fun e w' hh => ?_
    obtain ⟨rfl, hB⟩ := hh
    exact ⟨_, rfl, hB, fun w'' O' => .val⟩
theorem dropWhile_nil {α : Type} {p : α → Bool} : ∀ {l : List α}, l.dropWhile p = [] ↔ ∀ x ∈ l, p x = true
  | [] => by simp
  | a :: l => by
    rw [List.dropWhile_cons]
    split
    · rename_i h
      rw [dropWhile_nil]
      simp [h]
    · rename_i h
      simp [h]
theorem trim_nil (s cs : Str) : Lib.trimS s cs = [] ↔ ∀ b ∈ s, cs.contains b = true := by
  unfold Lib.trimS Lib.trimLeftS Lib.trimRightS
  rw [dropWhile_nil]
  constructor
  · intro h
    have h2 : s.reverse.dropWhile (cs.contains ·) = [] := by
      cases hd : s.reverse.dropWhile (cs.contains ·) with
      | nil => rfl
      | cons a l =>
        exfalso
        have h3 : cs.contains a = true := h a (by rw [hd]; simp)
        have h4 := List.head?_dropWhile_not (cs.contains ·) s.reverse
        rw [hd] at h4
        simp [h3] at h4
        simp [h4] at h3
    rw [dropWhile_nil] at h2
    exact fun b hb => h2 b (by simpa using hb)
  · intro h
    have h2 : s.reverse.dropWhile (cs.contains ·) = [] := dropWhile_nil.2 fun b hb => h b (by simpa using hb)
    rw [h2]
    simp
theorem trim_all (s : Str) : (Lib.trimS s [48, 49] = []) ↔ (s.all fun b => b.toNat == 48 || b.toNat == 49) = true := by
  rw [trim_nil, List.all_eq_true]
  refine forall_congr' fun b => forall_congr' fun _ => ?_
  simp [← UInt8.toNat_inj]
theorem txt_nil (s : Str) : ((bs s).toList == (ByteArray.mk #[]).toList) = decide (s = []) := by
  rw [bs_toList, show (ByteArray.mk #[]).toList = [] from bs_toList [], Bool.eq_iff_iff]
  simp
theorem d_isNumber (kd : Int) : CallT Tryz.prog 170 [iv kd] [] (fun o A => o = .ret (bv (numK kd)) ∧ A = []) := by
  refine callS_body (n := 5) rfl rfl fun w ρ X => ?_
  refine rX rfl ?_
  refine runS_call rfl rfl rfl rfl rfl rfl rfl (d_within kd 1 3) ?_
  refine rX rfl ?_
  refine runS_ret (I := inf) 0 rfl (Nat.le_refl _) rfl .nil rfl ⟨?_, rfl⟩
  rfl
section
variable (n q : Int) (s : Str)
theorem d_right_1 : CallT Tryz.prog 32 [.agg (vaE 1 n q s)] [] (fun o A => o = .ret (bv (rightB 1 n q s)) ∧ A = []) := by
  refine callS_body (n := 147) rfl rfl fun w ρ X => ?_
  refine rX rfl ?_
  refine runS_cond rfl (fun h => ?_) (fun h => by cases h)
  refine rX rfl ?_
  refine runS_callU rfl rfl (by first | exact .v rfl rfl rfl rfl | exact .o rfl rfl rfl rfl) rfl rfl (by repeat (first | exact .nil | refine .cons (.n rfl) ?_ | refine .cons .o ?_ | refine .cons gok_and ?_)) rfl rfl rfl rfl rfl (fun _ => (d_within _ _ _)) ?_
  refine rX rfl ?_
  refine runS_callU rfl rfl (by first | exact .v rfl rfl rfl rfl | exact .o rfl rfl rfl rfl) rfl rfl (by repeat (first | exact .nil | refine .cons (.n rfl) ?_ | refine .cons .o ?_ | refine .cons gok_and ?_)) rfl rfl rfl rfl rfl (fun _ => (d_within _ _ _)) ?_
  refine rX rfl ?_
  refine runS_ret (I := inf) 0 rfl (Nat.le_refl _) rfl .nil rfl ⟨?_, rfl⟩
  refine congrArg (fun x => Out.ret (bv x)) ?_
  rw [txt_nil]
  rw [Bool.eq_iff_iff]
  by_cases hs0 : s = [] <;> simp [rightB, hs0] <;> omega
theorem d_right_2 : CallT Tryz.prog 32 [.agg (vaE 2 n q s)] [] (fun o A => o = .ret (bv (rightB 2 n q s)) ∧ A = []) := by
  refine callS_body (n := 147) rfl rfl fun w ρ X => ?_
  refine rX rfl ?_
  refine runS_cond rfl (fun h => by cases h) (fun h => ?_)
  refine rX rfl ?_
  refine runS_cond rfl (fun h => ?_) (fun h => by cases h)
  refine rX rfl ?_
  refine runS_callU rfl rfl (by first | exact .v rfl rfl rfl rfl | exact .o rfl rfl rfl rfl) rfl rfl (by repeat (first | exact .nil | refine .cons (.n rfl) ?_ | refine .cons .o ?_ | refine .cons gok_and ?_)) rfl rfl rfl rfl rfl (fun _ => (d_within _ _ _)) ?_
  refine rX rfl ?_
  refine runS_callU rfl rfl (by first | exact .v rfl rfl rfl rfl | exact .o rfl rfl rfl rfl) rfl rfl (by repeat (first | exact .nil | refine .cons (.n rfl) ?_ | refine .cons .o ?_ | refine .cons gok_and ?_)) rfl rfl rfl rfl rfl (fun _ => (d_within _ _ _)) ?_
  refine rX rfl ?_
  refine runS_ret (I := inf) 0 rfl (Nat.le_refl _) rfl .nil rfl ⟨?_, rfl⟩
  refine congrArg (fun x => Out.ret (bv x)) ?_
  rw [txt_nil]
  rw [Bool.eq_iff_iff]
  by_cases hs0 : s = [] <;> simp [rightB, hs0] <;> omega
theorem d_right_7 : CallT Tryz.prog 32 [.agg (vaE 7 n q s)] [] (fun o A => o = .ret (bv (rightB 7 n q s)) ∧ A = []) := by
  refine callS_body (n := 147) rfl rfl fun w ρ X => ?_
  refine rX rfl ?_
  refine runS_cond rfl (fun h => by cases h) (fun h => ?_)
  refine rX rfl ?_
  refine runS_cond rfl (fun h => by cases h) (fun h => ?_)
  refine rX rfl ?_
  refine runS_cond rfl (fun h => by cases h) (fun h => ?_)
  refine rX rfl ?_
  refine runS_cond rfl (fun h => by cases h) (fun h => ?_)
  refine rX rfl ?_
  refine runS_cond rfl (fun h => by cases h) (fun h => ?_)
  refine rX rfl ?_
  refine runS_cond rfl (fun h => by cases h) (fun h => ?_)
  refine rX rfl ?_
  refine runS_cond rfl (fun h => ?_) (fun h => by cases h)
  refine rX rfl ?_
  refine runS_callU rfl rfl (by first | exact .v rfl rfl rfl rfl | exact .o rfl rfl rfl rfl) rfl rfl (by repeat (first | exact .nil | refine .cons (.n rfl) ?_ | refine .cons .o ?_ | refine .cons gok_and ?_)) rfl rfl rfl rfl rfl (fun _ => (d_within _ _ _)) ?_
  refine rX rfl ?_
  refine runS_ret (I := inf) 0 rfl (Nat.le_refl _) rfl .nil rfl ⟨?_, rfl⟩
  refine congrArg (fun x => Out.ret (bv x)) ?_
  rw [txt_nil]
  rw [Bool.eq_iff_iff]
  by_cases hs0 : s = [] <;> simp [rightB, hs0] <;> omega
theorem d_right_8 : CallT Tryz.prog 32 [.agg (vaE 8 n q s)] [] (fun o A => o = .ret (bv (rightB 8 n q s)) ∧ A = []) := by
  refine callS_body (n := 147) rfl rfl fun w ρ X => ?_
  refine rX rfl ?_
  refine runS_cond rfl (fun h => by cases h) (fun h => ?_)
  refine rX rfl ?_
  refine runS_cond rfl (fun h => by cases h) (fun h => ?_)
  refine rX rfl ?_
  refine runS_cond rfl (fun h => by cases h) (fun h => ?_)
  refine rX rfl ?_
  refine runS_cond rfl (fun h => by cases h) (fun h => ?_)
  refine rX rfl ?_
  refine runS_cond rfl (fun h => by cases h) (fun h => ?_)
  refine rX rfl ?_
  refine runS_cond rfl (fun h => by cases h) (fun h => ?_)
  refine rX rfl ?_
  refine runS_cond rfl (fun h => by cases h) (fun h => ?_)
  refine rX rfl ?_
  refine runS_cond rfl (fun h => ?_) (fun h => by cases h)
  refine rX rfl ?_
  refine runS_cond rfl (fun h => ?_) (fun h => by cases h)
  refine rX rfl ?_
  refine runS_callU rfl rfl (by first | exact .v rfl rfl rfl rfl | exact .o rfl rfl rfl rfl) rfl rfl (by repeat (first | exact .nil | refine .cons (.n rfl) ?_ | refine .cons .o ?_ | refine .cons gok_and ?_)) rfl rfl rfl rfl rfl (fun _ => (d_within _ _ _)) ?_
  refine rX rfl ?_
  refine runS_callU rfl rfl (by first | exact .v rfl rfl rfl rfl | exact .o rfl rfl rfl rfl) rfl rfl (by repeat (first | exact .nil | refine .cons (.n rfl) ?_ | refine .cons .o ?_ | refine .cons gok_and ?_)) rfl rfl rfl rfl rfl (fun _ => (d_within _ _ _)) ?_
  refine rX rfl ?_
  refine runS_ret (I := inf) 0 rfl (Nat.le_refl _) rfl .nil rfl ⟨?_, rfl⟩
  refine congrArg (fun x => Out.ret (bv x)) ?_
  rw [txt_nil]
  rw [Bool.eq_iff_iff]
  by_cases hs0 : s = [] <;> simp [rightB, hs0] <;> omega
theorem d_right_9 : CallT Tryz.prog 32 [.agg (vaE 9 n q s)] [] (fun o A => o = .ret (bv (rightB 9 n q s)) ∧ A = []) := by
  refine callS_body (n := 147) rfl rfl fun w ρ X => ?_
  refine rX rfl ?_
  refine runS_cond rfl (fun h => by cases h) (fun h => ?_)
  refine rX rfl ?_
  refine runS_cond rfl (fun h => by cases h) (fun h => ?_)
  refine rX rfl ?_
  refine runS_cond rfl (fun h => by cases h) (fun h => ?_)
  refine rX rfl ?_
  refine runS_cond rfl (fun h => by cases h) (fun h => ?_)
  refine rX rfl ?_
  refine runS_cond rfl (fun h => by cases h) (fun h => ?_)
  refine rX rfl ?_
  refine runS_cond rfl (fun h => by cases h) (fun h => ?_)
  refine rX rfl ?_
  refine runS_cond rfl (fun h => by cases h) (fun h => ?_)
  refine rX rfl ?_
  refine runS_cond rfl (fun h => by cases h) (fun h => ?_)
  refine rX rfl ?_
  refine runS_cond rfl (fun h => ?_) (fun h => by cases h)
  refine rX rfl ?_
  refine runS_callU rfl rfl (by first | exact .v rfl rfl rfl rfl | exact .o rfl rfl rfl rfl) rfl rfl (by repeat (first | exact .nil | refine .cons (.n rfl) ?_ | refine .cons .o ?_ | refine .cons gok_and ?_)) rfl rfl rfl rfl rfl (fun _ => (d_within _ _ _)) ?_
  refine rX rfl ?_
  refine runS_callU rfl rfl (by first | exact .v rfl rfl rfl rfl | exact .o rfl rfl rfl rfl) rfl rfl (by repeat (first | exact .nil | refine .cons (.n rfl) ?_ | refine .cons .o ?_ | refine .cons gok_and ?_)) rfl rfl rfl rfl rfl (fun _ => (d_within _ _ _)) ?_
  refine rX rfl ?_
  refine runS_ret (I := inf) 0 rfl (Nat.le_refl _) rfl .nil rfl ⟨?_, rfl⟩
  refine congrArg (fun x => Out.ret (bv x)) ?_
  rw [txt_nil]
  rw [Bool.eq_iff_iff]
  by_cases hs0 : s = [] <;> simp [rightB, hs0] <;> omega
theorem d_right_4 : CallT Tryz.prog 32 [.agg (vaE 4 n q s)] [] (fun o A => o = .ret (bv (rightB 4 n q s)) ∧ A = []) := by
  refine callS_body (n := 147) rfl rfl fun w ρ X => ?_
  refine rX rfl ?_
  refine runS_cond rfl (fun h => by cases h) (fun h => ?_)
  refine rX rfl ?_
  refine runS_cond rfl (fun h => by cases h) (fun h => ?_)
  refine rX rfl ?_
  refine runS_cond rfl (fun h => by cases h) (fun h => ?_)
  refine rX rfl ?_
  refine runS_cond rfl (fun h => ?_) (fun h => by cases h)
  refine rX rfl ?_
  refine runS_cond rfl (fun h => ?_) (fun h => by cases h)
  refine runS_x (I := inf) (J := jnf) ⟨false, false, [], 0, 0⟩ 9999 rfl (by repeat (first | exact obs_nil | refine obs_draw (by kernel_rfl) ?_ | refine obs_same ?_ | refine obs_and ?_ | refine obs_by (by (simp [inB, blS] <;> omega)) ?_)) ?_
  refine runS_ret (I := inf) 0 rfl (Nat.le_refl _) rfl .nil rfl ⟨?_, rfl⟩
  refine congrArg (fun x => Out.ret (bv x)) ?_
  have e : decide (((bl (bs s)).length : Int) ≤ 250) = decide (s.length ≤ 250) := by
    rw [blS, Bool.eq_iff_iff, decide_eq_true_iff, decide_eq_true_iff]
    omega
  rw [e]
  by_cases h1 : n = 0 <;> by_cases h2 : q = 0 <;> by_cases h3 : s.length ≤ 250 <;> simp [rightB, h1, h2, h3]
theorem d_right_6 : CallT Tryz.prog 32 [.agg (vaE 6 n q s)] [] (fun o A => o = .ret (bv (rightB 6 n q s)) ∧ A = []) := by
  refine callS_body (n := 147) rfl rfl fun w ρ X => ?_
  refine rX rfl ?_
  refine runS_cond rfl (fun h => by cases h) (fun h => ?_)
  refine rX rfl ?_
  refine runS_cond rfl (fun h => by cases h) (fun h => ?_)
  refine rX rfl ?_
  refine runS_cond rfl (fun h => by cases h) (fun h => ?_)
  refine rX rfl ?_
  refine runS_cond rfl (fun h => by cases h) (fun h => ?_)
  refine rX rfl ?_
  refine runS_cond rfl (fun h => ?_) (fun h => by cases h)
  refine runS_x (I := inf) (J := jnf) ⟨false, false, [], 0, 0⟩ 9999 rfl (by repeat (first | exact obs_nil | refine obs_draw (by kernel_rfl) ?_ | refine obs_same ?_ | refine obs_and ?_ | refine obs_by (by (simp [inB, blS] <;> omega)) ?_)) ?_
  refine runS_ret (I := inf) 0 rfl (Nat.le_refl _) rfl .nil rfl ⟨?_, rfl⟩
  refine congrArg (fun x => Out.ret (bv x)) ?_
  have e : decide (((bl (bs s)).length : Int) ≤ 250) = decide (s.length ≤ 250) := by
    rw [blS, Bool.eq_iff_iff, decide_eq_true_iff, decide_eq_true_iff]
    omega
  rw [e]
  by_cases h1 : n = 0 <;> by_cases h2 : q = 0 <;> by_cases h3 : s.length ≤ 250 <;> simp [rightB, h1, h2, h3]
theorem d_right_5 : CallT Tryz.prog 32 [.agg (vaE 5 n q s)] [] (fun o A => o = .ret (bv (rightB 5 n q s)) ∧ A = []) := by
  refine callS_body (n := 147) rfl rfl fun w ρ X => ?_
  refine rX rfl ?_
  refine runS_cond rfl (fun h => by cases h) (fun h => ?_)
  refine rX rfl ?_
  refine runS_cond rfl (fun h => by cases h) (fun h => ?_)
  refine rX rfl ?_
  refine runS_cond rfl (fun h => by cases h) (fun h => ?_)
  refine rX rfl ?_
  refine runS_cond rfl (fun h => by cases h) (fun h => ?_)
  refine rX rfl ?_
  refine runS_cond rfl (fun h => by cases h) (fun h => ?_)
  refine rX rfl ?_
  refine runS_cond rfl (fun h => ?_) (fun h => by cases h)
  refine runS_x (I := inf) (J := jnf) ⟨false, false, [], 0, 0⟩ 9999 rfl (by repeat (first | exact obs_nil | refine obs_draw (by kernel_rfl) ?_ | refine obs_same ?_ | refine obs_and ?_ | refine obs_by (by (simp [inB, blS] <;> omega)) ?_)) ?_
  have hb250 : condOf none (if (if (n == 0) = true then (q == 0) else false) = true then decide (((bl (bs s)).length : Int) ≤ 250) else false) true = true → s.length ≤ 250 := fun h => by
    by_cases hl : s.length ≤ 250
    · exact hl
    · exfalso
      rw [show decide (((bl (bs s)).length : Int) ≤ 250) = false from decide_eq_false (by rw [blS]; omega)] at h
      revert h
      cases n == 0 <;> cases q == 0 <;> decide
  refine runS_callU rfl rfl (by first | exact .v rfl rfl rfl rfl | exact .o rfl rfl rfl rfl) rfl rfl (by repeat (first | exact .nil | refine .cons (.n rfl) ?_ | refine .cons .o ?_ | refine .cons gok_and ?_)) rfl rfl rfl rfl rfl (fun h => lib_trim s [48, 49] (by have := hb250 h; omega) (by decide) (by decide)) ?_
  refine rX rfl ?_
  refine runS_ret (I := inf) 0 rfl (Nat.le_refl _) rfl .nil rfl ⟨?_, rfl⟩
  refine congrArg (fun x => Out.ret (bv x)) ?_
  have e : decide (((bl (bs s)).length : Int) ≤ 250) = decide (s.length ≤ 250) := by
    rw [blS, Bool.eq_iff_iff, decide_eq_true_iff, decide_eq_true_iff]
    omega
  have e3 : decide (Lib.trimS s [48, 49] = []) = s.all isBit := by
    rw [Bool.eq_iff_iff, decide_eq_true_iff]
    exact trim_all s
  rw [e, txt_nil, e3]
  have e2 : rightB 5 n q s = (decide (n = 0 ∧ q = 0 ∧ s.length ≤ 250) && s.all isBit) := rfl
  rw [e2]
  by_cases h1 : n = 0 <;> by_cases h2 : q = 0 <;> by_cases h3 : s.length ≤ 250 <;> simp [h1, h2, h3]
theorem d_right_3 : CallT Tryz.prog 32 [.agg (vaE 3 n q s)] [] (fun o A => o = .ret (bv (rightB 3 n q s)) ∧ A = []) := by
  refine callS_body (n := 147) rfl rfl fun w ρ X => ?_
  refine rX rfl ?_
  refine runS_cond rfl (fun h => by cases h) (fun h => ?_)
  refine rX rfl ?_
  refine runS_cond rfl (fun h => by cases h) (fun h => ?_)
  refine rX rfl ?_
  refine runS_cond rfl (fun h => ?_) (fun h => by cases h)
  refine rX rfl ?_
  refine runS_callU rfl rfl (by first | exact .v rfl rfl rfl rfl | exact .o rfl rfl rfl rfl) rfl rfl (by repeat (first | exact .nil | refine .cons (.n rfl) ?_ | refine .cons .o ?_ | refine .cons gok_and ?_)) rfl rfl rfl rfl rfl (fun _ => (d_within _ _ _)) ?_
  refine rX rfl ?_
  refine runS_callU rfl rfl (by first | exact .v rfl rfl rfl rfl | exact .o rfl rfl rfl rfl) rfl rfl (by repeat (first | exact .nil | refine .cons (.n rfl) ?_ | refine .cons .o ?_ | refine .cons gok_and ?_)) rfl rfl rfl rfl rfl (fun _ => (d_within _ _ _)) ?_
  refine rX rfl ?_
  have hcd : (if (if (!((bs s).toList == (ByteArray.mk #[]).toList)) = true then true else !(decide (-999999999999999 ≤ n) && decide (n ≤ 999999999999999))) = true then true else !(decide (-1000 ≤ q) && decide (q ≤ 1000))) = decide (s ≠ [] ∨ n ≤ -1000000000000000 ∨ n ≥ 1000000000000000 ∨ q < -1000 ∨ q > 1000) := by
    rw [txt_nil, Bool.eq_iff_iff]
    by_cases hs0 : s = [] <;> simp [hs0] <;> omega
  refine runS_cond rfl (fun h => ?_) (fun h => ?_)
  · have hc := of_decide_eq_true (hcd.symm.trans h)
    refine rX rfl ?_
    refine runS_ret (I := inf) 0 rfl (Nat.le_refl _) rfl .nil rfl ⟨?_, rfl⟩
    refine congrArg (fun x => Out.ret (bv x)) ?_
    symm
    rw [← Bool.not_eq_true]
    by_cases hs0 : s = []
    · simp only [hs0, ne_eq, not_true_eq_false, false_or] at hc
      by_cases hn0 : n = 0
      · simp [rightB, hs0, hn0]; omega
      · simp [rightB, hs0, hn0]; omega
    · simp [rightB, hs0]
  · have hc := of_decide_eq_false (hcd.symm.trans h)
    have hs0 : s = [] := Decidable.byContradiction fun e => hc (.inl e)
    subst hs0
    have hc2 : ¬ (n ≤ -1000000000000000 ∨ n ≥ 1000000000000000 ∨ q < -1000 ∨ q > 1000) := fun e => hc (.inr e)
    refine rX rfl ?_
    refine runS_cond rfl (fun h => ?_) (fun h => ?_)
    · have h0 : n = 0 := by simpa using (show (n == 0) = true from h)
      subst h0
      refine rX rfl ?_
      refine runS_ret (I := inf) 0 rfl (Nat.le_refl _) rfl .nil rfl ⟨?_, rfl⟩
      refine congrArg (fun x => Out.ret (bv x)) ?_
      rw [Bool.eq_iff_iff]
      simp [rightB]
    · have h0 : ¬ n = 0 := by simpa using (show (n == 0) = false from h)
      have hab : (if IntKind.wrap .i64 (0 - n) > n then IntKind.wrap .i64 (0 - n) else n) = ((n.natAbs : Nat) : Int) := by
        rw [w64 (by omega) (by omega)]
        split <;> omega
      have hof : CallT Tryz.prog 87 [.val (.int .i64 (if IntKind.wrap .i64 (0 - n) > n then IntKind.wrap .i64 (0 - n) else n))] [] (fun o A => o = .ret (limS none (frm n.natAbs)) ∧ A = []) := by rw [hab]; exact d_of n.natAbs (by omega)
      have hl : (frm n.natAbs).length ≤ 19 := frm_len_lt.2 (by omega)
      have hwr : IntKind.wrap .i64 (IntKind.wrap .i64 (((frm n.natAbs).length : Int) + q) - 1) = ((frm n.natAbs).length : Int) + q - 1 := by rw [w64 (x := ((frm n.natAbs).length : Int) + q) (by omega) (by omega), w64 (by omega) (by omega)]
      refine rX rfl ?_
      refine runS_draw 15 (by kernel_rfl) (lexj_x (I := inf) (J := jnf) 99 rfl rfl (by repeat (first | exact obs_nil | refine obs_same ?_ | refine obs_and ?_ | refine obs_by (by first | exact (fun _ => nz10) | (simp [inB] <;> omega)) ?_)) (lexj_callU rfl rfl (by first | exact .v rfl rfl rfl rfl | exact .o rfl rfl rfl rfl) rfl rfl (by repeat (first | exact .nil | refine .cons (.n rfl) ?_ | refine .cons .o ?_ | refine .cons gok_and ?_)) rfl rfl rfl rfl rfl (fun hcond => hof) (lexj_x (I := inf) (J := jnf) 99 rfl rfl (by repeat (first | exact obs_nil | refine obs_same ?_ | refine obs_and ?_ | refine obs_by (by first | exact (fun _ => nz10) | (simp [inB] <;> omega)) ?_)) lexj_nil))) ?_
      refine rX rfl ?_
      refine runS_callU rfl rfl (by first | exact .v rfl rfl rfl rfl | exact .o rfl rfl rfl rfl) rfl rfl (by repeat (first | exact .nil | refine .cons (.n rfl) ?_ | refine .cons .o ?_ | refine .cons gok_and ?_)) rfl rfl rfl rfl rfl (fun _ => (d_within _ _ _)) ?_
      refine rX rfl ?_
      refine runS_ret (I := inf) 0 rfl (Nat.le_refl _) rfl .nil rfl ⟨?_, rfl⟩
      refine congrArg (fun x => Out.ret (bv x)) ?_
      rw [hwr, show (n.tmod 10 != 0) = !decide (n.natAbs % 10 = 0) by unfold bne; rw [tmod10], Bool.eq_iff_iff]
      simp [rightB, h0]
      omega
end
theorem d_right (kd n q : Int) (s : Str) : CallT Tryz.prog 32 [.agg (vaE kd n q s)] [] (fun o A => o = .ret (bv (rightB kd n q s)) ∧ A = []) := by
  by_cases h : kd ≤ 0 ∨ 10 ≤ kd
  · have hr : rightB kd n q s = false := by
      unfold rightB
      rw [if_neg (by omega), if_neg (by omega), if_neg (by omega), if_neg (by omega), if_neg (by omega), if_neg (by omega), if_neg (by omega)]
    rw [hr]
    refine callS_body (n := 147) rfl rfl fun w ρ X => ?_
    refine rX rfl ?_
    refine runS_cond rfl (fun h => by simp at h; omega) (fun h => ?_)
    refine rX rfl ?_
    refine runS_cond rfl (fun h => by simp at h; omega) (fun h => ?_)
    refine rX rfl ?_
    refine runS_cond rfl (fun h => by simp at h; omega) (fun h => ?_)
    refine rX rfl ?_
    refine runS_cond rfl (fun h => by simp at h; omega) (fun h => ?_)
    refine rX rfl ?_
    refine runS_cond rfl (fun h => by simp at h; omega) (fun h => ?_)
    refine rX rfl ?_
    refine runS_cond rfl (fun h => by simp at h; omega) (fun h => ?_)
    refine rX rfl ?_
    refine runS_cond rfl (fun h => by simp at h; omega) (fun h => ?_)
    refine rX rfl ?_
    refine runS_cond rfl (fun h => by simp at h; omega) (fun h => ?_)
    refine rX rfl ?_
    refine runS_cond rfl (fun h => by simp at h; omega) (fun h => ?_)
    refine rX rfl ?_
    refine runS_ret (I := inf) 0 rfl (Nat.le_refl _) rfl .nil rfl ⟨?_, rfl⟩
    rfl
  · have : kd = 1 ∨ kd = 2 ∨ kd = 3 ∨ kd = 4 ∨ kd = 5 ∨ kd = 6 ∨ kd = 7 ∨ kd = 8 ∨ kd = 9 := by omega
    rcases this with rfl | rfl | rfl | rfl | rfl | rfl | rfl | rfl | rfl
    · exact d_right_1 n q s
    · exact d_right_2 n q s
    · exact d_right_3 n q s
    · exact d_right_4 n q s
    · exact d_right_5 n q s
    · exact d_right_6 n q s
    · exact d_right_7 n q s
    · exact d_right_8 n q s
    · exact d_right_9 n q s
end Go.Iron.Tryz

/- The digits' seat: what is asked of values; fitted numbers. -/
namespace Go.Iron.Tryz
open Go.Proofs Go.RowKit Go.Iron.Tok Go.Iron.Dg

@[reducible] def vlE (v : Vl) : List AV := vaE v.kind v.n v.q v.s
def vlR (l : List Vl) : Nat → List AV := encR vlE ⟨0, 0, 0, []⟩ l
def vlS (nl : Option Bool) (l : List Vl) : AV := .slc 4 nl l.length (vlR l)
theorem valid_num {t : Typ} (h : validT t = true) (hk : numK t.kind = true) : ∃ P Q : Nat, t.p = P ∧ t.q = Q ∧ 1 ≤ P ∧ P ≤ 31 ∧ Q ≤ 31 ∧ (t.kind = 1 ∨ t.kind = 2 ∧ P ≤ 15 ∨ t.kind = 3 ∧ P ≤ 15 ∧ Q = 0) := by
  have hk3 : t.kind = 1 ∨ t.kind = 2 ∨ t.kind = 3 := by
    unfold numK at hk
    simp at hk
    omega
  unfold validT inR at h
  rcases hk3 with hk | hk | hk
  · rw [if_pos hk] at h
    simp at h
    exact ⟨t.p.toNat, t.q.toNat, by omega, by omega, by omega, by omega, by omega, .inl hk⟩
  · rw [if_neg (by omega), if_pos hk] at h
    simp at h
    exact ⟨t.p.toNat, t.q.toNat, by omega, by omega, by omega, by omega, by omega, .inr (.inl ⟨hk, by omega⟩)⟩
  · rw [if_neg (by omega), if_neg (by omega), if_pos hk] at h
    simp at h
    exact ⟨t.p.toNat, t.q.toNat, by omega, by omega, by omega, by omega, by omega, .inr (.inr ⟨hk, by omega, by omega⟩)⟩
theorem d_fitted (L : Lg) (t : Typ) (big : Int) (hv : validT t = true) (hk : numK t.kind = true) (hL : Fits L 1500 1000) : CallT Tryz.prog 108 [lgA L, .agg (typE t), iv big] [] (fun o A => o = .ret (numA t.kind (fitL t.kind t.p.toNat t.q.toNat L big)) ∧ A = []) := by
  obtain ⟨P, Q, hP, hQ, hP1, hP2, hQ2, hkd⟩ := valid_num hv hk
  have hfx : t.kind ≠ 3 → CallT Tryz.prog 176 [lgA L, .agg (typE t)] [] (fun o A => o = .ret (.tup [iv (sgn L.neg (mFix t.kind L.m Q L.exp % bsN t.kind ^ P)), bv (decide (mFix t.kind L.m Q L.exp ≥ bsN t.kind ^ P))]) ∧ A = []) := fun h3 => d_fixed L t P Q (by omega) hP hQ hQ2 hL
  obtain ⟨kd, p, q, n, vy, pc⟩ := t
  dsimp only at hP hQ hkd hfx ⊢
  subst hP; subst hQ
  rw [Int.toNat_natCast, Int.toNat_natCast]
  by_cases h3 : kd = 3
  · subst h3
    have hF : fitL 3 P Q L big = fltO L.neg (fltL L.m L.exp P) := by
      unfold fitL
      rw [if_pos rfl]
      by_cases h0 : L.m = 0
      · rw [if_pos h0]
        unfold fltL
        rw [h0, frm_zero, if_neg (by simp), normD_zero]
        rfl
      · rw [if_neg h0]
    rw [hF]
    refine callS_body (n := 34) rfl rfl fun w ρ X => ?_
    refine rX rfl ?_
    refine runS_cond rfl (fun h => ?_) (fun h => by cases h)
    refine rX rfl ?_
    refine runS_call rfl rfl rfl rfl rfl rfl rfl (d_float L P (by omega) hP1 hL) ?_
    refine rX rfl ?_
    refine runS_ret (I := inf) 0 rfl (Nat.le_refl _) rfl .nil rfl ⟨?_, rfl⟩
    rfl
  · have hF : fitL kd P Q L big = (sgn L.neg (mFix kd L.m Q L.exp % bsN kd ^ P), (Q : Int), if mFix kd L.m Q L.exp ≥ bsN kd ^ P then big else 0) := by
      unfold fitL
      rw [if_neg h3]
    rw [hF]
    refine callS_body (n := 34) rfl rfl fun w ρ X => ?_
    refine rX rfl ?_
    refine runS_cond rfl (fun h => absurd (show kd = 3 by simpa using (show (kd == 3) = true from h)) h3) (fun h => ?_)
    refine rX rfl ?_
    refine runS_call rfl rfl rfl rfl rfl rfl rfl (hfx h3) ?_
    refine rX rfl ?_
    refine runS_cond rfl (fun h => ?_) (fun h => ?_)
    · have hl : ¬ mFix kd L.m Q L.exp ≥ bsN kd ^ P := by simpa using h
      rw [if_neg hl]
      refine rX rfl ?_
      refine runS_ret (I := inf) 0 rfl (Nat.le_refl _) rfl .nil rfl ⟨?_, rfl⟩
      rfl
    · have hl : mFix kd L.m Q L.exp ≥ bsN kd ^ P := by simpa using h
      rw [if_pos hl]
      refine rX rfl ?_
      refine runS_ret (I := inf) 0 rfl (Nat.le_refl _) rfl .nil rfl ⟨?_, rfl⟩
      rfl
theorem all_take {α : Type} {p : α → Bool} {l : List α} {i : Nat} (h : (l.take i).all p = true) (hi : i < l.length) (hp : p (l[i]) = true) : (l.take (i + 1)).all p = true := by
  rw [List.take_succ_eq_append_getElem hi, List.all_append, h]
  simp [hp]
theorem vl_get {l : List Vl} {i : Nat} (hi : i < l.length) : l.getD i ⟨0, 0, 0, []⟩ = l[i] := by
  rw [List.getD_eq_getElem?_getD, List.getElem?_eq_getElem hi]; rfl
theorem d_asked2 (o0 o1 : AO) (hk0 : ∀ l, Kept 3 l → Kept 3 (o0 :: o1 :: l)) (t : Typ) (n1 : Option Bool) (l : List Vl) (hl : l.length ≤ 100000) : CallT Tryz.prog 101 [.ptr 2 0 0, vlS n1 l] [o0, o1, .box 25 (typE t)] (fun o A => o = .ret (iv (askL (some t) l)) ∧ A = [o0, o1, .box 25 (typE t)]) := by
  refine callS_body (n := 49) rfl rfl fun w ρ X => ?_
  refine rX rfl ?_
  refine runS_while (fun (i : Nat) τ ar => (τ 0 = .ptr 2 0 0 ∧ τ 1 = vlS n1 l ∧ τ 9 = vlS n1 l ∧ τ 10 = iv l.length ∧ τ 11 = iv i) ∧ ar = [o0, o1, .box 25 (typE t)] ∧ i ≤ l.length ∧ (l.take i).all Vl.right = true) (fun i => l.length - i) 0 ⟨⟨rfl, rfl, rfl, rfl, rfl⟩, rfl, Nat.zero_le _, rfl⟩ ?_
  rintro i τ' ar' ⟨⟨g0, g1, g9, g10, g11⟩, rfl, hi, ha⟩ ih
  refine runS_says 0 (by exact g0) (Says.refl _) ?_; refine runS_says 1 (by exact g1) (Says.refl _) ?_; refine runS_says 9 (by exact g9) (Says.refl _) ?_; refine runS_says 10 (by exact g10) (Says.refl _) ?_; refine runS_says 11 (by exact g11) (Says.refl _) ?_
  refine rX rfl ?_
  refine runS_cond rfl (fun h => ?_) (fun h => ?_)
  · have hlt : i < l.length := by simp at h; omega
    have hw1 : IntKind.wrap .i64 ((i : Int) + 1) = ((i + 1 : Nat) : Int) := by rw [w64 (by omega) (by omega)]; rfl
    have hv := vl_get hlt
    refine runS_x (I := inf) (J := jnf) ⟨false, false, [], 0, 0⟩ 9999 rfl (by repeat (first | exact obs_nil | refine obs_draw (by kernel_rfl) ?_ | refine obs_same ?_ | refine obs_and ?_ | refine obs_by (by (simp [inB, hlt] <;> omega)) ?_)) ?_
    refine runS_call rfl rfl rfl rfl rfl rfl rfl (d_right (l.getD i ⟨0, 0, 0, []⟩).kind (l.getD i ⟨0, 0, 0, []⟩).n (l.getD i ⟨0, 0, 0, []⟩).q (l.getD i ⟨0, 0, 0, []⟩).s) ?_
    refine rX rfl ?_
    refine runS_cond rfl (fun h2 => ?_) (fun h2 => ?_)
    · have hr : (l[i]).right = false := by
        rw [← hv]
        have h3 : (!(l.getD i ⟨0, 0, 0, []⟩).right) = true := h2
        rw [Bool.not_eq_true'] at h3
        exact h3
      have hE : askL (some t) l = 1 := by
        unfold askL
        rw [if_pos]
        rw [List.all_eq_false]
        exact ⟨_, List.getElem_mem hlt, by rw [hr]; decide⟩
      rw [hE]
      refine rX rfl ?_
      exact runS_ret (I := inf) 3 rfl (Nat.le_refl _) rfl (hk0 _ (.box rfl .nil)) rfl ⟨rfl, rfl⟩
    · have hr : (l[i]).right = true := by
        rw [← hv]
        have h3 : (!(l.getD i ⟨0, 0, 0, []⟩).right) = false := h2
        rw [Bool.not_eq_false'] at h3
        exact h3
      refine rX rfl ?_
      refine runS_drop 3 (Nat.le_refl 3) rfl (hk0 _ (.box rfl .nil)) rfl rfl rfl (by repeat (first | exact .nil | refine .cons rfl rfl rfl (scrub_under _ _) ?_)) ?_
      exact ih (i + 1) _ _ (by omega) ⟨⟨rfl, rfl, rfl, rfl, congrArg iv hw1⟩, rfl, by omega, all_take ha hlt hr⟩
  · have hie : i = l.length := by simp at h; omega
    subst hie
    rw [List.take_length] at ha
    refine rX rfl ?_
    refine runS_op (.val (.bool true)) rfl rfl rfl (op_ptrNe Tryz.underlying130 rfl rfl rfl rfl) ?_
    refine rX rfl ?_
    refine runS_callU rfl rfl (by first | exact .v rfl rfl rfl rfl | exact .o rfl rfl rfl rfl) rfl rfl (by repeat (first | exact .nil | refine .cons (.n rfl) ?_ | refine .cons .o ?_ | refine .cons gok_and ?_)) rfl rfl rfl rfl rfl (fun _ => (d_valid t)) ?_
    refine rX rfl ?_
    refine runS_cond rfl (fun h => ?_) (fun h => ?_)
    · have hvt : validT t = false := by
        have h3 : (!validT t) = true := h
        rw [Bool.not_eq_true'] at h3
        exact h3
      have hE : askL (some t) l = 13 := by
        unfold askL
        rw [if_neg (by rw [ha]; decide), if_pos (by simp [hvt])]
      rw [hE]
      refine rX rfl ?_
      exact runS_ret (I := inf) 3 rfl (Nat.le_refl _) rfl (hk0 _ (.box rfl .nil)) rfl ⟨rfl, rfl⟩
    have hvt : validT t = true := by
      have h3 : (!validT t) = false := h
      rw [Bool.not_eq_false'] at h3
      exact h3
    refine rX rfl ?_
    clear ih hi g0 g1 g9 g10 g11
    refine runS_while (fun (i : Nat) τ ar => (τ 0 = .ptr 2 0 0 ∧ τ 28 = vlS n1 l ∧ τ 29 = iv l.length ∧ τ 30 = iv i) ∧ ar = [o0, o1, .box 25 (typE t)] ∧ i ≤ l.length ∧ (l.take i).all (fun v => numK v.kind) = true) (fun i => l.length - i) 0 ⟨⟨rfl, rfl, rfl, rfl⟩, rfl, Nat.zero_le _, rfl⟩ ?_
    rintro i τ2 ar2 ⟨⟨g0, g28, g29, g30⟩, rfl, hi, hb⟩ ih
    refine runS_says 0 (by exact g0) (Says.refl _) ?_; refine runS_says 28 (by exact g28) (Says.refl _) ?_; refine runS_says 29 (by exact g29) (Says.refl _) ?_; refine runS_says 30 (by exact g30) (Says.refl _) ?_
    refine rX rfl ?_
    refine runS_cond rfl (fun h => ?_) (fun h => ?_)
    · have hlt : i < l.length := by simp at h; omega
      have hw1 : IntKind.wrap .i64 ((i : Int) + 1) = ((i + 1 : Nat) : Int) := by rw [w64 (by omega) (by omega)]; rfl
      have hv := vl_get hlt
      refine runS_x (I := inf) (J := jnf) ⟨false, false, [], 0, 0⟩ 9999 rfl (by repeat (first | exact obs_nil | refine obs_draw (by kernel_rfl) ?_ | refine obs_same ?_ | refine obs_and ?_ | refine obs_by (by (simp [inB, hlt] <;> omega)) ?_)) ?_
      refine runS_call rfl rfl rfl rfl rfl rfl rfl (d_isNumber (l.getD i ⟨0, 0, 0, []⟩).kind) ?_
      refine rX rfl ?_
      refine runS_cond rfl (fun h2 => ?_) (fun h2 => ?_)
      · have hr : numK (l[i]).kind = false := by
          rw [← hv]
          have h3 : (!numK (l.getD i ⟨0, 0, 0, []⟩).kind) = true := h2
          rw [Bool.not_eq_true'] at h3
          exact h3
        have hE : askL (some t) l = 10 := by
          unfold askL
          rw [if_neg (by rw [ha]; decide), if_neg (by simp [hvt]), if_pos]
          rw [List.all_eq_false]
          exact ⟨_, List.getElem_mem hlt, by rw [hr]; decide⟩
        rw [hE]
        refine rX rfl ?_
        exact runS_ret (I := inf) 3 rfl (Nat.le_refl _) rfl (hk0 _ (.box rfl .nil)) rfl ⟨rfl, rfl⟩
      · have hr : numK (l[i]).kind = true := by
          rw [← hv]
          have h3 : (!numK (l.getD i ⟨0, 0, 0, []⟩).kind) = false := h2
          rw [Bool.not_eq_false'] at h3
          exact h3
        refine rX rfl ?_
        refine runS_drop 3 (Nat.le_refl 3) rfl (hk0 _ (.box rfl .nil)) rfl rfl rfl (by repeat (first | exact .nil | refine .cons rfl rfl rfl (scrub_under _ _) ?_)) ?_
        exact ih (i + 1) _ _ (by omega) ⟨⟨rfl, rfl, rfl, congrArg iv hw1⟩, rfl, by omega, all_take hb hlt hr⟩
    · have hie : i = l.length := by simp at h; omega
      subst hie
      rw [List.take_length] at hb
      have hE : askL (some t) l = if numK t.kind = false then 10 else 0 := by
        unfold askL
        rw [if_neg (by rw [ha]; decide), if_neg (by simp [hvt]), if_neg (by rw [hb]; decide)]
        simp
      rw [hE]
      refine rX rfl ?_
      refine runS_op (.val (.bool true)) rfl rfl rfl (op_ptrNe Tryz.underlying130 rfl rfl rfl rfl) ?_
      refine rX rfl ?_
      refine runS_callU rfl rfl (by first | exact .v rfl rfl rfl rfl | exact .o rfl rfl rfl rfl) rfl rfl (by repeat (first | exact .nil | refine .cons (.n rfl) ?_ | refine .cons .o ?_ | refine .cons gok_and ?_)) rfl rfl rfl rfl rfl (fun _ => (d_isNumber t.kind)) ?_
      refine rX rfl ?_
      refine runS_cond rfl (fun h => ?_) (fun h => ?_)
      · have hn : numK t.kind = false := by
          have h3 : (!numK t.kind) = true := h
          rw [Bool.not_eq_true'] at h3
          exact h3
        rw [if_pos hn]
        refine rX rfl ?_
        exact runS_ret (I := inf) 3 rfl (Nat.le_refl _) rfl (hk0 _ (.box rfl .nil)) rfl ⟨rfl, rfl⟩
      · have hn : numK t.kind = true := by
          have h3 : (!numK t.kind) = false := h
          rw [Bool.not_eq_false'] at h3
          exact h3
        rw [if_neg (show ¬ numK t.kind = false by rw [hn]; decide)]
        refine rX rfl ?_
        exact runS_ret (I := inf) 3 rfl (Nat.le_refl _) rfl (hk0 _ (.box rfl .nil)) rfl ⟨rfl, rfl⟩
end Go.Iron.Tryz

/- The digits' seat: operations of two numbers. -/
namespace Go.Iron.Tryz
open Go.Proofs Go.RowKit Go.Iron.Tok Go.Iron.Dg

abbrev errA (e : Int) : AV := .tup [.agg (vaE 0 0 0 []), iv 0, iv e]
abbrev resA (kd : Int) (r : Int × Int × Int) : AV := .tup [.agg [iv kd, iv r.1, iv r.2.1, sv []], iv r.2.2, iv 0]
abbrev ext (v : Vl) : Lg := exactL v.kind v.n v.q
theorem ask_num {t : Option Typ} {l : List Vl} (h : askL t l = 0) : (∀ v ∈ l, v.right = true ∧ numK v.kind = true) ∧ ∀ t0, t = some t0 → validT t0 = true ∧ numK t0.kind = true := by
  unfold askL at h
  split at h; omega
  split at h; omega
  split at h; omega
  split at h; omega
  rename_i h1 h2 h3 h4
  have h1' : l.all Vl.right = true := by simpa using h1
  have h3' : (l.all fun v => numK v.kind) = true := by simpa using h3
  refine ⟨fun v hv => ⟨List.all_eq_true.1 h1' v hv, List.all_eq_true.1 h3' v hv⟩, fun t0 e => ?_⟩
  subst e
  simp at h2 h4
  exact ⟨h2, h4⟩
theorem d_exactV (v : Vl) (hr : v.right = true) (hk : numK v.kind = true) : CallT Tryz.prog 102 [.agg (vlE v)] [] (fun o A => o = .ret (lgA (ext v)) ∧ A = []) := by
  obtain ⟨h1, h2, h3, h4, h5, h6⟩ := right_num hr hk
  exact d_exact v.kind v.n v.q v.s h5 h6 (fun h => h3 (by omega))
theorem ext_fits (v : Vl) (hr : v.right = true) (hk : numK v.kind = true) : Fits (ext v) 50 100 := by
  obtain ⟨h1, h2, h3, h4, h5, h6⟩ := right_num hr hk
  have hl1 : (frm v.n.natAbs).length ≤ 15 := frm_len_lt.2 (by omega)
  refine ⟨?_, ?_, ?_⟩
  · show (frm (v.n.natAbs * (if v.kind = 1 then 5 ^ v.q.toNat else 1))).length ≤ 50
    have hm := frm_len_mul v.n.natAbs (if v.kind = 1 then 5 ^ v.q.toNat else 1)
    have : (frm (if v.kind = 1 then 5 ^ v.q.toNat else 1)).length ≤ 32 := by
      split
      · rename_i hk1
        have := h3 (by omega)
        exact frm_len_lt.2 (Nat.lt_of_le_of_lt (Nat.pow_le_pow_left (by decide : 5 ≤ 10) v.q.toNat) (Nat.pow_lt_pow_right (by decide) (by omega)))
      · rw [frm_one]; decide
    omega
  · show -100 ≤ (if v.kind = 1 ∨ v.kind = 2 then -v.q else v.q)
    split
    · have := h3 (by omega); omega
    · have := h4 (by omega); omega
  · show (if v.kind = 1 ∨ v.kind = 2 then -v.q else v.q) ≤ 100
    split
    · have := h3 (by omega); omega
    · have := h4 (by omega); omega
theorem d_reckonE (a b : Vl) (t : Typ) (g : FuncId) (caps : List AV) (he : askL (some t) [a, b] ≠ 0) : CallT Tryz.prog 57 [.agg (vlE a), .agg (vlE b), .agg (typE t), .fn (.func g) caps] [] (fun o A => o = .ret (errA (askL (some t) [a, b])) ∧ A = []) := by
  refine callS_body (n := 34) rfl rfl fun w ρ X => ?_
  refine rX rfl ?_
  refine runS_tell 6 (vlR [a, b]) rfl (m' := 2) rfl (fun j hj => ?_) rfl ?_
  · rcases j with _ | _ | j <;> first | rfl | omega
  refine runS_freeze 14 rfl rfl rfl (fun j hj => ?_) ?_
  · rcases j with _ | _ | j <;> first | rfl | omega
  refine runS_callF [.box 23 (vlE a), .box 23 (vlE b), .box 25 (typE t)] [.box 23 (vlE a), .box 23 (vlE b), .box 25 (typE t)] _ rfl rfl rfl rfl rfl (show _ = [.ptr 2 0 0, vlS none [a, b]] from rfl) rfl (.box rfl (.box rfl (.box rfl .nil))) rfl rfl (d_asked2 _ _ (fun l hl => .box rfl (.box rfl hl)) t none [a, b] (by simp)) ?_
  refine rX rfl ?_
  refine runS_cond rfl (fun h => ?_) (fun h => ?_)
  · refine rX rfl ?_
    refine runS_ret (I := inf) 0 rfl (Nat.le_refl _) rfl .nil rfl ⟨?_, rfl⟩
    rfl
  · exfalso
    have h3 : (!(askL (some t) [a, b] == 0)) = false := h
    rw [Bool.not_eq_false', beq_iff_eq] at h3
    exact he h3
theorem d_reckonV (a b : Vl) (t : Typ) (g : FuncId) {gn : Func} {gc : Code} [Fun Tryz.prog g gn gc] (R : Lg) (he : askL (some t) [a, b] = 0)
    (hdo : CallT Tryz.prog g ([lgA (ext a), lgA (ext b)]) [] (fun o A => o = .ret (lgA R) ∧ A = [])) (hR : Fits R 1500 1000) : CallT Tryz.prog 57 [.agg (vlE a), .agg (vlE b), .agg (typE t), .fn (.func g) []] [] (fun o A => o = .ret (resA t.kind (fitL t.kind t.p.toNat t.q.toNat R 2)) ∧ A = []) := by
  obtain ⟨hnum, htn⟩ := ask_num he
  obtain ⟨hv, hkt⟩ := htn t rfl
  obtain ⟨hra, hka⟩ := hnum a (by simp)
  obtain ⟨hrb, hkb⟩ := hnum b (by simp)
  have hf := d_fitted R t 2 hv hkt hR
  generalize fitL t.kind t.p.toNat t.q.toNat R 2 = F at *
  refine callS_body (n := 34) rfl rfl fun w ρ X => ?_
  refine rX rfl ?_
  refine runS_tell 6 (vlR [a, b]) rfl (m' := 2) rfl (fun j hj => ?_) rfl ?_
  · rcases j with _ | _ | j <;> first | rfl | omega
  refine runS_freeze 14 rfl rfl rfl (fun j hj => ?_) ?_
  · rcases j with _ | _ | j <;> first | rfl | omega
  refine runS_callF [.box 23 (vlE a), .box 23 (vlE b), .box 25 (typE t)] [.box 23 (vlE a), .box 23 (vlE b), .box 25 (typE t)] _ rfl rfl rfl rfl rfl (show _ = [.ptr 2 0 0, vlS none [a, b]] from rfl) rfl (.box rfl (.box rfl (.box rfl .nil))) rfl rfl (d_asked2 _ _ (fun l hl => .box rfl (.box rfl hl)) t none [a, b] (by simp)) ?_
  rw [he]
  refine rX rfl ?_
  refine runS_cond rfl (fun h => by cases h) (fun h => ?_)
  refine rX rfl ?_
  refine runS_drawG (ch := []) (A2 := fun _ => []) 12 [11] (fun z => [.box 23 (vlE a), .box 23 (vlE b), .box 25 (typE t), .box 23 (cond (z.getD 0 false) [iv t.kind, iv F.1, iv F.2.1, sv []] [iv 0, iv 0, iv 0, sv []]), .box 3 [iv 0], .box 30 [iv 0], .gone]) none (c := 9) jnfI.draw (by kernel_rfl) rfl (lexg_g (I := inf) (J := jnf) none ⟨⟨_, rfl, ob0⟩, oi⟩ rfl rfl rfl rfl (lexg_g (I := inf) (J := jnf) none ⟨⟨_, rfl, ob0⟩, oi⟩ rfl rfl rfl rfl (lexg_call rfl rfl rfl rfl rfl rfl rfl rfl rfl (d_exactV a hra hka) (lexg_g (I := inf) (J := jnf) none ⟨⟨_, rfl, ob0⟩, oi⟩ rfl rfl rfl rfl (lexg_call rfl rfl rfl rfl rfl rfl rfl rfl rfl (d_exactV b hrb hkb) (lexg_call rfl rfl rfl rfl rfl rfl rfl rfl rfl hdo (lexg_g (I := inf) (J := jnf) none ⟨⟨_, rfl, ob0⟩, oi⟩ rfl rfl rfl rfl (lexg_call rfl rfl rfl rfl rfl rfl rfl rfl rfl hf (lexg_g (I := inf) (J := jnf) none ⟨⟨_, rfl, ob0⟩, oi⟩ rfl rfl rfl rfl (lexg_g (I := inf) (J := jnf) none ⟨⟨_, rfl, ob0⟩, oi⟩ rfl rfl rfl rfl (lexg_g (I := inf) (J := jnf) none ⟨⟨_, rfl, ob0⟩, oi⟩ rfl rfl rfl rfl (lexg_g (I := inf) (J := jnf) (some .store) ⟨⟨_, rfl, ob0⟩, .inl rfl⟩ rfl rfl rfl rfl lexg_nil)))))))))))) rfl (fun _ => ?_) (fun h => by cases h)
  refine rX rfl ?_
  refine runS_drawG (ch := []) (A2 := fun _ => []) 3 [2] (fun z => [.box 23 (vlE a), .box 23 (vlE b), .box 25 (typE t), .box 23 [iv t.kind, iv F.1, iv F.2.1, sv []], .box 3 [iv F.2.2], .box 30 [iv 0], .gone]) none (c := 9) jnfI.draw (by kernel_rfl) rfl (lexg_g (I := inf) (J := jnf) none ⟨⟨_, rfl, ob0⟩, oi⟩ rfl rfl rfl rfl (lexg_g (I := inf) (J := jnf) none ⟨⟨_, rfl, ob0⟩, oi⟩ rfl rfl rfl rfl (lexg_g (I := inf) (J := jnf) (some .store) ⟨⟨_, rfl, ob0⟩, .inl rfl⟩ rfl rfl rfl rfl lexg_nil))) rfl (fun _ => ?_) (fun h => by cases h)
  refine runS_x (I := inf) (J := jnf) ⟨true, false, [122], 0, 0⟩ 9999 rfl ob1 ?_
  refine runS_opA (.ptr 7 0 0) rfl rfl rfl (op_alloc0 (by kernel_rfl) rfl rfl) ?_
  refine runS_x (I := inf) (J := jnf) ⟨true, false, [122], 0, 0⟩ 9999 rfl ob1 ?_
  refine runS_ret (I := inf) 0 rfl (Nat.le_refl _) rfl .nil rfl ⟨?_, rfl⟩
  rfl
end Go.Iron.Tryz

/- The digits' seat: builders among other objects. -/
namespace Go.Iron.Tryz
open Go.Proofs Go.RowKit Go.Iron.Tok Go.Iron.Dg

end Go.Iron.Tryz

/- The digits' seat: the text of a fixed number that is not 0. -/
namespace Go.Iron.Tryz
open Go.Proofs Go.RowKit Go.Iron.Tok Go.Iron.Dg

end Go.Iron.Tryz

/- The digits' seat: awake. -/
namespace Go.Iron.Tryz
open Go.Proofs Go.RowKit Go.Iron.Tok Go.Iron.Dg

end Go.Iron.Tryz

/- The digits' seat: sums and differences; the order of numbers. -/
namespace Go.Iron.Tryz
open Go.Proofs Go.RowKit Go.Iron.Tok Go.Iron.Dg

theorem Fits.mono {a : Lg} {l l2 : Nat} {x x2 : Int} (h : Fits a l x) (hl : l ≤ l2) (hx : x ≤ x2) : Fits a l2 x2 := ⟨Nat.le_trans h.1 hl, by have := h.2; omega, by have := h.3; omega⟩
theorem frm_len_add (x y : Nat) : (frm (x + y)).length ≤ (frm x).length + (frm y).length + 1 := by
  refine frm_len_lt.2 ?_
  have h1 := frm_lt_pow x
  have h2 := frm_lt_pow y
  have h3 : 10 ^ (frm x).length ≤ 10 ^ ((frm x).length + (frm y).length) := Nat.pow_le_pow_right (by decide) (by omega)
  have h4 : 10 ^ (frm y).length ≤ 10 ^ ((frm x).length + (frm y).length) := Nat.pow_le_pow_right (by decide) (by omega)
  rw [Nat.pow_succ]
  omega
theorem sum_fits (a b : Lg) (ha : Fits a 50 100) (hb : Fits b 50 100) : Fits (sumL a b) 1500 1000 := by
  obtain ⟨ha1, ha2, ha3⟩ := ha
  obtain ⟨hb1, hb2, hb3⟩ := hb
  have hx := upM_len a (min a.exp b.exp)
  have hy := upM_len b (min a.exp b.exp)
  have hs := frm_len_add (upM a (min a.exp b.exp)) (upM b (min a.exp b.exp))
  have h1 := frm_len_mono (Nat.sub_le (upM a (min a.exp b.exp)) (upM b (min a.exp b.exp)))
  have h2 := frm_len_mono (Nat.sub_le (upM b (min a.exp b.exp)) (upM a (min a.exp b.exp)))
  unfold sumL
  split
  · exact ⟨by dsimp only; omega, by dsimp only; omega, by dsimp only; omega⟩
  · split
    · exact ⟨by dsimp only; omega, by dsimp only; omega, by dsimp only; omega⟩
    · exact ⟨by dsimp only; omega, by dsimp only; omega, by dsimp only; omega⟩
theorem flip_fits {a : Lg} {l : Nat} {x : Int} (h : Fits a l x) : Fits (flipL a) l x := ⟨h.1, h.2, h.3⟩
theorem d_subC (a b : Lg) (ha : Fits a 50 100) (hb : Fits b 50 100) : CallT Tryz.prog 90 [lgA a, lgA b] [] (fun o A => o = .ret (lgA (sumL a (flipL b))) ∧ A = []) := by
  have hs := d_sum a (flipL b) (ha.mono (by decide) (by decide)) ((flip_fits hb).mono (by decide) (by decide))
  refine callS_body (n := 12) rfl rfl fun w ρ X => ?_
  refine rX rfl ?_
  refine runS_call rfl rfl rfl rfl rfl rfl rfl hs ?_
  refine rX rfl ?_
  refine runS_ret (I := inf) 0 rfl (Nat.le_refl _) rfl .nil rfl ⟨?_, rfl⟩
  rfl
theorem d_Add (a b : Vl) (t : Typ) (he : askL (some t) [a, b] = 0) : CallT Tryz.prog 34 [.agg (vlE a), .agg (vlE b), .agg (typE t)] [] (fun o A => o = .ret (resA t.kind (fitL t.kind t.p.toNat t.q.toNat (sumL (ext a) (ext b)) 2)) ∧ A = []) := by
  obtain ⟨hnum, htn⟩ := ask_num he
  obtain ⟨hra, hka⟩ := hnum a (by simp)
  obtain ⟨hrb, hkb⟩ := hnum b (by simp)
  have hfa := ext_fits a hra hka
  have hfb := ext_fits b hrb hkb
  have hr := d_reckonV a b t 89 (sumL (ext a) (ext b)) he (d_sum (ext a) (ext b) (hfa.mono (by decide) (by decide)) (hfb.mono (by decide) (by decide))) (sum_fits _ _ hfa hfb)
  refine callS_body (n := 16) rfl rfl fun w ρ X => ?_
  refine rX rfl ?_
  refine runS_call rfl rfl rfl rfl rfl rfl rfl hr ?_
  refine rX rfl ?_
  refine runS_ret (I := inf) 0 rfl (Nat.le_refl _) rfl .nil rfl ⟨?_, rfl⟩
  rfl
theorem d_Subtract (a b : Vl) (t : Typ) (he : askL (some t) [a, b] = 0) : CallT Tryz.prog 35 [.agg (vlE a), .agg (vlE b), .agg (typE t)] [] (fun o A => o = .ret (resA t.kind (fitL t.kind t.p.toNat t.q.toNat (sumL (ext a) (flipL (ext b))) 2)) ∧ A = []) := by
  obtain ⟨hnum, htn⟩ := ask_num he
  obtain ⟨hra, hka⟩ := hnum a (by simp)
  obtain ⟨hrb, hkb⟩ := hnum b (by simp)
  have hfa := ext_fits a hra hka
  have hfb := ext_fits b hrb hkb
  have hr := d_reckonV a b t 90 (sumL (ext a) (flipL (ext b))) he (d_subC (ext a) (ext b) hfa hfb) (sum_fits _ _ hfa (flip_fits hfb))
  refine callS_body (n := 16) rfl rfl fun w ρ X => ?_
  refine rX rfl ?_
  refine runS_call rfl rfl rfl rfl rfl rfl rfl hr ?_
  refine rX rfl ?_
  refine runS_ret (I := inf) 0 rfl (Nat.le_refl _) rfl .nil rfl ⟨?_, rfl⟩
  rfl
end Go.Iron.Tryz

/- The digits' seat: the reference's products and differences. -/
namespace Go.Iron.Tryz
open Go.Proofs Go.RowKit Go.Iron.Tok Go.Iron.Dg

theorem r_less (n1 n2 : Option Bool) (x y : Nat) (hyx : y ≤ x) (hl : (frm x).length ≤ 4000) : CallT Tryz.prog 66 [natS n1 (frm x), natS n2 (frm y)] [] (fun o A => o = .ret (natS none (frm (x - y))) ∧ A = []) := by
  have hda := fun d (hd : d ∈ frm x) => frm_digit hd
  have hdb := fun d (hd : d ∈ frm y) => frm_digit hd
  have hvx := val_frm x
  have hvy := val_frm y
  have hll := frm_len_mono hyx
  generalize frm x = A at *
  generalize frm y = B at *
  refine callS_body (n := 44) rfl rfl fun w ρ X => ?_
  refine rX rfl ?_
  refine runS_tell 0 (rowN (fun j => A.getD j 0)) rfl (m' := A.length) (by simp) (fun j hj => (appR_ge (Nat.zero_le _)).symm) rfl ?_
  refine runS_while (fun (z : Nat × Nat × (Nat → Nat)) τ ar => (τ 1 = natS n2 B ∧ τ 5 = .row 0 1 ∧ τ 6 = iv z.2.1 ∧ τ 7 = iv z.1) ∧ ar = [.row 3 1 1 A.length (rowN z.2.2)] ∧ z.1 ≤ A.length ∧ LesI A B z.1 z.2.1 z.2.2) (fun z => A.length - z.1) (0, 0, fun j => A.getD j 0) ⟨⟨rfl, rfl, rfl, rfl⟩, rfl, Nat.zero_le _, lesI_zero A B⟩ ?_
  rintro ⟨i, v, p⟩ τ' ar' ⟨⟨g1, g5, g6, g7⟩, rfl, hi, hL⟩ ih
  dsimp only at g6 g7 hi hL ih ⊢
  refine runS_says 1 (by exact g1) (Says.refl _) ?_; refine runS_says 5 (by exact g5) (Says.refl _) ?_; refine runS_says 6 (by exact g6) (Says.refl _) ?_; refine runS_says 7 (by exact g7) (Says.refl _) ?_
  refine rX rfl ?_
  refine runS_cond rfl (fun h => ?_) (fun h => ?_)
  · have hlt : i < A.length := by simp at h; omega
    have hw1 : IntKind.wrap .i64 ((i : Int) + 1) = ((i + 1 : Nat) : Int) := by rw [w64 (by omega) (by omega)]; rfl
    have hpi : p i = A.getD i 0 := hL.eq i (Nat.le_refl _)
    have hai := getD_lt hda i
    have hbi := getD_lt hdb i
    have hv1 := hL.wle
    have hst := lesI_step hda hdb hL
    unfold lesD lesW at hst
    rw [← hpi] at hst hai
    have hb0 : ¬ i < B.length → B.getD i 0 = 0 := fun h => by rw [List.getD_eq_getElem?_getD, List.getElem?_eq_none (by omega)]; rfl
    have ea : IntKind.wrap .i64 (((p i : Nat) : Int) - (v : Int)) = (p i : Int) - (v : Int) := w64 (by omega) (by omega)
    refine runS_x (I := inf) (J := jnf) ⟨false, false, [], 0, 0⟩ 9999 rfl (by repeat (first | exact obs_nil | refine obs_draw (by kernel_rfl) ?_ | refine obs_same ?_ | refine obs_and ?_ | refine obs_by (by (simp [inB, hlt] <;> omega)) ?_)) ?_
    refine runS_cut (fun τ ar => (τ 1 = natS n2 B ∧ τ 5 = .row 0 1 ∧ τ 7 = iv i ∧ τ 8 = iv ((p i : Int) - ((v + B.getD i 0 : Nat) : Int))) ∧ ar = [.row 3 1 1 A.length (rowN p)]) (fun rest => ?_) ?_
    · refine runS_cond rfl (fun h1 => ?_) (fun h1 => ?_)
      · have hlb : i < B.length := by
          have : decide ((i : Int) < (B.length : Int)) = true := h1
          simp at this
          omega
        have e : IntKind.wrap .i64 (IntKind.wrap .i64 (((p i : Nat) : Int) - (v : Int)) - ((B.getD ((i : Int)).toNat 0 : Nat) : Int)) = (p i : Int) - ((v + B.getD i 0 : Nat) : Int) := by rw [Int.toNat_natCast, ea, w64 (by omega) (by omega)]; omega
        refine runS_x (I := inf) (J := jnf) ⟨false, false, [], 7, 0⟩ 9999 rfl (by repeat (first | exact obs_nil | refine obs_draw (by kernel_rfl) ?_ | refine obs_same ?_ | refine obs_and ?_ | refine obs_by (by (simp [inB, hlb] <;> omega)) ?_)) ?_
        exact rest _ _ ⟨⟨rfl, rfl, rfl, congrArg iv e⟩, rfl⟩
      · have hlb : ¬ i < B.length := by
          have : decide ((i : Int) < (B.length : Int)) = false := h1
          simp at this
          omega
        have e : IntKind.wrap .i64 (((p i : Nat) : Int) - (v : Int)) = (p i : Int) - ((v + B.getD i 0 : Nat) : Int) := by rw [ea, hb0 hlb]; omega
        refine runS_x (I := inf) (J := jnf) ⟨false, false, [], 7, 0⟩ 9999 rfl ob1 ?_
        exact rest _ _ ⟨⟨rfl, rfl, rfl, congrArg iv e⟩, rfl⟩
    rintro τ2 ar2 ⟨⟨g1, g5, g7, g8⟩, rfl⟩
    generalize hD : v + B.getD i 0 = D at g8 hst
    refine runS_says 1 (by exact g1) (Says.refl _) ?_; refine runS_says 5 (by exact g5) (Says.refl _) ?_; refine runS_says 7 (by exact g7) (Says.refl _) ?_; refine runS_says 8 (by exact g8) (Says.refl _) ?_
    refine rX rfl ?_
    refine runS_cond rfl (fun h2 => ?_) (fun h2 => ?_)
    · have hlt2 : p i < D := by
        have := of_decide_eq_true (show decide ((p i : Int) - (D : Int) < 0) = true from h2)
        omega
      rw [if_pos hlt2, if_pos hlt2] at hst
      have e1 : IntKind.wrap .i64 ((p i : Int) - (D : Int) + 10) = ((p i + 10 - D : Nat) : Int) := by rw [w64 (by omega) (by omega)]; omega
      refine runS_x (I := inf) (J := jnf) ⟨false, false, [], 0, 0⟩ 9999 rfl (by repeat (first | exact obs_nil | refine obs_draw (by kernel_rfl) ?_ | refine obs_same ?_ | refine obs_and ?_ | refine obs_by (by (simp [inB, hlt] <;> omega)) ?_)) ?_
      refine runS_tell 0 (rowN (updF p i (p i + 10 - D))) rfl (m' := A.length) rfl (fun j hj => rowN_upd (congrArg (fun z => [iv z]) e1) j) rfl ?_
      refine ih (i + 1, 1, updF p i (p i + 10 - D)) _ _ (by dsimp only; omega) ⟨⟨rfl, rfl, rfl, congrArg iv hw1⟩, rfl, by dsimp only; omega, hst⟩
    · have hlt2 : ¬ p i < D := by
        have := of_decide_eq_false (show decide ((p i : Int) - (D : Int) < 0) = false from h2)
        omega
      rw [if_neg hlt2, if_neg hlt2] at hst
      have e2 : (p i : Int) - (D : Int) = ((p i - D : Nat) : Int) := by omega
      refine runS_x (I := inf) (J := jnf) ⟨false, false, [], 0, 0⟩ 9999 rfl (by repeat (first | exact obs_nil | refine obs_draw (by kernel_rfl) ?_ | refine obs_same ?_ | refine obs_and ?_ | refine obs_by (by (simp [inB, hlt] <;> omega)) ?_)) ?_
      refine runS_tell 0 (rowN (updF p i (p i - D))) rfl (m' := A.length) rfl (fun j hj => rowN_upd (congrArg (fun z => [iv z]) e2) j) rfl ?_
      refine ih (i + 1, 0, updF p i (p i - D)) _ _ (by dsimp only; omega) ⟨⟨rfl, rfl, rfl, congrArg iv hw1⟩, rfl, by dsimp only; omega, hst⟩
  · have hie : i = A.length := by
      have : decide ((i : Int) < (A.length : Int)) = false := h
      simp at this
      omega
    subst hie
    obtain ⟨hv, hdg⟩ := lesI_end hll (by omega) hL
    refine rX rfl ?_
    refine runS_tell 0 (natR (listF p A.length)) rfl (m' := A.length) rfl (fun j hj => natR_listF p hj) rfl ?_
    refine runS_freeze 42 rfl rfl rfl (fun j hj => rfl) ?_
    have hc := r_trim none (listF p A.length) (by rw [listF_len]; omega) hdg
    unfold natS at hc
    rw [listF_len] at hc
    refine runS_call rfl rfl rfl rfl rfl rfl rfl hc ?_
    refine rX rfl ?_
    refine runS_ret (I := inf) 0 rfl (Nat.le_refl _) rfl .nil rfl ⟨?_, rfl⟩
    unfold trim
    rw [hv, hvx, hvy]
    rfl
theorem r_mul (n1 n2 : Option Bool) (x y : Nat) (hx : (frm x).length ≤ 4000) (hy : (frm y).length ≤ 4000) : CallT Tryz.prog 62 [natS n1 (frm x), natS n2 (frm y)] [] (fun o A => o = .ret (natS none (frm (x * y))) ∧ A = []) := by
  have hda := fun d (hd : d ∈ frm x) => frm_digit hd
  have hdb := fun d (hd : d ∈ frm y) => frm_digit hd
  have hvx := val_frm x
  have hvy := val_frm y
  have hlp := mul_lt_pow x y (Nat.le_refl _)
  generalize frm x = A at *
  generalize frm y = B at *
  have hn0 : IntKind.wrap .i64 ((A.length : Int) + (B.length : Int)) = ((A.length + B.length : Nat) : Int) := by
    rw [w64 (by omega) (by omega)]; rfl
  refine callS_body (n := 67) rfl rfl fun w ρ X => ?_
  refine runS_x (I := inf) (J := jnf) ⟨false, false, [], 0, 0⟩ 9999 rfl (by repeat (first | exact obs_nil | refine obs_draw (by kernel_rfl) ?_ | refine obs_same ?_ | refine obs_and ?_ | refine obs_by (by (simp [inB, hn0] <;> omega)) ?_)) ?_
  obtain ⟨N, hN⟩ : ∃ N, A.length + B.length = N := ⟨_, rfl⟩
  rw [hN] at hlp
  refine runS_tell 0 (rowN (fun _ => 0)) rfl (m' := N) (by rw [hn0, hN]; rfl) (fun j hj => rfl) rfl ?_
  refine runS_while (fun (z : Nat × (Nat → Nat)) τ ar => (τ 0 = natS n1 A ∧ τ 1 = natS n2 B ∧ τ 5 = .row 0 0 ∧ τ 6 = iv z.1) ∧ ar = [.row 3 1 0 N (rowN z.2)] ∧ z.1 ≤ A.length ∧ MulI A B N z.1 0 z.2) (fun z => A.length - z.1) (0, fun _ => 0) ⟨⟨rfl, rfl, rfl, rfl⟩, rfl, Nat.zero_le _, mulI_zero A B _⟩ ?_
  rintro ⟨i, s⟩ τ' ar' ⟨⟨g0, g1, g5, g6⟩, rfl, hi, hL⟩ ih
  dsimp only at g6 hi hL ih ⊢
  refine runS_says 0 (by exact g0) (Says.refl _) ?_; refine runS_says 1 (by exact g1) (Says.refl _) ?_; refine runS_says 5 (by exact g5) (Says.refl _) ?_; refine runS_says 6 (by exact g6) (Says.refl _) ?_
  refine rX rfl ?_
  refine runS_cond rfl (fun h => ?_) (fun h => ?_)
  · have hlt : i < A.length := by simp at h; omega
    have hw1 : IntKind.wrap .i64 ((i : Int) + 1) = ((i + 1 : Nat) : Int) := by rw [w64 (by omega) (by omega)]; rfl
    have hai := getD_lt hda i
    refine runS_x (I := inf) (J := jnf) ⟨false, false, [], 0, 0⟩ 9999 rfl (by repeat (first | exact obs_nil | refine obs_draw (by kernel_rfl) ?_ | refine obs_same ?_ | refine obs_and ?_ | refine obs_by (by (simp [inB, hlt] <;> omega)) ?_)) ?_
    refine runS_while (fun (z : Nat × (Nat → Nat)) τ ar => (τ 0 = natS n1 A ∧ τ 1 = natS n2 B ∧ τ 5 = .row 0 0 ∧ τ 6 = iv i ∧ τ 7 = iv z.1) ∧ ar = [.row 3 1 0 N (rowN z.2)] ∧ z.1 ≤ B.length ∧ MulI A B N i z.1 z.2) (fun z => B.length - z.1) (0, s) ⟨⟨rfl, rfl, rfl, rfl, rfl⟩, rfl, Nat.zero_le _, hL⟩ ?_
    rintro ⟨k, s2⟩ τ2 ar2 ⟨⟨g0, g1, g5, g6, g7⟩, rfl, hk, hK⟩ ih2
    dsimp only at g7 hk hK ih2 ⊢
    refine runS_says 0 (by exact g0) (Says.refl _) ?_; refine runS_says 1 (by exact g1) (Says.refl _) ?_; refine runS_says 5 (by exact g5) (Says.refl _) ?_; refine runS_says 6 (by exact g6) (Says.refl _) ?_; refine runS_says 7 (by exact g7) (Says.refl _) ?_
    refine rX rfl ?_
    refine runS_cond rfl (fun h2 => ?_) (fun h2 => ?_)
    · have hkt : k < B.length := by simp at h2; omega
      have hbk := getD_lt hdb k
      have hw2 : IntKind.wrap .i64 ((k : Int) + 1) = ((k + 1 : Nat) : Int) := by rw [w64 (by omega) (by omega)]; rfl
      have hwi : IntKind.wrap .i64 ((i : Int) + (k : Int)) = ((i + k : Nat) : Int) := by rw [w64 (by omega) (by omega)]; rfl
      have hle := hK.le (i + k)
      have hsm : (if i ≤ i + k ∧ i + k < i + k then 81 else 0) ≤ 81 := by split <;> omega
      have hm81 : A.getD i 0 * B.getD k 0 ≤ 81 := Nat.mul_le_mul (show A.getD i 0 ≤ 9 by omega) (show B.getD k 0 ≤ 9 by omega)
      have hev : IntKind.wrap .i64 (((s2 (i + k) : Nat) : Int) + IntKind.wrap .i64 (((A.getD i 0 : Nat) : Int) * ((B.getD k 0 : Nat) : Int))) = ((s2 (i + k) + A.getD i 0 * B.getD k 0 : Nat) : Int) := by
        rw [← Int.natCast_mul, w64 (x := ((A.getD i 0 * B.getD k 0 : Nat) : Int)) (by omega) (by omega), w64 (by omega) (by omega)]
        rfl
      have hst := mulI_step hda hdb hkt (by omega) hK
      refine runS_x (I := inf) (J := jnf) ⟨false, false, [], 0, 0⟩ 9999 rfl (by repeat (first | exact obs_nil | refine obs_draw (by kernel_rfl) ?_ | refine obs_same ?_ | refine obs_and ?_ | refine obs_by (by (simp [inB, hkt, hlt, hwi] <;> omega)) ?_)) ?_
      rw [hwi]
      refine runS_tell 0 (rowN (updF s2 (i + k) (s2 (i + k) + A.getD i 0 * B.getD k 0))) rfl (m' := N) rfl (fun j hj => rowN_upd (congrArg (fun z => [iv z]) hev) j) rfl ?_
      exact ih2 (k + 1, updF s2 (i + k) (s2 (i + k) + A.getD i 0 * B.getD k 0)) _ _ (by dsimp only; omega) ⟨⟨rfl, rfl, rfl, rfl, congrArg iv hw2⟩, rfl, by dsimp only; omega, hst⟩
    · have hke : k = B.length := by simp at h2; omega
      subst hke
      refine rX rfl ?_
      exact ih (i + 1, s2) _ _ (by dsimp only; omega) ⟨⟨rfl, rfl, rfl, congrArg iv hw1⟩, rfl, by dsimp only; omega, mulI_row hlt hK⟩
  · have hie : i = A.length := by simp at h; omega
    subst hie
    refine rX rfl ?_
    have hM : ∀ j, s j ≤ 400000 := fun j => by
      have := hL.le j
      rw [if_neg (by omega)] at this
      omega
    have hsum : sumF s N = x * y := by
      have := hL.sum
      rw [List.take_length, List.take_zero, hvx, hvy] at this
      rw [this]
      show x * y + _ * 0 = _
      rw [Nat.mul_zero, Nat.add_zero]
    refine runS_while (fun (z : Nat × Nat × (Nat → Nat)) τ ar => (τ 5 = .row 0 0 ∧ τ 8 = iv z.2.1 ∧ τ 9 = iv z.1) ∧ ar = [.row 3 1 0 N (rowN z.2.2)] ∧ z.1 ≤ N ∧ CarI N (x * y) 400000 z.1 z.2.1 z.2.2) (fun z => N - z.1) (0, 0, s) ⟨⟨rfl, rfl, rfl⟩, rfl, Nat.zero_le _, ⟨by dsimp only; rw [hsum]; simp, fun j hj => by omega, hM, by dsimp only; omega⟩⟩ ?_
    rintro ⟨j, c, p⟩ τ3 ar3 ⟨⟨g5, g8, g9⟩, rfl, hj, hC⟩ ih3
    dsimp only at g8 g9 hj hC ih3 ⊢
    refine runS_says 5 (by exact g5) (Says.refl _) ?_; refine runS_says 8 (by exact g8) (Says.refl _) ?_; refine runS_says 9 (by exact g9) (Says.refl _) ?_
    refine rX rfl ?_
    refine runS_cond rfl (fun h3 => ?_) (fun h3 => ?_)
    · have hjt : j < N := by
        have := of_decide_eq_true (show decide ((j : Int) < (N : Int)) = true from h3)
        omega
      have hw3 : IntKind.wrap .i64 ((j : Int) + 1) = ((j + 1 : Nat) : Int) := by rw [w64 (by omega) (by omega)]; rfl
      have hsj := hC.le j
      have hcl := hC.cle
      have hst := carI_step (by omega) hjt hC
      have hcs : IntKind.wrap .i64 (((p j : Nat) : Int) + (c : Int)) = ((p j + c : Nat) : Int) := by rw [w64 (by omega) (by omega)]; rfl
      have e1 : (IntKind.wrap .i64 (((p j : Nat) : Int) + (c : Int))).tmod 10 = (((p j + c) % 10 : Nat) : Int) := by
        rw [hcs, Int.natCast_emod, Int.tmod_eq_emod_of_nonneg (by omega)]; rfl
      have e2 : IntKind.wrap .i64 ((IntKind.wrap .i64 (((p j : Nat) : Int) + (c : Int))).tdiv 10) = (((p j + c) / 10 : Nat) : Int) := by
        rw [hcs, Int.tdiv_eq_ediv_of_nonneg (by omega), w64 (by omega) (by omega), Int.natCast_ediv]; rfl
      refine runS_x (I := inf) (J := jnf) ⟨false, false, [], 0, 0⟩ 9999 rfl (by repeat (first | exact obs_nil | refine obs_draw (by kernel_rfl) ?_ | refine obs_same ?_ | refine obs_and ?_ | refine obs_by (by (simp [inB, hjt] <;> omega)) ?_)) ?_
      refine runS_tell 0 (rowN (updF p j ((p j + c) % 10))) rfl (m' := N) rfl (fun k hk => rowN_upd (congrArg (fun z => [iv z]) e1) k) rfl ?_
      exact ih3 (j + 1, (p j + c) / 10, updF p j ((p j + c) % 10)) _ _ (by dsimp only; omega) ⟨⟨rfl, congrArg iv e2, congrArg iv hw3⟩, rfl, by dsimp only; omega, hst⟩
    · have hje : j = N := by
        have := of_decide_eq_false (show decide ((j : Int) < (N : Int)) = false from h3)
        omega
      subst hje
      obtain ⟨hv, hdg⟩ := carI_end hlp hC
      refine rX rfl ?_
      refine runS_tell 0 (natR (listF p j)) rfl (m' := j) rfl (fun k hk => natR_listF p hk) rfl ?_
      refine runS_freeze 65 rfl rfl rfl (fun k hk => rfl) ?_
      have hc := r_trim none (listF p j) (by rw [listF_len]; omega) hdg
      unfold natS at hc
      rw [listF_len] at hc
      refine runS_call rfl rfl rfl rfl rfl rfl rfl hc ?_
      refine rX rfl ?_
      refine runS_ret (I := inf) 0 rfl (Nat.le_refl _) rfl .nil rfl ⟨?_, rfl⟩
      unfold trim
      rw [hv]
      rfl
end Go.Iron.Tryz

/- The digits' seat: the reference's exact numbers. -/
namespace Go.Iron.Tryz
open Go.Proofs Go.RowKit Go.Iron.Tok Go.Iron.Dg

structure ExFit (x : Ex) (l : Nat) : Prop where
  num : (frm x.num).length ≤ l
  den : (frm x.den).length ≤ l
theorem r_wholeZ (n : Int) (hn : n.natAbs < 4611686018427387904) : CallT Tryz.prog 60 [iv n] [] (fun o A => o = .ret (exA ⟨decide (n < 0), n.natAbs, 1⟩) ∧ A = []) := by
  refine callS_body (n := 16) rfl rfl fun w ρ X => ?_
  refine runS_x (I := inf) (J := jnf) ⟨false, false, [], 0, 0⟩ 9 rfl ob1 ?_
  refine runS_tell 1 (natR [1]) rfl (m' := 1) rfl (fun i hi => by
    have : i = 0 := by omega
    subst this
    rfl) rfl ?_
  refine runS_freeze 6 rfl rfl rfl (fun j hj => rfl) ?_
  refine rX rfl ?_
  have h1 : exA ⟨decide (n < 0), n.natAbs, 1⟩ = .agg [bv (decide (n < 0)), natS none (frm n.natAbs), natS none [1]] := by rw [← frm_one]
  rw [h1]
  refine runS_cond rfl (fun h => ?_) (fun h => ?_)
  · have h0 : n < 0 := of_decide_eq_true h
    have hf := r_from n.natAbs hn
    rw [show ((n.natAbs : Nat) : Int) = IntKind.wrap .i64 (0 - n) by rw [w64 (by omega) (by omega)]; omega] at hf
    refine rX rfl ?_
    refine runS_call rfl rfl rfl rfl rfl rfl rfl hf ?_
    refine rX rfl ?_
    refine runS_ret (I := inf) 0 rfl (Nat.le_refl _) rfl .nil rfl ⟨?_, rfl⟩
    rfl
  · have h0 : ¬ n < 0 := of_decide_eq_false h
    have hf := r_from n.natAbs hn
    rw [show ((n.natAbs : Nat) : Int) = n by omega] at hf
    refine rX rfl ?_
    refine runS_call rfl rfl rfl rfl rfl rfl rfl hf ?_
    refine rX rfl ?_
    refine runS_ret (I := inf) 0 rfl (Nat.le_refl _) rfl .nil rfl ⟨?_, rfl⟩
    rfl
theorem r_pow10Z (q : Int) (h0 : 0 ≤ q) (hq : q ≤ 1000) : CallT Tryz.prog 61 [iv 10, iv q] [] (fun o A => o = .ret (natS none (frm (10 ^ q.toNat))) ∧ A = []) := by
  have h := r_pow10 q.toNat (by omega)
  rw [show ((q.toNat : Nat) : Int) = q by omega] at h
  exact h
theorem r_pow2Z (q : Int) (h0 : 0 ≤ q) (hq : q ≤ 60) : CallT Tryz.prog 61 [iv 2, iv q] [] (fun o A => o = .ret (natS none (frm (2 ^ q.toNat))) ∧ A = []) := by
  have h := r_pow2 q.toNat (by omega)
  rw [show ((q.toNat : Nat) : Int) = q by omega] at h
  exact h
theorem r_of (v : Vl) (hr : v.right = true) (hk : numK v.kind = true) : CallT Tryz.prog 17 [.agg (vlE v)] [] (fun o A => o = .ret (exA (ofE v.kind v.n v.q)) ∧ A = []) := by
  obtain ⟨kd, n, q, s⟩ := v
  obtain ⟨h1, h2, h3, h4, h5, h6⟩ := right_num hr hk
  dsimp only at h1 h2 h3 h4 h5 h6 ⊢
  have hw := r_wholeZ n (by omega)
  have hln : (frm n.natAbs).length ≤ 15 := frm_len_lt.2 (by omega)
  rcases h2 with rfl | rfl | rfl
  · have hE : ofE 1 n q = ⟨decide (n < 0), n.natAbs, 2 ^ q.toNat⟩ := by simp [ofE]
    have := h3 (by decide)
    rw [hE]
    refine callS_body (n := 39) rfl rfl fun w ρ X => ?_
    refine rX rfl ?_
    refine runS_call rfl rfl rfl rfl rfl rfl rfl hw ?_
    refine rX rfl ?_
    refine runS_cond rfl (fun h => ?_) (fun h => by cases h)
    refine rX rfl ?_
    refine runS_call rfl rfl rfl rfl rfl rfl rfl (r_pow2Z q (by omega) (by omega)) ?_
    refine rX rfl ?_
    refine runS_ret (I := inf) 0 rfl (Nat.le_refl _) rfl .nil rfl ⟨?_, rfl⟩
    rfl
  · have hE : ofE 2 n q = ⟨decide (n < 0), n.natAbs, 10 ^ q.toNat⟩ := by simp [ofE]
    have := h3 (by decide)
    rw [hE]
    refine callS_body (n := 39) rfl rfl fun w ρ X => ?_
    refine rX rfl ?_
    refine runS_call rfl rfl rfl rfl rfl rfl rfl hw ?_
    refine rX rfl ?_
    refine runS_cond rfl (fun h => by cases h) (fun h => ?_)
    refine rX rfl ?_
    refine runS_cond rfl (fun h => ?_) (fun h => by cases h)
    refine rX rfl ?_
    refine runS_call rfl rfl rfl rfl rfl rfl rfl (r_pow10Z q (by omega) (by omega)) ?_
    refine rX rfl ?_
    refine runS_ret (I := inf) 0 rfl (Nat.le_refl _) rfl .nil rfl ⟨?_, rfl⟩
    rfl
  · have := h4 rfl
    refine callS_body (n := 39) rfl rfl fun w ρ X => ?_
    refine rX rfl ?_
    refine runS_call rfl rfl rfl rfl rfl rfl rfl hw ?_
    refine rX rfl ?_
    refine runS_cond rfl (fun h => by cases h) (fun h => ?_)
    refine rX rfl ?_
    refine runS_cond rfl (fun h => by cases h) (fun h => ?_)
    refine rX rfl ?_
    refine runS_cond rfl (fun h => ?_) (fun h => by cases h)
    refine rX rfl ?_
    refine runS_cond rfl (fun h => ?_) (fun h => ?_)
    · have hq0 : 0 ≤ q := of_decide_eq_true h
      have hE : ofE 3 n q = ⟨decide (n < 0), n.natAbs * 10 ^ q.toNat, 1⟩ := by
        have : (-q).toNat = 0 := by omega
        simp [ofE, this]
      rw [hE]
      have hpl : (frm (10 ^ q.toNat)).length ≤ 100 := by rw [frm_pow]; simp; omega
      have hm := r_mul none none n.natAbs (10 ^ q.toNat) (by omega) (by omega)
      refine rX rfl ?_
      refine runS_drawG (ch := []) (A2 := fun _ => []) 6 [] (fun _ => [.box 23 (vaE 3 n q s), .box 35 [bv false, .val (.slice none 0 0), .val (.slice none 0 0)], .box 35 [bv (decide (n < 0)), natS none (frm n.natAbs), natS none (frm 1)]]) none (c := 9) jnfI.draw (by kernel_rfl) rfl (lexg_g (I := inf) (J := jnf) none ⟨_, rfl, ob0⟩ rfl rfl rfl rfl (lexg_g (I := inf) (J := jnf) none ⟨_, rfl, ob0⟩ rfl rfl rfl rfl (lexg_g (I := inf) (J := jnf) none ⟨_, rfl, ob0⟩ rfl rfl rfl rfl (lexg_g (I := inf) (J := jnf) none ⟨_, rfl, ob0⟩ rfl rfl rfl rfl (lexg_call rfl rfl rfl rfl rfl rfl rfl rfl rfl (r_pow10Z q (by omega) (by omega)) (lexg_call rfl rfl rfl rfl rfl rfl rfl rfl rfl hm lexg_nil)))))) rfl (fun _ => ?_) (fun h => by cases h)
      refine rX rfl ?_
      refine runS_ret (I := inf) 0 rfl (Nat.le_refl _) rfl .nil rfl ⟨?_, rfl⟩
      rfl
    · have hq0 : ¬ 0 ≤ q := of_decide_eq_false h
      have hE : ofE 3 n q = ⟨decide (n < 0), n.natAbs, 10 ^ (-q).toNat⟩ := by
        have : q.toNat = 0 := by omega
        simp [ofE, this]
      rw [hE]
      have hp := r_pow10Z (-q) (by omega) (by omega)
      rw [show -q = IntKind.wrap .i64 (0 - q) by rw [w64 (by omega) (by omega)]; omega] at hp
      rw [show -q = IntKind.wrap .i64 (0 - q) by rw [w64 (by omega) (by omega)]; omega]
      refine rX rfl ?_
      refine runS_call rfl rfl rfl rfl rfl rfl rfl hp ?_
      refine rX rfl ?_
      refine runS_ret (I := inf) 0 rfl (Nat.le_refl _) rfl .nil rfl ⟨?_, rfl⟩
      rfl
theorem r_turn (x : Ex) (hx : ExFit x 4000) : CallT Tryz.prog 63 [exA x] [] (fun o A => o = .ret (exA (turnE x)) ∧ A = []) := by
  have := hx.num
  refine callS_body (n := 14) rfl rfl fun w ρ X => ?_
  refine rX rfl ?_
  refine runS_ret (I := inf) 0 rfl (Nat.le_refl _) rfl .nil rfl ⟨?_, rfl⟩
  show Out.ret (.agg [bv (if (!x.neg) = true then decide (((frm x.num).length : Int) > 0) else false), natS none (frm x.num), natS none (frm x.den)]) = _
  have e : (if (!x.neg) = true then decide (((frm x.num).length : Int) > 0) else false) = (!x.neg && decide (x.num ≠ 0)) := by
    have hl := frm_len0 (x := x.num)
    rw [Bool.eq_iff_iff]
    cases x.neg <;> simp <;> omega
  rw [e]
  rfl
end Go.Iron.Tryz

/- The digits' seat: values of a type, zeros of a type (program and reference). -/
namespace Go.Iron.Tryz
open Go.Proofs Go.RowKit Go.Iron.Tok Go.Iron.Dg

def hasK (t : Typ) (v : Vl) : Bool :=
  if t.kind = 1 ∨ t.kind = 2 then (v.q == t.q) && decide (v.n.natAbs < bsN t.kind ^ t.p.toNat)
  else if t.kind = 3 then decide ((frm v.n.natAbs).length ≤ t.p.toNat)
  else if t.kind = 4 ∨ t.kind = 5 then ((v.s.length : Int) == t.n) || t.vary && decide ((v.s.length : Int) < t.n)
  else true
def hasB (t : Typ) (v : Vl) : Bool := validT t && v.right && (t.kind == v.kind) && hasK t v
theorem right_n {v : Vl} (h : v.right = true) : -1000000000000000 < v.n ∧ v.n < 1000000000000000 := by
  unfold Vl.right rightB at h
  split at h
  · simp at h; omega
  · split at h
    · simp at h; omega
    · split at h
      · by_cases hn : v.n = 0
        · omega
        · rw [if_neg hn] at h
          simp at h
          omega
      · split at h
        · simp at h; omega
        · split at h
          · simp at h; omega
          · split at h
            · simp at h; omega
            · split at h
              · simp at h; omega
              · cases h
theorem hasG_eq (vt vr : Bool) (k k2 : Int) : (if (if (!vt) = true then true else !vr) = true then true else (k != k2)) = !(vt && vr && (k == k2)) := by
  cases vt <;> cases vr <;> simp [bne]
theorem valid9 {t : Typ} (h : validT t = true) : t.kind = 1 ∨ t.kind = 2 ∨ t.kind = 3 ∨ t.kind = 4 ∨ t.kind = 5 ∨ t.kind = 6 ∨ t.kind = 7 ∨ t.kind = 8 ∨ t.kind = 9 := by
  have := valid_kind h
  omega
theorem num_p {t : Typ} (h : validT t = true) (hk : t.kind = 1 ∨ t.kind = 2 ∨ t.kind = 3) : 1 ≤ t.p ∧ t.p ≤ 31 ∧ 0 ≤ t.q ∧ t.q ≤ 31 ∧ (t.kind ≠ 1 → t.p ≤ 15) := by
  have hk2 : numK t.kind = true := by rcases hk with h | h | h <;> rw [h] <;> rfl
  obtain ⟨P, Q, hP, hQ, h1, h2, h3, h4⟩ := valid_num h hk2
  omega
theorem d_has (t : Typ) (v : Vl) : CallT Tryz.prog 33 [.agg (typE t), .agg (vlE v)] [] (fun o A => o = .ret (bv (hasB t v)) ∧ A = []) := by
  by_cases hg : (validT t && v.right && (t.kind == v.kind)) = true
  · have hB : hasB t v = hasK t v := by unfold hasB; rw [hg]; rfl
    simp only [Bool.and_eq_true, beq_iff_eq] at hg
    obtain ⟨⟨hvt, hvr⟩, hkk⟩ := hg
    obtain ⟨hn1, hn2⟩ := right_n hvr
    have hab : (if IntKind.wrap .i64 (0 - v.n) > v.n then IntKind.wrap .i64 (0 - v.n) else v.n) = ((v.n.natAbs : Nat) : Int) := by
      rw [w64 (by omega) (by omega)]
      split <;> omega
    have hof : CallT Tryz.prog 87 [.val (.int .i64 (if IntKind.wrap .i64 (0 - v.n) > v.n then IntKind.wrap .i64 (0 - v.n) else v.n))] [] (fun o A => o = .ret (limS none (frm v.n.natAbs)) ∧ A = []) := by rw [hab]; exact d_of v.n.natAbs (by omega)
    rw [hB]
    have h9 := valid9 hvt
    have hnp := num_p hvt
    have hvd := d_valid t
    have hrd := d_right v.kind v.n v.q v.s
    rw [show rightB v.kind v.n v.q v.s = true from hvr] at hrd
    rw [hvt] at hvd
    clear hB
    obtain ⟨kd, p, q, n, vy, pc⟩ := t
    obtain ⟨kd2, vn, vq, vs⟩ := v
    dsimp only at *
    subst hkk
    rcases h9 with rfl | rfl | rfl | rfl | rfl | rfl | rfl | rfl | rfl
    · obtain ⟨hp1, hp2, hp3, hp4, hp5⟩ := hnp (.inl rfl)
      obtain ⟨P, rfl⟩ : ∃ P : Nat, p = (P : Int) := ⟨p.toNat, by omega⟩
      have hsh : IntKind.wrap .i64 (1 * 2 ^ (min ((P : Int)).toNat 64)) = ((2 ^ P : Nat) : Int) := by
        have h2 : 2 ^ P ≤ 2 ^ 31 := Nat.pow_le_pow_right (by decide) (by omega)
        have h3 : (2 : Nat) ^ 31 = 2147483648 := by decide
        have h4 : 0 < 2 ^ P := Nat.pow_pos (by decide)
        rw [Int.toNat_natCast, Nat.min_eq_left (by omega), Int.one_mul]
        have e : (2 : Int) ^ P = ((2 ^ P : Nat) : Int) := by rw [Int.natCast_pow]; rfl
        rw [e, w64 (by omega) (by omega)]
      refine callS_body (n := 87) rfl rfl fun w ρ X => ?_
      refine rX rfl ?_
      refine runS_call rfl rfl rfl rfl rfl rfl rfl hvd ?_
      refine rX rfl ?_
      refine runS_callU rfl rfl (by first | exact .v rfl rfl rfl rfl | exact .o rfl rfl rfl rfl) rfl rfl (by repeat (first | exact .nil | refine .cons (.n rfl) ?_ | refine .cons .o ?_ | refine .cons gok_and ?_)) rfl rfl rfl rfl rfl (fun _ => hrd) ?_
      refine rX rfl ?_
      refine runS_cond rfl (fun h => by rw [hasG_eq] at h; simp at h) (fun h => ?_)
      refine rX rfl ?_
      refine runS_cond rfl (fun h => ?_) (fun h => by cases h)
      refine rX rfl ?_
      refine runS_ret (I := inf) 0 rfl (Nat.le_refl _) rfl .nil rfl ⟨?_, rfl⟩
      refine congrArg (fun x => Out.ret (bv x)) ?_
      show (if (vq == q) = true then decide ((if IntKind.wrap .i64 (0 - vn) > vn then IntKind.wrap .i64 (0 - vn) else vn) < IntKind.wrap .i64 (1 * 2 ^ (min ((P : Int)).toNat 64))) else false) = ((vq == q) && decide (vn.natAbs < 2 ^ ((P : Int)).toNat))
      rw [hab, hsh, Int.toNat_natCast]
      rw [show decide (((vn.natAbs : Nat) : Int) < ((2 ^ P : Nat) : Int)) = decide (vn.natAbs < 2 ^ P) by rw [Bool.eq_iff_iff, decide_eq_true_iff, decide_eq_true_iff]; omega]
      cases vq == q <;> rfl
    · obtain ⟨hp1, hp2, hp3, hp4, hp5⟩ := hnp (.inr (.inl rfl))
      obtain ⟨P, rfl⟩ : ∃ P : Nat, p = (P : Int) := ⟨p.toNat, by omega⟩
      refine callS_body (n := 87) rfl rfl fun w ρ X => ?_
      refine rX rfl ?_
      refine runS_call rfl rfl rfl rfl rfl rfl rfl hvd ?_
      refine rX rfl ?_
      refine runS_callU rfl rfl (by first | exact .v rfl rfl rfl rfl | exact .o rfl rfl rfl rfl) rfl rfl (by repeat (first | exact .nil | refine .cons (.n rfl) ?_ | refine .cons .o ?_ | refine .cons gok_and ?_)) rfl rfl rfl rfl rfl (fun _ => hrd) ?_
      refine rX rfl ?_
      refine runS_cond rfl (fun h => by rw [hasG_eq] at h; simp at h) (fun h => ?_)
      refine rX rfl ?_
      refine runS_cond rfl (fun h => by cases h) (fun h => ?_)
      refine rX rfl ?_
      refine runS_cond rfl (fun h => ?_) (fun h => by cases h)
      refine rX rfl ?_
      refine runS_draw 11 (by kernel_rfl) (lexj_x (I := inf) (J := jnf) 99 rfl rfl ob0 (lexj_callU rfl rfl (by first | exact .v rfl rfl rfl rfl | exact .o rfl rfl rfl rfl) rfl rfl (by repeat (first | exact .nil | refine .cons (.n rfl) ?_ | refine .cons .o ?_ | refine .cons gok_and ?_)) rfl rfl rfl rfl rfl (fun hcond => hof) (lexj_x (I := inf) (J := jnf) 99 rfl rfl ob0 lexj_nil))) ?_
      refine rX rfl ?_
      refine runS_ret (I := inf) 0 rfl (Nat.le_refl _) rfl .nil rfl ⟨?_, rfl⟩
      refine congrArg (fun x => Out.ret (bv x)) ?_
      show (if (vq == q) = true then decide (((frm vn.natAbs).length : Int) ≤ (P : Int)) else false) = ((vq == q) && decide (vn.natAbs < 10 ^ ((P : Int)).toNat))
      rw [Int.toNat_natCast]
      have hl := frm_len_lt (n := vn.natAbs) (k := P)
      rw [show decide (((frm vn.natAbs).length : Int) ≤ (P : Int)) = decide (vn.natAbs < 10 ^ P) by rw [Bool.eq_iff_iff, decide_eq_true_iff, decide_eq_true_iff]; omega]
      cases vq == q <;> rfl
    · obtain ⟨hp1, hp2, hp3, hp4, hp5⟩ := hnp (.inr (.inr rfl))
      obtain ⟨P, rfl⟩ : ∃ P : Nat, p = (P : Int) := ⟨p.toNat, by omega⟩
      refine callS_body (n := 87) rfl rfl fun w ρ X => ?_
      refine rX rfl ?_
      refine runS_call rfl rfl rfl rfl rfl rfl rfl hvd ?_
      refine rX rfl ?_
      refine runS_callU rfl rfl (by first | exact .v rfl rfl rfl rfl | exact .o rfl rfl rfl rfl) rfl rfl (by repeat (first | exact .nil | refine .cons (.n rfl) ?_ | refine .cons .o ?_ | refine .cons gok_and ?_)) rfl rfl rfl rfl rfl (fun _ => hrd) ?_
      refine rX rfl ?_
      refine runS_cond rfl (fun h => by rw [hasG_eq] at h; simp at h) (fun h => ?_)
      refine rX rfl ?_
      refine runS_cond rfl (fun h => by cases h) (fun h => ?_)
      refine rX rfl ?_
      refine runS_cond rfl (fun h => by cases h) (fun h => ?_)
      refine rX rfl ?_
      refine runS_cond rfl (fun h => ?_) (fun h => by cases h)
      refine rX rfl ?_
      refine runS_draw 5 (by kernel_rfl) (lexj_x (I := inf) (J := jnf) 99 rfl rfl ob0 (lexj_call rfl rfl rfl rfl rfl rfl rfl rfl hof (lexj_x (I := inf) (J := jnf) 99 rfl rfl ob0 lexj_nil))) ?_
      refine rX rfl ?_
      refine runS_ret (I := inf) 0 rfl (Nat.le_refl _) rfl .nil rfl ⟨?_, rfl⟩
      refine congrArg (fun x => Out.ret (bv x)) ?_
      show decide (((frm vn.natAbs).length : Int) ≤ (P : Int)) = decide ((frm vn.natAbs).length ≤ ((P : Int)).toNat)
      rw [Int.toNat_natCast, Bool.eq_iff_iff, decide_eq_true_iff, decide_eq_true_iff]
      omega
    · clear hnp
      refine callS_body (n := 87) rfl rfl fun w ρ X => ?_
      refine rX rfl ?_
      refine runS_call rfl rfl rfl rfl rfl rfl rfl hvd ?_
      refine rX rfl ?_
      refine runS_callU rfl rfl (by first | exact .v rfl rfl rfl rfl | exact .o rfl rfl rfl rfl) rfl rfl (by repeat (first | exact .nil | refine .cons (.n rfl) ?_ | refine .cons .o ?_ | refine .cons gok_and ?_)) rfl rfl rfl rfl rfl (fun _ => hrd) ?_
      refine rX rfl ?_
      refine runS_cond rfl (fun h => by rw [hasG_eq] at h; simp at h) (fun h => ?_)
      refine rX rfl ?_
      refine runS_cond rfl (fun h => by cases h) (fun h => ?_)
      refine rX rfl ?_
      refine runS_cond rfl (fun h => by cases h) (fun h => ?_)
      refine rX rfl ?_
      refine runS_cond rfl (fun h => by cases h) (fun h => ?_)
      refine rX rfl ?_
      refine runS_cond rfl (fun h => ?_) (fun h => by cases h)
      refine rX rfl ?_
      refine runS_cond rfl (fun h => ?_) (fun h => by cases h)
      refine rX rfl ?_
      refine runS_ret (I := inf) 0 rfl (Nat.le_refl _) rfl .nil rfl ⟨?_, rfl⟩
      refine congrArg (fun x => Out.ret (bv x)) ?_
      show (if ((((bl (bs vs)).length : Nat) : Int) == n) = true then true else (if vy = true then decide ((((bl (bs vs)).length : Nat) : Int) < n) else false)) = (((vs.length : Int) == n) || vy && decide ((vs.length : Int) < n))
      rw [blS]
      cases vy <;> cases ((vs.length : Int) == n) <;> rfl
    · clear hnp
      refine callS_body (n := 87) rfl rfl fun w ρ X => ?_
      refine rX rfl ?_
      refine runS_call rfl rfl rfl rfl rfl rfl rfl hvd ?_
      refine rX rfl ?_
      refine runS_callU rfl rfl (by first | exact .v rfl rfl rfl rfl | exact .o rfl rfl rfl rfl) rfl rfl (by repeat (first | exact .nil | refine .cons (.n rfl) ?_ | refine .cons .o ?_ | refine .cons gok_and ?_)) rfl rfl rfl rfl rfl (fun _ => hrd) ?_
      refine rX rfl ?_
      refine runS_cond rfl (fun h => by rw [hasG_eq] at h; simp at h) (fun h => ?_)
      refine rX rfl ?_
      refine runS_cond rfl (fun h => by cases h) (fun h => ?_)
      refine rX rfl ?_
      refine runS_cond rfl (fun h => by cases h) (fun h => ?_)
      refine rX rfl ?_
      refine runS_cond rfl (fun h => by cases h) (fun h => ?_)
      refine rX rfl ?_
      refine runS_cond rfl (fun h => by cases h) (fun h => ?_)
      refine rX rfl ?_
      refine runS_cond rfl (fun h => ?_) (fun h => by cases h)
      refine rX rfl ?_
      refine runS_ret (I := inf) 0 rfl (Nat.le_refl _) rfl .nil rfl ⟨?_, rfl⟩
      refine congrArg (fun x => Out.ret (bv x)) ?_
      show (if ((((bl (bs vs)).length : Nat) : Int) == n) = true then true else (if vy = true then decide ((((bl (bs vs)).length : Nat) : Int) < n) else false)) = (((vs.length : Int) == n) || vy && decide ((vs.length : Int) < n))
      rw [blS]
      cases vy <;> cases ((vs.length : Int) == n) <;> rfl
    · clear hnp
      refine callS_body (n := 87) rfl rfl fun w ρ X => ?_
      refine rX rfl ?_
      refine runS_call rfl rfl rfl rfl rfl rfl rfl hvd ?_
      refine rX rfl ?_
      refine runS_callU rfl rfl (by first | exact .v rfl rfl rfl rfl | exact .o rfl rfl rfl rfl) rfl rfl (by repeat (first | exact .nil | refine .cons (.n rfl) ?_ | refine .cons .o ?_ | refine .cons gok_and ?_)) rfl rfl rfl rfl rfl (fun _ => hrd) ?_
      refine rX rfl ?_
      refine runS_cond rfl (fun h => by rw [hasG_eq] at h; simp at h) (fun h => ?_)
      refine rX rfl ?_
      refine runS_cond rfl (fun h => by cases h) (fun h => ?_)
      refine rX rfl ?_
      refine runS_cond rfl (fun h => by cases h) (fun h => ?_)
      refine rX rfl ?_
      refine runS_cond rfl (fun h => by cases h) (fun h => ?_)
      refine rX rfl ?_
      refine runS_cond rfl (fun h => by cases h) (fun h => ?_)
      refine rX rfl ?_
      refine runS_cond rfl (fun h => by cases h) (fun h => ?_)
      refine rX rfl ?_
      refine runS_ret (I := inf) 0 rfl (Nat.le_refl _) rfl .nil rfl ⟨?_, rfl⟩
      rfl
    · clear hnp
      refine callS_body (n := 87) rfl rfl fun w ρ X => ?_
      refine rX rfl ?_
      refine runS_call rfl rfl rfl rfl rfl rfl rfl hvd ?_
      refine rX rfl ?_
      refine runS_callU rfl rfl (by first | exact .v rfl rfl rfl rfl | exact .o rfl rfl rfl rfl) rfl rfl (by repeat (first | exact .nil | refine .cons (.n rfl) ?_ | refine .cons .o ?_ | refine .cons gok_and ?_)) rfl rfl rfl rfl rfl (fun _ => hrd) ?_
      refine rX rfl ?_
      refine runS_cond rfl (fun h => by rw [hasG_eq] at h; simp at h) (fun h => ?_)
      refine rX rfl ?_
      refine runS_cond rfl (fun h => by cases h) (fun h => ?_)
      refine rX rfl ?_
      refine runS_cond rfl (fun h => by cases h) (fun h => ?_)
      refine rX rfl ?_
      refine runS_cond rfl (fun h => by cases h) (fun h => ?_)
      refine rX rfl ?_
      refine runS_cond rfl (fun h => by cases h) (fun h => ?_)
      refine rX rfl ?_
      refine runS_cond rfl (fun h => by cases h) (fun h => ?_)
      refine rX rfl ?_
      refine runS_ret (I := inf) 0 rfl (Nat.le_refl _) rfl .nil rfl ⟨?_, rfl⟩
      rfl
    · clear hnp
      refine callS_body (n := 87) rfl rfl fun w ρ X => ?_
      refine rX rfl ?_
      refine runS_call rfl rfl rfl rfl rfl rfl rfl hvd ?_
      refine rX rfl ?_
      refine runS_callU rfl rfl (by first | exact .v rfl rfl rfl rfl | exact .o rfl rfl rfl rfl) rfl rfl (by repeat (first | exact .nil | refine .cons (.n rfl) ?_ | refine .cons .o ?_ | refine .cons gok_and ?_)) rfl rfl rfl rfl rfl (fun _ => hrd) ?_
      refine rX rfl ?_
      refine runS_cond rfl (fun h => by rw [hasG_eq] at h; simp at h) (fun h => ?_)
      refine rX rfl ?_
      refine runS_cond rfl (fun h => by cases h) (fun h => ?_)
      refine rX rfl ?_
      refine runS_cond rfl (fun h => by cases h) (fun h => ?_)
      refine rX rfl ?_
      refine runS_cond rfl (fun h => by cases h) (fun h => ?_)
      refine rX rfl ?_
      refine runS_cond rfl (fun h => by cases h) (fun h => ?_)
      refine rX rfl ?_
      refine runS_cond rfl (fun h => by cases h) (fun h => ?_)
      refine rX rfl ?_
      refine runS_ret (I := inf) 0 rfl (Nat.le_refl _) rfl .nil rfl ⟨?_, rfl⟩
      rfl
    · clear hnp
      refine callS_body (n := 87) rfl rfl fun w ρ X => ?_
      refine rX rfl ?_
      refine runS_call rfl rfl rfl rfl rfl rfl rfl hvd ?_
      refine rX rfl ?_
      refine runS_callU rfl rfl (by first | exact .v rfl rfl rfl rfl | exact .o rfl rfl rfl rfl) rfl rfl (by repeat (first | exact .nil | refine .cons (.n rfl) ?_ | refine .cons .o ?_ | refine .cons gok_and ?_)) rfl rfl rfl rfl rfl (fun _ => hrd) ?_
      refine rX rfl ?_
      refine runS_cond rfl (fun h => by rw [hasG_eq] at h; simp at h) (fun h => ?_)
      refine rX rfl ?_
      refine runS_cond rfl (fun h => by cases h) (fun h => ?_)
      refine rX rfl ?_
      refine runS_cond rfl (fun h => by cases h) (fun h => ?_)
      refine rX rfl ?_
      refine runS_cond rfl (fun h => by cases h) (fun h => ?_)
      refine rX rfl ?_
      refine runS_cond rfl (fun h => by cases h) (fun h => ?_)
      refine rX rfl ?_
      refine runS_cond rfl (fun h => by cases h) (fun h => ?_)
      refine rX rfl ?_
      refine runS_ret (I := inf) 0 rfl (Nat.le_refl _) rfl .nil rfl ⟨?_, rfl⟩
      rfl
  · have hB : hasB t v = false := by unfold hasB; rw [show (validT t && v.right && (t.kind == v.kind)) = false by simpa using hg]; rfl
    rw [hB]
    refine callS_body (n := 87) rfl rfl fun w ρ X => ?_
    refine rX rfl ?_
    refine runS_call rfl rfl rfl rfl rfl rfl rfl (d_valid t) ?_
    refine rX rfl ?_
    refine runS_callU rfl rfl (by first | exact .v rfl rfl rfl rfl | exact .o rfl rfl rfl rfl) rfl rfl (by repeat (first | exact .nil | refine .cons (.n rfl) ?_ | refine .cons .o ?_ | refine .cons gok_and ?_)) rfl rfl rfl rfl rfl (fun _ => (d_right v.kind v.n v.q v.s)) ?_
    refine rX rfl ?_
    refine runS_cond rfl (fun h => ?_) (fun h => ?_)
    · refine rX rfl ?_
      refine runS_ret (I := inf) 0 rfl (Nat.le_refl _) rfl .nil rfl ⟨?_, rfl⟩
      rfl
    · exfalso
      have h' := (hasG_eq (validT t) v.right t.kind v.kind).symm.trans h
      rw [Bool.not_eq_false'] at h'
      exact hg h'
theorem r_has (t : Typ) (v : Vl) : CallT Tryz.prog 26 [.agg (typE t), .agg (vlE v)] [] (fun o A => o = .ret (bv (hasB t v)) ∧ A = []) := by
  by_cases hg : (validT t && v.right && (t.kind == v.kind)) = true
  · have hB : hasB t v = hasK t v := by unfold hasB; rw [hg]; rfl
    simp only [Bool.and_eq_true, beq_iff_eq] at hg
    obtain ⟨⟨hvt, hvr⟩, hkk⟩ := hg
    obtain ⟨hn1, hn2⟩ := right_n hvr
    have hsz := r_size v.n (by omega)
    have hwh := r_wholeZ v.n (by omega)
    have hln : (frm v.n.natAbs).length ≤ 15 := frm_len_lt.2 (by omega)
    rw [hB]
    have h9 := valid9 hvt
    have hnp := num_p hvt
    have hvd := r_valid t
    have hrd := r_right v.kind v.n v.q v.s
    rw [show rightB v.kind v.n v.q v.s = true from hvr] at hrd
    rw [hvt] at hvd
    clear hB
    obtain ⟨kd, p, q, n, vy, pc⟩ := t
    obtain ⟨kd2, vn, vq, vs⟩ := v
    dsimp only at *
    subst hkk
    rcases h9 with rfl | rfl | rfl | rfl | rfl | rfl | rfl | rfl | rfl
    · obtain ⟨hp1, hp2, hp3, hp4, hp5⟩ := hnp (.inl rfl)
      obtain ⟨P, rfl⟩ : ∃ P : Nat, p = (P : Int) := ⟨p.toNat, by omega⟩
      have hpl : (frm (2 ^ P)).length ≤ 32 := frm_len_lt.2 (Nat.lt_of_le_of_lt (Nat.pow_le_pow_left (by decide : 2 ≤ 10) P) (Nat.pow_lt_pow_right (by decide) (by omega)))
      have hcp := r_cmp none none (frm vn.natAbs) (frm (2 ^ P)) (by omega) (by omega)
      have hcl := cmpT_lt vn.natAbs (2 ^ P)
      refine callS_body (n := 74) rfl rfl fun w ρ X => ?_
      refine rX rfl ?_
      refine runS_call rfl rfl rfl rfl rfl rfl rfl hvd ?_
      refine rX rfl ?_
      refine runS_callU rfl rfl (by first | exact .v rfl rfl rfl rfl | exact .o rfl rfl rfl rfl) rfl rfl (by repeat (first | exact .nil | refine .cons (.n rfl) ?_ | refine .cons .o ?_ | refine .cons gok_and ?_)) rfl rfl rfl rfl rfl (fun _ => hrd) ?_
      refine rX rfl ?_
      refine runS_cond rfl (fun h => by rw [hasG_eq] at h; simp at h) (fun h => ?_)
      refine rX rfl ?_
      refine runS_cond rfl (fun h => ?_) (fun h => by cases h)
      refine rX rfl ?_
      refine runS_cond rfl (fun h => ?_) (fun h => by cases h)
      refine rX rfl ?_
      refine runS_draw 4 (by kernel_rfl) (lexj_x (I := inf) (J := jnf) 99 rfl rfl ob0 (lexj_call rfl rfl rfl rfl rfl rfl rfl rfl (r_base 1 P q n vy pc) (lexj_x (I := inf) (J := jnf) 99 rfl rfl ob0 lexj_nil))) ?_
      refine rX rfl ?_
      refine runS_call rfl rfl rfl rfl rfl rfl rfl (r_pow2 P (by omega)) ?_
      refine rX rfl ?_
      refine runS_callU rfl rfl (by first | exact .v rfl rfl rfl rfl | exact .o rfl rfl rfl rfl) rfl rfl (by repeat (first | exact .nil | refine .cons (.n rfl) ?_ | refine .cons .o ?_ | refine .cons gok_and ?_)) rfl rfl rfl rfl rfl (fun _ => hwh) ?_
      refine rX rfl ?_
      refine runS_callU rfl rfl (by first | exact .v rfl rfl rfl rfl | exact .o rfl rfl rfl rfl) rfl rfl (by repeat (first | exact .nil | refine .cons (.n rfl) ?_ | refine .cons .o ?_ | refine .cons gok_and ?_)) rfl rfl rfl rfl rfl (fun _ => hcp) ?_
      refine rX rfl ?_
      refine runS_ret (I := inf) 0 rfl (Nat.le_refl _) rfl .nil rfl ⟨?_, rfl⟩
      refine congrArg (fun x => Out.ret (bv x)) ?_
      show (if (vq == q) = true then decide (cmpT (frm vn.natAbs) (frm (2 ^ P)) < 0) else false) = ((vq == q) && decide (vn.natAbs < 2 ^ ((P : Int)).toNat))
      rw [Int.toNat_natCast, show decide (cmpT (frm vn.natAbs) (frm (2 ^ P)) < 0) = decide (vn.natAbs < 2 ^ P) by rw [Bool.eq_iff_iff, decide_eq_true_iff, decide_eq_true_iff]; exact hcl]
      cases vq == q <;> rfl
    · obtain ⟨hp1, hp2, hp3, hp4, hp5⟩ := hnp (.inr (.inl rfl))
      obtain ⟨P, rfl⟩ : ∃ P : Nat, p = (P : Int) := ⟨p.toNat, by omega⟩
      have hpl : (frm (10 ^ P)).length ≤ 32 := by rw [frm_pow]; simp; omega
      have hcp := r_cmp none none (frm vn.natAbs) (frm (10 ^ P)) (by omega) (by omega)
      have hcl := cmpT_lt vn.natAbs (10 ^ P)
      refine callS_body (n := 74) rfl rfl fun w ρ X => ?_
      refine rX rfl ?_
      refine runS_call rfl rfl rfl rfl rfl rfl rfl hvd ?_
      refine rX rfl ?_
      refine runS_callU rfl rfl (by first | exact .v rfl rfl rfl rfl | exact .o rfl rfl rfl rfl) rfl rfl (by repeat (first | exact .nil | refine .cons (.n rfl) ?_ | refine .cons .o ?_ | refine .cons gok_and ?_)) rfl rfl rfl rfl rfl (fun _ => hrd) ?_
      refine rX rfl ?_
      refine runS_cond rfl (fun h => by rw [hasG_eq] at h; simp at h) (fun h => ?_)
      refine rX rfl ?_
      refine runS_cond rfl (fun h => by cases h) (fun h => ?_)
      refine rX rfl ?_
      refine runS_cond rfl (fun h => ?_) (fun h => by cases h)
      refine rX rfl ?_
      refine runS_draw 4 (by kernel_rfl) (lexj_x (I := inf) (J := jnf) 99 rfl rfl ob0 (lexj_call rfl rfl rfl rfl rfl rfl rfl rfl (r_base 2 P q n vy pc) (lexj_x (I := inf) (J := jnf) 99 rfl rfl ob0 lexj_nil))) ?_
      refine rX rfl ?_
      refine runS_call rfl rfl rfl rfl rfl rfl rfl (r_pow10 P (by omega)) ?_
      refine rX rfl ?_
      refine runS_callU rfl rfl (by first | exact .v rfl rfl rfl rfl | exact .o rfl rfl rfl rfl) rfl rfl (by repeat (first | exact .nil | refine .cons (.n rfl) ?_ | refine .cons .o ?_ | refine .cons gok_and ?_)) rfl rfl rfl rfl rfl (fun _ => hwh) ?_
      refine rX rfl ?_
      refine runS_callU rfl rfl (by first | exact .v rfl rfl rfl rfl | exact .o rfl rfl rfl rfl) rfl rfl (by repeat (first | exact .nil | refine .cons (.n rfl) ?_ | refine .cons .o ?_ | refine .cons gok_and ?_)) rfl rfl rfl rfl rfl (fun _ => hcp) ?_
      refine rX rfl ?_
      refine runS_ret (I := inf) 0 rfl (Nat.le_refl _) rfl .nil rfl ⟨?_, rfl⟩
      refine congrArg (fun x => Out.ret (bv x)) ?_
      show (if (vq == q) = true then decide (cmpT (frm vn.natAbs) (frm (10 ^ P)) < 0) else false) = ((vq == q) && decide (vn.natAbs < 10 ^ ((P : Int)).toNat))
      rw [Int.toNat_natCast, show decide (cmpT (frm vn.natAbs) (frm (10 ^ P)) < 0) = decide (vn.natAbs < 10 ^ P) by rw [Bool.eq_iff_iff, decide_eq_true_iff, decide_eq_true_iff]; exact hcl]
      cases vq == q <;> rfl
    · obtain ⟨hp1, hp2, hp3, hp4, hp5⟩ := hnp (.inr (.inr rfl))
      obtain ⟨P, rfl⟩ : ∃ P : Nat, p = (P : Int) := ⟨p.toNat, by omega⟩
      refine callS_body (n := 74) rfl rfl fun w ρ X => ?_
      refine rX rfl ?_
      refine runS_call rfl rfl rfl rfl rfl rfl rfl hvd ?_
      refine rX rfl ?_
      refine runS_callU rfl rfl (by first | exact .v rfl rfl rfl rfl | exact .o rfl rfl rfl rfl) rfl rfl (by repeat (first | exact .nil | refine .cons (.n rfl) ?_ | refine .cons .o ?_ | refine .cons gok_and ?_)) rfl rfl rfl rfl rfl (fun _ => hrd) ?_
      refine rX rfl ?_
      refine runS_cond rfl (fun h => by rw [hasG_eq] at h; simp at h) (fun h => ?_)
      refine rX rfl ?_
      refine runS_cond rfl (fun h => by cases h) (fun h => ?_)
      refine rX rfl ?_
      refine runS_cond rfl (fun h => by cases h) (fun h => ?_)
      refine rX rfl ?_
      refine runS_cond rfl (fun h => ?_) (fun h => by cases h)
      refine rX rfl ?_
      refine runS_draw 5 (by kernel_rfl) (lexj_x (I := inf) (J := jnf) 99 rfl rfl ob0 (lexj_call rfl rfl rfl rfl rfl rfl rfl rfl hsz (lexj_x (I := inf) (J := jnf) 99 rfl rfl ob0 lexj_nil))) ?_
      refine rX rfl ?_
      refine runS_ret (I := inf) 0 rfl (Nat.le_refl _) rfl .nil rfl ⟨?_, rfl⟩
      refine congrArg (fun x => Out.ret (bv x)) ?_
      show decide (((frm vn.natAbs).length : Int) ≤ (P : Int)) = decide ((frm vn.natAbs).length ≤ ((P : Int)).toNat)
      rw [Int.toNat_natCast, Bool.eq_iff_iff, decide_eq_true_iff, decide_eq_true_iff]
      omega
    · clear hnp
      refine callS_body (n := 74) rfl rfl fun w ρ X => ?_
      refine rX rfl ?_
      refine runS_call rfl rfl rfl rfl rfl rfl rfl hvd ?_
      refine rX rfl ?_
      refine runS_callU rfl rfl (by first | exact .v rfl rfl rfl rfl | exact .o rfl rfl rfl rfl) rfl rfl (by repeat (first | exact .nil | refine .cons (.n rfl) ?_ | refine .cons .o ?_ | refine .cons gok_and ?_)) rfl rfl rfl rfl rfl (fun _ => hrd) ?_
      refine rX rfl ?_
      refine runS_cond rfl (fun h => by rw [hasG_eq] at h; simp at h) (fun h => ?_)
      refine rX rfl ?_
      refine runS_cond rfl (fun h => by cases h) (fun h => ?_)
      refine rX rfl ?_
      refine runS_cond rfl (fun h => by cases h) (fun h => ?_)
      refine rX rfl ?_
      refine runS_cond rfl (fun h => by cases h) (fun h => ?_)
      refine rX rfl ?_
      refine runS_cond rfl (fun h => ?_) (fun h => by cases h)
      refine rX rfl ?_
      refine runS_cond rfl (fun h => ?_) (fun h => by cases h)
      refine rX rfl ?_
      refine runS_ret (I := inf) 0 rfl (Nat.le_refl _) rfl .nil rfl ⟨?_, rfl⟩
      refine congrArg (fun x => Out.ret (bv x)) ?_
      show (if ((((bl (bs vs)).length : Nat) : Int) == n) = true then true else (if vy = true then decide ((((bl (bs vs)).length : Nat) : Int) < n) else false)) = (((vs.length : Int) == n) || vy && decide ((vs.length : Int) < n))
      rw [blS]
      cases vy <;> cases ((vs.length : Int) == n) <;> rfl
    · clear hnp
      refine callS_body (n := 74) rfl rfl fun w ρ X => ?_
      refine rX rfl ?_
      refine runS_call rfl rfl rfl rfl rfl rfl rfl hvd ?_
      refine rX rfl ?_
      refine runS_callU rfl rfl (by first | exact .v rfl rfl rfl rfl | exact .o rfl rfl rfl rfl) rfl rfl (by repeat (first | exact .nil | refine .cons (.n rfl) ?_ | refine .cons .o ?_ | refine .cons gok_and ?_)) rfl rfl rfl rfl rfl (fun _ => hrd) ?_
      refine rX rfl ?_
      refine runS_cond rfl (fun h => by rw [hasG_eq] at h; simp at h) (fun h => ?_)
      refine rX rfl ?_
      refine runS_cond rfl (fun h => by cases h) (fun h => ?_)
      refine rX rfl ?_
      refine runS_cond rfl (fun h => by cases h) (fun h => ?_)
      refine rX rfl ?_
      refine runS_cond rfl (fun h => by cases h) (fun h => ?_)
      refine rX rfl ?_
      refine runS_cond rfl (fun h => by cases h) (fun h => ?_)
      refine rX rfl ?_
      refine runS_cond rfl (fun h => ?_) (fun h => by cases h)
      refine rX rfl ?_
      refine runS_ret (I := inf) 0 rfl (Nat.le_refl _) rfl .nil rfl ⟨?_, rfl⟩
      refine congrArg (fun x => Out.ret (bv x)) ?_
      show (if ((((bl (bs vs)).length : Nat) : Int) == n) = true then true else (if vy = true then decide ((((bl (bs vs)).length : Nat) : Int) < n) else false)) = (((vs.length : Int) == n) || vy && decide ((vs.length : Int) < n))
      rw [blS]
      cases vy <;> cases ((vs.length : Int) == n) <;> rfl
    · clear hnp
      refine callS_body (n := 74) rfl rfl fun w ρ X => ?_
      refine rX rfl ?_
      refine runS_call rfl rfl rfl rfl rfl rfl rfl hvd ?_
      refine rX rfl ?_
      refine runS_callU rfl rfl (by first | exact .v rfl rfl rfl rfl | exact .o rfl rfl rfl rfl) rfl rfl (by repeat (first | exact .nil | refine .cons (.n rfl) ?_ | refine .cons .o ?_ | refine .cons gok_and ?_)) rfl rfl rfl rfl rfl (fun _ => hrd) ?_
      refine rX rfl ?_
      refine runS_cond rfl (fun h => by rw [hasG_eq] at h; simp at h) (fun h => ?_)
      refine rX rfl ?_
      refine runS_cond rfl (fun h => by cases h) (fun h => ?_)
      refine rX rfl ?_
      refine runS_cond rfl (fun h => by cases h) (fun h => ?_)
      refine rX rfl ?_
      refine runS_cond rfl (fun h => by cases h) (fun h => ?_)
      refine rX rfl ?_
      refine runS_cond rfl (fun h => by cases h) (fun h => ?_)
      refine rX rfl ?_
      refine runS_cond rfl (fun h => by cases h) (fun h => ?_)
      refine rX rfl ?_
      refine runS_ret (I := inf) 0 rfl (Nat.le_refl _) rfl .nil rfl ⟨?_, rfl⟩
      rfl
    · clear hnp
      refine callS_body (n := 74) rfl rfl fun w ρ X => ?_
      refine rX rfl ?_
      refine runS_call rfl rfl rfl rfl rfl rfl rfl hvd ?_
      refine rX rfl ?_
      refine runS_callU rfl rfl (by first | exact .v rfl rfl rfl rfl | exact .o rfl rfl rfl rfl) rfl rfl (by repeat (first | exact .nil | refine .cons (.n rfl) ?_ | refine .cons .o ?_ | refine .cons gok_and ?_)) rfl rfl rfl rfl rfl (fun _ => hrd) ?_
      refine rX rfl ?_
      refine runS_cond rfl (fun h => by rw [hasG_eq] at h; simp at h) (fun h => ?_)
      refine rX rfl ?_
      refine runS_cond rfl (fun h => by cases h) (fun h => ?_)
      refine rX rfl ?_
      refine runS_cond rfl (fun h => by cases h) (fun h => ?_)
      refine rX rfl ?_
      refine runS_cond rfl (fun h => by cases h) (fun h => ?_)
      refine rX rfl ?_
      refine runS_cond rfl (fun h => by cases h) (fun h => ?_)
      refine rX rfl ?_
      refine runS_cond rfl (fun h => by cases h) (fun h => ?_)
      refine rX rfl ?_
      refine runS_ret (I := inf) 0 rfl (Nat.le_refl _) rfl .nil rfl ⟨?_, rfl⟩
      rfl
    · clear hnp
      refine callS_body (n := 74) rfl rfl fun w ρ X => ?_
      refine rX rfl ?_
      refine runS_call rfl rfl rfl rfl rfl rfl rfl hvd ?_
      refine rX rfl ?_
      refine runS_callU rfl rfl (by first | exact .v rfl rfl rfl rfl | exact .o rfl rfl rfl rfl) rfl rfl (by repeat (first | exact .nil | refine .cons (.n rfl) ?_ | refine .cons .o ?_ | refine .cons gok_and ?_)) rfl rfl rfl rfl rfl (fun _ => hrd) ?_
      refine rX rfl ?_
      refine runS_cond rfl (fun h => by rw [hasG_eq] at h; simp at h) (fun h => ?_)
      refine rX rfl ?_
      refine runS_cond rfl (fun h => by cases h) (fun h => ?_)
      refine rX rfl ?_
      refine runS_cond rfl (fun h => by cases h) (fun h => ?_)
      refine rX rfl ?_
      refine runS_cond rfl (fun h => by cases h) (fun h => ?_)
      refine rX rfl ?_
      refine runS_cond rfl (fun h => by cases h) (fun h => ?_)
      refine rX rfl ?_
      refine runS_cond rfl (fun h => by cases h) (fun h => ?_)
      refine rX rfl ?_
      refine runS_ret (I := inf) 0 rfl (Nat.le_refl _) rfl .nil rfl ⟨?_, rfl⟩
      rfl
    · clear hnp
      refine callS_body (n := 74) rfl rfl fun w ρ X => ?_
      refine rX rfl ?_
      refine runS_call rfl rfl rfl rfl rfl rfl rfl hvd ?_
      refine rX rfl ?_
      refine runS_callU rfl rfl (by first | exact .v rfl rfl rfl rfl | exact .o rfl rfl rfl rfl) rfl rfl (by repeat (first | exact .nil | refine .cons (.n rfl) ?_ | refine .cons .o ?_ | refine .cons gok_and ?_)) rfl rfl rfl rfl rfl (fun _ => hrd) ?_
      refine rX rfl ?_
      refine runS_cond rfl (fun h => by rw [hasG_eq] at h; simp at h) (fun h => ?_)
      refine rX rfl ?_
      refine runS_cond rfl (fun h => by cases h) (fun h => ?_)
      refine rX rfl ?_
      refine runS_cond rfl (fun h => by cases h) (fun h => ?_)
      refine rX rfl ?_
      refine runS_cond rfl (fun h => by cases h) (fun h => ?_)
      refine rX rfl ?_
      refine runS_cond rfl (fun h => by cases h) (fun h => ?_)
      refine rX rfl ?_
      refine runS_cond rfl (fun h => by cases h) (fun h => ?_)
      refine rX rfl ?_
      refine runS_ret (I := inf) 0 rfl (Nat.le_refl _) rfl .nil rfl ⟨?_, rfl⟩
      rfl
  · have hB : hasB t v = false := by unfold hasB; rw [show (validT t && v.right && (t.kind == v.kind)) = false by simpa using hg]; rfl
    rw [hB]
    refine callS_body (n := 74) rfl rfl fun w ρ X => ?_
    refine rX rfl ?_
    refine runS_call rfl rfl rfl rfl rfl rfl rfl (r_valid t) ?_
    refine rX rfl ?_
    refine runS_callU rfl rfl (by first | exact .v rfl rfl rfl rfl | exact .o rfl rfl rfl rfl) rfl rfl (by repeat (first | exact .nil | refine .cons (.n rfl) ?_ | refine .cons .o ?_ | refine .cons gok_and ?_)) rfl rfl rfl rfl rfl (fun _ => (r_right v.kind v.n v.q v.s)) ?_
    refine rX rfl ?_
    refine runS_cond rfl (fun h => ?_) (fun h => ?_)
    · refine rX rfl ?_
      refine runS_ret (I := inf) 0 rfl (Nat.le_refl _) rfl .nil rfl ⟨?_, rfl⟩
      rfl
    · exfalso
      have h' := (hasG_eq (validT t) v.right t.kind v.kind).symm.trans h
      rw [Bool.not_eq_false'] at h'
      exact hg h'
end Go.Iron.Tryz

/- The pairs' seat: pairs, what is asked of both parts. -/
namespace Go.Iron.Tryz
open Go.Proofs Go.RowKit Go.Iron.Tok Go.Iron.Dg

structure Pr where
  re : Vl
  im : Vl
abbrev prE (x : Pr) : List AV := [iv x.re.kind, iv x.re.n, iv x.re.q, sv x.re.s, iv x.im.kind, iv x.im.n, iv x.im.q, sv x.im.s]
def vl0 : Vl := ⟨0, 0, 0, []⟩
def pr0 : Pr := ⟨vl0, vl0⟩
def ty0 : Typ := ⟨0, 0, 0, 0, false, []⟩
def prR (l : List Pr) : Nat → List AV := fun i => prE (l.getD i pr0)
def prS (nl : Option Bool) (l : List Pr) : AV := .slc 8 nl l.length (prR l)
def tyR (l : List Typ) : Nat → List AV := fun i => typE (l.getD i ty0)
def tyS (nl : Option Bool) (l : List Typ) : AV := .slc 6 nl l.length (tyR l)
def pRight (x : Pr) : Bool := x.re.right && x.im.right
def pHas (t : Typ) (x : Pr) : Bool := hasB t x.re && hasB t x.im
theorem p_one (a b : Int) : CallT Tryz.prog 36 [iv a, iv b] [] (fun o A => o = .ret (.agg (prE ⟨⟨2, a, 0, []⟩, ⟨2, b, 0, []⟩⟩)) ∧ A = []) := by
  refine callS_body (n := 10) rfl rfl fun w ρ X => ?_
  refine rX rfl ?_
  refine runS_ret (I := inf) 0 rfl (Nat.le_refl _) rfl .nil rfl ⟨?_, rfl⟩
  rfl
theorem p_parts (x : Pr) {g : FuncId} {caps : List AV} {gn : Func} {gc : Code} [Fun Tryz.prog g gn gc] {b1 b2 : Bool} (hc : AV.unders 0 caps = true)
    (h1 : CallT Tryz.prog g (.agg (vlE x.re) :: caps) [] (fun o A => o = .ret (bv b1) ∧ A = [])) (h2 : CallT Tryz.prog g (.agg (vlE x.im) :: caps) [] (fun o A => o = .ret (bv b2) ∧ A = [])) :
    CallT Tryz.prog 128 [.agg (prE x), .fn (.func g) caps] [] (fun o A => o = .ret (.agg [bv b1, bv b2]) ∧ A = []) := by
  have u1 : AV.unders 0 (.agg (vlE x.re) :: caps) = true := by
    show AV.unders 0 caps = true
    exact hc
  have u2 : AV.unders 0 (.agg (vlE x.im) :: caps) = true := by
    show AV.unders 0 caps = true
    exact hc
  refine callS_body (n := 14) rfl rfl fun w ρ X => ?_
  refine rX rfl ?_
  refine runS_drawG (ch := []) (A2 := fun _ => []) 10 [9] (fun z => [.box 41 (prE x), .box 161 (cond (z.getD 0 false) [bv b1, bv b2] [bv false, bv false])]) none (c := 9) jnfI.draw (by kernel_rfl) rfl (lexg_g (I := inf) (J := jnf) none ⟨⟨_, rfl, ob0⟩, oi⟩ rfl rfl rfl rfl (lexg_g (I := inf) (J := jnf) none ⟨⟨_, rfl, ob0⟩, oi⟩ rfl rfl rfl rfl (lexg_g (I := inf) (J := jnf) none ⟨⟨_, rfl, ob0⟩, oi⟩ rfl rfl rfl rfl (lexg_call rfl rfl rfl rfl rfl rfl (u1) rfl rfl h1 (lexg_g (I := inf) (J := jnf) none ⟨⟨_, rfl, ob0⟩, oi⟩ rfl rfl rfl rfl (lexg_g (I := inf) (J := jnf) none ⟨⟨_, rfl, ob0⟩, oi⟩ rfl rfl rfl rfl (lexg_g (I := inf) (J := jnf) none ⟨⟨_, rfl, ob0⟩, oi⟩ rfl rfl rfl rfl (lexg_call rfl rfl rfl rfl rfl rfl (u2) rfl rfl h2 (lexg_g (I := inf) (J := jnf) none ⟨⟨_, rfl, ob0⟩, oi⟩ rfl rfl rfl rfl (lexg_g (I := inf) (J := jnf) (some .store) ⟨⟨_, rfl, ob0⟩, .inl rfl⟩ rfl rfl rfl rfl lexg_nil)))))))))) rfl (fun _ => ?_) (fun h => by cases h)
  refine rX rfl ?_
  refine runS_ret (I := inf) 0 rfl (Nat.le_refl _) rfl .nil rfl ⟨?_, rfl⟩
  rfl
theorem p_hasC (v : Vl) (n1 : Option Bool) (ts : List Typ) (i : Nat) (hi : i < ts.length) : CallT Tryz.prog 129 [.agg (vlE v), .loc [tyS n1 ts] 0, .loc [iv i] 0] [] (fun o A => o = .ret (bv (hasB (ts.getD i ty0) v)) ∧ A = []) := by
  have hd := d_has (ts.getD ((i : Int)).toNat ty0) v
  rw [show ((i : Int)).toNat = i from rfl] at hd
  refine callS_body (n := 11) rfl rfl fun w ρ X => ?_
  refine runS_x (I := inf) (J := jnf) ⟨false, false, [], 0, 0⟩ 9999 rfl (by repeat (first | exact obs_nil | refine obs_draw (by kernel_rfl) ?_ | refine obs_same ?_ | refine obs_and ?_ | refine obs_by (by (simp [inB, hi] <;> omega)) ?_)) ?_
  refine runS_call rfl rfl rfl rfl rfl rfl rfl hd ?_
  refine rX rfl ?_
  refine runS_ret (I := inf) 0 rfl (Nat.le_refl _) rfl .nil rfl ⟨?_, rfl⟩
  rfl
theorem pr_get {l : List Pr} {i : Nat} (hi : i < l.length) : l.getD i pr0 = l[i] := by
  rw [List.getD_eq_getElem?_getD, List.getElem?_eq_getElem hi]; rfl
theorem ty_get {l : List Typ} {i : Nat} (hi : i < l.length) : l.getD i ty0 = l[i] := by
  rw [List.getD_eq_getElem?_getD, List.getElem?_eq_getElem hi]; rfl
theorem two_no {a b : Bool} (h : (!(a == true && (b == true && true))) = true) : (a && b) = false := by
  cases a <;> cases b <;> first | rfl | cases h
theorem two_yes {a b : Bool} (h : (!(a == true && (b == true && true))) = false) : (a && b) = true := by
  cases a <;> cases b <;> first | rfl | cases h
def askP (l : List Pr) (ts : List Typ) : Int :=
  if l.all pRight = false then 1
  else if ((List.range l.length).all fun i => validT (ts.getD i ty0) && pHas (ts.getD i ty0) (l.getD i pr0)) = false then 13
  else if (ts.all fun t => decide (t.kind ≤ 3)) = false then 10 else 0
end Go.Iron.Tryz

/- The pairs' seat: what is asked of pairs with their types. -/
namespace Go.Iron.Tryz
open Go.Proofs Go.RowKit Go.Iron.Tok Go.Iron.Dg

theorem range_all {p : Nat → Bool} {n : Nat} (h : (List.range n).all p = true) (hp : p n = true) : (List.range (n + 1)).all p = true := by
  rw [List.range_succ, List.all_append, h]
  simp [hp]
theorem ask_no {v a b : Bool} (h : (if (!v) = true then true else !(a == true && (b == true && true))) = true) : (v && (a && b)) = false := by
  cases v <;> cases a <;> cases b <;> first | rfl | cases h
theorem ask_yes {v a b : Bool} (h : (if (!v) = true then true else !(a == true && (b == true && true))) = false) : (v && (a && b)) = true := by
  cases v <;> cases a <;> cases b <;> first | rfl | cases h
theorem p_asked (n1 n2 : Option Bool) (l : List Pr) (ts : List Typ) (hl : l.length ≤ 100000) (hts : ts.length = l.length) : CallT Tryz.prog 67 [prS n1 l, tyS n2 ts] [] (fun o A => o = .ret (iv (askP l ts)) ∧ A = []) := by
  refine callS_body (n := 55) rfl rfl fun w ρ X => ?_
  refine rX rfl ?_
  refine runS_freezeBox 0 rfl rfl rfl ?_
  refine runS_while (fun (i : Nat) τ ar => (τ 0 = prS n1 l ∧ τ 3 = .loc [tyS n2 ts] 0 ∧ τ 12 = prS n1 l ∧ τ 13 = iv l.length ∧ τ 14 = iv i) ∧ ar = [.gone] ∧ i ≤ l.length ∧ (l.take i).all pRight = true) (fun i => l.length - i) 0 ⟨⟨rfl, rfl, rfl, rfl, rfl⟩, rfl, Nat.zero_le _, rfl⟩ ?_
  rintro i τ' ar' ⟨⟨g0, g3, g12, g13, g14⟩, rfl, hi, ha⟩ ih
  refine runS_says 0 (by exact g0) (Says.refl _) ?_; refine runS_says 3 (by exact g3) (Says.refl _) ?_; refine runS_says 12 (by exact g12) (Says.refl _) ?_; refine runS_says 13 (by exact g13) (Says.refl _) ?_; refine runS_says 14 (by exact g14) (Says.refl _) ?_
  refine rX rfl ?_
  refine runS_cond rfl (fun h => ?_) (fun h => ?_)
  · have hlt : i < l.length := by simp at h; omega
    have hw1 : IntKind.wrap .i64 ((i : Int) + 1) = ((i + 1 : Nat) : Int) := by rw [w64 (by omega) (by omega)]; rfl
    have hv := pr_get hlt
    generalize hx : l.getD i pr0 = x at *
    have hwz : l.getD ((i : Int)).toNat pr0 = x := hx
    refine runS_x (I := inf) (J := jnf) ⟨false, false, [], 0, 0⟩ 9999 rfl (by repeat (first | exact obs_nil | refine obs_draw (by kernel_rfl) ?_ | refine obs_same ?_ | refine obs_and ?_ | refine obs_by (by (simp [inB, hlt] <;> omega)) ?_)) ?_
    rw [hwz]
    refine runS_call rfl rfl rfl rfl rfl rfl rfl (p_parts x (g := 32) (caps := []) rfl (d_right x.re.kind x.re.n x.re.q x.re.s) (d_right x.im.kind x.im.n x.im.q x.im.s)) ?_
    refine rX rfl ?_
    refine runS_cond rfl (fun h2 => ?_) (fun h2 => ?_)
    · have hr : pRight l[i] = false := by
        rw [← hv]
        unfold pRight
        have h3 : (!(x.re.right == true && (x.im.right == true && true))) = true := h2
        exact two_no h3
      have hE : askP l ts = 1 := by
        unfold askP
        rw [if_pos]
        rw [List.all_eq_false]
        exact ⟨_, List.getElem_mem hlt, by rw [hr]; decide⟩
      rw [hE]
      refine rX rfl ?_
      refine runS_ret (I := inf) 0 rfl (Nat.le_refl _) rfl .nil rfl ⟨?_, rfl⟩
      rfl
    · have hr : pRight l[i] = true := by
        rw [← hv]
        unfold pRight
        have h3 : (!(x.re.right == true && (x.im.right == true && true))) = false := h2
        exact two_yes h3
      refine rX rfl ?_
      refine runS_drop 1 (Nat.zero_le _) rfl (by repeat (first | exact .nil | refine .row (fun j hj => rfl) ?_ | refine .box rfl ?_ | refine .fam (fun k j hk hj => rfl) ?_ | refine .loop (scrub_under _ _) ?_ | refine .dfr ?_ | refine .gone ?_ | refine .map (fun p hp => by (obtain ⟨k, _, rfl⟩ := List.mem_map.1 hp; rfl)) ?_)) rfl rfl rfl (by repeat (first | exact .nil | refine .cons rfl rfl rfl (scrub_under _ _) ?_)) ?_
      exact ih (i + 1) _ _ (by omega) ⟨⟨rfl, rfl, rfl, rfl, congrArg iv hw1⟩, rfl, by omega, all_take ha hlt hr⟩
  · have hie : i = l.length := by simp at h; omega
    subst hie
    rw [List.take_length] at ha
    clear ih hi g0 g3 g12 g13 g14 h
    refine rX rfl ?_
    refine runS_while (fun (i : Nat) τ ar => (τ 3 = .loc [tyS n2 ts] 0 ∧ τ 23 = prS n1 l ∧ τ 24 = iv l.length ∧ τ 25 = iv i) ∧ ar = [.gone] ∧ i ≤ l.length ∧ ((List.range i).all fun i => validT (ts.getD i ty0) && pHas (ts.getD i ty0) (l.getD i pr0)) = true) (fun i => l.length - i) 0 ⟨⟨rfl, rfl, rfl, rfl⟩, rfl, Nat.zero_le _, rfl⟩ ?_
    rintro i τ2 ar2 ⟨⟨g3, g23, g24, g25⟩, rfl, hi, hb⟩ ih
    refine runS_says 3 (by exact g3) (Says.refl _) ?_; refine runS_says 23 (by exact g23) (Says.refl _) ?_; refine runS_says 24 (by exact g24) (Says.refl _) ?_; refine runS_says 25 (by exact g25) (Says.refl _) ?_
    refine rX rfl ?_
    refine runS_cond rfl (fun h => ?_) (fun h => ?_)
    · have hlt : i < l.length := by simp at h; omega
      have hlt2 : i < ts.length := by omega
      have hw1 : IntKind.wrap .i64 ((i : Int) + 1) = ((i + 1 : Nat) : Int) := by rw [w64 (by omega) (by omega)]; rfl
      refine runS_x (I := inf) (J := jnf) ⟨false, false, [], 0, 0⟩ 9999 rfl (by repeat (first | exact obs_nil | refine obs_draw (by kernel_rfl) ?_ | refine obs_same ?_ | refine obs_and ?_ | refine obs_by (by (simp [inB, hlt, hlt2] <;> omega)) ?_)) ?_
      refine runS_freezeBox 1 rfl rfl rfl ?_
      refine runS_call rfl rfl rfl rfl rfl rfl rfl (d_valid (ts.getD i ty0)) ?_
      refine rX rfl ?_
      refine runS_callU rfl rfl (by first | exact .v rfl rfl rfl rfl | exact .o rfl rfl rfl rfl) rfl rfl (by repeat (first | exact .nil | refine .cons (.n rfl) ?_ | refine .cons .o ?_ | refine .cons gok_and ?_)) rfl rfl rfl rfl rfl (fun _ => (p_parts (l.getD i pr0) (g := 129) (caps := [.loc [tyS n2 ts] 0, .loc [iv i] 0]) rfl (p_hasC (l.getD i pr0).re n2 ts i hlt2) (p_hasC (l.getD i pr0).im n2 ts i hlt2))) ?_
      refine rX rfl ?_
      refine runS_cond rfl (fun h2 => ?_) (fun h2 => ?_)
      · have h3 : (if (!validT (ts.getD i ty0)) = true then true else !(hasB (ts.getD i ty0) (l.getD i pr0).re == true && (hasB (ts.getD i ty0) (l.getD i pr0).im == true && true))) = true := h2
        have hE : askP l ts = 13 := by
          unfold askP
          rw [if_neg (by rw [ha]; decide), if_pos]
          rw [List.all_eq_false]
          exact ⟨i, List.mem_range.2 hlt, by unfold pHas; rw [ask_no h3]; decide⟩
        rw [hE]
        refine rX rfl ?_
        refine runS_ret (I := inf) 0 rfl (Nat.le_refl _) rfl .nil rfl ⟨?_, rfl⟩
        rfl
      · have h3 : (if (!validT (ts.getD i ty0)) = true then true else !(hasB (ts.getD i ty0) (l.getD i pr0).re == true && (hasB (ts.getD i ty0) (l.getD i pr0).im == true && true))) = false := h2
        refine rX rfl ?_
        refine runS_drop 1 (Nat.zero_le _) rfl (by repeat (first | exact .nil | refine .row (fun j hj => rfl) ?_ | refine .box rfl ?_ | refine .fam (fun k j hk hj => rfl) ?_ | refine .loop (scrub_under _ _) ?_ | refine .dfr ?_ | refine .gone ?_ | refine .map (fun p hp => by (obtain ⟨k, _, rfl⟩ := List.mem_map.1 hp; rfl)) ?_)) rfl rfl rfl (by repeat (first | exact .nil | refine .cons rfl rfl rfl (scrub_under _ _) ?_)) ?_
        exact ih (i + 1) _ _ (by omega) ⟨⟨rfl, rfl, rfl, congrArg iv hw1⟩, rfl, by omega, range_all hb (ask_yes h3)⟩
    · have hie : i = l.length := by simp at h; omega
      subst hie
      clear ih hi g3 g23 g24 g25 h
      refine rX rfl ?_
      refine runS_while (fun (i : Nat) τ ar => (τ 45 = tyS n2 ts ∧ τ 46 = iv ts.length ∧ τ 47 = iv i) ∧ ar = [.gone] ∧ i ≤ ts.length ∧ (ts.take i).all (fun t => decide (t.kind ≤ 3)) = true) (fun i => ts.length - i) 0 ⟨⟨rfl, rfl, rfl⟩, rfl, Nat.zero_le _, rfl⟩ ?_
      rintro i τ3 ar3 ⟨⟨g45, g46, g47⟩, rfl, hi, hc⟩ ih
      refine runS_says 45 (by exact g45) (Says.refl _) ?_; refine runS_says 46 (by exact g46) (Says.refl _) ?_; refine runS_says 47 (by exact g47) (Says.refl _) ?_
      refine rX rfl ?_
      refine runS_cond rfl (fun h => ?_) (fun h => ?_)
      · have hlt : i < ts.length := by simp at h; omega
        have hw1 : IntKind.wrap .i64 ((i : Int) + 1) = ((i + 1 : Nat) : Int) := by rw [w64 (by omega) (by omega)]; rfl
        have hv := ty_get hlt
        refine runS_x (I := inf) (J := jnf) ⟨false, false, [], 0, 0⟩ 9999 rfl (by repeat (first | exact obs_nil | refine obs_draw (by kernel_rfl) ?_ | refine obs_same ?_ | refine obs_and ?_ | refine obs_by (by (simp [inB, hlt] <;> omega)) ?_)) ?_
        refine runS_cond rfl (fun h2 => ?_) (fun h2 => ?_)
        · have h3 : ts[i].kind > 3 := by
            rw [← hv]
            exact of_decide_eq_true h2
          have hE : askP l ts = 10 := by
            unfold askP
            rw [if_neg (by rw [ha]; decide), if_neg (by rw [hb]; decide), if_pos]
            rw [List.all_eq_false]
            exact ⟨_, List.getElem_mem hlt, by simp; omega⟩
          rw [hE]
          refine rX rfl ?_
          refine runS_ret (I := inf) 0 rfl (Nat.le_refl _) rfl .nil rfl ⟨?_, rfl⟩
          rfl
        · have h3 : ¬ ts[i].kind > 3 := by
            rw [← hv]
            exact of_decide_eq_false h2
          refine rX rfl ?_
          refine runS_drop 1 (Nat.zero_le _) rfl (by repeat (first | exact .nil | refine .row (fun j hj => rfl) ?_ | refine .box rfl ?_ | refine .fam (fun k j hk hj => rfl) ?_ | refine .loop (scrub_under _ _) ?_ | refine .dfr ?_ | refine .gone ?_ | refine .map (fun p hp => by (obtain ⟨k, _, rfl⟩ := List.mem_map.1 hp; rfl)) ?_)) rfl rfl rfl (by repeat (first | exact .nil | refine .cons rfl rfl rfl (scrub_under _ _) ?_)) ?_
          exact ih (i + 1) _ _ (by omega) ⟨⟨rfl, rfl, congrArg iv hw1⟩, rfl, by omega, all_take hc hlt (by simp; omega)⟩
      · have hie : i = ts.length := by simp at h; omega
        subst hie
        rw [List.take_length] at hc
        have hE : askP l ts = 0 := by
          unfold askP
          rw [if_neg (by rw [ha]; decide), if_neg (by rw [hb]; decide), if_neg (by rw [hc]; decide)]
        rw [hE]
        refine rX rfl ?_
        refine runS_ret (I := inf) 0 rfl (Nat.le_refl _) rfl .nil rfl ⟨?_, rfl⟩
        rfl
end Go.Iron.Tryz

/- The pairs' seat: the rules of results' types. -/
namespace Go.Iron.Tryz
open Go.Proofs Go.RowKit Go.Iron.Tok Go.Iron.Dg

def fltT (t : Typ) : Typ := if t.kind = 2 then ⟨3, t.p, 0, 0, false, []⟩ else if t.kind = 1 then ⟨3, min 15 ((3 * t.p + 9) / 10), 0, 0, false, []⟩ else t
def binT (t : Typ) : Typ := if t.kind = 1 then t else ⟨1, min 31 ((10 * t.p + 2) / 3 + 1), min 31 ((10 * t.q + 2) / 3), 0, false, []⟩
def togT (a b : Typ) : Typ × Typ × Int := if a.kind = 3 ∨ b.kind = 3 then (fltT a, fltT b, 15) else if a.kind = 1 ∨ b.kind = 1 then (binT a, binT b, 31) else (a, b, 15)
def sumT (a b : Typ) (most : Int) : Int × Int := (min most (max 1 (max (a.p - a.q) (b.p - b.q) + max a.q b.q + 1)), max a.q b.q)
def mulT (a b : Typ) (most : Int) : Int × Int := (min most (a.p + b.p + 1), min 31 (a.q + b.q))
def divT (a b : Typ) (most : Int) : Int × Int := (most, max 0 (min 31 (most - a.p + a.q - b.q)))
def rowT (op : UInt8) (a b : Typ) (most : Int) : Int × Int := if op = 43 ∨ op = 45 then sumT a b most else if op = 42 then mulT a b most else divT a b most
def fixT (op : UInt8) (z : Typ × Typ × Int) : Typ := if z.1.kind = 3 then ⟨3, max z.1.p z.2.1.p, 0, 0, false, []⟩ else ⟨z.1.kind, (rowT op z.1 z.2.1 z.2.2).1, (rowT op z.1 z.2.1 z.2.2).2, 0, false, []⟩
def resT (op : UInt8) (a b : Typ) : Typ := fixT op (togT a b)
structure NT (t : Typ) : Prop where
  k : t.kind = 1 ∨ t.kind = 2 ∨ t.kind = 3
  p1 : 1 ≤ t.p
  p2 : t.p ≤ 31
  q1 : 0 ≤ t.q
  q2 : t.q ≤ 31
theorem minI (p q : Int) : (if q < p then q else p) = min p q := by omega
theorem maxI (p q : Int) : (if q > p then q else p) = max p q := by omega
theorem tdivI {a b : Int} (h : 0 ≤ a) (hb : 0 ≤ b) : a.tdiv b = a / b := Int.tdiv_eq_ediv_of_nonneg h
theorem p_float (t : Typ) (h : NT t) : CallT Tryz.prog 134 [.agg (typE t)] [] (fun o A => o = .ret (.agg (typE (fltT t))) ∧ A = []) := by
  obtain ⟨hk, p1, p2, q1, q2⟩ := h
  obtain ⟨k, p, q, n, vr, pc⟩ := t
  dsimp only at hk p1 p2 q1 q2
  unfold fltT
  dsimp only
  have hw : (if IntKind.wrap .i64 ((IntKind.wrap .i64 (IntKind.wrap .i64 (3 * p) + 9)).tdiv 10) < 15 then IntKind.wrap .i64 ((IntKind.wrap .i64 (IntKind.wrap .i64 (3 * p) + 9)).tdiv 10) else 15) = min 15 ((3 * p + 9) / 10) := by
    rw [w64 (x := 3 * p) (by omega) (by omega), w64 (x := 3 * p + 9) (by omega) (by omega), tdivI (by omega) (by omega), w64 (by omega) (by omega), minI]
  refine callS_body (n := 20) rfl rfl fun w ρ X => ?_
  refine rX rfl ?_
  refine runS_cond rfl (fun h => ?_) (fun h => ?_)
  · have h2 : k = 2 := by simpa using (show (k == 2) = true from h)
    rw [if_pos h2]
    refine rX rfl ?_
    refine runS_ret (I := inf) 0 rfl (Nat.le_refl _) rfl .nil rfl ⟨?_, rfl⟩
    rfl
  · have h2 : ¬ k = 2 := by simpa using (show (k == 2) = false from h)
    rw [if_neg h2]
    refine rX rfl ?_
    refine runS_cond rfl (fun h => ?_) (fun h => ?_)
    · have h1 : k = 1 := by simpa using (show (k == 1) = true from h)
      rw [if_pos h1]
      refine rX rfl ?_
      refine runS_ret (I := inf) 0 rfl (Nat.le_refl _) rfl .nil rfl ⟨?_, rfl⟩
      exact congrArg (fun z => Out.ret (.agg [iv 3, iv z, iv 0, iv 0, bv false, sv []])) hw
    · have h1 : ¬ k = 1 := by simpa using (show (k == 1) = false from h)
      rw [if_neg h1]
      refine rX rfl ?_
      refine runS_ret (I := inf) 0 rfl (Nat.le_refl _) rfl .nil rfl ⟨?_, rfl⟩
      rfl
theorem p_must (e : Int) : CallT Tryz.prog 191 [bv true, iv e] [] (fun o A => o = .ret (.tup []) ∧ A = []) := by
  refine callS_body (n := 9) rfl rfl fun w ρ X => ?_
  refine runS_x (I := inf) (J := jnf) ⟨true, false, [], 0, 0⟩ 9999 rfl ob1 ?_
  refine runS_ret (I := inf) 0 rfl (Nat.le_refl _) rfl .nil rfl ⟨?_, rfl⟩
  rfl
theorem p_binary (t : Typ) (h : NT t) (h3 : t.kind ≠ 3) : CallT Tryz.prog 192 [.agg (typE t)] [] (fun o A => o = .ret (.agg (typE (binT t))) ∧ A = []) := by
  obtain ⟨hk, p1, p2, q1, q2⟩ := h
  obtain ⟨k, p, q, n, vr, pc⟩ := t
  dsimp only at hk p1 p2 q1 q2 h3
  unfold binT
  dsimp only
  have hk3 : (!(k == 3)) = true := by simpa using h3
  have hm := p_must 10
  rw [← hk3] at hm
  refine callS_body (n := 25) rfl rfl fun w ρ X => ?_
  refine rX rfl ?_
  refine runS_call rfl rfl rfl rfl rfl rfl rfl hm ?_
  refine rX rfl ?_
  refine runS_cond rfl (fun h => ?_) (fun h => ?_)
  · have h1 : k = 1 := by simpa using (show (k == 1) = true from h)
    rw [if_pos h1]
    refine rX rfl ?_
    refine runS_ret (I := inf) 0 rfl (Nat.le_refl _) rfl .nil rfl ⟨?_, rfl⟩
    rfl
  · have h1 : ¬ k = 1 := by simpa using (show (k == 1) = false from h)
    rw [if_neg h1]
    have e1 : IntKind.wrap .i64 (IntKind.wrap .i64 (10 * p) + 2) = 10 * p + 2 := by rw [w64 (x := 10 * p) (by omega) (by omega), w64 (by omega) (by omega)]
    have e2 : IntKind.wrap .i64 (IntKind.wrap .i64 (10 * q) + 2) = 10 * q + 2 := by rw [w64 (x := 10 * q) (by omega) (by omega), w64 (by omega) (by omega)]
    have e3 : IntKind.wrap .i64 ((10 * p + 2).tdiv 3) = (10 * p + 2) / 3 := by rw [tdivI (by omega) (by omega), w64 (by omega) (by omega)]
    have e4 : IntKind.wrap .i64 ((10 * q + 2).tdiv 3) = (10 * q + 2) / 3 := by rw [tdivI (by omega) (by omega), w64 (by omega) (by omega)]
    have e5 : IntKind.wrap .i64 ((10 * p + 2) / 3 + 1) = (10 * p + 2) / 3 + 1 := w64 (by omega) (by omega)
    refine rX rfl ?_
    refine runS_ret (I := inf) 0 rfl (Nat.le_refl _) rfl .nil rfl ⟨?_, rfl⟩
    refine congrArg Out.ret (congrArg AV.agg ?_)
    show [iv 1, iv (if IntKind.wrap .i64 (IntKind.wrap .i64 ((IntKind.wrap .i64 (IntKind.wrap .i64 (10 * p) + 2)).tdiv 3) + 1) < 31 then IntKind.wrap .i64 (IntKind.wrap .i64 ((IntKind.wrap .i64 (IntKind.wrap .i64 (10 * p) + 2)).tdiv 3) + 1) else 31), iv (if IntKind.wrap .i64 ((IntKind.wrap .i64 (IntKind.wrap .i64 (10 * q) + 2)).tdiv 3) < 31 then IntKind.wrap .i64 ((IntKind.wrap .i64 (IntKind.wrap .i64 (10 * q) + 2)).tdiv 3) else 31), iv 0, bv false, sv []] = _
    rw [e1, e2, e3, e4, e5, minI, minI]
theorem nt_flt {t : Typ} (h : NT t) : NT (fltT t) := by
  obtain ⟨hk, p1, p2, q1, q2⟩ := h
  unfold fltT
  split
  · exact ⟨.inr (.inr rfl), p1, p2, (show (0 : Int) ≤ 0 by decide), (show (0 : Int) ≤ 31 by decide)⟩
  · split
    · refine ⟨.inr (.inr rfl), ?_, ?_, (show (0 : Int) ≤ 0 by decide), (show (0 : Int) ≤ 31 by decide)⟩
      · show 1 ≤ min 15 ((3 * t.p + 9) / 10); omega
      · show min 15 ((3 * t.p + 9) / 10) ≤ 31; omega
    · exact ⟨hk, p1, p2, q1, q2⟩
theorem nt_bin {t : Typ} (h : NT t) : NT (binT t) := by
  obtain ⟨hk, p1, p2, q1, q2⟩ := h
  unfold binT
  split
  · exact ⟨hk, p1, p2, q1, q2⟩
  · refine ⟨.inl rfl, ?_, ?_, ?_, ?_⟩
    · show 1 ≤ min 31 ((10 * t.p + 2) / 3 + 1); omega
    · show min 31 ((10 * t.p + 2) / 3 + 1) ≤ 31; omega
    · show 0 ≤ min 31 ((10 * t.q + 2) / 3); omega
    · show min 31 ((10 * t.q + 2) / 3) ≤ 31; omega
theorem p_mulR (a b : Typ) (ha : NT a) (hb : NT b) (m : Int) (hm : m = 15 ∨ m = 31) : CallT Tryz.prog 194 [.agg (typE a), .agg (typE b), iv m] [] (fun o A => o = .ret (.tup [iv (mulT a b m).1, iv (mulT a b m).2]) ∧ A = []) := by
  obtain ⟨_, p1, p2, q1, q2⟩ := ha
  obtain ⟨_, p3, p4, q3, q4⟩ := hb
  obtain ⟨ak, ap, aq, an, avr, ac⟩ := a
  obtain ⟨bk, bp, bq, bn, bvr, bc⟩ := b
  dsimp only at p1 p2 q1 q2 p3 p4 q3 q4
  unfold mulT
  dsimp only
  refine callS_body (n := 22) rfl rfl fun w ρ X => ?_
  refine rX rfl ?_
  refine runS_ret (I := inf) 0 rfl (Nat.le_refl _) rfl .nil rfl ⟨?_, rfl⟩
  refine congrArg Out.ret ?_
  show AV.tup [iv (if IntKind.wrap .i64 (IntKind.wrap .i64 (ap + bp) + 1) < m then IntKind.wrap .i64 (IntKind.wrap .i64 (ap + bp) + 1) else m), iv (if IntKind.wrap .i64 (aq + bq) < 31 then IntKind.wrap .i64 (aq + bq) else 31)] = _
  rw [w64 (x := ap + bp) (by omega) (by omega), w64 (x := ap + bp + 1) (by omega) (by omega), w64 (x := aq + bq) (by omega) (by omega), minI, minI]
theorem p_rows : CallT Tryz.prog 140 [] [] (fun o A => o = .ret (.agg [.fn (.func 193) [], .fn (.func 193) [], .fn (.func 194) [], .fn (.func 195) [], .val .nilFunc]) ∧ A = []) := by
  refine callS_body (n := 5) rfl rfl fun w ρ X => ?_
  refine rX rfl ?_
  refine runS_ret (I := inf) 0 rfl (Nat.le_refl _) rfl .nil rfl ⟨?_, rfl⟩
  rfl
theorem p_together (a b : Typ) (ha : NT a) (hb : NT b) : CallT Tryz.prog 139 [.agg (typE a), .agg (typE b)] [] (fun o A => o = .ret (.tup [.agg (typE (togT a b).1), .agg (typE (togT a b).2.1), iv (togT a b).2.2]) ∧ A = []) := by
  unfold togT
  refine callS_body (n := 35) rfl rfl fun w ρ X => ?_
  refine rX rfl ?_
  refine runS_cond rfl (fun h => ?_) (fun h => ?_)
  · have h3 : a.kind = 3 ∨ b.kind = 3 := by
      have h' : (if (a.kind == 3) = true then true else b.kind == 3) = true := h
      by_cases e : a.kind = 3
      · exact .inl e
      · rw [if_neg (by simpa using e)] at h'
        exact .inr (by simpa using h')
    rw [if_pos h3]
    refine rX rfl ?_
    refine runS_draw 3 (by kernel_rfl) (lexj_x (I := inf) (J := jnf) 99 rfl rfl ob0 (lexj_call rfl rfl rfl rfl rfl rfl rfl rfl (p_float a ha) (lexj_x (I := inf) (J := jnf) 99 rfl rfl ob0 lexj_nil))) ?_
    refine runS_call rfl rfl rfl rfl rfl rfl rfl (p_float b hb) ?_
    refine rX rfl ?_
    refine runS_ret (I := inf) 0 rfl (Nat.le_refl _) rfl .nil rfl ⟨?_, rfl⟩
    rfl
  · have h3 : ¬ (a.kind = 3 ∨ b.kind = 3) := by
      have h' : (if (a.kind == 3) = true then true else b.kind == 3) = false := h
      by_cases e : a.kind = 3
      · rw [if_pos (by simpa using e)] at h'
        cases h'
      · rw [if_neg (by simpa using e)] at h'
        rintro (h | h)
        · exact e h
        · exact absurd h (by simpa using h')
    rw [if_neg h3]
    refine rX rfl ?_
    refine runS_cond rfl (fun h => ?_) (fun h => ?_)
    · have h1 : a.kind = 1 ∨ b.kind = 1 := by
        have h' : (if (a.kind == 1) = true then true else b.kind == 1) = true := h
        by_cases e : a.kind = 1
        · exact .inl e
        · rw [if_neg (by simpa using e)] at h'
          exact .inr (by simpa using h')
      rw [if_pos h1]
      refine rX rfl ?_
      refine runS_draw 3 (by kernel_rfl) (lexj_x (I := inf) (J := jnf) 99 rfl rfl ob0 (lexj_call rfl rfl rfl rfl rfl rfl rfl rfl (p_binary a ha (fun e => h3 (.inl e))) (lexj_x (I := inf) (J := jnf) 99 rfl rfl ob0 lexj_nil))) ?_
      refine runS_call rfl rfl rfl rfl rfl rfl rfl (p_binary b hb (fun e => h3 (.inr e))) ?_
      refine rX rfl ?_
      refine runS_ret (I := inf) 0 rfl (Nat.le_refl _) rfl .nil rfl ⟨?_, rfl⟩
      rfl
    · have h1 : ¬ (a.kind = 1 ∨ b.kind = 1) := by
        have h' : (if (a.kind == 1) = true then true else b.kind == 1) = false := h
        by_cases e : a.kind = 1
        · rw [if_pos (by simpa using e)] at h'
          cases h'
        · rw [if_neg (by simpa using e)] at h'
          rintro (h | h)
          · exact e h
          · exact absurd h (by simpa using h')
      rw [if_neg h1]
      refine rX rfl ?_
      refine runS_drawG (ch := []) (A2 := fun _ => []) 5 [2, 3] (fun z => [.box 25 (typE a), .box 25 (typE b), .box 25 (cond (z.getD 0 false) (typE a) (typE ty0)), .box 25 (cond (z.getD 1 false) (typE b) (typE ty0))]) none (c := 9) jnfI.draw (by kernel_rfl) rfl (lexg_g (I := inf) (J := jnf) none ⟨⟨⟨_, rfl, ob0⟩, oi⟩, oj⟩ rfl rfl rfl rfl (lexg_g (I := inf) (J := jnf) none ⟨⟨⟨_, rfl, ob0⟩, oi⟩, oj⟩ rfl rfl rfl rfl (lexg_g (I := inf) (J := jnf) (some .store) ⟨⟨⟨_, rfl, ob0⟩, oi⟩, .inl rfl⟩ rfl rfl rfl rfl (lexg_g (I := inf) (J := jnf) (some .store) ⟨⟨⟨_, rfl, ob0⟩, .inl rfl⟩, (by first | exact .inl (by decide +kernel) | exact .inr ⟨⟨_, rfl, ob0⟩, .inl rfl⟩)⟩ rfl rfl rfl rfl (lexg_g (I := inf) (J := jnf) none ⟨⟨⟨_, rfl, ob0⟩, oi⟩, oj⟩ rfl rfl rfl rfl lexg_nil))))) rfl (fun _ => ?_) (fun h => by cases h)
      refine rX rfl ?_
      refine runS_ret (I := inf) 0 rfl (Nat.le_refl _) rfl .nil rfl ⟨?_, rfl⟩
      rfl
theorem p_sign (op : UInt8) (k : Nat) (h : op = 43 ∧ k = 0 ∨ op = 45 ∧ k = 1 ∨ op = 42 ∧ k = 2 ∨ op = 47 ∧ k = 3) : CallT Tryz.prog 138 [sv [op]] [] (fun o A => o = .ret (iv k) ∧ A = []) := by
  rcases h with ⟨rfl, rfl⟩ | ⟨rfl, rfl⟩ | ⟨rfl, rfl⟩ | ⟨rfl, rfl⟩
  · refine callS_body (n := 17) rfl rfl fun w ρ X => ?_
    refine rX rfl ?_
    refine runS_while (fun (i : Nat) τ ar => (τ 0 = sv [43] ∧ τ 5 = .agg [.val (.string ⟨#[43]⟩), .val (.string ⟨#[45]⟩), .val (.string ⟨#[42]⟩), .val (.string ⟨#[47]⟩), .val (.string ⟨#[42,42]⟩)] ∧ τ 6 = iv i) ∧ ar = [] ∧ i ≤ 0) (fun i => 0 - i) 0 ⟨⟨rfl, rfl, rfl⟩, rfl, Nat.zero_le _⟩ ?_
    rintro i τ' ar' ⟨⟨g0, g5, g6⟩, rfl, hi⟩ ih
    have hc : i = 0 := by omega
    subst hc
    · refine runS_says 0 (by exact g0) (Says.refl _) ?_; refine runS_says 5 (by exact g5) (Says.refl _) ?_; refine runS_says 6 (by exact g6) (Says.refl _) ?_
      refine rX rfl ?_
      refine runS_cond rfl (fun h => ?_) (fun h => by cases h)
      refine rX rfl ?_
      refine runS_cond rfl (fun h => ?_) (fun h => by rw [show (ByteArray.mk #[43]) = bs [43] from rfl, bs_beq] at h; cases h)
      refine rX rfl ?_
      refine runS_ret (I := inf) 0 rfl (Nat.le_refl _) rfl .nil rfl ⟨?_, rfl⟩
      rfl
  · refine callS_body (n := 17) rfl rfl fun w ρ X => ?_
    refine rX rfl ?_
    refine runS_while (fun (i : Nat) τ ar => (τ 0 = sv [45] ∧ τ 5 = .agg [.val (.string ⟨#[43]⟩), .val (.string ⟨#[45]⟩), .val (.string ⟨#[42]⟩), .val (.string ⟨#[47]⟩), .val (.string ⟨#[42,42]⟩)] ∧ τ 6 = iv i) ∧ ar = [] ∧ i ≤ 1) (fun i => 1 - i) 0 ⟨⟨rfl, rfl, rfl⟩, rfl, Nat.zero_le _⟩ ?_
    rintro i τ' ar' ⟨⟨g0, g5, g6⟩, rfl, hi⟩ ih
    have hc : i = 0 ∨ i = 1 := by omega
    rcases hc with rfl | rfl
    · refine runS_says 0 (by exact g0) (Says.refl _) ?_; refine runS_says 5 (by exact g5) (Says.refl _) ?_; refine runS_says 6 (by exact g6) (Says.refl _) ?_
      refine rX rfl ?_
      refine runS_cond rfl (fun h => ?_) (fun h => by cases h)
      refine rX rfl ?_
      refine runS_cond rfl (fun h => by rw [show (ByteArray.mk #[43]) = bs [43] from rfl, bs_beq] at h; cases h) (fun h => ?_)
      refine rX rfl ?_
      exact ih 1 _ _ (by decide) ⟨⟨rfl, rfl, rfl⟩, rfl, by decide⟩
    · refine runS_says 0 (by exact g0) (Says.refl _) ?_; refine runS_says 5 (by exact g5) (Says.refl _) ?_; refine runS_says 6 (by exact g6) (Says.refl _) ?_
      refine rX rfl ?_
      refine runS_cond rfl (fun h => ?_) (fun h => by cases h)
      refine rX rfl ?_
      refine runS_cond rfl (fun h => ?_) (fun h => by rw [show (ByteArray.mk #[45]) = bs [45] from rfl, bs_beq] at h; cases h)
      refine rX rfl ?_
      refine runS_ret (I := inf) 0 rfl (Nat.le_refl _) rfl .nil rfl ⟨?_, rfl⟩
      rfl
  · refine callS_body (n := 17) rfl rfl fun w ρ X => ?_
    refine rX rfl ?_
    refine runS_while (fun (i : Nat) τ ar => (τ 0 = sv [42] ∧ τ 5 = .agg [.val (.string ⟨#[43]⟩), .val (.string ⟨#[45]⟩), .val (.string ⟨#[42]⟩), .val (.string ⟨#[47]⟩), .val (.string ⟨#[42,42]⟩)] ∧ τ 6 = iv i) ∧ ar = [] ∧ i ≤ 2) (fun i => 2 - i) 0 ⟨⟨rfl, rfl, rfl⟩, rfl, Nat.zero_le _⟩ ?_
    rintro i τ' ar' ⟨⟨g0, g5, g6⟩, rfl, hi⟩ ih
    have hc : i = 0 ∨ i = 1 ∨ i = 2 := by omega
    rcases hc with rfl | rfl | rfl
    · refine runS_says 0 (by exact g0) (Says.refl _) ?_; refine runS_says 5 (by exact g5) (Says.refl _) ?_; refine runS_says 6 (by exact g6) (Says.refl _) ?_
      refine rX rfl ?_
      refine runS_cond rfl (fun h => ?_) (fun h => by cases h)
      refine rX rfl ?_
      refine runS_cond rfl (fun h => by rw [show (ByteArray.mk #[43]) = bs [43] from rfl, bs_beq] at h; cases h) (fun h => ?_)
      refine rX rfl ?_
      exact ih 1 _ _ (by decide) ⟨⟨rfl, rfl, rfl⟩, rfl, by decide⟩
    · refine runS_says 0 (by exact g0) (Says.refl _) ?_; refine runS_says 5 (by exact g5) (Says.refl _) ?_; refine runS_says 6 (by exact g6) (Says.refl _) ?_
      refine rX rfl ?_
      refine runS_cond rfl (fun h => ?_) (fun h => by cases h)
      refine rX rfl ?_
      refine runS_cond rfl (fun h => by rw [show (ByteArray.mk #[45]) = bs [45] from rfl, bs_beq] at h; cases h) (fun h => ?_)
      refine rX rfl ?_
      exact ih 2 _ _ (by decide) ⟨⟨rfl, rfl, rfl⟩, rfl, by decide⟩
    · refine runS_says 0 (by exact g0) (Says.refl _) ?_; refine runS_says 5 (by exact g5) (Says.refl _) ?_; refine runS_says 6 (by exact g6) (Says.refl _) ?_
      refine rX rfl ?_
      refine runS_cond rfl (fun h => ?_) (fun h => by cases h)
      refine rX rfl ?_
      refine runS_cond rfl (fun h => ?_) (fun h => by rw [show (ByteArray.mk #[42]) = bs [42] from rfl, bs_beq] at h; cases h)
      refine rX rfl ?_
      refine runS_ret (I := inf) 0 rfl (Nat.le_refl _) rfl .nil rfl ⟨?_, rfl⟩
      rfl
  · refine callS_body (n := 17) rfl rfl fun w ρ X => ?_
    refine rX rfl ?_
    refine runS_while (fun (i : Nat) τ ar => (τ 0 = sv [47] ∧ τ 5 = .agg [.val (.string ⟨#[43]⟩), .val (.string ⟨#[45]⟩), .val (.string ⟨#[42]⟩), .val (.string ⟨#[47]⟩), .val (.string ⟨#[42,42]⟩)] ∧ τ 6 = iv i) ∧ ar = [] ∧ i ≤ 3) (fun i => 3 - i) 0 ⟨⟨rfl, rfl, rfl⟩, rfl, Nat.zero_le _⟩ ?_
    rintro i τ' ar' ⟨⟨g0, g5, g6⟩, rfl, hi⟩ ih
    have hc : i = 0 ∨ i = 1 ∨ i = 2 ∨ i = 3 := by omega
    rcases hc with rfl | rfl | rfl | rfl
    · refine runS_says 0 (by exact g0) (Says.refl _) ?_; refine runS_says 5 (by exact g5) (Says.refl _) ?_; refine runS_says 6 (by exact g6) (Says.refl _) ?_
      refine rX rfl ?_
      refine runS_cond rfl (fun h => ?_) (fun h => by cases h)
      refine rX rfl ?_
      refine runS_cond rfl (fun h => by rw [show (ByteArray.mk #[43]) = bs [43] from rfl, bs_beq] at h; cases h) (fun h => ?_)
      refine rX rfl ?_
      exact ih 1 _ _ (by decide) ⟨⟨rfl, rfl, rfl⟩, rfl, by decide⟩
    · refine runS_says 0 (by exact g0) (Says.refl _) ?_; refine runS_says 5 (by exact g5) (Says.refl _) ?_; refine runS_says 6 (by exact g6) (Says.refl _) ?_
      refine rX rfl ?_
      refine runS_cond rfl (fun h => ?_) (fun h => by cases h)
      refine rX rfl ?_
      refine runS_cond rfl (fun h => by rw [show (ByteArray.mk #[45]) = bs [45] from rfl, bs_beq] at h; cases h) (fun h => ?_)
      refine rX rfl ?_
      exact ih 2 _ _ (by decide) ⟨⟨rfl, rfl, rfl⟩, rfl, by decide⟩
    · refine runS_says 0 (by exact g0) (Says.refl _) ?_; refine runS_says 5 (by exact g5) (Says.refl _) ?_; refine runS_says 6 (by exact g6) (Says.refl _) ?_
      refine rX rfl ?_
      refine runS_cond rfl (fun h => ?_) (fun h => by cases h)
      refine rX rfl ?_
      refine runS_cond rfl (fun h => by rw [show (ByteArray.mk #[42]) = bs [42] from rfl, bs_beq] at h; cases h) (fun h => ?_)
      refine rX rfl ?_
      exact ih 3 _ _ (by decide) ⟨⟨rfl, rfl, rfl⟩, rfl, by decide⟩
    · refine runS_says 0 (by exact g0) (Says.refl _) ?_; refine runS_says 5 (by exact g5) (Says.refl _) ?_; refine runS_says 6 (by exact g6) (Says.refl _) ?_
      refine rX rfl ?_
      refine runS_cond rfl (fun h => ?_) (fun h => by cases h)
      refine rX rfl ?_
      refine runS_cond rfl (fun h => ?_) (fun h => by rw [show (ByteArray.mk #[47]) = bs [47] from rfl, bs_beq] at h; cases h)
      refine rX rfl ?_
      refine runS_ret (I := inf) 0 rfl (Nat.le_refl _) rfl .nil rfl ⟨?_, rfl⟩
      rfl
end Go.Iron.Tryz

/- The pairs' seat: the type of a result, told by the program's rules. -/
namespace Go.Iron.Tryz
open Go.Proofs Go.RowKit Go.Iron.Tok Go.Iron.Dg

theorem nt_of {t : Typ} (hv : validT t = true) (hk : t.kind = 1 ∨ t.kind = 2 ∨ t.kind = 3) : NT t := by
  obtain ⟨h1, h2, h3, h4, _⟩ := num_p hv hk
  exact ⟨hk, h1, h2, h3, h4⟩
def vN (t : Typ) : Prop := validT t = true ∧ (t.kind = 1 ∨ t.kind = 2 ∨ t.kind = 3)
theorem p_valid (n1 : Option Bool) (ts : List Typ) (hl : ts.length ≤ 100000) (hv : ∀ t ∈ ts, vN t) : CallT Tryz.prog 137 [tyS n1 ts] [] (fun o A => o = .ret (.tup []) ∧ A = []) := by
  refine callS_body (n := 32) rfl rfl fun w ρ X => ?_
  refine rX rfl ?_
  refine runS_while (fun (i : Nat) τ ar => (τ 0 = tyS n1 ts ∧ τ 6 = tyS n1 ts ∧ τ 7 = iv ts.length ∧ τ 8 = iv i) ∧ ar = [] ∧ i ≤ ts.length) (fun i => ts.length - i) 0 ⟨⟨rfl, rfl, rfl, rfl⟩, rfl, Nat.zero_le _⟩ ?_
  rintro i τ' ar' ⟨⟨g0, g6, g7, g8⟩, rfl, hi⟩ ih
  refine runS_says 0 (by exact g0) (Says.refl _) ?_; refine runS_says 6 (by exact g6) (Says.refl _) ?_; refine runS_says 7 (by exact g7) (Says.refl _) ?_; refine runS_says 8 (by exact g8) (Says.refl _) ?_
  refine rX rfl ?_
  refine runS_cond rfl (fun h => ?_) (fun h => ?_)
  · have hlt : i < ts.length := by simp at h; omega
    have hw1 : IntKind.wrap .i64 ((i : Int) + 1) = ((i + 1 : Nat) : Int) := by rw [w64 (by omega) (by omega)]; rfl
    have hvt := (hv _ (List.getElem_mem hlt)).1
    have hd := d_valid (ts.getD i ty0)
    rw [ty_get hlt, hvt, ← ty_get hlt] at hd
    refine runS_x (I := inf) (J := jnf) ⟨false, false, [], 0, 0⟩ 9999 rfl (by repeat (first | exact obs_nil | refine obs_draw (by kernel_rfl) ?_ | refine obs_same ?_ | refine obs_and ?_ | refine obs_by (by (simp [inB, hlt] <;> omega)) ?_)) ?_
    refine runS_call rfl rfl rfl rfl rfl rfl rfl hd ?_
    refine rX rfl ?_
    refine runS_call rfl rfl rfl rfl rfl rfl rfl (p_must 13) ?_
    refine rX rfl ?_
    refine runS_drop 0 (Nat.zero_le _) rfl (by repeat (first | exact .nil | refine .row (fun j hj => rfl) ?_ | refine .box rfl ?_ | refine .fam (fun k j hk hj => rfl) ?_ | refine .loop (scrub_under _ _) ?_ | refine .dfr ?_ | refine .gone ?_ | refine .map (fun p hp => by (obtain ⟨k, _, rfl⟩ := List.mem_map.1 hp; rfl)) ?_)) rfl rfl rfl (by repeat (first | exact .nil | refine .cons rfl rfl rfl (scrub_under _ _) ?_)) ?_
    exact ih (i + 1) _ _ (by omega) ⟨⟨rfl, rfl, rfl, congrArg iv hw1⟩, rfl, by omega⟩
  · clear ih hi g0 g6 g7 g8 h
    refine rX rfl ?_
    refine runS_while (fun (i : Nat) τ ar => (τ 16 = tyS n1 ts ∧ τ 17 = iv ts.length ∧ τ 18 = iv i) ∧ ar = [] ∧ i ≤ ts.length) (fun i => ts.length - i) 0 ⟨⟨rfl, rfl, rfl⟩, rfl, Nat.zero_le _⟩ ?_
    rintro i τ' ar' ⟨⟨g6, g7, g8⟩, rfl, hi⟩ ih
    refine runS_says 16 (by exact g6) (Says.refl _) ?_; refine runS_says 17 (by exact g7) (Says.refl _) ?_; refine runS_says 18 (by exact g8) (Says.refl _) ?_
    refine rX rfl ?_
    refine runS_cond rfl (fun h => ?_) (fun h => ?_)
    · have hlt : i < ts.length := by simp at h; omega
      have hw1 : IntKind.wrap .i64 ((i : Int) + 1) = ((i + 1 : Nat) : Int) := by rw [w64 (by omega) (by omega)]; rfl
      have hvt := (hv _ (List.getElem_mem hlt)).2
      have hb : (if decide ((ts.getD i ty0).kind ≥ 1) = true then decide ((ts.getD i ty0).kind ≤ 3) else false) = true := by
        rw [ty_get hlt, decide_eq_true (by omega), if_pos rfl, decide_eq_true (by omega)]
      have hm := p_must 10
      rw [← hb] at hm
      refine runS_x (I := inf) (J := jnf) ⟨false, false, [], 0, 0⟩ 9999 rfl (by repeat (first | exact obs_nil | refine obs_draw (by kernel_rfl) ?_ | refine obs_same ?_ | refine obs_and ?_ | refine obs_by (by (simp [inB, hlt] <;> omega)) ?_)) ?_
      refine runS_call rfl rfl rfl rfl rfl rfl rfl hm ?_
      refine rX rfl ?_
      refine runS_drop 0 (Nat.zero_le _) rfl (by repeat (first | exact .nil | refine .row (fun j hj => rfl) ?_ | refine .box rfl ?_ | refine .fam (fun k j hk hj => rfl) ?_ | refine .loop (scrub_under _ _) ?_ | refine .dfr ?_ | refine .gone ?_ | refine .map (fun p hp => by (obtain ⟨k, _, rfl⟩ := List.mem_map.1 hp; rfl)) ?_)) rfl rfl rfl (by repeat (first | exact .nil | refine .cons rfl rfl rfl (scrub_under _ _) ?_)) ?_
      exact ih (i + 1) _ _ (by omega) ⟨⟨rfl, rfl, congrArg iv hw1⟩, rfl, by omega⟩
    · refine rX rfl ?_
      refine runS_ret (I := inf) 0 rfl (Nat.le_refl _) rfl .nil rfl ⟨?_, rfl⟩
      rfl
theorem tog_ok {op : UInt8} {a b : Typ} (ha : NT a) (hb : NT b) : NT (togT a b).1 ∧ NT (togT a b).2.1 ∧ ((togT a b).2.2 = 15 ∨ (togT a b).2.2 = 31) ∧ rowT op (togT a b).1 (togT a b).2.1 (togT a b).2.2 = (if op = 43 ∨ op = 45 then sumT (togT a b).1 (togT a b).2.1 (togT a b).2.2 else if op = 42 then mulT (togT a b).1 (togT a b).2.1 (togT a b).2.2 else divT (togT a b).1 (togT a b).2.1 (togT a b).2.2) := by
  unfold togT
  split
  · exact ⟨nt_flt ha, nt_flt hb, .inl rfl, rfl⟩
  · split
    · exact ⟨nt_bin ha, nt_bin hb, .inr rfl, rfl⟩
    · exact ⟨ha, hb, .inl rfl, rfl⟩
theorem p_result42 (a b : Typ) (ha : vN a) (hb : vN b) : CallT Tryz.prog 70 [sv [42], .agg (typE a), .agg (typE b)] [] (fun o A => o = .ret (.tup [.agg (typE (resT 42 a b)), iv 0]) ∧ A = []) := by
  have na := nt_of ha.1 ha.2
  have nb := nt_of hb.1 hb.2
  obtain ⟨nx, ny, hm, hr⟩ := tog_ok na nb (op := 42)
  have ht := p_together a b na nb
  have hrow := p_mulR (togT a b).1 (togT a b).2.1 nx ny (togT a b).2.2 hm
  unfold resT
  generalize togT a b = z at *
  obtain ⟨x, y, m⟩ := z
  dsimp only at *
  refine callS_body (n := 12) rfl rfl fun w ρ X => ?_
  refine runS_x (I := inf) (J := jnf) ⟨false, false, [135, 136, 190], 0, 0⟩ 9999 rfl ob1 ?_
  refine runS_tell 7 (tyR [a, b]) rfl (m' := 2) rfl (fun j hj => ?_) rfl ?_
  · rcases j with _ | _ | j <;> first | rfl | omega
  refine runS_freeze 12 rfl rfl rfl (fun j hj => ?_) ?_
  · rcases j with _ | _ | j <;> first | rfl | omega
  refine runS_call rfl rfl rfl rfl rfl rfl rfl (p_valid none [a, b] (by simp) (by intro t ht; simp at ht; rcases ht with rfl | rfl; exact ha; exact hb)) ?_
  refine runS_x (I := inf) (J := jnf) ⟨false, false, [135, 136, 190], 0, 0⟩ 9999 rfl ob1 ?_
  refine runS_call rfl rfl rfl rfl rfl rfl rfl (p_sign 42 2 (by decide)) ?_
  refine runS_x (I := inf) (J := jnf) ⟨false, false, [135, 136, 190], 0, 0⟩ 9999 rfl ob1 ?_
  refine runS_cond rfl (fun h => by cases h) (fun h => ?_)
  refine runS_x (I := inf) (J := jnf) ⟨false, false, [135, 136, 190], 0, 0⟩ 9999 rfl ob1 ?_
  refine runS_call rfl rfl rfl rfl rfl rfl rfl ht ?_
  refine runS_x (I := inf) (J := jnf) ⟨false, false, [135, 136, 190], 0, 0⟩ 9999 rfl ob1 ?_
  refine runS_cond rfl (fun h => ?_) (fun h => ?_)
  · have h3 : x.kind = 3 := by simpa using (show (x.kind == 3) = true from h)
    unfold fixT
    rw [if_pos h3]
    refine runS_x (I := inf) (J := jnf) ⟨true, false, [135, 136, 190], 0, 0⟩ 9999 rfl ob1 ?_
    refine runS_ret (I := inf) 0 rfl (Nat.le_refl _) rfl .nil rfl ⟨?_, rfl⟩
    refine congrArg (fun z => Out.ret (.tup [.agg [iv 3, iv z, iv 0, iv 0, bv false, sv []], iv 0])) ?_
    exact maxI x.p y.p
  · have h3 : ¬ x.kind = 3 := by simpa using (show (x.kind == 3) = false from h)
    unfold fixT
    rw [if_neg h3, hr]
    refine runS_x (I := inf) (J := jnf) ⟨false, false, [135, 136, 190], 0, 0⟩ 9999 rfl ob1 ?_
    refine runS_draw 12 (by kernel_rfl) (lexj_x (I := inf) (J := jnf) 99 rfl rfl ob0 (lexj_call rfl rfl rfl rfl rfl rfl rfl rfl p_rows (lexj_x (I := inf) (J := jnf) 99 rfl rfl ob0 (lexj_call rfl rfl rfl rfl rfl rfl rfl rfl hrow (lexj_x (I := inf) (J := jnf) 99 rfl rfl ob0 lexj_nil))))) ?_
    refine runS_x (I := inf) (J := jnf) ⟨true, false, [135, 136, 190], 0, 0⟩ 9999 rfl ob1 ?_
    refine runS_ret (I := inf) 0 rfl (Nat.le_refl _) rfl .nil rfl ⟨?_, rfl⟩
    rfl
end Go.Iron.Tryz

/- The digits' seat: the reference's sums, products and order of exact numbers. -/
namespace Go.Iron.Tryz
open Go.Proofs Go.RowKit Go.Iron.Tok Go.Iron.Dg

theorem ExFit.mono {x : Ex} {l l2 : Nat} (h : ExFit x l) (hl : l ≤ l2) : ExFit x l2 := ⟨Nat.le_trans h.1 hl, Nat.le_trans h.2 hl⟩
theorem both_fit {x y : Ex} {l m : Nat} (hx : ExFit x l) (hy : ExFit y m) : ExFit (bothE x y) (2 * (l + m) + 1) := by
  have h1 := frm_len_mul x.num y.den
  have h2 := frm_len_mul y.num x.den
  have h3 := frm_len_mul x.den y.den
  have a1 := hx.1; have a2 := hx.2; have b1 := hy.1; have b2 := hy.2
  have hs := frm_len_add (x.num * y.den) (y.num * x.den)
  have d1 := frm_len_mono (Nat.sub_le (x.num * y.den) (y.num * x.den))
  have d2 := frm_len_mono (Nat.sub_le (y.num * x.den) (x.num * y.den))
  unfold bothE
  split
  · exact ⟨by dsimp only; omega, by dsimp only; omega⟩
  · split
    · exact ⟨by dsimp only; omega, by dsimp only; omega⟩
    · exact ⟨by dsimp only; omega, by dsimp only; omega⟩
theorem times_fit {x y : Ex} {l m : Nat} (hx : ExFit x l) (hy : ExFit y m) : ExFit (timesE x y) (l + m) := by
  have h1 := frm_len_mul x.num y.num
  have h3 := frm_len_mul x.den y.den
  have a1 := hx.1; have a2 := hx.2; have b1 := hy.1; have b2 := hy.2
  exact ⟨by show (frm (x.num * y.num)).length ≤ _; omega, by show (frm (x.den * y.den)).length ≤ _; omega⟩
theorem len_pos (n : Nat) : decide (((frm n).length : Int) > 0) = decide (n ≠ 0) := by
  have hl := frm_len0 (x := n)
  rw [Bool.eq_iff_iff]
  simp
  omega
theorem r_times (x y : Ex) (hx : ExFit x 4000) (hy : ExFit y 4000) : CallT Tryz.prog 19 [exA x, exA y] [] (fun o A => o = .ret (exA (timesE x y)) ∧ A = []) := by
  obtain ⟨xg, xn, xd⟩ := x
  obtain ⟨yg, yn, yd⟩ := y
  obtain ⟨a1, a2⟩ := hx
  obtain ⟨b1, b2⟩ := hy
  dsimp only at a1 a2 b1 b2
  have hm1 := r_mul none none xn yn a1 b1
  have hm2 := r_mul none none xd yd a2 b2
  refine callS_body (n := 28) rfl rfl fun w ρ X => ?_
  refine rX rfl ?_
  refine runS_call rfl rfl rfl rfl rfl rfl rfl hm1 ?_
  refine rX rfl ?_
  refine runS_call rfl rfl rfl rfl rfl rfl rfl hm2 ?_
  refine rX rfl ?_
  refine runS_ret (I := inf) 0 rfl (Nat.le_refl _) rfl .nil rfl ⟨?_, rfl⟩
  show Out.ret (.agg [bv (if (xg != yg) = true then decide (((frm (xn * yn)).length : Int) > 0) else false), natS none (frm (xn * yn)), natS none (frm (xd * yd))]) = _
  rw [len_pos]
  cases xg <;> cases yg <;> rfl
theorem r_both (x y : Ex) (hx : ExFit x 1900) (hy : ExFit y 1900) : CallT Tryz.prog 20 [exA x, exA y] [] (fun o A => o = .ret (exA (bothE x y)) ∧ A = []) := by
  obtain ⟨xg, xn, xd⟩ := x
  obtain ⟨yg, yn, yd⟩ := y
  obtain ⟨a1, a2⟩ := hx
  obtain ⟨b1, b2⟩ := hy
  dsimp only at a1 a2 b1 b2
  have hm1 := r_mul none none xn yd (by omega) (by omega)
  have hm2 := r_mul none none yn xd (by omega) (by omega)
  have hm3 := r_mul none none xd yd (by omega) (by omega)
  have hl1 := frm_len_mul xn yd
  have hl2 := frm_len_mul yn xd
  unfold bothE
  dsimp only
  generalize xn * yd = p at *
  generalize yn * xd = q at *
  generalize xd * yd = d at *
  have hcm := cmpT_lt p q
  refine callS_body (n := 66) rfl rfl fun w ρ X => ?_
  refine rX rfl ?_
  refine runS_draw 9 (by kernel_rfl) (lexj_x (I := inf) (J := jnf) 99 rfl rfl ob0 (lexj_call rfl rfl rfl rfl rfl rfl rfl rfl hm1 (lexj_x (I := inf) (J := jnf) 99 rfl rfl ob0 lexj_nil))) ?_
  refine rX rfl ?_
  refine runS_call rfl rfl rfl rfl rfl rfl rfl hm2 ?_
  refine rX rfl ?_
  refine runS_call rfl rfl rfl rfl rfl rfl rfl hm3 ?_
  refine rX rfl ?_
  refine runS_cond rfl (fun h => ?_) (fun h => ?_)
  · have hs : xg = yg := by simpa using h
    rw [if_pos hs]
    refine rX rfl ?_
    refine runS_draw 6 (by kernel_rfl) (lexj_x (I := inf) (J := jnf) 99 rfl rfl ob0 (lexj_call rfl rfl rfl rfl rfl rfl rfl rfl (r_plus none none p q (by omega) (by omega)) (lexj_x (I := inf) (J := jnf) 99 rfl rfl ob0 lexj_nil))) ?_
    refine rX rfl ?_
    refine runS_ret (I := inf) 0 rfl (Nat.le_refl _) rfl .nil rfl ⟨?_, rfl⟩
    show Out.ret (.agg [bv (if xg = true then decide (((frm (p + q)).length : Int) > 0) else false), natS none (frm (p + q)), natS none (frm d)]) = _
    rw [len_pos]
    cases xg <;> rfl
  · have hs : ¬ xg = yg := by simpa using h
    rw [if_neg hs]
    refine rX rfl ?_
    refine runS_call rfl rfl rfl rfl rfl rfl rfl (r_cmp none none (frm p) (frm q) (by omega) (by omega)) ?_
    refine rX rfl ?_
    refine runS_cond rfl (fun h2 => ?_) (fun h2 => ?_)
    · have hle : q ≤ p := by
        have := of_decide_eq_true h2
        omega
      rw [if_pos hle]
      refine rX rfl ?_
      refine runS_draw 6 (by kernel_rfl) (lexj_x (I := inf) (J := jnf) 99 rfl rfl ob0 (lexj_call rfl rfl rfl rfl rfl rfl rfl rfl (r_less none none p q hle (by omega)) (lexj_x (I := inf) (J := jnf) 99 rfl rfl ob0 lexj_nil))) ?_
      refine rX rfl ?_
      refine runS_ret (I := inf) 0 rfl (Nat.le_refl _) rfl .nil rfl ⟨?_, rfl⟩
      show Out.ret (.agg [bv (if xg = true then decide (((frm (p - q)).length : Int) > 0) else false), natS none (frm (p - q)), natS none (frm d)]) = _
      rw [len_pos]
      cases xg <;> rfl
    · have hle : ¬ q ≤ p := by
        have := of_decide_eq_false h2
        omega
      rw [if_neg hle]
      refine rX rfl ?_
      refine runS_draw 6 (by kernel_rfl) (lexj_x (I := inf) (J := jnf) 99 rfl rfl ob0 (lexj_call rfl rfl rfl rfl rfl rfl rfl rfl (r_less none none q p (by omega) (by omega)) (lexj_x (I := inf) (J := jnf) 99 rfl rfl ob0 lexj_nil))) ?_
      refine rX rfl ?_
      refine runS_ret (I := inf) 0 rfl (Nat.le_refl _) rfl .nil rfl ⟨?_, rfl⟩
      show Out.ret (.agg [bv (if yg = true then decide (((frm (q - p)).length : Int) > 0) else false), natS none (frm (q - p)), natS none (frm d)]) = _
      rw [len_pos]
      cases yg <;> rfl
theorem turn_fit {x : Ex} {l : Nat} (h : ExFit x l) : ExFit (turnE x) l := ⟨h.1, h.2⟩
end Go.Iron.Tryz

/- Digits: how the reference finds a float's digits, in plain Lean. -/
namespace Go.Iron.Dg

theorem float_start {num den P : Nat} {k0 : Int} (hn : num ≠ 0) (hd : den ≠ 0) (hP : 1 ≤ P) (hk : k0 = (P : Int) - ((frm num).length - (frm den).length) - 1) :
    den * e10 (-k0) * 10 ^ (P - 1) < num * e10 k0 * 10 ∧ num * e10 k0 < den * e10 (-k0) * 10 ^ P := by
  have n1 := frm_ge hn
  have n2 := frm_lt_pow num
  have d1 := frm_ge hd
  have d2 := frm_lt_pow den
  have ln : 0 < (frm num).length := Nat.pos_of_ne_zero fun e => hn (frm_len0.1 e)
  have ld : 0 < (frm den).length := Nat.pos_of_ne_zero fun e => hd (frm_len0.1 e)
  generalize (frm num).length = a at *
  generalize (frm den).length = b at *
  constructor
  · have h1 : den * e10 (-k0) * 10 ^ (P - 1) < 10 ^ b * e10 (-k0) * 10 ^ (P - 1) := Nat.mul_lt_mul_of_pos_right (Nat.mul_lt_mul_of_pos_right d2 (e10_pos _)) (Nat.pow_pos (by decide))
    have h2 : 10 ^ (a - 1) * e10 k0 * 10 ≤ num * e10 k0 * 10 := Nat.mul_le_mul_right _ (Nat.mul_le_mul_right _ n1)
    have h3 : 10 ^ b * e10 (-k0) * 10 ^ (P - 1) = 10 ^ (a - 1) * e10 k0 * 10 := by
      unfold e10
      rw [← Nat.pow_add, ← Nat.pow_add, ← Nat.pow_add, ← Nat.pow_succ]
      congr 1
      omega
    omega
  · have h1 : num * e10 k0 < 10 ^ a * e10 k0 := Nat.mul_lt_mul_of_pos_right n2 (e10_pos _)
    have h2 : 10 ^ (b - 1) * e10 (-k0) * 10 ^ P ≤ den * e10 (-k0) * 10 ^ P := Nat.mul_le_mul_right _ (Nat.mul_le_mul_right _ d1)
    have h3 : 10 ^ a * e10 k0 = 10 ^ (b - 1) * e10 (-k0) * 10 ^ P := by
      unfold e10
      rw [← Nat.pow_add, ← Nat.pow_add, ← Nat.pow_add]
      congr 1
      omega
    omega
theorem ratio_le {N D A B X : Nat} (h : N * B = D * A) (hD : 0 < D) (hB : 0 < B) : X * B ≤ A ↔ X * D ≤ N := by
  constructor
  · intro h1
    refine Nat.le_of_mul_le_mul_right (c := B) ?_ hB
    rw [h]
    calc X * D * B = D * (X * B) := by ac_rfl
      _ ≤ D * A := Nat.mul_le_mul_left _ h1
  · intro h1
    refine Nat.le_of_mul_le_mul_left ?_ hD
    rw [← h]
    calc D * (X * B) = X * D * B := by ac_rfl
      _ ≤ N * B := Nat.mul_le_mul_right _ h1
theorem ratio_div {N D A B : Nat} (h : N * B = D * A) (hD : 0 < D) (hB : 0 < B) (c : Nat) : A * c / B = N * c / D := by
  rw [← Nat.mul_div_mul_left (A * c) B hD, ← Nat.mul_div_mul_right (N * c) D hB]
  congr 1
  rw [show D * (A * c) = D * A * c by ac_rfl, ← h]
  ac_rfl
theorem float_found {num den P N D : Nat} {k : Int} (hr : N * (den * e10 (-k)) = D * (num * e10 k)) (hd : 0 < den) (hD : 0 < D) (h1 : D * 10 ^ (P - 1) ≤ N) (h2 : N < D * 10 ^ P) :
    IsK num den P k ∧ fltR num den k = normD (N / D + (if N % D + N % D ≥ D then 1 else 0)) (-k) := by
  have hB : 0 < den * e10 (-k) := Nat.mul_pos hd (e10_pos _)
  refine ⟨⟨?_, ?_⟩, ?_⟩
  · exact (ratio_le hr hD hB).2 (by rw [Nat.mul_comm]; exact h1)
  · refine Nat.lt_of_not_le fun h => ?_
    have h3 := (ratio_le (X := 10 ^ P) hr hD hB).1 h
    rw [Nat.mul_comm] at h3
    omega
  · unfold fltR
    rw [← rnd_half hD, show num * (10 * e10 k) = num * e10 k * 10 by ac_rfl, ratio_div hr hD hB 10]
theorem float_ratio (num den : Nat) (k0 : Int) (j : Nat) : num * e10 k0 * 10 ^ j * (den * e10 (-(k0 + j))) = den * e10 (-k0) * (num * e10 (k0 + j)) := by
  have h : e10 k0 * 10 ^ j * e10 (-(k0 + j)) = e10 (-k0) * e10 (k0 + j) := by
    unfold e10
    rw [← Nat.pow_add, ← Nat.pow_add, ← Nat.pow_add]
    congr 1
    omega
  rw [show num * e10 k0 * 10 ^ j * (den * e10 (-(k0 + j))) = num * den * (e10 k0 * 10 ^ j * e10 (-(k0 + j))) by ac_rfl, h]
  ac_rfl
end Go.Iron.Dg

/- The digits' seat: what the reference asks; its quotients of naturals. -/
namespace Go.Iron.Tryz
open Go.Proofs Go.RowKit Go.Iron.Tok Go.Iron.Dg

theorem r_numbers (n1 : Option Bool) (l : List Vl) (hl : l.length ≤ 100000) : CallT Tryz.prog 103 [vlS n1 l] [] (fun o A => o = .ret (iv (askL none l)) ∧ A = []) := by
  refine callS_body (n := 30) rfl rfl fun w ρ X => ?_
  refine rX rfl ?_
  refine runS_while (fun (i : Nat) τ ar => (τ 0 = vlS n1 l ∧ τ 3 = iv i) ∧ ar = [] ∧ i ≤ l.length ∧ (l.take i).all Vl.right = true) (fun i => l.length - i) 0 ⟨⟨rfl, rfl⟩, rfl, Nat.zero_le _, rfl⟩ ?_
  rintro i τ' ar' ⟨⟨g0, g3⟩, rfl, hi, ha⟩ ih
  refine runS_says 0 (by exact g0) (Says.refl _) ?_; refine runS_says 3 (by exact g3) (Says.refl _) ?_
  refine rX rfl ?_
  refine runS_cond rfl (fun h => ?_) (fun h => ?_)
  · have hlt : i < l.length := by simp at h; omega
    have hw1 : IntKind.wrap .i64 ((i : Int) + 1) = ((i + 1 : Nat) : Int) := by rw [w64 (by omega) (by omega)]; rfl
    have hv := vl_get hlt
    refine runS_x (I := inf) (J := jnf) ⟨false, false, [], 0, 0⟩ 9999 rfl (by repeat (first | exact obs_nil | refine obs_draw (by kernel_rfl) ?_ | refine obs_same ?_ | refine obs_and ?_ | refine obs_by (by (simp [inB, hlt] <;> omega)) ?_)) ?_
    refine runS_call rfl rfl rfl rfl rfl rfl rfl (r_right (l.getD i ⟨0, 0, 0, []⟩).kind (l.getD i ⟨0, 0, 0, []⟩).n (l.getD i ⟨0, 0, 0, []⟩).q (l.getD i ⟨0, 0, 0, []⟩).s) ?_
    refine rX rfl ?_
    refine runS_cond rfl (fun h2 => ?_) (fun h2 => ?_)
    · have hr : (l[i]).right = false := by
        rw [← hv]
        have h3 : (!(l.getD i ⟨0, 0, 0, []⟩).right) = true := h2
        rw [Bool.not_eq_true'] at h3
        exact h3
      have hE : askL none l = 1 := by
        unfold askL
        rw [if_pos]
        rw [List.all_eq_false]
        exact ⟨_, List.getElem_mem hlt, by rw [hr]; decide⟩
      rw [hE]
      refine rX rfl ?_
      refine runS_ret (I := inf) 0 rfl (Nat.le_refl _) rfl .nil rfl ⟨?_, rfl⟩
      rfl
    · have hr : (l[i]).right = true := by
        rw [← hv]
        have h3 : (!(l.getD i ⟨0, 0, 0, []⟩).right) = false := h2
        rw [Bool.not_eq_false'] at h3
        exact h3
      refine rX rfl ?_
      exact ih (i + 1) _ _ (by omega) ⟨⟨rfl, congrArg iv hw1⟩, rfl, by omega, all_take ha hlt hr⟩
  · have hie : i = l.length := by simp at h; omega
    subst hie
    rw [List.take_length] at ha
    clear ih hi g0 g3
    refine rX rfl ?_
    refine runS_while (fun (i : Nat) τ ar => (τ 0 = vlS n1 l ∧ τ 4 = iv i) ∧ ar = [] ∧ i ≤ l.length ∧ (l.take i).all (fun v => numK v.kind) = true) (fun i => l.length - i) 0 ⟨⟨rfl, rfl⟩, rfl, Nat.zero_le _, rfl⟩ ?_
    rintro i τ2 ar2 ⟨⟨g0, g4⟩, rfl, hi, hb⟩ ih
    refine runS_says 0 (by exact g0) (Says.refl _) ?_; refine runS_says 4 (by exact g4) (Says.refl _) ?_
    refine rX rfl ?_
    refine runS_cond rfl (fun h => ?_) (fun h => ?_)
    · have hlt : i < l.length := by simp at h; omega
      have hw1 : IntKind.wrap .i64 ((i : Int) + 1) = ((i + 1 : Nat) : Int) := by rw [w64 (by omega) (by omega)]; rfl
      have hv := vl_get hlt
      refine runS_x (I := inf) (J := jnf) ⟨false, false, [], 0, 0⟩ 9999 rfl (by repeat (first | exact obs_nil | refine obs_draw (by kernel_rfl) ?_ | refine obs_same ?_ | refine obs_and ?_ | refine obs_by (by (simp [inB, hlt] <;> omega)) ?_)) ?_
      refine runS_call rfl rfl rfl rfl rfl rfl rfl (r_numeric (l.getD i ⟨0, 0, 0, []⟩).kind) ?_
      refine rX rfl ?_
      refine runS_cond rfl (fun h2 => ?_) (fun h2 => ?_)
      · have hr : numK (l[i]).kind = false := by
          rw [← hv]
          have h3 : (!numK (l.getD i ⟨0, 0, 0, []⟩).kind) = true := h2
          rw [Bool.not_eq_true'] at h3
          exact h3
        have hE : askL none l = 10 := by
          unfold askL
          rw [if_neg (by rw [ha]; decide), if_neg (by simp), if_pos]
          rw [List.all_eq_false]
          exact ⟨_, List.getElem_mem hlt, by rw [hr]; decide⟩
        rw [hE]
        refine rX rfl ?_
        refine runS_ret (I := inf) 0 rfl (Nat.le_refl _) rfl .nil rfl ⟨?_, rfl⟩
        rfl
      · have hr : numK (l[i]).kind = true := by
          rw [← hv]
          have h3 : (!numK (l.getD i ⟨0, 0, 0, []⟩).kind) = false := h2
          rw [Bool.not_eq_false'] at h3
          exact h3
        refine rX rfl ?_
        exact ih (i + 1) _ _ (by omega) ⟨⟨rfl, congrArg iv hw1⟩, rfl, by omega, all_take hb hlt hr⟩
    · have hie : i = l.length := by simp at h; omega
      subst hie
      rw [List.take_length] at hb
      have hE : askL none l = 0 := by
        unfold askL
        rw [if_neg (by rw [ha]; decide), if_neg (by simp), if_neg (by rw [hb]; decide), if_neg (by simp)]
      rw [hE]
      refine rX rfl ?_
      refine runS_ret (I := inf) 0 rfl (Nat.le_refl _) rfl .nil rfl ⟨?_, rfl⟩
      rfl
theorem r_asked (t : Typ) (n1 : Option Bool) (l : List Vl) (hl : l.length ≤ 100000) : CallT Tryz.prog 109 [vlS n1 l, .agg (typE t)] [] (fun o A => o = .ret (iv (askL (some t) l)) ∧ A = []) := by
  have hE : askL (some t) l = if askL none l = 1 then 1 else if validT t = false then 13 else if askL none l ≠ 0 then askL none l else if numK t.kind = false then 10 else 0 := by
    unfold askL
    cases h1 : l.all Vl.right <;> cases h2 : (l.all fun v => numK v.kind) <;> cases h3 : validT t <;> cases h4 : numK t.kind <;> simp [h3, h4]
  rw [hE]
  refine callS_body (n := 25) rfl rfl fun w ρ X => ?_
  refine rX rfl ?_
  refine runS_call rfl rfl rfl rfl rfl rfl rfl (r_numbers n1 l hl) ?_
  refine rX rfl ?_
  refine runS_cond rfl (fun h => ?_) (fun h => ?_)
  · have h1 : askL none l = 1 := by simpa using (show (askL none l == 1) = true from h)
    rw [if_pos h1]
    refine rX rfl ?_
    refine runS_ret (I := inf) 0 rfl (Nat.le_refl _) rfl .nil rfl ⟨?_, rfl⟩
    rw [← h1]
    rfl
  · have h1 : ¬ askL none l = 1 := by simpa using (show (askL none l == 1) = false from h)
    rw [if_neg h1]
    refine rX rfl ?_
    refine runS_call rfl rfl rfl rfl rfl rfl rfl (r_valid t) ?_
    refine rX rfl ?_
    refine runS_cond rfl (fun h => ?_) (fun h => ?_)
    · have h2 : validT t = false := by
        have h3 : (!validT t) = true := h
        rw [Bool.not_eq_true'] at h3
        exact h3
      rw [if_pos h2]
      refine rX rfl ?_
      refine runS_ret (I := inf) 0 rfl (Nat.le_refl _) rfl .nil rfl ⟨?_, rfl⟩
      rfl
    · have h2 : ¬ validT t = false := by
        have h3 : (!validT t) = false := h
        rw [Bool.not_eq_false'] at h3
        rw [h3]; decide
      rw [if_neg h2]
      refine rX rfl ?_
      refine runS_cond rfl (fun h => ?_) (fun h => ?_)
      · have h4 : askL none l ≠ 0 := by
          have h3 : (!(askL none l == 0)) = true := h
          rw [Bool.not_eq_true', beq_eq_false_iff_ne] at h3
          exact h3
        rw [if_pos h4]
        refine rX rfl ?_
        refine runS_ret (I := inf) 0 rfl (Nat.le_refl _) rfl .nil rfl ⟨?_, rfl⟩
        rfl
      · have h4 : ¬ askL none l ≠ 0 := by
          have h3 : (!(askL none l == 0)) = false := h
          rw [Bool.not_eq_false', beq_iff_eq] at h3
          exact fun e => e h3
        rw [if_neg h4]
        refine rX rfl ?_
        refine runS_call rfl rfl rfl rfl rfl rfl rfl (r_numeric t.kind) ?_
        refine rX rfl ?_
        refine runS_cond rfl (fun h => ?_) (fun h => ?_)
        · have h5 : numK t.kind = false := by
            have h3 : (!numK t.kind) = true := h
            rw [Bool.not_eq_true'] at h3
            exact h3
          rw [if_pos h5]
          refine rX rfl ?_
          refine runS_ret (I := inf) 0 rfl (Nat.le_refl _) rfl .nil rfl ⟨?_, rfl⟩
          rfl
        · have h5 : ¬ numK t.kind = false := by
            have h3 : (!numK t.kind) = false := h
            rw [Bool.not_eq_false'] at h3
            rw [h3]; decide
          rw [if_neg h5]
          refine rX rfl ?_
          refine runS_ret (I := inf) 0 rfl (Nat.le_refl _) rfl .nil rfl ⟨?_, rfl⟩
          rfl
theorem r_int (n1 : Option Bool) (A : List Nat) (hll : A.length ≤ 18) (hda : ∀ d ∈ A, d < 10) : CallT Tryz.prog 207 [natS n1 A] [] (fun o A' => o = .ret (iv (val A : Nat)) ∧ A' = []) := by
  have hx : val A < 1000000000000000000 := Nat.lt_of_lt_of_le (val_lt hda) (Nat.pow_le_pow_right (by decide) hll)
  have hw0 : IntKind.wrap .i64 ((A.length : Int) - 1) = (A.length : Int) - 1 := w64 (by omega) (by omega)
  refine callS_body (n := 20) rfl rfl fun w ρ X => ?_
  refine rX rfl ?_
  refine runS_while (fun (i : Nat) τ ar => (τ 0 = natS n1 A ∧ τ 3 = iv (val (A.drop i) : Nat) ∧ τ 4 = iv ((i : Int) - 1)) ∧ ar = [] ∧ i ≤ A.length) (fun i => i) A.length ⟨⟨rfl, by rw [List.drop_length]; rfl, congrArg iv hw0⟩, rfl, Nat.le_refl _⟩ ?_
  rintro i τ' ar' ⟨⟨g0, g3, g4⟩, rfl, hi⟩ ih
  refine runS_says 0 (by exact g0) (Says.refl _) ?_; refine runS_says 3 (by exact g3) (Says.refl _) ?_; refine runS_says 4 (by exact g4) (Says.refl _) ?_
  refine rX rfl ?_
  refine runS_cond rfl (fun h => ?_) (fun h => ?_)
  · have hi0 : 0 < i := by
      have : decide ((i : Int) - 1 ≥ 0) = true := h
      simp at this
      omega
    obtain ⟨k, rfl⟩ : ∃ k, i = k + 1 := ⟨i - 1, by omega⟩
    have hk : k < A.length := by omega
    have e1 : (((k + 1 : Nat) : Int) - 1) = (k : Int) := by omega
    rw [e1] at g4 ⊢
    have hwk : IntKind.wrap .i64 ((k : Int) - 1) = (k : Int) - 1 := w64 (by omega) (by omega)
    have hv := val_drop A k
    have hle := val_drop_le A k
    have hd9 := getD_lt hda k
    have hev : IntKind.wrap .i64 (IntKind.wrap .i64 (10 * ((val (A.drop (k + 1)) : Nat) : Int)) + ((A.getD k 0 : Nat) : Int)) = ((val (A.drop k) : Nat) : Int) := by
      rw [w64 (x := 10 * ((val (A.drop (k + 1)) : Nat) : Int)) (by omega) (by omega), w64 (by omega) (by omega)]
      omega
    refine runS_x (I := inf) (J := jnf) ⟨false, false, [], 0, 0⟩ 9999 rfl (by repeat (first | exact obs_nil | refine obs_draw (by kernel_rfl) ?_ | refine obs_same ?_ | refine obs_and ?_ | refine obs_by (by (simp [inB, hk] <;> omega)) ?_)) ?_
    exact ih k _ _ (by omega) ⟨⟨rfl, congrArg iv hev, congrArg iv hwk⟩, rfl, by omega⟩
  · have hi0 : i = 0 := by
      have : decide ((i : Int) - 1 ≥ 0) = false := h
      simp at this
      omega
    subst hi0
    refine rX rfl ?_
    refine runS_ret (I := inf) 0 rfl (Nat.le_refl _) rfl .nil rfl ⟨?_, rfl⟩
    rw [List.drop_zero]
    rfl
theorem r_signed (n1 : Option Bool) (x : Nat) (ng : Bool) (hx : x < 1000000000000000000) : CallT Tryz.prog 179 [natS n1 (frm x), bv ng] [] (fun o A => o = .ret (iv (sgn ng x)) ∧ A = []) := by
  have hi := r_int n1 (frm x) (frm_len_lt.2 hx) (fun d hd => frm_digit hd)
  rw [val_frm] at hi
  cases ng
  · refine callS_body (n := 11) rfl rfl fun w ρ X => ?_
    refine rX rfl ?_
    refine runS_cond rfl (fun h => by cases h) (fun h => ?_)
    refine rX rfl ?_
    refine runS_call rfl rfl rfl rfl rfl rfl rfl hi ?_
    refine rX rfl ?_
    refine runS_ret (I := inf) 0 rfl (Nat.le_refl _) rfl .nil rfl ⟨?_, rfl⟩
    rfl
  · refine callS_body (n := 11) rfl rfl fun w ρ X => ?_
    refine rX rfl ?_
    refine runS_cond rfl (fun h => ?_) (fun h => by cases h)
    refine rX rfl ?_
    refine runS_call rfl rfl rfl rfl rfl rfl rfl hi ?_
    refine rX rfl ?_
    refine runS_ret (I := inf) 0 rfl (Nat.le_refl _) rfl .nil rfl ⟨?_, rfl⟩
    show Out.ret (iv (IntKind.wrap .i64 (0 - (x : Int)))) = _
    rw [w64 (by omega) (by omega), Int.zero_sub]
    rfl
end Go.Iron.Tryz

/- The digits' seat: the reference's quotients of naturals. -/
namespace Go.Iron.Tryz
open Go.Proofs Go.RowKit Go.Iron.Tok Go.Iron.Dg

theorem drop_upd (p : Nat → Nat) (k m n : Nat) : (listF (updF p k m) n).drop (k + 1) = (listF p n).drop (k + 1) := by
  unfold listF
  rw [← List.map_drop, ← List.map_drop]
  refine List.map_congr_left fun a ha => ?_
  obtain ⟨j, hj, rfl⟩ := List.mem_iff_getElem.1 ha
  rw [List.getElem_drop, List.getElem_range]
  unfold updF
  rw [if_neg (by omega)]
structure DivX where
  i : Nat
  p : Nat → Nat
  R : Nat
theorem r_div (n1 n2 : Option Bool) (x y : Nat) (hx : (frm x).length ≤ 4000) (hy : (frm y).length ≤ 3000) (hy0 : 0 < y) : CallT Tryz.prog 178 [natS n1 (frm x), natS n2 (frm y)] [] (fun o A => o = .ret (.tup [natS none (frm (x / y)), natS none (frm (x % y))]) ∧ A = []) := by
  have hvx := val_frm x
  have hda := fun d (hd : d ∈ frm x) => frm_digit hd
  generalize frm x = A at *
  have hw0 : IntKind.wrap .i64 ((A.length : Int) - 1) = (A.length : Int) - 1 := w64 (by omega) (by omega)
  refine callS_body (n := 43) rfl rfl fun w ρ X => ?_
  refine rX rfl ?_
  obtain ⟨n, hn⟩ : ∃ n, A.length = n := ⟨_, rfl⟩
  refine runS_tell 0 (rowN (fun _ => 0)) rfl (m' := n) (by rw [hn]; rfl) (fun j hj => rfl) rfl ?_
  refine runS_says 7 rfl (says_nil0 (sz := 1) (r := nilN) (Nat.zero_le _)) ?_
  refine runS_while (fun (z : DivX) τ ar => (τ 0 = natS n1 A ∧ τ 1 = natS n2 (frm y) ∧ τ 6 = .row 0 0 ∧ τ 7 = natS none (frm z.R) ∧ τ 8 = iv ((z.i : Int) - 1)) ∧ ar = [.row 3 1 0 n (rowN z.p)] ∧ z.i ≤ n ∧ (∀ j, z.p j < 10) ∧ (∀ j, j < z.i → z.p j = 0) ∧ z.R < y ∧ val (A.drop z.i) = val ((listF z.p n).drop z.i) * y + z.R) (fun z => z.i) ⟨n, fun _ => 0, 0⟩ ⟨⟨rfl, rfl, rfl, by rw [frm_zero]; rfl, by rw [← hn]; exact congrArg iv hw0⟩, rfl, Nat.le_refl _, fun _ => by show 0 < 10; decide, fun _ _ => rfl, hy0, by
      dsimp only
      rw [List.drop_eq_nil_of_le (by omega), List.drop_eq_nil_of_le (by rw [listF_len]; exact Nat.le_refl _)]
      show 0 = 0 * y + 0
      omega⟩ ?_
  rintro ⟨i, p, R⟩ τ' ar' ⟨⟨g0, g1, g6, g7, g8⟩, rfl, hi, hp10, hp0, hR, hval⟩ ih
  dsimp only at g7 g8 hi hp10 hp0 hR hval ih ⊢
  refine runS_says 0 (by exact g0) (Says.refl _) ?_; refine runS_says 1 (by exact g1) (Says.refl _) ?_; refine runS_says 6 (by exact g6) (Says.refl _) ?_; refine runS_says 7 (by exact g7) (Says.refl _) ?_; refine runS_says 8 (by exact g8) (Says.refl _) ?_
  refine rX rfl ?_
  refine runS_cond rfl (fun h => ?_) (fun h => ?_)
  · have hi0 : 0 < i := by
      have : decide ((i : Int) - 1 ≥ 0) = true := h
      simp at this
      omega
    obtain ⟨k, rfl⟩ : ∃ k, i = k + 1 := ⟨i - 1, by omega⟩
    have hk : k < A.length := by omega
    have e1 : (((k + 1 : Nat) : Int) - 1) = (k : Int) := by omega
    rw [e1] at g8 ⊢
    have hwk : IntKind.wrap .i64 ((k : Int) - 1) = (k : Int) - 1 := w64 (by omega) (by omega)
    have hv := val_drop A k
    have hd9 := getD_lt hda k
    have hRl : (frm R).length ≤ (frm y).length := frm_len_mono (Nat.le_of_lt hR)
    have hpk : p k = 0 := hp0 k (by omega)
    refine runS_x (I := inf) (J := jnf) ⟨false, false, [], 0, 0⟩ 9999 rfl (by repeat (first | exact obs_nil | refine obs_draw (by kernel_rfl) ?_ | refine obs_same ?_ | refine obs_and ?_ | refine obs_by (by (simp [inB, hk] <;> omega)) ?_)) ?_
    refine runS_tell 1 (natR (A.getD k 0 :: frm R)) rfl (m' := (A.getD k 0 :: frm R).length) (by simp; omega) (fun j hj => ?_) rfl ?_
    · cases j with
      | zero => rfl
      | succ j =>
        refine Eq.trans ?_ (appR_ge (m := 1) (i := j + 1) (Nat.succ_le_succ (Nat.zero_le j))).symm
        rfl
    refine runS_freeze 25 rfl rfl rfl (fun j hj => rfl) ?_
    refine runS_call rfl rfl rfl rfl rfl rfl rfl (r_trim none (A.getD k 0 :: frm R) (by simp; omega) (fun d hd => by rcases List.mem_cons.1 hd with rfl | hd; exact hd9; exact frm_digit hd)) ?_
    have hD : trim (A.getD k 0 :: frm R) = frm (A.getD k 0 + 10 * R) := by
      unfold trim
      rw [val, val_frm]
    rw [hD]
    generalize hDe : A.getD k 0 + 10 * R = D at *
    have hD10 : D < 10 * y := by omega
    refine rX rfl ?_
    refine runS_tell 0 (rowN (updF p k 0)) rfl (m' := n) rfl (fun j hj => by (unfold rowN updF; by_cases e : j = k; (rw [if_pos e, e, hpk]); (rw [if_neg e]))) rfl ?_
    refine runS_while (fun (m : Nat) τ ar => (τ 0 = natS n1 A ∧ τ 1 = natS n2 (frm y) ∧ τ 6 = .row 0 0 ∧ τ 7 = natS none (frm (D - m * y)) ∧ τ 8 = iv k) ∧ ar = [.row 3 1 0 n (rowN (updF p k m)), .gone] ∧ m * y ≤ D) (fun m => D - m * y) 0 ⟨⟨rfl, rfl, rfl, by rw [Nat.zero_mul, Nat.sub_zero]; rfl, rfl⟩, rfl, by omega⟩ ?_
    rintro m τ2 ar2 ⟨⟨j0, j1, j6, j7, j8⟩, rfl, hm⟩ ih2
    have hm9 : m ≤ 9 := by
      refine Nat.le_of_lt_succ (Nat.lt_of_mul_lt_mul_right (a := y) (Nat.lt_of_le_of_lt hm ?_))
      exact hD10
    have hDl : (frm (D - m * y)).length ≤ (frm y).length + 1 := by
      refine frm_len_lt.2 ?_
      have h1 := frm_lt_pow y
      rw [Nat.pow_succ]
      omega
    refine runS_says 0 (by exact j0) (Says.refl _) ?_; refine runS_says 1 (by exact j1) (Says.refl _) ?_; refine runS_says 6 (by exact j6) (Says.refl _) ?_; refine runS_says 7 (by exact j7) (Says.refl _) ?_; refine runS_says 8 (by exact j8) (Says.refl _) ?_
    refine rX rfl ?_
    refine runS_call rfl rfl rfl rfl rfl rfl rfl (r_cmp none n2 (frm (D - m * y)) (frm y) (by omega) (by omega)) ?_
    refine rX rfl ?_
    have hcm := cmpT_lt (D - m * y) y
    refine runS_cond rfl (fun h2 => ?_) (fun h2 => ?_)
    · have hge : y ≤ D - m * y := by
        have := of_decide_eq_true (show decide (cmpT (frm (D - m * y)) (frm y) ≥ 0) = true from h2)
        omega
      have hn1 : (m + 1) * y = m * y + y := by rw [Nat.add_mul, Nat.one_mul]
      have hls := r_less none n2 (D - m * y) y hge (by omega)
      rw [show D - m * y - y = D - (m + 1) * y by omega] at hls
      have huk : updF p k m k = m := by unfold updF; rw [if_pos rfl]
      have hwm : IntKind.wrap .i64 (((updF p k m k : Nat) : Int) + 1) = ((m + 1 : Nat) : Int) := by rw [huk, w64 (by omega) (by omega)]; rfl
      have hkn : k < n := by omega
      refine rX rfl ?_
      refine runS_call rfl rfl rfl rfl rfl rfl rfl hls ?_
      refine runS_x (I := inf) (J := jnf) ⟨false, false, [], 0, 0⟩ 9999 rfl (by repeat (first | exact obs_nil | refine obs_draw (by kernel_rfl) ?_ | refine obs_same ?_ | refine obs_and ?_ | refine obs_by (by (simp [inB, hkn] <;> omega)) ?_)) ?_
      refine runS_tell 0 (rowN (updF p k (m + 1))) rfl (m' := n) rfl (fun j hj => ?_) rfl ?_
      · refine Eq.trans ?_ (rowN_upd (p := updF p k m) (congrArg (fun z => [iv z]) hwm) j)
        unfold rowN updF
        by_cases e : j = k
        · simp [e]
        · simp [e]
      exact ih2 (m + 1) _ _ (by omega) ⟨⟨rfl, rfl, rfl, rfl, rfl⟩, rfl, by omega⟩
    · have hlt : D - m * y < y := by
        have := of_decide_eq_false (show decide (cmpT (frm (D - m * y)) (frm y) ≥ 0) = false from h2)
        omega
      refine rX rfl ?_
      refine runS_drop 1 (Nat.zero_le _) rfl (by repeat (first | exact .nil | refine .row (fun j hj => rfl) ?_ | refine .box rfl ?_ | refine .fam (fun k j hk hj => rfl) ?_ | refine .loop (scrub_under _ _) ?_ | refine .dfr ?_ | refine .gone ?_ | refine .map (fun p hp => by (obtain ⟨k, _, rfl⟩ := List.mem_map.1 hp; rfl)) ?_)) rfl rfl rfl (by repeat (first | exact .nil | refine .cons rfl rfl rfl (scrub_under _ _) ?_)) ?_
      refine ih ⟨k, updF p k m, D - m * y⟩ _ _ (by dsimp only; omega) ⟨⟨rfl, rfl, rfl, rfl, congrArg iv hwk⟩, rfl, by dsimp only; omega, ?_, ?_, hlt, ?_⟩
      · intro j
        dsimp only
        unfold updF
        split
        · omega
        · exact hp10 j
      · intro j hj
        dsimp only at hj ⊢
        unfold updF
        rw [if_neg (by omega)]
        exact hp0 j (by omega)
      · dsimp only
        have hvd := val_drop (listF (updF p k m) n) k
        rw [listF_getD _ (by omega), drop_upd, show updF p k m k = m by unfold updF; rw [if_pos rfl]] at hvd
        rw [hvd, hv, hval, Nat.add_mul, Nat.mul_add]
        have : 10 * (val ((listF p n).drop (k + 1)) * y) = 10 * val ((listF p n).drop (k + 1)) * y := by rw [Nat.mul_assoc]
        omega
  · have hi0 : i = 0 := by
      have : decide ((i : Int) - 1 ≥ 0) = false := h
      simp at this
      omega
    subst hi0
    rw [List.drop_zero, List.drop_zero, hvx] at hval
    have hdiv : x / y = val (listF p n) := by
      rw [hval, Nat.mul_comm, Nat.mul_add_div hy0, Nat.div_eq_of_lt hR, Nat.add_zero]
    have hmod : x % y = R := by
      rw [hval, Nat.mul_comm, Nat.mul_add_mod, Nat.mod_eq_of_lt hR]
    have hc := r_trim none (listF p n) (by rw [listF_len]; omega) (listF_lt fun j _ => hp10 j)
    unfold natS at hc
    rw [listF_len] at hc
    refine rX rfl ?_
    refine runS_tell 0 (natR (listF p n)) rfl (m' := n) rfl (fun j hj => natR_listF p hj) rfl ?_
    refine runS_freeze 40 rfl rfl rfl (fun j hj => rfl) ?_
    refine runS_call rfl rfl rfl rfl rfl rfl rfl hc ?_
    refine rX rfl ?_
    refine runS_ret (I := inf) 0 rfl (Nat.le_refl _) rfl .nil rfl ⟨?_, rfl⟩
    unfold trim
    rw [hdiv, hmod]
    rfl
end Go.Iron.Tryz

/- Digits: the exponent that the reference finds for a float, in plain Lean. -/
namespace Go.Iron.Dg

def k0F (num den P : Nat) : Int := (P : Int) - ((frm num).length - (frm den).length) - 1
def kF (num den P : Nat) : Int := if num * e10 (k0F num den P) < den * e10 (-k0F num den P) * 10 ^ (P - 1) then k0F num den P + 1 else k0F num den P
def rndF (N D : Nat) : Nat := N / D + (if N % D + N % D ≥ D then 1 else 0)
theorem kF_found {num den P j : Nat} (hn : num ≠ 0) (hd : den ≠ 0) (hP : 1 ≤ P) (hj : j ≤ 1)
    (h1 : j = 1 → num * e10 (k0F num den P) < den * e10 (-k0F num den P) * 10 ^ (P - 1)) (h2 : den * e10 (-k0F num den P) * 10 ^ (P - 1) ≤ num * e10 (k0F num den P) * 10 ^ j) :
    k0F num den P + j = kF num den P ∧ num * e10 (k0F num den P) * 10 ^ j < den * e10 (-k0F num den P) * 10 ^ P ∧ IsK num den P (kF num den P)
    ∧ fltR num den (kF num den P) = normD (rndF (num * e10 (k0F num den P) * 10 ^ j) (den * e10 (-k0F num den P))) (-kF num den P) ∧ rndF (num * e10 (k0F num den P) * 10 ^ j) (den * e10 (-k0F num den P)) ≤ 10 ^ P ∧ rndF (num * e10 (k0F num den P) * 10 ^ j) (den * e10 (-k0F num den P)) ≠ 0 := by
  have hs := float_start hn hd hP (k0 := k0F num den P) rfl
  have hr := float_ratio num den (k0F num den P) j
  have hD : 0 < den * e10 (-k0F num den P) := Nat.mul_pos (Nat.pos_of_ne_zero hd) (e10_pos _)
  have hk : k0F num den P + j = kF num den P := by
    unfold kF
    rcases (show j = 0 ∨ j = 1 by omega) with rfl | rfl
    · rw [if_neg (by rw [Nat.pow_zero, Nat.mul_one] at h2; omega)]
      simp
    · rw [if_pos (h1 rfl)]
      rfl
  have hlt : num * e10 (k0F num den P) * 10 ^ j < den * e10 (-k0F num den P) * 10 ^ P := by
    rcases (show j = 0 ∨ j = 1 by omega) with rfl | rfl
    · rw [Nat.pow_zero, Nat.mul_one]; exact hs.2
    · have := h1 rfl
      obtain ⟨p, rfl⟩ : ∃ p, P = p + 1 := ⟨P - 1, by omega⟩
      rw [Nat.add_sub_cancel] at this
      rw [Nat.pow_one, Nat.pow_succ, ← Nat.mul_assoc]
      omega
  rw [hk] at hr
  obtain ⟨i1, i2⟩ := float_found hr (Nat.pos_of_ne_zero hd) hD h2 hlt
  refine ⟨hk, hlt, i1, i2, ?_, ?_⟩
  · have hq : num * e10 (k0F num den P) * 10 ^ j / (den * e10 (-k0F num den P)) < 10 ^ P := Nat.div_lt_of_lt_mul hlt
    unfold rndF
    split <;> omega
  · have hq : 10 ^ (P - 1) ≤ num * e10 (k0F num den P) * 10 ^ j / (den * e10 (-k0F num den P)) := by
      rw [Nat.le_div_iff_mul_le hD, Nat.mul_comm]; exact h2
    have : 0 < 10 ^ (P - 1) := Nat.pow_pos (by decide)
    unfold rndF
    omega
theorem k0F_stop {num den P j : Nat} (hn : num ≠ 0) (hd : den ≠ 0) (hP : 1 ≤ P) (hj : j ≤ 1) (h : num * e10 (k0F num den P) * 10 ^ j < den * e10 (-k0F num den P) * 10 ^ (P - 1)) : j = 0 := by
  have hs := float_start hn hd hP (k0 := k0F num den P) rfl
  rcases (show j = 0 ∨ j = 1 by omega) with rfl | rfl
  · rfl
  · rw [Nat.pow_one] at h
    omega
theorem kF_is {num den P : Nat} (hn : num ≠ 0) (hd : den ≠ 0) (hP : 1 ≤ P) : IsK num den P (kF num den P) := by
  have hs := float_start hn hd hP (k0 := k0F num den P) rfl
  by_cases h : num * e10 (k0F num den P) < den * e10 (-k0F num den P) * 10 ^ (P - 1)
  · exact (kF_found (j := 1) hn hd hP (Nat.le_refl _) (fun _ => h) (by rw [Nat.pow_one]; exact Nat.le_of_lt hs.1)).2.2.1
  · exact (kF_found (j := 0) hn hd hP (Nat.zero_le _) (fun e => by cases e) (by rw [Nat.pow_zero, Nat.mul_one]; omega)).2.2.1
end Go.Iron.Dg
