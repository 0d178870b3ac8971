/- The digits' seat: the reference's Right, for any value. -/
import Derived.Test.YtcgepjbalmppjaaGreatDoorTC
import Derived.Test.YtcgepjbalmppjaaGreatDoorTE
namespace Go.Iron.Tryz
open Go.Proofs Go.RowKit Go.Iron.Tok Go.Iron.Dg

theorem nz10 : nz (10 : Int) = true := rfl
section
variable (n q : Int) (s : Str)
theorem r_right_1 : CallT Tryz.prog 12 [.agg (vaE 1 n q s)] [] (fun o A => o = .ret (bv (rightB 1 n q s)) ∧ A = []) := by
  refine callS_body (n := 176) rfl rfl fun w ρ X => ?_
  refine runS_x (I := inf) (J := jnf) ⟨false, false, [], 0, 0⟩ 9999 rfl (by repeat (first | exact obs_nil | refine obs_draw (by kernel_rfl) ?_ | refine obs_same ?_ | refine obs_and ?_ | refine obs_by (by (simp [inB] <;> omega)) ?_)) ?_
  refine runS_call rfl rfl rfl rfl rfl rfl rfl (r_numeric 1) ?_
  refine runS_x (I := inf) (J := jnf) ⟨false, false, [], 0, 0⟩ 9999 rfl (by repeat (first | exact obs_nil | refine obs_draw (by kernel_rfl) ?_ | refine obs_same ?_ | refine obs_and ?_ | refine obs_by (by (simp [inB] <;> omega)) ?_)) ?_
  refine runS_cond rfl (fun h => ?_) (fun h => by cases h)
  refine runS_x (I := inf) (J := jnf) ⟨false, false, [], 0, 0⟩ 9999 rfl (by repeat (first | exact obs_nil | refine obs_draw (by kernel_rfl) ?_ | refine obs_same ?_ | refine obs_and ?_ | refine obs_by (by (simp [inB] <;> omega)) ?_)) ?_
  refine runS_cond rfl (fun h => ?_) (fun h => ?_)
  · have hs0 : s ≠ [] := fun e => by subst e; exact absurd h (by simp [show (bs []).toList = [] from bs_toList [], show (ByteArray.mk #[]).toList = [] from bs_toList []])
    refine runS_x (I := inf) (J := jnf) ⟨false, false, [], 0, 0⟩ 9999 rfl (by repeat (first | exact obs_nil | refine obs_draw (by kernel_rfl) ?_ | refine obs_same ?_ | refine obs_and ?_ | refine obs_by (by (simp [inB] <;> omega)) ?_)) ?_
    refine runS_ret (I := inf) 0 rfl (Nat.le_refl _) rfl .nil rfl ⟨?_, rfl⟩
    refine congrArg (fun x => Out.ret (bv x)) ?_
    simp [rightB, hs0]
  have hs0 : s = [] := by simpa [bs_toList, show (ByteArray.mk #[]).toList = [] from bs_toList []] using h
  subst hs0
  refine runS_x (I := inf) (J := jnf) ⟨false, false, [], 0, 0⟩ 9999 rfl (by repeat (first | exact obs_nil | refine obs_draw (by kernel_rfl) ?_ | refine obs_same ?_ | refine obs_and ?_ | refine obs_by (by (simp [inB] <;> omega)) ?_)) ?_
  refine runS_cond rfl (fun h => ?_) (fun h => by cases h)
  refine runS_x (I := inf) (J := jnf) ⟨false, false, [], 0, 0⟩ 9999 rfl (by repeat (first | exact obs_nil | refine obs_draw (by kernel_rfl) ?_ | refine obs_same ?_ | refine obs_and ?_ | refine obs_by (by (simp [inB] <;> omega)) ?_)) ?_
  refine runS_ret (I := inf) 0 rfl (Nat.le_refl _) rfl .nil rfl ⟨?_, rfl⟩
  refine congrArg (fun x => Out.ret (bv x)) ?_
  rw [Bool.eq_iff_iff]
  simp [rightB, blS]
  first | omega | (erw [decide_eq_true_iff]; omega)
theorem r_right_2 : CallT Tryz.prog 12 [.agg (vaE 2 n q s)] [] (fun o A => o = .ret (bv (rightB 2 n q s)) ∧ A = []) := by
  refine callS_body (n := 176) rfl rfl fun w ρ X => ?_
  refine runS_x (I := inf) (J := jnf) ⟨false, false, [], 0, 0⟩ 9999 rfl (by repeat (first | exact obs_nil | refine obs_draw (by kernel_rfl) ?_ | refine obs_same ?_ | refine obs_and ?_ | refine obs_by (by (simp [inB] <;> omega)) ?_)) ?_
  refine runS_call rfl rfl rfl rfl rfl rfl rfl (r_numeric 2) ?_
  refine runS_x (I := inf) (J := jnf) ⟨false, false, [], 0, 0⟩ 9999 rfl (by repeat (first | exact obs_nil | refine obs_draw (by kernel_rfl) ?_ | refine obs_same ?_ | refine obs_and ?_ | refine obs_by (by (simp [inB] <;> omega)) ?_)) ?_
  refine runS_cond rfl (fun h => ?_) (fun h => by cases h)
  refine runS_x (I := inf) (J := jnf) ⟨false, false, [], 0, 0⟩ 9999 rfl (by repeat (first | exact obs_nil | refine obs_draw (by kernel_rfl) ?_ | refine obs_same ?_ | refine obs_and ?_ | refine obs_by (by (simp [inB] <;> omega)) ?_)) ?_
  refine runS_cond rfl (fun h => ?_) (fun h => ?_)
  · have hs0 : s ≠ [] := fun e => by subst e; exact absurd h (by simp [show (bs []).toList = [] from bs_toList [], show (ByteArray.mk #[]).toList = [] from bs_toList []])
    refine runS_x (I := inf) (J := jnf) ⟨false, false, [], 0, 0⟩ 9999 rfl (by repeat (first | exact obs_nil | refine obs_draw (by kernel_rfl) ?_ | refine obs_same ?_ | refine obs_and ?_ | refine obs_by (by (simp [inB] <;> omega)) ?_)) ?_
    refine runS_ret (I := inf) 0 rfl (Nat.le_refl _) rfl .nil rfl ⟨?_, rfl⟩
    refine congrArg (fun x => Out.ret (bv x)) ?_
    simp [rightB, hs0]
  have hs0 : s = [] := by simpa [bs_toList, show (ByteArray.mk #[]).toList = [] from bs_toList []] using h
  subst hs0
  refine runS_x (I := inf) (J := jnf) ⟨false, false, [], 0, 0⟩ 9999 rfl (by repeat (first | exact obs_nil | refine obs_draw (by kernel_rfl) ?_ | refine obs_same ?_ | refine obs_and ?_ | refine obs_by (by (simp [inB] <;> omega)) ?_)) ?_
  refine runS_cond rfl (fun h => by cases h) (fun h => ?_)
  refine runS_x (I := inf) (J := jnf) ⟨false, false, [], 0, 0⟩ 9999 rfl (by repeat (first | exact obs_nil | refine obs_draw (by kernel_rfl) ?_ | refine obs_same ?_ | refine obs_and ?_ | refine obs_by (by (simp [inB] <;> omega)) ?_)) ?_
  refine runS_cond rfl (fun h => ?_) (fun h => by cases h)
  refine runS_x (I := inf) (J := jnf) ⟨false, false, [], 0, 0⟩ 9999 rfl (by repeat (first | exact obs_nil | refine obs_draw (by kernel_rfl) ?_ | refine obs_same ?_ | refine obs_and ?_ | refine obs_by (by (simp [inB] <;> omega)) ?_)) ?_
  refine runS_ret (I := inf) 0 rfl (Nat.le_refl _) rfl .nil rfl ⟨?_, rfl⟩
  refine congrArg (fun x => Out.ret (bv x)) ?_
  rw [Bool.eq_iff_iff]
  simp [rightB, blS]
  first | omega | (erw [decide_eq_true_iff]; omega)
theorem r_right_7 : CallT Tryz.prog 12 [.agg (vaE 7 n q s)] [] (fun o A => o = .ret (bv (rightB 7 n q s)) ∧ A = []) := by
  refine callS_body (n := 176) rfl rfl fun w ρ X => ?_
  refine runS_x (I := inf) (J := jnf) ⟨false, false, [], 0, 0⟩ 9999 rfl (by repeat (first | exact obs_nil | refine obs_draw (by kernel_rfl) ?_ | refine obs_same ?_ | refine obs_and ?_ | refine obs_by (by (simp [inB] <;> omega)) ?_)) ?_
  refine runS_call rfl rfl rfl rfl rfl rfl rfl (r_numeric 7) ?_
  refine runS_x (I := inf) (J := jnf) ⟨false, false, [], 0, 0⟩ 9999 rfl (by repeat (first | exact obs_nil | refine obs_draw (by kernel_rfl) ?_ | refine obs_same ?_ | refine obs_and ?_ | refine obs_by (by (simp [inB] <;> omega)) ?_)) ?_
  refine runS_cond rfl (fun h => ?_) (fun h => by cases h)
  refine runS_x (I := inf) (J := jnf) ⟨false, false, [], 0, 0⟩ 9999 rfl (by repeat (first | exact obs_nil | refine obs_draw (by kernel_rfl) ?_ | refine obs_same ?_ | refine obs_and ?_ | refine obs_by (by (simp [inB] <;> omega)) ?_)) ?_
  refine runS_cond rfl (fun h => ?_) (fun h => ?_)
  · have hs0 : s ≠ [] := fun e => by subst e; exact absurd h (by simp [show (bs []).toList = [] from bs_toList [], show (ByteArray.mk #[]).toList = [] from bs_toList []])
    refine runS_x (I := inf) (J := jnf) ⟨false, false, [], 0, 0⟩ 9999 rfl (by repeat (first | exact obs_nil | refine obs_draw (by kernel_rfl) ?_ | refine obs_same ?_ | refine obs_and ?_ | refine obs_by (by (simp [inB] <;> omega)) ?_)) ?_
    refine runS_ret (I := inf) 0 rfl (Nat.le_refl _) rfl .nil rfl ⟨?_, rfl⟩
    refine congrArg (fun x => Out.ret (bv x)) ?_
    simp [rightB, hs0]
  have hs0 : s = [] := by simpa [bs_toList, show (ByteArray.mk #[]).toList = [] from bs_toList []] using h
  subst hs0
  refine runS_x (I := inf) (J := jnf) ⟨false, false, [], 0, 0⟩ 9999 rfl (by repeat (first | exact obs_nil | refine obs_draw (by kernel_rfl) ?_ | refine obs_same ?_ | refine obs_and ?_ | refine obs_by (by (simp [inB] <;> omega)) ?_)) ?_
  refine runS_cond rfl (fun h => by cases h) (fun h => ?_)
  refine runS_x (I := inf) (J := jnf) ⟨false, false, [], 0, 0⟩ 9999 rfl (by repeat (first | exact obs_nil | refine obs_draw (by kernel_rfl) ?_ | refine obs_same ?_ | refine obs_and ?_ | refine obs_by (by (simp [inB] <;> omega)) ?_)) ?_
  refine runS_cond rfl (fun h => by cases h) (fun h => ?_)
  refine runS_x (I := inf) (J := jnf) ⟨false, false, [], 0, 0⟩ 9999 rfl (by repeat (first | exact obs_nil | refine obs_draw (by kernel_rfl) ?_ | refine obs_same ?_ | refine obs_and ?_ | refine obs_by (by (simp [inB] <;> omega)) ?_)) ?_
  refine runS_cond rfl (fun h => by cases h) (fun h => ?_)
  refine runS_x (I := inf) (J := jnf) ⟨false, false, [], 0, 0⟩ 9999 rfl (by repeat (first | exact obs_nil | refine obs_draw (by kernel_rfl) ?_ | refine obs_same ?_ | refine obs_and ?_ | refine obs_by (by (simp [inB] <;> omega)) ?_)) ?_
  refine runS_cond rfl (fun h => by cases h) (fun h => ?_)
  refine runS_x (I := inf) (J := jnf) ⟨false, false, [], 0, 0⟩ 9999 rfl (by repeat (first | exact obs_nil | refine obs_draw (by kernel_rfl) ?_ | refine obs_same ?_ | refine obs_and ?_ | refine obs_by (by (simp [inB] <;> omega)) ?_)) ?_
  refine runS_cond rfl (fun h => by cases h) (fun h => ?_)
  refine runS_x (I := inf) (J := jnf) ⟨false, false, [], 0, 0⟩ 9999 rfl (by repeat (first | exact obs_nil | refine obs_draw (by kernel_rfl) ?_ | refine obs_same ?_ | refine obs_and ?_ | refine obs_by (by (simp [inB] <;> omega)) ?_)) ?_
  refine runS_cond rfl (fun h => by cases h) (fun h => ?_)
  refine runS_x (I := inf) (J := jnf) ⟨false, false, [], 0, 0⟩ 9999 rfl (by repeat (first | exact obs_nil | refine obs_draw (by kernel_rfl) ?_ | refine obs_same ?_ | refine obs_and ?_ | refine obs_by (by (simp [inB] <;> omega)) ?_)) ?_
  refine runS_cond rfl (fun h => ?_) (fun h => by cases h)
  refine runS_x (I := inf) (J := jnf) ⟨false, false, [], 0, 0⟩ 9999 rfl (by repeat (first | exact obs_nil | refine obs_draw (by kernel_rfl) ?_ | refine obs_same ?_ | refine obs_and ?_ | refine obs_by (by (simp [inB] <;> omega)) ?_)) ?_
  refine runS_ret (I := inf) 0 rfl (Nat.le_refl _) rfl .nil rfl ⟨?_, rfl⟩
  refine congrArg (fun x => Out.ret (bv x)) ?_
  rw [Bool.eq_iff_iff]
  simp [rightB, blS]
  first | omega | (erw [decide_eq_true_iff]; omega)
theorem r_right_8 : CallT Tryz.prog 12 [.agg (vaE 8 n q s)] [] (fun o A => o = .ret (bv (rightB 8 n q s)) ∧ A = []) := by
  refine callS_body (n := 176) rfl rfl fun w ρ X => ?_
  refine runS_x (I := inf) (J := jnf) ⟨false, false, [], 0, 0⟩ 9999 rfl (by repeat (first | exact obs_nil | refine obs_draw (by kernel_rfl) ?_ | refine obs_same ?_ | refine obs_and ?_ | refine obs_by (by (simp [inB] <;> omega)) ?_)) ?_
  refine runS_call rfl rfl rfl rfl rfl rfl rfl (r_numeric 8) ?_
  refine runS_x (I := inf) (J := jnf) ⟨false, false, [], 0, 0⟩ 9999 rfl (by repeat (first | exact obs_nil | refine obs_draw (by kernel_rfl) ?_ | refine obs_same ?_ | refine obs_and ?_ | refine obs_by (by (simp [inB] <;> omega)) ?_)) ?_
  refine runS_cond rfl (fun h => ?_) (fun h => by cases h)
  refine runS_x (I := inf) (J := jnf) ⟨false, false, [], 0, 0⟩ 9999 rfl (by repeat (first | exact obs_nil | refine obs_draw (by kernel_rfl) ?_ | refine obs_same ?_ | refine obs_and ?_ | refine obs_by (by (simp [inB] <;> omega)) ?_)) ?_
  refine runS_cond rfl (fun h => ?_) (fun h => ?_)
  · have hs0 : s ≠ [] := fun e => by subst e; exact absurd h (by simp [show (bs []).toList = [] from bs_toList [], show (ByteArray.mk #[]).toList = [] from bs_toList []])
    refine runS_x (I := inf) (J := jnf) ⟨false, false, [], 0, 0⟩ 9999 rfl (by repeat (first | exact obs_nil | refine obs_draw (by kernel_rfl) ?_ | refine obs_same ?_ | refine obs_and ?_ | refine obs_by (by (simp [inB] <;> omega)) ?_)) ?_
    refine runS_ret (I := inf) 0 rfl (Nat.le_refl _) rfl .nil rfl ⟨?_, rfl⟩
    refine congrArg (fun x => Out.ret (bv x)) ?_
    simp [rightB, hs0]
  have hs0 : s = [] := by simpa [bs_toList, show (ByteArray.mk #[]).toList = [] from bs_toList []] using h
  subst hs0
  refine runS_x (I := inf) (J := jnf) ⟨false, false, [], 0, 0⟩ 9999 rfl (by repeat (first | exact obs_nil | refine obs_draw (by kernel_rfl) ?_ | refine obs_same ?_ | refine obs_and ?_ | refine obs_by (by (simp [inB] <;> omega)) ?_)) ?_
  refine runS_cond rfl (fun h => by cases h) (fun h => ?_)
  refine runS_x (I := inf) (J := jnf) ⟨false, false, [], 0, 0⟩ 9999 rfl (by repeat (first | exact obs_nil | refine obs_draw (by kernel_rfl) ?_ | refine obs_same ?_ | refine obs_and ?_ | refine obs_by (by (simp [inB] <;> omega)) ?_)) ?_
  refine runS_cond rfl (fun h => by cases h) (fun h => ?_)
  refine runS_x (I := inf) (J := jnf) ⟨false, false, [], 0, 0⟩ 9999 rfl (by repeat (first | exact obs_nil | refine obs_draw (by kernel_rfl) ?_ | refine obs_same ?_ | refine obs_and ?_ | refine obs_by (by (simp [inB] <;> omega)) ?_)) ?_
  refine runS_cond rfl (fun h => by cases h) (fun h => ?_)
  refine runS_x (I := inf) (J := jnf) ⟨false, false, [], 0, 0⟩ 9999 rfl (by repeat (first | exact obs_nil | refine obs_draw (by kernel_rfl) ?_ | refine obs_same ?_ | refine obs_and ?_ | refine obs_by (by (simp [inB] <;> omega)) ?_)) ?_
  refine runS_cond rfl (fun h => by cases h) (fun h => ?_)
  refine runS_x (I := inf) (J := jnf) ⟨false, false, [], 0, 0⟩ 9999 rfl (by repeat (first | exact obs_nil | refine obs_draw (by kernel_rfl) ?_ | refine obs_same ?_ | refine obs_and ?_ | refine obs_by (by (simp [inB] <;> omega)) ?_)) ?_
  refine runS_cond rfl (fun h => by cases h) (fun h => ?_)
  refine runS_x (I := inf) (J := jnf) ⟨false, false, [], 0, 0⟩ 9999 rfl (by repeat (first | exact obs_nil | refine obs_draw (by kernel_rfl) ?_ | refine obs_same ?_ | refine obs_and ?_ | refine obs_by (by (simp [inB] <;> omega)) ?_)) ?_
  refine runS_cond rfl (fun h => by cases h) (fun h => ?_)
  refine runS_x (I := inf) (J := jnf) ⟨false, false, [], 0, 0⟩ 9999 rfl (by repeat (first | exact obs_nil | refine obs_draw (by kernel_rfl) ?_ | refine obs_same ?_ | refine obs_and ?_ | refine obs_by (by (simp [inB] <;> omega)) ?_)) ?_
  refine runS_cond rfl (fun h => by cases h) (fun h => ?_)
  refine runS_x (I := inf) (J := jnf) ⟨false, false, [], 0, 0⟩ 9999 rfl (by repeat (first | exact obs_nil | refine obs_draw (by kernel_rfl) ?_ | refine obs_same ?_ | refine obs_and ?_ | refine obs_by (by (simp [inB] <;> omega)) ?_)) ?_
  refine runS_cond rfl (fun h => ?_) (fun h => by cases h)
  refine runS_x (I := inf) (J := jnf) ⟨false, false, [], 0, 0⟩ 9999 rfl (by repeat (first | exact obs_nil | refine obs_draw (by kernel_rfl) ?_ | refine obs_same ?_ | refine obs_and ?_ | refine obs_by (by (simp [inB] <;> omega)) ?_)) ?_
  refine runS_cond rfl (fun h => ?_) (fun h => by cases h)
  refine runS_x (I := inf) (J := jnf) ⟨false, false, [], 0, 0⟩ 9999 rfl (by repeat (first | exact obs_nil | refine obs_draw (by kernel_rfl) ?_ | refine obs_same ?_ | refine obs_and ?_ | refine obs_by (by (simp [inB] <;> omega)) ?_)) ?_
  refine runS_ret (I := inf) 0 rfl (Nat.le_refl _) rfl .nil rfl ⟨?_, rfl⟩
  refine congrArg (fun x => Out.ret (bv x)) ?_
  rw [Bool.eq_iff_iff]
  simp [rightB, blS]
  first | omega | (erw [decide_eq_true_iff]; omega)
theorem r_right_9 : CallT Tryz.prog 12 [.agg (vaE 9 n q s)] [] (fun o A => o = .ret (bv (rightB 9 n q s)) ∧ A = []) := by
  refine callS_body (n := 176) rfl rfl fun w ρ X => ?_
  refine runS_x (I := inf) (J := jnf) ⟨false, false, [], 0, 0⟩ 9999 rfl (by repeat (first | exact obs_nil | refine obs_draw (by kernel_rfl) ?_ | refine obs_same ?_ | refine obs_and ?_ | refine obs_by (by (simp [inB] <;> omega)) ?_)) ?_
  refine runS_call rfl rfl rfl rfl rfl rfl rfl (r_numeric 9) ?_
  refine runS_x (I := inf) (J := jnf) ⟨false, false, [], 0, 0⟩ 9999 rfl (by repeat (first | exact obs_nil | refine obs_draw (by kernel_rfl) ?_ | refine obs_same ?_ | refine obs_and ?_ | refine obs_by (by (simp [inB] <;> omega)) ?_)) ?_
  refine runS_cond rfl (fun h => ?_) (fun h => by cases h)
  refine runS_x (I := inf) (J := jnf) ⟨false, false, [], 0, 0⟩ 9999 rfl (by repeat (first | exact obs_nil | refine obs_draw (by kernel_rfl) ?_ | refine obs_same ?_ | refine obs_and ?_ | refine obs_by (by (simp [inB] <;> omega)) ?_)) ?_
  refine runS_cond rfl (fun h => ?_) (fun h => ?_)
  · have hs0 : s ≠ [] := fun e => by subst e; exact absurd h (by simp [show (bs []).toList = [] from bs_toList [], show (ByteArray.mk #[]).toList = [] from bs_toList []])
    refine runS_x (I := inf) (J := jnf) ⟨false, false, [], 0, 0⟩ 9999 rfl (by repeat (first | exact obs_nil | refine obs_draw (by kernel_rfl) ?_ | refine obs_same ?_ | refine obs_and ?_ | refine obs_by (by (simp [inB] <;> omega)) ?_)) ?_
    refine runS_ret (I := inf) 0 rfl (Nat.le_refl _) rfl .nil rfl ⟨?_, rfl⟩
    refine congrArg (fun x => Out.ret (bv x)) ?_
    simp [rightB, hs0]
  have hs0 : s = [] := by simpa [bs_toList, show (ByteArray.mk #[]).toList = [] from bs_toList []] using h
  subst hs0
  refine runS_x (I := inf) (J := jnf) ⟨false, false, [], 0, 0⟩ 9999 rfl (by repeat (first | exact obs_nil | refine obs_draw (by kernel_rfl) ?_ | refine obs_same ?_ | refine obs_and ?_ | refine obs_by (by (simp [inB] <;> omega)) ?_)) ?_
  refine runS_cond rfl (fun h => by cases h) (fun h => ?_)
  refine runS_x (I := inf) (J := jnf) ⟨false, false, [], 0, 0⟩ 9999 rfl (by repeat (first | exact obs_nil | refine obs_draw (by kernel_rfl) ?_ | refine obs_same ?_ | refine obs_and ?_ | refine obs_by (by (simp [inB] <;> omega)) ?_)) ?_
  refine runS_cond rfl (fun h => by cases h) (fun h => ?_)
  refine runS_x (I := inf) (J := jnf) ⟨false, false, [], 0, 0⟩ 9999 rfl (by repeat (first | exact obs_nil | refine obs_draw (by kernel_rfl) ?_ | refine obs_same ?_ | refine obs_and ?_ | refine obs_by (by (simp [inB] <;> omega)) ?_)) ?_
  refine runS_cond rfl (fun h => by cases h) (fun h => ?_)
  refine runS_x (I := inf) (J := jnf) ⟨false, false, [], 0, 0⟩ 9999 rfl (by repeat (first | exact obs_nil | refine obs_draw (by kernel_rfl) ?_ | refine obs_same ?_ | refine obs_and ?_ | refine obs_by (by (simp [inB] <;> omega)) ?_)) ?_
  refine runS_cond rfl (fun h => by cases h) (fun h => ?_)
  refine runS_x (I := inf) (J := jnf) ⟨false, false, [], 0, 0⟩ 9999 rfl (by repeat (first | exact obs_nil | refine obs_draw (by kernel_rfl) ?_ | refine obs_same ?_ | refine obs_and ?_ | refine obs_by (by (simp [inB] <;> omega)) ?_)) ?_
  refine runS_cond rfl (fun h => by cases h) (fun h => ?_)
  refine runS_x (I := inf) (J := jnf) ⟨false, false, [], 0, 0⟩ 9999 rfl (by repeat (first | exact obs_nil | refine obs_draw (by kernel_rfl) ?_ | refine obs_same ?_ | refine obs_and ?_ | refine obs_by (by (simp [inB] <;> omega)) ?_)) ?_
  refine runS_cond rfl (fun h => by cases h) (fun h => ?_)
  refine runS_x (I := inf) (J := jnf) ⟨false, false, [], 0, 0⟩ 9999 rfl (by repeat (first | exact obs_nil | refine obs_draw (by kernel_rfl) ?_ | refine obs_same ?_ | refine obs_and ?_ | refine obs_by (by (simp [inB] <;> omega)) ?_)) ?_
  refine runS_cond rfl (fun h => by cases h) (fun h => ?_)
  refine runS_x (I := inf) (J := jnf) ⟨false, false, [], 0, 0⟩ 9999 rfl (by repeat (first | exact obs_nil | refine obs_draw (by kernel_rfl) ?_ | refine obs_same ?_ | refine obs_and ?_ | refine obs_by (by (simp [inB] <;> omega)) ?_)) ?_
  refine runS_cond rfl (fun h => by cases h) (fun h => ?_)
  refine runS_x (I := inf) (J := jnf) ⟨false, false, [], 0, 0⟩ 9999 rfl (by repeat (first | exact obs_nil | refine obs_draw (by kernel_rfl) ?_ | refine obs_same ?_ | refine obs_and ?_ | refine obs_by (by (simp [inB] <;> omega)) ?_)) ?_
  refine runS_cond rfl (fun h => ?_) (fun h => by cases h)
  refine runS_x (I := inf) (J := jnf) ⟨false, false, [], 0, 0⟩ 9999 rfl (by repeat (first | exact obs_nil | refine obs_draw (by kernel_rfl) ?_ | refine obs_same ?_ | refine obs_and ?_ | refine obs_by (by (simp [inB] <;> omega)) ?_)) ?_
  refine runS_ret (I := inf) 0 rfl (Nat.le_refl _) rfl .nil rfl ⟨?_, rfl⟩
  refine congrArg (fun x => Out.ret (bv x)) ?_
  rw [Bool.eq_iff_iff]
  simp [rightB, blS]
  first | omega | (erw [decide_eq_true_iff]; omega)
theorem r_right_4 : CallT Tryz.prog 12 [.agg (vaE 4 n q s)] [] (fun o A => o = .ret (bv (rightB 4 n q s)) ∧ A = []) := by
  refine callS_body (n := 176) rfl rfl fun w ρ X => ?_
  refine runS_x (I := inf) (J := jnf) ⟨false, false, [], 0, 0⟩ 9999 rfl (by repeat (first | exact obs_nil | refine obs_draw (by kernel_rfl) ?_ | refine obs_same ?_ | refine obs_and ?_ | refine obs_by (by (simp [inB] <;> omega)) ?_)) ?_
  refine runS_call rfl rfl rfl rfl rfl rfl rfl (r_numeric 4) ?_
  refine runS_x (I := inf) (J := jnf) ⟨false, false, [], 0, 0⟩ 9999 rfl (by repeat (first | exact obs_nil | refine obs_draw (by kernel_rfl) ?_ | refine obs_same ?_ | refine obs_and ?_ | refine obs_by (by (simp [inB] <;> omega)) ?_)) ?_
  refine runS_cond rfl (fun h => by cases h) (fun h => ?_)
  refine runS_x (I := inf) (J := jnf) ⟨false, false, [], 0, 0⟩ 9999 rfl (by repeat (first | exact obs_nil | refine obs_draw (by kernel_rfl) ?_ | refine obs_same ?_ | refine obs_and ?_ | refine obs_by (by (simp [inB] <;> omega)) ?_)) ?_
  refine runS_cond rfl (fun h => by cases h) (fun h => ?_)
  refine runS_x (I := inf) (J := jnf) ⟨false, false, [], 0, 0⟩ 9999 rfl (by repeat (first | exact obs_nil | refine obs_draw (by kernel_rfl) ?_ | refine obs_same ?_ | refine obs_and ?_ | refine obs_by (by (simp [inB] <;> omega)) ?_)) ?_
  refine runS_cond rfl (fun h => by cases h) (fun h => ?_)
  refine runS_x (I := inf) (J := jnf) ⟨false, false, [], 0, 0⟩ 9999 rfl (by repeat (first | exact obs_nil | refine obs_draw (by kernel_rfl) ?_ | refine obs_same ?_ | refine obs_and ?_ | refine obs_by (by (simp [inB] <;> omega)) ?_)) ?_
  refine runS_cond rfl (fun h => by cases h) (fun h => ?_)
  refine runS_x (I := inf) (J := jnf) ⟨false, false, [], 0, 0⟩ 9999 rfl (by repeat (first | exact obs_nil | refine obs_draw (by kernel_rfl) ?_ | refine obs_same ?_ | refine obs_and ?_ | refine obs_by (by (simp [inB] <;> omega)) ?_)) ?_
  refine runS_cond rfl (fun h => ?_) (fun h => by cases h)
  refine runS_x (I := inf) (J := jnf) ⟨false, false, [], 0, 0⟩ 9999 rfl (by repeat (first | exact obs_nil | refine obs_draw (by kernel_rfl) ?_ | refine obs_same ?_ | refine obs_and ?_ | refine obs_by (by (simp [inB] <;> omega)) ?_)) ?_
  refine runS_cond rfl (fun h => ?_) (fun h => by cases h)
  refine runS_x (I := inf) (J := jnf) ⟨false, false, [], 0, 0⟩ 9999 rfl (by repeat (first | exact obs_nil | refine obs_draw (by kernel_rfl) ?_ | refine obs_same ?_ | refine obs_and ?_ | refine obs_by (by (simp [inB, blS] <;> omega)) ?_)) ?_
  refine runS_ret (I := inf) 0 rfl (Nat.le_refl _) rfl .nil rfl ⟨?_, rfl⟩
  refine congrArg (fun x => Out.ret (bv x)) ?_
  rw [Bool.eq_iff_iff]
  simp [rightB, blS]
  first | omega | (erw [decide_eq_true_iff]; omega)
theorem r_right_6 : CallT Tryz.prog 12 [.agg (vaE 6 n q s)] [] (fun o A => o = .ret (bv (rightB 6 n q s)) ∧ A = []) := by
  refine callS_body (n := 176) rfl rfl fun w ρ X => ?_
  refine runS_x (I := inf) (J := jnf) ⟨false, false, [], 0, 0⟩ 9999 rfl (by repeat (first | exact obs_nil | refine obs_draw (by kernel_rfl) ?_ | refine obs_same ?_ | refine obs_and ?_ | refine obs_by (by (simp [inB] <;> omega)) ?_)) ?_
  refine runS_call rfl rfl rfl rfl rfl rfl rfl (r_numeric 6) ?_
  refine runS_x (I := inf) (J := jnf) ⟨false, false, [], 0, 0⟩ 9999 rfl (by repeat (first | exact obs_nil | refine obs_draw (by kernel_rfl) ?_ | refine obs_same ?_ | refine obs_and ?_ | refine obs_by (by (simp [inB] <;> omega)) ?_)) ?_
  refine runS_cond rfl (fun h => by cases h) (fun h => ?_)
  refine runS_x (I := inf) (J := jnf) ⟨false, false, [], 0, 0⟩ 9999 rfl (by repeat (first | exact obs_nil | refine obs_draw (by kernel_rfl) ?_ | refine obs_same ?_ | refine obs_and ?_ | refine obs_by (by (simp [inB] <;> omega)) ?_)) ?_
  refine runS_cond rfl (fun h => by cases h) (fun h => ?_)
  refine runS_x (I := inf) (J := jnf) ⟨false, false, [], 0, 0⟩ 9999 rfl (by repeat (first | exact obs_nil | refine obs_draw (by kernel_rfl) ?_ | refine obs_same ?_ | refine obs_and ?_ | refine obs_by (by (simp [inB] <;> omega)) ?_)) ?_
  refine runS_cond rfl (fun h => by cases h) (fun h => ?_)
  refine runS_x (I := inf) (J := jnf) ⟨false, false, [], 0, 0⟩ 9999 rfl (by repeat (first | exact obs_nil | refine obs_draw (by kernel_rfl) ?_ | refine obs_same ?_ | refine obs_and ?_ | refine obs_by (by (simp [inB] <;> omega)) ?_)) ?_
  refine runS_cond rfl (fun h => by cases h) (fun h => ?_)
  refine runS_x (I := inf) (J := jnf) ⟨false, false, [], 0, 0⟩ 9999 rfl (by repeat (first | exact obs_nil | refine obs_draw (by kernel_rfl) ?_ | refine obs_same ?_ | refine obs_and ?_ | refine obs_by (by (simp [inB] <;> omega)) ?_)) ?_
  refine runS_cond rfl (fun h => by cases h) (fun h => ?_)
  refine runS_x (I := inf) (J := jnf) ⟨false, false, [], 0, 0⟩ 9999 rfl (by repeat (first | exact obs_nil | refine obs_draw (by kernel_rfl) ?_ | refine obs_same ?_ | refine obs_and ?_ | refine obs_by (by (simp [inB] <;> omega)) ?_)) ?_
  refine runS_cond rfl (fun h => ?_) (fun h => by cases h)
  refine runS_x (I := inf) (J := jnf) ⟨false, false, [], 0, 0⟩ 9999 rfl (by repeat (first | exact obs_nil | refine obs_draw (by kernel_rfl) ?_ | refine obs_same ?_ | refine obs_and ?_ | refine obs_by (by (simp [inB, blS] <;> omega)) ?_)) ?_
  refine runS_ret (I := inf) 0 rfl (Nat.le_refl _) rfl .nil rfl ⟨?_, rfl⟩
  refine congrArg (fun x => Out.ret (bv x)) ?_
  rw [Bool.eq_iff_iff]
  simp [rightB, blS]
  first | omega | (erw [decide_eq_true_iff]; omega)
theorem r_right_5 : CallT Tryz.prog 12 [.agg (vaE 5 n q s)] [] (fun o A => o = .ret (bv (rightB 5 n q s)) ∧ A = []) := by
  refine callS_body (n := 176) rfl rfl fun w ρ X => ?_
  refine runS_x (I := inf) (J := jnf) ⟨false, false, [], 0, 0⟩ 9999 rfl (by repeat (first | exact obs_nil | refine obs_draw (by kernel_rfl) ?_ | refine obs_same ?_ | refine obs_and ?_ | refine obs_by (by (simp [inB] <;> omega)) ?_)) ?_
  refine runS_call rfl rfl rfl rfl rfl rfl rfl (r_numeric 5) ?_
  refine runS_x (I := inf) (J := jnf) ⟨false, false, [], 0, 0⟩ 9999 rfl (by repeat (first | exact obs_nil | refine obs_draw (by kernel_rfl) ?_ | refine obs_same ?_ | refine obs_and ?_ | refine obs_by (by (simp [inB] <;> omega)) ?_)) ?_
  refine runS_cond rfl (fun h => by cases h) (fun h => ?_)
  refine runS_x (I := inf) (J := jnf) ⟨false, false, [], 0, 0⟩ 9999 rfl (by repeat (first | exact obs_nil | refine obs_draw (by kernel_rfl) ?_ | refine obs_same ?_ | refine obs_and ?_ | refine obs_by (by (simp [inB] <;> omega)) ?_)) ?_
  refine runS_cond rfl (fun h => by cases h) (fun h => ?_)
  refine runS_x (I := inf) (J := jnf) ⟨false, false, [], 0, 0⟩ 9999 rfl (by repeat (first | exact obs_nil | refine obs_draw (by kernel_rfl) ?_ | refine obs_same ?_ | refine obs_and ?_ | refine obs_by (by (simp [inB] <;> omega)) ?_)) ?_
  refine runS_cond rfl (fun h => by cases h) (fun h => ?_)
  refine runS_x (I := inf) (J := jnf) ⟨false, false, [], 0, 0⟩ 9999 rfl (by repeat (first | exact obs_nil | refine obs_draw (by kernel_rfl) ?_ | refine obs_same ?_ | refine obs_and ?_ | refine obs_by (by (simp [inB] <;> omega)) ?_)) ?_
  refine runS_cond rfl (fun h => by cases h) (fun h => ?_)
  refine runS_x (I := inf) (J := jnf) ⟨false, false, [], 0, 0⟩ 9999 rfl (by repeat (first | exact obs_nil | refine obs_draw (by kernel_rfl) ?_ | refine obs_same ?_ | refine obs_and ?_ | refine obs_by (by (simp [inB] <;> omega)) ?_)) ?_
  refine runS_cond rfl (fun h => by cases h) (fun h => ?_)
  refine runS_x (I := inf) (J := jnf) ⟨false, false, [], 0, 0⟩ 9999 rfl (by repeat (first | exact obs_nil | refine obs_draw (by kernel_rfl) ?_ | refine obs_same ?_ | refine obs_and ?_ | refine obs_by (by (simp [inB] <;> omega)) ?_)) ?_
  refine runS_cond rfl (fun h => by cases h) (fun h => ?_)
  refine runS_x (I := inf) (J := jnf) ⟨false, false, [], 0, 0⟩ 9999 rfl (by repeat (first | exact obs_nil | refine obs_draw (by kernel_rfl) ?_ | refine obs_same ?_ | refine obs_and ?_ | refine obs_by (by (simp [inB] <;> omega)) ?_)) ?_
  refine runS_cond rfl (fun h => ?_) (fun h => by cases h)
  refine runS_x (I := inf) (J := jnf) ⟨false, false, [], 0, 0⟩ 9999 rfl (by repeat (first | exact obs_nil | refine obs_draw (by kernel_rfl) ?_ | refine obs_same ?_ | refine obs_and ?_ | refine obs_by (by (simp [inB, blS] <;> omega)) ?_)) ?_
  have hb250 : condOf none (if (if (n == 0) = true then (q == 0) else false) = true then decide (((bl (bs s)).length : Int) ≤ 250) else false) true = true → s.length ≤ 250 := fun h => by
    by_cases hl : s.length ≤ 250
    · exact hl
    · exfalso
      rw [show decide (((bl (bs s)).length : Int) ≤ 250) = false from decide_eq_false (by rw [blS]; omega)] at h
      revert h
      cases n == 0 <;> cases q == 0 <;> decide
  refine runS_callU rfl rfl (by first | exact .v rfl rfl rfl rfl | exact .o rfl rfl rfl rfl) rfl rfl (by repeat (first | exact .nil | refine .cons (.n rfl) ?_ | refine .cons .o ?_ | refine .cons gok_and ?_)) rfl rfl rfl rfl rfl (fun h => r_bits s (by have := hb250 h; omega)) ?_
  refine runS_x (I := inf) (J := jnf) ⟨false, false, [], 0, 0⟩ 9999 rfl (by repeat (first | exact obs_nil | refine obs_draw (by kernel_rfl) ?_ | refine obs_same ?_ | refine obs_and ?_ | refine obs_by (by (simp [inB] <;> omega)) ?_)) ?_
  refine runS_ret (I := inf) 0 rfl (Nat.le_refl _) rfl .nil rfl ⟨?_, rfl⟩
  refine congrArg (fun x => Out.ret (bv x)) ?_
  have e : decide (((bl (bs s)).length : Int) ≤ 250) = decide (s.length ≤ 250) := by
    rw [blS, Bool.eq_iff_iff, decide_eq_true_iff, decide_eq_true_iff]
    omega
  rw [e]
  have e2 : rightB 5 n q s = (decide (n = 0 ∧ q = 0 ∧ s.length ≤ 250) && s.all isBit) := rfl
  rw [e2]
  by_cases h1 : n = 0 <;> by_cases h2 : q = 0 <;> by_cases h3 : s.length ≤ 250 <;> (simp [h1, h2, h3] <;> rfl)
theorem tmod10 (n : Int) : (n.tmod 10 == 0) = decide (n.natAbs % 10 = 0) := by
  have h : (n.tmod 10).natAbs = n.natAbs % 10 := Int.natAbs_tmod n 10
  rw [Bool.eq_iff_iff]
  simp
  omega
theorem r_right_3 : CallT Tryz.prog 12 [.agg (vaE 3 n q s)] [] (fun o A => o = .ret (bv (rightB 3 n q s)) ∧ A = []) := by
  refine callS_body (n := 176) rfl rfl fun w ρ X => ?_
  refine runS_x (I := inf) (J := jnf) ⟨false, false, [], 0, 0⟩ 9999 rfl (by repeat (first | exact obs_nil | refine obs_draw (by kernel_rfl) ?_ | refine obs_same ?_ | refine obs_and ?_ | refine obs_by (by (simp [inB] <;> omega)) ?_)) ?_
  refine runS_call rfl rfl rfl rfl rfl rfl rfl (r_numeric 3) ?_
  refine runS_x (I := inf) (J := jnf) ⟨false, false, [], 0, 0⟩ 9999 rfl (by repeat (first | exact obs_nil | refine obs_draw (by kernel_rfl) ?_ | refine obs_same ?_ | refine obs_and ?_ | refine obs_by (by (simp [inB] <;> omega)) ?_)) ?_
  refine runS_cond rfl (fun h => ?_) (fun h => by cases h)
  refine runS_x (I := inf) (J := jnf) ⟨false, false, [], 0, 0⟩ 9999 rfl (by repeat (first | exact obs_nil | refine obs_draw (by kernel_rfl) ?_ | refine obs_same ?_ | refine obs_and ?_ | refine obs_by (by (simp [inB] <;> omega)) ?_)) ?_
  refine runS_cond rfl (fun h => ?_) (fun h => ?_)
  · have hs0 : s ≠ [] := fun e => by subst e; exact absurd h (by simp [show (bs []).toList = [] from bs_toList [], show (ByteArray.mk #[]).toList = [] from bs_toList []])
    refine runS_x (I := inf) (J := jnf) ⟨false, false, [], 0, 0⟩ 9999 rfl (by repeat (first | exact obs_nil | refine obs_draw (by kernel_rfl) ?_ | refine obs_same ?_ | refine obs_and ?_ | refine obs_by (by (simp [inB] <;> omega)) ?_)) ?_
    refine runS_ret (I := inf) 0 rfl (Nat.le_refl _) rfl .nil rfl ⟨?_, rfl⟩
    refine congrArg (fun x => Out.ret (bv x)) ?_
    simp [rightB, hs0]
  have hs0 : s = [] := by simpa [bs_toList, show (ByteArray.mk #[]).toList = [] from bs_toList []] using h
  subst hs0
  refine runS_x (I := inf) (J := jnf) ⟨false, false, [], 0, 0⟩ 9999 rfl (by repeat (first | exact obs_nil | refine obs_draw (by kernel_rfl) ?_ | refine obs_same ?_ | refine obs_and ?_ | refine obs_by (by (simp [inB] <;> omega)) ?_)) ?_
  refine runS_cond rfl (fun h => by cases h) (fun h => ?_)
  refine runS_x (I := inf) (J := jnf) ⟨false, false, [], 0, 0⟩ 9999 rfl (by repeat (first | exact obs_nil | refine obs_draw (by kernel_rfl) ?_ | refine obs_same ?_ | refine obs_and ?_ | refine obs_by (by (simp [inB] <;> omega)) ?_)) ?_
  refine runS_cond rfl (fun h => by cases h) (fun h => ?_)
  refine runS_x (I := inf) (J := jnf) ⟨false, false, [], 0, 0⟩ 9999 rfl (by repeat (first | exact obs_nil | refine obs_draw (by kernel_rfl) ?_ | refine obs_same ?_ | refine obs_and ?_ | refine obs_by (by (simp [inB] <;> omega)) ?_)) ?_
  refine runS_cond rfl (fun h => ?_) (fun h => by cases h)
  refine runS_x (I := inf) (J := jnf) ⟨false, false, [], 0, 0⟩ 9999 rfl (by repeat (first | exact obs_nil | refine obs_draw (by kernel_rfl) ?_ | refine obs_same ?_ | refine obs_and ?_ | refine obs_by (by (simp [inB] <;> omega)) ?_)) ?_
  refine runS_cond rfl (fun h => ?_) (fun h => ?_)
  · have h0 : n = 0 := by simpa using (show (n == 0) = true from h)
    subst h0
    refine runS_x (I := inf) (J := jnf) ⟨false, false, [], 0, 0⟩ 9999 rfl (by repeat (first | exact obs_nil | refine obs_draw (by kernel_rfl) ?_ | refine obs_same ?_ | refine obs_and ?_ | refine obs_by (by (simp [inB] <;> omega)) ?_)) ?_
    refine runS_ret (I := inf) 0 rfl (Nat.le_refl _) rfl .nil rfl ⟨?_, rfl⟩
    refine congrArg (fun x => Out.ret (bv x)) ?_
    rw [Bool.eq_iff_iff]
    simp [rightB]
  · have h0 : ¬ n = 0 := by simpa using (show (n == 0) = false from h)
    refine runS_x (I := inf) (J := jnf) ⟨false, false, [], 0, 0⟩ 9999 rfl (by repeat (first | exact obs_nil | refine obs_draw (by kernel_rfl) ?_ | refine obs_same ?_ | refine obs_and ?_ | refine obs_by (by first | exact (fun _ => nz10) | (simp [inB] <;> omega)) ?_)) ?_
    have hcd : (if (if (if (if decide (n ≤ -1000000000000000) = true then true else decide (n ≥ 1000000000000000)) = true then true else (n.tmod 10 == 0)) = true then true else decide (q < -1000)) = true then true else decide (q > 1000)) = decide (n ≤ -1000000000000000 ∨ n ≥ 1000000000000000 ∨ n.natAbs % 10 = 0 ∨ q < -1000 ∨ q > 1000) := by
      rw [tmod10, Bool.eq_iff_iff]
      simp
      omega
    refine runS_cond rfl (fun h2 => ?_) (fun h2 => ?_)
    · have hc := of_decide_eq_true (hcd.symm.trans h2)
      refine runS_x (I := inf) (J := jnf) ⟨false, false, [], 0, 0⟩ 9999 rfl (by repeat (first | exact obs_nil | refine obs_draw (by kernel_rfl) ?_ | refine obs_same ?_ | refine obs_and ?_ | refine obs_by (by (simp [inB] <;> omega)) ?_)) ?_
      refine runS_ret (I := inf) 0 rfl (Nat.le_refl _) rfl .nil rfl ⟨?_, rfl⟩
      refine congrArg (fun x => Out.ret (bv x)) ?_
      symm
      rw [← Bool.not_eq_true]
      simp [rightB, h0]
      omega
    · have hc := of_decide_eq_false (hcd.symm.trans h2)
      have hsz := r_size n (by omega)
      have hl : (frm n.natAbs).length ≤ 19 := frm_len_lt.2 (by omega)
      have hwr : IntKind.wrap .i64 (IntKind.wrap .i64 (((frm n.natAbs).length : Int) + q) - 1) = ((frm n.natAbs).length : Int) + q - 1 := by rw [w64 (x := ((frm n.natAbs).length : Int) + q) (by omega) (by omega), w64 (by omega) (by omega)]
      refine runS_x (I := inf) (J := jnf) ⟨false, false, [], 0, 0⟩ 9999 rfl (by repeat (first | exact obs_nil | refine obs_draw (by kernel_rfl) ?_ | refine obs_same ?_ | refine obs_and ?_ | refine obs_by (by (simp [inB] <;> omega)) ?_)) ?_
      refine runS_draw 7 (by kernel_rfl) (lexj_x (I := inf) (J := jnf) 99 rfl rfl (by repeat (first | exact obs_nil | refine obs_same ?_ | refine obs_and ?_ | refine obs_by (by (simp [inB] <;> omega)) ?_)) (lexj_call rfl rfl rfl rfl rfl rfl rfl rfl hsz (lexj_x (I := inf) (J := jnf) 99 rfl rfl (by repeat (first | exact obs_nil | refine obs_same ?_ | refine obs_and ?_ | refine obs_by (by (simp [inB] <;> omega)) ?_)) lexj_nil))) ?_
      refine runS_x (I := inf) (J := jnf) ⟨false, false, [], 0, 0⟩ 9999 rfl (by repeat (first | exact obs_nil | refine obs_draw (by kernel_rfl) ?_ | refine obs_same ?_ | refine obs_and ?_ | refine obs_by (by (simp [inB] <;> omega)) ?_)) ?_
      refine runS_ret (I := inf) 0 rfl (Nat.le_refl _) rfl .nil rfl ⟨?_, rfl⟩
      refine congrArg (fun x => Out.ret (bv x)) ?_
      rw [hwr, Bool.eq_iff_iff]
      simp [rightB, h0]
      omega
theorem r_right_o {kd : Int} (hk : kd ≤ 0 ∨ 10 ≤ kd) : CallT Tryz.prog 12 [.agg (vaE kd n q s)] [] (fun o A => o = .ret (bv (rightB kd n q s)) ∧ A = []) := by
  have hr : rightB kd n q s = false := by
    unfold rightB
    rw [if_neg (by omega), if_neg (by omega), if_neg (by omega), if_neg (by omega), if_neg (by omega), if_neg (by omega), if_neg (by omega)]
  rw [hr]
  refine callS_body (n := 176) rfl rfl fun w ρ X => ?_
  refine runS_x (I := inf) (J := jnf) ⟨false, false, [], 0, 0⟩ 9999 rfl (by repeat (first | exact obs_nil | refine obs_draw (by kernel_rfl) ?_ | refine obs_same ?_ | refine obs_and ?_ | refine obs_by (by (simp [inB] <;> omega)) ?_)) ?_
  refine runS_call rfl rfl rfl rfl rfl rfl rfl (r_numeric kd) ?_
  refine runS_x (I := inf) (J := jnf) ⟨false, false, [], 0, 0⟩ 9999 rfl (by repeat (first | exact obs_nil | refine obs_draw (by kernel_rfl) ?_ | refine obs_same ?_ | refine obs_and ?_ | refine obs_by (by (simp [inB] <;> omega)) ?_)) ?_
  refine runS_cond rfl (fun h => ?_) (fun h => ?_)
  · refine runS_x (I := inf) (J := jnf) ⟨false, false, [], 0, 0⟩ 9999 rfl (by repeat (first | exact obs_nil | refine obs_draw (by kernel_rfl) ?_ | refine obs_same ?_ | refine obs_and ?_ | refine obs_by (by (simp [inB] <;> omega)) ?_)) ?_
    refine runS_cond rfl (fun h => ?_) (fun h => ?_)
    · refine runS_x (I := inf) (J := jnf) ⟨false, false, [], 0, 0⟩ 9999 rfl (by repeat (first | exact obs_nil | refine obs_draw (by kernel_rfl) ?_ | refine obs_same ?_ | refine obs_and ?_ | refine obs_by (by (simp [inB] <;> omega)) ?_)) ?_
      refine runS_ret (I := inf) 0 rfl (Nat.le_refl _) rfl .nil rfl ⟨?_, rfl⟩
      rfl
    · refine runS_x (I := inf) (J := jnf) ⟨false, false, [], 0, 0⟩ 9999 rfl (by repeat (first | exact obs_nil | refine obs_draw (by kernel_rfl) ?_ | refine obs_same ?_ | refine obs_and ?_ | refine obs_by (by (simp [inB] <;> omega)) ?_)) ?_
      refine runS_cond rfl (fun h => by simp at h; omega) (fun h => ?_)
      refine runS_x (I := inf) (J := jnf) ⟨false, false, [], 0, 0⟩ 9999 rfl (by repeat (first | exact obs_nil | refine obs_draw (by kernel_rfl) ?_ | refine obs_same ?_ | refine obs_and ?_ | refine obs_by (by (simp [inB] <;> omega)) ?_)) ?_
      refine runS_cond rfl (fun h => by simp at h; omega) (fun h => ?_)
      refine runS_x (I := inf) (J := jnf) ⟨false, false, [], 0, 0⟩ 9999 rfl (by repeat (first | exact obs_nil | refine obs_draw (by kernel_rfl) ?_ | refine obs_same ?_ | refine obs_and ?_ | refine obs_by (by (simp [inB] <;> omega)) ?_)) ?_
      refine runS_cond rfl (fun h => by simp at h; omega) (fun h => ?_)
      refine runS_x (I := inf) (J := jnf) ⟨false, false, [], 0, 0⟩ 9999 rfl (by repeat (first | exact obs_nil | refine obs_draw (by kernel_rfl) ?_ | refine obs_same ?_ | refine obs_and ?_ | refine obs_by (by (simp [inB] <;> omega)) ?_)) ?_
      refine runS_cond rfl (fun h => by simp at h; omega) (fun h => ?_)
      refine runS_x (I := inf) (J := jnf) ⟨false, false, [], 0, 0⟩ 9999 rfl (by repeat (first | exact obs_nil | refine obs_draw (by kernel_rfl) ?_ | refine obs_same ?_ | refine obs_and ?_ | refine obs_by (by (simp [inB] <;> omega)) ?_)) ?_
      refine runS_cond rfl (fun h => by simp at h; omega) (fun h => ?_)
      refine runS_x (I := inf) (J := jnf) ⟨false, false, [], 0, 0⟩ 9999 rfl (by repeat (first | exact obs_nil | refine obs_draw (by kernel_rfl) ?_ | refine obs_same ?_ | refine obs_and ?_ | refine obs_by (by (simp [inB] <;> omega)) ?_)) ?_
      refine runS_cond rfl (fun h => by simp at h; omega) (fun h => ?_)
      refine runS_x (I := inf) (J := jnf) ⟨false, false, [], 0, 0⟩ 9999 rfl (by repeat (first | exact obs_nil | refine obs_draw (by kernel_rfl) ?_ | refine obs_same ?_ | refine obs_and ?_ | refine obs_by (by (simp [inB] <;> omega)) ?_)) ?_
      refine runS_cond rfl (fun h => by simp at h; omega) (fun h => ?_)
      refine runS_x (I := inf) (J := jnf) ⟨false, false, [], 0, 0⟩ 9999 rfl (by repeat (first | exact obs_nil | refine obs_draw (by kernel_rfl) ?_ | refine obs_same ?_ | refine obs_and ?_ | refine obs_by (by (simp [inB] <;> omega)) ?_)) ?_
      refine runS_cond rfl (fun h => by simp at h; omega) (fun h => ?_)
      refine runS_x (I := inf) (J := jnf) ⟨false, false, [], 0, 0⟩ 9999 rfl (by repeat (first | exact obs_nil | refine obs_draw (by kernel_rfl) ?_ | refine obs_same ?_ | refine obs_and ?_ | refine obs_by (by (simp [inB] <;> omega)) ?_)) ?_
      refine runS_cond rfl (fun h => by simp at h; omega) (fun h => ?_)
      refine runS_x (I := inf) (J := jnf) ⟨false, false, [], 0, 0⟩ 9999 rfl (by repeat (first | exact obs_nil | refine obs_draw (by kernel_rfl) ?_ | refine obs_same ?_ | refine obs_and ?_ | refine obs_by (by (simp [inB] <;> omega)) ?_)) ?_
      refine runS_ret (I := inf) 0 rfl (Nat.le_refl _) rfl .nil rfl ⟨?_, rfl⟩
      rfl
  · refine runS_x (I := inf) (J := jnf) ⟨false, false, [], 0, 0⟩ 9999 rfl (by repeat (first | exact obs_nil | refine obs_draw (by kernel_rfl) ?_ | refine obs_same ?_ | refine obs_and ?_ | refine obs_by (by (simp [inB] <;> omega)) ?_)) ?_
    refine runS_cond rfl (fun h => by simp at h; omega) (fun h => ?_)
    refine runS_x (I := inf) (J := jnf) ⟨false, false, [], 0, 0⟩ 9999 rfl (by repeat (first | exact obs_nil | refine obs_draw (by kernel_rfl) ?_ | refine obs_same ?_ | refine obs_and ?_ | refine obs_by (by (simp [inB] <;> omega)) ?_)) ?_
    refine runS_cond rfl (fun h => by simp at h; omega) (fun h => ?_)
    refine runS_x (I := inf) (J := jnf) ⟨false, false, [], 0, 0⟩ 9999 rfl (by repeat (first | exact obs_nil | refine obs_draw (by kernel_rfl) ?_ | refine obs_same ?_ | refine obs_and ?_ | refine obs_by (by (simp [inB] <;> omega)) ?_)) ?_
    refine runS_cond rfl (fun h => by simp at h; omega) (fun h => ?_)
    refine runS_x (I := inf) (J := jnf) ⟨false, false, [], 0, 0⟩ 9999 rfl (by repeat (first | exact obs_nil | refine obs_draw (by kernel_rfl) ?_ | refine obs_same ?_ | refine obs_and ?_ | refine obs_by (by (simp [inB] <;> omega)) ?_)) ?_
    refine runS_cond rfl (fun h => by simp at h; omega) (fun h => ?_)
    refine runS_x (I := inf) (J := jnf) ⟨false, false, [], 0, 0⟩ 9999 rfl (by repeat (first | exact obs_nil | refine obs_draw (by kernel_rfl) ?_ | refine obs_same ?_ | refine obs_and ?_ | refine obs_by (by (simp [inB] <;> omega)) ?_)) ?_
    refine runS_cond rfl (fun h => by simp at h; omega) (fun h => ?_)
    refine runS_x (I := inf) (J := jnf) ⟨false, false, [], 0, 0⟩ 9999 rfl (by repeat (first | exact obs_nil | refine obs_draw (by kernel_rfl) ?_ | refine obs_same ?_ | refine obs_and ?_ | refine obs_by (by (simp [inB] <;> omega)) ?_)) ?_
    refine runS_cond rfl (fun h => by simp at h; omega) (fun h => ?_)
    refine runS_x (I := inf) (J := jnf) ⟨false, false, [], 0, 0⟩ 9999 rfl (by repeat (first | exact obs_nil | refine obs_draw (by kernel_rfl) ?_ | refine obs_same ?_ | refine obs_and ?_ | refine obs_by (by (simp [inB] <;> omega)) ?_)) ?_
    refine runS_cond rfl (fun h => by simp at h; omega) (fun h => ?_)
    refine runS_x (I := inf) (J := jnf) ⟨false, false, [], 0, 0⟩ 9999 rfl (by repeat (first | exact obs_nil | refine obs_draw (by kernel_rfl) ?_ | refine obs_same ?_ | refine obs_and ?_ | refine obs_by (by (simp [inB] <;> omega)) ?_)) ?_
    refine runS_cond rfl (fun h => by simp at h; omega) (fun h => ?_)
    refine runS_x (I := inf) (J := jnf) ⟨false, false, [], 0, 0⟩ 9999 rfl (by repeat (first | exact obs_nil | refine obs_draw (by kernel_rfl) ?_ | refine obs_same ?_ | refine obs_and ?_ | refine obs_by (by (simp [inB] <;> omega)) ?_)) ?_
    refine runS_cond rfl (fun h => by simp at h; omega) (fun h => ?_)
    refine runS_x (I := inf) (J := jnf) ⟨false, false, [], 0, 0⟩ 9999 rfl (by repeat (first | exact obs_nil | refine obs_draw (by kernel_rfl) ?_ | refine obs_same ?_ | refine obs_and ?_ | refine obs_by (by (simp [inB] <;> omega)) ?_)) ?_
    refine runS_ret (I := inf) 0 rfl (Nat.le_refl _) rfl .nil rfl ⟨?_, rfl⟩
    rfl
end
theorem r_right (kd n q : Int) (s : Str) : CallT Tryz.prog 12 [.agg (vaE kd n q s)] [] (fun o A => o = .ret (bv (rightB kd n q s)) ∧ A = []) := by
  by_cases h : kd ≤ 0 ∨ 10 ≤ kd
  · exact r_right_o n q s h
  · have : kd = 1 ∨ kd = 2 ∨ kd = 3 ∨ kd = 4 ∨ kd = 5 ∨ kd = 6 ∨ kd = 7 ∨ kd = 8 ∨ kd = 9 := by omega
    rcases this with rfl | rfl | rfl | rfl | rfl | rfl | rfl | rfl | rfl
    · exact r_right_1 n q s
    · exact r_right_2 n q s
    · exact r_right_3 n q s
    · exact r_right_4 n q s
    · exact r_right_5 n q s
    · exact r_right_6 n q s
    · exact r_right_7 n q s
    · exact r_right_8 n q s
    · exact r_right_9 n q s
end Go.Iron.Tryz

/- The digits' seat: valid types, by the reference and by the program. -/
namespace Go.Iron.Tryz
open Go.Proofs Go.RowKit Go.Iron.Tok Go.Iron.Dg

@[reducible] def typE (t : Typ) : List AV := [iv t.kind, iv t.p, iv t.q, iv t.n, bv t.vary, sv t.pic]
theorem d_within (n a b : Int) : CallT Tryz.prog 86 [iv n, iv a, iv b] [] (fun o A => o = .ret (bv (decide (a ≤ n) && decide (n ≤ b))) ∧ A = []) := by
  refine callS_body (n := 15) rfl rfl fun w ρ X => ?_
  refine runS_x (I := inf) (J := jnf) ⟨false, false, [], 0, 0⟩ 9999 rfl (by repeat (first | exact obs_nil | refine obs_draw (by kernel_rfl) ?_ | refine obs_same ?_ | refine obs_and ?_ | refine obs_by (by (simp [inB] <;> omega)) ?_)) ?_
  refine runS_ret (I := inf) 0 rfl (Nat.le_refl _) rfl .nil rfl ⟨?_, rfl⟩
  show Out.ret (bv (if decide (n ≥ a) = true then decide (n ≤ b) else false)) = _
  by_cases h : a ≤ n <;> simp [h]
theorem emptyB (s : Str) : ((bs s).toList == ({ data := #[] } : ByteArray).toList) = decide (s.length = 0) := by
  show ((bs s).toList == (bs []).toList) = _
  rw [bs_toList, bs_toList]
  cases s <;> rfl
theorem isEmptyB (s : Str) : s.isEmpty = decide (s.length = 0) := by cases s <;> rfl
theorem blL (s : Str) : (bl (bs s)).length = s.length := rfl
theorem rules_1 (a b : Int) (t : Typ) : CallT Tryz.prog 156 [.agg (typE t), .loc [iv a] 0, .loc [iv b] 0] [] (fun o A => o = .ret (bv (inR t.p 1 a && inR t.q 0 b && t.n == 0 && !t.vary && t.pic.isEmpty)) ∧ A = []) := by
  obtain ⟨k, p, q, n, v, pic⟩ := t
  refine callS_body (n := 30) rfl rfl fun w ρ X => ?_
  refine runS_x (I := inf) (J := jnf) ⟨false, false, [], 0, 0⟩ 9999 rfl (by repeat (first | exact obs_nil | refine obs_draw (by kernel_rfl) ?_ | refine obs_same ?_ | refine obs_and ?_ | refine obs_by (by (simp [inB] <;> omega)) ?_)) ?_
  refine runS_call rfl rfl rfl rfl rfl rfl rfl (d_within _ _ _) ?_
  refine runS_x (I := inf) (J := jnf) ⟨false, false, [], 0, 0⟩ 9999 rfl (by repeat (first | exact obs_nil | refine obs_draw (by kernel_rfl) ?_ | refine obs_same ?_ | refine obs_and ?_ | refine obs_by (by (simp [inB] <;> omega)) ?_)) ?_
  refine runS_callU rfl rfl (by first | exact .v rfl rfl rfl rfl | exact .o rfl rfl rfl rfl) rfl rfl (by repeat (first | exact .nil | refine .cons (.n rfl) ?_ | refine .cons .o ?_ | refine .cons gok_and ?_)) rfl rfl rfl rfl rfl (fun _ => (d_within _ _ _)) ?_
  refine runS_x (I := inf) (J := jnf) ⟨false, false, [], 0, 0⟩ 9999 rfl (by repeat (first | exact obs_nil | refine obs_draw (by kernel_rfl) ?_ | refine obs_same ?_ | refine obs_and ?_ | refine obs_by (by (simp [inB] <;> omega)) ?_)) ?_
  refine runS_ret (I := inf) 0 rfl (Nat.le_refl _) rfl .nil rfl ⟨?_, rfl⟩
  refine congrArg (fun b => Out.ret (bv b)) ?_
  simp only [inR, isEmptyB, emptyB, blL]
  rw [Bool.eq_iff_iff]
  cases v <;> (simp [-List.length_eq_zero_iff] <;> first | omega | (simp only [decide_eq_true_eq]; omega) | (rw [decide_eq_true_iff]; omega) | (erw [decide_eq_true_iff]; omega) | (erw [decide_eq_true_iff, decide_eq_true_iff]; omega))
theorem rules_2 (t : Typ) : CallT Tryz.prog 157 [.agg (typE t)] [] (fun o A => o = .ret (bv (t.p == 0 && t.q == 0 && inR t.n 0 250 && t.pic.isEmpty)) ∧ A = []) := by
  obtain ⟨k, p, q, n, v, pic⟩ := t
  refine callS_body (n := 21) rfl rfl fun w ρ X => ?_
  refine runS_x (I := inf) (J := jnf) ⟨false, false, [], 0, 0⟩ 9999 rfl (by repeat (first | exact obs_nil | refine obs_draw (by kernel_rfl) ?_ | refine obs_same ?_ | refine obs_and ?_ | refine obs_by (by (simp [inB] <;> omega)) ?_)) ?_
  refine runS_callU rfl rfl (by first | exact .v rfl rfl rfl rfl | exact .o rfl rfl rfl rfl) rfl rfl (by repeat (first | exact .nil | refine .cons (.n rfl) ?_ | refine .cons .o ?_ | refine .cons gok_and ?_)) rfl rfl rfl rfl rfl (fun _ => (d_within _ _ _)) ?_
  refine runS_x (I := inf) (J := jnf) ⟨false, false, [], 0, 0⟩ 9999 rfl (by repeat (first | exact obs_nil | refine obs_draw (by kernel_rfl) ?_ | refine obs_same ?_ | refine obs_and ?_ | refine obs_by (by (simp [inB] <;> omega)) ?_)) ?_
  refine runS_ret (I := inf) 0 rfl (Nat.le_refl _) rfl .nil rfl ⟨?_, rfl⟩
  refine congrArg (fun b => Out.ret (bv b)) ?_
  simp only [inR, isEmptyB, emptyB, blL]
  rw [Bool.eq_iff_iff]
  simp [-List.length_eq_zero_iff] <;> first | omega | (simp only [decide_eq_true_eq]; omega) | (rw [decide_eq_true_iff]; omega) | (erw [decide_eq_true_iff]; omega) | (erw [decide_eq_true_iff, decide_eq_true_iff]; omega)
theorem rules_3 (t : Typ) : CallT Tryz.prog 158 [.agg (typE t)] [] (fun o A => o = .ret (bv (t.p == 0 && t.q == 0 && t.n == 0 && !t.vary && t.pic.isEmpty)) ∧ A = []) := by
  obtain ⟨k, p, q, n, v, pic⟩ := t
  refine callS_body (n := 8) rfl rfl fun w ρ X => ?_
  refine runS_x (I := inf) (J := jnf) ⟨false, false, [], 0, 0⟩ 9999 rfl (by repeat (first | exact obs_nil | refine obs_draw (by kernel_rfl) ?_ | refine obs_same ?_ | refine obs_and ?_ | refine obs_by (by (simp [inB] <;> omega)) ?_)) ?_
  refine runS_ret (I := inf) 0 rfl (Nat.le_refl _) rfl .nil rfl ⟨?_, rfl⟩
  refine congrArg (fun b => Out.ret (bv b)) ?_
  simp only [inR, isEmptyB, emptyB, blL]
  rw [Bool.eq_iff_iff]
  cases v <;> (simp [-List.length_eq_zero_iff] <;> first | omega | (simp only [decide_eq_true_eq]; omega) | (rw [decide_eq_true_iff]; omega) | (erw [decide_eq_true_iff]; omega) | (erw [decide_eq_true_iff, decide_eq_true_iff]; omega))
theorem rules_4 (t : Typ) : CallT Tryz.prog 159 [.agg (typE t)] [] (fun o A => o = .ret (bv (t.p == 0 && t.q == 0 && t.n == 0 && !t.vary && decide (1 ≤ t.pic.length) && decide (t.pic.length ≤ 80))) ∧ A = []) := by
  obtain ⟨k, p, q, n, v, pic⟩ := t
  refine callS_body (n := 16) rfl rfl fun w ρ X => ?_
  refine runS_x (I := inf) (J := jnf) ⟨false, false, [], 0, 0⟩ 9999 rfl (by repeat (first | exact obs_nil | refine obs_draw (by kernel_rfl) ?_ | refine obs_same ?_ | refine obs_and ?_ | refine obs_by (by (simp [inB] <;> omega)) ?_)) ?_
  refine runS_call rfl rfl rfl rfl rfl rfl rfl (d_within _ _ _) ?_
  refine runS_x (I := inf) (J := jnf) ⟨false, false, [], 0, 0⟩ 9999 rfl (by repeat (first | exact obs_nil | refine obs_draw (by kernel_rfl) ?_ | refine obs_same ?_ | refine obs_and ?_ | refine obs_by (by (simp [inB] <;> omega)) ?_)) ?_
  refine runS_ret (I := inf) 0 rfl (Nat.le_refl _) rfl .nil rfl ⟨?_, rfl⟩
  refine congrArg (fun b => Out.ret (bv b)) ?_
  simp only [inR, isEmptyB, emptyB, blL]
  rw [Bool.eq_iff_iff]
  cases v <;> (simp [-List.length_eq_zero_iff] <;> first | omega | (simp only [decide_eq_true_eq]; omega) | (rw [decide_eq_true_iff]; omega) | (erw [decide_eq_true_iff]; omega) | (erw [decide_eq_true_iff, decide_eq_true_iff]; omega))
theorem rules_5 (t : Typ) : CallT Tryz.prog 160 [.agg (typE t)] [] (fun o A => o = .ret (bv false) ∧ A = []) := by
  refine callS_body (n := 3) rfl rfl fun w ρ X => ?_
  refine runS_x (I := inf) (J := jnf) ⟨false, false, [], 0, 0⟩ 9999 rfl (by repeat (first | exact obs_nil | refine obs_draw (by kernel_rfl) ?_ | refine obs_same ?_ | refine obs_and ?_ | refine obs_by (by (simp [inB] <;> omega)) ?_)) ?_
  refine runS_ret (I := inf) 0 rfl (Nat.le_refl _) rfl .nil rfl ⟨?_, rfl⟩
  rfl
abbrev fnA (g : Nat) (caps : List AV) : AV := .fn (.func g) caps
abbrev cel (n : Int) : AV := .loc [iv n] 0
theorem rules_mk (a b : Int) : CallT Tryz.prog 155 [iv a, iv b] [] (fun o A => o = .ret (fnA 156 [cel a, cel b]) ∧ A = []) := by
  refine callS_body (n := 6) rfl rfl fun w ρ X => ?_
  refine runS_x (I := inf) (J := jnf) ⟨false, false, [], 0, 0⟩ 9999 rfl (by repeat (first | exact obs_nil | refine obs_draw (by kernel_rfl) ?_ | refine obs_same ?_ | refine obs_and ?_ | refine obs_by (by (simp [inB] <;> omega)) ?_)) ?_
  refine runS_freezeBox 0 rfl rfl rfl ?_
  refine runS_freezeBox 1 rfl rfl rfl ?_
  refine runS_drop 0 (Nat.zero_le _) rfl (by repeat (first | exact .nil | refine .row (fun j hj => rfl) ?_ | refine .box rfl ?_ | refine .fam (fun k j hk hj => rfl) ?_ | refine .loop (scrub_under _ _) ?_ | refine .dfr ?_ | refine .gone ?_ | refine .map (fun p hp => by (obtain ⟨k, _, rfl⟩ := List.mem_map.1 hp; rfl)) ?_)) rfl rfl rfl (by repeat (first | exact .nil | refine .cons rfl rfl rfl (scrub_under _ _) ?_)) ?_
  refine runS_ret (I := inf) 0 rfl (Nat.le_refl _) rfl .nil rfl ⟨?_, rfl⟩
  rfl
def ruleA : Nat → AV
  | 0 => fnA 160 []
  | 1 => fnA 156 [cel 31, cel 31]
  | 2 => fnA 156 [cel 15, cel 31]
  | 3 => fnA 156 [cel 15, cel 0]
  | 4 => fnA 157 []
  | 5 => fnA 157 []
  | 6 => fnA 159 []
  | _ => fnA 158 []
def ruleR : Nat → List AV := fun i => [ruleA i]
def rulesS : AV := .slc 1 none 10 ruleR
theorem d_rules : CallT Tryz.prog 85 [] [] (fun o A => o = .ret rulesS ∧ A = []) := by
  refine callS_body (n := 20) rfl rfl fun w ρ X => ?_
  refine runS_x (I := inf) (J := jnf) ⟨false, false, [], 0, 0⟩ 9999 rfl (by repeat (first | exact obs_nil | refine obs_draw (by kernel_rfl) ?_ | refine obs_same ?_ | refine obs_and ?_ | refine obs_by (by (simp [inB] <;> omega)) ?_)) ?_
  refine runS_call rfl rfl rfl rfl rfl rfl rfl (rules_mk 31 31) ?_
  refine runS_x (I := inf) (J := jnf) ⟨false, false, [], 0, 0⟩ 9999 rfl (by repeat (first | exact obs_nil | refine obs_draw (by kernel_rfl) ?_ | refine obs_same ?_ | refine obs_and ?_ | refine obs_by (by (simp [inB] <;> omega)) ?_)) ?_
  refine runS_call rfl rfl rfl rfl rfl rfl rfl (rules_mk 15 31) ?_
  refine runS_x (I := inf) (J := jnf) ⟨false, false, [], 0, 0⟩ 9999 rfl (by repeat (first | exact obs_nil | refine obs_draw (by kernel_rfl) ?_ | refine obs_same ?_ | refine obs_and ?_ | refine obs_by (by (simp [inB] <;> omega)) ?_)) ?_
  refine runS_call rfl rfl rfl rfl rfl rfl rfl (rules_mk 15 0) ?_
  refine runS_x (I := inf) (J := jnf) ⟨false, false, [], 0, 0⟩ 9999 rfl (by repeat (first | exact obs_nil | refine obs_draw (by kernel_rfl) ?_ | refine obs_same ?_ | refine obs_and ?_ | refine obs_by (by (simp [inB] <;> omega)) ?_)) ?_
  refine runS_tell 0 ruleR rfl (m' := 10) rfl ?_ rfl ?_
  · intro i hi
    rcases i with _ | _ | _ | _ | _ | _ | _ | _ | _ | _ | i <;> first | rfl | omega
  refine runS_freeze 0 rfl rfl rfl (fun i hi => ?_) ?_
  · rcases i with _ | _ | _ | _ | _ | _ | _ | _ | _ | _ | i <;> first | rfl | omega
  refine runS_drop 0 (Nat.zero_le _) rfl (by repeat (first | exact .nil | refine .row (fun j hj => rfl) ?_ | refine .box rfl ?_ | refine .fam (fun k j hk hj => rfl) ?_ | refine .loop (scrub_under _ _) ?_ | refine .dfr ?_ | refine .gone ?_ | refine .map (fun p hp => by (obtain ⟨k, _, rfl⟩ := List.mem_map.1 hp; rfl)) ?_)) rfl rfl rfl (by repeat (first | exact .nil | refine .cons rfl rfl rfl (scrub_under _ _) ?_)) ?_
  refine runS_ret (I := inf) 0 rfl (Nat.le_refl _) rfl .nil rfl ⟨?_, rfl⟩
  rfl
theorem d_valid (t : Typ) : CallT Tryz.prog 31 [.agg (typE t)] [] (fun o A => o = .ret (bv (validT t)) ∧ A = []) := by
  by_cases hk : 0 ≤ t.kind ∧ t.kind ≤ 9
  · obtain ⟨k, p, q, n, v, pic⟩ := t
    dsimp only at hk
    have : k = 0 ∨ k = 1 ∨ k = 2 ∨ k = 3 ∨ k = 4 ∨ k = 5 ∨ k = 6 ∨ k = 7 ∨ k = 8 ∨ k = 9 := by omega
    rcases this with rfl | rfl | rfl | rfl | rfl | rfl | rfl | rfl | rfl | rfl
    · refine callS_body (n := 20) rfl rfl fun w ρ X => ?_
      refine runS_x (I := inf) (J := jnf) ⟨false, false, [], 0, 0⟩ 9999 rfl (by repeat (first | exact obs_nil | refine obs_draw (by kernel_rfl) ?_ | refine obs_same ?_ | refine obs_and ?_ | refine obs_by (by (simp [inB] <;> omega)) ?_)) ?_
      refine runS_call rfl rfl rfl rfl rfl rfl rfl d_rules ?_
      refine runS_x (I := inf) (J := jnf) ⟨false, false, [], 0, 0⟩ 9999 rfl (by repeat (first | exact obs_nil | refine obs_draw (by kernel_rfl) ?_ | refine obs_same ?_ | refine obs_and ?_ | refine obs_by (by (simp [inB] <;> omega)) ?_)) ?_
      refine runS_draw 15 (by kernel_rfl) (lexj_x (I := inf) (J := jnf) 99 rfl rfl (by repeat (first | exact obs_nil | refine obs_same ?_ | refine obs_and ?_ | refine obs_by (by (simp [inB] <;> omega)) ?_)) (lexj_call rfl rfl rfl rfl rfl rfl rfl rfl (d_within _ _ _) (lexj_x (I := inf) (J := jnf) 99 rfl rfl (by repeat (first | exact obs_nil | refine obs_same ?_ | refine obs_and ?_ | refine obs_by (by (simp [inB] <;> omega)) ?_)) (lexj_callU rfl rfl (by first | exact .v rfl rfl rfl rfl | exact .o rfl rfl rfl rfl) rfl rfl (by repeat (first | exact .nil | refine .cons (.n rfl) ?_ | refine .cons .o ?_ | refine .cons gok_and ?_)) rfl rfl rfl rfl rfl (fun hcond => (rules_5 _)) (lexj_x (I := inf) (J := jnf) 99 rfl rfl (by repeat (first | exact obs_nil | refine obs_same ?_ | refine obs_and ?_ | refine obs_by (by (simp [inB] <;> omega)) ?_)) lexj_nil))))) ?_
      refine runS_x (I := inf) (J := jnf) ⟨false, false, [], 0, 0⟩ 9999 rfl (by repeat (first | exact obs_nil | refine obs_draw (by kernel_rfl) ?_ | refine obs_same ?_ | refine obs_and ?_ | refine obs_by (by (simp [inB] <;> omega)) ?_)) ?_
      refine runS_ret (I := inf) 0 rfl (Nat.le_refl _) rfl .nil rfl ⟨?_, rfl⟩
      rfl
    · refine callS_body (n := 20) rfl rfl fun w ρ X => ?_
      refine runS_x (I := inf) (J := jnf) ⟨false, false, [], 0, 0⟩ 9999 rfl (by repeat (first | exact obs_nil | refine obs_draw (by kernel_rfl) ?_ | refine obs_same ?_ | refine obs_and ?_ | refine obs_by (by (simp [inB] <;> omega)) ?_)) ?_
      refine runS_call rfl rfl rfl rfl rfl rfl rfl d_rules ?_
      refine runS_x (I := inf) (J := jnf) ⟨false, false, [], 0, 0⟩ 9999 rfl (by repeat (first | exact obs_nil | refine obs_draw (by kernel_rfl) ?_ | refine obs_same ?_ | refine obs_and ?_ | refine obs_by (by (simp [inB] <;> omega)) ?_)) ?_
      refine runS_draw 15 (by kernel_rfl) (lexj_x (I := inf) (J := jnf) 99 rfl rfl (by repeat (first | exact obs_nil | refine obs_same ?_ | refine obs_and ?_ | refine obs_by (by (simp [inB] <;> omega)) ?_)) (lexj_call rfl rfl rfl rfl rfl rfl rfl rfl (d_within _ _ _) (lexj_x (I := inf) (J := jnf) 99 rfl rfl (by repeat (first | exact obs_nil | refine obs_same ?_ | refine obs_and ?_ | refine obs_by (by (simp [inB] <;> omega)) ?_)) (lexj_callU rfl rfl (by first | exact .v rfl rfl rfl rfl | exact .o rfl rfl rfl rfl) rfl rfl (by repeat (first | exact .nil | refine .cons (.n rfl) ?_ | refine .cons .o ?_ | refine .cons gok_and ?_)) rfl rfl rfl rfl rfl (fun hcond => (rules_1 31 31 _)) (lexj_x (I := inf) (J := jnf) 99 rfl rfl (by repeat (first | exact obs_nil | refine obs_same ?_ | refine obs_and ?_ | refine obs_by (by (simp [inB] <;> omega)) ?_)) lexj_nil))))) ?_
      refine runS_x (I := inf) (J := jnf) ⟨false, false, [], 0, 0⟩ 9999 rfl (by repeat (first | exact obs_nil | refine obs_draw (by kernel_rfl) ?_ | refine obs_same ?_ | refine obs_and ?_ | refine obs_by (by (simp [inB] <;> omega)) ?_)) ?_
      refine runS_ret (I := inf) 0 rfl (Nat.le_refl _) rfl .nil rfl ⟨?_, rfl⟩
      rfl
    · refine callS_body (n := 20) rfl rfl fun w ρ X => ?_
      refine runS_x (I := inf) (J := jnf) ⟨false, false, [], 0, 0⟩ 9999 rfl (by repeat (first | exact obs_nil | refine obs_draw (by kernel_rfl) ?_ | refine obs_same ?_ | refine obs_and ?_ | refine obs_by (by (simp [inB] <;> omega)) ?_)) ?_
      refine runS_call rfl rfl rfl rfl rfl rfl rfl d_rules ?_
      refine runS_x (I := inf) (J := jnf) ⟨false, false, [], 0, 0⟩ 9999 rfl (by repeat (first | exact obs_nil | refine obs_draw (by kernel_rfl) ?_ | refine obs_same ?_ | refine obs_and ?_ | refine obs_by (by (simp [inB] <;> omega)) ?_)) ?_
      refine runS_draw 15 (by kernel_rfl) (lexj_x (I := inf) (J := jnf) 99 rfl rfl (by repeat (first | exact obs_nil | refine obs_same ?_ | refine obs_and ?_ | refine obs_by (by (simp [inB] <;> omega)) ?_)) (lexj_call rfl rfl rfl rfl rfl rfl rfl rfl (d_within _ _ _) (lexj_x (I := inf) (J := jnf) 99 rfl rfl (by repeat (first | exact obs_nil | refine obs_same ?_ | refine obs_and ?_ | refine obs_by (by (simp [inB] <;> omega)) ?_)) (lexj_callU rfl rfl (by first | exact .v rfl rfl rfl rfl | exact .o rfl rfl rfl rfl) rfl rfl (by repeat (first | exact .nil | refine .cons (.n rfl) ?_ | refine .cons .o ?_ | refine .cons gok_and ?_)) rfl rfl rfl rfl rfl (fun hcond => (rules_1 15 31 _)) (lexj_x (I := inf) (J := jnf) 99 rfl rfl (by repeat (first | exact obs_nil | refine obs_same ?_ | refine obs_and ?_ | refine obs_by (by (simp [inB] <;> omega)) ?_)) lexj_nil))))) ?_
      refine runS_x (I := inf) (J := jnf) ⟨false, false, [], 0, 0⟩ 9999 rfl (by repeat (first | exact obs_nil | refine obs_draw (by kernel_rfl) ?_ | refine obs_same ?_ | refine obs_and ?_ | refine obs_by (by (simp [inB] <;> omega)) ?_)) ?_
      refine runS_ret (I := inf) 0 rfl (Nat.le_refl _) rfl .nil rfl ⟨?_, rfl⟩
      rfl
    · refine callS_body (n := 20) rfl rfl fun w ρ X => ?_
      refine runS_x (I := inf) (J := jnf) ⟨false, false, [], 0, 0⟩ 9999 rfl (by repeat (first | exact obs_nil | refine obs_draw (by kernel_rfl) ?_ | refine obs_same ?_ | refine obs_and ?_ | refine obs_by (by (simp [inB] <;> omega)) ?_)) ?_
      refine runS_call rfl rfl rfl rfl rfl rfl rfl d_rules ?_
      refine runS_x (I := inf) (J := jnf) ⟨false, false, [], 0, 0⟩ 9999 rfl (by repeat (first | exact obs_nil | refine obs_draw (by kernel_rfl) ?_ | refine obs_same ?_ | refine obs_and ?_ | refine obs_by (by (simp [inB] <;> omega)) ?_)) ?_
      refine runS_draw 15 (by kernel_rfl) (lexj_x (I := inf) (J := jnf) 99 rfl rfl (by repeat (first | exact obs_nil | refine obs_same ?_ | refine obs_and ?_ | refine obs_by (by (simp [inB] <;> omega)) ?_)) (lexj_call rfl rfl rfl rfl rfl rfl rfl rfl (d_within _ _ _) (lexj_x (I := inf) (J := jnf) 99 rfl rfl (by repeat (first | exact obs_nil | refine obs_same ?_ | refine obs_and ?_ | refine obs_by (by (simp [inB] <;> omega)) ?_)) (lexj_callU rfl rfl (by first | exact .v rfl rfl rfl rfl | exact .o rfl rfl rfl rfl) rfl rfl (by repeat (first | exact .nil | refine .cons (.n rfl) ?_ | refine .cons .o ?_ | refine .cons gok_and ?_)) rfl rfl rfl rfl rfl (fun hcond => (rules_1 15 0 _)) (lexj_x (I := inf) (J := jnf) 99 rfl rfl (by repeat (first | exact obs_nil | refine obs_same ?_ | refine obs_and ?_ | refine obs_by (by (simp [inB] <;> omega)) ?_)) lexj_nil))))) ?_
      refine runS_x (I := inf) (J := jnf) ⟨false, false, [], 0, 0⟩ 9999 rfl (by repeat (first | exact obs_nil | refine obs_draw (by kernel_rfl) ?_ | refine obs_same ?_ | refine obs_and ?_ | refine obs_by (by (simp [inB] <;> omega)) ?_)) ?_
      refine runS_ret (I := inf) 0 rfl (Nat.le_refl _) rfl .nil rfl ⟨?_, rfl⟩
      refine congrArg (fun b => Out.ret (bv b)) ?_
      show (if true = true then _ else false) = _
      rw [if_pos rfl]
      simp only [validT, inR]
      rw [Bool.eq_iff_iff]
      simp
      omega
    · refine callS_body (n := 20) rfl rfl fun w ρ X => ?_
      refine runS_x (I := inf) (J := jnf) ⟨false, false, [], 0, 0⟩ 9999 rfl (by repeat (first | exact obs_nil | refine obs_draw (by kernel_rfl) ?_ | refine obs_same ?_ | refine obs_and ?_ | refine obs_by (by (simp [inB] <;> omega)) ?_)) ?_
      refine runS_call rfl rfl rfl rfl rfl rfl rfl d_rules ?_
      refine runS_x (I := inf) (J := jnf) ⟨false, false, [], 0, 0⟩ 9999 rfl (by repeat (first | exact obs_nil | refine obs_draw (by kernel_rfl) ?_ | refine obs_same ?_ | refine obs_and ?_ | refine obs_by (by (simp [inB] <;> omega)) ?_)) ?_
      refine runS_draw 15 (by kernel_rfl) (lexj_x (I := inf) (J := jnf) 99 rfl rfl (by repeat (first | exact obs_nil | refine obs_same ?_ | refine obs_and ?_ | refine obs_by (by (simp [inB] <;> omega)) ?_)) (lexj_call rfl rfl rfl rfl rfl rfl rfl rfl (d_within _ _ _) (lexj_x (I := inf) (J := jnf) 99 rfl rfl (by repeat (first | exact obs_nil | refine obs_same ?_ | refine obs_and ?_ | refine obs_by (by (simp [inB] <;> omega)) ?_)) (lexj_callU rfl rfl (by first | exact .v rfl rfl rfl rfl | exact .o rfl rfl rfl rfl) rfl rfl (by repeat (first | exact .nil | refine .cons (.n rfl) ?_ | refine .cons .o ?_ | refine .cons gok_and ?_)) rfl rfl rfl rfl rfl (fun hcond => (rules_2 _)) (lexj_x (I := inf) (J := jnf) 99 rfl rfl (by repeat (first | exact obs_nil | refine obs_same ?_ | refine obs_and ?_ | refine obs_by (by (simp [inB] <;> omega)) ?_)) lexj_nil))))) ?_
      refine runS_x (I := inf) (J := jnf) ⟨false, false, [], 0, 0⟩ 9999 rfl (by repeat (first | exact obs_nil | refine obs_draw (by kernel_rfl) ?_ | refine obs_same ?_ | refine obs_and ?_ | refine obs_by (by (simp [inB] <;> omega)) ?_)) ?_
      refine runS_ret (I := inf) 0 rfl (Nat.le_refl _) rfl .nil rfl ⟨?_, rfl⟩
      rfl
    · refine callS_body (n := 20) rfl rfl fun w ρ X => ?_
      refine runS_x (I := inf) (J := jnf) ⟨false, false, [], 0, 0⟩ 9999 rfl (by repeat (first | exact obs_nil | refine obs_draw (by kernel_rfl) ?_ | refine obs_same ?_ | refine obs_and ?_ | refine obs_by (by (simp [inB] <;> omega)) ?_)) ?_
      refine runS_call rfl rfl rfl rfl rfl rfl rfl d_rules ?_
      refine runS_x (I := inf) (J := jnf) ⟨false, false, [], 0, 0⟩ 9999 rfl (by repeat (first | exact obs_nil | refine obs_draw (by kernel_rfl) ?_ | refine obs_same ?_ | refine obs_and ?_ | refine obs_by (by (simp [inB] <;> omega)) ?_)) ?_
      refine runS_draw 15 (by kernel_rfl) (lexj_x (I := inf) (J := jnf) 99 rfl rfl (by repeat (first | exact obs_nil | refine obs_same ?_ | refine obs_and ?_ | refine obs_by (by (simp [inB] <;> omega)) ?_)) (lexj_call rfl rfl rfl rfl rfl rfl rfl rfl (d_within _ _ _) (lexj_x (I := inf) (J := jnf) 99 rfl rfl (by repeat (first | exact obs_nil | refine obs_same ?_ | refine obs_and ?_ | refine obs_by (by (simp [inB] <;> omega)) ?_)) (lexj_callU rfl rfl (by first | exact .v rfl rfl rfl rfl | exact .o rfl rfl rfl rfl) rfl rfl (by repeat (first | exact .nil | refine .cons (.n rfl) ?_ | refine .cons .o ?_ | refine .cons gok_and ?_)) rfl rfl rfl rfl rfl (fun hcond => (rules_2 _)) (lexj_x (I := inf) (J := jnf) 99 rfl rfl (by repeat (first | exact obs_nil | refine obs_same ?_ | refine obs_and ?_ | refine obs_by (by (simp [inB] <;> omega)) ?_)) lexj_nil))))) ?_
      refine runS_x (I := inf) (J := jnf) ⟨false, false, [], 0, 0⟩ 9999 rfl (by repeat (first | exact obs_nil | refine obs_draw (by kernel_rfl) ?_ | refine obs_same ?_ | refine obs_and ?_ | refine obs_by (by (simp [inB] <;> omega)) ?_)) ?_
      refine runS_ret (I := inf) 0 rfl (Nat.le_refl _) rfl .nil rfl ⟨?_, rfl⟩
      rfl
    · refine callS_body (n := 20) rfl rfl fun w ρ X => ?_
      refine runS_x (I := inf) (J := jnf) ⟨false, false, [], 0, 0⟩ 9999 rfl (by repeat (first | exact obs_nil | refine obs_draw (by kernel_rfl) ?_ | refine obs_same ?_ | refine obs_and ?_ | refine obs_by (by (simp [inB] <;> omega)) ?_)) ?_
      refine runS_call rfl rfl rfl rfl rfl rfl rfl d_rules ?_
      refine runS_x (I := inf) (J := jnf) ⟨false, false, [], 0, 0⟩ 9999 rfl (by repeat (first | exact obs_nil | refine obs_draw (by kernel_rfl) ?_ | refine obs_same ?_ | refine obs_and ?_ | refine obs_by (by (simp [inB] <;> omega)) ?_)) ?_
      refine runS_draw 15 (by kernel_rfl) (lexj_x (I := inf) (J := jnf) 99 rfl rfl (by repeat (first | exact obs_nil | refine obs_same ?_ | refine obs_and ?_ | refine obs_by (by (simp [inB] <;> omega)) ?_)) (lexj_call rfl rfl rfl rfl rfl rfl rfl rfl (d_within _ _ _) (lexj_x (I := inf) (J := jnf) 99 rfl rfl (by repeat (first | exact obs_nil | refine obs_same ?_ | refine obs_and ?_ | refine obs_by (by (simp [inB] <;> omega)) ?_)) (lexj_callU rfl rfl (by first | exact .v rfl rfl rfl rfl | exact .o rfl rfl rfl rfl) rfl rfl (by repeat (first | exact .nil | refine .cons (.n rfl) ?_ | refine .cons .o ?_ | refine .cons gok_and ?_)) rfl rfl rfl rfl rfl (fun hcond => (rules_4 _)) (lexj_x (I := inf) (J := jnf) 99 rfl rfl (by repeat (first | exact obs_nil | refine obs_same ?_ | refine obs_and ?_ | refine obs_by (by (simp [inB] <;> omega)) ?_)) lexj_nil))))) ?_
      refine runS_x (I := inf) (J := jnf) ⟨false, false, [], 0, 0⟩ 9999 rfl (by repeat (first | exact obs_nil | refine obs_draw (by kernel_rfl) ?_ | refine obs_same ?_ | refine obs_and ?_ | refine obs_by (by (simp [inB] <;> omega)) ?_)) ?_
      refine runS_ret (I := inf) 0 rfl (Nat.le_refl _) rfl .nil rfl ⟨?_, rfl⟩
      rfl
    · refine callS_body (n := 20) rfl rfl fun w ρ X => ?_
      refine runS_x (I := inf) (J := jnf) ⟨false, false, [], 0, 0⟩ 9999 rfl (by repeat (first | exact obs_nil | refine obs_draw (by kernel_rfl) ?_ | refine obs_same ?_ | refine obs_and ?_ | refine obs_by (by (simp [inB] <;> omega)) ?_)) ?_
      refine runS_call rfl rfl rfl rfl rfl rfl rfl d_rules ?_
      refine runS_x (I := inf) (J := jnf) ⟨false, false, [], 0, 0⟩ 9999 rfl (by repeat (first | exact obs_nil | refine obs_draw (by kernel_rfl) ?_ | refine obs_same ?_ | refine obs_and ?_ | refine obs_by (by (simp [inB] <;> omega)) ?_)) ?_
      refine runS_draw 15 (by kernel_rfl) (lexj_x (I := inf) (J := jnf) 99 rfl rfl (by repeat (first | exact obs_nil | refine obs_same ?_ | refine obs_and ?_ | refine obs_by (by (simp [inB] <;> omega)) ?_)) (lexj_call rfl rfl rfl rfl rfl rfl rfl rfl (d_within _ _ _) (lexj_x (I := inf) (J := jnf) 99 rfl rfl (by repeat (first | exact obs_nil | refine obs_same ?_ | refine obs_and ?_ | refine obs_by (by (simp [inB] <;> omega)) ?_)) (lexj_callU rfl rfl (by first | exact .v rfl rfl rfl rfl | exact .o rfl rfl rfl rfl) rfl rfl (by repeat (first | exact .nil | refine .cons (.n rfl) ?_ | refine .cons .o ?_ | refine .cons gok_and ?_)) rfl rfl rfl rfl rfl (fun hcond => (rules_3 _)) (lexj_x (I := inf) (J := jnf) 99 rfl rfl (by repeat (first | exact obs_nil | refine obs_same ?_ | refine obs_and ?_ | refine obs_by (by (simp [inB] <;> omega)) ?_)) lexj_nil))))) ?_
      refine runS_x (I := inf) (J := jnf) ⟨false, false, [], 0, 0⟩ 9999 rfl (by repeat (first | exact obs_nil | refine obs_draw (by kernel_rfl) ?_ | refine obs_same ?_ | refine obs_and ?_ | refine obs_by (by (simp [inB] <;> omega)) ?_)) ?_
      refine runS_ret (I := inf) 0 rfl (Nat.le_refl _) rfl .nil rfl ⟨?_, rfl⟩
      rfl
    · refine callS_body (n := 20) rfl rfl fun w ρ X => ?_
      refine runS_x (I := inf) (J := jnf) ⟨false, false, [], 0, 0⟩ 9999 rfl (by repeat (first | exact obs_nil | refine obs_draw (by kernel_rfl) ?_ | refine obs_same ?_ | refine obs_and ?_ | refine obs_by (by (simp [inB] <;> omega)) ?_)) ?_
      refine runS_call rfl rfl rfl rfl rfl rfl rfl d_rules ?_
      refine runS_x (I := inf) (J := jnf) ⟨false, false, [], 0, 0⟩ 9999 rfl (by repeat (first | exact obs_nil | refine obs_draw (by kernel_rfl) ?_ | refine obs_same ?_ | refine obs_and ?_ | refine obs_by (by (simp [inB] <;> omega)) ?_)) ?_
      refine runS_draw 15 (by kernel_rfl) (lexj_x (I := inf) (J := jnf) 99 rfl rfl (by repeat (first | exact obs_nil | refine obs_same ?_ | refine obs_and ?_ | refine obs_by (by (simp [inB] <;> omega)) ?_)) (lexj_call rfl rfl rfl rfl rfl rfl rfl rfl (d_within _ _ _) (lexj_x (I := inf) (J := jnf) 99 rfl rfl (by repeat (first | exact obs_nil | refine obs_same ?_ | refine obs_and ?_ | refine obs_by (by (simp [inB] <;> omega)) ?_)) (lexj_callU rfl rfl (by first | exact .v rfl rfl rfl rfl | exact .o rfl rfl rfl rfl) rfl rfl (by repeat (first | exact .nil | refine .cons (.n rfl) ?_ | refine .cons .o ?_ | refine .cons gok_and ?_)) rfl rfl rfl rfl rfl (fun hcond => (rules_3 _)) (lexj_x (I := inf) (J := jnf) 99 rfl rfl (by repeat (first | exact obs_nil | refine obs_same ?_ | refine obs_and ?_ | refine obs_by (by (simp [inB] <;> omega)) ?_)) lexj_nil))))) ?_
      refine runS_x (I := inf) (J := jnf) ⟨false, false, [], 0, 0⟩ 9999 rfl (by repeat (first | exact obs_nil | refine obs_draw (by kernel_rfl) ?_ | refine obs_same ?_ | refine obs_and ?_ | refine obs_by (by (simp [inB] <;> omega)) ?_)) ?_
      refine runS_ret (I := inf) 0 rfl (Nat.le_refl _) rfl .nil rfl ⟨?_, rfl⟩
      rfl
    · refine callS_body (n := 20) rfl rfl fun w ρ X => ?_
      refine runS_x (I := inf) (J := jnf) ⟨false, false, [], 0, 0⟩ 9999 rfl (by repeat (first | exact obs_nil | refine obs_draw (by kernel_rfl) ?_ | refine obs_same ?_ | refine obs_and ?_ | refine obs_by (by (simp [inB] <;> omega)) ?_)) ?_
      refine runS_call rfl rfl rfl rfl rfl rfl rfl d_rules ?_
      refine runS_x (I := inf) (J := jnf) ⟨false, false, [], 0, 0⟩ 9999 rfl (by repeat (first | exact obs_nil | refine obs_draw (by kernel_rfl) ?_ | refine obs_same ?_ | refine obs_and ?_ | refine obs_by (by (simp [inB] <;> omega)) ?_)) ?_
      refine runS_draw 15 (by kernel_rfl) (lexj_x (I := inf) (J := jnf) 99 rfl rfl (by repeat (first | exact obs_nil | refine obs_same ?_ | refine obs_and ?_ | refine obs_by (by (simp [inB] <;> omega)) ?_)) (lexj_call rfl rfl rfl rfl rfl rfl rfl rfl (d_within _ _ _) (lexj_x (I := inf) (J := jnf) 99 rfl rfl (by repeat (first | exact obs_nil | refine obs_same ?_ | refine obs_and ?_ | refine obs_by (by (simp [inB] <;> omega)) ?_)) (lexj_callU rfl rfl (by first | exact .v rfl rfl rfl rfl | exact .o rfl rfl rfl rfl) rfl rfl (by repeat (first | exact .nil | refine .cons (.n rfl) ?_ | refine .cons .o ?_ | refine .cons gok_and ?_)) rfl rfl rfl rfl rfl (fun hcond => (rules_3 _)) (lexj_x (I := inf) (J := jnf) 99 rfl rfl (by repeat (first | exact obs_nil | refine obs_same ?_ | refine obs_and ?_ | refine obs_by (by (simp [inB] <;> omega)) ?_)) lexj_nil))))) ?_
      refine runS_x (I := inf) (J := jnf) ⟨false, false, [], 0, 0⟩ 9999 rfl (by repeat (first | exact obs_nil | refine obs_draw (by kernel_rfl) ?_ | refine obs_same ?_ | refine obs_and ?_ | refine obs_by (by (simp [inB] <;> omega)) ?_)) ?_
      refine runS_ret (I := inf) 0 rfl (Nat.le_refl _) rfl .nil rfl ⟨?_, rfl⟩
      rfl
  · have h0 : validT t = false := by
      cases hv : validT t with
      | false => rfl
      | true => have := valid_kind hv; omega
    rw [h0]
    obtain ⟨k, p, q, n, v, pic⟩ := t
    dsimp only at hk
    have hf : (decide (0 ≤ k) && decide (k ≤ 9)) = false := by
      cases hh : (decide (0 ≤ k) && decide (k ≤ 9)) with
      | false => rfl
      | true => simp at hh; omega
    have habs : ∀ {g : FuncId} {xs : List AV}, condOf none (decide (0 ≤ k) && decide (k ≤ 9)) true = true → CallT Tryz.prog g xs [] (fun o A => o = .ret (bv false) ∧ A = []) := fun h => by rw [hf] at h; cases h
    rcases Int.lt_or_le k 0 with h | h
    · obtain ⟨m, rfl⟩ : ∃ m, k = Int.negSucc m := ⟨(-k - 1).toNat, by omega⟩
      refine callS_body (n := 20) rfl rfl fun w ρ X => ?_
      refine runS_x (I := inf) (J := jnf) ⟨false, false, [], 0, 0⟩ 9999 rfl (by repeat (first | exact obs_nil | refine obs_draw (by kernel_rfl) ?_ | refine obs_same ?_ | refine obs_and ?_ | refine obs_by (by (simp [inB] <;> omega)) ?_)) ?_
      refine runS_call rfl rfl rfl rfl rfl rfl rfl d_rules ?_
      refine runS_x (I := inf) (J := jnf) ⟨false, false, [], 0, 0⟩ 9999 rfl (by repeat (first | exact obs_nil | refine obs_draw (by kernel_rfl) ?_ | refine obs_same ?_ | refine obs_and ?_ | refine obs_by (by (simp [inB] <;> omega)) ?_)) ?_
      refine runS_draw 15 (by kernel_rfl) (lexj_x (I := inf) (J := jnf) 99 rfl rfl (by repeat (first | exact obs_nil | refine obs_same ?_ | refine obs_and ?_ | refine obs_by (by (simp [inB] <;> omega)) ?_)) (lexj_call rfl rfl rfl rfl rfl rfl rfl rfl (d_within _ _ _) (lexj_x (I := inf) (J := jnf) 99 rfl rfl (by repeat (first | exact obs_nil | refine obs_same ?_ | refine obs_and ?_ | refine obs_by (by (simp [inB] <;> omega)) ?_)) (lexj_callU rfl rfl (by first | exact .v rfl rfl rfl rfl | exact .o rfl rfl rfl rfl) rfl rfl (by repeat (first | exact .nil | refine .cons (.n rfl) ?_ | refine .cons .o ?_ | refine .cons gok_and ?_)) rfl rfl rfl rfl rfl (fun hcond => (habs hcond)) (lexj_x (I := inf) (J := jnf) 99 rfl rfl (by repeat (first | exact obs_nil | refine obs_same ?_ | refine obs_and ?_ | refine obs_by (by (simp [inB] <;> omega)) ?_)) lexj_nil))))) ?_
      refine runS_x (I := inf) (J := jnf) ⟨false, false, [], 0, 0⟩ 9999 rfl (by repeat (first | exact obs_nil | refine obs_draw (by kernel_rfl) ?_ | refine obs_same ?_ | refine obs_and ?_ | refine obs_by (by (simp [inB] <;> omega)) ?_)) ?_
      refine runS_ret (I := inf) 0 rfl (Nat.le_refl _) rfl .nil rfl ⟨?_, rfl⟩
      show Out.ret (bv (if _ = true then false else false)) = _
      split <;> rfl
    · obtain ⟨m, rfl⟩ : ∃ m : Nat, k = ((m + 10 : Nat) : Int) := ⟨(k - 10).toNat, by omega⟩
      refine callS_body (n := 20) rfl rfl fun w ρ X => ?_
      refine runS_x (I := inf) (J := jnf) ⟨false, false, [], 0, 0⟩ 9999 rfl (by repeat (first | exact obs_nil | refine obs_draw (by kernel_rfl) ?_ | refine obs_same ?_ | refine obs_and ?_ | refine obs_by (by (simp [inB] <;> omega)) ?_)) ?_
      refine runS_call rfl rfl rfl rfl rfl rfl rfl d_rules ?_
      refine runS_x (I := inf) (J := jnf) ⟨false, false, [], 0, 0⟩ 9999 rfl (by repeat (first | exact obs_nil | refine obs_draw (by kernel_rfl) ?_ | refine obs_same ?_ | refine obs_and ?_ | refine obs_by (by (simp [inB] <;> omega)) ?_)) ?_
      refine runS_draw 15 (by kernel_rfl) (lexj_x (I := inf) (J := jnf) 99 rfl rfl (by repeat (first | exact obs_nil | refine obs_same ?_ | refine obs_and ?_ | refine obs_by (by (simp [inB] <;> omega)) ?_)) (lexj_call rfl rfl rfl rfl rfl rfl rfl rfl (d_within _ _ _) (lexj_x (I := inf) (J := jnf) 99 rfl rfl (by repeat (first | exact obs_nil | refine obs_same ?_ | refine obs_and ?_ | refine obs_by (by (simp [inB] <;> omega)) ?_)) (lexj_callU rfl rfl (by first | exact .v rfl rfl rfl rfl | exact .o rfl rfl rfl rfl) rfl rfl (by repeat (first | exact .nil | refine .cons (.n rfl) ?_ | refine .cons .o ?_ | refine .cons gok_and ?_)) rfl rfl rfl rfl rfl (fun hcond => (habs hcond)) (lexj_x (I := inf) (J := jnf) 99 rfl rfl (by repeat (first | exact obs_nil | refine obs_same ?_ | refine obs_and ?_ | refine obs_by (by (simp [inB] <;> omega)) ?_)) lexj_nil))))) ?_
      refine runS_x (I := inf) (J := jnf) ⟨false, false, [], 0, 0⟩ 9999 rfl (by repeat (first | exact obs_nil | refine obs_draw (by kernel_rfl) ?_ | refine obs_same ?_ | refine obs_and ?_ | refine obs_by (by (simp [inB] <;> omega)) ?_)) ?_
      refine runS_ret (I := inf) 0 rfl (Nat.le_refl _) rfl .nil rfl ⟨?_, rfl⟩
      show Out.ret (bv (if _ = true then false else false)) = _
      split <;> rfl
end Go.Iron.Tryz

/- The digits' seat: an exact number fitted to a fixed type. -/
namespace Go.Iron.Tryz
open Go.Proofs Go.RowKit Go.Iron.Tok Go.Iron.Dg

theorem and_mod (x P : Nat) (hx : x < 9223372036854775808) (hP : P ≤ 40) : IntKind.wrap .i64 (((BitVec.ofInt 64 (x : Int) &&& BitVec.ofInt 64 ((2 ^ P - 1 : Nat) : Int)).toNat : Nat) : Int) = ((x % 2 ^ P : Nat) : Int) := by
  have h2 : 2 ^ P ≤ 2 ^ 40 := Nat.pow_le_pow_right (by decide) hP
  have h3 : (2 : Nat) ^ 40 = 1099511627776 := by decide
  have hp : 0 < 2 ^ P := Nat.pow_pos (by decide)
  have hm := Nat.mod_lt x hp
  rw [BitVec.toNat_and, BitVec.ofInt_natCast, BitVec.ofInt_natCast, BitVec.toNat_ofNat, BitVec.toNat_ofNat, Nat.mod_eq_of_lt (by omega), Nat.mod_eq_of_lt (by omega), Nat.and_two_pow_sub_one_eq_mod, w64 (by omega) (by omega)]
theorem d_fixed (L : Lg) (t : Typ) (P Q : Nat) (hk : t.kind = 1 ∧ P ≤ 31 ∨ t.kind = 2 ∧ P ≤ 15) (hP : t.p = P) (hQ : t.q = Q) (hQ2 : Q ≤ 31) (hL : Fits L 1500 1000) : CallT Tryz.prog 176 [lgA L, .agg (typE t)] [] (fun o A => o = .ret (.tup [iv (sgn L.neg (mFix t.kind L.m Q L.exp % bsN t.kind ^ P)), bv (decide (mFix t.kind L.m Q L.exp ≥ bsN t.kind ^ P))]) ∧ A = []) := by
  obtain ⟨kd, p, q, n, vy, pc⟩ := t
  dsimp only at hk hP hQ ⊢
  subst hP; subst hQ
  obtain ⟨hl, he1, he2⟩ := hL
  obtain ⟨ng, hng⟩ : ∃ ng, L.neg = ng := ⟨_, rfl⟩
  rcases hk with ⟨rfl, hP⟩ | ⟨rfl, hP⟩
  · have hl2 : (frm (2 ^ Q)).length ≤ 32 := frm_len_lt.2 (Nat.lt_of_le_of_lt (Nat.pow_le_pow_left (by decide : 2 ≤ 10) Q) (Nat.pow_lt_pow_right (by decide) (by omega)))
    have hp := d_power 2 Q (by decide) (by omega)
    have ht := d_times none none L.m (2 ^ Q) (by omega) (by omega)
    have hml := frm_len_mul L.m (2 ^ Q)
    refine callS_body (n := 78) rfl rfl fun w ρ X => ?_
    refine runS_x (I := inf) (J := jnf) ⟨false, false, [], 0, 0⟩ 9999 rfl (by repeat (first | exact obs_nil | refine obs_draw (by kernel_rfl) ?_ | refine obs_same ?_ | refine obs_and ?_ | refine obs_by (by (simp [inB] <;> omega)) ?_)) ?_
    refine runS_cond rfl (fun h => ?_) (fun h => by cases h)
    refine runS_x (I := inf) (J := jnf) ⟨false, false, [], 0, 0⟩ 9999 rfl (by repeat (first | exact obs_nil | refine obs_draw (by kernel_rfl) ?_ | refine obs_same ?_ | refine obs_and ?_ | refine obs_by (by (simp [inB] <;> omega)) ?_)) ?_
    refine runS_call rfl rfl rfl rfl rfl rfl rfl hp ?_
    refine runS_x (I := inf) (J := jnf) ⟨false, false, [], 0, 0⟩ 9999 rfl (by repeat (first | exact obs_nil | refine obs_draw (by kernel_rfl) ?_ | refine obs_same ?_ | refine obs_and ?_ | refine obs_by (by (simp [inB] <;> omega)) ?_)) ?_
    refine runS_call rfl rfl rfl rfl rfl rfl rfl ht ?_
    refine runS_x (I := inf) (J := jnf) ⟨false, false, [], 0, 0⟩ 9999 rfl (by repeat (first | exact obs_nil | refine obs_draw (by kernel_rfl) ?_ | refine obs_same ?_ | refine obs_and ?_ | refine obs_by (by (simp [inB] <;> omega)) ?_)) ?_
    refine runS_cond rfl (fun h => by cases h) (fun h => ?_)
    refine runS_x (I := inf) (J := jnf) ⟨false, false, [], 0, 0⟩ 9999 rfl (by repeat (first | exact obs_nil | refine obs_draw (by kernel_rfl) ?_ | refine obs_same ?_ | refine obs_and ?_ | refine obs_by (by (simp [inB] <;> omega)) ?_)) ?_
    refine runS_cut (fun τ ar => (τ 2 = .ptr 0 0 0 ∧ τ 3 = .ptr 1 0 0 ∧ τ 4 = .ptr 2 0 0 ∧ τ 5 = bv false ∧ τ 6 = limS none (frm (mFix 1 L.m Q L.exp))) ∧ ar = [.box 74 [limS none (frm L.m), bv ng, iv L.exp], .box 25 (typE ⟨1, P, Q, n, vy, pc⟩), .box 3 [iv 0]]) (fun rest => ?_) ?_
    · refine runS_cond rfl (fun h3 => ?_) (fun h3 => ?_)
      · have hlt : L.exp < 0 := of_decide_eq_true h3
        have hE : mFix 1 L.m Q L.exp = L.m * 2 ^ Q / 10 ^ (-L.exp).toNat := by unfold mFix; rw [if_pos rfl, if_pos hlt]
        have hc := d_cut none (L.m * 2 ^ Q) (-L.exp).toNat (by omega) (by omega)
        rw [show (((-L.exp).toNat : Nat) : Int) = IntKind.wrap .i64 (0 - L.exp) by rw [w64 (by omega) (by omega)]; omega] at hc
        rw [← hE] at hc
        refine runS_x (I := inf) (J := jnf) ⟨false, false, [], 2, 0⟩ 9999 rfl (by repeat (first | exact obs_nil | refine obs_draw (by kernel_rfl) ?_ | refine obs_same ?_ | refine obs_and ?_ | refine obs_by (by (simp [inB] <;> omega)) ?_)) ?_
        refine runS_call rfl rfl rfl rfl rfl rfl rfl hc ?_
        refine runS_x (I := inf) (J := jnf) ⟨false, false, [], 2, 0⟩ 9999 rfl (by repeat (first | exact obs_nil | refine obs_draw (by kernel_rfl) ?_ | refine obs_same ?_ | refine obs_and ?_ | refine obs_by (by (simp [inB] <;> omega)) ?_)) ?_
        exact rest _ _ ⟨⟨rfl, rfl, rfl, rfl, rfl⟩, by rw [← hng]⟩
      · have hlt : ¬ L.exp < 0 := of_decide_eq_false h3
        have hE : mFix 1 L.m Q L.exp = L.m * 2 ^ Q * 10 ^ L.exp.toNat := by unfold mFix; rw [if_pos rfl, if_neg hlt]
        have hc := d_up none (L.m * 2 ^ Q) L.exp.toNat (by omega) (by omega)
        rw [show ((L.exp.toNat : Nat) : Int) = L.exp by omega] at hc
        rw [← hE] at hc
        refine runS_x (I := inf) (J := jnf) ⟨false, false, [], 2, 0⟩ 9999 rfl (by repeat (first | exact obs_nil | refine obs_draw (by kernel_rfl) ?_ | refine obs_same ?_ | refine obs_and ?_ | refine obs_by (by (simp [inB] <;> omega)) ?_)) ?_
        refine runS_call rfl rfl rfl rfl rfl rfl rfl hc ?_
        refine runS_x (I := inf) (J := jnf) ⟨false, false, [], 2, 0⟩ 9999 rfl (by repeat (first | exact obs_nil | refine obs_draw (by kernel_rfl) ?_ | refine obs_same ?_ | refine obs_and ?_ | refine obs_by (by (simp [inB] <;> omega)) ?_)) ?_
        exact rest _ _ ⟨⟨rfl, rfl, rfl, rfl, rfl⟩, by rw [← hng]⟩
    rintro τ2 ar2 ⟨⟨g2, g3, g4, g5, g6⟩, rfl⟩
    have hml2 : (frm (mFix 1 L.m Q L.exp)).length ≤ 4000 := by
      unfold mFix
      rw [if_pos rfl]
      split
      · exact Nat.le_trans (frm_len_mono (Nat.div_le_self _ _)) (by omega)
      · have := frm_len_up (L.m * 2 ^ Q) L.exp.toNat
        omega
    have hpl : (frm (2 ^ P)).length ≤ 32 := frm_len_lt.2 (Nat.lt_of_le_of_lt (Nat.pow_le_pow_left (by decide : 2 ≤ 10) P) (Nat.pow_lt_pow_right (by decide) (by omega)))
    generalize mFix 1 L.m Q L.exp = M at *
    have hvM := val_frm M
    have hdM := fun d (hd : d ∈ frm M) => frm_digit hd
    have hpp := d_power 2 P (by decide) (by omega)
    have hcp := d_compare none none M (2 ^ P) (by omega) (by omega)
    have hcm := cmpR_frm M (2 ^ P)
    have hlarge : decide (cmpR (frm M) (frm (2 ^ P)) ≥ 0) = decide (M ≥ bsN 1 ^ P) := by
      rw [Bool.eq_iff_iff, decide_eq_true_iff, decide_eq_true_iff]
      show _ ↔ M ≥ 2 ^ P
      omega
    have hp40 : 2 ^ P ≤ 2 ^ 31 := Nat.pow_le_pow_right (by decide) hP
    have hp31 : (2 : Nat) ^ 31 = 2147483648 := by decide
    have hpos : 0 < 2 ^ P := Nat.pow_pos (by decide)
    refine runS_says 2 (by exact g2) (Says.refl _) ?_; refine runS_says 3 (by exact g3) (Says.refl _) ?_; refine runS_says 4 (by exact g4) (Says.refl _) ?_; refine runS_says 5 (by exact g5) (Says.refl _) ?_; refine runS_says 6 (by exact g6) (Says.refl _) ?_
    refine runS_x (I := inf) (J := jnf) ⟨false, false, [], 0, 0⟩ 9999 rfl (by repeat (first | exact obs_nil | refine obs_draw (by kernel_rfl) ?_ | refine obs_same ?_ | refine obs_and ?_ | refine obs_by (by (simp [inB] <;> omega)) ?_)) ?_
    refine runS_cond rfl (fun h => by cases h) (fun h => ?_)
    refine runS_x (I := inf) (J := jnf) ⟨false, false, [], 0, 0⟩ 9999 rfl (by repeat (first | exact obs_nil | refine obs_draw (by kernel_rfl) ?_ | refine obs_same ?_ | refine obs_and ?_ | refine obs_by (by (simp [inB] <;> omega)) ?_)) ?_
    refine runS_call rfl rfl rfl rfl rfl rfl rfl hpp ?_
    refine runS_x (I := inf) (J := jnf) ⟨false, false, [], 0, 0⟩ 9999 rfl (by repeat (first | exact obs_nil | refine obs_draw (by kernel_rfl) ?_ | refine obs_same ?_ | refine obs_and ?_ | refine obs_by (by (simp [inB] <;> omega)) ?_)) ?_
    refine runS_call rfl rfl rfl rfl rfl rfl rfl hcp ?_
    generalize hAe : frm M = A at *
    have hw0 : IntKind.wrap .i64 ((A.length : Int) - 1) = (A.length : Int) - 1 := w64 (by omega) (by omega)
    refine runS_x (I := inf) (J := jnf) ⟨false, false, [117, 186], 0, 0⟩ 9999 rfl (by repeat (first | exact obs_nil | refine obs_draw (by kernel_rfl) ?_ | refine obs_same ?_ | refine obs_and ?_ | refine obs_by (by (simp [inB] <;> omega)) ?_)) ?_
    refine runS_forget 6 rfl ?_; refine runS_forgetLoop 6 5 rfl rfl ?_
    refine runS_name 5 rfl (fun L => rfl) (fun Lo hL => ?_)
    refine runS_while (fun (i : Nat) τ ar => (τ 0 = .yld 5 ∧ τ 1 = .ptr 3 0 0 ∧ τ 3 = iv ((i : Int) - 1)) ∧ ar = [.box 74 [limS none (frm L.m), bv ng, iv L.exp], .box 25 (typE ⟨1, P, Q, n, vy, pc⟩), .box 3 [iv (val (A.drop i) % 2 ^ P : Nat)], .box 72 [limS none A], .dfr true, Lo] ∧ i ≤ A.length) (fun i => i) A.length ⟨⟨rfl, rfl, congrArg iv hw0⟩, by rw [List.drop_length, show val [] % 2 ^ P = 0 from Nat.zero_mod _]; rfl, Nat.le_refl _⟩ ?_
    rintro i τ' ar' ⟨⟨g0, g1, g3⟩, rfl, hi⟩ ih
    subst hL
    refine runS_says 0 (by exact g0) (Says.refl _) ?_; refine runS_says 1 (by exact g1) (Says.refl _) ?_; refine runS_says 3 (by exact g3) (Says.refl _) ?_
    refine runS_x (I := inf) (J := jnf) ⟨false, false, [], 0, 0⟩ 9999 rfl (by repeat (first | exact obs_nil | refine obs_draw (by kernel_rfl) ?_ | refine obs_same ?_ | refine obs_and ?_ | refine obs_by (by (simp [inB] <;> omega)) ?_)) ?_
    refine runS_cond rfl (fun h => ?_) (fun h => ?_)
    · have hi0 : 0 < i := by
        have : decide ((i : Int) - 1 ≥ 0) = true := h
        simp at this
        omega
      obtain ⟨k, rfl⟩ : ∃ k, i = k + 1 := ⟨i - 1, by omega⟩
      have hk : k < A.length := by omega
      have e1 : (((k + 1 : Nat) : Int) - 1) = (k : Int) := by omega
      rw [e1] at g3 ⊢
      have hwk : IntKind.wrap .i64 ((k : Int) - 1) = (k : Int) - 1 := w64 (by omega) (by omega)
      have hv := val_drop A k
      have hd9 := getD_lt hdM k
      have hvb := Nat.mod_lt (val (A.drop (k + 1))) hpos
      have hstep : val (A.drop k) % 2 ^ P = (val (A.drop (k + 1)) % 2 ^ P * 10 + A.getD k 0) % 2 ^ P := by
        rw [hv, Nat.add_comm, Nat.mul_comm 10, Nat.add_mod, Nat.mul_mod]
        conv => rhs; rw [Nat.add_mod, Nat.mul_mod, Nat.mod_mod]
      generalize val (A.drop (k + 1)) % 2 ^ P = v at *
      have hx : IntKind.wrap .i64 (IntKind.wrap .i64 ((v : Int) * 10) + IntKind.wrap .i64 ((A.getD k 0 : Nat) : Int)) = ((v * 10 + A.getD k 0 : Nat) : Int) := by
        rw [w64 (x := (v : Int) * 10) (by omega) (by omega), w64 (x := ((A.getD k 0 : Nat) : Int)) (by omega) (by omega), w64 (by omega) (by omega)]
        omega
      have hy : IntKind.wrap .i64 (IntKind.wrap .i64 (1 * 2 ^ (min ((P : Int)).toNat 64)) - 1) = ((2 ^ P - 1 : Nat) : Int) := by
        rw [Int.toNat_natCast, Nat.min_eq_left (by omega), Int.one_mul]
        have e : (2 : Int) ^ P = ((2 ^ P : Nat) : Int) := by rw [Int.natCast_pow]; rfl
        rw [e, w64 (x := ((2 ^ P : Nat) : Int)) (by omega) (by omega), w64 (by omega) (by omega)]
        omega
      have hev : IntKind.wrap .i64 (((BitVec.ofInt 64 (IntKind.wrap .i64 (IntKind.wrap .i64 ((v : Int) * 10) + IntKind.wrap .i64 ((A.getD k 0 : Nat) : Int))) &&& BitVec.ofInt 64 (IntKind.wrap .i64 (IntKind.wrap .i64 (1 * 2 ^ (min ((P : Int)).toNat 64)) - 1))).toNat : Nat) : Int) = ((val (A.drop k) % 2 ^ P : Nat) : Int) := by
        rw [hx, hy, hstep]
        exact and_mod _ _ (by omega) (by omega)
      refine runS_x (I := inf) (J := jnf) ⟨true, false, [], 0, 0⟩ 9999 rfl (by repeat (first | exact obs_nil | refine obs_draw (by kernel_rfl) ?_ | refine obs_same ?_ | refine obs_and ?_ | refine obs_by (by (simp [inB, hk] <;> omega)) ?_)) ?_
      refine runS_drop 6 (Nat.zero_le _) rfl (by repeat (first | exact .nil | refine .row (fun j hj => rfl) ?_ | refine .box rfl ?_ | refine .fam (fun k j hk hj => rfl) ?_ | refine .loop (scrub_under _ _) ?_ | refine .dfr ?_ | refine .gone ?_ | refine .map (fun p hp => by (obtain ⟨k, _, rfl⟩ := List.mem_map.1 hp; rfl)) ?_)) rfl rfl rfl (by repeat (first | exact .nil | refine .cons rfl rfl rfl (scrub_under _ _) ?_)) ?_
      exact ih k _ _ (by omega) ⟨⟨rfl, rfl, congrArg iv hwk⟩, by rw [← hev]; rfl, by omega⟩
    · have hi0 : i = 0 := by
        have : decide ((i : Int) - 1 ≥ 0) = false := h
        simp at this
        omega
      subst hi0
      rw [List.drop_zero, hvM, hng]
      have hmr := Nat.mod_lt M hpos
      cases ng
      · refine runS_x (I := inf) (J := jnf) ⟨true, false, [], 0, 0⟩ 9999 rfl (by repeat (first | exact obs_nil | refine obs_draw (by kernel_rfl) ?_ | refine obs_same ?_ | refine obs_and ?_ | refine obs_by (by (simp [inB] <;> omega)) ?_)) ?_
        refine runS_ret (I := inf) 0 rfl (Nat.le_refl _) rfl .nil rfl ⟨?_, rfl⟩
        rw [← hlarge]
        rfl
      · refine runS_x (I := inf) (J := jnf) ⟨true, false, [], 0, 0⟩ 9999 rfl (by repeat (first | exact obs_nil | refine obs_draw (by kernel_rfl) ?_ | refine obs_same ?_ | refine obs_and ?_ | refine obs_by (by (simp [inB] <;> omega)) ?_)) ?_
        refine runS_ret (I := inf) 0 rfl (Nat.le_refl _) rfl .nil rfl ⟨?_, rfl⟩
        rw [← hlarge]
        show Out.ret (.tup [iv (IntKind.wrap .i64 (0 - ((M % 2 ^ P : Nat) : Int))), bv _]) = _
        rw [w64 (by omega) (by omega), Int.zero_sub]
        rfl
  · have hsw : IntKind.wrap .i64 (L.exp + (Q : Int)) = L.exp + Q := w64 (by omega) (by omega)
    refine callS_body (n := 78) rfl rfl fun w ρ X => ?_
    refine runS_x (I := inf) (J := jnf) ⟨false, false, [], 0, 0⟩ 9999 rfl (by repeat (first | exact obs_nil | refine obs_draw (by kernel_rfl) ?_ | refine obs_same ?_ | refine obs_and ?_ | refine obs_by (by (simp [inB] <;> omega)) ?_)) ?_
    refine runS_cond rfl (fun h => by cases h) (fun h => ?_)
    refine runS_x (I := inf) (J := jnf) ⟨false, false, [], 0, 0⟩ 9999 rfl (by repeat (first | exact obs_nil | refine obs_draw (by kernel_rfl) ?_ | refine obs_same ?_ | refine obs_and ?_ | refine obs_by (by (simp [inB] <;> omega)) ?_)) ?_
    refine runS_cond rfl (fun h => ?_) (fun h => by cases h)
    refine runS_x (I := inf) (J := jnf) ⟨false, false, [], 0, 0⟩ 9999 rfl (by repeat (first | exact obs_nil | refine obs_draw (by kernel_rfl) ?_ | refine obs_same ?_ | refine obs_and ?_ | refine obs_by (by (simp [inB] <;> omega)) ?_)) ?_
    refine runS_cut (fun τ ar => (τ 2 = .ptr 0 0 0 ∧ τ 3 = .ptr 1 0 0 ∧ τ 4 = .ptr 2 0 0 ∧ τ 5 = bv false ∧ τ 6 = limS none (frm (mFix 2 L.m Q L.exp))) ∧ ar = [.box 74 [limS none (frm L.m), bv ng, iv L.exp], .box 25 (typE ⟨2, P, Q, n, vy, pc⟩), .box 3 [iv 0]]) (fun rest => ?_) ?_
    · refine runS_cond rfl (fun h3 => ?_) (fun h3 => ?_)
      · have hlt : L.exp + Q < 0 := by
          have := of_decide_eq_true h3
          rw [hsw] at this
          exact this
        have hE : mFix 2 L.m Q L.exp = L.m / 10 ^ (-(L.exp + Q)).toNat := by unfold mFix; rw [if_neg (by decide), if_pos hlt]
        have hc := d_cut none L.m (-(L.exp + Q)).toNat (by omega) (by omega)
        rw [show (((-(L.exp + Q)).toNat : Nat) : Int) = IntKind.wrap .i64 (0 - IntKind.wrap .i64 (L.exp + (Q : Int))) by rw [hsw, w64 (by omega) (by omega)]; omega, ← hE] at hc
        refine runS_x (I := inf) (J := jnf) ⟨false, false, [], 2, 0⟩ 9999 rfl (by repeat (first | exact obs_nil | refine obs_draw (by kernel_rfl) ?_ | refine obs_same ?_ | refine obs_and ?_ | refine obs_by (by (simp [inB] <;> omega)) ?_)) ?_
        refine runS_call rfl rfl rfl rfl rfl rfl rfl hc ?_
        refine runS_x (I := inf) (J := jnf) ⟨false, false, [], 2, 0⟩ 9999 rfl (by repeat (first | exact obs_nil | refine obs_draw (by kernel_rfl) ?_ | refine obs_same ?_ | refine obs_and ?_ | refine obs_by (by (simp [inB] <;> omega)) ?_)) ?_
        exact rest _ _ ⟨⟨rfl, rfl, rfl, rfl, rfl⟩, by rw [← hng]⟩
      · have hlt : ¬ L.exp + Q < 0 := by
          have := of_decide_eq_false h3
          rw [hsw] at this
          exact this
        have hE : mFix 2 L.m Q L.exp = L.m * 10 ^ (L.exp + Q).toNat := by unfold mFix; rw [if_neg (by decide), if_neg hlt]
        have hc := d_up none L.m (L.exp + Q).toNat (by omega) (by omega)
        rw [show (((L.exp + Q).toNat : Nat) : Int) = IntKind.wrap .i64 (L.exp + (Q : Int)) by rw [hsw]; omega, ← hE] at hc
        refine runS_x (I := inf) (J := jnf) ⟨false, false, [], 2, 0⟩ 9999 rfl (by repeat (first | exact obs_nil | refine obs_draw (by kernel_rfl) ?_ | refine obs_same ?_ | refine obs_and ?_ | refine obs_by (by (simp [inB] <;> omega)) ?_)) ?_
        refine runS_call rfl rfl rfl rfl rfl rfl rfl hc ?_
        refine runS_x (I := inf) (J := jnf) ⟨false, false, [], 2, 0⟩ 9999 rfl (by repeat (first | exact obs_nil | refine obs_draw (by kernel_rfl) ?_ | refine obs_same ?_ | refine obs_and ?_ | refine obs_by (by (simp [inB] <;> omega)) ?_)) ?_
        exact rest _ _ ⟨⟨rfl, rfl, rfl, rfl, rfl⟩, by rw [← hng]⟩
    rintro τ2 ar2 ⟨⟨g2, g3, g4, g5, g6⟩, rfl⟩
    have hml2 : (frm (mFix 2 L.m Q L.exp)).length ≤ 4000 := by
      unfold mFix
      rw [if_neg (by decide)]
      split
      · exact Nat.le_trans (frm_len_mono (Nat.div_le_self _ _)) (by omega)
      · have := frm_len_up L.m (L.exp + Q).toNat
        omega
    generalize mFix 2 L.m Q L.exp = M at *
    have hlow := frm_low P M
    have hlt2 := frm_len_lt (n := M) (k := P)
    have hpos : 0 < 10 ^ P := Nat.pow_pos (by decide)
    have hmr := Nat.mod_lt M hpos
    have hp15 : 10 ^ P ≤ 10 ^ 15 := Nat.pow_le_pow_right (by decide) hP
    have hp15' : (10 : Nat) ^ 15 = 1000000000000000 := by decide
    have hdM := fun d (hd : d ∈ frm M) => frm_digit hd
    have hlarge : decide (((frm M).length : Int) > (P : Int)) = decide (M ≥ bsN 2 ^ P) := by
      rw [Bool.eq_iff_iff, decide_eq_true_iff, decide_eq_true_iff]
      show _ ↔ M ≥ 10 ^ P
      omega
    generalize hAe : frm M = A at *
    have hmn : (if (P : Int) < (A.length : Int) then (P : Int) else (A.length : Int)) = ((min P A.length : Nat) : Int) := by split <;> omega
    have htl : (A.take P).length = min P A.length := List.length_take
    refine runS_says 2 (by exact g2) (Says.refl _) ?_; refine runS_says 3 (by exact g3) (Says.refl _) ?_; refine runS_says 4 (by exact g4) (Says.refl _) ?_; refine runS_says 5 (by exact g5) (Says.refl _) ?_; refine runS_says 6 (by exact g6) (Says.refl _) ?_
    refine runS_x (I := inf) (J := jnf) ⟨false, false, [], 0, 0⟩ 9999 rfl (by repeat (first | exact obs_nil | refine obs_draw (by kernel_rfl) ?_ | refine obs_same ?_ | refine obs_and ?_ | refine obs_by (by (simp [inB] <;> omega)) ?_)) ?_
    refine runS_cond rfl (fun h => ?_) (fun h => by cases h)
    refine runS_x (I := inf) (J := jnf) ⟨false, false, [], 0, 0⟩ 9999 rfl (by repeat (first | exact obs_nil | refine obs_draw (by kernel_rfl) ?_ | refine obs_same ?_ | refine obs_and ?_ | refine obs_by (by (simp [inB, hmn] <;> omega)) ?_)) ?_
    refine runS_says 51 (y := limS none (A.take P)) rfl (fun w O ρ v h => says_nl w O ρ v (says_slc (by rw [htl, hmn]; simp) (fun i hi => ?_) w O ρ v h)) ?_
    · refine Eq.trans (limR_take (Nat.lt_of_lt_of_le hi ?_)) (congrArg (limR A) (Nat.zero_add i).symm)
      show ((if (P : Int) < (A.length : Int) then (P : Int) else (A.length : Int)) - 0).toNat ≤ P
      rw [hmn]
      omega
    refine runS_call rfl rfl rfl rfl rfl rfl rfl (d_numL none (A.take P) (by omega) (fun d hd => hdM d (List.mem_of_mem_take hd))) ?_
    rw [hlow, hng]
    refine runS_x (I := inf) (J := jnf) ⟨false, false, [], 0, 0⟩ 9999 rfl (by repeat (first | exact obs_nil | refine obs_draw (by kernel_rfl) ?_ | refine obs_same ?_ | refine obs_and ?_ | refine obs_by (by (simp [inB] <;> omega)) ?_)) ?_
    cases ng
    · refine runS_x (I := inf) (J := jnf) ⟨true, false, [], 0, 0⟩ 9999 rfl (by repeat (first | exact obs_nil | refine obs_draw (by kernel_rfl) ?_ | refine obs_same ?_ | refine obs_and ?_ | refine obs_by (by (simp [inB] <;> omega)) ?_)) ?_
      refine runS_ret (I := inf) 0 rfl (Nat.le_refl _) rfl .nil rfl ⟨?_, rfl⟩
      rw [← hlarge]
      rfl
    · refine runS_x (I := inf) (J := jnf) ⟨true, false, [], 0, 0⟩ 9999 rfl (by repeat (first | exact obs_nil | refine obs_draw (by kernel_rfl) ?_ | refine obs_same ?_ | refine obs_and ?_ | refine obs_by (by (simp [inB] <;> omega)) ?_)) ?_
      refine runS_ret (I := inf) 0 rfl (Nat.le_refl _) rfl .nil rfl ⟨?_, rfl⟩
      rw [← hlarge]
      show Out.ret (.tup [iv (IntKind.wrap .i64 (0 - ((M % 10 ^ P : Nat) : Int))), bv _]) = _
      rw [w64 (by omega) (by omega), Int.zero_sub]
      rfl
end Go.Iron.Tryz

/- The digits' seat: an exact number fitted to a float, and to any type of numbers. -/
namespace Go.Iron.Tryz
open Go.Proofs Go.RowKit Go.Iron.Tok Go.Iron.Dg

theorem frm_getD (m j : Nat) : (frm m).getD j 0 = m / 10 ^ j % 10 := by
  have h := frm_cut j m
  have h2 : (frm m).getD j 0 = ((frm m).drop j).getD 0 0 := by simp [List.getD_eq_getElem?_getD]
  rw [h2, h]
  by_cases h0 : m / 10 ^ j = 0
  · rw [h0, frm_zero]; rfl
  · rw [frm_pos h0]; rfl
abbrev numA (kd : Int) (r : Int × Int × Int) : AV := .tup [.agg [iv kd, iv r.1, iv r.2.1, sv []], iv r.2.2]
theorem d_float (L : Lg) (p : Nat) (hp : p ≤ 15) (hp0 : 1 ≤ p) (hL : Fits L 1500 1000) : CallT Tryz.prog 175 [lgA L, iv p] [] (fun o A => o = .ret (numA 3 (fltO L.neg (fltL L.m L.exp p))) ∧ A = []) := by
  obtain ⟨hl, he1, he2⟩ := hL
  obtain ⟨ng, hng⟩ : ∃ ng, L.neg = ng := ⟨_, rfl⟩
  have hfl : ∃ m1 e1, normD m1 e1 = fltL L.m L.exp p ∧ m1 ≤ 1000000000000000 ∧ -1000 ≤ e1 ∧ e1 ≤ 3000 ∧ (if (frm L.m).length > p then m1 = rndD (L.m / 10 ^ ((frm L.m).length - p - 1)) ∧ e1 = L.exp + ((frm L.m).length - p : Nat) else m1 = L.m ∧ e1 = L.exp) := by
    unfold fltL
    have h15 : 10 ^ p ≤ 10 ^ 15 := Nat.pow_le_pow_right (by decide) hp
    have h15' : (10 : Nat) ^ 15 = 1000000000000000 := by decide
    by_cases hc : (frm L.m).length > p
    · rw [if_pos hc]
      refine ⟨_, _, rfl, ?_, by omega, by omega, by rw [if_pos hc]; exact ⟨rfl, rfl⟩⟩
      have h1 : L.m / 10 ^ ((frm L.m).length - p - 1) < 10 ^ (p + 1) := by
        rw [Nat.div_lt_iff_lt_mul (Nat.pow_pos (by decide)), ← Nat.pow_add]
        have := frm_lt_pow L.m
        rw [show p + 1 + ((frm L.m).length - p - 1) = (frm L.m).length by omega]
        exact this
      unfold rndD
      rw [Nat.pow_succ] at h1
      split <;> omega
    · rw [if_neg hc]
      refine ⟨_, _, rfl, ?_, by omega, by omega, by rw [if_neg hc]; exact ⟨rfl, rfl⟩⟩
      have := frm_len_lt.1 (show (frm L.m).length ≤ p by omega)
      omega
  obtain ⟨m1, e1, hfn, hm1, hb1, hb2, hcase⟩ := hfl
  rw [← hfn, hng]
  have hwk : IntKind.wrap .i64 (((frm L.m).length : Int) - (p : Int)) = ((frm L.m).length : Int) - p := w64 (by omega) (by omega)
  refine callS_body (n := 87) rfl rfl fun w ρ X => ?_
  refine runS_x (I := inf) (J := jnf) ⟨false, false, [], 0, 0⟩ 9999 rfl (by repeat (first | exact obs_nil | refine obs_draw (by kernel_rfl) ?_ | refine obs_same ?_ | refine obs_and ?_ | refine obs_by (by (simp [inB] <;> omega)) ?_)) ?_
  refine runS_cut (fun τ ar => (τ 2 = .ptr 0 0 0 ∧ τ 4 = .ptr 1 0 0 ∧ τ 6 = limS none (frm m1) ∧ τ 7 = iv e1) ∧ ar = [.box 74 [limS none (frm L.m), bv ng, iv L.exp], .box 23 [iv 0, iv 0, iv 0, sv []]]) (fun rest => ?_) ?_
  · refine runS_cond rfl (fun h => ?_) (fun h => ?_)
    · have hc : (frm L.m).length > p := by
        have := of_decide_eq_true h
        rw [hwk] at this
        omega
      rw [if_pos hc] at hcase
      obtain ⟨k, hk⟩ : ∃ k, (frm L.m).length = p + k + 1 := ⟨(frm L.m).length - p - 1, by omega⟩
      have hwk2 : IntKind.wrap .i64 (((frm L.m).length : Int) - (p : Int)) = ((k + 1 : Nat) : Int) := by rw [hwk]; omega
      have hwk3 : IntKind.wrap .i64 (((k + 1 : Nat) : Int) - 1) = (k : Int) := by rw [w64 (by omega) (by omega)]; omega
      have hkl : k < (frm L.m).length := by omega
      rw [show (frm L.m).length - p - 1 = k by omega, show (frm L.m).length - p = k + 1 by omega] at hcase
      obtain ⟨c1, c2⟩ := hcase
      have hwe : IntKind.wrap .i64 (L.exp + ((k + 1 : Nat) : Int)) = e1 := by rw [c2, w64 (by omega) (by omega)]
      have hct := d_cut none L.m (k + 1) (by omega) (by omega)
      have hgd := frm_getD L.m k
      have hdv : L.m / 10 ^ (k + 1) = L.m / 10 ^ k / 10 := by rw [Nat.pow_succ, Nat.div_div_eq_div_mul]
      unfold rndD at c1
      have hwk4 : IntKind.wrap .i64 (k : Int) = (k : Int) := w64 (by omega) (by omega)
      rw [← hwk2] at hct hwe
      have hd9 : (frm L.m).getD k 0 ≤ 9 := by rw [hgd]; omega
      refine runS_x (I := inf) (J := jnf) ⟨false, false, [], 2, 0⟩ 9999 rfl (by repeat (first | exact obs_nil | refine obs_draw (by kernel_rfl) ?_ | refine obs_same ?_ | refine obs_and ?_ | refine obs_by (by (simp [inB, hwk2, hwk3, hwk4, hkl] <;> omega)) ?_)) ?_
      refine runS_call rfl rfl rfl rfl rfl rfl rfl hct ?_
      refine runS_x (I := inf) (J := jnf) ⟨false, false, [], 2, 0⟩ 9999 rfl (by repeat (first | exact obs_nil | refine obs_draw (by kernel_rfl) ?_ | refine obs_same ?_ | refine obs_and ?_ | refine obs_by (by (simp [inB] <;> omega)) ?_)) ?_
      refine runS_cond rfl (fun h2 => ?_) (fun h2 => ?_)
      · have h5 : L.m / 10 ^ k % 10 ≥ 5 := by
          have := of_decide_eq_true h2
          rw [hwk2, hwk3, Int.toNat_natCast, hgd] at this
          omega
        rw [if_pos h5, ← hdv] at c1
        have hcl := frm_len_mono (Nat.div_le_self L.m (10 ^ (k + 1)))
        have hpl := d_plus none none (L.m / 10 ^ (k + 1)) 1 (by omega) (by rw [frm_one]; decide)
        rw [← c1] at hpl
        refine runS_x (I := inf) (J := jnf) ⟨false, false, [], 2, 0⟩ 9999 rfl (by repeat (first | exact obs_nil | refine obs_draw (by kernel_rfl) ?_ | refine obs_same ?_ | refine obs_and ?_ | refine obs_by (by (simp [inB] <;> omega)) ?_)) ?_
        refine runS_call rfl rfl rfl rfl rfl rfl rfl (d_of 1 (by decide)) ?_
        refine runS_x (I := inf) (J := jnf) ⟨false, false, [], 2, 0⟩ 9999 rfl (by repeat (first | exact obs_nil | refine obs_draw (by kernel_rfl) ?_ | refine obs_same ?_ | refine obs_and ?_ | refine obs_by (by (simp [inB] <;> omega)) ?_)) ?_
        refine runS_call rfl rfl rfl rfl rfl rfl rfl hpl ?_
        refine runS_x (I := inf) (J := jnf) ⟨false, false, [], 2, 0⟩ 9999 rfl (by repeat (first | exact obs_nil | refine obs_draw (by kernel_rfl) ?_ | refine obs_same ?_ | refine obs_and ?_ | refine obs_by (by (simp [inB] <;> omega)) ?_)) ?_
        exact rest _ _ ⟨⟨rfl, rfl, rfl, congrArg iv hwe⟩, by rw [← hng]; rfl⟩
      · have h5 : ¬ L.m / 10 ^ k % 10 ≥ 5 := by
          have := of_decide_eq_false h2
          rw [hwk2, hwk3, Int.toNat_natCast, hgd] at this
          omega
        rw [if_neg h5, ← hdv, Nat.add_zero] at c1
        refine runS_x (I := inf) (J := jnf) ⟨false, false, [], 2, 0⟩ 9999 rfl (by repeat (first | exact obs_nil | refine obs_draw (by kernel_rfl) ?_ | refine obs_same ?_ | refine obs_and ?_ | refine obs_by (by (simp [inB] <;> omega)) ?_)) ?_
        exact rest _ _ ⟨⟨rfl, rfl, by rw [c1]; rfl, congrArg iv hwe⟩, by rw [← hng]; rfl⟩
    · have hc : ¬ (frm L.m).length > p := by
        have := of_decide_eq_false h
        rw [hwk] at this
        omega
      rw [if_neg hc] at hcase
      refine runS_x (I := inf) (J := jnf) ⟨false, false, [], 2, 0⟩ 9999 rfl (by repeat (first | exact obs_nil | refine obs_draw (by kernel_rfl) ?_ | refine obs_same ?_ | refine obs_and ?_ | refine obs_by (by (simp [inB] <;> omega)) ?_)) ?_
      exact rest _ _ ⟨⟨rfl, rfl, by rw [hcase.1]; rfl, by rw [hcase.2]; rfl⟩, by rw [← hng]; rfl⟩
  rintro τ2 ar2 ⟨⟨g2, g4, g6, g7⟩, rfl⟩
  have hml : (frm m1).length ≤ 16 := frm_len_lt.2 (by omega)
  have hdm := fun d (hd : d ∈ frm m1) => frm_digit hd
  refine runS_says 2 (by exact g2) (Says.refl _) ?_; refine runS_says 4 (by exact g4) (Says.refl _) ?_; refine runS_says 6 (by exact g6) (Says.refl _) ?_; refine runS_says 7 (by exact g7) (Says.refl _) ?_
  refine runS_x (I := inf) (J := jnf) ⟨false, false, [], 0, 0⟩ 9999 rfl (by repeat (first | exact obs_nil | refine obs_draw (by kernel_rfl) ?_ | refine obs_same ?_ | refine obs_and ?_ | refine obs_by (by (simp [inB] <;> omega)) ?_)) ?_
  refine runS_while (fun (z : Nat) τ ar => (τ 2 = .ptr 0 0 0 ∧ τ 4 = .ptr 1 0 0 ∧ τ 6 = limS none (frm m1) ∧ τ 7 = iv e1 ∧ τ 10 = iv z) ∧ ar = [.box 74 [limS none (frm L.m), bv ng, iv L.exp], .box 23 [iv 0, iv 0, iv 0, sv []]] ∧ z ≤ (frm m1).length ∧ normD m1 e1 = normD (m1 / 10 ^ z) (e1 + z)) (fun z => (frm m1).length - z) 0 ⟨⟨rfl, rfl, rfl, rfl, rfl⟩, rfl, Nat.zero_le _, by rw [Nat.pow_zero, Nat.div_one]; simp⟩ ?_
  rintro z τ' ar' ⟨⟨g2, g4, g6, g7, g10⟩, rfl, hz, hn⟩ ih
  have hgz := frm_getD m1 z
  have hgz9 := frm_getD_lt m1 z
  refine runS_says 2 (by exact g2) (Says.refl _) ?_; refine runS_says 4 (by exact g4) (Says.refl _) ?_; refine runS_says 6 (by exact g6) (Says.refl _) ?_; refine runS_says 7 (by exact g7) (Says.refl _) ?_; refine runS_says 10 (by exact g10) (Says.refl _) ?_
  refine runS_x (I := inf) (J := jnf) ⟨false, false, [], 0, 0⟩ 9999 rfl (by repeat (first | exact obs_nil | refine obs_draw (by kernel_rfl) ?_ | refine obs_same ?_ | refine obs_and ?_ | refine obs_by (by (simp [inB] <;> omega)) ?_)) ?_
  have hcd : (if decide ((z : Int) < ((frm m1).length : Int)) = true then (((frm m1).getD ((z : Int)).toNat 0 : Nat) : Int) == 0 else false) = decide (z < (frm m1).length ∧ (frm m1).getD z 0 = 0) := by
    rw [Int.toNat_natCast]
    by_cases h : z < (frm m1).length
    · rw [decide_eq_true (show (z : Int) < ((frm m1).length : Int) by omega), if_pos rfl, Bool.eq_iff_iff]
      simp [-List.getD_eq_getElem?_getD, h]
    · rw [decide_eq_false (show ¬ (z : Int) < ((frm m1).length : Int) by omega), Bool.eq_iff_iff]
      simp [h]
  refine runS_cond rfl (fun h => ?_) (fun h => ?_)
  · obtain ⟨h1, h2⟩ := of_decide_eq_true (hcd.symm.trans h)
    have hw1 : IntKind.wrap .i64 ((z : Int) + 1) = ((z + 1 : Nat) : Int) := by rw [w64 (by omega) (by omega)]; rfl
    have hn0 : m1 / 10 ^ z ≠ 0 := by
      intro e
      have hm0 : m1 ≠ 0 := fun e => by rw [e, frm_zero] at h1; simp at h1
      have hge := frm_ge hm0
      have h3 : 10 ^ z ≤ 10 ^ ((frm m1).length - 1) := Nat.pow_le_pow_right (by decide) (by omega)
      have h4 := Nat.div_eq_zero_iff.1 e
      have hp10 : 0 < 10 ^ z := Nat.pow_pos (by decide)
      omega
    refine runS_x (I := inf) (J := jnf) ⟨false, false, [], 0, 0⟩ 9999 rfl (by repeat (first | exact obs_nil | refine obs_draw (by kernel_rfl) ?_ | refine obs_same ?_ | refine obs_and ?_ | refine obs_by (by (simp [inB] <;> omega)) ?_)) ?_
    refine ih (z + 1) _ _ (by omega) ⟨⟨rfl, rfl, rfl, rfl, congrArg iv hw1⟩, rfl, by omega, ?_⟩
    rw [hn, normD_step hn0 (by rw [← hgz]; exact h2), Nat.div_div_eq_div_mul, ← Nat.pow_succ]
    congr 1
    omega
  · have hno := of_decide_eq_false (hcd.symm.trans h)
    obtain ⟨m2, hm2⟩ : ∃ m2, m1 / 10 ^ z = m2 := ⟨_, rfl⟩
    have hm2l : m2 ≤ m1 := by rw [← hm2]; exact Nat.div_le_self _ _
    have hr : normD m1 e1 = (m2, e1 + z) := by
      rw [hn, hm2]
      by_cases h0 : m2 = 0
      · rw [h0, normD_zero]
      · refine normD_end ?_
        rw [← hm2, ← hgz]
        refine fun e => hno ⟨?_, e⟩
        refine Nat.lt_of_not_le fun hle => h0 ?_
        rw [← hm2]
        exact Nat.div_eq_of_lt (frm_len_lt.1 hle)
    have hct := d_cut none m1 z (by omega) (by omega)
    rw [hm2] at hct
    have hwe : IntKind.wrap .i64 (e1 + (z : Int)) = e1 + z := w64 (by omega) (by omega)
    have hml2 : (frm m2).length ≤ 16 := frm_len_lt.2 (by omega)
    have hwat : IntKind.wrap .i64 (IntKind.wrap .i64 (((frm m2).length : Int) + IntKind.wrap .i64 (e1 + (z : Int))) - 1) = ((frm m2).length : Int) + (e1 + z) - 1 := by
      rw [hwe, w64 (x := ((frm m2).length : Int) + (e1 + (z : Int))) (by omega) (by omega), w64 (by omega) (by omega)]
    rw [hr]
    refine runS_x (I := inf) (J := jnf) ⟨false, false, [], 0, 0⟩ 9999 rfl (by repeat (first | exact obs_nil | refine obs_draw (by kernel_rfl) ?_ | refine obs_same ?_ | refine obs_and ?_ | refine obs_by (by (simp [inB] <;> omega)) ?_)) ?_
    refine runS_call rfl rfl rfl rfl rfl rfl rfl hct ?_
    refine runS_x (I := inf) (J := jnf) ⟨false, false, [], 0, 0⟩ 9999 rfl (by repeat (first | exact obs_nil | refine obs_draw (by kernel_rfl) ?_ | refine obs_same ?_ | refine obs_and ?_ | refine obs_by (by (simp [inB] <;> omega)) ?_)) ?_
    refine runS_cond rfl (fun h3 => ?_) (fun h3 => ?_)
    · have h0 : m2 = 0 := by
        have : (((frm m2).length : Int) == 0) = true := h3
        simp only [beq_iff_eq] at this
        exact frm_len0.1 (by omega)
      refine runS_x (I := inf) (J := jnf) ⟨false, false, [], 0, 0⟩ 9999 rfl (by repeat (first | exact obs_nil | refine obs_draw (by kernel_rfl) ?_ | refine obs_same ?_ | refine obs_and ?_ | refine obs_by (by (simp [inB] <;> omega)) ?_)) ?_
      refine runS_ret (I := inf) 0 rfl (Nat.le_refl _) rfl .nil rfl ⟨?_, rfl⟩
      unfold fltO
      rw [if_pos h0]
      rfl
    · have h0 : m2 ≠ 0 := by
        have : (((frm m2).length : Int) == 0) = false := h3
        simp only [beq_eq_false_iff_ne] at this
        exact fun e => this (by rw [e, frm_zero]; rfl)
      refine runS_x (I := inf) (J := jnf) ⟨false, false, [], 0, 0⟩ 9999 rfl (by repeat (first | exact obs_nil | refine obs_draw (by kernel_rfl) ?_ | refine obs_same ?_ | refine obs_and ?_ | refine obs_by (by (simp [inB] <;> omega)) ?_)) ?_
      refine runS_cond rfl (fun h4 => ?_) (fun h4 => ?_)
      · have hat : ((frm m2).length : Int) + (e1 + z) - 1 > 75 := by
          have := of_decide_eq_true h4
          rw [hwat] at this
          exact this
        refine runS_x (I := inf) (J := jnf) ⟨false, false, [], 0, 0⟩ 9999 rfl (by repeat (first | exact obs_nil | refine obs_draw (by kernel_rfl) ?_ | refine obs_same ?_ | refine obs_and ?_ | refine obs_by (by (simp [inB] <;> omega)) ?_)) ?_
        refine runS_ret (I := inf) 0 rfl (Nat.le_refl _) rfl .nil rfl ⟨?_, rfl⟩
        unfold fltO
        rw [if_neg h0, if_pos hat]
        rfl
      · have hat : ¬ ((frm m2).length : Int) + (e1 + z) - 1 > 75 := by
          have := of_decide_eq_false h4
          rw [hwat] at this
          exact this
        refine runS_x (I := inf) (J := jnf) ⟨false, false, [], 0, 0⟩ 9999 rfl (by repeat (first | exact obs_nil | refine obs_draw (by kernel_rfl) ?_ | refine obs_same ?_ | refine obs_and ?_ | refine obs_by (by (simp [inB] <;> omega)) ?_)) ?_
        refine runS_cond rfl (fun h5 => ?_) (fun h5 => ?_)
        · have hat2 : ((frm m2).length : Int) + (e1 + z) - 1 < -75 := by
            have := of_decide_eq_true h5
            rw [hwat] at this
            exact this
          refine runS_x (I := inf) (J := jnf) ⟨false, false, [], 0, 0⟩ 9999 rfl (by repeat (first | exact obs_nil | refine obs_draw (by kernel_rfl) ?_ | refine obs_same ?_ | refine obs_and ?_ | refine obs_by (by (simp [inB] <;> omega)) ?_)) ?_
          refine runS_ret (I := inf) 0 rfl (Nat.le_refl _) rfl .nil rfl ⟨?_, rfl⟩
          unfold fltO
          rw [if_neg h0, if_neg hat, if_pos hat2]
          rfl
        · have hat2 : ¬ ((frm m2).length : Int) + (e1 + z) - 1 < -75 := by
            have := of_decide_eq_false h5
            rw [hwat] at this
            exact this
          have hF : fltO ng (m2, e1 + z) = (sgn ng m2, e1 + z, 0) := by
            unfold fltO
            rw [if_neg h0, if_neg hat, if_neg hat2]
          rw [hF]
          refine runS_x (I := inf) (J := jnf) ⟨false, false, [], 0, 0⟩ 9999 rfl (by repeat (first | exact obs_nil | refine obs_draw (by kernel_rfl) ?_ | refine obs_same ?_ | refine obs_and ?_ | refine obs_by (by (simp [inB] <;> omega)) ?_)) ?_
          refine runS_call rfl rfl rfl rfl rfl rfl rfl (d_number none m2 (by omega)) ?_
          refine runS_x (I := inf) (J := jnf) ⟨false, false, [], 0, 0⟩ 9999 rfl (by repeat (first | exact obs_nil | refine obs_draw (by kernel_rfl) ?_ | refine obs_same ?_ | refine obs_and ?_ | refine obs_by (by (simp [inB] <;> omega)) ?_)) ?_
          cases ng
          · refine runS_x (I := inf) (J := jnf) ⟨true, false, [], 0, 0⟩ 9999 rfl (by repeat (first | exact obs_nil | refine obs_draw (by kernel_rfl) ?_ | refine obs_same ?_ | refine obs_and ?_ | refine obs_by (by (simp [inB] <;> omega)) ?_)) ?_
            refine runS_ret (I := inf) 0 rfl (Nat.le_refl _) rfl .nil rfl ⟨?_, rfl⟩
            show Out.ret (.tup [.agg [iv 3, iv (m2 : Nat), iv (IntKind.wrap .i64 (e1 + (z : Int))), sv []], iv 0]) = _
            rw [hwe]
            rfl
          · refine runS_x (I := inf) (J := jnf) ⟨true, false, [], 0, 0⟩ 9999 rfl (by repeat (first | exact obs_nil | refine obs_draw (by kernel_rfl) ?_ | refine obs_same ?_ | refine obs_and ?_ | refine obs_by (by (simp [inB] <;> omega)) ?_)) ?_
            refine runS_ret (I := inf) 0 rfl (Nat.le_refl _) rfl .nil rfl ⟨?_, rfl⟩
            show Out.ret (.tup [.agg [iv 3, iv (IntKind.wrap .i64 (0 - (m2 : Int))), iv (IntKind.wrap .i64 (e1 + (z : Int))), sv []], iv 0]) = _
            rw [hwe, w64 (by omega) (by omega), Int.zero_sub]
            rfl
end Go.Iron.Tryz

/- The digits' seat: the program's Right, for any value. -/
namespace Go.Iron.Tryz
open Go.Proofs Go.RowKit Go.Iron.Tok Go.Iron.Dg

theorem lib_trim (s cs : Str) (hs : s.length ≤ 4611686018427387904) (hc : cs.length ≤ 100) (ha : ∀ b ∈ cs, b.toNat < 128) : CallT Tryz.prog 88 [sv s, sv cs] [] (fun o A => o = .ret (sv (Lib.trimS s cs)) ∧ A = []) :=
  callT_lib fun w O vs hst hl hv => by
    obtain ⟨v, v2, rfl⟩ : ∃ v v2, vs = #[v, v2] := by
      obtain ⟨l⟩ := vs
      match l, hl with
      | [v, v2], _ => exact ⟨v, v2, rfl⟩
    have hv0 := rv_val (hv 0 _ v rfl rfl)
    have hv1 := rv_val (hv 1 _ v2 rfl rfl)
    subst hv0
    subst hv1
    refine (Tryz.strings_Trim_laid (bs s) (bs cs) w (show s.length ≤ _ by omega) (show cs.length < _ by omega) (fun j b hb => ha b (List.mem_of_getElem? hb))).mono fun e w' hh => ?_
    obtain ⟨rfl, hB⟩ := hh
    exact ⟨_, rfl, hB, fun w'' O' => .val⟩
theorem lib_repeat (s : Str) (c : Nat) (hs : s.length ≤ 10) (hc : c ≤ 100000) : CallT Tryz.prog 84 [sv s, iv c] [] (fun o A => o = .ret (sv (Lib.repeatL s c)) ∧ A = []) :=
  callT_lib fun w O vs hst hl hv => by
    obtain ⟨v, v2, rfl⟩ : ∃ v v2, vs = #[v, v2] := by
      obtain ⟨l⟩ := vs
      match l, hl with
      | [v, v2], _ => exact ⟨v, v2, rfl⟩
    have hv0 := rv_val (hv 0 _ v rfl rfl)
    have hv1 := rv_val (hv 1 _ v2 rfl rfl)
    subst hv0
    subst hv1
    have hm : s.length * c ≤ 10 * 100000 := Nat.mul_le_mul hs hc
    refine (Tryz.strings_Repeat (bs s) c w (by omega) (show s.length * c ≤ _ by omega)).mono fun e w' hh => ?_
    obtain ⟨rfl, hB⟩ := hh
    exact ⟨_, rfl, hB, fun w'' O' => .val⟩
theorem dropWhile_nil {α : Type} {p : α → Bool} : ∀ {l : List α}, l.dropWhile p = [] ↔ ∀ x ∈ l, p x = true
  | [] => by simp
  | a :: l => by
    rw [List.dropWhile_cons]
    split
    · rename_i h
      rw [dropWhile_nil]
      simp [h]
    · rename_i h
      simp [h]
theorem trim_nil (s cs : Str) : Lib.trimS s cs = [] ↔ ∀ b ∈ s, cs.contains b = true := by
  unfold Lib.trimS Lib.trimLeftS Lib.trimRightS
  rw [dropWhile_nil]
  constructor
  · intro h
    have h2 : s.reverse.dropWhile (cs.contains ·) = [] := by
      cases hd : s.reverse.dropWhile (cs.contains ·) with
      | nil => rfl
      | cons a l =>
        exfalso
        have h3 : cs.contains a = true := h a (by rw [hd]; simp)
        have h4 := List.head?_dropWhile_not (cs.contains ·) s.reverse
        rw [hd] at h4
        simp [h3] at h4
        simp [h4] at h3
    rw [dropWhile_nil] at h2
    exact fun b hb => h2 b (by simpa using hb)
  · intro h
    have h2 : s.reverse.dropWhile (cs.contains ·) = [] := dropWhile_nil.2 fun b hb => h b (by simpa using hb)
    rw [h2]
    simp
theorem trim_all (s : Str) : (Lib.trimS s [48, 49] = []) ↔ (s.all fun b => b.toNat == 48 || b.toNat == 49) = true := by
  rw [trim_nil, List.all_eq_true]
  refine forall_congr' fun b => forall_congr' fun _ => ?_
  simp [← UInt8.toNat_inj]
theorem txt_nil (s : Str) : ((bs s).toList == (ByteArray.mk #[]).toList) = decide (s = []) := by
  rw [bs_toList, show (ByteArray.mk #[]).toList = [] from bs_toList [], Bool.eq_iff_iff]
  simp
theorem d_isNumber (kd : Int) : CallT Tryz.prog 170 [iv kd] [] (fun o A => o = .ret (bv (numK kd)) ∧ A = []) := by
  refine callS_body (n := 5) rfl rfl fun w ρ X => ?_
  refine runS_x (I := inf) (J := jnf) ⟨false, false, [], 0, 0⟩ 9999 rfl (by repeat (first | exact obs_nil | refine obs_draw (by kernel_rfl) ?_ | refine obs_same ?_ | refine obs_and ?_ | refine obs_by (by (simp [inB] <;> omega)) ?_)) ?_
  refine runS_call rfl rfl rfl rfl rfl rfl rfl (d_within kd 1 3) ?_
  refine runS_x (I := inf) (J := jnf) ⟨false, false, [], 0, 0⟩ 9999 rfl (by repeat (first | exact obs_nil | refine obs_draw (by kernel_rfl) ?_ | refine obs_same ?_ | refine obs_and ?_ | refine obs_by (by (simp [inB] <;> omega)) ?_)) ?_
  refine runS_ret (I := inf) 0 rfl (Nat.le_refl _) rfl .nil rfl ⟨?_, rfl⟩
  rfl
section
variable (n q : Int) (s : Str)
theorem d_right_1 : CallT Tryz.prog 32 [.agg (vaE 1 n q s)] [] (fun o A => o = .ret (bv (rightB 1 n q s)) ∧ A = []) := by
  refine callS_body (n := 147) rfl rfl fun w ρ X => ?_
  refine runS_x (I := inf) (J := jnf) ⟨false, false, [], 0, 0⟩ 9999 rfl (by repeat (first | exact obs_nil | refine obs_draw (by kernel_rfl) ?_ | refine obs_same ?_ | refine obs_and ?_ | refine obs_by (by (simp [inB] <;> omega)) ?_)) ?_
  refine runS_cond rfl (fun h => ?_) (fun h => by cases h)
  refine runS_x (I := inf) (J := jnf) ⟨false, false, [], 0, 0⟩ 9999 rfl (by repeat (first | exact obs_nil | refine obs_draw (by kernel_rfl) ?_ | refine obs_same ?_ | refine obs_and ?_ | refine obs_by (by (simp [inB] <;> omega)) ?_)) ?_
  refine runS_callU rfl rfl (by first | exact .v rfl rfl rfl rfl | exact .o rfl rfl rfl rfl) rfl rfl (by repeat (first | exact .nil | refine .cons (.n rfl) ?_ | refine .cons .o ?_ | refine .cons gok_and ?_)) rfl rfl rfl rfl rfl (fun _ => (d_within _ _ _)) ?_
  refine runS_x (I := inf) (J := jnf) ⟨false, false, [], 0, 0⟩ 9999 rfl (by repeat (first | exact obs_nil | refine obs_draw (by kernel_rfl) ?_ | refine obs_same ?_ | refine obs_and ?_ | refine obs_by (by (simp [inB] <;> omega)) ?_)) ?_
  refine runS_callU rfl rfl (by first | exact .v rfl rfl rfl rfl | exact .o rfl rfl rfl rfl) rfl rfl (by repeat (first | exact .nil | refine .cons (.n rfl) ?_ | refine .cons .o ?_ | refine .cons gok_and ?_)) rfl rfl rfl rfl rfl (fun _ => (d_within _ _ _)) ?_
  refine runS_x (I := inf) (J := jnf) ⟨false, false, [], 0, 0⟩ 9999 rfl (by repeat (first | exact obs_nil | refine obs_draw (by kernel_rfl) ?_ | refine obs_same ?_ | refine obs_and ?_ | refine obs_by (by (simp [inB] <;> omega)) ?_)) ?_
  refine runS_ret (I := inf) 0 rfl (Nat.le_refl _) rfl .nil rfl ⟨?_, rfl⟩
  refine congrArg (fun x => Out.ret (bv x)) ?_
  rw [txt_nil]
  rw [Bool.eq_iff_iff]
  by_cases hs0 : s = [] <;> simp [rightB, hs0] <;> omega
theorem d_right_2 : CallT Tryz.prog 32 [.agg (vaE 2 n q s)] [] (fun o A => o = .ret (bv (rightB 2 n q s)) ∧ A = []) := by
  refine callS_body (n := 147) rfl rfl fun w ρ X => ?_
  refine runS_x (I := inf) (J := jnf) ⟨false, false, [], 0, 0⟩ 9999 rfl (by repeat (first | exact obs_nil | refine obs_draw (by kernel_rfl) ?_ | refine obs_same ?_ | refine obs_and ?_ | refine obs_by (by (simp [inB] <;> omega)) ?_)) ?_
  refine runS_cond rfl (fun h => by cases h) (fun h => ?_)
  refine runS_x (I := inf) (J := jnf) ⟨false, false, [], 0, 0⟩ 9999 rfl (by repeat (first | exact obs_nil | refine obs_draw (by kernel_rfl) ?_ | refine obs_same ?_ | refine obs_and ?_ | refine obs_by (by (simp [inB] <;> omega)) ?_)) ?_
  refine runS_cond rfl (fun h => ?_) (fun h => by cases h)
  refine runS_x (I := inf) (J := jnf) ⟨false, false, [], 0, 0⟩ 9999 rfl (by repeat (first | exact obs_nil | refine obs_draw (by kernel_rfl) ?_ | refine obs_same ?_ | refine obs_and ?_ | refine obs_by (by (simp [inB] <;> omega)) ?_)) ?_
  refine runS_callU rfl rfl (by first | exact .v rfl rfl rfl rfl | exact .o rfl rfl rfl rfl) rfl rfl (by repeat (first | exact .nil | refine .cons (.n rfl) ?_ | refine .cons .o ?_ | refine .cons gok_and ?_)) rfl rfl rfl rfl rfl (fun _ => (d_within _ _ _)) ?_
  refine runS_x (I := inf) (J := jnf) ⟨false, false, [], 0, 0⟩ 9999 rfl (by repeat (first | exact obs_nil | refine obs_draw (by kernel_rfl) ?_ | refine obs_same ?_ | refine obs_and ?_ | refine obs_by (by (simp [inB] <;> omega)) ?_)) ?_
  refine runS_callU rfl rfl (by first | exact .v rfl rfl rfl rfl | exact .o rfl rfl rfl rfl) rfl rfl (by repeat (first | exact .nil | refine .cons (.n rfl) ?_ | refine .cons .o ?_ | refine .cons gok_and ?_)) rfl rfl rfl rfl rfl (fun _ => (d_within _ _ _)) ?_
  refine runS_x (I := inf) (J := jnf) ⟨false, false, [], 0, 0⟩ 9999 rfl (by repeat (first | exact obs_nil | refine obs_draw (by kernel_rfl) ?_ | refine obs_same ?_ | refine obs_and ?_ | refine obs_by (by (simp [inB] <;> omega)) ?_)) ?_
  refine runS_ret (I := inf) 0 rfl (Nat.le_refl _) rfl .nil rfl ⟨?_, rfl⟩
  refine congrArg (fun x => Out.ret (bv x)) ?_
  rw [txt_nil]
  rw [Bool.eq_iff_iff]
  by_cases hs0 : s = [] <;> simp [rightB, hs0] <;> omega
theorem d_right_7 : CallT Tryz.prog 32 [.agg (vaE 7 n q s)] [] (fun o A => o = .ret (bv (rightB 7 n q s)) ∧ A = []) := by
  refine callS_body (n := 147) rfl rfl fun w ρ X => ?_
  refine runS_x (I := inf) (J := jnf) ⟨false, false, [], 0, 0⟩ 9999 rfl (by repeat (first | exact obs_nil | refine obs_draw (by kernel_rfl) ?_ | refine obs_same ?_ | refine obs_and ?_ | refine obs_by (by (simp [inB] <;> omega)) ?_)) ?_
  refine runS_cond rfl (fun h => by cases h) (fun h => ?_)
  refine runS_x (I := inf) (J := jnf) ⟨false, false, [], 0, 0⟩ 9999 rfl (by repeat (first | exact obs_nil | refine obs_draw (by kernel_rfl) ?_ | refine obs_same ?_ | refine obs_and ?_ | refine obs_by (by (simp [inB] <;> omega)) ?_)) ?_
  refine runS_cond rfl (fun h => by cases h) (fun h => ?_)
  refine runS_x (I := inf) (J := jnf) ⟨false, false, [], 0, 0⟩ 9999 rfl (by repeat (first | exact obs_nil | refine obs_draw (by kernel_rfl) ?_ | refine obs_same ?_ | refine obs_and ?_ | refine obs_by (by (simp [inB] <;> omega)) ?_)) ?_
  refine runS_cond rfl (fun h => by cases h) (fun h => ?_)
  refine runS_x (I := inf) (J := jnf) ⟨false, false, [], 0, 0⟩ 9999 rfl (by repeat (first | exact obs_nil | refine obs_draw (by kernel_rfl) ?_ | refine obs_same ?_ | refine obs_and ?_ | refine obs_by (by (simp [inB] <;> omega)) ?_)) ?_
  refine runS_cond rfl (fun h => by cases h) (fun h => ?_)
  refine runS_x (I := inf) (J := jnf) ⟨false, false, [], 0, 0⟩ 9999 rfl (by repeat (first | exact obs_nil | refine obs_draw (by kernel_rfl) ?_ | refine obs_same ?_ | refine obs_and ?_ | refine obs_by (by (simp [inB] <;> omega)) ?_)) ?_
  refine runS_cond rfl (fun h => by cases h) (fun h => ?_)
  refine runS_x (I := inf) (J := jnf) ⟨false, false, [], 0, 0⟩ 9999 rfl (by repeat (first | exact obs_nil | refine obs_draw (by kernel_rfl) ?_ | refine obs_same ?_ | refine obs_and ?_ | refine obs_by (by (simp [inB] <;> omega)) ?_)) ?_
  refine runS_cond rfl (fun h => by cases h) (fun h => ?_)
  refine runS_x (I := inf) (J := jnf) ⟨false, false, [], 0, 0⟩ 9999 rfl (by repeat (first | exact obs_nil | refine obs_draw (by kernel_rfl) ?_ | refine obs_same ?_ | refine obs_and ?_ | refine obs_by (by (simp [inB] <;> omega)) ?_)) ?_
  refine runS_cond rfl (fun h => ?_) (fun h => by cases h)
  refine runS_x (I := inf) (J := jnf) ⟨false, false, [], 0, 0⟩ 9999 rfl (by repeat (first | exact obs_nil | refine obs_draw (by kernel_rfl) ?_ | refine obs_same ?_ | refine obs_and ?_ | refine obs_by (by (simp [inB] <;> omega)) ?_)) ?_
  refine runS_callU rfl rfl (by first | exact .v rfl rfl rfl rfl | exact .o rfl rfl rfl rfl) rfl rfl (by repeat (first | exact .nil | refine .cons (.n rfl) ?_ | refine .cons .o ?_ | refine .cons gok_and ?_)) rfl rfl rfl rfl rfl (fun _ => (d_within _ _ _)) ?_
  refine runS_x (I := inf) (J := jnf) ⟨false, false, [], 0, 0⟩ 9999 rfl (by repeat (first | exact obs_nil | refine obs_draw (by kernel_rfl) ?_ | refine obs_same ?_ | refine obs_and ?_ | refine obs_by (by (simp [inB] <;> omega)) ?_)) ?_
  refine runS_ret (I := inf) 0 rfl (Nat.le_refl _) rfl .nil rfl ⟨?_, rfl⟩
  refine congrArg (fun x => Out.ret (bv x)) ?_
  rw [txt_nil]
  rw [Bool.eq_iff_iff]
  by_cases hs0 : s = [] <;> simp [rightB, hs0] <;> omega
theorem d_right_8 : CallT Tryz.prog 32 [.agg (vaE 8 n q s)] [] (fun o A => o = .ret (bv (rightB 8 n q s)) ∧ A = []) := by
  refine callS_body (n := 147) rfl rfl fun w ρ X => ?_
  refine runS_x (I := inf) (J := jnf) ⟨false, false, [], 0, 0⟩ 9999 rfl (by repeat (first | exact obs_nil | refine obs_draw (by kernel_rfl) ?_ | refine obs_same ?_ | refine obs_and ?_ | refine obs_by (by (simp [inB] <;> omega)) ?_)) ?_
  refine runS_cond rfl (fun h => by cases h) (fun h => ?_)
  refine runS_x (I := inf) (J := jnf) ⟨false, false, [], 0, 0⟩ 9999 rfl (by repeat (first | exact obs_nil | refine obs_draw (by kernel_rfl) ?_ | refine obs_same ?_ | refine obs_and ?_ | refine obs_by (by (simp [inB] <;> omega)) ?_)) ?_
  refine runS_cond rfl (fun h => by cases h) (fun h => ?_)
  refine runS_x (I := inf) (J := jnf) ⟨false, false, [], 0, 0⟩ 9999 rfl (by repeat (first | exact obs_nil | refine obs_draw (by kernel_rfl) ?_ | refine obs_same ?_ | refine obs_and ?_ | refine obs_by (by (simp [inB] <;> omega)) ?_)) ?_
  refine runS_cond rfl (fun h => by cases h) (fun h => ?_)
  refine runS_x (I := inf) (J := jnf) ⟨false, false, [], 0, 0⟩ 9999 rfl (by repeat (first | exact obs_nil | refine obs_draw (by kernel_rfl) ?_ | refine obs_same ?_ | refine obs_and ?_ | refine obs_by (by (simp [inB] <;> omega)) ?_)) ?_
  refine runS_cond rfl (fun h => by cases h) (fun h => ?_)
  refine runS_x (I := inf) (J := jnf) ⟨false, false, [], 0, 0⟩ 9999 rfl (by repeat (first | exact obs_nil | refine obs_draw (by kernel_rfl) ?_ | refine obs_same ?_ | refine obs_and ?_ | refine obs_by (by (simp [inB] <;> omega)) ?_)) ?_
  refine runS_cond rfl (fun h => by cases h) (fun h => ?_)
  refine runS_x (I := inf) (J := jnf) ⟨false, false, [], 0, 0⟩ 9999 rfl (by repeat (first | exact obs_nil | refine obs_draw (by kernel_rfl) ?_ | refine obs_same ?_ | refine obs_and ?_ | refine obs_by (by (simp [inB] <;> omega)) ?_)) ?_
  refine runS_cond rfl (fun h => by cases h) (fun h => ?_)
  refine runS_x (I := inf) (J := jnf) ⟨false, false, [], 0, 0⟩ 9999 rfl (by repeat (first | exact obs_nil | refine obs_draw (by kernel_rfl) ?_ | refine obs_same ?_ | refine obs_and ?_ | refine obs_by (by (simp [inB] <;> omega)) ?_)) ?_
  refine runS_cond rfl (fun h => by cases h) (fun h => ?_)
  refine runS_x (I := inf) (J := jnf) ⟨false, false, [], 0, 0⟩ 9999 rfl (by repeat (first | exact obs_nil | refine obs_draw (by kernel_rfl) ?_ | refine obs_same ?_ | refine obs_and ?_ | refine obs_by (by (simp [inB] <;> omega)) ?_)) ?_
  refine runS_cond rfl (fun h => ?_) (fun h => by cases h)
  refine runS_x (I := inf) (J := jnf) ⟨false, false, [], 0, 0⟩ 9999 rfl (by repeat (first | exact obs_nil | refine obs_draw (by kernel_rfl) ?_ | refine obs_same ?_ | refine obs_and ?_ | refine obs_by (by (simp [inB] <;> omega)) ?_)) ?_
  refine runS_cond rfl (fun h => ?_) (fun h => by cases h)
  refine runS_x (I := inf) (J := jnf) ⟨false, false, [], 0, 0⟩ 9999 rfl (by repeat (first | exact obs_nil | refine obs_draw (by kernel_rfl) ?_ | refine obs_same ?_ | refine obs_and ?_ | refine obs_by (by (simp [inB] <;> omega)) ?_)) ?_
  refine runS_callU rfl rfl (by first | exact .v rfl rfl rfl rfl | exact .o rfl rfl rfl rfl) rfl rfl (by repeat (first | exact .nil | refine .cons (.n rfl) ?_ | refine .cons .o ?_ | refine .cons gok_and ?_)) rfl rfl rfl rfl rfl (fun _ => (d_within _ _ _)) ?_
  refine runS_x (I := inf) (J := jnf) ⟨false, false, [], 0, 0⟩ 9999 rfl (by repeat (first | exact obs_nil | refine obs_draw (by kernel_rfl) ?_ | refine obs_same ?_ | refine obs_and ?_ | refine obs_by (by (simp [inB] <;> omega)) ?_)) ?_
  refine runS_callU rfl rfl (by first | exact .v rfl rfl rfl rfl | exact .o rfl rfl rfl rfl) rfl rfl (by repeat (first | exact .nil | refine .cons (.n rfl) ?_ | refine .cons .o ?_ | refine .cons gok_and ?_)) rfl rfl rfl rfl rfl (fun _ => (d_within _ _ _)) ?_
  refine runS_x (I := inf) (J := jnf) ⟨false, false, [], 0, 0⟩ 9999 rfl (by repeat (first | exact obs_nil | refine obs_draw (by kernel_rfl) ?_ | refine obs_same ?_ | refine obs_and ?_ | refine obs_by (by (simp [inB] <;> omega)) ?_)) ?_
  refine runS_ret (I := inf) 0 rfl (Nat.le_refl _) rfl .nil rfl ⟨?_, rfl⟩
  refine congrArg (fun x => Out.ret (bv x)) ?_
  rw [txt_nil]
  rw [Bool.eq_iff_iff]
  by_cases hs0 : s = [] <;> simp [rightB, hs0] <;> omega
theorem d_right_9 : CallT Tryz.prog 32 [.agg (vaE 9 n q s)] [] (fun o A => o = .ret (bv (rightB 9 n q s)) ∧ A = []) := by
  refine callS_body (n := 147) rfl rfl fun w ρ X => ?_
  refine runS_x (I := inf) (J := jnf) ⟨false, false, [], 0, 0⟩ 9999 rfl (by repeat (first | exact obs_nil | refine obs_draw (by kernel_rfl) ?_ | refine obs_same ?_ | refine obs_and ?_ | refine obs_by (by (simp [inB] <;> omega)) ?_)) ?_
  refine runS_cond rfl (fun h => by cases h) (fun h => ?_)
  refine runS_x (I := inf) (J := jnf) ⟨false, false, [], 0, 0⟩ 9999 rfl (by repeat (first | exact obs_nil | refine obs_draw (by kernel_rfl) ?_ | refine obs_same ?_ | refine obs_and ?_ | refine obs_by (by (simp [inB] <;> omega)) ?_)) ?_
  refine runS_cond rfl (fun h => by cases h) (fun h => ?_)
  refine runS_x (I := inf) (J := jnf) ⟨false, false, [], 0, 0⟩ 9999 rfl (by repeat (first | exact obs_nil | refine obs_draw (by kernel_rfl) ?_ | refine obs_same ?_ | refine obs_and ?_ | refine obs_by (by (simp [inB] <;> omega)) ?_)) ?_
  refine runS_cond rfl (fun h => by cases h) (fun h => ?_)
  refine runS_x (I := inf) (J := jnf) ⟨false, false, [], 0, 0⟩ 9999 rfl (by repeat (first | exact obs_nil | refine obs_draw (by kernel_rfl) ?_ | refine obs_same ?_ | refine obs_and ?_ | refine obs_by (by (simp [inB] <;> omega)) ?_)) ?_
  refine runS_cond rfl (fun h => by cases h) (fun h => ?_)
  refine runS_x (I := inf) (J := jnf) ⟨false, false, [], 0, 0⟩ 9999 rfl (by repeat (first | exact obs_nil | refine obs_draw (by kernel_rfl) ?_ | refine obs_same ?_ | refine obs_and ?_ | refine obs_by (by (simp [inB] <;> omega)) ?_)) ?_
  refine runS_cond rfl (fun h => by cases h) (fun h => ?_)
  refine runS_x (I := inf) (J := jnf) ⟨false, false, [], 0, 0⟩ 9999 rfl (by repeat (first | exact obs_nil | refine obs_draw (by kernel_rfl) ?_ | refine obs_same ?_ | refine obs_and ?_ | refine obs_by (by (simp [inB] <;> omega)) ?_)) ?_
  refine runS_cond rfl (fun h => by cases h) (fun h => ?_)
  refine runS_x (I := inf) (J := jnf) ⟨false, false, [], 0, 0⟩ 9999 rfl (by repeat (first | exact obs_nil | refine obs_draw (by kernel_rfl) ?_ | refine obs_same ?_ | refine obs_and ?_ | refine obs_by (by (simp [inB] <;> omega)) ?_)) ?_
  refine runS_cond rfl (fun h => by cases h) (fun h => ?_)
  refine runS_x (I := inf) (J := jnf) ⟨false, false, [], 0, 0⟩ 9999 rfl (by repeat (first | exact obs_nil | refine obs_draw (by kernel_rfl) ?_ | refine obs_same ?_ | refine obs_and ?_ | refine obs_by (by (simp [inB] <;> omega)) ?_)) ?_
  refine runS_cond rfl (fun h => by cases h) (fun h => ?_)
  refine runS_x (I := inf) (J := jnf) ⟨false, false, [], 0, 0⟩ 9999 rfl (by repeat (first | exact obs_nil | refine obs_draw (by kernel_rfl) ?_ | refine obs_same ?_ | refine obs_and ?_ | refine obs_by (by (simp [inB] <;> omega)) ?_)) ?_
  refine runS_cond rfl (fun h => ?_) (fun h => by cases h)
  refine runS_x (I := inf) (J := jnf) ⟨false, false, [], 0, 0⟩ 9999 rfl (by repeat (first | exact obs_nil | refine obs_draw (by kernel_rfl) ?_ | refine obs_same ?_ | refine obs_and ?_ | refine obs_by (by (simp [inB] <;> omega)) ?_)) ?_
  refine runS_callU rfl rfl (by first | exact .v rfl rfl rfl rfl | exact .o rfl rfl rfl rfl) rfl rfl (by repeat (first | exact .nil | refine .cons (.n rfl) ?_ | refine .cons .o ?_ | refine .cons gok_and ?_)) rfl rfl rfl rfl rfl (fun _ => (d_within _ _ _)) ?_
  refine runS_x (I := inf) (J := jnf) ⟨false, false, [], 0, 0⟩ 9999 rfl (by repeat (first | exact obs_nil | refine obs_draw (by kernel_rfl) ?_ | refine obs_same ?_ | refine obs_and ?_ | refine obs_by (by (simp [inB] <;> omega)) ?_)) ?_
  refine runS_callU rfl rfl (by first | exact .v rfl rfl rfl rfl | exact .o rfl rfl rfl rfl) rfl rfl (by repeat (first | exact .nil | refine .cons (.n rfl) ?_ | refine .cons .o ?_ | refine .cons gok_and ?_)) rfl rfl rfl rfl rfl (fun _ => (d_within _ _ _)) ?_
  refine runS_x (I := inf) (J := jnf) ⟨false, false, [], 0, 0⟩ 9999 rfl (by repeat (first | exact obs_nil | refine obs_draw (by kernel_rfl) ?_ | refine obs_same ?_ | refine obs_and ?_ | refine obs_by (by (simp [inB] <;> omega)) ?_)) ?_
  refine runS_ret (I := inf) 0 rfl (Nat.le_refl _) rfl .nil rfl ⟨?_, rfl⟩
  refine congrArg (fun x => Out.ret (bv x)) ?_
  rw [txt_nil]
  rw [Bool.eq_iff_iff]
  by_cases hs0 : s = [] <;> simp [rightB, hs0] <;> omega
theorem d_right_4 : CallT Tryz.prog 32 [.agg (vaE 4 n q s)] [] (fun o A => o = .ret (bv (rightB 4 n q s)) ∧ A = []) := by
  refine callS_body (n := 147) rfl rfl fun w ρ X => ?_
  refine runS_x (I := inf) (J := jnf) ⟨false, false, [], 0, 0⟩ 9999 rfl (by repeat (first | exact obs_nil | refine obs_draw (by kernel_rfl) ?_ | refine obs_same ?_ | refine obs_and ?_ | refine obs_by (by (simp [inB] <;> omega)) ?_)) ?_
  refine runS_cond rfl (fun h => by cases h) (fun h => ?_)
  refine runS_x (I := inf) (J := jnf) ⟨false, false, [], 0, 0⟩ 9999 rfl (by repeat (first | exact obs_nil | refine obs_draw (by kernel_rfl) ?_ | refine obs_same ?_ | refine obs_and ?_ | refine obs_by (by (simp [inB] <;> omega)) ?_)) ?_
  refine runS_cond rfl (fun h => by cases h) (fun h => ?_)
  refine runS_x (I := inf) (J := jnf) ⟨false, false, [], 0, 0⟩ 9999 rfl (by repeat (first | exact obs_nil | refine obs_draw (by kernel_rfl) ?_ | refine obs_same ?_ | refine obs_and ?_ | refine obs_by (by (simp [inB] <;> omega)) ?_)) ?_
  refine runS_cond rfl (fun h => by cases h) (fun h => ?_)
  refine runS_x (I := inf) (J := jnf) ⟨false, false, [], 0, 0⟩ 9999 rfl (by repeat (first | exact obs_nil | refine obs_draw (by kernel_rfl) ?_ | refine obs_same ?_ | refine obs_and ?_ | refine obs_by (by (simp [inB] <;> omega)) ?_)) ?_
  refine runS_cond rfl (fun h => ?_) (fun h => by cases h)
  refine runS_x (I := inf) (J := jnf) ⟨false, false, [], 0, 0⟩ 9999 rfl (by repeat (first | exact obs_nil | refine obs_draw (by kernel_rfl) ?_ | refine obs_same ?_ | refine obs_and ?_ | refine obs_by (by (simp [inB] <;> omega)) ?_)) ?_
  refine runS_cond rfl (fun h => ?_) (fun h => by cases h)
  refine runS_x (I := inf) (J := jnf) ⟨false, false, [], 0, 0⟩ 9999 rfl (by repeat (first | exact obs_nil | refine obs_draw (by kernel_rfl) ?_ | refine obs_same ?_ | refine obs_and ?_ | refine obs_by (by (simp [inB, blS] <;> omega)) ?_)) ?_
  refine runS_ret (I := inf) 0 rfl (Nat.le_refl _) rfl .nil rfl ⟨?_, rfl⟩
  refine congrArg (fun x => Out.ret (bv x)) ?_
  have e : decide (((bl (bs s)).length : Int) ≤ 250) = decide (s.length ≤ 250) := by
    rw [blS, Bool.eq_iff_iff, decide_eq_true_iff, decide_eq_true_iff]
    omega
  rw [e]
  by_cases h1 : n = 0 <;> by_cases h2 : q = 0 <;> by_cases h3 : s.length ≤ 250 <;> simp [rightB, h1, h2, h3]
theorem d_right_6 : CallT Tryz.prog 32 [.agg (vaE 6 n q s)] [] (fun o A => o = .ret (bv (rightB 6 n q s)) ∧ A = []) := by
  refine callS_body (n := 147) rfl rfl fun w ρ X => ?_
  refine runS_x (I := inf) (J := jnf) ⟨false, false, [], 0, 0⟩ 9999 rfl (by repeat (first | exact obs_nil | refine obs_draw (by kernel_rfl) ?_ | refine obs_same ?_ | refine obs_and ?_ | refine obs_by (by (simp [inB] <;> omega)) ?_)) ?_
  refine runS_cond rfl (fun h => by cases h) (fun h => ?_)
  refine runS_x (I := inf) (J := jnf) ⟨false, false, [], 0, 0⟩ 9999 rfl (by repeat (first | exact obs_nil | refine obs_draw (by kernel_rfl) ?_ | refine obs_same ?_ | refine obs_and ?_ | refine obs_by (by (simp [inB] <;> omega)) ?_)) ?_
  refine runS_cond rfl (fun h => by cases h) (fun h => ?_)
  refine runS_x (I := inf) (J := jnf) ⟨false, false, [], 0, 0⟩ 9999 rfl (by repeat (first | exact obs_nil | refine obs_draw (by kernel_rfl) ?_ | refine obs_same ?_ | refine obs_and ?_ | refine obs_by (by (simp [inB] <;> omega)) ?_)) ?_
  refine runS_cond rfl (fun h => by cases h) (fun h => ?_)
  refine runS_x (I := inf) (J := jnf) ⟨false, false, [], 0, 0⟩ 9999 rfl (by repeat (first | exact obs_nil | refine obs_draw (by kernel_rfl) ?_ | refine obs_same ?_ | refine obs_and ?_ | refine obs_by (by (simp [inB] <;> omega)) ?_)) ?_
  refine runS_cond rfl (fun h => by cases h) (fun h => ?_)
  refine runS_x (I := inf) (J := jnf) ⟨false, false, [], 0, 0⟩ 9999 rfl (by repeat (first | exact obs_nil | refine obs_draw (by kernel_rfl) ?_ | refine obs_same ?_ | refine obs_and ?_ | refine obs_by (by (simp [inB] <;> omega)) ?_)) ?_
  refine runS_cond rfl (fun h => ?_) (fun h => by cases h)
  refine runS_x (I := inf) (J := jnf) ⟨false, false, [], 0, 0⟩ 9999 rfl (by repeat (first | exact obs_nil | refine obs_draw (by kernel_rfl) ?_ | refine obs_same ?_ | refine obs_and ?_ | refine obs_by (by (simp [inB, blS] <;> omega)) ?_)) ?_
  refine runS_ret (I := inf) 0 rfl (Nat.le_refl _) rfl .nil rfl ⟨?_, rfl⟩
  refine congrArg (fun x => Out.ret (bv x)) ?_
  have e : decide (((bl (bs s)).length : Int) ≤ 250) = decide (s.length ≤ 250) := by
    rw [blS, Bool.eq_iff_iff, decide_eq_true_iff, decide_eq_true_iff]
    omega
  rw [e]
  by_cases h1 : n = 0 <;> by_cases h2 : q = 0 <;> by_cases h3 : s.length ≤ 250 <;> simp [rightB, h1, h2, h3]
theorem d_right_5 : CallT Tryz.prog 32 [.agg (vaE 5 n q s)] [] (fun o A => o = .ret (bv (rightB 5 n q s)) ∧ A = []) := by
  refine callS_body (n := 147) rfl rfl fun w ρ X => ?_
  refine runS_x (I := inf) (J := jnf) ⟨false, false, [], 0, 0⟩ 9999 rfl (by repeat (first | exact obs_nil | refine obs_draw (by kernel_rfl) ?_ | refine obs_same ?_ | refine obs_and ?_ | refine obs_by (by (simp [inB] <;> omega)) ?_)) ?_
  refine runS_cond rfl (fun h => by cases h) (fun h => ?_)
  refine runS_x (I := inf) (J := jnf) ⟨false, false, [], 0, 0⟩ 9999 rfl (by repeat (first | exact obs_nil | refine obs_draw (by kernel_rfl) ?_ | refine obs_same ?_ | refine obs_and ?_ | refine obs_by (by (simp [inB] <;> omega)) ?_)) ?_
  refine runS_cond rfl (fun h => by cases h) (fun h => ?_)
  refine runS_x (I := inf) (J := jnf) ⟨false, false, [], 0, 0⟩ 9999 rfl (by repeat (first | exact obs_nil | refine obs_draw (by kernel_rfl) ?_ | refine obs_same ?_ | refine obs_and ?_ | refine obs_by (by (simp [inB] <;> omega)) ?_)) ?_
  refine runS_cond rfl (fun h => by cases h) (fun h => ?_)
  refine runS_x (I := inf) (J := jnf) ⟨false, false, [], 0, 0⟩ 9999 rfl (by repeat (first | exact obs_nil | refine obs_draw (by kernel_rfl) ?_ | refine obs_same ?_ | refine obs_and ?_ | refine obs_by (by (simp [inB] <;> omega)) ?_)) ?_
  refine runS_cond rfl (fun h => by cases h) (fun h => ?_)
  refine runS_x (I := inf) (J := jnf) ⟨false, false, [], 0, 0⟩ 9999 rfl (by repeat (first | exact obs_nil | refine obs_draw (by kernel_rfl) ?_ | refine obs_same ?_ | refine obs_and ?_ | refine obs_by (by (simp [inB] <;> omega)) ?_)) ?_
  refine runS_cond rfl (fun h => by cases h) (fun h => ?_)
  refine runS_x (I := inf) (J := jnf) ⟨false, false, [], 0, 0⟩ 9999 rfl (by repeat (first | exact obs_nil | refine obs_draw (by kernel_rfl) ?_ | refine obs_same ?_ | refine obs_and ?_ | refine obs_by (by (simp [inB] <;> omega)) ?_)) ?_
  refine runS_cond rfl (fun h => ?_) (fun h => by cases h)
  refine runS_x (I := inf) (J := jnf) ⟨false, false, [], 0, 0⟩ 9999 rfl (by repeat (first | exact obs_nil | refine obs_draw (by kernel_rfl) ?_ | refine obs_same ?_ | refine obs_and ?_ | refine obs_by (by (simp [inB, blS] <;> omega)) ?_)) ?_
  have hb250 : condOf none (if (if (n == 0) = true then (q == 0) else false) = true then decide (((bl (bs s)).length : Int) ≤ 250) else false) true = true → s.length ≤ 250 := fun h => by
    by_cases hl : s.length ≤ 250
    · exact hl
    · exfalso
      rw [show decide (((bl (bs s)).length : Int) ≤ 250) = false from decide_eq_false (by rw [blS]; omega)] at h
      revert h
      cases n == 0 <;> cases q == 0 <;> decide
  refine runS_callU rfl rfl (by first | exact .v rfl rfl rfl rfl | exact .o rfl rfl rfl rfl) rfl rfl (by repeat (first | exact .nil | refine .cons (.n rfl) ?_ | refine .cons .o ?_ | refine .cons gok_and ?_)) rfl rfl rfl rfl rfl (fun h => lib_trim s [48, 49] (by have := hb250 h; omega) (by decide) (by decide)) ?_
  refine runS_x (I := inf) (J := jnf) ⟨false, false, [], 0, 0⟩ 9999 rfl (by repeat (first | exact obs_nil | refine obs_draw (by kernel_rfl) ?_ | refine obs_same ?_ | refine obs_and ?_ | refine obs_by (by (simp [inB] <;> omega)) ?_)) ?_
  refine runS_ret (I := inf) 0 rfl (Nat.le_refl _) rfl .nil rfl ⟨?_, rfl⟩
  refine congrArg (fun x => Out.ret (bv x)) ?_
  have e : decide (((bl (bs s)).length : Int) ≤ 250) = decide (s.length ≤ 250) := by
    rw [blS, Bool.eq_iff_iff, decide_eq_true_iff, decide_eq_true_iff]
    omega
  have e3 : decide (Lib.trimS s [48, 49] = []) = s.all isBit := by
    rw [Bool.eq_iff_iff, decide_eq_true_iff]
    exact trim_all s
  rw [e, txt_nil, e3]
  have e2 : rightB 5 n q s = (decide (n = 0 ∧ q = 0 ∧ s.length ≤ 250) && s.all isBit) := rfl
  rw [e2]
  by_cases h1 : n = 0 <;> by_cases h2 : q = 0 <;> by_cases h3 : s.length ≤ 250 <;> simp [h1, h2, h3]
theorem d_right_3 : CallT Tryz.prog 32 [.agg (vaE 3 n q s)] [] (fun o A => o = .ret (bv (rightB 3 n q s)) ∧ A = []) := by
  refine callS_body (n := 147) rfl rfl fun w ρ X => ?_
  refine runS_x (I := inf) (J := jnf) ⟨false, false, [], 0, 0⟩ 9999 rfl (by repeat (first | exact obs_nil | refine obs_draw (by kernel_rfl) ?_ | refine obs_same ?_ | refine obs_and ?_ | refine obs_by (by (simp [inB] <;> omega)) ?_)) ?_
  refine runS_cond rfl (fun h => by cases h) (fun h => ?_)
  refine runS_x (I := inf) (J := jnf) ⟨false, false, [], 0, 0⟩ 9999 rfl (by repeat (first | exact obs_nil | refine obs_draw (by kernel_rfl) ?_ | refine obs_same ?_ | refine obs_and ?_ | refine obs_by (by (simp [inB] <;> omega)) ?_)) ?_
  refine runS_cond rfl (fun h => by cases h) (fun h => ?_)
  refine runS_x (I := inf) (J := jnf) ⟨false, false, [], 0, 0⟩ 9999 rfl (by repeat (first | exact obs_nil | refine obs_draw (by kernel_rfl) ?_ | refine obs_same ?_ | refine obs_and ?_ | refine obs_by (by (simp [inB] <;> omega)) ?_)) ?_
  refine runS_cond rfl (fun h => ?_) (fun h => by cases h)
  refine runS_x (I := inf) (J := jnf) ⟨false, false, [], 0, 0⟩ 9999 rfl (by repeat (first | exact obs_nil | refine obs_draw (by kernel_rfl) ?_ | refine obs_same ?_ | refine obs_and ?_ | refine obs_by (by (simp [inB] <;> omega)) ?_)) ?_
  refine runS_callU rfl rfl (by first | exact .v rfl rfl rfl rfl | exact .o rfl rfl rfl rfl) rfl rfl (by repeat (first | exact .nil | refine .cons (.n rfl) ?_ | refine .cons .o ?_ | refine .cons gok_and ?_)) rfl rfl rfl rfl rfl (fun _ => (d_within _ _ _)) ?_
  refine runS_x (I := inf) (J := jnf) ⟨false, false, [], 0, 0⟩ 9999 rfl (by repeat (first | exact obs_nil | refine obs_draw (by kernel_rfl) ?_ | refine obs_same ?_ | refine obs_and ?_ | refine obs_by (by (simp [inB] <;> omega)) ?_)) ?_
  refine runS_callU rfl rfl (by first | exact .v rfl rfl rfl rfl | exact .o rfl rfl rfl rfl) rfl rfl (by repeat (first | exact .nil | refine .cons (.n rfl) ?_ | refine .cons .o ?_ | refine .cons gok_and ?_)) rfl rfl rfl rfl rfl (fun _ => (d_within _ _ _)) ?_
  refine runS_x (I := inf) (J := jnf) ⟨false, false, [], 0, 0⟩ 9999 rfl (by repeat (first | exact obs_nil | refine obs_draw (by kernel_rfl) ?_ | refine obs_same ?_ | refine obs_and ?_ | refine obs_by (by (simp [inB] <;> omega)) ?_)) ?_
  have hcd : (if (if (!((bs s).toList == (ByteArray.mk #[]).toList)) = true then true else !(decide (-999999999999999 ≤ n) && decide (n ≤ 999999999999999))) = true then true else !(decide (-1000 ≤ q) && decide (q ≤ 1000))) = decide (s ≠ [] ∨ n ≤ -1000000000000000 ∨ n ≥ 1000000000000000 ∨ q < -1000 ∨ q > 1000) := by
    rw [txt_nil, Bool.eq_iff_iff]
    by_cases hs0 : s = [] <;> simp [hs0] <;> omega
  refine runS_cond rfl (fun h => ?_) (fun h => ?_)
  · have hc := of_decide_eq_true (hcd.symm.trans h)
    refine runS_x (I := inf) (J := jnf) ⟨false, false, [], 0, 0⟩ 9999 rfl (by repeat (first | exact obs_nil | refine obs_draw (by kernel_rfl) ?_ | refine obs_same ?_ | refine obs_and ?_ | refine obs_by (by (simp [inB] <;> omega)) ?_)) ?_
    refine runS_ret (I := inf) 0 rfl (Nat.le_refl _) rfl .nil rfl ⟨?_, rfl⟩
    refine congrArg (fun x => Out.ret (bv x)) ?_
    symm
    rw [← Bool.not_eq_true]
    by_cases hs0 : s = []
    · simp only [hs0, ne_eq, not_true_eq_false, false_or] at hc
      by_cases hn0 : n = 0
      · simp [rightB, hs0, hn0]; omega
      · simp [rightB, hs0, hn0]; omega
    · simp [rightB, hs0]
  · have hc := of_decide_eq_false (hcd.symm.trans h)
    have hs0 : s = [] := Decidable.byContradiction fun e => hc (.inl e)
    subst hs0
    have hc2 : ¬ (n ≤ -1000000000000000 ∨ n ≥ 1000000000000000 ∨ q < -1000 ∨ q > 1000) := fun e => hc (.inr e)
    refine runS_x (I := inf) (J := jnf) ⟨false, false, [], 0, 0⟩ 9999 rfl (by repeat (first | exact obs_nil | refine obs_draw (by kernel_rfl) ?_ | refine obs_same ?_ | refine obs_and ?_ | refine obs_by (by (simp [inB] <;> omega)) ?_)) ?_
    refine runS_cond rfl (fun h => ?_) (fun h => ?_)
    · have h0 : n = 0 := by simpa using (show (n == 0) = true from h)
      subst h0
      refine runS_x (I := inf) (J := jnf) ⟨false, false, [], 0, 0⟩ 9999 rfl (by repeat (first | exact obs_nil | refine obs_draw (by kernel_rfl) ?_ | refine obs_same ?_ | refine obs_and ?_ | refine obs_by (by (simp [inB] <;> omega)) ?_)) ?_
      refine runS_ret (I := inf) 0 rfl (Nat.le_refl _) rfl .nil rfl ⟨?_, rfl⟩
      refine congrArg (fun x => Out.ret (bv x)) ?_
      rw [Bool.eq_iff_iff]
      simp [rightB]
    · have h0 : ¬ n = 0 := by simpa using (show (n == 0) = false from h)
      have hab : (if IntKind.wrap .i64 (0 - n) > n then IntKind.wrap .i64 (0 - n) else n) = ((n.natAbs : Nat) : Int) := by
        rw [w64 (by omega) (by omega)]
        split <;> omega
      have hof : CallT Tryz.prog 87 [.val (.int .i64 (if IntKind.wrap .i64 (0 - n) > n then IntKind.wrap .i64 (0 - n) else n))] [] (fun o A => o = .ret (limS none (frm n.natAbs)) ∧ A = []) := by rw [hab]; exact d_of n.natAbs (by omega)
      have hl : (frm n.natAbs).length ≤ 19 := frm_len_lt.2 (by omega)
      have hwr : IntKind.wrap .i64 (IntKind.wrap .i64 (((frm n.natAbs).length : Int) + q) - 1) = ((frm n.natAbs).length : Int) + q - 1 := by rw [w64 (x := ((frm n.natAbs).length : Int) + q) (by omega) (by omega), w64 (by omega) (by omega)]
      refine runS_x (I := inf) (J := jnf) ⟨false, false, [], 0, 0⟩ 9999 rfl (by repeat (first | exact obs_nil | refine obs_draw (by kernel_rfl) ?_ | refine obs_same ?_ | refine obs_and ?_ | refine obs_by (by (simp [inB] <;> omega)) ?_)) ?_
      refine runS_draw 15 (by kernel_rfl) (lexj_x (I := inf) (J := jnf) 99 rfl rfl (by repeat (first | exact obs_nil | refine obs_same ?_ | refine obs_and ?_ | refine obs_by (by first | exact (fun _ => nz10) | (simp [inB] <;> omega)) ?_)) (lexj_callU rfl rfl (by first | exact .v rfl rfl rfl rfl | exact .o rfl rfl rfl rfl) rfl rfl (by repeat (first | exact .nil | refine .cons (.n rfl) ?_ | refine .cons .o ?_ | refine .cons gok_and ?_)) rfl rfl rfl rfl rfl (fun hcond => hof) (lexj_x (I := inf) (J := jnf) 99 rfl rfl (by repeat (first | exact obs_nil | refine obs_same ?_ | refine obs_and ?_ | refine obs_by (by first | exact (fun _ => nz10) | (simp [inB] <;> omega)) ?_)) lexj_nil))) ?_
      refine runS_x (I := inf) (J := jnf) ⟨false, false, [], 0, 0⟩ 9999 rfl (by repeat (first | exact obs_nil | refine obs_draw (by kernel_rfl) ?_ | refine obs_same ?_ | refine obs_and ?_ | refine obs_by (by (simp [inB] <;> omega)) ?_)) ?_
      refine runS_callU rfl rfl (by first | exact .v rfl rfl rfl rfl | exact .o rfl rfl rfl rfl) rfl rfl (by repeat (first | exact .nil | refine .cons (.n rfl) ?_ | refine .cons .o ?_ | refine .cons gok_and ?_)) rfl rfl rfl rfl rfl (fun _ => (d_within _ _ _)) ?_
      refine runS_x (I := inf) (J := jnf) ⟨false, false, [], 0, 0⟩ 9999 rfl (by repeat (first | exact obs_nil | refine obs_draw (by kernel_rfl) ?_ | refine obs_same ?_ | refine obs_and ?_ | refine obs_by (by (simp [inB] <;> omega)) ?_)) ?_
      refine runS_ret (I := inf) 0 rfl (Nat.le_refl _) rfl .nil rfl ⟨?_, rfl⟩
      refine congrArg (fun x => Out.ret (bv x)) ?_
      rw [hwr, show (n.tmod 10 != 0) = !decide (n.natAbs % 10 = 0) by unfold bne; rw [tmod10], Bool.eq_iff_iff]
      simp [rightB, h0]
      omega
end
theorem d_right (kd n q : Int) (s : Str) : CallT Tryz.prog 32 [.agg (vaE kd n q s)] [] (fun o A => o = .ret (bv (rightB kd n q s)) ∧ A = []) := by
  by_cases h : kd ≤ 0 ∨ 10 ≤ kd
  · have hr : rightB kd n q s = false := by
      unfold rightB
      rw [if_neg (by omega), if_neg (by omega), if_neg (by omega), if_neg (by omega), if_neg (by omega), if_neg (by omega), if_neg (by omega)]
    rw [hr]
    refine callS_body (n := 147) rfl rfl fun w ρ X => ?_
    refine runS_x (I := inf) (J := jnf) ⟨false, false, [], 0, 0⟩ 9999 rfl (by repeat (first | exact obs_nil | refine obs_draw (by kernel_rfl) ?_ | refine obs_same ?_ | refine obs_and ?_ | refine obs_by (by (simp [inB] <;> omega)) ?_)) ?_
    refine runS_cond rfl (fun h => by simp at h; omega) (fun h => ?_)
    refine runS_x (I := inf) (J := jnf) ⟨false, false, [], 0, 0⟩ 9999 rfl (by repeat (first | exact obs_nil | refine obs_draw (by kernel_rfl) ?_ | refine obs_same ?_ | refine obs_and ?_ | refine obs_by (by (simp [inB] <;> omega)) ?_)) ?_
    refine runS_cond rfl (fun h => by simp at h; omega) (fun h => ?_)
    refine runS_x (I := inf) (J := jnf) ⟨false, false, [], 0, 0⟩ 9999 rfl (by repeat (first | exact obs_nil | refine obs_draw (by kernel_rfl) ?_ | refine obs_same ?_ | refine obs_and ?_ | refine obs_by (by (simp [inB] <;> omega)) ?_)) ?_
    refine runS_cond rfl (fun h => by simp at h; omega) (fun h => ?_)
    refine runS_x (I := inf) (J := jnf) ⟨false, false, [], 0, 0⟩ 9999 rfl (by repeat (first | exact obs_nil | refine obs_draw (by kernel_rfl) ?_ | refine obs_same ?_ | refine obs_and ?_ | refine obs_by (by (simp [inB] <;> omega)) ?_)) ?_
    refine runS_cond rfl (fun h => by simp at h; omega) (fun h => ?_)
    refine runS_x (I := inf) (J := jnf) ⟨false, false, [], 0, 0⟩ 9999 rfl (by repeat (first | exact obs_nil | refine obs_draw (by kernel_rfl) ?_ | refine obs_same ?_ | refine obs_and ?_ | refine obs_by (by (simp [inB] <;> omega)) ?_)) ?_
    refine runS_cond rfl (fun h => by simp at h; omega) (fun h => ?_)
    refine runS_x (I := inf) (J := jnf) ⟨false, false, [], 0, 0⟩ 9999 rfl (by repeat (first | exact obs_nil | refine obs_draw (by kernel_rfl) ?_ | refine obs_same ?_ | refine obs_and ?_ | refine obs_by (by (simp [inB] <;> omega)) ?_)) ?_
    refine runS_cond rfl (fun h => by simp at h; omega) (fun h => ?_)
    refine runS_x (I := inf) (J := jnf) ⟨false, false, [], 0, 0⟩ 9999 rfl (by repeat (first | exact obs_nil | refine obs_draw (by kernel_rfl) ?_ | refine obs_same ?_ | refine obs_and ?_ | refine obs_by (by (simp [inB] <;> omega)) ?_)) ?_
    refine runS_cond rfl (fun h => by simp at h; omega) (fun h => ?_)
    refine runS_x (I := inf) (J := jnf) ⟨false, false, [], 0, 0⟩ 9999 rfl (by repeat (first | exact obs_nil | refine obs_draw (by kernel_rfl) ?_ | refine obs_same ?_ | refine obs_and ?_ | refine obs_by (by (simp [inB] <;> omega)) ?_)) ?_
    refine runS_cond rfl (fun h => by simp at h; omega) (fun h => ?_)
    refine runS_x (I := inf) (J := jnf) ⟨false, false, [], 0, 0⟩ 9999 rfl (by repeat (first | exact obs_nil | refine obs_draw (by kernel_rfl) ?_ | refine obs_same ?_ | refine obs_and ?_ | refine obs_by (by (simp [inB] <;> omega)) ?_)) ?_
    refine runS_cond rfl (fun h => by simp at h; omega) (fun h => ?_)
    refine runS_x (I := inf) (J := jnf) ⟨false, false, [], 0, 0⟩ 9999 rfl (by repeat (first | exact obs_nil | refine obs_draw (by kernel_rfl) ?_ | refine obs_same ?_ | refine obs_and ?_ | refine obs_by (by (simp [inB] <;> omega)) ?_)) ?_
    refine runS_ret (I := inf) 0 rfl (Nat.le_refl _) rfl .nil rfl ⟨?_, rfl⟩
    rfl
  · have : kd = 1 ∨ kd = 2 ∨ kd = 3 ∨ kd = 4 ∨ kd = 5 ∨ kd = 6 ∨ kd = 7 ∨ kd = 8 ∨ kd = 9 := by omega
    rcases this with rfl | rfl | rfl | rfl | rfl | rfl | rfl | rfl | rfl
    · exact d_right_1 n q s
    · exact d_right_2 n q s
    · exact d_right_3 n q s
    · exact d_right_4 n q s
    · exact d_right_5 n q s
    · exact d_right_6 n q s
    · exact d_right_7 n q s
    · exact d_right_8 n q s
    · exact d_right_9 n q s
end Go.Iron.Tryz

/- The digits' seat: what is asked of values; fitted numbers. -/
namespace Go.Iron.Tryz
open Go.Proofs Go.RowKit Go.Iron.Tok Go.Iron.Dg

@[reducible] def vlE (v : Vl) : List AV := vaE v.kind v.n v.q v.s
def vlR (l : List Vl) : Nat → List AV := encR vlE ⟨0, 0, 0, []⟩ l
def vlS (nl : Option Bool) (l : List Vl) : AV := .slc 4 nl l.length (vlR l)
theorem valid_num {t : Typ} (h : validT t = true) (hk : numK t.kind = true) : ∃ P Q : Nat, t.p = P ∧ t.q = Q ∧ 1 ≤ P ∧ P ≤ 31 ∧ Q ≤ 31 ∧ (t.kind = 1 ∨ t.kind = 2 ∧ P ≤ 15 ∨ t.kind = 3 ∧ P ≤ 15 ∧ Q = 0) := by
  have hk3 : t.kind = 1 ∨ t.kind = 2 ∨ t.kind = 3 := by
    unfold numK at hk
    simp at hk
    omega
  unfold validT inR at h
  rcases hk3 with hk | hk | hk
  · rw [if_pos hk] at h
    simp at h
    exact ⟨t.p.toNat, t.q.toNat, by omega, by omega, by omega, by omega, by omega, .inl hk⟩
  · rw [if_neg (by omega), if_pos hk] at h
    simp at h
    exact ⟨t.p.toNat, t.q.toNat, by omega, by omega, by omega, by omega, by omega, .inr (.inl ⟨hk, by omega⟩)⟩
  · rw [if_neg (by omega), if_neg (by omega), if_pos hk] at h
    simp at h
    exact ⟨t.p.toNat, t.q.toNat, by omega, by omega, by omega, by omega, by omega, .inr (.inr ⟨hk, by omega, by omega⟩)⟩
theorem d_fitted (L : Lg) (t : Typ) (big : Int) (hv : validT t = true) (hk : numK t.kind = true) (hL : Fits L 1500 1000) : CallT Tryz.prog 108 [lgA L, .agg (typE t), iv big] [] (fun o A => o = .ret (numA t.kind (fitL t.kind t.p.toNat t.q.toNat L big)) ∧ A = []) := by
  obtain ⟨P, Q, hP, hQ, hP1, hP2, hQ2, hkd⟩ := valid_num hv hk
  have hfx : t.kind ≠ 3 → CallT Tryz.prog 176 [lgA L, .agg (typE t)] [] (fun o A => o = .ret (.tup [iv (sgn L.neg (mFix t.kind L.m Q L.exp % bsN t.kind ^ P)), bv (decide (mFix t.kind L.m Q L.exp ≥ bsN t.kind ^ P))]) ∧ A = []) := fun h3 => d_fixed L t P Q (by omega) hP hQ hQ2 hL
  obtain ⟨kd, p, q, n, vy, pc⟩ := t
  dsimp only at hP hQ hkd hfx ⊢
  subst hP; subst hQ
  rw [Int.toNat_natCast, Int.toNat_natCast]
  by_cases h3 : kd = 3
  · subst h3
    have hF : fitL 3 P Q L big = fltO L.neg (fltL L.m L.exp P) := by
      unfold fitL
      rw [if_pos rfl]
      by_cases h0 : L.m = 0
      · rw [if_pos h0]
        unfold fltL
        rw [h0, frm_zero, if_neg (by simp), normD_zero]
        rfl
      · rw [if_neg h0]
    rw [hF]
    refine callS_body (n := 34) rfl rfl fun w ρ X => ?_
    refine runS_x (I := inf) (J := jnf) ⟨false, false, [], 0, 0⟩ 9999 rfl (by repeat (first | exact obs_nil | refine obs_draw (by kernel_rfl) ?_ | refine obs_same ?_ | refine obs_and ?_ | refine obs_by (by (simp [inB] <;> omega)) ?_)) ?_
    refine runS_cond rfl (fun h => ?_) (fun h => by cases h)
    refine runS_x (I := inf) (J := jnf) ⟨false, false, [], 0, 0⟩ 9999 rfl (by repeat (first | exact obs_nil | refine obs_draw (by kernel_rfl) ?_ | refine obs_same ?_ | refine obs_and ?_ | refine obs_by (by (simp [inB] <;> omega)) ?_)) ?_
    refine runS_call rfl rfl rfl rfl rfl rfl rfl (d_float L P (by omega) hP1 hL) ?_
    refine runS_x (I := inf) (J := jnf) ⟨false, false, [], 0, 0⟩ 9999 rfl (by repeat (first | exact obs_nil | refine obs_draw (by kernel_rfl) ?_ | refine obs_same ?_ | refine obs_and ?_ | refine obs_by (by (simp [inB] <;> omega)) ?_)) ?_
    refine runS_ret (I := inf) 0 rfl (Nat.le_refl _) rfl .nil rfl ⟨?_, rfl⟩
    rfl
  · have hF : fitL kd P Q L big = (sgn L.neg (mFix kd L.m Q L.exp % bsN kd ^ P), (Q : Int), if mFix kd L.m Q L.exp ≥ bsN kd ^ P then big else 0) := by
      unfold fitL
      rw [if_neg h3]
    rw [hF]
    refine callS_body (n := 34) rfl rfl fun w ρ X => ?_
    refine runS_x (I := inf) (J := jnf) ⟨false, false, [], 0, 0⟩ 9999 rfl (by repeat (first | exact obs_nil | refine obs_draw (by kernel_rfl) ?_ | refine obs_same ?_ | refine obs_and ?_ | refine obs_by (by (simp [inB] <;> omega)) ?_)) ?_
    refine runS_cond rfl (fun h => absurd (show kd = 3 by simpa using (show (kd == 3) = true from h)) h3) (fun h => ?_)
    refine runS_x (I := inf) (J := jnf) ⟨false, false, [], 0, 0⟩ 9999 rfl (by repeat (first | exact obs_nil | refine obs_draw (by kernel_rfl) ?_ | refine obs_same ?_ | refine obs_and ?_ | refine obs_by (by (simp [inB] <;> omega)) ?_)) ?_
    refine runS_call rfl rfl rfl rfl rfl rfl rfl (hfx h3) ?_
    refine runS_x (I := inf) (J := jnf) ⟨false, false, [], 0, 0⟩ 9999 rfl (by repeat (first | exact obs_nil | refine obs_draw (by kernel_rfl) ?_ | refine obs_same ?_ | refine obs_and ?_ | refine obs_by (by (simp [inB] <;> omega)) ?_)) ?_
    refine runS_cond rfl (fun h => ?_) (fun h => ?_)
    · have hl : ¬ mFix kd L.m Q L.exp ≥ bsN kd ^ P := by simpa using h
      rw [if_neg hl]
      refine runS_x (I := inf) (J := jnf) ⟨false, false, [], 0, 0⟩ 9999 rfl (by repeat (first | exact obs_nil | refine obs_draw (by kernel_rfl) ?_ | refine obs_same ?_ | refine obs_and ?_ | refine obs_by (by (simp [inB] <;> omega)) ?_)) ?_
      refine runS_ret (I := inf) 0 rfl (Nat.le_refl _) rfl .nil rfl ⟨?_, rfl⟩
      rfl
    · have hl : mFix kd L.m Q L.exp ≥ bsN kd ^ P := by simpa using h
      rw [if_pos hl]
      refine runS_x (I := inf) (J := jnf) ⟨false, false, [], 0, 0⟩ 9999 rfl (by repeat (first | exact obs_nil | refine obs_draw (by kernel_rfl) ?_ | refine obs_same ?_ | refine obs_and ?_ | refine obs_by (by (simp [inB] <;> omega)) ?_)) ?_
      refine runS_ret (I := inf) 0 rfl (Nat.le_refl _) rfl .nil rfl ⟨?_, rfl⟩
      rfl
theorem all_take {α : Type} {p : α → Bool} {l : List α} {i : Nat} (h : (l.take i).all p = true) (hi : i < l.length) (hp : p (l[i]) = true) : (l.take (i + 1)).all p = true := by
  rw [List.take_succ_eq_append_getElem hi, List.all_append, h]
  simp [hp]
theorem vl_get {l : List Vl} {i : Nat} (hi : i < l.length) : l.getD i ⟨0, 0, 0, []⟩ = l[i] := by
  rw [List.getD_eq_getElem?_getD, List.getElem?_eq_getElem hi]; rfl
theorem d_askedN (n1 : Option Bool) (l : List Vl) (hl : l.length ≤ 100000) : CallT Tryz.prog 101 [.val (.pointer none), vlS n1 l] [] (fun o A => o = .ret (iv (askL none l)) ∧ A = []) := by
  refine callS_body (n := 49) rfl rfl fun w ρ X => ?_
  refine runS_x (I := inf) (J := jnf) ⟨false, false, [], 0, 0⟩ 9999 rfl (by repeat (first | exact obs_nil | refine obs_draw (by kernel_rfl) ?_ | refine obs_same ?_ | refine obs_and ?_ | refine obs_by (by (simp [inB] <;> omega)) ?_)) ?_
  refine runS_while (fun (i : Nat) τ ar => (τ 0 = .val (.pointer none) ∧ τ 1 = vlS n1 l ∧ τ 9 = vlS n1 l ∧ τ 10 = iv l.length ∧ τ 11 = iv i) ∧ ar = [] ∧ i ≤ l.length ∧ (l.take i).all Vl.right = true) (fun i => l.length - i) 0 ⟨⟨rfl, rfl, rfl, rfl, rfl⟩, rfl, Nat.zero_le _, rfl⟩ ?_
  rintro i τ' ar' ⟨⟨g0, g1, g9, g10, g11⟩, rfl, hi, ha⟩ ih
  refine runS_says 0 (by exact g0) (Says.refl _) ?_; refine runS_says 1 (by exact g1) (Says.refl _) ?_; refine runS_says 9 (by exact g9) (Says.refl _) ?_; refine runS_says 10 (by exact g10) (Says.refl _) ?_; refine runS_says 11 (by exact g11) (Says.refl _) ?_
  refine runS_x (I := inf) (J := jnf) ⟨false, false, [], 0, 0⟩ 9999 rfl (by repeat (first | exact obs_nil | refine obs_draw (by kernel_rfl) ?_ | refine obs_same ?_ | refine obs_and ?_ | refine obs_by (by (simp [inB] <;> omega)) ?_)) ?_
  refine runS_cond rfl (fun h => ?_) (fun h => ?_)
  · have hlt : i < l.length := by simp at h; omega
    have hw1 : IntKind.wrap .i64 ((i : Int) + 1) = ((i + 1 : Nat) : Int) := by rw [w64 (by omega) (by omega)]; rfl
    have hv := vl_get hlt
    refine runS_x (I := inf) (J := jnf) ⟨false, false, [], 0, 0⟩ 9999 rfl (by repeat (first | exact obs_nil | refine obs_draw (by kernel_rfl) ?_ | refine obs_same ?_ | refine obs_and ?_ | refine obs_by (by (simp [inB, hlt] <;> omega)) ?_)) ?_
    refine runS_call rfl rfl rfl rfl rfl rfl rfl (d_right (l.getD i ⟨0, 0, 0, []⟩).kind (l.getD i ⟨0, 0, 0, []⟩).n (l.getD i ⟨0, 0, 0, []⟩).q (l.getD i ⟨0, 0, 0, []⟩).s) ?_
    refine runS_x (I := inf) (J := jnf) ⟨false, false, [], 0, 0⟩ 9999 rfl (by repeat (first | exact obs_nil | refine obs_draw (by kernel_rfl) ?_ | refine obs_same ?_ | refine obs_and ?_ | refine obs_by (by (simp [inB] <;> omega)) ?_)) ?_
    refine runS_cond rfl (fun h2 => ?_) (fun h2 => ?_)
    · have hr : (l[i]).right = false := by
        rw [← hv]
        have h3 : (!(l.getD i ⟨0, 0, 0, []⟩).right) = true := h2
        rw [Bool.not_eq_true'] at h3
        exact h3
      have hE : askL none l = 1 := by
        unfold askL
        rw [if_pos]
        rw [List.all_eq_false]
        exact ⟨_, List.getElem_mem hlt, by rw [hr]; decide⟩
      rw [hE]
      refine runS_x (I := inf) (J := jnf) ⟨false, false, [], 0, 0⟩ 9999 rfl (by repeat (first | exact obs_nil | refine obs_draw (by kernel_rfl) ?_ | refine obs_same ?_ | refine obs_and ?_ | refine obs_by (by (simp [inB] <;> omega)) ?_)) ?_
      refine runS_ret (I := inf) 0 rfl (Nat.le_refl _) rfl .nil rfl ⟨?_, rfl⟩
      rfl
    · have hr : (l[i]).right = true := by
        rw [← hv]
        have h3 : (!(l.getD i ⟨0, 0, 0, []⟩).right) = false := h2
        rw [Bool.not_eq_false'] at h3
        exact h3
      refine runS_x (I := inf) (J := jnf) ⟨false, false, [], 0, 0⟩ 9999 rfl (by repeat (first | exact obs_nil | refine obs_draw (by kernel_rfl) ?_ | refine obs_same ?_ | refine obs_and ?_ | refine obs_by (by (simp [inB] <;> omega)) ?_)) ?_
      refine runS_drop 0 (Nat.zero_le _) rfl (by repeat (first | exact .nil | refine .row (fun j hj => rfl) ?_ | refine .box rfl ?_ | refine .fam (fun k j hk hj => rfl) ?_ | refine .loop (scrub_under _ _) ?_ | refine .dfr ?_ | refine .gone ?_ | refine .map (fun p hp => by (obtain ⟨k, _, rfl⟩ := List.mem_map.1 hp; rfl)) ?_)) rfl rfl rfl (by repeat (first | exact .nil | refine .cons rfl rfl rfl (scrub_under _ _) ?_)) ?_
      exact ih (i + 1) _ _ (by omega) ⟨⟨rfl, rfl, rfl, rfl, congrArg iv hw1⟩, rfl, by omega, all_take ha hlt hr⟩
  · have hie : i = l.length := by simp at h; omega
    subst hie
    rw [List.take_length] at ha
    refine runS_x (I := inf) (J := jnf) ⟨false, false, [], 0, 0⟩ 9999 rfl (by repeat (first | exact obs_nil | refine obs_draw (by kernel_rfl) ?_ | refine obs_same ?_ | refine obs_and ?_ | refine obs_by (by (simp [inB] <;> omega)) ?_)) ?_
    refine runS_op (.val (.bool false)) rfl rfl rfl (op_pnilNe Tryz.underlying130 rfl rfl rfl) ?_
    refine runS_x (I := inf) (J := jnf) ⟨false, false, [], 0, 0⟩ 9999 rfl (by repeat (first | exact obs_nil | refine obs_draw (by kernel_rfl) ?_ | refine obs_same ?_ | refine obs_and ?_ | refine obs_by (by (simp [inB] <;> omega)) ?_)) ?_
    refine runS_opV (.val (.pointer none)) rfl rfl (.v rfl rfl rfl rfl) rfl rfl [] (l := [22]) (.cons .o .nil) (fun hc => by cases hc) ?_
    refine runS_opV (.agg (typE ⟨0, 0, 0, 0, false, []⟩)) rfl rfl (.v rfl rfl rfl rfl) rfl rfl [] (l := [23]) (.cons .o .nil) (fun hc => by cases hc) ?_
    refine runS_callU rfl rfl (by first | exact .v rfl rfl rfl rfl | exact .o rfl rfl rfl rfl) rfl rfl (by repeat (first | exact .nil | refine .cons (.n rfl) ?_ | refine .cons .o ?_ | refine .cons gok_and ?_)) rfl rfl rfl rfl rfl (fun _ => (d_valid ⟨0, 0, 0, 0, false, []⟩)) ?_
    refine runS_x (I := inf) (J := jnf) ⟨false, false, [], 0, 0⟩ 9999 rfl (by repeat (first | exact obs_nil | refine obs_draw (by kernel_rfl) ?_ | refine obs_same ?_ | refine obs_and ?_ | refine obs_by (by (simp [inB] <;> omega)) ?_)) ?_
    refine runS_cond rfl (fun h => by cases h) (fun h => ?_)
    refine runS_x (I := inf) (J := jnf) ⟨false, false, [], 0, 0⟩ 9999 rfl (by repeat (first | exact obs_nil | refine obs_draw (by kernel_rfl) ?_ | refine obs_same ?_ | refine obs_and ?_ | refine obs_by (by (simp [inB] <;> omega)) ?_)) ?_
    clear ih hi g0 g1 g9 g10 g11
    refine runS_while (fun (i : Nat) τ ar => (τ 0 = .val (.pointer none) ∧ τ 28 = vlS n1 l ∧ τ 29 = iv l.length ∧ τ 30 = iv i) ∧ ar = [] ∧ i ≤ l.length ∧ (l.take i).all (fun v => numK v.kind) = true) (fun i => l.length - i) 0 ⟨⟨rfl, rfl, rfl, rfl⟩, rfl, Nat.zero_le _, rfl⟩ ?_
    rintro i τ2 ar2 ⟨⟨g0, g28, g29, g30⟩, rfl, hi, hb⟩ ih
    refine runS_says 0 (by exact g0) (Says.refl _) ?_; refine runS_says 28 (by exact g28) (Says.refl _) ?_; refine runS_says 29 (by exact g29) (Says.refl _) ?_; refine runS_says 30 (by exact g30) (Says.refl _) ?_
    refine runS_x (I := inf) (J := jnf) ⟨false, false, [], 0, 0⟩ 9999 rfl (by repeat (first | exact obs_nil | refine obs_draw (by kernel_rfl) ?_ | refine obs_same ?_ | refine obs_and ?_ | refine obs_by (by (simp [inB] <;> omega)) ?_)) ?_
    refine runS_cond rfl (fun h => ?_) (fun h => ?_)
    · have hlt : i < l.length := by simp at h; omega
      have hw1 : IntKind.wrap .i64 ((i : Int) + 1) = ((i + 1 : Nat) : Int) := by rw [w64 (by omega) (by omega)]; rfl
      have hv := vl_get hlt
      refine runS_x (I := inf) (J := jnf) ⟨false, false, [], 0, 0⟩ 9999 rfl (by repeat (first | exact obs_nil | refine obs_draw (by kernel_rfl) ?_ | refine obs_same ?_ | refine obs_and ?_ | refine obs_by (by (simp [inB, hlt] <;> omega)) ?_)) ?_
      refine runS_call rfl rfl rfl rfl rfl rfl rfl (d_isNumber (l.getD i ⟨0, 0, 0, []⟩).kind) ?_
      refine runS_x (I := inf) (J := jnf) ⟨false, false, [], 0, 0⟩ 9999 rfl (by repeat (first | exact obs_nil | refine obs_draw (by kernel_rfl) ?_ | refine obs_same ?_ | refine obs_and ?_ | refine obs_by (by (simp [inB] <;> omega)) ?_)) ?_
      refine runS_cond rfl (fun h2 => ?_) (fun h2 => ?_)
      · have hr : numK (l[i]).kind = false := by
          rw [← hv]
          have h3 : (!numK (l.getD i ⟨0, 0, 0, []⟩).kind) = true := h2
          rw [Bool.not_eq_true'] at h3
          exact h3
        have hE : askL none l = 10 := by
          unfold askL
          rw [if_neg (by rw [ha]; decide), if_neg (by simp), if_pos]
          rw [List.all_eq_false]
          exact ⟨_, List.getElem_mem hlt, by rw [hr]; decide⟩
        rw [hE]
        refine runS_x (I := inf) (J := jnf) ⟨false, false, [], 0, 0⟩ 9999 rfl (by repeat (first | exact obs_nil | refine obs_draw (by kernel_rfl) ?_ | refine obs_same ?_ | refine obs_and ?_ | refine obs_by (by (simp [inB] <;> omega)) ?_)) ?_
        refine runS_ret (I := inf) 0 rfl (Nat.le_refl _) rfl .nil rfl ⟨?_, rfl⟩
        rfl
      · have hr : numK (l[i]).kind = true := by
          rw [← hv]
          have h3 : (!numK (l.getD i ⟨0, 0, 0, []⟩).kind) = false := h2
          rw [Bool.not_eq_false'] at h3
          exact h3
        refine runS_x (I := inf) (J := jnf) ⟨false, false, [], 0, 0⟩ 9999 rfl (by repeat (first | exact obs_nil | refine obs_draw (by kernel_rfl) ?_ | refine obs_same ?_ | refine obs_and ?_ | refine obs_by (by (simp [inB] <;> omega)) ?_)) ?_
        refine runS_drop 0 (Nat.zero_le _) rfl (by repeat (first | exact .nil | refine .row (fun j hj => rfl) ?_ | refine .box rfl ?_ | refine .fam (fun k j hk hj => rfl) ?_ | refine .loop (scrub_under _ _) ?_ | refine .dfr ?_ | refine .gone ?_ | refine .map (fun p hp => by (obtain ⟨k, _, rfl⟩ := List.mem_map.1 hp; rfl)) ?_)) rfl rfl rfl (by repeat (first | exact .nil | refine .cons rfl rfl rfl (scrub_under _ _) ?_)) ?_
        exact ih (i + 1) _ _ (by omega) ⟨⟨rfl, rfl, rfl, congrArg iv hw1⟩, rfl, by omega, all_take hb hlt hr⟩
    · have hie : i = l.length := by simp at h; omega
      subst hie
      rw [List.take_length] at hb
      have hE : askL none l = 0 := by
        unfold askL
        rw [if_neg (by rw [ha]; decide), if_neg (by simp), if_neg (by rw [hb]; decide), if_neg (by simp)]
      rw [hE]
      refine runS_x (I := inf) (J := jnf) ⟨false, false, [], 0, 0⟩ 9999 rfl (by repeat (first | exact obs_nil | refine obs_draw (by kernel_rfl) ?_ | refine obs_same ?_ | refine obs_and ?_ | refine obs_by (by (simp [inB] <;> omega)) ?_)) ?_
      refine runS_op (.val (.bool false)) rfl rfl rfl (op_pnilNe Tryz.underlying130 rfl rfl rfl) ?_
      refine runS_x (I := inf) (J := jnf) ⟨false, false, [], 0, 0⟩ 9999 rfl (by repeat (first | exact obs_nil | refine obs_draw (by kernel_rfl) ?_ | refine obs_same ?_ | refine obs_and ?_ | refine obs_by (by (simp [inB] <;> omega)) ?_)) ?_
      refine runS_opV (.val (.pointer none)) rfl rfl (.v rfl rfl rfl rfl) rfl rfl [] (l := [42]) (.cons .o .nil) (fun hc => by cases hc) ?_
      refine runS_opV (.val (.pointer none)) rfl rfl (.v rfl rfl rfl rfl) rfl rfl [] (l := [43]) (.cons .o .nil) (fun hc => by cases hc) ?_
      refine runS_opV (iv 0) rfl rfl (.v rfl rfl rfl rfl) rfl rfl [] (l := [44]) (.cons .o .nil) (fun hc => by cases hc) ?_
      refine runS_callU rfl rfl (by first | exact .v rfl rfl rfl rfl | exact .o rfl rfl rfl rfl) rfl rfl (by repeat (first | exact .nil | refine .cons (.n rfl) ?_ | refine .cons .o ?_ | refine .cons gok_and ?_)) rfl rfl rfl rfl rfl (fun _ => (d_isNumber 0)) ?_
      refine runS_x (I := inf) (J := jnf) ⟨false, false, [], 0, 0⟩ 9999 rfl (by repeat (first | exact obs_nil | refine obs_draw (by kernel_rfl) ?_ | refine obs_same ?_ | refine obs_and ?_ | refine obs_by (by (simp [inB] <;> omega)) ?_)) ?_
      refine runS_cond rfl (fun h => by cases h) (fun h => ?_)
      refine runS_x (I := inf) (J := jnf) ⟨false, false, [], 0, 0⟩ 9999 rfl (by repeat (first | exact obs_nil | refine obs_draw (by kernel_rfl) ?_ | refine obs_same ?_ | refine obs_and ?_ | refine obs_by (by (simp [inB] <;> omega)) ?_)) ?_
      refine runS_ret (I := inf) 0 rfl (Nat.le_refl _) rfl .nil rfl ⟨?_, rfl⟩
      rfl
theorem d_asked2 (o0 o1 : AO) (hk0 : ∀ l, Kept 3 l → Kept 3 (o0 :: o1 :: l)) (t : Typ) (n1 : Option Bool) (l : List Vl) (hl : l.length ≤ 100000) : CallT Tryz.prog 101 [.ptr 2 0 0, vlS n1 l] [o0, o1, .box 25 (typE t)] (fun o A => o = .ret (iv (askL (some t) l)) ∧ A = [o0, o1, .box 25 (typE t)]) := by
  refine callS_body (n := 49) rfl rfl fun w ρ X => ?_
  refine runS_x (I := inf) (J := jnf) ⟨false, false, [], 0, 0⟩ 9999 rfl (by repeat (first | exact obs_nil | refine obs_draw (by kernel_rfl) ?_ | refine obs_same ?_ | refine obs_and ?_ | refine obs_by (by (simp [inB] <;> omega)) ?_)) ?_
  refine runS_while (fun (i : Nat) τ ar => (τ 0 = .ptr 2 0 0 ∧ τ 1 = vlS n1 l ∧ τ 9 = vlS n1 l ∧ τ 10 = iv l.length ∧ τ 11 = iv i) ∧ ar = [o0, o1, .box 25 (typE t)] ∧ i ≤ l.length ∧ (l.take i).all Vl.right = true) (fun i => l.length - i) 0 ⟨⟨rfl, rfl, rfl, rfl, rfl⟩, rfl, Nat.zero_le _, rfl⟩ ?_
  rintro i τ' ar' ⟨⟨g0, g1, g9, g10, g11⟩, rfl, hi, ha⟩ ih
  refine runS_says 0 (by exact g0) (Says.refl _) ?_; refine runS_says 1 (by exact g1) (Says.refl _) ?_; refine runS_says 9 (by exact g9) (Says.refl _) ?_; refine runS_says 10 (by exact g10) (Says.refl _) ?_; refine runS_says 11 (by exact g11) (Says.refl _) ?_
  refine runS_x (I := inf) (J := jnf) ⟨false, false, [], 0, 0⟩ 9999 rfl (by repeat (first | exact obs_nil | refine obs_draw (by kernel_rfl) ?_ | refine obs_same ?_ | refine obs_and ?_ | refine obs_by (by (simp [inB] <;> omega)) ?_)) ?_
  refine runS_cond rfl (fun h => ?_) (fun h => ?_)
  · have hlt : i < l.length := by simp at h; omega
    have hw1 : IntKind.wrap .i64 ((i : Int) + 1) = ((i + 1 : Nat) : Int) := by rw [w64 (by omega) (by omega)]; rfl
    have hv := vl_get hlt
    refine runS_x (I := inf) (J := jnf) ⟨false, false, [], 0, 0⟩ 9999 rfl (by repeat (first | exact obs_nil | refine obs_draw (by kernel_rfl) ?_ | refine obs_same ?_ | refine obs_and ?_ | refine obs_by (by (simp [inB, hlt] <;> omega)) ?_)) ?_
    refine runS_call rfl rfl rfl rfl rfl rfl rfl (d_right (l.getD i ⟨0, 0, 0, []⟩).kind (l.getD i ⟨0, 0, 0, []⟩).n (l.getD i ⟨0, 0, 0, []⟩).q (l.getD i ⟨0, 0, 0, []⟩).s) ?_
    refine runS_x (I := inf) (J := jnf) ⟨false, false, [], 0, 0⟩ 9999 rfl (by repeat (first | exact obs_nil | refine obs_draw (by kernel_rfl) ?_ | refine obs_same ?_ | refine obs_and ?_ | refine obs_by (by (simp [inB] <;> omega)) ?_)) ?_
    refine runS_cond rfl (fun h2 => ?_) (fun h2 => ?_)
    · have hr : (l[i]).right = false := by
        rw [← hv]
        have h3 : (!(l.getD i ⟨0, 0, 0, []⟩).right) = true := h2
        rw [Bool.not_eq_true'] at h3
        exact h3
      have hE : askL (some t) l = 1 := by
        unfold askL
        rw [if_pos]
        rw [List.all_eq_false]
        exact ⟨_, List.getElem_mem hlt, by rw [hr]; decide⟩
      rw [hE]
      refine runS_x (I := inf) (J := jnf) ⟨false, false, [], 0, 0⟩ 9999 rfl (by repeat (first | exact obs_nil | refine obs_draw (by kernel_rfl) ?_ | refine obs_same ?_ | refine obs_and ?_ | refine obs_by (by (simp [inB] <;> omega)) ?_)) ?_
      exact runS_ret (I := inf) 3 rfl (Nat.le_refl _) rfl (hk0 _ (.box rfl .nil)) rfl ⟨rfl, rfl⟩
    · have hr : (l[i]).right = true := by
        rw [← hv]
        have h3 : (!(l.getD i ⟨0, 0, 0, []⟩).right) = false := h2
        rw [Bool.not_eq_false'] at h3
        exact h3
      refine runS_x (I := inf) (J := jnf) ⟨false, false, [], 0, 0⟩ 9999 rfl (by repeat (first | exact obs_nil | refine obs_draw (by kernel_rfl) ?_ | refine obs_same ?_ | refine obs_and ?_ | refine obs_by (by (simp [inB] <;> omega)) ?_)) ?_
      refine runS_drop 3 (Nat.le_refl 3) rfl (hk0 _ (.box rfl .nil)) rfl rfl rfl (by repeat (first | exact .nil | refine .cons rfl rfl rfl (scrub_under _ _) ?_)) ?_
      exact ih (i + 1) _ _ (by omega) ⟨⟨rfl, rfl, rfl, rfl, congrArg iv hw1⟩, rfl, by omega, all_take ha hlt hr⟩
  · have hie : i = l.length := by simp at h; omega
    subst hie
    rw [List.take_length] at ha
    refine runS_x (I := inf) (J := jnf) ⟨false, false, [], 0, 0⟩ 9999 rfl (by repeat (first | exact obs_nil | refine obs_draw (by kernel_rfl) ?_ | refine obs_same ?_ | refine obs_and ?_ | refine obs_by (by (simp [inB] <;> omega)) ?_)) ?_
    refine runS_op (.val (.bool true)) rfl rfl rfl (op_ptrNe Tryz.underlying130 rfl rfl rfl rfl) ?_
    refine runS_x (I := inf) (J := jnf) ⟨false, false, [], 0, 0⟩ 9999 rfl (by repeat (first | exact obs_nil | refine obs_draw (by kernel_rfl) ?_ | refine obs_same ?_ | refine obs_and ?_ | refine obs_by (by (simp [inB] <;> omega)) ?_)) ?_
    refine runS_callU rfl rfl (by first | exact .v rfl rfl rfl rfl | exact .o rfl rfl rfl rfl) rfl rfl (by repeat (first | exact .nil | refine .cons (.n rfl) ?_ | refine .cons .o ?_ | refine .cons gok_and ?_)) rfl rfl rfl rfl rfl (fun _ => (d_valid t)) ?_
    refine runS_x (I := inf) (J := jnf) ⟨false, false, [], 0, 0⟩ 9999 rfl (by repeat (first | exact obs_nil | refine obs_draw (by kernel_rfl) ?_ | refine obs_same ?_ | refine obs_and ?_ | refine obs_by (by (simp [inB] <;> omega)) ?_)) ?_
    refine runS_cond rfl (fun h => ?_) (fun h => ?_)
    · have hvt : validT t = false := by
        have h3 : (!validT t) = true := h
        rw [Bool.not_eq_true'] at h3
        exact h3
      have hE : askL (some t) l = 13 := by
        unfold askL
        rw [if_neg (by rw [ha]; decide), if_pos (by simp [hvt])]
      rw [hE]
      refine runS_x (I := inf) (J := jnf) ⟨false, false, [], 0, 0⟩ 9999 rfl (by repeat (first | exact obs_nil | refine obs_draw (by kernel_rfl) ?_ | refine obs_same ?_ | refine obs_and ?_ | refine obs_by (by (simp [inB] <;> omega)) ?_)) ?_
      exact runS_ret (I := inf) 3 rfl (Nat.le_refl _) rfl (hk0 _ (.box rfl .nil)) rfl ⟨rfl, rfl⟩
    have hvt : validT t = true := by
      have h3 : (!validT t) = false := h
      rw [Bool.not_eq_false'] at h3
      exact h3
    refine runS_x (I := inf) (J := jnf) ⟨false, false, [], 0, 0⟩ 9999 rfl (by repeat (first | exact obs_nil | refine obs_draw (by kernel_rfl) ?_ | refine obs_same ?_ | refine obs_and ?_ | refine obs_by (by (simp [inB] <;> omega)) ?_)) ?_
    clear ih hi g0 g1 g9 g10 g11
    refine runS_while (fun (i : Nat) τ ar => (τ 0 = .ptr 2 0 0 ∧ τ 28 = vlS n1 l ∧ τ 29 = iv l.length ∧ τ 30 = iv i) ∧ ar = [o0, o1, .box 25 (typE t)] ∧ i ≤ l.length ∧ (l.take i).all (fun v => numK v.kind) = true) (fun i => l.length - i) 0 ⟨⟨rfl, rfl, rfl, rfl⟩, rfl, Nat.zero_le _, rfl⟩ ?_
    rintro i τ2 ar2 ⟨⟨g0, g28, g29, g30⟩, rfl, hi, hb⟩ ih
    refine runS_says 0 (by exact g0) (Says.refl _) ?_; refine runS_says 28 (by exact g28) (Says.refl _) ?_; refine runS_says 29 (by exact g29) (Says.refl _) ?_; refine runS_says 30 (by exact g30) (Says.refl _) ?_
    refine runS_x (I := inf) (J := jnf) ⟨false, false, [], 0, 0⟩ 9999 rfl (by repeat (first | exact obs_nil | refine obs_draw (by kernel_rfl) ?_ | refine obs_same ?_ | refine obs_and ?_ | refine obs_by (by (simp [inB] <;> omega)) ?_)) ?_
    refine runS_cond rfl (fun h => ?_) (fun h => ?_)
    · have hlt : i < l.length := by simp at h; omega
      have hw1 : IntKind.wrap .i64 ((i : Int) + 1) = ((i + 1 : Nat) : Int) := by rw [w64 (by omega) (by omega)]; rfl
      have hv := vl_get hlt
      refine runS_x (I := inf) (J := jnf) ⟨false, false, [], 0, 0⟩ 9999 rfl (by repeat (first | exact obs_nil | refine obs_draw (by kernel_rfl) ?_ | refine obs_same ?_ | refine obs_and ?_ | refine obs_by (by (simp [inB, hlt] <;> omega)) ?_)) ?_
      refine runS_call rfl rfl rfl rfl rfl rfl rfl (d_isNumber (l.getD i ⟨0, 0, 0, []⟩).kind) ?_
      refine runS_x (I := inf) (J := jnf) ⟨false, false, [], 0, 0⟩ 9999 rfl (by repeat (first | exact obs_nil | refine obs_draw (by kernel_rfl) ?_ | refine obs_same ?_ | refine obs_and ?_ | refine obs_by (by (simp [inB] <;> omega)) ?_)) ?_
      refine runS_cond rfl (fun h2 => ?_) (fun h2 => ?_)
      · have hr : numK (l[i]).kind = false := by
          rw [← hv]
          have h3 : (!numK (l.getD i ⟨0, 0, 0, []⟩).kind) = true := h2
          rw [Bool.not_eq_true'] at h3
          exact h3
        have hE : askL (some t) l = 10 := by
          unfold askL
          rw [if_neg (by rw [ha]; decide), if_neg (by simp [hvt]), if_pos]
          rw [List.all_eq_false]
          exact ⟨_, List.getElem_mem hlt, by rw [hr]; decide⟩
        rw [hE]
        refine runS_x (I := inf) (J := jnf) ⟨false, false, [], 0, 0⟩ 9999 rfl (by repeat (first | exact obs_nil | refine obs_draw (by kernel_rfl) ?_ | refine obs_same ?_ | refine obs_and ?_ | refine obs_by (by (simp [inB] <;> omega)) ?_)) ?_
        exact runS_ret (I := inf) 3 rfl (Nat.le_refl _) rfl (hk0 _ (.box rfl .nil)) rfl ⟨rfl, rfl⟩
      · have hr : numK (l[i]).kind = true := by
          rw [← hv]
          have h3 : (!numK (l.getD i ⟨0, 0, 0, []⟩).kind) = false := h2
          rw [Bool.not_eq_false'] at h3
          exact h3
        refine runS_x (I := inf) (J := jnf) ⟨false, false, [], 0, 0⟩ 9999 rfl (by repeat (first | exact obs_nil | refine obs_draw (by kernel_rfl) ?_ | refine obs_same ?_ | refine obs_and ?_ | refine obs_by (by (simp [inB] <;> omega)) ?_)) ?_
        refine runS_drop 3 (Nat.le_refl 3) rfl (hk0 _ (.box rfl .nil)) rfl rfl rfl (by repeat (first | exact .nil | refine .cons rfl rfl rfl (scrub_under _ _) ?_)) ?_
        exact ih (i + 1) _ _ (by omega) ⟨⟨rfl, rfl, rfl, congrArg iv hw1⟩, rfl, by omega, all_take hb hlt hr⟩
    · have hie : i = l.length := by simp at h; omega
      subst hie
      rw [List.take_length] at hb
      have hE : askL (some t) l = if numK t.kind = false then 10 else 0 := by
        unfold askL
        rw [if_neg (by rw [ha]; decide), if_neg (by simp [hvt]), if_neg (by rw [hb]; decide)]
        simp
      rw [hE]
      refine runS_x (I := inf) (J := jnf) ⟨false, false, [], 0, 0⟩ 9999 rfl (by repeat (first | exact obs_nil | refine obs_draw (by kernel_rfl) ?_ | refine obs_same ?_ | refine obs_and ?_ | refine obs_by (by (simp [inB] <;> omega)) ?_)) ?_
      refine runS_op (.val (.bool true)) rfl rfl rfl (op_ptrNe Tryz.underlying130 rfl rfl rfl rfl) ?_
      refine runS_x (I := inf) (J := jnf) ⟨false, false, [], 0, 0⟩ 9999 rfl (by repeat (first | exact obs_nil | refine obs_draw (by kernel_rfl) ?_ | refine obs_same ?_ | refine obs_and ?_ | refine obs_by (by (simp [inB] <;> omega)) ?_)) ?_
      refine runS_callU rfl rfl (by first | exact .v rfl rfl rfl rfl | exact .o rfl rfl rfl rfl) rfl rfl (by repeat (first | exact .nil | refine .cons (.n rfl) ?_ | refine .cons .o ?_ | refine .cons gok_and ?_)) rfl rfl rfl rfl rfl (fun _ => (d_isNumber t.kind)) ?_
      refine runS_x (I := inf) (J := jnf) ⟨false, false, [], 0, 0⟩ 9999 rfl (by repeat (first | exact obs_nil | refine obs_draw (by kernel_rfl) ?_ | refine obs_same ?_ | refine obs_and ?_ | refine obs_by (by (simp [inB] <;> omega)) ?_)) ?_
      refine runS_cond rfl (fun h => ?_) (fun h => ?_)
      · have hn : numK t.kind = false := by
          have h3 : (!numK t.kind) = true := h
          rw [Bool.not_eq_true'] at h3
          exact h3
        rw [if_pos hn]
        refine runS_x (I := inf) (J := jnf) ⟨false, false, [], 0, 0⟩ 9999 rfl (by repeat (first | exact obs_nil | refine obs_draw (by kernel_rfl) ?_ | refine obs_same ?_ | refine obs_and ?_ | refine obs_by (by (simp [inB] <;> omega)) ?_)) ?_
        exact runS_ret (I := inf) 3 rfl (Nat.le_refl _) rfl (hk0 _ (.box rfl .nil)) rfl ⟨rfl, rfl⟩
      · have hn : numK t.kind = true := by
          have h3 : (!numK t.kind) = false := h
          rw [Bool.not_eq_false'] at h3
          exact h3
        rw [if_neg (show ¬ numK t.kind = false by rw [hn]; decide)]
        refine runS_x (I := inf) (J := jnf) ⟨false, false, [], 0, 0⟩ 9999 rfl (by repeat (first | exact obs_nil | refine obs_draw (by kernel_rfl) ?_ | refine obs_same ?_ | refine obs_and ?_ | refine obs_by (by (simp [inB] <;> omega)) ?_)) ?_
        exact runS_ret (I := inf) 3 rfl (Nat.le_refl _) rfl (hk0 _ (.box rfl .nil)) rfl ⟨rfl, rfl⟩
end Go.Iron.Tryz

/- The digits' seat: operations of two numbers. -/
namespace Go.Iron.Tryz
open Go.Proofs Go.RowKit Go.Iron.Tok Go.Iron.Dg

abbrev resA (kd : Int) (r : Int × Int × Int) : AV := .tup [.agg [iv kd, iv r.1, iv r.2.1, sv []], iv r.2.2, iv 0]
abbrev ext (v : Vl) : Lg := exactL v.kind v.n v.q
theorem ask_num {t : Option Typ} {l : List Vl} (h : askL t l = 0) : (∀ v ∈ l, v.right = true ∧ numK v.kind = true) ∧ ∀ t0, t = some t0 → validT t0 = true ∧ numK t0.kind = true := by
  unfold askL at h
  split at h; omega
  split at h; omega
  split at h; omega
  split at h; omega
  rename_i h1 h2 h3 h4
  have h1' : l.all Vl.right = true := by simpa using h1
  have h3' : (l.all fun v => numK v.kind) = true := by simpa using h3
  refine ⟨fun v hv => ⟨List.all_eq_true.1 h1' v hv, List.all_eq_true.1 h3' v hv⟩, fun t0 e => ?_⟩
  subst e
  simp at h2 h4
  exact ⟨h2, h4⟩
theorem d_exactV (v : Vl) (hr : v.right = true) (hk : numK v.kind = true) : CallT Tryz.prog 102 [.agg (vlE v)] [] (fun o A => o = .ret (lgA (ext v)) ∧ A = []) := by
  obtain ⟨h1, h2, h3, h4, h5, h6⟩ := right_num hr hk
  exact d_exact v.kind v.n v.q v.s h5 h6 (fun h => h3 (by omega))
theorem ext_fits (v : Vl) (hr : v.right = true) (hk : numK v.kind = true) : Fits (ext v) 50 100 := by
  obtain ⟨h1, h2, h3, h4, h5, h6⟩ := right_num hr hk
  have hl1 : (frm v.n.natAbs).length ≤ 15 := frm_len_lt.2 (by omega)
  refine ⟨?_, ?_, ?_⟩
  · show (frm (v.n.natAbs * (if v.kind = 1 then 5 ^ v.q.toNat else 1))).length ≤ 50
    have hm := frm_len_mul v.n.natAbs (if v.kind = 1 then 5 ^ v.q.toNat else 1)
    have : (frm (if v.kind = 1 then 5 ^ v.q.toNat else 1)).length ≤ 32 := by
      split
      · rename_i hk1
        have := h3 (by omega)
        exact frm_len_lt.2 (Nat.lt_of_le_of_lt (Nat.pow_le_pow_left (by decide : 5 ≤ 10) v.q.toNat) (Nat.pow_lt_pow_right (by decide) (by omega)))
      · rw [frm_one]; decide
    omega
  · show -100 ≤ (if v.kind = 1 ∨ v.kind = 2 then -v.q else v.q)
    split
    · have := h3 (by omega); omega
    · have := h4 (by omega); omega
  · show (if v.kind = 1 ∨ v.kind = 2 then -v.q else v.q) ≤ 100
    split
    · have := h3 (by omega); omega
    · have := h4 (by omega); omega
theorem d_reckonT (a b : Vl) (t : Typ) (g : FuncId) {gn : Func} {gc : Code} [Fun Tryz.prog g gn gc] (R : Lg) (he : askL (some t) [a, b] = 0)
    (hdo : CallT Tryz.prog g ([lgA (ext a), lgA (ext b), .loc (typE t) 0]) [] (fun o A => o = .ret (lgA R) ∧ A = [])) (hR : Fits R 1500 1000) : CallT Tryz.prog 57 [.agg (vlE a), .agg (vlE b), .agg (typE t), .fn (.func g) [.loc (typE t) 0]] [] (fun o A => o = .ret (resA t.kind (fitL t.kind t.p.toNat t.q.toNat R 2)) ∧ A = []) := by
  obtain ⟨hnum, htn⟩ := ask_num he
  obtain ⟨hv, hkt⟩ := htn t rfl
  obtain ⟨hra, hka⟩ := hnum a (by simp)
  obtain ⟨hrb, hkb⟩ := hnum b (by simp)
  have hf := d_fitted R t 2 hv hkt hR
  generalize fitL t.kind t.p.toNat t.q.toNat R 2 = F at *
  refine callS_body (n := 34) rfl rfl fun w ρ X => ?_
  refine runS_x (I := inf) (J := jnf) ⟨false, false, [], 0, 0⟩ 9999 rfl (by repeat (first | exact obs_nil | refine obs_draw (by kernel_rfl) ?_ | refine obs_same ?_ | refine obs_and ?_ | refine obs_by (by (simp [inB] <;> omega)) ?_)) ?_
  refine runS_tell 6 (vlR [a, b]) rfl (m' := 2) rfl (fun j hj => ?_) rfl ?_
  · rcases j with _ | _ | j <;> first | rfl | omega
  refine runS_freeze 14 rfl rfl rfl (fun j hj => ?_) ?_
  · rcases j with _ | _ | j <;> first | rfl | omega
  refine runS_callF [.box 23 (vlE a), .box 23 (vlE b), .box 25 (typE t)] [.box 23 (vlE a), .box 23 (vlE b), .box 25 (typE t)] _ rfl rfl rfl rfl rfl (show _ = [.ptr 2 0 0, vlS none [a, b]] from rfl) rfl (.box rfl (.box rfl (.box rfl .nil))) rfl rfl (d_asked2 _ _ (fun l hl => .box rfl (.box rfl hl)) t none [a, b] (by simp)) ?_
  rw [he]
  refine runS_x (I := inf) (J := jnf) ⟨false, false, [], 0, 0⟩ 9999 rfl (by repeat (first | exact obs_nil | refine obs_draw (by kernel_rfl) ?_ | refine obs_same ?_ | refine obs_and ?_ | refine obs_by (by (simp [inB] <;> omega)) ?_)) ?_
  refine runS_cond rfl (fun h => by cases h) (fun h => ?_)
  refine runS_x (I := inf) (J := jnf) ⟨false, false, [], 0, 0⟩ 9999 rfl (by repeat (first | exact obs_nil | refine obs_draw (by kernel_rfl) ?_ | refine obs_same ?_ | refine obs_and ?_ | refine obs_by (by (simp [inB] <;> omega)) ?_)) ?_
  refine runS_drawG (ch := []) (A2 := fun _ => []) 12 [11] (fun z => [.box 23 (vlE a), .box 23 (vlE b), .box 25 (typE t), .box 23 (cond (z.getD 0 false) [iv t.kind, iv F.1, iv F.2.1, sv []] [iv 0, iv 0, iv 0, sv []]), .box 3 [iv 0], .box 30 [iv 0], .gone]) none (c := 9) jnfI.draw (by kernel_rfl) rfl (lexg_g (I := inf) (J := jnf) none ⟨⟨_, rfl, (by repeat (first | exact obs_nil | refine obs_same ?_ | refine obs_and ?_ | refine obs_by (by (simp [inB] <;> omega)) ?_))⟩, (by first | exact .inl (by decide +kernel) | exact .inr ⟨_, rfl, (by repeat (first | exact obs_nil | refine obs_same ?_ | refine obs_and ?_ | refine obs_by (by (simp [inB] <;> omega)) ?_))⟩)⟩ rfl rfl rfl rfl (lexg_g (I := inf) (J := jnf) none ⟨⟨_, rfl, (by repeat (first | exact obs_nil | refine obs_same ?_ | refine obs_and ?_ | refine obs_by (by (simp [inB] <;> omega)) ?_))⟩, (by first | exact .inl (by decide +kernel) | exact .inr ⟨_, rfl, (by repeat (first | exact obs_nil | refine obs_same ?_ | refine obs_and ?_ | refine obs_by (by (simp [inB] <;> omega)) ?_))⟩)⟩ rfl rfl rfl rfl (lexg_call rfl rfl rfl rfl rfl rfl rfl rfl rfl (d_exactV a hra hka) (lexg_g (I := inf) (J := jnf) none ⟨⟨_, rfl, (by repeat (first | exact obs_nil | refine obs_same ?_ | refine obs_and ?_ | refine obs_by (by (simp [inB] <;> omega)) ?_))⟩, (by first | exact .inl (by decide +kernel) | exact .inr ⟨_, rfl, (by repeat (first | exact obs_nil | refine obs_same ?_ | refine obs_and ?_ | refine obs_by (by (simp [inB] <;> omega)) ?_))⟩)⟩ rfl rfl rfl rfl (lexg_call rfl rfl rfl rfl rfl rfl rfl rfl rfl (d_exactV b hrb hkb) (lexg_call rfl rfl rfl rfl rfl rfl rfl rfl rfl hdo (lexg_g (I := inf) (J := jnf) none ⟨⟨_, rfl, (by repeat (first | exact obs_nil | refine obs_same ?_ | refine obs_and ?_ | refine obs_by (by (simp [inB] <;> omega)) ?_))⟩, (by first | exact .inl (by decide +kernel) | exact .inr ⟨_, rfl, (by repeat (first | exact obs_nil | refine obs_same ?_ | refine obs_and ?_ | refine obs_by (by (simp [inB] <;> omega)) ?_))⟩)⟩ rfl rfl rfl rfl (lexg_call rfl rfl rfl rfl rfl rfl rfl rfl rfl hf (lexg_g (I := inf) (J := jnf) none ⟨⟨_, rfl, (by repeat (first | exact obs_nil | refine obs_same ?_ | refine obs_and ?_ | refine obs_by (by (simp [inB] <;> omega)) ?_))⟩, (by first | exact .inl (by decide +kernel) | exact .inr ⟨_, rfl, (by repeat (first | exact obs_nil | refine obs_same ?_ | refine obs_and ?_ | refine obs_by (by (simp [inB] <;> omega)) ?_))⟩)⟩ rfl rfl rfl rfl (lexg_g (I := inf) (J := jnf) none ⟨⟨_, rfl, (by repeat (first | exact obs_nil | refine obs_same ?_ | refine obs_and ?_ | refine obs_by (by (simp [inB] <;> omega)) ?_))⟩, (by first | exact .inl (by decide +kernel) | exact .inr ⟨_, rfl, (by repeat (first | exact obs_nil | refine obs_same ?_ | refine obs_and ?_ | refine obs_by (by (simp [inB] <;> omega)) ?_))⟩)⟩ rfl rfl rfl rfl (lexg_g (I := inf) (J := jnf) none ⟨⟨_, rfl, (by repeat (first | exact obs_nil | refine obs_same ?_ | refine obs_and ?_ | refine obs_by (by (simp [inB] <;> omega)) ?_))⟩, (by first | exact .inl (by decide +kernel) | exact .inr ⟨_, rfl, (by repeat (first | exact obs_nil | refine obs_same ?_ | refine obs_and ?_ | refine obs_by (by (simp [inB] <;> omega)) ?_))⟩)⟩ rfl rfl rfl rfl (lexg_g (I := inf) (J := jnf) (some .store) ⟨⟨_, rfl, (by repeat (first | exact obs_nil | refine obs_same ?_ | refine obs_and ?_ | refine obs_by (by (simp [inB] <;> omega)) ?_))⟩, .inl rfl⟩ rfl rfl rfl rfl lexg_nil)))))))))))) rfl (fun _ => ?_) (fun h => by cases h)
  refine runS_x (I := inf) (J := jnf) ⟨false, false, [], 0, 0⟩ 9999 rfl (by repeat (first | exact obs_nil | refine obs_draw (by kernel_rfl) ?_ | refine obs_same ?_ | refine obs_and ?_ | refine obs_by (by (simp [inB] <;> omega)) ?_)) ?_
  refine runS_drawG (ch := []) (A2 := fun _ => []) 3 [2] (fun z => [.box 23 (vlE a), .box 23 (vlE b), .box 25 (typE t), .box 23 [iv t.kind, iv F.1, iv F.2.1, sv []], .box 3 [iv F.2.2], .box 30 [iv 0], .gone]) none (c := 9) jnfI.draw (by kernel_rfl) rfl (lexg_g (I := inf) (J := jnf) none ⟨⟨_, rfl, (by repeat (first | exact obs_nil | refine obs_same ?_ | refine obs_and ?_ | refine obs_by (by (simp [inB] <;> omega)) ?_))⟩, (by first | exact .inl (by decide +kernel) | exact .inr ⟨_, rfl, (by repeat (first | exact obs_nil | refine obs_same ?_ | refine obs_and ?_ | refine obs_by (by (simp [inB] <;> omega)) ?_))⟩)⟩ rfl rfl rfl rfl (lexg_g (I := inf) (J := jnf) none ⟨⟨_, rfl, (by repeat (first | exact obs_nil | refine obs_same ?_ | refine obs_and ?_ | refine obs_by (by (simp [inB] <;> omega)) ?_))⟩, (by first | exact .inl (by decide +kernel) | exact .inr ⟨_, rfl, (by repeat (first | exact obs_nil | refine obs_same ?_ | refine obs_and ?_ | refine obs_by (by (simp [inB] <;> omega)) ?_))⟩)⟩ rfl rfl rfl rfl (lexg_g (I := inf) (J := jnf) (some .store) ⟨⟨_, rfl, (by repeat (first | exact obs_nil | refine obs_same ?_ | refine obs_and ?_ | refine obs_by (by (simp [inB] <;> omega)) ?_))⟩, .inl rfl⟩ rfl rfl rfl rfl lexg_nil))) rfl (fun _ => ?_) (fun h => by cases h)
  refine runS_x (I := inf) (J := jnf) ⟨true, false, [122], 0, 0⟩ 9999 rfl (by repeat (first | exact obs_nil | refine obs_draw (by kernel_rfl) ?_ | refine obs_same ?_ | refine obs_and ?_ | refine obs_by (by (simp [inB] <;> omega)) ?_)) ?_
  refine runS_opA (.ptr 7 0 0) rfl rfl rfl (op_alloc0 (by kernel_rfl) rfl rfl) ?_
  refine runS_x (I := inf) (J := jnf) ⟨true, false, [122], 0, 0⟩ 9999 rfl (by repeat (first | exact obs_nil | refine obs_draw (by kernel_rfl) ?_ | refine obs_same ?_ | refine obs_and ?_ | refine obs_by (by (simp [inB] <;> omega)) ?_)) ?_
  refine runS_ret (I := inf) 0 rfl (Nat.le_refl _) rfl .nil rfl ⟨?_, rfl⟩
  rfl
theorem quo_fits (a b : Lg) (Q : Nat) (ha : Fits a 50 100) (hb : Fits b 50 100) (hQ : Q ≤ 31) : Fits (Dg.quoL a b Q) 1500 1000 := by
  obtain ⟨ha1, ha2, ha3⟩ := ha
  obtain ⟨hb1, hb2, hb3⟩ := hb
  have hmo : moreQ a b Q ≤ 400 := by unfold moreQ; omega
  have hmo0 : 0 ≤ moreQ a b Q := by unfold moreQ; omega
  have hul := frm_len_up a.m (moreQ a b Q).toNat
  have hol := frm_len_mono (Nat.div_le_self (a.m * 10 ^ (moreQ a b Q).toNat) b.m)
  unfold Dg.quoL
  split
  · exact ⟨by rw [frm_zero]; decide, by dsimp only; omega, by dsimp only; omega⟩
  · split
    · exact ⟨by dsimp only; omega, by dsimp only; omega, by dsimp only; omega⟩
    · refine ⟨?_, by dsimp only; omega, by dsimp only; omega⟩
      dsimp only
      rw [frm_pos (by omega), show (1 + 10 * (a.m * 10 ^ (moreQ a b Q).toNat / b.m)) / 10 = a.m * 10 ^ (moreQ a b Q).toNat / b.m by omega, List.length_cons]
      omega
theorem d_divC (a b : Lg) (t : Typ) (Q : Nat) (hQ : t.q = Q) (ha : Fits a 50 100) (hb : Fits b 50 100) (hQ2 : Q ≤ 31) (hb0 : b.m ≠ 0) : CallT Tryz.prog 58 [lgA a, lgA b, .loc (typE t) 0] [] (fun o A => o = .ret (lgA (Dg.quoL a b Q)) ∧ A = []) := by
  have hq := d_quotient a b Q ⟨by have := ha.1; omega, by have := ha.2; omega, by have := ha.3; omega⟩ ⟨by have := hb.1; omega, by have := hb.2; omega, by have := hb.3; omega⟩ hQ2 hb0
  rw [← hQ] at hq
  refine callS_body (n := 17) rfl rfl fun w ρ X => ?_
  refine runS_x (I := inf) (J := jnf) ⟨false, false, [], 0, 0⟩ 9999 rfl (by repeat (first | exact obs_nil | refine obs_draw (by kernel_rfl) ?_ | refine obs_same ?_ | refine obs_and ?_ | refine obs_by (by (simp [inB] <;> omega)) ?_)) ?_
  refine runS_cond rfl (fun h => ?_) (fun h => ?_)
  · exfalso
    have : (((frm b.m).length : Int) == 0) = true := h
    simp only [beq_iff_eq] at this
    exact hb0 (frm_len0.1 (by omega))
  · refine runS_x (I := inf) (J := jnf) ⟨false, false, [], 0, 0⟩ 9999 rfl (by repeat (first | exact obs_nil | refine obs_draw (by kernel_rfl) ?_ | refine obs_same ?_ | refine obs_and ?_ | refine obs_by (by (simp [inB] <;> omega)) ?_)) ?_
    refine runS_call rfl rfl rfl rfl rfl rfl rfl hq ?_
    refine runS_x (I := inf) (J := jnf) ⟨false, false, [], 0, 0⟩ 9999 rfl (by repeat (first | exact obs_nil | refine obs_draw (by kernel_rfl) ?_ | refine obs_same ?_ | refine obs_and ?_ | refine obs_by (by (simp [inB] <;> omega)) ?_)) ?_
    refine runS_ret (I := inf) 0 rfl (Nat.le_refl _) rfl .nil rfl ⟨?_, rfl⟩
    rfl
theorem d_Divide (a b : Vl) (t : Typ) (he : askL (some t) [a, b] = 0) (hb0 : b.n ≠ 0) : CallT Tryz.prog 16 [.agg (vlE a), .agg (vlE b), .agg (typE t)] [] (fun o A => o = .ret (resA t.kind (fitL t.kind t.p.toNat t.q.toNat (Dg.quoL (ext a) (ext b) t.q.toNat) 2)) ∧ A = []) := by
  obtain ⟨hnum, htn⟩ := ask_num he
  obtain ⟨hv, hkt⟩ := htn t rfl
  obtain ⟨hra, hka⟩ := hnum a (by simp)
  obtain ⟨hrb, hkb⟩ := hnum b (by simp)
  obtain ⟨P, Q, hP, hQ, hP1, hP2, hQ2, hkd⟩ := valid_num hv hkt
  have hfa := ext_fits a hra hka
  have hfb := ext_fits b hrb hkb
  have hq := d_divC (ext a) (ext b) t Q hQ hfa hfb hQ2 (fun e => hb0 (exact_m0.1 e))
  have hqe : t.q.toNat = Q := by omega
  rw [hqe]
  have hr := d_reckonT a b t 58 (Dg.quoL (ext a) (ext b) Q) he hq (quo_fits _ _ Q hfa hfb hQ2)
  rw [hqe] at hr
  refine callS_body (n := 17) rfl rfl fun w ρ X => ?_
  refine runS_x (I := inf) (J := jnf) ⟨false, false, [], 0, 0⟩ 9999 rfl (by repeat (first | exact obs_nil | refine obs_draw (by kernel_rfl) ?_ | refine obs_same ?_ | refine obs_and ?_ | refine obs_by (by (simp [inB] <;> omega)) ?_)) ?_
  refine runS_freezeBox 2 rfl rfl rfl ?_
  refine runS_call rfl rfl rfl rfl rfl rfl rfl hr ?_
  refine runS_x (I := inf) (J := jnf) ⟨false, false, [], 0, 0⟩ 9999 rfl (by repeat (first | exact obs_nil | refine obs_draw (by kernel_rfl) ?_ | refine obs_same ?_ | refine obs_and ?_ | refine obs_by (by (simp [inB] <;> omega)) ?_)) ?_
  refine runS_ret (I := inf) 0 rfl (Nat.le_refl _) rfl .nil rfl ⟨?_, rfl⟩
  rfl
end Go.Iron.Tryz

/- The digits' seat: builders among other objects. -/
namespace Go.Iron.Tryz
open Go.Proofs Go.RowKit Go.Iron.Tok Go.Iron.Dg

def byR (l : Str) : Nat → List AV := encR (fun b => [uv b.toNat]) 0 l
abbrev bPtr : AV := .ptr 2 0 0
abbrev nilP : AV := .val (.pointer none)
structure Six where
  o0 : AO
  o1 : AO
  o3 : AO
  o4 : AO
  o5 : AO
structure Six.Ok (z : Six) : Prop where
  k0 : ∀ l, Kept 7 l → Kept 7 (z.o0 :: z.o1 :: l)
  k3 : ∀ l, Kept 7 l → Kept 7 (z.o3 :: z.o4 :: z.o5 :: l)
abbrev blV (z : Six) (a : AV) (v : Nat) (l : Str) : List AO := [z.o0, z.o1, .box 148 [a, .row 6 v], z.o3, z.o4, z.o5, .row 5 1 v l.length (byR l)]
theorem kBV {z : Six} (hz : z.Ok) {a : AV} (ha : a = nilP ∨ a = bPtr) (v : Nat) (l : Str) : Kept 7 (blV z a v l) := by
  rcases ha with rfl | rfl
  · exact hz.k0 _ (.box rfl (hz.k3 _ (.row (fun j hj => rfl) .nil)))
  · exact hz.k0 _ (.box rfl (hz.k3 _ (.row (fun j hj => rfl) .nil)))
theorem infoB : ∃ j, Tryz.prog.info? 148 = some j ∧ j.size ≠ 0 := by
  obtain ⟨j, hj, hs⟩ := Option.map_eq_some_iff.1 (show (Tryz.prog.info? 148).map (·.size) = some 2 from by kernel_rfl)
  exact ⟨j, hj, by rw [hs]; decide⟩
theorem b_check {z : Six} (hz : z.Ok) {a : AV} (ha : a = nilP ∨ a = bPtr) (v : Nat) (l : Str) : CallT Tryz.prog 187 [bPtr] (blV z a v l) (fun o A => o = .ret (.tup []) ∧ A = blV z bPtr v l) := by
  obtain ⟨j, hj, hzz⟩ := infoB
  rcases ha with rfl | rfl
  · refine callS_body (n := 20) rfl rfl fun w ρ X => ?_
    refine runS_x (I := inf) (J := jnf) ⟨false, false, [], 0, 0⟩ 9999 rfl (by repeat (first | exact obs_nil | refine obs_draw (by kernel_rfl) ?_ | refine obs_same ?_ | refine obs_and ?_ | refine obs_by (by (simp [inB] <;> omega)) ?_)) ?_
    refine runS_op (.val (.bool true)) rfl rfl rfl (op_pnilNil Tryz.underlying146 rfl rfl rfl) ?_
    refine runS_x (I := inf) (J := jnf) ⟨false, false, [], 0, 0⟩ 9999 rfl (by repeat (first | exact obs_nil | refine obs_draw (by kernel_rfl) ?_ | refine obs_same ?_ | refine obs_and ?_ | refine obs_by (by (simp [inB] <;> omega)) ?_)) ?_
    refine runS_cond rfl (fun h => ?_) (fun h => by cases h)
    refine runS_x (I := inf) (J := jnf) ⟨false, false, [], 0, 0⟩ 9999 rfl (by repeat (first | exact obs_nil | refine obs_draw (by kernel_rfl) ?_ | refine obs_same ?_ | refine obs_and ?_ | refine obs_by (by (simp [inB] <;> omega)) ?_)) ?_
    refine runS_op bPtr rfl rfl rfl (op_toUnsafe Tryz.underlying146 Tryz.underlying234 hj hzz rfl rfl rfl rfl) ?_
    refine runS_x (I := inf) (J := jnf) ⟨false, false, [], 0, 0⟩ 9999 rfl (by repeat (first | exact obs_nil | refine obs_draw (by kernel_rfl) ?_ | refine obs_same ?_ | refine obs_and ?_ | refine obs_by (by (simp [inB] <;> omega)) ?_)) ?_
    refine runS_op bPtr rfl rfl rfl (op_noEscape Tryz.func212 (by kernel_rfl) (by kernel_rfl) (by kernel_rfl) (by kernel_rfl) rfl rfl) ?_
    refine runS_x (I := inf) (J := jnf) ⟨false, false, [], 0, 0⟩ 9999 rfl (by repeat (first | exact obs_nil | refine obs_draw (by kernel_rfl) ?_ | refine obs_same ?_ | refine obs_and ?_ | refine obs_by (by (simp [inB] <;> omega)) ?_)) ?_
    refine runS_op bPtr rfl rfl rfl (op_fromUnsafe Tryz.underlying234 Tryz.underlying146 hj (by kernel_rfl) rfl rfl rfl) ?_
    refine runS_x (I := inf) (J := jnf) ⟨false, false, [], 0, 0⟩ 9999 rfl (by repeat (first | exact obs_nil | refine obs_draw (by kernel_rfl) ?_ | refine obs_same ?_ | refine obs_and ?_ | refine obs_by (by (simp [inB] <;> omega)) ?_)) ?_
    exact runS_ret (I := inf) 7 rfl (Nat.le_refl _) rfl (kBV hz (.inr rfl) v l) rfl ⟨rfl, rfl⟩
  · refine callS_body (n := 20) rfl rfl fun w ρ X => ?_
    refine runS_x (I := inf) (J := jnf) ⟨false, false, [], 0, 0⟩ 9999 rfl (by repeat (first | exact obs_nil | refine obs_draw (by kernel_rfl) ?_ | refine obs_same ?_ | refine obs_and ?_ | refine obs_by (by (simp [inB] <;> omega)) ?_)) ?_
    refine runS_op (.val (.bool false)) rfl rfl rfl (op_ptrNil Tryz.underlying146 rfl rfl rfl rfl) ?_
    refine runS_x (I := inf) (J := jnf) ⟨false, false, [], 0, 0⟩ 9999 rfl (by repeat (first | exact obs_nil | refine obs_draw (by kernel_rfl) ?_ | refine obs_same ?_ | refine obs_and ?_ | refine obs_by (by (simp [inB] <;> omega)) ?_)) ?_
    refine runS_cond rfl (fun h => by cases h) (fun h => ?_)
    refine runS_x (I := inf) (J := jnf) ⟨false, false, [], 0, 0⟩ 9999 rfl (by repeat (first | exact obs_nil | refine obs_draw (by kernel_rfl) ?_ | refine obs_same ?_ | refine obs_and ?_ | refine obs_by (by (simp [inB] <;> omega)) ?_)) ?_
    refine runS_op (.val (.bool false)) rfl rfl rfl (op_neqSame Tryz.underlying146 hj rfl rfl rfl rfl) ?_
    refine runS_x (I := inf) (J := jnf) ⟨false, false, [], 0, 0⟩ 9999 rfl (by repeat (first | exact obs_nil | refine obs_draw (by kernel_rfl) ?_ | refine obs_same ?_ | refine obs_and ?_ | refine obs_by (by (simp [inB] <;> omega)) ?_)) ?_
    refine runS_cond rfl (fun h => by cases h) (fun h => ?_)
    refine runS_x (I := inf) (J := jnf) ⟨false, false, [], 0, 0⟩ 9999 rfl (by repeat (first | exact obs_nil | refine obs_draw (by kernel_rfl) ?_ | refine obs_same ?_ | refine obs_and ?_ | refine obs_by (by (simp [inB] <;> omega)) ?_)) ?_
    exact runS_ret (I := inf) 7 rfl (Nat.le_refl _) rfl (kBV hz (.inr rfl) v l) rfl ⟨rfl, rfl⟩
theorem byR_snoc {acc : Str} {v : UInt8} {r2 : Nat → List AV} (h : r2 0 = [uv v.toNat]) : ∀ j, j < acc.length + 1 → byR (acc ++ [v]) j = appR acc.length (byR acc) r2 j := fun j hj => encR_snoc (enc := fun b : UInt8 => [uv b.toNat]) h j hj
theorem b_byte {z : Six} (hz : z.Ok) {a : AV} (ha : a = nilP ∨ a = bPtr) (v : Nat) (l : Str) (c : UInt8) (hl : l.length ≤ 100000000) : CallT Tryz.prog 118 [bPtr, uv c.toNat] (blV z a v l) (fun o A => o = .ret (.val .nilIface) ∧ A = blV z bPtr (v + 1) (l ++ [c])) := by
  refine callS_body (n := 17) rfl rfl fun w ρ X => ?_
  refine runS_x (I := inf) (J := jnf) ⟨false, false, [], 0, 0⟩ 9999 rfl (by repeat (first | exact obs_nil | refine obs_draw (by kernel_rfl) ?_ | refine obs_same ?_ | refine obs_and ?_ | refine obs_by (by (simp [inB] <;> omega)) ?_)) ?_
  refine runS_callF (blV z a v l) (blV z bPtr v l) [] rfl rfl rfl rfl rfl (show _ = [bPtr] from rfl) rfl (kBV hz ha v l) rfl rfl (b_check hz ha v l) ?_
  refine runS_x (I := inf) (J := jnf) ⟨false, false, [], 0, 0⟩ 9999 rfl (by repeat (first | exact obs_nil | refine obs_draw (by kernel_rfl) ?_ | refine obs_same ?_ | refine obs_and ?_ | refine obs_by (by (simp [inB] <;> omega)) ?_)) ?_
  refine runS_tell 6 (byR (l ++ [c])) rfl (m' := l.length + 1) rfl (byR_snoc rfl) rfl ?_
  have hl' : (l ++ [c]).length = l.length + 1 := by simp
  have hkk := kBV hz (.inr rfl) (v + 1) (l ++ [c])
  unfold blV at hkk ⊢
  rw [hl'] at hkk ⊢
  exact runS_ret (I := inf) 7 rfl (Nat.le_refl _) rfl hkk rfl ⟨rfl, rfl⟩
theorem b_text {z : Six} (hz : z.Ok) (v : Nat) (l : Str) (hl : l.length ≤ 100000000) (h0 : 0 < l.length) : CallT Tryz.prog 119 [bPtr] (blV z bPtr v l) (fun o A => o = .ret (sv l) ∧ A = [z.o0, z.o1, .box 148 [bPtr, .row 6 v], z.o3, z.o4, z.o5, .gone]) := by
  refine callS_body (n := 14) rfl rfl fun w ρ X => ?_
  refine runS_x (I := inf) (J := jnf) ⟨false, false, [], 0, 0⟩ 9999 rfl (by repeat (first | exact obs_nil | refine obs_draw (by kernel_rfl) ?_ | refine obs_same ?_ | refine obs_and ?_ | refine obs_by (by (simp [inB] <;> omega)) ?_)) ?_
  refine runS_draw 10 (by kernel_rfl) (lexj_x (I := inf) (J := jnf) 99 rfl rfl (by repeat (first | exact obs_nil | refine obs_same ?_ | refine obs_and ?_ | refine obs_by (by simp) ?_)) (lexj_sliceData rfl rfl rfl rfl rfl rfl rfl h0 (lexj_x (I := inf) (J := jnf) 99 rfl rfl (by repeat (first | exact obs_nil | refine obs_same ?_ | refine obs_and ?_ | refine obs_by (by simp) ?_)) lexj_nil))) ?_
  refine runS_x (I := inf) (J := jnf) ⟨false, false, [], 0, 0⟩ 9999 rfl (by repeat (first | exact obs_nil | refine obs_draw (by kernel_rfl) ?_ | refine obs_same ?_ | refine obs_and ?_ | refine obs_by (by (simp [inB] <;> omega)) ?_)) ?_
  refine runS_opA (.val (.string (bs l))) rfl rfl rfl (op_unsafeString Tryz.underlying215 (by kernel_rfl) rfl rfl rfl rfl h0 l rfl (fun i b hi => ?_) rfl) ?_
  · show [uv (l.getD i 0).toNat] = _
    rw [List.getD_eq_getElem?_getD, hi]
    rfl
  refine runS_x (I := inf) (J := jnf) ⟨false, false, [], 0, 0⟩ 9999 rfl (by repeat (first | exact obs_nil | refine obs_draw (by kernel_rfl) ?_ | refine obs_same ?_ | refine obs_and ?_ | refine obs_by (by (simp [inB] <;> omega)) ?_)) ?_
  exact runS_ret (I := inf) 7 rfl (Nat.le_refl _) rfl (hz.k0 _ (.box rfl (hz.k3 _ (.gone .nil)))) rfl ⟨rfl, rfl⟩
end Go.Iron.Tryz

/- The digits' seat: the text of a fixed number that is not 0. -/
namespace Go.Iron.Tryz
open Go.Proofs Go.RowKit Go.Iron.Tok Go.Iron.Dg

theorem digB_nat {d : Nat} (h : d < 10) : (digB d).toNat = 48 + d := by
  unfold digB
  rw [UInt8.toNat_ofNat']
  omega
theorem repeat_zero (c : Nat) : Lib.repeatL [48] c = List.replicate c 48 := by
  induction c with
  | zero => rfl
  | succ c ih =>
    show [48] ++ Lib.repeatL [48] c = _
    rw [ih, List.replicate_succ]
    rfl
theorem drop_rev {A : List Nat} {k : Nat} (hk : k < A.length) : ((A.drop k).reverse.map digB) = ((A.drop (k + 1)).reverse.map digB) ++ [digB (A.getD k 0)] := by
  rw [List.drop_eq_getElem_cons hk, List.reverse_cons, List.map_append, List.getD_eq_getElem?_getD, List.getElem?_eq_getElem hk]
  rfl
theorem d_Text12 (v : Vl) (hr : v.right = true) (hk : v.kind = 1 ∨ v.kind = 2) (hn : v.n ≠ 0) : CallT Tryz.prog 53 [.agg (vlE v)] [] (fun o A => o = .ret (.tup [sv (textL (decide (v.n < 0)) (ext v).m v.q.toNat), iv 0]) ∧ A = []) := by
  have hkn : numK v.kind = true := by rcases hk with h | h <;> rw [h] <;> rfl
  obtain ⟨h1, h2, h3, h4, h5, h6⟩ := right_num hr hkn
  have hask : askL none [v] = 0 := by
    unfold askL
    rw [if_neg (by simp [hr]), if_neg (by simp), if_neg (by simp [hkn]), if_neg (by simp)]
  have hak := d_askedN none [v] (by simp)
  rw [hask] at hak
  have hex : CallT Tryz.prog 102 [.agg (vlE v)] [] (fun o A => o = .ret (.agg [limS none (frm (ext v).m), bv (ext v).neg, iv (ext v).exp]) ∧ A = []) := d_exactV v hr hkn
  have hm0 : (ext v).m ≠ 0 := fun e => hn (exact_m0.1 e)
  have hfit := (ext_fits v hr hkn).1
  obtain ⟨Q, hQ⟩ : ∃ Q : Nat, v.q = (Q : Int) := ⟨v.q.toNat, by have := h3 (by omega); omega⟩
  have hQ31 : Q ≤ 31 := by have := h3 (by omega); omega
  have hk3 : (v.kind == 3) = false := by rcases hk with h | h <;> rw [h] <;> rfl
  obtain ⟨sg, hsg⟩ : ∃ sg : Str, sg = if decide (v.n < 0) = true then [45] else [] := ⟨_, rfl⟩
  have hsgl : sg.length ≤ 1 := by rw [hsg]; split <;> simp
  have hA0 : 0 < (frm (ext v).m).length := Nat.pos_of_ne_zero fun e => hm0 (frm_len0.1 e)
  have hdA := fun d (hd : d ∈ frm (ext v).m) => frm_digit hd
  unfold textL
  rw [← hsg, show v.q.toNat = Q by omega]
  unfold digs
  generalize hAe : frm (ext v).m = A at *
  have hw0 : IntKind.wrap .i64 ((A.length : Int) - 1) = (A.length : Int) - 1 := w64 (by omega) (by omega)
  refine callS_body (n := 96) rfl rfl fun w ρ X => ?_
  refine runS_x (I := inf) (J := jnf) ⟨false, false, [], 0, 0⟩ 9999 rfl (by repeat (first | exact obs_nil | refine obs_draw (by kernel_rfl) ?_ | refine obs_same ?_ | refine obs_and ?_ | refine obs_by (by (simp [inB] <;> omega)) ?_)) ?_
  refine runS_tell 1 (vlR [v]) rfl (m' := 1) rfl (fun j hj => ?_) rfl ?_
  · rcases j with _ | j <;> first | rfl | omega
  refine runS_freeze 13 rfl rfl rfl (fun j hj => ?_) ?_
  · rcases j with _ | j <;> first | rfl | omega
  refine runS_call rfl rfl rfl rfl rfl rfl rfl hak ?_
  refine runS_x (I := inf) (J := jnf) ⟨false, false, [], 0, 0⟩ 9999 rfl (by repeat (first | exact obs_nil | refine obs_draw (by kernel_rfl) ?_ | refine obs_same ?_ | refine obs_and ?_ | refine obs_by (by (simp [inB] <;> omega)) ?_)) ?_
  refine runS_cond rfl (fun h => by cases h) (fun h => ?_)
  refine runS_x (I := inf) (J := jnf) ⟨false, false, [], 0, 0⟩ 9999 rfl (by repeat (first | exact obs_nil | refine obs_draw (by kernel_rfl) ?_ | refine obs_same ?_ | refine obs_and ?_ | refine obs_by (by (simp [inB] <;> omega)) ?_)) ?_
  refine runS_cut (fun τ ar => (τ 1 = .ptr 0 0 0 ∧ τ 5 = sv sg) ∧ ar = [.box 23 (vlE v), .gone]) (fun rest => ?_) ?_
  · refine runS_cond rfl (fun h2 => ?_) (fun h2 => ?_)
    · have e : sg = [45] := by rw [hsg]; exact if_pos h2
      refine runS_x (I := inf) (J := jnf) ⟨false, false, [], 2, 0⟩ 9999 rfl (by repeat (first | exact obs_nil | refine obs_draw (by kernel_rfl) ?_ | refine obs_same ?_ | refine obs_and ?_ | refine obs_by (by (simp [inB] <;> omega)) ?_)) ?_
      exact rest _ _ ⟨⟨rfl, by rw [e]; rfl⟩, rfl⟩
    · have e : sg = [] := by rw [hsg, show decide (v.n < 0) = false from h2]; rfl
      refine runS_x (I := inf) (J := jnf) ⟨false, false, [], 2, 0⟩ 9999 rfl (by repeat (first | exact obs_nil | refine obs_draw (by kernel_rfl) ?_ | refine obs_same ?_ | refine obs_and ?_ | refine obs_by (by (simp [inB] <;> omega)) ?_)) ?_
      exact rest _ _ ⟨⟨rfl, by rw [e]; rfl⟩, rfl⟩
  rintro τ2 ar2 ⟨⟨g1, g5⟩, rfl⟩
  refine runS_says 1 (by exact g1) (Says.refl _) ?_; refine runS_says 5 (by exact g5) (Says.refl _) ?_
  refine runS_x (I := inf) (J := jnf) ⟨false, false, [], 0, 0⟩ 9999 rfl (by repeat (first | exact obs_nil | refine obs_draw (by kernel_rfl) ?_ | refine obs_same ?_ | refine obs_and ?_ | refine obs_by (by (simp [inB] <;> omega)) ?_)) ?_
  refine runS_cond rfl (fun h2 => by rw [show (v.kind == 3) = true from h2] at hk3; cases hk3) (fun h2 => ?_)
  refine runS_x (I := inf) (J := jnf) ⟨false, false, [], 0, 0⟩ 9999 rfl (by repeat (first | exact obs_nil | refine obs_draw (by kernel_rfl) ?_ | refine obs_same ?_ | refine obs_and ?_ | refine obs_by (by (simp [inB] <;> omega)) ?_)) ?_
  refine runS_call rfl rfl rfl rfl rfl rfl rfl hex ?_
  refine runS_x (I := inf) (J := jnf) ⟨false, false, [117, 186], 0, 0⟩ 9999 rfl (by repeat (first | exact obs_nil | refine obs_draw (by kernel_rfl) ?_ | refine obs_same ?_ | refine obs_and ?_ | refine obs_by (by (simp [inB] <;> omega)) ?_)) ?_
  refine runS_nilRowBox 2 1 5 1 (byR []) rfl rfl rfl rfl rfl ?_
  refine runS_forget 7 rfl ?_; refine runS_forgetLoop 7 5 rfl rfl ?_
  refine runS_name 5 rfl (fun L => rfl) (fun L hL => ?_)
  refine runS_while (fun (z : Nat × AV) τ ar => (τ 0 = .yld 5 ∧ τ 1 = .ptr 3 0 0 ∧ τ 3 = iv ((z.1 : Int) - 1)) ∧ ar = [.box 23 (vlE v), .gone, .box 148 [z.2, .row 6 ((A.drop z.1).reverse.map digB).length], .box 72 [limS none A], .dfr true, L, .row 5 1 ((A.drop z.1).reverse.map digB).length ((A.drop z.1).reverse.map digB).length (byR ((A.drop z.1).reverse.map digB))] ∧ z.1 ≤ A.length ∧ (z.2 = nilP ∨ z.2 = bPtr) ∧ (z.1 < A.length → z.2 = bPtr)) (fun z => z.1) (A.length, nilP) ⟨⟨rfl, rfl, congrArg iv hw0⟩, by rw [List.drop_length]; rfl, Nat.le_refl _, .inl rfl, fun h => absurd h (Nat.lt_irrefl _)⟩ ?_
  rintro ⟨i, a⟩ τ' ar' ⟨⟨g0, g1, g3⟩, rfl, hi, ha, hab⟩ ih
  dsimp only at g3 hi ha hab ih ⊢
  subst hL
  refine runS_says 0 (by exact g0) (Says.refl _) ?_; refine runS_says 1 (by exact g1) (Says.refl _) ?_; refine runS_says 3 (by exact g3) (Says.refl _) ?_
  refine runS_x (I := inf) (J := jnf) ⟨false, false, [], 0, 0⟩ 9999 rfl (by repeat (first | exact obs_nil | refine obs_draw (by kernel_rfl) ?_ | refine obs_same ?_ | refine obs_and ?_ | refine obs_by (by (simp [inB] <;> omega)) ?_)) ?_
  refine runS_cond rfl (fun h => ?_) (fun h => ?_)
  · have hi0 : 0 < i := by
      have : decide ((i : Int) - 1 ≥ 0) = true := h
      simp at this
      omega
    obtain ⟨k, rfl⟩ : ∃ k, i = k + 1 := ⟨i - 1, by omega⟩
    have hkk : k < A.length := by omega
    have e1 : (((k + 1 : Nat) : Int) - 1) = (k : Int) := by omega
    rw [e1] at g3 ⊢
    have hwk : IntKind.wrap .i64 ((k : Int) - 1) = (k : Int) - 1 := w64 (by omega) (by omega)
    have hd9 := getD_lt hdA k
    have hbn : (((digB (A.getD k 0)).toNat : Nat) : Int) = IntKind.wrap .u8 (48 + ((A.getD k 0 : Nat) : Int)) := by rw [digB_nat hd9, w8 (by omega) (by omega)]; rfl
    have hdr := drop_rev hkk
    have hll : ((A.drop (k + 1)).reverse.map digB).length ≤ 100 := by simp; omega
    generalize hle : (A.drop (k + 1)).reverse.map digB = l at *
    refine runS_x (I := inf) (J := jnf) ⟨false, false, [], 0, 0⟩ 9999 rfl (by repeat (first | exact obs_nil | refine obs_draw (by kernel_rfl) ?_ | refine obs_same ?_ | refine obs_and ?_ | refine obs_by (by (simp [inB, hkk] <;> omega)) ?_)) ?_
    refine runS_name 5 rfl (fun L => rfl) (fun L hL => ?_)
    have hz : Six.Ok ⟨.box 23 (vlE v), .gone, .box 72 [limS none A], .dfr true, L⟩ := ⟨fun l h => .box rfl (.gone h), fun l h => by rw [hL]; exact .box rfl (.dfr (.loop (scrub_under _ _) h))⟩
    have hbb := b_byte hz ha l.length l (digB (A.getD k 0)) (by omega)
    unfold uv at hbb
    rw [hbn] at hbb
    refine runS_callF (blV ⟨.box 23 (vlE v), .gone, .box 72 [limS none A], .dfr true, L⟩ a l.length l) (blV ⟨.box 23 (vlE v), .gone, .box 72 [limS none A], .dfr true, L⟩ bPtr (l.length + 1) (l ++ [digB (A.getD k 0)])) [] rfl rfl rfl rfl rfl (show _ = _ from rfl) rfl (kBV hz ha l.length l) rfl rfl hbb ?_
    subst hL
    refine runS_x (I := inf) (J := jnf) ⟨true, false, [], 0, 0⟩ 9999 rfl (by repeat (first | exact obs_nil | refine obs_draw (by kernel_rfl) ?_ | refine obs_same ?_ | refine obs_and ?_ | refine obs_by (by (simp [inB] <;> omega)) ?_)) ?_
    refine runS_drop 7 (Nat.zero_le _) rfl (by repeat (first | exact .nil | refine .row (fun j hj => rfl) ?_ | refine .box rfl ?_ | refine .fam (fun k j hk hj => rfl) ?_ | refine .loop (scrub_under _ _) ?_ | refine .dfr ?_ | refine .gone ?_ | refine .map (fun p hp => by (obtain ⟨k, _, rfl⟩ := List.mem_map.1 hp; rfl)) ?_)) rfl rfl rfl (by repeat (first | exact .nil | refine .cons rfl rfl rfl (scrub_under _ _) ?_)) ?_
    refine ih (k, bPtr) _ _ (by dsimp only; omega) ⟨⟨rfl, rfl, congrArg iv hwk⟩, ?_, by dsimp only; omega, .inr rfl, fun _ => rfl⟩
    dsimp only
    rw [hdr, List.length_append]
    rfl
  · have hi0 : i = 0 := by
      have : decide ((i : Int) - 1 ≥ 0) = false := h
      simp at this
      omega
    subst hi0
    have hab0 := hab hA0
    subst hab0
    rw [List.drop_zero]
    refine runS_x (I := inf) (J := jnf) ⟨true, false, [], 0, 0⟩ 9999 rfl (by repeat (first | exact obs_nil | refine obs_draw (by kernel_rfl) ?_ | refine obs_same ?_ | refine obs_and ?_ | refine obs_by (by (simp [inB] <;> omega)) ?_)) ?_
    have hDl : (A.reverse.map digB).length = A.length := by simp
    generalize A.reverse.map digB = D at *
    refine runS_name 5 rfl (fun L => rfl) (fun L hL => ?_)
    have hz : Six.Ok ⟨.box 23 (vlE v), .gone, .box 72 [limS none A], .dfr true, L⟩ := ⟨fun l h => .box rfl (.gone h), fun l h => by rw [hL]; exact .box rfl (.dfr (.loop (scrub_under _ _) h))⟩
    have hbt := b_text hz D.length D (by omega) (by omega)
    refine runS_callF (blV ⟨.box 23 (vlE v), .gone, .box 72 [limS none A], .dfr true, L⟩ bPtr D.length D) [.box 23 (vlE v), .gone, .box 148 [bPtr, .row 6 D.length], .box 72 [limS none A], .dfr true, L, .gone] [] rfl rfl rfl rfl rfl (show _ = _ from rfl) rfl (kBV hz (.inr rfl) D.length D) rfl rfl hbt ?_
    have hwl : IntKind.wrap .i64 (IntKind.wrap .i64 (v.q + 1) - ((bl (bs D)).length : Int)) = (Q : Int) + 1 - (D.length : Int) := by
      rw [blS, hQ, w64 (x := (Q : Int) + 1) (by omega) (by omega), w64 (by omega) (by omega)]
    refine runS_x (I := inf) (J := jnf) ⟨false, false, [], 0, 0⟩ 9999 rfl (by repeat (first | exact obs_nil | refine obs_draw (by kernel_rfl) ?_ | refine obs_same ?_ | refine obs_and ?_ | refine obs_by (by (simp [inB, blS] <;> omega)) ?_)) ?_
    refine runS_cut (fun τ ar => (τ 1 = .ptr 0 0 0 ∧ τ 5 = sv sg ∧ τ 10 = sv (padS Q D)) ∧ ar = [.box 23 (vlE v), .gone, .box 148 [bPtr, .row 6 D.length], .box 72 [limS none A], .dfr true, L, .gone]) (fun rest => ?_) ?_
    · refine runS_cond rfl (fun h2 => ?_) (fun h2 => ?_)
      · have hlk : D.length < Q + 1 := by
          have := of_decide_eq_true h2
          rw [hwl] at this
          omega
        have hrp := lib_repeat [48] (Q + 1 - D.length) (by decide) (by omega)
        rw [repeat_zero, show ((Q + 1 - D.length : Nat) : Int) = IntKind.wrap .i64 (IntKind.wrap .i64 (v.q + 1) - ((bl (bs D)).length : Int)) by rw [hwl]; omega] at hrp
        have hpl : (List.replicate (Q + 1 - D.length) (48 : UInt8)).length = Q + 1 - D.length := List.length_replicate
        refine runS_x (I := inf) (J := jnf) ⟨false, false, [], 2, 0⟩ 9999 rfl (by repeat (first | exact obs_nil | refine obs_draw (by kernel_rfl) ?_ | refine obs_same ?_ | refine obs_and ?_ | refine obs_by (by (simp [inB] <;> omega)) ?_)) ?_
        refine runS_call rfl rfl rfl rfl rfl rfl rfl hrp ?_
        refine runS_x (I := inf) (J := jnf) ⟨false, false, [], 2, 0⟩ 9999 rfl (by repeat (first | exact obs_nil | refine obs_draw (by kernel_rfl) ?_ | refine obs_same ?_ | refine obs_and ?_ | refine obs_by (by (simp [inB, blS, hpl] <;> omega)) ?_)) ?_
        exact rest _ _ ⟨⟨rfl, rfl, rfl⟩, rfl⟩
      · have hlk : ¬ D.length < Q + 1 := by
          have := of_decide_eq_false h2
          rw [hwl] at this
          omega
        have hpe : padS Q D = D := by
          unfold padS
          rw [show Q + 1 - D.length = 0 by omega]
          rfl
        refine runS_x (I := inf) (J := jnf) ⟨false, false, [], 2, 0⟩ 9999 rfl (by repeat (first | exact obs_nil | refine obs_draw (by kernel_rfl) ?_ | refine obs_same ?_ | refine obs_and ?_ | refine obs_by (by (simp [inB] <;> omega)) ?_)) ?_
        exact rest _ _ ⟨⟨rfl, rfl, by rw [hpe]; rfl⟩, rfl⟩
    rintro τ4 ar4 ⟨⟨g1, g5, g10⟩, rfl⟩
    subst hL
    have hpl := padS_len Q D
    have hpb : (padS Q D).length ≤ 100 := by unfold padS; simp; omega
    generalize padS Q D = E at *
    have hwd : IntKind.wrap .i64 (((bl (bs E)).length : Int) - v.q) = ((E.length - Q : Nat) : Int) := by rw [blS, hQ, w64 (by omega) (by omega)]; omega
    refine runS_says 1 (by exact g1) (Says.refl _) ?_; refine runS_says 5 (by exact g5) (Says.refl _) ?_; refine runS_says 10 (by exact g10) (Says.refl _) ?_
    refine runS_x (I := inf) (J := jnf) ⟨false, false, [], 0, 0⟩ 9999 rfl (by repeat (first | exact obs_nil | refine obs_draw (by kernel_rfl) ?_ | refine obs_same ?_ | refine obs_and ?_ | refine obs_by (by (simp [inB] <;> omega)) ?_)) ?_
    refine runS_cond rfl (fun h2 => ?_) (fun h2 => ?_)
    · have hQ0 : 0 < Q := by
        have := of_decide_eq_true h2
        omega
      have hwd2 : IntKind.wrap .i64 ((E.length : Int) - v.q) = ((E.length - Q : Nat) : Int) := hwd
      have hp1 : (part2 0 ((E.length - Q : Nat) : Int) E).length ≤ 100 := by unfold part2; simp; omega
      have hp2 : (part2 ((E.length - Q : Nat) : Int) (E.length : Int) E).length ≤ 100 := by unfold part2; simp; omega
      have hdot : (bl (ByteArray.mk #[46])).length = 1 := rfl
      refine runS_x (I := inf) (J := jnf) ⟨true, false, [], 0, 0⟩ 9999 rfl (by repeat (first | exact obs_nil | refine obs_draw (by kernel_rfl) ?_ | refine obs_same ?_ | refine obs_and ?_ | refine obs_by (by (simp [inB, blS, hwd2, hdot] <;> omega)) ?_)) ?_
      refine runS_ret (I := inf) 0 rfl (Nat.le_refl _) rfl .nil rfl ⟨?_, rfl⟩
      refine congrArg (fun z => Out.ret (.tup [sv z, iv 0])) ?_
      show sg ++ (((E.take (IntKind.wrap .i64 (((bl (bs E)).length : Int) - v.q)).toNat).drop (0 : Int).toNat ++ [46]) ++ (E.take ((E.length : Nat) : Int).toNat).drop (IntKind.wrap .i64 (((bl (bs E)).length : Int) - v.q)).toNat) = _
      rw [hwd]
      unfold pointS
      rw [Int.toNat_natCast, Int.toNat_natCast, if_pos hQ0, List.take_length]
      simp
    · have hQ0 : ¬ 0 < Q := by
        have := of_decide_eq_false h2
        omega
      refine runS_x (I := inf) (J := jnf) ⟨true, false, [], 0, 0⟩ 9999 rfl (by repeat (first | exact obs_nil | refine obs_draw (by kernel_rfl) ?_ | refine obs_same ?_ | refine obs_and ?_ | refine obs_by (by (simp [inB, blS] <;> omega)) ?_)) ?_
      refine runS_ret (I := inf) 0 rfl (Nat.le_refl _) rfl .nil rfl ⟨?_, rfl⟩
      unfold pointS
      rw [if_neg hQ0]
      rfl
end Go.Iron.Tryz

/- The digits' seat: awake. -/
namespace Go.Iron.Tryz
open Go.Proofs Go.RowKit Go.Iron.Tok Go.Iron.Dg

theorem l_awake : CallT Tryz.prog 15 [] [] (fun o A => o = .ret (bv true) ∧ A = []) := by
  have hd := d_Divide ⟨2, 1, 0, []⟩ ⟨2, 3, 0, []⟩ ⟨2, 15, 14, 0, false, []⟩ (by decide) (by decide)
  have hf : fitL 2 (15 : Int).toNat (14 : Int).toNat (Dg.quoL (ext ⟨2, 1, 0, []⟩) (ext ⟨2, 3, 0, []⟩) (14 : Int).toNat) 2 = (33333333333333, 14, 0) := third_fit
  dsimp only at hd
  rw [hf] at hd
  have ht := d_Text12 ⟨2, 33333333333333, 14, []⟩ (by decide) (.inr rfl) (by decide)
  have hx : textL (decide ((33333333333333 : Int) < 0)) (ext ⟨2, 33333333333333, 14, []⟩).m (14 : Int).toNat = [48, 46, 51, 51, 51, 51, 51, 51, 51, 51, 51, 51, 51, 51, 51, 51] := third_text
  dsimp only at ht
  rw [hx] at ht
  refine callS_body (n := 33) rfl rfl fun w ρ X => ?_
  refine runS_x (I := inf) (J := jnf) ⟨false, false, [], 0, 0⟩ 9999 rfl (by repeat (first | exact obs_nil | refine obs_draw (by kernel_rfl) ?_ | refine obs_same ?_ | refine obs_and ?_ | refine obs_by (by (simp [inB] <;> omega)) ?_)) ?_
  refine runS_call rfl rfl rfl rfl rfl rfl rfl hd ?_
  refine runS_x (I := inf) (J := jnf) ⟨false, false, [], 0, 0⟩ 9999 rfl (by repeat (first | exact obs_nil | refine obs_draw (by kernel_rfl) ?_ | refine obs_same ?_ | refine obs_and ?_ | refine obs_by (by (simp [inB] <;> omega)) ?_)) ?_
  refine runS_call rfl rfl rfl rfl rfl rfl rfl ht ?_
  refine runS_x (I := inf) (J := jnf) ⟨false, false, [], 0, 0⟩ 9999 rfl (by repeat (first | exact obs_nil | refine obs_draw (by kernel_rfl) ?_ | refine obs_same ?_ | refine obs_and ?_ | refine obs_by (by (simp [inB] <;> omega)) ?_)) ?_
  refine runS_ret (I := inf) 0 rfl (Nat.le_refl _) rfl .nil rfl ⟨?_, rfl⟩
  refine congrArg (fun x => Out.ret (bv x)) (?_ : _ = true)
  rw [show (ByteArray.mk #[48,46,51,51,51,51,51,51,51,51,51,51,51,51,51,51]) = bs [48,46,51,51,51,51,51,51,51,51,51,51,51,51,51,51] from rfl, bs_beq]
  decide
end Go.Iron.Tryz

/- The digits' seat: the reference's products and differences. -/
namespace Go.Iron.Tryz
open Go.Proofs Go.RowKit Go.Iron.Tok Go.Iron.Dg

end Go.Iron.Tryz

/- The digits' seat: sums and differences; the order of numbers. -/
namespace Go.Iron.Tryz
open Go.Proofs Go.RowKit Go.Iron.Tok Go.Iron.Dg

theorem Fits.mono {a : Lg} {l l2 : Nat} {x x2 : Int} (h : Fits a l x) (hl : l ≤ l2) (hx : x ≤ x2) : Fits a l2 x2 := ⟨Nat.le_trans h.1 hl, by have := h.2; omega, by have := h.3; omega⟩
end Go.Iron.Tryz

/- The digits' seat: the reference's exact numbers. -/
namespace Go.Iron.Tryz
open Go.Proofs Go.RowKit Go.Iron.Tok Go.Iron.Dg

structure ExFit (x : Ex) (l : Nat) : Prop where
  num : (frm x.num).length ≤ l
  den : (frm x.den).length ≤ l
end Go.Iron.Tryz

/- The digits' seat: the reference's sums, products and order of exact numbers. -/
namespace Go.Iron.Tryz
open Go.Proofs Go.RowKit Go.Iron.Tok Go.Iron.Dg

theorem ExFit.mono {x : Ex} {l l2 : Nat} (h : ExFit x l) (hl : l ≤ l2) : ExFit x l2 := ⟨Nat.le_trans h.1 hl, Nat.le_trans h.2 hl⟩
end Go.Iron.Tryz

/- Digits: how the reference finds a float's digits, in plain Lean. -/
namespace Go.Iron.Dg

end Go.Iron.Dg

/- The digits' seat: what the reference asks; its quotients of naturals. -/
namespace Go.Iron.Tryz
open Go.Proofs Go.RowKit Go.Iron.Tok Go.Iron.Dg

theorem r_numbers (n1 : Option Bool) (l : List Vl) (hl : l.length ≤ 100000) : CallT Tryz.prog 103 [vlS n1 l] [] (fun o A => o = .ret (iv (askL none l)) ∧ A = []) := by
  refine callS_body (n := 30) rfl rfl fun w ρ X => ?_
  refine runS_x (I := inf) (J := jnf) ⟨false, false, [], 0, 0⟩ 9999 rfl (by repeat (first | exact obs_nil | refine obs_draw (by kernel_rfl) ?_ | refine obs_same ?_ | refine obs_and ?_ | refine obs_by (by (simp [inB] <;> omega)) ?_)) ?_
  refine runS_while (fun (i : Nat) τ ar => (τ 0 = vlS n1 l ∧ τ 3 = iv i) ∧ ar = [] ∧ i ≤ l.length ∧ (l.take i).all Vl.right = true) (fun i => l.length - i) 0 ⟨⟨rfl, rfl⟩, rfl, Nat.zero_le _, rfl⟩ ?_
  rintro i τ' ar' ⟨⟨g0, g3⟩, rfl, hi, ha⟩ ih
  refine runS_says 0 (by exact g0) (Says.refl _) ?_; refine runS_says 3 (by exact g3) (Says.refl _) ?_
  refine runS_x (I := inf) (J := jnf) ⟨false, false, [], 0, 0⟩ 9999 rfl (by repeat (first | exact obs_nil | refine obs_draw (by kernel_rfl) ?_ | refine obs_same ?_ | refine obs_and ?_ | refine obs_by (by (simp [inB] <;> omega)) ?_)) ?_
  refine runS_cond rfl (fun h => ?_) (fun h => ?_)
  · have hlt : i < l.length := by simp at h; omega
    have hw1 : IntKind.wrap .i64 ((i : Int) + 1) = ((i + 1 : Nat) : Int) := by rw [w64 (by omega) (by omega)]; rfl
    have hv := vl_get hlt
    refine runS_x (I := inf) (J := jnf) ⟨false, false, [], 0, 0⟩ 9999 rfl (by repeat (first | exact obs_nil | refine obs_draw (by kernel_rfl) ?_ | refine obs_same ?_ | refine obs_and ?_ | refine obs_by (by (simp [inB, hlt] <;> omega)) ?_)) ?_
    refine runS_call rfl rfl rfl rfl rfl rfl rfl (r_right (l.getD i ⟨0, 0, 0, []⟩).kind (l.getD i ⟨0, 0, 0, []⟩).n (l.getD i ⟨0, 0, 0, []⟩).q (l.getD i ⟨0, 0, 0, []⟩).s) ?_
    refine runS_x (I := inf) (J := jnf) ⟨false, false, [], 0, 0⟩ 9999 rfl (by repeat (first | exact obs_nil | refine obs_draw (by kernel_rfl) ?_ | refine obs_same ?_ | refine obs_and ?_ | refine obs_by (by (simp [inB] <;> omega)) ?_)) ?_
    refine runS_cond rfl (fun h2 => ?_) (fun h2 => ?_)
    · have hr : (l[i]).right = false := by
        rw [← hv]
        have h3 : (!(l.getD i ⟨0, 0, 0, []⟩).right) = true := h2
        rw [Bool.not_eq_true'] at h3
        exact h3
      have hE : askL none l = 1 := by
        unfold askL
        rw [if_pos]
        rw [List.all_eq_false]
        exact ⟨_, List.getElem_mem hlt, by rw [hr]; decide⟩
      rw [hE]
      refine runS_x (I := inf) (J := jnf) ⟨false, false, [], 0, 0⟩ 9999 rfl (by repeat (first | exact obs_nil | refine obs_draw (by kernel_rfl) ?_ | refine obs_same ?_ | refine obs_and ?_ | refine obs_by (by (simp [inB] <;> omega)) ?_)) ?_
      refine runS_ret (I := inf) 0 rfl (Nat.le_refl _) rfl .nil rfl ⟨?_, rfl⟩
      rfl
    · have hr : (l[i]).right = true := by
        rw [← hv]
        have h3 : (!(l.getD i ⟨0, 0, 0, []⟩).right) = false := h2
        rw [Bool.not_eq_false'] at h3
        exact h3
      refine runS_x (I := inf) (J := jnf) ⟨false, false, [], 0, 0⟩ 9999 rfl (by repeat (first | exact obs_nil | refine obs_draw (by kernel_rfl) ?_ | refine obs_same ?_ | refine obs_and ?_ | refine obs_by (by (simp [inB] <;> omega)) ?_)) ?_
      exact ih (i + 1) _ _ (by omega) ⟨⟨rfl, congrArg iv hw1⟩, rfl, by omega, all_take ha hlt hr⟩
  · have hie : i = l.length := by simp at h; omega
    subst hie
    rw [List.take_length] at ha
    clear ih hi g0 g3
    refine runS_x (I := inf) (J := jnf) ⟨false, false, [], 0, 0⟩ 9999 rfl (by repeat (first | exact obs_nil | refine obs_draw (by kernel_rfl) ?_ | refine obs_same ?_ | refine obs_and ?_ | refine obs_by (by (simp [inB] <;> omega)) ?_)) ?_
    refine runS_while (fun (i : Nat) τ ar => (τ 0 = vlS n1 l ∧ τ 4 = iv i) ∧ ar = [] ∧ i ≤ l.length ∧ (l.take i).all (fun v => numK v.kind) = true) (fun i => l.length - i) 0 ⟨⟨rfl, rfl⟩, rfl, Nat.zero_le _, rfl⟩ ?_
    rintro i τ2 ar2 ⟨⟨g0, g4⟩, rfl, hi, hb⟩ ih
    refine runS_says 0 (by exact g0) (Says.refl _) ?_; refine runS_says 4 (by exact g4) (Says.refl _) ?_
    refine runS_x (I := inf) (J := jnf) ⟨false, false, [], 0, 0⟩ 9999 rfl (by repeat (first | exact obs_nil | refine obs_draw (by kernel_rfl) ?_ | refine obs_same ?_ | refine obs_and ?_ | refine obs_by (by (simp [inB] <;> omega)) ?_)) ?_
    refine runS_cond rfl (fun h => ?_) (fun h => ?_)
    · have hlt : i < l.length := by simp at h; omega
      have hw1 : IntKind.wrap .i64 ((i : Int) + 1) = ((i + 1 : Nat) : Int) := by rw [w64 (by omega) (by omega)]; rfl
      have hv := vl_get hlt
      refine runS_x (I := inf) (J := jnf) ⟨false, false, [], 0, 0⟩ 9999 rfl (by repeat (first | exact obs_nil | refine obs_draw (by kernel_rfl) ?_ | refine obs_same ?_ | refine obs_and ?_ | refine obs_by (by (simp [inB, hlt] <;> omega)) ?_)) ?_
      refine runS_call rfl rfl rfl rfl rfl rfl rfl (r_numeric (l.getD i ⟨0, 0, 0, []⟩).kind) ?_
      refine runS_x (I := inf) (J := jnf) ⟨false, false, [], 0, 0⟩ 9999 rfl (by repeat (first | exact obs_nil | refine obs_draw (by kernel_rfl) ?_ | refine obs_same ?_ | refine obs_and ?_ | refine obs_by (by (simp [inB] <;> omega)) ?_)) ?_
      refine runS_cond rfl (fun h2 => ?_) (fun h2 => ?_)
      · have hr : numK (l[i]).kind = false := by
          rw [← hv]
          have h3 : (!numK (l.getD i ⟨0, 0, 0, []⟩).kind) = true := h2
          rw [Bool.not_eq_true'] at h3
          exact h3
        have hE : askL none l = 10 := by
          unfold askL
          rw [if_neg (by rw [ha]; decide), if_neg (by simp), if_pos]
          rw [List.all_eq_false]
          exact ⟨_, List.getElem_mem hlt, by rw [hr]; decide⟩
        rw [hE]
        refine runS_x (I := inf) (J := jnf) ⟨false, false, [], 0, 0⟩ 9999 rfl (by repeat (first | exact obs_nil | refine obs_draw (by kernel_rfl) ?_ | refine obs_same ?_ | refine obs_and ?_ | refine obs_by (by (simp [inB] <;> omega)) ?_)) ?_
        refine runS_ret (I := inf) 0 rfl (Nat.le_refl _) rfl .nil rfl ⟨?_, rfl⟩
        rfl
      · have hr : numK (l[i]).kind = true := by
          rw [← hv]
          have h3 : (!numK (l.getD i ⟨0, 0, 0, []⟩).kind) = false := h2
          rw [Bool.not_eq_false'] at h3
          exact h3
        refine runS_x (I := inf) (J := jnf) ⟨false, false, [], 0, 0⟩ 9999 rfl (by repeat (first | exact obs_nil | refine obs_draw (by kernel_rfl) ?_ | refine obs_same ?_ | refine obs_and ?_ | refine obs_by (by (simp [inB] <;> omega)) ?_)) ?_
        exact ih (i + 1) _ _ (by omega) ⟨⟨rfl, congrArg iv hw1⟩, rfl, by omega, all_take hb hlt hr⟩
    · have hie : i = l.length := by simp at h; omega
      subst hie
      rw [List.take_length] at hb
      have hE : askL none l = 0 := by
        unfold askL
        rw [if_neg (by rw [ha]; decide), if_neg (by simp), if_neg (by rw [hb]; decide), if_neg (by simp)]
      rw [hE]
      refine runS_x (I := inf) (J := jnf) ⟨false, false, [], 0, 0⟩ 9999 rfl (by repeat (first | exact obs_nil | refine obs_draw (by kernel_rfl) ?_ | refine obs_same ?_ | refine obs_and ?_ | refine obs_by (by (simp [inB] <;> omega)) ?_)) ?_
      refine runS_ret (I := inf) 0 rfl (Nat.le_refl _) rfl .nil rfl ⟨?_, rfl⟩
      rfl
end Go.Iron.Tryz
