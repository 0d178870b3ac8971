/- The digits' seat: the law of texts. -/
import Derived.Test.YtcgepjbalmppjaaGreatDoorTG
namespace Go.Iron.Tryz
open Go.Proofs Go.RowKit Go.Iron.Tok Go.Iron.Dg

theorem ext_m (v : Vl) (hk : v.kind = 1 ∨ v.kind = 2) : (ext v).m = v.n.natAbs * (if v.kind = 1 then 5 ^ v.q.toNat else 1) := rfl
theorem r_TextV (v : Vl) : CallT Tryz.prog 54 [.agg (vlE v)] [] (fun o A => o = .ret (.tup [sv (textV v).1, iv (textV v).2]) ∧ A = []) := by
  unfold textV
  by_cases h : askL none [v] ≠ 0
  · rw [if_pos h]
    exact r_TextE v h
  · rw [if_neg h]
    obtain ⟨hr, hkn⟩ := ask1 (Decidable.not_not.1 h)
    by_cases h3 : v.kind = 3
    · rw [if_pos h3]
      exact r_Text3 v hr h3
    · rw [if_neg h3]
      rcases num_kind hr hkn h3 with hk | hk
      · have := r_Text1 v hr hk
        rw [ext_m v (.inl hk), if_pos hk]
        exact this
      · have := r_Text2 v hr hk
        rw [ext_m v (.inr hk), if_neg (by rw [hk]; decide), Nat.mul_one]
        exact this
theorem text_back (v : Vl) (h : (textV v).2 = 0) (hk : v.kind ≠ 1) : readV (textV v).1 = (v, 0) := by
  unfold textV at h ⊢
  by_cases h0 : askL none [v] ≠ 0
  · rw [if_pos h0] at h
    exact absurd h h0
  · rw [if_neg h0]
    obtain ⟨hr, hkn⟩ := ask1 (Decidable.not_not.1 h0)
    by_cases h3 : v.kind = 3
    · rw [if_pos h3]
      exact read_flt v hr h3
    · rw [if_neg h3]
      have hk2 : v.kind = 2 := by
        have := num_kind hr hkn h3
        omega
      dsimp only
      rw [ext_m v (.inr hk2), if_neg hk, Nat.mul_one]
      exact read_fix v hr hk2
theorem l_texts (v : Vl) (s : Str) : CallT Tryz.prog 11 [.agg (vlE v), sv s] [] (fun o A => o = .ret (bv true) ∧ A = []) := by
  have c1 := d_Read s
  have c2 := r_Read s
  have t1 := d_TextV v
  have t2 := r_TextV v
  have hb := text_back v
  have c3 := d_Read (textV v).1
  generalize readV s = R at *
  generalize readV (textV v).1 = W at *
  generalize textV v = T at *
  obtain ⟨⟨ak, an, aq, az⟩, ae⟩ := R
  obtain ⟨⟨wk, wn, wq, ws⟩, we⟩ := W
  obtain ⟨tx, te⟩ := T
  obtain ⟨vk, vn, vq, vs⟩ := v
  dsimp only at c1 c2 c3 t1 t2 hb
  refine callS_body (n := 82) rfl rfl fun w ρ X => ?_
  refine runS_x (I := inf) (J := jnf) ⟨false, false, [], 0, 0⟩ 9999 rfl (by repeat (first | exact obs_nil | refine obs_draw (by kernel_rfl) ?_ | refine obs_same ?_ | refine obs_and ?_ | refine obs_by (by (simp [inB] <;> omega)) ?_)) ?_
  refine runS_call rfl rfl rfl rfl rfl rfl rfl (l_light ⟨vk, vn, vq, vs⟩ ⟨0, 0, 0, 0, false, []⟩) ?_
  refine runS_x (I := inf) (J := jnf) ⟨false, false, [], 0, 0⟩ 9999 rfl (by repeat (first | exact obs_nil | refine obs_draw (by kernel_rfl) ?_ | refine obs_same ?_ | refine obs_and ?_ | refine obs_by (by (simp [inB, blS] <;> omega)) ?_)) ?_
  refine runS_cond rfl (fun h => ?_) (fun h => ?_)
  · refine runS_x (I := inf) (J := jnf) ⟨false, false, [], 0, 0⟩ 9999 rfl (by repeat (first | exact obs_nil | refine obs_draw (by kernel_rfl) ?_ | refine obs_same ?_ | refine obs_and ?_ | refine obs_by (by (simp [inB] <;> omega)) ?_)) ?_
    refine runS_call rfl rfl rfl rfl rfl rfl rfl l_awake ?_
    refine runS_x (I := inf) (J := jnf) ⟨false, false, [], 0, 0⟩ 9999 rfl (by repeat (first | exact obs_nil | refine obs_draw (by kernel_rfl) ?_ | refine obs_same ?_ | refine obs_and ?_ | refine obs_by (by (simp [inB] <;> omega)) ?_)) ?_
    refine runS_ret (I := inf) 0 rfl (Nat.le_refl _) rfl .nil rfl ⟨?_, rfl⟩
    rfl
  · clear h
    refine runS_x (I := inf) (J := jnf) ⟨false, false, [], 0, 0⟩ 9999 rfl (by repeat (first | exact obs_nil | refine obs_draw (by kernel_rfl) ?_ | refine obs_same ?_ | refine obs_and ?_ | refine obs_by (by (simp [inB] <;> omega)) ?_)) ?_
    refine runS_call rfl rfl rfl rfl rfl rfl rfl c1 ?_
    refine runS_x (I := inf) (J := jnf) ⟨false, false, [], 0, 0⟩ 9999 rfl (by repeat (first | exact obs_nil | refine obs_draw (by kernel_rfl) ?_ | refine obs_same ?_ | refine obs_and ?_ | refine obs_by (by (simp [inB] <;> omega)) ?_)) ?_
    refine runS_call rfl rfl rfl rfl rfl rfl rfl c2 ?_
    refine runS_x (I := inf) (J := jnf) ⟨false, false, [], 0, 0⟩ 9999 rfl (by repeat (first | exact obs_nil | refine obs_draw (by kernel_rfl) ?_ | refine obs_same ?_ | refine obs_and ?_ | refine obs_by (by (simp [inB] <;> omega)) ?_)) ?_
    refine runS_cond rfl (fun h => ?_) (fun h => ?_)
    · exfalso
      simp at h
    · refine runS_x (I := inf) (J := jnf) ⟨false, false, [], 0, 0⟩ 9999 rfl (by repeat (first | exact obs_nil | refine obs_draw (by kernel_rfl) ?_ | refine obs_same ?_ | refine obs_and ?_ | refine obs_by (by (simp [inB] <;> omega)) ?_)) ?_
      refine runS_call rfl rfl rfl rfl rfl rfl rfl t1 ?_
      refine runS_x (I := inf) (J := jnf) ⟨false, false, [], 0, 0⟩ 9999 rfl (by repeat (first | exact obs_nil | refine obs_draw (by kernel_rfl) ?_ | refine obs_same ?_ | refine obs_and ?_ | refine obs_by (by (simp [inB] <;> omega)) ?_)) ?_
      refine runS_call rfl rfl rfl rfl rfl rfl rfl t2 ?_
      refine runS_x (I := inf) (J := jnf) ⟨false, false, [], 0, 0⟩ 9999 rfl (by repeat (first | exact obs_nil | refine obs_draw (by kernel_rfl) ?_ | refine obs_same ?_ | refine obs_and ?_ | refine obs_by (by (simp [inB] <;> omega)) ?_)) ?_
      refine runS_cond rfl (fun h => ?_) (fun h => ?_)
      · exfalso
        simp at h
      · clear h
        refine runS_x (I := inf) (J := jnf) ⟨false, false, [], 0, 0⟩ 9999 rfl (by repeat (first | exact obs_nil | refine obs_draw (by kernel_rfl) ?_ | refine obs_same ?_ | refine obs_and ?_ | refine obs_by (by (simp [inB] <;> omega)) ?_)) ?_
        refine runS_cond rfl (fun h => ?_) (fun h => ?_)
        · refine runS_x (I := inf) (J := jnf) ⟨false, false, [], 0, 0⟩ 9999 rfl (by repeat (first | exact obs_nil | refine obs_draw (by kernel_rfl) ?_ | refine obs_same ?_ | refine obs_and ?_ | refine obs_by (by (simp [inB] <;> omega)) ?_)) ?_
          refine runS_call rfl rfl rfl rfl rfl rfl rfl l_awake ?_
          refine runS_x (I := inf) (J := jnf) ⟨false, false, [], 0, 0⟩ 9999 rfl (by repeat (first | exact obs_nil | refine obs_draw (by kernel_rfl) ?_ | refine obs_same ?_ | refine obs_and ?_ | refine obs_by (by (simp [inB] <;> omega)) ?_)) ?_
          refine runS_ret (I := inf) 0 rfl (Nat.le_refl _) rfl .nil rfl ⟨?_, rfl⟩
          rfl
        · have hte : te = 0 ∧ vk ≠ 1 := by
            have h' : (if (!(te == 0)) = true then true else vk == 1) = false := h
            by_cases e : te = 0
            · subst e
              refine ⟨rfl, fun e => ?_⟩
              subst e
              cases h'
            · exfalso
              rw [show (te == 0) = false from beq_eq_false_iff_ne.2 e] at h'
              cases h'
          have hW := hb hte.1 hte.2
          injection hW with hW1 hW2
          injection hW1 with w1 w2 w3 w4
          subst w1 w2 w3 w4 hW2
          clear h hb
          refine runS_x (I := inf) (J := jnf) ⟨false, false, [], 0, 0⟩ 9999 rfl (by repeat (first | exact obs_nil | refine obs_draw (by kernel_rfl) ?_ | refine obs_same ?_ | refine obs_and ?_ | refine obs_by (by (simp [inB] <;> omega)) ?_)) ?_
          refine runS_call rfl rfl rfl rfl rfl rfl rfl c3 ?_
          refine runS_x (I := inf) (J := jnf) ⟨false, false, [], 0, 0⟩ 9999 rfl (by repeat (first | exact obs_nil | refine obs_draw (by kernel_rfl) ?_ | refine obs_same ?_ | refine obs_and ?_ | refine obs_by (by (simp [inB] <;> omega)) ?_)) ?_
          refine runS_callU rfl rfl (by first | exact .v rfl rfl rfl rfl | exact .o rfl rfl rfl rfl) rfl rfl (by repeat (first | exact .nil | refine .cons (.n rfl) ?_ | refine .cons .o ?_ | refine .cons gok_and ?_)) rfl rfl rfl rfl rfl (fun _ => l_awake) ?_
          refine runS_x (I := inf) (J := jnf) ⟨false, false, [], 0, 0⟩ 9999 rfl (by repeat (first | exact obs_nil | refine obs_draw (by kernel_rfl) ?_ | refine obs_same ?_ | refine obs_and ?_ | refine obs_by (by (simp [inB] <;> omega)) ?_)) ?_
          refine runS_ret (I := inf) 0 rfl (Nat.le_refl _) rfl .nil rfl ⟨?_, rfl⟩
          refine congrArg (fun x => Out.ret (bv x)) ?_
          simp
end Go.Iron.Tryz

