/- The digits' seat: the reference's floats. -/
import Derived.Test.YtcgepjbalmppjaaGreatDoorTC
import Derived.Test.YtcgepjbalmppjaaGreatDoorTE
import Derived.Test.YtcgepjbalmppjaaGreatDoorTF
namespace Go.Iron.Tryz
open Go.Proofs Go.RowKit Go.Iron.Tok Go.Iron.Dg

theorem natS_tail (d : Nat) (A : List Nat) : AV.slc 1 none (((d :: A).length : Int) - 1).toNat (shiftR (natR (d :: A)) (Int.toNat 1)) = natS none A := by
  have h : (((d :: A).length : Int) - 1).toNat = A.length := by rw [List.length_cons]; omega
  rw [h]
  refine congrArg (AV.slc 1 none A.length) (funext fun i => ?_)
  show natR (d :: A) (1 + i) = natR A i
  rw [Nat.add_comm]
  rfl
theorem r_float0 (ng : Bool) (den : Nat) (t : Typ) : CallT Tryz.prog 177 [exA ⟨ng, 0, den⟩, .agg (typE t)] [] (fun o A => o = .ret (numA 3 (0, 0, 0)) ∧ A = []) := by
  show CallT Tryz.prog 177 [.agg [bv ng, natS none (frm 0), natS none (frm den)], .agg (typE t)] [] _
  rw [frm_zero]
  refine callS_body (n := 125) rfl rfl fun w ρ X => ?_
  refine rX rfl ?_
  refine runS_cond rfl (fun h => ?_) (fun h => by cases h)
  refine rX rfl ?_
  refine runS_ret (I := inf) 0 rfl (Nat.le_refl _) rfl .nil rfl ⟨?_, rfl⟩
  rfl
theorem r_float (ng : Bool) (num den : Nat) (t : Typ) (P : Nat) (hn : num ≠ 0) (hd : den ≠ 0) (hp : t.p = P) (hP : 1 ≤ P) (hP2 : P ≤ 15) (hx : ExFit ⟨ng, num, den⟩ 980) :
    CallT Tryz.prog 177 [exA ⟨ng, num, den⟩, .agg (typE t)] [] (fun o A => o = .ret (numA 3 (fltO ng (fltR num den (kF num den P)))) ∧ A = []) := by
  obtain ⟨a1, a2⟩ := hx
  dsimp only at a1 a2
  obtain ⟨tk, tp, tq, tn, tv, tc⟩ := t
  dsimp only at hp
  subst hp
  have ln0 : 0 < (frm num).length := Nat.pos_of_ne_zero fun e => hn (frm_len0.1 e)
  have ld0 : 0 < (frm den).length := Nat.pos_of_ne_zero fun e => hd (frm_len0.1 e)
  have hkd : k0F num den P = (P : Int) - ((frm num).length - (frm den).length) - 1 := rfl
  have hwk : IntKind.wrap .i64 (IntKind.wrap .i64 ((P : Int) - IntKind.wrap .i64 (((frm num).length : Int) - ((frm den).length : Int))) - 1) = k0F num den P := by
    rw [w64 (x := ((frm num).length : Int) - ((frm den).length : Int)) (by omega) (by omega), w64 (x := (P : Int) - (((frm num).length : Int) - ((frm den).length : Int))) (by omega) (by omega), w64 (by omega) (by omega)]; rfl
  have hNl : (frm (num * e10 (k0F num den P))).length ≤ 1000 := by
    have := frm_len_up num (k0F num den P).toNat
    unfold e10
    omega
  have hDl : (frm (den * e10 (-k0F num den P))).length ≤ 1000 := by
    have := frm_len_up den (-k0F num den P).toNat
    unfold e10
    omega
  have hst := fun j => kF_found (j := j) hn hd hP
  have hsp := fun j => k0F_stop (j := j) hn hd hP
  have hD0 : 0 < den * e10 (-k0F num den P) := Nat.mul_pos (Nat.pos_of_ne_zero hd) (e10_pos _)
  have hk0b : -1000 ≤ k0F num den P ∧ k0F num den P ≤ 1000 := by omega
  refine callS_body (n := 125) rfl rfl fun w ρ X => ?_
  refine rX rfl ?_
  refine runS_cond rfl (fun h => ?_) (fun h => ?_)
  · have : ((frm num).length : Int) = 0 := by simpa using (show (((frm num).length : Int) == 0) = true from h)
    omega
  refine rX rfl ?_
  refine runS_cut (fun τ ar => (τ 2 = .ptr 0 0 0 ∧ τ 3 = .ptr 1 0 0 ∧ τ 4 = .ptr 2 0 0 ∧ τ 6 = .ptr 3 0 0 ∧ τ 7 = iv (k0F num den P) ∧ τ 8 = natS none (frm (num * e10 (k0F num den P))) ∧ τ 9 = natS none (frm (den * e10 (-k0F num den P)))) ∧ ar = [.box 35 [bv ng, natS none (frm num), natS none (frm den)], .box 25 [iv tk, iv P, iv tq, iv tn, bv tv, sv tc], .box 23 [iv 0, iv 0, iv 0, sv []], .box 23 [iv 3, iv 0, iv 0, sv []]]) (fun rest => ?_) ?_
  · refine runS_cond rfl (fun h => ?_) (fun h => ?_)
    · have h0 : 0 ≤ k0F num den P := by
        have := of_decide_eq_true h
        rw [hwk] at this
        exact this
      have hpw := r_pow10Z (k0F num den P) h0 (by omega)
      rw [← hwk] at hpw
      have hml := r_mul none none num (10 ^ (k0F num den P).toNat) (by omega) (by rw [frm_pow]; simp; omega)
      rw [← hwk] at hml
      refine runS_x (I := inf) (J := jnf) ⟨false, false, [], 2, 0⟩ 9999 rfl ob1 ?_
      refine runS_call rfl rfl rfl rfl rfl rfl rfl hpw ?_
      refine runS_x (I := inf) (J := jnf) ⟨false, false, [], 2, 0⟩ 9999 rfl ob1 ?_
      refine runS_call rfl rfl rfl rfl rfl rfl rfl hml ?_
      refine runS_x (I := inf) (J := jnf) ⟨false, false, [], 2, 0⟩ 9999 rfl ob1 ?_
      refine rest _ _ ⟨⟨rfl, rfl, rfl, rfl, congrArg iv hwk, by rw [← hwk]; rfl, ?_⟩, rfl⟩
      rw [show e10 (-k0F num den P) = 1 by unfold e10; rw [show (-k0F num den P).toNat = 0 by omega], Nat.mul_one]
      rfl
    · have h0 : ¬ 0 ≤ k0F num den P := by
        have := of_decide_eq_false h
        rw [hwk] at this
        exact this
      have hwn : IntKind.wrap .i64 (0 - k0F num den P) = -k0F num den P := by rw [w64 (by omega) (by omega)]; omega
      have hpw := r_pow10Z (-k0F num den P) (by omega) (by omega)
      rw [← hwn, ← hwk] at hpw
      have hml := r_mul none none den (10 ^ (-k0F num den P).toNat) (by omega) (by rw [frm_pow]; simp; omega)
      rw [← hwn, ← hwk] at hml
      refine runS_x (I := inf) (J := jnf) ⟨false, false, [], 2, 0⟩ 9999 rfl ob1 ?_
      refine runS_call rfl rfl rfl rfl rfl rfl rfl hpw ?_
      refine runS_x (I := inf) (J := jnf) ⟨false, false, [], 2, 0⟩ 9999 rfl ob1 ?_
      refine runS_call rfl rfl rfl rfl rfl rfl rfl hml ?_
      refine runS_x (I := inf) (J := jnf) ⟨false, false, [], 2, 0⟩ 9999 rfl ob1 ?_
      refine rest _ _ ⟨⟨rfl, rfl, rfl, rfl, congrArg iv hwk, ?_, by rw [← hwn, ← hwk]; rfl⟩, rfl⟩
      rw [show e10 (k0F num den P) = 1 by unfold e10; rw [show (k0F num den P).toNat = 0 by omega], Nat.mul_one]
      rfl
  generalize hNe : num * e10 (k0F num den P) = N0 at *
  generalize hDe : den * e10 (-k0F num den P) = D0 at *
  generalize hke : k0F num den P = k0 at *
  clear hwk hNe hDe
  rintro τ2 ar2 ⟨⟨g2, g3, g4, g6, g7, g8, g9⟩, rfl⟩
  refine runS_says 2 (by exact g2) (Says.refl _) ?_; refine runS_says 3 (by exact g3) (Says.refl _) ?_; refine runS_says 4 (by exact g4) (Says.refl _) ?_; refine runS_says 6 (by exact g6) (Says.refl _) ?_; refine runS_says 7 (by exact g7) (Says.refl _) ?_; refine runS_says 8 (by exact g8) (Says.refl _) ?_; refine runS_says 9 (by exact g9) (Says.refl _) ?_
  refine rX rfl ?_
  have hwp : IntKind.wrap .i64 ((P : Int) - 1) = ((P - 1 : Nat) : Int) := by rw [w64 (by omega) (by omega)]; omega
  have hp1 := r_pow10 (P - 1) (by omega)
  have hp2 := r_pow10 P (by omega)
  have hp3 := r_pow10 1 (by omega)
  have hl1 := frm_len_up D0 (P - 1)
  have hl2 := frm_len_up D0 P
  have hm1 := r_mul none none D0 (10 ^ (P - 1)) (by omega) (by rw [frm_pow]; simp; omega)
  have hm2 := r_mul none none D0 (10 ^ P) (by omega) (by rw [frm_pow]; simp; omega)
  refine runS_while (fun (j : Nat) τ ar => (τ 2 = .ptr 0 0 0 ∧ τ 3 = .ptr 1 0 0 ∧ τ 4 = .ptr 2 0 0 ∧ τ 6 = .ptr 3 0 0 ∧ τ 7 = iv (k0 + j) ∧ τ 8 = natS none (frm (N0 * 10 ^ j)) ∧ τ 9 = natS none (frm D0)) ∧ ar = [.box 35 [bv ng, natS none (frm num), natS none (frm den)], .box 25 [iv tk, iv P, iv tq, iv tn, bv tv, sv tc], .box 23 [iv 0, iv 0, iv 0, sv []], .box 23 [iv 3, iv 0, iv 0, sv []]] ∧ j ≤ 1 ∧ (j = 1 → N0 < D0 * 10 ^ (P - 1))) (fun j => 1 - j) 0 ⟨⟨rfl, rfl, rfl, rfl, congrArg iv (show k0 = k0 + ((0 : Nat) : Int) by simp), congrArg (fun z => natS none (frm z)) (show N0 = N0 * 10 ^ 0 by rw [Nat.pow_zero, Nat.mul_one]), rfl⟩, rfl, Nat.zero_le _, fun h => by cases h⟩ ?_
  rintro j τ3 ar3 ⟨⟨g2, g3, g4, g6, g7, g8, g9⟩, rfl, hj, hj1⟩ ih
  have hlN := frm_len_up N0 j
  have hlN2 := frm_len_up N0 (j + 1)
  refine runS_says 2 (by exact g2) (Says.refl _) ?_; refine runS_says 3 (by exact g3) (Says.refl _) ?_; refine runS_says 4 (by exact g4) (Says.refl _) ?_; refine runS_says 6 (by exact g6) (Says.refl _) ?_; refine runS_says 7 (by exact g7) (Says.refl _) ?_; refine runS_says 8 (by exact g8) (Says.refl _) ?_; refine runS_says 9 (by exact g9) (Says.refl _) ?_
  rw [← hwp] at hp1
  refine rX rfl ?_
  refine runS_call rfl rfl rfl rfl rfl rfl rfl hp1 ?_
  refine rX rfl ?_
  refine runS_call rfl rfl rfl rfl rfl rfl rfl hm1 ?_
  refine rX rfl ?_
  refine runS_call rfl rfl rfl rfl rfl rfl rfl (r_cmp none none (frm (N0 * 10 ^ j)) (frm (D0 * 10 ^ (P - 1))) (by omega) (by omega)) ?_
  have hcm := cmpT_lt (N0 * 10 ^ j) (D0 * 10 ^ (P - 1))
  refine rX rfl ?_
  refine runS_cond rfl (fun h => ?_) (fun h => ?_)
  · have hlt : N0 * 10 ^ j < D0 * 10 ^ (P - 1) := hcm.1 (of_decide_eq_true h)
    have hj0 := hsp j hj hlt
    subst hj0
    rw [Nat.pow_zero, Nat.mul_one] at hlt
    have hwj : IntKind.wrap .i64 (k0 + ((0 : Nat) : Int) + 1) = k0 + ((1 : Nat) : Int) := by rw [w64 (by omega) (by omega)]; omega
    have hm3 := r_mul none none (N0 * 10 ^ 0) (10 ^ 1) (by omega) (by rw [frm_pow]; simp)
    refine rX rfl ?_
    refine runS_call rfl rfl rfl rfl rfl rfl rfl hp3 ?_
    refine rX rfl ?_
    refine runS_call rfl rfl rfl rfl rfl rfl rfl hm3 ?_
    refine rX rfl ?_
    refine ih 1 _ _ (by decide) ⟨⟨rfl, rfl, rfl, rfl, congrArg iv hwj, congrArg (fun z => natS none (frm z)) (show N0 * 10 ^ 0 * 10 ^ 1 = N0 * 10 ^ 1 by rw [Nat.pow_zero, Nat.mul_one]), rfl⟩, rfl, Nat.le_refl _, fun _ => hlt⟩
  · have hge : D0 * 10 ^ (P - 1) ≤ N0 * 10 ^ j := Nat.le_of_not_lt fun hlt => absurd (hcm.2 hlt) (of_decide_eq_false h)
    obtain ⟨e1, e2, e3, e4, e5, e6⟩ := hst j hj hj1 hge
    clear ih hcm hsp hst hj1
    rw [e1] at g7
    rw [e4]
    generalize N0 * 10 ^ j = N at *
    generalize kF num den P = k at *
    refine rX rfl ?_
    refine runS_while (fun (_ : Unit) τ ar => (τ 2 = .ptr 0 0 0 ∧ τ 3 = .ptr 1 0 0 ∧ τ 4 = .ptr 2 0 0 ∧ τ 6 = .ptr 3 0 0 ∧ τ 7 = iv k ∧ τ 8 = natS none (frm N) ∧ τ 9 = natS none (frm D0)) ∧ ar = [.box 35 [bv ng, natS none (frm num), natS none (frm den)], .box 25 [iv tk, iv P, iv tq, iv tn, bv tv, sv tc], .box 23 [iv 0, iv 0, iv 0, sv []], .box 23 [iv 3, iv 0, iv 0, sv []]]) (fun _ => 0) () ⟨⟨rfl, rfl, rfl, rfl, congrArg iv e1, rfl, rfl⟩, rfl⟩ ?_
    rintro _ τ4 ar4 ⟨⟨g2, g3, g4, g6, g7, g8, g9⟩, rfl⟩ -
    refine runS_says 2 (by exact g2) (Says.refl _) ?_; refine runS_says 3 (by exact g3) (Says.refl _) ?_; refine runS_says 4 (by exact g4) (Says.refl _) ?_; refine runS_says 6 (by exact g6) (Says.refl _) ?_; refine runS_says 7 (by exact g7) (Says.refl _) ?_; refine runS_says 8 (by exact g8) (Says.refl _) ?_; refine runS_says 9 (by exact g9) (Says.refl _) ?_
    refine rX rfl ?_
    refine runS_call rfl rfl rfl rfl rfl rfl rfl hp2 ?_
    refine rX rfl ?_
    refine runS_call rfl rfl rfl rfl rfl rfl rfl hm2 ?_
    refine rX rfl ?_
    refine runS_call rfl rfl rfl rfl rfl rfl rfl (r_cmp none none (frm N) (frm (D0 * 10 ^ P)) (by omega) (by omega)) ?_
    have hcm := cmpT_lt N (D0 * 10 ^ P)
    refine rX rfl ?_
    refine runS_cond rfl (fun h => ?_) (fun h => ?_)
    · have := of_decide_eq_true (show decide (cmpT (frm N) (frm (D0 * 10 ^ P)) ≥ 0) = true from h)
      have := hcm.2 e2
      omega
    refine rX rfl ?_
    refine runS_call rfl rfl rfl rfl rfl rfl rfl (r_div none none N D0 (by omega) (by omega) hD0) ?_
    obtain ⟨q, hq⟩ : ∃ q, N / D0 = q := ⟨_, rfl⟩
    obtain ⟨r, hr⟩ : ∃ r, N % D0 = r := ⟨_, rfl⟩
    have hrl := frm_len_mono (Nat.le_of_lt (Nat.mod_lt N hD0))
    have hql := frm_len_mono (Nat.div_le_self N D0)
    have hqF : rndF N D0 = q + (if r + r ≥ D0 then 1 else 0) := by unfold rndF; rw [hq, hr]
    rw [hq] at hql ⊢
    rw [hr] at hrl ⊢
    have hpl1 := r_plus none none r r (by omega) (by omega)
    have hpl2 := r_plus none none q 1 (by omega) (by rw [frm_one]; decide)
    have hdl := frm_len_add r r
    have hcq := cmpT_lt (r + r) D0
    generalize rndF N D0 = q0 at *
    refine rX rfl ?_
    refine runS_call rfl rfl rfl rfl rfl rfl rfl hpl1 ?_
    refine rX rfl ?_
    refine runS_call rfl rfl rfl rfl rfl rfl rfl (r_cmp none none (frm (r + r)) (frm D0) (by omega) (by omega)) ?_
    refine rX rfl ?_
    refine runS_cut (fun τ ar => (τ 2 = .ptr 0 0 0 ∧ τ 3 = .ptr 1 0 0 ∧ τ 4 = .ptr 2 0 0 ∧ τ 6 = .ptr 3 0 0 ∧ τ 7 = iv k ∧ τ 10 = natS none (frm q0)) ∧ ar = [.box 35 [bv ng, natS none (frm num), natS none (frm den)], .box 25 [iv tk, iv P, iv tq, iv tn, bv tv, sv tc], .box 23 [iv 0, iv 0, iv 0, sv []], .box 23 [iv 3, iv 0, iv 0, sv []]]) (fun rest => ?_) ?_
    · refine runS_cond rfl (fun h => ?_) (fun h => ?_)
      · have hge : r + r ≥ D0 := by
          have := of_decide_eq_true (show decide (cmpT (frm (r + r)) (frm D0) ≥ 0) = true from h)
          omega
        rw [if_pos hge] at hqF
        rw [← hqF] at hpl2
        refine runS_x (I := inf) (J := jnf) ⟨false, false, [], 2, 0⟩ 9999 rfl ob1 ?_
        refine runS_tell 4 (natR (frm 1)) rfl (m' := (frm 1).length) (by rw [frm_one]; rfl) (fun i hi => ?_) rfl ?_
        · have : i = 0 := by omega
          subst this
          rw [frm_one]
          rfl
        refine runS_freeze 85 rfl rfl rfl (fun j hj => rfl) ?_
        refine runS_call rfl rfl rfl rfl rfl rfl rfl hpl2 ?_
        refine runS_x (I := inf) (J := jnf) ⟨false, false, [], 2, 0⟩ 9999 rfl ob1 ?_
        refine runS_drop 4 (Nat.zero_le _) rfl (by repeat (first | exact .nil | refine .row (fun j hj => rfl) ?_ | refine .box rfl ?_ | refine .fam (fun k j hk hj => rfl) ?_ | refine .loop (scrub_under _ _) ?_ | refine .dfr ?_ | refine .gone ?_ | refine .map (fun p hp => by (obtain ⟨k, _, rfl⟩ := List.mem_map.1 hp; rfl)) ?_)) rfl rfl rfl (by repeat (first | exact .nil | refine .cons rfl rfl rfl (scrub_under _ _) ?_)) ?_
        exact rest _ _ ⟨⟨rfl, rfl, rfl, rfl, rfl, rfl⟩, rfl⟩
      · have hge : ¬ r + r ≥ D0 := by
          have := of_decide_eq_false (show decide (cmpT (frm (r + r)) (frm D0) ≥ 0) = false from h)
          omega
        rw [if_neg hge, Nat.add_zero] at hqF
        rw [← hqF]
        refine runS_x (I := inf) (J := jnf) ⟨false, false, [], 2, 0⟩ 9999 rfl ob1 ?_
        exact rest _ _ ⟨⟨rfl, rfl, rfl, rfl, rfl, rfl⟩, rfl⟩
    have hP15 : 10 ^ P ≤ 10 ^ 15 := Nat.pow_le_pow_right (by decide) hP2
    have hP15' : (10 : Nat) ^ 15 = 1000000000000000 := by decide
    have hkb : -1000 ≤ k ∧ k ≤ 1001 := by omega
    have hwn : IntKind.wrap .i64 (0 - k) = -k := by rw [w64 (by omega) (by omega)]; omega
    have hq0l : (frm q0).length ≤ 16 := frm_len_lt.2 (by omega)
    clear hqF hcq hdl hpl1 hpl2 hrl hql hq hr g2 g3 g4 g6 g7 g8 g9 hcm hm1 hm2 hlN hlN2 hl1 hl2
    rintro τ5 ar5 ⟨⟨g2, g3, g4, g6, g7, g10⟩, rfl⟩
    refine runS_says 2 (by exact g2) (Says.refl _) ?_; refine runS_says 3 (by exact g3) (Says.refl _) ?_; refine runS_says 4 (by exact g4) (Says.refl _) ?_; refine runS_says 6 (by exact g6) (Says.refl _) ?_; refine runS_says 7 (by exact g7) (Says.refl _) ?_; refine runS_says 10 (by exact g10) (Says.refl _) ?_
    refine rX rfl ?_
    refine runS_while (fun (z : Nat × Int) τ ar => (τ 2 = .ptr 0 0 0 ∧ τ 3 = .ptr 1 0 0 ∧ τ 4 = .ptr 2 0 0 ∧ τ 6 = .ptr 3 0 0 ∧ τ 10 = natS none (frm z.1)) ∧ ar = [.box 35 [bv ng, natS none (frm num), natS none (frm den)], .box 25 [iv tk, iv P, iv tq, iv tn, bv tv, sv tc], .box 23 [iv 0, iv 0, iv 0, sv []], .box 23 [iv 3, iv 0, iv z.2, sv []]] ∧ z.1 ≤ q0 ∧ z.1 ≠ 0 ∧ normD q0 (-k) = normD z.1 z.2 ∧ -k ≤ z.2 ∧ z.2 + ((frm z.1).length : Int) ≤ -k + ((frm q0).length : Int)) (fun z => z.1) (q0, -k) ⟨⟨rfl, rfl, rfl, rfl, rfl⟩, by rw [← hwn], Nat.le_refl _, e6, rfl, Int.le_refl _, Int.le_refl _⟩ ?_
    rintro ⟨q, v⟩ τ6 ar6 ⟨⟨g2, g3, g4, g6, g10⟩, rfl, hq, hq0, hnd, hv1, hv2⟩ ih
    dsimp only at g10 hq hq0 hnd hv1 hv2 ih ⊢
    have hfq := frm_pos hq0
    have hql := frm_len_mono hq
    have hwv : IntKind.wrap .i64 (v + 1) = v + 1 := w64 (by omega) (by omega)
    refine runS_says 2 (by exact g2) (Says.refl _) ?_; refine runS_says 3 (by exact g3) (Says.refl _) ?_; refine runS_says 4 (by exact g4) (Says.refl _) ?_; refine runS_says 6 (by exact g6) (Says.refl _) ?_; refine runS_says 10 (by exact g10) (Says.refl _) ?_
    rw [hfq]
    refine rX rfl ?_
    refine runS_cond rfl (fun h => ?_) (fun h => ?_)
    · have h0 : q % 10 = 0 := by
        simp at h
        omega
      have hq1 : q / 10 ≠ 0 := by omega
      have hl1 : (frm q).length = (frm (q / 10)).length + 1 := by rw [hfq]; rfl
      refine rX rfl ?_
      refine ih (q / 10, v + 1) _ _ (by dsimp only; omega) ⟨⟨rfl, rfl, rfl, rfl, natS_tail _ _⟩, by rw [hwv], by dsimp only; omega, hq1, by rw [hnd, normD_step hq0 h0], by dsimp only; omega, by dsimp only; omega⟩
    · have h0 : q % 10 ≠ 0 := by
        simp at h
        omega
      rw [hnd, normD_end h0]
      have hsg := r_signed none q ng (by omega)
      have hl0 : 0 < (frm q).length := by rw [hfq]; exact Nat.succ_pos _
      have hwe : IntKind.wrap .i64 (IntKind.wrap .i64 (((frm q).length : Int) + v) - 1) = ((frm q).length : Int) + v - 1 := by rw [w64 (x := ((frm q).length : Int) + v) (by omega) (by omega), w64 (by omega) (by omega)]
      rw [hfq] at hsg
      refine rX rfl ?_
      refine runS_call rfl rfl rfl rfl rfl rfl rfl hsg ?_
      refine rX rfl ?_
      refine runS_cond rfl (fun h2 => ?_) (fun h2 => ?_)
      · have h3 : ((frm q).length : Int) + v - 1 > 75 := by
          have := of_decide_eq_true h2
          rw [← hfq, hwe] at this
          exact this
        have hF : fltO ng (q, v) = (0, 0, 3) := by unfold fltO; rw [if_neg hq0, if_pos h3]
        rw [hF]
        refine rX rfl ?_
        refine runS_ret (I := inf) 0 rfl (Nat.le_refl _) rfl .nil rfl ⟨?_, rfl⟩
        rfl
      · have h3 : ¬ ((frm q).length : Int) + v - 1 > 75 := by
          have := of_decide_eq_false h2
          rw [← hfq, hwe] at this
          exact this
        refine rX rfl ?_
        refine runS_cond rfl (fun h2 => ?_) (fun h2 => ?_)
        · have h4 : ((frm q).length : Int) + v - 1 < -75 := by
            have := of_decide_eq_true h2
            rw [← hfq, hwe] at this
            exact this
          have hF : fltO ng (q, v) = (0, 0, 8) := by unfold fltO; rw [if_neg hq0, if_neg h3, if_pos h4]
          rw [hF]
          refine rX rfl ?_
          refine runS_ret (I := inf) 0 rfl (Nat.le_refl _) rfl .nil rfl ⟨?_, rfl⟩
          rfl
        · have h4 : ¬ ((frm q).length : Int) + v - 1 < -75 := by
            have := of_decide_eq_false h2
            rw [← hfq, hwe] at this
            exact this
          have hF : fltO ng (q, v) = (sgn ng q, v, 0) := by unfold fltO; rw [if_neg hq0, if_neg h3, if_neg h4]
          rw [hF]
          refine rX rfl ?_
          refine runS_ret (I := inf) 0 rfl (Nat.le_refl _) rfl .nil rfl ⟨?_, rfl⟩
          rfl
end Go.Iron.Tryz

/- The digits' seat: the reference's quotients, floors, and numbers fitted to types. -/
namespace Go.Iron.Tryz
open Go.Proofs Go.RowKit Go.Iron.Tok Go.Iron.Dg

theorem r_over (x y : Ex) (hx : ExFit x 4000) (hy : ExFit y 4000) : CallT Tryz.prog 112 [exA x, exA y] [] (fun o A => o = .ret (exA (overE x y)) ∧ A = []) := by
  obtain ⟨xg, xn, xd⟩ := x
  obtain ⟨yg, yn, yd⟩ := y
  obtain ⟨a1, a2⟩ := hx
  obtain ⟨b1, b2⟩ := hy
  dsimp only at a1 a2 b1 b2
  have hm1 := r_mul none none xn yd a1 b2
  have hm2 := r_mul none none xd yn a2 b1
  refine callS_body (n := 28) rfl rfl fun w ρ X => ?_
  refine rX rfl ?_
  refine runS_call rfl rfl rfl rfl rfl rfl rfl hm1 ?_
  refine rX rfl ?_
  refine runS_call rfl rfl rfl rfl rfl rfl rfl hm2 ?_
  refine rX rfl ?_
  refine runS_ret (I := inf) 0 rfl (Nat.le_refl _) rfl .nil rfl ⟨?_, rfl⟩
  show Out.ret (.agg [bv (if (xg != yg) = true then decide (((frm (xn * yd)).length : Int) > 0) else false), natS none (frm (xn * yd)), natS none (frm (xd * yn))]) = _
  rw [len_pos]
  cases xg <;> cases yg <;> rfl
theorem fitS_fix {kd : Int} (h : kd ≠ 3) (P Q : Nat) (neg : Bool) (num den : Nat) (k big : Int) : fitS kd P Q neg num den k big = (sgn neg (num * bsN kd ^ Q / den % bsN kd ^ P), (Q : Int), if num * bsN kd ^ Q / den ≥ bsN kd ^ P then big else 0) := by
  unfold fitS
  rw [if_neg h]
theorem r_powB (kd : Int) (n : Nat) (hn : n ≤ 31) : CallT Tryz.prog 61 [iv (if kd = 1 then 2 else 10), iv n] [] (fun o A => o = .ret (natS none (frm (bsN kd ^ n))) ∧ A = []) := by
  unfold bsN
  by_cases h : kd = 1
  · rw [if_pos h, if_pos h]; exact r_pow2 n (by omega)
  · rw [if_neg h, if_neg h]; exact r_pow10 n (by omega)
theorem bsN_len (kd : Int) (n : Nat) : (frm (bsN kd ^ n)).length ≤ n + 1 := by
  have h : bsN kd ^ n ≤ 10 ^ n := Nat.pow_le_pow_left (by unfold bsN; split <;> decide) n
  have := frm_len_mono h
  rw [frm_pow] at this
  simp at this
  exact this
theorem r_fitTo (x : Ex) (t : Typ) (big : Int) (hv : validT t = true) (hk : numK t.kind = true) (hx : ExFit x 980) (hd : x.den ≠ 0) :
    CallT Tryz.prog 110 [exA x, .agg (typE t), iv big] [] (fun o A => o = .ret (numA t.kind (fitS t.kind t.p.toNat t.q.toNat x.neg x.num x.den (kF x.num x.den t.p.toNat) big)) ∧ A = []) := by
  obtain ⟨P, Q, hP, hQ, hP1, hP2, hQ2, hkd⟩ := valid_num hv hk
  clear hv hk
  obtain ⟨kd, p, q, n, vy, pc⟩ := t
  obtain ⟨xg, xn, xd⟩ := x
  have a1 := hx.1
  have a2 := hx.2
  dsimp only at hP hQ hkd a1 a2 hd ⊢
  subst hP; subst hQ
  rw [Int.toNat_natCast, Int.toNat_natCast]
  by_cases h3 : kd = 3
  · subst h3
    have hP15 : P ≤ 15 := by omega
    have hfl : CallT Tryz.prog 177 [exA ⟨xg, xn, xd⟩, .agg (typE ⟨3, P, Q, n, vy, pc⟩)] [] (fun o A => o = .ret (numA 3 (fitS 3 P Q xg xn xd (kF xn xd P) big)) ∧ A = []) := by
      unfold fitS
      rw [if_pos rfl]
      by_cases h0 : xn = 0
      · rw [if_pos h0, h0]
        exact r_float0 xg xd _
      · rw [if_neg h0]
        exact r_float xg xn xd _ P h0 hd rfl hP1 hP15 hx
    refine callS_body (n := 65) rfl rfl fun w ρ X => ?_
    refine rX rfl ?_
    refine runS_cond rfl (fun h => ?_) (fun h => by cases h)
    refine rX rfl ?_
    refine runS_call rfl rfl rfl rfl rfl rfl rfl hfl ?_
    refine rX rfl ?_
    refine runS_ret (I := inf) 0 rfl (Nat.le_refl _) rfl .nil rfl ⟨?_, rfl⟩
    rfl
  · rw [fitS_fix h3]
    have hb := r_base kd P Q n vy pc
    have hpQ := r_powB kd Q (by omega)
    have hpP := r_powB kd P hP2
    have hlQ := bsN_len kd Q
    have hlP := bsN_len kd P
    have hB0 := bsN_pos kd P
    have hm := r_mul none none xn (bsN kd ^ Q) (by omega) (by omega)
    have hml := frm_len_mul xn (bsN kd ^ Q)
    have hd1 := r_div none none (xn * bsN kd ^ Q) xd (by omega) (by omega) (Nat.pos_of_ne_zero hd)
    have hql := frm_len_mono (Nat.div_le_self (xn * bsN kd ^ Q) xd)
    have hd2 := r_div none none (xn * bsN kd ^ Q / xd) (bsN kd ^ P) (by omega) (by omega) hB0
    have hc := r_cmp none none (frm (xn * bsN kd ^ Q / xd)) (frm (bsN kd ^ P)) (by omega) (by omega)
    have hcl := cmpT_lt (xn * bsN kd ^ Q / xd) (bsN kd ^ P)
    have hlo : xn * bsN kd ^ Q / xd % bsN kd ^ P < 1000000000000000000 := by
      have h1 := Nat.mod_lt (xn * bsN kd ^ Q / xd) hB0
      have h2 : bsN kd ^ P ≤ 1000000000000000 := by
        rcases hkd with h | h | h
        · subst h
          have : 2 ^ P ≤ 2 ^ 31 := Nat.pow_le_pow_right (by decide) hP2
          show 2 ^ P ≤ _
          omega
        · obtain ⟨h, h5⟩ := h
          subst h
          have : 10 ^ P ≤ 10 ^ 15 := Nat.pow_le_pow_right (by decide) h5
          show 10 ^ P ≤ _
          omega
        · exact absurd h.1 h3
      omega
    have hs := r_signed none (xn * bsN kd ^ Q / xd % bsN kd ^ P) xg hlo
    generalize xn * bsN kd ^ Q = M1 at *
    generalize M1 / xd = q at *
    generalize M1 % xd = rr at *
    generalize q % bsN kd ^ P = lo at *
    generalize q / bsN kd ^ P = hi at *
    generalize bsN kd ^ P = BP at *
    generalize bsN kd ^ Q = BQ at *
    refine callS_body (n := 65) rfl rfl fun w ρ X => ?_
    refine rX rfl ?_
    refine runS_cond rfl (fun h => absurd (show kd = 3 by simpa using (show (kd == 3) = true from h)) h3) (fun h => ?_)
    refine rX rfl ?_
    refine runS_draw 15 (by kernel_rfl) (lexj_x (I := inf) (J := jnf) 99 rfl rfl ob0 (lexj_call rfl rfl rfl rfl rfl rfl rfl rfl hb (lexj_x (I := inf) (J := jnf) 99 rfl rfl ob0 (lexj_call rfl rfl rfl rfl rfl rfl rfl rfl hpQ (lexj_x (I := inf) (J := jnf) 99 rfl rfl ob0 (lexj_call rfl rfl rfl rfl rfl rfl rfl rfl hm (lexj_x (I := inf) (J := jnf) 99 rfl rfl ob0 (lexj_call rfl rfl rfl rfl rfl rfl rfl rfl hd1 (lexj_x (I := inf) (J := jnf) 99 rfl rfl ob0 lexj_nil))))))))) ?_
    refine rX rfl ?_
    refine runS_draw 11 (by kernel_rfl) (lexj_x (I := inf) (J := jnf) 99 rfl rfl ob0 (lexj_call rfl rfl rfl rfl rfl rfl rfl rfl hb (lexj_x (I := inf) (J := jnf) 99 rfl rfl ob0 (lexj_call rfl rfl rfl rfl rfl rfl rfl rfl hpP (lexj_x (I := inf) (J := jnf) 99 rfl rfl ob0 (lexj_call rfl rfl rfl rfl rfl rfl rfl rfl hd2 (lexj_x (I := inf) (J := jnf) 99 rfl rfl ob0 lexj_nil))))))) ?_
    refine rX rfl ?_
    refine rX rfl ?_
    refine runS_drawG (ch := []) (A2 := fun _ => []) 10 [9] (fun b => [.box 35 [bv xg, natS none (frm xn), natS none (frm xd)], .box 25 [iv kd, iv P, iv Q, iv n, bv vy, sv pc], .box 23 [iv 0, iv 0, iv 0, sv []]] ++ cond (b.getD 0 false) [.box 23 [iv 0, iv 0, iv 0, sv []]] []) none (c := 9) jnfI.draw (by kernel_rfl) rfl (lexg_g (I := inf) (J := jnf) none ⟨⟨_, rfl, ob0⟩, oi⟩ rfl rfl rfl rfl (lexg_g (I := inf) (J := jnf) none ⟨⟨_, rfl, ob0⟩, oi⟩ rfl rfl rfl rfl (lexg_g (I := inf) (J := jnf) none ⟨⟨_, rfl, ob0⟩, oi⟩ rfl rfl rfl rfl (lexg_g (I := inf) (J := jnf) none ⟨⟨_, rfl, ob0⟩, oi⟩ rfl rfl rfl rfl (lexg_g (I := inf) (J := jnf) none ⟨⟨_, rfl, ob0⟩, oi⟩ rfl rfl rfl rfl (lexg_call rfl rfl rfl rfl rfl rfl rfl rfl rfl hs (lexg_g (I := inf) (J := jnf) none ⟨⟨_, rfl, ob0⟩, oi⟩ rfl rfl rfl rfl (lexg_g (I := inf) (J := jnf) none ⟨⟨_, rfl, ob0⟩, oi⟩ rfl rfl rfl rfl (lexg_g (I := inf) (J := jnf) none ⟨⟨_, rfl, ob0⟩, oi⟩ rfl rfl rfl rfl (lexg_a rfl rfl ⟨(show _ = _ from rfl), .inl rfl⟩ rfl rfl rfl rfl lexg_nil)))))))))) rfl (fun _ => ?_) (fun h => by cases h)
    refine rX rfl ?_
    refine runS_draw 8 (by kernel_rfl) (lexj_x (I := inf) (J := jnf) 99 rfl rfl ob0 (lexj_call rfl rfl rfl rfl rfl rfl rfl rfl hb (lexj_x (I := inf) (J := jnf) 99 rfl rfl ob0 (lexj_call rfl rfl rfl rfl rfl rfl rfl rfl hpP (lexj_x (I := inf) (J := jnf) 99 rfl rfl ob0 (lexj_call rfl rfl rfl rfl rfl rfl rfl rfl hc (lexj_x (I := inf) (J := jnf) 99 rfl rfl ob0 lexj_nil))))))) ?_
    refine rX rfl ?_
    refine runS_cond rfl (fun h => ?_) (fun h => ?_)
    · have hge : q ≥ BP := by
        have := of_decide_eq_true (show decide (cmpT (frm q) (frm BP) ≥ 0) = true from h)
        omega
      rw [if_pos hge]
      refine rX rfl ?_
      refine runS_ret (I := inf) 0 rfl (Nat.le_refl _) rfl .nil rfl ⟨?_, rfl⟩
      rfl
    · have hge : ¬ q ≥ BP := by
        have := of_decide_eq_false (show decide (cmpT (frm q) (frm BP) ≥ 0) = false from h)
        omega
      rw [if_neg hge]
      refine rX rfl ?_
      refine runS_ret (I := inf) 0 rfl (Nat.le_refl _) rfl .nil rfl ⟨?_, rfl⟩
      rfl
end Go.Iron.Tryz

/- The digits' seat: the law of quotients. -/
namespace Go.Iron.Tryz
open Go.Proofs Go.RowKit Go.Iron.Tok Go.Iron.Dg

theorem of_fit {v : Vl} (hr : v.right = true) (hk : numK v.kind = true) : ExFit (ofE v.kind v.n v.q) 120 := by
  obtain ⟨h1, h2, h3, h4, h5, h6⟩ := right_num hr hk
  have hl1 : (frm v.n.natAbs).length ≤ 15 := frm_len_lt.2 (by omega)
  constructor
  · show (frm (v.n.natAbs * (if v.kind = 3 then 10 ^ v.q.toNat else 1))).length ≤ 120
    have hm := frm_len_mul v.n.natAbs (if v.kind = 3 then 10 ^ v.q.toNat else 1)
    have : (frm (if v.kind = 3 then 10 ^ v.q.toNat else 1)).length ≤ 100 := by
      split
      · rename_i hk3
        have := h4 hk3
        rw [frm_pow]; simp; omega
      · rw [frm_one]; decide
    omega
  · show (frm (if v.kind = 1 then 2 ^ v.q.toNat else if v.kind = 2 then 10 ^ v.q.toNat else 10 ^ (-v.q).toNat)).length ≤ 120
    split
    · rename_i hk1
      have := h3 (by omega)
      exact Nat.le_trans (frm_len_lt.2 (Nat.lt_of_le_of_lt (Nat.pow_le_pow_left (by decide : 2 ≤ 10) v.q.toNat) (Nat.pow_lt_pow_right (by decide) (show v.q.toNat < 32 by omega)))) (by decide)
    · split
      · rename_i hk2
        have := h3 (by omega)
        rw [frm_pow]; simp; omega
      · have := h4 (by omega)
        rw [frm_pow]; simp; omega
abbrev exZ : List AV := [bv false, .val (.slice none 0 0), .val (.slice none 0 0)]
end Go.Iron.Tryz

/- The digits' seat: zeros of a type; the law of valid values. -/
namespace Go.Iron.Tryz
open Go.Proofs Go.RowKit Go.Iron.Tok Go.Iron.Dg

def zeroV (t : Typ) : Vl × Int :=
  if validT t = false then (⟨0, 0, 0, []⟩, 13)
  else if t.kind = 1 ∨ t.kind = 2 then (⟨t.kind, 0, t.q, []⟩, 0)
  else if t.kind = 3 then (⟨t.kind, 0, 0, []⟩, 0)
  else if t.kind = 4 then (⟨t.kind, 0, 0, if t.vary = true then [] else List.replicate t.n.toNat 32⟩, 0)
  else if t.kind = 5 then (⟨t.kind, 0, 0, if t.vary = true then [] else List.replicate t.n.toNat 48⟩, 0)
  else (⟨0, 0, 0, []⟩, 10)
theorem repeat_one (b : UInt8) (c : Nat) : Lib.repeatL [b] c = List.replicate c b := by
  induction c with
  | zero => rfl
  | succ c ih =>
    show [b] ++ Lib.repeatL [b] c = _
    rw [ih, List.replicate_succ]
    rfl
theorem d_base (kd : Int) : CallT Tryz.prog 83 [iv kd] [] (fun o A => o = .ret (iv (if kd = 1 then 2 else if kd = 2 then 10 else 0)) ∧ A = []) := by
  refine callS_body (n := 8) rfl rfl fun w ρ X => ?_
  refine rX rfl ?_
  refine runS_cond rfl (fun h => ?_) (fun h => ?_)
  · have hk : kd = 1 := by simpa using (show (kd == 1) = true from h)
    refine rX rfl ?_
    refine runS_ret (I := inf) 0 rfl (Nat.le_refl _) rfl .nil rfl ⟨?_, rfl⟩
    rw [if_pos hk]
    rfl
  · have hk : ¬ kd = 1 := by simpa using (show (kd == 1) = false from h)
    refine rX rfl ?_
    refine runS_cond rfl (fun h => ?_) (fun h => ?_)
    · have hk2 : kd = 2 := by simpa using (show (kd == 2) = true from h)
      refine rX rfl ?_
      refine runS_ret (I := inf) 0 rfl (Nat.le_refl _) rfl .nil rfl ⟨?_, rfl⟩
      rw [if_neg hk, if_pos hk2]
      rfl
    · have hk2 : ¬ kd = 2 := by simpa using (show (kd == 2) = false from h)
      refine rX rfl ?_
      refine runS_ret (I := inf) 0 rfl (Nat.le_refl _) rfl .nil rfl ⟨?_, rfl⟩
      rw [if_neg hk, if_neg hk2]
      rfl
theorem str_n {t : Typ} (h : validT t = true) (hk : t.kind = 4 ∨ t.kind = 5) : 0 ≤ t.n ∧ t.n ≤ 250 := by
  unfold validT inR at h
  rw [if_neg (by omega), if_neg (by omega), if_neg (by omega), if_pos hk] at h
  simp at h
  omega
theorem d_Zero (t : Typ) : CallT Tryz.prog 30 [.agg (typE t)] [] (fun o A => o = .ret (.tup [.agg (vlE (zeroV t).1), iv (zeroV t).2]) ∧ A = []) := by
  have hvd := d_valid t
  have hbs := d_base t.kind
  cases hvt : validT t with
  | false =>
    have hZ : zeroV t = (⟨0, 0, 0, []⟩, 13) := by unfold zeroV; rw [if_pos hvt]
    rw [hvt] at hvd
    rw [hZ]
    refine callS_body (n := 62) rfl rfl fun w ρ X => ?_
    refine rX rfl ?_
    refine runS_call rfl rfl rfl rfl rfl rfl rfl hvd ?_
    refine rX rfl ?_
    refine runS_cond rfl (fun h => ?_) (fun h => by cases h)
    refine rX rfl ?_
    refine runS_ret (I := inf) 0 rfl (Nat.le_refl _) rfl .nil rfl ⟨?_, rfl⟩
    rfl
  | true =>
    rw [hvt] at hvd
    have h9 := valid9 hvt
    have hsn := str_n hvt
    have hZ : zeroV t = if t.kind = 1 ∨ t.kind = 2 then (⟨t.kind, 0, t.q, []⟩, 0) else if t.kind = 3 then (⟨t.kind, 0, 0, []⟩, 0) else if t.kind = 4 then (⟨t.kind, 0, 0, if t.vary = true then [] else List.replicate t.n.toNat 32⟩, 0) else if t.kind = 5 then (⟨t.kind, 0, 0, if t.vary = true then [] else List.replicate t.n.toNat 48⟩, 0) else (⟨0, 0, 0, []⟩, 10) := by unfold zeroV; rw [if_neg (by rw [hvt]; decide)]
    rw [hZ]
    clear hZ
    obtain ⟨kd, p, q, n, vy, pc⟩ := t
    dsimp only at *
    rcases h9 with rfl | rfl | rfl | rfl | rfl | rfl | rfl | rfl | rfl
    · refine callS_body (n := 62) rfl rfl fun w ρ X => ?_
      refine rX rfl ?_
      refine runS_call rfl rfl rfl rfl rfl rfl rfl hvd ?_
      refine rX rfl ?_
      refine runS_cond rfl (fun h => by cases h) (fun h => ?_)
      refine rX rfl ?_
      refine runS_call rfl rfl rfl rfl rfl rfl rfl hbs ?_
      refine rX rfl ?_
      refine runS_cond rfl (fun h => ?_) (fun h => by cases h)
      refine rX rfl ?_
      refine runS_ret (I := inf) 0 rfl (Nat.le_refl _) rfl .nil rfl ⟨?_, rfl⟩
      rfl
    · refine callS_body (n := 62) rfl rfl fun w ρ X => ?_
      refine rX rfl ?_
      refine runS_call rfl rfl rfl rfl rfl rfl rfl hvd ?_
      refine rX rfl ?_
      refine runS_cond rfl (fun h => by cases h) (fun h => ?_)
      refine rX rfl ?_
      refine runS_call rfl rfl rfl rfl rfl rfl rfl hbs ?_
      refine rX rfl ?_
      refine runS_cond rfl (fun h => ?_) (fun h => by cases h)
      refine rX rfl ?_
      refine runS_ret (I := inf) 0 rfl (Nat.le_refl _) rfl .nil rfl ⟨?_, rfl⟩
      rfl
    · refine callS_body (n := 62) rfl rfl fun w ρ X => ?_
      refine rX rfl ?_
      refine runS_call rfl rfl rfl rfl rfl rfl rfl hvd ?_
      refine rX rfl ?_
      refine runS_cond rfl (fun h => by cases h) (fun h => ?_)
      refine rX rfl ?_
      refine runS_call rfl rfl rfl rfl rfl rfl rfl hbs ?_
      refine rX rfl ?_
      refine runS_cond rfl (fun h => by cases h) (fun h => ?_)
      refine rX rfl ?_
      refine runS_cond rfl (fun h => ?_) (fun h => by cases h)
      refine rX rfl ?_
      refine runS_ret (I := inf) 0 rfl (Nat.le_refl _) rfl .nil rfl ⟨?_, rfl⟩
      rfl
    · obtain ⟨hn0, hn1⟩ := hsn (.inl rfl)
      have hrp := lib_repeat [32] n.toNat (by decide) (by omega)
      rw [repeat_one, show ((n.toNat : Nat) : Int) = n by omega] at hrp
      cases vy
      · refine callS_body (n := 62) rfl rfl fun w ρ X => ?_
        refine rX rfl ?_
        refine runS_call rfl rfl rfl rfl rfl rfl rfl hvd ?_
        refine rX rfl ?_
        refine runS_cond rfl (fun h => by cases h) (fun h => ?_)
        refine rX rfl ?_
        refine runS_call rfl rfl rfl rfl rfl rfl rfl hbs ?_
        refine rX rfl ?_
        refine runS_cond rfl (fun h => by cases h) (fun h => ?_)
        refine rX rfl ?_
        refine runS_cond rfl (fun h => by cases h) (fun h => ?_)
        refine rX rfl ?_
        refine runS_cond rfl (fun h => ?_) (fun h => by cases h)
        refine rX rfl ?_
        refine runS_call rfl rfl rfl rfl rfl rfl rfl hrp ?_
        refine rX rfl ?_
        refine runS_ret (I := inf) 0 rfl (Nat.le_refl _) rfl .nil rfl ⟨?_, rfl⟩
        rfl
      · refine callS_body (n := 62) rfl rfl fun w ρ X => ?_
        refine rX rfl ?_
        refine runS_call rfl rfl rfl rfl rfl rfl rfl hvd ?_
        refine rX rfl ?_
        refine runS_cond rfl (fun h => by cases h) (fun h => ?_)
        refine rX rfl ?_
        refine runS_call rfl rfl rfl rfl rfl rfl rfl hbs ?_
        refine rX rfl ?_
        refine runS_cond rfl (fun h => by cases h) (fun h => ?_)
        refine rX rfl ?_
        refine runS_cond rfl (fun h => by cases h) (fun h => ?_)
        refine rX rfl ?_
        refine runS_cond rfl (fun h => by cases h) (fun h => ?_)
        refine rX rfl ?_
        refine runS_cond rfl (fun h => by cases h) (fun h => ?_)
        refine rX rfl ?_
        refine runS_cond rfl (fun h => by cases h) (fun h => ?_)
        refine rX rfl ?_
        refine runS_ret (I := inf) 0 rfl (Nat.le_refl _) rfl .nil rfl ⟨?_, rfl⟩
        rfl
    · obtain ⟨hn0, hn1⟩ := hsn (.inr rfl)
      have hrp := lib_repeat [48] n.toNat (by decide) (by omega)
      rw [repeat_one, show ((n.toNat : Nat) : Int) = n by omega] at hrp
      cases vy
      · refine callS_body (n := 62) rfl rfl fun w ρ X => ?_
        refine rX rfl ?_
        refine runS_call rfl rfl rfl rfl rfl rfl rfl hvd ?_
        refine rX rfl ?_
        refine runS_cond rfl (fun h => by cases h) (fun h => ?_)
        refine rX rfl ?_
        refine runS_call rfl rfl rfl rfl rfl rfl rfl hbs ?_
        refine rX rfl ?_
        refine runS_cond rfl (fun h => by cases h) (fun h => ?_)
        refine rX rfl ?_
        refine runS_cond rfl (fun h => by cases h) (fun h => ?_)
        refine rX rfl ?_
        refine runS_cond rfl (fun h => by cases h) (fun h => ?_)
        refine rX rfl ?_
        refine runS_cond rfl (fun h => ?_) (fun h => by cases h)
        refine rX rfl ?_
        refine runS_call rfl rfl rfl rfl rfl rfl rfl hrp ?_
        refine rX rfl ?_
        refine runS_ret (I := inf) 0 rfl (Nat.le_refl _) rfl .nil rfl ⟨?_, rfl⟩
        rfl
      · refine callS_body (n := 62) rfl rfl fun w ρ X => ?_
        refine rX rfl ?_
        refine runS_call rfl rfl rfl rfl rfl rfl rfl hvd ?_
        refine rX rfl ?_
        refine runS_cond rfl (fun h => by cases h) (fun h => ?_)
        refine rX rfl ?_
        refine runS_call rfl rfl rfl rfl rfl rfl rfl hbs ?_
        refine rX rfl ?_
        refine runS_cond rfl (fun h => by cases h) (fun h => ?_)
        refine rX rfl ?_
        refine runS_cond rfl (fun h => by cases h) (fun h => ?_)
        refine rX rfl ?_
        refine runS_cond rfl (fun h => by cases h) (fun h => ?_)
        refine rX rfl ?_
        refine runS_cond rfl (fun h => by cases h) (fun h => ?_)
        refine rX rfl ?_
        refine runS_cond rfl (fun h => by cases h) (fun h => ?_)
        refine rX rfl ?_
        refine runS_ret (I := inf) 0 rfl (Nat.le_refl _) rfl .nil rfl ⟨?_, rfl⟩
        rfl
    all_goals
      refine callS_body (n := 62) rfl rfl fun w ρ X => ?_
      refine rX rfl ?_
      refine runS_call rfl rfl rfl rfl rfl rfl rfl hvd ?_
      refine rX rfl ?_
      refine runS_cond rfl (fun h => by cases h) (fun h => ?_)
      refine rX rfl ?_
      refine runS_call rfl rfl rfl rfl rfl rfl rfl hbs ?_
      refine rX rfl ?_
      refine runS_cond rfl (fun h => by cases h) (fun h => ?_)
      refine rX rfl ?_
      refine runS_cond rfl (fun h => by cases h) (fun h => ?_)
      refine rX rfl ?_
      refine runS_cond rfl (fun h => by cases h) (fun h => ?_)
      refine rX rfl ?_
      refine runS_cond rfl (fun h => by cases h) (fun h => ?_)
      refine rX rfl ?_
      refine runS_cond rfl (fun h => ?_) (fun h => by cases h)
      refine rX rfl ?_
      refine runS_ret (I := inf) 0 rfl (Nat.le_refl _) rfl .nil rfl ⟨?_, rfl⟩
      rfl
theorem r_Zero (t : Typ) : CallT Tryz.prog 27 [.agg (typE t)] [] (fun o A => o = .ret (.tup [.agg (vlE (zeroV t).1), iv (zeroV t).2]) ∧ A = []) := by
  have hvd := r_valid t
  cases hvt : validT t with
  | false =>
    have hZ : zeroV t = (⟨0, 0, 0, []⟩, 13) := by unfold zeroV; rw [if_pos hvt]
    rw [hvt] at hvd
    rw [hZ]
    refine callS_body (n := 50) rfl rfl fun w ρ X => ?_
    refine rX rfl ?_
    refine runS_call rfl rfl rfl rfl rfl rfl rfl hvd ?_
    refine rX rfl ?_
    refine runS_cond rfl (fun h => ?_) (fun h => by cases h)
    refine rX rfl ?_
    refine runS_ret (I := inf) 0 rfl (Nat.le_refl _) rfl .nil rfl ⟨?_, rfl⟩
    rfl
  | true =>
    rw [hvt] at hvd
    have h9 := valid9 hvt
    have hsn := str_n hvt
    have hZ : zeroV t = if t.kind = 1 ∨ t.kind = 2 then (⟨t.kind, 0, t.q, []⟩, 0) else if t.kind = 3 then (⟨t.kind, 0, 0, []⟩, 0) else if t.kind = 4 then (⟨t.kind, 0, 0, if t.vary = true then [] else List.replicate t.n.toNat 32⟩, 0) else if t.kind = 5 then (⟨t.kind, 0, 0, if t.vary = true then [] else List.replicate t.n.toNat 48⟩, 0) else (⟨0, 0, 0, []⟩, 10) := by unfold zeroV; rw [if_neg (by rw [hvt]; decide)]
    rw [hZ]
    clear hZ
    obtain ⟨kd, p, q, n, vy, pc⟩ := t
    dsimp only at *
    rcases h9 with rfl | rfl | rfl | rfl | rfl | rfl | rfl | rfl | rfl
    · clear hsn
      refine callS_body (n := 50) rfl rfl fun w ρ X => ?_
      refine rX rfl ?_
      refine runS_call rfl rfl rfl rfl rfl rfl rfl hvd ?_
      refine rX rfl ?_
      refine runS_cond rfl (fun h => by cases h) (fun h => ?_)
      refine rX rfl ?_
      refine runS_cond rfl (fun h => ?_) (fun h => by cases h)
      refine rX rfl ?_
      refine runS_cond rfl (fun h => ?_) (fun h => by cases h)
      refine rX rfl ?_
      refine runS_ret (I := inf) 0 rfl (Nat.le_refl _) rfl .nil rfl ⟨?_, rfl⟩
      rfl
    · clear hsn
      refine callS_body (n := 50) rfl rfl fun w ρ X => ?_
      refine rX rfl ?_
      refine runS_call rfl rfl rfl rfl rfl rfl rfl hvd ?_
      refine rX rfl ?_
      refine runS_cond rfl (fun h => by cases h) (fun h => ?_)
      refine rX rfl ?_
      refine runS_cond rfl (fun h => by cases h) (fun h => ?_)
      refine rX rfl ?_
      refine runS_cond rfl (fun h => ?_) (fun h => by cases h)
      refine rX rfl ?_
      refine runS_ret (I := inf) 0 rfl (Nat.le_refl _) rfl .nil rfl ⟨?_, rfl⟩
      rfl
    · clear hsn
      refine callS_body (n := 50) rfl rfl fun w ρ X => ?_
      refine rX rfl ?_
      refine runS_call rfl rfl rfl rfl rfl rfl rfl hvd ?_
      refine rX rfl ?_
      refine runS_cond rfl (fun h => by cases h) (fun h => ?_)
      refine rX rfl ?_
      refine runS_cond rfl (fun h => by cases h) (fun h => ?_)
      refine rX rfl ?_
      refine runS_cond rfl (fun h => by cases h) (fun h => ?_)
      refine rX rfl ?_
      refine runS_cond rfl (fun h => ?_) (fun h => by cases h)
      refine rX rfl ?_
      refine runS_ret (I := inf) 0 rfl (Nat.le_refl _) rfl .nil rfl ⟨?_, rfl⟩
      rfl
    · obtain ⟨hn0, hn1⟩ := hsn (by decide)
      obtain ⟨N, rfl⟩ : ∃ N : Nat, n = (N : Int) := ⟨n.toNat, by omega⟩
      refine callS_body (n := 50) rfl rfl fun w ρ X => ?_
      refine rX rfl ?_
      refine runS_call rfl rfl rfl rfl rfl rfl rfl hvd ?_
      refine rX rfl ?_
      refine runS_cond rfl (fun h => by cases h) (fun h => ?_)
      refine rX rfl ?_
      refine runS_cond rfl (fun h => by cases h) (fun h => ?_)
      refine rX rfl ?_
      refine runS_cond rfl (fun h => by cases h) (fun h => ?_)
      refine rX rfl ?_
      refine runS_cond rfl (fun h => by cases h) (fun h => ?_)
      refine rX rfl ?_
      refine runS_cond rfl (fun h => ?_) (fun h => by cases h)
      refine rX rfl ?_
      refine runS_cond rfl (fun h => ?_) (fun h => by cases h)
      refine rX rfl ?_
      refine runS_while (fun (i : Nat) τ ar => (τ 1 = .ptr 0 0 0 ∧ τ 2 = .ptr 1 0 0 ∧ τ 4 = .ptr 2 0 0 ∧ τ 5 = iv i) ∧ ar = [.box 25 (typE ⟨4, p, q, N, vy, pc⟩), .box 23 [iv 0, iv 0, iv 0, sv []], .box 23 [iv 4, iv 0, iv 0, sv (List.replicate i 32)]] ∧ i ≤ N ∧ (vy = true → i = 0)) (fun i => N - i) 0 ⟨⟨rfl, rfl, rfl, rfl⟩, rfl, Nat.zero_le _, fun _ => rfl⟩ ?_
      rintro i τ' ar' ⟨⟨g1, g2, g4, g5⟩, rfl, hi, hvy⟩ ih
      refine runS_says 1 (by exact g1) (Says.refl _) ?_; refine runS_says 2 (by exact g2) (Says.refl _) ?_; refine runS_says 4 (by exact g4) (Says.refl _) ?_; refine runS_says 5 (by exact g5) (Says.refl _) ?_
      refine rX rfl ?_
      refine runS_cond rfl (fun h => ?_) (fun h => ?_)
      · have h' : (if decide ((i : Int) < (N : Int)) = true then !vy else false) = true := h
        have hlt : i < N ∧ vy = false := by
          revert h'
          by_cases hl : i < N
          · rw [decide_eq_true (show (i : Int) < (N : Int) by omega)]
            cases vy <;> simp [hl]
          · rw [decide_eq_false (show ¬ (i : Int) < (N : Int) by omega)]
            simp
        obtain ⟨hlt, hv0⟩ := hlt
        have hw1 : IntKind.wrap .i64 ((i : Int) + 1) = ((i + 1 : Nat) : Int) := by rw [w64 (by omega) (by omega)]; rfl
        have hrl : (List.replicate i (32 : UInt8)).length = i := List.length_replicate
        have hone : (bl (ByteArray.mk #[32])).length = 1 := rfl
        refine rX rfl ?_
        refine runS_cond rfl (fun h => ?_) (fun h => by cases h)
        refine runS_x (I := inf) (J := jnf) ⟨false, false, [], 0, 0⟩ 9999 rfl (by repeat (first | exact obs_nil | refine obs_draw (by kernel_rfl) ?_ | refine obs_same ?_ | refine obs_and ?_ | refine obs_by (by (simp [inB, blS, hrl, hone] <;> omega)) ?_)) ?_
        refine ih (i + 1) _ _ (by omega) ⟨⟨rfl, rfl, rfl, congrArg iv hw1⟩, ?_, hlt, fun e => by rw [hv0] at e; cases e⟩
        rw [List.replicate_succ']
        rfl
      · have h' : (if decide ((i : Int) < (N : Int)) = true then !vy else false) = false := h
        have hie : vy = true ∨ i = N := by
          revert h'
          by_cases hl : i < N
          · rw [decide_eq_true (show (i : Int) < (N : Int) by omega)]
            cases vy <;> simp
          · intro _
            exact .inr (by omega)
        have hs : (if vy = true then [] else List.replicate ((N : Int)).toNat (32 : UInt8)) = List.replicate i 32 := by
          rcases hie with e | e
          · rw [if_pos e, hvy e]; rfl
          · cases vy with
            | true => rw [if_pos rfl, hvy rfl]; rfl
            | false => rw [if_neg (by decide), Int.toNat_natCast, e]
        show RunS _ _ _ _ _ (fun o A => o = .ret (.tup [.agg (vaE 4 0 0 (if vy = true then [] else List.replicate ((N : Int)).toNat 32)), iv 0]) ∧ A = [])
        rw [hs]
        refine rX rfl ?_
        refine runS_ret (I := inf) 0 rfl (Nat.le_refl _) rfl .nil rfl ⟨?_, rfl⟩
        rfl
    · obtain ⟨hn0, hn1⟩ := hsn (by decide)
      obtain ⟨N, rfl⟩ : ∃ N : Nat, n = (N : Int) := ⟨n.toNat, by omega⟩
      refine callS_body (n := 50) rfl rfl fun w ρ X => ?_
      refine rX rfl ?_
      refine runS_call rfl rfl rfl rfl rfl rfl rfl hvd ?_
      refine rX rfl ?_
      refine runS_cond rfl (fun h => by cases h) (fun h => ?_)
      refine rX rfl ?_
      refine runS_cond rfl (fun h => by cases h) (fun h => ?_)
      refine rX rfl ?_
      refine runS_cond rfl (fun h => by cases h) (fun h => ?_)
      refine rX rfl ?_
      refine runS_cond rfl (fun h => by cases h) (fun h => ?_)
      refine rX rfl ?_
      refine runS_cond rfl (fun h => by cases h) (fun h => ?_)
      refine rX rfl ?_
      refine runS_cond rfl (fun h => ?_) (fun h => by cases h)
      refine rX rfl ?_
      refine runS_while (fun (i : Nat) τ ar => (τ 1 = .ptr 0 0 0 ∧ τ 2 = .ptr 1 0 0 ∧ τ 4 = .ptr 2 0 0 ∧ τ 5 = iv i) ∧ ar = [.box 25 (typE ⟨5, p, q, N, vy, pc⟩), .box 23 [iv 0, iv 0, iv 0, sv []], .box 23 [iv 5, iv 0, iv 0, sv (List.replicate i 48)]] ∧ i ≤ N ∧ (vy = true → i = 0)) (fun i => N - i) 0 ⟨⟨rfl, rfl, rfl, rfl⟩, rfl, Nat.zero_le _, fun _ => rfl⟩ ?_
      rintro i τ' ar' ⟨⟨g1, g2, g4, g5⟩, rfl, hi, hvy⟩ ih
      refine runS_says 1 (by exact g1) (Says.refl _) ?_; refine runS_says 2 (by exact g2) (Says.refl _) ?_; refine runS_says 4 (by exact g4) (Says.refl _) ?_; refine runS_says 5 (by exact g5) (Says.refl _) ?_
      refine rX rfl ?_
      refine runS_cond rfl (fun h => ?_) (fun h => ?_)
      · have h' : (if decide ((i : Int) < (N : Int)) = true then !vy else false) = true := h
        have hlt : i < N ∧ vy = false := by
          revert h'
          by_cases hl : i < N
          · rw [decide_eq_true (show (i : Int) < (N : Int) by omega)]
            cases vy <;> simp [hl]
          · rw [decide_eq_false (show ¬ (i : Int) < (N : Int) by omega)]
            simp
        obtain ⟨hlt, hv0⟩ := hlt
        have hw1 : IntKind.wrap .i64 ((i : Int) + 1) = ((i + 1 : Nat) : Int) := by rw [w64 (by omega) (by omega)]; rfl
        have hrl : (List.replicate i (48 : UInt8)).length = i := List.length_replicate
        have hone : (bl (ByteArray.mk #[48])).length = 1 := rfl
        refine rX rfl ?_
        refine runS_cond rfl (fun h => by cases h) (fun h => ?_)
        refine runS_x (I := inf) (J := jnf) ⟨false, false, [], 0, 0⟩ 9999 rfl (by repeat (first | exact obs_nil | refine obs_draw (by kernel_rfl) ?_ | refine obs_same ?_ | refine obs_and ?_ | refine obs_by (by (simp [inB, blS, hrl, hone] <;> omega)) ?_)) ?_
        refine ih (i + 1) _ _ (by omega) ⟨⟨rfl, rfl, rfl, congrArg iv hw1⟩, ?_, hlt, fun e => by rw [hv0] at e; cases e⟩
        rw [List.replicate_succ']
        rfl
      · have h' : (if decide ((i : Int) < (N : Int)) = true then !vy else false) = false := h
        have hie : vy = true ∨ i = N := by
          revert h'
          by_cases hl : i < N
          · rw [decide_eq_true (show (i : Int) < (N : Int) by omega)]
            cases vy <;> simp
          · intro _
            exact .inr (by omega)
        have hs : (if vy = true then [] else List.replicate ((N : Int)).toNat (48 : UInt8)) = List.replicate i 48 := by
          rcases hie with e | e
          · rw [if_pos e, hvy e]; rfl
          · cases vy with
            | true => rw [if_pos rfl, hvy rfl]; rfl
            | false => rw [if_neg (by decide), Int.toNat_natCast, e]
        show RunS _ _ _ _ _ (fun o A => o = .ret (.tup [.agg (vaE 5 0 0 (if vy = true then [] else List.replicate ((N : Int)).toNat 48)), iv 0]) ∧ A = [])
        rw [hs]
        refine rX rfl ?_
        refine runS_ret (I := inf) 0 rfl (Nat.le_refl _) rfl .nil rfl ⟨?_, rfl⟩
        rfl
    · clear hsn
      refine callS_body (n := 50) rfl rfl fun w ρ X => ?_
      refine rX rfl ?_
      refine runS_call rfl rfl rfl rfl rfl rfl rfl hvd ?_
      refine rX rfl ?_
      refine runS_cond rfl (fun h => by cases h) (fun h => ?_)
      refine rX rfl ?_
      refine runS_cond rfl (fun h => by cases h) (fun h => ?_)
      refine rX rfl ?_
      refine runS_cond rfl (fun h => by cases h) (fun h => ?_)
      refine rX rfl ?_
      refine runS_cond rfl (fun h => by cases h) (fun h => ?_)
      refine rX rfl ?_
      refine runS_cond rfl (fun h => by cases h) (fun h => ?_)
      refine rX rfl ?_
      refine runS_cond rfl (fun h => by cases h) (fun h => ?_)
      refine rX rfl ?_
      refine runS_ret (I := inf) 0 rfl (Nat.le_refl _) rfl .nil rfl ⟨?_, rfl⟩
      rfl
    · clear hsn
      refine callS_body (n := 50) rfl rfl fun w ρ X => ?_
      refine rX rfl ?_
      refine runS_call rfl rfl rfl rfl rfl rfl rfl hvd ?_
      refine rX rfl ?_
      refine runS_cond rfl (fun h => by cases h) (fun h => ?_)
      refine rX rfl ?_
      refine runS_cond rfl (fun h => by cases h) (fun h => ?_)
      refine rX rfl ?_
      refine runS_cond rfl (fun h => by cases h) (fun h => ?_)
      refine rX rfl ?_
      refine runS_cond rfl (fun h => by cases h) (fun h => ?_)
      refine rX rfl ?_
      refine runS_cond rfl (fun h => by cases h) (fun h => ?_)
      refine rX rfl ?_
      refine runS_cond rfl (fun h => by cases h) (fun h => ?_)
      refine rX rfl ?_
      refine runS_ret (I := inf) 0 rfl (Nat.le_refl _) rfl .nil rfl ⟨?_, rfl⟩
      rfl
    · clear hsn
      refine callS_body (n := 50) rfl rfl fun w ρ X => ?_
      refine rX rfl ?_
      refine runS_call rfl rfl rfl rfl rfl rfl rfl hvd ?_
      refine rX rfl ?_
      refine runS_cond rfl (fun h => by cases h) (fun h => ?_)
      refine rX rfl ?_
      refine runS_cond rfl (fun h => by cases h) (fun h => ?_)
      refine rX rfl ?_
      refine runS_cond rfl (fun h => by cases h) (fun h => ?_)
      refine rX rfl ?_
      refine runS_cond rfl (fun h => by cases h) (fun h => ?_)
      refine rX rfl ?_
      refine runS_cond rfl (fun h => by cases h) (fun h => ?_)
      refine rX rfl ?_
      refine runS_cond rfl (fun h => by cases h) (fun h => ?_)
      refine rX rfl ?_
      refine runS_ret (I := inf) 0 rfl (Nat.le_refl _) rfl .nil rfl ⟨?_, rfl⟩
      rfl
    · clear hsn
      refine callS_body (n := 50) rfl rfl fun w ρ X => ?_
      refine rX rfl ?_
      refine runS_call rfl rfl rfl rfl rfl rfl rfl hvd ?_
      refine rX rfl ?_
      refine runS_cond rfl (fun h => by cases h) (fun h => ?_)
      refine rX rfl ?_
      refine runS_cond rfl (fun h => by cases h) (fun h => ?_)
      refine rX rfl ?_
      refine runS_cond rfl (fun h => by cases h) (fun h => ?_)
      refine rX rfl ?_
      refine runS_cond rfl (fun h => by cases h) (fun h => ?_)
      refine rX rfl ?_
      refine runS_cond rfl (fun h => by cases h) (fun h => ?_)
      refine rX rfl ?_
      refine runS_cond rfl (fun h => by cases h) (fun h => ?_)
      refine rX rfl ?_
      refine runS_ret (I := inf) 0 rfl (Nat.le_refl _) rfl .nil rfl ⟨?_, rfl⟩
      rfl
end Go.Iron.Tryz

/- The digits' seat: the reference's operations. -/
namespace Go.Iron.Tryz
open Go.Proofs Go.RowKit Go.Iron.Tok Go.Iron.Dg

theorem ofE_num0 (kd n q : Int) : (ofE kd n q).num = 0 ↔ n = 0 := by
  show n.natAbs * (if kd = 3 then 10 ^ q.toNat else 1) = 0 ↔ n = 0
  have : (if kd = 3 then 10 ^ q.toNat else 1) ≠ 0 := by
    split
    · exact Nat.pos_iff_ne_zero.1 (Nat.pow_pos (by decide))
    · decide
  rw [Nat.mul_eq_zero, or_iff_left this]
  omega
theorem ofE_den0 (kd n q : Int) : (ofE kd n q).den ≠ 0 := Nat.pos_iff_ne_zero.1 (ofE_den kd n q)
theorem over_fit {x y : Ex} {l m : Nat} (hx : ExFit x l) (hy : ExFit y m) : ExFit (overE x y) (l + m) := by
  have h1 := frm_len_mul x.num y.den
  have h3 := frm_len_mul x.den y.num
  have a1 := hx.1; have a2 := hx.2; have b1 := hy.1; have b2 := hy.2
  exact ⟨by show (frm (x.num * y.den)).length ≤ _; omega, by show (frm (x.den * y.num)).length ≤ _; omega⟩
def opX (op : UInt8) (x y : Ex) : Ex := if op = 43 then bothE x y else if op = 45 then bothE x (turnE y) else if op = 42 then timesE x y else overE x y
abbrev fitX (t : Typ) (x : Ex) (big : Int) : Int × Int × Int := fitS t.kind t.p.toNat t.q.toNat x.neg x.num x.den (kF x.num x.den t.p.toNat) big
abbrev vceA (r : Vl × Int × Int) : AV := .tup [.agg (vlE r.1), iv r.2.1, iv r.2.2]
def doV (op : UInt8) (a b : Vl) (t : Typ) : Vl × Int × Int :=
  if askL (some t) [a, b] ≠ 0 then (⟨0, 0, 0, []⟩, 0, askL (some t) [a, b])
  else if op = 47 ∧ b.n = 0 then ((zeroV t).1, 9, 0)
  else (⟨t.kind, (fitX t (opX op (ofE a.kind a.n a.q) (ofE b.kind b.n b.q)) 2).1, (fitX t (opX op (ofE a.kind a.n a.q) (ofE b.kind b.n b.q)) 2).2.1, []⟩, (fitX t (opX op (ofE a.kind a.n a.q) (ofE b.kind b.n b.q)) 2).2.2, 0)
theorem r_do (op : UInt8) (hop : op = 43 ∨ op = 45 ∨ op = 42 ∨ op = 47) (a b : Vl) (t : Typ) : CallT Tryz.prog 82 [sv [op], .agg (vlE a), .agg (vlE b), .agg (typE t)] [] (fun o A => o = .ret (vceA (doV op a b t)) ∧ A = []) := by
  unfold doV
  refine callS_body (n := 69) rfl rfl fun w ρ X => ?_
  refine rX rfl ?_
  refine runS_tell 4 (vlR [a, b]) rfl (m' := 2) rfl (fun j hj => ?_) rfl ?_
  · rcases j with _ | _ | j <;> first | rfl | omega
  refine runS_freeze 20 rfl rfl rfl (fun j hj => ?_) ?_
  · rcases j with _ | _ | j <;> first | rfl | omega
  refine runS_call rfl rfl rfl rfl rfl rfl rfl (r_asked t none [a, b] (by simp)) ?_
  refine rX rfl ?_
  refine runS_cond rfl (fun h => ?_) (fun h => ?_)
  · have h0 : askL (some t) [a, b] ≠ 0 := by
      have h3 : (!(askL (some t) [a, b] == 0)) = true := h
      rw [Bool.not_eq_true', beq_eq_false_iff_ne] at h3
      exact h3
    rw [if_pos h0]
    refine rX rfl ?_
    refine runS_ret (I := inf) 0 rfl (Nat.le_refl _) rfl .nil rfl ⟨?_, rfl⟩
    rfl
  · have h0 : askL (some t) [a, b] = 0 := by
      have h3 : (!(askL (some t) [a, b] == 0)) = false := h
      rw [Bool.not_eq_false', beq_iff_eq] at h3
      exact h3
    rw [if_neg (show ¬ askL (some t) [a, b] ≠ 0 from fun e => e h0)]
    obtain ⟨hnum, htn⟩ := ask_num h0
    obtain ⟨hv, hkt⟩ := htn t rfl
    obtain ⟨hra, hka⟩ := hnum a (by simp)
    obtain ⟨hrb, hkb⟩ := hnum b (by simp)
    have hfa := of_fit hra hka
    have hfb := of_fit hrb hkb
    have hofa := r_of a hra hka
    have hofb := r_of b hrb hkb
    have hbn := ofE_num0 b.kind b.n b.q
    have hda := ofE_den0 a.kind a.n a.q
    have hdb := ofE_den0 b.kind b.n b.q
    generalize ofE a.kind a.n a.q = x at *
    generalize ofE b.kind b.n b.q = y at *
    refine rX rfl ?_
    refine runS_hole ?_
    refine runS_hole ?_
    refine runS_drawG (ch := []) (A2 := fun _ => []) 6 [4, 5] (fun z => [.box 23 (vlE a), .box 23 (vlE b), .box 25 (typE t), .box 23 [iv 0, iv 0, iv 0, sv []], .gone, cond (z.getD 0 false) (.row 35 3 1 1 (fun _ => exZ)) .hole, cond (z.getD 1 false) (.row 35 3 1 1 (fun _ => exZ)) .hole]) none (c := 9) jnfI.draw (by kernel_rfl) rfl (lexg_g (I := inf) (J := jnf) none ⟨⟨⟨_, rfl, ob0⟩, oi⟩, oj⟩ rfl rfl rfl rfl (lexg_call rfl rfl rfl rfl rfl rfl rfl rfl rfl hofa (lexg_g (I := inf) (J := jnf) none ⟨⟨⟨_, rfl, ob0⟩, oi⟩, oj⟩ rfl rfl rfl rfl (lexg_call rfl rfl rfl rfl rfl rfl rfl rfl rfl hofb (lexg_b 5 rfl rfl ⟨⟨⟨rfl, rfl⟩, (by first | exact .inl (by decide +kernel) | exact .inr ⟨rfl, rfl⟩)⟩, .inl rfl⟩ rfl rfl rfl rfl (lexg_b 6 rfl rfl ⟨⟨⟨rfl, rfl⟩, .inl rfl⟩, (by first | exact .inl (by decide +kernel) | exact .inr ⟨⟨rfl, rfl⟩, .inl rfl⟩)⟩ rfl rfl rfl rfl lexg_nil)))))) rfl (fun _ => ?_) (fun h => by cases h)
    refine rX rfl ?_
    refine runS_tell 5 (fun _ => [bv x.neg, natS none (frm x.num), natS none (frm x.den)]) rfl (m' := 1) rfl (fun j hj => by (obtain rfl : j = 0 := by omega); rfl) rfl ?_
    refine runS_tell 6 (fun _ => [bv y.neg, natS none (frm y.num), natS none (frm y.den)]) rfl (m' := 1) rfl (fun j hj => by (obtain rfl : j = 0 := by omega); rfl) rfl ?_
    have hsum : ∀ z, ExFit z 120 → ExFit (bothE x z) 980 := fun z hz => (both_fit hfa hz).mono (by decide)
    have hfX : ExFit (opX op x y) 980 := by
      unfold opX
      split
      · exact hsum _ hfb
      · split
        · exact hsum _ (turn_fit hfb)
        · split
          · exact (times_fit hfa hfb).mono (by decide)
          · exact (over_fit hfa hfb).mono (by decide)
    have hdX : ¬ (op = 47 ∧ b.n = 0) → (opX op x y).den ≠ 0 := by
      intro hno
      unfold opX
      split
      · rw [both_den]; exact Nat.mul_ne_zero hda hdb
      · split
        · rw [both_den]; exact Nat.mul_ne_zero hda hdb
        · split
          · exact Nat.mul_ne_zero hda hdb
          · refine Nat.mul_ne_zero hda fun e => hno ⟨?_, hbn.1 e⟩
            rcases hop with h | h | h | h <;> first | exact h | contradiction
    refine runS_cut (fun τ ar => (τ 7 = .ptr 2 0 0 ∧ τ 8 = .ptr 3 0 0 ∧ τ 12 = .elt 5 1 3 0 0) ∧ ar = [.box 23 (vlE a), .box 23 (vlE b), .box 25 (typE t), .box 23 [iv 0, iv 0, iv 0, sv []], .gone, .row 35 3 1 1 (fun _ => [bv (opX op x y).neg, natS none (frm (opX op x y).num), natS none (frm (opX op x y).den)]), .row 35 3 1 1 (fun _ => [bv y.neg, natS none (frm y.num), natS none (frm y.den)])] ∧ ¬ (op = 47 ∧ b.n = 0)) (fun rest => ?_) ?_
    · rcases hop with rfl | rfl | rfl | rfl
      · refine runS_cond rfl (fun h => ?_) (fun h => absurd h (by decide +kernel))
        refine runS_x (I := inf) (J := jnf) ⟨false, false, [], 3, 0⟩ 9999 rfl ob1 ?_
        refine runS_call rfl rfl rfl rfl rfl rfl rfl (r_both x y (hfa.mono (by decide)) (hfb.mono (by decide))) ?_
        refine runS_x (I := inf) (J := jnf) ⟨false, false, [], 3, 0⟩ 9999 rfl ob1 ?_
        refine runS_tell 5 (fun _ => [bv (bothE x y).neg, natS none (frm (bothE x y).num), natS none (frm (bothE x y).den)]) rfl (m' := 1) rfl (fun j hj => by (obtain rfl : j = 0 := by omega); rfl) rfl ?_
        exact rest _ _ ⟨⟨rfl, rfl, rfl⟩, rfl, fun h => by (cases h.1)⟩
      · refine runS_cond rfl (fun h => absurd h (by decide +kernel)) (fun h => ?_)
        refine runS_x (I := inf) (J := jnf) ⟨false, false, [], 3, 0⟩ 9999 rfl ob1 ?_
        refine runS_cond rfl (fun h => ?_) (fun h => absurd h (by decide +kernel))
        refine runS_x (I := inf) (J := jnf) ⟨false, false, [], 3, 0⟩ 9999 rfl ob1 ?_
        refine runS_draw 4 (by kernel_rfl) (lexj_x (I := inf) (J := jnf) 99 rfl rfl ob0 (lexj_call rfl rfl rfl rfl rfl rfl rfl rfl (r_turn y (hfb.mono (by decide))) (lexj_x (I := inf) (J := jnf) 99 rfl rfl ob0 (lexj_call rfl rfl rfl rfl rfl rfl rfl rfl (r_both x (turnE y) (hfa.mono (by decide)) ((turn_fit hfb).mono (by decide))) (lexj_x (I := inf) (J := jnf) 99 rfl rfl ob0 lexj_nil))))) ?_
        refine runS_x (I := inf) (J := jnf) ⟨false, false, [], 3, 0⟩ 9999 rfl ob1 ?_
        refine runS_tell 5 (fun _ => [bv (bothE x (turnE y)).neg, natS none (frm (bothE x (turnE y)).num), natS none (frm (bothE x (turnE y)).den)]) rfl (m' := 1) rfl (fun j hj => by (obtain rfl : j = 0 := by omega); rfl) rfl ?_
        exact rest _ _ ⟨⟨rfl, rfl, rfl⟩, rfl, fun h => by (cases h.1)⟩
      · refine runS_cond rfl (fun h => absurd h (by decide +kernel)) (fun h => ?_)
        refine runS_x (I := inf) (J := jnf) ⟨false, false, [], 3, 0⟩ 9999 rfl ob1 ?_
        refine runS_cond rfl (fun h => absurd h (by decide +kernel)) (fun h => ?_)
        refine runS_x (I := inf) (J := jnf) ⟨false, false, [], 3, 0⟩ 9999 rfl ob1 ?_
        refine runS_cond rfl (fun h => ?_) (fun h => absurd h (by decide +kernel))
        refine runS_x (I := inf) (J := jnf) ⟨false, false, [], 3, 0⟩ 9999 rfl ob1 ?_
        refine runS_call rfl rfl rfl rfl rfl rfl rfl (r_times x y (hfa.mono (by decide)) (hfb.mono (by decide))) ?_
        refine runS_x (I := inf) (J := jnf) ⟨false, false, [], 3, 0⟩ 9999 rfl ob1 ?_
        refine runS_tell 5 (fun _ => [bv (timesE x y).neg, natS none (frm (timesE x y).num), natS none (frm (timesE x y).den)]) rfl (m' := 1) rfl (fun j hj => by (obtain rfl : j = 0 := by omega); rfl) rfl ?_
        exact rest _ _ ⟨⟨rfl, rfl, rfl⟩, rfl, fun h => by (cases h.1)⟩
      · refine runS_cond rfl (fun h => absurd h (by decide +kernel)) (fun h => ?_)
        refine runS_x (I := inf) (J := jnf) ⟨false, false, [], 3, 0⟩ 9999 rfl ob1 ?_
        refine runS_cond rfl (fun h => absurd h (by decide +kernel)) (fun h => ?_)
        refine runS_x (I := inf) (J := jnf) ⟨false, false, [], 3, 0⟩ 9999 rfl ob1 ?_
        refine runS_cond rfl (fun h => absurd h (by decide +kernel)) (fun h => ?_)
        refine runS_x (I := inf) (J := jnf) ⟨false, false, [], 3, 0⟩ 9999 rfl ob1 ?_
        refine runS_cond rfl (fun h => ?_) (fun h => ?_)
        · have hb0 : b.n = 0 := by
            have : (((frm y.num).length : Int) == 0) = true := h
            simp only [beq_iff_eq] at this
            exact hbn.1 (frm_len0.1 (by omega))
          rw [if_pos ⟨rfl, hb0⟩]
          refine runS_x (I := inf) (J := jnf) ⟨false, false, [], 3, 0⟩ 9999 rfl ob1 ?_
          refine runS_call rfl rfl rfl rfl rfl rfl rfl (r_Zero t) ?_
          refine runS_x (I := inf) (J := jnf) ⟨false, false, [], 3, 0⟩ 9999 rfl ob1 ?_
          refine runS_ret (I := inf) 0 rfl (Nat.le_refl _) rfl .nil rfl ⟨?_, rfl⟩
          rfl
        · have hb0 : ¬ b.n = 0 := by
            have : (((frm y.num).length : Int) == 0) = false := h
            simp only [beq_eq_false_iff_ne] at this
            exact fun e => this (by rw [hbn.2 e, frm_zero]; rfl)
          refine runS_x (I := inf) (J := jnf) ⟨false, false, [], 3, 0⟩ 9999 rfl ob1 ?_
          refine runS_call rfl rfl rfl rfl rfl rfl rfl (r_over x y (hfa.mono (by decide)) (hfb.mono (by decide))) ?_
          refine runS_x (I := inf) (J := jnf) ⟨false, false, [], 3, 0⟩ 9999 rfl ob1 ?_
          refine runS_tell 5 (fun _ => [bv (overE x y).neg, natS none (frm (overE x y).num), natS none (frm (overE x y).den)]) rfl (m' := 1) rfl (fun j hj => by (obtain rfl : j = 0 := by omega); rfl) rfl ?_
          exact rest _ _ ⟨⟨rfl, rfl, rfl⟩, rfl, fun h => hb0 h.2⟩
    rintro τ2 ar2 ⟨⟨g7, g8, g12⟩, rfl, hno⟩
    rw [if_neg hno]
    generalize opX op x y = z at *
    have hft := r_fitTo z t 2 hv hkt hfX (hdX hno)
    refine runS_says 7 (by exact g7) (Says.refl _) ?_; refine runS_says 8 (by exact g8) (Says.refl _) ?_; refine runS_says 12 (by exact g12) (Says.refl _) ?_
    refine rX rfl ?_
    refine runS_call rfl rfl rfl rfl rfl rfl rfl hft ?_
    refine rX rfl ?_
    refine runS_ret (I := inf) 0 rfl (Nat.le_refl _) rfl .nil rfl ⟨?_, rfl⟩
    rfl
end Go.Iron.Tryz

/- The pairs' seat: whole decimal numbers are reckoned as numbers. -/
namespace Go.Iron.Tryz
open Go.Proofs Go.RowKit Go.Iron.Tok Go.Iron.Dg

abbrev dcV (n : Int) : Vl := ⟨2, n, 0, []⟩
abbrev dcT (P : Int) : Typ := ⟨2, P, 0, 0, false, []⟩
theorem dc_right {n : Int} (h : n.natAbs < 1000000000000000) : (dcV n).right = true := by
  show rightB 2 n 0 [] = true
  unfold rightB
  rw [if_neg (by decide), if_pos rfl]
  simp
  omega
theorem dc_valid {P : Int} (h1 : 1 ≤ P) (h2 : P ≤ 15) : validT (dcT P) = true := by
  unfold validT inR
  simp
  omega
theorem dc_ask {n m P : Int} (hn : n.natAbs < 1000000000000000) (hm : m.natAbs < 1000000000000000) (h1 : 1 ≤ P) (h2 : P ≤ 15) : askL (some (dcT P)) [dcV n, dcV m] = 0 := by
  unfold askL
  rw [if_neg (by simp [dc_right hn, dc_right hm]), if_neg (by simp [dc_valid h1 h2]), if_neg (by simp [numK]), if_neg (by simp [numK])]
theorem sgn_ofE (n : Int) : sgn (ofE 2 n 0).neg (ofE 2 n 0).num = n ∧ (ofE 2 n 0).den = 1 := by
  refine ⟨?_, rfl⟩
  show sgn (decide (n < 0)) (n.natAbs * 1) = n
  unfold sgn
  by_cases h : n < 0
  · rw [decide_eq_true h, if_pos rfl]; omega
  · rw [decide_eq_false h, if_neg (by decide)]; omega
theorem turn_sgn (x : Ex) : sgn (turnE x).neg (turnE x).num = -sgn x.neg x.num := by
  show sgn (!x.neg && decide (x.num ≠ 0)) x.num = _
  rw [sgn_and]
  unfold sgn
  cases x.neg <;> simp
theorem op_dec {op : UInt8} {n m r : Int} (hop : op = 43 ∧ r = n + m ∨ op = 45 ∧ r = n - m ∨ op = 42 ∧ r = n * m) : sgn (opX op (ofE 2 n 0) (ofE 2 m 0)).neg (opX op (ofE 2 n 0) (ofE 2 m 0)).num = r ∧ (opX op (ofE 2 n 0) (ofE 2 m 0)).den = 1 := by
  obtain ⟨a1, a2⟩ := sgn_ofE n
  obtain ⟨b1, b2⟩ := sgn_ofE m
  have hbd : ∀ x y : Ex, x.den = 1 → y.den = 1 → (bothE x y).den = 1 := fun x y hx hy => by
    unfold bothE
    split
    · show x.den * y.den = 1; rw [hx, hy]
    · split
      · show x.den * y.den = 1; rw [hx, hy]
      · show x.den * y.den = 1; rw [hx, hy]
  unfold opX
  rcases hop with ⟨rfl, rfl⟩ | ⟨rfl, rfl⟩ | ⟨rfl, rfl⟩
  · rw [if_pos rfl, both_sgn, a2, b2, Nat.mul_one, Nat.mul_one, a1, b1]
    exact ⟨rfl, hbd _ _ a2 b2⟩
  · rw [if_neg (by decide), if_pos rfl, both_sgn]
    have t1 := turn_sgn (ofE 2 m 0)
    have t2 : (turnE (ofE 2 m 0)).den = 1 := b2
    rw [a2, t2, Nat.mul_one, Nat.mul_one, a1, t1, b1]
    exact ⟨by omega, hbd _ _ a2 t2⟩
  · rw [if_neg (by decide), if_neg (by decide), if_pos rfl]
    refine ⟨?_, ?_⟩
    · show sgn (((ofE 2 n 0).neg != (ofE 2 m 0).neg) && decide ((ofE 2 n 0).num * (ofE 2 m 0).num ≠ 0)) ((ofE 2 n 0).num * (ofE 2 m 0).num) = _
      rw [sgn_and, sgn_times, a1, b1]
    · show (ofE 2 n 0).den * (ofE 2 m 0).den = 1
      rw [a2, b2]
theorem sgn_abs (ng : Bool) (m : Nat) : (sgn ng m).natAbs = m := by
  unfold sgn
  cases ng <;> simp
theorem do_dec {op : UInt8} {n m r P : Int} (hop : op = 43 ∧ r = n + m ∨ op = 45 ∧ r = n - m ∨ op = 42 ∧ r = n * m) (hn : n.natAbs < 1000000000000000) (hm : m.natAbs < 1000000000000000) (h1 : 1 ≤ P) (h2 : P ≤ 15) (hr : r.natAbs < 10 ^ P.toNat) :
    doV op (dcV n) (dcV m) (dcT P) = (dcV r, 0, 0) := by
  obtain ⟨x1, x2⟩ := op_dec hop
  unfold doV
  rw [if_neg (by rw [dc_ask hn hm h1 h2]; decide), if_neg (by rcases hop with ⟨rfl, _⟩ | ⟨rfl, _⟩ | ⟨rfl, _⟩ <;> simp)]
  generalize opX op (ofE (dcV n).kind (dcV n).n (dcV n).q) (ofE (dcV m).kind (dcV m).n (dcV m).q) = x at *
  have hx : x.num = r.natAbs := by rw [← x1, sgn_abs]
  have hf : fitX (dcT P) x 2 = (r, 0, 0) := by
    show fitS 2 P.toNat 0 x.neg x.num x.den _ 2 = _
    unfold fitS
    rw [if_neg (by decide)]
    have h10 : bsN 2 = 10 := rfl
    rw [h10, Nat.pow_zero, Nat.mul_one, x2, Nat.div_one, hx, Nat.mod_eq_of_lt hr, if_neg (by omega), ← hx, x1]
    rfl
  rw [hf]
end Go.Iron.Tryz

/- The digits' seat: products, quotients by 0, rests. -/
namespace Go.Iron.Tryz
open Go.Proofs Go.RowKit Go.Iron.Tok Go.Iron.Dg

theorem prod_fits (a b : Lg) (ha : Fits a 50 100) (hb : Fits b 50 100) : Fits (prodL a b) 1500 1000 := by
  obtain ⟨ha1, ha2, ha3⟩ := ha
  obtain ⟨hb1, hb2, hb3⟩ := hb
  have := frm_len_mul a.m b.m
  unfold prodL
  exact ⟨by dsimp only; omega, by dsimp only; omega, by dsimp only; omega⟩
theorem d_Multiply (a b : Vl) (t : Typ) (he : askL (some t) [a, b] = 0) : CallT Tryz.prog 46 [.agg (vlE a), .agg (vlE b), .agg (typE t)] [] (fun o A => o = .ret (resA t.kind (fitL t.kind t.p.toNat t.q.toNat (prodL (ext a) (ext b)) 2)) ∧ A = []) := by
  obtain ⟨hnum, htn⟩ := ask_num he
  obtain ⟨hra, hka⟩ := hnum a (by simp)
  obtain ⟨hrb, hkb⟩ := hnum b (by simp)
  have hfa := ext_fits a hra hka
  have hfb := ext_fits b hrb hkb
  have hr := d_reckonV a b t 104 (prodL (ext a) (ext b)) he (d_product (ext a) (ext b) (hfa.mono (by decide) (by decide)) (hfb.mono (by decide) (by decide))) (prod_fits _ _ hfa hfb)
  refine callS_body (n := 16) rfl rfl fun w ρ X => ?_
  refine rX rfl ?_
  refine runS_call rfl rfl rfl rfl rfl rfl rfl hr ?_
  refine rX rfl ?_
  refine runS_ret (I := inf) 0 rfl (Nat.le_refl _) rfl .nil rfl ⟨?_, rfl⟩
  rfl
theorem d_AddE (a b : Vl) (t : Typ) (he : askL (some t) [a, b] ≠ 0) : CallT Tryz.prog 34 [.agg (vlE a), .agg (vlE b), .agg (typE t)] [] (fun o A => o = .ret (errA (askL (some t) [a, b])) ∧ A = []) := by
  refine callS_body (n := 16) rfl rfl fun w ρ X => ?_
  refine rX rfl ?_
  refine runS_call rfl rfl rfl rfl rfl rfl rfl (d_reckonE a b t 89 [] he) ?_
  refine rX rfl ?_
  refine runS_ret (I := inf) 0 rfl (Nat.le_refl _) rfl .nil rfl ⟨?_, rfl⟩
  rfl
theorem d_SubtractE (a b : Vl) (t : Typ) (he : askL (some t) [a, b] ≠ 0) : CallT Tryz.prog 35 [.agg (vlE a), .agg (vlE b), .agg (typE t)] [] (fun o A => o = .ret (errA (askL (some t) [a, b])) ∧ A = []) := by
  refine callS_body (n := 16) rfl rfl fun w ρ X => ?_
  refine rX rfl ?_
  refine runS_call rfl rfl rfl rfl rfl rfl rfl (d_reckonE a b t 90 [] he) ?_
  refine rX rfl ?_
  refine runS_ret (I := inf) 0 rfl (Nat.le_refl _) rfl .nil rfl ⟨?_, rfl⟩
  rfl
theorem d_MultiplyE (a b : Vl) (t : Typ) (he : askL (some t) [a, b] ≠ 0) : CallT Tryz.prog 46 [.agg (vlE a), .agg (vlE b), .agg (typE t)] [] (fun o A => o = .ret (errA (askL (some t) [a, b])) ∧ A = []) := by
  refine callS_body (n := 16) rfl rfl fun w ρ X => ?_
  refine rX rfl ?_
  refine runS_call rfl rfl rfl rfl rfl rfl rfl (d_reckonE a b t 104 [] he) ?_
  refine rX rfl ?_
  refine runS_ret (I := inf) 0 rfl (Nat.le_refl _) rfl .nil rfl ⟨?_, rfl⟩
  rfl
end Go.Iron.Tryz

/- The digits' seat: rests. -/
namespace Go.Iron.Tryz
open Go.Proofs Go.RowKit Go.Iron.Tok Go.Iron.Dg

end Go.Iron.Tryz

/- The digits' seat: operations of both are one. -/
namespace Go.Iron.Tryz
open Go.Proofs Go.RowKit Go.Iron.Tok Go.Iron.Dg

theorem fit_eq {L : Lg} {x : Ex} {t : Typ} {big : Int} (hv : validT t = true) (hk : numK t.kind = true) (hr : Rep L x.num x.den) (hd : x.den ≠ 0) (hn : x.num ≠ 0 → L.neg = x.neg) : fitL t.kind t.p.toNat t.q.toNat L big = fitX t x big := by
  obtain ⟨P, Q, hP, hQ, hP1, hP2, hQ2, hkd⟩ := valid_num hv hk
  have hp : t.p.toNat = P := by omega
  rw [hp]
  unfold fitX
  rw [hp]
  exact fit_rep (by omega) hP1 hr (Nat.pos_of_ne_zero hd) hn (fun h0 _ => kF_is h0 hd hP1)
theorem rep_v {v : Vl} (hr : v.right = true) (hk : numK v.kind = true) : Rep (ext v) (ofE v.kind v.n v.q).num (ofE v.kind v.n v.q).den := by
  obtain ⟨h1, h2, h3, h4, h5, h6⟩ := right_num hr hk
  exact exact_rep h2 (fun h => (h3 (by omega)).1)
theorem sum_zero {a b : Lg} (s : Bool) (h : b.m = 0) : sumL a ⟨b.m, s, b.exp⟩ = ⟨upM a (min a.exp b.exp), a.neg, min a.exp b.exp⟩ := by
  have hu : upM ⟨b.m, s, b.exp⟩ (min a.exp b.exp) = 0 := by unfold upM; rw [h, Nat.zero_mul]
  unfold sumL
  dsimp only
  rw [hu]
  split
  · rfl
  · rw [if_neg (Nat.not_lt_zero _)]
    rfl
theorem sub_rep {a b : Lg} {x y : Ex} (ha : Rep a x.num x.den) (hb : Rep b y.num y.den) (hna : a.neg = x.neg) (hnb : b.neg = y.neg) (hyd : y.den ≠ 0) : Rep (sumL a (flipL b)) (bothE x (turnE y)).num (bothE x (turnE y)).den ∧ ((bothE x (turnE y)).num ≠ 0 → (sumL a (flipL b)).neg = (bothE x (turnE y)).neg) := by
  have hs : sumL a (flipL b) = sumL a ⟨b.m, (turnE y).neg, b.exp⟩ := by
    by_cases h0 : y.num = 0
    · have hbm : b.m = 0 := by
        have hb' : b.m * y.den * e10 b.exp = y.num * e10 (-b.exp) := hb
        rw [h0, Nat.zero_mul] at hb'
        have := e10_pos b.exp
        rcases Nat.mul_eq_zero.1 hb' with h | h
        · rcases Nat.mul_eq_zero.1 h with h | h
          · exact h
          · exact absurd h hyd
        · omega
      rw [sum_zero _ hbm]
      exact sum_zero _ hbm
    · have : (turnE y).neg = !b.neg := by
        show (!y.neg && decide (y.num ≠ 0)) = !b.neg
        rw [decide_eq_true h0, Bool.and_true, hnb]
      rw [this]
      rfl
  rw [hs]
  exact sum_rep (b := ⟨b.m, (turnE y).neg, b.exp⟩) (y := turnE y) ha hb hna rfl
theorem d_AddV (a b : Vl) (t : Typ) : CallT Tryz.prog 34 [.agg (vlE a), .agg (vlE b), .agg (typE t)] [] (fun o A => o = .ret (vceA (doV 43 a b t)) ∧ A = []) := by
  unfold doV
  by_cases he : askL (some t) [a, b] = 0
  · obtain ⟨hnum, htn⟩ := ask_num he
    obtain ⟨hv, hkt⟩ := htn t rfl
    obtain ⟨hra, hka⟩ := hnum a (by simp)
    obtain ⟨hrb, hkb⟩ := hnum b (by simp)
    have h := d_Add a b t he
    obtain ⟨r1, r2⟩ := sum_rep (x := ofE a.kind a.n a.q) (y := ofE b.kind b.n b.q) (rep_v hra hka) (rep_v hrb hkb) rfl rfl
    rw [fit_eq hv hkt r1 (by rw [both_den]; exact Nat.mul_ne_zero (ofE_den0 a.kind a.n a.q) (ofE_den0 b.kind b.n b.q)) r2] at h
    rw [if_neg (fun e => e he), if_neg (fun e => absurd e.1 (by decide))]
    exact h
  · rw [if_pos he]
    exact d_AddE a b t he
theorem d_SubtractV (a b : Vl) (t : Typ) : CallT Tryz.prog 35 [.agg (vlE a), .agg (vlE b), .agg (typE t)] [] (fun o A => o = .ret (vceA (doV 45 a b t)) ∧ A = []) := by
  unfold doV
  by_cases he : askL (some t) [a, b] = 0
  · obtain ⟨hnum, htn⟩ := ask_num he
    obtain ⟨hv, hkt⟩ := htn t rfl
    obtain ⟨hra, hka⟩ := hnum a (by simp)
    obtain ⟨hrb, hkb⟩ := hnum b (by simp)
    have h := d_Subtract a b t he
    obtain ⟨r1, r2⟩ := sub_rep (x := ofE a.kind a.n a.q) (y := ofE b.kind b.n b.q) (rep_v hra hka) (rep_v hrb hkb) rfl rfl (ofE_den0 _ _ _)
    rw [fit_eq hv hkt r1 (by rw [both_den]; exact Nat.mul_ne_zero (ofE_den0 a.kind a.n a.q) (ofE_den0 b.kind b.n b.q)) r2] at h
    rw [if_neg (fun e => e he), if_neg (fun e => absurd e.1 (by decide))]
    exact h
  · rw [if_pos he]
    exact d_SubtractE a b t he
theorem d_MultiplyV (a b : Vl) (t : Typ) : CallT Tryz.prog 46 [.agg (vlE a), .agg (vlE b), .agg (typE t)] [] (fun o A => o = .ret (vceA (doV 42 a b t)) ∧ A = []) := by
  unfold doV
  by_cases he : askL (some t) [a, b] = 0
  · obtain ⟨hnum, htn⟩ := ask_num he
    obtain ⟨hv, hkt⟩ := htn t rfl
    obtain ⟨hra, hka⟩ := hnum a (by simp)
    obtain ⟨hrb, hkb⟩ := hnum b (by simp)
    have h := d_Multiply a b t he
    obtain ⟨r1, r2⟩ := prod_rep (x := ofE a.kind a.n a.q) (y := ofE b.kind b.n b.q) (rep_v hra hka) (rep_v hrb hkb) rfl rfl
    rw [fit_eq hv hkt r1 (Nat.mul_ne_zero (ofE_den0 _ _ _) (ofE_den0 _ _ _)) r2] at h
    rw [if_neg (fun e => e he), if_neg (fun e => absurd e.1 (by decide))]
    exact h
  · rw [if_pos he]
    exact d_MultiplyE a b t he
end Go.Iron.Tryz

/- The pairs' seat: steps, products. -/
namespace Go.Iron.Tryz
open Go.Proofs Go.RowKit Go.Iron.Tok Go.Iron.Dg

abbrev nuE (t : Typ) : List AV := [iv 0, iv 0, iv 0, sv [], iv 0, iv 0, iv 0, sv [], iv t.kind, iv t.p, iv t.q, iv t.n, bv t.vary, sv t.pic]
abbrev vlZ : List AV := [iv 0, iv 0, iv 0, sv []]
def byV (op : UInt8) (t : Typ) (a b : Vl) : Except Int Vl := if (doV op a b t).2.1 = 0 then .ok (doV op a b t).1 else .error (doV op a b t).2.1
abbrev stopO (c : Int) : Out := .pan (.ifc 121 (.agg [iv c]))
def outV : Except Int Vl → Out
  | .error c => stopO c
  | .ok v => .ret (.agg (vlE v))
def outP : Except Int Pr → Out
  | .error c => stopO c
  | .ok x => .ret (.agg (prE x))
theorem p_byG (t : Typ) (a b : Vl) (R : Vl × Int × Int) {g : FuncId} {gn : Func} {gc : Code} [Fun Tryz.prog g gn gc]
    (hg : CallT Tryz.prog g [.agg (vlE a), .agg (vlE b), .agg (typE t)] [] (fun o A => o = .ret (vceA R) ∧ A = [])) :
    CallT Tryz.prog 93 [.agg (nuE t), .fn (.func g) [], .agg (vlE a), .agg (vlE b)] [] (fun o A => o = outV (if R.2.1 = 0 then .ok R.1 else .error R.2.1) ∧ A = []) := by
  obtain ⟨v, c, e⟩ := R
  dsimp only at hg ⊢
  refine callS_body (n := 28) rfl rfl fun w ρ X => ?_
  refine rX rfl ?_
  refine runS_call rfl rfl rfl rfl rfl rfl rfl hg ?_
  refine rX rfl ?_
  refine runS_cond rfl (fun h => ?_) (fun h => ?_)
  · have hc : c ≠ 0 := by
      have h3 : (!(c == 0)) = true := h
      simpa using h3
    rw [if_neg hc]
    refine rX rfl ?_
    exact runS_pan 0 rfl (Nat.le_refl _) rfl .nil ⟨rfl, rfl⟩
  · have hc : c = 0 := by
      have h3 : (!(c == 0)) = false := h
      simpa using h3
    rw [if_pos hc]
    refine rX rfl ?_
    refine runS_ret (I := inf) 0 rfl (Nat.le_refl _) rfl .nil rfl ⟨?_, rfl⟩
    rfl
theorem p_by42 (t : Typ) (a b : Vl) : CallT Tryz.prog 93 [.agg (nuE t), .fn (.func 46) [], .agg (vlE a), .agg (vlE b)] [] (fun o A => o = outV (byV 42 t a b) ∧ A = []) := p_byG t a b _ (d_MultiplyV a b t)
theorem p_by43 (t : Typ) (a b : Vl) : CallT Tryz.prog 93 [.agg (nuE t), .fn (.func 34) [], .agg (vlE a), .agg (vlE b)] [] (fun o A => o = outV (byV 43 t a b) ∧ A = []) := p_byG t a b _ (d_AddV a b t)
theorem p_by45 (t : Typ) (a b : Vl) : CallT Tryz.prog 93 [.agg (nuE t), .fn (.func 35) [], .agg (vlE a), .agg (vlE b)] [] (fun o A => o = outV (byV 45 t a b) ∧ A = []) := p_byG t a b _ (d_SubtractV a b t)
def timesV (t : Typ) (x y : Pr) : Except Int Pr :=
  match byV 42 t x.re y.re with
  | .error c => .error c
  | .ok p => match byV 42 t x.im y.im with
    | .error c => .error c
    | .ok q => match byV 42 t x.re y.im with
      | .error c => .error c
      | .ok r => match byV 42 t x.im y.re with
        | .error c => .error c
        | .ok s => match byV 45 t p q with
          | .error c => .error c
          | .ok re => match byV 43 t r s with
            | .error c => .error c
            | .ok im => .ok ⟨re, im⟩
theorem p_times (t : Typ) (x y : Pr) : CallT Tryz.prog 99 [.agg (nuE t), .agg (prE x), .agg (prE y)] [] (fun o A => o = outP (timesV t x y) ∧ A = []) := by
  have h1 := p_by42 t x.re y.re
  have h2 := p_by42 t x.im y.im
  have h3 := p_by42 t x.re y.im
  have h4 := p_by42 t x.im y.re
  unfold timesV
  refine callS_body (n := 46) rfl rfl fun w ρ X => ?_
  refine rX rfl ?_
  refine runS_hole ?_
  refine runS_hole ?_
  cases e1 : byV 42 t x.re y.re with
  | error c =>
    rw [e1] at h1
    dsimp only
    refine runS_drawG 16 [12, 13] (fun z => [.box 95 (nuE t), .box 41 (prE x), .box 41 (prE y), .box 41 (prE pr0), cond (z.getD 0 false) (.row 23 4 1 1 (fun _ => vlZ)) .hole, cond (z.getD 1 false) (.row 23 4 1 1 (fun _ => vlZ)) .hole]) (some 5) (c := 9) jnfI.draw (by kernel_rfl) rfl (lexg_g (I := inf) (J := jnf) none ⟨⟨⟨_, rfl, ob0⟩, oi⟩, oj⟩ rfl rfl rfl rfl (lexg_g (I := inf) (J := jnf) none ⟨⟨⟨_, rfl, ob0⟩, oi⟩, oj⟩ rfl rfl rfl rfl (lexg_g (I := inf) (J := jnf) none ⟨⟨⟨_, rfl, ob0⟩, oi⟩, oj⟩ rfl rfl rfl rfl (lexg_g (I := inf) (J := jnf) none ⟨⟨⟨_, rfl, ob0⟩, oi⟩, oj⟩ rfl rfl rfl rfl (lexg_g (I := inf) (J := jnf) none ⟨⟨⟨_, rfl, ob0⟩, oi⟩, oj⟩ rfl rfl rfl rfl (lexg_pan rfl rfl rfl rfl rfl rfl rfl rfl h1 (lexg_g (I := inf) (J := jnf) none ⟨⟨⟨_, rfl, ob0⟩, oi⟩, oj⟩ rfl rfl rfl rfl (lexg_g (I := inf) (J := jnf) none ⟨⟨⟨_, rfl, ob0⟩, oi⟩, oj⟩ rfl rfl rfl rfl (lexg_g (I := inf) (J := jnf) none ⟨⟨⟨_, rfl, ob0⟩, oi⟩, oj⟩ rfl rfl rfl rfl (lexg_g (I := inf) (J := jnf) none ⟨⟨⟨_, rfl, ob0⟩, oi⟩, oj⟩ rfl rfl rfl rfl (lexg_g (I := inf) (J := jnf) none ⟨⟨⟨_, rfl, ob0⟩, oi⟩, oj⟩ rfl rfl rfl rfl (lexg_late rfl (by kernel_rfl) (lexg_b 4 rfl rfl ⟨⟨⟨rfl, rfl⟩, (by first | exact .inl (by decide +kernel) | exact .inr ⟨rfl, rfl⟩)⟩, .inl rfl⟩ rfl rfl rfl rfl (lexg_b 5 rfl rfl ⟨⟨⟨rfl, rfl⟩, .inl rfl⟩, (by first | exact .inl (by decide +kernel) | exact .inr ⟨⟨rfl, rfl⟩, .inl rfl⟩)⟩ rfl rfl rfl rfl (lexg_late rfl (by kernel_rfl) (lexg_late rfl (by kernel_rfl) lexg_nil)))))))))))))))) rfl (fun h => by cases h) (fun _ b tt => ?_)
    refine rX rfl ?_
    exact runS_pan 0 rfl (Nat.le_refl _) rfl .nil ⟨rfl, rfl⟩
  | ok p =>
    rw [e1] at h1
    dsimp only
    cases e2 : byV 42 t x.im y.im with
    | error c =>
      rw [e2] at h2
      dsimp only
      refine runS_drawG 16 [12, 13] (fun z => [.box 95 (nuE t), .box 41 (prE x), .box 41 (prE y), .box 41 (prE pr0), cond (z.getD 0 false) (.row 23 4 1 1 (fun _ => vlZ)) .hole, cond (z.getD 1 false) (.row 23 4 1 1 (fun _ => vlZ)) .hole]) (some 11) (c := 9) jnfI.draw (by kernel_rfl) rfl (lexg_g (I := inf) (J := jnf) none ⟨⟨⟨_, rfl, ob0⟩, oi⟩, oj⟩ rfl rfl rfl rfl (lexg_g (I := inf) (J := jnf) none ⟨⟨⟨_, rfl, ob0⟩, oi⟩, oj⟩ rfl rfl rfl rfl (lexg_g (I := inf) (J := jnf) none ⟨⟨⟨_, rfl, ob0⟩, oi⟩, oj⟩ rfl rfl rfl rfl (lexg_g (I := inf) (J := jnf) none ⟨⟨⟨_, rfl, ob0⟩, oi⟩, oj⟩ rfl rfl rfl rfl (lexg_g (I := inf) (J := jnf) none ⟨⟨⟨_, rfl, ob0⟩, oi⟩, oj⟩ rfl rfl rfl rfl (lexg_call rfl rfl rfl rfl rfl rfl rfl rfl rfl h1 (lexg_g (I := inf) (J := jnf) none ⟨⟨⟨_, rfl, ob0⟩, oi⟩, oj⟩ rfl rfl rfl rfl (lexg_g (I := inf) (J := jnf) none ⟨⟨⟨_, rfl, ob0⟩, oi⟩, oj⟩ rfl rfl rfl rfl (lexg_g (I := inf) (J := jnf) none ⟨⟨⟨_, rfl, ob0⟩, oi⟩, oj⟩ rfl rfl rfl rfl (lexg_g (I := inf) (J := jnf) none ⟨⟨⟨_, rfl, ob0⟩, oi⟩, oj⟩ rfl rfl rfl rfl (lexg_g (I := inf) (J := jnf) none ⟨⟨⟨_, rfl, ob0⟩, oi⟩, oj⟩ rfl rfl rfl rfl (lexg_pan rfl rfl rfl rfl rfl rfl rfl rfl h2 (lexg_b 4 rfl rfl ⟨⟨⟨rfl, rfl⟩, (by first | exact .inl (by decide +kernel) | exact .inr ⟨rfl, rfl⟩)⟩, .inl rfl⟩ rfl rfl rfl rfl (lexg_b 5 rfl rfl ⟨⟨⟨rfl, rfl⟩, .inl rfl⟩, (by first | exact .inl (by decide +kernel) | exact .inr ⟨⟨rfl, rfl⟩, .inl rfl⟩)⟩ rfl rfl rfl rfl (lexg_late rfl (by kernel_rfl) (lexg_late rfl (by kernel_rfl) lexg_nil)))))))))))))))) rfl (fun h => by cases h) (fun _ b tt => ?_)
      refine rX rfl ?_
      exact runS_pan 0 rfl (Nat.le_refl _) rfl .nil ⟨rfl, rfl⟩
    | ok q =>
      rw [e2] at h2
      dsimp only
      refine runS_drawG (ch := []) (A2 := fun _ => []) 16 [12, 13, 14, 15] (fun z => [.box 95 (nuE t), .box 41 (prE x), .box 41 (prE y), .box 41 (prE pr0), cond (z.getD 0 false) (.row 23 4 1 1 (cond (z.getD 2 false) (setR (fun _ => vlZ) 0 (vlE p)) (fun _ => vlZ))) .hole, cond (z.getD 1 false) (.row 23 4 1 1 (cond (z.getD 3 false) (setR (fun _ => vlZ) 0 (vlE q)) (fun _ => vlZ))) .hole]) none (c := 9) jnfI.draw (by kernel_rfl) rfl (lexg_g (I := inf) (J := jnf) none ⟨⟨⟨⟨⟨_, rfl, ob0⟩, oi⟩, oj⟩, ol⟩, on⟩ rfl rfl rfl rfl (lexg_g (I := inf) (J := jnf) none ⟨⟨⟨⟨⟨_, rfl, ob0⟩, oi⟩, oj⟩, ol⟩, on⟩ rfl rfl rfl rfl (lexg_g (I := inf) (J := jnf) none ⟨⟨⟨⟨⟨_, rfl, ob0⟩, oi⟩, oj⟩, ol⟩, on⟩ rfl rfl rfl rfl (lexg_g (I := inf) (J := jnf) none ⟨⟨⟨⟨⟨_, rfl, ob0⟩, oi⟩, oj⟩, ol⟩, on⟩ rfl rfl rfl rfl (lexg_g (I := inf) (J := jnf) none ⟨⟨⟨⟨⟨_, rfl, ob0⟩, oi⟩, oj⟩, ol⟩, on⟩ rfl rfl rfl rfl (lexg_call rfl rfl rfl rfl rfl rfl rfl rfl rfl h1 (lexg_g (I := inf) (J := jnf) none ⟨⟨⟨⟨⟨_, rfl, ob0⟩, oi⟩, oj⟩, ol⟩, on⟩ rfl rfl rfl rfl (lexg_g (I := inf) (J := jnf) none ⟨⟨⟨⟨⟨_, rfl, ob0⟩, oi⟩, oj⟩, ol⟩, on⟩ rfl rfl rfl rfl (lexg_g (I := inf) (J := jnf) none ⟨⟨⟨⟨⟨_, rfl, ob0⟩, oi⟩, oj⟩, ol⟩, on⟩ rfl rfl rfl rfl (lexg_g (I := inf) (J := jnf) none ⟨⟨⟨⟨⟨_, rfl, ob0⟩, oi⟩, oj⟩, ol⟩, on⟩ rfl rfl rfl rfl (lexg_g (I := inf) (J := jnf) none ⟨⟨⟨⟨⟨_, rfl, ob0⟩, oi⟩, oj⟩, ol⟩, on⟩ rfl rfl rfl rfl (lexg_call rfl rfl rfl rfl rfl rfl rfl rfl rfl h2 (lexg_b 4 rfl rfl ⟨⟨⟨⟨⟨rfl, rfl⟩, (by first | exact .inl (by decide +kernel) | exact .inr ⟨rfl, rfl⟩)⟩, (by first | exact .inl (by decide +kernel) | exact .inr ⟨⟨rfl, rfl⟩, (by first | exact .inl (by decide +kernel) | exact .inr ⟨rfl, rfl⟩)⟩)⟩, (by first | exact .inl (by decide +kernel) | exact .inr ⟨⟨⟨rfl, rfl⟩, (by first | exact .inl (by decide +kernel) | exact .inr ⟨rfl, rfl⟩)⟩, (by first | exact .inl (by decide +kernel) | exact .inr ⟨⟨rfl, rfl⟩, (by first | exact .inl (by decide +kernel) | exact .inr ⟨rfl, rfl⟩)⟩)⟩)⟩, .inl rfl⟩ rfl rfl rfl rfl (lexg_b 5 rfl rfl ⟨⟨⟨⟨⟨rfl, rfl⟩, (by first | exact .inl (by decide +kernel) | exact .inr ⟨rfl, rfl⟩)⟩, (by first | exact .inl (by decide +kernel) | exact .inr ⟨⟨rfl, rfl⟩, (by first | exact .inl (by decide +kernel) | exact .inr ⟨rfl, rfl⟩)⟩)⟩, .inl rfl⟩, (by first | exact .inl (by decide +kernel) | exact .inr ⟨⟨⟨⟨rfl, rfl⟩, (by first | exact .inl (by decide +kernel) | exact .inr ⟨rfl, rfl⟩)⟩, (by first | exact .inl (by decide +kernel) | exact .inr ⟨⟨rfl, rfl⟩, (by first | exact .inl (by decide +kernel) | exact .inr ⟨rfl, rfl⟩)⟩)⟩, .inl rfl⟩)⟩ rfl rfl rfl rfl (lexg_d (I := inf) (J := jnf) (some .store) ⟨(by first | exact .inl (by decide +kernel) | exact .inr ⟨om, om⟩), (by first | exact .inl (by decide +kernel) | exact .inr ⟨om, om⟩)⟩ rfl rfl rfl rfl (lexg_d (I := inf) (J := jnf) (some .store) ⟨(by first | exact .inl (by decide +kernel) | exact .inr ⟨om, om⟩), (by first | exact .inl (by decide +kernel) | exact .inr ⟨om, om⟩)⟩ rfl rfl rfl rfl lexg_nil)))))))))))))))) rfl (fun _ => ?_) (fun h => by cases h)
      refine rX rfl ?_
      refine runS_tell 4 (fun _ => vlE p) rfl (m' := 1) rfl (fun j hj => by (obtain rfl : j = 0 := by omega); rfl) rfl ?_
      refine runS_tell 5 (fun _ => vlE q) rfl (m' := 1) rfl (fun j hj => by (obtain rfl : j = 0 := by omega); rfl) rfl ?_
      refine runS_hole ?_
      refine runS_hole ?_
      cases e3 : byV 42 t x.re y.im with
      | error c =>
        rw [e3] at h3
        dsimp only
        refine runS_drawG 16 [12, 13] (fun z => [.box 95 (nuE t), .box 41 (prE x), .box 41 (prE y), .box 41 (prE pr0), .row 23 4 1 1 (fun _ => vlE p), .row 23 4 1 1 (fun _ => vlE q), cond (z.getD 0 false) (.row 23 4 1 1 (fun _ => vlZ)) .hole, cond (z.getD 1 false) (.row 23 4 1 1 (fun _ => vlZ)) .hole]) (some 5) (c := 9) jnfI.draw (by kernel_rfl) rfl (lexg_g (I := inf) (J := jnf) none ⟨⟨⟨_, rfl, ob0⟩, oi⟩, oj⟩ rfl rfl rfl rfl (lexg_g (I := inf) (J := jnf) none ⟨⟨⟨_, rfl, ob0⟩, oi⟩, oj⟩ rfl rfl rfl rfl (lexg_g (I := inf) (J := jnf) none ⟨⟨⟨_, rfl, ob0⟩, oi⟩, oj⟩ rfl rfl rfl rfl (lexg_g (I := inf) (J := jnf) none ⟨⟨⟨_, rfl, ob0⟩, oi⟩, oj⟩ rfl rfl rfl rfl (lexg_g (I := inf) (J := jnf) none ⟨⟨⟨_, rfl, ob0⟩, oi⟩, oj⟩ rfl rfl rfl rfl (lexg_pan rfl rfl rfl rfl rfl rfl rfl rfl h3 (lexg_g (I := inf) (J := jnf) none ⟨⟨⟨_, rfl, ob0⟩, oi⟩, oj⟩ rfl rfl rfl rfl (lexg_g (I := inf) (J := jnf) none ⟨⟨⟨_, rfl, ob0⟩, oi⟩, oj⟩ rfl rfl rfl rfl (lexg_g (I := inf) (J := jnf) none ⟨⟨⟨_, rfl, ob0⟩, oi⟩, oj⟩ rfl rfl rfl rfl (lexg_g (I := inf) (J := jnf) none ⟨⟨⟨_, rfl, ob0⟩, oi⟩, oj⟩ rfl rfl rfl rfl (lexg_g (I := inf) (J := jnf) none ⟨⟨⟨_, rfl, ob0⟩, oi⟩, oj⟩ rfl rfl rfl rfl (lexg_late rfl (by kernel_rfl) (lexg_b 6 rfl rfl ⟨⟨⟨rfl, rfl⟩, (by first | exact .inl (by decide +kernel) | exact .inr ⟨rfl, rfl⟩)⟩, .inl rfl⟩ rfl rfl rfl rfl (lexg_b 7 rfl rfl ⟨⟨⟨rfl, rfl⟩, .inl rfl⟩, (by first | exact .inl (by decide +kernel) | exact .inr ⟨⟨rfl, rfl⟩, .inl rfl⟩)⟩ rfl rfl rfl rfl (lexg_late rfl (by kernel_rfl) (lexg_late rfl (by kernel_rfl) lexg_nil)))))))))))))))) rfl (fun h => by cases h) (fun _ b tt => ?_)
        refine rX rfl ?_
        exact runS_pan 0 rfl (Nat.le_refl _) rfl .nil ⟨rfl, rfl⟩
      | ok r =>
        rw [e3] at h3
        dsimp only
        cases e4 : byV 42 t x.im y.re with
        | error c =>
          rw [e4] at h4
          dsimp only
          refine runS_drawG 16 [12, 13] (fun z => [.box 95 (nuE t), .box 41 (prE x), .box 41 (prE y), .box 41 (prE pr0), .row 23 4 1 1 (fun _ => vlE p), .row 23 4 1 1 (fun _ => vlE q), cond (z.getD 0 false) (.row 23 4 1 1 (fun _ => vlZ)) .hole, cond (z.getD 1 false) (.row 23 4 1 1 (fun _ => vlZ)) .hole]) (some 11) (c := 9) jnfI.draw (by kernel_rfl) rfl (lexg_g (I := inf) (J := jnf) none ⟨⟨⟨_, rfl, ob0⟩, oi⟩, oj⟩ rfl rfl rfl rfl (lexg_g (I := inf) (J := jnf) none ⟨⟨⟨_, rfl, ob0⟩, oi⟩, oj⟩ rfl rfl rfl rfl (lexg_g (I := inf) (J := jnf) none ⟨⟨⟨_, rfl, ob0⟩, oi⟩, oj⟩ rfl rfl rfl rfl (lexg_g (I := inf) (J := jnf) none ⟨⟨⟨_, rfl, ob0⟩, oi⟩, oj⟩ rfl rfl rfl rfl (lexg_g (I := inf) (J := jnf) none ⟨⟨⟨_, rfl, ob0⟩, oi⟩, oj⟩ rfl rfl rfl rfl (lexg_call rfl rfl rfl rfl rfl rfl rfl rfl rfl h3 (lexg_g (I := inf) (J := jnf) none ⟨⟨⟨_, rfl, ob0⟩, oi⟩, oj⟩ rfl rfl rfl rfl (lexg_g (I := inf) (J := jnf) none ⟨⟨⟨_, rfl, ob0⟩, oi⟩, oj⟩ rfl rfl rfl rfl (lexg_g (I := inf) (J := jnf) none ⟨⟨⟨_, rfl, ob0⟩, oi⟩, oj⟩ rfl rfl rfl rfl (lexg_g (I := inf) (J := jnf) none ⟨⟨⟨_, rfl, ob0⟩, oi⟩, oj⟩ rfl rfl rfl rfl (lexg_g (I := inf) (J := jnf) none ⟨⟨⟨_, rfl, ob0⟩, oi⟩, oj⟩ rfl rfl rfl rfl (lexg_pan rfl rfl rfl rfl rfl rfl rfl rfl h4 (lexg_b 6 rfl rfl ⟨⟨⟨rfl, rfl⟩, (by first | exact .inl (by decide +kernel) | exact .inr ⟨rfl, rfl⟩)⟩, .inl rfl⟩ rfl rfl rfl rfl (lexg_b 7 rfl rfl ⟨⟨⟨rfl, rfl⟩, .inl rfl⟩, (by first | exact .inl (by decide +kernel) | exact .inr ⟨⟨rfl, rfl⟩, .inl rfl⟩)⟩ rfl rfl rfl rfl (lexg_late rfl (by kernel_rfl) (lexg_late rfl (by kernel_rfl) lexg_nil)))))))))))))))) rfl (fun h => by cases h) (fun _ b tt => ?_)
          refine rX rfl ?_
          exact runS_pan 0 rfl (Nat.le_refl _) rfl .nil ⟨rfl, rfl⟩
        | ok s =>
          rw [e4] at h4
          dsimp only
          refine runS_drawG (ch := []) (A2 := fun _ => []) 16 [12, 13, 14, 15] (fun z => [.box 95 (nuE t), .box 41 (prE x), .box 41 (prE y), .box 41 (prE pr0), .row 23 4 1 1 (fun _ => vlE p), .row 23 4 1 1 (fun _ => vlE q), cond (z.getD 0 false) (.row 23 4 1 1 (cond (z.getD 2 false) (setR (fun _ => vlZ) 0 (vlE r)) (fun _ => vlZ))) .hole, cond (z.getD 1 false) (.row 23 4 1 1 (cond (z.getD 3 false) (setR (fun _ => vlZ) 0 (vlE s)) (fun _ => vlZ))) .hole]) none (c := 9) jnfI.draw (by kernel_rfl) rfl (lexg_g (I := inf) (J := jnf) none ⟨⟨⟨⟨⟨_, rfl, ob0⟩, oi⟩, oj⟩, ol⟩, on⟩ rfl rfl rfl rfl (lexg_g (I := inf) (J := jnf) none ⟨⟨⟨⟨⟨_, rfl, ob0⟩, oi⟩, oj⟩, ol⟩, on⟩ rfl rfl rfl rfl (lexg_g (I := inf) (J := jnf) none ⟨⟨⟨⟨⟨_, rfl, ob0⟩, oi⟩, oj⟩, ol⟩, on⟩ rfl rfl rfl rfl (lexg_g (I := inf) (J := jnf) none ⟨⟨⟨⟨⟨_, rfl, ob0⟩, oi⟩, oj⟩, ol⟩, on⟩ rfl rfl rfl rfl (lexg_g (I := inf) (J := jnf) none ⟨⟨⟨⟨⟨_, rfl, ob0⟩, oi⟩, oj⟩, ol⟩, on⟩ rfl rfl rfl rfl (lexg_call rfl rfl rfl rfl rfl rfl rfl rfl rfl h3 (lexg_g (I := inf) (J := jnf) none ⟨⟨⟨⟨⟨_, rfl, ob0⟩, oi⟩, oj⟩, ol⟩, on⟩ rfl rfl rfl rfl (lexg_g (I := inf) (J := jnf) none ⟨⟨⟨⟨⟨_, rfl, ob0⟩, oi⟩, oj⟩, ol⟩, on⟩ rfl rfl rfl rfl (lexg_g (I := inf) (J := jnf) none ⟨⟨⟨⟨⟨_, rfl, ob0⟩, oi⟩, oj⟩, ol⟩, on⟩ rfl rfl rfl rfl (lexg_g (I := inf) (J := jnf) none ⟨⟨⟨⟨⟨_, rfl, ob0⟩, oi⟩, oj⟩, ol⟩, on⟩ rfl rfl rfl rfl (lexg_g (I := inf) (J := jnf) none ⟨⟨⟨⟨⟨_, rfl, ob0⟩, oi⟩, oj⟩, ol⟩, on⟩ rfl rfl rfl rfl (lexg_call rfl rfl rfl rfl rfl rfl rfl rfl rfl h4 (lexg_b 6 rfl rfl ⟨⟨⟨⟨⟨rfl, rfl⟩, (by first | exact .inl (by decide +kernel) | exact .inr ⟨rfl, rfl⟩)⟩, (by first | exact .inl (by decide +kernel) | exact .inr ⟨⟨rfl, rfl⟩, (by first | exact .inl (by decide +kernel) | exact .inr ⟨rfl, rfl⟩)⟩)⟩, (by first | exact .inl (by decide +kernel) | exact .inr ⟨⟨⟨rfl, rfl⟩, (by first | exact .inl (by decide +kernel) | exact .inr ⟨rfl, rfl⟩)⟩, (by first | exact .inl (by decide +kernel) | exact .inr ⟨⟨rfl, rfl⟩, (by first | exact .inl (by decide +kernel) | exact .inr ⟨rfl, rfl⟩)⟩)⟩)⟩, .inl rfl⟩ rfl rfl rfl rfl (lexg_b 7 rfl rfl ⟨⟨⟨⟨⟨rfl, rfl⟩, (by first | exact .inl (by decide +kernel) | exact .inr ⟨rfl, rfl⟩)⟩, (by first | exact .inl (by decide +kernel) | exact .inr ⟨⟨rfl, rfl⟩, (by first | exact .inl (by decide +kernel) | exact .inr ⟨rfl, rfl⟩)⟩)⟩, .inl rfl⟩, (by first | exact .inl (by decide +kernel) | exact .inr ⟨⟨⟨⟨rfl, rfl⟩, (by first | exact .inl (by decide +kernel) | exact .inr ⟨rfl, rfl⟩)⟩, (by first | exact .inl (by decide +kernel) | exact .inr ⟨⟨rfl, rfl⟩, (by first | exact .inl (by decide +kernel) | exact .inr ⟨rfl, rfl⟩)⟩)⟩, .inl rfl⟩)⟩ rfl rfl rfl rfl (lexg_d (I := inf) (J := jnf) (some .store) ⟨(by first | exact .inl (by decide +kernel) | exact .inr ⟨om, om⟩), (by first | exact .inl (by decide +kernel) | exact .inr ⟨om, om⟩)⟩ rfl rfl rfl rfl (lexg_d (I := inf) (J := jnf) (some .store) ⟨(by first | exact .inl (by decide +kernel) | exact .inr ⟨om, om⟩), (by first | exact .inl (by decide +kernel) | exact .inr ⟨om, om⟩)⟩ rfl rfl rfl rfl lexg_nil)))))))))))))))) rfl (fun _ => ?_) (fun h => by cases h)
          refine rX rfl ?_
          refine runS_tell 6 (fun _ => vlE r) rfl (m' := 1) rfl (fun j hj => by (obtain rfl : j = 0 := by omega); rfl) rfl ?_
          refine runS_tell 7 (fun _ => vlE s) rfl (m' := 1) rfl (fun j hj => by (obtain rfl : j = 0 := by omega); rfl) rfl ?_
          have h5 := p_by45 t p q
          have h6 := p_by43 t r s
          cases e5 : byV 45 t p q with
          | error c =>
            rw [e5] at h5
            dsimp only
            refine runS_callP rfl rfl rfl rfl rfl rfl rfl h5 ?_
            refine rX rfl ?_
            exact runS_pan 0 rfl (Nat.le_refl _) rfl .nil ⟨rfl, rfl⟩
          | ok re =>
            rw [e5] at h5
            dsimp only
            refine runS_call rfl rfl rfl rfl rfl rfl rfl h5 ?_
            refine rX rfl ?_
            cases e6 : byV 43 t r s with
            | error c =>
              rw [e6] at h6
              dsimp only
              refine runS_drawG 7 [] (fun _ => _) (some 4) (c := 9) jnfI.draw (by kernel_rfl) rfl (lexg_g (I := inf) (J := jnf) none ⟨_, rfl, ob0⟩ rfl rfl rfl rfl (lexg_g (I := inf) (J := jnf) none ⟨_, rfl, ob0⟩ rfl rfl rfl rfl (lexg_g (I := inf) (J := jnf) none ⟨_, rfl, ob0⟩ rfl rfl rfl rfl (lexg_g (I := inf) (J := jnf) none ⟨_, rfl, ob0⟩ rfl rfl rfl rfl (lexg_pan rfl rfl rfl rfl rfl rfl rfl rfl h6 (lexg_late rfl (by kernel_rfl) (lexg_late rfl (by kernel_rfl) lexg_nil))))))) rfl (fun h => by cases h) (fun _ b tt => ?_)
              refine rX rfl ?_
              exact runS_pan 0 rfl (Nat.le_refl _) rfl .nil ⟨rfl, rfl⟩
            | ok im =>
              rw [e6] at h6
              dsimp only
              refine runS_drawG (ch := []) (A2 := fun _ => []) 7 [6] (fun z => [.box 95 (nuE t), .box 41 (prE x), .box 41 (prE y), .box 41 (cond (z.getD 0 false) (prE ⟨re, im⟩) (prE pr0)), .row 23 4 1 1 (fun _ => vlE p), .row 23 4 1 1 (fun _ => vlE q), .row 23 4 1 1 (fun _ => vlE r), .row 23 4 1 1 (fun _ => vlE s), .box 23 (vlE re)]) none (c := 9) jnfI.draw (by kernel_rfl) rfl (lexg_g (I := inf) (J := jnf) none ⟨⟨_, rfl, ob0⟩, oi⟩ rfl rfl rfl rfl (lexg_g (I := inf) (J := jnf) none ⟨⟨_, rfl, ob0⟩, oi⟩ rfl rfl rfl rfl (lexg_g (I := inf) (J := jnf) none ⟨⟨_, rfl, ob0⟩, oi⟩ rfl rfl rfl rfl (lexg_g (I := inf) (J := jnf) none ⟨⟨_, rfl, ob0⟩, oi⟩ rfl rfl rfl rfl (lexg_call rfl rfl rfl rfl rfl rfl rfl rfl rfl h6 (lexg_g (I := inf) (J := jnf) none ⟨⟨_, rfl, ob0⟩, oi⟩ rfl rfl rfl rfl (lexg_g (I := inf) (J := jnf) (some .store) ⟨⟨_, rfl, ob0⟩, .inl rfl⟩ rfl rfl rfl rfl lexg_nil))))))) rfl (fun _ => ?_) (fun h => by cases h)
              refine rX rfl ?_
              refine runS_ret (I := inf) 0 rfl (Nat.le_refl _) rfl .nil rfl ⟨?_, rfl⟩
              rfl
end Go.Iron.Tryz

/- The pairs' seat: sums by parts, quotients. -/
namespace Go.Iron.Tryz
open Go.Proofs Go.RowKit Go.Iron.Tok Go.Iron.Dg

def pmV (op : UInt8) (t : Typ) (x y : Pr) : Except Int Pr :=
  match byV op t x.re y.re with
  | .error c => .error c
  | .ok re => match byV op t x.im y.im with
    | .error c => .error c
    | .ok im => .ok ⟨re, im⟩
def partV (op : UInt8) (t : Typ) (a1 a2 b1 b2 d : Vl) : Except Int Vl :=
  match byV 42 t a1 a2 with
  | .error c => .error c
  | .ok p => match byV 42 t b1 b2 with
    | .error c => .error c
    | .ok q => match byV op t p q with
      | .error c => .error c
      | .ok s => byV 47 t s d
def overV (t : Typ) (x y : Pr) : Except Int Pr :=
  match byV 42 t y.re y.re with
  | .error c => .error c
  | .ok p => match byV 42 t y.im y.im with
    | .error c => .error c
    | .ok q => match byV 43 t p q with
      | .error c => .error c
      | .ok d => if d.n = 0 then .error 9 else match partV 43 t x.re y.re x.im y.im d with
        | .error c => .error c
        | .ok re => match partV 45 t x.im y.re x.re y.im d with
          | .error c => .error c
          | .ok im => .ok ⟨re, im⟩
end Go.Iron.Tryz

/- The pairs' seat: steps that may stop, and what is told then. -/
namespace Go.Iron.Tryz
open Go.Proofs Go.RowKit Go.Iron.Tok Go.Iron.Dg

def zeroP (t : Typ) : Pr := ⟨(zeroV t).1, (zeroV t).1⟩
def safeV (t : Typ) : Except Int Pr → Pr × Int
  | .ok z => (z, 0)
  | .error c => (zeroP t, c)
theorem p_zero (t : Typ) : CallT Tryz.prog 98 [.agg (typE t)] [] (fun o A => o = .ret (.agg (prE (zeroP t))) ∧ A = []) := by
  have hz := d_Zero t
  unfold zeroP
  generalize zeroV t = z at *
  obtain ⟨⟨k, n, q, s⟩, e⟩ := z
  dsimp only at hz ⊢
  refine callS_body (n := 13) rfl rfl fun w ρ X => ?_
  refine rX rfl ?_
  refine runS_call rfl rfl rfl rfl rfl rfl rfl hz ?_
  refine rX rfl ?_
  refine runS_ret (I := inf) 0 rfl (Nat.le_refl _) rfl .nil rfl ⟨?_, rfl⟩
  rfl
theorem p_safe (t : Typ) (R : Except Int Pr) {g : FuncId} {caps : List AV} {gn : Func} {gc : Code} [Fun Tryz.prog g gn gc] (hc : AV.unders 0 caps = true) (hdo : CallT Tryz.prog g caps [] (fun o A => o = outP R ∧ A = [])) :
    CallT Tryz.prog 71 [.agg (typE t), .fn (.func g) caps] [] (fun o A => o = .ret (.tup [.agg (prE (safeV t R).1), iv (safeV t R).2]) ∧ A = []) := by
  have hz := p_zero t
  cases R with
  | error c =>
    refine callS_body (n := 9) rfl rfl fun w ρ X => ?_
    refine rX rfl ?_
    refine runS_callP rfl rfl rfl rfl rfl hc rfl hdo ?_
    refine runS_x (I := inf) (J := jnf) ⟨true, false, [141], 0, 0⟩ 9999 rfl ob1 ?_
    refine runS_drawG (ch := []) (A2 := fun _ => []) 6 [4, 5] (fun z => [.box 25 (typE t), .box 41 (cond (z.getD 0 false) (prE (zeroP t)) (prE pr0)), .box 3 [cond (z.getD 1 false) (iv c) (iv 0)], .box 121 [iv c]]) none (c := 9) jnfI.draw (by kernel_rfl) rfl (lexg_g (I := inf) (J := jnf) none ⟨⟨⟨_, rfl, ob0⟩, oi⟩, oj⟩ rfl rfl rfl rfl (lexg_call rfl rfl rfl rfl rfl rfl rfl rfl rfl hz (lexg_g (I := inf) (J := jnf) none ⟨⟨⟨_, rfl, ob0⟩, oi⟩, oj⟩ rfl rfl rfl rfl (lexg_g (I := inf) (J := jnf) none ⟨⟨⟨_, rfl, ob0⟩, oi⟩, oj⟩ rfl rfl rfl rfl (lexg_g (I := inf) (J := jnf) (some .store) ⟨⟨⟨_, rfl, ob0⟩, oi⟩, .inl rfl⟩ rfl rfl rfl rfl (lexg_g (I := inf) (J := jnf) (some .store) ⟨⟨⟨_, rfl, ob0⟩, .inl rfl⟩, (by first | exact .inl (by decide +kernel) | exact .inr ⟨⟨_, rfl, ob0⟩, .inl rfl⟩)⟩ rfl rfl rfl rfl lexg_nil)))))) rfl (fun _ => ?_) (fun h => by cases h)
    refine runS_x (I := inf) (J := jnf) ⟨true, false, [141], 0, 0⟩ 9999 rfl ob1 ?_
    refine runS_ret (I := inf) 0 rfl (Nat.le_refl _) rfl .nil rfl ⟨?_, rfl⟩
    rfl
  | ok z =>
    refine callS_body (n := 9) rfl rfl fun w ρ X => ?_
    refine rX rfl ?_
    refine runS_call rfl rfl rfl rfl rfl hc rfl hdo ?_
    refine runS_x (I := inf) (J := jnf) ⟨true, false, [141], 0, 0⟩ 9999 rfl ob1 ?_
    refine runS_ret (I := inf) 0 rfl (Nat.le_refl _) rfl .nil rfl ⟨?_, rfl⟩
    rfl
theorem p_mk {g : FuncId} {gn : Func} {gc : Code} [Fun Tryz.prog g gn gc] : CallT Tryz.prog 130 [.fn (.func g) []] [] (fun o A => o = .ret (.fn (.func 131) [.loc [.fn (.func g) []] 0]) ∧ A = []) := by
  refine callS_body (n := 4) rfl rfl fun w ρ X => ?_
  refine rX rfl ?_
  refine runS_freezeBox 0 rfl rfl rfl ?_
  refine rX rfl ?_
  refine runS_ret (I := inf) 0 rfl (Nat.le_refl _) rfl .nil rfl ⟨?_, rfl⟩
  rfl
theorem p_do1 (t : Typ) (x y : Pr) (R : Except Int Pr) {g : FuncId} {caps : List AV} {gn : Func} {gc : Code} [Fun Tryz.prog g gn gc] (hc : AV.unders 0 caps = true) (h : CallT Tryz.prog g (.agg (nuE t) :: .agg (prE x) :: .agg (prE y) :: caps) [] (fun o A => o = outP R ∧ A = [])) :
    CallT Tryz.prog 72 [.loc [.fn (.func g) caps] 0, .loc (nuE t) 0, .loc (prE x) 0, .loc (prE y) 0] [] (fun o A => o = outP R ∧ A = []) := by
  have u : AV.unders 0 (.agg (nuE t) :: .agg (prE x) :: .agg (prE y) :: caps) = true := by
    show AV.unders 0 caps = true
    exact hc
  cases R with
  | error c =>
    refine callS_body (n := 10) rfl rfl fun w ρ X => ?_
    refine rX rfl ?_
    refine runS_callP rfl rfl rfl rfl rfl u rfl h ?_
    refine rX rfl ?_
    exact runS_pan 0 rfl (Nat.le_refl _) rfl .nil ⟨rfl, rfl⟩
  | ok z =>
    refine callS_body (n := 10) rfl rfl fun w ρ X => ?_
    refine rX rfl ?_
    refine runS_call rfl rfl rfl rfl rfl u rfl h ?_
    refine rX rfl ?_
    refine runS_ret (I := inf) 0 rfl (Nat.le_refl _) rfl .nil rfl ⟨?_, rfl⟩
    rfl
end Go.Iron.Tryz

/- The pairs' seat: the program's Do. -/
namespace Go.Iron.Tryz
open Go.Proofs Go.RowKit Go.Iron.Tok Go.Iron.Dg

theorem p_Float (t : Typ) (hv : vN t) : CallT Tryz.prog 69 [.agg (typE t)] [] (fun o A => o = .ret (.tup [.agg (typE (fltT t)), iv 0]) ∧ A = []) := by
  have hf := p_float t (nt_of hv.1 hv.2)
  generalize fltT t = u at *
  refine callS_body (n := 8) rfl rfl fun w ρ X => ?_
  refine runS_x (I := inf) (J := jnf) ⟨false, false, [133, 135, 189, 190], 0, 0⟩ 9999 rfl ob1 ?_
  refine runS_tell 8 (tyR [t]) rfl (m' := 1) rfl (fun j hj => ?_) rfl ?_
  · rcases j with _ | j <;> first | rfl | omega
  refine runS_freeze 4 rfl rfl rfl (fun j hj => ?_) ?_
  · rcases j with _ | j <;> first | rfl | omega
  refine runS_call rfl rfl rfl rfl rfl rfl rfl (p_valid none [t] (by simp) (by intro a ha; simp at ha; rw [ha]; exact hv)) ?_
  refine runS_x (I := inf) (J := jnf) ⟨false, false, [133, 135, 189, 190], 0, 0⟩ 9999 rfl ob1 ?_
  refine runS_call rfl rfl rfl rfl rfl rfl rfl hf ?_
  refine runS_x (I := inf) (J := jnf) ⟨true, false, [133, 135, 189, 190], 0, 0⟩ 9999 rfl ob1 ?_
  refine runS_ret (I := inf) 0 rfl (Nat.le_refl _) rfl .nil rfl ⟨?_, rfl⟩
  rfl
def inT (op : UInt8) (t : Typ) : Typ := if op = 47 then fltT t else t
def opP (op : UInt8) (t : Typ) (x y : Pr) : Except Int Pr := if op = 43 ∨ op = 45 then pmV op t x y else if op = 42 then timesV t x y else overV t x y
abbrev doA (z : Pr) (t : Typ) (c e : Int) : AV := .tup [.agg (prE z), .agg (typE t), iv c, iv e]
theorem vn_flt {t : Typ} (h : vN t) : vN (fltT t) := by
  obtain ⟨hv, hk⟩ := h
  have hn := num_p hv hk
  unfold fltT
  split
  · rename_i h2
    refine ⟨?_, .inr (.inr rfl)⟩
    have := hn.2.2.2.2 (by omega)
    unfold validT inR
    simp
    omega
  · split
    · refine ⟨?_, .inr (.inr rfl)⟩
      unfold validT inR
      simp
      omega
    · exact ⟨hv, hk⟩
theorem p_do42 (x y : Pr) (ta tb : Typ) (ha : askP [x, y] [ta, tb] = 0) (hva : vN ta) (hvb : vN tb) : CallT Tryz.prog 23 [sv [42], .agg (prE x), .agg (prE y), .agg (typE ta), .agg (typE tb)] [] (fun o A => o = .ret (doA (safeV (resT 42 (inT 42 ta) (inT 42 tb)) (opP 42 (resT 42 (inT 42 ta) (inT 42 tb)) x y)).1 (resT 42 (inT 42 ta) (inT 42 tb)) (safeV (resT 42 (inT 42 ta) (inT 42 tb)) (opP 42 (resT 42 (inT 42 ta) (inT 42 tb)) x y)).2 0) ∧ A = []) := by
  have hak := p_asked none none [x, y] [ta, tb] (by simp) rfl
  rw [ha] at hak
  have hia : inT 42 ta = ta := rfl
  have hib : inT 42 tb = tb := rfl
  have hop : ∀ t, opP 42 t x y = timesV t x y := fun t => rfl
  rw [hia, hib, hop]
  have hra := p_result42 ta tb hva hvb
  generalize resT 42 ta tb = t at *
  have hR := p_safe t (timesV t x y) (g := 72) (caps := [.loc [.fn (.func 99) []] 0, .loc (nuE t) 0, .loc (prE x) 0, .loc (prE y) 0]) rfl (p_do1 t x y (timesV t x y) rfl (p_times t x y))
  generalize timesV t x y = R at *
  generalize safeV t R = S at *
  obtain ⟨z, c⟩ := S
  dsimp only at hR ⊢
  refine callS_body (n := 74) rfl rfl fun w ρ X => ?_
  refine rX rfl ?_
  refine runS_tell 6 (prR [x, y]) rfl (m' := 2) rfl (fun j hj => ?_) rfl ?_
  · rcases j with _ | _ | j <;> first | rfl | omega
  refine runS_tell 7 (tyR [ta, tb]) rfl (m' := 2) rfl (fun j hj => ?_) rfl ?_
  · rcases j with _ | _ | j <;> first | rfl | omega
  refine runS_freeze 24 rfl rfl rfl (fun j hj => ?_) ?_
  · rcases j with _ | _ | j <;> first | rfl | omega
  refine runS_freeze 27 rfl rfl rfl (fun j hj => ?_) ?_
  · rcases j with _ | _ | j <;> first | rfl | omega
  refine runS_call rfl rfl rfl rfl rfl rfl rfl hak ?_
  refine rX rfl ?_
  refine runS_cond rfl (fun h => by cases h) (fun h => ?_)
  refine runS_x (I := inf) (J := jnf) ⟨false, false, [68], 0, 0⟩ 9999 rfl ob1 ?_
  refine runS_call rfl rfl rfl rfl rfl rfl rfl (p_mk (g := 34)) ?_
  refine runS_x (I := inf) (J := jnf) ⟨false, false, [68], 0, 0⟩ 9999 rfl ob1 ?_
  refine runS_call rfl rfl rfl rfl rfl rfl rfl (p_mk (g := 35)) ?_
  refine runS_x (I := inf) (J := jnf) ⟨false, false, [68], 0, 0⟩ 9999 rfl ob1 ?_
  refine runS_cond rfl (fun h => by cases h) (fun h => ?_)
  refine rX rfl ?_
  refine runS_cond rfl (fun h => by rw [show (ByteArray.mk #[47]) = bs [47] from rfl, bs_beq] at h; cases h) (fun h => ?_)
  refine rX rfl ?_
  refine runS_call rfl rfl rfl rfl rfl rfl rfl hra ?_
  refine rX rfl ?_
  refine runS_freezeBox 9 rfl rfl rfl ?_
  refine runS_freezeBox 11 rfl rfl rfl ?_
  refine runS_freezeBox 0 rfl rfl rfl ?_
  refine runS_freezeBox 1 rfl rfl rfl ?_
  refine runS_name 8 rfl (fun L => rfl) (fun L hL => ?_)
  refine runS_call rfl rfl rfl rfl rfl rfl rfl hR ?_
  refine rX rfl ?_
  refine runS_drawG (ch := []) (A2 := fun _ => []) 7 [3, 4] (fun w => [.gone, .gone, .box 25 (typE ta), .box 25 (typE tb), .box 41 (cond (w.getD 0 false) (prE z) (prE pr0)), .box 25 (cond (w.getD 1 false) (typE t) (typE ty0)), .gone, .gone, L, .gone, .box 25 (typE t), .gone, .box 41 (prE z)]) none (c := 9) jnfI.draw (by kernel_rfl) rfl (lexg_g (I := inf) (J := jnf) none ⟨⟨⟨_, rfl, ob0⟩, oi⟩, oj⟩ rfl rfl rfl rfl (lexg_g (I := inf) (J := jnf) none ⟨⟨⟨_, rfl, ob0⟩, oi⟩, oj⟩ rfl rfl rfl rfl (lexg_g (I := inf) (J := jnf) none ⟨⟨⟨_, rfl, ob0⟩, oi⟩, oj⟩ rfl rfl rfl rfl (lexg_g (I := inf) (J := jnf) (some .store) ⟨⟨⟨_, rfl, ob0⟩, oi⟩, .inl rfl⟩ rfl rfl rfl rfl (lexg_g (I := inf) (J := jnf) (some .store) ⟨⟨⟨_, rfl, ob0⟩, .inl rfl⟩, (by first | exact .inl (by decide +kernel) | exact .inr ⟨⟨_, rfl, ob0⟩, .inl rfl⟩)⟩ rfl rfl rfl rfl (lexg_g (I := inf) (J := jnf) none ⟨⟨⟨_, rfl, ob0⟩, oi⟩, oj⟩ rfl rfl rfl rfl (lexg_g (I := inf) (J := jnf) none ⟨⟨⟨_, rfl, ob0⟩, oi⟩, oj⟩ rfl rfl rfl rfl lexg_nil))))))) rfl (fun _ => ?_) (fun h => by cases h)
  refine rX rfl ?_
  refine runS_ret (I := inf) 0 rfl (Nat.le_refl _) rfl .nil rfl ⟨?_, rfl⟩
  rfl
end Go.Iron.Tryz

/- The pairs' seat: the reference's types of results. -/
namespace Go.Iron.Tryz
open Go.Proofs Go.RowKit Go.Iron.Tok Go.Iron.Dg

theorem flt_plain {t : Typ} (hv : vN t) : fltT t = if t.kind = 1 then ⟨3, min 15 ((3 * t.p + 9) / 10), 0, 0, false, []⟩ else ⟨3, t.p, 0, 0, false, []⟩ := by
  obtain ⟨k, p, q, n, vr, pc⟩ := t
  obtain ⟨hv, hk⟩ := hv
  dsimp only at hk
  unfold fltT
  dsimp only
  rcases hk with rfl | rfl | rfl
  · rfl
  · rfl
  · unfold validT at hv
    simp at hv
    obtain ⟨⟨⟨⟨_, h1⟩, h2⟩, h3⟩, h4⟩ := hv
    rw [if_neg (by decide), if_neg (by decide), if_neg (by decide), h1, h2, h3, h4]
theorem r_floatT (t : Typ) (hv : vN t) : CallT Tryz.prog 143 [.agg (typE t)] [] (fun o A => o = .ret (.agg (typE (fltT t))) ∧ A = []) := by
  rw [flt_plain hv]
  obtain ⟨hk, p1, p2, q1, q2⟩ := nt_of hv.1 hv.2
  obtain ⟨k, p, q, n, vr, pc⟩ := t
  dsimp only at hk p1 p2 q1 q2 ⊢
  have hw : (if IntKind.wrap .i64 ((IntKind.wrap .i64 (IntKind.wrap .i64 (3 * p) + 9)).tdiv 10) < 15 then IntKind.wrap .i64 ((IntKind.wrap .i64 (IntKind.wrap .i64 (3 * p) + 9)).tdiv 10) else 15) = min 15 ((3 * p + 9) / 10) := by
    rw [w64 (x := 3 * p) (by omega) (by omega), w64 (x := 3 * p + 9) (by omega) (by omega), tdivI (by omega) (by omega), w64 (by omega) (by omega), minI]
  refine callS_body (n := 16) rfl rfl fun w ρ X => ?_
  refine rX rfl ?_
  refine runS_cond rfl (fun h => ?_) (fun h => ?_)
  · have h1 : k = 1 := by simpa using (show (k == 1) = true from h)
    rw [if_pos h1]
    refine rX rfl ?_
    refine runS_ret (I := inf) 0 rfl (Nat.le_refl _) rfl .nil rfl ⟨?_, rfl⟩
    exact congrArg (fun z => Out.ret (.agg [iv 3, iv z, iv 0, iv 0, bv false, sv []])) hw
  · have h1 : ¬ k = 1 := by simpa using (show (k == 1) = false from h)
    rw [if_neg h1]
    refine rX rfl ?_
    refine runS_ret (I := inf) 0 rfl (Nat.le_refl _) rfl .nil rfl ⟨?_, rfl⟩
    rfl
theorem r_bin (t : Typ) (h : NT t) : CallT Tryz.prog 196 [.agg (typE t)] [] (fun o A => o = .ret (.agg (typE (binT t))) ∧ A = []) := by
  obtain ⟨hk, p1, p2, q1, q2⟩ := h
  obtain ⟨k, p, q, n, vr, pc⟩ := t
  dsimp only at hk p1 p2 q1 q2
  unfold binT
  dsimp only
  refine callS_body (n := 21) rfl rfl fun w ρ X => ?_
  refine rX rfl ?_
  refine runS_cond rfl (fun h => ?_) (fun h => ?_)
  · have h1 : k = 1 := by simpa using (show (k == 1) = true from h)
    rw [if_pos h1]
    refine rX rfl ?_
    refine runS_ret (I := inf) 0 rfl (Nat.le_refl _) rfl .nil rfl ⟨?_, rfl⟩
    rfl
  · have h1 : ¬ k = 1 := by simpa using (show (k == 1) = false from h)
    rw [if_neg h1]
    have e1 : IntKind.wrap .i64 (IntKind.wrap .i64 (10 * p) + 2) = 10 * p + 2 := by rw [w64 (x := 10 * p) (by omega) (by omega), w64 (by omega) (by omega)]
    have e2 : IntKind.wrap .i64 (IntKind.wrap .i64 (10 * q) + 2) = 10 * q + 2 := by rw [w64 (x := 10 * q) (by omega) (by omega), w64 (by omega) (by omega)]
    have e3 : IntKind.wrap .i64 ((10 * p + 2).tdiv 3) = (10 * p + 2) / 3 := by rw [tdivI (by omega) (by omega), w64 (by omega) (by omega)]
    have e4 : IntKind.wrap .i64 ((10 * q + 2).tdiv 3) = (10 * q + 2) / 3 := by rw [tdivI (by omega) (by omega), w64 (by omega) (by omega)]
    have e5 : IntKind.wrap .i64 ((10 * p + 2) / 3 + 1) = (10 * p + 2) / 3 + 1 := w64 (by omega) (by omega)
    refine rX rfl ?_
    refine runS_ret (I := inf) 0 rfl (Nat.le_refl _) rfl .nil rfl ⟨?_, rfl⟩
    refine congrArg Out.ret (congrArg AV.agg ?_)
    show [iv 1, iv (if IntKind.wrap .i64 (IntKind.wrap .i64 ((IntKind.wrap .i64 (IntKind.wrap .i64 (10 * p) + 2)).tdiv 3) + 1) < 31 then IntKind.wrap .i64 (IntKind.wrap .i64 ((IntKind.wrap .i64 (IntKind.wrap .i64 (10 * p) + 2)).tdiv 3) + 1) else 31), iv (if IntKind.wrap .i64 ((IntKind.wrap .i64 (IntKind.wrap .i64 (10 * q) + 2)).tdiv 3) < 31 then IntKind.wrap .i64 ((IntKind.wrap .i64 (IntKind.wrap .i64 (10 * q) + 2)).tdiv 3) else 31), iv 0, bv false, sv []] = _
    rw [e1, e2, e3, e4, e5, minI, minI]
def limT (t : Typ) : Int := if t.kind = 1 then 31 else 15
theorem r_limit (t : Typ) : CallT Tryz.prog 146 [.agg (typE t)] [] (fun o A => o = .ret (iv (limT t)) ∧ A = []) := by
  unfold limT
  refine callS_body (n := 6) rfl rfl fun w ρ X => ?_
  refine rX rfl ?_
  refine runS_cond rfl (fun h => ?_) (fun h => ?_)
  · have h1 : t.kind = 1 := by simpa using (show (t.kind == 1) = true from h)
    rw [if_pos h1]
    refine rX rfl ?_
    refine runS_ret (I := inf) 0 rfl (Nat.le_refl _) rfl .nil rfl ⟨?_, rfl⟩
    rfl
  · have h1 : ¬ t.kind = 1 := by simpa using (show (t.kind == 1) = false from h)
    rw [if_neg h1]
    refine rX rfl ?_
    refine runS_ret (I := inf) 0 rfl (Nat.le_refl _) rfl .nil rfl ⟨?_, rfl⟩
    rfl
theorem bin_kind (a : Typ) : (binT a).kind = 1 := by
  unfold binT
  split
  · assumption
  · rfl
theorem tog_lim (a b : Typ) : ∀ z : Typ × Typ × Int, togT a b = z → z.1.kind ≠ 3 → (a.kind = 1 ∨ a.kind = 2 ∨ a.kind = 3) → (b.kind = 1 ∨ b.kind = 2 ∨ b.kind = 3) → limT z.1 = z.2.2 := by
  intro z hz h3 ha hb
  subst hz
  unfold togT at h3 ⊢
  split
  · rename_i h
    rw [if_pos h] at h3
    exfalso
    apply h3
    show (fltT a).kind = 3
    unfold fltT
    rcases ha with h | h | h
    · rw [if_neg (by rw [h]; decide), if_pos h]
    · rw [if_pos h]
    · rw [if_neg (by rw [h]; decide), if_neg (by rw [h]; decide)]; exact h
  · rename_i h
    split
    · show limT (binT a) = 31
      unfold limT
      rw [if_pos (bin_kind a)]
    · rename_i h1
      show limT a = 15
      unfold limT
      rw [if_neg (fun e => h1 (.inl e))]
theorem r_brought (a b : Typ) (ha : vN a) (hb : vN b) : CallT Tryz.prog 144 [.agg (typE a), .agg (typE b)] [] (fun o A => o = .ret (.tup [.agg (typE (togT a b).1), .agg (typE (togT a b).2.1)]) ∧ A = []) := by
  have na := nt_of ha.1 ha.2
  have nb := nt_of hb.1 hb.2
  unfold togT
  refine callS_body (n := 34) rfl rfl fun w ρ X => ?_
  refine rX rfl ?_
  refine runS_cond rfl (fun h => ?_) (fun h => ?_)
  · have h3 : a.kind = 3 ∨ b.kind = 3 := by
      have h' : (if (a.kind == 3) = true then true else b.kind == 3) = true := h
      by_cases e : a.kind = 3
      · exact .inl e
      · rw [if_neg (by simpa using e)] at h'
        exact .inr (by simpa using h')
    rw [if_pos h3]
    refine rX rfl ?_
    refine runS_draw 3 (by kernel_rfl) (lexj_x (I := inf) (J := jnf) 99 rfl rfl ob0 (lexj_call rfl rfl rfl rfl rfl rfl rfl rfl (r_floatT a ha) (lexj_x (I := inf) (J := jnf) 99 rfl rfl ob0 lexj_nil))) ?_
    refine runS_call rfl rfl rfl rfl rfl rfl rfl (r_floatT b hb) ?_
    refine rX rfl ?_
    refine runS_ret (I := inf) 0 rfl (Nat.le_refl _) rfl .nil rfl ⟨?_, rfl⟩
    rfl
  · have h3 : ¬ (a.kind = 3 ∨ b.kind = 3) := by
      have h' : (if (a.kind == 3) = true then true else b.kind == 3) = false := h
      by_cases e : a.kind = 3
      · rw [if_pos (by simpa using e)] at h'
        cases h'
      · rw [if_neg (by simpa using e)] at h'
        rintro (h | h)
        · exact e h
        · exact absurd h (by simpa using h')
    rw [if_neg h3]
    refine rX rfl ?_
    refine runS_cond rfl (fun h => ?_) (fun h => ?_)
    · have h1 : a.kind = 1 ∨ b.kind = 1 := by
        have h' : (if (a.kind == 1) = true then true else b.kind == 1) = true := h
        by_cases e : a.kind = 1
        · exact .inl e
        · rw [if_neg (by simpa using e)] at h'
          exact .inr (by simpa using h')
      rw [if_pos h1]
      refine rX rfl ?_
      refine runS_draw 3 (by kernel_rfl) (lexj_x (I := inf) (J := jnf) 99 rfl rfl ob0 (lexj_call rfl rfl rfl rfl rfl rfl rfl rfl (r_bin a na) (lexj_x (I := inf) (J := jnf) 99 rfl rfl ob0 lexj_nil))) ?_
      refine runS_call rfl rfl rfl rfl rfl rfl rfl (r_bin b nb) ?_
      refine rX rfl ?_
      refine runS_ret (I := inf) 0 rfl (Nat.le_refl _) rfl .nil rfl ⟨?_, rfl⟩
      rfl
    · have h1 : ¬ (a.kind = 1 ∨ b.kind = 1) := by
        have h' : (if (a.kind == 1) = true then true else b.kind == 1) = false := h
        by_cases e : a.kind = 1
        · rw [if_pos (by simpa using e)] at h'
          cases h'
        · rw [if_neg (by simpa using e)] at h'
          rintro (h | h)
          · exact e h
          · exact absurd h (by simpa using h')
      rw [if_neg h1]
      refine rX rfl ?_
      refine runS_drawG (ch := []) (A2 := fun _ => []) 4 [2, 3] (fun z => [.box 25 (typE a), .box 25 (typE b), .box 25 (cond (z.getD 0 false) (typE a) (typE ty0)), .box 25 (cond (z.getD 1 false) (typE b) (typE ty0))]) none (c := 9) jnfI.draw (by kernel_rfl) rfl (lexg_g (I := inf) (J := jnf) none ⟨⟨⟨_, rfl, ob0⟩, oi⟩, oj⟩ rfl rfl rfl rfl (lexg_g (I := inf) (J := jnf) none ⟨⟨⟨_, rfl, ob0⟩, oi⟩, oj⟩ rfl rfl rfl rfl (lexg_g (I := inf) (J := jnf) (some .store) ⟨⟨⟨_, rfl, ob0⟩, oi⟩, .inl rfl⟩ rfl rfl rfl rfl (lexg_g (I := inf) (J := jnf) (some .store) ⟨⟨⟨_, rfl, ob0⟩, .inl rfl⟩, (by first | exact .inl (by decide +kernel) | exact .inr ⟨⟨_, rfl, ob0⟩, .inl rfl⟩)⟩ rfl rfl rfl rfl lexg_nil)))) rfl (fun _ => ?_) (fun h => by cases h)
      refine rX rfl ?_
      refine runS_ret (I := inf) 0 rfl (Nat.le_refl _) rfl .nil rfl ⟨?_, rfl⟩
      rfl
theorem r_asked2 (n1 : Option Bool) (ts : List Typ) (hl : ts.length ≤ 100000) (hv : ∀ t ∈ ts, vN t) : CallT Tryz.prog 142 [tyS n1 ts] [] (fun o A => o = .ret (iv 0) ∧ A = []) := by
  refine callS_body (n := 30) rfl rfl fun w ρ X => ?_
  refine rX rfl ?_
  refine runS_while (fun (i : Nat) τ ar => (τ 0 = tyS n1 ts ∧ τ 3 = iv i) ∧ ar = [] ∧ i ≤ ts.length) (fun i => ts.length - i) 0 ⟨⟨rfl, rfl⟩, rfl, Nat.zero_le _⟩ ?_
  rintro i τ' ar' ⟨⟨g0, g3⟩, rfl, hi⟩ ih
  refine runS_says 0 (by exact g0) (Says.refl _) ?_; refine runS_says 3 (by exact g3) (Says.refl _) ?_
  refine rX rfl ?_
  refine runS_cond rfl (fun h => ?_) (fun h => ?_)
  · have hlt : i < ts.length := by simp at h; omega
    have hw1 : IntKind.wrap .i64 ((i : Int) + 1) = ((i + 1 : Nat) : Int) := by rw [w64 (by omega) (by omega)]; rfl
    have hvt := (hv _ (List.getElem_mem hlt)).1
    have hd := r_valid (ts.getD i ty0)
    rw [ty_get hlt, hvt, ← ty_get hlt] at hd
    refine runS_x (I := inf) (J := jnf) ⟨false, false, [], 0, 0⟩ 9999 rfl (by repeat (first | exact obs_nil | refine obs_draw (by kernel_rfl) ?_ | refine obs_same ?_ | refine obs_and ?_ | refine obs_by (by (simp [inB, hlt] <;> omega)) ?_)) ?_
    refine runS_call rfl rfl rfl rfl rfl rfl rfl hd ?_
    refine rX rfl ?_
    refine runS_cond rfl (fun h => by cases h) (fun h => ?_)
    refine rX rfl ?_
    exact ih (i + 1) _ _ (by omega) ⟨⟨rfl, congrArg iv hw1⟩, rfl, by omega⟩
  · clear ih hi g0 g3 h
    refine rX rfl ?_
    refine runS_while (fun (i : Nat) τ ar => (τ 0 = tyS n1 ts ∧ τ 4 = iv i) ∧ ar = [] ∧ i ≤ ts.length) (fun i => ts.length - i) 0 ⟨⟨rfl, rfl⟩, rfl, Nat.zero_le _⟩ ?_
    rintro i τ' ar' ⟨⟨g0, g3⟩, rfl, hi⟩ ih
    refine runS_says 0 (by exact g0) (Says.refl _) ?_; refine runS_says 4 (by exact g3) (Says.refl _) ?_
    refine rX rfl ?_
    refine runS_cond rfl (fun h => ?_) (fun h => ?_)
    · have hlt : i < ts.length := by simp at h; omega
      have hw1 : IntKind.wrap .i64 ((i : Int) + 1) = ((i + 1 : Nat) : Int) := by rw [w64 (by omega) (by omega)]; rfl
      have hvt := (hv _ (List.getElem_mem hlt)).2
      have hk : (decide (1 ≤ ts[i].kind) && decide (ts[i].kind ≤ 3)) = true := by simp; omega
      have hd := r_numeric (ts.getD i ty0).kind
      rw [ty_get hlt, hk, ← ty_get hlt] at hd
      refine runS_x (I := inf) (J := jnf) ⟨false, false, [], 0, 0⟩ 9999 rfl (by repeat (first | exact obs_nil | refine obs_draw (by kernel_rfl) ?_ | refine obs_same ?_ | refine obs_and ?_ | refine obs_by (by (simp [inB, hlt] <;> omega)) ?_)) ?_
      refine runS_call rfl rfl rfl rfl rfl rfl rfl hd ?_
      refine rX rfl ?_
      refine runS_cond rfl (fun h => by cases h) (fun h => ?_)
      refine rX rfl ?_
      exact ih (i + 1) _ _ (by omega) ⟨⟨rfl, congrArg iv hw1⟩, rfl, by omega⟩
    · refine rX rfl ?_
      refine runS_ret (I := inf) 0 rfl (Nat.le_refl _) rfl .nil rfl ⟨?_, rfl⟩
      rfl
end Go.Iron.Tryz

/- The pairs' seat: the reference's Float and Result. -/
namespace Go.Iron.Tryz
open Go.Proofs Go.RowKit Go.Iron.Tok Go.Iron.Dg

theorem r_Float (t : Typ) (hv : vN t) : CallT Tryz.prog 74 [.agg (typE t)] [] (fun o A => o = .ret (.tup [.agg (typE (fltT t)), iv 0]) ∧ A = []) := by
  have hf := r_floatT t hv
  generalize fltT t = u at *
  refine callS_body (n := 14) rfl rfl fun w ρ X => ?_
  refine rX rfl ?_
  refine runS_tell 2 (tyR [t]) rfl (m' := 1) rfl (fun j hj => ?_) rfl ?_
  · rcases j with _ | j <;> first | rfl | omega
  refine runS_freeze 6 rfl rfl rfl (fun j hj => ?_) ?_
  · rcases j with _ | j <;> first | rfl | omega
  refine runS_call rfl rfl rfl rfl rfl rfl rfl (r_asked2 none [t] (by simp) (by intro a ha; simp at ha; rw [ha]; exact hv)) ?_
  refine rX rfl ?_
  refine runS_cond rfl (fun h => by cases h) (fun h => ?_)
  refine rX rfl ?_
  refine runS_call rfl rfl rfl rfl rfl rfl rfl hf ?_
  refine rX rfl ?_
  refine runS_ret (I := inf) 0 rfl (Nat.le_refl _) rfl .nil rfl ⟨?_, rfl⟩
  rfl
theorem r_Result42 (a b : Typ) (ha : vN a) (hb : vN b) : CallT Tryz.prog 75 [sv [42], .agg (typE a), .agg (typE b)] [] (fun o A => o = .ret (.tup [.agg (typE (resT 42 a b)), iv 0]) ∧ A = []) := by
  have na := nt_of ha.1 ha.2
  have nb := nt_of hb.1 hb.2
  obtain ⟨nx, ny, hm, hr⟩ := tog_ok na nb (op := 42)
  have hlim := tog_lim a b _ rfl
  have ht := r_brought a b ha hb
  unfold resT
  generalize togT a b = z at *
  obtain ⟨x, y, m⟩ := z
  dsimp only at *
  refine callS_body (n := 95) rfl rfl fun w ρ X => ?_
  refine rX rfl ?_
  refine runS_tell 3 (tyR [a, b]) rfl (m' := 2) rfl (fun j hj => ?_) rfl ?_
  · rcases j with _ | _ | j <;> first | rfl | omega
  refine runS_freeze 13 rfl rfl rfl (fun j hj => ?_) ?_
  · rcases j with _ | _ | j <;> first | rfl | omega
  refine runS_call rfl rfl rfl rfl rfl rfl rfl (r_asked2 none [a, b] (by simp) (by intro t ht; simp at ht; rcases ht with rfl | rfl; exact ha; exact hb)) ?_
  refine rX rfl ?_
  refine runS_cond rfl (fun h => by cases h) (fun h => ?_)
  refine rX rfl ?_
  refine runS_call rfl rfl rfl rfl rfl rfl rfl ht ?_
  refine rX rfl ?_
  refine runS_cond rfl (fun h => by rw [show (ByteArray.mk #[43]) = bs [43] from rfl, bs_beq] at h; cases h) (fun h => ?_)
  refine rX rfl ?_
  refine runS_cond rfl (fun h => by rw [show (ByteArray.mk #[45]) = bs [45] from rfl, bs_beq] at h; cases h) (fun h => ?_)
  refine rX rfl ?_
  refine runS_cond rfl (fun h => by rw [show (ByteArray.mk #[42,42]) = bs [42,42] from rfl, bs_beq] at h; cases h) (fun h => ?_)
  refine rX rfl ?_
  refine runS_cond rfl (fun h => ?_) (fun h => by rw [show (ByteArray.mk #[42]) = bs [42] from rfl, bs_beq] at h; cases h)
  refine rX rfl ?_
  refine runS_cond rfl (fun h => ?_) (fun h => by rw [show (ByteArray.mk #[42]) = bs [42] from rfl, bs_beq] at h; cases h)
  refine rX rfl ?_
  refine runS_cond rfl (fun h => ?_) (fun h => ?_)
  · have h3 : x.kind = 3 := by simpa using (show (x.kind == 3) = true from h)
    unfold fixT
    rw [if_pos h3]
    refine rX rfl ?_
    refine runS_ret (I := inf) 0 rfl (Nat.le_refl _) rfl .nil rfl ⟨?_, rfl⟩
    refine congrArg (fun z => Out.ret (.tup [.agg [iv 3, iv z, iv 0, iv 0, bv false, sv []], iv 0])) ?_
    exact maxI x.p y.p
  · have h3 : ¬ x.kind = 3 := by simpa using (show (x.kind == 3) = false from h)
    have hl := hlim h3 ha.2 hb.2
    have hli := r_limit x
    rw [hl] at hli
    unfold fixT
    rw [if_neg h3, hr]
    dsimp only
    obtain ⟨_, p1, p2, q1, q2⟩ := nx
    obtain ⟨_, p3, p4, q3, q4⟩ := ny
    obtain ⟨ak, ap, aq, an, avr, ac⟩ := x
    obtain ⟨bk, bp, bq, bn, bvr, bc⟩ := y
    dsimp only at p1 p2 q1 q2 p3 p4 q3 q4
    refine rX rfl ?_
    refine runS_cond rfl (fun h => ?_) (fun h => by rw [show (ByteArray.mk #[42]) = bs [42] from rfl, bs_beq] at h; cases h)
    refine rX rfl ?_
    have hP : (if IntKind.wrap .i64 (IntKind.wrap .i64 (ap + bp) + 1) < m then IntKind.wrap .i64 (IntKind.wrap .i64 (ap + bp) + 1) else m) = min m (ap + bp + 1) := by rw [w64 (x := ap + bp) (by omega) (by omega), w64 (x := ap + bp + 1) (by omega) (by omega), minI]
    have hQ : (if IntKind.wrap .i64 (aq + bq) < 31 then IntKind.wrap .i64 (aq + bq) else 31) = min 31 (aq + bq) := by rw [w64 (x := aq + bq) (by omega) (by omega), minI]
    show RunS _ _ _ _ _ (fun o A => o = .ret (.tup [.agg [iv ak, iv (min m (ap + bp + 1)), iv (min 31 (aq + bq)), iv 0, bv false, sv []], iv 0]) ∧ A = [])
    rw [← hP, ← hQ]
    refine runS_drawG (ch := []) (A2 := fun _ => []) 20 [18] (fun z => [.box 25 (typE a), .box 25 (typE b), .box 25 (cond (z.getD 0 false) [iv ak, iv (if IntKind.wrap .i64 (IntKind.wrap .i64 (ap + bp) + 1) < m then IntKind.wrap .i64 (IntKind.wrap .i64 (ap + bp) + 1) else m), iv (if IntKind.wrap .i64 (aq + bq) < 31 then IntKind.wrap .i64 (aq + bq) else 31), iv 0, bv false, sv []] (typE ty0)), .gone, .box 25 [iv ak, iv ap, iv aq, iv an, bv avr, sv ac], .box 25 [iv bk, iv bp, iv bq, iv bn, bv bvr, sv bc]]) none (c := 9) jnfI.draw (by kernel_rfl) rfl (lexg_g (I := inf) (J := jnf) none ⟨⟨_, rfl, ob0⟩, oi⟩ rfl rfl rfl rfl (lexg_g (I := inf) (J := jnf) none ⟨⟨_, rfl, ob0⟩, oi⟩ rfl rfl rfl rfl (lexg_g (I := inf) (J := jnf) none ⟨⟨_, rfl, ob0⟩, oi⟩ rfl rfl rfl rfl (lexg_call rfl rfl rfl rfl rfl rfl rfl rfl rfl hli (lexg_g (I := inf) (J := jnf) none ⟨⟨_, rfl, ob0⟩, oi⟩ rfl rfl rfl rfl (lexg_g (I := inf) (J := jnf) none ⟨⟨_, rfl, ob0⟩, oi⟩ rfl rfl rfl rfl (lexg_g (I := inf) (J := jnf) none ⟨⟨_, rfl, ob0⟩, oi⟩ rfl rfl rfl rfl (lexg_g (I := inf) (J := jnf) none ⟨⟨_, rfl, ob0⟩, oi⟩ rfl rfl rfl rfl (lexg_g (I := inf) (J := jnf) none ⟨⟨_, rfl, ob0⟩, oi⟩ rfl rfl rfl rfl (lexg_g (I := inf) (J := jnf) none ⟨⟨_, rfl, ob0⟩, oi⟩ rfl rfl rfl rfl (lexg_g (I := inf) (J := jnf) none ⟨⟨_, rfl, ob0⟩, oi⟩ rfl rfl rfl rfl (lexg_g (I := inf) (J := jnf) none ⟨⟨_, rfl, ob0⟩, oi⟩ rfl rfl rfl rfl (lexg_g (I := inf) (J := jnf) none ⟨⟨_, rfl, ob0⟩, oi⟩ rfl rfl rfl rfl (lexg_g (I := inf) (J := jnf) none ⟨⟨_, rfl, ob0⟩, oi⟩ rfl rfl rfl rfl (lexg_g (I := inf) (J := jnf) none ⟨⟨_, rfl, ob0⟩, oi⟩ rfl rfl rfl rfl (lexg_g (I := inf) (J := jnf) none ⟨⟨_, rfl, ob0⟩, oi⟩ rfl rfl rfl rfl (lexg_g (I := inf) (J := jnf) none ⟨⟨_, rfl, ob0⟩, oi⟩ rfl rfl rfl rfl (lexg_g (I := inf) (J := jnf) none ⟨⟨_, rfl, ob0⟩, oi⟩ rfl rfl rfl rfl (lexg_g (I := inf) (J := jnf) (some .store) ⟨⟨_, rfl, ob0⟩, .inl rfl⟩ rfl rfl rfl rfl (lexg_g (I := inf) (J := jnf) none ⟨⟨_, rfl, ob0⟩, oi⟩ rfl rfl rfl rfl lexg_nil)))))))))))))))))))) rfl (fun _ => ?_) (fun h => by cases h)
    refine rX rfl ?_
    refine runS_ret (I := inf) 0 rfl (Nat.le_refl _) rfl .nil rfl ⟨?_, rfl⟩
    rfl
end Go.Iron.Tryz

/- The pairs' seat: what the reference asks of pairs with their types. -/
namespace Go.Iron.Tryz
open Go.Proofs Go.RowKit Go.Iron.Tok Go.Iron.Dg

theorem no2 {a b : Bool} (h : (if (!a) = true then true else !b) = true) : (a && b) = false := by
  cases a <;> cases b <;> first | rfl | cases h
theorem yes2 {a b : Bool} (h : (if (!a) = true then true else !b) = false) : (a && b) = true := by
  cases a <;> cases b <;> first | rfl | cases h
theorem has_kind {t : Typ} {v : Vl} (h : hasB t v = true) : t.kind = v.kind := by
  unfold hasB at h
  simp at h
  exact h.1.2
theorem r_askedP (n1 n2 : Option Bool) (l : List Pr) (ts : List Typ) (hl : l.length ≤ 100000) (hts : ts.length = l.length) : CallT Tryz.prog 73 [prS n1 l, tyS n2 ts] [] (fun o A => o = .ret (iv (askP l ts)) ∧ A = []) := by
  refine callS_body (n := 102) rfl rfl fun w ρ X => ?_
  refine rX rfl ?_
  refine runS_while (fun (i : Nat) τ ar => (τ 0 = prS n1 l ∧ τ 1 = tyS n2 ts ∧ τ 5 = iv i) ∧ ar = [] ∧ i ≤ l.length ∧ (l.take i).all pRight = true) (fun i => l.length - i) 0 ⟨⟨rfl, rfl, rfl⟩, rfl, Nat.zero_le _, rfl⟩ ?_
  rintro i τ' ar' ⟨⟨g0, g1, g5⟩, rfl, hi, ha⟩ ih
  refine runS_says 0 (by exact g0) (Says.refl _) ?_; refine runS_says 1 (by exact g1) (Says.refl _) ?_; refine runS_says 5 (by exact g5) (Says.refl _) ?_
  refine rX rfl ?_
  refine runS_cond rfl (fun h => ?_) (fun h => ?_)
  · have hlt : i < l.length := by simp at h; omega
    have hw1 : IntKind.wrap .i64 ((i : Int) + 1) = ((i + 1 : Nat) : Int) := by rw [w64 (by omega) (by omega)]; rfl
    have hv := pr_get hlt
    have c1 := r_right (l.getD i pr0).re.kind (l.getD i pr0).re.n (l.getD i pr0).re.q (l.getD i pr0).re.s
    have c2 := r_right (l.getD i pr0).im.kind (l.getD i pr0).im.n (l.getD i pr0).im.q (l.getD i pr0).im.s
    refine runS_x (I := inf) (J := jnf) ⟨false, false, [], 0, 0⟩ 9999 rfl (by repeat (first | exact obs_nil | refine obs_draw (by kernel_rfl) ?_ | refine obs_same ?_ | refine obs_and ?_ | refine obs_by (by (simp [inB, hlt] <;> omega)) ?_)) ?_
    refine runS_call rfl rfl rfl rfl rfl rfl rfl c1 ?_
    refine runS_x (I := inf) (J := jnf) ⟨false, false, [], 0, 0⟩ 9999 rfl (by repeat (first | exact obs_nil | refine obs_draw (by kernel_rfl) ?_ | refine obs_same ?_ | refine obs_and ?_ | refine obs_by (by (simp [inB, hlt] <;> omega)) ?_)) ?_
    refine runS_callU rfl rfl (by first | exact .v rfl rfl rfl rfl | exact .o rfl rfl rfl rfl) rfl rfl (by repeat (first | exact .nil | refine .cons (.n rfl) ?_ | refine .cons .o ?_ | refine .cons gok_and ?_)) rfl rfl rfl rfl rfl (fun _ => c2) ?_
    refine rX rfl ?_
    refine runS_cond rfl (fun h2 => ?_) (fun h2 => ?_)
    · have h3 : (if (!(l.getD i pr0).re.right) = true then true else !(l.getD i pr0).im.right) = true := h2
      have hE : askP l ts = 1 := by
        unfold askP
        rw [if_pos]
        rw [List.all_eq_false]
        exact ⟨_, List.getElem_mem hlt, by rw [← hv]; unfold pRight; rw [no2 h3]; decide⟩
      rw [hE]
      refine rX rfl ?_
      refine runS_ret (I := inf) 0 rfl (Nat.le_refl _) rfl .nil rfl ⟨?_, rfl⟩
      rfl
    · have h3 : (if (!(l.getD i pr0).re.right) = true then true else !(l.getD i pr0).im.right) = false := h2
      refine rX rfl ?_
      exact ih (i + 1) _ _ (by omega) ⟨⟨rfl, rfl, congrArg iv hw1⟩, rfl, by omega, all_take ha hlt (by rw [← hv]; exact yes2 h3)⟩
  · have hie : i = l.length := by simp at h; omega
    subst hie
    rw [List.take_length] at ha
    clear ih hi g0 g1 g5 h
    refine rX rfl ?_
    refine runS_while (fun (i : Nat) τ ar => (τ 0 = prS n1 l ∧ τ 1 = tyS n2 ts ∧ τ 6 = iv i) ∧ ar = [] ∧ i ≤ ts.length) (fun i => ts.length - i) 0 ⟨⟨rfl, rfl, rfl⟩, rfl, Nat.zero_le _⟩ ?_
    rintro i τ2 ar2 ⟨⟨g0, g1, g6⟩, rfl, hi⟩ ih
    refine runS_says 0 (by exact g0) (Says.refl _) ?_; refine runS_says 1 (by exact g1) (Says.refl _) ?_; refine runS_says 6 (by exact g6) (Says.refl _) ?_
    refine rX rfl ?_
    refine runS_cond rfl (fun h => ?_) (fun h => ?_)
    · have hlt : i < ts.length := by simp at h; omega
      have hw1 : IntKind.wrap .i64 ((i : Int) + 1) = ((i + 1 : Nat) : Int) := by rw [w64 (by omega) (by omega)]; rfl
      refine runS_x (I := inf) (J := jnf) ⟨false, false, [], 0, 0⟩ 9999 rfl (by repeat (first | exact obs_nil | refine obs_draw (by kernel_rfl) ?_ | refine obs_same ?_ | refine obs_and ?_ | refine obs_by (by (simp [inB, hlt] <;> omega)) ?_)) ?_
      refine runS_call rfl rfl rfl rfl rfl rfl rfl (r_valid (ts.getD i ty0)) ?_
      refine rX rfl ?_
      refine runS_cond rfl (fun h2 => ?_) (fun h2 => ?_)
      · have h3 : (!validT (ts.getD i ty0)) = true := h2
        have hE : askP l ts = 13 := by
          unfold askP
          rw [if_neg (by rw [ha]; decide), if_pos]
          rw [List.all_eq_false]
          refine ⟨i, List.mem_range.2 (by omega), ?_⟩
          rw [Bool.not_eq_true'] at h3
          rw [h3, Bool.false_and]
          decide
        rw [hE]
        refine rX rfl ?_
        refine runS_ret (I := inf) 0 rfl (Nat.le_refl _) rfl .nil rfl ⟨?_, rfl⟩
        rfl
      · refine rX rfl ?_
        exact ih (i + 1) _ _ (by omega) ⟨⟨rfl, rfl, congrArg iv hw1⟩, rfl, by omega⟩
    · clear ih hi g0 g1 g6 h
      refine rX rfl ?_
      refine runS_while (fun (i : Nat) τ ar => (τ 0 = prS n1 l ∧ τ 1 = tyS n2 ts ∧ τ 7 = iv i) ∧ ar = [] ∧ i ≤ l.length ∧ ((List.range i).all fun i => validT (ts.getD i ty0) && pHas (ts.getD i ty0) (l.getD i pr0)) = true) (fun i => l.length - i) 0 ⟨⟨rfl, rfl, rfl⟩, rfl, Nat.zero_le _, rfl⟩ ?_
      rintro i τ3 ar3 ⟨⟨g0, g1, g7⟩, rfl, hi, hb⟩ ih
      refine runS_says 0 (by exact g0) (Says.refl _) ?_; refine runS_says 1 (by exact g1) (Says.refl _) ?_; refine runS_says 7 (by exact g7) (Says.refl _) ?_
      refine rX rfl ?_
      have hcd : (if decide ((i : Int) < (l.length : Int)) = true then decide ((ts.length : Int) > 0) else false) = decide (i < l.length) := by
        by_cases h : i < l.length
        · rw [decide_eq_true (show (i : Int) < (l.length : Int) by omega), if_pos rfl, decide_eq_true h, decide_eq_true (by omega)]
        · rw [decide_eq_false (show ¬ (i : Int) < (l.length : Int) by omega), decide_eq_false h]
          rfl
      refine runS_cond rfl (fun h => ?_) (fun h => ?_)
      · have hlt : i < l.length := of_decide_eq_true (hcd.symm.trans h)
        have hlt2 : i < ts.length := by omega
        have hw1 : IntKind.wrap .i64 ((i : Int) + 1) = ((i + 1 : Nat) : Int) := by rw [w64 (by omega) (by omega)]; rfl
        have c1 := r_has (ts.getD i ty0) (l.getD i pr0).re
        have c2 := r_has (ts.getD i ty0) (l.getD i pr0).im
        clear hcd h
        refine runS_x (I := inf) (J := jnf) ⟨false, false, [], 0, 0⟩ 9999 rfl (by repeat (first | exact obs_nil | refine obs_draw (by kernel_rfl) ?_ | refine obs_same ?_ | refine obs_and ?_ | refine obs_by (by (simp [inB, hlt, hlt2] <;> omega)) ?_)) ?_
        refine runS_draw 21 (by kernel_rfl) (lexj_x (I := inf) (J := jnf) 99 rfl rfl (by repeat (first | exact obs_nil | refine obs_same ?_ | refine obs_and ?_ | refine obs_by (by (simp [inB, hlt, hlt2] <;> omega)) ?_)) (lexj_call rfl rfl rfl rfl rfl rfl rfl rfl c1 (lexj_x (I := inf) (J := jnf) 99 rfl rfl (by repeat (first | exact obs_nil | refine obs_same ?_ | refine obs_and ?_ | refine obs_by (by (simp [inB, hlt, hlt2] <;> omega)) ?_)) lexj_nil))) ?_
        refine runS_callU rfl rfl (by first | exact .v rfl rfl rfl rfl | exact .o rfl rfl rfl rfl) rfl rfl (by repeat (first | exact .nil | refine .cons (.n rfl) ?_ | refine .cons .o ?_ | refine .cons gok_and ?_)) rfl rfl rfl rfl rfl (fun _ => c2) ?_
        refine rX rfl ?_
        refine runS_cond rfl (fun h2 => ?_) (fun h2 => ?_)
        · have h3 : (if (!hasB (ts.getD i ty0) (l.getD i pr0).re) = true then true else !hasB (ts.getD i ty0) (l.getD i pr0).im) = true := h2
          have hE : askP l ts = 13 := by
            unfold askP
            rw [if_neg (by rw [ha]; decide), if_pos]
            rw [List.all_eq_false]
            exact ⟨i, List.mem_range.2 hlt, by unfold pHas; rw [no2 h3, Bool.and_false]; decide⟩
          rw [hE]
          refine rX rfl ?_
          refine runS_ret (I := inf) 0 rfl (Nat.le_refl _) rfl .nil rfl ⟨?_, rfl⟩
          rfl
        · have h3 : (if (!hasB (ts.getD i ty0) (l.getD i pr0).re) = true then true else !hasB (ts.getD i ty0) (l.getD i pr0).im) = false := h2
          have h4 := yes2 h3
          have hvt : validT (ts.getD i ty0) = true := by
            have h5 := (Bool.and_eq_true_iff.1 h4).1
            unfold hasB at h5
            simp at h5
            simp
            exact h5.1.1.1
          refine rX rfl ?_
          exact ih (i + 1) _ _ (by omega) ⟨⟨rfl, rfl, congrArg iv hw1⟩, rfl, by omega, range_all hb (by unfold pHas; rw [h4, hvt]; rfl)⟩
      · have hie : i = l.length := by
          have := of_decide_eq_false (hcd.symm.trans h)
          omega
        subst hie
        clear ih hi g0 g1 g7 h hcd
        have hbi : ∀ i, i < l.length → validT (ts.getD i ty0) = true ∧ (ts.getD i ty0).kind = (l.getD i pr0).re.kind ∧ (ts.getD i ty0).kind = (l.getD i pr0).im.kind := fun i hi => by
          rw [List.all_eq_true] at hb
          have h1 := hb i (List.mem_range.2 hi)
          obtain ⟨h2, h3⟩ := Bool.and_eq_true_iff.1 h1
          unfold pHas at h3
          obtain ⟨h4, h5⟩ := Bool.and_eq_true_iff.1 h3
          exact ⟨h2, has_kind h4, has_kind h5⟩
        refine rX rfl ?_
        refine runS_while (fun (i : Nat) τ ar => (τ 0 = prS n1 l ∧ τ 8 = iv i) ∧ ar = [] ∧ i ≤ l.length ∧ (ts.take i).all (fun t => decide (t.kind ≤ 3)) = true) (fun i => l.length - i) 0 ⟨⟨rfl, rfl⟩, rfl, Nat.zero_le _, rfl⟩ ?_
        rintro i τ4 ar4 ⟨⟨g0, g8⟩, rfl, hi, hc⟩ ih
        refine runS_says 0 (by exact g0) (Says.refl _) ?_; refine runS_says 8 (by exact g8) (Says.refl _) ?_
        refine rX rfl ?_
        refine runS_cond rfl (fun h => ?_) (fun h => ?_)
        · have hlt : i < l.length := by simp at h; omega
          have hlt2 : i < ts.length := by omega
          have hw1 : IntKind.wrap .i64 ((i : Int) + 1) = ((i + 1 : Nat) : Int) := by rw [w64 (by omega) (by omega)]; rfl
          obtain ⟨k1, k2, k3⟩ := hbi i hlt
          have hk9 := valid_kind k1
          have c1 := r_numeric (l.getD i pr0).re.kind
          have c2 := r_numeric (l.getD i pr0).im.kind
          refine runS_x (I := inf) (J := jnf) ⟨false, false, [], 0, 0⟩ 9999 rfl (by repeat (first | exact obs_nil | refine obs_draw (by kernel_rfl) ?_ | refine obs_same ?_ | refine obs_and ?_ | refine obs_by (by (simp [inB, hlt] <;> omega)) ?_)) ?_
          refine runS_call rfl rfl rfl rfl rfl rfl rfl c1 ?_
          refine runS_x (I := inf) (J := jnf) ⟨false, false, [], 0, 0⟩ 9999 rfl (by repeat (first | exact obs_nil | refine obs_draw (by kernel_rfl) ?_ | refine obs_same ?_ | refine obs_and ?_ | refine obs_by (by (simp [inB, hlt] <;> omega)) ?_)) ?_
          refine runS_callU rfl rfl (by first | exact .v rfl rfl rfl rfl | exact .o rfl rfl rfl rfl) rfl rfl (by repeat (first | exact .nil | refine .cons (.n rfl) ?_ | refine .cons .o ?_ | refine .cons gok_and ?_)) rfl rfl rfl rfl rfl (fun _ => c2) ?_
          refine rX rfl ?_
          refine runS_cond rfl (fun h2 => ?_) (fun h2 => ?_)
          · have h3 : (if (!(decide (1 ≤ (l.getD i pr0).re.kind) && decide ((l.getD i pr0).re.kind ≤ 3))) = true then true else !(decide (1 ≤ (l.getD i pr0).im.kind) && decide ((l.getD i pr0).im.kind ≤ 3))) = true := h2
            have h4 := no2 h3
            rw [← k2, ← k3] at h4
            have h5 : ¬ (ts.getD i ty0).kind ≤ 3 := by
              intro e
              rw [decide_eq_true hk9.1, decide_eq_true e] at h4
              cases h4
            have hE : askP l ts = 10 := by
              unfold askP
              rw [if_neg (by rw [ha]; decide), if_neg (by rw [hb]; decide), if_pos]
              rw [List.all_eq_false]
              rw [ty_get hlt2] at h5
              exact ⟨_, List.getElem_mem hlt2, by simpa using h5⟩
            rw [hE]
            refine rX rfl ?_
            refine runS_ret (I := inf) 0 rfl (Nat.le_refl _) rfl .nil rfl ⟨?_, rfl⟩
            rfl
          · have h3 : (if (!(decide (1 ≤ (l.getD i pr0).re.kind) && decide ((l.getD i pr0).re.kind ≤ 3))) = true then true else !(decide (1 ≤ (l.getD i pr0).im.kind) && decide ((l.getD i pr0).im.kind ≤ 3))) = false := h2
            have h4 := yes2 h3
            rw [← k2, ← k3] at h4
            have h5 : (ts.getD i ty0).kind ≤ 3 := of_decide_eq_true (Bool.and_eq_true_iff.1 (Bool.and_eq_true_iff.1 h4).1).2
            rw [ty_get hlt2] at h5
            refine rX rfl ?_
            exact ih (i + 1) _ _ (by omega) ⟨⟨rfl, congrArg iv hw1⟩, rfl, by omega, all_take hc hlt2 (by simpa using h5)⟩
        · have hie : i = l.length := by simp at h; omega
          subst hie
          rw [← hts, List.take_length] at hc
          have hE : askP l ts = 0 := by
            unfold askP
            rw [if_neg (by rw [ha]; decide), if_neg (by rw [hb]; decide), if_neg (by rw [hc]; decide)]
          rw [hE]
          refine rX rfl ?_
          refine runS_ret (I := inf) 0 rfl (Nat.le_refl _) rfl .nil rfl ⟨?_, rfl⟩
          rfl
end Go.Iron.Tryz

/- The pairs' seat: the reference's steps. -/
namespace Go.Iron.Tryz
open Go.Proofs Go.RowKit Go.Iron.Tok Go.Iron.Dg

abbrev stE (t : Typ) (c : Int) : List AV := [iv t.kind, iv t.p, iv t.q, iv t.n, bv t.vary, sv t.pic, iv c]
def stepV (op : UInt8) (t : Typ) (c : Int) (a b : Vl) : Vl × Int := if c ≠ 0 then (a, c) else ((doV op a b t).1, (doV op a b t).2.1)
def timesS (t : Typ) (c : Int) (x y : Pr) : Pr × Int :=
  (⟨(stepV 45 t (stepV 42 t (stepV 42 t (stepV 42 t (stepV 42 t c x.re y.re).2 x.im y.im).2 x.re y.im).2 x.im y.re).2 (stepV 42 t c x.re y.re).1 (stepV 42 t (stepV 42 t c x.re y.re).2 x.im y.im).1).1,
    (stepV 43 t (stepV 45 t (stepV 42 t (stepV 42 t (stepV 42 t (stepV 42 t c x.re y.re).2 x.im y.im).2 x.re y.im).2 x.im y.re).2 (stepV 42 t c x.re y.re).1 (stepV 42 t (stepV 42 t c x.re y.re).2 x.im y.im).1).2 (stepV 42 t (stepV 42 t (stepV 42 t c x.re y.re).2 x.im y.im).2 x.re y.im).1 (stepV 42 t (stepV 42 t (stepV 42 t (stepV 42 t c x.re y.re).2 x.im y.im).2 x.re y.im).2 x.im y.re).1).1⟩,
    (stepV 43 t (stepV 45 t (stepV 42 t (stepV 42 t (stepV 42 t (stepV 42 t c x.re y.re).2 x.im y.im).2 x.re y.im).2 x.im y.re).2 (stepV 42 t c x.re y.re).1 (stepV 42 t (stepV 42 t c x.re y.re).2 x.im y.im).1).2 (stepV 42 t (stepV 42 t (stepV 42 t c x.re y.re).2 x.im y.im).2 x.re y.im).1 (stepV 42 t (stepV 42 t (stepV 42 t (stepV 42 t c x.re y.re).2 x.im y.im).2 x.re y.im).2 x.im y.re).1).2)
theorem step_ok {op : UInt8} {t : Typ} {a b v : Vl} (h : byV op t a b = .ok v) : stepV op t 0 a b = (v, 0) := by
  unfold byV at h
  unfold stepV
  rw [if_neg (by decide)]
  split at h
  · rename_i h0
    injection h with h
    rw [h, h0]
  · cases h
theorem step_err {op : UInt8} {t : Typ} {a b : Vl} {e : Int} (h : byV op t a b = .error e) : (stepV op t 0 a b).2 = e ∧ e ≠ 0 := by
  unfold byV at h
  unfold stepV
  rw [if_neg (by decide)]
  split at h
  · cases h
  · rename_i h0
    injection h with h
    exact ⟨h, by rw [← h]; exact h0⟩
theorem step_stay (op : UInt8) (t : Typ) {c : Int} (a b : Vl) (h : c ≠ 0) : stepV op t c a b = (a, c) := by
  unfold stepV
  rw [if_pos h]
theorem times_same (t : Typ) (x y : Pr) : match timesV t x y with
    | .ok z => timesS t 0 x y = (z, 0)
    | .error e => (timesS t 0 x y).2 = e ∧ e ≠ 0 := by
  unfold timesV timesS
  cases e1 : byV 42 t x.re y.re with
  | error e =>
    obtain ⟨h, h0⟩ := step_err e1
    generalize stepV 42 t 0 x.re y.re = s1 at *
    obtain ⟨v1, c1⟩ := s1
    dsimp only at h
    subst h
    dsimp only
    simp only [step_stay _ _ _ _ h0]
    exact ⟨trivial, h0⟩
  | ok p =>
    rw [step_ok e1]
    dsimp only
    cases e2 : byV 42 t x.im y.im with
    | error e =>
      obtain ⟨h, h0⟩ := step_err e2
      generalize stepV 42 t 0 x.im y.im = s1 at *
      obtain ⟨v1, c1⟩ := s1
      dsimp only at h
      subst h
      dsimp only
      simp only [step_stay _ _ _ _ h0]
      exact ⟨trivial, h0⟩
    | ok q =>
      rw [step_ok e2]
      dsimp only
      cases e3 : byV 42 t x.re y.im with
      | error e =>
        obtain ⟨h, h0⟩ := step_err e3
        generalize stepV 42 t 0 x.re y.im = s1 at *
        obtain ⟨v1, c1⟩ := s1
        dsimp only at h
        subst h
        dsimp only
        simp only [step_stay _ _ _ _ h0]
        exact ⟨trivial, h0⟩
      | ok r =>
        rw [step_ok e3]
        dsimp only
        cases e4 : byV 42 t x.im y.re with
        | error e =>
          obtain ⟨h, h0⟩ := step_err e4
          generalize stepV 42 t 0 x.im y.re = s1 at *
          obtain ⟨v1, c1⟩ := s1
          dsimp only at h
          subst h
          dsimp only
          simp only [step_stay _ _ _ _ h0]
          exact ⟨trivial, h0⟩
        | ok s =>
          rw [step_ok e4]
          dsimp only
          cases e5 : byV 45 t p q with
          | error e =>
            obtain ⟨h, h0⟩ := step_err e5
            generalize stepV 45 t 0 p q = s1 at *
            obtain ⟨v1, c1⟩ := s1
            dsimp only at h
            subst h
            dsimp only
            simp only [step_stay _ _ _ _ h0]
            exact ⟨trivial, h0⟩
          | ok re =>
            rw [step_ok e5]
            dsimp only
            cases e6 : byV 43 t r s with
            | error e => exact step_err e6
            | ok im =>
              rw [step_ok e6]
end Go.Iron.Tryz

/- The pairs' seat: the reference's Do. -/
namespace Go.Iron.Tryz
open Go.Proofs Go.RowKit Go.Iron.Tok Go.Iron.Dg

theorem r_zeros (t : Typ) : CallT Tryz.prog 78 [.agg (typE t)] [] (fun o A => o = .ret (.agg (prE (zeroP t))) ∧ A = []) := by
  have hz := r_Zero t
  unfold zeroP
  generalize zeroV t = z at *
  obtain ⟨⟨k, n, q, s⟩, e⟩ := z
  dsimp only at hz ⊢
  refine callS_body (n := 13) rfl rfl fun w ρ X => ?_
  refine rX rfl ?_
  refine runS_call rfl rfl rfl rfl rfl rfl rfl hz ?_
  refine rX rfl ?_
  refine runS_ret (I := inf) 0 rfl (Nat.le_refl _) rfl .nil rfl ⟨?_, rfl⟩
  rfl
def endS (t : Typ) (z : Pr) (c : Int) : Pr × Int := if c ≠ 0 then (zeroP t, c) else (z, 0)
end Go.Iron.Tryz

/- The pairs' seat: the reference's quotients of pairs. -/
namespace Go.Iron.Tryz
open Go.Proofs Go.RowKit Go.Iron.Tok Go.Iron.Dg

end Go.Iron.Tryz

/- The pairs' seat: what an operation tells is of its type. -/
namespace Go.Iron.Tryz
open Go.Proofs Go.RowKit Go.Iron.Tok Go.Iron.Dg

end Go.Iron.Tryz

/- The pairs' seat: Do of both is one. -/
namespace Go.Iron.Tryz
open Go.Proofs Go.RowKit Go.Iron.Tok Go.Iron.Dg

def Same (R : Except Int Pr) (S : Pr × Int) : Prop := match R with
  | .ok z => S = (z, 0)
  | .error e => S.2 = e ∧ e ≠ 0
theorem end_same (t : Typ) {R : Except Int Pr} {S : Pr × Int} (h : Same R S) : endS t S.1 S.2 = safeV t R := by
  cases R with
  | ok z =>
    have h : S = (z, 0) := h
    rw [h]
    rfl
  | error e =>
    have h : S.2 = e ∧ e ≠ 0 := h
    unfold endS safeV
    rw [h.1, if_pos h.2]
end Go.Iron.Tryz

/- The pairs' seat: Do of both, for any operation. -/
namespace Go.Iron.Tryz
open Go.Proofs Go.RowKit Go.Iron.Tok Go.Iron.Dg

end Go.Iron.Tryz

/- The pairs' seat: Norm, Conjugate. -/
namespace Go.Iron.Tryz
open Go.Proofs Go.RowKit Go.Iron.Tok Go.Iron.Dg

def normS (t : Typ) (x : Pr) : Except Int Pr :=
  match byV 42 t x.re x.re with
  | .error c => .error c
  | .ok p => match byV 42 t x.im x.im with
    | .error c => .error c
    | .ok q => match byV 43 t p q with
      | .error c => .error c
      | .ok v => .ok ⟨v, vl0⟩
theorem p_norm1 (t : Typ) (x : Pr) : CallT Tryz.prog 92 [.loc (nuE t) 0, .loc (prE x) 0] [] (fun o A => o = outP (normS t x) ∧ A = []) := by
  have h1 := p_by42 t x.re x.re
  have h2 := p_by42 t x.im x.im
  unfold normS
  refine callS_body (n := 22) rfl rfl fun w ρ X => ?_
  refine rX rfl ?_
  refine runS_hole ?_
  refine runS_hole ?_
  cases e1 : byV 42 t x.re x.re with
  | error c =>
    rw [e1] at h1
    try dsimp only
    refine runS_drawG 16 [12, 13] (fun z => [.box 41 (prE pr0), cond (z.getD 0 false) (.row 23 4 1 1 (fun _ => vlZ)) .hole, cond (z.getD 1 false) (.row 23 4 1 1 (fun _ => vlZ)) .hole]) (some 5) (c := 9) jnfI.draw (by kernel_rfl) rfl (lexg_g (I := inf) (J := jnf) none ⟨⟨⟨_, rfl, ob0⟩, oi⟩, oj⟩ rfl rfl rfl rfl (lexg_g (I := inf) (J := jnf) none ⟨⟨⟨_, rfl, ob0⟩, oi⟩, oj⟩ rfl rfl rfl rfl (lexg_g (I := inf) (J := jnf) none ⟨⟨⟨_, rfl, ob0⟩, oi⟩, oj⟩ rfl rfl rfl rfl (lexg_g (I := inf) (J := jnf) none ⟨⟨⟨_, rfl, ob0⟩, oi⟩, oj⟩ rfl rfl rfl rfl (lexg_g (I := inf) (J := jnf) none ⟨⟨⟨_, rfl, ob0⟩, oi⟩, oj⟩ rfl rfl rfl rfl (lexg_pan rfl rfl rfl rfl rfl rfl rfl rfl h1 (lexg_g (I := inf) (J := jnf) none ⟨⟨⟨_, rfl, ob0⟩, oi⟩, oj⟩ rfl rfl rfl rfl (lexg_g (I := inf) (J := jnf) none ⟨⟨⟨_, rfl, ob0⟩, oi⟩, oj⟩ rfl rfl rfl rfl (lexg_g (I := inf) (J := jnf) none ⟨⟨⟨_, rfl, ob0⟩, oi⟩, oj⟩ rfl rfl rfl rfl (lexg_g (I := inf) (J := jnf) none ⟨⟨⟨_, rfl, ob0⟩, oi⟩, oj⟩ rfl rfl rfl rfl (lexg_g (I := inf) (J := jnf) none ⟨⟨⟨_, rfl, ob0⟩, oi⟩, oj⟩ rfl rfl rfl rfl (lexg_late rfl (by kernel_rfl) (lexg_b 1 rfl rfl ⟨⟨⟨rfl, rfl⟩, (by first | exact .inl (by decide +kernel) | exact .inr ⟨rfl, rfl⟩)⟩, .inl rfl⟩ rfl rfl rfl rfl (lexg_b 2 rfl rfl ⟨⟨⟨rfl, rfl⟩, .inl rfl⟩, (by first | exact .inl (by decide +kernel) | exact .inr ⟨⟨rfl, rfl⟩, .inl rfl⟩)⟩ rfl rfl rfl rfl (lexg_late rfl (by kernel_rfl) (lexg_late rfl (by kernel_rfl) lexg_nil)))))))))))))))) rfl (fun h => by cases h) (fun _ b tt => ?_)
    refine rX rfl ?_
    exact runS_pan 0 rfl (Nat.le_refl _) rfl .nil ⟨rfl, rfl⟩
  | ok p =>
    rw [e1] at h1
    try dsimp only
    cases e2 : byV 42 t x.im x.im with
    | error c =>
      rw [e2] at h2
      try dsimp only
      refine runS_drawG 16 [12, 13] (fun z => [.box 41 (prE pr0), cond (z.getD 0 false) (.row 23 4 1 1 (fun _ => vlZ)) .hole, cond (z.getD 1 false) (.row 23 4 1 1 (fun _ => vlZ)) .hole]) (some 11) (c := 9) jnfI.draw (by kernel_rfl) rfl (lexg_g (I := inf) (J := jnf) none ⟨⟨⟨_, rfl, ob0⟩, oi⟩, oj⟩ rfl rfl rfl rfl (lexg_g (I := inf) (J := jnf) none ⟨⟨⟨_, rfl, ob0⟩, oi⟩, oj⟩ rfl rfl rfl rfl (lexg_g (I := inf) (J := jnf) none ⟨⟨⟨_, rfl, ob0⟩, oi⟩, oj⟩ rfl rfl rfl rfl (lexg_g (I := inf) (J := jnf) none ⟨⟨⟨_, rfl, ob0⟩, oi⟩, oj⟩ rfl rfl rfl rfl (lexg_g (I := inf) (J := jnf) none ⟨⟨⟨_, rfl, ob0⟩, oi⟩, oj⟩ rfl rfl rfl rfl (lexg_call rfl rfl rfl rfl rfl rfl rfl rfl rfl h1 (lexg_g (I := inf) (J := jnf) none ⟨⟨⟨_, rfl, ob0⟩, oi⟩, oj⟩ rfl rfl rfl rfl (lexg_g (I := inf) (J := jnf) none ⟨⟨⟨_, rfl, ob0⟩, oi⟩, oj⟩ rfl rfl rfl rfl (lexg_g (I := inf) (J := jnf) none ⟨⟨⟨_, rfl, ob0⟩, oi⟩, oj⟩ rfl rfl rfl rfl (lexg_g (I := inf) (J := jnf) none ⟨⟨⟨_, rfl, ob0⟩, oi⟩, oj⟩ rfl rfl rfl rfl (lexg_g (I := inf) (J := jnf) none ⟨⟨⟨_, rfl, ob0⟩, oi⟩, oj⟩ rfl rfl rfl rfl (lexg_pan rfl rfl rfl rfl rfl rfl rfl rfl h2 (lexg_b 1 rfl rfl ⟨⟨⟨rfl, rfl⟩, (by first | exact .inl (by decide +kernel) | exact .inr ⟨rfl, rfl⟩)⟩, .inl rfl⟩ rfl rfl rfl rfl (lexg_b 2 rfl rfl ⟨⟨⟨rfl, rfl⟩, .inl rfl⟩, (by first | exact .inl (by decide +kernel) | exact .inr ⟨⟨rfl, rfl⟩, .inl rfl⟩)⟩ rfl rfl rfl rfl (lexg_late rfl (by kernel_rfl) (lexg_late rfl (by kernel_rfl) lexg_nil)))))))))))))))) rfl (fun h => by cases h) (fun _ b tt => ?_)
      refine rX rfl ?_
      exact runS_pan 0 rfl (Nat.le_refl _) rfl .nil ⟨rfl, rfl⟩
    | ok q =>
      rw [e2] at h2
      try dsimp only
      refine runS_drawG (ch := []) (A2 := fun _ => []) 16 [12, 13, 14, 15] (fun z => [.box 41 (prE pr0), cond (z.getD 0 false) (.row 23 4 1 1 (cond (z.getD 2 false) (setR (fun _ => vlZ) 0 (vlE p)) (fun _ => vlZ))) .hole, cond (z.getD 1 false) (.row 23 4 1 1 (cond (z.getD 3 false) (setR (fun _ => vlZ) 0 (vlE q)) (fun _ => vlZ))) .hole]) none (c := 9) jnfI.draw (by kernel_rfl) rfl (lexg_g (I := inf) (J := jnf) none ⟨⟨⟨⟨⟨_, rfl, ob0⟩, oi⟩, oj⟩, ol⟩, on⟩ rfl rfl rfl rfl (lexg_g (I := inf) (J := jnf) none ⟨⟨⟨⟨⟨_, rfl, ob0⟩, oi⟩, oj⟩, ol⟩, on⟩ rfl rfl rfl rfl (lexg_g (I := inf) (J := jnf) none ⟨⟨⟨⟨⟨_, rfl, ob0⟩, oi⟩, oj⟩, ol⟩, on⟩ rfl rfl rfl rfl (lexg_g (I := inf) (J := jnf) none ⟨⟨⟨⟨⟨_, rfl, ob0⟩, oi⟩, oj⟩, ol⟩, on⟩ rfl rfl rfl rfl (lexg_g (I := inf) (J := jnf) none ⟨⟨⟨⟨⟨_, rfl, ob0⟩, oi⟩, oj⟩, ol⟩, on⟩ rfl rfl rfl rfl (lexg_call rfl rfl rfl rfl rfl rfl rfl rfl rfl h1 (lexg_g (I := inf) (J := jnf) none ⟨⟨⟨⟨⟨_, rfl, ob0⟩, oi⟩, oj⟩, ol⟩, on⟩ rfl rfl rfl rfl (lexg_g (I := inf) (J := jnf) none ⟨⟨⟨⟨⟨_, rfl, ob0⟩, oi⟩, oj⟩, ol⟩, on⟩ rfl rfl rfl rfl (lexg_g (I := inf) (J := jnf) none ⟨⟨⟨⟨⟨_, rfl, ob0⟩, oi⟩, oj⟩, ol⟩, on⟩ rfl rfl rfl rfl (lexg_g (I := inf) (J := jnf) none ⟨⟨⟨⟨⟨_, rfl, ob0⟩, oi⟩, oj⟩, ol⟩, on⟩ rfl rfl rfl rfl (lexg_g (I := inf) (J := jnf) none ⟨⟨⟨⟨⟨_, rfl, ob0⟩, oi⟩, oj⟩, ol⟩, on⟩ rfl rfl rfl rfl (lexg_call rfl rfl rfl rfl rfl rfl rfl rfl rfl h2 (lexg_b 1 rfl rfl ⟨⟨⟨⟨⟨rfl, rfl⟩, (by first | exact .inl (by decide +kernel) | exact .inr ⟨rfl, rfl⟩)⟩, (by first | exact .inl (by decide +kernel) | exact .inr ⟨⟨rfl, rfl⟩, (by first | exact .inl (by decide +kernel) | exact .inr ⟨rfl, rfl⟩)⟩)⟩, (by first | exact .inl (by decide +kernel) | exact .inr ⟨⟨⟨rfl, rfl⟩, (by first | exact .inl (by decide +kernel) | exact .inr ⟨rfl, rfl⟩)⟩, (by first | exact .inl (by decide +kernel) | exact .inr ⟨⟨rfl, rfl⟩, (by first | exact .inl (by decide +kernel) | exact .inr ⟨rfl, rfl⟩)⟩)⟩)⟩, .inl rfl⟩ rfl rfl rfl rfl (lexg_b 2 rfl rfl ⟨⟨⟨⟨⟨rfl, rfl⟩, (by first | exact .inl (by decide +kernel) | exact .inr ⟨rfl, rfl⟩)⟩, (by first | exact .inl (by decide +kernel) | exact .inr ⟨⟨rfl, rfl⟩, (by first | exact .inl (by decide +kernel) | exact .inr ⟨rfl, rfl⟩)⟩)⟩, .inl rfl⟩, (by first | exact .inl (by decide +kernel) | exact .inr ⟨⟨⟨⟨rfl, rfl⟩, (by first | exact .inl (by decide +kernel) | exact .inr ⟨rfl, rfl⟩)⟩, (by first | exact .inl (by decide +kernel) | exact .inr ⟨⟨rfl, rfl⟩, (by first | exact .inl (by decide +kernel) | exact .inr ⟨rfl, rfl⟩)⟩)⟩, .inl rfl⟩)⟩ rfl rfl rfl rfl (lexg_d (I := inf) (J := jnf) (some .store) ⟨(by first | exact .inl (by decide +kernel) | exact .inr ⟨om, om⟩), (by first | exact .inl (by decide +kernel) | exact .inr ⟨om, om⟩)⟩ rfl rfl rfl rfl (lexg_d (I := inf) (J := jnf) (some .store) ⟨(by first | exact .inl (by decide +kernel) | exact .inr ⟨om, om⟩), (by first | exact .inl (by decide +kernel) | exact .inr ⟨om, om⟩)⟩ rfl rfl rfl rfl lexg_nil)))))))))))))))) rfl (fun _ => ?_) (fun h => by cases h)
      refine rX rfl ?_
      refine runS_tell 1 (fun _ => vlE p) rfl (m' := 1) rfl (fun j hj => by (obtain rfl : j = 0 := by omega); rfl) rfl ?_
      refine runS_tell 2 (fun _ => vlE q) rfl (m' := 1) rfl (fun j hj => by (obtain rfl : j = 0 := by omega); rfl) rfl ?_
      have h3 := p_by43 t p q
      cases e3 : byV 43 t p q with
      | error c =>
        rw [e3] at h3
        try dsimp only
        refine runS_callP rfl rfl rfl rfl rfl rfl rfl h3 ?_
        refine rX rfl ?_
        exact runS_pan 0 rfl (Nat.le_refl _) rfl .nil ⟨rfl, rfl⟩
      | ok v =>
        rw [e3] at h3
        try dsimp only
        refine runS_call rfl rfl rfl rfl rfl rfl rfl h3 ?_
        refine rX rfl ?_
        refine runS_ret (I := inf) 0 rfl (Nat.le_refl _) rfl .nil rfl ⟨?_, rfl⟩
        rfl
theorem p_normE (x : Pr) (ta : Typ) (ha : askP [x] [ta] ≠ 0) : CallT Tryz.prog 38 [.agg (prE x), .agg (typE ta)] [] (fun o A => o = .ret (.tup [.agg vlZ, .agg (typE ty0), iv 0, iv (askP [x] [ta])]) ∧ A = []) := by
  have hak := p_asked none none [x] [ta] (by simp) rfl
  refine callS_body (n := 42) rfl rfl fun w ρ X => ?_
  refine rX rfl ?_
  refine runS_tell 4 (prR [x]) rfl (m' := 1) rfl (fun j hj => ?_) rfl ?_
  · rcases j with _ | j <;> first | rfl | omega
  refine runS_tell 5 (tyR [ta]) rfl (m' := 1) rfl (fun j hj => ?_) rfl ?_
  · rcases j with _ | j <;> first | rfl | omega
  refine runS_freeze 15 rfl rfl rfl (fun j hj => ?_) ?_
  · rcases j with _ | j <;> first | rfl | omega
  refine runS_freeze 17 rfl rfl rfl (fun j hj => ?_) ?_
  · rcases j with _ | j <;> first | rfl | omega
  refine runS_call rfl rfl rfl rfl rfl rfl rfl hak ?_
  refine rX rfl ?_
  refine runS_cond rfl (fun h => ?_) (fun h => ?_)
  · refine rX rfl ?_
    refine runS_ret (I := inf) 0 rfl (Nat.le_refl _) rfl .nil rfl ⟨?_, rfl⟩
    rfl
  · exfalso
    have h3 : (!(askP [x] [ta] == 0)) = false := h
    simp at h3
    exact ha h3
theorem p_norm (x : Pr) (ta : Typ) (ha : askP [x] [ta] = 0) (hva : vN ta) : CallT Tryz.prog 38 [.agg (prE x), .agg (typE ta)] [] (fun o A => o = .ret (.tup [.agg (vlE (safeV (resT 42 ta ta) (normS (resT 42 ta ta) x)).1.re), .agg (typE (resT 42 ta ta)), iv (safeV (resT 42 ta ta) (normS (resT 42 ta ta) x)).2, iv 0]) ∧ A = []) := by
  have hak := p_asked none none [x] [ta] (by simp) rfl
  rw [ha] at hak
  have hra := p_result42 ta ta hva hva
  generalize resT 42 ta ta = t at *
  have hR := p_safe t (normS t x) (g := 92) (caps := [.loc (nuE t) 0, .loc (prE x) 0]) rfl (p_norm1 t x)
  generalize normS t x = R at *
  generalize safeV t R = S at *
  obtain ⟨z, c⟩ := S
  dsimp only at hR ⊢
  refine callS_body (n := 42) rfl rfl fun w ρ X => ?_
  refine rX rfl ?_
  refine runS_tell 4 (prR [x]) rfl (m' := 1) rfl (fun j hj => ?_) rfl ?_
  · rcases j with _ | j <;> first | rfl | omega
  refine runS_tell 5 (tyR [ta]) rfl (m' := 1) rfl (fun j hj => ?_) rfl ?_
  · rcases j with _ | j <;> first | rfl | omega
  refine runS_freeze 15 rfl rfl rfl (fun j hj => ?_) ?_
  · rcases j with _ | j <;> first | rfl | omega
  refine runS_freeze 17 rfl rfl rfl (fun j hj => ?_) ?_
  · rcases j with _ | j <;> first | rfl | omega
  refine runS_call rfl rfl rfl rfl rfl rfl rfl hak ?_
  refine rX rfl ?_
  refine runS_cond rfl (fun h => by cases h) (fun h => ?_)
  refine rX rfl ?_
  refine runS_call rfl rfl rfl rfl rfl rfl rfl hra ?_
  refine rX rfl ?_
  refine runS_freezeBox 7 rfl rfl rfl ?_
  refine runS_freezeBox 0 rfl rfl rfl ?_
  refine runS_call rfl rfl rfl rfl rfl rfl rfl hR ?_
  refine rX rfl ?_
  refine runS_drawG (ch := []) (A2 := fun _ => []) 8 [4, 5] (fun w => [.gone, .box 25 (typE ta), .box 23 (cond (w.getD 0 false) (vlE z.re) vlZ), .box 25 (cond (w.getD 1 false) (typE t) (typE ty0)), .gone, .gone, .box 25 (typE t), .gone, .box 41 (prE z)]) none (c := 9) jnfI.draw (by kernel_rfl) rfl (lexg_g (I := inf) (J := jnf) none ⟨⟨⟨_, rfl, ob0⟩, oi⟩, oj⟩ rfl rfl rfl rfl (lexg_g (I := inf) (J := jnf) none ⟨⟨⟨_, rfl, ob0⟩, oi⟩, oj⟩ rfl rfl rfl rfl (lexg_g (I := inf) (J := jnf) none ⟨⟨⟨_, rfl, ob0⟩, oi⟩, oj⟩ rfl rfl rfl rfl (lexg_g (I := inf) (J := jnf) none ⟨⟨⟨_, rfl, ob0⟩, oi⟩, oj⟩ rfl rfl rfl rfl (lexg_g (I := inf) (J := jnf) (some .store) ⟨⟨⟨_, rfl, ob0⟩, oi⟩, .inl rfl⟩ rfl rfl rfl rfl (lexg_g (I := inf) (J := jnf) (some .store) ⟨⟨⟨_, rfl, ob0⟩, .inl rfl⟩, (by first | exact .inl (by decide +kernel) | exact .inr ⟨⟨_, rfl, ob0⟩, .inl rfl⟩)⟩ rfl rfl rfl rfl (lexg_g (I := inf) (J := jnf) none ⟨⟨⟨_, rfl, ob0⟩, oi⟩, oj⟩ rfl rfl rfl rfl (lexg_g (I := inf) (J := jnf) none ⟨⟨⟨_, rfl, ob0⟩, oi⟩, oj⟩ rfl rfl rfl rfl lexg_nil)))))))) rfl (fun _ => ?_) (fun h => by cases h)
  refine rX rfl ?_
  refine runS_ret (I := inf) 0 rfl (Nat.le_refl _) rfl .nil rfl ⟨?_, rfl⟩
  rfl
end Go.Iron.Tryz

/- The pairs' seat: whole decimal pairs; the law of norms. -/
namespace Go.Iron.Tryz
open Go.Proofs Go.RowKit Go.Iron.Tok Go.Iron.Dg

theorem pow_le15 {P : Int} (h2 : P ≤ 15) : 10 ^ P.toNat ≤ 1000000000000000 := Nat.pow_le_pow_right (n := 10) (i := P.toNat) (j := 15) (by decide) (by omega)
theorem by_dec {op : UInt8} {n m r P : Int} (hop : op = 43 ∧ r = n + m ∨ op = 45 ∧ r = n - m ∨ op = 42 ∧ r = n * m) (hn : n.natAbs < 10 ^ P.toNat) (hm : m.natAbs < 10 ^ P.toNat) (h1 : 1 ≤ P) (h2 : P ≤ 15) (hr : r.natAbs < 10 ^ P.toNat) : byV op (dcT P) (dcV n) (dcV m) = .ok (dcV r) := by
  have h := pow_le15 h2
  unfold byV
  rw [do_dec hop (by omega) (by omega) h1 h2 hr, if_pos rfl]
abbrev dcP (a b : Int) : Pr := ⟨dcV a, dcV b⟩
theorem times_dec {a b c d P : Int} (h1 : 1 ≤ P) (h2 : P ≤ 15) (ha : a.natAbs < 10 ^ P.toNat) (hb : b.natAbs < 10 ^ P.toNat) (hc : c.natAbs < 10 ^ P.toNat) (hd : d.natAbs < 10 ^ P.toNat)
    (r1 : (a * c).natAbs < 10 ^ P.toNat) (r2 : (b * d).natAbs < 10 ^ P.toNat) (r3 : (a * d).natAbs < 10 ^ P.toNat) (r4 : (b * c).natAbs < 10 ^ P.toNat) (r5 : (a * c - b * d).natAbs < 10 ^ P.toNat) (r6 : (a * d + b * c).natAbs < 10 ^ P.toNat) :
    timesV (dcT P) (dcP a b) (dcP c d) = .ok (dcP (a * c - b * d) (a * d + b * c)) := by
  unfold timesV
  dsimp only
  rw [by_dec (op := 42) (.inr (.inr ⟨rfl, rfl⟩)) ha hc h1 h2 r1]
  dsimp only
  rw [by_dec (op := 42) (.inr (.inr ⟨rfl, rfl⟩)) hb hd h1 h2 r2]
  dsimp only
  rw [by_dec (op := 42) (.inr (.inr ⟨rfl, rfl⟩)) ha hd h1 h2 r3]
  dsimp only
  rw [by_dec (op := 42) (.inr (.inr ⟨rfl, rfl⟩)) hb hc h1 h2 r4]
  dsimp only
  rw [by_dec (op := 45) (.inr (.inl ⟨rfl, rfl⟩)) r1 r2 h1 h2 r5]
  dsimp only
  rw [by_dec (op := 43) (.inl ⟨rfl, rfl⟩) r3 r4 h1 h2 r6]
theorem dc_has {n P : Int} (h1 : 1 ≤ P) (h2 : P ≤ 15) (hn : n.natAbs < 10 ^ P.toNat) : hasB (dcT P) (dcV n) = true := by
  have h := pow_le15 h2
  unfold hasB hasK
  rw [dc_valid h1 h2, dc_right (by omega), if_pos (.inr rfl)]
  have hb : bsN 2 = 10 := rfl
  rw [hb]
  simp [hn]
theorem dc_vN {P : Int} (h1 : 1 ≤ P) (h2 : P ≤ 15) : vN (dcT P) := ⟨dc_valid h1 h2, .inr (.inl rfl)⟩
theorem dc_pH {a b P : Int} (h1 : 1 ≤ P) (h2 : P ≤ 15) (ha : a.natAbs < 10 ^ P.toNat) (hb : b.natAbs < 10 ^ P.toNat) : pHas (dcT P) (dcP a b) = true := by
  unfold pHas
  rw [dc_has h1 h2 ha, dc_has h1 h2 hb]
  rfl
theorem dc_pR {a b P : Int} (h2 : P ≤ 15) (ha : a.natAbs < 10 ^ P.toNat) (hb : b.natAbs < 10 ^ P.toNat) : pRight (dcP a b) = true := by
  have h := pow_le15 h2
  unfold pRight
  rw [dc_right (by omega), dc_right (by omega)]
  rfl
theorem ask_dec2 {a b c d P : Int} (h1 : 1 ≤ P) (h2 : P ≤ 15) (ha : a.natAbs < 10 ^ P.toNat) (hb : b.natAbs < 10 ^ P.toNat) (hc : c.natAbs < 10 ^ P.toNat) (hd : d.natAbs < 10 ^ P.toNat) : askP [dcP a b, dcP c d] [dcT P, dcT P] = 0 := by
  have e1 := dc_pR h2 ha hb
  have e2 := dc_pH h1 h2 ha hb
  have e3 := dc_pR h2 hc hd
  have e4 := dc_pH h1 h2 hc hd
  unfold askP
  rw [if_neg (by simp [e1, e3]), if_neg (by simp [List.range_succ, e2, e4, dc_valid h1 h2]), if_neg (by simp)]
theorem l_awakeP : CallT Tryz.prog 22 [] [] (fun o A => o = .ret (bv true) ∧ A = []) := by
  have hd := p_do42 (dcP 1 2) (dcP 3 (-1)) (dcT 1) (dcT 1) (ask_dec2 (by decide) (by decide) (by decide) (by decide) (by decide) (by decide)) (dc_vN (by decide) (by decide)) (dc_vN (by decide) (by decide))
  have ht : resT 42 (inT 42 (dcT 1)) (inT 42 (dcT 1)) = dcT 3 := rfl
  have hop0 : timesV (dcT 3) (dcP 1 2) (dcP 3 (-1)) = .ok (dcP (1 * 3 - 2 * (-1)) (1 * (-1) + 2 * 3)) := times_dec (a := 1) (b := 2) (c := 3) (d := -1) (P := 3) (by decide) (by decide) (by decide) (by decide) (by decide) (by decide) (by decide) (by decide) (by decide) (by decide) (by decide) (by decide)
  have hop : opP 42 (dcT 3) (dcP 1 2) (dcP 3 (-1)) = .ok (dcP 5 5) := hop0
  rw [ht, hop] at hd
  have hd : CallT Tryz.prog 23 [sv [42], .agg (prE (dcP 1 2)), .agg (prE (dcP 3 (-1))), .agg (typE (dcT 1)), .agg (typE (dcT 1))] [] (fun o A => o = .ret (doA (dcP 5 5) (dcT 3) 0 0) ∧ A = []) := hd
  refine callS_body (n := 33) rfl rfl fun w ρ X => ?_
  refine rX rfl ?_
  refine runS_hole ?_
  refine runS_hole ?_
  refine runS_drawG (ch := []) (A2 := fun _ => []) 16 [10, 11, 12, 13] (fun z => [.box 25 (typE (dcT 1)), cond (z.getD 0 false) (.row 41 8 1 1 (cond (z.getD 2 false) (setR (fun _ => prE pr0) 0 (prE (dcP 5 5))) (fun _ => prE pr0))) .hole, cond (z.getD 1 false) (.row 25 6 1 1 (cond (z.getD 3 false) (setR (fun _ => typE ty0) 0 (typE (dcT 3))) (fun _ => typE ty0))) .hole]) none (c := 9) jnfI.draw (by kernel_rfl) rfl (lexg_call rfl rfl rfl rfl rfl rfl rfl rfl rfl (p_one 1 2) (lexg_call rfl rfl rfl rfl rfl rfl rfl rfl rfl (p_one 3 (-1)) (lexg_g (I := inf) (J := jnf) none ⟨⟨⟨⟨⟨_, rfl, ob0⟩, oi⟩, oj⟩, ol⟩, on⟩ rfl rfl rfl rfl (lexg_g (I := inf) (J := jnf) none ⟨⟨⟨⟨⟨_, rfl, ob0⟩, oi⟩, oj⟩, ol⟩, on⟩ rfl rfl rfl rfl (lexg_call rfl rfl rfl rfl rfl rfl rfl rfl rfl hd (lexg_g (I := inf) (J := jnf) none ⟨⟨⟨⟨⟨_, rfl, ob0⟩, oi⟩, oj⟩, ol⟩, on⟩ rfl rfl rfl rfl (lexg_g (I := inf) (J := jnf) none ⟨⟨⟨⟨⟨_, rfl, ob0⟩, oi⟩, oj⟩, ol⟩, on⟩ rfl rfl rfl rfl (lexg_g (I := inf) (J := jnf) none ⟨⟨⟨⟨⟨_, rfl, ob0⟩, oi⟩, oj⟩, ol⟩, on⟩ rfl rfl rfl rfl (lexg_g (I := inf) (J := jnf) none ⟨⟨⟨⟨⟨_, rfl, ob0⟩, oi⟩, oj⟩, ol⟩, on⟩ rfl rfl rfl rfl (lexg_g (I := inf) (J := jnf) none ⟨⟨⟨⟨⟨_, rfl, ob0⟩, oi⟩, oj⟩, ol⟩, on⟩ rfl rfl rfl rfl (lexg_b 1 rfl rfl ⟨⟨⟨⟨⟨rfl, rfl⟩, (by first | exact .inl (by decide +kernel) | exact .inr ⟨rfl, rfl⟩)⟩, (by first | exact .inl (by decide +kernel) | exact .inr ⟨⟨rfl, rfl⟩, (by first | exact .inl (by decide +kernel) | exact .inr ⟨rfl, rfl⟩)⟩)⟩, (by first | exact .inl (by decide +kernel) | exact .inr ⟨⟨⟨rfl, rfl⟩, (by first | exact .inl (by decide +kernel) | exact .inr ⟨rfl, rfl⟩)⟩, (by first | exact .inl (by decide +kernel) | exact .inr ⟨⟨rfl, rfl⟩, (by first | exact .inl (by decide +kernel) | exact .inr ⟨rfl, rfl⟩)⟩)⟩)⟩, .inl rfl⟩ rfl rfl rfl rfl (lexg_b 2 rfl rfl ⟨⟨⟨⟨⟨rfl, rfl⟩, (by first | exact .inl (by decide +kernel) | exact .inr ⟨rfl, rfl⟩)⟩, (by first | exact .inl (by decide +kernel) | exact .inr ⟨⟨rfl, rfl⟩, (by first | exact .inl (by decide +kernel) | exact .inr ⟨rfl, rfl⟩)⟩)⟩, .inl rfl⟩, (by first | exact .inl (by decide +kernel) | exact .inr ⟨⟨⟨⟨rfl, rfl⟩, (by first | exact .inl (by decide +kernel) | exact .inr ⟨rfl, rfl⟩)⟩, (by first | exact .inl (by decide +kernel) | exact .inr ⟨⟨rfl, rfl⟩, (by first | exact .inl (by decide +kernel) | exact .inr ⟨rfl, rfl⟩)⟩)⟩, .inl rfl⟩)⟩ rfl rfl rfl rfl (lexg_d (I := inf) (J := jnf) (some .store) ⟨(by first | exact .inl (by decide +kernel) | exact .inr ⟨om, om⟩), (by first | exact .inl (by decide +kernel) | exact .inr ⟨om, om⟩)⟩ rfl rfl rfl rfl (lexg_d (I := inf) (J := jnf) (some .store) ⟨(by first | exact .inl (by decide +kernel) | exact .inr ⟨om, om⟩), (by first | exact .inl (by decide +kernel) | exact .inr ⟨om, om⟩)⟩ rfl rfl rfl rfl (lexg_g (I := inf) (J := jnf) none ⟨⟨⟨⟨⟨_, rfl, ob0⟩, oi⟩, oj⟩, ol⟩, on⟩ rfl rfl rfl rfl (lexg_g (I := inf) (J := jnf) none ⟨⟨⟨⟨⟨_, rfl, ob0⟩, oi⟩, oj⟩, ol⟩, on⟩ rfl rfl rfl rfl lexg_nil)))))))))))))))) rfl (fun _ => ?_) (fun h => by cases h)
  refine rX rfl ?_
  refine runS_tell 1 (fun _ => prE (dcP 5 5)) rfl (m' := 1) rfl (fun j hj => by (obtain rfl : j = 0 := by omega); rfl) rfl ?_
  refine runS_tell 2 (fun _ => typE (dcT 3)) rfl (m' := 1) rfl (fun j hj => by (obtain rfl : j = 0 := by omega); rfl) rfl ?_
  have h2 : (((0 : Int) == 0) == true) = true := rfl
  have h6 : ((if ((0 : Int) == 0) = true then ((0 : Int) == 0) else false) == true) = true := rfl
  have h11 : ((if (if ((0 : Int) == 0) = true then ((0 : Int) == 0) else false) = true then (((2 : Int) == 2) && (((3 : Int) == 3) && (((0 : Int) == 0) && (((0 : Int) == 0) && ((false == false) && (((bs []).toList == (bs []).toList) && true)))))) else false) == true) = true := by simp
  refine runS_drawG (ch := []) (A2 := fun _ => []) 17 [] (fun _ => _) none (c := 9) jnfI.draw (by kernel_rfl) rfl (lexg_g (I := inf) (J := jnf) none ⟨_, rfl, ob0⟩ rfl rfl rfl rfl (lexg_g (I := inf) (J := jnf) none ⟨_, rfl, ob0⟩ rfl rfl rfl rfl (lexg_g (I := inf) (J := jnf) none ⟨_, rfl, ob0⟩ rfl rfl rfl rfl (lexg_gT (I := inf) (J := jnf) none h2 ⟨_, rfl, ob0⟩ rfl rfl rfl rfl rfl rfl rfl rfl (lexg_gT (I := inf) (J := jnf) none h2 ⟨_, rfl, ob0⟩ rfl rfl rfl rfl rfl rfl rfl rfl (lexg_g (I := inf) (J := jnf) none ⟨_, rfl, ob0⟩ rfl rfl rfl rfl (lexg_g (I := inf) (J := jnf) none ⟨_, rfl, ob0⟩ rfl rfl rfl rfl (lexg_gT (I := inf) (J := jnf) none h6 ⟨_, rfl, ob0⟩ rfl rfl rfl rfl rfl rfl rfl rfl (lexg_gT (I := inf) (J := jnf) none h6 ⟨_, rfl, ob0⟩ rfl rfl rfl rfl rfl rfl rfl rfl (lexg_gT (I := inf) (J := jnf) none h6 ⟨_, rfl, ob0⟩ rfl rfl rfl rfl rfl rfl rfl rfl (lexg_g (I := inf) (J := jnf) none ⟨_, rfl, ob0⟩ rfl rfl rfl rfl (lexg_g (I := inf) (J := jnf) none ⟨_, rfl, ob0⟩ rfl rfl rfl rfl (lexg_gT (I := inf) (J := jnf) none h11 ⟨_, rfl, ob0⟩ rfl rfl rfl rfl rfl rfl rfl rfl (lexg_callT h11 rfl rfl rfl rfl rfl rfl rfl rfl (by repeat (first | exact .nil | refine .cons (.n rfl) ?_ | refine .cons .o ?_ | refine .cons gok_and ?_)) rfl rfl rfl rfl rfl rfl rfl (p_one 5 5) (lexg_gT (I := inf) (J := jnf) none h11 ⟨_, rfl, ob0⟩ rfl rfl rfl rfl rfl rfl rfl rfl (lexg_g (I := inf) (J := jnf) none ⟨_, rfl, ob0⟩ rfl rfl rfl rfl (lexg_g (I := inf) (J := jnf) none ⟨_, rfl, ob0⟩ rfl rfl rfl rfl lexg_nil))))))))))))))))) rfl (fun _ => ?_) (fun h => by cases h)
  refine rX rfl ?_
  refine runS_ret (I := inf) 0 rfl (Nat.le_refl _) rfl .nil rfl ⟨?_, rfl⟩
  refine congrArg (fun x => Out.ret (bv x)) (?_ : _ = true)
  simp
end Go.Iron.Tryz

/- The digits' seat: the law of valid values. -/
namespace Go.Iron.Tryz
open Go.Proofs Go.RowKit Go.Iron.Tok Go.Iron.Dg

end Go.Iron.Tryz

/- The pairs' seat: the law of Do. -/
namespace Go.Iron.Tryz
open Go.Proofs Go.RowKit Go.Iron.Tok Go.Iron.Dg

def Good (v : Vl) : Prop := v.right = true ∧ numK v.kind = true
theorem has_good {t : Typ} {v : Vl} (ht : vN t) (h : hasB t v = true) : Good v := by
  have hk := has_kind h
  unfold hasB at h
  simp at h
  refine ⟨h.1.1.2, ?_⟩
  rw [← hk]
  obtain ⟨_, hk | hk | hk⟩ := ht <;> rw [hk] <;> rfl
def PGood (x : Pr) : Prop := Good x.re ∧ Good x.im
theorem flt_k {t : Typ} (h : vN t) : (fltT t).kind = 3 := (by
  rw [flt_plain h]
  split <;> rfl)
end Go.Iron.Tryz

/- The pairs' seat: Fit of both. -/
namespace Go.Iron.Tryz
open Go.Proofs Go.RowKit Go.Iron.Tok Go.Iron.Dg

theorem d_asked1 (o0 : AO) (hk0 : ∀ l, Kept 2 l → Kept 2 (o0 :: l)) (t : Typ) (n1 : Option Bool) (l : List Vl) (hl : l.length ≤ 100000) : CallT Tryz.prog 101 [.ptr 1 0 0, vlS n1 l] [o0, .box 25 (typE t)] (fun o A => o = .ret (iv (askL (some t) l)) ∧ A = [o0, .box 25 (typE t)]) := by
  refine callS_body (n := 49) rfl rfl fun w ρ X => ?_
  refine rX rfl ?_
  refine runS_while (fun (i : Nat) τ ar => (τ 0 = .ptr 1 0 0 ∧ τ 1 = vlS n1 l ∧ τ 9 = vlS n1 l ∧ τ 10 = iv l.length ∧ τ 11 = iv i) ∧ ar = [o0, .box 25 (typE t)] ∧ i ≤ l.length ∧ (l.take i).all Vl.right = true) (fun i => l.length - i) 0 ⟨⟨rfl, rfl, rfl, rfl, rfl⟩, rfl, Nat.zero_le _, rfl⟩ ?_
  rintro i τ' ar' ⟨⟨g0, g1, g9, g10, g11⟩, rfl, hi, ha⟩ ih
  refine runS_says 0 (by exact g0) (Says.refl _) ?_; refine runS_says 1 (by exact g1) (Says.refl _) ?_; refine runS_says 9 (by exact g9) (Says.refl _) ?_; refine runS_says 10 (by exact g10) (Says.refl _) ?_; refine runS_says 11 (by exact g11) (Says.refl _) ?_
  refine rX rfl ?_
  refine runS_cond rfl (fun h => ?_) (fun h => ?_)
  · have hlt : i < l.length := by simp at h; omega
    have hw1 : IntKind.wrap .i64 ((i : Int) + 1) = ((i + 1 : Nat) : Int) := by rw [w64 (by omega) (by omega)]; rfl
    have hv := vl_get hlt
    refine runS_x (I := inf) (J := jnf) ⟨false, false, [], 0, 0⟩ 9999 rfl (by repeat (first | exact obs_nil | refine obs_draw (by kernel_rfl) ?_ | refine obs_same ?_ | refine obs_and ?_ | refine obs_by (by (simp [inB, hlt] <;> omega)) ?_)) ?_
    refine runS_call rfl rfl rfl rfl rfl rfl rfl (d_right (l.getD i ⟨0, 0, 0, []⟩).kind (l.getD i ⟨0, 0, 0, []⟩).n (l.getD i ⟨0, 0, 0, []⟩).q (l.getD i ⟨0, 0, 0, []⟩).s) ?_
    refine rX rfl ?_
    refine runS_cond rfl (fun h2 => ?_) (fun h2 => ?_)
    · have hr : (l[i]).right = false := by
        rw [← hv]
        have h3 : (!(l.getD i ⟨0, 0, 0, []⟩).right) = true := h2
        rw [Bool.not_eq_true'] at h3
        exact h3
      have hE : askL (some t) l = 1 := by
        unfold askL
        rw [if_pos]
        rw [List.all_eq_false]
        exact ⟨_, List.getElem_mem hlt, by rw [hr]; decide⟩
      rw [hE]
      refine rX rfl ?_
      exact runS_ret (I := inf) 2 rfl (Nat.le_refl _) rfl (hk0 _ (.box rfl .nil)) rfl ⟨rfl, rfl⟩
    · have hr : (l[i]).right = true := by
        rw [← hv]
        have h3 : (!(l.getD i ⟨0, 0, 0, []⟩).right) = false := h2
        rw [Bool.not_eq_false'] at h3
        exact h3
      refine rX rfl ?_
      refine runS_drop 2 (Nat.le_refl 2) rfl (hk0 _ (.box rfl .nil)) rfl rfl rfl (by repeat (first | exact .nil | refine .cons rfl rfl rfl (scrub_under _ _) ?_)) ?_
      exact ih (i + 1) _ _ (by omega) ⟨⟨rfl, rfl, rfl, rfl, congrArg iv hw1⟩, rfl, by omega, all_take ha hlt hr⟩
  · have hie : i = l.length := by simp at h; omega
    subst hie
    rw [List.take_length] at ha
    refine rX rfl ?_
    refine runS_op (.val (.bool true)) rfl rfl rfl (op_ptrNe Tryz.underlying130 rfl rfl rfl rfl) ?_
    refine rX rfl ?_
    refine runS_callU rfl rfl (by first | exact .v rfl rfl rfl rfl | exact .o rfl rfl rfl rfl) rfl rfl (by repeat (first | exact .nil | refine .cons (.n rfl) ?_ | refine .cons .o ?_ | refine .cons gok_and ?_)) rfl rfl rfl rfl rfl (fun _ => (d_valid t)) ?_
    refine rX rfl ?_
    refine runS_cond rfl (fun h => ?_) (fun h => ?_)
    · have hvt : validT t = false := by
        have h3 : (!validT t) = true := h
        rw [Bool.not_eq_true'] at h3
        exact h3
      have hE : askL (some t) l = 13 := by
        unfold askL
        rw [if_neg (by rw [ha]; decide), if_pos (by simp [hvt])]
      rw [hE]
      refine rX rfl ?_
      exact runS_ret (I := inf) 2 rfl (Nat.le_refl _) rfl (hk0 _ (.box rfl .nil)) rfl ⟨rfl, rfl⟩
    have hvt : validT t = true := by
      have h3 : (!validT t) = false := h
      rw [Bool.not_eq_false'] at h3
      exact h3
    refine rX rfl ?_
    clear ih hi g0 g1 g9 g10 g11
    refine runS_while (fun (i : Nat) τ ar => (τ 0 = .ptr 1 0 0 ∧ τ 28 = vlS n1 l ∧ τ 29 = iv l.length ∧ τ 30 = iv i) ∧ ar = [o0, .box 25 (typE t)] ∧ i ≤ l.length ∧ (l.take i).all (fun v => numK v.kind) = true) (fun i => l.length - i) 0 ⟨⟨rfl, rfl, rfl, rfl⟩, rfl, Nat.zero_le _, rfl⟩ ?_
    rintro i τ2 ar2 ⟨⟨g0, g28, g29, g30⟩, rfl, hi, hb⟩ ih
    refine runS_says 0 (by exact g0) (Says.refl _) ?_; refine runS_says 28 (by exact g28) (Says.refl _) ?_; refine runS_says 29 (by exact g29) (Says.refl _) ?_; refine runS_says 30 (by exact g30) (Says.refl _) ?_
    refine rX rfl ?_
    refine runS_cond rfl (fun h => ?_) (fun h => ?_)
    · have hlt : i < l.length := by simp at h; omega
      have hw1 : IntKind.wrap .i64 ((i : Int) + 1) = ((i + 1 : Nat) : Int) := by rw [w64 (by omega) (by omega)]; rfl
      have hv := vl_get hlt
      refine runS_x (I := inf) (J := jnf) ⟨false, false, [], 0, 0⟩ 9999 rfl (by repeat (first | exact obs_nil | refine obs_draw (by kernel_rfl) ?_ | refine obs_same ?_ | refine obs_and ?_ | refine obs_by (by (simp [inB, hlt] <;> omega)) ?_)) ?_
      refine runS_call rfl rfl rfl rfl rfl rfl rfl (d_isNumber (l.getD i ⟨0, 0, 0, []⟩).kind) ?_
      refine rX rfl ?_
      refine runS_cond rfl (fun h2 => ?_) (fun h2 => ?_)
      · have hr : numK (l[i]).kind = false := by
          rw [← hv]
          have h3 : (!numK (l.getD i ⟨0, 0, 0, []⟩).kind) = true := h2
          rw [Bool.not_eq_true'] at h3
          exact h3
        have hE : askL (some t) l = 10 := by
          unfold askL
          rw [if_neg (by rw [ha]; decide), if_neg (by simp [hvt]), if_pos]
          rw [List.all_eq_false]
          exact ⟨_, List.getElem_mem hlt, by rw [hr]; decide⟩
        rw [hE]
        refine rX rfl ?_
        exact runS_ret (I := inf) 2 rfl (Nat.le_refl _) rfl (hk0 _ (.box rfl .nil)) rfl ⟨rfl, rfl⟩
      · have hr : numK (l[i]).kind = true := by
          rw [← hv]
          have h3 : (!numK (l.getD i ⟨0, 0, 0, []⟩).kind) = false := h2
          rw [Bool.not_eq_false'] at h3
          exact h3
        refine rX rfl ?_
        refine runS_drop 2 (Nat.le_refl 2) rfl (hk0 _ (.box rfl .nil)) rfl rfl rfl (by repeat (first | exact .nil | refine .cons rfl rfl rfl (scrub_under _ _) ?_)) ?_
        exact ih (i + 1) _ _ (by omega) ⟨⟨rfl, rfl, rfl, congrArg iv hw1⟩, rfl, by omega, all_take hb hlt hr⟩
    · have hie : i = l.length := by simp at h; omega
      subst hie
      rw [List.take_length] at hb
      have hE : askL (some t) l = if numK t.kind = false then 10 else 0 := by
        unfold askL
        rw [if_neg (by rw [ha]; decide), if_neg (by simp [hvt]), if_neg (by rw [hb]; decide)]
        simp
      rw [hE]
      refine rX rfl ?_
      refine runS_op (.val (.bool true)) rfl rfl rfl (op_ptrNe Tryz.underlying130 rfl rfl rfl rfl) ?_
      refine rX rfl ?_
      refine runS_callU rfl rfl (by first | exact .v rfl rfl rfl rfl | exact .o rfl rfl rfl rfl) rfl rfl (by repeat (first | exact .nil | refine .cons (.n rfl) ?_ | refine .cons .o ?_ | refine .cons gok_and ?_)) rfl rfl rfl rfl rfl (fun _ => (d_isNumber t.kind)) ?_
      refine rX rfl ?_
      refine runS_cond rfl (fun h => ?_) (fun h => ?_)
      · have hn : numK t.kind = false := by
          have h3 : (!numK t.kind) = true := h
          rw [Bool.not_eq_true'] at h3
          exact h3
        rw [if_pos hn]
        refine rX rfl ?_
        exact runS_ret (I := inf) 2 rfl (Nat.le_refl _) rfl (hk0 _ (.box rfl .nil)) rfl ⟨rfl, rfl⟩
      · have hn : numK t.kind = true := by
          have h3 : (!numK t.kind) = false := h
          rw [Bool.not_eq_false'] at h3
          exact h3
        rw [if_neg (show ¬ numK t.kind = false by rw [hn]; decide)]
        refine rX rfl ?_
        exact runS_ret (I := inf) 2 rfl (Nat.le_refl _) rfl (hk0 _ (.box rfl .nil)) rfl ⟨rfl, rfl⟩
abbrev fitX4 (v : Vl) (t : Typ) : Int × Int × Int := fitS t.kind t.p.toNat t.q.toNat (ofE v.kind v.n v.q).neg (ofE v.kind v.n v.q).num (ofE v.kind v.n v.q).den (kF (ofE v.kind v.n v.q).num (ofE v.kind v.n v.q).den t.p.toNat) 4
def fitV (v : Vl) (t : Typ) : Vl × Int := (⟨t.kind, (fitX4 v t).1, (fitX4 v t).2.1, []⟩, (fitX4 v t).2.2)
theorem ask_fit {v : Vl} {t : Typ} (ht : vN t) (hv : Good v) : askL (some t) [v] = 0 := by
  have hn : numK t.kind = true := by obtain ⟨_, hk | hk | hk⟩ := ht <;> rw [hk] <;> rfl
  unfold askL
  rw [if_neg (by simp [hv.1]), if_neg (by simp [ht.1]), if_neg (by simp [hv.2]), if_neg (by simp [hn])]
theorem num_K {t : Typ} (ht : vN t) : numK t.kind = true := by obtain ⟨_, hk | hk | hk⟩ := ht <;> rw [hk] <;> rfl
theorem d_FitV (v : Vl) (t : Typ) (ht : vN t) (hv : Good v) : CallT Tryz.prog 96 [.agg (vlE v), .agg (typE t)] [] (fun o A => o = .ret (.tup [.agg (vlE (fitV v t).1), iv (fitV v t).2, iv 0]) ∧ A = []) := by
  obtain ⟨p1, p2, q1, q2, _⟩ := num_p ht.1 ht.2
  obtain ⟨r1, r2, r3, r4, r5, r6⟩ := right_num hv.1 hv.2
  have hf := d_fitted (ext v) t 4 ht.1 (num_K ht) ((ext_fits v hv.1 hv.2).mono (by decide) (by decide))
  have hrep := exact_rep (kd := v.kind) (n := v.n) (q := v.q) r2 (fun e => (r3 e).1)
  have he : fitL t.kind t.p.toNat t.q.toNat (ext v) 4 = fitX4 v t := fit_rep ht.2 (by omega) hrep (ofE_den _ _ _) (fun _ => rfl) (fun hn h3 => kF_is hn (Nat.ne_of_gt (ofE_den _ _ _)) (by omega))
  rw [he] at hf
  unfold fitV
  have hak := d_asked1 (.box 23 (vlE v)) (fun l hk => .box rfl hk) t none [v] (by simp)
  rw [ask_fit ht hv] at hak
  generalize fitX4 v t = F at *
  obtain ⟨f1, f2, f3⟩ := F
  dsimp only at hf ⊢
  refine callS_body (n := 26) rfl rfl fun w ρ X => ?_
  refine rX rfl ?_
  refine runS_tell 3 (vlR [v]) rfl (m' := 1) rfl (fun j hj => ?_) rfl ?_
  · rcases j with _ | j <;> first | rfl | omega
  refine runS_freeze 11 rfl rfl rfl (fun j hj => ?_) ?_
  · rcases j with _ | j <;> first | rfl | omega
  refine runS_callF [.box 23 (vlE v), .box 25 (typE t)] [.box 23 (vlE v), .box 25 (typE t)] _ rfl rfl rfl rfl rfl (show _ = [.ptr 1 0 0, vlS none [v]] from rfl) rfl (.box rfl (.box rfl .nil)) rfl rfl hak ?_
  refine rX rfl ?_
  refine runS_cond rfl (fun h => by cases h) (fun h => ?_)
  refine rX rfl ?_
  refine runS_drawG (ch := []) (A2 := fun _ => []) 10 [7, 8] (fun z => [.box 23 (vlE v), .box 25 (typE t), .box 23 vlZ, .gone] ++ cond (z.getD 0 false) [.box 23 (cond (z.getD 1 false) [iv t.kind, iv f1, iv f2, sv []] vlZ)] []) none (c := 9) jnfI.draw (by kernel_rfl) rfl (lexg_g (I := inf) (J := jnf) none ⟨⟨⟨_, rfl, ob0⟩, oi⟩, oj⟩ rfl rfl rfl rfl (lexg_call rfl rfl rfl rfl rfl rfl rfl rfl rfl (d_exactV v hv.1 hv.2) (lexg_g (I := inf) (J := jnf) none ⟨⟨⟨_, rfl, ob0⟩, oi⟩, oj⟩ rfl rfl rfl rfl (lexg_call rfl rfl rfl rfl rfl rfl rfl rfl rfl hf (lexg_g (I := inf) (J := jnf) none ⟨⟨⟨_, rfl, ob0⟩, oi⟩, oj⟩ rfl rfl rfl rfl (lexg_g (I := inf) (J := jnf) none ⟨⟨⟨_, rfl, ob0⟩, oi⟩, oj⟩ rfl rfl rfl rfl (lexg_g (I := inf) (J := jnf) none ⟨⟨⟨_, rfl, ob0⟩, oi⟩, oj⟩ rfl rfl rfl rfl (lexg_a rfl rfl ⟨⟨(show _ = _ from rfl), (by first | exact .inl (by decide +kernel) | exact .inr (show _ = _ from rfl))⟩, .inl rfl⟩ rfl rfl rfl rfl (lexg_d (I := inf) (J := jnf) (some .store) ⟨ok, ok⟩ rfl rfl rfl rfl (lexg_g (I := inf) (J := jnf) none ⟨⟨⟨_, rfl, ob0⟩, oi⟩, oj⟩ rfl rfl rfl rfl lexg_nil)))))))))) rfl (fun _ => ?_) (fun h => by cases h)
  refine rX rfl ?_
  refine runS_ret (I := inf) 0 rfl (Nat.le_refl _) rfl .nil rfl ⟨?_, rfl⟩
  rfl
theorem r_FitV (v : Vl) (t : Typ) (ht : vN t) (hv : Good v) : CallT Tryz.prog 148 [.agg (vlE v), .agg (typE t)] [] (fun o A => o = .ret (.tup [.agg (vlE (fitV v t).1), iv (fitV v t).2, iv 0]) ∧ A = []) := by
  have hf := r_fitTo (ofE v.kind v.n v.q) t 4 ht.1 (num_K ht) ((of_fit hv.1 hv.2).mono (by decide)) (Nat.ne_of_gt (ofE_den _ _ _))
  have hak := r_asked t none [v] (by simp)
  rw [ask_fit ht hv] at hak
  have hof := r_of v hv.1 hv.2
  unfold fitV
  have hf : CallT Tryz.prog 110 [exA (ofE v.kind v.n v.q), .agg (typE t), iv 4] [] (fun o A => o = .ret (numA t.kind (fitX4 v t)) ∧ A = []) := hf
  generalize fitX4 v t = F at *
  generalize ofE v.kind v.n v.q = x at *
  obtain ⟨f1, f2, f3⟩ := F
  dsimp only at hf ⊢
  refine callS_body (n := 27) rfl rfl fun w ρ X => ?_
  refine rX rfl ?_
  refine runS_tell 3 (vlR [v]) rfl (m' := 1) rfl (fun j hj => ?_) rfl ?_
  · rcases j with _ | j <;> first | rfl | omega
  refine runS_freeze 11 rfl rfl rfl (fun j hj => ?_) ?_
  · rcases j with _ | j <;> first | rfl | omega
  refine runS_call rfl rfl rfl rfl rfl rfl rfl hak ?_
  refine rX rfl ?_
  refine runS_cond rfl (fun h => by cases h) (fun h => ?_)
  refine rX rfl ?_
  refine runS_drawG (ch := []) (A2 := fun _ => []) 10 [7, 8] (fun z => [.box 23 (vlE v), .box 25 (typE t), .box 23 vlZ, .gone] ++ cond (z.getD 0 false) [.box 23 (cond (z.getD 1 false) [iv t.kind, iv f1, iv f2, sv []] vlZ)] []) none (c := 9) jnfI.draw (by kernel_rfl) rfl (lexg_g (I := inf) (J := jnf) none ⟨⟨⟨_, rfl, ob0⟩, oi⟩, oj⟩ rfl rfl rfl rfl (lexg_call rfl rfl rfl rfl rfl rfl rfl rfl rfl hof (lexg_g (I := inf) (J := jnf) none ⟨⟨⟨_, rfl, ob0⟩, oi⟩, oj⟩ rfl rfl rfl rfl (lexg_call rfl rfl rfl rfl rfl rfl rfl rfl rfl hf (lexg_g (I := inf) (J := jnf) none ⟨⟨⟨_, rfl, ob0⟩, oi⟩, oj⟩ rfl rfl rfl rfl (lexg_g (I := inf) (J := jnf) none ⟨⟨⟨_, rfl, ob0⟩, oi⟩, oj⟩ rfl rfl rfl rfl (lexg_g (I := inf) (J := jnf) none ⟨⟨⟨_, rfl, ob0⟩, oi⟩, oj⟩ rfl rfl rfl rfl (lexg_a rfl rfl ⟨⟨(show _ = _ from rfl), (by first | exact .inl (by decide +kernel) | exact .inr (show _ = _ from rfl))⟩, .inl rfl⟩ rfl rfl rfl rfl (lexg_d (I := inf) (J := jnf) (some .store) ⟨ok, ok⟩ rfl rfl rfl rfl (lexg_g (I := inf) (J := jnf) none ⟨⟨⟨_, rfl, ob0⟩, oi⟩, oj⟩ rfl rfl rfl rfl lexg_nil)))))))))) rfl (fun _ => ?_) (fun h => by cases h)
  refine rX rfl ?_
  refine runS_ret (I := inf) 0 rfl (Nat.le_refl _) rfl .nil rfl ⟨?_, rfl⟩
  rfl
end Go.Iron.Tryz

/- The pairs' seat: powers, of the program. -/
namespace Go.Iron.Tryz
open Go.Proofs Go.RowKit Go.Iron.Tok Go.Iron.Dg

def fitE (v : Vl) (t : Typ) : Except Int Vl := if (fitV v t).2 = 0 then .ok (fitV v t).1 else .error (fitV v t).2
def fitPE (x : Pr) (t : Typ) : Except Int Pr :=
  match fitE x.re t with
  | .error c => .error c
  | .ok a => match fitE x.im t with
    | .error c => .error c
    | .ok b => .ok ⟨a, b⟩
theorem p_fit1 (v : Vl) (t : Typ) (ht : vN t) (hv : Good v) : CallT Tryz.prog 95 [.agg (vlE v), .loc (typE t) 0] [] (fun o A => o = outV (fitE v t) ∧ A = []) := by
  have hf := d_FitV v t ht hv
  unfold fitE
  generalize fitV v t = F at *
  obtain ⟨w, c⟩ := F
  dsimp only at hf ⊢
  refine callS_body (n := 20) rfl rfl fun w ρ X => ?_
  refine rX rfl ?_
  refine runS_call rfl rfl rfl rfl rfl rfl rfl hf ?_
  refine rX rfl ?_
  refine runS_cond rfl (fun h => ?_) (fun h => ?_)
  · have hc : c ≠ 0 := by
      have h3 : (!(c == 0)) = true := h
      simpa using h3
    rw [if_neg hc]
    refine rX rfl ?_
    exact runS_pan 0 rfl (Nat.le_refl _) rfl .nil ⟨rfl, rfl⟩
  · have hc : c = 0 := by
      have h3 : (!(c == 0)) = false := h
      simpa using h3
    rw [if_pos hc]
    refine rX rfl ?_
    refine runS_ret (I := inf) 0 rfl (Nat.le_refl _) rfl .nil rfl ⟨?_, rfl⟩
    rfl
theorem p_partsV (x : Pr) (t : Typ) (ht : vN t) (hx : PGood x) : CallT Tryz.prog 97 [.agg (prE x), .fn (.func 95) [.loc (typE t) 0]] [] (fun o A => o = outP (fitPE x t) ∧ A = []) := by
  have h1 := p_fit1 x.re t ht hx.1
  have h2 := p_fit1 x.im t ht hx.2
  unfold fitPE
  refine callS_body (n := 14) rfl rfl fun w ρ X => ?_
  refine rX rfl ?_
  cases e1 : fitE x.re t with
  | error c =>
    rw [e1] at h1
    dsimp only
    refine runS_drawG 10 [] (fun _ => _) (some 3) (c := 9) jnfI.draw (by kernel_rfl) rfl (lexg_g (I := inf) (J := jnf) none ⟨_, rfl, ob0⟩ rfl rfl rfl rfl (lexg_g (I := inf) (J := jnf) none ⟨_, rfl, ob0⟩ rfl rfl rfl rfl (lexg_g (I := inf) (J := jnf) none ⟨_, rfl, ob0⟩ rfl rfl rfl rfl (lexg_pan rfl rfl rfl rfl rfl rfl rfl rfl h1 (lexg_g (I := inf) (J := jnf) none ⟨_, rfl, ob0⟩ rfl rfl rfl rfl (lexg_g (I := inf) (J := jnf) none ⟨_, rfl, ob0⟩ rfl rfl rfl rfl (lexg_g (I := inf) (J := jnf) none ⟨_, rfl, ob0⟩ rfl rfl rfl rfl (lexg_late rfl (by kernel_rfl) (lexg_late rfl (by kernel_rfl) (lexg_late rfl (by kernel_rfl) lexg_nil)))))))))) rfl (fun h => by cases h) (fun _ b tt => ?_)
    refine rX rfl ?_
    exact runS_pan 0 rfl (Nat.le_refl _) rfl .nil ⟨rfl, rfl⟩
  | ok a =>
    rw [e1] at h1
    dsimp only
    cases e2 : fitE x.im t with
    | error c =>
      rw [e2] at h2
      dsimp only
      refine runS_drawG 10 [] (fun _ => _) (some 7) (c := 9) jnfI.draw (by kernel_rfl) rfl (lexg_g (I := inf) (J := jnf) none ⟨_, rfl, ob0⟩ rfl rfl rfl rfl (lexg_g (I := inf) (J := jnf) none ⟨_, rfl, ob0⟩ rfl rfl rfl rfl (lexg_g (I := inf) (J := jnf) none ⟨_, rfl, ob0⟩ rfl rfl rfl rfl (lexg_call rfl rfl rfl rfl rfl rfl rfl rfl rfl h1 (lexg_g (I := inf) (J := jnf) none ⟨_, rfl, ob0⟩ rfl rfl rfl rfl (lexg_g (I := inf) (J := jnf) none ⟨_, rfl, ob0⟩ rfl rfl rfl rfl (lexg_g (I := inf) (J := jnf) none ⟨_, rfl, ob0⟩ rfl rfl rfl rfl (lexg_pan rfl rfl rfl rfl rfl rfl rfl rfl h2 (lexg_late rfl (by kernel_rfl) (lexg_late rfl (by kernel_rfl) lexg_nil)))))))))) rfl (fun h => by cases h) (fun _ b tt => ?_)
      refine rX rfl ?_
      exact runS_pan 0 rfl (Nat.le_refl _) rfl .nil ⟨rfl, rfl⟩
    | ok b =>
      rw [e2] at h2
      dsimp only
      refine runS_drawG (ch := []) (A2 := fun _ => []) 10 [9] (fun z => [.box 41 (prE x), .box 123 (cond (z.getD 0 false) (prE ⟨a, b⟩) (prE pr0))]) none (c := 9) jnfI.draw (by kernel_rfl) rfl (lexg_g (I := inf) (J := jnf) none ⟨⟨_, rfl, ob0⟩, oi⟩ rfl rfl rfl rfl (lexg_g (I := inf) (J := jnf) none ⟨⟨_, rfl, ob0⟩, oi⟩ rfl rfl rfl rfl (lexg_g (I := inf) (J := jnf) none ⟨⟨_, rfl, ob0⟩, oi⟩ rfl rfl rfl rfl (lexg_call rfl rfl rfl rfl rfl rfl rfl rfl rfl h1 (lexg_g (I := inf) (J := jnf) none ⟨⟨_, rfl, ob0⟩, oi⟩ rfl rfl rfl rfl (lexg_g (I := inf) (J := jnf) none ⟨⟨_, rfl, ob0⟩, oi⟩ rfl rfl rfl rfl (lexg_g (I := inf) (J := jnf) none ⟨⟨_, rfl, ob0⟩, oi⟩ rfl rfl rfl rfl (lexg_call rfl rfl rfl rfl rfl rfl rfl rfl rfl h2 (lexg_g (I := inf) (J := jnf) none ⟨⟨_, rfl, ob0⟩, oi⟩ rfl rfl rfl rfl (lexg_g (I := inf) (J := jnf) (some .store) ⟨⟨_, rfl, ob0⟩, .inl rfl⟩ rfl rfl rfl rfl lexg_nil)))))))))) rfl (fun _ => ?_) (fun h => by cases h)
      refine rX rfl ?_
      refine runS_ret (I := inf) 0 rfl (Nat.le_refl _) rfl .nil rfl ⟨?_, rfl⟩
      rfl
def powL (t : Typ) (y : Pr) (p : Nat) : Nat → Pr → Except Int Pr
  | 0, r => .ok r
  | k + 1, r => if p / 2 ^ k = 0 then powL t y p k r else match timesV t r r with
    | .error c => .error c
    | .ok r2 => if p / 2 ^ k % 2 = 1 then (match timesV t r2 y with
      | .error c => .error c
      | .ok r3 => powL t y p k r3) else powL t y p k r2
def powE (t : Typ) (x : Pr) (p : Nat) : Except Int Pr :=
  match fitPE x t with
  | .error c => .error c
  | .ok y => powL t y p 8 ⟨⟨(zeroV t).1.kind, 1, (zeroV t).1.q, (zeroV t).1.s⟩, (zeroV t).1⟩
theorem shr_natP (n Q : Nat) (hQ : Q ≤ 60) : ((n : Int)).fdiv (2 ^ (min ((Q : Int)).toNat IntKind.i64.bits)) = ((n / 2 ^ Q : Nat) : Int) := by
  have h1 : min ((Q : Int)).toNat IntKind.i64.bits = Q := by
    show min ((Q : Int)).toNat 64 = Q
    omega
  rw [h1]
  have h2 : ((2 : Int) ^ Q) = ((2 ^ Q : Nat) : Int) := by simp
  rw [h2]
  exact Int.ofNat_fdiv n (2 ^ Q) |>.symm
theorem and_natP {n m : Nat} (hn : n < 4611686018427387904) (hm : m < 4611686018427387904) : IntKind.wrap .i64 ((BitVec.ofInt IntKind.i64.bits (n : Int) &&& BitVec.ofInt IntKind.i64.bits (m : Int)).toNat : Int) = ((n &&& m : Nat) : Int) := by
  have e : (BitVec.ofInt IntKind.i64.bits (n : Int) &&& BitVec.ofInt IntKind.i64.bits (m : Int)).toNat = n &&& m := by
    show (BitVec.ofInt 64 (n : Int) &&& BitVec.ofInt 64 (m : Int)).toNat = n &&& m
    rw [BitVec.toNat_and, BitVec.ofInt_natCast, BitVec.ofInt_natCast, BitVec.toNat_ofNat, BitVec.toNat_ofNat, Nat.mod_eq_of_lt (by omega), Nat.mod_eq_of_lt (by omega)]
  have hle : n &&& m ≤ n := Nat.and_le_left
  rw [e, w64 (by omega) (by omega)]
theorem p_pow1 (x : Pr) (t : Typ) (p : Nat) (hp : p ≤ 100) (ht : vN t) (hx : PGood x) : CallT Tryz.prog 94 [.loc (typE t) 0, .loc (prE x) 0, .loc (nuE t) 0, .loc [iv p] 0] [] (fun o A => o = outP (powE t x p) ∧ A = []) := by
  have hf := p_partsV x t ht hx
  have hz := p_zero t
  unfold powE
  cases e1 : fitPE x t with
  | error c =>
    rw [e1] at hf
    dsimp only
    refine callS_body (n := 48) rfl rfl fun w ρ X => ?_
    refine rX rfl ?_
    refine runS_callP rfl rfl rfl rfl rfl rfl rfl hf ?_
    refine rX rfl ?_
    exact runS_pan 0 rfl (Nat.le_refl _) rfl .nil ⟨rfl, rfl⟩
  | ok y =>
    rw [e1] at hf
    dsimp only
    refine callS_body (n := 48) rfl rfl fun w ρ X => ?_
    refine rX rfl ?_
    refine runS_call rfl rfl rfl rfl rfl rfl rfl hf ?_
    refine rX rfl ?_
    refine runS_call rfl rfl rfl rfl rfl rfl rfl hz ?_
    unfold zeroP
    generalize (zeroV t).1 = z0 at *
    refine rX rfl ?_
    refine runS_op (.bnd (.func 99) [.agg (nuE t)]) rfl rfl rfl (op_makeBound rfl rfl) ?_
    refine rX rfl ?_
    refine runS_while (fun (z : Nat × Pr) τ ar => (τ 3 = .loc [iv p] 0 ∧ τ 7 = .ptr 2 0 0 ∧ τ 8 = .ptr 3 0 0 ∧ τ 4 = .ptr 0 0 0 ∧ τ 9 = .bnd (.func 99) [.agg (nuE t)] ∧ τ 10 = iv ((z.1 : Int) - 1)) ∧ ar = [.box 41 (prE pr0), .box 123 (prE y), .box 41 (prE y), .box 41 (prE z.2)] ∧ z.1 ≤ 8 ∧ powL t y p 8 ⟨⟨z0.kind, 1, z0.q, z0.s⟩, z0⟩ = powL t y p z.1 z.2) (fun z => z.1) (8, ⟨⟨z0.kind, 1, z0.q, z0.s⟩, z0⟩) ⟨⟨rfl, rfl, rfl, rfl, rfl, rfl⟩, rfl, Nat.le_refl _, rfl⟩ ?_
    rintro ⟨k, r⟩ τ2 ar2 ⟨⟨g3, g7, g8, g4, g9, g10⟩, rfl, hk8, hpk⟩ ih
    dsimp only at g10 hk8 hpk ih ⊢
    rw [hpk]
    cases k with
    | zero =>
      refine runS_says 3 (by exact g3) (Says.refl _) ?_; refine runS_says 7 (by exact g7) (Says.refl _) ?_; refine runS_says 8 (by exact g8) (Says.refl _) ?_; refine runS_says 4 (by exact g4) (Says.refl _) ?_; refine runS_says 9 (by exact g9) (Says.refl _) ?_; refine runS_says 10 (by exact g10) (Says.refl _) ?_
      refine rX rfl ?_
      refine runS_cond rfl (fun h => by have h3 := of_decide_eq_true h; omega) (fun h => ?_)
      refine rX rfl ?_
      refine runS_ret (I := inf) 0 rfl (Nat.le_refl _) rfl .nil rfl ⟨?_, rfl⟩
      rfl
    | succ j =>
      have hj : (((j + 1 : Nat) : Int) - 1) = (j : Int) := by omega
      rw [hj] at g10
      have hwj : IntKind.wrap .i64 ((j : Int) - 1) = (j : Int) - 1 := w64 (by omega) (by omega)
      have hsh := shr_natP p j (by omega)
      have hdl : p / 2 ^ j ≤ p := Nat.div_le_self _ _
      have hc0 : (((p : Int)).fdiv (2 ^ (min ((j : Int)).toNat IntKind.i64.bits)) == 0) = decide (p / 2 ^ j = 0) := by
        rw [hsh, Bool.eq_iff_iff, beq_iff_eq, decide_eq_true_iff]
        omega
      have hc1 : (IntKind.wrap .i64 ((BitVec.ofInt IntKind.i64.bits (((p : Int)).fdiv (2 ^ (min ((j : Int)).toNat IntKind.i64.bits))) &&& BitVec.ofInt IntKind.i64.bits 1).toNat : Int) == 1) = decide (p / 2 ^ j % 2 = 1) := by
        rw [hsh]
        have h1 := and_natP (n := p / 2 ^ j) (m := 1) (by omega) (by decide)
        rw [Nat.and_one_is_mod] at h1
        have h1 : IntKind.wrap .i64 ((BitVec.ofInt IntKind.i64.bits ((p / 2 ^ j : Nat) : Int) &&& BitVec.ofInt IntKind.i64.bits 1).toNat : Int) = ((p / 2 ^ j % 2 : Nat) : Int) := h1
        rw [h1, Bool.eq_iff_iff, beq_iff_eq, decide_eq_true_iff]
        omega
      refine runS_says 3 (by exact g3) (Says.refl _) ?_; refine runS_says 7 (by exact g7) (Says.refl _) ?_; refine runS_says 8 (by exact g8) (Says.refl _) ?_; refine runS_says 4 (by exact g4) (Says.refl _) ?_; refine runS_says 9 (by exact g9) (Says.refl _) ?_; refine runS_says 10 (by exact g10) (Says.refl _) ?_
      refine rX rfl ?_
      refine runS_cond rfl (fun h => ?_) (fun h => by have h3 := of_decide_eq_false h; omega)
      clear h
      refine rX rfl ?_
      refine runS_cond rfl (fun h => ?_) (fun h => ?_)
      · have h0 := of_decide_eq_true (hc0.symm.trans h)
        have hpl0 : powL t y p (j + 1) r = powL t y p j r := if_pos h0
        rw [hpl0] at hpk ⊢
        rw [hpk] at ih
        clear hc0 hc1 hsh h
        refine rX rfl ?_
        exact ih (j, r) _ _ (Nat.lt_succ_self j) ⟨⟨rfl, rfl, rfl, rfl, rfl, congrArg iv hwj⟩, rfl, by dsimp only; omega, rfl⟩
      · have h0 := of_decide_eq_false (hc0.symm.trans h)
        have hpl : powL t y p (j + 1) r = (match timesV t r r with
            | .error c => .error c
            | .ok r2 => if p / 2 ^ j % 2 = 1 then (match timesV t r2 y with
              | .error c => .error c
              | .ok r3 => powL t y p j r3) else powL t y p j r2) := if_neg h0
        have ht1 := p_times t r r
        clear hc0 h
        refine rX rfl ?_
        cases e1 : timesV t r r with
        | error c =>
          rw [e1] at ht1 hpl
          rw [hpl]
          refine runS_callBAP rfl rfl rfl rfl rfl rfl rfl ht1 ?_
          refine rX rfl ?_
          exact runS_pan 0 rfl (Nat.le_refl _) rfl .nil ⟨rfl, rfl⟩
        | ok r2 =>
          rw [e1] at ht1 hpl
          dsimp only at hpl
          refine runS_callBA rfl rfl rfl rfl rfl rfl rfl ht1 ?_
          refine rX rfl ?_
          refine runS_cond rfl (fun h => ?_) (fun h => ?_)
          · have h1 := of_decide_eq_true (hc1.symm.trans h)
            rw [if_pos h1] at hpl
            have ht2 := p_times t r2 y
            clear hc1 hsh h
            refine rX rfl ?_
            cases e2 : timesV t r2 y with
            | error c =>
              rw [e2] at ht2 hpl
              rw [hpl]
              refine runS_callBAP rfl rfl rfl rfl rfl rfl rfl ht2 ?_
              refine rX rfl ?_
              exact runS_pan 0 rfl (Nat.le_refl _) rfl .nil ⟨rfl, rfl⟩
            | ok r3 =>
              rw [e2] at ht2 hpl
              refine runS_callBA rfl rfl rfl rfl rfl rfl rfl ht2 ?_
              refine rX rfl ?_
              rw [hpl]
              rw [hpl] at hpk
              rw [hpk] at ih
              exact ih (j, r3) _ _ (Nat.lt_succ_self j) ⟨⟨rfl, rfl, rfl, rfl, rfl, congrArg iv hwj⟩, rfl, by dsimp only; omega, rfl⟩
          · have h1 := of_decide_eq_false (hc1.symm.trans h)
            rw [if_neg h1] at hpl
            clear hc1 hsh h
            refine rX rfl ?_
            rw [hpl]
            rw [hpl] at hpk
            rw [hpk] at ih
            exact ih (j, r2) _ _ (Nat.lt_succ_self j) ⟨⟨rfl, rfl, rfl, rfl, rfl, congrArg iv hwj⟩, rfl, by dsimp only; omega, rfl⟩
end Go.Iron.Tryz

/- The pairs' seat: Power of the program. -/
namespace Go.Iron.Tryz
open Go.Proofs Go.RowKit Go.Iron.Tok Go.Iron.Dg

theorem ask_vN1 {x : Pr} {ta : Typ} (h : askP [x] [ta] = 0) : vN ta ∧ pHas ta x = true := by
  unfold askP at h
  by_cases h1 : ([x].all pRight) = false
  · rw [if_pos h1] at h
    cases h
  · rw [if_neg h1] at h
    by_cases h2 : ((List.range [x].length).all fun i => validT ([ta].getD i ty0) && pHas ([ta].getD i ty0) ([x].getD i pr0)) = false
    · rw [if_pos h2] at h
      cases h
    · rw [if_neg h2] at h
      by_cases h3 : ([ta].all fun t => decide (t.kind ≤ 3)) = false
      · rw [if_pos h3] at h
        cases h
      · simp [List.range_succ] at h2 h3
        obtain ⟨a1, a2⟩ := h2
        obtain ⟨k1, _⟩ := valid_kind a1
        exact ⟨⟨a1, by omega⟩, a2⟩
theorem has_PG {t : Typ} {x : Pr} (ht : vN t) (h : pHas t x = true) : PGood x := by
  unfold pHas at h
  rw [Bool.and_eq_true] at h
  exact ⟨has_good ht h.1, has_good ht h.2⟩
def powP (x : Pr) (p : Int) (ta : Typ) : Pr × Typ × Int × Int :=
  if askP [x] [ta] ≠ 0 then (pr0, ty0, 0, askP [x] [ta])
  else if p < 0 ∨ p > 100 then (pr0, ty0, 0, 7)
  else ((safeV (fltT ta) (powE (fltT ta) x p.toNat)).1, fltT ta, (safeV (fltT ta) (powE (fltT ta) x p.toNat)).2, 0)
theorem p_Power (x : Pr) (p : Int) (ta : Typ) : CallT Tryz.prog 39 [.agg (prE x), iv p, .agg (typE ta)] [] (fun o A => o = .ret (doA (powP x p ta).1 (powP x p ta).2.1 (powP x p ta).2.2.1 (powP x p ta).2.2.2) ∧ A = []) := by
  have hak := p_asked none none [x] [ta] (by simp) rfl
  unfold powP
  refine callS_body (n := 50) rfl rfl fun w ρ X => ?_
  refine rX rfl ?_
  refine runS_tell 5 (prR [x]) rfl (m' := 1) rfl (fun j hj => ?_) rfl ?_
  · rcases j with _ | j <;> first | rfl | omega
  refine runS_tell 6 (tyR [ta]) rfl (m' := 1) rfl (fun j hj => ?_) rfl ?_
  · rcases j with _ | j <;> first | rfl | omega
  refine runS_freeze 17 rfl rfl rfl (fun j hj => ?_) ?_
  · rcases j with _ | j <;> first | rfl | omega
  refine runS_freeze 19 rfl rfl rfl (fun j hj => ?_) ?_
  · rcases j with _ | j <;> first | rfl | omega
  refine runS_call rfl rfl rfl rfl rfl rfl rfl hak ?_
  refine rX rfl ?_
  refine runS_cond rfl (fun h => ?_) (fun h => ?_)
  · have h3 : askP [x] [ta] ≠ 0 := by
      have h3 : (!(askP [x] [ta] == 0)) = true := h
      simpa using h3
    rw [if_pos h3]
    refine rX rfl ?_
    refine runS_ret (I := inf) 0 rfl (Nat.le_refl _) rfl .nil rfl ⟨?_, rfl⟩
    rfl
  · have h0 : askP [x] [ta] = 0 := by
      have h3 : (!(askP [x] [ta] == 0)) = false := h
      simpa using h3
    rw [if_neg (fun e => e h0)]
    obtain ⟨va, hxa⟩ := ask_vN1 h0
    refine rX rfl ?_
    refine runS_cond rfl (fun h => ?_) (fun h => ?_)
    · have h1 : p < 0 ∨ p > 100 := by
        have h3 : (if decide (p < 0) = true then true else decide (p > 100)) = true := h
        by_cases e : p < 0
        · exact .inl e
        · rw [if_neg (by simpa using e)] at h3
          exact .inr (of_decide_eq_true h3)
      rw [if_pos h1]
      refine rX rfl ?_
      refine runS_ret (I := inf) 0 rfl (Nat.le_refl _) rfl .nil rfl ⟨?_, rfl⟩
      rfl
    · have h1 : ¬ (p < 0 ∨ p > 100) := by
        have h3 : (if decide (p < 0) = true then true else decide (p > 100)) = false := h
        by_cases e : p < 0
        · rw [if_pos (by simpa using e)] at h3
          cases h3
        · rw [if_neg (by simpa using e)] at h3
          rintro (h | h)
          · exact e h
          · exact (of_decide_eq_false h3) h
      rw [if_neg h1]
      obtain ⟨q, rfl⟩ : ∃ q : Nat, p = (q : Int) := ⟨p.toNat, by omega⟩
      rw [Int.toNat_natCast]
      have hF := p_Float ta va
      have hvf := vn_flt va
      generalize fltT ta = t at *
      have hR := p_safe t (powE t x q) (g := 94) (caps := [.loc (typE t) 0, .loc (prE x) 0, .loc (nuE t) 0, .loc [iv q] 0]) rfl (p_pow1 x t q (by omega) hvf (has_PG va hxa))
      generalize powE t x q = R at *
      generalize safeV t R = S at *
      obtain ⟨z, c⟩ := S
      dsimp only at hR ⊢
      refine rX rfl ?_
      refine runS_call rfl rfl rfl rfl rfl rfl rfl hF ?_
      refine rX rfl ?_
      refine runS_freezeBox 7 rfl rfl rfl ?_
      refine runS_freezeBox 0 rfl rfl rfl ?_
      refine runS_freezeBox 8 rfl rfl rfl ?_
      refine runS_freezeBox 1 rfl rfl rfl ?_
      refine runS_call rfl rfl rfl rfl rfl rfl rfl hR ?_
      refine rX rfl ?_
      refine runS_drawG (ch := []) (A2 := fun _ => []) 7 [3, 4] (fun w => [.gone, .gone, .box 25 (typE ta), .box 41 (cond (w.getD 0 false) (prE z) (prE pr0)), .box 25 (cond (w.getD 1 false) (typE t) (typE ty0)), .gone, .gone, .gone, .gone, .box 41 (prE z)]) none (c := 9) jnfI.draw (by kernel_rfl) rfl (lexg_g (I := inf) (J := jnf) none ⟨⟨⟨_, rfl, ob0⟩, oi⟩, oj⟩ rfl rfl rfl rfl (lexg_g (I := inf) (J := jnf) none ⟨⟨⟨_, rfl, ob0⟩, oi⟩, oj⟩ rfl rfl rfl rfl (lexg_g (I := inf) (J := jnf) none ⟨⟨⟨_, rfl, ob0⟩, oi⟩, oj⟩ rfl rfl rfl rfl (lexg_g (I := inf) (J := jnf) (some .store) ⟨⟨⟨_, rfl, ob0⟩, oi⟩, .inl rfl⟩ rfl rfl rfl rfl (lexg_g (I := inf) (J := jnf) (some .store) ⟨⟨⟨_, rfl, ob0⟩, .inl rfl⟩, (by first | exact .inl (by decide +kernel) | exact .inr ⟨⟨_, rfl, ob0⟩, .inl rfl⟩)⟩ rfl rfl rfl rfl (lexg_g (I := inf) (J := jnf) none ⟨⟨⟨_, rfl, ob0⟩, oi⟩, oj⟩ rfl rfl rfl rfl (lexg_g (I := inf) (J := jnf) none ⟨⟨⟨_, rfl, ob0⟩, oi⟩, oj⟩ rfl rfl rfl rfl lexg_nil))))))) rfl (fun _ => ?_) (fun h => by cases h)
      refine rX rfl ?_
      refine runS_ret (I := inf) 0 rfl (Nat.le_refl _) rfl .nil rfl ⟨?_, rfl⟩
      rfl
end Go.Iron.Tryz

/- The pairs' seat: the reference's Fit, steps of powers. -/
namespace Go.Iron.Tryz
open Go.Proofs Go.RowKit Go.Iron.Tok Go.Iron.Dg

theorem r_step7 (o0 o1 o2 o3 o4 o5 o6 : AO) (hk0 : ∀ l, Kept 8 l → Kept 8 (o0 :: o1 :: o2 :: o3 :: o4 :: o5 :: o6 :: l)) (op : UInt8) (hop : op = 43 ∨ op = 45 ∨ op = 42 ∨ op = 47) (t : Typ) (c : Int) (a b : Vl) : CallT Tryz.prog 76 [.ptr 7 0 0, sv [op], .agg (vlE a), .agg (vlE b)] [o0, o1, o2, o3, o4, o5, o6, .box 101 (stE t c)] (fun o A => o = .ret (.agg (vlE (stepV op t c a b).1)) ∧ A = [o0, o1, o2, o3, o4, o5, o6, .box 101 (stE t (stepV op t c a b).2)]) := by
  have hd := r_do op hop a b t
  unfold stepV
  generalize doV op a b t = R at *
  obtain ⟨v, c2, e⟩ := R
  dsimp only at hd ⊢
  refine callS_body (n := 35) rfl rfl fun w ρ X => ?_
  refine rX rfl ?_
  refine runS_cond rfl (fun h => ?_) (fun h => ?_)
  · have hc : c ≠ 0 := by
      have h3 : (!(c == 0)) = true := h
      simpa using h3
    rw [if_pos hc]
    refine rX rfl ?_
    exact runS_ret (I := inf) 8 rfl (Nat.le_refl _) rfl (hk0 _ (.box rfl .nil)) rfl ⟨rfl, rfl⟩
  · have hc : c = 0 := by
      have h3 : (!(c == 0)) = false := h
      simpa using h3
    subst hc
    rw [if_neg (by decide)]
    refine rX rfl ?_
    refine runS_drawG (ch := []) (A2 := fun _ => []) 16 [12, 13] (fun z => [o0, o1, o2, o3, o4, o5, o6, .box 101 (stE t 0), .box 23 (vlE a), .box 23 (vlE b), .box 23 vlZ] ++ cond (z.getD 0 false) [.box 23 (cond (z.getD 1 false) (vlE v) vlZ)] []) none (c := 9) jnfI.draw (by kernel_rfl) rfl (lexg_g (I := inf) (J := jnf) none ⟨⟨⟨_, rfl, ob0⟩, oi⟩, oj⟩ rfl rfl rfl rfl (lexg_g (I := inf) (J := jnf) none ⟨⟨⟨_, rfl, ob0⟩, oi⟩, oj⟩ rfl rfl rfl rfl (lexg_g (I := inf) (J := jnf) none ⟨⟨⟨_, rfl, ob0⟩, oi⟩, oj⟩ rfl rfl rfl rfl (lexg_g (I := inf) (J := jnf) none ⟨⟨⟨_, rfl, ob0⟩, oi⟩, oj⟩ rfl rfl rfl rfl (lexg_g (I := inf) (J := jnf) none ⟨⟨⟨_, rfl, ob0⟩, oi⟩, oj⟩ rfl rfl rfl rfl (lexg_g (I := inf) (J := jnf) none ⟨⟨⟨_, rfl, ob0⟩, oi⟩, oj⟩ rfl rfl rfl rfl (lexg_g (I := inf) (J := jnf) none ⟨⟨⟨_, rfl, ob0⟩, oi⟩, oj⟩ rfl rfl rfl rfl (lexg_call rfl rfl rfl rfl rfl rfl rfl rfl rfl hd (lexg_g (I := inf) (J := jnf) none ⟨⟨⟨_, rfl, ob0⟩, oi⟩, oj⟩ rfl rfl rfl rfl (lexg_g (I := inf) (J := jnf) none ⟨⟨⟨_, rfl, ob0⟩, oi⟩, oj⟩ rfl rfl rfl rfl (lexg_g (I := inf) (J := jnf) none ⟨⟨⟨_, rfl, ob0⟩, oi⟩, oj⟩ rfl rfl rfl rfl (lexg_g (I := inf) (J := jnf) none ⟨⟨⟨_, rfl, ob0⟩, oi⟩, oj⟩ rfl rfl rfl rfl (lexg_a rfl rfl ⟨⟨(show _ = _ from rfl), (by first | exact .inl (by decide +kernel) | exact .inr (show _ = _ from rfl))⟩, .inl rfl⟩ rfl rfl rfl rfl (lexg_d (I := inf) (J := jnf) (some .store) ⟨ok, ok⟩ rfl rfl rfl rfl (lexg_g (I := inf) (J := jnf) none ⟨⟨⟨_, rfl, ob0⟩, oi⟩, oj⟩ rfl rfl rfl rfl (lexg_g (I := inf) (J := jnf) none ⟨⟨⟨_, rfl, ob0⟩, oi⟩, oj⟩ rfl rfl rfl rfl lexg_nil)))))))))))))))) rfl (fun _ => ?_) (fun h => by cases h)
    refine rX rfl ?_
    exact runS_ret (I := inf) 8 rfl (Nat.le_refl _) rfl (hk0 _ (.box rfl .nil)) rfl ⟨rfl, rfl⟩
theorem r_step8 (o0 o1 o2 o3 o4 o5 o6 o7 : AO) (hk0 : ∀ l, Kept 9 l → Kept 9 (o0 :: o1 :: o2 :: o3 :: o4 :: o5 :: o6 :: o7 :: l)) (op : UInt8) (hop : op = 43 ∨ op = 45 ∨ op = 42 ∨ op = 47) (t : Typ) (c : Int) (a b : Vl) : CallT Tryz.prog 76 [.ptr 8 0 0, sv [op], .agg (vlE a), .agg (vlE b)] [o0, o1, o2, o3, o4, o5, o6, o7, .box 101 (stE t c)] (fun o A => o = .ret (.agg (vlE (stepV op t c a b).1)) ∧ A = [o0, o1, o2, o3, o4, o5, o6, o7, .box 101 (stE t (stepV op t c a b).2)]) := by
  have hd := r_do op hop a b t
  unfold stepV
  generalize doV op a b t = R at *
  obtain ⟨v, c2, e⟩ := R
  dsimp only at hd ⊢
  refine callS_body (n := 35) rfl rfl fun w ρ X => ?_
  refine rX rfl ?_
  refine runS_cond rfl (fun h => ?_) (fun h => ?_)
  · have hc : c ≠ 0 := by
      have h3 : (!(c == 0)) = true := h
      simpa using h3
    rw [if_pos hc]
    refine rX rfl ?_
    exact runS_ret (I := inf) 9 rfl (Nat.le_refl _) rfl (hk0 _ (.box rfl .nil)) rfl ⟨rfl, rfl⟩
  · have hc : c = 0 := by
      have h3 : (!(c == 0)) = false := h
      simpa using h3
    subst hc
    rw [if_neg (by decide)]
    refine rX rfl ?_
    refine runS_drawG (ch := []) (A2 := fun _ => []) 16 [12, 13] (fun z => [o0, o1, o2, o3, o4, o5, o6, o7, .box 101 (stE t 0), .box 23 (vlE a), .box 23 (vlE b), .box 23 vlZ] ++ cond (z.getD 0 false) [.box 23 (cond (z.getD 1 false) (vlE v) vlZ)] []) none (c := 9) jnfI.draw (by kernel_rfl) rfl (lexg_g (I := inf) (J := jnf) none ⟨⟨⟨_, rfl, ob0⟩, oi⟩, oj⟩ rfl rfl rfl rfl (lexg_g (I := inf) (J := jnf) none ⟨⟨⟨_, rfl, ob0⟩, oi⟩, oj⟩ rfl rfl rfl rfl (lexg_g (I := inf) (J := jnf) none ⟨⟨⟨_, rfl, ob0⟩, oi⟩, oj⟩ rfl rfl rfl rfl (lexg_g (I := inf) (J := jnf) none ⟨⟨⟨_, rfl, ob0⟩, oi⟩, oj⟩ rfl rfl rfl rfl (lexg_g (I := inf) (J := jnf) none ⟨⟨⟨_, rfl, ob0⟩, oi⟩, oj⟩ rfl rfl rfl rfl (lexg_g (I := inf) (J := jnf) none ⟨⟨⟨_, rfl, ob0⟩, oi⟩, oj⟩ rfl rfl rfl rfl (lexg_g (I := inf) (J := jnf) none ⟨⟨⟨_, rfl, ob0⟩, oi⟩, oj⟩ rfl rfl rfl rfl (lexg_call rfl rfl rfl rfl rfl rfl rfl rfl rfl hd (lexg_g (I := inf) (J := jnf) none ⟨⟨⟨_, rfl, ob0⟩, oi⟩, oj⟩ rfl rfl rfl rfl (lexg_g (I := inf) (J := jnf) none ⟨⟨⟨_, rfl, ob0⟩, oi⟩, oj⟩ rfl rfl rfl rfl (lexg_g (I := inf) (J := jnf) none ⟨⟨⟨_, rfl, ob0⟩, oi⟩, oj⟩ rfl rfl rfl rfl (lexg_g (I := inf) (J := jnf) none ⟨⟨⟨_, rfl, ob0⟩, oi⟩, oj⟩ rfl rfl rfl rfl (lexg_a rfl rfl ⟨⟨(show _ = _ from rfl), (by first | exact .inl (by decide +kernel) | exact .inr (show _ = _ from rfl))⟩, .inl rfl⟩ rfl rfl rfl rfl (lexg_d (I := inf) (J := jnf) (some .store) ⟨ok, ok⟩ rfl rfl rfl rfl (lexg_g (I := inf) (J := jnf) none ⟨⟨⟨_, rfl, ob0⟩, oi⟩, oj⟩ rfl rfl rfl rfl (lexg_g (I := inf) (J := jnf) none ⟨⟨⟨_, rfl, ob0⟩, oi⟩, oj⟩ rfl rfl rfl rfl lexg_nil)))))))))))))))) rfl (fun _ => ?_) (fun h => by cases h)
    refine rX rfl ?_
    exact runS_ret (I := inf) 9 rfl (Nat.le_refl _) rfl (hk0 _ (.box rfl .nil)) rfl ⟨rfl, rfl⟩
theorem r_times8 (o0 o1 o2 o3 o4 o5 o6 o7 : AO) (hk0 : ∀ l, Kept 9 l → Kept 9 (o0 :: o1 :: o2 :: o3 :: o4 :: o5 :: o6 :: o7 :: l)) (t : Typ) (c : Int) (x y : Pr) : CallT Tryz.prog 77 [.ptr 8 0 0, .agg (prE x), .agg (prE y)] [o0, o1, o2, o3, o4, o5, o6, o7, .box 101 (stE t c)] (fun o A => o = .ret (.agg (prE (timesS t c x y).1)) ∧ A = [o0, o1, o2, o3, o4, o5, o6, o7, .box 101 (stE t (timesS t c x y).2)]) := by
  have hs := r_step8 o0 o1 o2 o3 o4 o5 o6 o7 hk0
  have hkk : ∀ c, Kept 9 [o0, o1, o2, o3, o4, o5, o6, o7, .box 101 (stE t c)] := fun c => hk0 _ (.box rfl .nil)
  unfold timesS
  have c1 := hs 42 (by decide) t c x.re y.re
  generalize stepV 42 t c x.re y.re = s1 at *
  obtain ⟨p, k1⟩ := s1
  dsimp only at c1 ⊢
  have c2 := hs 42 (by decide) t k1 x.im y.im
  generalize stepV 42 t k1 x.im y.im = s2 at *
  obtain ⟨q, k2⟩ := s2
  dsimp only at c2 ⊢
  have c3 := hs 42 (by decide) t k2 x.re y.im
  generalize stepV 42 t k2 x.re y.im = s3 at *
  obtain ⟨r, k3⟩ := s3
  dsimp only at c3 ⊢
  have c4 := hs 42 (by decide) t k3 x.im y.re
  generalize stepV 42 t k3 x.im y.re = s4 at *
  obtain ⟨s, k4⟩ := s4
  dsimp only at c4 ⊢
  have c5 := hs 45 (by decide) t k4 p q
  generalize stepV 45 t k4 p q = s5 at *
  obtain ⟨re, k5⟩ := s5
  dsimp only at c5 ⊢
  have c6 := hs 43 (by decide) t k5 r s
  generalize stepV 43 t k5 r s = s6 at *
  obtain ⟨im, k6⟩ := s6
  dsimp only at c6 ⊢
  refine callS_body (n := 48) rfl rfl fun w ρ X => ?_
  refine rX rfl ?_
  refine runS_callF [o0, o1, o2, o3, o4, o5, o6, o7, .box 101 (stE t c)] [o0, o1, o2, o3, o4, o5, o6, o7, .box 101 (stE t k1)] _ rfl rfl rfl rfl rfl (show _ = [.ptr 8 0 0, sv [42], .agg (vlE x.re), .agg (vlE y.re)] from rfl) rfl (hkk c) rfl rfl c1 ?_
  refine rX rfl ?_
  refine runS_callF [o0, o1, o2, o3, o4, o5, o6, o7, .box 101 (stE t k1)] [o0, o1, o2, o3, o4, o5, o6, o7, .box 101 (stE t k2)] _ rfl rfl rfl rfl rfl (show _ = [.ptr 8 0 0, sv [42], .agg (vlE x.im), .agg (vlE y.im)] from rfl) rfl (hkk k1) rfl rfl c2 ?_
  refine rX rfl ?_
  refine runS_callF [o0, o1, o2, o3, o4, o5, o6, o7, .box 101 (stE t k2)] [o0, o1, o2, o3, o4, o5, o6, o7, .box 101 (stE t k3)] _ rfl rfl rfl rfl rfl (show _ = [.ptr 8 0 0, sv [42], .agg (vlE x.re), .agg (vlE y.im)] from rfl) rfl (hkk k2) rfl rfl c3 ?_
  refine rX rfl ?_
  refine runS_callF [o0, o1, o2, o3, o4, o5, o6, o7, .box 101 (stE t k3)] [o0, o1, o2, o3, o4, o5, o6, o7, .box 101 (stE t k4)] _ rfl rfl rfl rfl rfl (show _ = [.ptr 8 0 0, sv [42], .agg (vlE x.im), .agg (vlE y.re)] from rfl) rfl (hkk k3) rfl rfl c4 ?_
  refine rX rfl ?_
  refine runS_callF [o0, o1, o2, o3, o4, o5, o6, o7, .box 101 (stE t k4)] [o0, o1, o2, o3, o4, o5, o6, o7, .box 101 (stE t k5)] _ rfl rfl rfl rfl rfl (show _ = [.ptr 8 0 0, sv [45], .agg (vlE p), .agg (vlE q)] from rfl) rfl (hkk k4) rfl rfl c5 ?_
  refine rX rfl ?_
  refine runS_callF [o0, o1, o2, o3, o4, o5, o6, o7, .box 101 (stE t k5)] [o0, o1, o2, o3, o4, o5, o6, o7, .box 101 (stE t k6)] _ rfl rfl rfl rfl rfl (show _ = [.ptr 8 0 0, sv [43], .agg (vlE r), .agg (vlE s)] from rfl) rfl (hkk k5) rfl rfl c6 ?_
  refine rX rfl ?_
  exact runS_ret (I := inf) 9 rfl (Nat.le_refl _) rfl (hkk k6) rfl ⟨rfl, rfl⟩
theorem good_K {v : Vl} (h : Good v) : (decide (1 ≤ v.kind) && decide (v.kind ≤ 3)) = true := h.2
theorem r_askedNil (x : Pr) (hx : PGood x) : CallT Tryz.prog 73 [prS none [x], .val (.slice none 0 0)] [] (fun o A => o = .ret (iv 0) ∧ A = []) := by
  have c1 := r_right x.re.kind x.re.n x.re.q x.re.s
  have c2 := r_right x.im.kind x.im.n x.im.q x.im.s
  rw [show rightB x.re.kind x.re.n x.re.q x.re.s = true from hx.1.1] at c1
  rw [show rightB x.im.kind x.im.n x.im.q x.im.s = true from hx.2.1] at c2
  have n1 := r_numeric x.re.kind
  have n2 := r_numeric x.im.kind
  rw [good_K hx.1] at n1
  rw [good_K hx.2] at n2
  refine callS_body (n := 102) rfl rfl fun w ρ X => ?_
  refine runS_says 1 rfl (says_nil0 (sz := 6) (r := tyR []) (Nat.zero_le _)) ?_
  refine rX rfl ?_
  refine runS_while (fun (i : Nat) τ ar => (τ 0 = prS none [x] ∧ τ 1 = .slc 6 none 0 (tyR []) ∧ τ 5 = iv i) ∧ ar = [] ∧ i ≤ 1) (fun i => 1 - i) 0 ⟨⟨rfl, rfl, rfl⟩, rfl, Nat.zero_le _⟩ ?_
  rintro i τ' ar' ⟨⟨g0, g1, g5⟩, rfl, hi⟩ ih
  have hi2 : i = 0 ∨ i = 1 := by omega
  rcases hi2 with rfl | rfl
  · refine runS_says 0 (by exact g0) (Says.refl _) ?_; refine runS_says 1 (by exact g1) (Says.refl _) ?_; refine runS_says 5 (by exact g5) (Says.refl _) ?_
    refine rX rfl ?_
    refine runS_cond rfl (fun h => ?_) (fun h => by cases h)
    clear h
    refine rX rfl ?_
    refine runS_call rfl rfl rfl rfl rfl rfl rfl c1 ?_
    refine rX rfl ?_
    refine runS_callU rfl rfl (by first | exact .v rfl rfl rfl rfl | exact .o rfl rfl rfl rfl) rfl rfl (by repeat (first | exact .nil | refine .cons (.n rfl) ?_ | refine .cons .o ?_ | refine .cons gok_and ?_)) rfl rfl rfl rfl rfl (fun _ => c2) ?_
    refine rX rfl ?_
    refine runS_cond rfl (fun h => by cases h) (fun h => ?_)
    clear h
    refine rX rfl ?_
    exact ih 1 _ _ (by decide) ⟨⟨rfl, rfl, rfl⟩, rfl, Nat.le_refl _⟩
  · refine runS_says 0 (by exact g0) (Says.refl _) ?_; refine runS_says 1 (by exact g1) (Says.refl _) ?_; refine runS_says 5 (by exact g5) (Says.refl _) ?_
    refine rX rfl ?_
    refine runS_cond rfl (fun h => by cases h) (fun h => ?_)
    clear h ih hi g0 g1 g5
    refine rX rfl ?_
    refine runS_while (fun (i : Nat) τ ar => (τ 0 = prS none [x] ∧ τ 1 = .slc 6 none 0 (tyR []) ∧ τ 6 = iv 0) ∧ ar = []) (fun i => i) 0 ⟨⟨rfl, rfl, rfl⟩, rfl⟩ ?_
    rintro i τ2 ar2 ⟨⟨g0, g1, g6⟩, rfl⟩ ih
    refine runS_says 0 (by exact g0) (Says.refl _) ?_; refine runS_says 1 (by exact g1) (Says.refl _) ?_; refine runS_says 6 (by exact g6) (Says.refl _) ?_
    refine rX rfl ?_
    refine runS_cond rfl (fun h => by cases h) (fun h => ?_)
    clear h ih g0 g1 g6
    refine rX rfl ?_
    refine runS_while (fun (i : Nat) τ ar => (τ 0 = prS none [x] ∧ τ 1 = .slc 6 none 0 (tyR []) ∧ τ 7 = iv 0) ∧ ar = []) (fun i => i) 0 ⟨⟨rfl, rfl, rfl⟩, rfl⟩ ?_
    rintro i τ3 ar3 ⟨⟨g0, g1, g7⟩, rfl⟩ ih
    refine runS_says 0 (by exact g0) (Says.refl _) ?_; refine runS_says 1 (by exact g1) (Says.refl _) ?_; refine runS_says 7 (by exact g7) (Says.refl _) ?_
    refine rX rfl ?_
    refine runS_cond rfl (fun h => by cases h) (fun h => ?_)
    clear h ih g1 g7
    refine rX rfl ?_
    refine runS_while (fun (i : Nat) τ ar => (τ 0 = prS none [x] ∧ τ 8 = iv i) ∧ ar = [] ∧ i ≤ 1) (fun i => 1 - i) 0 ⟨⟨rfl, rfl⟩, rfl, Nat.zero_le _⟩ ?_
    rintro i τ4 ar4 ⟨⟨g0, g8⟩, rfl, hi⟩ ih
    have hi2 : i = 0 ∨ i = 1 := by omega
    rcases hi2 with rfl | rfl
    · refine runS_says 0 (by exact g0) (Says.refl _) ?_; refine runS_says 8 (by exact g8) (Says.refl _) ?_
      refine rX rfl ?_
      refine runS_cond rfl (fun h => ?_) (fun h => by cases h)
      clear h
      refine rX rfl ?_
      refine runS_call rfl rfl rfl rfl rfl rfl rfl n1 ?_
      refine rX rfl ?_
      refine runS_callU rfl rfl (by first | exact .v rfl rfl rfl rfl | exact .o rfl rfl rfl rfl) rfl rfl (by repeat (first | exact .nil | refine .cons (.n rfl) ?_ | refine .cons .o ?_ | refine .cons gok_and ?_)) rfl rfl rfl rfl rfl (fun _ => n2) ?_
      refine rX rfl ?_
      refine runS_cond rfl (fun h => by cases h) (fun h => ?_)
      clear h
      refine rX rfl ?_
      exact ih 1 _ _ (by decide) ⟨⟨rfl, rfl⟩, rfl, Nat.le_refl _⟩
    · refine runS_says 0 (by exact g0) (Says.refl _) ?_; refine runS_says 8 (by exact g8) (Says.refl _) ?_
      refine rX rfl ?_
      refine runS_cond rfl (fun h => by cases h) (fun h => ?_)
      clear h
      refine rX rfl ?_
      refine runS_ret (I := inf) 0 rfl (Nat.le_refl _) rfl .nil rfl ⟨?_, rfl⟩
      rfl
def fitP (x : Pr) (t : Typ) : Pr × Int := (⟨(fitV x.re t).1, (fitV x.im t).1⟩, if (fitV x.re t).2 = 0 then (fitV x.im t).2 else (fitV x.re t).2)
theorem r_FitP (x : Pr) (t : Typ) (ht : vN t) (hx : PGood x) : CallT Tryz.prog 100 [.agg (prE x), .agg (typE t)] [] (fun o A => o = .ret (.tup [.agg (prE (fitP x t).1), iv (fitP x t).2, iv 0]) ∧ A = []) := by
  have hak := r_askedNil x hx
  have hv := r_valid t
  rw [ht.1] at hv
  have hn := r_numeric t.kind
  rw [show (decide (1 ≤ t.kind) && decide (t.kind ≤ 3)) = true from num_K ht] at hn
  have f1 := r_FitV x.re t ht hx.1
  have f2 := r_FitV x.im t ht hx.2
  unfold fitP
  generalize fitV x.re t = F1 at *
  generalize fitV x.im t = F2 at *
  obtain ⟨a, ca⟩ := F1
  obtain ⟨b, cb⟩ := F2
  dsimp only at f1 f2 ⊢
  refine callS_body (n := 61) rfl rfl fun w ρ X => ?_
  refine rX rfl ?_
  refine runS_tell 3 (prR [x]) rfl (m' := 1) rfl (fun j hj => ?_) rfl ?_
  · rcases j with _ | j <;> first | rfl | omega
  refine runS_freeze 15 rfl rfl rfl (fun j hj => ?_) ?_
  · rcases j with _ | j <;> first | rfl | omega
  refine runS_call rfl rfl rfl rfl rfl rfl rfl hak ?_
  refine rX rfl ?_
  refine runS_cond rfl (fun h => by cases h) (fun h => ?_)
  refine rX rfl ?_
  refine runS_call rfl rfl rfl rfl rfl rfl rfl hv ?_
  refine rX rfl ?_
  refine runS_cond rfl (fun h => by cases h) (fun h => ?_)
  refine rX rfl ?_
  refine runS_cond rfl (fun h => by cases h) (fun h => ?_)
  refine rX rfl ?_
  refine runS_call rfl rfl rfl rfl rfl rfl rfl hn ?_
  refine rX rfl ?_
  refine runS_cond rfl (fun h => by cases h) (fun h => ?_)
  refine rX rfl ?_
  refine runS_call rfl rfl rfl rfl rfl rfl rfl f1 ?_
  refine rX rfl ?_
  refine runS_call rfl rfl rfl rfl rfl rfl rfl f2 ?_
  refine rX rfl ?_
  refine runS_cond rfl (fun h => ?_) (fun h => ?_)
  · have h0 : ca = 0 := by simpa using (show (ca == 0) = true from h)
    rw [if_pos h0]
    refine rX rfl ?_
    refine runS_ret (I := inf) 0 rfl (Nat.le_refl _) rfl .nil rfl ⟨?_, rfl⟩
    rfl
  · have h0 : ¬ ca = 0 := by simpa using (show (ca == 0) = false from h)
    rw [if_neg h0]
    refine rX rfl ?_
    refine runS_ret (I := inf) 0 rfl (Nat.le_refl _) rfl .nil rfl ⟨?_, rfl⟩
    rfl
end Go.Iron.Tryz
