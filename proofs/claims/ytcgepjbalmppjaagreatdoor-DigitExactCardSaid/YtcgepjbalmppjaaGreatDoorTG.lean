/- The digits' seat: sums and differences; the order of numbers. -/
import Derived.Test.YtcgepjbalmppjaaGreatDoorTF
namespace Go.Iron.Tryz
open Go.Proofs Go.RowKit Go.Iron.Tok Go.Iron.Dg

theorem Fits.mono {a : Lg} {l l2 : Nat} {x x2 : Int} (h : Fits a l x) (hl : l ≤ l2) (hx : x ≤ x2) : Fits a l2 x2 := ⟨Nat.le_trans h.1 hl, by have := h.2; omega, by have := h.3; omega⟩
theorem frm_len_add (x y : Nat) : (frm (x + y)).length ≤ (frm x).length + (frm y).length + 1 := by
  refine frm_len_lt.2 ?_
  have h1 := frm_lt_pow x
  have h2 := frm_lt_pow y
  have h3 : 10 ^ (frm x).length ≤ 10 ^ ((frm x).length + (frm y).length) := Nat.pow_le_pow_right (by decide) (by omega)
  have h4 : 10 ^ (frm y).length ≤ 10 ^ ((frm x).length + (frm y).length) := Nat.pow_le_pow_right (by decide) (by omega)
  rw [Nat.pow_succ]
  omega
theorem sum_fits (a b : Lg) (ha : Fits a 50 100) (hb : Fits b 50 100) : Fits (sumL a b) 1500 1000 := by
  obtain ⟨ha1, ha2, ha3⟩ := ha
  obtain ⟨hb1, hb2, hb3⟩ := hb
  have hx := upM_len a (min a.exp b.exp)
  have hy := upM_len b (min a.exp b.exp)
  have hs := frm_len_add (upM a (min a.exp b.exp)) (upM b (min a.exp b.exp))
  have h1 := frm_len_mono (Nat.sub_le (upM a (min a.exp b.exp)) (upM b (min a.exp b.exp)))
  have h2 := frm_len_mono (Nat.sub_le (upM b (min a.exp b.exp)) (upM a (min a.exp b.exp)))
  unfold sumL
  split
  · exact ⟨by dsimp only; omega, by dsimp only; omega, by dsimp only; omega⟩
  · split
    · exact ⟨by dsimp only; omega, by dsimp only; omega, by dsimp only; omega⟩
    · exact ⟨by dsimp only; omega, by dsimp only; omega, by dsimp only; omega⟩
theorem flip_fits {a : Lg} {l : Nat} {x : Int} (h : Fits a l x) : Fits (flipL a) l x := ⟨h.1, h.2, h.3⟩
theorem d_subC (a b : Lg) (ha : Fits a 50 100) (hb : Fits b 50 100) : CallT Tryz.prog 90 [lgA a, lgA b] [] (fun o A => o = .ret (lgA (sumL a (flipL b))) ∧ A = []) := by
  have hs := d_sum a (flipL b) (ha.mono (by decide) (by decide)) ((flip_fits hb).mono (by decide) (by decide))
  refine callS_body (n := 12) rfl rfl fun w ρ X => ?_
  refine runS_x (I := inf) (J := jnf) ⟨false, false, [], 0, 0⟩ 9999 rfl (by repeat (first | exact obs_nil | refine obs_draw (by kernel_rfl) ?_ | refine obs_same ?_ | refine obs_and ?_ | refine obs_by (by (simp [inB] <;> omega)) ?_)) ?_
  refine runS_call rfl rfl rfl rfl rfl rfl rfl hs ?_
  refine runS_x (I := inf) (J := jnf) ⟨false, false, [], 0, 0⟩ 9999 rfl (by repeat (first | exact obs_nil | refine obs_draw (by kernel_rfl) ?_ | refine obs_same ?_ | refine obs_and ?_ | refine obs_by (by (simp [inB] <;> omega)) ?_)) ?_
  refine runS_ret (I := inf) 0 rfl (Nat.le_refl _) rfl .nil rfl ⟨?_, rfl⟩
  rfl
theorem d_Add (a b : Vl) (t : Typ) (he : askL (some t) [a, b] = 0) : CallT Tryz.prog 34 [.agg (vlE a), .agg (vlE b), .agg (typE t)] [] (fun o A => o = .ret (resA t.kind (fitL t.kind t.p.toNat t.q.toNat (sumL (ext a) (ext b)) 2)) ∧ A = []) := by
  obtain ⟨hnum, htn⟩ := ask_num he
  obtain ⟨hra, hka⟩ := hnum a (by simp)
  obtain ⟨hrb, hkb⟩ := hnum b (by simp)
  have hfa := ext_fits a hra hka
  have hfb := ext_fits b hrb hkb
  have hr := d_reckonV a b t 89 (sumL (ext a) (ext b)) he (d_sum (ext a) (ext b) (hfa.mono (by decide) (by decide)) (hfb.mono (by decide) (by decide))) (sum_fits _ _ hfa hfb)
  refine callS_body (n := 16) rfl rfl fun w ρ X => ?_
  refine runS_x (I := inf) (J := jnf) ⟨false, false, [], 0, 0⟩ 9999 rfl (by repeat (first | exact obs_nil | refine obs_draw (by kernel_rfl) ?_ | refine obs_same ?_ | refine obs_and ?_ | refine obs_by (by (simp [inB] <;> omega)) ?_)) ?_
  refine runS_call rfl rfl rfl rfl rfl rfl rfl hr ?_
  refine runS_x (I := inf) (J := jnf) ⟨false, false, [], 0, 0⟩ 9999 rfl (by repeat (first | exact obs_nil | refine obs_draw (by kernel_rfl) ?_ | refine obs_same ?_ | refine obs_and ?_ | refine obs_by (by (simp [inB] <;> omega)) ?_)) ?_
  refine runS_ret (I := inf) 0 rfl (Nat.le_refl _) rfl .nil rfl ⟨?_, rfl⟩
  rfl
theorem d_Subtract (a b : Vl) (t : Typ) (he : askL (some t) [a, b] = 0) : CallT Tryz.prog 35 [.agg (vlE a), .agg (vlE b), .agg (typE t)] [] (fun o A => o = .ret (resA t.kind (fitL t.kind t.p.toNat t.q.toNat (sumL (ext a) (flipL (ext b))) 2)) ∧ A = []) := by
  obtain ⟨hnum, htn⟩ := ask_num he
  obtain ⟨hra, hka⟩ := hnum a (by simp)
  obtain ⟨hrb, hkb⟩ := hnum b (by simp)
  have hfa := ext_fits a hra hka
  have hfb := ext_fits b hrb hkb
  have hr := d_reckonV a b t 90 (sumL (ext a) (flipL (ext b))) he (d_subC (ext a) (ext b) hfa hfb) (sum_fits _ _ hfa (flip_fits hfb))
  refine callS_body (n := 16) rfl rfl fun w ρ X => ?_
  refine runS_x (I := inf) (J := jnf) ⟨false, false, [], 0, 0⟩ 9999 rfl (by repeat (first | exact obs_nil | refine obs_draw (by kernel_rfl) ?_ | refine obs_same ?_ | refine obs_and ?_ | refine obs_by (by (simp [inB] <;> omega)) ?_)) ?_
  refine runS_call rfl rfl rfl rfl rfl rfl rfl hr ?_
  refine runS_x (I := inf) (J := jnf) ⟨false, false, [], 0, 0⟩ 9999 rfl (by repeat (first | exact obs_nil | refine obs_draw (by kernel_rfl) ?_ | refine obs_same ?_ | refine obs_and ?_ | refine obs_by (by (simp [inB] <;> omega)) ?_)) ?_
  refine runS_ret (I := inf) 0 rfl (Nat.le_refl _) rfl .nil rfl ⟨?_, rfl⟩
  rfl
end Go.Iron.Tryz

/- The digits' seat: the law of exact sums. -/
namespace Go.Iron.Tryz
open Go.Proofs Go.RowKit Go.Iron.Tok Go.Iron.Dg

theorem l_exact_1 (an bn q : Int) (ha : rightB 1 an q [] = true) (hb : rightB 1 bn q [] = true) : CallT Tryz.prog 7 [.agg (vaE 1 an q []), .agg (vaE 1 bn q [])] [] (fun o A => o = .ret (bv true) ∧ A = []) := by
  obtain ⟨-, -, hq, -, ha1, ha2⟩ := right_num ha rfl
  obtain ⟨-, -, -, -, hb1, hb2⟩ := right_num hb rfl
  obtain ⟨hq1, hq2⟩ := hq (by decide)
  have hws : IntKind.wrap .i64 (an + bn) = an + bn := w64 (by omega) (by omega)
  have hvt : validT ⟨1, 31, q, 0, false, []⟩ = true := by simp [validT, inR, hq1, hq2]
  have hask : ∀ x y : Int, rightB 1 x q [] = true → rightB 1 y q [] = true → askL (some ⟨1, 31, q, 0, false, []⟩) [⟨1, x, q, []⟩, ⟨1, y, q, []⟩] = 0 := fun x y hx hy => by
    unfold askL
    rw [if_neg (by simp [Vl.right, hx, hy]), if_neg (by simp [hvt]), if_neg (by simp [numK]), if_neg (by simp [numK])]
  have hadd := d_Add ⟨1, an, q, []⟩ ⟨1, bn, q, []⟩ ⟨1, 31, q, 0, false, []⟩ (hask an bn ha hb)
  have hsub := d_Subtract ⟨1, an, q, []⟩ ⟨1, an, q, []⟩ ⟨1, 31, q, 0, false, []⟩ (hask an an ha ha)
  have hse : fitL 1 (31 : Int).toNat q.toNat (sumL (ext ⟨1, an, q, []⟩) (flipL (ext ⟨1, an, q, []⟩))) 2 = (0, q, 0) := exact_sub (by decide) hq1
  obtain ⟨hf1, hf2⟩ := exact_add (kd := 1) (an := an) (bn := bn) (q := q) (big := 2) (P := 31) (by decide) hq1 hq2
  dsimp only at hadd hsub
  rw [hse] at hsub
  have hfe : fitL 1 (31 : Int).toNat q.toNat (sumL (ext ⟨1, an, q, []⟩) (ext ⟨1, bn, q, []⟩)) 2 = fitL 1 31 q.toNat (sumL (exactL 1 an q) (exactL 1 bn q)) 2 := rfl
  rw [hfe] at hadd
  have hrs := r_right 1 (IntKind.wrap .i64 (an + bn)) q []
  rw [hws] at hrs
  have hra := r_right 1 an q []
  have hrb := r_right 1 bn q []
  rw [ha] at hra
  rw [hb] at hrb
  refine callS_body (n := 116) rfl rfl fun w ρ X => ?_
  refine runS_x (I := inf) (J := jnf) ⟨false, false, [], 0, 0⟩ 9999 rfl (by repeat (first | exact obs_nil | refine obs_draw (by kernel_rfl) ?_ | refine obs_same ?_ | refine obs_and ?_ | refine obs_by (by (simp [inB] <;> omega)) ?_)) ?_
  refine runS_call rfl rfl rfl rfl rfl rfl rfl hra ?_
  refine runS_x (I := inf) (J := jnf) ⟨false, false, [], 0, 0⟩ 9999 rfl (by repeat (first | exact obs_nil | refine obs_draw (by kernel_rfl) ?_ | refine obs_same ?_ | refine obs_and ?_ | refine obs_by (by (simp [inB] <;> omega)) ?_)) ?_
  refine runS_callU rfl rfl (by first | exact .v rfl rfl rfl rfl | exact .o rfl rfl rfl rfl) rfl rfl (by repeat (first | exact .nil | refine .cons (.n rfl) ?_ | refine .cons .o ?_ | refine .cons gok_and ?_)) rfl rfl rfl rfl rfl (fun _ => hrb) ?_
  refine runS_x (I := inf) (J := jnf) ⟨false, false, [], 0, 0⟩ 9999 rfl (by repeat (first | exact obs_nil | refine obs_draw (by kernel_rfl) ?_ | refine obs_same ?_ | refine obs_and ?_ | refine obs_by (by (simp [inB] <;> omega)) ?_)) ?_
  refine runS_cond rfl (fun h => ?_) (fun h => ?_)
  · exfalso
    simp at h
  refine runS_x (I := inf) (J := jnf) ⟨false, false, [], 0, 0⟩ 9999 rfl (by repeat (first | exact obs_nil | refine obs_draw (by kernel_rfl) ?_ | refine obs_same ?_ | refine obs_and ?_ | refine obs_by (by (simp [inB] <;> omega)) ?_)) ?_
  refine runS_cond rfl (fun h => by cases h) (fun h => ?_)
  rw [← hws] at hrs
  cases hr : rightB 1 (an + bn) q [] with
  | true =>
    rw [hf1 hr] at hadd
    rw [hws, hr, ← hws] at hrs
    refine runS_x (I := inf) (J := jnf) ⟨false, false, [], 0, 0⟩ 9999 rfl (by repeat (first | exact obs_nil | refine obs_draw (by kernel_rfl) ?_ | refine obs_same ?_ | refine obs_and ?_ | refine obs_by (by (simp [inB] <;> omega)) ?_)) ?_
    refine runS_call rfl rfl rfl rfl rfl rfl rfl hadd ?_
    refine runS_x (I := inf) (J := jnf) ⟨false, false, [], 0, 0⟩ 9999 rfl (by repeat (first | exact obs_nil | refine obs_draw (by kernel_rfl) ?_ | refine obs_same ?_ | refine obs_and ?_ | refine obs_by (by (simp [inB] <;> omega)) ?_)) ?_
    refine runS_callU rfl rfl (by first | exact .v rfl rfl rfl rfl | exact .o rfl rfl rfl rfl) rfl rfl (by repeat (first | exact .nil | refine .cons (.n rfl) ?_ | refine .cons .o ?_ | refine .cons gok_and ?_)) rfl rfl rfl rfl rfl (fun _ => hrs) ?_
    refine runS_x (I := inf) (J := jnf) ⟨false, false, [], 0, 0⟩ 9999 rfl (by repeat (first | exact obs_nil | refine obs_draw (by kernel_rfl) ?_ | refine obs_same ?_ | refine obs_and ?_ | refine obs_by (by (simp [inB] <;> omega)) ?_)) ?_
    refine runS_callU rfl rfl (by first | exact .v rfl rfl rfl rfl | exact .o rfl rfl rfl rfl) rfl rfl (by repeat (first | exact .nil | refine .cons (.n rfl) ?_ | refine .cons .o ?_ | refine .cons gok_and ?_)) rfl rfl rfl rfl rfl (fun _ => hrs) ?_
    refine runS_x (I := inf) (J := jnf) ⟨false, false, [], 0, 0⟩ 9999 rfl (by repeat (first | exact obs_nil | refine obs_draw (by kernel_rfl) ?_ | refine obs_same ?_ | refine obs_and ?_ | refine obs_by (by (simp [inB] <;> omega)) ?_)) ?_
    refine runS_cond rfl (fun h => ?_) (fun h => ?_)
    · exfalso
      simp [hws, show (bs []).toList = [] from bs_toList [], show (ByteArray.mk #[]).toList = [] from bs_toList []] at h
    refine runS_x (I := inf) (J := jnf) ⟨false, false, [], 0, 0⟩ 9999 rfl (by repeat (first | exact obs_nil | refine obs_draw (by kernel_rfl) ?_ | refine obs_same ?_ | refine obs_and ?_ | refine obs_by (by (simp [inB] <;> omega)) ?_)) ?_
    refine runS_call rfl rfl rfl rfl rfl rfl rfl hsub ?_
    refine runS_x (I := inf) (J := jnf) ⟨false, false, [], 0, 0⟩ 9999 rfl (by repeat (first | exact obs_nil | refine obs_draw (by kernel_rfl) ?_ | refine obs_same ?_ | refine obs_and ?_ | refine obs_by (by (simp [inB] <;> omega)) ?_)) ?_
    refine runS_callU rfl rfl (by first | exact .v rfl rfl rfl rfl | exact .o rfl rfl rfl rfl) rfl rfl (by repeat (first | exact .nil | refine .cons (.n rfl) ?_ | refine .cons .o ?_ | refine .cons gok_and ?_)) rfl rfl rfl rfl rfl (fun _ => l_awake) ?_
    refine runS_x (I := inf) (J := jnf) ⟨false, false, [], 0, 0⟩ 9999 rfl (by repeat (first | exact obs_nil | refine obs_draw (by kernel_rfl) ?_ | refine obs_same ?_ | refine obs_and ?_ | refine obs_by (by (simp [inB] <;> omega)) ?_)) ?_
    refine runS_ret (I := inf) 0 rfl (Nat.le_refl _) rfl .nil rfl ⟨?_, rfl⟩
    rfl
  | false =>
    have hf := hf2 hr
    generalize fitL 1 31 q.toNat (sumL (exactL 1 an q) (exactL 1 bn q)) 2 = F at *
    obtain ⟨f1, f2, f3⟩ := F
    dsimp only at hf
    subst hf
    rw [hws, hr, ← hws] at hrs
    refine runS_x (I := inf) (J := jnf) ⟨false, false, [], 0, 0⟩ 9999 rfl (by repeat (first | exact obs_nil | refine obs_draw (by kernel_rfl) ?_ | refine obs_same ?_ | refine obs_and ?_ | refine obs_by (by (simp [inB] <;> omega)) ?_)) ?_
    refine runS_call rfl rfl rfl rfl rfl rfl rfl hadd ?_
    refine runS_x (I := inf) (J := jnf) ⟨false, false, [], 0, 0⟩ 9999 rfl (by repeat (first | exact obs_nil | refine obs_draw (by kernel_rfl) ?_ | refine obs_same ?_ | refine obs_and ?_ | refine obs_by (by (simp [inB] <;> omega)) ?_)) ?_
    refine runS_callU rfl rfl (by first | exact .v rfl rfl rfl rfl | exact .o rfl rfl rfl rfl) rfl rfl (by repeat (first | exact .nil | refine .cons (.n rfl) ?_ | refine .cons .o ?_ | refine .cons gok_and ?_)) rfl rfl rfl rfl rfl (fun _ => hrs) ?_
    refine runS_x (I := inf) (J := jnf) ⟨false, false, [], 0, 0⟩ 9999 rfl (by repeat (first | exact obs_nil | refine obs_draw (by kernel_rfl) ?_ | refine obs_same ?_ | refine obs_and ?_ | refine obs_by (by (simp [inB] <;> omega)) ?_)) ?_
    refine runS_callU rfl rfl (by first | exact .v rfl rfl rfl rfl | exact .o rfl rfl rfl rfl) rfl rfl (by repeat (first | exact .nil | refine .cons (.n rfl) ?_ | refine .cons .o ?_ | refine .cons gok_and ?_)) rfl rfl rfl rfl rfl (fun _ => hrs) ?_
    refine runS_x (I := inf) (J := jnf) ⟨false, false, [], 0, 0⟩ 9999 rfl (by repeat (first | exact obs_nil | refine obs_draw (by kernel_rfl) ?_ | refine obs_same ?_ | refine obs_and ?_ | refine obs_by (by (simp [inB] <;> omega)) ?_)) ?_
    refine runS_cond rfl (fun h => ?_) (fun h => ?_)
    · exfalso
      simp at h
    refine runS_x (I := inf) (J := jnf) ⟨false, false, [], 0, 0⟩ 9999 rfl (by repeat (first | exact obs_nil | refine obs_draw (by kernel_rfl) ?_ | refine obs_same ?_ | refine obs_and ?_ | refine obs_by (by (simp [inB] <;> omega)) ?_)) ?_
    refine runS_call rfl rfl rfl rfl rfl rfl rfl hsub ?_
    refine runS_x (I := inf) (J := jnf) ⟨false, false, [], 0, 0⟩ 9999 rfl (by repeat (first | exact obs_nil | refine obs_draw (by kernel_rfl) ?_ | refine obs_same ?_ | refine obs_and ?_ | refine obs_by (by (simp [inB] <;> omega)) ?_)) ?_
    refine runS_callU rfl rfl (by first | exact .v rfl rfl rfl rfl | exact .o rfl rfl rfl rfl) rfl rfl (by repeat (first | exact .nil | refine .cons (.n rfl) ?_ | refine .cons .o ?_ | refine .cons gok_and ?_)) rfl rfl rfl rfl rfl (fun _ => l_awake) ?_
    refine runS_x (I := inf) (J := jnf) ⟨false, false, [], 0, 0⟩ 9999 rfl (by repeat (first | exact obs_nil | refine obs_draw (by kernel_rfl) ?_ | refine obs_same ?_ | refine obs_and ?_ | refine obs_by (by (simp [inB] <;> omega)) ?_)) ?_
    refine runS_ret (I := inf) 0 rfl (Nat.le_refl _) rfl .nil rfl ⟨?_, rfl⟩
    rfl
theorem l_exact_2 (an bn q : Int) (ha : rightB 2 an q [] = true) (hb : rightB 2 bn q [] = true) : CallT Tryz.prog 7 [.agg (vaE 2 an q []), .agg (vaE 2 bn q [])] [] (fun o A => o = .ret (bv true) ∧ A = []) := by
  obtain ⟨-, -, hq, -, ha1, ha2⟩ := right_num ha rfl
  obtain ⟨-, -, -, -, hb1, hb2⟩ := right_num hb rfl
  obtain ⟨hq1, hq2⟩ := hq (by decide)
  have hws : IntKind.wrap .i64 (an + bn) = an + bn := w64 (by omega) (by omega)
  have hvt : validT ⟨2, 15, q, 0, false, []⟩ = true := by simp [validT, inR, hq1, hq2]
  have hask : ∀ x y : Int, rightB 2 x q [] = true → rightB 2 y q [] = true → askL (some ⟨2, 15, q, 0, false, []⟩) [⟨2, x, q, []⟩, ⟨2, y, q, []⟩] = 0 := fun x y hx hy => by
    unfold askL
    rw [if_neg (by simp [Vl.right, hx, hy]), if_neg (by simp [hvt]), if_neg (by simp [numK]), if_neg (by simp [numK])]
  have hadd := d_Add ⟨2, an, q, []⟩ ⟨2, bn, q, []⟩ ⟨2, 15, q, 0, false, []⟩ (hask an bn ha hb)
  have hsub := d_Subtract ⟨2, an, q, []⟩ ⟨2, an, q, []⟩ ⟨2, 15, q, 0, false, []⟩ (hask an an ha ha)
  have hse : fitL 2 (15 : Int).toNat q.toNat (sumL (ext ⟨2, an, q, []⟩) (flipL (ext ⟨2, an, q, []⟩))) 2 = (0, q, 0) := exact_sub (by decide) hq1
  obtain ⟨hf1, hf2⟩ := exact_add (kd := 2) (an := an) (bn := bn) (q := q) (big := 2) (P := 15) (by decide) hq1 hq2
  dsimp only at hadd hsub
  rw [hse] at hsub
  have hfe : fitL 2 (15 : Int).toNat q.toNat (sumL (ext ⟨2, an, q, []⟩) (ext ⟨2, bn, q, []⟩)) 2 = fitL 2 15 q.toNat (sumL (exactL 2 an q) (exactL 2 bn q)) 2 := rfl
  rw [hfe] at hadd
  have hrs := r_right 2 (IntKind.wrap .i64 (an + bn)) q []
  rw [hws] at hrs
  have hra := r_right 2 an q []
  have hrb := r_right 2 bn q []
  rw [ha] at hra
  rw [hb] at hrb
  refine callS_body (n := 116) rfl rfl fun w ρ X => ?_
  refine runS_x (I := inf) (J := jnf) ⟨false, false, [], 0, 0⟩ 9999 rfl (by repeat (first | exact obs_nil | refine obs_draw (by kernel_rfl) ?_ | refine obs_same ?_ | refine obs_and ?_ | refine obs_by (by (simp [inB] <;> omega)) ?_)) ?_
  refine runS_call rfl rfl rfl rfl rfl rfl rfl hra ?_
  refine runS_x (I := inf) (J := jnf) ⟨false, false, [], 0, 0⟩ 9999 rfl (by repeat (first | exact obs_nil | refine obs_draw (by kernel_rfl) ?_ | refine obs_same ?_ | refine obs_and ?_ | refine obs_by (by (simp [inB] <;> omega)) ?_)) ?_
  refine runS_callU rfl rfl (by first | exact .v rfl rfl rfl rfl | exact .o rfl rfl rfl rfl) rfl rfl (by repeat (first | exact .nil | refine .cons (.n rfl) ?_ | refine .cons .o ?_ | refine .cons gok_and ?_)) rfl rfl rfl rfl rfl (fun _ => hrb) ?_
  refine runS_x (I := inf) (J := jnf) ⟨false, false, [], 0, 0⟩ 9999 rfl (by repeat (first | exact obs_nil | refine obs_draw (by kernel_rfl) ?_ | refine obs_same ?_ | refine obs_and ?_ | refine obs_by (by (simp [inB] <;> omega)) ?_)) ?_
  refine runS_cond rfl (fun h => ?_) (fun h => ?_)
  · exfalso
    simp at h
  refine runS_x (I := inf) (J := jnf) ⟨false, false, [], 0, 0⟩ 9999 rfl (by repeat (first | exact obs_nil | refine obs_draw (by kernel_rfl) ?_ | refine obs_same ?_ | refine obs_and ?_ | refine obs_by (by (simp [inB] <;> omega)) ?_)) ?_
  refine runS_cond rfl (fun h => ?_) (fun h => by cases h)
  rw [← hws] at hrs
  cases hr : rightB 2 (an + bn) q [] with
  | true =>
    rw [hf1 hr] at hadd
    rw [hws, hr, ← hws] at hrs
    refine runS_x (I := inf) (J := jnf) ⟨false, false, [], 0, 0⟩ 9999 rfl (by repeat (first | exact obs_nil | refine obs_draw (by kernel_rfl) ?_ | refine obs_same ?_ | refine obs_and ?_ | refine obs_by (by (simp [inB] <;> omega)) ?_)) ?_
    refine runS_call rfl rfl rfl rfl rfl rfl rfl hadd ?_
    refine runS_x (I := inf) (J := jnf) ⟨false, false, [], 0, 0⟩ 9999 rfl (by repeat (first | exact obs_nil | refine obs_draw (by kernel_rfl) ?_ | refine obs_same ?_ | refine obs_and ?_ | refine obs_by (by (simp [inB] <;> omega)) ?_)) ?_
    refine runS_callU rfl rfl (by first | exact .v rfl rfl rfl rfl | exact .o rfl rfl rfl rfl) rfl rfl (by repeat (first | exact .nil | refine .cons (.n rfl) ?_ | refine .cons .o ?_ | refine .cons gok_and ?_)) rfl rfl rfl rfl rfl (fun _ => hrs) ?_
    refine runS_x (I := inf) (J := jnf) ⟨false, false, [], 0, 0⟩ 9999 rfl (by repeat (first | exact obs_nil | refine obs_draw (by kernel_rfl) ?_ | refine obs_same ?_ | refine obs_and ?_ | refine obs_by (by (simp [inB] <;> omega)) ?_)) ?_
    refine runS_callU rfl rfl (by first | exact .v rfl rfl rfl rfl | exact .o rfl rfl rfl rfl) rfl rfl (by repeat (first | exact .nil | refine .cons (.n rfl) ?_ | refine .cons .o ?_ | refine .cons gok_and ?_)) rfl rfl rfl rfl rfl (fun _ => hrs) ?_
    refine runS_x (I := inf) (J := jnf) ⟨false, false, [], 0, 0⟩ 9999 rfl (by repeat (first | exact obs_nil | refine obs_draw (by kernel_rfl) ?_ | refine obs_same ?_ | refine obs_and ?_ | refine obs_by (by (simp [inB] <;> omega)) ?_)) ?_
    refine runS_cond rfl (fun h => ?_) (fun h => ?_)
    · exfalso
      simp [hws, show (bs []).toList = [] from bs_toList [], show (ByteArray.mk #[]).toList = [] from bs_toList []] at h
    refine runS_x (I := inf) (J := jnf) ⟨false, false, [], 0, 0⟩ 9999 rfl (by repeat (first | exact obs_nil | refine obs_draw (by kernel_rfl) ?_ | refine obs_same ?_ | refine obs_and ?_ | refine obs_by (by (simp [inB] <;> omega)) ?_)) ?_
    refine runS_call rfl rfl rfl rfl rfl rfl rfl hsub ?_
    refine runS_x (I := inf) (J := jnf) ⟨false, false, [], 0, 0⟩ 9999 rfl (by repeat (first | exact obs_nil | refine obs_draw (by kernel_rfl) ?_ | refine obs_same ?_ | refine obs_and ?_ | refine obs_by (by (simp [inB] <;> omega)) ?_)) ?_
    refine runS_callU rfl rfl (by first | exact .v rfl rfl rfl rfl | exact .o rfl rfl rfl rfl) rfl rfl (by repeat (first | exact .nil | refine .cons (.n rfl) ?_ | refine .cons .o ?_ | refine .cons gok_and ?_)) rfl rfl rfl rfl rfl (fun _ => l_awake) ?_
    refine runS_x (I := inf) (J := jnf) ⟨false, false, [], 0, 0⟩ 9999 rfl (by repeat (first | exact obs_nil | refine obs_draw (by kernel_rfl) ?_ | refine obs_same ?_ | refine obs_and ?_ | refine obs_by (by (simp [inB] <;> omega)) ?_)) ?_
    refine runS_ret (I := inf) 0 rfl (Nat.le_refl _) rfl .nil rfl ⟨?_, rfl⟩
    rfl
  | false =>
    have hf := hf2 hr
    generalize fitL 2 15 q.toNat (sumL (exactL 2 an q) (exactL 2 bn q)) 2 = F at *
    obtain ⟨f1, f2, f3⟩ := F
    dsimp only at hf
    subst hf
    rw [hws, hr, ← hws] at hrs
    refine runS_x (I := inf) (J := jnf) ⟨false, false, [], 0, 0⟩ 9999 rfl (by repeat (first | exact obs_nil | refine obs_draw (by kernel_rfl) ?_ | refine obs_same ?_ | refine obs_and ?_ | refine obs_by (by (simp [inB] <;> omega)) ?_)) ?_
    refine runS_call rfl rfl rfl rfl rfl rfl rfl hadd ?_
    refine runS_x (I := inf) (J := jnf) ⟨false, false, [], 0, 0⟩ 9999 rfl (by repeat (first | exact obs_nil | refine obs_draw (by kernel_rfl) ?_ | refine obs_same ?_ | refine obs_and ?_ | refine obs_by (by (simp [inB] <;> omega)) ?_)) ?_
    refine runS_callU rfl rfl (by first | exact .v rfl rfl rfl rfl | exact .o rfl rfl rfl rfl) rfl rfl (by repeat (first | exact .nil | refine .cons (.n rfl) ?_ | refine .cons .o ?_ | refine .cons gok_and ?_)) rfl rfl rfl rfl rfl (fun _ => hrs) ?_
    refine runS_x (I := inf) (J := jnf) ⟨false, false, [], 0, 0⟩ 9999 rfl (by repeat (first | exact obs_nil | refine obs_draw (by kernel_rfl) ?_ | refine obs_same ?_ | refine obs_and ?_ | refine obs_by (by (simp [inB] <;> omega)) ?_)) ?_
    refine runS_callU rfl rfl (by first | exact .v rfl rfl rfl rfl | exact .o rfl rfl rfl rfl) rfl rfl (by repeat (first | exact .nil | refine .cons (.n rfl) ?_ | refine .cons .o ?_ | refine .cons gok_and ?_)) rfl rfl rfl rfl rfl (fun _ => hrs) ?_
    refine runS_x (I := inf) (J := jnf) ⟨false, false, [], 0, 0⟩ 9999 rfl (by repeat (first | exact obs_nil | refine obs_draw (by kernel_rfl) ?_ | refine obs_same ?_ | refine obs_and ?_ | refine obs_by (by (simp [inB] <;> omega)) ?_)) ?_
    refine runS_cond rfl (fun h => ?_) (fun h => ?_)
    · exfalso
      simp at h
    refine runS_x (I := inf) (J := jnf) ⟨false, false, [], 0, 0⟩ 9999 rfl (by repeat (first | exact obs_nil | refine obs_draw (by kernel_rfl) ?_ | refine obs_same ?_ | refine obs_and ?_ | refine obs_by (by (simp [inB] <;> omega)) ?_)) ?_
    refine runS_call rfl rfl rfl rfl rfl rfl rfl hsub ?_
    refine runS_x (I := inf) (J := jnf) ⟨false, false, [], 0, 0⟩ 9999 rfl (by repeat (first | exact obs_nil | refine obs_draw (by kernel_rfl) ?_ | refine obs_same ?_ | refine obs_and ?_ | refine obs_by (by (simp [inB] <;> omega)) ?_)) ?_
    refine runS_callU rfl rfl (by first | exact .v rfl rfl rfl rfl | exact .o rfl rfl rfl rfl) rfl rfl (by repeat (first | exact .nil | refine .cons (.n rfl) ?_ | refine .cons .o ?_ | refine .cons gok_and ?_)) rfl rfl rfl rfl rfl (fun _ => l_awake) ?_
    refine runS_x (I := inf) (J := jnf) ⟨false, false, [], 0, 0⟩ 9999 rfl (by repeat (first | exact obs_nil | refine obs_draw (by kernel_rfl) ?_ | refine obs_same ?_ | refine obs_and ?_ | refine obs_by (by (simp [inB] <;> omega)) ?_)) ?_
    refine runS_ret (I := inf) 0 rfl (Nat.le_refl _) rfl .nil rfl ⟨?_, rfl⟩
    rfl
theorem l_exact (a b : Vl) : CallT Tryz.prog 7 [.agg (vlE a), .agg (vlE b)] [] (fun o A => o = .ret (bv true) ∧ A = []) := by
  by_cases hg : a.right = true ∧ b.right = true ∧ a.kind = b.kind ∧ a.q = b.q ∧ (a.kind = 1 ∨ a.kind = 2)
  · obtain ⟨hra, hrb, hk, hq, hkd⟩ := hg
    have hka : numK a.kind = true := by rcases hkd with h | h <;> rw [h] <;> rfl
    have hkb : numK b.kind = true := by rw [← hk]; exact hka
    have hsa := (right_num hra hka).1
    have hsb := (right_num hrb hkb).1
    obtain ⟨kd, an, q, sa⟩ := a
    obtain ⟨kd2, bn, q2, sb⟩ := b
    dsimp only at hk hq hkd hsa hsb
    subst hk; subst hq; subst hsa; subst hsb
    rcases hkd with rfl | rfl
    · exact l_exact_1 an bn q hra hrb
    · exact l_exact_2 an bn q hra hrb
  · refine callS_body (n := 116) rfl rfl fun w ρ X => ?_
    refine runS_x (I := inf) (J := jnf) ⟨false, false, [], 0, 0⟩ 9999 rfl (by repeat (first | exact obs_nil | refine obs_draw (by kernel_rfl) ?_ | refine obs_same ?_ | refine obs_and ?_ | refine obs_by (by (simp [inB] <;> omega)) ?_)) ?_
    refine runS_call rfl rfl rfl rfl rfl rfl rfl (r_right a.kind a.n a.q a.s) ?_
    refine runS_x (I := inf) (J := jnf) ⟨false, false, [], 0, 0⟩ 9999 rfl (by repeat (first | exact obs_nil | refine obs_draw (by kernel_rfl) ?_ | refine obs_same ?_ | refine obs_and ?_ | refine obs_by (by (simp [inB] <;> omega)) ?_)) ?_
    refine runS_callU rfl rfl (by first | exact .v rfl rfl rfl rfl | exact .o rfl rfl rfl rfl) rfl rfl (by repeat (first | exact .nil | refine .cons (.n rfl) ?_ | refine .cons .o ?_ | refine .cons gok_and ?_)) rfl rfl rfl rfl rfl (fun _ => (r_right b.kind b.n b.q b.s)) ?_
    refine runS_x (I := inf) (J := jnf) ⟨false, false, [], 0, 0⟩ 9999 rfl (by repeat (first | exact obs_nil | refine obs_draw (by kernel_rfl) ?_ | refine obs_same ?_ | refine obs_and ?_ | refine obs_by (by (simp [inB] <;> omega)) ?_)) ?_
    refine runS_cond rfl (fun h => ?_) (fun h => ?_)
    · refine runS_x (I := inf) (J := jnf) ⟨false, false, [], 0, 0⟩ 9999 rfl (by repeat (first | exact obs_nil | refine obs_draw (by kernel_rfl) ?_ | refine obs_same ?_ | refine obs_and ?_ | refine obs_by (by (simp [inB] <;> omega)) ?_)) ?_
      refine runS_call rfl rfl rfl rfl rfl rfl rfl l_awake ?_
      refine runS_x (I := inf) (J := jnf) ⟨false, false, [], 0, 0⟩ 9999 rfl (by repeat (first | exact obs_nil | refine obs_draw (by kernel_rfl) ?_ | refine obs_same ?_ | refine obs_and ?_ | refine obs_by (by (simp [inB] <;> omega)) ?_)) ?_
      refine runS_ret (I := inf) 0 rfl (Nat.le_refl _) rfl .nil rfl ⟨?_, rfl⟩
      rfl
    · exfalso
      refine hg ?_
      have h' : (if (if (if (if (!a.right) = true then true else !b.right) = true then true else !(a.kind == b.kind)) = true then true else !(a.q == b.q)) = true then true else (if (!(a.kind == 1)) = true then (!(a.kind == 2)) else false)) = false := h
      revert h'
      cases a.right <;> cases b.right <;> by_cases h1 : a.kind = b.kind <;> by_cases h2 : a.q = b.q <;> by_cases h3 : a.kind = 1 <;> by_cases h4 : a.kind = 2 <;> simp [h1, h2, h3, h4] <;> omega
end Go.Iron.Tryz
