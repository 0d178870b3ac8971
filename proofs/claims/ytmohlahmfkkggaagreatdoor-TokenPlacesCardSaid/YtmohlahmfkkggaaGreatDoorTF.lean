/- The token seat: the reference's small functions. -/
import Derived.Test.YtmohlahmfkkggaaGreatDoorTC
import Derived.Test.YtmohlahmfkkggaaGreatDoorTE
namespace Go.Iron.Tryz
open Go.Proofs Go.RowKit Go.Iron.Tok

def letP (c : Nat) : Bool := (decide (65 ≤ c) && decide (c ≤ 90)) || (decide (97 ≤ c) && decide (c ≤ 122))
def mrkP (c : Nat) : Bool := c == 36 || c == 35 || c == 64
theorem beg_let (c : Nat) : begP c = (letP c || mrkP c) := by
  unfold begP letP mrkP upN
  rw [Bool.eq_iff_iff]
  split <;> simp <;> omega
theorem r_space (c : Nat) : CallT Tryz.prog 81 [uv c] [] (fun o A => o = .ret (bv (spP c)) ∧ A = []) := by
  refine callS_body (n := 13) rfl rfl fun w ρ X => ?_
  refine runS_x (I := inf) (J := jnf) ⟨false, false, [], 0, 0⟩ 9999 rfl (by repeat (first | exact obs_nil | refine obs_draw (by kernel_rfl) ?_ | refine obs_same ?_ | refine obs_and ?_ | refine obs_by (by (simp [inB] <;> omega)) ?_)) ?_
  refine runS_ret (I := inf) 0 rfl (Nat.le_refl _) rfl .nil rfl ⟨?_, rfl⟩
  refine congrArg (fun x => Out.ret (bv x)) ?_
  unfold spP
  rw [Bool.eq_iff_iff]
  simp
  omega
theorem r_source (c : Nat) : CallT Tryz.prog 83 [uv c] [] (fun o A => o = .ret (bv (plP c)) ∧ A = []) := by
  refine callS_body (n := 17) rfl rfl fun w ρ X => ?_
  refine runS_x (I := inf) (J := jnf) ⟨false, false, [], 0, 0⟩ 9999 rfl (by repeat (first | exact obs_nil | refine obs_draw (by kernel_rfl) ?_ | refine obs_same ?_ | refine obs_and ?_ | refine obs_by (by (simp [inB] <;> omega)) ?_)) ?_
  refine runS_ret (I := inf) 0 rfl (Nat.le_refl _) rfl .nil rfl ⟨?_, rfl⟩
  refine congrArg (fun x => Out.ret (bv x)) ?_
  unfold plP
  rw [Bool.eq_iff_iff]
  simp
  omega
theorem r_letter (c : Nat) : CallT Tryz.prog 84 [uv c] [] (fun o A => o = .ret (bv (letP c)) ∧ A = []) := by
  refine callS_body (n := 17) rfl rfl fun w ρ X => ?_
  refine runS_x (I := inf) (J := jnf) ⟨false, false, [], 0, 0⟩ 9999 rfl (by repeat (first | exact obs_nil | refine obs_draw (by kernel_rfl) ?_ | refine obs_same ?_ | refine obs_and ?_ | refine obs_by (by (simp [inB] <;> omega)) ?_)) ?_
  refine runS_ret (I := inf) 0 rfl (Nat.le_refl _) rfl .nil rfl ⟨?_, rfl⟩
  refine congrArg (fun x => Out.ret (bv x)) ?_
  unfold letP
  rw [Bool.eq_iff_iff]
  simp
  omega
theorem r_mark (c : Nat) : CallT Tryz.prog 85 [uv c] [] (fun o A => o = .ret (bv (mrkP c)) ∧ A = []) := by
  refine callS_body (n := 13) rfl rfl fun w ρ X => ?_
  refine runS_x (I := inf) (J := jnf) ⟨false, false, [], 0, 0⟩ 9999 rfl (by repeat (first | exact obs_nil | refine obs_draw (by kernel_rfl) ?_ | refine obs_same ?_ | refine obs_and ?_ | refine obs_by (by (simp [inB] <;> omega)) ?_)) ?_
  refine runS_ret (I := inf) 0 rfl (Nat.le_refl _) rfl .nil rfl ⟨?_, rfl⟩
  refine congrArg (fun x => Out.ret (bv x)) ?_
  unfold mrkP
  rw [Bool.eq_iff_iff]
  simp
  omega
theorem r_digit (c : Nat) : CallT Tryz.prog 13 [uv c] [] (fun o A => o = .ret (bv (digP c)) ∧ A = []) := by
  refine callS_body (n := 9) rfl rfl fun w ρ X => ?_
  refine runS_x (I := inf) (J := jnf) ⟨false, false, [], 0, 0⟩ 9999 rfl (by repeat (first | exact obs_nil | refine obs_draw (by kernel_rfl) ?_ | refine obs_same ?_ | refine obs_and ?_ | refine obs_by (by (simp [inB] <;> omega)) ?_)) ?_
  refine runS_ret (I := inf) 0 rfl (Nat.le_refl _) rfl .nil rfl ⟨?_, rfl⟩
  refine congrArg (fun x => Out.ret (bv x)) ?_
  unfold digP
  rw [Bool.eq_iff_iff]
  simp
  omega
theorem r_within (c : Nat) : CallT Tryz.prog 86 [uv c] [] (fun o A => o = .ret (bv (goP c)) ∧ A = []) := by
  refine callS_body (n := 17) rfl rfl fun w ρ X => ?_
  refine runS_x (I := inf) (J := jnf) ⟨false, false, [], 0, 0⟩ 9999 rfl (by repeat (first | exact obs_nil | refine obs_draw (by kernel_rfl) ?_ | refine obs_same ?_ | refine obs_and ?_ | refine obs_by (by (simp [inB] <;> omega)) ?_)) ?_
  refine runS_call rfl rfl rfl rfl rfl rfl rfl (r_letter c) ?_
  refine runS_x (I := inf) (J := jnf) ⟨false, false, [], 0, 0⟩ 9999 rfl (by repeat (first | exact obs_nil | refine obs_draw (by kernel_rfl) ?_ | refine obs_same ?_ | refine obs_and ?_ | refine obs_by (by (simp [inB] <;> omega)) ?_)) ?_
  refine runS_callU rfl rfl (by first | exact .v rfl rfl rfl rfl | exact .o rfl rfl rfl rfl) rfl rfl (by repeat (first | exact .nil | refine .cons (.n rfl) ?_ | refine .cons .o ?_ | refine .cons gok_and ?_)) rfl rfl rfl rfl rfl (fun _ => (r_digit c)) ?_
  refine runS_x (I := inf) (J := jnf) ⟨false, false, [], 0, 0⟩ 9999 rfl (by repeat (first | exact obs_nil | refine obs_draw (by kernel_rfl) ?_ | refine obs_same ?_ | refine obs_and ?_ | refine obs_by (by (simp [inB] <;> omega)) ?_)) ?_
  refine runS_callU rfl rfl (by first | exact .v rfl rfl rfl rfl | exact .o rfl rfl rfl rfl) rfl rfl (by repeat (first | exact .nil | refine .cons (.n rfl) ?_ | refine .cons .o ?_ | refine .cons gok_and ?_)) rfl rfl rfl rfl rfl (fun _ => (r_mark c)) ?_
  refine runS_x (I := inf) (J := jnf) ⟨false, false, [], 0, 0⟩ 9999 rfl (by repeat (first | exact obs_nil | refine obs_draw (by kernel_rfl) ?_ | refine obs_same ?_ | refine obs_and ?_ | refine obs_by (by (simp [inB] <;> omega)) ?_)) ?_
  refine runS_ret (I := inf) 0 rfl (Nat.le_refl _) rfl .nil rfl ⟨?_, rfl⟩
  refine congrArg (fun x => Out.ret (bv x)) ?_
  unfold goP
  rw [beg_let]
  generalize letP c = x
  generalize digP c = y
  generalize mrkP c = z
  rw [Bool.eq_iff_iff]
  cases x <;> cases y <;> cases z <;> simp <;> omega
theorem r_hex (c : Nat) (hc : c ≤ 255) : CallT Tryz.prog 116 [uv c] [] (fun o A => o = .ret (iv (match hexN c with | some n => (n : Int) | none => -1)) ∧ A = []) := by
  refine callS_body (n := 31) rfl rfl fun w ρ X => ?_
  refine runS_x (I := inf) (J := jnf) ⟨false, false, [], 0, 0⟩ 9999 rfl (by repeat (first | exact obs_nil | refine obs_draw (by kernel_rfl) ?_ | refine obs_same ?_ | refine obs_and ?_ | refine obs_by (by (simp [inB] <;> omega)) ?_)) ?_
  refine runS_call rfl rfl rfl rfl rfl rfl rfl (r_digit c) ?_
  refine runS_x (I := inf) (J := jnf) ⟨false, false, [], 0, 0⟩ 9999 rfl (by repeat (first | exact obs_nil | refine obs_draw (by kernel_rfl) ?_ | refine obs_same ?_ | refine obs_and ?_ | refine obs_by (by (simp [inB] <;> omega)) ?_)) ?_
  refine runS_cond rfl (fun h => ?_) (fun h => ?_)
  · have h1 : 48 ≤ c ∧ c ≤ 57 := by have : digP c = true := h; simpa [digP] using this
    refine runS_x (I := inf) (J := jnf) ⟨false, false, [], 0, 0⟩ 9999 rfl (by repeat (first | exact obs_nil | refine obs_draw (by kernel_rfl) ?_ | refine obs_same ?_ | refine obs_and ?_ | refine obs_by (by (simp [inB] <;> omega)) ?_)) ?_
    refine runS_ret (I := inf) 0 rfl (Nat.le_refl _) rfl .nil rfl ⟨?_, rfl⟩
    rw [hexN, if_pos h1]
    have e : IntKind.wrap .i64 (IntKind.wrap .u8 ((c : Int) - 48)) = ((c - 48 : Nat) : Int) := by
      rw [IntWalk.u8_in _ (by omega), w64 (by omega) (by omega)]; omega
    exact congrArg (fun x => Out.ret (iv x)) e
  · have h1 : ¬ (48 ≤ c ∧ c ≤ 57) := by have : digP c = false := h; simp [digP] at this; omega
    refine runS_x (I := inf) (J := jnf) ⟨false, false, [], 0, 0⟩ 9999 rfl (by repeat (first | exact obs_nil | refine obs_draw (by kernel_rfl) ?_ | refine obs_same ?_ | refine obs_and ?_ | refine obs_by (by (simp [inB] <;> omega)) ?_)) ?_
    refine runS_cond rfl (fun h2 => ?_) (fun h2 => ?_)
    · have h3 : 65 ≤ c ∧ c ≤ 70 := by simp at h2; omega
      have hu : upN c = c := by unfold upN; rw [if_neg (by omega)]
      refine runS_x (I := inf) (J := jnf) ⟨false, false, [], 0, 0⟩ 9999 rfl (by repeat (first | exact obs_nil | refine obs_draw (by kernel_rfl) ?_ | refine obs_same ?_ | refine obs_and ?_ | refine obs_by (by (simp [inB] <;> omega)) ?_)) ?_
      refine runS_ret (I := inf) 0 rfl (Nat.le_refl _) rfl .nil rfl ⟨?_, rfl⟩
      rw [hexN, if_neg h1, hu, if_pos h3]
      have e : IntKind.wrap .i64 (IntKind.wrap .i64 (IntKind.wrap .u8 ((c : Int) - 65)) + 10) = ((c - 55 : Nat) : Int) := by
        rw [IntWalk.u8_in _ (by omega), w64 (x := (c : Int) - 65) (by omega) (by omega), w64 (by omega) (by omega)]; omega
      exact congrArg (fun x => Out.ret (iv x)) e
    · have h3 : ¬ (65 ≤ c ∧ c ≤ 70) := by simp at h2; omega
      refine runS_x (I := inf) (J := jnf) ⟨false, false, [], 0, 0⟩ 9999 rfl (by repeat (first | exact obs_nil | refine obs_draw (by kernel_rfl) ?_ | refine obs_same ?_ | refine obs_and ?_ | refine obs_by (by (simp [inB] <;> omega)) ?_)) ?_
      refine runS_cond rfl (fun h4 => ?_) (fun h4 => ?_)
      · have h5 : 97 ≤ c ∧ c ≤ 102 := by simp at h4; omega
        have hu : upN c = c - 32 := by unfold upN; rw [if_pos (by omega)]
        refine runS_x (I := inf) (J := jnf) ⟨false, false, [], 0, 0⟩ 9999 rfl (by repeat (first | exact obs_nil | refine obs_draw (by kernel_rfl) ?_ | refine obs_same ?_ | refine obs_and ?_ | refine obs_by (by (simp [inB] <;> omega)) ?_)) ?_
        refine runS_ret (I := inf) 0 rfl (Nat.le_refl _) rfl .nil rfl ⟨?_, rfl⟩
        rw [hexN, if_neg h1, hu, if_pos (by omega)]
        have e : IntKind.wrap .i64 (IntKind.wrap .i64 (IntKind.wrap .u8 ((c : Int) - 97)) + 10) = ((c - 32 - 55 : Nat) : Int) := by
          rw [IntWalk.u8_in _ (by omega), w64 (x := (c : Int) - 97) (by omega) (by omega), w64 (by omega) (by omega)]; omega
        exact congrArg (fun x => Out.ret (iv x)) e
      · have h5 : ¬ (97 ≤ c ∧ c ≤ 102) := by simp at h4; omega
        refine runS_x (I := inf) (J := jnf) ⟨false, false, [], 0, 0⟩ 9999 rfl (by repeat (first | exact obs_nil | refine obs_draw (by kernel_rfl) ?_ | refine obs_same ?_ | refine obs_and ?_ | refine obs_by (by (simp [inB] <;> omega)) ?_)) ?_
        refine runS_ret (I := inf) 0 rfl (Nat.le_refl _) rfl .nil rfl ⟨?_, rfl⟩
        rw [hexN, if_neg h1, if_neg (by unfold upN; split <;> omega)]
        rfl
theorem pre_part (s w : Str) (p : Nat) (hp : p ≤ s.length) : (decide (p + w.length ≤ s.length) && decide (part2 (p : Int) ((p + w.length : Nat) : Int) s = w)) = w.isPrefixOf (s.drop p) := by
  rw [Bool.eq_iff_iff, Bool.and_eq_true, decide_eq_true_eq, decide_eq_true_eq, List.isPrefixOf_iff_prefix]
  have e : part2 (p : Int) ((p + w.length : Nat) : Int) s = (s.drop p).take w.length := by
    show (s.take (p + w.length)).drop p = _
    rw [List.drop_take]
    congr 1
    omega
  rw [e]
  constructor
  · rintro ⟨h1, h2⟩
    exact List.prefix_iff_eq_take.2 h2.symm
  · intro h
    refine ⟨?_, (List.prefix_iff_eq_take.1 h).symm⟩
    have := h.length_le
    rw [List.length_drop] at this
    omega
theorem r_begins (s x0 : Str) (p : Nat) (hp : p ≤ s.length) (hs : s.length ≤ 30000) (hw : x0.length ≤ 100) : CallT Tryz.prog 82 [sv s, iv p, sv x0] [] (fun o A => o = .ret (bv (x0.isPrefixOf (s.drop p))) ∧ A = []) := by
  have hw1 : IntKind.wrap .i64 ((p : Int) + (x0.length : Int)) = ((p + x0.length : Nat) : Int) := by rw [w64 (by omega) (by omega)]; rfl
  refine callS_body (n := 25) rfl rfl fun w ρ X => ?_
  refine runS_x (I := inf) (J := jnf) ⟨false, false, [], 0, 0⟩ 9999 rfl (by repeat (first | exact obs_nil | refine obs_draw (by kernel_rfl) ?_ | refine obs_same ?_ | refine obs_and ?_ | refine obs_by (by (simp [inB, blS, hw1] <;> omega)) ?_)) ?_
  refine runS_ret (I := inf) 0 rfl (Nat.le_refl _) rfl .nil rfl ⟨?_, rfl⟩
  refine congrArg (fun x => Out.ret (bv x)) ?_
  rw [← pre_part s x0 p hp]
  show (if decide (IntKind.wrap .i64 ((p : Int) + (x0.length : Int)) ≤ (s.length : Int)) = true then ((bs (part2 (p : Int) (IntKind.wrap .i64 ((p : Int) + (x0.length : Int))) s)).toList == (bs x0).toList) else false) = _
  rw [hw1, bs_beq]
  by_cases h : p + x0.length ≤ s.length
  · have h2 : ((p + x0.length : Nat) : Int) ≤ (s.length : Int) := by omega
    simp only [h, h2, decide_true, if_true, Bool.true_and]
  · have h2 : ¬ ((p + x0.length : Nat) : Int) ≤ (s.length : Int) := by omega
    simp only [h, h2, decide_false, Bool.false_and]
    rfl
theorem upS_len (s : Str) : (upS s).length = s.length := by unfold upS; rw [List.length_map]
theorem textR_eq {m : Nat} {r : Nat → Int} {b : Str} (hm : m = b.length) (hr : ∀ j, j < m → r j = ((byt b j : Nat) : Int)) : textR m r = bs b := by
  unfold textR
  congr 2
  apply List.ext_getElem?
  intro j
  rw [List.getElem?_map]
  by_cases hj : j < m
  · rw [List.getElem?_range hj, List.getElem?_eq_getElem (by omega : j < b.length)]
    show some (UInt8.ofNat (r j).toNat) = _
    rw [hr j hj, Int.toNat_natCast]
    have e1 : byt b j = (b[j]'(by omega)).toNat := by unfold byt; rw [List.getD_eq_getElem?_getD, List.getElem?_eq_getElem (by omega : j < b.length)]; rfl
    rw [e1]
    simp
  · rw [List.getElem?_eq_none (by simp; omega), List.getElem?_eq_none (by omega)]
    rfl
/-- The first i bytes in great letters. -/
def upTo (s : Str) (i : Nat) : Str := upS (s.take i) ++ s.drop i
theorem upTo_byt (s : Str) (i j : Nat) : byt (upTo s i) j = if j < i then upN (byt s j) else byt s j := by
  unfold upTo byt
  rw [List.getD_eq_getElem?_getD, List.getD_eq_getElem?_getD, List.getElem?_append, upS_len, List.length_take, List.getElem?_drop]
  unfold upS
  rw [List.getElem?_map, List.getElem?_take]
  by_cases h : j < i
  · by_cases hl : j < s.length
    · rw [if_pos (by omega), if_pos h, if_pos h, List.getElem?_eq_getElem hl]
      show (upB s[j]).toNat = _
      have h1 := s[j].toNat_lt
      have h2 : upN s[j].toNat ≤ 255 := by unfold upN; split <;> omega
      unfold upB
      rw [UInt8.toNat_ofNat', Nat.mod_eq_of_lt (by omega)]
      rfl
    · rw [if_neg (by omega), if_pos h, List.getElem?_eq_none (by omega), List.getElem?_eq_none (by omega)]
      rfl
  · by_cases hl : j < s.length
    · rw [if_neg (by omega), if_neg h, show i + (j - min i s.length) = j by omega]
    · rw [if_neg (by omega), if_neg h, List.getElem?_eq_none (by omega), List.getElem?_eq_none (by omega)]
theorem r_great (s : Str) (hs : s.length ≤ 30000) : CallT Tryz.prog 87 [sv s] [] (fun o A => o = .ret (sv (upS s)) ∧ A = []) := by
  have hml : (bl' (bs s)).length ≤ maxLen := by
    have e : (bl' (bs s)).length = s.length := rfl
    have e2 : maxLen = 9223372036854775807 := rfl
    omega
  refine callS_body (n := 33) rfl rfl fun w ρ X => ?_
  refine runS_x (I := inf) (J := jnf) ⟨false, false, [], 0, 0⟩ 9999 rfl (by repeat (first | exact obs_nil | refine obs_draw (by kernel_rfl) ?_ | refine obs_same ?_ | refine obs_and ?_ | refine obs_by (by (simp [inB, hml] <;> omega)) ?_)) ?_
  refine runS_while (fun (x : Nat × (Nat → Int)) τ ar => (τ 3 = .row 0 0 ∧ τ 4 = iv x.1) ∧ ar = [.byt s.length x.2] ∧ x.1 ≤ s.length ∧ ∀ j, j < s.length → x.2 j = ((byt (upTo s x.1) j : Nat) : Int)) (fun x => s.length - x.1) (0, bytR (bs s)) ⟨⟨rfl, rfl⟩, rfl, Nat.zero_le _, fun j hj => by rw [upTo_byt, if_neg (by omega)]; rfl⟩ ?_
  rintro ⟨i, r⟩ τ' ar' ⟨⟨g3, g4⟩, rfl, hi, hr⟩ ih
  dsimp only at hi hr ih
  refine runS_says 3 (by exact g3) (Says.refl _) ?_; refine runS_says 4 (by exact g4) (Says.refl _) ?_
  refine runS_x (I := inf) (J := jnf) ⟨false, false, [], 0, 0⟩ 9999 rfl (by repeat (first | exact obs_nil | refine obs_draw (by kernel_rfl) ?_ | refine obs_same ?_ | refine obs_and ?_ | refine obs_by (by (simp [inB] <;> omega)) ?_)) ?_
  refine runS_cond rfl (fun h1 => ?_) (fun h1 => ?_)
  · have hil : i < s.length := by
      have : decide ((i : Int) < (s.length : Int)) = true := h1
      simp at this
      omega
    have hri := hr i hil
    rw [upTo_byt, if_neg (Nat.lt_irrefl i)] at hri
    have hw1 : IntKind.wrap .i64 ((i : Int) + 1) = ((i + 1 : Nat) : Int) := by rw [w64 (by omega) (by omega)]; rfl
    refine runS_x (I := inf) (J := jnf) ⟨false, false, [], 0, 0⟩ 9999 rfl (by repeat (first | exact obs_nil | refine obs_draw (by kernel_rfl) ?_ | refine obs_same ?_ | refine obs_and ?_ | refine obs_by (by (simp [inB, hil] <;> omega)) ?_)) ?_
    have hcd : (if decide (r ((i : Int)).toNat ≥ 97) = true then decide (r ((i : Int)).toNat ≤ 122) else false) = decide (97 ≤ byt s i ∧ byt s i ≤ 122) := by
      rw [Int.toNat_natCast, hri, Bool.eq_iff_iff]
      simp
      omega
    refine runS_cond rfl (fun h2 => ?_) (fun h2 => ?_)
    · have hc := of_decide_eq_true (hcd.symm.trans h2)
      refine runS_x (I := inf) (J := jnf) ⟨false, false, [], 0, 0⟩ 9999 rfl (by repeat (first | exact obs_nil | refine obs_draw (by kernel_rfl) ?_ | refine obs_same ?_ | refine obs_and ?_ | refine obs_by (by (simp [inB, hil] <;> omega)) ?_)) ?_
      refine ih (i + 1, setB r i (IntKind.wrap .u8 (r i - 32))) _ _ (by dsimp only; omega) ⟨⟨rfl, congrArg iv hw1⟩, rfl, hil, fun j hj => ?_⟩
      dsimp only
      rw [setB_eq, upTo_byt]
      by_cases hji : j = i
      · subst hji
        rw [if_pos rfl, if_pos (by omega), hri, IntWalk.u8_in _ (by omega), upN, if_pos hc]
        omega
      · rw [if_neg hji, hr j hj, upTo_byt]
        by_cases hlt : j < i
        · rw [if_pos hlt, if_pos (by omega)]
        · rw [if_neg hlt, if_neg (by omega)]
    · have hc := of_decide_eq_false (hcd.symm.trans h2)
      refine runS_x (I := inf) (J := jnf) ⟨false, false, [], 0, 0⟩ 9999 rfl (by repeat (first | exact obs_nil | refine obs_draw (by kernel_rfl) ?_ | refine obs_same ?_ | refine obs_and ?_ | refine obs_by (by (simp [inB] <;> omega)) ?_)) ?_
      refine ih (i + 1, r) _ _ (by dsimp only; omega) ⟨⟨rfl, congrArg iv hw1⟩, rfl, hil, fun j hj => ?_⟩
      dsimp only
      rw [hr j hj, upTo_byt, upTo_byt]
      by_cases hlt : j < i
      · rw [if_pos hlt, if_pos (by omega)]
      · by_cases hji : j = i
        · subst hji
          rw [if_neg (by omega), if_pos (by omega), upN, if_neg hc]
        · rw [if_neg hlt, if_neg (by omega)]
  · have hie : i = s.length := by
      have : decide ((i : Int) < (s.length : Int)) = false := h1
      simp at this
      omega
    subst hie
    have hfull : upTo s s.length = upS s := by unfold upTo; rw [List.take_length, List.drop_length, List.append_nil]
    have ht : textR s.length r = bs (upS s) := textR_eq (by rw [upS_len]) fun j hj => by rw [← hfull]; exact hr j hj
    refine runS_x (I := inf) (J := jnf) ⟨false, false, [], 0, 0⟩ 9999 rfl (by repeat (first | exact obs_nil | refine obs_draw (by kernel_rfl) ?_ | refine obs_same ?_ | refine obs_and ?_ | refine obs_by (by (simp [inB] <;> omega)) ?_)) ?_
    refine runS_ret (I := inf) 0 rfl (Nat.le_refl _) rfl .nil rfl ⟨?_, rfl⟩
    exact congrArg (fun x => Out.ret (.val (.string x))) ht
end Go.Iron.Tryz

/- The token seat: the reference's number. -/
namespace Go.Iron.Tryz
open Go.Proofs Go.RowKit Go.Iron.Tok

def rNum (s : Str) (p : Nat) : Nat × Bool :=
  if upN (byt s (numD s p)) = 66 then (numD s p + 1, bits01 (Tok.part s p (numD s p)))
  else if upN (byt s (numD s p)) = 69 then (signE s (numD s p + 1) + min 2 (spanN s digP (signE s (numD s p + 1)) - signE s (numD s p + 1)), decide (0 < min 2 (spanN s digP (signE s (numD s p + 1)) - signE s (numD s p + 1))))
  else (numD s p, true)
/-- Both numbers are the same where they are numbers. -/
theorem rNum_eq (s : Str) (p : Nat) : ((rNum s p).2 = true ∧ goP (byt s (rNum s p).1) = false) ↔ ((numE s p).2 = true ∧ goP (byt s (numE s p).1) = false) := by
  have hE : numE s p = if upN (byt s (numD s p)) = 69 then (spanN s digP (signE s (numD s p + 1)), decide (1 ≤ spanN s digP (signE s (numD s p + 1)) - signE s (numD s p + 1)) && decide (spanN s digP (signE s (numD s p + 1)) - signE s (numD s p + 1) ≤ 2)) else if upN (byt s (numD s p)) = 66 then (numD s p + 1, bits01 (Tok.part s p (numD s p))) else (numD s p, true) := rfl
  unfold rNum
  rw [hE]
  by_cases h66 : upN (byt s (numD s p)) = 66
  · rw [if_pos h66, if_neg (by omega), if_pos h66]
  rw [if_neg h66]
  by_cases h69 : upN (byt s (numD s p)) = 69
  · rw [if_pos h69, if_pos h69]
    generalize signE s (numD s p + 1) = k
    have h1 := spanN_le s digP k
    have h2 := spanN_in s digP k
    generalize spanN s digP k = r at h1 h2 ⊢
    dsimp only
    by_cases hr : r - k ≤ 2
    · rw [Nat.min_eq_right hr, show k + (r - k) = r by omega]
      simp
      omega
    · have hd := dig_go (h2 (k + 2) (by omega) (by omega))
      rw [Nat.min_eq_left (by omega), hd]
      simp
      omega
  · rw [if_neg h69, if_neg h69, if_neg h66]
theorem rNum_end {s : Str} {p : Nat} (h : (rNum s p).2 = true ∧ goP (byt s (rNum s p).1) = false) : (rNum s p).1 = (numE s p).1 := by
  have hE : numE s p = if upN (byt s (numD s p)) = 69 then (spanN s digP (signE s (numD s p + 1)), decide (1 ≤ spanN s digP (signE s (numD s p + 1)) - signE s (numD s p + 1)) && decide (spanN s digP (signE s (numD s p + 1)) - signE s (numD s p + 1) ≤ 2)) else if upN (byt s (numD s p)) = 66 then (numD s p + 1, bits01 (Tok.part s p (numD s p))) else (numD s p, true) := rfl
  unfold rNum at h ⊢
  rw [hE]
  by_cases h66 : upN (byt s (numD s p)) = 66
  · rw [if_pos h66, if_neg (by omega), if_pos h66]
  rw [if_neg h66] at h ⊢
  by_cases h69 : upN (byt s (numD s p)) = 69
  · rw [if_pos h69] at h ⊢
    rw [if_pos h69]
    generalize signE s (numD s p + 1) = k at h ⊢
    have h1 := spanN_le s digP k
    have h2 := spanN_in s digP k
    generalize spanN s digP k = r at h1 h2 h ⊢
    dsimp only at h ⊢
    by_cases hr : r - k ≤ 2
    · rw [Nat.min_eq_right hr]
      omega
    · have hd := dig_go (h2 (k + 2) (by omega) (by omega))
      rw [Nat.min_eq_left (by omega), hd] at h
      cases h.2
  · rw [if_neg h69, if_neg h69, if_neg h66]
theorem part_snoc {s : Str} {p k : Nat} (hp : p ≤ k) (hk : k < s.length) : Tok.part s p (k + 1) = Tok.part s p k ++ [s.getD k 0] := by
  unfold Tok.part
  rw [List.take_succ_eq_append_getElem hk, List.drop_append_of_le_length (by rw [List.length_take]; omega), List.getD_eq_getElem?_getD, List.getElem?_eq_getElem hk]
  rfl
theorem bits_snoc {s : Str} {p k : Nat} (hp : p ≤ k) (hk : k < s.length) : bits01 (Tok.part s p (k + 1)) = (bits01 (Tok.part s p k) && (byt s k == 48 || byt s k == 49 || byt s k == 46)) := by
  rw [part_snoc hp hk]
  unfold bits01
  rw [List.all_append]
  simp [byt]
theorem span_min {s : Str} {k n : Nat} (h1 : ∀ j, j < n → k + j < s.length ∧ digP (byt s (k + j)) = true) (h2 : n ≤ 2) (h3 : n = 2 ∨ ¬ (k + n < s.length ∧ digP (byt s (k + n)) = true)) : n = min 2 (spanN s digP k - k) := by
  have hst := spanN_stop s digP k
  have hle := spanN_le s digP k
  have hge : k + n ≤ spanN s digP k := by
    rcases Nat.lt_or_ge (spanN s digP k) (k + n) with h | h
    · have := h1 (spanN s digP k - k) (by omega)
      rw [show k + (spanN s digP k - k) = spanN s digP k by omega] at this
      exact absurd this hst
    · exact h
  rcases h3 with h3 | h3
  · omega
  · have := spanN_eq (s := s) (f := digP) (p := k) (q := k + n) (by omega) (fun j a b => by have := h1 (j - k) (by omega); rwa [show k + (j - k) = j by omega] at this) h3
    omega
theorem part_nil (s : Str) (p : Nat) : Tok.part s p p = [] := by
  unfold Tok.part
  rw [List.drop_eq_nil_iff]
  rw [List.length_take]
  omega
theorem r_number (s : Str) (p : Nat) (hs : s.length ≤ 29000) (hp : p ≤ s.length) : CallT Tryz.prog 88 [sv s, iv p] [] (fun o A => o = .ret (.tup [iv (rNum s p).1, bv (rNum s p).2]) ∧ A = []) := by
  refine callS_body (n := 120) rfl rfl fun w ρ X => ?_
  refine runS_x (I := inf) (J := jnf) ⟨false, false, [], 0, 0⟩ 9999 rfl (by repeat (first | exact obs_nil | refine obs_draw (by kernel_rfl) ?_ | refine obs_same ?_ | refine obs_and ?_ | refine obs_by (by (simp [inB] <;> omega)) ?_)) ?_
  refine runS_while (fun (x : Nat × Bool) τ ar => (τ 0 = sv s ∧ τ 1 = iv p ∧ τ 6 = iv x.1 ∧ τ 7 = bv x.2 ∧ τ 8 = bv (bits01 (Tok.part s p x.1))) ∧ ar = [] ∧ x.1 ≤ s.length ∧ p ≤ x.1 ∧ numD s p = if x.2 = true then spanN s digP x.1 else numD s x.1) (fun x => s.length - x.1) (p, false) ⟨⟨rfl, rfl, rfl, rfl, by dsimp only; rw [part_nil]; rfl⟩, rfl, hp, Nat.le_refl _, rfl⟩ ?_
  rintro ⟨k, pt⟩ τ' ar' ⟨⟨g0, g1, g6, g7, g8⟩, rfl, hk, hpk, hD⟩ ih
  dsimp only at hk hpk hD ih
  refine runS_says 0 (by exact g0) (Says.refl _) ?_; refine runS_says 1 (by exact g1) (Says.refl _) ?_; refine runS_says 6 (by exact g6) (Says.refl _) ?_; refine runS_says 7 (by exact g7) (Says.refl _) ?_; refine runS_says 8 (by exact g8) (Says.refl _) ?_
  refine runS_x (I := inf) (J := jnf) ⟨false, false, [], 0, 0⟩ 9999 rfl (by repeat (first | exact obs_nil | refine obs_draw (by kernel_rfl) ?_ | refine obs_same ?_ | refine obs_and ?_ | refine obs_by (by (simp [inB, blS] <;> omega)) ?_)) ?_
  refine runS_callU rfl rfl (by first | exact .v rfl rfl rfl rfl | exact .o rfl rfl rfl rfl) rfl rfl (by repeat (first | exact .nil | refine .cons (.n rfl) ?_ | refine .cons .o ?_ | refine .cons gok_and ?_)) rfl rfl rfl rfl rfl (fun _ => (r_digit (byt s k))) ?_
  refine runS_x (I := inf) (J := jnf) ⟨false, false, [], 0, 0⟩ 9999 rfl (by repeat (first | exact obs_nil | refine obs_draw (by kernel_rfl) ?_ | refine obs_same ?_ | refine obs_and ?_ | refine obs_by (by (simp [inB, blS] <;> omega)) ?_)) ?_
  have hcd : (if decide ((k : Int) < (s.length : Int)) = true then (if digP (byt s k) = true then true else (if (((byt s k : Nat) : Int) == 46) = true then !pt else false)) else false) = decide (k < s.length ∧ (digP (byt s k) = true ∨ (byt s k = 46 ∧ pt = false))) := by
    rw [Bool.eq_iff_iff]
    by_cases h : k < s.length <;> cases hd : digP (byt s k) <;> by_cases h46 : byt s k = 46 <;> cases pt <;> simp [h, h46] <;> omega
  refine runS_cond rfl (fun h => ?_) (fun h => ?_)
  · obtain ⟨hkl, hc⟩ := of_decide_eq_true (hcd.symm.trans h)
    have hw1 : IntKind.wrap .i64 ((k : Int) + 1) = ((k + 1 : Nat) : Int) := by rw [w64 (by omega) (by omega)]; rfl
    have hbs := bits_snoc hpk hkl
    refine runS_x (I := inf) (J := jnf) ⟨false, false, [], 0, 0⟩ 9999 rfl (by repeat (first | exact obs_nil | refine obs_draw (by kernel_rfl) ?_ | refine obs_same ?_ | refine obs_and ?_ | refine obs_by (by (simp [inB, blS, hkl] <;> omega)) ?_)) ?_
    refine runS_cond rfl (fun h1 => ?_) (fun h1 => ?_)
    · have h46 : byt s k = 46 := by
        have : (((byt s k : Nat) : Int) == 46) = true := h1
        simp at this
        omega
      have hpt : pt = false := by
        rcases hc with hc | hc
        · rw [h46] at hc; exact absurd hc (by decide)
        · exact hc.2
      subst hpt
      refine runS_x (I := inf) (J := jnf) ⟨false, false, [], 0, 0⟩ 9999 rfl (by repeat (first | exact obs_nil | refine obs_draw (by kernel_rfl) ?_ | refine obs_same ?_ | refine obs_and ?_ | refine obs_by (by (simp [inB] <;> omega)) ?_)) ?_
      refine ih (k + 1, true) _ _ (by dsimp only; omega) ⟨⟨rfl, rfl, congrArg iv hw1, rfl, ?_⟩, rfl, hkl, by dsimp only; omega, ?_⟩
      · show bv (bits01 (Tok.part s p k)) = bv (bits01 (Tok.part s p (k + 1)))
        rw [hbs, h46]
        simp
      · rw [hD, if_neg (by decide)]
        dsimp only
        rw [if_pos rfl]
        unfold numD
        rw [spanN_end (by rw [h46]; simp [digP])]
        rw [if_pos h46]
    · have h46 : byt s k ≠ 46 := by
        have : (((byt s k : Nat) : Int) == 46) = false := h1
        simp at this
        omega
      have hdg : digP (byt s k) = true := by
        rcases hc with hc | hc
        · exact hc
        · exact absurd hc.1 h46
      have hdr : 48 ≤ byt s k ∧ byt s k ≤ 57 := by simpa [digP] using hdg
      have hDn : numD s p = if pt = true then spanN s digP (k + 1) else numD s (k + 1) := by
        rw [hD]
        cases pt
        · rw [if_neg (by decide), if_neg (by decide)]
          unfold numD
          rw [spanN_go hkl hdg]
        · rw [if_pos rfl, if_pos rfl, spanN_go hkl hdg]
      refine runS_x (I := inf) (J := jnf) ⟨false, false, [], 0, 0⟩ 9999 rfl (by repeat (first | exact obs_nil | refine obs_draw (by kernel_rfl) ?_ | refine obs_same ?_ | refine obs_and ?_ | refine obs_by (by (simp [inB, blS, hkl] <;> omega)) ?_)) ?_
      refine runS_cond rfl (fun h2 => ?_) (fun h2 => ?_)
      · have h49 : byt s k > 49 := by
          have : decide (((byt s k : Nat) : Int) > 49) = true := h2
          simp at this
          omega
        refine runS_x (I := inf) (J := jnf) ⟨false, false, [], 0, 0⟩ 9999 rfl (by repeat (first | exact obs_nil | refine obs_draw (by kernel_rfl) ?_ | refine obs_same ?_ | refine obs_and ?_ | refine obs_by (by (simp [inB] <;> omega)) ?_)) ?_
        refine ih (k + 1, pt) _ _ (by dsimp only; omega) ⟨⟨rfl, rfl, congrArg iv hw1, rfl, ?_⟩, rfl, hkl, by dsimp only; omega, hDn⟩
        show bv false = bv (bits01 (Tok.part s p (k + 1)))
        rw [hbs]
        have : (byt s k == 48 || byt s k == 49 || byt s k == 46) = false := by simp; omega
        rw [this, Bool.and_false]
      · have h49 : byt s k ≤ 49 := by
          have : decide (((byt s k : Nat) : Int) > 49) = false := h2
          simp at this
          omega
        refine runS_x (I := inf) (J := jnf) ⟨false, false, [], 0, 0⟩ 9999 rfl (by repeat (first | exact obs_nil | refine obs_draw (by kernel_rfl) ?_ | refine obs_same ?_ | refine obs_and ?_ | refine obs_by (by (simp [inB] <;> omega)) ?_)) ?_
        refine ih (k + 1, pt) _ _ (by dsimp only; omega) ⟨⟨rfl, rfl, congrArg iv hw1, rfl, ?_⟩, rfl, hkl, by dsimp only; omega, hDn⟩
        show bv (bits01 (Tok.part s p k)) = bv (bits01 (Tok.part s p (k + 1)))
        rw [hbs]
        have : (byt s k == 48 || byt s k == 49 || byt s k == 46) = true := by simp; omega
        rw [this, Bool.and_true]
  · have hno := of_decide_eq_false (hcd.symm.trans h)
    have hDk : numD s p = k := by
      rw [hD]
      have hnd : ¬ (k < s.length ∧ digP (byt s k) = true) := fun e => hno ⟨e.1, .inl e.2⟩
      cases pt
      · rw [if_neg (by decide)]
        unfold numD
        rw [spanN_end hnd]
        refine if_neg fun e => hno ⟨byt_lt (by omega), .inr ⟨e, rfl⟩⟩
      · rw [if_pos rfl, spanN_end hnd]
    clear ih hD hcd
    have hup : ∀ v : Nat, 65 ≤ v → v ≤ 90 → (if decide ((k : Int) < (s.length : Int)) = true then (if (((byt s k : Nat) : Int) == (v : Int)) = true then true else (((byt s k : Nat) : Int) == ((v + 32 : Nat) : Int))) else false) = decide (upN (byt s k) = v) := by
      intro v hv1 hv2
      by_cases h : k < s.length
      · rw [Bool.eq_iff_iff]
        simp [h]
        unfold upN
        split <;> omega
      · have h0 : byt s k = 0 := byt_end (by omega)
        rw [h0, Bool.eq_iff_iff]
        have : upN 0 = 0 := rfl
        rw [this]
        simp
        omega
    unfold rNum
    rw [hDk]
    refine runS_x (I := inf) (J := jnf) ⟨false, false, [], 0, 0⟩ 9999 rfl (by repeat (first | exact obs_nil | refine obs_draw (by kernel_rfl) ?_ | refine obs_same ?_ | refine obs_and ?_ | refine obs_by (by (simp [inB, blS] <;> omega)) ?_)) ?_
    refine runS_cond rfl (fun h1 => ?_) (fun h1 => ?_)
    · have h66 := of_decide_eq_true ((hup 66 (by decide) (by decide)).symm.trans h1)
      have hkl := byt_lt (s := s) (p := k) (upN_ne (by omega))
      have hw1 : IntKind.wrap .i64 ((k : Int) + 1) = ((k + 1 : Nat) : Int) := by rw [w64 (by omega) (by omega)]; rfl
      refine runS_x (I := inf) (J := jnf) ⟨false, false, [], 0, 0⟩ 9999 rfl (by repeat (first | exact obs_nil | refine obs_draw (by kernel_rfl) ?_ | refine obs_same ?_ | refine obs_and ?_ | refine obs_by (by (simp [inB] <;> omega)) ?_)) ?_
      refine runS_ret (I := inf) 0 rfl (Nat.le_refl _) rfl .nil rfl ⟨?_, rfl⟩
      rw [if_pos h66]
      exact congrArg (fun x => Out.ret (.tup [iv x, bv (bits01 (Tok.part s p k))])) hw1
    · have h66 := of_decide_eq_false ((hup 66 (by decide) (by decide)).symm.trans h1)
      rw [if_neg h66]
      refine runS_x (I := inf) (J := jnf) ⟨false, false, [], 0, 0⟩ 9999 rfl (by repeat (first | exact obs_nil | refine obs_draw (by kernel_rfl) ?_ | refine obs_same ?_ | refine obs_and ?_ | refine obs_by (by (simp [inB, blS] <;> omega)) ?_)) ?_
      refine runS_cond rfl (fun h2 => ?_) (fun h2 => ?_)
      · have h69 := of_decide_eq_true ((hup 69 (by decide) (by decide)).symm.trans h2)
        rw [if_pos h69]
        have hkl := byt_lt (s := s) (p := k) (upN_ne (by omega))
        have hw1 : IntKind.wrap .i64 ((k : Int) + 1) = ((k + 1 : Nat) : Int) := by rw [w64 (by omega) (by omega)]; rfl
        refine runS_x (I := inf) (J := jnf) ⟨false, false, [], 0, 0⟩ 9999 rfl (by repeat (first | exact obs_nil | refine obs_draw (by kernel_rfl) ?_ | refine obs_same ?_ | refine obs_and ?_ | refine obs_by (by (simp [inB, blS, hw1] <;> omega)) ?_)) ?_
        have hsl := signE_le (s := s) (k := k + 1) (by omega)
        have hsE : signE s (k + 1) = if byt s (k + 1) = 43 ∨ byt s (k + 1) = 45 then k + 1 + 1 else k + 1 := rfl
        refine runS_cut (fun τ ar => (τ 0 = sv s ∧ τ 6 = iv (signE s (k + 1))) ∧ ar = []) (fun rest => ?_) ?_
        · have hcd2 : (if decide (IntKind.wrap .i64 ((k : Int) + 1) < (s.length : Int)) = true then (if (((s.getD (IntKind.wrap .i64 ((k : Int) + 1)).toNat 0).toNat : Int) == 43) = true then true else (((s.getD (IntKind.wrap .i64 ((k : Int) + 1)).toNat 0).toNat : Int) == 45)) else false) = decide (byt s (k + 1) = 43 ∨ byt s (k + 1) = 45) := by
            rw [hw1, Int.toNat_natCast]
            show (if decide (((k + 1 : Nat) : Int) < (s.length : Int)) = true then (if (((byt s (k + 1) : Nat) : Int) == 43) = true then true else (((byt s (k + 1) : Nat) : Int) == 45)) else false) = _
            by_cases h : k + 1 < s.length
            · have h' : ((k + 1 : Nat) : Int) < (s.length : Int) := by omega
              rw [decide_eq_true h', Bool.eq_iff_iff]
              simp
              omega
            · have h' : ¬ ((k + 1 : Nat) : Int) < (s.length : Int) := by omega
              have h0 : byt s (k + 1) = 0 := byt_end (by omega)
              rw [decide_eq_false h', h0]
              rfl
          refine runS_cond rfl (fun h3 => ?_) (fun h3 => ?_)
          · have hc3 := of_decide_eq_true (hcd2.symm.trans h3)
            have hw3 : IntKind.wrap .i64 (IntKind.wrap .i64 ((k : Int) + 1) + 1) = ((k + 1 + 1 : Nat) : Int) := by rw [hw1, w64 (by omega) (by omega)]; rfl
            refine runS_x (I := inf) (J := jnf) ⟨false, false, [], 4, 0⟩ 9999 rfl (by repeat (first | exact obs_nil | refine obs_draw (by kernel_rfl) ?_ | refine obs_same ?_ | refine obs_and ?_ | refine obs_by (by (simp [inB] <;> omega)) ?_)) ?_
            exact rest _ _ ⟨⟨rfl, by rw [hsE, if_pos hc3]; exact congrArg iv hw3⟩, rfl⟩
          · have hc3 := of_decide_eq_false (hcd2.symm.trans h3)
            refine runS_x (I := inf) (J := jnf) ⟨false, false, [], 4, 0⟩ 9999 rfl (by repeat (first | exact obs_nil | refine obs_draw (by kernel_rfl) ?_ | refine obs_same ?_ | refine obs_and ?_ | refine obs_by (by (simp [inB] <;> omega)) ?_)) ?_
            exact rest _ _ ⟨⟨rfl, by rw [hsE, if_neg hc3]; exact congrArg iv hw1⟩, rfl⟩
        rintro τ2 ar2 ⟨⟨g0, g6⟩, rfl⟩
        refine runS_says 0 (by exact g0) (Says.refl _) ?_; refine runS_says 6 (by exact g6) (Says.refl _) ?_
        generalize signE s (k + 1) = kk at hsl ⊢
        refine runS_x (I := inf) (J := jnf) ⟨false, false, [], 0, 0⟩ 9999 rfl (by repeat (first | exact obs_nil | refine obs_draw (by kernel_rfl) ?_ | refine obs_same ?_ | refine obs_and ?_ | refine obs_by (by (simp [inB] <;> omega)) ?_)) ?_
        refine runS_while (fun (n : Nat) τ ar => (τ 0 = sv s ∧ τ 6 = iv ((kk + n : Nat) : Int) ∧ τ 9 = iv n) ∧ ar = [] ∧ n ≤ 2 ∧ ∀ j, j < n → kk + j < s.length ∧ digP (byt s (kk + j)) = true) (fun n => 2 - n) 0 ⟨⟨rfl, rfl, rfl⟩, rfl, by omega, fun j hj => by omega⟩ ?_
        rintro n τ4 ar4 ⟨⟨g0, g6, g9⟩, rfl, hn2, hn⟩ ih
        have hqq : ∃ m, kk + n = m := ⟨_, rfl⟩
        obtain ⟨m, hm⟩ := hqq
        rw [hm] at g6
        refine runS_says 0 (by exact g0) (Says.refl _) ?_; refine runS_says 6 (by exact g6) (Says.refl _) ?_; refine runS_says 9 (by exact g9) (Says.refl _) ?_
        refine runS_x (I := inf) (J := jnf) ⟨false, false, [], 0, 0⟩ 9999 rfl (by repeat (first | exact obs_nil | refine obs_draw (by kernel_rfl) ?_ | refine obs_same ?_ | refine obs_and ?_ | refine obs_by (by (simp [inB, blS] <;> omega)) ?_)) ?_
        refine runS_callU rfl rfl (by first | exact .v rfl rfl rfl rfl | exact .o rfl rfl rfl rfl) rfl rfl (by repeat (first | exact .nil | refine .cons (.n rfl) ?_ | refine .cons .o ?_ | refine .cons gok_and ?_)) rfl rfl rfl rfl rfl (fun _ => (r_digit (byt s m))) ?_
        refine runS_x (I := inf) (J := jnf) ⟨false, false, [], 0, 0⟩ 9999 rfl (by repeat (first | exact obs_nil | refine obs_draw (by kernel_rfl) ?_ | refine obs_same ?_ | refine obs_and ?_ | refine obs_by (by (simp [inB] <;> omega)) ?_)) ?_
        have hcd4 : (if (if decide (((m : Nat) : Int) < (s.length : Int)) = true then digP (byt s m) else false) = true then decide ((n : Int) < 2) else false) = decide ((kk + n < s.length ∧ digP (byt s (kk + n)) = true) ∧ n < 2) := by
          rw [hm, Bool.eq_iff_iff]
          by_cases h : m < s.length <;> cases hd : digP (byt s m) <;> simp [h] <;> omega
        refine runS_cond rfl (fun h3 => ?_) (fun h3 => ?_)
        · have hc3 := of_decide_eq_true (hcd4.symm.trans h3)
          have hw4 : IntKind.wrap .i64 ((m : Int) + 1) = ((kk + (n + 1) : Nat) : Int) := by rw [w64 (by omega) (by omega)]; omega
          have hw5 : IntKind.wrap .i64 ((n : Int) + 1) = ((n + 1 : Nat) : Int) := by rw [w64 (by omega) (by omega)]; rfl
          refine runS_x (I := inf) (J := jnf) ⟨false, false, [], 0, 0⟩ 9999 rfl (by repeat (first | exact obs_nil | refine obs_draw (by kernel_rfl) ?_ | refine obs_same ?_ | refine obs_and ?_ | refine obs_by (by (simp [inB] <;> omega)) ?_)) ?_
          refine ih (n + 1) _ _ (by omega) ⟨⟨rfl, congrArg iv hw4, congrArg iv hw5⟩, rfl, by omega, fun j hj => ?_⟩
          by_cases hjn : j = n
          · subst hjn; exact hc3.1
          · exact hn j (by omega)
        · have hc3 := of_decide_eq_false (hcd4.symm.trans h3)
          have hmin := span_min hn hn2 (by
            by_cases h : n = 2
            · exact .inl h
            · exact .inr fun e => hc3 ⟨e, by omega⟩)
          rw [← hmin]
          refine runS_x (I := inf) (J := jnf) ⟨false, false, [], 0, 0⟩ 9999 rfl (by repeat (first | exact obs_nil | refine obs_draw (by kernel_rfl) ?_ | refine obs_same ?_ | refine obs_and ?_ | refine obs_by (by (simp [inB] <;> omega)) ?_)) ?_
          refine runS_ret (I := inf) 0 rfl (Nat.le_refl _) rfl .nil rfl ⟨?_, rfl⟩
          have e : decide ((n : Int) > 0) = decide (0 < n) := by
            rw [Bool.eq_iff_iff]
            simp
          rw [hm]
          exact congrArg (fun x => Out.ret (.tup [iv m, bv x])) e
      · have h69 := of_decide_eq_false ((hup 69 (by decide) (by decide)).symm.trans h2)
        rw [if_neg h69]
        refine runS_x (I := inf) (J := jnf) ⟨false, false, [], 0, 0⟩ 9999 rfl (by repeat (first | exact obs_nil | refine obs_draw (by kernel_rfl) ?_ | refine obs_same ?_ | refine obs_and ?_ | refine obs_by (by (simp [inB] <;> omega)) ?_)) ?_
        refine runS_ret (I := inf) 0 rfl (Nat.le_refl _) rfl .nil rfl ⟨?_, rfl⟩
        rfl
end Go.Iron.Tryz

/- The token seat: the reference's constants in quotes. -/
namespace Go.Iron.Tryz
open Go.Proofs Go.RowKit Go.Iron.Tok

theorem r_opers : CallT Tryz.prog 90 [] [] (fun o A => o = .ret (txtS none opers) ∧ A = []) := by
  refine callS_body (n := 2) rfl rfl fun w ρ X => ?_
  refine runS_x (I := inf) (J := jnf) ⟨false, false, [], 0, 0⟩ 9999 rfl (by repeat (first | exact obs_nil | refine obs_draw (by kernel_rfl) ?_ | refine obs_same ?_ | refine obs_and ?_ | refine obs_by (by (simp [inB] <;> omega)) ?_)) ?_
  refine runS_tell 0 (txtR opers) rfl (m' := 25) rfl (fun i hi => txt_chunk opers i hi) rfl ?_
  refine runS_freeze 0 rfl rfl rfl (fun j hj => rfl) ?_
  refine runS_ret (I := inf) 0 rfl (Nat.le_refl _) rfl .nil rfl ⟨?_, rfl⟩
  rfl
/-- What the reference reads at a place: the token, the place behind it, and what is wrong. -/
def nxtA (t : Tk) : Tok.Rd → AV
  | .ok (some t') q => .tup [.agg (tkE t'), iv q, iv (-1)]
  | .ok none q => .tup [.agg (tkE t), iv 0, iv q]
  | .bad q => .tup [.agg (tkE t), iv 0, iv q]
abbrev tB (k : Nat) (l : Str) (p : Nat) : AO := .box 29 [iv k, sv l, iv p]
theorem quoA_end {s : Str} {k : Nat} {a : Str} (h : ¬ k < s.length ∨ byt s k = 10 ∨ byt s k = 9) : quoA s k a = a := by
  rw [quoA]
  split
  · rename_i hk
    rw [if_pos (h.resolve_left (fun e => e hk))]
  · rfl
theorem quoA_bad {s : Str} {k : Nat} {a : Str} (hk : k < s.length) (h : ¬ (byt s k = 10 ∨ byt s k = 9)) (h2 : plP (byt s k) = false) : quoA s k a = a := by
  rw [quoA, dif_pos hk, if_neg h, if_pos h2]
theorem quoA_one {s : Str} {k : Nat} {a : Str} (hk : k < s.length) (h : ¬ (byt s k = 10 ∨ byt s k = 9)) (h2 : plP (byt s k) = true) (h3 : byt s k ≠ 39) : quoA s k a = quoA s (k + 1) (a ++ [s.getD k 0]) := by
  conv => lhs; rw [quoA]
  rw [dif_pos hk, if_neg h, if_neg (by rw [h2]; decide), if_pos h3]
theorem quoA_two {s : Str} {k : Nat} {a : Str} (hk : k < s.length) (h3 : byt s k = 39) (h4 : byt s (k + 1) = 39) : quoA s k a = quoA s (k + 2) (a ++ [39]) := by
  conv => lhs; rw [quoA]
  have n3 : ¬ (byt s k ≠ 39) := fun e => e h3
  rw [dif_pos hk, if_neg (by omega), if_neg (by rw [h3]; decide), if_neg n3, if_pos h4]
theorem quoB_bad {s : Str} {p q : Nat} (h : quoL s p (p + 1) [] = .bad q) : quoB s p = ⟨3, quoA s (p + 1) [], p⟩ := by unfold quoB; rw [h]
theorem quoB_fin {s : Str} {p k : Nat} {l : Str} (h : quoL s p (p + 1) [] = .fin l k) : quoB s p = if upN (byt s (k + 1)) = 66 then ⟨4, (bitsU (decide (byt s (k + 2) = 52)) l).1, p⟩ else ⟨3, l, p⟩ := by unfold quoB; rw [h]
theorem up_cond (s : Str) (q v : Nat) (h1 : 65 ≤ v) (h2 : v ≤ 90) : (if decide ((q : Int) < (s.length : Int)) = true then (if (((byt s q : Nat) : Int) == (v : Int)) = true then true else (((byt s q : Nat) : Int) == ((v + 32 : Nat) : Int))) else false) = decide (upN (byt s q) = v) := by
  by_cases h : q < s.length
  · rw [Bool.eq_iff_iff]
    simp [h]
    unfold upN
    split <;> omega
  · have h0 : byt s q = 0 := byt_end (by omega)
    rw [h0, Bool.eq_iff_iff]
    have : upN 0 = 0 := rfl
    rw [this]
    simp
    omega
theorem byt_cond (s : Str) (q v : Nat) (h1 : v ≠ 0) : (if decide ((q : Int) < (s.length : Int)) = true then (((byt s q : Nat) : Int) == (v : Int)) else false) = decide (byt s q = v) := by
  by_cases h : q < s.length
  · rw [Bool.eq_iff_iff]
    simp [h]
    omega
  · have h0 : byt s q = 0 := byt_end (by omega)
    rw [h0, Bool.eq_iff_iff]
    simp
    omega
theorem go_cond (s : Str) (q : Nat) : (if decide ((q : Int) < (s.length : Int)) = true then goP (byt s q) else false) = goP (byt s q) := by
  by_cases h : q < s.length
  · have : ((q : Int) < (s.length : Int)) := by omega
    rw [decide_eq_true this, if_pos rfl]
  · have h0 : byt s q = 0 := byt_end (by omega)
    have : ¬ ((q : Int) < (s.length : Int)) := by omega
    rw [decide_eq_false this, h0]
    rfl
theorem okQ_U (s l : Str) (k : Nat) : okQ s l k = (bitsU (decide (byt s (k + 2) = 52)) l).2 ∧ ((bitsU (decide (byt s (k + 2) = 52)) l).2 = true → bitsQ s l k = (bitsU (decide (byt s (k + 2) = 52)) l).1) := by
  unfold okQ bitsQ
  by_cases h : byt s (k + 2) = 52
  · rw [if_pos h, if_pos h, decide_eq_true h, bitsU_hex l]
    cases (bitsU true l).2
    · exact ⟨rfl, fun e => by cases e⟩
    · exact ⟨rfl, fun e => rfl⟩
  · rw [if_neg h, if_neg h, decide_eq_false h]
    exact ⟨(bitsU_two l).1.symm, fun e => ((bitsU_two l).2 e).symm⟩
def bitsN (v d : Nat) : Str := if d = 8 then bit4 v else if d = 4 then (bit4 v).drop 1 else if d = 2 then (bit4 v).drop 2 else if d = 1 then (bit4 v).drop 3 else []
theorem bitsN_step {v d : Nat} (h : d = 8 ∨ d = 4 ∨ d = 2 ∨ d = 1) : bitsN v d = [UInt8.ofNat (48 + v / d % 2)] ++ bitsN v (d / 2) := by
  rcases h with rfl | rfl | rfl | rfl
  · rfl
  · rfl
  · rfl
  · unfold bitsN bit4
    rw [Nat.div_one]
    rfl
theorem nz_nat {d : Nat} (h : d ≠ 0) : nz (d : Int) = true := by
  cases d with
  | zero => exact absurd rfl h
  | succ d => rfl
abbrev hxv (v d : Int) : Int := IntKind.wrap .u8 (IntKind.wrap .i64 (48 + (IntKind.wrap .i64 (v.tdiv d)).tmod 2))
theorem hxv_eq {v d : Nat} (hv : v ≤ 15) (hd : d = 8 ∨ d = 4 ∨ d = 2 ∨ d = 1) : hxv v d = (((UInt8.ofNat (48 + v / d % 2)).toNat : Nat) : Int) := by
  have h : ∀ n : _root_.Fin 16, hxv n.val (8 : Nat) = (((UInt8.ofNat (48 + n.val / 8 % 2)).toNat : Nat) : Int) ∧ hxv n.val (4 : Nat) = (((UInt8.ofNat (48 + n.val / 4 % 2)).toNat : Nat) : Int) ∧ hxv n.val (2 : Nat) = (((UInt8.ofNat (48 + n.val / 2 % 2)).toNat : Nat) : Int) ∧ hxv n.val (1 : Nat) = (((UInt8.ofNat (48 + n.val / 1 % 2)).toNat : Nat) : Int) := by decide +kernel
  obtain ⟨h8, h4, h2, h1⟩ := h ⟨v, by omega⟩
  rcases hd with rfl | rfl | rfl | rfl
  · exact h8
  · exact h4
  · exact h2
  · exact h1
theorem r_quoted (s : Str) (p : Nat) (hs : s.length ≤ 24000) (hp : p < s.length) : CallT Tryz.prog 89 [sv s, iv p] [] (fun o A => o = .ret (nxtA (quoB s p) (readQuo s p)) ∧ A = []) := by
  have hw1 : IntKind.wrap .i64 ((p : Int) + 1) = ((p + 1 : Nat) : Int) := by rw [w64 (by omega) (by omega)]; rfl
  refine callS_body (n := 182) rfl rfl fun w ρ X => ?_
  refine runS_x (I := inf) (J := jnf) ⟨false, false, [], 0, 0⟩ 9999 rfl (by repeat (first | exact obs_nil | refine obs_draw (by kernel_rfl) ?_ | refine obs_same ?_ | refine obs_and ?_ | refine obs_by (by (simp [inB] <;> omega)) ?_)) ?_
  rw [hw1]
  refine runS_while (fun (x : Nat × Str) τ ar => (τ 0 = sv s ∧ τ 1 = iv p ∧ τ 4 = .ptr 0 0 0 ∧ τ 7 = .ptr 1 0 0 ∧ τ 8 = iv x.1) ∧ ar = [tB 0 [] 0, tB 3 x.2 p] ∧ x.1 ≤ s.length + 1 ∧ p < x.1 ∧ x.2.length ≤ x.1 ∧ quoL s p (p + 1) [] = quoL s p x.1 x.2 ∧ quoA s (p + 1) [] = quoA s x.1 x.2) (fun x => s.length + 1 - x.1) (p + 1, []) ⟨⟨rfl, rfl, rfl, rfl, rfl⟩, rfl, by dsimp only; omega, by dsimp only; omega, Nat.zero_le _, rfl, rfl⟩ ?_
  rintro ⟨k, b⟩ τ' ar' ⟨⟨g0, g1, g4, g7, g8⟩, rfl, hkl, hpk, hb, hq, hqa⟩ ih
  dsimp only at hkl hpk hb hq hqa ih
  refine runS_says 0 (by exact g0) (Says.refl _) ?_; refine runS_says 1 (by exact g1) (Says.refl _) ?_; refine runS_says 4 (by exact g4) (Says.refl _) ?_; refine runS_says 7 (by exact g7) (Says.refl _) ?_; refine runS_says 8 (by exact g8) (Says.refl _) ?_
  refine runS_x (I := inf) (J := jnf) ⟨false, false, [], 0, 0⟩ 9999 rfl (by repeat (first | exact obs_nil | refine obs_draw (by kernel_rfl) ?_ | refine obs_same ?_ | refine obs_and ?_ | refine obs_by (by (simp [inB, blS] <;> omega)) ?_)) ?_
  dsimp only
  refine runS_callU rfl rfl (by first | exact .v rfl rfl rfl rfl | exact .o rfl rfl rfl rfl) rfl rfl (by repeat (first | exact .nil | refine .cons (.n rfl) ?_ | refine .cons .o ?_ | refine .cons gok_and ?_)) rfl rfl rfl rfl rfl (fun _ => (r_space (byt s k))) ?_
  refine runS_x (I := inf) (J := jnf) ⟨false, false, [], 0, 0⟩ 9999 rfl (by repeat (first | exact obs_nil | refine obs_draw (by kernel_rfl) ?_ | refine obs_same ?_ | refine obs_and ?_ | refine obs_by (by (simp [inB, blS] <;> omega)) ?_)) ?_
  have hcd : (if decide ((k : Int) ≥ (s.length : Int)) = true then true else (if decide (((byt s k : Nat) : Int) < 32) = true then spP (byt s k) else false)) = decide (¬ k < s.length ∨ byt s k = 10 ∨ byt s k = 9) := by
    have h1 : spP (byt s k) = decide (byt s k = 32 ∨ byt s k = 9 ∨ byt s k = 10) := by rw [Bool.eq_iff_iff, spP_eq, decide_eq_true_eq]
    rw [h1, Bool.eq_iff_iff]
    by_cases h2 : k < s.length
    · by_cases h3 : byt s k < 32
      · simp [h2, h3]
        omega
      · simp [h2, h3]
        omega
    · simp [h2]
      omega
  have hwk1 : k ≤ s.length → IntKind.wrap .i64 ((k : Int) + 1) = ((k + 1 : Nat) : Int) := fun _ => by rw [w64 (by omega) (by omega)]; rfl
  have hwk2 : IntKind.wrap .i64 ((k : Int) + 2) = ((k + 2 : Nat) : Int) := by rw [w64 (by omega) (by omega)]; rfl
  refine runS_cond rfl (fun h => ?_) (fun h => ?_)
  · have hc := of_decide_eq_true (hcd.symm.trans h)
    have hbad := hq.trans (quoL_end hc)
    refine runS_x (I := inf) (J := jnf) ⟨false, false, [], 0, 0⟩ 9999 rfl (by repeat (first | exact obs_nil | refine obs_draw (by kernel_rfl) ?_ | refine obs_same ?_ | refine obs_and ?_ | refine obs_by (by (simp [inB] <;> omega)) ?_)) ?_
    refine runS_ret (I := inf) 0 rfl (Nat.le_refl _) rfl .nil rfl ⟨?_, rfl⟩
    rw [readQuo_bad hbad, quoB_bad hbad, hqa, quoA_end hc]
    rfl
  · have hc := of_decide_eq_false (hcd.symm.trans h)
    have hkl' : k < s.length := by
      rcases Nat.lt_or_ge k s.length with h1 | h1
      · exact h1
      · exact absurd (.inl (by omega)) hc
    have hc2 : ¬ (byt s k = 10 ∨ byt s k = 9) := fun e => hc (.inr e)
    have hwk1' := hwk1 (by omega)
    refine runS_x (I := inf) (J := jnf) ⟨false, false, [], 0, 0⟩ 9999 rfl (by repeat (first | exact obs_nil | refine obs_draw (by kernel_rfl) ?_ | refine obs_same ?_ | refine obs_and ?_ | refine obs_by (by (simp [inB, blS, hkl'] <;> omega)) ?_)) ?_
    refine runS_call rfl rfl rfl rfl rfl rfl rfl (r_source (byt s k)) ?_
    refine runS_x (I := inf) (J := jnf) ⟨false, false, [], 0, 0⟩ 9999 rfl (by repeat (first | exact obs_nil | refine obs_draw (by kernel_rfl) ?_ | refine obs_same ?_ | refine obs_and ?_ | refine obs_by (by (simp [inB] <;> omega)) ?_)) ?_
    refine runS_cond rfl (fun h1 => ?_) (fun h1 => ?_)
    · have hpl : plP (byt s k) = false := by simpa using h1
      have hbad := hq.trans (quoL_bad hkl' hc2 hpl)
      refine runS_x (I := inf) (J := jnf) ⟨false, false, [], 0, 0⟩ 9999 rfl (by repeat (first | exact obs_nil | refine obs_draw (by kernel_rfl) ?_ | refine obs_same ?_ | refine obs_and ?_ | refine obs_by (by (simp [inB] <;> omega)) ?_)) ?_
      refine runS_ret (I := inf) 0 rfl (Nat.le_refl _) rfl .nil rfl ⟨?_, rfl⟩
      rw [readQuo_bad hbad, quoB_bad hbad, hqa, quoA_bad hkl' hc2 hpl]
      rfl
    · have hpl : plP (byt s k) = true := by simpa using h1
      refine runS_x (I := inf) (J := jnf) ⟨false, false, [], 0, 0⟩ 9999 rfl (by repeat (first | exact obs_nil | refine obs_draw (by kernel_rfl) ?_ | refine obs_same ?_ | refine obs_and ?_ | refine obs_by (by (simp [inB, blS, hkl'] <;> omega)) ?_)) ?_
      refine runS_cond rfl (fun h2 => ?_) (fun h2 => ?_)
      · have h39 : byt s k ≠ 39 := by
          have : (!(((byt s k : Nat) : Int) == 39)) = true := h2
          simp at this
          omega
        have hp1 : part2 (k : Int) (IntKind.wrap .i64 ((k : Int) + 1)) s = [s.getD k 0] := by
          rw [hwk1']
          show (s.take (k + 1)).drop k = _
          rw [List.take_succ_eq_append_getElem hkl', List.drop_append_of_le_length (by rw [List.length_take]; omega), List.drop_eq_nil_of_le (by rw [List.length_take]; omega), List.getD_eq_getElem?_getD, List.getElem?_eq_getElem hkl']
          rfl
        have hp2 : (part2 (k : Int) ((k : Int) + 1) s).length = 1 := by
          have := congrArg List.length hp1
          rw [hwk1'] at this
          exact this
        refine runS_x (I := inf) (J := jnf) ⟨false, false, [], 0, 0⟩ 9999 rfl (by repeat (first | exact obs_nil | refine obs_draw (by kernel_rfl) ?_ | refine obs_same ?_ | refine obs_and ?_ | refine obs_by (by (simp [inB, blS, hkl', hwk1', hp2] <;> omega)) ?_)) ?_
        have hsn : (b ++ [s.getD k 0]).length = b.length + 1 := by simp
        refine ih (k + 1, b ++ [s.getD k 0]) _ _ (by dsimp only; omega) ⟨⟨rfl, rfl, rfl, rfl, congrArg iv hwk1'⟩, ?_, by dsimp only; omega, by dsimp only; omega, by dsimp only; omega, hq.trans (quoL_one hkl' hc2 hpl h39), hqa.trans (quoA_one hkl' hc2 hpl h39)⟩
        exact congrArg (fun z => [tB 0 [] 0, tB 3 (b ++ z) p]) hp1
      · have h39 : byt s k = 39 := by
          have : (!(((byt s k : Nat) : Int) == 39)) = false := h2
          simp at this
          omega
        refine runS_x (I := inf) (J := jnf) ⟨false, false, [], 0, 0⟩ 9999 rfl (by repeat (first | exact obs_nil | refine obs_draw (by kernel_rfl) ?_ | refine obs_same ?_ | refine obs_and ?_ | refine obs_by (by (simp [inB] <;> omega)) ?_)) ?_
        refine runS_call rfl rfl rfl rfl rfl rfl rfl (r_begins s [39, 39] k (by omega) (by omega) (by decide)) ?_
        refine runS_x (I := inf) (J := jnf) ⟨false, false, [], 0, 0⟩ 9999 rfl (by repeat (first | exact obs_nil | refine obs_draw (by kernel_rfl) ?_ | refine obs_same ?_ | refine obs_and ?_ | refine obs_by (by (simp [inB] <;> omega)) ?_)) ?_
        refine runS_cond rfl (fun h3 => ?_) (fun h3 => ?_)
        · have h391 : ¬ byt s (k + 1) = 39 := by
            have h4 : (!([39, 39] : Str).isPrefixOf (s.drop k)) = true := h3
            rw [show ([39, 39] : Str) = [UInt8.ofNat 39, UInt8.ofNat 39] from rfl, pre2 s k 39 39 (by decide) (by decide) (by decide) (by decide)] at h4
            simp at h4
            omega
          have hfin := hq.trans (quoL_fin hkl' h39 h391)
          clear ih
          rw [readQuo_fin hfin, quoB_fin hfin]
          clear hq hqa hfin h h1 h2 h3 hcd
          have hcB : (if decide (IntKind.wrap .i64 ((k : Int) + 1) < (s.length : Int)) = true then (if (((s.getD (IntKind.wrap .i64 ((k : Int) + 1)).toNat 0).toNat : Int) == 66) = true then true else (((s.getD (IntKind.wrap .i64 ((k : Int) + 1)).toNat 0).toNat : Int) == 98)) else false) = decide (upN (byt s (k + 1)) = 66) := by
            rw [hwk1', Int.toNat_natCast]
            exact up_cond s (k + 1) 66 (by decide) (by decide)
          refine runS_x (I := inf) (J := jnf) ⟨false, false, [], 0, 0⟩ 9999 rfl (by repeat (first | exact obs_nil | refine obs_draw (by kernel_rfl) ?_ | refine obs_same ?_ | refine obs_and ?_ | refine obs_by (by (simp [inB, blS, hwk1'] <;> omega)) ?_)) ?_
          refine runS_cond rfl (fun h => ?_) (fun h => ?_)
          · have h66 := of_decide_eq_true (hcB.symm.trans h)
            clear h hcB
            rw [quoT_bits h66, if_pos h66]
            have hk1 : k + 1 < s.length := byt_lt (upN_ne (by omega))
            have hwk3 : IntKind.wrap .i64 (IntKind.wrap .i64 ((k : Int) + 1) + 1) = ((k + 2 : Nat) : Int) := by rw [hwk1', w64 (by omega) (by omega)]; rfl
            have hc4 : (if decide (IntKind.wrap .i64 (IntKind.wrap .i64 ((k : Int) + 1) + 1) < (s.length : Int)) = true then (((s.getD (IntKind.wrap .i64 (IntKind.wrap .i64 ((k : Int) + 1) + 1)).toNat 0).toNat : Int) == 52) else false) = decide (byt s (k + 2) = 52) := by
              rw [hwk3, Int.toNat_natCast]
              exact byt_cond s (k + 2) 52 (by decide)
            have hend : endQ s k ≤ s.length + 1 := by
              unfold endQ
              split
              · rename_i h52
                have := byt_lt (s := s) (p := k + 2) (by omega)
                omega
              · omega
            refine runS_x (I := inf) (J := jnf) ⟨false, false, [], 0, 0⟩ 9999 rfl (by repeat (first | exact obs_nil | refine obs_draw (by kernel_rfl) ?_ | refine obs_same ?_ | refine obs_and ?_ | refine obs_by (by (simp [inB, blS, hwk3] <;> omega)) ?_)) ?_
            obtain ⟨hU1, hU2⟩ := okQ_U s b k
            have hEQ : endQ s k = if byt s (k + 2) = 52 then k + 3 else k + 2 := rfl
            generalize endQ s k = q at hend hEQ ⊢
            generalize okQ s b k = ok at hU1 ⊢
            generalize bitsQ s b k = bits at hU2 ⊢
            have hFE : ∃ four, four = decide (byt s (k + 2) = 52) := ⟨_, rfl⟩
            obtain ⟨four, hfour⟩ := hFE
            rw [← hfour] at hU1 hU2 ⊢
            refine runS_cut (fun τ ar => (τ 0 = sv s ∧ τ 1 = iv p ∧ τ 4 = .ptr 0 0 0 ∧ τ 7 = .ptr 1 0 0 ∧ τ 8 = iv q ∧ τ 9 = bv four) ∧ ar = [tB 0 [] 0, tB 4 b p]) (fun rest => ?_) ?_
            · refine runS_cond rfl (fun h => ?_) (fun h => ?_)
              · have h52 := of_decide_eq_true (hc4.symm.trans h)
                have hwk4 : IntKind.wrap .i64 (IntKind.wrap .i64 (IntKind.wrap .i64 ((k : Int) + 1) + 1) + 1) = ((q : Nat) : Int) := by rw [hwk3, hEQ, if_pos h52, w64 (by omega) (by omega)]; rfl
                refine runS_x (I := inf) (J := jnf) ⟨false, false, [], 3, 0⟩ 9999 rfl (by repeat (first | exact obs_nil | refine obs_draw (by kernel_rfl) ?_ | refine obs_same ?_ | refine obs_and ?_ | refine obs_by (by (simp [inB] <;> omega)) ?_)) ?_
                exact rest _ _ ⟨⟨rfl, rfl, rfl, rfl, congrArg iv hwk4, congrArg bv (hc4.trans hfour.symm)⟩, rfl⟩
              · have h52 := of_decide_eq_false (hc4.symm.trans h)
                have hwk4 : IntKind.wrap .i64 (IntKind.wrap .i64 ((k : Int) + 1) + 1) = ((q : Nat) : Int) := by rw [hwk3, hEQ, if_neg h52]
                refine runS_x (I := inf) (J := jnf) ⟨false, false, [], 3, 0⟩ 9999 rfl (by repeat (first | exact obs_nil | refine obs_draw (by kernel_rfl) ?_ | refine obs_same ?_ | refine obs_and ?_ | refine obs_by (by (simp [inB] <;> omega)) ?_)) ?_
                exact rest _ _ ⟨⟨rfl, rfl, rfl, rfl, congrArg iv hwk4, congrArg bv (hc4.trans hfour.symm)⟩, rfl⟩
            clear hc4 hwk3 hfour hEQ g0 g1 g4 g7 g8
            rintro τ2 ar2 ⟨⟨g0, g1, g4, g7, g8, g9⟩, rfl⟩
            refine runS_says 0 (by exact g0) (Says.refl _) ?_; refine runS_says 1 (by exact g1) (Says.refl _) ?_; refine runS_says 4 (by exact g4) (Says.refl _) ?_; refine runS_says 7 (by exact g7) (Says.refl _) ?_; refine runS_says 8 (by exact g8) (Says.refl _) ?_; refine runS_says 9 (by exact g9) (Says.refl _) ?_
            refine runS_x (I := inf) (J := jnf) ⟨false, false, [], 0, 0⟩ 9999 rfl (by repeat (first | exact obs_nil | refine obs_draw (by kernel_rfl) ?_ | refine obs_same ?_ | refine obs_and ?_ | refine obs_by (by (simp [inB] <;> omega)) ?_)) ?_
            refine runS_while (fun (x : Nat × Str) τ ar => (τ 0 = sv s ∧ τ 1 = iv p ∧ τ 4 = .ptr 0 0 0 ∧ τ 7 = .ptr 1 0 0 ∧ τ 8 = iv q ∧ τ 9 = bv four ∧ τ 10 = sv b ∧ τ 11 = iv x.1) ∧ ar = [tB 0 [] 0, tB 4 x.2 p] ∧ x.1 ≤ b.length ∧ x.2.length ≤ 4 * x.1 ∧ bitsU four b = (x.2 ++ (bitsU four (b.drop x.1)).1, (bitsU four (b.drop x.1)).2)) (fun x => b.length - x.1) (0, []) ⟨⟨rfl, rfl, rfl, rfl, rfl, rfl, rfl, rfl⟩, rfl, Nat.zero_le _, Nat.zero_le _, rfl⟩ ?_
            rintro ⟨n, acc⟩ τ' ar' ⟨⟨g0, g1, g4, g7, g8, g9, g10, g11⟩, rfl, hn, ha, hbu⟩ ih
            dsimp only at hn ha hbu ih
            refine runS_says 0 (by exact g0) (Says.refl _) ?_; refine runS_says 1 (by exact g1) (Says.refl _) ?_; refine runS_says 4 (by exact g4) (Says.refl _) ?_; refine runS_says 7 (by exact g7) (Says.refl _) ?_; refine runS_says 8 (by exact g8) (Says.refl _) ?_; refine runS_says 9 (by exact g9) (Says.refl _) ?_; refine runS_says 10 (by exact g10) (Says.refl _) ?_; refine runS_says 11 (by exact g11) (Says.refl _) ?_
            refine runS_x (I := inf) (J := jnf) ⟨false, false, [], 0, 0⟩ 9999 rfl (by repeat (first | exact obs_nil | refine obs_draw (by kernel_rfl) ?_ | refine obs_same ?_ | refine obs_and ?_ | refine obs_by (by (simp [inB, blS] <;> omega)) ?_)) ?_
            refine runS_cond rfl (fun h => ?_) (fun h => ?_)
            · have hn' : n < b.length := by
                have : decide ((n : Int) < (b.length : Int)) = true := h
                simp at this
                omega
              have h255 := (b.getD n 0).toNat_lt
              have hdr : b.drop n = b.getD n 0 :: b.drop (n + 1) := by
                rw [List.drop_eq_getElem_cons hn', List.getD_eq_getElem?_getD, List.getElem?_eq_getElem hn']
                rfl
              have hwn : IntKind.wrap .i64 ((n : Int) + 1) = ((n + 1 : Nat) : Int) := by rw [w64 (by omega) (by omega)]; rfl
              rw [hdr, bitsU] at hbu
              refine runS_x (I := inf) (J := jnf) ⟨false, false, [], 0, 0⟩ 9999 rfl (by repeat (first | exact obs_nil | refine obs_draw (by kernel_rfl) ?_ | refine obs_same ?_ | refine obs_and ?_ | refine obs_by (by (simp [inB, blS, hn'] <;> omega)) ?_)) ?_
              refine runS_call rfl rfl rfl rfl rfl rfl rfl (r_hex (b.getD n 0).toNat (by omega)) ?_
              have hp1 : part2 (n : Int) (IntKind.wrap .i64 ((n : Int) + 1)) b = [b.getD n 0] := by
                rw [hwn]
                show (b.take (n + 1)).drop n = _
                rw [List.take_succ_eq_append_getElem hn', List.drop_append_of_le_length (by rw [List.length_take]; omega), List.drop_eq_nil_of_le (by rw [List.length_take]; omega), List.getD_eq_getElem?_getD, List.getElem?_eq_getElem hn']
                rfl
              have hp2 : (part2 (n : Int) ((n : Int) + 1) b).length = 1 := by
                have := congrArg List.length hp1
                rw [hwn] at this
                exact this
              have hcg : b.getD ((n : Int)).toNat 0 = b.getD n 0 := by rw [Int.toNat_natCast]
              have hce : ∃ c, b.getD n 0 = c := ⟨_, rfl⟩
              obtain ⟨c, hc⟩ := hce
              rw [hc] at h255 hbu hp1 hcg ⊢
              cases hx : hexN c.toNat with
              | none =>
                rw [hx] at hbu
                dsimp only at hbu
                refine runS_x (I := inf) (J := jnf) ⟨false, false, [], 0, 0⟩ 9999 rfl (by repeat (first | exact obs_nil | refine obs_draw (by kernel_rfl) ?_ | refine obs_same ?_ | refine obs_and ?_ | refine obs_by (by (simp [inB, blS, hn'] <;> omega)) ?_)) ?_
                refine runS_cond rfl (fun h1 => ?_) (fun h1 => by cases h1)
                have h2 : ok = false := by rw [hU1, hbu]
                have h3 : (bitsU four b).1 = acc := by rw [hbu, List.append_nil]
                refine runS_x (I := inf) (J := jnf) ⟨false, false, [], 0, 0⟩ 9999 rfl (by repeat (first | exact obs_nil | refine obs_draw (by kernel_rfl) ?_ | refine obs_same ?_ | refine obs_and ?_ | refine obs_by (by (simp [inB] <;> omega)) ?_)) ?_
                refine runS_ret (I := inf) 0 rfl (Nat.le_refl _) rfl .nil rfl ⟨?_, rfl⟩
                rw [h3, h2]
                rfl
              | some v =>
                rw [hx] at hbu
                dsimp only at hbu
                have hv15 := hexN_le hx
                refine runS_x (I := inf) (J := jnf) ⟨false, false, [], 0, 0⟩ 9999 rfl (by repeat (first | exact obs_nil | refine obs_draw (by kernel_rfl) ?_ | refine obs_same ?_ | refine obs_and ?_ | refine obs_by (by (simp [inB, blS, hn'] <;> omega)) ?_)) ?_
                have hcd1 : (if decide (((v : Nat) : Int) < 0) = true then true else (if (if (!four) = true then (!((((b.getD ((n : Int)).toNat 0).toNat : Nat) : Int) == 48)) else false) = true then (!((((b.getD ((n : Int)).toNat 0).toNat : Nat) : Int) == 49)) else false)) = decide (four = false ∧ ¬ (c.toNat = 48 ∨ c.toNat = 49)) := by
                  have : ¬ ((v : Nat) : Int) < 0 := by omega
                  rw [decide_eq_false this, hcg, Bool.eq_iff_iff]
                  cases four
                  · simp
                    omega
                  · simp
                refine runS_cond rfl (fun h1 => ?_) (fun h1 => ?_)
                · obtain ⟨hf, hno⟩ := of_decide_eq_true (hcd1.symm.trans h1)
                  rw [if_neg (by rw [hf]; decide), if_neg hno] at hbu
                  have h2 : ok = false := by rw [hU1, hbu]
                  have h3 : (bitsU four b).1 = acc := by rw [hbu, List.append_nil]
                  refine runS_x (I := inf) (J := jnf) ⟨false, false, [], 0, 0⟩ 9999 rfl (by repeat (first | exact obs_nil | refine obs_draw (by kernel_rfl) ?_ | refine obs_same ?_ | refine obs_and ?_ | refine obs_by (by (simp [inB] <;> omega)) ?_)) ?_
                  refine runS_ret (I := inf) 0 rfl (Nat.le_refl _) rfl .nil rfl ⟨?_, rfl⟩
                  rw [h3, h2]
                  rfl
                · have hyes := of_decide_eq_false (hcd1.symm.trans h1)
                  refine runS_x (I := inf) (J := jnf) ⟨false, false, [], 0, 0⟩ 9999 rfl (by repeat (first | exact obs_nil | refine obs_draw (by kernel_rfl) ?_ | refine obs_same ?_ | refine obs_and ?_ | refine obs_by (by (simp [inB] <;> omega)) ?_)) ?_
                  refine runS_cond rfl (fun h2 => ?_) (fun h2 => ?_)
                  · have hf : four = false := by simpa using h2
                    rw [hf, if_neg (by decide), if_pos (by
                      rcases Nat.lt_or_ge 49 c.toNat with h | h
                      · exact absurd ⟨hf, by omega⟩ hyes
                      · rcases Nat.lt_or_ge c.toNat 48 with h5 | h5
                        · exact absurd ⟨hf, by omega⟩ hyes
                        · omega), ← hf] at hbu
                    refine runS_x (I := inf) (J := jnf) ⟨false, false, [], 0, 0⟩ 9999 rfl (by repeat (first | exact obs_nil | refine obs_draw (by kernel_rfl) ?_ | refine obs_same ?_ | refine obs_and ?_ | refine obs_by (by (simp [inB, blS, hn', hwn, hp2] <;> omega)) ?_)) ?_
                    refine ih (n + 1, acc ++ [c]) _ _ (by dsimp only; omega) ⟨⟨rfl, rfl, rfl, rfl, rfl, rfl, rfl, congrArg iv hwn⟩, ?_, hn', by dsimp only; rw [List.length_append, List.length_singleton]; omega, ?_⟩
                    · exact congrArg (fun z => [tB 0 [] 0, tB 4 (acc ++ z) p]) hp1
                    · rw [hbu]
                      dsimp only
                      rw [List.append_assoc]
                      rfl
                  · have hf : four = true := by simpa using h2
                    rw [if_pos hf] at hbu
                    refine runS_x (I := inf) (J := jnf) ⟨false, false, [], 0, 0⟩ 9999 rfl (by repeat (first | exact obs_nil | refine obs_draw (by kernel_rfl) ?_ | refine obs_same ?_ | refine obs_and ?_ | refine obs_by (by (simp [inB] <;> omega)) ?_)) ?_
                    have hT1 : ∀ r, (bl (textR 1 r)).length = 1 := fun r => rfl
                    refine runS_while (fun (x : Nat × Str) τ ar => (τ 0 = sv s ∧ τ 1 = iv p ∧ τ 4 = .ptr 0 0 0 ∧ τ 7 = .ptr 1 0 0 ∧ τ 8 = iv q ∧ τ 9 = bv four ∧ τ 10 = sv b ∧ τ 11 = iv n ∧ τ 12 = iv v ∧ τ 13 = iv x.1) ∧ ar = [tB 0 [] 0, tB 4 x.2 p] ∧ (x.1 = 8 ∨ x.1 = 4 ∨ x.1 = 2 ∨ x.1 = 1 ∨ x.1 = 0) ∧ x.2.length + x.1 ≤ 100008 ∧ acc ++ bit4 v = x.2 ++ bitsN v x.1) (fun x => x.1) (8, acc) ⟨⟨rfl, rfl, rfl, rfl, rfl, rfl, rfl, rfl, rfl, rfl⟩, rfl, .inl rfl, by dsimp only; omega, rfl⟩ ?_
                    rintro ⟨d, ac⟩ τ' ar' ⟨⟨g0, g1, g4, g7, g8, g9, g10, g11, g12, g13⟩, rfl, hd, hac, hrest⟩ ih2
                    dsimp only at hd hac hrest ih2
                    refine runS_says 0 (by exact g0) (Says.refl _) ?_; refine runS_says 1 (by exact g1) (Says.refl _) ?_; refine runS_says 4 (by exact g4) (Says.refl _) ?_; refine runS_says 7 (by exact g7) (Says.refl _) ?_; refine runS_says 8 (by exact g8) (Says.refl _) ?_; refine runS_says 9 (by exact g9) (Says.refl _) ?_; refine runS_says 10 (by exact g10) (Says.refl _) ?_; refine runS_says 11 (by exact g11) (Says.refl _) ?_; refine runS_says 12 (by exact g12) (Says.refl _) ?_; refine runS_says 13 (by exact g13) (Says.refl _) ?_
                    refine runS_x (I := inf) (J := jnf) ⟨false, false, [], 0, 0⟩ 9999 rfl (by repeat (first | exact obs_nil | refine obs_draw (by kernel_rfl) ?_ | refine obs_same ?_ | refine obs_and ?_ | refine obs_by (by (simp [inB] <;> omega)) ?_)) ?_
                    refine runS_cond rfl (fun h3 => ?_) (fun h3 => ?_)
                    · have hd0 : d ≠ 0 := by
                        have : decide ((d : Int) > 0) = true := h3
                        simp at this
                        omega
                      have hnz : nz (d : Int) = true := nz_nat hd0
                      refine runS_x (I := inf) (J := jnf) ⟨false, false, [], 0, 0⟩ 9999 rfl (by repeat (first | exact obs_nil | refine obs_draw (by kernel_rfl) ?_ | refine obs_same ?_ | refine obs_and ?_ | refine obs_by (by (simp [inB] <;> omega)) ?_)) ?_
                      refine runS_hole ?_
                      refine runS_drawG (ch := []) (A2 := fun _ => []) 11 [8] (fun t => [tB 0 [] 0, tB 4 ac p, cond (t.getD 0 false) (.row 5 1 1 1 (chunk 1 [AV.val (.int .u8 (hxv v d))])) .hole]) none (c := 9) jnfI.draw (by kernel_rfl) rfl (lexg_g (I := inf) (J := jnf) none ⟨⟨_, rfl, (by repeat (first | exact obs_nil | refine obs_same ?_ | refine obs_and ?_ | refine obs_by (by first | exact (fun _ => hnz) | (simp [inB, hT1] <;> omega)) ?_))⟩, (by first | exact .inl (by decide +kernel) | exact .inr ⟨_, rfl, (by repeat (first | exact obs_nil | refine obs_same ?_ | refine obs_and ?_ | refine obs_by (by first | exact (fun _ => hnz) | (simp [inB, hT1] <;> omega)) ?_))⟩)⟩ rfl rfl rfl rfl (lexg_g (I := inf) (J := jnf) none ⟨⟨_, rfl, (by repeat (first | exact obs_nil | refine obs_same ?_ | refine obs_and ?_ | refine obs_by (by first | exact (fun _ => hnz) | (simp [inB, hT1] <;> omega)) ?_))⟩, (by first | exact .inl (by decide +kernel) | exact .inr ⟨_, rfl, (by repeat (first | exact obs_nil | refine obs_same ?_ | refine obs_and ?_ | refine obs_by (by first | exact (fun _ => hnz) | (simp [inB, hT1] <;> omega)) ?_))⟩)⟩ rfl rfl rfl rfl (lexg_g (I := inf) (J := jnf) none ⟨⟨_, rfl, (by repeat (first | exact obs_nil | refine obs_same ?_ | refine obs_and ?_ | refine obs_by (by first | exact (fun _ => hnz) | (simp [inB, hT1] <;> omega)) ?_))⟩, (by first | exact .inl (by decide +kernel) | exact .inr ⟨_, rfl, (by repeat (first | exact obs_nil | refine obs_same ?_ | refine obs_and ?_ | refine obs_by (by first | exact (fun _ => hnz) | (simp [inB, hT1] <;> omega)) ?_))⟩)⟩ rfl rfl rfl rfl (lexg_g (I := inf) (J := jnf) none ⟨⟨_, rfl, (by repeat (first | exact obs_nil | refine obs_same ?_ | refine obs_and ?_ | refine obs_by (by first | exact (fun _ => hnz) | (simp [inB, hT1] <;> omega)) ?_))⟩, (by first | exact .inl (by decide +kernel) | exact .inr ⟨_, rfl, (by repeat (first | exact obs_nil | refine obs_same ?_ | refine obs_and ?_ | refine obs_by (by first | exact (fun _ => hnz) | (simp [inB, hT1] <;> omega)) ?_))⟩)⟩ rfl rfl rfl rfl (lexg_g (I := inf) (J := jnf) none ⟨⟨_, rfl, (by repeat (first | exact obs_nil | refine obs_same ?_ | refine obs_and ?_ | refine obs_by (by first | exact (fun _ => hnz) | (simp [inB, hT1] <;> omega)) ?_))⟩, (by first | exact .inl (by decide +kernel) | exact .inr ⟨_, rfl, (by repeat (first | exact obs_nil | refine obs_same ?_ | refine obs_and ?_ | refine obs_by (by first | exact (fun _ => hnz) | (simp [inB, hT1] <;> omega)) ?_))⟩)⟩ rfl rfl rfl rfl (lexg_g (I := inf) (J := jnf) none ⟨⟨_, rfl, (by repeat (first | exact obs_nil | refine obs_same ?_ | refine obs_and ?_ | refine obs_by (by first | exact (fun _ => hnz) | (simp [inB, hT1] <;> omega)) ?_))⟩, (by first | exact .inl (by decide +kernel) | exact .inr ⟨_, rfl, (by repeat (first | exact obs_nil | refine obs_same ?_ | refine obs_and ?_ | refine obs_by (by first | exact (fun _ => hnz) | (simp [inB, hT1] <;> omega)) ?_))⟩)⟩ rfl rfl rfl rfl (lexg_g (I := inf) (J := jnf) none ⟨⟨_, rfl, (by repeat (first | exact obs_nil | refine obs_same ?_ | refine obs_and ?_ | refine obs_by (by first | exact (fun _ => hnz) | (simp [inB, hT1] <;> omega)) ?_))⟩, (by first | exact .inl (by decide +kernel) | exact .inr ⟨_, rfl, (by repeat (first | exact obs_nil | refine obs_same ?_ | refine obs_and ?_ | refine obs_by (by first | exact (fun _ => hnz) | (simp [inB, hT1] <;> omega)) ?_))⟩)⟩ rfl rfl rfl rfl (lexg_g (I := inf) (J := jnf) none ⟨⟨_, rfl, (by repeat (first | exact obs_nil | refine obs_same ?_ | refine obs_and ?_ | refine obs_by (by first | exact (fun _ => hnz) | (simp [inB, hT1] <;> omega)) ?_))⟩, (by first | exact .inl (by decide +kernel) | exact .inr ⟨_, rfl, (by repeat (first | exact obs_nil | refine obs_same ?_ | refine obs_and ?_ | refine obs_by (by first | exact (fun _ => hnz) | (simp [inB, hT1] <;> omega)) ?_))⟩)⟩ rfl rfl rfl rfl (lexg_g (I := inf) (J := jnf) (some (.hole 2)) ⟨⟨_, rfl, (by repeat (first | exact obs_nil | refine obs_same ?_ | refine obs_and ?_ | refine obs_by (by first | exact (fun _ => hnz) | (simp [inB, hT1] <;> omega)) ?_))⟩, .inl rfl⟩ rfl rfl rfl rfl (lexg_d (I := inf) (J := jnf) none ⟨(by first | exact .inl (by decide +kernel) | exact .inr ⟨_, rfl, (by repeat (first | exact obs_nil | refine obs_same ?_ | refine obs_and ?_ | refine obs_by (by first | exact (fun _ => hnz) | (simp [inB, hT1] <;> omega)) ?_))⟩), (by first | exact .inl (by decide +kernel) | exact .inr ⟨_, rfl, (by repeat (first | exact obs_nil | refine obs_same ?_ | refine obs_and ?_ | refine obs_by (by first | exact (fun _ => hnz) | (simp [inB, hT1] <;> omega)) ?_))⟩)⟩ rfl rfl rfl rfl (lexg_d (I := inf) (J := jnf) none ⟨(by first | exact .inl (by decide +kernel) | exact .inr ⟨_, rfl, (by repeat (first | exact obs_nil | refine obs_same ?_ | refine obs_and ?_ | refine obs_by (by first | exact (fun _ => hnz) | (simp [inB, hT1] <;> omega)) ?_))⟩), (by first | exact .inl (by decide +kernel) | exact .inr ⟨_, rfl, (by repeat (first | exact obs_nil | refine obs_same ?_ | refine obs_and ?_ | refine obs_by (by first | exact (fun _ => hnz) | (simp [inB, hT1] <;> omega)) ?_))⟩)⟩ rfl rfl rfl rfl lexg_nil))))))))))) rfl (fun _ => ?_) (fun h => by cases h)
                      have hdd : d = 8 ∨ d = 4 ∨ d = 2 ∨ d = 1 := by omega
                      have htx : textR 1 (fun i => getU (chunk 1 [AV.val (.int .u8 (hxv v d))] i)) = bs [UInt8.ofNat (48 + v / d % 2)] := textR_eq rfl fun j hj => by
                        have hj0 : j = 0 := by omega
                        subst hj0
                        exact hxv_eq hv15 hdd
                      have hwd : IntKind.wrap .i64 ((d : Int).tdiv 2) = ((d / 2 : Nat) : Int) := by
                        rcases hdd with rfl | rfl | rfl | rfl <;> decide
                      refine runS_x (I := inf) (J := jnf) ⟨false, false, [], 0, 0⟩ 9999 rfl (by repeat (first | exact obs_nil | refine obs_draw (by kernel_rfl) ?_ | refine obs_same ?_ | refine obs_and ?_ | refine obs_by (by (simp [inB] <;> omega)) ?_)) ?_
                      refine runS_drop 2 (Nat.zero_le _) rfl (by repeat (first | exact .nil | refine .row (fun j hj => rfl) ?_ | refine .box rfl ?_ | refine .fam (fun k j hk hj => rfl) ?_ | refine .loop (scrub_under _ _) ?_ | refine .dfr ?_ | refine .gone ?_ | refine .map (fun p hp => by (obtain ⟨k, _, rfl⟩ := List.mem_map.1 hp; rfl)) ?_)) rfl rfl rfl (by repeat (first | exact .nil | refine .cons rfl rfl rfl (scrub_under _ _) ?_)) ?_
                      refine ih2 (d / 2, ac ++ [UInt8.ofNat (48 + v / d % 2)]) _ _ (by dsimp only; omega) ⟨⟨rfl, rfl, rfl, rfl, rfl, rfl, rfl, rfl, rfl, congrArg iv hwd⟩, ?_, by dsimp only; omega, ?_, ?_⟩
                      · exact congrArg (fun z => [tB 0 [] 0, .box 29 [iv 4, .val (.string (bs (bl (bs ac) ++ bl z))), iv p]]) htx
                      · dsimp only; rw [List.length_append, List.length_singleton]; omega
                      · rw [hrest, bitsN_step hdd, List.append_assoc]
                    · have hd0 : d = 0 := by
                        have : decide ((d : Int) > 0) = false := h3
                        simp at this
                        omega
                      subst hd0
                      have hac2 : acc ++ bit4 v = ac := by
                        rw [hrest]
                        exact List.append_nil _
                      refine runS_x (I := inf) (J := jnf) ⟨false, false, [], 0, 0⟩ 9999 rfl (by repeat (first | exact obs_nil | refine obs_draw (by kernel_rfl) ?_ | refine obs_same ?_ | refine obs_and ?_ | refine obs_by (by (simp [inB] <;> omega)) ?_)) ?_
                      refine ih (n + 1, ac) _ _ (by dsimp only; omega) ⟨⟨rfl, rfl, rfl, rfl, rfl, rfl, rfl, congrArg iv hwn⟩, rfl, hn', ?_, ?_⟩
                      · dsimp only
                        rw [← hac2, List.length_append]
                        show _ + 4 ≤ _
                        omega
                      · rw [hbu, ← hac2]
                        dsimp only
                        rw [List.append_assoc]
            · have hne : n = b.length := by
                have : decide ((n : Int) < (b.length : Int)) = false := h
                simp at this
                omega
              subst hne
              rw [List.drop_length] at hbu
              refine runS_x (I := inf) (J := jnf) ⟨false, false, [], 0, 0⟩ 9999 rfl (by repeat (first | exact obs_nil | refine obs_draw (by kernel_rfl) ?_ | refine obs_same ?_ | refine obs_and ?_ | refine obs_by (by (simp [inB, blS] <;> omega)) ?_)) ?_
              have h2 : ok = true := by rw [hU1, hbu]; rfl
              have h3 : (bitsU four b).1 = acc := by rw [hbu]; exact List.append_nil _
              have h4 : bits = acc := (hU2 (by rw [hbu]; rfl)).trans h3
              rw [h3, h4, h2]
              refine runS_callU rfl rfl (by first | exact .v rfl rfl rfl rfl | exact .o rfl rfl rfl rfl) rfl rfl (by repeat (first | exact .nil | refine .cons (.n rfl) ?_ | refine .cons .o ?_ | refine .cons gok_and ?_)) rfl rfl rfl rfl rfl (fun _ => (r_within (byt s q))) ?_
              refine runS_x (I := inf) (J := jnf) ⟨false, false, [], 0, 0⟩ 9999 rfl (by repeat (first | exact obs_nil | refine obs_draw (by kernel_rfl) ?_ | refine obs_same ?_ | refine obs_and ?_ | refine obs_by (by (simp [inB] <;> omega)) ?_)) ?_
              have hcd5 : (if decide ((q : Int) < ((bl (bs s)).length : Int)) = true then goP (byt s q) else false) = goP (byt s q) := go_cond s q
              refine runS_cond rfl (fun h1 => ?_) (fun h1 => ?_)
              · have hg : goP (byt s q) = true := hcd5.symm.trans h1
                refine runS_x (I := inf) (J := jnf) ⟨false, false, [], 0, 0⟩ 9999 rfl (by repeat (first | exact obs_nil | refine obs_draw (by kernel_rfl) ?_ | refine obs_same ?_ | refine obs_and ?_ | refine obs_by (by (simp [inB] <;> omega)) ?_)) ?_
                refine runS_ret (I := inf) 0 rfl (Nat.le_refl _) rfl .nil rfl ⟨?_, rfl⟩
                rw [if_neg (fun e => by rw [hg] at e; cases e.2.2)]
                rfl
              · have hg : goP (byt s q) = false := hcd5.symm.trans h1
                refine runS_x (I := inf) (J := jnf) ⟨false, false, [], 0, 0⟩ 9999 rfl (by repeat (first | exact obs_nil | refine obs_draw (by kernel_rfl) ?_ | refine obs_same ?_ | refine obs_and ?_ | refine obs_by (by (simp [inB, blS] <;> omega)) ?_)) ?_
                refine runS_cond rfl (fun h => ?_) (fun h => ?_)
                · have h250 : acc.length > 250 := by
                    have : decide ((acc.length : Int) > 250) = true := h
                    simp at this
                    omega
                  refine runS_x (I := inf) (J := jnf) ⟨false, false, [], 0, 0⟩ 9999 rfl (by repeat (first | exact obs_nil | refine obs_draw (by kernel_rfl) ?_ | refine obs_same ?_ | refine obs_and ?_ | refine obs_by (by (simp [inB] <;> omega)) ?_)) ?_
                  refine runS_ret (I := inf) 0 rfl (Nat.le_refl _) rfl .nil rfl ⟨?_, rfl⟩
                  rw [if_neg (fun e => e.2.1 h250)]
                  rfl
                · have h250 : ¬ acc.length > 250 := by
                    have : decide ((acc.length : Int) > 250) = false := h
                    simp at this
                    omega
                  refine runS_x (I := inf) (J := jnf) ⟨false, false, [], 0, 0⟩ 9999 rfl (by repeat (first | exact obs_nil | refine obs_draw (by kernel_rfl) ?_ | refine obs_same ?_ | refine obs_and ?_ | refine obs_by (by (simp [inB] <;> omega)) ?_)) ?_
                  refine runS_ret (I := inf) 0 rfl (Nat.le_refl _) rfl .nil rfl ⟨?_, rfl⟩
                  rw [if_pos ⟨rfl, h250, hg⟩]
                  rfl
          · have h66 := of_decide_eq_false (hcB.symm.trans h)
            clear h hcB
            have hqt : quoT s p b k = if b.length > 250 then .bad p else .ok (some ⟨3, b, p⟩) (k + 1) := by
              unfold quoT
              rw [if_pos h66]
            rw [if_neg h66, hqt]
            refine runS_x (I := inf) (J := jnf) ⟨false, false, [], 0, 0⟩ 9999 rfl (by repeat (first | exact obs_nil | refine obs_draw (by kernel_rfl) ?_ | refine obs_same ?_ | refine obs_and ?_ | refine obs_by (by (simp [inB, blS] <;> omega)) ?_)) ?_
            refine runS_cond rfl (fun h => ?_) (fun h => ?_)
            · have h250 : b.length > 250 := by
                have : decide ((b.length : Int) > 250) = true := h
                simp at this
                omega
              rw [if_pos h250]
              refine runS_x (I := inf) (J := jnf) ⟨false, false, [], 0, 0⟩ 9999 rfl (by repeat (first | exact obs_nil | refine obs_draw (by kernel_rfl) ?_ | refine obs_same ?_ | refine obs_and ?_ | refine obs_by (by (simp [inB] <;> omega)) ?_)) ?_
              refine runS_ret (I := inf) 0 rfl (Nat.le_refl _) rfl .nil rfl ⟨?_, rfl⟩
              rfl
            · have h250 : ¬ b.length > 250 := by
                have : decide ((b.length : Int) > 250) = false := h
                simp at this
                omega
              rw [if_neg h250]
              refine runS_x (I := inf) (J := jnf) ⟨false, false, [], 0, 0⟩ 9999 rfl (by repeat (first | exact obs_nil | refine obs_draw (by kernel_rfl) ?_ | refine obs_same ?_ | refine obs_and ?_ | refine obs_by (by (simp [inB] <;> omega)) ?_)) ?_
              refine runS_ret (I := inf) 0 rfl (Nat.le_refl _) rfl .nil rfl ⟨?_, rfl⟩
              exact congrArg (fun z => Out.ret (.tup [.agg (tkE ⟨3, b, p⟩), iv z, iv (-1)])) hwk1'
        · have h391 : byt s (k + 1) = 39 := by
            have h4 : (!([39, 39] : Str).isPrefixOf (s.drop k)) = false := h3
            rw [show ([39, 39] : Str) = [UInt8.ofNat 39, UInt8.ofNat 39] from rfl, pre2 s k 39 39 (by decide) (by decide) (by decide) (by decide)] at h4
            simp at h4
            exact h4.2
          have hp3 : (bl (ByteArray.mk #[39])).length = 1 := rfl
          refine runS_x (I := inf) (J := jnf) ⟨false, false, [], 0, 0⟩ 9999 rfl (by repeat (first | exact obs_nil | refine obs_draw (by kernel_rfl) ?_ | refine obs_same ?_ | refine obs_and ?_ | refine obs_by (by (simp [inB, blS, hp3] <;> omega)) ?_)) ?_
          have hsn : (b ++ [39]).length = b.length + 1 := by simp
          refine ih (k + 2, b ++ [39]) _ _ (by dsimp only; omega) ⟨⟨rfl, rfl, rfl, rfl, congrArg iv hwk2⟩, ?_, by dsimp only; omega, by dsimp only; omega, by dsimp only; omega, hq.trans (quoL_two hkl' h39 h391), hqa.trans (quoA_two hkl' h39 h391)⟩
          rfl
end Go.Iron.Tryz

/- The token seat: the reference's next token, its gaps, its Scan. -/
namespace Go.Iron.Tryz
open Go.Proofs Go.RowKit Go.Iron.Tok

def gapA : Tok.Rd → AV
  | .ok _ q => .tup [iv q, iv (-1)]
  | .bad q => .tup [iv 0, iv q]
theorem comL_end {s : Str} {f k : Nat} (h : ¬ k < s.length) : comL s f k = .bad f := by
  rw [comL, dif_neg h]
theorem comL_bad {s : Str} {f k : Nat} (hk : k < s.length) (h : plP (byt s k) = false) : comL s f k = .bad k := by
  rw [comL, dif_pos hk, if_pos h]
theorem comL_fin {s : Str} {f k : Nat} (hk : k < s.length) (h : plP (byt s k) = true) (h2 : byt s k = 42 ∧ byt s (k + 1) = 47) : comL s f k = .ok none (k + 2) := by
  rw [comL, dif_pos hk, if_neg (by rw [h]; decide), if_pos h2]
theorem r_gap (s : Str) (p : Nat) (hs : s.length ≤ 24000) (hp : p ≤ s.length) : CallT Tryz.prog 57 [sv s, iv p] [] (fun o A => o = .ret (gapA (gapR s p)) ∧ A = []) := by
  refine callS_body (n := 51) rfl rfl fun w ρ X => ?_
  refine runS_x (I := inf) (J := jnf) ⟨false, false, [], 0, 0⟩ 9999 rfl (by repeat (first | exact obs_nil | refine obs_draw (by kernel_rfl) ?_ | refine obs_same ?_ | refine obs_and ?_ | refine obs_by (by (simp [inB] <;> omega)) ?_)) ?_
  refine runS_while (fun (i : Nat) τ ar => (τ 0 = sv s ∧ τ 1 = iv i) ∧ ar = [] ∧ i ≤ s.length ∧ gapR s p = gapR s i) (fun i => s.length - i) p ⟨⟨rfl, rfl⟩, rfl, hp, rfl⟩ ?_
  rintro i τ' ar' ⟨⟨g0, g1⟩, rfl, hi, hq⟩ ih
  refine runS_says 0 (by exact g0) (Says.refl _) ?_; refine runS_says 1 (by exact g1) (Says.refl _) ?_
  refine runS_x (I := inf) (J := jnf) ⟨false, false, [], 0, 0⟩ 9999 rfl (by repeat (first | exact obs_nil | refine obs_draw (by kernel_rfl) ?_ | refine obs_same ?_ | refine obs_and ?_ | refine obs_by (by (simp [inB, blS] <;> omega)) ?_)) ?_
  refine runS_cond rfl (fun h => ?_) (fun h => ?_)
  · have hil : i < s.length := by
      have : decide ((i : Int) < (s.length : Int)) = true := h
      simp at this
      omega
    have hw1 : IntKind.wrap .i64 ((i : Int) + 1) = ((i + 1 : Nat) : Int) := by rw [w64 (by omega) (by omega)]; rfl
    refine runS_x (I := inf) (J := jnf) ⟨false, false, [], 0, 0⟩ 9999 rfl (by repeat (first | exact obs_nil | refine obs_draw (by kernel_rfl) ?_ | refine obs_same ?_ | refine obs_and ?_ | refine obs_by (by (simp [inB, blS, hil] <;> omega)) ?_)) ?_
    refine runS_call rfl rfl rfl rfl rfl rfl rfl (r_space (byt s i)) ?_
    refine runS_x (I := inf) (J := jnf) ⟨false, false, [], 0, 0⟩ 9999 rfl (by repeat (first | exact obs_nil | refine obs_draw (by kernel_rfl) ?_ | refine obs_same ?_ | refine obs_and ?_ | refine obs_by (by (simp [inB] <;> omega)) ?_)) ?_
    refine runS_cond rfl (fun h1 => ?_) (fun h1 => ?_)
    · refine runS_x (I := inf) (J := jnf) ⟨false, false, [], 0, 0⟩ 9999 rfl (by repeat (first | exact obs_nil | refine obs_draw (by kernel_rfl) ?_ | refine obs_same ?_ | refine obs_and ?_ | refine obs_by (by (simp [inB] <;> omega)) ?_)) ?_
      exact ih (i + 1) _ _ (by omega) ⟨⟨rfl, congrArg iv hw1⟩, rfl, hil, hq.trans (gapR_sp hil h1)⟩
    · have h1' : spP (byt s i) = false := h1
      refine runS_x (I := inf) (J := jnf) ⟨false, false, [], 0, 0⟩ 9999 rfl (by repeat (first | exact obs_nil | refine obs_draw (by kernel_rfl) ?_ | refine obs_same ?_ | refine obs_and ?_ | refine obs_by (by (simp [inB] <;> omega)) ?_)) ?_
      refine runS_call rfl rfl rfl rfl rfl rfl rfl (r_begins s [47, 42] i (by omega) (by omega) (by decide)) ?_
      refine runS_x (I := inf) (J := jnf) ⟨false, false, [], 0, 0⟩ 9999 rfl (by repeat (first | exact obs_nil | refine obs_draw (by kernel_rfl) ?_ | refine obs_same ?_ | refine obs_and ?_ | refine obs_by (by (simp [inB] <;> omega)) ?_)) ?_
      have hpr : ([47, 42] : Str).isPrefixOf (s.drop i) = decide (byt s i = 47 ∧ byt s (i + 1) = 42) := pre2 s i 47 42 (by decide) (by decide) (by decide) (by decide)
      refine runS_cond rfl (fun h2 => ?_) (fun h2 => ?_)
      · have h3 : ¬ (byt s i = 47 ∧ byt s (i + 1) = 42) := by
          have h4 : (!([47, 42] : Str).isPrefixOf (s.drop i)) = true := h2
          rw [hpr] at h4
          simp at h4
          omega
        refine runS_x (I := inf) (J := jnf) ⟨false, false, [], 0, 0⟩ 9999 rfl (by repeat (first | exact obs_nil | refine obs_draw (by kernel_rfl) ?_ | refine obs_same ?_ | refine obs_and ?_ | refine obs_by (by (simp [inB] <;> omega)) ?_)) ?_
        refine runS_ret (I := inf) 0 rfl (Nat.le_refl _) rfl .nil rfl ⟨?_, rfl⟩
        rw [hq, gapR_tok hil h1' h3]
        rfl
      · have h3 : byt s i = 47 ∧ byt s (i + 1) = 42 := by
          have h4 : (!([47, 42] : Str).isPrefixOf (s.drop i)) = false := h2
          rw [hpr] at h4
          simpa using h4
        have hi2 : i + 1 < s.length := byt_lt (by omega)
        have hw2 : IntKind.wrap .i64 ((i : Int) + 2) = ((i + 2 : Nat) : Int) := by rw [w64 (by omega) (by omega)]; rfl
        refine runS_x (I := inf) (J := jnf) ⟨false, false, [], 0, 0⟩ 9999 rfl (by repeat (first | exact obs_nil | refine obs_draw (by kernel_rfl) ?_ | refine obs_same ?_ | refine obs_and ?_ | refine obs_by (by (simp [inB] <;> omega)) ?_)) ?_
        rw [hw2]
        refine runS_while (fun (x : Nat × Nat) τ ar => (τ 0 = sv s ∧ τ 1 = iv i ∧ τ 6 = iv (if x.2 = 0 then -1 else (x.2 : Int)) ∧ τ 7 = iv x.1) ∧ ar = [] ∧ x.1 ≤ s.length + 1 ∧ i < x.1 ∧ (x.2 = 0 → comL s i (i + 2) = comL s i x.1) ∧ (x.2 ≠ 0 → comL s i (i + 2) = .ok none x.2)) (fun x => s.length + 1 - x.1) (i + 2, 0) ⟨⟨rfl, rfl, rfl, rfl⟩, rfl, by dsimp only; omega, by dsimp only; omega, fun _ => rfl, fun h => absurd rfl h⟩ ?_
        rintro ⟨k, e⟩ τ' ar' ⟨⟨g0, g1, g6, g7⟩, rfl, hk, hik, he0, he1⟩ ih2
        dsimp only at hk hik he0 he1 ih2
        refine runS_says 0 (by exact g0) (Says.refl _) ?_; refine runS_says 1 (by exact g1) (Says.refl _) ?_; refine runS_says 6 (by exact g6) (Says.refl _) ?_; refine runS_says 7 (by exact g7) (Says.refl _) ?_
        refine runS_x (I := inf) (J := jnf) ⟨false, false, [], 0, 0⟩ 9999 rfl (by repeat (first | exact obs_nil | refine obs_draw (by kernel_rfl) ?_ | refine obs_same ?_ | refine obs_and ?_ | refine obs_by (by (simp [inB, blS] <;> omega)) ?_)) ?_
        have hcd : (if decide ((k : Int) < (s.length : Int)) = true then decide ((if e = 0 then -1 else (e : Int)) < 0) else false) = decide (k < s.length ∧ e = 0) := by
          rw [Bool.eq_iff_iff]
          by_cases h : k < s.length <;> by_cases h2 : e = 0 <;> simp [h, h2]
        refine runS_cond rfl (fun h4 => ?_) (fun h4 => ?_)
        · obtain ⟨hkl, rfl⟩ := of_decide_eq_true (hcd.symm.trans h4)
          have he0' := he0 rfl
          have hwk : IntKind.wrap .i64 ((k : Int) + 1) = ((k + 1 : Nat) : Int) := by rw [w64 (by omega) (by omega)]; rfl
          have hwk2 : IntKind.wrap .i64 ((k : Int) + 2) = ((k + 2 : Nat) : Int) := by rw [w64 (by omega) (by omega)]; rfl
          refine runS_x (I := inf) (J := jnf) ⟨false, false, [], 0, 0⟩ 9999 rfl (by repeat (first | exact obs_nil | refine obs_draw (by kernel_rfl) ?_ | refine obs_same ?_ | refine obs_and ?_ | refine obs_by (by (simp [inB, blS, hkl] <;> omega)) ?_)) ?_
          refine runS_call rfl rfl rfl rfl rfl rfl rfl (r_source (byt s k)) ?_
          refine runS_x (I := inf) (J := jnf) ⟨false, false, [], 0, 0⟩ 9999 rfl (by repeat (first | exact obs_nil | refine obs_draw (by kernel_rfl) ?_ | refine obs_same ?_ | refine obs_and ?_ | refine obs_by (by (simp [inB] <;> omega)) ?_)) ?_
          refine runS_cond rfl (fun h5 => ?_) (fun h5 => ?_)
          · have hpl : plP (byt s k) = false := by simpa using h5
            refine runS_x (I := inf) (J := jnf) ⟨false, false, [], 0, 0⟩ 9999 rfl (by repeat (first | exact obs_nil | refine obs_draw (by kernel_rfl) ?_ | refine obs_same ?_ | refine obs_and ?_ | refine obs_by (by (simp [inB] <;> omega)) ?_)) ?_
            refine runS_ret (I := inf) 0 rfl (Nat.le_refl _) rfl .nil rfl ⟨?_, rfl⟩
            rw [hq, gapR_bad hil h3 (he0'.trans (comL_bad hkl hpl))]
            rfl
          · have hpl : plP (byt s k) = true := by simpa using h5
            refine runS_x (I := inf) (J := jnf) ⟨false, false, [], 0, 0⟩ 9999 rfl (by repeat (first | exact obs_nil | refine obs_draw (by kernel_rfl) ?_ | refine obs_same ?_ | refine obs_and ?_ | refine obs_by (by (simp [inB] <;> omega)) ?_)) ?_
            refine runS_call rfl rfl rfl rfl rfl rfl rfl (r_begins s [42, 47] k (by omega) (by omega) (by decide)) ?_
            refine runS_x (I := inf) (J := jnf) ⟨false, false, [], 0, 0⟩ 9999 rfl (by repeat (first | exact obs_nil | refine obs_draw (by kernel_rfl) ?_ | refine obs_same ?_ | refine obs_and ?_ | refine obs_by (by (simp [inB] <;> omega)) ?_)) ?_
            have hpr2 : ([42, 47] : Str).isPrefixOf (s.drop k) = decide (byt s k = 42 ∧ byt s (k + 1) = 47) := pre2 s k 42 47 (by decide) (by decide) (by decide) (by decide)
            refine runS_cond rfl (fun h6 => ?_) (fun h6 => ?_)
            · have h7 : byt s k = 42 ∧ byt s (k + 1) = 47 := of_decide_eq_true (hpr2.symm.trans h6)
              refine runS_x (I := inf) (J := jnf) ⟨false, false, [], 0, 0⟩ 9999 rfl (by repeat (first | exact obs_nil | refine obs_draw (by kernel_rfl) ?_ | refine obs_same ?_ | refine obs_and ?_ | refine obs_by (by (simp [inB] <;> omega)) ?_)) ?_
              refine ih2 (k + 1, k + 2) _ _ (by dsimp only; omega) ⟨⟨rfl, rfl, ?_, congrArg iv hwk⟩, rfl, by dsimp only; omega, by dsimp only; omega, fun h => absurd h (by simp), fun _ => he0'.trans (comL_fin hkl hpl h7)⟩
              have e1 : (if k + 2 = 0 then (-1 : Int) else ((k + 2 : Nat) : Int)) = ((k + 2 : Nat) : Int) := if_neg (by omega)
              exact (congrArg iv hwk2).trans (congrArg iv e1.symm)
            · have h7 : ¬ (byt s k = 42 ∧ byt s (k + 1) = 47) := of_decide_eq_false (hpr2.symm.trans h6)
              refine runS_x (I := inf) (J := jnf) ⟨false, false, [], 0, 0⟩ 9999 rfl (by repeat (first | exact obs_nil | refine obs_draw (by kernel_rfl) ?_ | refine obs_same ?_ | refine obs_and ?_ | refine obs_by (by (simp [inB] <;> omega)) ?_)) ?_
              exact ih2 (k + 1, 0) _ _ (by dsimp only; omega) ⟨⟨rfl, rfl, rfl, congrArg iv hwk⟩, rfl, by dsimp only; omega, by dsimp only; omega, fun _ => he0'.trans (comL_go hkl hpl h7), fun h => absurd rfl h⟩
        · have hno := of_decide_eq_false (hcd.symm.trans h4)
          refine runS_x (I := inf) (J := jnf) ⟨false, false, [], 0, 0⟩ 9999 rfl (by repeat (first | exact obs_nil | refine obs_draw (by kernel_rfl) ?_ | refine obs_same ?_ | refine obs_and ?_ | refine obs_by (by (simp [inB] <;> omega)) ?_)) ?_
          by_cases hez : e = 0
          · subst hez
            refine runS_cond rfl (fun h5 => ?_) (fun h5 => by cases h5)
            refine runS_x (I := inf) (J := jnf) ⟨false, false, [], 0, 0⟩ 9999 rfl (by repeat (first | exact obs_nil | refine obs_draw (by kernel_rfl) ?_ | refine obs_same ?_ | refine obs_and ?_ | refine obs_by (by (simp [inB] <;> omega)) ?_)) ?_
            refine runS_ret (I := inf) 0 rfl (Nat.le_refl _) rfl .nil rfl ⟨?_, rfl⟩
            rw [hq, gapR_bad hil h3 ((he0 rfl).trans (comL_end (by intro h; exact hno ⟨h, rfl⟩)))]
            rfl
          · refine runS_cond rfl (fun h5 => ?_) (fun h5 => ?_)
            · exfalso
              have h6 : decide ((if e = 0 then -1 else (e : Int)) < 0) = true := h5
              rw [if_neg hez] at h6
              simp at h6
              omega
            · have hcl := comL_le (he1 hez)
              refine runS_x (I := inf) (J := jnf) ⟨false, false, [], 0, 0⟩ 9999 rfl (by repeat (first | exact obs_nil | refine obs_draw (by kernel_rfl) ?_ | refine obs_same ?_ | refine obs_and ?_ | refine obs_by (by (simp [inB] <;> omega)) ?_)) ?_
              refine ih e _ _ (by omega) ⟨⟨rfl, ?_⟩, rfl, by omega, hq.trans (gapR_com hil h3 (he1 hez))⟩
              have e1 : (if e = 0 then (-1 : Int) else (e : Int)) = (e : Int) := if_neg hez
              exact congrArg iv e1
  · have hie : i = s.length := by
      have : decide ((i : Int) < (s.length : Int)) = false := h
      simp at this
      omega
    refine runS_x (I := inf) (J := jnf) ⟨false, false, [], 0, 0⟩ 9999 rfl (by repeat (first | exact obs_nil | refine obs_draw (by kernel_rfl) ?_ | refine obs_same ?_ | refine obs_and ?_ | refine obs_by (by (simp [inB] <;> omega)) ?_)) ?_
    refine runS_ret (I := inf) 0 rfl (Nat.le_refl _) rfl .nil rfl ⟨?_, rfl⟩
    rw [hq, gapR_end (by omega)]
    rfl
/-- The token that the reference gives beside a place that is wrong. -/
def nextT (s : Str) (p : Nat) : Tk :=
  if begP (byt s p) = true then ⟨0, [], p⟩
  else if digP (byt s p) = true ∨ (byt s p = 46 ∧ digP (byt s (p + 1)) = true) then ⟨0, [], p⟩
  else if byt s p = 39 then quoB s p
  else ⟨0, [], p⟩
theorem r_next (s : Str) (p : Nat) (hs : s.length ≤ 24000) (hp : p < s.length) : CallT Tryz.prog 58 [sv s, iv p] [] (fun o A => o = .ret (nxtA (nextT s p) (nextR s p)) ∧ A = []) := by
  have hbl := beg_let (byt s p)
  refine callS_body (n := 145) rfl rfl fun w ρ X => ?_
  refine runS_x (I := inf) (J := jnf) ⟨false, false, [], 0, 0⟩ 9999 rfl (by repeat (first | exact obs_nil | refine obs_draw (by kernel_rfl) ?_ | refine obs_same ?_ | refine obs_and ?_ | refine obs_by (by (simp [inB, blS, hp] <;> omega)) ?_)) ?_
  refine runS_call rfl rfl rfl rfl rfl rfl rfl (r_letter (byt s p)) ?_
  refine runS_x (I := inf) (J := jnf) ⟨false, false, [], 0, 0⟩ 9999 rfl (by repeat (first | exact obs_nil | refine obs_draw (by kernel_rfl) ?_ | refine obs_same ?_ | refine obs_and ?_ | refine obs_by (by (simp [inB] <;> omega)) ?_)) ?_
  refine runS_callU rfl rfl (by first | exact .v rfl rfl rfl rfl | exact .o rfl rfl rfl rfl) rfl rfl (by repeat (first | exact .nil | refine .cons (.n rfl) ?_ | refine .cons .o ?_ | refine .cons gok_and ?_)) rfl rfl rfl rfl rfl (fun _ => (r_mark (byt s p))) ?_
  refine runS_x (I := inf) (J := jnf) ⟨false, false, [], 0, 0⟩ 9999 rfl (by repeat (first | exact obs_nil | refine obs_draw (by kernel_rfl) ?_ | refine obs_same ?_ | refine obs_and ?_ | refine obs_by (by (simp [inB] <;> omega)) ?_)) ?_
  have hcd : (if letP (byt s p) = true then true else mrkP (byt s p)) = begP (byt s p) := by
    rw [hbl]
    cases letP (byt s p) <;> rfl
  refine runS_cond rfl (fun h => ?_) (fun h => ?_)
  · have hb : begP (byt s p) = true := hcd.symm.trans h
    have e1 : nextT s p = ⟨0, [], p⟩ := by unfold nextT; rw [if_pos hb]
    have e2 : nextR s p = readName s p := by unfold nextR; rw [if_pos hb]
    rw [e1, e2]
    clear hcd h hbl e1 e2
    refine runS_x (I := inf) (J := jnf) ⟨false, false, [], 0, 0⟩ 9999 rfl (by repeat (first | exact obs_nil | refine obs_draw (by kernel_rfl) ?_ | refine obs_same ?_ | refine obs_and ?_ | refine obs_by (by (simp [inB] <;> omega)) ?_)) ?_
    refine runS_while (fun (q : Nat) τ ar => (τ 0 = sv s ∧ τ 1 = iv p ∧ τ 4 = .ptr 0 0 0 ∧ τ 7 = .ptr 1 0 0 ∧ τ 9 = iv q) ∧ ar = [tB 0 [] 0, tB 0 [] p] ∧ q ≤ s.length ∧ p ≤ q ∧ spanN s goP p = spanN s goP q) (fun q => s.length - q) p ⟨⟨rfl, rfl, rfl, rfl, rfl⟩, rfl, by omega, Nat.le_refl _, rfl⟩ ?_
    rintro q τ' ar' ⟨⟨g0, g1, g4, g7, g9⟩, rfl, hq, hpq, he⟩ ih
    refine runS_says 0 (by exact g0) (Says.refl _) ?_; refine runS_says 1 (by exact g1) (Says.refl _) ?_; refine runS_says 4 (by exact g4) (Says.refl _) ?_; refine runS_says 7 (by exact g7) (Says.refl _) ?_; refine runS_says 9 (by exact g9) (Says.refl _) ?_
    refine runS_x (I := inf) (J := jnf) ⟨false, false, [], 0, 0⟩ 9999 rfl (by repeat (first | exact obs_nil | refine obs_draw (by kernel_rfl) ?_ | refine obs_same ?_ | refine obs_and ?_ | refine obs_by (by (simp [inB, blS] <;> omega)) ?_)) ?_
    refine runS_callU rfl rfl (by first | exact .v rfl rfl rfl rfl | exact .o rfl rfl rfl rfl) rfl rfl (by repeat (first | exact .nil | refine .cons (.n rfl) ?_ | refine .cons .o ?_ | refine .cons gok_and ?_)) rfl rfl rfl rfl rfl (fun _ => (r_within (byt s q))) ?_
    refine runS_x (I := inf) (J := jnf) ⟨false, false, [], 0, 0⟩ 9999 rfl (by repeat (first | exact obs_nil | refine obs_draw (by kernel_rfl) ?_ | refine obs_same ?_ | refine obs_and ?_ | refine obs_by (by (simp [inB] <;> omega)) ?_)) ?_
    have hcd : (if decide ((q : Int) < (s.length : Int)) = true then goP (byt s q) else false) = decide (q < s.length ∧ goP (byt s q) = true) := by
      rw [Bool.eq_iff_iff]
      by_cases h : q < s.length <;> simp [h]
    refine runS_cond rfl (fun h => ?_) (fun h => ?_)
    · obtain ⟨hql, hg⟩ := of_decide_eq_true (hcd.symm.trans h)
      have hw1 : IntKind.wrap .i64 ((q : Int) + 1) = ((q + 1 : Nat) : Int) := by rw [w64 (by omega) (by omega)]; rfl
      refine runS_x (I := inf) (J := jnf) ⟨false, false, [], 0, 0⟩ 9999 rfl (by repeat (first | exact obs_nil | refine obs_draw (by kernel_rfl) ?_ | refine obs_same ?_ | refine obs_and ?_ | refine obs_by (by (simp [inB] <;> omega)) ?_)) ?_
      exact ih (q + 1) _ _ (by omega) ⟨⟨rfl, rfl, rfl, rfl, congrArg iv hw1⟩, rfl, hql, by omega, he.trans (spanN_go hql hg)⟩
    · have hno := of_decide_eq_false (hcd.symm.trans h)
      have hsp : spanN s goP p = q := he.trans (spanN_end hno)
      have hrn : readName s p = if q - p > 31 then .bad p else .ok (some ⟨1, upS (Tok.part s p q), p⟩) q := by
        rw [← hsp]; rfl
      have hw : IntKind.wrap .i64 ((q : Int) - (p : Int)) = ((q - p : Nat) : Int) := by rw [w64 (by omega) (by omega)]; omega
      clear ih he hcd
      refine runS_x (I := inf) (J := jnf) ⟨false, false, [], 0, 0⟩ 9999 rfl (by repeat (first | exact obs_nil | refine obs_draw (by kernel_rfl) ?_ | refine obs_same ?_ | refine obs_and ?_ | refine obs_by (by (simp [inB] <;> omega)) ?_)) ?_
      refine runS_cond rfl (fun h => ?_) (fun h => ?_)
      · have hb : q - p > 31 := by
          have : decide (IntKind.wrap .i64 ((q : Int) - (p : Int)) > 31) = true := h
          rw [hw] at this
          simp at this
          omega
        refine runS_x (I := inf) (J := jnf) ⟨false, false, [], 0, 0⟩ 9999 rfl (by repeat (first | exact obs_nil | refine obs_draw (by kernel_rfl) ?_ | refine obs_same ?_ | refine obs_and ?_ | refine obs_by (by (simp [inB] <;> omega)) ?_)) ?_
        refine runS_ret (I := inf) 0 rfl (Nat.le_refl _) rfl .nil rfl ⟨?_, rfl⟩
        rw [hrn, if_pos hb]
        rfl
      · have hb : ¬ q - p > 31 := by
          have : decide (IntKind.wrap .i64 ((q : Int) - (p : Int)) > 31) = false := h
          rw [hw] at this
          simp at this
          omega
        refine runS_x (I := inf) (J := jnf) ⟨false, false, [], 0, 0⟩ 9999 rfl (by repeat (first | exact obs_nil | refine obs_draw (by kernel_rfl) ?_ | refine obs_same ?_ | refine obs_and ?_ | refine obs_by (by (simp [inB, blS, hpq, hq] <;> omega)) ?_)) ?_
        refine runS_call rfl rfl rfl rfl rfl rfl rfl (r_great (Tok.part s p q) (by have := part_le s p q; omega)) ?_
        refine runS_x (I := inf) (J := jnf) ⟨false, false, [], 0, 0⟩ 9999 rfl (by repeat (first | exact obs_nil | refine obs_draw (by kernel_rfl) ?_ | refine obs_same ?_ | refine obs_and ?_ | refine obs_by (by (simp [inB] <;> omega)) ?_)) ?_
        refine runS_ret (I := inf) 0 rfl (Nat.le_refl _) rfl .nil rfl ⟨?_, rfl⟩
        rw [hrn, if_neg hb]
        rfl
  · have hb : begP (byt s p) = false := hcd.symm.trans h
    clear hcd h
    refine runS_x (I := inf) (J := jnf) ⟨false, false, [], 0, 0⟩ 9999 rfl (by repeat (first | exact obs_nil | refine obs_draw (by kernel_rfl) ?_ | refine obs_same ?_ | refine obs_and ?_ | refine obs_by (by (simp [inB, blS] <;> omega)) ?_)) ?_
    refine runS_call rfl rfl rfl rfl rfl rfl rfl (r_digit (byt s p)) ?_
    have hw1 : IntKind.wrap .i64 ((p : Int) + 1) = ((p + 1 : Nat) : Int) := by rw [w64 (by omega) (by omega)]; rfl
    refine runS_x (I := inf) (J := jnf) ⟨false, false, [], 0, 0⟩ 9999 rfl (by repeat (first | exact obs_nil | refine obs_draw (by kernel_rfl) ?_ | refine obs_same ?_ | refine obs_and ?_ | refine obs_by (by (simp [inB, blS, hw1] <;> omega)) ?_)) ?_
    refine runS_callU rfl rfl (by first | exact .v rfl rfl rfl rfl | exact .o rfl rfl rfl rfl) rfl rfl (by repeat (first | exact .nil | refine .cons (.n rfl) ?_ | refine .cons .o ?_ | refine .cons gok_and ?_)) rfl rfl rfl rfl rfl (fun _ => (r_digit _)) ?_
    refine runS_x (I := inf) (J := jnf) ⟨false, false, [], 0, 0⟩ 9999 rfl (by repeat (first | exact obs_nil | refine obs_draw (by kernel_rfl) ?_ | refine obs_same ?_ | refine obs_and ?_ | refine obs_by (by (simp [inB] <;> omega)) ?_)) ?_
    have hcd : (if digP (byt s p) = true then true else (if (if (((byt s p : Nat) : Int) == 46) = true then decide (IntKind.wrap .i64 ((p : Int) + 1) < (s.length : Int)) else false) = true then digP (s.getD (IntKind.wrap .i64 ((p : Int) + 1)).toNat 0).toNat else false)) = decide (digP (byt s p) = true ∨ (byt s p = 46 ∧ digP (byt s (p + 1)) = true)) := by
      rw [hw1, Int.toNat_natCast]
      show (if digP (byt s p) = true then true else (if (if (((byt s p : Nat) : Int) == 46) = true then decide (((p + 1 : Nat) : Int) < (s.length : Int)) else false) = true then digP (byt s (p + 1)) else false)) = _
      rw [Bool.eq_iff_iff]
      by_cases h46 : byt s p = 46
      · by_cases hl : p + 1 < s.length
        · have : ((p + 1 : Nat) : Int) < (s.length : Int) := by omega
          rw [decide_eq_true this, h46]
          cases digP (byt s (p + 1)) <;> simp [digP]
        · have h0 : byt s (p + 1) = 0 := byt_end (by omega)
          have : ¬ ((p + 1 : Nat) : Int) < (s.length : Int) := by omega
          rw [decide_eq_false this, h46, h0]
          simp [digP]
      · have : (((byt s p : Nat) : Int) == 46) = false := by simp; omega
        rw [this]
        cases digP (byt s p) <;> simp [h46]
    refine runS_cond rfl (fun h => ?_) (fun h => ?_)
    · have hc := of_decide_eq_true (hcd.symm.trans h)
      have e1 : nextT s p = ⟨0, [], p⟩ := by unfold nextT; rw [if_neg (by rw [hb]; decide), if_pos hc]
      have e2 : nextR s p = readNum s p := by unfold nextR; rw [if_neg (by rw [hb]; decide), if_pos hc]
      rw [e1, e2]
      clear hcd h hbl e1 e2
      have hnE := numE_le (s := s) (p := p) (by omega)
      have hnD := numD_le (s := s) (p := p) (by omega)
      have hR1 := rNum_eq s p
      have hR2 := fun h => rNum_end (s := s) (p := p) h
      have hrn : readNum s p = if (numE s p).2 = true ∧ goP (byt s (numE s p).1) = false then .ok (some ⟨2, upS (Tok.part s p (numE s p).1), p⟩) (numE s p).1 else .bad p := rfl
      refine runS_x (I := inf) (J := jnf) ⟨false, false, [], 0, 0⟩ 9999 rfl (by repeat (first | exact obs_nil | refine obs_draw (by kernel_rfl) ?_ | refine obs_same ?_ | refine obs_and ?_ | refine obs_by (by (simp [inB] <;> omega)) ?_)) ?_
      refine runS_call rfl rfl rfl rfl rfl rfl rfl (r_number s p (by omega) (by omega)) ?_
      generalize rNum s p = x at hR1 hR2 ⊢
      obtain ⟨k, ok⟩ := x
      dsimp only at hR1 hR2
      refine runS_x (I := inf) (J := jnf) ⟨false, false, [], 0, 0⟩ 9999 rfl (by repeat (first | exact obs_nil | refine obs_draw (by kernel_rfl) ?_ | refine obs_same ?_ | refine obs_and ?_ | refine obs_by (by (simp [inB, blS] <;> omega)) ?_)) ?_
      refine runS_callU rfl rfl (by first | exact .v rfl rfl rfl rfl | exact .o rfl rfl rfl rfl) rfl rfl (by repeat (first | exact .nil | refine .cons (.n rfl) ?_ | refine .cons .o ?_ | refine .cons gok_and ?_)) rfl rfl rfl rfl rfl (fun _ => (r_within (byt s k))) ?_
      refine runS_x (I := inf) (J := jnf) ⟨false, false, [], 0, 0⟩ 9999 rfl (by repeat (first | exact obs_nil | refine obs_draw (by kernel_rfl) ?_ | refine obs_same ?_ | refine obs_and ?_ | refine obs_by (by (simp [inB] <;> omega)) ?_)) ?_
      have hcd : (if (!ok) = true then true else (if decide ((k : Int) < (s.length : Int)) = true then goP (byt s k) else false)) = !decide (ok = true ∧ goP (byt s k) = false) := by
        rw [go_cond]
        cases ok <;> cases goP (byt s k) <;> rfl
      refine runS_cond rfl (fun h => ?_) (fun h => ?_)
      · have hn : ¬ (ok = true ∧ goP (byt s k) = false) := by
          intro e
          have := hcd.symm.trans h
          rw [decide_eq_true e] at this
          cases this
        refine runS_x (I := inf) (J := jnf) ⟨false, false, [], 0, 0⟩ 9999 rfl (by repeat (first | exact obs_nil | refine obs_draw (by kernel_rfl) ?_ | refine obs_same ?_ | refine obs_and ?_ | refine obs_by (by (simp [inB] <;> omega)) ?_)) ?_
        refine runS_ret (I := inf) 0 rfl (Nat.le_refl _) rfl .nil rfl ⟨?_, rfl⟩
        rw [hrn, if_neg (fun e => hn (hR1.2 e))]
        rfl
      · have hy : ok = true ∧ goP (byt s k) = false := by
          have := hcd.symm.trans h
          exact of_decide_eq_true (by simpa using this)
        have hk := hR2 hy
        have hpk : p ≤ k := by omega
        have hkl : k ≤ s.length := by omega
        refine runS_x (I := inf) (J := jnf) ⟨false, false, [], 0, 0⟩ 9999 rfl (by repeat (first | exact obs_nil | refine obs_draw (by kernel_rfl) ?_ | refine obs_same ?_ | refine obs_and ?_ | refine obs_by (by (simp [inB, blS, hpk, hkl] <;> omega)) ?_)) ?_
        refine runS_call rfl rfl rfl rfl rfl rfl rfl (r_great (Tok.part s p k) (by have := part_le s p k; omega)) ?_
        refine runS_x (I := inf) (J := jnf) ⟨false, false, [], 0, 0⟩ 9999 rfl (by repeat (first | exact obs_nil | refine obs_draw (by kernel_rfl) ?_ | refine obs_same ?_ | refine obs_and ?_ | refine obs_by (by (simp [inB] <;> omega)) ?_)) ?_
        refine runS_ret (I := inf) 0 rfl (Nat.le_refl _) rfl .nil rfl ⟨?_, rfl⟩
        rw [hrn, if_pos (hR1.1 hy), ← hk]
        rfl
    · have hc := of_decide_eq_false (hcd.symm.trans h)
      clear hcd h hbl
      refine runS_x (I := inf) (J := jnf) ⟨false, false, [], 0, 0⟩ 9999 rfl (by repeat (first | exact obs_nil | refine obs_draw (by kernel_rfl) ?_ | refine obs_same ?_ | refine obs_and ?_ | refine obs_by (by (simp [inB] <;> omega)) ?_)) ?_
      refine runS_cond rfl (fun h => ?_) (fun h => ?_)
      · have h39 : byt s p = 39 := by
          have : (((byt s p : Nat) : Int) == 39) = true := h
          simp at this
          omega
        have e1 : nextT s p = quoB s p := by unfold nextT; rw [if_neg (by rw [hb]; decide), if_neg hc, if_pos h39]
        have e2 : nextR s p = readQuo s p := by unfold nextR; rw [if_neg (by rw [hb]; decide), if_neg hc, if_pos h39]
        rw [e1, e2]
        refine runS_x (I := inf) (J := jnf) ⟨false, false, [], 0, 0⟩ 9999 rfl (by repeat (first | exact obs_nil | refine obs_draw (by kernel_rfl) ?_ | refine obs_same ?_ | refine obs_and ?_ | refine obs_by (by (simp [inB] <;> omega)) ?_)) ?_
        have hcall := r_quoted s p hs hp
        cases hr : readQuo s p with
        | bad q =>
          rw [hr] at hcall
          refine runS_call rfl rfl rfl rfl rfl rfl rfl hcall ?_
          refine runS_x (I := inf) (J := jnf) ⟨false, false, [], 0, 0⟩ 9999 rfl (by repeat (first | exact obs_nil | refine obs_draw (by kernel_rfl) ?_ | refine obs_same ?_ | refine obs_and ?_ | refine obs_by (by (simp [inB] <;> omega)) ?_)) ?_
          refine runS_ret (I := inf) 0 rfl (Nat.le_refl _) rfl .nil rfl ⟨?_, rfl⟩
          rfl
        | ok t q =>
          rw [hr] at hcall
          cases t with
          | none =>
            refine runS_call rfl rfl rfl rfl rfl rfl rfl hcall ?_
            refine runS_x (I := inf) (J := jnf) ⟨false, false, [], 0, 0⟩ 9999 rfl (by repeat (first | exact obs_nil | refine obs_draw (by kernel_rfl) ?_ | refine obs_same ?_ | refine obs_and ?_ | refine obs_by (by (simp [inB] <;> omega)) ?_)) ?_
            refine runS_ret (I := inf) 0 rfl (Nat.le_refl _) rfl .nil rfl ⟨?_, rfl⟩
            rfl
          | some t =>
            refine runS_call rfl rfl rfl rfl rfl rfl rfl hcall ?_
            refine runS_x (I := inf) (J := jnf) ⟨false, false, [], 0, 0⟩ 9999 rfl (by repeat (first | exact obs_nil | refine obs_draw (by kernel_rfl) ?_ | refine obs_same ?_ | refine obs_and ?_ | refine obs_by (by (simp [inB] <;> omega)) ?_)) ?_
            refine runS_ret (I := inf) 0 rfl (Nat.le_refl _) rfl .nil rfl ⟨?_, rfl⟩
            rfl
      · have h39 : ¬ byt s p = 39 := by
          have : (((byt s p : Nat) : Int) == 39) = false := h
          simp at this
          omega
        have e1 : nextT s p = ⟨0, [], p⟩ := by unfold nextT; rw [if_neg (by rw [hb]; decide), if_neg hc, if_neg h39]
        have e2 : nextR s p = match opers.find? fun o => o.isPrefixOf (s.drop p) with
            | some o => .ok (some ⟨5, o, p⟩) (p + o.length)
            | none => .bad p := by unfold nextR; rw [if_neg (by rw [hb]; decide), if_neg hc, if_neg h39] <;> rfl
        rw [e1, e2]
        refine runS_x (I := inf) (J := jnf) ⟨false, false, [], 0, 0⟩ 9999 rfl (by repeat (first | exact obs_nil | refine obs_draw (by kernel_rfl) ?_ | refine obs_same ?_ | refine obs_and ?_ | refine obs_by (by (simp [inB] <;> omega)) ?_)) ?_
        refine runS_call rfl rfl rfl rfl rfl rfl rfl r_opers ?_
        refine runS_x (I := inf) (J := jnf) ⟨false, false, [], 0, 0⟩ 9999 rfl (by repeat (first | exact obs_nil | refine obs_draw (by kernel_rfl) ?_ | refine obs_same ?_ | refine obs_and ?_ | refine obs_by (by (simp [inB] <;> omega)) ?_)) ?_
        have hol2 : opers.length = 25 := rfl
        refine runS_while (fun (i : Nat) τ ar => (τ 0 = sv s ∧ τ 1 = iv p ∧ τ 4 = .ptr 0 0 0 ∧ τ 7 = .ptr 1 0 0 ∧ τ 12 = txtS none opers ∧ τ 13 = iv i) ∧ ar = [tB 0 [] 0, tB 0 [] p] ∧ i ≤ 25 ∧ ∀ j, j < i → (opers.getD j []).isPrefixOf (s.drop p) = false) (fun i => 25 - i) 0 ⟨⟨rfl, rfl, rfl, rfl, rfl, rfl⟩, rfl, by omega, fun j hj => by omega⟩ ?_
        rintro i τ' ar' ⟨⟨g0, g1, g4, g7, g12, g13⟩, rfl, hi, hn⟩ ih
        refine runS_says 0 (by exact g0) (Says.refl _) ?_; refine runS_says 1 (by exact g1) (Says.refl _) ?_; refine runS_says 4 (by exact g4) (Says.refl _) ?_; refine runS_says 7 (by exact g7) (Says.refl _) ?_; refine runS_says 12 (by exact g12) (Says.refl _) ?_; refine runS_says 13 (by exact g13) (Says.refl _) ?_
        refine runS_x (I := inf) (J := jnf) ⟨false, false, [], 0, 0⟩ 9999 rfl (by repeat (first | exact obs_nil | refine obs_draw (by kernel_rfl) ?_ | refine obs_same ?_ | refine obs_and ?_ | refine obs_by (by (simp [inB] <;> omega)) ?_)) ?_
        refine runS_cond rfl (fun h3 => ?_) (fun h3 => ?_)
        · have hi' : i < 25 := by
            have : decide ((i : Int) < (opers.length : Int)) = true := h3
            simp at this
            omega
          have hol := opers_len i hi'
          refine runS_x (I := inf) (J := jnf) ⟨false, false, [], 0, 0⟩ 9999 rfl (by repeat (first | exact obs_nil | refine obs_draw (by kernel_rfl) ?_ | refine obs_same ?_ | refine obs_and ?_ | refine obs_by (by (simp [inB, blS, hi', hol2] <;> omega)) ?_)) ?_
          refine runS_call rfl rfl rfl rfl rfl rfl rfl (r_begins s (opers.getD i []) p (by omega) (by omega) (by omega)) ?_
          refine runS_x (I := inf) (J := jnf) ⟨false, false, [], 0, 0⟩ 9999 rfl (by repeat (first | exact obs_nil | refine obs_draw (by kernel_rfl) ?_ | refine obs_same ?_ | refine obs_and ?_ | refine obs_by (by (simp [inB] <;> omega)) ?_)) ?_
          refine runS_cond rfl (fun h4 => ?_) (fun h4 => ?_)
          · have hfd := find_at (f := fun o : Str => o.isPrefixOf (s.drop p)) (l := opers) (d := []) hi' h4 hn
            rw [hfd]
            have hw : IntKind.wrap .i64 ((p : Int) + ((bl (bs (opers.getD ((i : Int)).toNat []))).length : Int)) = ((p + (opers.getD i []).length : Nat) : Int) := by
              rw [Int.toNat_natCast, blS, w64 (by omega) (by omega)]; rfl
            refine runS_x (I := inf) (J := jnf) ⟨false, false, [], 0, 0⟩ 9999 rfl (by repeat (first | exact obs_nil | refine obs_draw (by kernel_rfl) ?_ | refine obs_same ?_ | refine obs_and ?_ | refine obs_by (by (simp [inB, blS, hi', hol2] <;> omega)) ?_)) ?_
            refine runS_drawG (ch := []) (A2 := fun _ => []) 6 [5] (fun b => [tB 0 [] 0, .box 29 [cond (b.getD 0 false) (.val (.int .i64 5)) (iv (0 : Nat)), sv [], iv p]]) none (c := 9) jnfI.draw (by kernel_rfl) rfl (lexg_g (I := inf) (J := jnf) none ⟨⟨_, rfl, (by repeat (first | exact obs_nil | refine obs_same ?_ | refine obs_and ?_ | refine obs_by (by (simp [inB, blS, hi', hol2] <;> omega)) ?_))⟩, (by first | exact .inl (by decide +kernel) | exact .inr ⟨_, rfl, (by repeat (first | exact obs_nil | refine obs_same ?_ | refine obs_and ?_ | refine obs_by (by (simp [inB, blS, hi', hol2] <;> omega)) ?_))⟩)⟩ rfl rfl rfl rfl (lexg_g (I := inf) (J := jnf) none ⟨⟨_, rfl, (by repeat (first | exact obs_nil | refine obs_same ?_ | refine obs_and ?_ | refine obs_by (by (simp [inB, blS, hi', hol2] <;> omega)) ?_))⟩, (by first | exact .inl (by decide +kernel) | exact .inr ⟨_, rfl, (by repeat (first | exact obs_nil | refine obs_same ?_ | refine obs_and ?_ | refine obs_by (by (simp [inB, blS, hi', hol2] <;> omega)) ?_))⟩)⟩ rfl rfl rfl rfl (lexg_g (I := inf) (J := jnf) none ⟨⟨_, rfl, (by repeat (first | exact obs_nil | refine obs_same ?_ | refine obs_and ?_ | refine obs_by (by (simp [inB, blS, hi', hol2] <;> omega)) ?_))⟩, (by first | exact .inl (by decide +kernel) | exact .inr ⟨_, rfl, (by repeat (first | exact obs_nil | refine obs_same ?_ | refine obs_and ?_ | refine obs_by (by (simp [inB, blS, hi', hol2] <;> omega)) ?_))⟩)⟩ rfl rfl rfl rfl (lexg_g (I := inf) (J := jnf) none ⟨⟨_, rfl, (by repeat (first | exact obs_nil | refine obs_same ?_ | refine obs_and ?_ | refine obs_by (by (simp [inB, blS, hi', hol2] <;> omega)) ?_))⟩, (by first | exact .inl (by decide +kernel) | exact .inr ⟨_, rfl, (by repeat (first | exact obs_nil | refine obs_same ?_ | refine obs_and ?_ | refine obs_by (by (simp [inB, blS, hi', hol2] <;> omega)) ?_))⟩)⟩ rfl rfl rfl rfl (lexg_g (I := inf) (J := jnf) none ⟨⟨_, rfl, (by repeat (first | exact obs_nil | refine obs_same ?_ | refine obs_and ?_ | refine obs_by (by (simp [inB, blS, hi', hol2] <;> omega)) ?_))⟩, (by first | exact .inl (by decide +kernel) | exact .inr ⟨_, rfl, (by repeat (first | exact obs_nil | refine obs_same ?_ | refine obs_and ?_ | refine obs_by (by (simp [inB, blS, hi', hol2] <;> omega)) ?_))⟩)⟩ rfl rfl rfl rfl (lexg_g (I := inf) (J := jnf) (some .store) ⟨⟨_, rfl, (by repeat (first | exact obs_nil | refine obs_same ?_ | refine obs_and ?_ | refine obs_by (by (simp [inB, blS, hi', hol2] <;> omega)) ?_))⟩, .inl rfl⟩ rfl rfl rfl rfl lexg_nil)))))) rfl (fun _ => ?_) (fun h => by cases h)
            refine runS_x (I := inf) (J := jnf) ⟨false, false, [], 0, 0⟩ 9999 rfl (by repeat (first | exact obs_nil | refine obs_draw (by kernel_rfl) ?_ | refine obs_same ?_ | refine obs_and ?_ | refine obs_by (by (simp [inB, blS, hi', hol2] <;> omega)) ?_)) ?_
            refine runS_drawG (ch := []) (A2 := fun _ => []) 9 [8] (fun b => [.box 29 [cond (b.getD 0 false) (.val (.int .i64 5)) (iv (0 : Nat)), cond (b.getD 0 false) (sv (opers.getD i [])) (sv []), cond (b.getD 0 false) (iv p) (iv (0 : Nat))], .box 29 [.val (.int .i64 5), sv (opers.getD i []), iv p]]) none (c := 9) jnfI.draw (by kernel_rfl) rfl (lexg_g (I := inf) (J := jnf) none ⟨⟨_, rfl, (by repeat (first | exact obs_nil | refine obs_same ?_ | refine obs_and ?_ | refine obs_by (by (simp [inB, blS, hi', hol2] <;> omega)) ?_))⟩, (by first | exact .inl (by decide +kernel) | exact .inr ⟨_, rfl, (by repeat (first | exact obs_nil | refine obs_same ?_ | refine obs_and ?_ | refine obs_by (by (simp [inB, blS, hi', hol2] <;> omega)) ?_))⟩)⟩ rfl rfl rfl rfl (lexg_g (I := inf) (J := jnf) none ⟨⟨_, rfl, (by repeat (first | exact obs_nil | refine obs_same ?_ | refine obs_and ?_ | refine obs_by (by (simp [inB, blS, hi', hol2] <;> omega)) ?_))⟩, (by first | exact .inl (by decide +kernel) | exact .inr ⟨_, rfl, (by repeat (first | exact obs_nil | refine obs_same ?_ | refine obs_and ?_ | refine obs_by (by (simp [inB, blS, hi', hol2] <;> omega)) ?_))⟩)⟩ rfl rfl rfl rfl (lexg_g (I := inf) (J := jnf) none ⟨⟨_, rfl, (by repeat (first | exact obs_nil | refine obs_same ?_ | refine obs_and ?_ | refine obs_by (by (simp [inB, blS, hi', hol2] <;> omega)) ?_))⟩, (by first | exact .inl (by decide +kernel) | exact .inr ⟨_, rfl, (by repeat (first | exact obs_nil | refine obs_same ?_ | refine obs_and ?_ | refine obs_by (by (simp [inB, blS, hi', hol2] <;> omega)) ?_))⟩)⟩ rfl rfl rfl rfl (lexg_g (I := inf) (J := jnf) none ⟨⟨_, rfl, (by repeat (first | exact obs_nil | refine obs_same ?_ | refine obs_and ?_ | refine obs_by (by (simp [inB, blS, hi', hol2] <;> omega)) ?_))⟩, (by first | exact .inl (by decide +kernel) | exact .inr ⟨_, rfl, (by repeat (first | exact obs_nil | refine obs_same ?_ | refine obs_and ?_ | refine obs_by (by (simp [inB, blS, hi', hol2] <;> omega)) ?_))⟩)⟩ rfl rfl rfl rfl (lexg_g (I := inf) (J := jnf) none ⟨⟨_, rfl, (by repeat (first | exact obs_nil | refine obs_same ?_ | refine obs_and ?_ | refine obs_by (by (simp [inB, blS, hi', hol2] <;> omega)) ?_))⟩, (by first | exact .inl (by decide +kernel) | exact .inr ⟨_, rfl, (by repeat (first | exact obs_nil | refine obs_same ?_ | refine obs_and ?_ | refine obs_by (by (simp [inB, blS, hi', hol2] <;> omega)) ?_))⟩)⟩ rfl rfl rfl rfl (lexg_g (I := inf) (J := jnf) none ⟨⟨_, rfl, (by repeat (first | exact obs_nil | refine obs_same ?_ | refine obs_and ?_ | refine obs_by (by (simp [inB, blS, hi', hol2] <;> omega)) ?_))⟩, (by first | exact .inl (by decide +kernel) | exact .inr ⟨_, rfl, (by repeat (first | exact obs_nil | refine obs_same ?_ | refine obs_and ?_ | refine obs_by (by (simp [inB, blS, hi', hol2] <;> omega)) ?_))⟩)⟩ rfl rfl rfl rfl (lexg_g (I := inf) (J := jnf) none ⟨⟨_, rfl, (by repeat (first | exact obs_nil | refine obs_same ?_ | refine obs_and ?_ | refine obs_by (by (simp [inB, blS, hi', hol2] <;> omega)) ?_))⟩, (by first | exact .inl (by decide +kernel) | exact .inr ⟨_, rfl, (by repeat (first | exact obs_nil | refine obs_same ?_ | refine obs_and ?_ | refine obs_by (by (simp [inB, blS, hi', hol2] <;> omega)) ?_))⟩)⟩ rfl rfl rfl rfl (lexg_g (I := inf) (J := jnf) none ⟨⟨_, rfl, (by repeat (first | exact obs_nil | refine obs_same ?_ | refine obs_and ?_ | refine obs_by (by (simp [inB, blS, hi', hol2] <;> omega)) ?_))⟩, (by first | exact .inl (by decide +kernel) | exact .inr ⟨_, rfl, (by repeat (first | exact obs_nil | refine obs_same ?_ | refine obs_and ?_ | refine obs_by (by (simp [inB, blS, hi', hol2] <;> omega)) ?_))⟩)⟩ rfl rfl rfl rfl (lexg_g (I := inf) (J := jnf) (some .store) ⟨⟨_, rfl, (by repeat (first | exact obs_nil | refine obs_same ?_ | refine obs_and ?_ | refine obs_by (by (simp [inB, blS, hi', hol2] <;> omega)) ?_))⟩, .inl rfl⟩ rfl rfl rfl rfl lexg_nil))))))))) rfl (fun _ => ?_) (fun h => by cases h)
            refine runS_x (I := inf) (J := jnf) ⟨false, false, [], 0, 0⟩ 9999 rfl (by repeat (first | exact obs_nil | refine obs_draw (by kernel_rfl) ?_ | refine obs_same ?_ | refine obs_and ?_ | refine obs_by (by (simp [inB, blS, hi', hol2] <;> omega)) ?_)) ?_
            refine runS_ret (I := inf) 0 rfl (Nat.le_refl _) rfl .nil rfl ⟨?_, rfl⟩
            exact congrArg (fun z => Out.ret (.tup [.agg (tkE ⟨5, opers.getD i [], p⟩), iv z, iv (-1)])) hw
          · have hw : IntKind.wrap .i64 ((i : Int) + 1) = ((i + 1 : Nat) : Int) := by rw [w64 (by omega) (by omega)]; rfl
            refine runS_x (I := inf) (J := jnf) ⟨false, false, [], 0, 0⟩ 9999 rfl (by repeat (first | exact obs_nil | refine obs_draw (by kernel_rfl) ?_ | refine obs_same ?_ | refine obs_and ?_ | refine obs_by (by (simp [inB] <;> omega)) ?_)) ?_
            refine ih (i + 1) _ _ (by omega) ⟨⟨rfl, rfl, rfl, rfl, rfl, congrArg iv hw⟩, rfl, by omega, fun j hj => ?_⟩
            by_cases hji : j = i
            · subst hji; exact h4
            · exact hn j (by omega)
        · have hi' : i = 25 := by
            have : decide ((i : Int) < (opers.length : Int)) = false := h3
            simp at this
            omega
          subst hi'
          have hfd := find_no (f := fun o : Str => o.isPrefixOf (s.drop p)) (l := opers) (d := []) hn
          rw [hfd]
          refine runS_x (I := inf) (J := jnf) ⟨false, false, [], 0, 0⟩ 9999 rfl (by repeat (first | exact obs_nil | refine obs_draw (by kernel_rfl) ?_ | refine obs_same ?_ | refine obs_and ?_ | refine obs_by (by (simp [inB] <;> omega)) ?_)) ?_
          refine runS_ret (I := inf) 0 rfl (Nat.le_refl _) rfl .nil rfl ⟨?_, rfl⟩
          rfl
end Go.Iron.Tryz

/- The token seat: the reference's Scan is the scanner's. -/
namespace Go.Iron.Tryz
open Go.Proofs Go.RowKit Go.Iron.Tok

theorem nextR_no {s : Str} {p q : Nat} : nextR s p ≠ .ok none q := by
  unfold nextR
  intro h
  split at h
  · unfold readName at h
    dsimp only at h
    split at h <;> cases h
  · split at h
    · unfold readNum at h
      split at h <;> cases h
    · split at h
      · unfold readQuo at h
        split at h
        · cases h
        · split at h
          · split at h <;> cases h
          · split at h
            · split at h
              · split at h <;> cases h
              · cases h
            · split at h <;> cases h
      · split at h <;> cases h
theorem r_scan (s : Str) (hs : s.length ≤ 24000) : CallT Tryz.prog 35 [sv s] [] (fun o A => o = .ret (scanA (scanF s)) ∧ A = []) := by
  refine callS_body (n := 43) rfl rfl fun w ρ X => ?_
  refine runS_x (I := inf) (J := jnf) ⟨false, false, [], 0, 0⟩ 9999 rfl (by repeat (first | exact obs_nil | refine obs_draw (by kernel_rfl) ?_ | refine obs_same ?_ | refine obs_and ?_ | refine obs_by (by (simp [inB, blS] <;> omega)) ?_)) ?_
  refine runS_cond rfl (fun h => ?_) (fun h => ?_)
  · have hb : s.length > 20000 := by
      have : decide ((s.length : Int) > 20000) = true := h
      simp at this
      omega
    refine runS_x (I := inf) (J := jnf) ⟨false, false, [], 0, 0⟩ 9999 rfl (by repeat (first | exact obs_nil | refine obs_draw (by kernel_rfl) ?_ | refine obs_same ?_ | refine obs_and ?_ | refine obs_by (by (simp [inB] <;> omega)) ?_)) ?_
    refine runS_says 2 rfl (says_nil0 (sz := 3) (r := nilT) (Nat.zero_le _)) ?_
    refine runS_ret (I := inf) 0 rfl (Nat.le_refl _) rfl .nil rfl ⟨?_, rfl⟩
    rw [scanF, if_pos hb]
    rfl
  · have hb : ¬ s.length > 20000 := by
      have : decide ((s.length : Int) > 20000) = false := h
      simp at this
      omega
    have hfs : scanF s = scanP s 0 [] := by rw [scanF, if_neg hb]; rfl
    refine runS_x (I := inf) (J := jnf) ⟨false, false, [], 0, 0⟩ 9999 rfl (by repeat (first | exact obs_nil | refine obs_draw (by kernel_rfl) ?_ | refine obs_same ?_ | refine obs_and ?_ | refine obs_by (by (simp [inB] <;> omega)) ?_)) ?_
    refine runS_nilRow 5 29 3 nilT rfl rfl ?_
    refine runS_while (fun (x : Nat × List Tk) τ ar => (τ 0 = sv s ∧ τ 5 = .row 0 x.2.length ∧ τ 6 = iv x.1) ∧ ar = [.row 29 3 x.2.length x.2.length (tkR x.2)] ∧ x.1 ≤ s.length ∧ x.2.length ≤ x.1 ∧ scanP s 0 [] = scanP s x.1 x.2) (fun x => s.length - x.1) (0, []) ⟨⟨rfl, rfl, rfl⟩, rfl, Nat.zero_le _, Nat.le_refl _, rfl⟩ ?_
    rintro ⟨i, acc⟩ τ' ar' ⟨⟨g0, g5, g6⟩, rfl, hi, ha, hq⟩ ih
    dsimp only at hi ha hq ih
    refine runS_says 0 (by exact g0) (Says.refl _) ?_; refine runS_says 5 (by exact g5) (Says.refl _) ?_; refine runS_says 6 (by exact g6) (Says.refl _) ?_
    obtain ⟨hg1, hg2⟩ := gap_scan (s := s) (acc := acc) (p := i) hi
    have hcall := r_gap s i hs hi
    refine runS_x (I := inf) (J := jnf) ⟨false, false, [], 0, 0⟩ 9999 rfl (by repeat (first | exact obs_nil | refine obs_draw (by kernel_rfl) ?_ | refine obs_same ?_ | refine obs_and ?_ | refine obs_by (by (simp [inB] <;> omega)) ?_)) ?_
    cases hgr : gapR s i with
    | bad q =>
      rw [hgr] at hcall
      refine runS_call rfl rfl rfl rfl rfl rfl rfl hcall ?_
      refine runS_x (I := inf) (J := jnf) ⟨false, false, [], 0, 0⟩ 9999 rfl (by repeat (first | exact obs_nil | refine obs_draw (by kernel_rfl) ?_ | refine obs_same ?_ | refine obs_and ?_ | refine obs_by (by (simp [inB] <;> omega)) ?_)) ?_
      refine runS_cond rfl (fun h1 => ?_) (fun h1 => ?_)
      · refine runS_x (I := inf) (J := jnf) ⟨false, false, [], 0, 0⟩ 9999 rfl (by repeat (first | exact obs_nil | refine obs_draw (by kernel_rfl) ?_ | refine obs_same ?_ | refine obs_and ?_ | refine obs_by (by (simp [inB] <;> omega)) ?_)) ?_
        refine runS_says 2 rfl (says_nil0 (sz := 3) (r := nilT) (Nat.zero_le _)) ?_
        refine runS_ret (I := inf) 0 rfl (Nat.le_refl _) rfl .nil rfl ⟨?_, rfl⟩
        rw [hfs, hq, hg1 q hgr]
        rfl
      · exfalso
        have : decide ((q : Int) ≥ 0) = false := h1
        simp at this
    | ok t p =>
      rw [hgr] at hcall
      obtain ⟨hsc, hip, hp, htk⟩ := hg2 t p hgr
      refine runS_call rfl rfl rfl rfl rfl rfl rfl hcall ?_
      refine runS_x (I := inf) (J := jnf) ⟨false, false, [], 0, 0⟩ 9999 rfl (by repeat (first | exact obs_nil | refine obs_draw (by kernel_rfl) ?_ | refine obs_same ?_ | refine obs_and ?_ | refine obs_by (by (simp [inB, blS] <;> omega)) ?_)) ?_
      refine runS_cond rfl (fun h1 => by cases h1) (fun h1 => ?_)
      refine runS_x (I := inf) (J := jnf) ⟨false, false, [], 0, 0⟩ 9999 rfl (by repeat (first | exact obs_nil | refine obs_draw (by kernel_rfl) ?_ | refine obs_same ?_ | refine obs_and ?_ | refine obs_by (by (simp [inB, blS] <;> omega)) ?_)) ?_
      refine runS_cond rfl (fun h2 => ?_) (fun h2 => ?_)
      · have hpe : p = s.length := by
          have : ((p : Int) == (s.length : Int)) = true := h2
          simp at this
          omega
        subst hpe
        refine runS_x (I := inf) (J := jnf) ⟨false, false, [], 0, 0⟩ 9999 rfl (by repeat (first | exact obs_nil | refine obs_draw (by kernel_rfl) ?_ | refine obs_same ?_ | refine obs_and ?_ | refine obs_by (by (simp [inB] <;> omega)) ?_)) ?_
        refine runS_freeze 2 rfl rfl rfl (fun j hj => rfl) ?_
        refine runS_ret (I := inf) 0 rfl (Nat.le_refl _) rfl .nil rfl ⟨?_, rfl⟩
        rw [hfs, hq, hsc, scanP_end]
        rfl
      · have hpl : p < s.length := by
          have : ((p : Int) == (s.length : Int)) = false := h2
          simp at this
          omega
        obtain ⟨hsp, hcm⟩ := htk hpl
        have hnr := nextR_eq hsp hcm
        have hcall2 := r_next s p hs hpl
        rw [hnr] at hcall2
        refine runS_x (I := inf) (J := jnf) ⟨false, false, [], 0, 0⟩ 9999 rfl (by repeat (first | exact obs_nil | refine obs_draw (by kernel_rfl) ?_ | refine obs_same ?_ | refine obs_and ?_ | refine obs_by (by (simp [inB] <;> omega)) ?_)) ?_
        cases hr : readAt s p with
        | bad q =>
          rw [hr] at hcall2
          refine runS_call rfl rfl rfl rfl rfl rfl rfl hcall2 ?_
          refine runS_x (I := inf) (J := jnf) ⟨false, false, [], 0, 0⟩ 9999 rfl (by repeat (first | exact obs_nil | refine obs_draw (by kernel_rfl) ?_ | refine obs_same ?_ | refine obs_and ?_ | refine obs_by (by (simp [inB] <;> omega)) ?_)) ?_
          refine runS_cond rfl (fun h3 => ?_) (fun h3 => ?_)
          · refine runS_x (I := inf) (J := jnf) ⟨false, false, [], 0, 0⟩ 9999 rfl (by repeat (first | exact obs_nil | refine obs_draw (by kernel_rfl) ?_ | refine obs_same ?_ | refine obs_and ?_ | refine obs_by (by (simp [inB] <;> omega)) ?_)) ?_
            refine runS_says 2 rfl (says_nil0 (sz := 3) (r := nilT) (Nat.zero_le _)) ?_
            refine runS_ret (I := inf) 0 rfl (Nat.le_refl _) rfl .nil rfl ⟨?_, rfl⟩
            rw [hfs, hq, hsc, scanP_bad hpl hr]
            rfl
          · exfalso
            have : decide ((q : Int) ≥ 0) = false := h3
            simp at this
        | ok t q =>
          rw [hr] at hcall2
          obtain ⟨b1, b2⟩ := readAt_prog hpl hr
          cases t with
          | none => exact absurd (hnr.trans hr) nextR_no
          | some t =>
            refine runS_call rfl rfl rfl rfl rfl rfl rfl hcall2 ?_
            refine runS_x (I := inf) (J := jnf) ⟨false, false, [], 0, 0⟩ 9999 rfl (by repeat (first | exact obs_nil | refine obs_draw (by kernel_rfl) ?_ | refine obs_same ?_ | refine obs_and ?_ | refine obs_by (by (simp [inB] <;> omega)) ?_)) ?_
            refine runS_cond rfl (fun h3 => by cases h3) (fun h3 => ?_)
            refine runS_x (I := inf) (J := jnf) ⟨false, false, [], 0, 0⟩ 9999 rfl (by repeat (first | exact obs_nil | refine obs_draw (by kernel_rfl) ?_ | refine obs_same ?_ | refine obs_and ?_ | refine obs_by (by (simp [inB] <;> omega)) ?_)) ?_
            refine runS_tell 0 (tkR (acc ++ [t])) rfl (m' := acc.length + 1) rfl (tkR_snoc rfl) rfl ?_
            refine runS_drop 1 (Nat.zero_le _) rfl (by repeat (first | exact .nil | refine .row (fun j hj => rfl) ?_ | refine .box rfl ?_ | refine .fam (fun k j hk hj => rfl) ?_ | refine .loop (scrub_under _ _) ?_ | refine .dfr ?_ | refine .gone ?_ | refine .map (fun p hp => by (obtain ⟨k, _, rfl⟩ := List.mem_map.1 hp; rfl)) ?_)) rfl rfl rfl (by repeat (first | exact .nil | refine .cons rfl rfl rfl (scrub_under _ _) ?_)) ?_
            have hl' : (acc ++ [t]).length = acc.length + 1 := by simp
            exact ih (q, acc ++ [t]) _ _ (by dsimp only; omega) ⟨⟨rfl, by dsimp only; rw [hl']; rfl, rfl⟩, by dsimp only; rw [hl'], b2, by dsimp only; omega, by rw [hq, hsc, scanP_some hpl hr]⟩
end Go.Iron.Tryz

/- The token seat: the law TokenLetters. -/
namespace Go.Iron.Tryz
open Go.Proofs Go.RowKit Go.Iron.Tok

theorem scanL_len {s : Str} : ∀ (n p : Nat) (acc : List Tk), p ≤ s.length → acc.length ≤ p → (scanL s n p acc).1.length ≤ s.length
  | 0, p, acc, hp, ha => by rw [scanL]; show acc.length ≤ _; omega
  | n + 1, p, acc, hp, ha => by
    rw [scanL]
    split
    · rename_i hlt
      cases hr : readAt s p with
      | bad q => exact Nat.zero_le _
      | ok t q =>
        obtain ⟨a, b⟩ := readAt_prog hlt hr
        cases t with
        | none => exact scanL_len n q acc b (by omega)
        | some t => exact scanL_len n q _ b (by rw [List.length_append]; show acc.length + 1 ≤ q; omega)
    · dsimp only; omega
theorem scanF_len (s : Str) : (scanF s).1.length ≤ s.length := by
  unfold scanF
  split
  · exact Nat.zero_le _
  · exact scanL_len _ _ _ (Nat.zero_le _) (Nat.zero_le _)
end Go.Iron.Tryz

/- The token seat: tokens as they are written; valid ones. -/
namespace Go.Iron.Tryz
open Go.Proofs Go.RowKit Go.Iron.Tok

theorem k_eqT (a b : Tk) : CallT Tryz.prog 55 [.agg (tkE a), .agg (tkE b)] [] (fun o A => o = .ret (bv (sameT false a b)) ∧ A = []) := by
  refine callS_body (n := 17) rfl rfl fun w ρ X => ?_
  refine runS_x (I := inf) (J := jnf) ⟨false, false, [], 0, 0⟩ 9999 rfl (by repeat (first | exact obs_nil | refine obs_draw (by kernel_rfl) ?_ | refine obs_same ?_ | refine obs_and ?_ | refine obs_by (by (simp [inB] <;> omega)) ?_)) ?_
  refine runS_ret (I := inf) 0 rfl (Nat.le_refl _) rfl .nil rfl ⟨?_, rfl⟩
  refine congrArg (fun x => Out.ret (bv x)) ?_
  show (if (((a.kind : Nat) : Int) == ((b.kind : Nat) : Int)) = true then ((bs a.text).toList == (bs b.text).toList) else false) = _
  rw [bs_beq]
  unfold sameT
  rw [Bool.eq_iff_iff]
  by_cases h1 : a.kind = b.kind <;> by_cases h2 : a.text = b.text <;> simp [h1, h2] <;> omega
theorem k_eqF (n1 n2 : Option Bool) (a b : List Tk) (hl : a.length ≤ 100000) (hl2 : b.length ≤ 100000) : CallT Tryz.prog 54 [tkS n1 a, tkS n2 b, .fn (.func 55) []] [] (fun o A => o = .ret (bv (sameL false a b)) ∧ A = []) := by
  refine callS_body (n := 32) rfl rfl fun w ρ X => ?_
  refine runS_x (I := inf) (J := jnf) ⟨false, false, [], 0, 0⟩ 9999 rfl (by repeat (first | exact obs_nil | refine obs_draw (by kernel_rfl) ?_ | refine obs_same ?_ | refine obs_and ?_ | refine obs_by (by (simp [inB] <;> omega)) ?_)) ?_
  refine runS_cond rfl (fun h => ?_) (fun h => ?_)
  · have hne : a.length ≠ b.length := by simp at h; omega
    refine runS_x (I := inf) (J := jnf) ⟨false, false, [], 0, 0⟩ 9999 rfl (by repeat (first | exact obs_nil | refine obs_draw (by kernel_rfl) ?_ | refine obs_same ?_ | refine obs_and ?_ | refine obs_by (by (simp [inB] <;> omega)) ?_)) ?_
    refine runS_ret (I := inf) 0 rfl (Nat.le_refl _) rfl .nil rfl ⟨?_, rfl⟩
    unfold sameL
    rw [decide_eq_false hne]
    rfl
  · have hle : a.length = b.length := by simp at h; omega
    refine runS_x (I := inf) (J := jnf) ⟨false, false, [], 0, 0⟩ 9999 rfl (by repeat (first | exact obs_nil | refine obs_draw (by kernel_rfl) ?_ | refine obs_same ?_ | refine obs_and ?_ | refine obs_by (by (simp [inB] <;> omega)) ?_)) ?_
    refine runS_while (fun (i : Nat) τ ar => (τ 1 = tkS n2 b ∧ τ 2 = .fn (.func 55) [] ∧ τ 15 = tkS n1 a ∧ τ 16 = iv a.length ∧ τ 17 = iv i) ∧ ar = [] ∧ i ≤ a.length ∧ ∀ j, j < i → sameT false (a.getD j tk0) (b.getD j tk0) = true) (fun i => a.length - i) 0 ⟨⟨rfl, rfl, rfl, rfl, rfl⟩, rfl, Nat.zero_le _, fun j hj => by omega⟩ ?_
    rintro i τ' ar' ⟨⟨g1, g2, g15, g16, g17⟩, rfl, hi, hall⟩ ih
    refine runS_says 1 (by exact g1) (Says.refl _) ?_; refine runS_says 2 (by exact g2) (Says.refl _) ?_; refine runS_says 15 (by exact g15) (Says.refl _) ?_; refine runS_says 16 (by exact g16) (Says.refl _) ?_; refine runS_says 17 (by exact g17) (Says.refl _) ?_
    refine runS_x (I := inf) (J := jnf) ⟨false, false, [], 0, 0⟩ 9999 rfl (by repeat (first | exact obs_nil | refine obs_draw (by kernel_rfl) ?_ | refine obs_same ?_ | refine obs_and ?_ | refine obs_by (by (simp [inB] <;> omega)) ?_)) ?_
    refine runS_cond rfl (fun h1 => ?_) (fun h1 => ?_)
    · have hi' : i < a.length := by simp at h1; omega
      have hib : i < b.length := by omega
      have hw : IntKind.wrap .i64 ((i : Int) + 1) = ((i + 1 : Nat) : Int) := by rw [w64 (by omega) (by omega)]; rfl
      refine runS_x (I := inf) (J := jnf) ⟨false, false, [], 0, 0⟩ 9999 rfl (by repeat (first | exact obs_nil | refine obs_draw (by kernel_rfl) ?_ | refine obs_same ?_ | refine obs_and ?_ | refine obs_by (by (simp [inB, hi', hib] <;> omega)) ?_)) ?_
      refine runS_call rfl rfl rfl rfl rfl rfl rfl (k_eqT (a.getD i tk0) (b.getD i tk0)) ?_
      refine runS_x (I := inf) (J := jnf) ⟨false, false, [], 0, 0⟩ 9999 rfl (by repeat (first | exact obs_nil | refine obs_draw (by kernel_rfl) ?_ | refine obs_same ?_ | refine obs_and ?_ | refine obs_by (by (simp [inB] <;> omega)) ?_)) ?_
      refine runS_cond rfl (fun h2 => ?_) (fun h2 => ?_)
      · have hc : sameT false (a.getD i tk0) (b.getD i tk0) = false := by simpa using h2
        refine runS_x (I := inf) (J := jnf) ⟨false, false, [], 0, 0⟩ 9999 rfl (by repeat (first | exact obs_nil | refine obs_draw (by kernel_rfl) ?_ | refine obs_same ?_ | refine obs_and ?_ | refine obs_by (by (simp [inB] <;> omega)) ?_)) ?_
        refine runS_ret (I := inf) 0 rfl (Nat.le_refl _) rfl .nil rfl ⟨?_, rfl⟩
        have : sameL false a b = false := by
          unfold sameL
          rw [Bool.and_eq_false_iff]
          refine .inr ?_
          rw [← Bool.not_eq_true, List.all_eq_true]
          intro hh
          have := hh i (List.mem_range.2 hi')
          rw [this] at hc
          cases hc
        rw [this]
        rfl
      · have hc : sameT false (a.getD i tk0) (b.getD i tk0) = true := by simpa using h2
        refine runS_x (I := inf) (J := jnf) ⟨false, false, [], 0, 0⟩ 9999 rfl (by repeat (first | exact obs_nil | refine obs_draw (by kernel_rfl) ?_ | refine obs_same ?_ | refine obs_and ?_ | refine obs_by (by (simp [inB] <;> omega)) ?_)) ?_
        refine runS_drop 0 (Nat.zero_le _) rfl (by repeat (first | exact .nil | refine .row (fun j hj => rfl) ?_ | refine .box rfl ?_ | refine .fam (fun k j hk hj => rfl) ?_ | refine .loop (scrub_under _ _) ?_ | refine .dfr ?_ | refine .gone ?_ | refine .map (fun p hp => by (obtain ⟨k, _, rfl⟩ := List.mem_map.1 hp; rfl)) ?_)) rfl rfl rfl (by repeat (first | exact .nil | refine .cons rfl rfl rfl (scrub_under _ _) ?_)) ?_
        refine ih (i + 1) _ _ (by omega) ⟨⟨rfl, rfl, rfl, rfl, congrArg iv hw⟩, rfl, hi', fun j hj => ?_⟩
        by_cases hji : j = i
        · subst hji; exact hc
        · exact hall j (by omega)
    · have hie : i = a.length := by simp at h1; omega
      subst hie
      refine runS_x (I := inf) (J := jnf) ⟨false, false, [], 0, 0⟩ 9999 rfl (by repeat (first | exact obs_nil | refine obs_draw (by kernel_rfl) ?_ | refine obs_same ?_ | refine obs_and ?_ | refine obs_by (by (simp [inB] <;> omega)) ?_)) ?_
      refine runS_ret (I := inf) 0 rfl (Nat.le_refl _) rfl .nil rfl ⟨?_, rfl⟩
      have : sameL false a b = true := by
        unfold sameL
        rw [decide_eq_true hle, Bool.true_and, List.all_eq_true]
        exact fun j hj => hall j (List.mem_range.1 hj)
      rw [this]
      rfl
/-- A text is read as these tokens, but for places. -/
def readAs (s : Str) (l : List Tk) : Bool := decide ((scanF s).2.2 = 0) && sameL false (scanF s).1 l
theorem k_readAs (n2 : Option Bool) (s : Str) (l : List Tk) (hs : s.length ≤ 24000) (hl : l.length ≤ 100000) : CallT Tryz.prog 33 [sv s, tkS n2 l] [] (fun o A => o = .ret (bv (readAs s l)) ∧ A = []) := by
  have hlen := scanF_len s
  refine callS_body (n := 21) rfl rfl fun w ρ X => ?_
  refine runS_x (I := inf) (J := jnf) ⟨false, false, [], 0, 0⟩ 9999 rfl (by repeat (first | exact obs_nil | refine obs_draw (by kernel_rfl) ?_ | refine obs_same ?_ | refine obs_and ?_ | refine obs_by (by (simp [inB] <;> omega)) ?_)) ?_
  refine runS_call rfl rfl rfl rfl rfl rfl rfl (k_scan s hs) ?_
  refine runS_x (I := inf) (J := jnf) ⟨false, false, [], 0, 0⟩ 9999 rfl (by repeat (first | exact obs_nil | refine obs_draw (by kernel_rfl) ?_ | refine obs_same ?_ | refine obs_and ?_ | refine obs_by (by (simp [inB] <;> omega)) ?_)) ?_
  refine runS_callU rfl rfl (by first | exact .v rfl rfl rfl rfl | exact .o rfl rfl rfl rfl) rfl rfl (by repeat (first | exact .nil | refine .cons (.n rfl) ?_ | refine .cons .o ?_ | refine .cons gok_and ?_)) rfl rfl rfl rfl rfl (fun _ => (k_eqF none n2 (scanF s).1 l (by omega) hl)) ?_
  refine runS_x (I := inf) (J := jnf) ⟨false, false, [], 0, 0⟩ 9999 rfl (by repeat (first | exact obs_nil | refine obs_draw (by kernel_rfl) ?_ | refine obs_same ?_ | refine obs_and ?_ | refine obs_by (by (simp [inB] <;> omega)) ?_)) ?_
  refine runS_ret (I := inf) 0 rfl (Nat.le_refl _) rfl .nil rfl ⟨?_, rfl⟩
  refine congrArg (fun x => Out.ret (bv x)) ?_
  show (if ((((scanF s).2.2 : Nat) : Int) == 0) = true then sameL false (scanF s).1 l else false) = _
  unfold readAs
  by_cases h : (scanF s).2.2 = 0
  · rw [h]; rfl
  · have : ((((scanF s).2.2 : Nat) : Int) == 0) = false := by simp; omega
    rw [this, decide_eq_false h]
    rfl
def dbl (l : Str) : Str := l.flatMap fun b => if b = 39 then [39, 39] else [b]
/-- How a token is written. -/
def wrS (t : Tk) : Str := if t.kind = 3 then [39] ++ dbl t.text ++ [39] else if t.kind = 4 then [39] ++ t.text ++ [39, 66] else t.text
theorem k_written (t : Tk) (ht : t.text.length ≤ 100000) (h3 : t.kind ≠ 3) : CallT Tryz.prog 34 [.agg (tkE t)] [] (fun o A => o = .ret (sv (wrS t)) ∧ A = []) := by
  have hwr : wrS t = if t.kind = 4 then [39] ++ t.text ++ [39, 66] else t.text := by unfold wrS; rw [if_neg h3]
  refine callS_body (n := 20) rfl rfl fun w ρ X => ?_
  refine runS_x (I := inf) (J := jnf) ⟨false, false, [], 0, 0⟩ 9999 rfl (by repeat (first | exact obs_nil | refine obs_draw (by kernel_rfl) ?_ | refine obs_same ?_ | refine obs_and ?_ | refine obs_by (by (simp [inB] <;> omega)) ?_)) ?_
  refine runS_cond rfl (fun h => ?_) (fun h => ?_)
  · exfalso
    have : (((t.kind : Nat) : Int) == 3) = true := h
    simp at this
    omega
  · refine runS_x (I := inf) (J := jnf) ⟨false, false, [], 0, 0⟩ 9999 rfl (by repeat (first | exact obs_nil | refine obs_draw (by kernel_rfl) ?_ | refine obs_same ?_ | refine obs_and ?_ | refine obs_by (by (simp [inB] <;> omega)) ?_)) ?_
    refine runS_cond rfl (fun h1 => ?_) (fun h1 => ?_)
    · have h4 : t.kind = 4 := by
        have : (((t.kind : Nat) : Int) == 4) = true := h1
        simp at this
        omega
      have hp1 : (bl (ByteArray.mk #[39])).length = 1 := rfl
      have hp2 : (bl (ByteArray.mk #[39, 66])).length = 2 := rfl
      refine runS_x (I := inf) (J := jnf) ⟨false, false, [], 0, 0⟩ 9999 rfl (by repeat (first | exact obs_nil | refine obs_draw (by kernel_rfl) ?_ | refine obs_same ?_ | refine obs_and ?_ | refine obs_by (by (simp [inB, blS, hp1, hp2] <;> omega)) ?_)) ?_
      refine runS_ret (I := inf) 0 rfl (Nat.le_refl _) rfl .nil rfl ⟨?_, rfl⟩
      rw [hwr, if_pos h4]
      rfl
    · have h4 : ¬ t.kind = 4 := by
        have : (((t.kind : Nat) : Int) == 4) = false := h1
        simp at this
        omega
      refine runS_x (I := inf) (J := jnf) ⟨false, false, [], 0, 0⟩ 9999 rfl (by repeat (first | exact obs_nil | refine obs_draw (by kernel_rfl) ?_ | refine obs_same ?_ | refine obs_and ?_ | refine obs_by (by (simp [inB] <;> omega)) ?_)) ?_
      refine runS_ret (I := inf) 0 rfl (Nat.le_refl _) rfl .nil rfl ⟨?_, rfl⟩
      rw [hwr, if_neg h4]
      rfl
/-- A token that is read from its text as it is. -/
def validT (t : Tk) : Bool := readAs (wrS t) [t]
theorem k_valid (t : Tk) (hw : CallT Tryz.prog 34 [.agg (tkE t)] [] (fun o A => o = .ret (sv (wrS t)) ∧ A = [])) (hl : (wrS t).length ≤ 24000) : CallT Tryz.prog 17 [.agg (tkE t)] [] (fun o A => o = .ret (bv (validT t)) ∧ A = []) := by
  have hge : (decide ((t.at_ : Int) ≥ 0) == true) = true := by simp
  refine callS_body (n := 13) rfl rfl fun w ρ X => ?_
  refine runS_x (I := inf) (J := jnf) ⟨false, false, [], 0, 0⟩ 9999 rfl (by repeat (first | exact obs_nil | refine obs_draw (by kernel_rfl) ?_ | refine obs_same ?_ | refine obs_and ?_ | refine obs_by (by (simp [inB] <;> omega)) ?_)) ?_
  refine runS_hole ?_
  refine runS_drawG (ch := []) (A2 := fun _ => []) 8 [7] (fun b => [.box 29 [iv t.kind, sv t.text, iv t.at_], cond (b.getD 0 false) (.row 29 3 1 1 (chunk 3 (tkE t))) .hole]) none (c := 9) jnfI.draw (by kernel_rfl) rfl (lexg_g (I := inf) (J := jnf) none ⟨⟨_, rfl, (by repeat (first | exact obs_nil | refine obs_same ?_ | refine obs_and ?_ | refine obs_by (by (simp [inB] <;> omega)) ?_))⟩, (by first | exact .inl (by decide +kernel) | exact .inr ⟨_, rfl, (by repeat (first | exact obs_nil | refine obs_same ?_ | refine obs_and ?_ | refine obs_by (by (simp [inB] <;> omega)) ?_))⟩)⟩ rfl rfl rfl rfl (lexg_g (I := inf) (J := jnf) none ⟨⟨_, rfl, (by repeat (first | exact obs_nil | refine obs_same ?_ | refine obs_and ?_ | refine obs_by (by (simp [inB] <;> omega)) ?_))⟩, (by first | exact .inl (by decide +kernel) | exact .inr ⟨_, rfl, (by repeat (first | exact obs_nil | refine obs_same ?_ | refine obs_and ?_ | refine obs_by (by (simp [inB] <;> omega)) ?_))⟩)⟩ rfl rfl rfl rfl (lexg_g (I := inf) (J := jnf) none ⟨⟨_, rfl, (by repeat (first | exact obs_nil | refine obs_same ?_ | refine obs_and ?_ | refine obs_by (by (simp [inB] <;> omega)) ?_))⟩, (by first | exact .inl (by decide +kernel) | exact .inr ⟨_, rfl, (by repeat (first | exact obs_nil | refine obs_same ?_ | refine obs_and ?_ | refine obs_by (by (simp [inB] <;> omega)) ?_))⟩)⟩ rfl rfl rfl rfl (lexg_g (I := inf) (J := jnf) none ⟨⟨_, rfl, (by repeat (first | exact obs_nil | refine obs_same ?_ | refine obs_and ?_ | refine obs_by (by (simp [inB] <;> omega)) ?_))⟩, (by first | exact .inl (by decide +kernel) | exact .inr ⟨_, rfl, (by repeat (first | exact obs_nil | refine obs_same ?_ | refine obs_and ?_ | refine obs_by (by (simp [inB] <;> omega)) ?_))⟩)⟩ rfl rfl rfl rfl (lexg_gT (I := inf) (J := jnf) none hge ⟨⟨_, rfl, (by repeat (first | exact obs_nil | refine obs_same ?_ | refine obs_and ?_ | refine obs_by (by (simp [inB] <;> omega)) ?_))⟩, (by first | exact .inl (by decide +kernel) | exact .inr ⟨_, rfl, (by repeat (first | exact obs_nil | refine obs_same ?_ | refine obs_and ?_ | refine obs_by (by (simp [inB] <;> omega)) ?_))⟩)⟩ rfl rfl rfl rfl rfl rfl rfl rfl (lexg_callT hge rfl rfl rfl rfl rfl rfl rfl rfl (by repeat (first | exact .nil | refine .cons (.n rfl) ?_ | refine .cons .o ?_ | refine .cons gok_and ?_)) rfl rfl rfl rfl rfl rfl rfl hw (lexg_gT (I := inf) (J := jnf) none hge ⟨⟨_, rfl, (by repeat (first | exact obs_nil | refine obs_same ?_ | refine obs_and ?_ | refine obs_by (by (simp [inB] <;> omega)) ?_))⟩, (by first | exact .inl (by decide +kernel) | exact .inr ⟨_, rfl, (by repeat (first | exact obs_nil | refine obs_same ?_ | refine obs_and ?_ | refine obs_by (by (simp [inB] <;> omega)) ?_))⟩)⟩ rfl rfl rfl rfl rfl rfl rfl rfl (lexg_gT (I := inf) (J := jnf) (some (.hole 1)) hge ⟨⟨_, rfl, (by repeat (first | exact obs_nil | refine obs_same ?_ | refine obs_and ?_ | refine obs_by (by (simp [inB] <;> omega)) ?_))⟩, .inl rfl⟩ rfl rfl rfl rfl rfl rfl rfl rfl lexg_nil)))))))) rfl (fun _ => ?_) (fun h => by cases h)
  refine runS_x (I := inf) (J := jnf) ⟨false, false, [], 0, 0⟩ 9999 rfl (by repeat (first | exact obs_nil | refine obs_draw (by kernel_rfl) ?_ | refine obs_same ?_ | refine obs_and ?_ | refine obs_by (by (simp [inB] <;> omega)) ?_)) ?_
  refine runS_tell 1 (tkR [t]) rfl (m' := 1) rfl (fun i hi => by have : i = 0 := by omega
                                                                 subst this; rfl) rfl ?_
  refine runS_freeze 10 rfl rfl rfl (fun j hj => rfl) ?_
  refine runS_callU rfl rfl (by first | exact .v rfl rfl rfl rfl | exact .o rfl rfl rfl rfl) rfl rfl (by repeat (first | exact .nil | refine .cons (.n rfl) ?_ | refine .cons .o ?_ | refine .cons gok_and ?_)) rfl rfl rfl rfl rfl (fun _ => (k_readAs none (wrS t) [t] hl (Nat.le_of_ble_eq_true rfl))) ?_
  refine runS_x (I := inf) (J := jnf) ⟨false, false, [], 0, 0⟩ 9999 rfl (by repeat (first | exact obs_nil | refine obs_draw (by kernel_rfl) ?_ | refine obs_same ?_ | refine obs_and ?_ | refine obs_by (by (simp [inB] <;> omega)) ?_)) ?_
  refine runS_ret (I := inf) 0 rfl (Nat.le_refl _) rfl .nil rfl ⟨?_, rfl⟩
  have hge2 : decide ((t.at_ : Int) ≥ 0) = true := by simp
  show Out.ret (bv (if decide ((t.at_ : Int) ≥ 0) = true then readAs (wrS t) [t] else false)) = _
  rw [hge2, if_pos rfl]
  rfl
end Go.Iron.Tryz

/- The token seat: places. -/
namespace Go.Iron.Tryz
open Go.Proofs Go.RowKit Go.Iron.Tok

theorem lib_count (s : Str) (c : UInt8) : CallT Tryz.prog 15 [sv s, sv [c]] [] (fun o A => o = .ret (iv (s.count c)) ∧ A = []) :=
  callT_lib fun w O vs hst hl hv => by
    obtain ⟨v, v2, rfl⟩ : ∃ v v2, vs = #[v, v2] := by
      obtain ⟨l⟩ := vs
      match l, hl with
      | [v, v2], _ => exact ⟨v, v2, rfl⟩
    have hv0 := rv_val (hv 0 _ v rfl rfl)
    have hv1 := rv_val (hv 1 _ v2 rfl rfl)
    subst hv0
    subst hv1
    refine (Tryz.strings_Count_one (bs s) c w).mono fun e w' hh => ?_
    obtain ⟨rfl, rfl⟩ := hh
    exact ⟨_, rfl, Below.refl _ _, fun w'' O' => .val⟩
theorem lib_lastByte (s : Str) (c : Nat) (hs : s.length ≤ 100000) : CallT Tryz.prog 16 [sv s, uv c] [] (fun o A => o = .ret (iv (Lib.lastIndexByte (bs s) c)) ∧ A = []) :=
  callT_lib fun w O vs hst hl hv => by
    obtain ⟨v, v2, rfl⟩ : ∃ v v2, vs = #[v, v2] := by
      obtain ⟨l⟩ := vs
      match l, hl with
      | [v, v2], _ => exact ⟨v, v2, rfl⟩
    have hv0 := rv_val (hv 0 _ v rfl rfl)
    have hv1 := rv_val (hv 1 _ v2 rfl rfl)
    subst hv0
    subst hv1
    refine (Tryz.strings_LastIndexByte (bs s) (c : Int) (show s.length < _ by omega) w).mono fun e w' hh => ?_
    obtain ⟨rfl, rfl⟩ := hh
    exact ⟨_, rfl, Below.refl _ _, fun w'' O' => .val⟩
/-- The last newline among the first i bytes; -1 if there is none. -/
def lastI (s : Str) : Nat → Int
  | 0 => -1
  | i + 1 => if byt s i = 10 then (i : Int) else lastI s i
theorem lastI_eq (s : Str) (a : Nat) (ha : a ≤ s.length) : Lib.lastIndexByte (bs (s.take a)) ((10 : Nat) : Int) = lastI s a := by
  have key : ∀ k, k ≤ a → Lib.lastIdx (bs (s.take a)) ((10 : Nat) : Int) k = lastI s k := by
    intro k
    induction k with
    | zero => intro _; rfl
    | succ k ih =>
      intro hk
      unfold Lib.lastIdx lastI
      have e : (bs (s.take a)).data[k]! = s.getD k 0 := by
        have h1 : k < (s.take a).length := by rw [List.length_take]; omega
        show ((s.take a).toArray)[k]! = _
        rw [getElem!_pos _ k (by simpa using h1)]
        rw [List.getElem_toArray, List.getElem_take, List.getD_eq_getElem?_getD, List.getElem?_eq_getElem (by omega)]
        rfl
      rw [e, ih (by omega)]
      by_cases h : byt s k = 10
      · rw [if_pos h, if_pos (by unfold byt at h; omega)]
      · rw [if_neg h, if_neg (by unfold byt at h; omega)]
  have e2 : (bs (s.take a)).size = a := by
    show (s.take a).length = a
    rw [List.length_take]
    omega
  unfold Lib.lastIndexByte
  rw [e2]
  exact key a (Nat.le_refl _)
theorem lastI_le (s : Str) : ∀ i, -1 ≤ lastI s i ∧ lastI s i < i
  | 0 => by unfold lastI; omega
  | i + 1 => by
    unfold lastI
    have := lastI_le s i
    split <;> omega
theorem count_step {s : Str} {i : Nat} (hi : i < s.length) : (s.take (i + 1)).count 10 = (s.take i).count 10 + (if byt s i = 10 then 1 else 0) := by
  have e : s[i] = s.getD i 0 := by rw [List.getD_eq_getElem?_getD, List.getElem?_eq_getElem hi]; rfl
  rw [List.take_succ_eq_append_getElem hi, List.count_append, e]
  congr 1
  unfold byt
  rw [List.count_singleton]
  by_cases h : s.getD i 0 = 10
  · rw [h]; rfl
  · have h2 : ¬ (s.getD i 0).toNat = 10 := fun e => h (UInt8.toNat_inj.1 e)
    rw [if_neg h2, if_neg (by simpa using h)]
def placeF (s : Str) (at_ : Int) : Int × Int × Nat :=
  if s.length > 20000 then (0, 0, 3)
  else if at_ < 0 ∨ at_ > s.length then (0, 0, 7)
  else ((((s.take at_.toNat).count 10 + 1 : Nat) : Int), at_ - lastI s at_.toNat, 0)
def placeA (x : Int × Int × Nat) : AV := .tup [iv x.1, iv x.2.1, iv x.2.2]
theorem count_le (s : Str) (i : Nat) : (s.take i).count 10 ≤ s.length := by
  have h1 := List.count_le_length (a := (10 : UInt8)) (l := s.take i)
  rw [List.length_take] at h1
  omega
theorem k_place (s : Str) (at_ : Int) (hs : s.length ≤ 24000) : CallT Tryz.prog 6 [sv s, iv at_] [] (fun o A => o = .ret (placeA (placeF s at_)) ∧ A = []) := by
  refine callS_body (n := 31) rfl rfl fun w ρ X => ?_
  refine runS_x (I := inf) (J := jnf) ⟨false, false, [], 0, 0⟩ 9999 rfl (by repeat (first | exact obs_nil | refine obs_draw (by kernel_rfl) ?_ | refine obs_same ?_ | refine obs_and ?_ | refine obs_by (by (simp [inB, blS] <;> omega)) ?_)) ?_
  refine runS_cond rfl (fun h => ?_) (fun h => ?_)
  · have hb : s.length > 20000 := by
      have : decide ((s.length : Int) > 20000) = true := h
      simp at this
      omega
    refine runS_x (I := inf) (J := jnf) ⟨false, false, [], 0, 0⟩ 9999 rfl (by repeat (first | exact obs_nil | refine obs_draw (by kernel_rfl) ?_ | refine obs_same ?_ | refine obs_and ?_ | refine obs_by (by (simp [inB] <;> omega)) ?_)) ?_
    refine runS_ret (I := inf) 0 rfl (Nat.le_refl _) rfl .nil rfl ⟨?_, rfl⟩
    rw [placeF, if_pos hb]
    rfl
  · have hb : ¬ s.length > 20000 := by
      have : decide ((s.length : Int) > 20000) = false := h
      simp at this
      omega
    refine runS_x (I := inf) (J := jnf) ⟨false, false, [], 0, 0⟩ 9999 rfl (by repeat (first | exact obs_nil | refine obs_draw (by kernel_rfl) ?_ | refine obs_same ?_ | refine obs_and ?_ | refine obs_by (by (simp [inB, blS] <;> omega)) ?_)) ?_
    have hcd : (if decide (at_ < 0) = true then true else decide (at_ > (s.length : Int))) = decide (at_ < 0 ∨ at_ > s.length) := by
      rw [Bool.eq_iff_iff]
      by_cases h : at_ < 0 <;> simp [h]
    refine runS_cond rfl (fun h1 => ?_) (fun h1 => ?_)
    · have hc := of_decide_eq_true (hcd.symm.trans h1)
      refine runS_x (I := inf) (J := jnf) ⟨false, false, [], 0, 0⟩ 9999 rfl (by repeat (first | exact obs_nil | refine obs_draw (by kernel_rfl) ?_ | refine obs_same ?_ | refine obs_and ?_ | refine obs_by (by (simp [inB] <;> omega)) ?_)) ?_
      refine runS_ret (I := inf) 0 rfl (Nat.le_refl _) rfl .nil rfl ⟨?_, rfl⟩
      rw [placeF, if_neg hb, if_pos hc]
      rfl
    · have hc := of_decide_eq_false (hcd.symm.trans h1)
      obtain ⟨a, rfl⟩ : ∃ a : Nat, at_ = a := ⟨at_.toNat, by omega⟩
      have ha : a ≤ s.length := by omega
      have hpl : placeF s (a : Int) = ((((s.take a).count 10 + 1 : Nat) : Int), (a : Int) - lastI s a, 0) := by
        unfold placeF
        rw [if_neg hb, if_neg hc, Int.toNat_natCast]
      have hcl := count_le s a
      have hli := lastI_le s a
      have h1 := lib_lastByte (s.take a) 10 (by rw [List.length_take]; omega)
      rw [lastI_eq s a ha] at h1
      refine runS_x (I := inf) (J := jnf) ⟨false, false, [], 0, 0⟩ 9999 rfl (by repeat (first | exact obs_nil | refine obs_draw (by kernel_rfl) ?_ | refine obs_same ?_ | refine obs_and ?_ | refine obs_by (by (simp [inB, blS, ha] <;> omega)) ?_)) ?_
      refine runS_call rfl rfl rfl rfl rfl rfl rfl (lib_count (s.take a) 10) ?_
      refine runS_x (I := inf) (J := jnf) ⟨false, false, [], 0, 0⟩ 9999 rfl (by repeat (first | exact obs_nil | refine obs_draw (by kernel_rfl) ?_ | refine obs_same ?_ | refine obs_and ?_ | refine obs_by (by (simp [inB] <;> omega)) ?_)) ?_
      refine runS_call rfl rfl rfl rfl rfl rfl rfl h1 ?_
      refine runS_x (I := inf) (J := jnf) ⟨false, false, [], 0, 0⟩ 9999 rfl (by repeat (first | exact obs_nil | refine obs_draw (by kernel_rfl) ?_ | refine obs_same ?_ | refine obs_and ?_ | refine obs_by (by (simp [inB] <;> omega)) ?_)) ?_
      refine runS_ret (I := inf) 0 rfl (Nat.le_refl _) rfl .nil rfl ⟨?_, rfl⟩
      rw [hpl]
      have e1 : IntKind.wrap .i64 ((((s.take a).count 10 : Nat) : Int) + 1) = (((s.take a).count 10 + 1 : Nat) : Int) := by rw [w64 (by omega) (by omega)]; rfl
      have e2 : IntKind.wrap .i64 ((a : Int) - lastI s a) = (a : Int) - lastI s a := w64 (by omega) (by omega)
      show Out.ret (.tup [iv _, iv _, iv _]) = Out.ret (.tup [iv _, iv _, iv _])
      rw [e1, e2]
      rfl
theorem r_place (s : Str) (at_ : Int) (hs : s.length ≤ 24000) : CallT Tryz.prog 7 [sv s, iv at_] [] (fun o A => o = .ret (placeA (placeF s at_)) ∧ A = []) := by
  refine callS_body (n := 38) rfl rfl fun w ρ X => ?_
  refine runS_x (I := inf) (J := jnf) ⟨false, false, [], 0, 0⟩ 9999 rfl (by repeat (first | exact obs_nil | refine obs_draw (by kernel_rfl) ?_ | refine obs_same ?_ | refine obs_and ?_ | refine obs_by (by (simp [inB, blS] <;> omega)) ?_)) ?_
  refine runS_cond rfl (fun h => ?_) (fun h => ?_)
  · have hb : s.length > 20000 := by
      have : decide ((s.length : Int) > 20000) = true := h
      simp at this
      omega
    refine runS_x (I := inf) (J := jnf) ⟨false, false, [], 0, 0⟩ 9999 rfl (by repeat (first | exact obs_nil | refine obs_draw (by kernel_rfl) ?_ | refine obs_same ?_ | refine obs_and ?_ | refine obs_by (by (simp [inB] <;> omega)) ?_)) ?_
    refine runS_ret (I := inf) 0 rfl (Nat.le_refl _) rfl .nil rfl ⟨?_, rfl⟩
    rw [placeF, if_pos hb]
    rfl
  · have hb : ¬ s.length > 20000 := by
      have : decide ((s.length : Int) > 20000) = false := h
      simp at this
      omega
    refine runS_x (I := inf) (J := jnf) ⟨false, false, [], 0, 0⟩ 9999 rfl (by repeat (first | exact obs_nil | refine obs_draw (by kernel_rfl) ?_ | refine obs_same ?_ | refine obs_and ?_ | refine obs_by (by (simp [inB, blS] <;> omega)) ?_)) ?_
    have hcd : (if decide (at_ < 0) = true then true else decide (at_ > (s.length : Int))) = decide (at_ < 0 ∨ at_ > s.length) := by
      rw [Bool.eq_iff_iff]
      by_cases h : at_ < 0 <;> simp [h]
    refine runS_cond rfl (fun h1 => ?_) (fun h1 => ?_)
    · have hc := of_decide_eq_true (hcd.symm.trans h1)
      refine runS_x (I := inf) (J := jnf) ⟨false, false, [], 0, 0⟩ 9999 rfl (by repeat (first | exact obs_nil | refine obs_draw (by kernel_rfl) ?_ | refine obs_same ?_ | refine obs_and ?_ | refine obs_by (by (simp [inB] <;> omega)) ?_)) ?_
      refine runS_ret (I := inf) 0 rfl (Nat.le_refl _) rfl .nil rfl ⟨?_, rfl⟩
      rw [placeF, if_neg hb, if_pos hc]
      rfl
    · have hc := of_decide_eq_false (hcd.symm.trans h1)
      obtain ⟨a, rfl⟩ : ∃ a : Nat, at_ = a := ⟨at_.toNat, by omega⟩
      have ha : a ≤ s.length := by omega
      have hpl : placeF s (a : Int) = ((((s.take a).count 10 + 1 : Nat) : Int), (a : Int) - lastI s a, 0) := by
        unfold placeF
        rw [if_neg hb, if_neg hc, Int.toNat_natCast]
      clear hcd h1 h
      refine runS_x (I := inf) (J := jnf) ⟨false, false, [], 0, 0⟩ 9999 rfl (by repeat (first | exact obs_nil | refine obs_draw (by kernel_rfl) ?_ | refine obs_same ?_ | refine obs_and ?_ | refine obs_by (by (simp [inB] <;> omega)) ?_)) ?_
      refine runS_while (fun (i : Nat) τ ar => (τ 0 = sv s ∧ τ 1 = iv a ∧ τ 7 = iv (((s.take i).count 10 + 1 : Nat) : Int) ∧ τ 8 = iv ((i : Int) - lastI s i) ∧ τ 9 = iv i) ∧ ar = [] ∧ i ≤ a) (fun i => a - i) 0 ⟨⟨rfl, rfl, rfl, rfl, rfl⟩, rfl, Nat.zero_le _⟩ ?_
      rintro i τ' ar' ⟨⟨g0, g1, g7, g8, g9⟩, rfl, hi⟩ ih
      refine runS_says 0 (by exact g0) (Says.refl _) ?_; refine runS_says 1 (by exact g1) (Says.refl _) ?_; refine runS_says 7 (by exact g7) (Says.refl _) ?_; refine runS_says 8 (by exact g8) (Says.refl _) ?_; refine runS_says 9 (by exact g9) (Says.refl _) ?_
      refine runS_x (I := inf) (J := jnf) ⟨false, false, [], 0, 0⟩ 9999 rfl (by repeat (first | exact obs_nil | refine obs_draw (by kernel_rfl) ?_ | refine obs_same ?_ | refine obs_and ?_ | refine obs_by (by (simp [inB] <;> omega)) ?_)) ?_
      refine runS_cond rfl (fun h => ?_) (fun h => ?_)
      · have hia : i < a := by simp at h; omega
        have hil : i < s.length := by omega
        have hcl := count_le s i
        have hli := lastI_le s i
        have hw1 : IntKind.wrap .i64 ((i : Int) + 1) = ((i + 1 : Nat) : Int) := by rw [w64 (by omega) (by omega)]; rfl
        have hst := count_step hil
        have hls : lastI s (i + 1) = if byt s i = 10 then (i : Int) else lastI s i := rfl
        refine runS_x (I := inf) (J := jnf) ⟨false, false, [], 0, 0⟩ 9999 rfl (by repeat (first | exact obs_nil | refine obs_draw (by kernel_rfl) ?_ | refine obs_same ?_ | refine obs_and ?_ | refine obs_by (by (simp [inB, blS, hil] <;> omega)) ?_)) ?_
        refine runS_cond rfl (fun h1 => ?_) (fun h1 => ?_)
        · have h10 : byt s i = 10 := by
            have : (((byt s i : Nat) : Int) == 10) = true := h1
            simp at this
            omega
          rw [if_pos h10] at hst hls
          refine runS_x (I := inf) (J := jnf) ⟨false, false, [], 0, 0⟩ 9999 rfl (by repeat (first | exact obs_nil | refine obs_draw (by kernel_rfl) ?_ | refine obs_same ?_ | refine obs_and ?_ | refine obs_by (by (simp [inB] <;> omega)) ?_)) ?_
          refine ih (i + 1) _ _ (by omega) ⟨⟨rfl, rfl, ?_, ?_, congrArg iv hw1⟩, rfl, hia⟩
          · rw [hst]
            refine congrArg iv ?_
            show IntKind.wrap .i64 ((((s.take i).count 10 + 1 : Nat) : Int) + 1) = _
            rw [w64 (by omega) (by omega)]
            rfl
          · rw [hls]
            refine congrArg iv ?_
            show (1 : Int) = _
            omega
        · have h10 : ¬ byt s i = 10 := by
            have : (((byt s i : Nat) : Int) == 10) = false := h1
            simp at this
            omega
          rw [if_neg h10] at hst hls
          refine runS_x (I := inf) (J := jnf) ⟨false, false, [], 0, 0⟩ 9999 rfl (by repeat (first | exact obs_nil | refine obs_draw (by kernel_rfl) ?_ | refine obs_same ?_ | refine obs_and ?_ | refine obs_by (by (simp [inB] <;> omega)) ?_)) ?_
          refine ih (i + 1) _ _ (by omega) ⟨⟨rfl, rfl, ?_, ?_, congrArg iv hw1⟩, rfl, hia⟩
          · rw [hst]
            rfl
          · rw [hls]
            refine congrArg iv ?_
            show IntKind.wrap .i64 ((i : Int) - lastI s i + 1) = _
            rw [w64 (by omega) (by omega)]
            omega
      · have hia : i = a := by simp at h; omega
        subst hia
        refine runS_x (I := inf) (J := jnf) ⟨false, false, [], 0, 0⟩ 9999 rfl (by repeat (first | exact obs_nil | refine obs_draw (by kernel_rfl) ?_ | refine obs_same ?_ | refine obs_and ?_ | refine obs_by (by (simp [inB] <;> omega)) ?_)) ?_
        refine runS_ret (I := inf) 0 rfl (Nat.le_refl _) rfl .nil rfl ⟨?_, rfl⟩
        rw [hpl]
        rfl
end Go.Iron.Tryz

/- The token seat: the reference's Valid; names; the law of places. -/
namespace Go.Iron.Tryz
open Go.Proofs Go.RowKit Go.Iron.Tok

abbrev tkI (kd : Int) (s : Str) (a : Int) : AV := .agg [iv kd, sv s, iv a]
/-- The reference's valid bytes of a constant. -/
def cBy (kd : Int) (c : Nat) : Bool := decide (32 ≤ c) && decide (c ≤ 126) && (!decide (kd = 4) || c == 48 || c == 49)
def refV (kd : Int) (s : Str) (a : Int) : Bool :=
  if a < 0 ∨ s.length > 20000 then false
  else if kd = 3 ∨ kd = 4 then (if s.length > 250 then false else (List.range s.length).all fun i => cBy kd (byt s i))
  else decide ((scanF s).2.2 = 0) && decide ((scanF s).1.length = 1) && decide ((((scanF s).1.getD 0 tk0).kind : Int) = kd) && decide (((scanF s).1.getD 0 tk0).text = s) && (decide (kd = 1) || decide (kd = 2) || decide (kd = 5))
theorem r_valid (kd : Int) (s : Str) (a : Int) (hs : s.length ≤ 30000) : CallT Tryz.prog 18 [tkI kd s a] [] (fun o A => o = .ret (bv (refV kd s a)) ∧ A = []) := by
  refine callS_body (n := 113) rfl rfl fun w ρ X => ?_
  refine runS_x (I := inf) (J := jnf) ⟨false, false, [], 0, 0⟩ 9999 rfl (by repeat (first | exact obs_nil | refine obs_draw (by kernel_rfl) ?_ | refine obs_same ?_ | refine obs_and ?_ | refine obs_by (by (simp [inB, blS] <;> omega)) ?_)) ?_
  have hcd : (if decide (a < 0) = true then true else decide ((s.length : Int) > 20000)) = decide (a < 0 ∨ s.length > 20000) := by
    rw [Bool.eq_iff_iff]
    by_cases h : a < 0 <;> simp [h]
    omega
  refine runS_cond rfl (fun h => ?_) (fun h => ?_)
  · have hc := of_decide_eq_true (hcd.symm.trans h)
    refine runS_x (I := inf) (J := jnf) ⟨false, false, [], 0, 0⟩ 9999 rfl (by repeat (first | exact obs_nil | refine obs_draw (by kernel_rfl) ?_ | refine obs_same ?_ | refine obs_and ?_ | refine obs_by (by (simp [inB] <;> omega)) ?_)) ?_
    refine runS_ret (I := inf) 0 rfl (Nat.le_refl _) rfl .nil rfl ⟨?_, rfl⟩
    rw [refV, if_pos hc]
    rfl
  · have hc := of_decide_eq_false (hcd.symm.trans h)
    have hs2 : s.length ≤ 20000 := by omega
    clear hcd h
    refine runS_x (I := inf) (J := jnf) ⟨false, false, [], 0, 0⟩ 9999 rfl (by repeat (first | exact obs_nil | refine obs_draw (by kernel_rfl) ?_ | refine obs_same ?_ | refine obs_and ?_ | refine obs_by (by (simp [inB] <;> omega)) ?_)) ?_
    have hcd : (if (kd == 3) = true then true else (kd == 4)) = decide (kd = 3 ∨ kd = 4) := by
      rw [Bool.eq_iff_iff]
      by_cases h : kd = 3 <;> simp [h]
    refine runS_cond rfl (fun h => ?_) (fun h => ?_)
    · have hk := of_decide_eq_true (hcd.symm.trans h)
      have hrv : refV kd s a = if s.length > 250 then false else (List.range s.length).all fun i => cBy kd (byt s i) := by
        unfold refV
        rw [if_neg hc, if_pos hk]
      clear hcd h
      refine runS_x (I := inf) (J := jnf) ⟨false, false, [], 0, 0⟩ 9999 rfl (by repeat (first | exact obs_nil | refine obs_draw (by kernel_rfl) ?_ | refine obs_same ?_ | refine obs_and ?_ | refine obs_by (by (simp [inB, blS] <;> omega)) ?_)) ?_
      refine runS_cond rfl (fun h => ?_) (fun h => ?_)
      · have h250 : s.length > 250 := by
          have : decide ((s.length : Int) > 250) = true := h
          simp at this
          omega
        refine runS_x (I := inf) (J := jnf) ⟨false, false, [], 0, 0⟩ 9999 rfl (by repeat (first | exact obs_nil | refine obs_draw (by kernel_rfl) ?_ | refine obs_same ?_ | refine obs_and ?_ | refine obs_by (by (simp [inB] <;> omega)) ?_)) ?_
        refine runS_ret (I := inf) 0 rfl (Nat.le_refl _) rfl .nil rfl ⟨?_, rfl⟩
        rw [hrv, if_pos h250]
        rfl
      · have h250 : ¬ s.length > 250 := by
          have : decide ((s.length : Int) > 250) = false := h
          simp at this
          omega
        rw [if_neg h250] at hrv
        refine runS_x (I := inf) (J := jnf) ⟨false, false, [], 0, 0⟩ 9999 rfl (by repeat (first | exact obs_nil | refine obs_draw (by kernel_rfl) ?_ | refine obs_same ?_ | refine obs_and ?_ | refine obs_by (by (simp [inB] <;> omega)) ?_)) ?_
        refine runS_while (fun (i : Nat) τ ar => (τ 1 = .ptr 0 0 0 ∧ τ 3 = iv i) ∧ ar = [.box 29 [iv kd, sv s, iv a]] ∧ i ≤ s.length ∧ ∀ j, j < i → cBy kd (byt s j) = true) (fun i => s.length - i) 0 ⟨⟨rfl, rfl⟩, rfl, Nat.zero_le _, fun j hj => by omega⟩ ?_
        rintro i τ' ar' ⟨⟨g1, g3⟩, rfl, hi, hall⟩ ih
        refine runS_says 1 (by exact g1) (Says.refl _) ?_; refine runS_says 3 (by exact g3) (Says.refl _) ?_
        refine runS_x (I := inf) (J := jnf) ⟨false, false, [], 0, 0⟩ 9999 rfl (by repeat (first | exact obs_nil | refine obs_draw (by kernel_rfl) ?_ | refine obs_same ?_ | refine obs_and ?_ | refine obs_by (by (simp [inB, blS] <;> omega)) ?_)) ?_
        refine runS_cond rfl (fun h1 => ?_) (fun h1 => ?_)
        · have hil : i < s.length := by
            have : decide ((i : Int) < (s.length : Int)) = true := h1
            simp at this
            omega
          have hw1 : IntKind.wrap .i64 ((i : Int) + 1) = ((i + 1 : Nat) : Int) := by rw [w64 (by omega) (by omega)]; rfl
          refine runS_x (I := inf) (J := jnf) ⟨false, false, [], 0, 0⟩ 9999 rfl (by repeat (first | exact obs_nil | refine obs_draw (by kernel_rfl) ?_ | refine obs_same ?_ | refine obs_and ?_ | refine obs_by (by (simp [inB, blS, hil] <;> omega)) ?_)) ?_
          have hcd : (if (if decide (((byt s i : Nat) : Int) < 32) = true then true else decide (((byt s i : Nat) : Int) > 126)) = true then true else (if (if (kd == 4) = true then (!(((byt s i : Nat) : Int) == 48)) else false) = true then (!(((byt s i : Nat) : Int) == 49)) else false)) = !cBy kd (byt s i) := by
            unfold cBy
            generalize byt s i = c
            rw [Bool.eq_iff_iff]
            by_cases h1 : c < 32 <;> by_cases h2 : c > 126 <;> by_cases h3 : kd = 4 <;> by_cases h4 : c = 48 <;> by_cases h5 : c = 49 <;> simp [h1, h2, h3, h4, h5] <;> omega
          refine runS_cond rfl (fun h2 => ?_) (fun h2 => ?_)
          · have hno : cBy kd (byt s i) = false := by simpa using hcd.symm.trans h2
            refine runS_x (I := inf) (J := jnf) ⟨false, false, [], 0, 0⟩ 9999 rfl (by repeat (first | exact obs_nil | refine obs_draw (by kernel_rfl) ?_ | refine obs_same ?_ | refine obs_and ?_ | refine obs_by (by (simp [inB] <;> omega)) ?_)) ?_
            refine runS_ret (I := inf) 0 rfl (Nat.le_refl _) rfl .nil rfl ⟨?_, rfl⟩
            rw [hrv]
            refine congrArg (fun x => Out.ret (bv x)) ?_
            symm
            rw [← Bool.not_eq_true, List.all_eq_true]
            intro hh
            have := hh i (List.mem_range.2 hil)
            rw [hno] at this
            cases this
          · have hyes : cBy kd (byt s i) = true := by simpa using hcd.symm.trans h2
            refine runS_x (I := inf) (J := jnf) ⟨false, false, [], 0, 0⟩ 9999 rfl (by repeat (first | exact obs_nil | refine obs_draw (by kernel_rfl) ?_ | refine obs_same ?_ | refine obs_and ?_ | refine obs_by (by (simp [inB] <;> omega)) ?_)) ?_
            refine ih (i + 1) _ _ (by omega) ⟨⟨rfl, congrArg iv hw1⟩, rfl, hil, fun j hj => ?_⟩
            by_cases hji : j = i
            · subst hji; exact hyes
            · exact hall j (by omega)
        · have hie : i = s.length := by
            have : decide ((i : Int) < (s.length : Int)) = false := h1
            simp at this
            omega
          subst hie
          refine runS_x (I := inf) (J := jnf) ⟨false, false, [], 0, 0⟩ 9999 rfl (by repeat (first | exact obs_nil | refine obs_draw (by kernel_rfl) ?_ | refine obs_same ?_ | refine obs_and ?_ | refine obs_by (by (simp [inB] <;> omega)) ?_)) ?_
          refine runS_ret (I := inf) 0 rfl (Nat.le_refl _) rfl .nil rfl ⟨?_, rfl⟩
          rw [hrv]
          refine congrArg (fun x => Out.ret (bv x)) ?_
          symm
          rw [List.all_eq_true]
          exact fun j hj => hall j (List.mem_range.1 hj)
    · have hk := of_decide_eq_false (hcd.symm.trans h)
      have hrv : refV kd s a = (decide ((scanF s).2.2 = 0) && decide ((scanF s).1.length = 1) && decide ((((scanF s).1.getD 0 tk0).kind : Int) = kd) && decide (((scanF s).1.getD 0 tk0).text = s) && (decide (kd = 1) || decide (kd = 2) || decide (kd = 5))) := by
        unfold refV
        rw [if_neg hc, if_neg hk]
      clear hcd h
      have hlen := scanF_len s
      refine runS_x (I := inf) (J := jnf) ⟨false, false, [], 0, 0⟩ 9999 rfl (by repeat (first | exact obs_nil | refine obs_draw (by kernel_rfl) ?_ | refine obs_same ?_ | refine obs_and ?_ | refine obs_by (by (simp [inB] <;> omega)) ?_)) ?_
      refine runS_call rfl rfl rfl rfl rfl rfl rfl (r_scan s (by omega)) ?_
      refine runS_x (I := inf) (J := jnf) ⟨false, false, [], 0, 0⟩ 9999 rfl (by repeat (first | exact obs_nil | refine obs_draw (by kernel_rfl) ?_ | refine obs_same ?_ | refine obs_and ?_ | refine obs_by (by (simp [inB, hlen] <;> omega)) ?_)) ?_
      refine runS_ret (I := inf) 0 rfl (Nat.le_refl _) rfl .nil rfl ⟨?_, rfl⟩
      rw [hrv]
      refine congrArg (fun x => Out.ret (bv x)) ?_
      rw [bs_beq]
      show (if (if (if (if (((scanF s).2.2 : Int) == 0) = true then (((scanF s).1.length : Int) == 1) else false) = true then (((((scanF s).1.getD 0 tk0).kind : Nat) : Int) == kd) else false) = true then decide (((scanF s).1.getD 0 tk0).text = s) else false) = true then (if (if (kd == 1) = true then true else (kd == 2)) = true then true else (kd == 5)) else false) = _
      generalize (scanF s).1.getD 0 tk0 = x
      generalize (scanF s).1.length = m
      generalize (scanF s).2.2 = e
      have h1 : ((e : Int) == 0) = decide (e = 0) := by rw [Bool.eq_iff_iff]; simp
      have h2 : ((m : Int) == 1) = decide (m = 1) := by rw [Bool.eq_iff_iff]; simp; omega
      have h3 : (((x.kind : Nat) : Int) == kd) = decide ((x.kind : Int) = kd) := by rw [Bool.eq_iff_iff]; simp
      have h4 : ∀ v : Int, (kd == v) = decide (kd = v) := fun v => by rw [Bool.eq_iff_iff]; simp
      rw [h1, h2, h3, h4, h4, h4]
      cases decide (e = 0) <;> cases decide (m = 1) <;> cases decide ((x.kind : Int) = kd) <;> cases decide (x.text = s) <;> cases decide (kd = 1) <;> cases decide (kd = 2) <;> cases decide (kd = 5) <;> rfl
theorem names_eq (s : Str) (hs : s.length ≤ 300) : validT ⟨1, s, 0⟩ = refV 1 s 0 := by
  have h1 : wrS ⟨1, s, 0⟩ = s := rfl
  have h2 : refV 1 s 0 = (decide ((scanF s).2.2 = 0) && decide ((scanF s).1.length = 1) && decide ((((scanF s).1.getD 0 tk0).kind : Int) = 1) && decide (((scanF s).1.getD 0 tk0).text = s) && (decide ((1 : Int) = 1) || decide ((1 : Int) = 2) || decide ((1 : Int) = 5))) := by
    unfold refV
    rw [if_neg (by omega), if_neg (by omega)]
  rw [h2]
  unfold validT readAs
  rw [h1]
  rw [show (decide ((1 : Int) = 1) || decide ((1 : Int) = 2) || decide ((1 : Int) = 5)) = true from by decide, Bool.and_true, Bool.and_assoc, Bool.and_assoc]
  congr 1
  unfold sameL
  by_cases hl : (scanF s).1.length = 1
  · rw [hl]
    show (decide (1 = 1) && (sameT false ((scanF s).1.getD 0 tk0) ⟨1, s, 0⟩ && true)) = _
    unfold sameT
    rw [Bool.eq_iff_iff]
    simp
    omega
  · rw [decide_eq_false (by show ¬ (scanF s).1.length = [(⟨1, s, 0⟩ : Tk)].length; exact hl), decide_eq_false hl]
    rfl
theorem k_nameV (s : Str) (hs : s.length ≤ 300) : CallT Tryz.prog 8 [sv s] [] (fun o A => o = .ret (bv (refV 1 s 0)) ∧ A = []) := by
  have h := k_valid ⟨1, s, 0⟩ (k_written ⟨1, s, 0⟩ (by dsimp only; omega) (by show (1 : Nat) ≠ 3; decide)) (by show s.length ≤ 24000; omega)
  rw [names_eq s hs] at h
  refine callS_body (n := 6) rfl rfl fun w ρ X => ?_
  refine runS_x (I := inf) (J := jnf) ⟨false, false, [], 0, 0⟩ 9999 rfl (by repeat (first | exact obs_nil | refine obs_draw (by kernel_rfl) ?_ | refine obs_same ?_ | refine obs_and ?_ | refine obs_by (by (simp [inB] <;> omega)) ?_)) ?_
  refine runS_call rfl rfl rfl rfl rfl rfl rfl h ?_
  refine runS_x (I := inf) (J := jnf) ⟨false, false, [], 0, 0⟩ 9999 rfl (by repeat (first | exact obs_nil | refine obs_draw (by kernel_rfl) ?_ | refine obs_same ?_ | refine obs_and ?_ | refine obs_by (by (simp [inB] <;> omega)) ?_)) ?_
  refine runS_ret (I := inf) 0 rfl (Nat.le_refl _) rfl .nil rfl ⟨?_, rfl⟩
  rfl
theorem r_nameV (s : Str) (hs : s.length ≤ 300) : CallT Tryz.prog 9 [sv s] [] (fun o A => o = .ret (bv (refV 1 s 0)) ∧ A = []) := by
  refine callS_body (n := 6) rfl rfl fun w ρ X => ?_
  refine runS_x (I := inf) (J := jnf) ⟨false, false, [], 0, 0⟩ 9999 rfl (by repeat (first | exact obs_nil | refine obs_draw (by kernel_rfl) ?_ | refine obs_same ?_ | refine obs_and ?_ | refine obs_by (by (simp [inB] <;> omega)) ?_)) ?_
  refine runS_call rfl rfl rfl rfl rfl rfl rfl (r_valid 1 s 0 (by omega)) ?_
  refine runS_x (I := inf) (J := jnf) ⟨false, false, [], 0, 0⟩ 9999 rfl (by repeat (first | exact obs_nil | refine obs_draw (by kernel_rfl) ?_ | refine obs_same ?_ | refine obs_and ?_ | refine obs_by (by (simp [inB] <;> omega)) ?_)) ?_
  refine runS_ret (I := inf) 0 rfl (Nat.le_refl _) rfl .nil rfl ⟨?_, rfl⟩
  rfl
theorem k_places (s : Str) (at_ : Int) : CallT Tryz.prog 3 [sv s, iv at_] [] (fun o A => o = .ret (bv true) ∧ A = []) := by
  refine callS_body (n := 57) rfl rfl fun w ρ X => ?_
  refine runS_x (I := inf) (J := jnf) ⟨false, false, [], 0, 0⟩ 9999 rfl (by repeat (first | exact obs_nil | refine obs_draw (by kernel_rfl) ?_ | refine obs_same ?_ | refine obs_and ?_ | refine obs_by (by (simp [inB, blS] <;> omega)) ?_)) ?_
  refine runS_cond rfl (fun h => ?_) (fun h => ?_)
  · refine runS_x (I := inf) (J := jnf) ⟨false, false, [], 0, 0⟩ 9999 rfl (by repeat (first | exact obs_nil | refine obs_draw (by kernel_rfl) ?_ | refine obs_same ?_ | refine obs_and ?_ | refine obs_by (by (simp [inB] <;> omega)) ?_)) ?_
    refine runS_call rfl rfl rfl rfl rfl rfl rfl k_awake ?_
    refine runS_x (I := inf) (J := jnf) ⟨false, false, [], 0, 0⟩ 9999 rfl (by repeat (first | exact obs_nil | refine obs_draw (by kernel_rfl) ?_ | refine obs_same ?_ | refine obs_and ?_ | refine obs_by (by (simp [inB] <;> omega)) ?_)) ?_
    refine runS_ret (I := inf) 0 rfl (Nat.le_refl _) rfl .nil rfl ⟨?_, rfl⟩
    rfl
  · have hb : s.length ≤ 20010 := by
      have : decide ((s.length : Int) > 20010) = false := h
      simp at this
      omega
    refine runS_x (I := inf) (J := jnf) ⟨false, false, [], 0, 0⟩ 9999 rfl (by repeat (first | exact obs_nil | refine obs_draw (by kernel_rfl) ?_ | refine obs_same ?_ | refine obs_and ?_ | refine obs_by (by (simp [inB] <;> omega)) ?_)) ?_
    refine runS_call rfl rfl rfl rfl rfl rfl rfl (k_place s at_ (by omega)) ?_
    refine runS_x (I := inf) (J := jnf) ⟨false, false, [], 0, 0⟩ 9999 rfl (by repeat (first | exact obs_nil | refine obs_draw (by kernel_rfl) ?_ | refine obs_same ?_ | refine obs_and ?_ | refine obs_by (by (simp [inB] <;> omega)) ?_)) ?_
    refine runS_call rfl rfl rfl rfl rfl rfl rfl (r_place s at_ (by omega)) ?_
    refine runS_x (I := inf) (J := jnf) ⟨false, false, [], 0, 0⟩ 9999 rfl (by repeat (first | exact obs_nil | refine obs_draw (by kernel_rfl) ?_ | refine obs_same ?_ | refine obs_and ?_ | refine obs_by (by (simp [inB, blS] <;> omega)) ?_)) ?_
    refine runS_callU rfl rfl (by first | exact .v rfl rfl rfl rfl | exact .o rfl rfl rfl rfl) rfl rfl (by repeat (first | exact .nil | refine .cons (.n rfl) ?_ | refine .cons .o ?_ | refine .cons gok_and ?_)) rfl rfl rfl rfl rfl (fun h => k_nameV s (by simp [condOf, blS] at h; omega)) ?_
    refine runS_x (I := inf) (J := jnf) ⟨false, false, [], 0, 0⟩ 9999 rfl (by repeat (first | exact obs_nil | refine obs_draw (by kernel_rfl) ?_ | refine obs_same ?_ | refine obs_and ?_ | refine obs_by (by (simp [inB, blS] <;> omega)) ?_)) ?_
    refine runS_callU rfl rfl (by first | exact .v rfl rfl rfl rfl | exact .o rfl rfl rfl rfl) rfl rfl (by repeat (first | exact .nil | refine .cons (.n rfl) ?_ | refine .cons .o ?_ | refine .cons gok_and ?_)) rfl rfl rfl rfl rfl (fun h => r_nameV s (by simp [condOf, blS] at h; omega)) ?_
    refine runS_x (I := inf) (J := jnf) ⟨false, false, [], 0, 0⟩ 9999 rfl (by repeat (first | exact obs_nil | refine obs_draw (by kernel_rfl) ?_ | refine obs_same ?_ | refine obs_and ?_ | refine obs_by (by (simp [inB, blS] <;> omega)) ?_)) ?_
    refine runS_callU rfl rfl (by first | exact .v rfl rfl rfl rfl | exact .o rfl rfl rfl rfl) rfl rfl (by repeat (first | exact .nil | refine .cons (.n rfl) ?_ | refine .cons .o ?_ | refine .cons gok_and ?_)) rfl rfl rfl rfl rfl (fun _ => k_awake) ?_
    refine runS_x (I := inf) (J := jnf) ⟨false, false, [], 0, 0⟩ 9999 rfl (by repeat (first | exact obs_nil | refine obs_draw (by kernel_rfl) ?_ | refine obs_same ?_ | refine obs_and ?_ | refine obs_by (by (simp [inB] <;> omega)) ?_)) ?_
    refine runS_ret (I := inf) 0 rfl (Nat.le_refl _) rfl .nil rfl ⟨?_, rfl⟩
    refine congrArg (fun x => Out.ret (bv x)) ?_
    simp
end Go.Iron.Tryz
