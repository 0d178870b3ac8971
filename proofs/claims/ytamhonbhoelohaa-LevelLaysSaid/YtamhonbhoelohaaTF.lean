/- The level package's functions (seat Ytamhonbhoelohaa): names and types. -/
import Derived.Test.YtamhonbhoelohaaTC
import Derived.Test.YtamhonbhoelohaaTE
namespace Go.Iron.Try
open Go.Proofs

theorem level_within (n a b : Int) : CallT Try.prog 117 [iv n, iv a, iv b] [] (fun o A => o = .ret (bv (decide (a ≤ n) && decide (n ≤ b))) ∧ A = []) := by
  refine callS_body (n := 15) rfl rfl fun w ρ X => ?_
  refine runS_x (I := inf) (J := jnf) ⟨false, false, [], 0, 0⟩ 9999 rfl (by repeat (first | exact obs_nil | refine obs_draw (by kernel_rfl) ?_ | refine obs_same ?_ | refine obs_and ?_ | refine obs_by (by (simp [inB] <;> omega)) ?_)) ?_
  refine runS_ret (I := inf) 0 rfl (Nat.le_refl _) rfl .nil rfl ⟨?_, rfl⟩
  show Out.ret (bv (if decide (n ≥ a) = true then decide (n ≤ b) else false)) = _
  by_cases h : a ≤ n <;> simp [h]
theorem digit_within (n a b : Int) : CallT Try.prog 188 [iv n, iv a, iv b] [] (fun o A => o = .ret (bv (decide (a ≤ n) && decide (n ≤ b))) ∧ A = []) := by
  refine callS_body (n := 15) rfl rfl fun w ρ X => ?_
  refine runS_x (I := inf) (J := jnf) ⟨false, false, [], 0, 0⟩ 9999 rfl (by repeat (first | exact obs_nil | refine obs_draw (by kernel_rfl) ?_ | refine obs_same ?_ | refine obs_and ?_ | refine obs_by (by (simp [inB] <;> omega)) ?_)) ?_
  refine runS_ret (I := inf) 0 rfl (Nat.le_refl _) rfl .nil rfl ⟨?_, rfl⟩
  show Out.ret (bv (if decide (n ≥ a) = true then decide (n ≤ b) else false)) = _
  by_cases h : a ≤ n <;> simp [h]
theorem ref_digit (c : Int) : CallT Try.prog 190 [.val (.int .u8 c)] [] (fun o A => o = .ret (bv (decide (48 ≤ c) && decide (c ≤ 57))) ∧ A = []) := by
  refine callS_body (n := 9) rfl rfl fun w ρ X => ?_
  refine runS_x (I := inf) (J := jnf) ⟨false, false, [], 0, 0⟩ 9999 rfl (by repeat (first | exact obs_nil | refine obs_draw (by kernel_rfl) ?_ | refine obs_same ?_ | refine obs_and ?_ | refine obs_by (by (simp [inB] <;> omega)) ?_)) ?_
  refine runS_ret (I := inf) 0 rfl (Nat.le_refl _) rfl .nil rfl ⟨?_, rfl⟩
  show Out.ret (bv (if decide (c ≥ 48) = true then decide (c ≤ 57) else false)) = _
  by_cases h : 48 ≤ c <;> simp [h]

/-- A byte of a text, as a number. -/
def byt (s : Str) (i : Nat) : Int := (s.getD i 0).toNat
/-- A byte that may stand at a place of a name. -/
def nameC (i : Nat) (c : Int) : Bool := (decide (65 ≤ c) && decide (c ≤ 90) || c == 36 || c == 35 || c == 64) || (!(i == 0) && (c == 95 || decide (48 ≤ c) && decide (c ≤ 57)))
def namePre (s : Str) (k : Nat) : Bool := (List.range k).all fun i => nameC i (byt s i)
theorem namePre_succ (s : Str) (k : Nat) : namePre s (k + 1) = (namePre s k && nameC k (byt s k)) := by simp [namePre, List.range_succ]
theorem namePre_false {s : Str} {k : Nat} : ∀ {m : Nat}, k ≤ m → namePre s k = false → namePre s m = false
  | 0, h, e => by have : k = 0 := by omega
                  subst this; exact e
  | m + 1, h, e => by
    by_cases hk : k = m + 1
    · subst hk; exact e
    · rw [namePre_succ, namePre_false (by omega) e]; rfl
def nameB (s : Str) : Bool := namePre s s.length && decide (1 ≤ s.length) && decide (s.length ≤ 31)

theorem level_named (s : Str) (hb : s.length < 9223372036854775807) : CallT Try.prog 131 [sv s] [] (fun o A => o = .ret (bv (nameB s)) ∧ A = []) := by
  refine callS_body (n := 55) rfl rfl fun w ρ X => ?_
  refine runS_x (I := inf) (J := jnf) ⟨false, false, [], 0, 0⟩ 9999 rfl (by repeat (first | exact obs_nil | refine obs_draw (by kernel_rfl) ?_ | refine obs_same ?_ | refine obs_and ?_ | refine obs_by (by (simp [inB] <;> omega)) ?_)) ?_
  refine runS_while (fun (i : Nat) τ ar => (τ 0 = sv s ∧ τ 7 = iv s.length ∧ τ 8 = iv i) ∧ ar = [] ∧ i ≤ s.length ∧ namePre s i = true) (fun i => s.length - i) 0 ⟨⟨rfl, rfl, rfl⟩, rfl, Nat.zero_le _, rfl⟩ ?_
  rintro i τ' ar' ⟨⟨h0, h7, h8⟩, rfl, hi, hp⟩ ih
  refine runS_says 0 (by exact h0) (Says.refl _) ?_; refine runS_says 7 (by exact h7) (Says.refl _) ?_; refine runS_says 8 (by exact h8) (Says.refl _) ?_
  refine runS_x (I := inf) (J := jnf) ⟨false, false, [], 0, 0⟩ 9999 rfl (by repeat (first | exact obs_nil | refine obs_draw (by kernel_rfl) ?_ | refine obs_same ?_ | refine obs_and ?_ | refine obs_by (by (simp [inB] <;> omega)) ?_)) ?_
  refine runS_cond rfl (fun hlt => ?_) (fun hlt => ?_)
  · have hlt' : i < s.length := by simpa using hlt
    have hbs : (((bl (bs s)).getD ((i : Int)).toNat 0).toNat : Int) = byt s i := rfl
    refine runS_x (I := inf) (J := jnf) ⟨false, false, [], 0, 0⟩ 9999 rfl (by repeat (first | exact obs_nil | refine obs_draw (by kernel_rfl) ?_ | refine obs_same ?_ | refine obs_and ?_ | refine obs_by (by (simp [inB, hlt'] <;> omega)) ?_)) ?_
    refine runS_cond rfl (fun hne => ?_) (fun hne => ?_)
    · refine runS_x (I := inf) (J := jnf) ⟨false, false, [], 0, 0⟩ 9999 rfl (by repeat (first | exact obs_nil | refine obs_draw (by kernel_rfl) ?_ | refine obs_same ?_ | refine obs_and ?_ | refine obs_by (by (simp [inB] <;> omega)) ?_)) ?_
      refine runS_ret (I := inf) 0 rfl (Nat.le_refl _) rfl .nil rfl ⟨?_, rfl⟩
      have hc : nameC i (byt s i) = false := by
        rw [hbs] at hne
        revert hne; unfold nameC; generalize byt s i = c; intro hne
        simp at hne ⊢; omega
      have : nameB s = false := by rw [nameB, namePre_false (m := s.length) (k := i + 1) (by omega) (by rw [namePre_succ, hc, Bool.and_false])]; rfl
      rw [this]
      rfl
    · refine runS_x (I := inf) (J := jnf) ⟨false, false, [], 0, 0⟩ 9999 rfl (by repeat (first | exact obs_nil | refine obs_draw (by kernel_rfl) ?_ | refine obs_same ?_ | refine obs_and ?_ | refine obs_by (by (simp [inB] <;> omega)) ?_)) ?_
      have hc : nameC i (byt s i) = true := by
        rw [hbs] at hne
        revert hne; unfold nameC; generalize byt s i = c; intro hne
        simp at hne ⊢; omega
      refine ih (i + 1) _ _ (by omega) ⟨⟨rfl, rfl, ?_⟩, rfl, by omega, by rw [namePre_succ, hp, hc]; rfl⟩
      show iv (IntKind.wrap .i64 ((i : Int) + 1)) = _
      rw [w64 (by omega) (by omega)]; rfl
  · refine runS_x (I := inf) (J := jnf) ⟨false, false, [], 0, 0⟩ 9999 rfl (by repeat (first | exact obs_nil | refine obs_draw (by kernel_rfl) ?_ | refine obs_same ?_ | refine obs_and ?_ | refine obs_by (by (simp [inB] <;> omega)) ?_)) ?_
    refine runS_call rfl rfl rfl rfl rfl rfl rfl (level_within s.length 1 31) ?_
    refine runS_x (I := inf) (J := jnf) ⟨false, false, [], 0, 0⟩ 9999 rfl (by repeat (first | exact obs_nil | refine obs_draw (by kernel_rfl) ?_ | refine obs_same ?_ | refine obs_and ?_ | refine obs_by (by (simp [inB] <;> omega)) ?_)) ?_
    refine runS_ret (I := inf) 0 rfl (Nat.le_refl _) rfl .nil rfl ⟨?_, rfl⟩
    have hi' : i = s.length := by simp at hlt; omega
    subst hi'
    show Out.ret (bv _) = _
    rw [nameB, hp, Bool.true_and]
    refine congrArg (fun b => Out.ret (bv b)) ?_
    rw [Bool.eq_iff_iff]; simp; omega
theorem ref_name (s : Str) (hb : s.length < 9223372036854775807) : CallT Try.prog 171 [sv s] [] (fun o A => o = .ret (bv (nameB s)) ∧ A = []) := by
  refine callS_body (n := 55) rfl rfl fun w ρ X => ?_
  refine runS_x (I := inf) (J := jnf) ⟨false, false, [], 0, 0⟩ 9999 rfl (by repeat (first | exact obs_nil | refine obs_draw (by kernel_rfl) ?_ | refine obs_same ?_ | refine obs_and ?_ | refine obs_by (by (simp [inB] <;> omega)) ?_)) ?_
  refine runS_while (fun (i : Nat) τ ar => (τ 0 = sv s ∧ τ 3 = iv i) ∧ ar = [] ∧ i ≤ s.length ∧ namePre s i = true) (fun i => s.length - i) 0 ⟨⟨rfl, rfl⟩, rfl, Nat.zero_le _, rfl⟩ ?_
  rintro i τ' ar' ⟨⟨h0, h3⟩, rfl, hi, hp⟩ ih
  refine runS_says 0 (by exact h0) (Says.refl _) ?_; refine runS_says 3 (by exact h3) (Says.refl _) ?_
  refine runS_x (I := inf) (J := jnf) ⟨false, false, [], 0, 0⟩ 9999 rfl (by repeat (first | exact obs_nil | refine obs_draw (by kernel_rfl) ?_ | refine obs_same ?_ | refine obs_and ?_ | refine obs_by (by (simp [inB] <;> omega)) ?_)) ?_
  refine runS_cond rfl (fun hlt => ?_) (fun hlt => ?_)
  · have hlt' : i < s.length := by simpa using hlt
    have hbs : (((bl (bs s)).getD ((i : Int)).toNat 0).toNat : Int) = byt s i := rfl
    refine runS_x (I := inf) (J := jnf) ⟨false, false, [], 0, 0⟩ 9999 rfl (by repeat (first | exact obs_nil | refine obs_draw (by kernel_rfl) ?_ | refine obs_same ?_ | refine obs_and ?_ | refine obs_by (by (simp [inB, hlt'] <;> omega)) ?_)) ?_
    refine runS_callU rfl rfl (by first | exact .v rfl rfl rfl rfl | exact .o rfl rfl rfl rfl) rfl rfl (by repeat (first | exact .nil | refine .cons (.n rfl) ?_ | refine .cons .o ?_ | refine .cons gok_and ?_)) rfl rfl rfl rfl rfl (fun _ => (ref_digit (((bl (bs s)).getD ((i : Int)).toNat 0).toNat : Int))) ?_
    refine runS_x (I := inf) (J := jnf) ⟨false, false, [], 0, 0⟩ 9999 rfl (by repeat (first | exact obs_nil | refine obs_draw (by kernel_rfl) ?_ | refine obs_same ?_ | refine obs_and ?_ | refine obs_by (by (simp [inB] <;> omega)) ?_)) ?_
    refine runS_cond rfl (fun hne => ?_) (fun hne => ?_)
    · refine runS_x (I := inf) (J := jnf) ⟨false, false, [], 0, 0⟩ 9999 rfl (by repeat (first | exact obs_nil | refine obs_draw (by kernel_rfl) ?_ | refine obs_same ?_ | refine obs_and ?_ | refine obs_by (by (simp [inB] <;> omega)) ?_)) ?_
      refine runS_ret (I := inf) 0 rfl (Nat.le_refl _) rfl .nil rfl ⟨?_, rfl⟩
      have hc : nameC i (byt s i) = false := by
        rw [hbs] at hne
        revert hne; unfold nameC; generalize byt s i = c; intro hne
        simp at hne ⊢; omega
      have : nameB s = false := by rw [nameB, namePre_false (m := s.length) (k := i + 1) (by omega) (by rw [namePre_succ, hc, Bool.and_false])]; rfl
      rw [this]
      rfl
    · refine runS_x (I := inf) (J := jnf) ⟨false, false, [], 0, 0⟩ 9999 rfl (by repeat (first | exact obs_nil | refine obs_draw (by kernel_rfl) ?_ | refine obs_same ?_ | refine obs_and ?_ | refine obs_by (by (simp [inB] <;> omega)) ?_)) ?_
      have hc : nameC i (byt s i) = true := by
        rw [hbs] at hne
        revert hne; unfold nameC; generalize byt s i = c; intro hne
        simp at hne ⊢; omega
      refine ih (i + 1) _ _ (by omega) ⟨⟨rfl, ?_⟩, rfl, by omega, by rw [namePre_succ, hp, hc]; rfl⟩
      show iv (IntKind.wrap .i64 ((i : Int) + 1)) = _
      rw [w64 (by omega) (by omega)]; rfl
  · refine runS_x (I := inf) (J := jnf) ⟨false, false, [], 0, 0⟩ 9999 rfl (by repeat (first | exact obs_nil | refine obs_draw (by kernel_rfl) ?_ | refine obs_same ?_ | refine obs_and ?_ | refine obs_by (by (simp [inB] <;> omega)) ?_)) ?_
    refine runS_ret (I := inf) 0 rfl (Nat.le_refl _) rfl .nil rfl ⟨?_, rfl⟩
    have hi' : i = s.length := by simp at hlt; omega
    subst hi'
    show Out.ret (bv _) = _
    rw [nameB, hp, Bool.true_and]
    refine congrArg (fun b => Out.ret (bv b)) ?_
    show (if (!((bs s).toList == (bs []).toList)) = true then decide (((bl (bs s)).length : Int) ≤ 31) else false) = _
    rw [bs_toList, bs_toList, bl_bs]
    cases s with
    | nil => rfl
    | cons c s => rw [Bool.eq_iff_iff]; simp; omega

theorem bytR_bs (s : Str) (i : Nat) : bytR (bs s) i = byt s i := rfl
theorem name_small {s : Str} (h : namePre s s.length = true) {i : Nat} (hi : i < s.length) : ¬ (97 ≤ byt s i ∧ byt s i ≤ 122) := by
  have : nameC i (byt s i) = true := by
    rw [namePre, List.all_eq_true] at h
    exact h i (List.mem_range.2 hi)
  revert this; unfold nameC; generalize byt s i = c; intro h
  simp at h; omega
theorem textR_self (s : Str) : textR s.length (bytR (bs s)) = bs s := by
  unfold textR bs
  congr 2
  apply List.ext_getElem
  · simp
  · intro i h1 h2
    have : i < s.length := by simpa using h1
    simp [bytR, bl', List.getD, this]
theorem ref_great (s : Str) (hn : nameB s = true) : CallT Try.prog 172 [sv s] [] (fun o A => o = .ret (sv s) ∧ A = []) := by
  have hn2 := hn
  simp only [nameB, Bool.and_eq_true, decide_eq_true_eq] at hn2
  obtain ⟨⟨hp, h1⟩, h2⟩ := hn2
  have hm : Nat.ble (bl' (bs s)).length maxLen = true := by
    show Nat.ble s.length maxLen = true
    rw [Nat.ble_eq]; unfold maxLen; omega
  refine callS_body (n := 33) rfl rfl fun w ρ X => ?_
  refine runS_x (I := inf) (J := jnf) ⟨false, false, [], 0, 0⟩ 9999 rfl (by repeat (first | exact obs_nil | refine obs_draw (by kernel_rfl) ?_ | refine obs_same ?_ | refine obs_and ?_ | refine obs_by (by first | exact fun _ => hm | (simp [inB] <;> omega)) ?_)) ?_
  refine runS_while (fun (i : Nat) τ ar => (τ 3 = .row 0 0 ∧ τ 4 = iv i) ∧ ar = [.byt s.length (bytR (bs s))] ∧ i ≤ s.length) (fun i => s.length - i) 0 ⟨⟨rfl, rfl⟩, rfl, Nat.zero_le _⟩ ?_
  rintro i τ' ar' ⟨⟨h3, h4⟩, rfl, hi⟩ ih
  refine runS_says 3 (by exact h3) (Says.refl _) ?_; refine runS_says 4 (by exact h4) (Says.refl _) ?_
  refine runS_x (I := inf) (J := jnf) ⟨false, false, [], 0, 0⟩ 9999 rfl (by repeat (first | exact obs_nil | refine obs_draw (by kernel_rfl) ?_ | refine obs_same ?_ | refine obs_and ?_ | refine obs_by (by (simp [inB] <;> omega)) ?_)) ?_
  refine runS_cond rfl (fun hlt => ?_) (fun hlt => ?_)
  · have hlt' : i < s.length := by simpa using hlt
    refine runS_x (I := inf) (J := jnf) ⟨false, false, [], 0, 0⟩ 9999 rfl (by repeat (first | exact obs_nil | refine obs_draw (by kernel_rfl) ?_ | refine obs_same ?_ | refine obs_and ?_ | refine obs_by (by (simp [inB, hlt'] <;> omega)) ?_)) ?_
    refine runS_cond rfl (fun hne => ?_) (fun hne => ?_)
    · exfalso
      have hbs : bytR (bs s) ((i : Int).toNat) = byt s i := rfl
      rw [hbs] at hne
      refine name_small hp hlt' ?_
      simp at hne; omega
    · refine runS_x (I := inf) (J := jnf) ⟨false, false, [], 0, 0⟩ 9999 rfl (by repeat (first | exact obs_nil | refine obs_draw (by kernel_rfl) ?_ | refine obs_same ?_ | refine obs_and ?_ | refine obs_by (by (simp [inB] <;> omega)) ?_)) ?_
      refine ih (i + 1) _ _ (by omega) ⟨⟨rfl, ?_⟩, rfl, by omega⟩
      show iv (IntKind.wrap .i64 ((i : Int) + 1)) = _
      rw [w64 (by omega) (by omega)]; rfl
  · refine runS_x (I := inf) (J := jnf) ⟨false, false, [], 0, 0⟩ 9999 rfl (by repeat (first | exact obs_nil | refine obs_draw (by kernel_rfl) ?_ | refine obs_same ?_ | refine obs_and ?_ | refine obs_by (by (simp [inB] <;> omega)) ?_)) ?_
    refine runS_drop 0 (Nat.zero_le _) rfl (by repeat (first | exact .nil | refine .row (fun j hj => rfl) ?_ | refine .box rfl ?_ | refine .fam (fun k j hk hj => rfl) ?_ | refine .loop (scrub_under _ _) ?_ | refine .dfr ?_ | refine .gone ?_ | refine .map (fun p hp => by (obtain ⟨k, _, rfl⟩ := List.mem_map.1 hp; rfl)) ?_)) rfl rfl rfl (by repeat (first | exact .nil | refine .cons rfl rfl rfl (scrub_under _ _) ?_)) ?_
    refine runS_ret (I := inf) 0 rfl (Nat.le_refl _) rfl .nil rfl ⟨?_, rfl⟩
    rw [textR_self]
    rfl
theorem ref_capital (s : Str) (hb : s.length < 9223372036854775807) : CallT Try.prog 137 [sv s] [] (fun o A => o = .ret (bv (nameB s)) ∧ A = []) := by
  refine callS_body (n := 11) rfl rfl fun w ρ X => ?_
  refine runS_x (I := inf) (J := jnf) ⟨false, false, [], 0, 0⟩ 9999 rfl (by repeat (first | exact obs_nil | refine obs_draw (by kernel_rfl) ?_ | refine obs_same ?_ | refine obs_and ?_ | refine obs_by (by (simp [inB] <;> omega)) ?_)) ?_
  refine runS_call rfl rfl rfl rfl rfl rfl rfl (ref_name s hb) ?_
  refine runS_x (I := inf) (J := jnf) ⟨false, false, [], 0, 0⟩ 9999 rfl (by repeat (first | exact obs_nil | refine obs_draw (by kernel_rfl) ?_ | refine obs_same ?_ | refine obs_and ?_ | refine obs_by (by (simp [inB] <;> omega)) ?_)) ?_
  refine runS_callU rfl rfl (by first | exact .v rfl rfl rfl rfl | exact .o rfl rfl rfl rfl) rfl rfl (by repeat (first | exact .nil | refine .cons (.n rfl) ?_ | refine .cons .o ?_ | refine .cons gok_and ?_)) rfl rfl rfl rfl rfl (fun h => ref_great s (by simpa [condOf] using h)) ?_
  refine runS_x (I := inf) (J := jnf) ⟨false, false, [], 0, 0⟩ 9999 rfl (by repeat (first | exact obs_nil | refine obs_draw (by kernel_rfl) ?_ | refine obs_same ?_ | refine obs_and ?_ | refine obs_by (by (simp [inB] <;> omega)) ?_)) ?_
  refine runS_ret (I := inf) 0 rfl (Nat.le_refl _) rfl .nil rfl ⟨?_, rfl⟩
  show Out.ret (bv _) = _
  simp
end Go.Iron.Try

/- The level package's functions (seat Ytamhonbhoelohaa): types' validity. -/
namespace Go.Iron.Try
open Go.Proofs

def inR (n a b : Int) : Bool := decide (a ≤ n) && decide (n ≤ b)
def validT (t : Typ) : Bool :=
  if t.kind = 1 then inR t.p 1 31 && inR t.q 0 31 && t.n == 0 && !t.vary && t.pic.isEmpty
  else if t.kind = 2 then inR t.p 1 15 && inR t.q 0 31 && t.n == 0 && !t.vary && t.pic.isEmpty
  else if t.kind = 3 then inR t.p 1 15 && t.q == 0 && t.n == 0 && !t.vary && t.pic.isEmpty
  else if t.kind = 4 ∨ t.kind = 5 then t.p == 0 && t.q == 0 && inR t.n 0 250 && t.pic.isEmpty
  else if t.kind = 6 then t.p == 0 && t.q == 0 && t.n == 0 && !t.vary && decide (1 ≤ t.pic.length) && decide (t.pic.length ≤ 80)
  else if t.kind = 7 ∨ t.kind = 8 ∨ t.kind = 9 then t.p == 0 && t.q == 0 && t.n == 0 && !t.vary && t.pic.isEmpty
  else false
theorem valid_kind {t : Typ} (h : validT t = true) : 1 ≤ t.kind ∧ t.kind ≤ 9 := by
  unfold validT at h
  split at h; omega
  split at h; omega
  split at h; omega
  split at h; omega
  split at h; omega
  split at h; omega
  cases h

theorem ref_numeric (c : Int) : CallT Try.prog 173 [iv c] [] (fun o A => o = .ret (bv (inR c 1 3)) ∧ A = []) := by
  refine callS_body (n := 9) rfl rfl fun w ρ X => ?_
  refine runS_x (I := inf) (J := jnf) ⟨false, false, [], 0, 0⟩ 9999 rfl (by repeat (first | exact obs_nil | refine obs_draw (by kernel_rfl) ?_ | refine obs_same ?_ | refine obs_and ?_ | refine obs_by (by (simp [inB] <;> omega)) ?_)) ?_
  refine runS_ret (I := inf) 0 rfl (Nat.le_refl _) rfl .nil rfl ⟨?_, rfl⟩
  show Out.ret (bv (if decide (c ≥ 1) = true then decide (c ≤ 3) else false)) = _
  unfold inR
  by_cases h : 1 ≤ c <;> simp [h]
theorem nine {k : Int} (h : 1 ≤ k ∧ k ≤ 9) : k = 1 ∨ k = 2 ∨ k = 3 ∨ k = 4 ∨ k = 5 ∨ k = 6 ∨ k = 7 ∨ k = 8 ∨ k = 9 := by omega
theorem emptyB (s : Str) : ((bs s).toList == ({ data := #[] } : ByteArray).toList) = decide (s.length = 0) := by
  show ((bs s).toList == (bs []).toList) = _
  rw [bs_toList, bs_toList]
  cases s <;> rfl
theorem isEmptyB (s : Str) : s.isEmpty = decide (s.length = 0) := by cases s <;> rfl
theorem blL (s : Str) : (bl (bs s)).length = s.length := rfl
theorem ref01_valid (t : Typ) (hb : t.pic.length < 9223372036854775807) : CallT Try.prog 138 [.agg (typE t)] [] (fun o A => o = .ret (bv (validT t)) ∧ A = []) := by
  obtain ⟨k, p, q, n, v, pic⟩ := t
  dsimp only at hb
  by_cases hk : 1 ≤ k ∧ k ≤ 9
  · rcases nine hk with rfl | rfl | rfl | rfl | rfl | rfl | rfl | rfl | rfl
    all_goals
      refine callS_body (n := 134) rfl rfl fun w ρ X => ?_
      refine runS_x (I := inf) (J := jnf) ⟨false, false, [], 0, 0⟩ 9999 rfl (by repeat (first | exact obs_nil | refine obs_draw (by kernel_rfl) ?_ | refine obs_same ?_ | refine obs_and ?_ | refine obs_by (by (simp [inB] <;> omega)) ?_)) ?_
      refine runS_callU rfl rfl (by first | exact .v rfl rfl rfl rfl | exact .o rfl rfl rfl rfl) rfl rfl (by repeat (first | exact .nil | refine .cons (.n rfl) ?_ | refine .cons .o ?_ | refine .cons gok_and ?_)) rfl rfl rfl rfl rfl (fun _ => (ref_numeric _)) ?_
      refine runS_x (I := inf) (J := jnf) ⟨false, false, [], 0, 0⟩ 9999 rfl (by repeat (first | exact obs_nil | refine obs_draw (by kernel_rfl) ?_ | refine obs_same ?_ | refine obs_and ?_ | refine obs_by (by (simp [inB] <;> omega)) ?_)) ?_
      refine runS_cond rfl (fun h => ?_) (fun h => ?_)
      · refine runS_x (I := inf) (J := jnf) ⟨true, false, [], 0, 0⟩ 9999 rfl (by repeat (first | exact obs_nil | refine obs_draw (by kernel_rfl) ?_ | refine obs_same ?_ | refine obs_and ?_ | refine obs_by (by (simp [inB] <;> omega)) ?_)) ?_
        refine runS_ret (I := inf) 0 rfl (Nat.le_refl _) rfl .nil rfl ⟨?_, rfl⟩
        refine congrArg (fun b => Out.ret (bv b)) ?_
        simp only [validT, inR, isEmptyB, emptyB, blL] at h ⊢
        rw [Bool.eq_iff_iff]
        cases v <;> (simp [-List.length_eq_zero_iff] at h ⊢ <;> first | omega | (simp only [decide_eq_true_eq]; omega) | (rw [decide_eq_true_iff]; omega) | (erw [decide_eq_true_iff]; omega))
      · refine runS_x (I := inf) (J := jnf) ⟨true, false, [], 0, 0⟩ 9999 rfl (by repeat (first | exact obs_nil | refine obs_draw (by kernel_rfl) ?_ | refine obs_same ?_ | refine obs_and ?_ | refine obs_by (by (simp [inB] <;> omega)) ?_)) ?_
        refine runS_ret (I := inf) 0 rfl (Nat.le_refl _) rfl .nil rfl ⟨?_, rfl⟩
        refine congrArg (fun b => Out.ret (bv b)) ?_
        simp only [validT, inR, isEmptyB, emptyB, blL] at h ⊢
        rw [Bool.eq_iff_iff]
        cases v <;> (simp [-List.length_eq_zero_iff] at h ⊢ <;> first | omega | (simp only [decide_eq_true_eq]; omega) | (rw [decide_eq_true_iff]; omega) | (erw [decide_eq_true_iff]; omega))
  · have h0 : validT ⟨k, p, q, n, v, pic⟩ = false := by
      cases hv : validT ⟨k, p, q, n, v, pic⟩ with
      | false => rfl
      | true => exact absurd (valid_kind hv) hk
    rw [h0]
    have nk : ∀ j : Int, 1 ≤ j → j ≤ 9 → (k == j) = false := fun j h1 h2 => by simp; omega
    refine callS_body (n := 134) rfl rfl fun w ρ X => ?_
    refine runS_x (I := inf) (J := jnf) ⟨false, false, [], 0, 0⟩ 9999 rfl (by repeat (first | exact obs_nil | refine obs_draw (by kernel_rfl) ?_ | refine obs_same ?_ | refine obs_and ?_ | refine obs_by (by (simp [inB] <;> omega)) ?_)) ?_
    refine runS_callU rfl rfl (by first | exact .v rfl rfl rfl rfl | exact .o rfl rfl rfl rfl) rfl rfl (by repeat (first | exact .nil | refine .cons (.n rfl) ?_ | refine .cons .o ?_ | refine .cons gok_and ?_)) rfl rfl rfl rfl rfl (fun _ => (ref_numeric _)) ?_
    refine runS_x (I := inf) (J := jnf) ⟨false, false, [], 0, 0⟩ 9999 rfl (by repeat (first | exact obs_nil | refine obs_draw (by kernel_rfl) ?_ | refine obs_same ?_ | refine obs_and ?_ | refine obs_by (by (simp [inB] <;> omega)) ?_)) ?_
    refine runS_cond rfl (fun h => ?_) (fun h => ?_)
    · refine runS_x (I := inf) (J := jnf) ⟨false, false, [], 0, 0⟩ 9999 rfl (by repeat (first | exact obs_nil | refine obs_draw (by kernel_rfl) ?_ | refine obs_same ?_ | refine obs_and ?_ | refine obs_by (by (simp [inB] <;> omega)) ?_)) ?_
      refine runS_ret (I := inf) 0 rfl (Nat.le_refl _) rfl .nil rfl ⟨?_, rfl⟩
      rfl
    · refine runS_x (I := inf) (J := jnf) ⟨false, false, [], 0, 0⟩ 9999 rfl (by repeat (first | exact obs_nil | refine obs_draw (by kernel_rfl) ?_ | refine obs_same ?_ | refine obs_and ?_ | refine obs_by (by (simp [inB] <;> omega)) ?_)) ?_
      refine runS_cond rfl (fun h => ?_) (fun _ => ?_)
      · rw [nk _ (by decide) (by decide)] at h; cases h
      refine runS_x (I := inf) (J := jnf) ⟨false, false, [], 0, 0⟩ 9999 rfl (by repeat (first | exact obs_nil | refine obs_draw (by kernel_rfl) ?_ | refine obs_same ?_ | refine obs_and ?_ | refine obs_by (by (simp [inB] <;> omega)) ?_)) ?_
      refine runS_cond rfl (fun h => ?_) (fun _ => ?_)
      · rw [nk _ (by decide) (by decide)] at h; cases h
      refine runS_x (I := inf) (J := jnf) ⟨false, false, [], 0, 0⟩ 9999 rfl (by repeat (first | exact obs_nil | refine obs_draw (by kernel_rfl) ?_ | refine obs_same ?_ | refine obs_and ?_ | refine obs_by (by (simp [inB] <;> omega)) ?_)) ?_
      refine runS_cond rfl (fun h => ?_) (fun _ => ?_)
      · rw [nk _ (by decide) (by decide)] at h; cases h
      refine runS_x (I := inf) (J := jnf) ⟨false, false, [], 0, 0⟩ 9999 rfl (by repeat (first | exact obs_nil | refine obs_draw (by kernel_rfl) ?_ | refine obs_same ?_ | refine obs_and ?_ | refine obs_by (by (simp [inB] <;> omega)) ?_)) ?_
      refine runS_cond rfl (fun h => ?_) (fun _ => ?_)
      · rw [nk _ (by decide) (by decide)] at h; cases h
      refine runS_x (I := inf) (J := jnf) ⟨false, false, [], 0, 0⟩ 9999 rfl (by repeat (first | exact obs_nil | refine obs_draw (by kernel_rfl) ?_ | refine obs_same ?_ | refine obs_and ?_ | refine obs_by (by (simp [inB] <;> omega)) ?_)) ?_
      refine runS_cond rfl (fun h => ?_) (fun _ => ?_)
      · rw [nk _ (by decide) (by decide)] at h; cases h
      refine runS_x (I := inf) (J := jnf) ⟨false, false, [], 0, 0⟩ 9999 rfl (by repeat (first | exact obs_nil | refine obs_draw (by kernel_rfl) ?_ | refine obs_same ?_ | refine obs_and ?_ | refine obs_by (by (simp [inB] <;> omega)) ?_)) ?_
      refine runS_cond rfl (fun h => ?_) (fun _ => ?_)
      · rw [nk _ (by decide) (by decide)] at h; cases h
      refine runS_x (I := inf) (J := jnf) ⟨false, false, [], 0, 0⟩ 9999 rfl (by repeat (first | exact obs_nil | refine obs_draw (by kernel_rfl) ?_ | refine obs_same ?_ | refine obs_and ?_ | refine obs_by (by (simp [inB] <;> omega)) ?_)) ?_
      refine runS_ret (I := inf) 0 rfl (Nat.le_refl _) rfl .nil rfl ⟨?_, rfl⟩
      refine congrArg (fun b => Out.ret (bv b)) ?_
      simp
      omega

/-- The kinds' rules. -/
theorem rules_1 (a b : Int) (t : Typ) : CallT Try.prog 192 [.agg (typE t), .loc [iv a] 0, .loc [iv b] 0] [] (fun o A => o = .ret (bv (inR t.p 1 a && inR t.q 0 b && t.n == 0 && !t.vary && t.pic.isEmpty)) ∧ A = []) := by
  obtain ⟨k, p, q, n, v, pic⟩ := t
  refine callS_body (n := 30) rfl rfl fun w ρ X => ?_
  refine runS_x (I := inf) (J := jnf) ⟨false, false, [], 0, 0⟩ 9999 rfl (by repeat (first | exact obs_nil | refine obs_draw (by kernel_rfl) ?_ | refine obs_same ?_ | refine obs_and ?_ | refine obs_by (by (simp [inB] <;> omega)) ?_)) ?_
  refine runS_call rfl rfl rfl rfl rfl rfl rfl (digit_within _ _ _) ?_
  refine runS_x (I := inf) (J := jnf) ⟨false, false, [], 0, 0⟩ 9999 rfl (by repeat (first | exact obs_nil | refine obs_draw (by kernel_rfl) ?_ | refine obs_same ?_ | refine obs_and ?_ | refine obs_by (by (simp [inB] <;> omega)) ?_)) ?_
  refine runS_callU rfl rfl (by first | exact .v rfl rfl rfl rfl | exact .o rfl rfl rfl rfl) rfl rfl (by repeat (first | exact .nil | refine .cons (.n rfl) ?_ | refine .cons .o ?_ | refine .cons gok_and ?_)) rfl rfl rfl rfl rfl (fun _ => (digit_within _ _ _)) ?_
  refine runS_x (I := inf) (J := jnf) ⟨false, false, [], 0, 0⟩ 9999 rfl (by repeat (first | exact obs_nil | refine obs_draw (by kernel_rfl) ?_ | refine obs_same ?_ | refine obs_and ?_ | refine obs_by (by (simp [inB] <;> omega)) ?_)) ?_
  refine runS_ret (I := inf) 0 rfl (Nat.le_refl _) rfl .nil rfl ⟨?_, rfl⟩
  refine congrArg (fun b => Out.ret (bv b)) ?_
  simp only [inR, isEmptyB, emptyB, blL]
  rw [Bool.eq_iff_iff]
  cases v <;> (simp [-List.length_eq_zero_iff] <;> first | omega | (simp only [decide_eq_true_eq]; omega) | (rw [decide_eq_true_iff]; omega) | (erw [decide_eq_true_iff]; omega) | (erw [decide_eq_true_iff, decide_eq_true_iff]; omega))
theorem rules_2 (t : Typ) : CallT Try.prog 193 [.agg (typE t)] [] (fun o A => o = .ret (bv (t.p == 0 && t.q == 0 && inR t.n 0 250 && t.pic.isEmpty)) ∧ A = []) := by
  obtain ⟨k, p, q, n, v, pic⟩ := t
  refine callS_body (n := 21) rfl rfl fun w ρ X => ?_
  refine runS_x (I := inf) (J := jnf) ⟨false, false, [], 0, 0⟩ 9999 rfl (by repeat (first | exact obs_nil | refine obs_draw (by kernel_rfl) ?_ | refine obs_same ?_ | refine obs_and ?_ | refine obs_by (by (simp [inB] <;> omega)) ?_)) ?_
  refine runS_callU rfl rfl (by first | exact .v rfl rfl rfl rfl | exact .o rfl rfl rfl rfl) rfl rfl (by repeat (first | exact .nil | refine .cons (.n rfl) ?_ | refine .cons .o ?_ | refine .cons gok_and ?_)) rfl rfl rfl rfl rfl (fun _ => (digit_within _ _ _)) ?_
  refine runS_x (I := inf) (J := jnf) ⟨false, false, [], 0, 0⟩ 9999 rfl (by repeat (first | exact obs_nil | refine obs_draw (by kernel_rfl) ?_ | refine obs_same ?_ | refine obs_and ?_ | refine obs_by (by (simp [inB] <;> omega)) ?_)) ?_
  refine runS_ret (I := inf) 0 rfl (Nat.le_refl _) rfl .nil rfl ⟨?_, rfl⟩
  refine congrArg (fun b => Out.ret (bv b)) ?_
  simp only [inR, isEmptyB, emptyB, blL]
  rw [Bool.eq_iff_iff]
  simp [-List.length_eq_zero_iff] <;> first | omega | (simp only [decide_eq_true_eq]; omega) | (rw [decide_eq_true_iff]; omega) | (erw [decide_eq_true_iff]; omega) | (erw [decide_eq_true_iff, decide_eq_true_iff]; omega)
theorem rules_3 (t : Typ) : CallT Try.prog 194 [.agg (typE t)] [] (fun o A => o = .ret (bv (t.p == 0 && t.q == 0 && t.n == 0 && !t.vary && t.pic.isEmpty)) ∧ A = []) := by
  obtain ⟨k, p, q, n, v, pic⟩ := t
  refine callS_body (n := 8) rfl rfl fun w ρ X => ?_
  refine runS_x (I := inf) (J := jnf) ⟨false, false, [], 0, 0⟩ 9999 rfl (by repeat (first | exact obs_nil | refine obs_draw (by kernel_rfl) ?_ | refine obs_same ?_ | refine obs_and ?_ | refine obs_by (by (simp [inB] <;> omega)) ?_)) ?_
  refine runS_ret (I := inf) 0 rfl (Nat.le_refl _) rfl .nil rfl ⟨?_, rfl⟩
  refine congrArg (fun b => Out.ret (bv b)) ?_
  simp only [inR, isEmptyB, emptyB, blL]
  rw [Bool.eq_iff_iff]
  cases v <;> (simp [-List.length_eq_zero_iff] <;> first | omega | (simp only [decide_eq_true_eq]; omega) | (rw [decide_eq_true_iff]; omega) | (erw [decide_eq_true_iff]; omega) | (erw [decide_eq_true_iff, decide_eq_true_iff]; omega))
theorem rules_4 (t : Typ) (hb : t.pic.length < 9223372036854775807) : CallT Try.prog 195 [.agg (typE t)] [] (fun o A => o = .ret (bv (t.p == 0 && t.q == 0 && t.n == 0 && !t.vary && decide (1 ≤ t.pic.length) && decide (t.pic.length ≤ 80))) ∧ A = []) := by
  obtain ⟨k, p, q, n, v, pic⟩ := t
  refine callS_body (n := 16) rfl rfl fun w ρ X => ?_
  refine runS_x (I := inf) (J := jnf) ⟨false, false, [], 0, 0⟩ 9999 rfl (by repeat (first | exact obs_nil | refine obs_draw (by kernel_rfl) ?_ | refine obs_same ?_ | refine obs_and ?_ | refine obs_by (by (simp [inB] <;> omega)) ?_)) ?_
  refine runS_call rfl rfl rfl rfl rfl rfl rfl (digit_within _ _ _) ?_
  refine runS_x (I := inf) (J := jnf) ⟨false, false, [], 0, 0⟩ 9999 rfl (by repeat (first | exact obs_nil | refine obs_draw (by kernel_rfl) ?_ | refine obs_same ?_ | refine obs_and ?_ | refine obs_by (by (simp [inB] <;> omega)) ?_)) ?_
  refine runS_ret (I := inf) 0 rfl (Nat.le_refl _) rfl .nil rfl ⟨?_, rfl⟩
  refine congrArg (fun b => Out.ret (bv b)) ?_
  simp only [inR, isEmptyB, emptyB, blL]
  rw [Bool.eq_iff_iff]
  cases v <;> (simp [-List.length_eq_zero_iff] <;> first | omega | (simp only [decide_eq_true_eq]; omega) | (rw [decide_eq_true_iff]; omega) | (erw [decide_eq_true_iff]; omega) | (erw [decide_eq_true_iff, decide_eq_true_iff]; omega))
theorem rules_5 (t : Typ) : CallT Try.prog 196 [.agg (typE t)] [] (fun o A => o = .ret (bv false) ∧ A = []) := by
  refine callS_body (n := 3) rfl rfl fun w ρ X => ?_
  refine runS_x (I := inf) (J := jnf) ⟨false, false, [], 0, 0⟩ 9999 rfl (by repeat (first | exact obs_nil | refine obs_draw (by kernel_rfl) ?_ | refine obs_same ?_ | refine obs_and ?_ | refine obs_by (by (simp [inB] <;> omega)) ?_)) ?_
  refine runS_ret (I := inf) 0 rfl (Nat.le_refl _) rfl .nil rfl ⟨?_, rfl⟩
  rfl
end Go.Iron.Try

/- The level package's functions (seat Ytamhonbhoelohaa): digit.Valid; sizes of types. -/
namespace Go.Iron.Try
open Go.Proofs

abbrev fnA (g : Nat) (caps : List AV) : AV := .fn (.func g) caps
abbrev cel (n : Int) : AV := .loc [iv n] 0
theorem rules_mk (a b : Int) : CallT Try.prog 191 [iv a, iv b] [] (fun o A => o = .ret (fnA 192 [cel a, cel b]) ∧ A = []) := by
  refine callS_body (n := 6) rfl rfl fun w ρ X => ?_
  refine runS_x (I := inf) (J := jnf) ⟨false, false, [], 0, 0⟩ 9999 rfl (by repeat (first | exact obs_nil | refine obs_draw (by kernel_rfl) ?_ | refine obs_same ?_ | refine obs_and ?_ | refine obs_by (by (simp [inB] <;> omega)) ?_)) ?_
  refine runS_freezeBox 0 rfl rfl rfl ?_
  refine runS_freezeBox 1 rfl rfl rfl ?_
  refine runS_drop 0 (Nat.zero_le _) rfl (by repeat (first | exact .nil | refine .row (fun j hj => rfl) ?_ | refine .box rfl ?_ | refine .fam (fun k j hk hj => rfl) ?_ | refine .loop (scrub_under _ _) ?_ | refine .dfr ?_ | refine .gone ?_ | refine .map (fun p hp => by (obtain ⟨k, _, rfl⟩ := List.mem_map.1 hp; rfl)) ?_)) rfl rfl rfl (by repeat (first | exact .nil | refine .cons rfl rfl rfl (scrub_under _ _) ?_)) ?_
  refine runS_ret (I := inf) 0 rfl (Nat.le_refl _) rfl .nil rfl ⟨?_, rfl⟩
  rfl
def ruleA : Nat → AV
  | 0 => fnA 196 []
  | 1 => fnA 192 [cel 31, cel 31]
  | 2 => fnA 192 [cel 15, cel 31]
  | 3 => fnA 192 [cel 15, cel 0]
  | 4 => fnA 193 []
  | 5 => fnA 193 []
  | 6 => fnA 195 []
  | _ => fnA 194 []
def ruleR : Nat → List AV := fun i => [ruleA i]
def rulesS : AV := .slc 1 none 10 ruleR
theorem digit_rules : CallT Try.prog 187 [] [] (fun o A => o = .ret rulesS ∧ A = []) := by
  refine callS_body (n := 20) rfl rfl fun w ρ X => ?_
  refine runS_x (I := inf) (J := jnf) ⟨false, false, [], 0, 0⟩ 9999 rfl (by repeat (first | exact obs_nil | refine obs_draw (by kernel_rfl) ?_ | refine obs_same ?_ | refine obs_and ?_ | refine obs_by (by (simp [inB] <;> omega)) ?_)) ?_
  refine runS_call rfl rfl rfl rfl rfl rfl rfl (rules_mk 31 31) ?_
  refine runS_x (I := inf) (J := jnf) ⟨false, false, [], 0, 0⟩ 9999 rfl (by repeat (first | exact obs_nil | refine obs_draw (by kernel_rfl) ?_ | refine obs_same ?_ | refine obs_and ?_ | refine obs_by (by (simp [inB] <;> omega)) ?_)) ?_
  refine runS_call rfl rfl rfl rfl rfl rfl rfl (rules_mk 15 31) ?_
  refine runS_x (I := inf) (J := jnf) ⟨false, false, [], 0, 0⟩ 9999 rfl (by repeat (first | exact obs_nil | refine obs_draw (by kernel_rfl) ?_ | refine obs_same ?_ | refine obs_and ?_ | refine obs_by (by (simp [inB] <;> omega)) ?_)) ?_
  refine runS_call rfl rfl rfl rfl rfl rfl rfl (rules_mk 15 0) ?_
  refine runS_x (I := inf) (J := jnf) ⟨false, false, [], 0, 0⟩ 9999 rfl (by repeat (first | exact obs_nil | refine obs_draw (by kernel_rfl) ?_ | refine obs_same ?_ | refine obs_and ?_ | refine obs_by (by (simp [inB] <;> omega)) ?_)) ?_
  refine runS_tell 0 ruleR rfl (m' := 10) rfl ?_ rfl ?_
  · intro i hi
    rcases i with _ | _ | _ | _ | _ | _ | _ | _ | _ | _ | i <;> first | rfl | omega
  refine runS_freeze 0 rfl rfl rfl (fun i hi => ?_) ?_
  · rcases i with _ | _ | _ | _ | _ | _ | _ | _ | _ | _ | i <;> first | rfl | omega
  refine runS_drop 0 (Nat.zero_le _) rfl (by repeat (first | exact .nil | refine .row (fun j hj => rfl) ?_ | refine .box rfl ?_ | refine .fam (fun k j hk hj => rfl) ?_ | refine .loop (scrub_under _ _) ?_ | refine .dfr ?_ | refine .gone ?_ | refine .map (fun p hp => by (obtain ⟨k, _, rfl⟩ := List.mem_map.1 hp; rfl)) ?_)) rfl rfl rfl (by repeat (first | exact .nil | refine .cons rfl rfl rfl (scrub_under _ _) ?_)) ?_
  refine runS_ret (I := inf) 0 rfl (Nat.le_refl _) rfl .nil rfl ⟨?_, rfl⟩
  rfl
theorem digit_valid (t : Typ) (hb : t.pic.length < 9223372036854775807) : CallT Try.prog 169 [.agg (typE t)] [] (fun o A => o = .ret (bv (validT t)) ∧ A = []) := by
  by_cases hk : 0 ≤ t.kind ∧ t.kind ≤ 9
  · obtain ⟨k, p, q, n, v, pic⟩ := t
    dsimp only at hb hk
    have : k = 0 ∨ k = 1 ∨ k = 2 ∨ k = 3 ∨ k = 4 ∨ k = 5 ∨ k = 6 ∨ k = 7 ∨ k = 8 ∨ k = 9 := by omega
    rcases this with rfl | rfl | rfl | rfl | rfl | rfl | rfl | rfl | rfl | rfl
    · refine callS_body (n := 20) rfl rfl fun w ρ X => ?_
      refine runS_x (I := inf) (J := jnf) ⟨false, false, [], 0, 0⟩ 9999 rfl (by repeat (first | exact obs_nil | refine obs_draw (by kernel_rfl) ?_ | refine obs_same ?_ | refine obs_and ?_ | refine obs_by (by (simp [inB] <;> omega)) ?_)) ?_
      refine runS_call rfl rfl rfl rfl rfl rfl rfl digit_rules ?_
      refine runS_x (I := inf) (J := jnf) ⟨false, false, [], 0, 0⟩ 9999 rfl (by repeat (first | exact obs_nil | refine obs_draw (by kernel_rfl) ?_ | refine obs_same ?_ | refine obs_and ?_ | refine obs_by (by (simp [inB] <;> omega)) ?_)) ?_
      refine runS_draw 15 (by kernel_rfl) (lexj_x (I := inf) (J := jnf) 99 rfl rfl (by repeat (first | exact obs_nil | refine obs_same ?_ | refine obs_and ?_ | refine obs_by (by (simp [inB] <;> omega)) ?_)) (lexj_call rfl rfl rfl rfl rfl rfl rfl rfl (digit_within _ _ _) (lexj_x (I := inf) (J := jnf) 99 rfl rfl (by repeat (first | exact obs_nil | refine obs_same ?_ | refine obs_and ?_ | refine obs_by (by (simp [inB] <;> omega)) ?_)) (lexj_callU rfl rfl (by first | exact .v rfl rfl rfl rfl | exact .o rfl rfl rfl rfl) rfl rfl (by repeat (first | exact .nil | refine .cons (.n rfl) ?_ | refine .cons .o ?_ | refine .cons gok_and ?_)) rfl rfl rfl rfl rfl (fun hcond => (rules_5 _)) (lexj_x (I := inf) (J := jnf) 99 rfl rfl (by repeat (first | exact obs_nil | refine obs_same ?_ | refine obs_and ?_ | refine obs_by (by (simp [inB] <;> omega)) ?_)) lexj_nil))))) ?_
      refine runS_x (I := inf) (J := jnf) ⟨false, false, [], 0, 0⟩ 9999 rfl (by repeat (first | exact obs_nil | refine obs_draw (by kernel_rfl) ?_ | refine obs_same ?_ | refine obs_and ?_ | refine obs_by (by (simp [inB] <;> omega)) ?_)) ?_
      refine runS_ret (I := inf) 0 rfl (Nat.le_refl _) rfl .nil rfl ⟨?_, rfl⟩
      rfl
    · refine callS_body (n := 20) rfl rfl fun w ρ X => ?_
      refine runS_x (I := inf) (J := jnf) ⟨false, false, [], 0, 0⟩ 9999 rfl (by repeat (first | exact obs_nil | refine obs_draw (by kernel_rfl) ?_ | refine obs_same ?_ | refine obs_and ?_ | refine obs_by (by (simp [inB] <;> omega)) ?_)) ?_
      refine runS_call rfl rfl rfl rfl rfl rfl rfl digit_rules ?_
      refine runS_x (I := inf) (J := jnf) ⟨false, false, [], 0, 0⟩ 9999 rfl (by repeat (first | exact obs_nil | refine obs_draw (by kernel_rfl) ?_ | refine obs_same ?_ | refine obs_and ?_ | refine obs_by (by (simp [inB] <;> omega)) ?_)) ?_
      refine runS_draw 15 (by kernel_rfl) (lexj_x (I := inf) (J := jnf) 99 rfl rfl (by repeat (first | exact obs_nil | refine obs_same ?_ | refine obs_and ?_ | refine obs_by (by (simp [inB] <;> omega)) ?_)) (lexj_call rfl rfl rfl rfl rfl rfl rfl rfl (digit_within _ _ _) (lexj_x (I := inf) (J := jnf) 99 rfl rfl (by repeat (first | exact obs_nil | refine obs_same ?_ | refine obs_and ?_ | refine obs_by (by (simp [inB] <;> omega)) ?_)) (lexj_callU rfl rfl (by first | exact .v rfl rfl rfl rfl | exact .o rfl rfl rfl rfl) rfl rfl (by repeat (first | exact .nil | refine .cons (.n rfl) ?_ | refine .cons .o ?_ | refine .cons gok_and ?_)) rfl rfl rfl rfl rfl (fun hcond => (rules_1 31 31 _)) (lexj_x (I := inf) (J := jnf) 99 rfl rfl (by repeat (first | exact obs_nil | refine obs_same ?_ | refine obs_and ?_ | refine obs_by (by (simp [inB] <;> omega)) ?_)) lexj_nil))))) ?_
      refine runS_x (I := inf) (J := jnf) ⟨false, false, [], 0, 0⟩ 9999 rfl (by repeat (first | exact obs_nil | refine obs_draw (by kernel_rfl) ?_ | refine obs_same ?_ | refine obs_and ?_ | refine obs_by (by (simp [inB] <;> omega)) ?_)) ?_
      refine runS_ret (I := inf) 0 rfl (Nat.le_refl _) rfl .nil rfl ⟨?_, rfl⟩
      rfl
    · refine callS_body (n := 20) rfl rfl fun w ρ X => ?_
      refine runS_x (I := inf) (J := jnf) ⟨false, false, [], 0, 0⟩ 9999 rfl (by repeat (first | exact obs_nil | refine obs_draw (by kernel_rfl) ?_ | refine obs_same ?_ | refine obs_and ?_ | refine obs_by (by (simp [inB] <;> omega)) ?_)) ?_
      refine runS_call rfl rfl rfl rfl rfl rfl rfl digit_rules ?_
      refine runS_x (I := inf) (J := jnf) ⟨false, false, [], 0, 0⟩ 9999 rfl (by repeat (first | exact obs_nil | refine obs_draw (by kernel_rfl) ?_ | refine obs_same ?_ | refine obs_and ?_ | refine obs_by (by (simp [inB] <;> omega)) ?_)) ?_
      refine runS_draw 15 (by kernel_rfl) (lexj_x (I := inf) (J := jnf) 99 rfl rfl (by repeat (first | exact obs_nil | refine obs_same ?_ | refine obs_and ?_ | refine obs_by (by (simp [inB] <;> omega)) ?_)) (lexj_call rfl rfl rfl rfl rfl rfl rfl rfl (digit_within _ _ _) (lexj_x (I := inf) (J := jnf) 99 rfl rfl (by repeat (first | exact obs_nil | refine obs_same ?_ | refine obs_and ?_ | refine obs_by (by (simp [inB] <;> omega)) ?_)) (lexj_callU rfl rfl (by first | exact .v rfl rfl rfl rfl | exact .o rfl rfl rfl rfl) rfl rfl (by repeat (first | exact .nil | refine .cons (.n rfl) ?_ | refine .cons .o ?_ | refine .cons gok_and ?_)) rfl rfl rfl rfl rfl (fun hcond => (rules_1 15 31 _)) (lexj_x (I := inf) (J := jnf) 99 rfl rfl (by repeat (first | exact obs_nil | refine obs_same ?_ | refine obs_and ?_ | refine obs_by (by (simp [inB] <;> omega)) ?_)) lexj_nil))))) ?_
      refine runS_x (I := inf) (J := jnf) ⟨false, false, [], 0, 0⟩ 9999 rfl (by repeat (first | exact obs_nil | refine obs_draw (by kernel_rfl) ?_ | refine obs_same ?_ | refine obs_and ?_ | refine obs_by (by (simp [inB] <;> omega)) ?_)) ?_
      refine runS_ret (I := inf) 0 rfl (Nat.le_refl _) rfl .nil rfl ⟨?_, rfl⟩
      rfl
    · refine callS_body (n := 20) rfl rfl fun w ρ X => ?_
      refine runS_x (I := inf) (J := jnf) ⟨false, false, [], 0, 0⟩ 9999 rfl (by repeat (first | exact obs_nil | refine obs_draw (by kernel_rfl) ?_ | refine obs_same ?_ | refine obs_and ?_ | refine obs_by (by (simp [inB] <;> omega)) ?_)) ?_
      refine runS_call rfl rfl rfl rfl rfl rfl rfl digit_rules ?_
      refine runS_x (I := inf) (J := jnf) ⟨false, false, [], 0, 0⟩ 9999 rfl (by repeat (first | exact obs_nil | refine obs_draw (by kernel_rfl) ?_ | refine obs_same ?_ | refine obs_and ?_ | refine obs_by (by (simp [inB] <;> omega)) ?_)) ?_
      refine runS_draw 15 (by kernel_rfl) (lexj_x (I := inf) (J := jnf) 99 rfl rfl (by repeat (first | exact obs_nil | refine obs_same ?_ | refine obs_and ?_ | refine obs_by (by (simp [inB] <;> omega)) ?_)) (lexj_call rfl rfl rfl rfl rfl rfl rfl rfl (digit_within _ _ _) (lexj_x (I := inf) (J := jnf) 99 rfl rfl (by repeat (first | exact obs_nil | refine obs_same ?_ | refine obs_and ?_ | refine obs_by (by (simp [inB] <;> omega)) ?_)) (lexj_callU rfl rfl (by first | exact .v rfl rfl rfl rfl | exact .o rfl rfl rfl rfl) rfl rfl (by repeat (first | exact .nil | refine .cons (.n rfl) ?_ | refine .cons .o ?_ | refine .cons gok_and ?_)) rfl rfl rfl rfl rfl (fun hcond => (rules_1 15 0 _)) (lexj_x (I := inf) (J := jnf) 99 rfl rfl (by repeat (first | exact obs_nil | refine obs_same ?_ | refine obs_and ?_ | refine obs_by (by (simp [inB] <;> omega)) ?_)) lexj_nil))))) ?_
      refine runS_x (I := inf) (J := jnf) ⟨false, false, [], 0, 0⟩ 9999 rfl (by repeat (first | exact obs_nil | refine obs_draw (by kernel_rfl) ?_ | refine obs_same ?_ | refine obs_and ?_ | refine obs_by (by (simp [inB] <;> omega)) ?_)) ?_
      refine runS_ret (I := inf) 0 rfl (Nat.le_refl _) rfl .nil rfl ⟨?_, rfl⟩
      refine congrArg (fun b => Out.ret (bv b)) ?_
      show (if true = true then _ else false) = _
      rw [if_pos rfl]
      simp only [validT, inR]
      rw [Bool.eq_iff_iff]
      simp
      omega
    · refine callS_body (n := 20) rfl rfl fun w ρ X => ?_
      refine runS_x (I := inf) (J := jnf) ⟨false, false, [], 0, 0⟩ 9999 rfl (by repeat (first | exact obs_nil | refine obs_draw (by kernel_rfl) ?_ | refine obs_same ?_ | refine obs_and ?_ | refine obs_by (by (simp [inB] <;> omega)) ?_)) ?_
      refine runS_call rfl rfl rfl rfl rfl rfl rfl digit_rules ?_
      refine runS_x (I := inf) (J := jnf) ⟨false, false, [], 0, 0⟩ 9999 rfl (by repeat (first | exact obs_nil | refine obs_draw (by kernel_rfl) ?_ | refine obs_same ?_ | refine obs_and ?_ | refine obs_by (by (simp [inB] <;> omega)) ?_)) ?_
      refine runS_draw 15 (by kernel_rfl) (lexj_x (I := inf) (J := jnf) 99 rfl rfl (by repeat (first | exact obs_nil | refine obs_same ?_ | refine obs_and ?_ | refine obs_by (by (simp [inB] <;> omega)) ?_)) (lexj_call rfl rfl rfl rfl rfl rfl rfl rfl (digit_within _ _ _) (lexj_x (I := inf) (J := jnf) 99 rfl rfl (by repeat (first | exact obs_nil | refine obs_same ?_ | refine obs_and ?_ | refine obs_by (by (simp [inB] <;> omega)) ?_)) (lexj_callU rfl rfl (by first | exact .v rfl rfl rfl rfl | exact .o rfl rfl rfl rfl) rfl rfl (by repeat (first | exact .nil | refine .cons (.n rfl) ?_ | refine .cons .o ?_ | refine .cons gok_and ?_)) rfl rfl rfl rfl rfl (fun hcond => (rules_2 _)) (lexj_x (I := inf) (J := jnf) 99 rfl rfl (by repeat (first | exact obs_nil | refine obs_same ?_ | refine obs_and ?_ | refine obs_by (by (simp [inB] <;> omega)) ?_)) lexj_nil))))) ?_
      refine runS_x (I := inf) (J := jnf) ⟨false, false, [], 0, 0⟩ 9999 rfl (by repeat (first | exact obs_nil | refine obs_draw (by kernel_rfl) ?_ | refine obs_same ?_ | refine obs_and ?_ | refine obs_by (by (simp [inB] <;> omega)) ?_)) ?_
      refine runS_ret (I := inf) 0 rfl (Nat.le_refl _) rfl .nil rfl ⟨?_, rfl⟩
      rfl
    · refine callS_body (n := 20) rfl rfl fun w ρ X => ?_
      refine runS_x (I := inf) (J := jnf) ⟨false, false, [], 0, 0⟩ 9999 rfl (by repeat (first | exact obs_nil | refine obs_draw (by kernel_rfl) ?_ | refine obs_same ?_ | refine obs_and ?_ | refine obs_by (by (simp [inB] <;> omega)) ?_)) ?_
      refine runS_call rfl rfl rfl rfl rfl rfl rfl digit_rules ?_
      refine runS_x (I := inf) (J := jnf) ⟨false, false, [], 0, 0⟩ 9999 rfl (by repeat (first | exact obs_nil | refine obs_draw (by kernel_rfl) ?_ | refine obs_same ?_ | refine obs_and ?_ | refine obs_by (by (simp [inB] <;> omega)) ?_)) ?_
      refine runS_draw 15 (by kernel_rfl) (lexj_x (I := inf) (J := jnf) 99 rfl rfl (by repeat (first | exact obs_nil | refine obs_same ?_ | refine obs_and ?_ | refine obs_by (by (simp [inB] <;> omega)) ?_)) (lexj_call rfl rfl rfl rfl rfl rfl rfl rfl (digit_within _ _ _) (lexj_x (I := inf) (J := jnf) 99 rfl rfl (by repeat (first | exact obs_nil | refine obs_same ?_ | refine obs_and ?_ | refine obs_by (by (simp [inB] <;> omega)) ?_)) (lexj_callU rfl rfl (by first | exact .v rfl rfl rfl rfl | exact .o rfl rfl rfl rfl) rfl rfl (by repeat (first | exact .nil | refine .cons (.n rfl) ?_ | refine .cons .o ?_ | refine .cons gok_and ?_)) rfl rfl rfl rfl rfl (fun hcond => (rules_2 _)) (lexj_x (I := inf) (J := jnf) 99 rfl rfl (by repeat (first | exact obs_nil | refine obs_same ?_ | refine obs_and ?_ | refine obs_by (by (simp [inB] <;> omega)) ?_)) lexj_nil))))) ?_
      refine runS_x (I := inf) (J := jnf) ⟨false, false, [], 0, 0⟩ 9999 rfl (by repeat (first | exact obs_nil | refine obs_draw (by kernel_rfl) ?_ | refine obs_same ?_ | refine obs_and ?_ | refine obs_by (by (simp [inB] <;> omega)) ?_)) ?_
      refine runS_ret (I := inf) 0 rfl (Nat.le_refl _) rfl .nil rfl ⟨?_, rfl⟩
      rfl
    · refine callS_body (n := 20) rfl rfl fun w ρ X => ?_
      refine runS_x (I := inf) (J := jnf) ⟨false, false, [], 0, 0⟩ 9999 rfl (by repeat (first | exact obs_nil | refine obs_draw (by kernel_rfl) ?_ | refine obs_same ?_ | refine obs_and ?_ | refine obs_by (by (simp [inB] <;> omega)) ?_)) ?_
      refine runS_call rfl rfl rfl rfl rfl rfl rfl digit_rules ?_
      refine runS_x (I := inf) (J := jnf) ⟨false, false, [], 0, 0⟩ 9999 rfl (by repeat (first | exact obs_nil | refine obs_draw (by kernel_rfl) ?_ | refine obs_same ?_ | refine obs_and ?_ | refine obs_by (by (simp [inB] <;> omega)) ?_)) ?_
      refine runS_draw 15 (by kernel_rfl) (lexj_x (I := inf) (J := jnf) 99 rfl rfl (by repeat (first | exact obs_nil | refine obs_same ?_ | refine obs_and ?_ | refine obs_by (by (simp [inB] <;> omega)) ?_)) (lexj_call rfl rfl rfl rfl rfl rfl rfl rfl (digit_within _ _ _) (lexj_x (I := inf) (J := jnf) 99 rfl rfl (by repeat (first | exact obs_nil | refine obs_same ?_ | refine obs_and ?_ | refine obs_by (by (simp [inB] <;> omega)) ?_)) (lexj_callU rfl rfl (by first | exact .v rfl rfl rfl rfl | exact .o rfl rfl rfl rfl) rfl rfl (by repeat (first | exact .nil | refine .cons (.n rfl) ?_ | refine .cons .o ?_ | refine .cons gok_and ?_)) rfl rfl rfl rfl rfl (fun hcond => (rules_4 _ hb)) (lexj_x (I := inf) (J := jnf) 99 rfl rfl (by repeat (first | exact obs_nil | refine obs_same ?_ | refine obs_and ?_ | refine obs_by (by (simp [inB] <;> omega)) ?_)) lexj_nil))))) ?_
      refine runS_x (I := inf) (J := jnf) ⟨false, false, [], 0, 0⟩ 9999 rfl (by repeat (first | exact obs_nil | refine obs_draw (by kernel_rfl) ?_ | refine obs_same ?_ | refine obs_and ?_ | refine obs_by (by (simp [inB] <;> omega)) ?_)) ?_
      refine runS_ret (I := inf) 0 rfl (Nat.le_refl _) rfl .nil rfl ⟨?_, rfl⟩
      rfl
    · refine callS_body (n := 20) rfl rfl fun w ρ X => ?_
      refine runS_x (I := inf) (J := jnf) ⟨false, false, [], 0, 0⟩ 9999 rfl (by repeat (first | exact obs_nil | refine obs_draw (by kernel_rfl) ?_ | refine obs_same ?_ | refine obs_and ?_ | refine obs_by (by (simp [inB] <;> omega)) ?_)) ?_
      refine runS_call rfl rfl rfl rfl rfl rfl rfl digit_rules ?_
      refine runS_x (I := inf) (J := jnf) ⟨false, false, [], 0, 0⟩ 9999 rfl (by repeat (first | exact obs_nil | refine obs_draw (by kernel_rfl) ?_ | refine obs_same ?_ | refine obs_and ?_ | refine obs_by (by (simp [inB] <;> omega)) ?_)) ?_
      refine runS_draw 15 (by kernel_rfl) (lexj_x (I := inf) (J := jnf) 99 rfl rfl (by repeat (first | exact obs_nil | refine obs_same ?_ | refine obs_and ?_ | refine obs_by (by (simp [inB] <;> omega)) ?_)) (lexj_call rfl rfl rfl rfl rfl rfl rfl rfl (digit_within _ _ _) (lexj_x (I := inf) (J := jnf) 99 rfl rfl (by repeat (first | exact obs_nil | refine obs_same ?_ | refine obs_and ?_ | refine obs_by (by (simp [inB] <;> omega)) ?_)) (lexj_callU rfl rfl (by first | exact .v rfl rfl rfl rfl | exact .o rfl rfl rfl rfl) rfl rfl (by repeat (first | exact .nil | refine .cons (.n rfl) ?_ | refine .cons .o ?_ | refine .cons gok_and ?_)) rfl rfl rfl rfl rfl (fun hcond => (rules_3 _)) (lexj_x (I := inf) (J := jnf) 99 rfl rfl (by repeat (first | exact obs_nil | refine obs_same ?_ | refine obs_and ?_ | refine obs_by (by (simp [inB] <;> omega)) ?_)) lexj_nil))))) ?_
      refine runS_x (I := inf) (J := jnf) ⟨false, false, [], 0, 0⟩ 9999 rfl (by repeat (first | exact obs_nil | refine obs_draw (by kernel_rfl) ?_ | refine obs_same ?_ | refine obs_and ?_ | refine obs_by (by (simp [inB] <;> omega)) ?_)) ?_
      refine runS_ret (I := inf) 0 rfl (Nat.le_refl _) rfl .nil rfl ⟨?_, rfl⟩
      rfl
    · refine callS_body (n := 20) rfl rfl fun w ρ X => ?_
      refine runS_x (I := inf) (J := jnf) ⟨false, false, [], 0, 0⟩ 9999 rfl (by repeat (first | exact obs_nil | refine obs_draw (by kernel_rfl) ?_ | refine obs_same ?_ | refine obs_and ?_ | refine obs_by (by (simp [inB] <;> omega)) ?_)) ?_
      refine runS_call rfl rfl rfl rfl rfl rfl rfl digit_rules ?_
      refine runS_x (I := inf) (J := jnf) ⟨false, false, [], 0, 0⟩ 9999 rfl (by repeat (first | exact obs_nil | refine obs_draw (by kernel_rfl) ?_ | refine obs_same ?_ | refine obs_and ?_ | refine obs_by (by (simp [inB] <;> omega)) ?_)) ?_
      refine runS_draw 15 (by kernel_rfl) (lexj_x (I := inf) (J := jnf) 99 rfl rfl (by repeat (first | exact obs_nil | refine obs_same ?_ | refine obs_and ?_ | refine obs_by (by (simp [inB] <;> omega)) ?_)) (lexj_call rfl rfl rfl rfl rfl rfl rfl rfl (digit_within _ _ _) (lexj_x (I := inf) (J := jnf) 99 rfl rfl (by repeat (first | exact obs_nil | refine obs_same ?_ | refine obs_and ?_ | refine obs_by (by (simp [inB] <;> omega)) ?_)) (lexj_callU rfl rfl (by first | exact .v rfl rfl rfl rfl | exact .o rfl rfl rfl rfl) rfl rfl (by repeat (first | exact .nil | refine .cons (.n rfl) ?_ | refine .cons .o ?_ | refine .cons gok_and ?_)) rfl rfl rfl rfl rfl (fun hcond => (rules_3 _)) (lexj_x (I := inf) (J := jnf) 99 rfl rfl (by repeat (first | exact obs_nil | refine obs_same ?_ | refine obs_and ?_ | refine obs_by (by (simp [inB] <;> omega)) ?_)) lexj_nil))))) ?_
      refine runS_x (I := inf) (J := jnf) ⟨false, false, [], 0, 0⟩ 9999 rfl (by repeat (first | exact obs_nil | refine obs_draw (by kernel_rfl) ?_ | refine obs_same ?_ | refine obs_and ?_ | refine obs_by (by (simp [inB] <;> omega)) ?_)) ?_
      refine runS_ret (I := inf) 0 rfl (Nat.le_refl _) rfl .nil rfl ⟨?_, rfl⟩
      rfl
    · refine callS_body (n := 20) rfl rfl fun w ρ X => ?_
      refine runS_x (I := inf) (J := jnf) ⟨false, false, [], 0, 0⟩ 9999 rfl (by repeat (first | exact obs_nil | refine obs_draw (by kernel_rfl) ?_ | refine obs_same ?_ | refine obs_and ?_ | refine obs_by (by (simp [inB] <;> omega)) ?_)) ?_
      refine runS_call rfl rfl rfl rfl rfl rfl rfl digit_rules ?_
      refine runS_x (I := inf) (J := jnf) ⟨false, false, [], 0, 0⟩ 9999 rfl (by repeat (first | exact obs_nil | refine obs_draw (by kernel_rfl) ?_ | refine obs_same ?_ | refine obs_and ?_ | refine obs_by (by (simp [inB] <;> omega)) ?_)) ?_
      refine runS_draw 15 (by kernel_rfl) (lexj_x (I := inf) (J := jnf) 99 rfl rfl (by repeat (first | exact obs_nil | refine obs_same ?_ | refine obs_and ?_ | refine obs_by (by (simp [inB] <;> omega)) ?_)) (lexj_call rfl rfl rfl rfl rfl rfl rfl rfl (digit_within _ _ _) (lexj_x (I := inf) (J := jnf) 99 rfl rfl (by repeat (first | exact obs_nil | refine obs_same ?_ | refine obs_and ?_ | refine obs_by (by (simp [inB] <;> omega)) ?_)) (lexj_callU rfl rfl (by first | exact .v rfl rfl rfl rfl | exact .o rfl rfl rfl rfl) rfl rfl (by repeat (first | exact .nil | refine .cons (.n rfl) ?_ | refine .cons .o ?_ | refine .cons gok_and ?_)) rfl rfl rfl rfl rfl (fun hcond => (rules_3 _)) (lexj_x (I := inf) (J := jnf) 99 rfl rfl (by repeat (first | exact obs_nil | refine obs_same ?_ | refine obs_and ?_ | refine obs_by (by (simp [inB] <;> omega)) ?_)) lexj_nil))))) ?_
      refine runS_x (I := inf) (J := jnf) ⟨false, false, [], 0, 0⟩ 9999 rfl (by repeat (first | exact obs_nil | refine obs_draw (by kernel_rfl) ?_ | refine obs_same ?_ | refine obs_and ?_ | refine obs_by (by (simp [inB] <;> omega)) ?_)) ?_
      refine runS_ret (I := inf) 0 rfl (Nat.le_refl _) rfl .nil rfl ⟨?_, rfl⟩
      rfl
  · have h0 : validT t = false := by
      cases hv : validT t with
      | false => rfl
      | true => have := valid_kind hv; omega
    rw [h0]
    obtain ⟨k, p, q, n, v, pic⟩ := t
    dsimp only at hb hk
    have hf : (decide (0 ≤ k) && decide (k ≤ 9)) = false := by
      cases hh : (decide (0 ≤ k) && decide (k ≤ 9)) with
      | false => rfl
      | true => simp at hh; omega
    have habs : ∀ {g : FuncId} {xs : List AV}, condOf none (decide (0 ≤ k) && decide (k ≤ 9)) true = true → CallT Try.prog g xs [] (fun o A => o = .ret (bv false) ∧ A = []) := fun h => by rw [hf] at h; cases h
    rcases Int.lt_or_le k 0 with h | h
    · obtain ⟨m, rfl⟩ : ∃ m, k = Int.negSucc m := ⟨(-k - 1).toNat, by omega⟩
      refine callS_body (n := 20) rfl rfl fun w ρ X => ?_
      refine runS_x (I := inf) (J := jnf) ⟨false, false, [], 0, 0⟩ 9999 rfl (by repeat (first | exact obs_nil | refine obs_draw (by kernel_rfl) ?_ | refine obs_same ?_ | refine obs_and ?_ | refine obs_by (by (simp [inB] <;> omega)) ?_)) ?_
      refine runS_call rfl rfl rfl rfl rfl rfl rfl digit_rules ?_
      refine runS_x (I := inf) (J := jnf) ⟨false, false, [], 0, 0⟩ 9999 rfl (by repeat (first | exact obs_nil | refine obs_draw (by kernel_rfl) ?_ | refine obs_same ?_ | refine obs_and ?_ | refine obs_by (by (simp [inB] <;> omega)) ?_)) ?_
      refine runS_draw 15 (by kernel_rfl) (lexj_x (I := inf) (J := jnf) 99 rfl rfl (by repeat (first | exact obs_nil | refine obs_same ?_ | refine obs_and ?_ | refine obs_by (by (simp [inB] <;> omega)) ?_)) (lexj_call rfl rfl rfl rfl rfl rfl rfl rfl (digit_within _ _ _) (lexj_x (I := inf) (J := jnf) 99 rfl rfl (by repeat (first | exact obs_nil | refine obs_same ?_ | refine obs_and ?_ | refine obs_by (by (simp [inB] <;> omega)) ?_)) (lexj_callU rfl rfl (by first | exact .v rfl rfl rfl rfl | exact .o rfl rfl rfl rfl) rfl rfl (by repeat (first | exact .nil | refine .cons (.n rfl) ?_ | refine .cons .o ?_ | refine .cons gok_and ?_)) rfl rfl rfl rfl rfl (fun hcond => (habs hcond)) (lexj_x (I := inf) (J := jnf) 99 rfl rfl (by repeat (first | exact obs_nil | refine obs_same ?_ | refine obs_and ?_ | refine obs_by (by (simp [inB] <;> omega)) ?_)) lexj_nil))))) ?_
      refine runS_x (I := inf) (J := jnf) ⟨false, false, [], 0, 0⟩ 9999 rfl (by repeat (first | exact obs_nil | refine obs_draw (by kernel_rfl) ?_ | refine obs_same ?_ | refine obs_and ?_ | refine obs_by (by (simp [inB] <;> omega)) ?_)) ?_
      refine runS_ret (I := inf) 0 rfl (Nat.le_refl _) rfl .nil rfl ⟨?_, rfl⟩
      show Out.ret (bv (if _ = true then false else false)) = _
      split <;> rfl
    · obtain ⟨m, rfl⟩ : ∃ m : Nat, k = ((m + 10 : Nat) : Int) := ⟨(k - 10).toNat, by omega⟩
      refine callS_body (n := 20) rfl rfl fun w ρ X => ?_
      refine runS_x (I := inf) (J := jnf) ⟨false, false, [], 0, 0⟩ 9999 rfl (by repeat (first | exact obs_nil | refine obs_draw (by kernel_rfl) ?_ | refine obs_same ?_ | refine obs_and ?_ | refine obs_by (by (simp [inB] <;> omega)) ?_)) ?_
      refine runS_call rfl rfl rfl rfl rfl rfl rfl digit_rules ?_
      refine runS_x (I := inf) (J := jnf) ⟨false, false, [], 0, 0⟩ 9999 rfl (by repeat (first | exact obs_nil | refine obs_draw (by kernel_rfl) ?_ | refine obs_same ?_ | refine obs_and ?_ | refine obs_by (by (simp [inB] <;> omega)) ?_)) ?_
      refine runS_draw 15 (by kernel_rfl) (lexj_x (I := inf) (J := jnf) 99 rfl rfl (by repeat (first | exact obs_nil | refine obs_same ?_ | refine obs_and ?_ | refine obs_by (by (simp [inB] <;> omega)) ?_)) (lexj_call rfl rfl rfl rfl rfl rfl rfl rfl (digit_within _ _ _) (lexj_x (I := inf) (J := jnf) 99 rfl rfl (by repeat (first | exact obs_nil | refine obs_same ?_ | refine obs_and ?_ | refine obs_by (by (simp [inB] <;> omega)) ?_)) (lexj_callU rfl rfl (by first | exact .v rfl rfl rfl rfl | exact .o rfl rfl rfl rfl) rfl rfl (by repeat (first | exact .nil | refine .cons (.n rfl) ?_ | refine .cons .o ?_ | refine .cons gok_and ?_)) rfl rfl rfl rfl rfl (fun hcond => (habs hcond)) (lexj_x (I := inf) (J := jnf) 99 rfl rfl (by repeat (first | exact obs_nil | refine obs_same ?_ | refine obs_and ?_ | refine obs_by (by (simp [inB] <;> omega)) ?_)) lexj_nil))))) ?_
      refine runS_x (I := inf) (J := jnf) ⟨false, false, [], 0, 0⟩ 9999 rfl (by repeat (first | exact obs_nil | refine obs_draw (by kernel_rfl) ?_ | refine obs_same ?_ | refine obs_and ?_ | refine obs_by (by (simp [inB] <;> omega)) ?_)) ?_
      refine runS_ret (I := inf) 0 rfl (Nat.le_refl _) rfl .nil rfl ⟨?_, rfl⟩
      show Out.ret (bv (if _ = true then false else false)) = _
      split <;> rfl
end Go.Iron.Try

/- The level package's functions (seat Ytamhonbhoelohaa): the reference's Valid. -/
namespace Go.Iron.Try
open Go.Proofs

def baseOK (l : List Fld) (i : Nat) : Bool := inR (fat l i).level 1 255 && !(decide (0 < i) && decide ((fat l i).level < 2)) && nameB (fat l i).name && inR (fat l i).count 0 200
def kindOK (l : List Fld) (i : Nat) : Bool := if innerB l i then decide ((fat l i).typ = typ0) else validT (fat l i).typ && !(fat l i).union
def refOK (l : List Fld) (i : Nat) : Bool := decide (-1 ≤ (fat l i).refer) && decide ((fat l i).refer < i) &&
  (decide ((fat l i).refer < 0) || (!innerB l (fat l i).refer.toNat && ((fat l (fat l i).refer.toNat).typ.kind == 1 || (fat l (fat l i).refer.toNat).typ.kind == 2) && arrs l (fat l i).refer.toNat == 0 && decide (1 ≤ (fat l i).count)))
def sibC (l : List Fld) (i k : Nat) : Bool := !((par l i).isSome && par l k == par l i && ((fat l k).name == (fat l i).name || !((fat l k).level == (fat l i).level)))
def sibPre (l : List Fld) (i k : Nat) : Bool := (List.range k).all (sibC l i)
def okA (l : List Fld) (i : Nat) : Bool := baseOK l i && kindOK l i && refOK l i && decide (arrs l i ≤ 3) && sibPre l i i
def okPre (l : List Fld) (k : Nat) : Bool := (List.range k).all (okA l)
def validF (l : List Fld) : Bool := decide (1 ≤ l.length) && decide (l.length ≤ 200) && (fat l 0).level == 1 && okPre l l.length
theorem allPre_false {g : Nat → Bool} {i m : Nat} (h : i < m) (e : g i = false) : (List.range m).all g = false := by
  rw [List.all_eq_false]
  exact ⟨i, List.mem_range.2 h, by simp [e]⟩
theorem allPre_succ {g : Nat → Bool} {m : Nat} : (List.range (m + 1)).all g = ((List.range m).all g && g m) := by simp [List.range_succ]
theorem validF_false {l : List Fld} {i : Nat} (h : i < l.length) (e : okA l i = false) : validF l = false := by
  rw [validF, okPre, allPre_false h e, Bool.and_false]

/-- Sizes of all texts. -/
def smallF (l : List Fld) : Prop := l.length < 1000000000 ∧ ∀ i, i < l.length → (fat l i).name.length < 9223372036854775807 ∧ (fat l i).typ.pic.length < 9223372036854775807

theorem typ_ext {a b : Typ} (h : a.kind = b.kind ∧ a.p = b.p ∧ a.q = b.q ∧ a.n = b.n ∧ a.vary = b.vary ∧ a.pic = b.pic) : a = b := by
  obtain ⟨a1, a2, a3, a4, a5, a6⟩ := a
  obtain ⟨b1, b2, b3, b4, b5, b6⟩ := b
  obtain ⟨h1, h2, h3, h4, h5, h6⟩ := h
  dsimp only at *
  subst h1 h2 h3 h4 h5 h6
  rfl

theorem typ0B (t : Typ) : (t.kind == 0 && (t.p == 0 && (t.q == 0 && (t.n == 0 && (t.vary == false && ((bs t.pic).toList == ({ data := #[] } : ByteArray).toList && true)))))) = decide (t = typ0) := by
  rw [emptyB]
  obtain ⟨k, p, q, n, v, pic⟩ := t
  rw [Bool.eq_iff_iff]
  simp [typ0]
theorem ref_innerI (nl : Option Bool) (l : List Fld) (x : Int) (h0 : 0 ≤ x) (h1 : x < l.length) (hb : l.length < 9223372036854775807) : CallT Try.prog 124 [fldS nl l, iv x] [] (fun o A => o = .ret (bv (innerB l x.toNat)) ∧ A = []) := by
  obtain ⟨k, rfl⟩ : ∃ k : Nat, x = k := ⟨x.toNat, by omega⟩
  exact ref_inner nl l k (by omega) hb
theorem ref_arraysI (nl : Option Bool) (l : List Fld) (x : Int) (h0 : 0 ≤ x) (h1 : x < l.length) (hb : l.length < 9223372036854775807) : CallT Try.prog 130 [fldS nl l, iv x] [] (fun o A => o = .ret (iv (arrs l x.toNat)) ∧ A = []) := by
  obtain ⟨k, rfl⟩ : ∃ k : Nat, x = k := ⟨x.toNat, by omega⟩
  exact ref_arrays nl l k (by omega) hb
theorem opI_ge (o : Option Nat) : decide (opI o ≥ 0) = o.isSome := by cases o <;> simp [opI]
theorem opI_eq (a b : Option Nat) : (opI a == opI b) = (a == b) := by
  cases a <;> cases b <;> (rw [Bool.eq_iff_iff]; simp [opI]) <;> omega
theorem sibB (l : List Fld) (i k : Nat) : (if (if decide (opI (par l i) ≥ 0) = true then opI (par l k) == opI (par l i) else false) = true then
      (if ((bs (fat l k).name).toList == (bs (fat l i).name).toList) = true then true else (fat l k).level != (fat l i).level) else false) = !sibC l i k := by
  rw [opI_ge, opI_eq, bs_toList, bs_toList, sibC, Bool.not_not]
  cases (par l i).isSome <;> cases (par l k == par l i) <;> cases ((fat l k).name == (fat l i).name) <;> simp [bne]
theorem refB (l : List Fld) (i : Nat) (h : 0 ≤ (fat l i).refer) (h2 : (fat l i).refer < i) : (if (if (if innerB l (fat l i).refer.toNat = true then true else (if ((fat l (fat l i).refer.toNat).typ.kind != 1) = true then (fat l (fat l i).refer.toNat).typ.kind != 2 else false)) = true then true
    else decide ((arrs l (fat l i).refer.toNat : Int) > 0)) = true then true else decide ((fat l i).count < 1)) = !refOK l i := by
  unfold refOK
  generalize (fat l i).refer = r at *
  generalize innerB l r.toNat = b
  generalize (fat l r.toNat).typ.kind = kd
  generalize arrs l r.toNat = a
  rw [Bool.eq_iff_iff]
  cases b <;> simp <;> omega
theorem ref_valid (nl : Option Bool) (l : List Fld) (hs : smallF l) : CallT Try.prog 79 [fldS nl l] [] (fun o A => o = .ret (bv (validF l)) ∧ A = []) := by
  obtain ⟨hb, hsm⟩ := hs
  refine callS_body (n := 167) rfl rfl fun w ρ X => ?_
  by_cases h0 : l.length = 0
  · have : l = [] := List.eq_nil_of_length_eq_zero h0
    subst this
    refine runS_x (I := inf) (J := jnf) ⟨true, false, [], 0, 0⟩ 9999 rfl (by repeat (first | exact obs_nil | refine obs_draw (by kernel_rfl) ?_ | refine obs_same ?_ | refine obs_and ?_ | refine obs_by (by (simp [inB] <;> omega)) ?_)) ?_
    refine runS_ret (I := inf) 0 rfl (Nat.le_refl _) rfl .nil rfl ⟨?_, rfl⟩
    rfl
  have hpos : 0 < l.length := by omega
  refine runS_x (I := inf) (J := jnf) ⟨false, false, [], 0, 0⟩ 9999 rfl (by repeat (first | exact obs_nil | refine obs_draw (by kernel_rfl) ?_ | refine obs_same ?_ | refine obs_and ?_ | refine obs_by (by (simp [inB, hpos] <;> omega)) ?_)) ?_
  refine runS_cond rfl (fun h => ?_) (fun h => ?_)
  · refine runS_x (I := inf) (J := jnf) ⟨false, false, [], 0, 0⟩ 9999 rfl (by repeat (first | exact obs_nil | refine obs_draw (by kernel_rfl) ?_ | refine obs_same ?_ | refine obs_and ?_ | refine obs_by (by (simp [inB] <;> omega)) ?_)) ?_
    refine runS_ret (I := inf) 0 rfl (Nat.le_refl _) rfl .nil rfl ⟨?_, rfl⟩
    have : validF l = false := by
      cases hv : validF l with
      | false => rfl
      | true =>
        exfalso
        simp [-List.getD_eq_getElem?_getD, -List.length_eq_zero_iff, fat, validF] at hv
        simp [-List.getD_eq_getElem?_getD, -List.length_eq_zero_iff, fat] at h
        omega
    rw [this]
    rfl
  have h1 : 1 ≤ l.length ∧ l.length ≤ 200 ∧ (fat l 0).level = 1 := by
    simp [-List.getD_eq_getElem?_getD, -List.length_eq_zero_iff, fat] at h ⊢
    omega
  refine runS_x (I := inf) (J := jnf) ⟨false, false, [], 0, 0⟩ 9999 rfl (by repeat (first | exact obs_nil | refine obs_draw (by kernel_rfl) ?_ | refine obs_same ?_ | refine obs_and ?_ | refine obs_by (by (simp [inB] <;> omega)) ?_)) ?_
  refine runS_while (fun (i : Nat) τ ar => (τ 0 = fldS nl l ∧ τ 3 = iv i) ∧ ar = [] ∧ i ≤ l.length ∧ okPre l i = true) (fun i => l.length - i) 0 ⟨⟨rfl, rfl⟩, rfl, Nat.zero_le _, rfl⟩ ?_
  rintro i τ' ar' ⟨⟨h0, h3⟩, rfl, hi, hp⟩ ih
  refine runS_says 0 (by exact h0) (Says.refl _) ?_; refine runS_says 3 (by exact h3) (Says.refl _) ?_
  refine runS_x (I := inf) (J := jnf) ⟨false, false, [], 0, 0⟩ 9999 rfl (by repeat (first | exact obs_nil | refine obs_draw (by kernel_rfl) ?_ | refine obs_same ?_ | refine obs_and ?_ | refine obs_by (by (simp [inB] <;> omega)) ?_)) ?_
  refine runS_cond rfl (fun hlt => ?_) (fun hlt => ?_)
  · have hlt' : i < l.length := by simpa using hlt
    refine runS_x (I := inf) (J := jnf) ⟨false, false, [], 0, 0⟩ 9999 rfl (by repeat (first | exact obs_nil | refine obs_draw (by kernel_rfl) ?_ | refine obs_same ?_ | refine obs_and ?_ | refine obs_by (by (simp [inB, hlt'] <;> omega)) ?_)) ?_
    refine runS_callU rfl rfl (by first | exact .v rfl rfl rfl rfl | exact .o rfl rfl rfl rfl) rfl rfl (by repeat (first | exact .nil | refine .cons (.n rfl) ?_ | refine .cons .o ?_ | refine .cons gok_and ?_)) rfl rfl rfl rfl rfl (fun _ => (ref_capital (fat l i).name (hsm i hlt').1)) ?_
    refine runS_x (I := inf) (J := jnf) ⟨false, false, [], 0, 0⟩ 9999 rfl (by repeat (first | exact obs_nil | refine obs_draw (by kernel_rfl) ?_ | refine obs_same ?_ | refine obs_and ?_ | refine obs_by (by (simp [inB] <;> omega)) ?_)) ?_
    refine runS_cond rfl (fun hbase => ?_) (fun hbase => ?_)
    · refine runS_x (I := inf) (J := jnf) ⟨false, false, [], 0, 0⟩ 9999 rfl (by repeat (first | exact obs_nil | refine obs_draw (by kernel_rfl) ?_ | refine obs_same ?_ | refine obs_and ?_ | refine obs_by (by (simp [inB] <;> omega)) ?_)) ?_
      refine runS_drop 0 (Nat.zero_le _) rfl (by repeat (first | exact .nil | refine .row (fun j hj => rfl) ?_ | refine .box rfl ?_ | refine .fam (fun k j hk hj => rfl) ?_ | refine .loop (scrub_under _ _) ?_ | refine .dfr ?_ | refine .gone ?_ | refine .map (fun p hp => by (obtain ⟨k, _, rfl⟩ := List.mem_map.1 hp; rfl)) ?_)) rfl rfl rfl (by repeat (first | exact .nil | refine .cons rfl rfl rfl (scrub_under _ _) ?_)) ?_
      refine runS_ret (I := inf) 0 rfl (Nat.le_refl _) rfl .nil rfl ⟨?_, rfl⟩
      have : baseOK l i = false := by
        unfold baseOK inR
        revert hbase
        generalize nameB (fat l i).name = nb
        intro hbase
        cases nb <;> (simp [-List.getD_eq_getElem?_getD, -List.length_eq_zero_iff, fat] at hbase ⊢ <;> omega)
      rw [validF_false hlt' (by rw [okA, this]; rfl)]
      rfl
    have hbase' : baseOK l i = true := by
      unfold baseOK inR
      revert hbase
      generalize nameB (fat l i).name = nb
      intro hbase
      cases nb <;> (simp [-List.getD_eq_getElem?_getD, -List.length_eq_zero_iff, fat] at hbase ⊢ <;> omega)
    refine runS_x (I := inf) (J := jnf) ⟨false, false, [], 0, 0⟩ 9999 rfl (by repeat (first | exact obs_nil | refine obs_draw (by kernel_rfl) ?_ | refine obs_same ?_ | refine obs_and ?_ | refine obs_by (by (simp [inB] <;> omega)) ?_)) ?_
    refine runS_call rfl rfl rfl rfl rfl rfl rfl (ref_inner nl l i hlt' (by omega)) ?_
    refine runS_x (I := inf) (J := jnf) ⟨false, false, [], 0, 0⟩ 9999 rfl (by repeat (first | exact obs_nil | refine obs_draw (by kernel_rfl) ?_ | refine obs_same ?_ | refine obs_and ?_ | refine obs_by (by (simp [inB] <;> omega)) ?_)) ?_
    refine runS_cut (fun τ ar => (τ 0 = fldS nl l ∧ τ 3 = iv i ∧ τ 4 = .ptr 0 0 0) ∧ ar = [.box 90 (fldE (fat l i))] ∧ kindOK l i = true) (fun rest => ?_) ?_
    · refine runS_cond rfl (fun hin => ?_) (fun hin => ?_)
      · refine runS_x (I := inf) (J := jnf) ⟨false, false, [], 7, 0⟩ 9999 rfl (by repeat (first | exact obs_nil | refine obs_draw (by kernel_rfl) ?_ | refine obs_same ?_ | refine obs_and ?_ | refine obs_by (by (simp [inB] <;> omega)) ?_)) ?_
        refine runS_cond rfl (fun hz => ?_) (fun hz => ?_)
        · refine runS_x (I := inf) (J := jnf) ⟨false, false, [], 7, 0⟩ 9999 rfl (by repeat (first | exact obs_nil | refine obs_draw (by kernel_rfl) ?_ | refine obs_same ?_ | refine obs_and ?_ | refine obs_by (by (simp [inB] <;> omega)) ?_)) ?_
          refine runS_ret (I := inf) 0 rfl (Nat.le_refl _) rfl .nil rfl ⟨?_, rfl⟩
          have : kindOK l i = false := by
            rw [kindOK, if_pos hin]
            have hz' : (!decide ((fat l i).typ = typ0)) = true := by rw [← typ0B]; exact hz
            simpa using hz'
          rw [validF_false hlt' (by rw [okA, this]; simp)]
          rfl
        · refine runS_x (I := inf) (J := jnf) ⟨false, false, [], 7, 0⟩ 9999 rfl (by repeat (first | exact obs_nil | refine obs_draw (by kernel_rfl) ?_ | refine obs_same ?_ | refine obs_and ?_ | refine obs_by (by (simp [inB] <;> omega)) ?_)) ?_
          refine rest _ _ ⟨⟨rfl, rfl, rfl⟩, rfl, ?_⟩
          rw [kindOK, if_pos hin]
          have hz' : (!decide ((fat l i).typ = typ0)) = false := by rw [← typ0B]; exact hz
          simpa using hz'
      · refine runS_x (I := inf) (J := jnf) ⟨false, false, [], 7, 0⟩ 9999 rfl (by repeat (first | exact obs_nil | refine obs_draw (by kernel_rfl) ?_ | refine obs_same ?_ | refine obs_and ?_ | refine obs_by (by (simp [inB] <;> omega)) ?_)) ?_
        refine runS_call rfl rfl rfl rfl rfl rfl rfl (ref01_valid (fat l i).typ (hsm i hlt').2) ?_
        refine runS_x (I := inf) (J := jnf) ⟨false, false, [], 7, 0⟩ 9999 rfl (by repeat (first | exact obs_nil | refine obs_draw (by kernel_rfl) ?_ | refine obs_same ?_ | refine obs_and ?_ | refine obs_by (by (simp [inB] <;> omega)) ?_)) ?_
        refine runS_cond rfl (fun hz => ?_) (fun hz => ?_)
        · refine runS_x (I := inf) (J := jnf) ⟨false, false, [], 7, 0⟩ 9999 rfl (by repeat (first | exact obs_nil | refine obs_draw (by kernel_rfl) ?_ | refine obs_same ?_ | refine obs_and ?_ | refine obs_by (by (simp [inB] <;> omega)) ?_)) ?_
          refine runS_ret (I := inf) 0 rfl (Nat.le_refl _) rfl .nil rfl ⟨?_, rfl⟩
          have : kindOK l i = false := by
            rw [kindOK, hin]
            revert hz
            generalize validT (fat l i).typ = nb
            intro hz
            cases nb <;> (simp [-List.getD_eq_getElem?_getD, -List.length_eq_zero_iff, fat] at hz ⊢ <;> first | exact hz | omega)
          rw [validF_false hlt' (by rw [okA, this]; simp)]
          rfl
        · refine runS_x (I := inf) (J := jnf) ⟨false, false, [], 7, 0⟩ 9999 rfl (by repeat (first | exact obs_nil | refine obs_draw (by kernel_rfl) ?_ | refine obs_same ?_ | refine obs_and ?_ | refine obs_by (by (simp [inB] <;> omega)) ?_)) ?_
          refine rest _ _ ⟨⟨rfl, rfl, rfl⟩, rfl, ?_⟩
          rw [kindOK, hin]
          revert hz
          generalize validT (fat l i).typ = nb
          intro hz
          cases nb <;> (simp [-List.getD_eq_getElem?_getD, -List.length_eq_zero_iff, fat] at hz ⊢ <;> first | exact hz | omega)
    rintro τ2 ar2 ⟨⟨g0, g3, g4⟩, rfl, hkind⟩
    refine runS_says 0 (by exact g0) (Says.refl _) ?_; refine runS_says 3 (by exact g3) (Says.refl _) ?_; refine runS_says 4 (by exact g4) (Says.refl _) ?_
    refine runS_x (I := inf) (J := jnf) ⟨false, false, [], 0, 0⟩ 9999 rfl (by repeat (first | exact obs_nil | refine obs_draw (by kernel_rfl) ?_ | refine obs_same ?_ | refine obs_and ?_ | refine obs_by (by (simp [inB] <;> omega)) ?_)) ?_
    refine runS_cond rfl (fun hr => ?_) (fun hr => ?_)
    · refine runS_x (I := inf) (J := jnf) ⟨false, false, [], 0, 0⟩ 9999 rfl (by repeat (first | exact obs_nil | refine obs_draw (by kernel_rfl) ?_ | refine obs_same ?_ | refine obs_and ?_ | refine obs_by (by (simp [inB] <;> omega)) ?_)) ?_
      refine runS_ret (I := inf) 0 rfl (Nat.le_refl _) rfl .nil rfl ⟨?_, rfl⟩
      have : refOK l i = false := by
        unfold refOK
        simp [-List.getD_eq_getElem?_getD, -List.length_eq_zero_iff, fat] at hr ⊢
        omega
      rw [validF_false hlt' (by rw [okA, this]; simp)]
      rfl
    have hr' : -1 ≤ (fat l i).refer ∧ (fat l i).refer < i := by
      simp [-List.getD_eq_getElem?_getD, -List.length_eq_zero_iff, fat] at hr ⊢
      omega
    refine runS_x (I := inf) (J := jnf) ⟨false, false, [], 0, 0⟩ 9999 rfl (by repeat (first | exact obs_nil | refine obs_draw (by kernel_rfl) ?_ | refine obs_same ?_ | refine obs_and ?_ | refine obs_by (by (simp [inB] <;> omega)) ?_)) ?_
    refine runS_cut (fun τ ar => (τ 0 = fldS nl l ∧ τ 3 = iv i ∧ τ 4 = .ptr 0 0 0) ∧ ar = [.box 90 (fldE (fat l i))] ∧ refOK l i = true) (fun rest => ?_) ?_
    · refine runS_cond rfl (fun hge => ?_) (fun hge => ?_)
      · have hge' : 0 ≤ (fat l i).refer := by simpa using hge
        have hrl : (fat l i).refer < l.length := by omega
        have hin : inB (l.getD (Int.toNat i) fld0).refer l.length = true := by
          rw [inB_iff]
          exact ⟨hge', hrl⟩
        refine runS_x (I := inf) (J := jnf) ⟨false, false, [], 7, 0⟩ 9999 rfl (by repeat (first | exact obs_nil | refine obs_draw (by kernel_rfl) ?_ | refine obs_same ?_ | refine obs_and ?_ | refine obs_by (by first | exact fun _ => hin | (simp [inB] <;> omega)) ?_)) ?_
        refine runS_call rfl rfl rfl rfl rfl rfl rfl (ref_innerI nl l _ hge' hrl (by omega)) ?_
        refine runS_x (I := inf) (J := jnf) ⟨false, false, [], 7, 0⟩ 9999 rfl (by repeat (first | exact obs_nil | refine obs_draw (by kernel_rfl) ?_ | refine obs_same ?_ | refine obs_and ?_ | refine obs_by (by (simp [inB] <;> omega)) ?_)) ?_
        refine runS_callU rfl rfl (by first | exact .v rfl rfl rfl rfl | exact .o rfl rfl rfl rfl) rfl rfl (by repeat (first | exact .nil | refine .cons (.n rfl) ?_ | refine .cons .o ?_ | refine .cons gok_and ?_)) rfl rfl rfl rfl rfl (fun _ => (ref_arraysI nl l _ hge' hrl (by omega))) ?_
        refine runS_x (I := inf) (J := jnf) ⟨false, false, [], 7, 0⟩ 9999 rfl (by repeat (first | exact obs_nil | refine obs_draw (by kernel_rfl) ?_ | refine obs_same ?_ | refine obs_and ?_ | refine obs_by (by (simp [inB] <;> omega)) ?_)) ?_
        refine runS_cond rfl (fun hz => ?_) (fun hz => ?_)
        · refine runS_x (I := inf) (J := jnf) ⟨false, false, [], 7, 0⟩ 9999 rfl (by repeat (first | exact obs_nil | refine obs_draw (by kernel_rfl) ?_ | refine obs_same ?_ | refine obs_and ?_ | refine obs_by (by (simp [inB] <;> omega)) ?_)) ?_
          refine runS_ret (I := inf) 0 rfl (Nat.le_refl _) rfl .nil rfl ⟨?_, rfl⟩
          have : refOK l i = false := by
            have := (refB l i hge' hr'.2).symm.trans hz
            simpa using this
          rw [validF_false hlt' (by rw [okA, this]; simp)]
          rfl
        · refine runS_x (I := inf) (J := jnf) ⟨false, false, [], 7, 0⟩ 9999 rfl (by repeat (first | exact obs_nil | refine obs_draw (by kernel_rfl) ?_ | refine obs_same ?_ | refine obs_and ?_ | refine obs_by (by (simp [inB] <;> omega)) ?_)) ?_
          refine runS_drop 1 (Nat.zero_le _) rfl (by repeat (first | exact .nil | refine .row (fun j hj => rfl) ?_ | refine .box rfl ?_ | refine .fam (fun k j hk hj => rfl) ?_ | refine .loop (scrub_under _ _) ?_ | refine .dfr ?_ | refine .gone ?_ | refine .map (fun p hp => by (obtain ⟨k, _, rfl⟩ := List.mem_map.1 hp; rfl)) ?_)) rfl rfl rfl (by repeat (first | exact .nil | refine .cons rfl rfl rfl (scrub_under _ _) ?_)) ?_
          refine rest _ _ ⟨⟨rfl, rfl, rfl⟩, rfl, ?_⟩
          have := (refB l i hge' hr'.2).symm.trans hz
          simpa using this
      · refine runS_x (I := inf) (J := jnf) ⟨false, false, [], 7, 0⟩ 9999 rfl (by repeat (first | exact obs_nil | refine obs_draw (by kernel_rfl) ?_ | refine obs_same ?_ | refine obs_and ?_ | refine obs_by (by (simp [inB] <;> omega)) ?_)) ?_
        refine rest _ _ ⟨⟨rfl, rfl, rfl⟩, rfl, ?_⟩
        unfold refOK
        simp [-List.getD_eq_getElem?_getD, -List.length_eq_zero_iff, fat] at hge hr' ⊢
        omega
    rintro τ3 ar3 ⟨⟨g0, g3, g4⟩, rfl, hrefer⟩
    refine runS_says 0 (by exact g0) (Says.refl _) ?_; refine runS_says 3 (by exact g3) (Says.refl _) ?_; refine runS_says 4 (by exact g4) (Says.refl _) ?_
    refine runS_x (I := inf) (J := jnf) ⟨false, false, [], 0, 0⟩ 9999 rfl (by repeat (first | exact obs_nil | refine obs_draw (by kernel_rfl) ?_ | refine obs_same ?_ | refine obs_and ?_ | refine obs_by (by (simp [inB] <;> omega)) ?_)) ?_
    refine runS_call rfl rfl rfl rfl rfl rfl rfl (ref_arrays nl l i hlt' (by omega)) ?_
    refine runS_x (I := inf) (J := jnf) ⟨false, false, [], 0, 0⟩ 9999 rfl (by repeat (first | exact obs_nil | refine obs_draw (by kernel_rfl) ?_ | refine obs_same ?_ | refine obs_and ?_ | refine obs_by (by (simp [inB] <;> omega)) ?_)) ?_
    refine runS_cond rfl (fun ha => ?_) (fun ha => ?_)
    · refine runS_x (I := inf) (J := jnf) ⟨false, false, [], 0, 0⟩ 9999 rfl (by repeat (first | exact obs_nil | refine obs_draw (by kernel_rfl) ?_ | refine obs_same ?_ | refine obs_and ?_ | refine obs_by (by (simp [inB] <;> omega)) ?_)) ?_
      refine runS_ret (I := inf) 0 rfl (Nat.le_refl _) rfl .nil rfl ⟨?_, rfl⟩
      have : ¬ arrs l i ≤ 3 := by
        simp [-List.getD_eq_getElem?_getD, -List.length_eq_zero_iff, fat] at ha
        omega
      rw [validF_false hlt' (by rw [okA, decide_eq_false this]; simp)]
      rfl
    have ha' : arrs l i ≤ 3 := by
      simp [-List.getD_eq_getElem?_getD, -List.length_eq_zero_iff, fat] at ha
      omega
    refine runS_x (I := inf) (J := jnf) ⟨false, false, [], 0, 0⟩ 9999 rfl (by repeat (first | exact obs_nil | refine obs_draw (by kernel_rfl) ?_ | refine obs_same ?_ | refine obs_and ?_ | refine obs_by (by (simp [inB] <;> omega)) ?_)) ?_
    refine runS_call rfl rfl rfl rfl rfl rfl rfl (ref_parent nl l i hlt' (by omega)) ?_
    refine runS_x (I := inf) (J := jnf) ⟨false, false, [], 0, 0⟩ 9999 rfl (by repeat (first | exact obs_nil | refine obs_draw (by kernel_rfl) ?_ | refine obs_same ?_ | refine obs_and ?_ | refine obs_by (by (simp [inB] <;> omega)) ?_)) ?_
    refine runS_while (fun (k : Nat) τ ar => (τ 0 = fldS nl l ∧ τ 3 = iv i ∧ τ 4 = .ptr 0 0 0 ∧ τ 6 = iv (opI (par l i)) ∧ τ 7 = iv k) ∧ ar = [.box 90 (fldE (fat l i))] ∧ k ≤ i ∧ sibPre l i k = true) (fun k => i - k) 0 ⟨⟨rfl, rfl, rfl, rfl, rfl⟩, rfl, Nat.zero_le _, rfl⟩ ?_
    rintro k τ4 ar4 ⟨⟨g0, g3, g4, g6, g7⟩, rfl, hk, hsib⟩ ih2
    refine runS_says 0 (by exact g0) (Says.refl _) ?_; refine runS_says 3 (by exact g3) (Says.refl _) ?_; refine runS_says 4 (by exact g4) (Says.refl _) ?_; refine runS_says 6 (by exact g6) (Says.refl _) ?_; refine runS_says 7 (by exact g7) (Says.refl _) ?_
    refine runS_x (I := inf) (J := jnf) ⟨false, false, [], 0, 0⟩ 9999 rfl (by repeat (first | exact obs_nil | refine obs_draw (by kernel_rfl) ?_ | refine obs_same ?_ | refine obs_and ?_ | refine obs_by (by (simp [inB] <;> omega)) ?_)) ?_
    refine runS_cond rfl (fun hlk => ?_) (fun hlk => ?_)
    · have hlk' : k < i := by simpa using hlk
      have hkl : k < l.length := by omega
      refine runS_x (I := inf) (J := jnf) ⟨false, false, [], 0, 0⟩ 9999 rfl (by repeat (first | exact obs_nil | refine obs_draw (by kernel_rfl) ?_ | refine obs_same ?_ | refine obs_and ?_ | refine obs_by (by (simp [inB] <;> omega)) ?_)) ?_
      refine runS_draw 29 (by kernel_rfl) (lexj_x (I := inf) (J := jnf) 99 rfl rfl (by repeat (first | exact obs_nil | refine obs_same ?_ | refine obs_and ?_ | refine obs_by (by (simp [inB, hkl] <;> omega)) ?_)) (lexj_callU rfl rfl (by first | exact .v rfl rfl rfl rfl | exact .o rfl rfl rfl rfl) rfl rfl (by repeat (first | exact .nil | refine .cons (.n rfl) ?_ | refine .cons .o ?_ | refine .cons gok_and ?_)) rfl rfl rfl rfl rfl (fun hcond => (ref_parent nl l k hkl (by omega))) (lexj_x (I := inf) (J := jnf) 99 rfl rfl (by repeat (first | exact obs_nil | refine obs_same ?_ | refine obs_and ?_ | refine obs_by (by (simp [inB, hkl] <;> omega)) ?_)) lexj_nil))) ?_
      refine runS_x (I := inf) (J := jnf) ⟨false, false, [], 0, 0⟩ 9999 rfl (by repeat (first | exact obs_nil | refine obs_draw (by kernel_rfl) ?_ | refine obs_same ?_ | refine obs_and ?_ | refine obs_by (by (simp [inB] <;> omega)) ?_)) ?_
      refine runS_cond rfl (fun hz => ?_) (fun hz => ?_)
      · refine runS_x (I := inf) (J := jnf) ⟨false, false, [], 0, 0⟩ 9999 rfl (by repeat (first | exact obs_nil | refine obs_draw (by kernel_rfl) ?_ | refine obs_same ?_ | refine obs_and ?_ | refine obs_by (by (simp [inB] <;> omega)) ?_)) ?_
        refine runS_ret (I := inf) 0 rfl (Nat.le_refl _) rfl .nil rfl ⟨?_, rfl⟩
        have : sibC l i k = false := by
          have := (sibB l i k).symm.trans hz
          simpa using this
        rw [validF_false hlt' (by rw [okA, sibPre, allPre_false hlk' this]; simp)]
        rfl
      · refine runS_x (I := inf) (J := jnf) ⟨false, false, [], 0, 0⟩ 9999 rfl (by repeat (first | exact obs_nil | refine obs_draw (by kernel_rfl) ?_ | refine obs_same ?_ | refine obs_and ?_ | refine obs_by (by (simp [inB] <;> omega)) ?_)) ?_
        refine ih2 (k + 1) _ _ (by omega) ⟨⟨rfl, rfl, rfl, rfl, ?_⟩, rfl, by omega, ?_⟩
        · show iv (IntKind.wrap .i64 ((k : Int) + 1)) = _
          rw [w64 (by omega) (by omega)]; rfl
        · rw [sibPre, allPre_succ, ← sibPre, hsib, Bool.true_and]
          have := (sibB l i k).symm.trans hz
          simpa using this
    · have : k = i := by simp at hlk; omega
      subst this
      refine runS_x (I := inf) (J := jnf) ⟨false, false, [], 0, 0⟩ 9999 rfl (by repeat (first | exact obs_nil | refine obs_draw (by kernel_rfl) ?_ | refine obs_same ?_ | refine obs_and ?_ | refine obs_by (by (simp [inB] <;> omega)) ?_)) ?_
      refine runS_drop 0 (Nat.zero_le _) rfl (by repeat (first | exact .nil | refine .row (fun j hj => rfl) ?_ | refine .box rfl ?_ | refine .fam (fun k j hk hj => rfl) ?_ | refine .loop (scrub_under _ _) ?_ | refine .dfr ?_ | refine .gone ?_ | refine .map (fun p hp => by (obtain ⟨k, _, rfl⟩ := List.mem_map.1 hp; rfl)) ?_)) rfl rfl rfl (by repeat (first | exact .nil | refine .cons rfl rfl rfl (scrub_under _ _) ?_)) ?_
      refine ih (k + 1) _ _ (by omega) ⟨⟨rfl, ?_⟩, rfl, by omega, ?_⟩
      · show iv (IntKind.wrap .i64 ((k : Int) + 1)) = _
        rw [w64 (by omega) (by omega)]; rfl
      · rw [okPre, allPre_succ, ← okPre, hp, okA, hbase', hkind, hrefer, decide_eq_true ha', hsib]
        rfl
  · have : i = l.length := by simp at hlt; omega
    subst this
    refine runS_x (I := inf) (J := jnf) ⟨false, false, [], 0, 0⟩ 9999 rfl (by repeat (first | exact obs_nil | refine obs_draw (by kernel_rfl) ?_ | refine obs_same ?_ | refine obs_and ?_ | refine obs_by (by (simp [inB] <;> omega)) ?_)) ?_
    refine runS_ret (I := inf) 0 rfl (Nat.le_refl _) rfl .nil rfl ⟨?_, rfl⟩
    rw [validF, hp, decide_eq_true h1.1, decide_eq_true h1.2.1, h1.2.2]
    rfl
end Go.Iron.Try

/- The level package's functions (seat Ytamhonbhoelohaa): arrays, path: ranges over what is above. -/
namespace Go.Iron.Try
open Go.Proofs

theorem level_arrays (nl : Option Bool) (l : List Fld) (i : Nat) (hi : i < l.length) (hb : l.length < 1000000000) : CallT Try.prog 134 [treeS nl l, iv i] [] (fun o A => o = .ret (iv (arrs l i)) ∧ A = []) := by
  refine callS_body (n := 18) rfl rfl fun w ρ X => ?_
  refine runS_x (I := inf) (J := jnf) ⟨false, false, [170, 189], 0, 0⟩ 9999 rfl (by repeat (first | exact obs_nil | refine obs_draw (by kernel_rfl) ?_ | refine obs_same ?_ | refine obs_and ?_ | refine obs_by (by (simp [inB] <;> omega)) ?_)) ?_
  refine runS_forget 5 rfl ?_; refine runS_forgetLoop 5 4 rfl rfl ?_
  refine runS_name 4 rfl (fun L => rfl) (fun L hL => ?_)
  refine runS_while (fun (x : Option Nat × Nat) τ ar => (τ 0 = .yld 4 ∧ τ 1 = .ptr 2 0 0 ∧ τ 2 = .ptr 1 0 0) ∧
    ar = [.box 3 [iv x.2], .box 127 [treeS nl l], .box 3 [iv (opI x.1)], .dfr true, L] ∧ (∀ k, x.1 = some k → k ≤ i) ∧ x.2 + (ancO l x.1).countP (isArr l) = arrs l i) (fun x => match x.1 with | some k => k + 1 | none => 0)
    (some i, 0) ⟨⟨rfl, rfl, rfl⟩, rfl, by simp, by simp [ancO, arrs]⟩ ?_
  rintro ⟨o, m⟩ τ' ar' ⟨⟨g0, g1, g2⟩, rfl, hk, hp⟩ ih
  dsimp only at hk hp ih ⊢
  have hle : arrs l i ≤ i + 1 := Nat.le_trans List.countP_le_length (anc_len l i)
  subst hL
  refine runS_says 0 (by exact g0) (Says.refl _) ?_; refine runS_says 1 (by exact g1) (Says.refl _) ?_; refine runS_says 2 (by exact g2) (Says.refl _) ?_
  cases o with
  | none =>
    refine runS_x (I := inf) (J := jnf) ⟨true, false, [], 0, 0⟩ 9999 rfl (by repeat (first | exact obs_nil | refine obs_draw (by kernel_rfl) ?_ | refine obs_same ?_ | refine obs_and ?_ | refine obs_by (by (simp [inB] <;> omega)) ?_)) ?_
    refine runS_ret (I := inf) 0 rfl (Nat.le_refl _) rfl .nil rfl ⟨?_, rfl⟩
    simp [ancO] at hp
    rw [← hp]
    rfl
  | some k =>
    have hk := hk k rfl
    have h1 : k < l.length := by omega
    rw [ancO, anc_eq, List.countP_cons] at hp
    rw [show opI (some k) = (k : Int) from rfl]
    refine runS_x (I := inf) (J := jnf) ⟨false, false, [], 0, 0⟩ 9999 rfl (by repeat (first | exact obs_nil | refine obs_draw (by kernel_rfl) ?_ | refine obs_same ?_ | refine obs_and ?_ | refine obs_by (by (simp [inB] <;> omega)) ?_)) ?_
    refine runS_cond rfl (fun h => ?_) (fun h => absurd h (by simp))
    refine runS_x (I := inf) (J := jnf) ⟨false, false, [], 0, 0⟩ 9999 rfl (by repeat (first | exact obs_nil | refine obs_draw (by kernel_rfl) ?_ | refine obs_same ?_ | refine obs_and ?_ | refine obs_by (by (simp [inB, h1] <;> omega)) ?_)) ?_
    refine runS_cond rfl (fun hc => ?_) (fun hc => ?_)
    · refine runS_x (I := inf) (J := jnf) ⟨true, false, [], 0, 0⟩ 9999 rfl (by repeat (first | exact obs_nil | refine obs_draw (by kernel_rfl) ?_ | refine obs_same ?_ | refine obs_and ?_ | refine obs_by (by (simp [inB] <;> omega)) ?_)) ?_
      refine runS_drop 5 (Nat.zero_le _) rfl (by repeat (first | exact .nil | refine .row (fun j hj => rfl) ?_ | refine .box rfl ?_ | refine .fam (fun k j hk hj => rfl) ?_ | refine .loop (scrub_under _ _) ?_ | refine .dfr ?_ | refine .gone ?_ | refine .map (fun p hp => by (obtain ⟨k, _, rfl⟩ := List.mem_map.1 hp; rfl)) ?_)) rfl rfl rfl (by repeat (first | exact .nil | refine .cons rfl rfl rfl (scrub_under _ _) ?_)) ?_
      rw [if_pos (by simpa [isArr] using hc)] at hp
      refine ih (par l k, m + 1) _ _ ?_ ⟨⟨rfl, rfl, rfl⟩, ?_, fun j hj => by have := par_lt hj; omega, by dsimp only; omega⟩
      · dsimp only
        cases hpk : par l k with
        | none => simp
        | some j => have := par_lt hpk; simp; omega
      · have hs : IntKind.wrap .i64 ((m : Int) + 1) = ((m + 1 : Nat) : Int) := by rw [w64] <;> omega
        show [AO.box 3 [iv (IntKind.wrap .i64 ((m : Int) + 1))], _, _, _, _] = _
        rw [hs]
        rfl
    · refine runS_x (I := inf) (J := jnf) ⟨true, false, [], 0, 0⟩ 9999 rfl (by repeat (first | exact obs_nil | refine obs_draw (by kernel_rfl) ?_ | refine obs_same ?_ | refine obs_and ?_ | refine obs_by (by (simp [inB] <;> omega)) ?_)) ?_
      refine runS_drop 5 (Nat.zero_le _) rfl (by repeat (first | exact .nil | refine .row (fun j hj => rfl) ?_ | refine .box rfl ?_ | refine .fam (fun k j hk hj => rfl) ?_ | refine .loop (scrub_under _ _) ?_ | refine .dfr ?_ | refine .gone ?_ | refine .map (fun p hp => by (obtain ⟨k, _, rfl⟩ := List.mem_map.1 hp; rfl)) ?_)) rfl rfl rfl (by repeat (first | exact .nil | refine .cons rfl rfl rfl (scrub_under _ _) ?_)) ?_
      rw [if_neg (by simpa [isArr] using hc)] at hp
      refine ih (par l k, m) _ _ ?_ ⟨⟨rfl, rfl, rfl⟩, rfl, fun j hj => by have := par_lt hj; omega, by dsimp only; omega⟩
      dsimp only
      cases hpk : par l k with
      | none => simp
      | some j => have := par_lt hpk; simp; omega

def txtR (xs : List Str) : Nat → List AV := encR (fun s => [sv s]) [] xs
/-- The first i and the last i have changed places. -/
def revV (xs : List Str) (i k : Nat) : Str := if k < i ∨ xs.length - 1 - k < i then xs.getD (xs.length - 1 - k) [] else xs.getD k []
def revR (xs : List Str) (i : Nat) : Nat → List AV := fun k => [sv (revV xs i k)]
theorem slices_reverse (o0 : AO) (hk0 : ∀ l, Kept 2 l → Kept 2 (o0 :: l)) (v : Nat) (xs : List Str) (hb : xs.length < 1000000000) : CallT Try.prog 174 [.row 1 v] [o0, .row 9 1 v xs.length (txtR xs)] (fun o A => o = .ret (.tup []) ∧ A = [o0, .row 9 1 v xs.length (txtR xs.reverse)]) := by
  refine callS_body (n := 28) rfl rfl fun w ρ X => ?_
  refine runS_x (I := inf) (J := jnf) ⟨false, false, [], 0, 0⟩ 9999 rfl (by repeat (first | exact obs_nil | refine obs_draw (by kernel_rfl) ?_ | refine obs_same ?_ | refine obs_and ?_ | refine obs_by (by (simp [inB] <;> omega)) ?_)) ?_
  refine runS_tell 1 (revR xs 0) rfl rfl (fun k hk => ?_) rfl ?_
  · simp [revR, revV, txtR, encR]
  refine runS_while (fun (i : Nat) τ ar => (τ 0 = .row 1 v ∧ τ 2 = iv i ∧ τ 3 = iv ((xs.length : Int) - 1 - i)) ∧ ar = [o0, .row 9 1 v xs.length (revR xs i)] ∧ 2 * i ≤ xs.length + 1) (fun i => xs.length - i) 0 ⟨⟨rfl, rfl, ?_⟩, rfl, by omega⟩ ?_
  · show iv (IntKind.wrap .i64 ((xs.length : Int) - 1)) = _
    rw [w64 (by omega) (by omega)]; simp
  rintro i τ' ar' ⟨⟨h0, h2, h3⟩, rfl, hi⟩ ih
  refine runS_says 0 (by exact h0) (Says.refl _) ?_; refine runS_says 2 (by exact h2) (Says.refl _) ?_; refine runS_says 3 (by exact h3) (Says.refl _) ?_
  refine runS_x (I := inf) (J := jnf) ⟨false, false, [], 0, 0⟩ 9999 rfl (by repeat (first | exact obs_nil | refine obs_draw (by kernel_rfl) ?_ | refine obs_same ?_ | refine obs_and ?_ | refine obs_by (by (simp [inB] <;> omega)) ?_)) ?_
  refine runS_cond rfl (fun hlt => ?_) (fun hlt => ?_)
  · have hlt' : (i : Int) < (xs.length : Int) - 1 - i := by simpa using hlt
    obtain ⟨j, hj⟩ : ∃ j : Nat, (xs.length : Int) - 1 - i = j := ⟨xs.length - 1 - i, by omega⟩
    rw [hj]
    have hi1 : i < xs.length := by omega
    have hj1 : j < xs.length := by omega
    refine runS_x (I := inf) (J := jnf) ⟨false, false, [], 0, 0⟩ 9999 rfl (by repeat (first | exact obs_nil | refine obs_draw (by kernel_rfl) ?_ | refine obs_same ?_ | refine obs_and ?_ | refine obs_by (by (simp [inB] <;> omega)) ?_)) ?_
    refine runS_drawG (ch := []) 14 [13] (fun b => cond (b.getD 0 false) [o0, .row 9 1 v xs.length (setR (revR xs i) i [sv (revV xs i j)])] [o0, .row 9 1 v xs.length (revR xs i)]) none (c := 9) jnfI.draw (by kernel_rfl) rfl (lexg_g (I := inf) (J := jnf) none ⟨⟨_, rfl, (by repeat (first | exact obs_nil | refine obs_same ?_ | refine obs_and ?_ | refine obs_by (by (simp [inB, hi1, hj1] <;> omega)) ?_))⟩, (by first | exact .inl (by decide +kernel) | exact .inr ⟨_, rfl, (by repeat (first | exact obs_nil | refine obs_same ?_ | refine obs_and ?_ | refine obs_by (by (simp [inB, hi1, hj1] <;> omega)) ?_))⟩)⟩ rfl rfl rfl rfl (lexg_g (I := inf) (J := jnf) none ⟨⟨_, rfl, (by repeat (first | exact obs_nil | refine obs_same ?_ | refine obs_and ?_ | refine obs_by (by (simp [inB, hi1, hj1] <;> omega)) ?_))⟩, (by first | exact .inl (by decide +kernel) | exact .inr ⟨_, rfl, (by repeat (first | exact obs_nil | refine obs_same ?_ | refine obs_and ?_ | refine obs_by (by (simp [inB, hi1, hj1] <;> omega)) ?_))⟩)⟩ rfl rfl rfl rfl (lexg_g (I := inf) (J := jnf) none ⟨⟨_, rfl, (by repeat (first | exact obs_nil | refine obs_same ?_ | refine obs_and ?_ | refine obs_by (by (simp [inB, hi1, hj1] <;> omega)) ?_))⟩, (by first | exact .inl (by decide +kernel) | exact .inr ⟨_, rfl, (by repeat (first | exact obs_nil | refine obs_same ?_ | refine obs_and ?_ | refine obs_by (by (simp [inB, hi1, hj1] <;> omega)) ?_))⟩)⟩ rfl rfl rfl rfl (lexg_g (I := inf) (J := jnf) none ⟨⟨_, rfl, (by repeat (first | exact obs_nil | refine obs_same ?_ | refine obs_and ?_ | refine obs_by (by (simp [inB, hi1, hj1] <;> omega)) ?_))⟩, (by first | exact .inl (by decide +kernel) | exact .inr ⟨_, rfl, (by repeat (first | exact obs_nil | refine obs_same ?_ | refine obs_and ?_ | refine obs_by (by (simp [inB, hi1, hj1] <;> omega)) ?_))⟩)⟩ rfl rfl rfl rfl (lexg_g (I := inf) (J := jnf) none ⟨⟨_, rfl, (by repeat (first | exact obs_nil | refine obs_same ?_ | refine obs_and ?_ | refine obs_by (by (simp [inB, hi1, hj1] <;> omega)) ?_))⟩, (by first | exact .inl (by decide +kernel) | exact .inr ⟨_, rfl, (by repeat (first | exact obs_nil | refine obs_same ?_ | refine obs_and ?_ | refine obs_by (by (simp [inB, hi1, hj1] <;> omega)) ?_))⟩)⟩ rfl rfl rfl rfl (lexg_g (I := inf) (J := jnf) none ⟨⟨_, rfl, (by repeat (first | exact obs_nil | refine obs_same ?_ | refine obs_and ?_ | refine obs_by (by (simp [inB, hi1, hj1] <;> omega)) ?_))⟩, (by first | exact .inl (by decide +kernel) | exact .inr ⟨_, rfl, (by repeat (first | exact obs_nil | refine obs_same ?_ | refine obs_and ?_ | refine obs_by (by (simp [inB, hi1, hj1] <;> omega)) ?_))⟩)⟩ rfl rfl rfl rfl (lexg_g (I := inf) (J := jnf) none ⟨⟨_, rfl, (by repeat (first | exact obs_nil | refine obs_same ?_ | refine obs_and ?_ | refine obs_by (by (simp [inB, hi1, hj1] <;> omega)) ?_))⟩, (by first | exact .inl (by decide +kernel) | exact .inr ⟨_, rfl, (by repeat (first | exact obs_nil | refine obs_same ?_ | refine obs_and ?_ | refine obs_by (by (simp [inB, hi1, hj1] <;> omega)) ?_))⟩)⟩ rfl rfl rfl rfl (lexg_g (I := inf) (J := jnf) none ⟨⟨_, rfl, (by repeat (first | exact obs_nil | refine obs_same ?_ | refine obs_and ?_ | refine obs_by (by (simp [inB, hi1, hj1] <;> omega)) ?_))⟩, (by first | exact .inl (by decide +kernel) | exact .inr ⟨_, rfl, (by repeat (first | exact obs_nil | refine obs_same ?_ | refine obs_and ?_ | refine obs_by (by (simp [inB, hi1, hj1] <;> omega)) ?_))⟩)⟩ rfl rfl rfl rfl (lexg_g (I := inf) (J := jnf) none ⟨⟨_, rfl, (by repeat (first | exact obs_nil | refine obs_same ?_ | refine obs_and ?_ | refine obs_by (by (simp [inB, hi1, hj1] <;> omega)) ?_))⟩, (by first | exact .inl (by decide +kernel) | exact .inr ⟨_, rfl, (by repeat (first | exact obs_nil | refine obs_same ?_ | refine obs_and ?_ | refine obs_by (by (simp [inB, hi1, hj1] <;> omega)) ?_))⟩)⟩ rfl rfl rfl rfl (lexg_g (I := inf) (J := jnf) none ⟨⟨_, rfl, (by repeat (first | exact obs_nil | refine obs_same ?_ | refine obs_and ?_ | refine obs_by (by (simp [inB, hi1, hj1] <;> omega)) ?_))⟩, (by first | exact .inl (by decide +kernel) | exact .inr ⟨_, rfl, (by repeat (first | exact obs_nil | refine obs_same ?_ | refine obs_and ?_ | refine obs_by (by (simp [inB, hi1, hj1] <;> omega)) ?_))⟩)⟩ rfl rfl rfl rfl (lexg_g (I := inf) (J := jnf) none ⟨⟨_, rfl, (by repeat (first | exact obs_nil | refine obs_same ?_ | refine obs_and ?_ | refine obs_by (by (simp [inB, hi1, hj1] <;> omega)) ?_))⟩, (by first | exact .inl (by decide +kernel) | exact .inr ⟨_, rfl, (by repeat (first | exact obs_nil | refine obs_same ?_ | refine obs_and ?_ | refine obs_by (by (simp [inB, hi1, hj1] <;> omega)) ?_))⟩)⟩ rfl rfl rfl rfl (lexg_g (I := inf) (J := jnf) none ⟨⟨_, rfl, (by repeat (first | exact obs_nil | refine obs_same ?_ | refine obs_and ?_ | refine obs_by (by (simp [inB, hi1, hj1] <;> omega)) ?_))⟩, (by first | exact .inl (by decide +kernel) | exact .inr ⟨_, rfl, (by repeat (first | exact obs_nil | refine obs_same ?_ | refine obs_and ?_ | refine obs_by (by (simp [inB, hi1, hj1] <;> omega)) ?_))⟩)⟩ rfl rfl rfl rfl (lexg_g (I := inf) (J := jnf) none ⟨⟨_, rfl, (by repeat (first | exact obs_nil | refine obs_same ?_ | refine obs_and ?_ | refine obs_by (by (simp [inB, hi1, hj1] <;> omega)) ?_))⟩, (by first | exact .inl (by decide +kernel) | exact .inr ⟨_, rfl, (by repeat (first | exact obs_nil | refine obs_same ?_ | refine obs_and ?_ | refine obs_by (by (simp [inB, hi1, hj1] <;> omega)) ?_))⟩)⟩ rfl rfl rfl rfl (lexg_g (I := inf) (J := jnf) (some .store) ⟨⟨_, rfl, (by repeat (first | exact obs_nil | refine obs_same ?_ | refine obs_and ?_ | refine obs_by (by (simp [inB, hi1, hj1] <;> omega)) ?_))⟩, .inl rfl⟩ rfl rfl rfl rfl lexg_nil)))))))))))))) rfl (fun _ => ?_) (fun h => by cases h)
    refine runS_tell 1 (fun k => [sv (if k = i then revV xs i j else revV xs i k)]) rfl rfl (fun k hk => ?_) rfl ?_
    · by_cases hki : k = i
      · subst hki
        rw [setR_self, if_pos rfl]
      · rw [setR_ne hki, if_neg hki]; rfl
    refine runS_x (I := inf) (J := jnf) ⟨false, false, [], 0, 0⟩ 9999 rfl (by repeat (first | exact obs_nil | refine obs_draw (by kernel_rfl) ?_ | refine obs_same ?_ | refine obs_and ?_ | refine obs_by (by (simp [inB, hi1, hj1] <;> omega)) ?_)) ?_
    refine runS_tell 1 (revR xs (i + 1)) rfl rfl (fun k hk => ?_) rfl ?_
    · show [sv (revV xs (i + 1) k)] = setR (fun k => [sv (if k = i then revV xs i j else revV xs i k)]) j [sv (revV xs i i)] k
      have e1 : revV xs i j = xs.getD j [] := by rw [revV, if_neg (by omega)]
      have e2 : revV xs i i = xs.getD i [] := by rw [revV, if_neg (by omega)]
      by_cases hkj : k = j
      · subst hkj
        rw [setR_self, e2, revV, if_pos (by omega), show xs.length - 1 - k = i by omega]
      · rw [setR_ne hkj]
        show _ = [sv (if k = i then revV xs i j else revV xs i k)]
        by_cases hki : k = i
        · subst hki
          rw [if_pos rfl, e1, revV, if_pos (by omega), show xs.length - 1 - k = j by omega]
        · rw [if_neg hki]
          unfold revV
          by_cases hc : k < i ∨ xs.length - 1 - k < i
          · rw [if_pos hc, if_pos (by omega)]
          · rw [if_neg hc, if_neg (by omega)]
    refine ih (i + 1) _ _ (by omega) ⟨⟨rfl, ?_, ?_⟩, rfl, by omega⟩
    · show iv (IntKind.wrap .i64 ((i : Int) + 1)) = _
      rw [w64 (by omega) (by omega)]; rfl
    · show iv (IntKind.wrap .i64 ((j : Int) - 1)) = _
      rw [w64 (by omega) (by omega)]
      exact congrArg (fun x : Int => iv x) (by omega)
  · have hge : ¬ (i : Int) < (xs.length : Int) - 1 - i := by simpa using hlt
    refine runS_x (I := inf) (J := jnf) ⟨false, false, [], 0, 0⟩ 9999 rfl (by repeat (first | exact obs_nil | refine obs_draw (by kernel_rfl) ?_ | refine obs_same ?_ | refine obs_and ?_ | refine obs_by (by (simp [inB] <;> omega)) ?_)) ?_
    refine runS_tell 1 (txtR xs.reverse) rfl (m' := xs.length) rfl (fun k hk => ?_) rfl ?_
    · show [sv (xs.reverse.getD k [])] = [sv (revV xs i k)]
      have e : xs.reverse.getD k [] = xs.getD (xs.length - 1 - k) [] := by
        simp [List.getD_eq_getElem?_getD, List.getElem?_reverse hk]
      rw [e]
      unfold revV
      by_cases hc : k < i ∨ xs.length - 1 - k < i
      · rw [if_pos hc]
      · rw [if_neg hc, show xs.length - 1 - k = k by omega]
    refine runS_ret (I := inf) 2 rfl (Nat.le_refl _) rfl (hk0 _ (.row (fun j hj => rfl) .nil)) rfl ⟨rfl, rfl⟩
end Go.Iron.Try

/- The level package's functions (seat Ytamhonbhoelohaa): paths. -/
namespace Go.Iron.Try
open Go.Proofs

def namesU (l : List Fld) (o : Option Nat) : List Str := (ancO l o).map fun k => (fat l k).name
theorem namesU_some (l : List Fld) (k : Nat) : namesU l (some k) = (fat l k).name :: namesU l (par l k) := by
  rw [namesU, ancO, anc_eq]; rfl
theorem namesU_len (l : List Fld) (i : Nat) : (namesU l (some i)).length ≤ i + 1 := by simp [namesU, ancO]; exact anc_len l i
theorem txtR_snoc {acc : List Str} {v : Str} {r2 : Nat → List AV} (h : r2 0 = [sv v]) : ∀ j, j < acc.length + 1 → txtR (acc ++ [v]) j = appR acc.length (txtR acc) r2 j := fun j hj =>
  encR_snoc (enc := fun s => [sv s]) (d := []) h j hj
theorem level_path (nl : Option Bool) (l : List Fld) (i : Nat) (hi : i < l.length) (hb : l.length < 1000000000) : CallT Try.prog 141 [treeS nl l, iv i] [] (fun o A => o = .ret (txtS none (pth l i)) ∧ A = []) := by
  refine callS_body (n := 20) rfl rfl fun w ρ X => ?_
  refine runS_x (I := inf) (J := jnf) ⟨false, false, [], 0, 0⟩ 8 rfl (by repeat (first | exact obs_nil | refine obs_draw (by kernel_rfl) ?_ | refine obs_same ?_ | refine obs_and ?_ | refine obs_by (by (simp [inB] <;> omega)) ?_)) ?_
  refine runS_nilRowBox 0 0 9 1 (txtR []) rfl rfl rfl rfl rfl ?_
  refine runS_x (I := inf) (J := jnf) ⟨false, false, [170, 189], 0, 0⟩ 9999 rfl (by repeat (first | exact obs_nil | refine obs_draw (by kernel_rfl) ?_ | refine obs_same ?_ | refine obs_and ?_ | refine obs_by (by (simp [inB] <;> omega)) ?_)) ?_
  refine runS_forget 6 rfl ?_; refine runS_forgetLoop 6 5 rfl rfl ?_
  refine runS_name 5 rfl (fun L => rfl) (fun L hL => ?_)
  have hle := namesU_len l i
  refine runS_while (fun (x : Option Nat × List Str) τ ar => (τ 0 = .yld 5 ∧ τ 1 = .ptr 3 0 0 ∧ τ 2 = .ptr 2 0 0) ∧
    ar = [.box 46 [.row 1 x.2.length], .row 9 1 x.2.length x.2.length (txtR x.2), .box 127 [treeS nl l], .box 3 [iv (opI x.1)], .dfr true, L] ∧ (∀ k, x.1 = some k → k ≤ i) ∧ x.2 ++ namesU l x.1 = namesU l (some i)) (fun x => match x.1 with | some k => k + 1 | none => 0)
    (some i, []) ⟨⟨rfl, rfl, rfl⟩, rfl, by simp, by simp⟩ ?_
  rintro ⟨o, acc⟩ τ' ar' ⟨⟨g0, g1, g2⟩, rfl, hk, hp⟩ ih
  dsimp only at hk hp ih ⊢
  subst hL
  refine runS_says 0 (by exact g0) (Says.refl _) ?_; refine runS_says 1 (by exact g1) (Says.refl _) ?_; refine runS_says 2 (by exact g2) (Says.refl _) ?_
  cases o with
  | none =>
    have hacc : acc = namesU l (some i) := by simpa [namesU, ancO] using hp
    refine runS_x (I := inf) (J := jnf) ⟨true, false, [], 0, 0⟩ 9999 rfl (by repeat (first | exact obs_nil | refine obs_draw (by kernel_rfl) ?_ | refine obs_same ?_ | refine obs_and ?_ | refine obs_by (by (simp [inB] <;> omega)) ?_)) ?_
    refine runS_callF [.box 46 [.row 1 acc.length], .row 9 1 acc.length acc.length (txtR acc)] [.box 46 [.row 1 acc.length], .row 9 1 acc.length acc.length (txtR acc.reverse)] _ rfl rfl rfl rfl rfl (show _ = [AV.row 1 acc.length] from rfl) rfl ?_ rfl rfl (slices_reverse _ ?_ acc.length acc (by rw [hacc]; omega)) ?_
    · exact .box rfl (.row (fun j hj => rfl) .nil)
    · exact fun l h => .box rfl h
    refine runS_freezeCell 0 0 rfl rfl rfl rfl (fun j hj => rfl) rfl rfl rfl ?_
    refine runS_x (I := inf) (J := jnf) ⟨false, false, [], 0, 0⟩ 9999 rfl (by repeat (first | exact obs_nil | refine obs_draw (by kernel_rfl) ?_ | refine obs_same ?_ | refine obs_and ?_ | refine obs_by (by (simp [inB] <;> omega)) ?_)) ?_
    refine runS_ret (I := inf) 0 rfl (Nat.le_refl _) rfl .nil rfl ⟨?_, rfl⟩
    have hpl : pth l i = acc.reverse := by rw [hacc, pth, namesU, ancO, List.map_reverse]
    rw [hpl]
    show Out.ret (AV.slc 1 none acc.length (txtR acc.reverse)) = Out.ret (AV.slc 1 none acc.reverse.length (txtR acc.reverse))
    rw [List.length_reverse]
  | some k =>
    have hk := hk k rfl
    have h1 : k < l.length := by omega
    have hlen : acc.length + 1 ≤ i + 1 := by
      rw [← hp, namesU_some] at hle
      simp at hle
      omega
    rw [namesU_some] at hp
    rw [show opI (some k) = (k : Int) from rfl]
    refine runS_x (I := inf) (J := jnf) ⟨false, false, [], 0, 0⟩ 9999 rfl (by repeat (first | exact obs_nil | refine obs_draw (by kernel_rfl) ?_ | refine obs_same ?_ | refine obs_and ?_ | refine obs_by (by (simp [inB] <;> omega)) ?_)) ?_
    refine runS_cond rfl (fun h => ?_) (fun h => absurd h (by simp))
    refine runS_x (I := inf) (J := jnf) ⟨true, false, [], 0, 0⟩ 9999 rfl (by repeat (first | exact obs_nil | refine obs_draw (by kernel_rfl) ?_ | refine obs_same ?_ | refine obs_and ?_ | refine obs_by (by (simp [inB, h1] <;> omega)) ?_)) ?_
    refine runS_tell 1 (txtR (acc ++ [(fat l k).name])) rfl (m' := acc.length + 1) rfl (txtR_snoc rfl) rfl ?_
    refine runS_drop 6 (Nat.zero_le _) rfl (by repeat (first | exact .nil | refine .row (fun j hj => rfl) ?_ | refine .box rfl ?_ | refine .fam (fun k j hk hj => rfl) ?_ | refine .loop (scrub_under _ _) ?_ | refine .dfr ?_ | refine .gone ?_ | refine .map (fun p hp => by (obtain ⟨k, _, rfl⟩ := List.mem_map.1 hp; rfl)) ?_)) rfl rfl rfl (by repeat (first | exact .nil | refine .cons rfl rfl rfl (scrub_under _ _) ?_)) ?_
    have hl : (acc ++ [(fat l k).name]).length = acc.length + 1 := by simp
    refine ih (par l k, acc ++ [(fat l k).name]) _ _ ?_ ⟨⟨rfl, rfl, rfl⟩, ?_, fun j hj => by have := par_lt hj; omega, by simpa using hp⟩
    · dsimp only
      cases hpk : par l k with
      | none => simp
      | some j => have := par_lt hpk; simp; omega
    · dsimp only
      rw [hl]
      rfl
end Go.Iron.Try

/- The level package's functions (seat Ytamhonbhoelohaa): what concerns one member. -/
namespace Go.Iron.Try
open Go.Proofs

def nodA (l : List Fld) (i : Nat) : AV := .agg (nodE l i (kidC l i))
/-- A set of texts, as a map. -/
def mapOf (ns : List Str) : List (Value × AV) := ns.map fun s => (.string (bs s), .val (.bool true))
theorem keyEq_str (a b : Str) : keyEq (.string (bs a)) (.string (bs b)) = (a == b) := by
  show bytesEq a b = _
  rw [Bool.eq_iff_iff, bytesEq_iff]
  simp
theorem mapFind_of (ns : List Str) (s : Str) : mapFind (mapOf ns) (.string (bs s)) = if s ∈ ns then some (.val (.bool true)) else none := by
  induction ns with
  | nil => rfl
  | cons n ns ih =>
    show (match keyEq (.string (bs n)) (.string (bs s)) with | true => some (AV.val (.bool true)) | false => mapFind (mapOf ns) (.string (bs s))) = _
    rw [keyEq_str, ih]
    by_cases h : n = s
    · subst h; simp
    · have : (n == s) = false := by simpa using h
      rw [this]
      simp [Ne.symm h]
theorem getB_of (ns : List Str) (s : Str) : getB (mapOf ns) (.string (bs s)) = decide (s ∈ ns) := by
  rw [getB, mapFind_of]
  by_cases h : s ∈ ns <;> simp [h]
theorem okB_of (ns : List Str) (s : Str) : okB (mapOf ns) (.string (bs s)) = true := by
  rw [okB, mapFind_of]
  by_cases h : s ∈ ns <;> simp [h]
theorem mapPut_of (ns : List Str) (s : Str) (h : s ∉ ns) : mapPut (mapOf ns) (.string (bs s)) (.val (.bool true)) = mapOf (ns ++ [s]) := by
  induction ns with
  | nil => rfl
  | cons n ns ih =>
    have h1 : n ≠ s := fun e => h (by simp [e])
    have h2 : s ∉ ns := fun e => h (by simp [e])
    show (match keyEq (.string (bs n)) (.string (bs s)) with | true => (Value.string (bs n), AV.val (.bool true)) :: mapOf ns | false => (Value.string (bs n), AV.val (.bool true)) :: mapPut (mapOf ns) (.string (bs s)) (.val (.bool true))) = _
    rw [keyEq_str, ih h2]
    have : (n == s) = false := by simpa using h1
    rw [this]
    rfl

abbrev kidsA (l : List Fld) (i : Nat) : List Nat := kidsL l l.length i
def nameOf (l : List Fld) (k : Nat) : Str := (fat l k).name
def kidC1 (l : List Fld) (i p : Nat) : Bool := !decide (nameOf l ((kidsA l i).getD p 0) ∈ ((kidsA l i).take p).map (nameOf l)) && (fat l ((kidsA l i).getD p 0)).level == (fat l ((kidsA l i).getD 0 0)).level
def kidPre (l : List Fld) (i p : Nat) : Bool := (List.range p).all (kidC1 l i)
def kindP (l : List Fld) (i : Nat) : Bool := if 0 < (kidsA l i).length then decide ((fat l i).typ = typ0) else validT (fat l i).typ && !(fat l i).union
def refP (l : List Fld) (i : Nat) : Bool := (fat l i).refer == -1 || (decide (0 ≤ (fat l i).refer) && decide ((fat l i).refer < i) && decide (1 ≤ (fat l i).count) &&
  ((fat l (fat l i).refer.toNat).typ.kind == 1 || (fat l (fat l i).refer.toNat).typ.kind == 2) && arrs l (fat l i).refer.toNat == 0)
def rightP (l : List Fld) (i : Nat) : Bool := kindP l i && kidPre l i (kidsA l i).length && refP l i
theorem kids_lt {l : List Fld} {i p : Nat} (h : p < (kidsA l i).length) : (kidsA l i).getD p 0 < l.length := by
  have : (kidsA l i).getD p 0 ∈ kidsA l i := by
    rw [List.getD_eq_getElem?_getD, List.getElem?_eq_getElem h]
    exact List.getElem_mem h
  have := List.mem_filter.1 this
  exact List.mem_range.1 this.1
theorem level_arraysI (nl : Option Bool) (l : List Fld) (x : Int) (h0 : 0 ≤ x) (h1 : x < l.length) (hb : l.length < 1000000000) : CallT Try.prog 134 [treeS nl l, iv x] [] (fun o A => o = .ret (iv (arrs l x.toNat)) ∧ A = []) := by
  obtain ⟨k, rfl⟩ : ∃ k : Nat, x = k := ⟨x.toNat, by omega⟩
  exact level_arrays nl l k (by omega) hb

theorem rightP_kind {l : List Fld} {i : Nat} (h : kindP l i = false) : rightP l i = false := by rw [rightP, h]; rfl
theorem rightP_kid {l : List Fld} {i p : Nat} (hp : p < (kidsA l i).length) (h : kidC1 l i p = false) : rightP l i = false := by rw [rightP, kidPre, allPre_false hp h]; simp
theorem rightP_ref {l : List Fld} {i : Nat} (h : refP l i = false) : rightP l i = false := by rw [rightP, h, Bool.and_false]
theorem inB_nat {k m : Nat} (h : k < m) : inB (k : Int) m = true := inB_iff.2 ⟨by omega, by omega⟩
theorem kidB (l : List Fld) (i p : Nat) : (if getB (mapOf (((kidsA l i).take p).map (nameOf l))) (.string (bs (nameOf l ((kidsA l i).getD p 0)))) = true then true
    else (fat l ((kidsA l i).getD p 0)).level != (fat l ((kidsA l i).getD 0 0)).level) = !kidC1 l i p := by
  rw [getB_of, kidC1]
  cases decide (nameOf l ((kidsA l i).getD p 0) ∈ ((kidsA l i).take p).map (nameOf l)) <;> simp [bne]
theorem take_nextN {xs : List Nat} {p : Nat} (h : p < xs.length) : xs.take (p + 1) = xs.take p ++ [xs.getD p 0] := by
  rw [List.take_succ_eq_append_getElem h, List.getD_eq_getElem?_getD, List.getElem?_eq_getElem h]
  rfl

theorem level_right (nl : Option Bool) (l : List Fld) (i : Nat) (hi : i < l.length) (hs : smallF l) : CallT Try.prog 133 [nodA l i, treeS nl l] [] (fun o A => o = .ret (bv (rightP l i)) ∧ A = []) := by
  obtain ⟨hb, hsm⟩ := hs
  have hkn : kidsN l l.length i = (kidsA l i).length := rfl
  have hkl : (kidsA l i).length ≤ l.length := kidsN_le l l.length i
  refine callS_body (n := 114) rfl rfl fun w ρ X => ?_
  refine runS_x (I := inf) (J := jnf) ⟨false, false, [], 0, 0⟩ 9999 rfl (by repeat (first | exact obs_nil | refine obs_draw (by kernel_rfl) ?_ | refine obs_same ?_ | refine obs_and ?_ | refine obs_by (by (simp [inB] <;> omega)) ?_)) ?_
  refine runS_cut (fun τ ar => (τ 1 = treeS nl l ∧ τ 2 = .ptr 0 0 0) ∧ ar = [.box 144 (nodE l i (kidC l i))] ∧ kindP l i = true) (fun rest => ?_) ?_
  · refine runS_cond rfl (fun hin => ?_) (fun hin => ?_)
    · have hin' : 0 < (kidsA l i).length := by rw [← hkn]; simpa using hin
      refine runS_x (I := inf) (J := jnf) ⟨false, false, [], 2, 0⟩ 9999 rfl (by repeat (first | exact obs_nil | refine obs_draw (by kernel_rfl) ?_ | refine obs_same ?_ | refine obs_and ?_ | refine obs_by (by (simp [inB] <;> omega)) ?_)) ?_
      refine runS_cond rfl (fun hz => ?_) (fun hz => ?_)
      · refine runS_x (I := inf) (J := jnf) ⟨false, false, [], 2, 0⟩ 9999 rfl (by repeat (first | exact obs_nil | refine obs_draw (by kernel_rfl) ?_ | refine obs_same ?_ | refine obs_and ?_ | refine obs_by (by (simp [inB] <;> omega)) ?_)) ?_
        refine runS_ret (I := inf) 0 rfl (Nat.le_refl _) rfl .nil rfl ⟨?_, rfl⟩
        have hz' : (!decide ((fat l i).typ = typ0)) = true := by rw [← typ0B]; exact hz
        rw [rightP_kind (by rw [kindP, if_pos hin']; simpa using hz')]
        rfl
      · refine runS_x (I := inf) (J := jnf) ⟨false, false, [], 2, 0⟩ 9999 rfl (by repeat (first | exact obs_nil | refine obs_draw (by kernel_rfl) ?_ | refine obs_same ?_ | refine obs_and ?_ | refine obs_by (by (simp [inB] <;> omega)) ?_)) ?_
        refine rest _ _ ⟨⟨rfl, rfl⟩, rfl, ?_⟩
        have hz' : (!decide ((fat l i).typ = typ0)) = false := by rw [← typ0B]; exact hz
        rw [kindP, if_pos hin']
        simpa using hz'
    · have hin' : ¬ 0 < (kidsA l i).length := by
        intro h'
        have : decide ((0 : Int) < ((kidsA l i).length : Int)) = false := hin
        have := of_decide_eq_false this
        omega
      refine runS_x (I := inf) (J := jnf) ⟨false, false, [], 2, 0⟩ 9999 rfl (by repeat (first | exact obs_nil | refine obs_draw (by kernel_rfl) ?_ | refine obs_same ?_ | refine obs_and ?_ | refine obs_by (by (simp [inB] <;> omega)) ?_)) ?_
      refine runS_call rfl rfl rfl rfl rfl rfl rfl (digit_valid (fat l i).typ (hsm i hi).2) ?_
      refine runS_x (I := inf) (J := jnf) ⟨false, false, [], 2, 0⟩ 9999 rfl (by repeat (first | exact obs_nil | refine obs_draw (by kernel_rfl) ?_ | refine obs_same ?_ | refine obs_and ?_ | refine obs_by (by (simp [inB] <;> omega)) ?_)) ?_
      refine runS_cond rfl (fun hz => ?_) (fun hz => ?_)
      · refine runS_x (I := inf) (J := jnf) ⟨false, false, [], 2, 0⟩ 9999 rfl (by repeat (first | exact obs_nil | refine obs_draw (by kernel_rfl) ?_ | refine obs_same ?_ | refine obs_and ?_ | refine obs_by (by (simp [inB] <;> omega)) ?_)) ?_
        refine runS_ret (I := inf) 0 rfl (Nat.le_refl _) rfl .nil rfl ⟨?_, rfl⟩
        have : kindP l i = false := by
          rw [kindP, if_neg hin']
          revert hz
          generalize validT (fat l i).typ = nb
          intro hz
          cases nb <;> (simp [-List.getD_eq_getElem?_getD, -List.length_eq_zero_iff, fat] at hz ⊢ <;> first | exact hz | omega)
        rw [rightP_kind this]
        rfl
      · refine runS_x (I := inf) (J := jnf) ⟨false, false, [], 2, 0⟩ 9999 rfl (by repeat (first | exact obs_nil | refine obs_draw (by kernel_rfl) ?_ | refine obs_same ?_ | refine obs_and ?_ | refine obs_by (by (simp [inB] <;> omega)) ?_)) ?_
        refine rest _ _ ⟨⟨rfl, rfl⟩, rfl, ?_⟩
        rw [kindP, if_neg hin']
        revert hz
        generalize validT (fat l i).typ = nb
        intro hz
        cases nb <;> (simp [-List.getD_eq_getElem?_getD, -List.length_eq_zero_iff, fat] at hz ⊢ <;> first | exact hz | omega)
  rintro τ2 ar2 ⟨⟨g1, g2⟩, rfl, hkind⟩
  refine runS_says 1 (by exact g1) (Says.refl _) ?_; refine runS_says 2 (by exact g2) (Says.refl _) ?_
  refine runS_x (I := inf) (J := jnf) ⟨false, false, [], 0, 0⟩ 9999 rfl (by repeat (first | exact obs_nil | refine obs_draw (by kernel_rfl) ?_ | refine obs_same ?_ | refine obs_and ?_ | refine obs_by (by (simp [inB] <;> omega)) ?_)) ?_
  refine runS_while (fun (p : Nat) τ ar => (τ 1 = treeS nl l ∧ τ 2 = .ptr 0 0 0 ∧ τ 5 = .row 1 0 ∧ τ 30 = kidC l i ∧ τ 31 = iv (kidsA l i).length ∧ τ 32 = iv p) ∧
    ar = [.box 144 (nodE l i (kidC l i)), .map 0 none (mapOf (((kidsA l i).take p).map (nameOf l)))] ∧ p ≤ (kidsA l i).length ∧ kidPre l i p = true) (fun p => (kidsA l i).length - p) 0 ⟨⟨rfl, rfl, rfl, rfl, rfl, rfl⟩, rfl, Nat.zero_le _, rfl⟩ ?_
  rintro p τ3 ar3 ⟨⟨g1, g2, g5, g30, g31, g32⟩, rfl, hp, hpre⟩ ih
  refine runS_says 1 (by exact g1) (Says.refl _) ?_; refine runS_says 2 (by exact g2) (Says.refl _) ?_; refine runS_says 5 (by exact g5) (Says.refl _) ?_; refine runS_says 30 (by exact g30) (Says.refl _) ?_; refine runS_says 31 (by exact g31) (Says.refl _) ?_; refine runS_says 32 (by exact g32) (Says.refl _) ?_
  refine runS_x (I := inf) (J := jnf) ⟨false, false, [], 0, 0⟩ 9999 rfl (by repeat (first | exact obs_nil | refine obs_draw (by kernel_rfl) ?_ | refine obs_same ?_ | refine obs_and ?_ | refine obs_by (by (simp [inB] <;> omega)) ?_)) ?_
  refine runS_cond rfl (fun hlt => ?_) (fun hlt => ?_)
  · have hlt' : p < (kidsA l i).length := by simpa using hlt
    have k1 : inB (p : Int) (kidsN l l.length i) = true := inB_nat hlt'
    have k2 : inB (((kidsA l i).getD p 0 : Nat) : Int) l.length = true := inB_nat (kids_lt hlt')
    have k3 : inB (((kidsA l i).getD 0 0 : Nat) : Int) l.length = true := inB_nat (kids_lt (by omega))
    have k4 : inB (0 : Int) (kidsN l l.length i) = true := inB_nat (k := 0) (by omega)
    have k5 := okB_of (((kidsA l i).take p).map (nameOf l)) (nameOf l ((kidsA l i).getD p 0))
    refine runS_x (I := inf) (J := jnf) ⟨false, false, [], 0, 0⟩ 9999 rfl (by repeat (first | exact obs_nil | refine obs_draw (by kernel_rfl) ?_ | refine obs_same ?_ | refine obs_and ?_ | refine obs_by (by first | exact fun _ => k1 | exact fun _ => k2 | exact fun _ => k3 | exact fun _ => k4 | exact fun _ => k5 | (simp [inB] <;> omega)) ?_)) ?_
    refine runS_cond rfl (fun hz => ?_) (fun hz => ?_)
    · refine runS_x (I := inf) (J := jnf) ⟨false, false, [], 0, 0⟩ 9999 rfl (by repeat (first | exact obs_nil | refine obs_draw (by kernel_rfl) ?_ | refine obs_same ?_ | refine obs_and ?_ | refine obs_by (by (simp [inB] <;> omega)) ?_)) ?_
      refine runS_ret (I := inf) 0 rfl (Nat.le_refl _) rfl .nil rfl ⟨?_, rfl⟩
      have := (kidB l i p).symm.trans hz
      rw [rightP_kid hlt' (by simpa using this)]
      rfl
    · have hz' := (kidB l i p).symm.trans hz
      have hc : kidC1 l i p = true := by simpa using hz'
      refine runS_x (I := inf) (J := jnf) ⟨false, false, [], 0, 0⟩ 9999 rfl (by repeat (first | exact obs_nil | refine obs_draw (by kernel_rfl) ?_ | refine obs_same ?_ | refine obs_and ?_ | refine obs_by (by first | exact fun _ => k1 | exact fun _ => k2 | exact fun _ => k3 | exact fun _ => k4 | exact fun _ => k5 | (simp [inB] <;> omega)) ?_)) ?_
      refine ih (p + 1) _ _ (by omega) ⟨⟨rfl, rfl, rfl, rfl, rfl, ?_⟩, ?_, by omega, by rw [kidPre, allPre_succ, ← kidPre, hpre, hc]; rfl⟩
      · show iv (IntKind.wrap .i64 ((p : Int) + 1)) = _
        rw [w64 (by omega) (by omega)]; rfl
      · have hn : nameOf l ((kidsA l i).getD p 0) ∉ ((kidsA l i).take p).map (nameOf l) := by
          intro hm
          rw [kidC1, decide_eq_true hm] at hc
          simp at hc
        rw [take_nextN hlt', List.map_append, List.map_cons, List.map_nil, ← mapPut_of _ _ hn]
        rfl
  · have hpe : p = (kidsA l i).length := by simp at hlt; omega
    subst hpe
    refine runS_x (I := inf) (J := jnf) ⟨false, false, [], 0, 0⟩ 9999 rfl (by repeat (first | exact obs_nil | refine obs_draw (by kernel_rfl) ?_ | refine obs_same ?_ | refine obs_and ?_ | refine obs_by (by (simp [inB] <;> omega)) ?_)) ?_
    refine runS_cond rfl (fun hm => ?_) (fun hm => ?_)
    · refine runS_x (I := inf) (J := jnf) ⟨false, false, [], 0, 0⟩ 9999 rfl (by repeat (first | exact obs_nil | refine obs_draw (by kernel_rfl) ?_ | refine obs_same ?_ | refine obs_and ?_ | refine obs_by (by (simp [inB] <;> omega)) ?_)) ?_
      refine runS_ret (I := inf) 0 rfl (Nat.le_refl _) rfl .nil rfl ⟨?_, rfl⟩
      have hm' : (fat l i).refer = -1 := by simpa using hm
      rw [rightP, hkind, hpre, refP, hm']
      rfl
    have hm' : ¬ (fat l i).refer = -1 := by simpa using hm
    refine runS_x (I := inf) (J := jnf) ⟨false, false, [], 0, 0⟩ 9999 rfl (by repeat (first | exact obs_nil | refine obs_draw (by kernel_rfl) ?_ | refine obs_same ?_ | refine obs_and ?_ | refine obs_by (by (simp [inB] <;> omega)) ?_)) ?_
    refine runS_call rfl rfl rfl rfl rfl rfl rfl (level_within _ _ _) ?_
    refine runS_x (I := inf) (J := jnf) ⟨false, false, [], 0, 0⟩ 9999 rfl (by repeat (first | exact obs_nil | refine obs_draw (by kernel_rfl) ?_ | refine obs_same ?_ | refine obs_and ?_ | refine obs_by (by (simp [inB] <;> omega)) ?_)) ?_
    have hw : (0 : Int) ≤ (fat l i).refer → IntKind.wrap .i64 ((i : Int) - 1) = (i : Int) - 1 := fun _ => by rw [w64 (by omega) (by omega)]
    have hw2 : IntKind.wrap .i64 ((i : Int) - 1) = (i : Int) - 1 := by rw [w64 (by omega) (by omega)]
    refine runS_cond rfl (fun hz => ?_) (fun hz => ?_)
    · refine runS_x (I := inf) (J := jnf) ⟨false, false, [], 0, 0⟩ 9999 rfl (by repeat (first | exact obs_nil | refine obs_draw (by kernel_rfl) ?_ | refine obs_same ?_ | refine obs_and ?_ | refine obs_by (by (simp [inB] <;> omega)) ?_)) ?_
      refine runS_ret (I := inf) 0 rfl (Nat.le_refl _) rfl .nil rfl ⟨?_, rfl⟩
      have hz' : (if (!(decide (0 ≤ (fat l i).refer) && decide ((fat l i).refer ≤ IntKind.wrap .i64 ((i : Int) - 1)))) = true then true else decide ((fat l i).count < 1)) = true := hz
      rw [hw2] at hz'
      rw [rightP_ref]
      · rfl
      unfold refP
      revert hz' hm'
      generalize (fat l i).refer = r
      intro hm' hz'
      simp at hz' ⊢
      omega
    have hz' : (if (!(decide (0 ≤ (fat l i).refer) && decide ((fat l i).refer ≤ IntKind.wrap .i64 ((i : Int) - 1)))) = true then true else decide ((fat l i).count < 1)) = false := hz
    rw [hw2] at hz'
    have hr : 0 ≤ (fat l i).refer ∧ (fat l i).refer < i ∧ 1 ≤ (fat l i).count := by
      clear hz hm
      simp [-List.getD_eq_getElem?_getD, -List.length_eq_zero_iff, fat] at hz' ⊢
      omega
    have k1 : inB (fat l i).refer l.length = true := inB_iff.2 ⟨hr.1, by omega⟩
    refine runS_x (I := inf) (J := jnf) ⟨false, false, [], 0, 0⟩ 9999 rfl (by repeat (first | exact obs_nil | refine obs_draw (by kernel_rfl) ?_ | refine obs_same ?_ | refine obs_and ?_ | refine obs_by (by first | exact fun _ => k1 | (simp [inB] <;> omega)) ?_)) ?_
    refine runS_callU rfl rfl (by first | exact .v rfl rfl rfl rfl | exact .o rfl rfl rfl rfl) rfl rfl (by repeat (first | exact .nil | refine .cons (.n rfl) ?_ | refine .cons .o ?_ | refine .cons gok_and ?_)) rfl rfl rfl rfl rfl (fun _ => (level_arraysI nl l (fat l i).refer hr.1 (by omega) hb)) ?_
    refine runS_x (I := inf) (J := jnf) ⟨false, false, [], 0, 0⟩ 9999 rfl (by repeat (first | exact obs_nil | refine obs_draw (by kernel_rfl) ?_ | refine obs_same ?_ | refine obs_and ?_ | refine obs_by (by (simp [inB] <;> omega)) ?_)) ?_
    refine runS_ret (I := inf) 0 rfl (Nat.le_refl _) rfl .nil rfl ⟨?_, rfl⟩
    refine congrArg (fun b => Out.ret (bv b)) ?_
    show (if (if ((fat l (fat l i).refer.toNat).typ.kind == 1) = true then true else (fat l (fat l i).refer.toNat).typ.kind == 2) = true then ((arrs l (fat l i).refer.toNat : Int) == 0) else false) = _
    rw [rightP, hkind, hpre, refP]
    revert hr hm'
    generalize (fat l i).refer = r
    generalize (fat l i).count = c
    intro hm' hr
    rw [Bool.eq_iff_iff]
    simp
    omega
end Go.Iron.Try

/- The level package's functions (seat Ytamhonbhoelohaa): Valid is the document's. -/
namespace Go.Iron.Try
open Go.Proofs

def validP (l : List Fld) : Bool := decide (1 ≤ l.length) && decide (l.length ≤ 200) && (fat l 0).level == 1 && (List.range l.length).all (baseOK l) && (List.range l.length).all fun i => rightP l i && decide (arrs l i ≤ 3)

theorem upN_some {l : List Fld} {v : Int} : ∀ {k i : Nat}, upN l v k = some i → (fat l i).level < v ∧ i < k ∧ ∀ j, i < j → j < k → v ≤ (fat l j).level
  | 0, i, h => by cases h
  | k + 1, i, h => by
    unfold upN at h
    split at h
    · rename_i hl
      cases h
      exact ⟨hl, by omega, fun j h1 h2 => by omega⟩
    · rename_i hl
      obtain ⟨h1, h2, h3⟩ := upN_some h
      refine ⟨h1, by omega, fun j a b => ?_⟩
      by_cases hj : j = k
      · subst hj; omega
      · exact h3 j a (by omega)
theorem mem_kids {l : List Fld} {i k : Nat} : k ∈ kidsA l i ↔ k < l.length ∧ par l k = some i := by
  simp [kidsA, kidsL]
theorem inner_kids {l : List Fld} {i : Nat} (hi : i < l.length) : innerB l i = decide (0 < (kidsA l i).length) := by
  rw [Bool.eq_iff_iff]
  simp only [innerB, Bool.and_eq_true, decide_eq_true_eq]
  constructor
  · rintro ⟨h1, h2⟩
    have : i + 1 ∈ kidsA l i := mem_kids.2 ⟨h1, by rw [par, upN, if_pos h2]⟩
    exact List.length_pos_of_mem this
  · intro h
    obtain ⟨k, hk⟩ := List.exists_mem_of_length_pos h
    obtain ⟨h1, h2⟩ := mem_kids.1 hk
    obtain ⟨a, b, c⟩ := upN_some h2
    refine ⟨by omega, ?_⟩
    by_cases hk1 : k = i + 1
    · subst hk1; exact a
    · have := c (i + 1) (by omega) (by omega)
      omega
theorem kids_sorted (l : List Fld) (i : Nat) : (kidsA l i).Pairwise (· < ·) := List.Pairwise.filter _ List.pairwise_lt_range
theorem kids_at {l : List Fld} {i k : Nat} (h : k ∈ kidsA l i) : ∃ q, q < (kidsA l i).length ∧ (kidsA l i).getD q 0 = k := by
  obtain ⟨q, hq, e⟩ := List.getElem_of_mem h
  exact ⟨q, hq, by rw [List.getD_eq_getElem?_getD, List.getElem?_eq_getElem hq]; exact e⟩
theorem kids_mem {l : List Fld} {i q : Nat} (h : q < (kidsA l i).length) : (kidsA l i).getD q 0 ∈ kidsA l i := by
  rw [List.getD_eq_getElem?_getD, List.getElem?_eq_getElem h]
  exact List.getElem_mem h
theorem kids_mono {l : List Fld} {i a b : Nat} (h : a < b) (hb : b < (kidsA l i).length) : (kidsA l i).getD a 0 < (kidsA l i).getD b 0 := by
  have := (List.pairwise_iff_getElem.1 (kids_sorted l i)) a b (by omega) hb h
  rw [List.getD_eq_getElem?_getD, List.getD_eq_getElem?_getD, List.getElem?_eq_getElem hb, List.getElem?_eq_getElem (by omega)]
  exact this
theorem allR {n : Nat} {g : Nat → Bool} : (List.range n).all g = true ↔ ∀ i, i < n → g i = true := by simp [List.all_eq_true]

/-- Sisters, from above and from one of them. -/
theorem kids_sibs {l : List Fld} (h : ∀ p, p < l.length → kidPre l p (kidsA l p).length = true) {i : Nat} (hi : i < l.length) : sibPre l i i = true := by
  rw [sibPre, allR]
  intro k hk
  unfold sibC
  cases hp : par l i with
  | none => simp
  | some p =>
    by_cases hpk : par l k = some p
    · have hpi := par_lt hp
      obtain ⟨b, hb, eb⟩ := kids_at (mem_kids.2 ⟨hi, hp⟩)
      obtain ⟨a, ha, ea⟩ := kids_at (mem_kids.2 ⟨(by omega : k < l.length), hpk⟩)
      have hab : a < b := by
        rcases Nat.lt_trichotomy a b with h' | h' | h'
        · exact h'
        · subst h'; omega
        · have := kids_mono h' ha; omega
      have hb1 := allR.1 (h p (by omega)) b hb
      have ha1 := allR.1 (h p (by omega)) a ha
      rw [kidC1, eb] at hb1
      rw [kidC1, ea] at ha1
      simp only [Bool.and_eq_true, Bool.not_eq_true', decide_eq_false_iff_not, beq_iff_eq] at hb1 ha1
      have hn : (fat l k).name ≠ (fat l i).name := by
        intro e
        refine hb1.1 (List.mem_map.2 ⟨k, ?_, e⟩)
        rw [List.mem_take_iff_getElem]
        refine ⟨a, by omega, ?_⟩
        rw [← ea, List.getD_eq_getElem?_getD, List.getElem?_eq_getElem ha]
        rfl
      have hl : (fat l k).level = (fat l i).level := ha1.2.trans hb1.2.symm
      have e1 : ((fat l k).name == (fat l i).name) = false := by simpa using hn
      have e2 : ((fat l k).level == (fat l i).level) = true := by simpa using hl
      rw [e1, e2]
      simp
    · have : (par l k == some p) = false := by simpa using hpk
      rw [this]
      simp
theorem sibs_kids {l : List Fld} (h : ∀ i, i < l.length → sibPre l i i = true) {p : Nat} (hp : p < l.length) : kidPre l p (kidsA l p).length = true := by
  rw [kidPre, allR]
  intro q hq
  obtain ⟨hi, hpi⟩ := mem_kids.1 (kids_mem hq)
  have hs := allR.1 (h _ hi)
  have key : ∀ a, a < q → (fat l ((kidsA l p).getD a 0)).name ≠ (fat l ((kidsA l p).getD q 0)).name ∧ (fat l ((kidsA l p).getD a 0)).level = (fat l ((kidsA l p).getD q 0)).level := by
    intro a ha
    have h1 := hs _ (kids_mono ha hq)
    obtain ⟨_, hpa⟩ := mem_kids.1 (kids_mem (l := l) (i := p) (q := a) (by omega))
    rw [sibC, hpi, hpa] at h1
    simp at h1
    exact ⟨by simpa using h1.1, by simpa using h1.2⟩
  rw [kidC1]
  have e1 : decide (nameOf l ((kidsA l p).getD q 0) ∈ ((kidsA l p).take q).map (nameOf l)) = false := by
    rw [decide_eq_false_iff_not]
    intro hm
    obtain ⟨k, hk, e⟩ := List.mem_map.1 hm
    rw [List.mem_take_iff_getElem] at hk
    obtain ⟨a, ha, e2⟩ := hk
    refine (key a (by omega)).1 ?_
    rw [List.getD_eq_getElem?_getD (l := kidsA l p) (i := a), List.getElem?_eq_getElem (by omega)]
    show (fat l ((kidsA l p)[a])).name = _
    rw [e2]
    exact e
  have e2 : ((fat l ((kidsA l p).getD q 0)).level == (fat l ((kidsA l p).getD 0 0)).level) = true := by
    rw [beq_iff_eq]
    by_cases h0 : q = 0
    · subst h0; rfl
    · exact (key 0 (by omega)).2.symm
  rw [e1, e2]
  rfl

theorem validP_eq (l : List Fld) : validP l = validF l := by
  rw [Bool.eq_iff_iff]
  unfold validP validF okPre
  simp only [Bool.and_eq_true, allR, decide_eq_true_eq, okA]
  constructor
  · rintro ⟨⟨h0, h1⟩, h2⟩
    refine ⟨h0, fun i hi => ?_⟩
    have hr : ∀ k, k < l.length → kindP l k = true ∧ kidPre l k (kidsA l k).length = true ∧ refP l k = true := fun k hk => by
      have := (h2 k hk).1
      simpa [rightP, and_assoc] using this
    obtain ⟨r1, r2, r3⟩ := hr i hi
    have hkind : ∀ k, k < l.length → kindOK l k = true := fun k hk => by
      have := (hr k hk).1
      rw [kindP] at this
      rw [kindOK, inner_kids hk]
      by_cases h' : 0 < (kidsA l k).length <;> simpa [h'] using this
    refine ⟨⟨⟨⟨h1 i hi, hkind i hi⟩, ?_⟩, (h2 i hi).2⟩, kids_sibs (fun p hp => (hr p hp).2.1) hi⟩
    rw [refP] at r3
    rw [refOK]
    by_cases hm : (fat l i).refer = -1
    · rw [hm]
      simp
      omega
    · have hm' : ((fat l i).refer == -1) = false := by simpa using hm
      rw [hm'] at r3
      simp only [Bool.false_or, Bool.and_eq_true, decide_eq_true_eq, beq_iff_eq, Bool.or_eq_true] at r3
      obtain ⟨⟨⟨⟨a1, a2⟩, a3⟩, a4⟩, a5⟩ := r3
      have hk := hkind (fat l i).refer.toNat (by omega)
      have hin : innerB l (fat l i).refer.toNat = false := by
        cases hin : innerB l (fat l i).refer.toNat with
        | false => rfl
        | true =>
          rw [kindOK, hin] at hk
          simp only [if_true, decide_eq_true_eq] at hk
          rw [hk] at a4
          simp [typ0] at a4
      simp only [Bool.and_eq_true, decide_eq_true_eq, Bool.or_eq_true, beq_iff_eq, hin, Bool.not_false]
      exact ⟨⟨by omega, a2⟩, .inr ⟨⟨⟨trivial, a4⟩, a5⟩, a3⟩⟩
  · rintro ⟨h0, h1⟩
    refine ⟨⟨h0, fun i hi => (h1 i hi).1.1.1.1⟩, fun i hi => ⟨?_, (h1 i hi).1.2⟩⟩
    obtain ⟨⟨⟨⟨a1, a2⟩, a3⟩, a4⟩, a5⟩ := h1 i hi
    rw [rightP, sibs_kids (fun k hk => (h1 k hk).2) hi]
    have hkp : kindP l i = true := by
      rw [kindP]
      rw [kindOK, inner_kids hi] at a2
      by_cases h' : 0 < (kidsA l i).length <;> simpa [h'] using a2
    rw [hkp, refP]
    rw [refOK] at a3
    simp only [Bool.and_eq_true, decide_eq_true_eq, Bool.or_eq_true, beq_iff_eq, Bool.not_eq_true'] at a3 ⊢
    obtain ⟨⟨b1, b2⟩, b3⟩ := a3
    refine ⟨⟨trivial, trivial⟩, ?_⟩
    by_cases hm : (fat l i).refer = -1
    · exact .inl hm
    · rcases b3 with b3 | b3
      · omega
      · exact .inr ⟨⟨⟨⟨by omega, b2⟩, b3.2⟩, b3.1.1.2⟩, b3.1.2⟩

theorem validP_base {l : List Fld} {i : Nat} (hi : i < l.length) (h : baseOK l i = false) : validP l = false := by
  rw [validP, allPre_false hi h]; simp
theorem validP_right {l : List Fld} {i : Nat} (hi : i < l.length) (h : (rightP l i && decide (arrs l i ≤ 3)) = false) : validP l = false := by
  rw [validP, allPre_false (g := fun i => rightP l i && decide (arrs l i ≤ 3)) hi h, Bool.and_false]
theorem baseB (l : List Fld) (i : Nat) : (if (if (if (!(decide (1 ≤ (fat l i).level) && decide ((fat l i).level ≤ 255))) = true then true else (if decide ((i : Int) > 0) = true then (fat l i).level == 1 else false)) = true then true else !nameB (fat l i).name) = true then true
    else !(decide (0 ≤ (fat l i).count) && decide ((fat l i).count ≤ 200))) = !baseOK l i := by
  unfold baseOK inR
  generalize nameB (fat l i).name = nb
  rw [Bool.eq_iff_iff]
  cases nb <;> (simp [-List.getD_eq_getElem?_getD, -List.length_eq_zero_iff, fat] <;> omega)
theorem level_valid (nl : Option Bool) (l : List Fld) (hs : smallF l) : CallT Try.prog 76 [fldS nl l] [] (fun o A => o = .ret (bv (validF l)) ∧ A = []) := by
  rw [← validP_eq]
  have hs' := hs
  obtain ⟨hb, hsm⟩ := hs
  refine callS_body (n := 72) rfl rfl fun w ρ X => ?_
  by_cases h0 : l.length = 0
  · have : l = [] := List.eq_nil_of_length_eq_zero h0
    subst this
    refine runS_x (I := inf) (J := jnf) ⟨false, false, [], 0, 0⟩ 9999 rfl (by repeat (first | exact obs_nil | refine obs_draw (by kernel_rfl) ?_ | refine obs_same ?_ | refine obs_and ?_ | refine obs_by (by (simp [inB] <;> omega)) ?_)) ?_
    refine runS_call rfl rfl rfl rfl rfl rfl rfl (level_within _ _ _) ?_
    refine runS_x (I := inf) (J := jnf) ⟨true, false, [], 0, 0⟩ 9999 rfl (by repeat (first | exact obs_nil | refine obs_draw (by kernel_rfl) ?_ | refine obs_same ?_ | refine obs_and ?_ | refine obs_by (by (simp [inB] <;> omega)) ?_)) ?_
    refine runS_ret (I := inf) 0 rfl (Nat.le_refl _) rfl .nil rfl ⟨?_, rfl⟩
    rfl
  have hpos : 0 < l.length := by omega
  refine runS_x (I := inf) (J := jnf) ⟨false, false, [], 0, 0⟩ 9999 rfl (by repeat (first | exact obs_nil | refine obs_draw (by kernel_rfl) ?_ | refine obs_same ?_ | refine obs_and ?_ | refine obs_by (by (simp [inB] <;> omega)) ?_)) ?_
  refine runS_call rfl rfl rfl rfl rfl rfl rfl (level_within _ _ _) ?_
  refine runS_x (I := inf) (J := jnf) ⟨false, false, [], 0, 0⟩ 9999 rfl (by repeat (first | exact obs_nil | refine obs_draw (by kernel_rfl) ?_ | refine obs_same ?_ | refine obs_and ?_ | refine obs_by (by (simp [inB, hpos] <;> omega)) ?_)) ?_
  have hw : (if (!(decide ((1 : Int) ≤ l.length) && decide ((l.length : Int) ≤ 200))) = true then true else (fat l 0).level != 1) = !(decide (1 ≤ l.length) && decide (l.length ≤ 200) && (fat l 0).level == 1) := by
    rw [Bool.eq_iff_iff]
    simp [-List.getD_eq_getElem?_getD, -List.length_eq_zero_iff, fat]
    omega
  refine runS_cond rfl (fun h => ?_) (fun h => ?_)
  · refine runS_x (I := inf) (J := jnf) ⟨false, false, [], 0, 0⟩ 9999 rfl (by repeat (first | exact obs_nil | refine obs_draw (by kernel_rfl) ?_ | refine obs_same ?_ | refine obs_and ?_ | refine obs_by (by (simp [inB] <;> omega)) ?_)) ?_
    refine runS_ret (I := inf) 0 rfl (Nat.le_refl _) rfl .nil rfl ⟨?_, rfl⟩
    have h' := hw.symm.trans h
    have : validP l = false := by
      rw [validP]
      rw [Bool.not_eq_true'] at h'
      rw [h']
      rfl
    rw [this]
    rfl
  have h1 : (decide (1 ≤ l.length) && decide (l.length ≤ 200) && (fat l 0).level == 1) = true := by
    have h' := hw.symm.trans h
    rwa [Bool.not_eq_false'] at h'
  refine runS_x (I := inf) (J := jnf) ⟨false, false, [], 0, 0⟩ 9999 rfl (by repeat (first | exact obs_nil | refine obs_draw (by kernel_rfl) ?_ | refine obs_same ?_ | refine obs_and ?_ | refine obs_by (by (simp [inB] <;> omega)) ?_)) ?_
  refine runS_while (fun (i : Nat) τ ar => (τ 0 = fldS nl l ∧ τ 19 = fldS nl l ∧ τ 20 = iv l.length ∧ τ 21 = iv i) ∧ ar = [] ∧ i ≤ l.length ∧ (List.range i).all (baseOK l) = true) (fun i => l.length - i) 0 ⟨⟨rfl, rfl, rfl, rfl⟩, rfl, Nat.zero_le _, rfl⟩ ?_
  rintro i τ' ar' ⟨⟨g0, g19, g20, g21⟩, rfl, hi, hp⟩ ih
  refine runS_says 0 (by exact g0) (Says.refl _) ?_; refine runS_says 19 (by exact g19) (Says.refl _) ?_; refine runS_says 20 (by exact g20) (Says.refl _) ?_; refine runS_says 21 (by exact g21) (Says.refl _) ?_
  refine runS_x (I := inf) (J := jnf) ⟨false, false, [], 0, 0⟩ 9999 rfl (by repeat (first | exact obs_nil | refine obs_draw (by kernel_rfl) ?_ | refine obs_same ?_ | refine obs_and ?_ | refine obs_by (by (simp [inB] <;> omega)) ?_)) ?_
  refine runS_cond rfl (fun hlt => ?_) (fun hlt => ?_)
  · have hlt' : i < l.length := by simpa using hlt
    refine runS_x (I := inf) (J := jnf) ⟨false, false, [], 0, 0⟩ 9999 rfl (by repeat (first | exact obs_nil | refine obs_draw (by kernel_rfl) ?_ | refine obs_same ?_ | refine obs_and ?_ | refine obs_by (by (simp [inB, hlt'] <;> omega)) ?_)) ?_
    refine runS_call rfl rfl rfl rfl rfl rfl rfl (level_within _ _ _) ?_
    refine runS_x (I := inf) (J := jnf) ⟨false, false, [], 0, 0⟩ 9999 rfl (by repeat (first | exact obs_nil | refine obs_draw (by kernel_rfl) ?_ | refine obs_same ?_ | refine obs_and ?_ | refine obs_by (by (simp [inB] <;> omega)) ?_)) ?_
    refine runS_callU rfl rfl (by first | exact .v rfl rfl rfl rfl | exact .o rfl rfl rfl rfl) rfl rfl (by repeat (first | exact .nil | refine .cons (.n rfl) ?_ | refine .cons .o ?_ | refine .cons gok_and ?_)) rfl rfl rfl rfl rfl (fun _ => (level_named (fat l i).name (hsm i hlt').1)) ?_
    refine runS_x (I := inf) (J := jnf) ⟨false, false, [], 0, 0⟩ 9999 rfl (by repeat (first | exact obs_nil | refine obs_draw (by kernel_rfl) ?_ | refine obs_same ?_ | refine obs_and ?_ | refine obs_by (by (simp [inB] <;> omega)) ?_)) ?_
    refine runS_callU rfl rfl (by first | exact .v rfl rfl rfl rfl | exact .o rfl rfl rfl rfl) rfl rfl (by repeat (first | exact .nil | refine .cons (.n rfl) ?_ | refine .cons .o ?_ | refine .cons gok_and ?_)) rfl rfl rfl rfl rfl (fun _ => (level_within _ _ _)) ?_
    refine runS_x (I := inf) (J := jnf) ⟨false, false, [], 0, 0⟩ 9999 rfl (by repeat (first | exact obs_nil | refine obs_draw (by kernel_rfl) ?_ | refine obs_same ?_ | refine obs_and ?_ | refine obs_by (by (simp [inB] <;> omega)) ?_)) ?_
    refine runS_cond rfl (fun hz => ?_) (fun hz => ?_)
    · refine runS_x (I := inf) (J := jnf) ⟨false, false, [], 0, 0⟩ 9999 rfl (by repeat (first | exact obs_nil | refine obs_draw (by kernel_rfl) ?_ | refine obs_same ?_ | refine obs_and ?_ | refine obs_by (by (simp [inB] <;> omega)) ?_)) ?_
      refine runS_ret (I := inf) 0 rfl (Nat.le_refl _) rfl .nil rfl ⟨?_, rfl⟩
      have := (baseB l i).symm.trans hz
      rw [validP_base hlt' (by simpa using this)]
      rfl
    · have hz' := (baseB l i).symm.trans hz
      have hz2 : baseOK l i = true := by simpa using hz'
      refine runS_x (I := inf) (J := jnf) ⟨false, false, [], 0, 0⟩ 9999 rfl (by repeat (first | exact obs_nil | refine obs_draw (by kernel_rfl) ?_ | refine obs_same ?_ | refine obs_and ?_ | refine obs_by (by (simp [inB] <;> omega)) ?_)) ?_
      refine runS_drop 0 (Nat.zero_le _) rfl (by repeat (first | exact .nil | refine .row (fun j hj => rfl) ?_ | refine .box rfl ?_ | refine .fam (fun k j hk hj => rfl) ?_ | refine .loop (scrub_under _ _) ?_ | refine .dfr ?_ | refine .gone ?_ | refine .map (fun p hp => by (obtain ⟨k, _, rfl⟩ := List.mem_map.1 hp; rfl)) ?_)) rfl rfl rfl (by repeat (first | exact .nil | refine .cons rfl rfl rfl (scrub_under _ _) ?_)) ?_
      refine ih (i + 1) _ _ (by omega) ⟨⟨rfl, rfl, rfl, ?_⟩, rfl, by omega, by rw [allPre_succ, hp, hz2]; rfl⟩
      show iv (IntKind.wrap .i64 ((i : Int) + 1)) = _
      rw [w64 (by omega) (by omega)]; rfl
  · have : i = l.length := by simp at hlt; omega
    subst this
    refine runS_x (I := inf) (J := jnf) ⟨false, false, [], 0, 0⟩ 9999 rfl (by repeat (first | exact obs_nil | refine obs_draw (by kernel_rfl) ?_ | refine obs_same ?_ | refine obs_and ?_ | refine obs_by (by (simp [inB] <;> omega)) ?_)) ?_
    refine runS_call rfl rfl rfl rfl rfl rfl rfl (level_tree nl l hb) ?_
    refine runS_x (I := inf) (J := jnf) ⟨false, false, [], 0, 0⟩ 9999 rfl (by repeat (first | exact obs_nil | refine obs_draw (by kernel_rfl) ?_ | refine obs_same ?_ | refine obs_and ?_ | refine obs_by (by (simp [inB] <;> omega)) ?_)) ?_
    refine runS_while (fun (i : Nat) τ ar => (τ 5 = treeS none l ∧ τ 54 = treeS none l ∧ τ 55 = iv l.length ∧ τ 56 = iv i) ∧ ar = [] ∧ i ≤ l.length ∧ (List.range i).all (fun i => rightP l i && decide (arrs l i ≤ 3)) = true) (fun i => l.length - i) 0 ⟨⟨rfl, rfl, rfl, rfl⟩, rfl, Nat.zero_le _, rfl⟩ ?_
    rintro i τ2 ar2 ⟨⟨g5, g54, g55, g56⟩, rfl, hi, hp2⟩ ih2
    refine runS_says 5 (by exact g5) (Says.refl _) ?_; refine runS_says 54 (by exact g54) (Says.refl _) ?_; refine runS_says 55 (by exact g55) (Says.refl _) ?_; refine runS_says 56 (by exact g56) (Says.refl _) ?_
    refine runS_x (I := inf) (J := jnf) ⟨false, false, [], 0, 0⟩ 9999 rfl (by repeat (first | exact obs_nil | refine obs_draw (by kernel_rfl) ?_ | refine obs_same ?_ | refine obs_and ?_ | refine obs_by (by (simp [inB] <;> omega)) ?_)) ?_
    refine runS_cond rfl (fun hlt2 => ?_) (fun hlt2 => ?_)
    · have hlt' : i < l.length := by simpa using hlt2
      refine runS_x (I := inf) (J := jnf) ⟨false, false, [], 0, 0⟩ 9999 rfl (by repeat (first | exact obs_nil | refine obs_draw (by kernel_rfl) ?_ | refine obs_same ?_ | refine obs_and ?_ | refine obs_by (by (simp [inB, hlt'] <;> omega)) ?_)) ?_
      refine runS_call rfl rfl rfl rfl rfl rfl rfl (level_right none l i hlt' hs') ?_
      refine runS_x (I := inf) (J := jnf) ⟨false, false, [], 0, 0⟩ 9999 rfl (by repeat (first | exact obs_nil | refine obs_draw (by kernel_rfl) ?_ | refine obs_same ?_ | refine obs_and ?_ | refine obs_by (by (simp [inB] <;> omega)) ?_)) ?_
      refine runS_callU rfl rfl (by first | exact .v rfl rfl rfl rfl | exact .o rfl rfl rfl rfl) rfl rfl (by repeat (first | exact .nil | refine .cons (.n rfl) ?_ | refine .cons .o ?_ | refine .cons gok_and ?_)) rfl rfl rfl rfl rfl (fun _ => (level_arrays none l i hlt' hb)) ?_
      refine runS_x (I := inf) (J := jnf) ⟨false, false, [], 0, 0⟩ 9999 rfl (by repeat (first | exact obs_nil | refine obs_draw (by kernel_rfl) ?_ | refine obs_same ?_ | refine obs_and ?_ | refine obs_by (by (simp [inB] <;> omega)) ?_)) ?_
      have hw2 : (if (!rightP l i) = true then true else decide ((arrs l i : Int) > 3)) = !(rightP l i && decide (arrs l i ≤ 3)) := by
        rw [Bool.eq_iff_iff]
        cases rightP l i <;> simp
        omega
      refine runS_cond rfl (fun hz => ?_) (fun hz => ?_)
      · refine runS_x (I := inf) (J := jnf) ⟨false, false, [], 0, 0⟩ 9999 rfl (by repeat (first | exact obs_nil | refine obs_draw (by kernel_rfl) ?_ | refine obs_same ?_ | refine obs_and ?_ | refine obs_by (by (simp [inB] <;> omega)) ?_)) ?_
        refine runS_ret (I := inf) 0 rfl (Nat.le_refl _) rfl .nil rfl ⟨?_, rfl⟩
        have := hw2.symm.trans hz
        rw [validP_right hlt' (by rwa [Bool.not_eq_true'] at this)]
        rfl
      · have hz' := hw2.symm.trans hz
        refine runS_x (I := inf) (J := jnf) ⟨false, false, [], 0, 0⟩ 9999 rfl (by repeat (first | exact obs_nil | refine obs_draw (by kernel_rfl) ?_ | refine obs_same ?_ | refine obs_and ?_ | refine obs_by (by (simp [inB] <;> omega)) ?_)) ?_
        refine runS_drop 0 (Nat.zero_le _) rfl (by repeat (first | exact .nil | refine .row (fun j hj => rfl) ?_ | refine .box rfl ?_ | refine .fam (fun k j hk hj => rfl) ?_ | refine .loop (scrub_under _ _) ?_ | refine .dfr ?_ | refine .gone ?_ | refine .map (fun p hp => by (obtain ⟨k, _, rfl⟩ := List.mem_map.1 hp; rfl)) ?_)) rfl rfl rfl (by repeat (first | exact .nil | refine .cons rfl rfl rfl (scrub_under _ _) ?_)) ?_
        refine ih2 (i + 1) _ _ (by omega) ⟨⟨rfl, rfl, rfl, ?_⟩, rfl, by omega, by rw [allPre_succ, hp2, Bool.true_and]; rwa [Bool.not_eq_false'] at hz'⟩
        show iv (IntKind.wrap .i64 ((i : Int) + 1)) = _
        rw [w64 (by omega) (by omega)]; rfl
    · have : i = l.length := by simp at hlt2; omega
      subst this
      refine runS_x (I := inf) (J := jnf) ⟨false, false, [], 0, 0⟩ 9999 rfl (by repeat (first | exact obs_nil | refine obs_draw (by kernel_rfl) ?_ | refine obs_same ?_ | refine obs_and ?_ | refine obs_by (by (simp [inB] <;> omega)) ?_)) ?_
      refine runS_ret (I := inf) 0 rfl (Nat.le_refl _) rfl .nil rfl ⟨?_, rfl⟩
      rw [validP, h1, hp, hp2]
      rfl
end Go.Iron.Try

/- The level package's functions (seat Ytamhonbhoelohaa): must, valid, Parent. -/
namespace Go.Iron.Try
open Go.Proofs

theorem must_ok (e : Int) : CallT Try.prog 116 [bv true, iv e] [] (fun o A => o = .ret (.tup []) ∧ A = []) := by
  refine callS_body (n := 9) rfl rfl fun w ρ X => ?_
  refine runS_x (I := inf) (J := jnf) ⟨true, false, [], 0, 0⟩ 9999 rfl (by repeat (first | exact obs_nil | refine obs_draw (by kernel_rfl) ?_ | refine obs_same ?_ | refine obs_and ?_ | refine obs_by (by (simp [inB] <;> omega)) ?_)) ?_
  refine runS_ret (I := inf) 0 rfl (Nat.le_refl _) rfl .nil rfl ⟨?_, rfl⟩
  rfl
theorem must_no (e : Int) : CallT Try.prog 116 [bv false, iv e] [] (fun o A => o = .pan (.ifc 170 (.agg [iv e])) ∧ A = []) := by
  refine callS_body (n := 9) rfl rfl fun w ρ X => ?_
  refine runS_x (I := inf) (J := jnf) ⟨true, false, [], 0, 0⟩ 9999 rfl (by repeat (first | exact obs_nil | refine obs_draw (by kernel_rfl) ?_ | refine obs_same ?_ | refine obs_and ?_ | refine obs_by (by (simp [inB] <;> omega)) ?_)) ?_
  exact runS_pan 0 rfl (Nat.le_refl _) rfl .nil ⟨rfl, rfl⟩
theorem valid_ok (nl : Option Bool) (l : List Fld) (i : Int) (hs : smallF l) (hv : validF l = true) (hi : 0 ≤ i ∧ i < l.length) : CallT Try.prog 115 [fldS nl l, iv i] [] (fun o A => o = .ret (treeS none l) ∧ A = []) := by
  have hb := hs.1
  refine callS_body (n := 16) rfl rfl fun w ρ X => ?_
  refine runS_x (I := inf) (J := jnf) ⟨false, false, [], 0, 0⟩ 9999 rfl (by repeat (first | exact obs_nil | refine obs_draw (by kernel_rfl) ?_ | refine obs_same ?_ | refine obs_and ?_ | refine obs_by (by (simp [inB] <;> omega)) ?_)) ?_
  refine runS_call rfl rfl rfl rfl rfl rfl rfl (level_valid nl l hs) ?_
  rw [hv]
  refine runS_call rfl rfl rfl rfl rfl rfl rfl (must_ok 1) ?_
  refine runS_x (I := inf) (J := jnf) ⟨false, false, [], 0, 0⟩ 9999 rfl (by repeat (first | exact obs_nil | refine obs_draw (by kernel_rfl) ?_ | refine obs_same ?_ | refine obs_and ?_ | refine obs_by (by (simp [inB] <;> omega)) ?_)) ?_
  refine runS_call rfl rfl rfl rfl rfl rfl rfl (level_within _ _ _) ?_
  refine runS_x (I := inf) (J := jnf) ⟨false, false, [], 0, 0⟩ 9999 rfl (by repeat (first | exact obs_nil | refine obs_draw (by kernel_rfl) ?_ | refine obs_same ?_ | refine obs_and ?_ | refine obs_by (by (simp [inB] <;> omega)) ?_)) ?_
  have hc : (decide (0 ≤ i) && decide (i ≤ IntKind.wrap .i64 ((l.length : Int) - 1))) = true := by
    rw [w64 (by omega) (by omega)]
    simp
    omega
  rw [hc]
  refine runS_call rfl rfl rfl rfl rfl rfl rfl (must_ok 7) ?_
  refine runS_x (I := inf) (J := jnf) ⟨false, false, [], 0, 0⟩ 9999 rfl (by repeat (first | exact obs_nil | refine obs_draw (by kernel_rfl) ?_ | refine obs_same ?_ | refine obs_and ?_ | refine obs_by (by (simp [inB] <;> omega)) ?_)) ?_
  refine runS_call rfl rfl rfl rfl rfl rfl rfl (level_tree nl l hb) ?_
  refine runS_x (I := inf) (J := jnf) ⟨false, false, [], 0, 0⟩ 9999 rfl (by repeat (first | exact obs_nil | refine obs_draw (by kernel_rfl) ?_ | refine obs_same ?_ | refine obs_and ?_ | refine obs_by (by (simp [inB] <;> omega)) ?_)) ?_
  refine runS_ret (I := inf) 0 rfl (Nat.le_refl _) rfl .nil rfl ⟨?_, rfl⟩
  rfl
theorem valid_bad1 (nl : Option Bool) (l : List Fld) (i : Int) (hs : smallF l) (hv : validF l = false) : CallT Try.prog 115 [fldS nl l, iv i] [] (fun o A => o = .pan (.ifc 170 (.agg [iv 1])) ∧ A = []) := by
  refine callS_body (n := 16) rfl rfl fun w ρ X => ?_
  refine runS_x (I := inf) (J := jnf) ⟨false, false, [], 0, 0⟩ 9999 rfl (by repeat (first | exact obs_nil | refine obs_draw (by kernel_rfl) ?_ | refine obs_same ?_ | refine obs_and ?_ | refine obs_by (by (simp [inB] <;> omega)) ?_)) ?_
  refine runS_call rfl rfl rfl rfl rfl rfl rfl (level_valid nl l hs) ?_
  rw [hv]
  refine runS_callP rfl rfl rfl rfl rfl rfl rfl (must_no 1) ?_
  exact runS_pan 0 rfl (Nat.le_refl _) rfl .nil ⟨rfl, rfl⟩
theorem valid_bad7 (nl : Option Bool) (l : List Fld) (i : Int) (hs : smallF l) (hv : validF l = true) (hi : ¬ (0 ≤ i ∧ i < l.length)) : CallT Try.prog 115 [fldS nl l, iv i] [] (fun o A => o = .pan (.ifc 170 (.agg [iv 7])) ∧ A = []) := by
  have hb := hs.1
  refine callS_body (n := 16) rfl rfl fun w ρ X => ?_
  refine runS_x (I := inf) (J := jnf) ⟨false, false, [], 0, 0⟩ 9999 rfl (by repeat (first | exact obs_nil | refine obs_draw (by kernel_rfl) ?_ | refine obs_same ?_ | refine obs_and ?_ | refine obs_by (by (simp [inB] <;> omega)) ?_)) ?_
  refine runS_call rfl rfl rfl rfl rfl rfl rfl (level_valid nl l hs) ?_
  rw [hv]
  refine runS_call rfl rfl rfl rfl rfl rfl rfl (must_ok 1) ?_
  refine runS_x (I := inf) (J := jnf) ⟨false, false, [], 0, 0⟩ 9999 rfl (by repeat (first | exact obs_nil | refine obs_draw (by kernel_rfl) ?_ | refine obs_same ?_ | refine obs_and ?_ | refine obs_by (by (simp [inB] <;> omega)) ?_)) ?_
  refine runS_call rfl rfl rfl rfl rfl rfl rfl (level_within _ _ _) ?_
  refine runS_x (I := inf) (J := jnf) ⟨false, false, [], 0, 0⟩ 9999 rfl (by repeat (first | exact obs_nil | refine obs_draw (by kernel_rfl) ?_ | refine obs_same ?_ | refine obs_and ?_ | refine obs_by (by (simp [inB] <;> omega)) ?_)) ?_
  have hc : (decide (0 ≤ i) && decide (i ≤ IntKind.wrap .i64 ((l.length : Int) - 1))) = false := by
    rw [w64 (by omega) (by omega), Bool.and_eq_false_iff]
    simp
    omega
  rw [hc]
  refine runS_callP rfl rfl rfl rfl rfl rfl rfl (must_no 7) ?_
  exact runS_pan 0 rfl (Nat.le_refl _) rfl .nil ⟨rfl, rfl⟩

def parentF (l : List Fld) (i : Int) : Int × Int := if validF l then (if 0 ≤ i ∧ i < l.length then (opI (par l i.toNat), 0) else (0, 7)) else (0, 1)
theorem ref_Parent (nl : Option Bool) (l : List Fld) (i : Int) (hs : smallF l) : CallT Try.prog 80 [fldS nl l, iv i] [] (fun o A => o = .ret (.tup [iv (parentF l i).1, iv (parentF l i).2]) ∧ A = []) := by
  have hb := hs.1
  refine callS_body (n := 22) rfl rfl fun w ρ X => ?_
  refine runS_x (I := inf) (J := jnf) ⟨false, false, [], 0, 0⟩ 9999 rfl (by repeat (first | exact obs_nil | refine obs_draw (by kernel_rfl) ?_ | refine obs_same ?_ | refine obs_and ?_ | refine obs_by (by (simp [inB] <;> omega)) ?_)) ?_
  refine runS_call rfl rfl rfl rfl rfl rfl rfl (ref_valid nl l hs) ?_
  refine runS_x (I := inf) (J := jnf) ⟨false, false, [], 0, 0⟩ 9999 rfl (by repeat (first | exact obs_nil | refine obs_draw (by kernel_rfl) ?_ | refine obs_same ?_ | refine obs_and ?_ | refine obs_by (by (simp [inB] <;> omega)) ?_)) ?_
  refine runS_cond rfl (fun h => ?_) (fun h => ?_)
  · refine runS_x (I := inf) (J := jnf) ⟨false, false, [], 0, 0⟩ 9999 rfl (by repeat (first | exact obs_nil | refine obs_draw (by kernel_rfl) ?_ | refine obs_same ?_ | refine obs_and ?_ | refine obs_by (by (simp [inB] <;> omega)) ?_)) ?_
    refine runS_ret (I := inf) 0 rfl (Nat.le_refl _) rfl .nil rfl ⟨?_, rfl⟩
    have hv : validF l = false := by simpa using h
    rw [parentF, hv]; rfl
  have hv : validF l = true := by simpa using h
  refine runS_x (I := inf) (J := jnf) ⟨false, false, [], 0, 0⟩ 9999 rfl (by repeat (first | exact obs_nil | refine obs_draw (by kernel_rfl) ?_ | refine obs_same ?_ | refine obs_and ?_ | refine obs_by (by (simp [inB] <;> omega)) ?_)) ?_
  refine runS_cond rfl (fun h2 => ?_) (fun h2 => ?_)
  · refine runS_x (I := inf) (J := jnf) ⟨false, false, [], 0, 0⟩ 9999 rfl (by repeat (first | exact obs_nil | refine obs_draw (by kernel_rfl) ?_ | refine obs_same ?_ | refine obs_and ?_ | refine obs_by (by (simp [inB] <;> omega)) ?_)) ?_
    refine runS_ret (I := inf) 0 rfl (Nat.le_refl _) rfl .nil rfl ⟨?_, rfl⟩
    have : ¬ (0 ≤ i ∧ i < l.length) := by simp at h2; omega
    rw [parentF, if_pos hv, if_neg this]
    rfl
  have hi : 0 ≤ i ∧ i < l.length := by simp at h2; omega
  obtain ⟨k, rfl⟩ : ∃ k : Nat, i = k := ⟨i.toNat, by omega⟩
  refine runS_x (I := inf) (J := jnf) ⟨false, false, [], 0, 0⟩ 9999 rfl (by repeat (first | exact obs_nil | refine obs_draw (by kernel_rfl) ?_ | refine obs_same ?_ | refine obs_and ?_ | refine obs_by (by (simp [inB] <;> omega)) ?_)) ?_
  refine runS_call rfl rfl rfl rfl rfl rfl rfl (ref_parent nl l k (by omega) (by omega)) ?_
  refine runS_x (I := inf) (J := jnf) ⟨false, false, [], 0, 0⟩ 9999 rfl (by repeat (first | exact obs_nil | refine obs_draw (by kernel_rfl) ?_ | refine obs_same ?_ | refine obs_and ?_ | refine obs_by (by (simp [inB] <;> omega)) ?_)) ?_
  refine runS_ret (I := inf) 0 rfl (Nat.le_refl _) rfl .nil rfl ⟨?_, rfl⟩
  rw [parentF, if_pos hv, if_pos hi]
  rfl
theorem level_Parent (nl : Option Bool) (l : List Fld) (i : Int) (hs : smallF l) : CallT Try.prog 72 [fldS nl l, iv i] [] (fun o A => o = .ret (.tup [iv (parentF l i).1, iv (parentF l i).2]) ∧ A = []) := by
  have hb := hs.1
  by_cases hv : validF l = true
  · by_cases hi : 0 ≤ i ∧ i < l.length
    · have k1 : inB i l.length = true := inB_iff.2 hi
      refine callS_body (n := 10) rfl rfl fun w ρ X => ?_
      refine runS_x (I := inf) (J := jnf) ⟨false, false, [125, 126], 0, 0⟩ 9999 rfl (by repeat (first | exact obs_nil | refine obs_draw (by kernel_rfl) ?_ | refine obs_same ?_ | refine obs_and ?_ | refine obs_by (by (simp [inB] <;> omega)) ?_)) ?_
      refine runS_draw 7 (by kernel_rfl) (lexj_x (I := inf) (J := jnf) 99 rfl rfl (by repeat (first | exact obs_nil | refine obs_same ?_ | refine obs_and ?_ | refine obs_by (by first | exact fun _ => k1 | (simp [inB] <;> omega)) ?_)) (lexj_call rfl rfl rfl rfl rfl rfl rfl rfl (valid_ok nl l i hs hv hi) (lexj_x (I := inf) (J := jnf) 99 rfl rfl (by repeat (first | exact obs_nil | refine obs_same ?_ | refine obs_and ?_ | refine obs_by (by first | exact fun _ => k1 | (simp [inB] <;> omega)) ?_)) lexj_nil))) ?_
      refine runS_x (I := inf) (J := jnf) ⟨true, false, [167], 0, 0⟩ 9999 rfl (by repeat (first | exact obs_nil | refine obs_draw (by kernel_rfl) ?_ | refine obs_same ?_ | refine obs_and ?_ | refine obs_by (by (simp [inB] <;> omega)) ?_)) ?_
      refine runS_ret (I := inf) 0 rfl (Nat.le_refl _) rfl .nil rfl ⟨?_, rfl⟩
      rw [parentF, if_pos hv, if_pos hi]
      rfl
    · refine callS_body (n := 10) rfl rfl fun w ρ X => ?_
      refine runS_x (I := inf) (J := jnf) ⟨false, false, [125, 126], 0, 0⟩ 9999 rfl (by repeat (first | exact obs_nil | refine obs_draw (by kernel_rfl) ?_ | refine obs_same ?_ | refine obs_and ?_ | refine obs_by (by (simp [inB] <;> omega)) ?_)) ?_
      refine runS_drawG 7 [] (fun _ => _) (some 2) (c := 9) jnfI.draw (by kernel_rfl) rfl (lexg_g (I := inf) (J := jnf) none ⟨_, rfl, (by repeat (first | exact obs_nil | refine obs_same ?_ | refine obs_and ?_ | refine obs_by (by (simp [inB] <;> omega)) ?_))⟩ rfl rfl rfl rfl (lexg_g (I := inf) (J := jnf) none ⟨_, rfl, (by repeat (first | exact obs_nil | refine obs_same ?_ | refine obs_and ?_ | refine obs_by (by (simp [inB] <;> omega)) ?_))⟩ rfl rfl rfl rfl (lexg_pan rfl rfl rfl rfl rfl rfl rfl rfl (valid_bad7 nl l i hs hv hi) (lexg_g (I := inf) (J := jnf) none ⟨_, rfl, (by repeat (first | exact obs_nil | refine obs_same ?_ | refine obs_and ?_ | refine obs_by (by (simp [inB] <;> omega)) ?_))⟩ rfl rfl rfl rfl (lexg_late rfl (by kernel_rfl) (lexg_late rfl (by kernel_rfl) (lexg_late rfl (by kernel_rfl) lexg_nil))))))) rfl (fun h => by cases h) (fun _ b tt => ?_)
      refine runS_x (I := inf) (J := jnf) ⟨true, false, [167], 0, 0⟩ 9999 rfl (by repeat (first | exact obs_nil | refine obs_draw (by kernel_rfl) ?_ | refine obs_same ?_ | refine obs_and ?_ | refine obs_by (by (simp [inB] <;> omega)) ?_)) ?_
      refine runS_drawG (ch := []) 4 [3] (fun b => [.box 41 [fldS nl l], .box 3 [iv i], .box 3 [iv 0], .box 51 [iv 0], .box 170 [iv 7]]) none (c := 9) jnfI.draw (by kernel_rfl) rfl (lexg_g (I := inf) (J := jnf) none ⟨⟨_, rfl, (by repeat (first | exact obs_nil | refine obs_same ?_ | refine obs_and ?_ | refine obs_by (by (simp [inB] <;> omega)) ?_))⟩, (by first | exact .inl (by decide +kernel) | exact .inr ⟨_, rfl, (by repeat (first | exact obs_nil | refine obs_same ?_ | refine obs_and ?_ | refine obs_by (by (simp [inB] <;> omega)) ?_))⟩)⟩ rfl rfl rfl rfl (lexg_g (I := inf) (J := jnf) none ⟨⟨_, rfl, (by repeat (first | exact obs_nil | refine obs_same ?_ | refine obs_and ?_ | refine obs_by (by (simp [inB] <;> omega)) ?_))⟩, (by first | exact .inl (by decide +kernel) | exact .inr ⟨_, rfl, (by repeat (first | exact obs_nil | refine obs_same ?_ | refine obs_and ?_ | refine obs_by (by (simp [inB] <;> omega)) ?_))⟩)⟩ rfl rfl rfl rfl (lexg_g (I := inf) (J := jnf) none ⟨⟨_, rfl, (by repeat (first | exact obs_nil | refine obs_same ?_ | refine obs_and ?_ | refine obs_by (by (simp [inB] <;> omega)) ?_))⟩, (by first | exact .inl (by decide +kernel) | exact .inr ⟨_, rfl, (by repeat (first | exact obs_nil | refine obs_same ?_ | refine obs_and ?_ | refine obs_by (by (simp [inB] <;> omega)) ?_))⟩)⟩ rfl rfl rfl rfl (lexg_g (I := inf) (J := jnf) (some .store) ⟨⟨_, rfl, (by repeat (first | exact obs_nil | refine obs_same ?_ | refine obs_and ?_ | refine obs_by (by (simp [inB] <;> omega)) ?_))⟩, .inl rfl⟩ rfl rfl rfl rfl lexg_nil)))) rfl (fun _ => ?_) (fun h => by cases h)
      refine runS_x (I := inf) (J := jnf) ⟨true, false, [167], 0, 0⟩ 9999 rfl (by repeat (first | exact obs_nil | refine obs_draw (by kernel_rfl) ?_ | refine obs_same ?_ | refine obs_and ?_ | refine obs_by (by (simp [inB] <;> omega)) ?_)) ?_
      refine runS_ret (I := inf) 0 rfl (Nat.le_refl _) rfl .nil rfl ⟨?_, rfl⟩
      rw [parentF, if_pos hv, if_neg hi]
      rfl
  · refine callS_body (n := 10) rfl rfl fun w ρ X => ?_
    refine runS_x (I := inf) (J := jnf) ⟨false, false, [125, 126], 0, 0⟩ 9999 rfl (by repeat (first | exact obs_nil | refine obs_draw (by kernel_rfl) ?_ | refine obs_same ?_ | refine obs_and ?_ | refine obs_by (by (simp [inB] <;> omega)) ?_)) ?_
    refine runS_drawG 7 [] (fun _ => _) (some 2) (c := 9) jnfI.draw (by kernel_rfl) rfl (lexg_g (I := inf) (J := jnf) none ⟨_, rfl, (by repeat (first | exact obs_nil | refine obs_same ?_ | refine obs_and ?_ | refine obs_by (by (simp [inB] <;> omega)) ?_))⟩ rfl rfl rfl rfl (lexg_g (I := inf) (J := jnf) none ⟨_, rfl, (by repeat (first | exact obs_nil | refine obs_same ?_ | refine obs_and ?_ | refine obs_by (by (simp [inB] <;> omega)) ?_))⟩ rfl rfl rfl rfl (lexg_pan rfl rfl rfl rfl rfl rfl rfl rfl (valid_bad1 nl l i hs (by simpa using hv)) (lexg_g (I := inf) (J := jnf) none ⟨_, rfl, (by repeat (first | exact obs_nil | refine obs_same ?_ | refine obs_and ?_ | refine obs_by (by (simp [inB] <;> omega)) ?_))⟩ rfl rfl rfl rfl (lexg_late rfl (by kernel_rfl) (lexg_late rfl (by kernel_rfl) (lexg_late rfl (by kernel_rfl) lexg_nil))))))) rfl (fun h => by cases h) (fun _ b tt => ?_)
    refine runS_x (I := inf) (J := jnf) ⟨true, false, [167], 0, 0⟩ 9999 rfl (by repeat (first | exact obs_nil | refine obs_draw (by kernel_rfl) ?_ | refine obs_same ?_ | refine obs_and ?_ | refine obs_by (by (simp [inB] <;> omega)) ?_)) ?_
    refine runS_drawG (ch := []) 4 [3] (fun b => [.box 41 [fldS nl l], .box 3 [iv i], .box 3 [iv 0], .box 51 [iv 0], .box 170 [iv 1]]) none (c := 9) jnfI.draw (by kernel_rfl) rfl (lexg_g (I := inf) (J := jnf) none ⟨⟨_, rfl, (by repeat (first | exact obs_nil | refine obs_same ?_ | refine obs_and ?_ | refine obs_by (by (simp [inB] <;> omega)) ?_))⟩, (by first | exact .inl (by decide +kernel) | exact .inr ⟨_, rfl, (by repeat (first | exact obs_nil | refine obs_same ?_ | refine obs_and ?_ | refine obs_by (by (simp [inB] <;> omega)) ?_))⟩)⟩ rfl rfl rfl rfl (lexg_g (I := inf) (J := jnf) none ⟨⟨_, rfl, (by repeat (first | exact obs_nil | refine obs_same ?_ | refine obs_and ?_ | refine obs_by (by (simp [inB] <;> omega)) ?_))⟩, (by first | exact .inl (by decide +kernel) | exact .inr ⟨_, rfl, (by repeat (first | exact obs_nil | refine obs_same ?_ | refine obs_and ?_ | refine obs_by (by (simp [inB] <;> omega)) ?_))⟩)⟩ rfl rfl rfl rfl (lexg_g (I := inf) (J := jnf) none ⟨⟨_, rfl, (by repeat (first | exact obs_nil | refine obs_same ?_ | refine obs_and ?_ | refine obs_by (by (simp [inB] <;> omega)) ?_))⟩, (by first | exact .inl (by decide +kernel) | exact .inr ⟨_, rfl, (by repeat (first | exact obs_nil | refine obs_same ?_ | refine obs_and ?_ | refine obs_by (by (simp [inB] <;> omega)) ?_))⟩)⟩ rfl rfl rfl rfl (lexg_g (I := inf) (J := jnf) (some .store) ⟨⟨_, rfl, (by repeat (first | exact obs_nil | refine obs_same ?_ | refine obs_and ?_ | refine obs_by (by (simp [inB] <;> omega)) ?_))⟩, .inl rfl⟩ rfl rfl rfl rfl lexg_nil)))) rfl (fun _ => ?_) (fun h => by cases h)
    refine runS_x (I := inf) (J := jnf) ⟨true, false, [167], 0, 0⟩ 9999 rfl (by repeat (first | exact obs_nil | refine obs_draw (by kernel_rfl) ?_ | refine obs_same ?_ | refine obs_and ?_ | refine obs_by (by (simp [inB] <;> omega)) ?_)) ?_
    refine runS_ret (I := inf) 0 rfl (Nat.le_refl _) rfl .nil rfl ⟨?_, rfl⟩
    rw [parentF, if_neg hv]
    rfl
end Go.Iron.Try

/- The level package's functions (seat Ytamhonbhoelohaa): Path, Normal. -/
namespace Go.Iron.Try
open Go.Proofs

theorem valid_len {l : List Fld} (h : validF l = true) : 1 ≤ l.length ∧ l.length ≤ 200 := by
  simp only [validF, Bool.and_eq_true, decide_eq_true_eq] at h
  exact ⟨h.1.1.1, h.1.1.2⟩
def pathF (l : List Fld) (i : Int) : List Str × Int := if validF l then (if 0 ≤ i ∧ i < l.length then (pth l i.toNat, 0) else ([], 7)) else ([], 1)
def pathA (x : List Str × Int) : AV := .tup [txtS none x.1, iv x.2]
theorem ref_Path (nl : Option Bool) (l : List Fld) (i : Int) (hs : smallF l) : CallT Try.prog 84 [fldS nl l, iv i] [] (fun o A => o = .ret (pathA (pathF l i)) ∧ A = []) := by
  have hb := hs.1
  refine callS_body (n := 22) rfl rfl fun w ρ X => ?_
  refine runS_x (I := inf) (J := jnf) ⟨false, false, [], 0, 0⟩ 9999 rfl (by repeat (first | exact obs_nil | refine obs_draw (by kernel_rfl) ?_ | refine obs_same ?_ | refine obs_and ?_ | refine obs_by (by (simp [inB] <;> omega)) ?_)) ?_
  refine runS_call rfl rfl rfl rfl rfl rfl rfl (ref_valid nl l hs) ?_
  refine runS_x (I := inf) (J := jnf) ⟨false, false, [], 0, 0⟩ 9999 rfl (by repeat (first | exact obs_nil | refine obs_draw (by kernel_rfl) ?_ | refine obs_same ?_ | refine obs_and ?_ | refine obs_by (by (simp [inB] <;> omega)) ?_)) ?_
  refine runS_cond rfl (fun h => ?_) (fun h => ?_)
  · refine runS_x (I := inf) (J := jnf) ⟨false, false, [], 0, 0⟩ 9999 rfl (by repeat (first | exact obs_nil | refine obs_draw (by kernel_rfl) ?_ | refine obs_same ?_ | refine obs_and ?_ | refine obs_by (by (simp [inB] <;> omega)) ?_)) ?_
    have hv : validF l = false := by simpa using h
    refine runS_says 4 rfl (says_nil0 (sz := 1) (r := nilT) (Nat.zero_le _)) ?_
    refine runS_ret (I := inf) 0 rfl (Nat.le_refl _) rfl .nil rfl ⟨?_, rfl⟩
    rw [pathF, hv]; rfl
  have hv : validF l = true := by simpa using h
  refine runS_x (I := inf) (J := jnf) ⟨false, false, [], 0, 0⟩ 9999 rfl (by repeat (first | exact obs_nil | refine obs_draw (by kernel_rfl) ?_ | refine obs_same ?_ | refine obs_and ?_ | refine obs_by (by (simp [inB] <;> omega)) ?_)) ?_
  refine runS_cond rfl (fun h2 => ?_) (fun h2 => ?_)
  · refine runS_x (I := inf) (J := jnf) ⟨false, false, [], 0, 0⟩ 9999 rfl (by repeat (first | exact obs_nil | refine obs_draw (by kernel_rfl) ?_ | refine obs_same ?_ | refine obs_and ?_ | refine obs_by (by (simp [inB] <;> omega)) ?_)) ?_
    have : ¬ (0 ≤ i ∧ i < l.length) := by simp at h2; omega
    refine runS_says 4 rfl (says_nil0 (sz := 1) (r := nilT) (Nat.zero_le _)) ?_
    refine runS_ret (I := inf) 0 rfl (Nat.le_refl _) rfl .nil rfl ⟨?_, rfl⟩
    rw [pathF, if_pos hv, if_neg this]
    rfl
  have hi : 0 ≤ i ∧ i < l.length := by simp at h2; omega
  obtain ⟨k, rfl⟩ : ∃ k : Nat, i = k := ⟨i.toNat, by omega⟩
  refine runS_x (I := inf) (J := jnf) ⟨false, false, [], 0, 0⟩ 9999 rfl (by repeat (first | exact obs_nil | refine obs_draw (by kernel_rfl) ?_ | refine obs_same ?_ | refine obs_and ?_ | refine obs_by (by (simp [inB] <;> omega)) ?_)) ?_
  refine runS_call rfl rfl rfl rfl rfl rfl rfl (ref_path nl l k (by omega) (by omega)) ?_
  refine runS_x (I := inf) (J := jnf) ⟨false, false, [], 0, 0⟩ 9999 rfl (by repeat (first | exact obs_nil | refine obs_draw (by kernel_rfl) ?_ | refine obs_same ?_ | refine obs_and ?_ | refine obs_by (by (simp [inB] <;> omega)) ?_)) ?_
  refine runS_ret (I := inf) 0 rfl (Nat.le_refl _) rfl .nil rfl ⟨?_, rfl⟩
  rw [pathF, if_pos hv, if_pos hi]
  rfl
theorem level_Path (nl : Option Bool) (l : List Fld) (i : Int) (hs : smallF l) : CallT Try.prog 83 [fldS nl l, iv i] [] (fun o A => o = .ret (pathA (pathF l i)) ∧ A = []) := by
  have hb := hs.1
  by_cases hv : validF l = true
  · by_cases hi : 0 ≤ i ∧ i < l.length
    · obtain ⟨k, rfl⟩ : ∃ k : Nat, i = k := ⟨i.toNat, by omega⟩
      refine callS_body (n := 10) rfl rfl fun w ρ X => ?_
      refine runS_x (I := inf) (J := jnf) ⟨false, false, [146, 147], 0, 0⟩ 9999 rfl (by repeat (first | exact obs_nil | refine obs_draw (by kernel_rfl) ?_ | refine obs_same ?_ | refine obs_and ?_ | refine obs_by (by (simp [inB] <;> omega)) ?_)) ?_
      refine runS_draw 5 (by kernel_rfl) (lexj_x (I := inf) (J := jnf) 99 rfl rfl (by repeat (first | exact obs_nil | refine obs_same ?_ | refine obs_and ?_ | refine obs_by (by (simp [inB] <;> omega)) ?_)) (lexj_call rfl rfl rfl rfl rfl rfl rfl rfl (valid_ok nl l k hs hv hi) (lexj_x (I := inf) (J := jnf) 99 rfl rfl (by repeat (first | exact obs_nil | refine obs_same ?_ | refine obs_and ?_ | refine obs_by (by (simp [inB] <;> omega)) ?_)) (lexj_call rfl rfl rfl rfl rfl rfl rfl rfl (level_path none l k (by omega) hb) (lexj_x (I := inf) (J := jnf) 99 rfl rfl (by repeat (first | exact obs_nil | refine obs_same ?_ | refine obs_and ?_ | refine obs_by (by (simp [inB] <;> omega)) ?_)) lexj_nil))))) ?_
      refine runS_x (I := inf) (J := jnf) ⟨true, false, [175], 0, 0⟩ 9999 rfl (by repeat (first | exact obs_nil | refine obs_draw (by kernel_rfl) ?_ | refine obs_same ?_ | refine obs_and ?_ | refine obs_by (by (simp [inB] <;> omega)) ?_)) ?_
      refine runS_ret (I := inf) 0 rfl (Nat.le_refl _) rfl .nil rfl ⟨?_, rfl⟩
      rw [pathF, if_pos hv, if_pos hi]
      rfl
    · refine callS_body (n := 10) rfl rfl fun w ρ X => ?_
      refine runS_x (I := inf) (J := jnf) ⟨false, false, [146, 147], 0, 0⟩ 9999 rfl (by repeat (first | exact obs_nil | refine obs_draw (by kernel_rfl) ?_ | refine obs_same ?_ | refine obs_and ?_ | refine obs_by (by (simp [inB] <;> omega)) ?_)) ?_
      refine runS_drawG 5 [] (fun _ => _) (some 2) (c := 9) jnfI.draw (by kernel_rfl) rfl (lexg_g (I := inf) (J := jnf) none ⟨_, rfl, (by repeat (first | exact obs_nil | refine obs_same ?_ | refine obs_and ?_ | refine obs_by (by (simp [inB] <;> omega)) ?_))⟩ rfl rfl rfl rfl (lexg_g (I := inf) (J := jnf) none ⟨_, rfl, (by repeat (first | exact obs_nil | refine obs_same ?_ | refine obs_and ?_ | refine obs_by (by (simp [inB] <;> omega)) ?_))⟩ rfl rfl rfl rfl (lexg_pan rfl rfl rfl rfl rfl rfl rfl rfl (valid_bad7 nl l i hs hv hi) (lexg_g (I := inf) (J := jnf) none ⟨_, rfl, (by repeat (first | exact obs_nil | refine obs_same ?_ | refine obs_and ?_ | refine obs_by (by (simp [inB] <;> omega)) ?_))⟩ rfl rfl rfl rfl (lexg_late rfl (by kernel_rfl) lexg_nil))))) rfl (fun h => by cases h) (fun _ b tt => ?_)
      refine runS_x (I := inf) (J := jnf) ⟨true, false, [175], 0, 0⟩ 9999 rfl (by repeat (first | exact obs_nil | refine obs_draw (by kernel_rfl) ?_ | refine obs_same ?_ | refine obs_and ?_ | refine obs_by (by (simp [inB] <;> omega)) ?_)) ?_
      refine runS_drawG (ch := []) 4 [3] (fun b => [.box 41 [fldS nl l], .box 3 [iv i], .box 46 [.val (.slice none 0 0)], .box 51 [iv 0], .box 170 [iv 7]]) none (c := 9) jnfI.draw (by kernel_rfl) rfl (lexg_g (I := inf) (J := jnf) none ⟨⟨_, rfl, (by repeat (first | exact obs_nil | refine obs_same ?_ | refine obs_and ?_ | refine obs_by (by (simp [inB] <;> omega)) ?_))⟩, (by first | exact .inl (by decide +kernel) | exact .inr ⟨_, rfl, (by repeat (first | exact obs_nil | refine obs_same ?_ | refine obs_and ?_ | refine obs_by (by (simp [inB] <;> omega)) ?_))⟩)⟩ rfl rfl rfl rfl (lexg_g (I := inf) (J := jnf) none ⟨⟨_, rfl, (by repeat (first | exact obs_nil | refine obs_same ?_ | refine obs_and ?_ | refine obs_by (by (simp [inB] <;> omega)) ?_))⟩, (by first | exact .inl (by decide +kernel) | exact .inr ⟨_, rfl, (by repeat (first | exact obs_nil | refine obs_same ?_ | refine obs_and ?_ | refine obs_by (by (simp [inB] <;> omega)) ?_))⟩)⟩ rfl rfl rfl rfl (lexg_g (I := inf) (J := jnf) none ⟨⟨_, rfl, (by repeat (first | exact obs_nil | refine obs_same ?_ | refine obs_and ?_ | refine obs_by (by (simp [inB] <;> omega)) ?_))⟩, (by first | exact .inl (by decide +kernel) | exact .inr ⟨_, rfl, (by repeat (first | exact obs_nil | refine obs_same ?_ | refine obs_and ?_ | refine obs_by (by (simp [inB] <;> omega)) ?_))⟩)⟩ rfl rfl rfl rfl (lexg_g (I := inf) (J := jnf) (some .store) ⟨⟨_, rfl, (by repeat (first | exact obs_nil | refine obs_same ?_ | refine obs_and ?_ | refine obs_by (by (simp [inB] <;> omega)) ?_))⟩, .inl rfl⟩ rfl rfl rfl rfl lexg_nil)))) rfl (fun _ => ?_) (fun h => by cases h)
      refine runS_x (I := inf) (J := jnf) ⟨true, false, [175], 0, 0⟩ 9999 rfl (by repeat (first | exact obs_nil | refine obs_draw (by kernel_rfl) ?_ | refine obs_same ?_ | refine obs_and ?_ | refine obs_by (by (simp [inB] <;> omega)) ?_)) ?_
      refine runS_says 4 rfl (says_nil0 (sz := 1) (r := nilT) (Nat.zero_le _)) ?_
      refine runS_ret (I := inf) 0 rfl (Nat.le_refl _) rfl .nil rfl ⟨?_, rfl⟩
      rw [pathF, if_pos hv, if_neg hi]
      rfl
  · refine callS_body (n := 10) rfl rfl fun w ρ X => ?_
    refine runS_x (I := inf) (J := jnf) ⟨false, false, [146, 147], 0, 0⟩ 9999 rfl (by repeat (first | exact obs_nil | refine obs_draw (by kernel_rfl) ?_ | refine obs_same ?_ | refine obs_and ?_ | refine obs_by (by (simp [inB] <;> omega)) ?_)) ?_
    refine runS_drawG 5 [] (fun _ => _) (some 2) (c := 9) jnfI.draw (by kernel_rfl) rfl (lexg_g (I := inf) (J := jnf) none ⟨_, rfl, (by repeat (first | exact obs_nil | refine obs_same ?_ | refine obs_and ?_ | refine obs_by (by (simp [inB] <;> omega)) ?_))⟩ rfl rfl rfl rfl (lexg_g (I := inf) (J := jnf) none ⟨_, rfl, (by repeat (first | exact obs_nil | refine obs_same ?_ | refine obs_and ?_ | refine obs_by (by (simp [inB] <;> omega)) ?_))⟩ rfl rfl rfl rfl (lexg_pan rfl rfl rfl rfl rfl rfl rfl rfl (valid_bad1 nl l i hs (by simpa using hv)) (lexg_g (I := inf) (J := jnf) none ⟨_, rfl, (by repeat (first | exact obs_nil | refine obs_same ?_ | refine obs_and ?_ | refine obs_by (by (simp [inB] <;> omega)) ?_))⟩ rfl rfl rfl rfl (lexg_late rfl (by kernel_rfl) lexg_nil))))) rfl (fun h => by cases h) (fun _ b tt => ?_)
    refine runS_x (I := inf) (J := jnf) ⟨true, false, [175], 0, 0⟩ 9999 rfl (by repeat (first | exact obs_nil | refine obs_draw (by kernel_rfl) ?_ | refine obs_same ?_ | refine obs_and ?_ | refine obs_by (by (simp [inB] <;> omega)) ?_)) ?_
    refine runS_drawG (ch := []) 4 [3] (fun b => [.box 41 [fldS nl l], .box 3 [iv i], .box 46 [.val (.slice none 0 0)], .box 51 [iv 0], .box 170 [iv 1]]) none (c := 9) jnfI.draw (by kernel_rfl) rfl (lexg_g (I := inf) (J := jnf) none ⟨⟨_, rfl, (by repeat (first | exact obs_nil | refine obs_same ?_ | refine obs_and ?_ | refine obs_by (by (simp [inB] <;> omega)) ?_))⟩, (by first | exact .inl (by decide +kernel) | exact .inr ⟨_, rfl, (by repeat (first | exact obs_nil | refine obs_same ?_ | refine obs_and ?_ | refine obs_by (by (simp [inB] <;> omega)) ?_))⟩)⟩ rfl rfl rfl rfl (lexg_g (I := inf) (J := jnf) none ⟨⟨_, rfl, (by repeat (first | exact obs_nil | refine obs_same ?_ | refine obs_and ?_ | refine obs_by (by (simp [inB] <;> omega)) ?_))⟩, (by first | exact .inl (by decide +kernel) | exact .inr ⟨_, rfl, (by repeat (first | exact obs_nil | refine obs_same ?_ | refine obs_and ?_ | refine obs_by (by (simp [inB] <;> omega)) ?_))⟩)⟩ rfl rfl rfl rfl (lexg_g (I := inf) (J := jnf) none ⟨⟨_, rfl, (by repeat (first | exact obs_nil | refine obs_same ?_ | refine obs_and ?_ | refine obs_by (by (simp [inB] <;> omega)) ?_))⟩, (by first | exact .inl (by decide +kernel) | exact .inr ⟨_, rfl, (by repeat (first | exact obs_nil | refine obs_same ?_ | refine obs_and ?_ | refine obs_by (by (simp [inB] <;> omega)) ?_))⟩)⟩ rfl rfl rfl rfl (lexg_g (I := inf) (J := jnf) (some .store) ⟨⟨_, rfl, (by repeat (first | exact obs_nil | refine obs_same ?_ | refine obs_and ?_ | refine obs_by (by (simp [inB] <;> omega)) ?_))⟩, .inl rfl⟩ rfl rfl rfl rfl lexg_nil)))) rfl (fun _ => ?_) (fun h => by cases h)
    refine runS_x (I := inf) (J := jnf) ⟨true, false, [175], 0, 0⟩ 9999 rfl (by repeat (first | exact obs_nil | refine obs_draw (by kernel_rfl) ?_ | refine obs_same ?_ | refine obs_and ?_ | refine obs_by (by (simp [inB] <;> omega)) ?_)) ?_
    refine runS_says 4 rfl (says_nil0 (sz := 1) (r := nilT) (Nat.zero_le _)) ?_
    refine runS_ret (I := inf) 0 rfl (Nat.le_refl _) rfl .nil rfl ⟨?_, rfl⟩
    rw [pathF, if_neg hv]
    rfl

def plain1 (l : List Fld) (i : Nat) : Fld := { fat l i with level := dep l i }
def plainL (l : List Fld) : List Fld := (List.range l.length).map (plain1 l)
def normalF (l : List Fld) : List Fld × Int := if validF l then (plainL l, 0) else ([], 1)
def fldsA (x : List Fld × Int) : AV := .tup [fldS none x.1, iv x.2]
abbrev nilF : Nat → List AV := encR fldE fld0 []
theorem fldR_snoc {acc : List Fld} {v : Fld} {r2 : Nat → List AV} (h : r2 0 = fldE v) : ∀ j, j < acc.length + 1 → encR fldE fld0 (acc ++ [v]) j = appR acc.length (encR fldE fld0 acc) r2 j := fun j hj =>
  encR_snoc h j hj
theorem level_Normal (nl : Option Bool) (l : List Fld) (hs : smallF l) : CallT Try.prog 77 [fldS nl l] [] (fun o A => o = .ret (fldsA (normalF l)) ∧ A = []) := by
  have hb := hs.1
  by_cases hv : validF l = true
  · have hlen := valid_len hv
    refine callS_body (n := 8) rfl rfl fun w ρ X => ?_
    refine runS_x (I := inf) (J := jnf) ⟨false, false, [127, 135], 0, 0⟩ 9999 rfl (by repeat (first | exact obs_nil | refine obs_draw (by kernel_rfl) ?_ | refine obs_same ?_ | refine obs_and ?_ | refine obs_by (by (simp [inB] <;> omega)) ?_)) ?_
    refine runS_call rfl rfl rfl rfl rfl rfl rfl (valid_ok nl l 0 hs hv (by omega)) ?_
    refine runS_x (I := inf) (J := jnf) ⟨false, false, [], 0, 0⟩ 9999 rfl (by repeat (first | exact obs_nil | refine obs_draw (by kernel_rfl) ?_ | refine obs_same ?_ | refine obs_and ?_ | refine obs_by (by (simp [inB] <;> omega)) ?_)) ?_
    refine runS_nilRow 2 90 11 nilF rfl rfl ?_
    refine runS_forget 4 rfl ?_
    refine runS_while (fun (i : Nat) τ ar => (τ 2 = .row 3 i ∧ τ 6 = treeS none l ∧ τ 7 = iv l.length ∧ τ 8 = iv i) ∧ ar = [.box 41 [fldS nl l], .box 41 [.val (.slice none 0 0)], .box 51 [iv 0], .row 90 11 i ((List.range i).map (plain1 l)).length (encR fldE fld0 ((List.range i).map (plain1 l)))] ∧ i ≤ l.length) (fun i => l.length - i) 0 ⟨⟨rfl, rfl, rfl, rfl⟩, rfl, Nat.zero_le _⟩ ?_
    rintro i τ' ar' ⟨⟨g2, g6, g7, g8⟩, rfl, hi⟩ ih
    refine runS_says 2 (by exact g2) (Says.refl _) ?_; refine runS_says 6 (by exact g6) (Says.refl _) ?_; refine runS_says 7 (by exact g7) (Says.refl _) ?_; refine runS_says 8 (by exact g8) (Says.refl _) ?_
    have hal : ((List.range i).map (plain1 l)).length = i := by simp
    refine runS_x (I := inf) (J := jnf) ⟨false, false, [], 0, 0⟩ 9999 rfl (by repeat (first | exact obs_nil | refine obs_draw (by kernel_rfl) ?_ | refine obs_same ?_ | refine obs_and ?_ | refine obs_by (by (simp [inB] <;> omega)) ?_)) ?_
    refine runS_cond rfl (fun hlt => ?_) (fun hlt => ?_)
    · have hlt' : i < l.length := by simpa using hlt
      refine runS_x (I := inf) (J := jnf) ⟨false, false, [], 0, 0⟩ 9999 rfl (by repeat (first | exact obs_nil | refine obs_draw (by kernel_rfl) ?_ | refine obs_same ?_ | refine obs_and ?_ | refine obs_by (by (simp [inB, hlt', hal] <;> omega)) ?_)) ?_
      refine runS_tell 3 (encR fldE fld0 ((List.range i).map (plain1 l) ++ [plain1 l i])) rfl (m' := ((List.range i).map (plain1 l)).length + 1) rfl (fldR_snoc rfl) rfl ?_
      refine runS_drop 4 (Nat.zero_le _) rfl (by repeat (first | exact .nil | refine .row (fun j hj => rfl) ?_ | refine .box rfl ?_ | refine .fam (fun k j hk hj => rfl) ?_ | refine .loop (scrub_under _ _) ?_ | refine .dfr ?_ | refine .gone ?_ | refine .map (fun p hp => by (obtain ⟨k, _, rfl⟩ := List.mem_map.1 hp; rfl)) ?_)) rfl rfl rfl (by repeat (first | exact .nil | refine .cons rfl rfl rfl (scrub_under _ _) ?_)) ?_
      have he : (List.range (i + 1)).map (plain1 l) = (List.range i).map (plain1 l) ++ [plain1 l i] := by simp [List.range_succ]
      refine ih (i + 1) _ _ (by omega) ⟨⟨rfl, rfl, rfl, ?_⟩, ?_, by omega⟩
      · show iv (IntKind.wrap .i64 ((i : Int) + 1)) = _
        rw [w64 (by omega) (by omega)]; rfl
      · rw [he, List.length_append]
        rfl
    · have : i = l.length := by simp at hlt; omega
      subst this
      refine runS_freeze 2 rfl rfl rfl (fun j hj => rfl) ?_
      refine runS_x (I := inf) (J := jnf) ⟨true, false, [168], 0, 0⟩ 9999 rfl (by repeat (first | exact obs_nil | refine obs_draw (by kernel_rfl) ?_ | refine obs_same ?_ | refine obs_and ?_ | refine obs_by (by (simp [inB] <;> omega)) ?_)) ?_
      refine runS_ret (I := inf) 0 rfl (Nat.le_refl _) rfl .nil rfl ⟨?_, rfl⟩
      rw [normalF, if_pos hv]
      show Out.ret (.tup [.slc 11 none ((List.range l.length).map (plain1 l)).length _, iv 0]) = _
      rfl
  · refine callS_body (n := 8) rfl rfl fun w ρ X => ?_
    refine runS_x (I := inf) (J := jnf) ⟨false, false, [127, 135], 0, 0⟩ 9999 rfl (by repeat (first | exact obs_nil | refine obs_draw (by kernel_rfl) ?_ | refine obs_same ?_ | refine obs_and ?_ | refine obs_by (by (simp [inB] <;> omega)) ?_)) ?_
    refine runS_callP rfl rfl rfl rfl rfl rfl rfl (valid_bad1 nl l 0 hs (by simpa using hv)) ?_
    refine runS_x (I := inf) (J := jnf) ⟨true, false, [168], 0, 0⟩ 9999 rfl (by repeat (first | exact obs_nil | refine obs_draw (by kernel_rfl) ?_ | refine obs_same ?_ | refine obs_and ?_ | refine obs_by (by (simp [inB] <;> omega)) ?_)) ?_
    refine runS_drawG (ch := []) 4 [3] (fun b => [.box 41 [fldS nl l], .box 41 [.val (.slice none 0 0)], .box 51 [iv 0], .box 170 [iv 1]]) none (c := 9) jnfI.draw (by kernel_rfl) rfl (lexg_g (I := inf) (J := jnf) none ⟨⟨_, rfl, (by repeat (first | exact obs_nil | refine obs_same ?_ | refine obs_and ?_ | refine obs_by (by (simp [inB] <;> omega)) ?_))⟩, (by first | exact .inl (by decide +kernel) | exact .inr ⟨_, rfl, (by repeat (first | exact obs_nil | refine obs_same ?_ | refine obs_and ?_ | refine obs_by (by (simp [inB] <;> omega)) ?_))⟩)⟩ rfl rfl rfl rfl (lexg_g (I := inf) (J := jnf) none ⟨⟨_, rfl, (by repeat (first | exact obs_nil | refine obs_same ?_ | refine obs_and ?_ | refine obs_by (by (simp [inB] <;> omega)) ?_))⟩, (by first | exact .inl (by decide +kernel) | exact .inr ⟨_, rfl, (by repeat (first | exact obs_nil | refine obs_same ?_ | refine obs_and ?_ | refine obs_by (by (simp [inB] <;> omega)) ?_))⟩)⟩ rfl rfl rfl rfl (lexg_g (I := inf) (J := jnf) none ⟨⟨_, rfl, (by repeat (first | exact obs_nil | refine obs_same ?_ | refine obs_and ?_ | refine obs_by (by (simp [inB] <;> omega)) ?_))⟩, (by first | exact .inl (by decide +kernel) | exact .inr ⟨_, rfl, (by repeat (first | exact obs_nil | refine obs_same ?_ | refine obs_and ?_ | refine obs_by (by (simp [inB] <;> omega)) ?_))⟩)⟩ rfl rfl rfl rfl (lexg_g (I := inf) (J := jnf) (some .store) ⟨⟨_, rfl, (by repeat (first | exact obs_nil | refine obs_same ?_ | refine obs_and ?_ | refine obs_by (by (simp [inB] <;> omega)) ?_))⟩, .inl rfl⟩ rfl rfl rfl rfl lexg_nil)))) rfl (fun _ => ?_) (fun h => by cases h)
    refine runS_x (I := inf) (J := jnf) ⟨true, false, [168], 0, 0⟩ 9999 rfl (by repeat (first | exact obs_nil | refine obs_draw (by kernel_rfl) ?_ | refine obs_same ?_ | refine obs_and ?_ | refine obs_by (by (simp [inB] <;> omega)) ?_)) ?_
    refine runS_says 2 rfl (says_nil0 (sz := 11) (r := nilF) (Nat.zero_le _)) ?_
    refine runS_ret (I := inf) 0 rfl (Nat.le_refl _) rfl .nil rfl ⟨?_, rfl⟩
    rw [normalF, if_neg hv]
    rfl

def plainK (l : List Fld) (i k : Nat) : Fld := if k < i then plain1 l k else fat l k
theorem ref_Plain (nl : Option Bool) (l : List Fld) (hb : l.length < 1000000000) : CallT Try.prog 136 [fldS nl l] [] (fun o A => o = .ret (fldS none (plainL l)) ∧ A = []) := by
  refine callS_body (n := 22) rfl rfl fun w ρ X => ?_
  refine runS_x (I := inf) (J := jnf) ⟨false, false, [], 0, 0⟩ 9999 rfl (by repeat (first | exact obs_nil | refine obs_draw (by kernel_rfl) ?_ | refine obs_same ?_ | refine obs_and ?_ | refine obs_by (by (simp [inB] <;> omega)) ?_)) ?_
  refine runS_tell 0 (fun k => fldE (plainK l 0 k)) rfl (m' := l.length) (by simp) (fun k hk => ?_) rfl ?_
  · rw [appR_ge (Nat.zero_le _)]
    rfl
  refine runS_while (fun (i : Nat) τ ar => (τ 0 = fldS nl l ∧ τ 3 = .row 0 1 ∧ τ 4 = iv i) ∧ ar = [.row 90 11 1 l.length (fun k => fldE (plainK l i k))] ∧ i ≤ l.length) (fun i => l.length - i) 0 ⟨⟨rfl, rfl, rfl⟩, rfl, Nat.zero_le _⟩ ?_
  rintro i τ' ar' ⟨⟨g0, g3, g4⟩, rfl, hi⟩ ih
  refine runS_says 0 (by exact g0) (Says.refl _) ?_; refine runS_says 3 (by exact g3) (Says.refl _) ?_; refine runS_says 4 (by exact g4) (Says.refl _) ?_
  refine runS_x (I := inf) (J := jnf) ⟨false, false, [], 0, 0⟩ 9999 rfl (by repeat (first | exact obs_nil | refine obs_draw (by kernel_rfl) ?_ | refine obs_same ?_ | refine obs_and ?_ | refine obs_by (by (simp [inB] <;> omega)) ?_)) ?_
  refine runS_cond rfl (fun hlt => ?_) (fun hlt => ?_)
  · have hlt' : i < l.length := by simpa using hlt
    refine runS_x (I := inf) (J := jnf) ⟨false, false, [], 0, 0⟩ 9999 rfl (by repeat (first | exact obs_nil | refine obs_draw (by kernel_rfl) ?_ | refine obs_same ?_ | refine obs_and ?_ | refine obs_by (by (simp [inB] <;> omega)) ?_)) ?_
    refine runS_call rfl rfl rfl rfl rfl rfl rfl (ref_depth nl l i hlt' (by omega)) ?_
    refine runS_x (I := inf) (J := jnf) ⟨false, false, [], 0, 0⟩ 9999 rfl (by repeat (first | exact obs_nil | refine obs_draw (by kernel_rfl) ?_ | refine obs_same ?_ | refine obs_and ?_ | refine obs_by (by (simp [inB, hlt'] <;> omega)) ?_)) ?_
    refine runS_tell 0 (fun k => fldE (plainK l (i + 1) k)) rfl (m' := l.length) rfl (fun k hk => ?_) rfl ?_
    · by_cases hki : k = i
      · subst hki
        have h1 : plainK l k k = fat l k := if_neg (by omega)
        have h2 : plainK l (k + 1) k = plain1 l k := if_pos (by omega)
        refine Eq.trans ?_ setR_self.symm
        rw [h2]
        show _ = [iv (dep l k), sv (plainK l k k).name, iv (plainK l k k).count, iv (plainK l k k).typ.kind, iv (plainK l k k).typ.p, iv (plainK l k k).typ.q, iv (plainK l k k).typ.n, bv (plainK l k k).typ.vary, sv (plainK l k k).typ.pic, bv (plainK l k k).union, iv (plainK l k k).refer]
        rw [h1]
        rfl
      · refine Eq.trans ?_ (setR_ne hki).symm
        have : plainK l (i + 1) k = plainK l i k := by
          unfold plainK
          by_cases h : k < i
          · rw [if_pos h, if_pos (by omega)]
          · rw [if_neg h, if_neg (by omega)]
        rw [this]
    refine ih (i + 1) _ _ (by omega) ⟨⟨rfl, rfl, ?_⟩, rfl, by omega⟩
    show iv (IntKind.wrap .i64 ((i : Int) + 1)) = _
    rw [w64 (by omega) (by omega)]; rfl
  · have : i = l.length := by simp at hlt; omega
    subst this
    refine runS_tell 0 (encR fldE fld0 (plainL l)) rfl (m' := (plainL l).length) (by simp [plainL]) (fun k hk => ?_) rfl ?_
    · show fldE ((plainL l).getD k fld0) = fldE (plainK l l.length k)
      rw [plainK, if_pos hk, plainL, List.getD_eq_getElem?_getD, List.getElem?_map, List.getElem?_range hk]
      rfl
    refine runS_freeze 3 rfl rfl rfl (fun j hj => rfl) ?_
    refine runS_x (I := inf) (J := jnf) ⟨false, false, [], 0, 0⟩ 9999 rfl (by repeat (first | exact obs_nil | refine obs_draw (by kernel_rfl) ?_ | refine obs_same ?_ | refine obs_and ?_ | refine obs_by (by (simp [inB] <;> omega)) ?_)) ?_
    refine runS_ret (I := inf) 0 rfl (Nat.le_refl _) rfl .nil rfl ⟨?_, rfl⟩
    rfl
theorem ref_Normal (nl : Option Bool) (l : List Fld) (hs : smallF l) : CallT Try.prog 78 [fldS nl l] [] (fun o A => o = .ret (fldsA (normalF l)) ∧ A = []) := by
  refine callS_body (n := 9) rfl rfl fun w ρ X => ?_
  refine runS_x (I := inf) (J := jnf) ⟨false, false, [], 0, 0⟩ 9999 rfl (by repeat (first | exact obs_nil | refine obs_draw (by kernel_rfl) ?_ | refine obs_same ?_ | refine obs_and ?_ | refine obs_by (by (simp [inB] <;> omega)) ?_)) ?_
  refine runS_call rfl rfl rfl rfl rfl rfl rfl (ref_valid nl l hs) ?_
  refine runS_x (I := inf) (J := jnf) ⟨false, false, [], 0, 0⟩ 9999 rfl (by repeat (first | exact obs_nil | refine obs_draw (by kernel_rfl) ?_ | refine obs_same ?_ | refine obs_and ?_ | refine obs_by (by (simp [inB] <;> omega)) ?_)) ?_
  refine runS_cond rfl (fun h => ?_) (fun h => ?_)
  · refine runS_x (I := inf) (J := jnf) ⟨false, false, [], 0, 0⟩ 9999 rfl (by repeat (first | exact obs_nil | refine obs_draw (by kernel_rfl) ?_ | refine obs_same ?_ | refine obs_and ?_ | refine obs_by (by (simp [inB] <;> omega)) ?_)) ?_
    have hv : validF l = false := by simpa using h
    refine runS_says 2 rfl (says_nil0 (sz := 11) (r := nilF) (Nat.zero_le _)) ?_
    refine runS_ret (I := inf) 0 rfl (Nat.le_refl _) rfl .nil rfl ⟨?_, rfl⟩
    rw [normalF, hv]; rfl
  have hv : validF l = true := by simpa using h
  refine runS_x (I := inf) (J := jnf) ⟨false, false, [], 0, 0⟩ 9999 rfl (by repeat (first | exact obs_nil | refine obs_draw (by kernel_rfl) ?_ | refine obs_same ?_ | refine obs_and ?_ | refine obs_by (by (simp [inB] <;> omega)) ?_)) ?_
  refine runS_call rfl rfl rfl rfl rfl rfl rfl (ref_Plain nl l hs.1) ?_
  refine runS_x (I := inf) (J := jnf) ⟨false, false, [], 0, 0⟩ 9999 rfl (by repeat (first | exact obs_nil | refine obs_draw (by kernel_rfl) ?_ | refine obs_same ?_ | refine obs_and ?_ | refine obs_by (by (simp [inB] <;> omega)) ?_)) ?_
  refine runS_ret (I := inf) 0 rfl (Nat.le_refl _) rfl .nil rfl ⟨?_, rfl⟩
  rw [normalF, if_pos hv]
  rfl
end Go.Iron.Try

/- The level package's functions (seat Ytamhonbhoelohaa): Find. -/
namespace Go.Iron.Try
open Go.Proofs

/-- How many of the first n names stand in a list, one behind the other. -/
def lastN (names : List Str) (n : Nat) : List Str → Nat → Nat
  | [], k => k
  | s :: p, k => lastN names n p (if k < n ∧ s = names.getD k [] then k + 1 else k)
theorem lastN_full {names : List Str} {n : Nat} : ∀ {p : List Str} {k : Nat}, n ≤ k → lastN names n p k = k
  | [], k, _ => rfl
  | s :: p, k, h => by
    rw [lastN, if_neg (by omega)]
    exact lastN_full h
theorem lastN_le {names : List Str} {n : Nat} : ∀ {p : List Str} {k : Nat}, k ≤ n → k ≤ lastN names n p k ∧ lastN names n p k ≤ n ∧ lastN names n p k ≤ k + p.length
  | [], k, h => ⟨Nat.le_refl _, h, Nat.le_refl _⟩
  | s :: p, k, h => by
    rw [lastN]
    split
    · rename_i hc
      have := lastN_le (names := names) (n := n) (p := p) (k := k + 1) (by omega)
      simp only [List.length_cons]; omega
    · have := lastN_le (names := names) (n := n) (p := p) (k := k) h
      simp only [List.length_cons]; omega
theorem lastN_take {names : List Str} {n m : Nat} (h : n ≤ m) : ∀ {p : List Str} {k : Nat}, lastN (names.take m) n p k = lastN names n p k
  | [], k => rfl
  | s :: p, k => by
    rw [lastN, lastN]
    have : ∀ k, k < n → (names.take m).getD k [] = names.getD k [] := fun k hk => by
      rw [List.getD_eq_getElem?_getD, List.getD_eq_getElem?_getD, List.getElem?_take, if_pos (by omega)]
    by_cases hc : k < n
    · rw [this k hc]; exact lastN_take h
    · rw [if_neg (by omega), if_neg (by omega)]; exact lastN_take h
theorem drop_cons {p : List Str} {i : Nat} (h : i < p.length) : p.drop i = p.getD i [] :: p.drop (i + 1) := by
  rw [List.drop_eq_getElem_cons h, List.getD_eq_getElem?_getD, List.getElem?_eq_getElem h]
  rfl
theorem level_last (n1 n2 : Option Bool) (p names : List Str) (h1 : p.length < 1000000000) (h2 : names.length < 1000000000) : CallT Try.prog 143 [txtS n1 p, txtS n2 names] [] (fun o A => o = .ret (bv (lastN names names.length p 0 == names.length)) ∧ A = []) := by
  refine callS_body (n := 33) rfl rfl fun w ρ X => ?_
  refine runS_x (I := inf) (J := jnf) ⟨false, false, [], 0, 0⟩ 9999 rfl (by repeat (first | exact obs_nil | refine obs_draw (by kernel_rfl) ?_ | refine obs_same ?_ | refine obs_and ?_ | refine obs_by (by (simp [inB] <;> omega)) ?_)) ?_
  refine runS_while (fun (x : Nat × Nat) τ ar => (τ 1 = txtS n2 names ∧ τ 5 = iv x.2 ∧ τ 8 = txtS n1 p ∧ τ 9 = iv p.length ∧ τ 10 = iv x.1) ∧ ar = [] ∧ x.1 ≤ p.length ∧ x.2 ≤ names.length ∧ lastN names names.length (p.drop x.1) x.2 = lastN names names.length p 0) (fun x => p.length - x.1) (0, 0) ⟨⟨rfl, rfl, rfl, rfl, rfl⟩, rfl, Nat.zero_le _, Nat.zero_le _, rfl⟩ ?_
  rintro ⟨i, k⟩ τ' ar' ⟨⟨g1, g5, g8, g9, g10⟩, rfl, hi, hk, hp⟩ ih
  dsimp only at g5 g10 hi hk hp ih
  refine runS_says 1 (by exact g1) (Says.refl _) ?_; refine runS_says 5 (by exact g5) (Says.refl _) ?_; refine runS_says 8 (by exact g8) (Says.refl _) ?_; refine runS_says 9 (by exact g9) (Says.refl _) ?_; refine runS_says 10 (by exact g10) (Says.refl _) ?_
  refine runS_x (I := inf) (J := jnf) ⟨false, false, [], 0, 0⟩ 9999 rfl (by repeat (first | exact obs_nil | refine obs_draw (by kernel_rfl) ?_ | refine obs_same ?_ | refine obs_and ?_ | refine obs_by (by (simp [inB] <;> omega)) ?_)) ?_
  refine runS_cond rfl (fun hlt => ?_) (fun hlt => ?_)
  · have hlt' : i < p.length := by simpa using hlt
    rw [drop_cons hlt', lastN] at hp
    have hw : (if decide ((k : Int) < (names.length : Int)) = true then ((bs (p.getD i [])).toList == (bs (names.getD k [])).toList) else false) = decide (k < names.length ∧ p.getD i [] = names.getD k []) := by
      rw [bs_toList, bs_toList, Bool.eq_iff_iff]
      by_cases hh : k < names.length <;> simp [hh]
    refine runS_x (I := inf) (J := jnf) ⟨false, false, [], 0, 0⟩ 9999 rfl (by repeat (first | exact obs_nil | refine obs_draw (by kernel_rfl) ?_ | refine obs_same ?_ | refine obs_and ?_ | refine obs_by (by (simp [inB, hlt'] <;> omega)) ?_)) ?_
    refine runS_cond rfl (fun hz => ?_) (fun hz => ?_)
    · have hz' := of_decide_eq_true (hw.symm.trans hz)
      refine runS_x (I := inf) (J := jnf) ⟨false, false, [], 0, 0⟩ 9999 rfl (by repeat (first | exact obs_nil | refine obs_draw (by kernel_rfl) ?_ | refine obs_same ?_ | refine obs_and ?_ | refine obs_by (by (simp [inB] <;> omega)) ?_)) ?_
      rw [if_pos hz'] at hp
      refine ih (i + 1, k + 1) _ _ (by dsimp only; omega) ⟨⟨rfl, ?_, rfl, rfl, ?_⟩, rfl, by dsimp only; omega, by dsimp only; omega, hp⟩
      · show iv (IntKind.wrap .i64 ((k : Int) + 1)) = _
        rw [w64 (by omega) (by omega)]; rfl
      · show iv (IntKind.wrap .i64 ((i : Int) + 1)) = _
        rw [w64 (by omega) (by omega)]; rfl
    · have hz' := of_decide_eq_false (hw.symm.trans hz)
      refine runS_x (I := inf) (J := jnf) ⟨false, false, [], 0, 0⟩ 9999 rfl (by repeat (first | exact obs_nil | refine obs_draw (by kernel_rfl) ?_ | refine obs_same ?_ | refine obs_and ?_ | refine obs_by (by (simp [inB] <;> omega)) ?_)) ?_
      rw [if_neg hz'] at hp
      refine ih (i + 1, k) _ _ (by dsimp only; omega) ⟨⟨rfl, rfl, rfl, rfl, ?_⟩, rfl, by dsimp only; omega, by dsimp only; omega, hp⟩
      show iv (IntKind.wrap .i64 ((i : Int) + 1)) = _
      rw [w64 (by omega) (by omega)]; rfl
  · have : i = p.length := by simp at hlt; omega
    subst this
    rw [List.drop_length] at hp
    refine runS_x (I := inf) (J := jnf) ⟨false, false, [], 0, 0⟩ 9999 rfl (by repeat (first | exact obs_nil | refine obs_draw (by kernel_rfl) ?_ | refine obs_same ?_ | refine obs_and ?_ | refine obs_by (by (simp [inB] <;> omega)) ?_)) ?_
    refine runS_ret (I := inf) 0 rfl (Nat.le_refl _) rfl .nil rfl ⟨?_, rfl⟩
    refine congrArg (fun b => Out.ret (bv b)) ?_
    rw [← hp, lastN, Bool.eq_iff_iff]
    simp
    omega

def lastS (p : List Str) : Str := p.getD (p.length - 1) []
def fitsB (p names : List Str) : Bool := decide (0 < names.length) && decide (0 < p.length) && (lastS p == lastS names) && lastN names (names.length - 1) (p.take (p.length - 1)) 0 == names.length - 1
def fitsAll (p names : List Str) : Bool := fitsB p names && p.length == names.length
theorem lastN_pre {names : List Str} {n : Nat} {p : List Str} {m i k : Nat} (h : i < m) (hm : m ≤ p.length) : lastN names n ((p.take m).drop i) k = lastN names n ((p.take m).drop (i + 1)) (if k < n ∧ p.getD i [] = names.getD k [] then k + 1 else k) := by
  rw [drop_cons (by simp; omega), lastN]
  have : (p.take m).getD i [] = p.getD i [] := by
    rw [List.getD_eq_getElem?_getD, List.getD_eq_getElem?_getD, List.getElem?_take, if_pos h]
  rw [this]
theorem ref_Fits (n1 n2 : Option Bool) (p names : List Str) (h1 : p.length < 1000000000) (h2 : names.length < 1000000000) : CallT Try.prog 144 [txtS n1 p, txtS n2 names] [] (fun o A => o = .ret (.tup [bv (fitsB p names), bv (fitsAll p names)]) ∧ A = []) := by
  by_cases hn : names.length = 0
  · have : names = [] := List.eq_nil_of_length_eq_zero hn
    subst this
    refine callS_body (n := 73) rfl rfl fun w ρ X => ?_
    refine runS_x (I := inf) (J := jnf) ⟨true, false, [], 0, 0⟩ 9999 rfl (by repeat (first | exact obs_nil | refine obs_draw (by kernel_rfl) ?_ | refine obs_same ?_ | refine obs_and ?_ | refine obs_by (by (simp [inB] <;> omega)) ?_)) ?_
    refine runS_ret (I := inf) 0 rfl (Nat.le_refl _) rfl .nil rfl ⟨?_, rfl⟩
    rfl
  by_cases hp0 : p.length = 0
  · have : p = [] := List.eq_nil_of_length_eq_zero hp0
    subst this
    have hf : fitsB [] names = false := by simp [fitsB]
    have hw : (((names.length : Nat) : Int) == 0) = false := by rw [beq_eq_false_iff_ne]; omega
    rw [fitsAll, hf]
    refine callS_body (n := 73) rfl rfl fun w ρ X => ?_
    refine runS_x (I := inf) (J := jnf) ⟨false, false, [], 0, 0⟩ 9999 rfl (by repeat (first | exact obs_nil | refine obs_draw (by kernel_rfl) ?_ | refine obs_same ?_ | refine obs_and ?_ | refine obs_by (by (simp [inB] <;> omega)) ?_)) ?_
    refine runS_cond rfl (fun hz => ?_) (fun hz => ?_)
    · refine runS_x (I := inf) (J := jnf) ⟨false, false, [], 0, 0⟩ 9999 rfl (by repeat (first | exact obs_nil | refine obs_draw (by kernel_rfl) ?_ | refine obs_same ?_ | refine obs_and ?_ | refine obs_by (by (simp [inB] <;> omega)) ?_)) ?_
      refine runS_ret (I := inf) 0 rfl (Nat.le_refl _) rfl .nil rfl ⟨?_, rfl⟩
      rfl
    · exfalso
      have hz' : (if (if (((names.length : Nat) : Int) == 0) = true then true else true) = true then true else _) = false := hz
      rw [hw] at hz'
      simp at hz'
  have w1 : IntKind.wrap .i64 ((p.length : Int) - 1) = ((p.length - 1 : Nat) : Int) := by rw [w64 (by omega) (by omega)]; omega
  have w2 : IntKind.wrap .i64 ((names.length : Int) - 1) = ((names.length - 1 : Nat) : Int) := by rw [w64 (by omega) (by omega)]; omega
  have k1 : inB (IntKind.wrap .i64 ((p.length : Int) - 1)) p.length = true := by rw [w1]; exact inB_nat (by omega)
  have k2 : inB (IntKind.wrap .i64 ((names.length : Int) - 1)) names.length = true := by rw [w2]; exact inB_nat (by omega)
  refine callS_body (n := 73) rfl rfl fun w ρ X => ?_
  refine runS_x (I := inf) (J := jnf) ⟨false, false, [], 0, 0⟩ 9999 rfl (by repeat (first | exact obs_nil | refine obs_draw (by kernel_rfl) ?_ | refine obs_same ?_ | refine obs_and ?_ | refine obs_by (by first | exact fun _ => k1 | exact fun _ => k2 | (simp [inB] <;> omega)) ?_)) ?_
  have hw : (if (if (((names.length : Nat) : Int) == 0) = true then true else (((p.length : Nat) : Int) == 0)) = true then true else
      !((bs (p.getD (IntKind.wrap .i64 ((p.length : Int) - 1)).toNat [])).toList == (bs (names.getD (IntKind.wrap .i64 ((names.length : Int) - 1)).toNat [])).toList)) = !(lastS p == lastS names) := by
    rw [w1, w2, bs_toList, bs_toList, Int.toNat_natCast, Int.toNat_natCast]
    have e1 : (((names.length : Nat) : Int) == 0) = false := by rw [beq_eq_false_iff_ne]; omega
    have e2 : (((p.length : Nat) : Int) == 0) = false := by rw [beq_eq_false_iff_ne]; omega
    rw [e1, e2]
    rfl
  refine runS_cond rfl (fun hz => ?_) (fun hz => ?_)
  · refine runS_x (I := inf) (J := jnf) ⟨false, false, [], 0, 0⟩ 9999 rfl (by repeat (first | exact obs_nil | refine obs_draw (by kernel_rfl) ?_ | refine obs_same ?_ | refine obs_and ?_ | refine obs_by (by (simp [inB] <;> omega)) ?_)) ?_
    refine runS_ret (I := inf) 0 rfl (Nat.le_refl _) rfl .nil rfl ⟨?_, rfl⟩
    have hz' := hw.symm.trans hz
    rw [Bool.not_eq_true'] at hz'
    have hf : fitsB p names = false := by rw [fitsB, hz']; simp
    rw [fitsAll, hf]
    rfl
  have hlast : (lastS p == lastS names) = true := by
    have hz' := hw.symm.trans hz
    rwa [Bool.not_eq_false'] at hz'
  refine runS_x (I := inf) (J := jnf) ⟨false, false, [], 0, 0⟩ 9999 rfl (by repeat (first | exact obs_nil | refine obs_draw (by kernel_rfl) ?_ | refine obs_same ?_ | refine obs_and ?_ | refine obs_by (by (simp [inB] <;> omega)) ?_)) ?_
  refine runS_while (fun (x : Nat × Nat) τ ar => (τ 0 = txtS n1 p ∧ τ 1 = txtS n2 names ∧ τ 6 = iv x.2 ∧ τ 7 = iv x.1) ∧ ar = [] ∧ x.1 ≤ p.length - 1 ∧ x.2 ≤ names.length - 1 ∧
    lastN names (names.length - 1) ((p.take (p.length - 1)).drop x.1) x.2 = lastN names (names.length - 1) (p.take (p.length - 1)) 0) (fun x => p.length - x.1) (0, 0) ⟨⟨rfl, rfl, rfl, rfl⟩, rfl, Nat.zero_le _, Nat.zero_le _, rfl⟩ ?_
  rintro ⟨i, k⟩ τ' ar' ⟨⟨g0, g1, g6, g7⟩, rfl, hi, hk, hp⟩ ih
  dsimp only at g6 g7 hi hk hp ih
  refine runS_says 0 (by exact g0) (Says.refl _) ?_; refine runS_says 1 (by exact g1) (Says.refl _) ?_; refine runS_says 6 (by exact g6) (Says.refl _) ?_; refine runS_says 7 (by exact g7) (Says.refl _) ?_
  refine runS_x (I := inf) (J := jnf) ⟨false, false, [], 0, 0⟩ 9999 rfl (by repeat (first | exact obs_nil | refine obs_draw (by kernel_rfl) ?_ | refine obs_same ?_ | refine obs_and ?_ | refine obs_by (by (simp [inB] <;> omega)) ?_)) ?_
  have hw3 : (if decide ((i : Int) < IntKind.wrap .i64 ((p.length : Int) - 1)) = true then decide ((k : Int) < IntKind.wrap .i64 ((names.length : Int) - 1)) else false) = (decide (i < p.length - 1) && decide (k < names.length - 1)) := by
    rw [w1, w2, Bool.eq_iff_iff]
    simp
  refine runS_cond rfl (fun hlt => ?_) (fun hlt => ?_)
  · have hlt' := hw3.symm.trans hlt
    simp only [Bool.and_eq_true, decide_eq_true_eq] at hlt'
    have hi1 : i < p.length := by omega
    have hk1 : k < names.length := by omega
    rw [lastN_pre hlt'.1 (by omega)] at hp
    refine runS_x (I := inf) (J := jnf) ⟨false, false, [], 0, 0⟩ 9999 rfl (by repeat (first | exact obs_nil | refine obs_draw (by kernel_rfl) ?_ | refine obs_same ?_ | refine obs_and ?_ | refine obs_by (by (simp [inB, hi1, hk1] <;> omega)) ?_)) ?_
    refine runS_cond rfl (fun hz => ?_) (fun hz => ?_)
    · have he : p.getD i [] = names.getD k [] := by
        have : ((bs (p.getD i [])).toList == (bs (names.getD k [])).toList) = true := hz
        rw [bs_toList, bs_toList] at this
        simpa using this
      rw [if_pos ⟨hlt'.2, he⟩] at hp
      refine runS_x (I := inf) (J := jnf) ⟨false, false, [], 0, 0⟩ 9999 rfl (by repeat (first | exact obs_nil | refine obs_draw (by kernel_rfl) ?_ | refine obs_same ?_ | refine obs_and ?_ | refine obs_by (by (simp [inB] <;> omega)) ?_)) ?_
      refine ih (i + 1, k + 1) _ _ (by dsimp only; omega) ⟨⟨rfl, rfl, ?_, ?_⟩, rfl, by dsimp only; omega, by dsimp only; omega, hp⟩
      · show iv (IntKind.wrap .i64 ((k : Int) + 1)) = _
        rw [w64 (by omega) (by omega)]; rfl
      · show iv (IntKind.wrap .i64 ((i : Int) + 1)) = _
        rw [w64 (by omega) (by omega)]; rfl
    · have he : ¬ p.getD i [] = names.getD k [] := by
        have : ((bs (p.getD i [])).toList == (bs (names.getD k [])).toList) = false := hz
        rw [bs_toList, bs_toList] at this
        simpa using this
      rw [if_neg (fun h => he h.2)] at hp
      refine runS_x (I := inf) (J := jnf) ⟨false, false, [], 0, 0⟩ 9999 rfl (by repeat (first | exact obs_nil | refine obs_draw (by kernel_rfl) ?_ | refine obs_same ?_ | refine obs_and ?_ | refine obs_by (by (simp [inB] <;> omega)) ?_)) ?_
      refine ih (i + 1, k) _ _ (by dsimp only; omega) ⟨⟨rfl, rfl, rfl, ?_⟩, rfl, by dsimp only; omega, by dsimp only; omega, hp⟩
      show iv (IntKind.wrap .i64 ((i : Int) + 1)) = _
      rw [w64 (by omega) (by omega)]; rfl
  · have hlt' := hw3.symm.trans hlt
    have hk2 : lastN names (names.length - 1) (p.take (p.length - 1)) 0 = k := by
      rw [← hp]
      rw [Bool.and_eq_false_iff] at hlt'
      rcases hlt' with h | h
      · have : i = p.length - 1 := by simp at h; omega
        rw [this, List.drop_eq_nil_of_le (by simp)]
        rfl
      · exact lastN_full (by simp at h; omega)
    refine runS_x (I := inf) (J := jnf) ⟨false, false, [], 0, 0⟩ 9999 rfl (by repeat (first | exact obs_nil | refine obs_draw (by kernel_rfl) ?_ | refine obs_same ?_ | refine obs_and ?_ | refine obs_by (by (simp [inB] <;> omega)) ?_)) ?_
    refine runS_ret (I := inf) 0 rfl (Nat.le_refl _) rfl .nil rfl ⟨?_, rfl⟩
    have e : fitsB p names = (k == names.length - 1) := by
      rw [fitsB, hlast, hk2, decide_eq_true (by omega), decide_eq_true (by omega)]
      simp
    rw [fitsAll, e]
    show Out.ret (.tup [bv ((k : Int) == IntKind.wrap .i64 ((names.length : Int) - 1)), bv (if ((k : Int) == IntKind.wrap .i64 ((names.length : Int) - 1)) = true then ((p.length : Int) == (names.length : Int)) else false)]) = _
    rw [w2]
    have e1 : ((k : Int) == ((names.length - 1 : Nat) : Int)) = (k == names.length - 1) := by rw [Bool.eq_iff_iff]; simp; omega
    have e2 : ((p.length : Int) == (names.length : Int)) = (p.length == names.length) := by rw [Bool.eq_iff_iff]; simp; omega
    rw [e1, e2]
    cases (k == names.length - 1) <;> rfl
end Go.Iron.Try

/- The level package's functions (seat Ytamhonbhoelohaa): Find, of both. -/
namespace Go.Iron.Try
open Go.Proofs

theorem lastN_all {names : List Str} {n : Nat} : ∀ {q : List Str} {k : Nat}, k + q.length ≤ n → lastN names n q k = k + q.length → ∀ j, j < q.length → q.getD j [] = names.getD (k + j) []
  | [], k, _, _, j, hj => by simp at hj
  | s :: q, k, h, he, j, hj => by
    rw [lastN] at he
    simp only [List.length_cons] at h he hj
    have hk : k < n := by omega
    by_cases hc : s = names.getD k []
    · rw [if_pos ⟨hk, hc⟩] at he
      cases j with
      | zero => simpa using hc
      | succ j =>
        have := lastN_all (names := names) (n := n) (q := q) (k := k + 1) (by omega) (by omega) j (by omega)
        rw [show k + (j + 1) = k + 1 + j by omega]
        simpa using this
    · rw [if_neg (fun h => hc h.2)] at he
      have := (lastN_le (names := names) (n := n) (p := q) (k := k) (by omega)).2.2
      omega
theorem lastN_self {names : List Str} {n : Nat} (hn : n ≤ names.length) : ∀ (c i : Nat), i + c = n → lastN names n ((names.take n).drop i) i = n
  | 0, i, h => by
    rw [List.drop_eq_nil_of_le (by simp; omega), lastN]; omega
  | c + 1, i, h => by
    rw [lastN_pre (by omega) hn, if_pos ⟨by omega, rfl⟩]
    exact lastN_self hn c (i + 1) (by omega)
theorem getD_ext {a b : List Str} (hl : a.length = b.length) (h : ∀ j, j < a.length → a.getD j [] = b.getD j []) : a = b := by
  apply List.ext_getElem hl
  intro j h1 h2
  have := h j h1
  rw [List.getD_eq_getElem?_getD, List.getD_eq_getElem?_getD, List.getElem?_eq_getElem h1, List.getElem?_eq_getElem h2] at this
  exact this
theorem fitsAll_iff {p names : List Str} (hp : 0 < p.length) : fitsAll p names = (p == names) := by
  rw [Bool.eq_iff_iff, beq_iff_eq]
  unfold fitsAll fitsB lastS
  simp only [Bool.and_eq_true, decide_eq_true_eq, beq_iff_eq]
  constructor
  · rintro ⟨⟨⟨⟨a1, a2⟩, a3⟩, a4⟩, a5⟩
    refine getD_ext a5 fun j hj => ?_
    by_cases hl : j = p.length - 1
    · rw [hl, a3, a5]
    · have hq : (p.take (p.length - 1)).length = p.length - 1 := by simp
      have := lastN_all (names := names) (n := names.length - 1) (q := p.take (p.length - 1)) (k := 0) (by rw [hq]; omega) (by rw [hq]; omega) j (by rw [hq]; omega)
      rw [Nat.zero_add] at this
      rw [← this, List.getD_eq_getElem?_getD, List.getD_eq_getElem?_getD, List.getElem?_take, if_pos (by omega)]
  · rintro rfl
    refine ⟨⟨⟨⟨hp, hp⟩, rfl⟩, ?_⟩, rfl⟩
    have := lastN_self (names := p) (n := p.length - 1) (by omega) (p.length - 1) 0 (by omega)
    simpa using this
theorem pth_pos (l : List Fld) (i : Nat) : 0 < (pth l i).length := by
  rw [pth, anc_eq]; simp

def fnd (l : List Fld) (names : List Str) (n : Nat) : List Nat := (List.range n).filter fun i => fitsB (pth l i) names
theorem fnd_succ (l : List Fld) (names : List Str) (n : Nat) : fnd l names (n + 1) = if fitsB (pth l n) names then fnd l names n ++ [n] else fnd l names n := by
  unfold fnd
  rw [List.range_succ, List.filter_append]
  by_cases h : fitsB (pth l n) names <;> simp [h]
theorem fnd_len (l : List Fld) (names : List Str) (n : Nat) : (fnd l names n).length ≤ n := by
  have := List.length_filter_le (fun i => fitsB (pth l i) names) (List.range n)
  rwa [List.length_range] at this
def isP (l : List Fld) (names : List Str) (i : Nat) : Bool := pth l i == names
def findR (l : List Fld) (names : List Str) : Int × Int := match (List.range l.length).find? (isP l names) with
  | some i => (i, 0)
  | none => if (fnd l names l.length).length = 0 then (0, 5) else if (fnd l names l.length).length = 1 then (((fnd l names l.length).getD 0 0 : Nat), 0) else (0, 6)
def findF (l : List Fld) (names : List Str) : Int × Int := if validF l then findR l names else (0, 1)
theorem find_some {l : List Fld} {names : List Str} {i : Nat} (h : ∀ k, k < i → isP l names k = false) (hi : i < l.length) (hp : isP l names i = true) : (List.range l.length).find? (isP l names) = some i := by
  rw [List.find?_range_eq_some]
  exact ⟨hp, List.mem_range.2 hi, fun j hj => by rw [h j hj]; rfl⟩
theorem find_none {l : List Fld} {names : List Str} (h : ∀ k, k < l.length → isP l names k = false) : (List.range l.length).find? (isP l names) = none := by
  rw [List.find?_eq_none]
  intro k hk
  rw [h k (List.mem_range.1 hk)]
  decide
def lastI (xs : List Nat) : Int := match xs.getLast? with
  | some k => k
  | none => -1
def findA (x : Int × Int) : AV := .tup [iv x.1, iv x.2]

theorem ref_Find (nl n2 : Option Bool) (l : List Fld) (names : List Str) (hs : smallF l) (h2 : names.length < 1000000000) : CallT Try.prog 82 [fldS nl l, txtS n2 names] [] (fun o A => o = .ret (findA (findF l names)) ∧ A = []) := by
  have hb := hs.1
  refine callS_body (n := 41) rfl rfl fun w ρ X => ?_
  refine runS_x (I := inf) (J := jnf) ⟨false, false, [], 0, 0⟩ 9999 rfl (by repeat (first | exact obs_nil | refine obs_draw (by kernel_rfl) ?_ | refine obs_same ?_ | refine obs_and ?_ | refine obs_by (by (simp [inB] <;> omega)) ?_)) ?_
  refine runS_call rfl rfl rfl rfl rfl rfl rfl (ref_valid nl l hs) ?_
  refine runS_x (I := inf) (J := jnf) ⟨false, false, [], 0, 0⟩ 9999 rfl (by repeat (first | exact obs_nil | refine obs_draw (by kernel_rfl) ?_ | refine obs_same ?_ | refine obs_and ?_ | refine obs_by (by (simp [inB] <;> omega)) ?_)) ?_
  refine runS_cond rfl (fun h => ?_) (fun h => ?_)
  · refine runS_x (I := inf) (J := jnf) ⟨false, false, [], 0, 0⟩ 9999 rfl (by repeat (first | exact obs_nil | refine obs_draw (by kernel_rfl) ?_ | refine obs_same ?_ | refine obs_and ?_ | refine obs_by (by (simp [inB] <;> omega)) ?_)) ?_
    have hv : validF l = false := by simpa using h
    refine runS_ret (I := inf) 0 rfl (Nat.le_refl _) rfl .nil rfl ⟨?_, rfl⟩
    rw [findF, hv]; rfl
  have hv : validF l = true := by simpa using h
  refine runS_x (I := inf) (J := jnf) ⟨false, false, [], 0, 0⟩ 9999 rfl (by repeat (first | exact obs_nil | refine obs_draw (by kernel_rfl) ?_ | refine obs_same ?_ | refine obs_and ?_ | refine obs_by (by (simp [inB] <;> omega)) ?_)) ?_
  refine runS_while (fun (i : Nat) τ ar => (τ 0 = fldS nl l ∧ τ 1 = txtS n2 names ∧ τ 6 = iv (lastI (fnd l names i)) ∧ τ 7 = iv (fnd l names i).length ∧ τ 8 = iv i) ∧ ar = [] ∧ i ≤ l.length ∧ ∀ k, k < i → isP l names k = false) (fun i => l.length - i) 0
    ⟨⟨rfl, rfl, rfl, rfl, rfl⟩, rfl, Nat.zero_le _, fun k hk => by omega⟩ ?_
  rintro i τ' ar' ⟨⟨g0, g1, g6, g7, g8⟩, rfl, hi, hp⟩ ih
  refine runS_says 0 (by exact g0) (Says.refl _) ?_; refine runS_says 1 (by exact g1) (Says.refl _) ?_; refine runS_says 6 (by exact g6) (Says.refl _) ?_; refine runS_says 7 (by exact g7) (Says.refl _) ?_; refine runS_says 8 (by exact g8) (Says.refl _) ?_
  have hfl := fnd_len l names i
  refine runS_x (I := inf) (J := jnf) ⟨false, false, [], 0, 0⟩ 9999 rfl (by repeat (first | exact obs_nil | refine obs_draw (by kernel_rfl) ?_ | refine obs_same ?_ | refine obs_and ?_ | refine obs_by (by (simp [inB] <;> omega)) ?_)) ?_
  refine runS_cond rfl (fun hlt => ?_) (fun hlt => ?_)
  · have hlt' : i < l.length := by simpa using hlt
    have hpl := pth_len l i
    refine runS_x (I := inf) (J := jnf) ⟨false, false, [], 0, 0⟩ 9999 rfl (by repeat (first | exact obs_nil | refine obs_draw (by kernel_rfl) ?_ | refine obs_same ?_ | refine obs_and ?_ | refine obs_by (by (simp [inB] <;> omega)) ?_)) ?_
    refine runS_call rfl rfl rfl rfl rfl rfl rfl (ref_path nl l i hlt' hb) ?_
    refine runS_x (I := inf) (J := jnf) ⟨false, false, [], 0, 0⟩ 9999 rfl (by repeat (first | exact obs_nil | refine obs_draw (by kernel_rfl) ?_ | refine obs_same ?_ | refine obs_and ?_ | refine obs_by (by (simp [inB] <;> omega)) ?_)) ?_
    refine runS_call rfl rfl rfl rfl rfl rfl rfl (ref_Fits none n2 (pth l i) names (by omega) h2) ?_
    refine runS_x (I := inf) (J := jnf) ⟨false, false, [], 0, 0⟩ 9999 rfl (by repeat (first | exact obs_nil | refine obs_draw (by kernel_rfl) ?_ | refine obs_same ?_ | refine obs_and ?_ | refine obs_by (by (simp [inB] <;> omega)) ?_)) ?_
    refine runS_cond rfl (fun hz => ?_) (fun hz => ?_)
    · refine runS_x (I := inf) (J := jnf) ⟨false, false, [], 0, 0⟩ 9999 rfl (by repeat (first | exact obs_nil | refine obs_draw (by kernel_rfl) ?_ | refine obs_same ?_ | refine obs_and ?_ | refine obs_by (by (simp [inB] <;> omega)) ?_)) ?_
      refine runS_ret (I := inf) 0 rfl (Nat.le_refl _) rfl .nil rfl ⟨?_, rfl⟩
      have : isP l names i = true := by rw [isP, ← fitsAll_iff (pth_pos l i)]; exact hz
      rw [findF, if_pos hv, findR, find_some hp hlt' this]
      rfl
    have hne : isP l names i = false := by rw [isP, ← fitsAll_iff (pth_pos l i)]; exact hz
    have hp' : ∀ k, k < i + 1 → isP l names k = false := fun k hk => by
      by_cases h : k = i
      · subst h; exact hne
      · exact hp k (by omega)
    have hs1 := fnd_succ l names i
    refine runS_x (I := inf) (J := jnf) ⟨false, false, [], 0, 0⟩ 9999 rfl (by repeat (first | exact obs_nil | refine obs_draw (by kernel_rfl) ?_ | refine obs_same ?_ | refine obs_and ?_ | refine obs_by (by (simp [inB] <;> omega)) ?_)) ?_
    refine runS_cond rfl (fun hf => ?_) (fun hf => ?_)
    · refine runS_x (I := inf) (J := jnf) ⟨false, false, [], 0, 0⟩ 9999 rfl (by repeat (first | exact obs_nil | refine obs_draw (by kernel_rfl) ?_ | refine obs_same ?_ | refine obs_and ?_ | refine obs_by (by (simp [inB] <;> omega)) ?_)) ?_
      rw [if_pos hf] at hs1
      refine ih (i + 1) _ _ (by omega) ⟨⟨rfl, rfl, ?_, ?_, ?_⟩, rfl, by omega, hp'⟩
      · show iv (i : Int) = _
        rw [hs1, lastI]
        simp
      · show iv (IntKind.wrap .i64 (((fnd l names i).length : Int) + 1)) = _
        rw [w64 (by omega) (by omega), hs1, List.length_append]; rfl
      · show iv (IntKind.wrap .i64 ((i : Int) + 1)) = _
        rw [w64 (by omega) (by omega)]; rfl
    · refine runS_x (I := inf) (J := jnf) ⟨false, false, [], 0, 0⟩ 9999 rfl (by repeat (first | exact obs_nil | refine obs_draw (by kernel_rfl) ?_ | refine obs_same ?_ | refine obs_and ?_ | refine obs_by (by (simp [inB] <;> omega)) ?_)) ?_
      rw [if_neg (by rw [hf]; decide)] at hs1
      refine ih (i + 1) _ _ (by omega) ⟨⟨rfl, rfl, ?_, ?_, ?_⟩, rfl, by omega, hp'⟩
      · show iv _ = _
        rw [hs1]
      · show iv _ = _
        rw [hs1]
      · show iv (IntKind.wrap .i64 ((i : Int) + 1)) = _
        rw [w64 (by omega) (by omega)]; rfl
  · have : i = l.length := by simp at hlt; omega
    subst this
    have hfn := find_none hp
    refine runS_x (I := inf) (J := jnf) ⟨false, false, [], 0, 0⟩ 9999 rfl (by repeat (first | exact obs_nil | refine obs_draw (by kernel_rfl) ?_ | refine obs_same ?_ | refine obs_and ?_ | refine obs_by (by (simp [inB] <;> omega)) ?_)) ?_
    refine runS_cond rfl (fun h0 => ?_) (fun h0 => ?_)
    · refine runS_x (I := inf) (J := jnf) ⟨false, false, [], 0, 0⟩ 9999 rfl (by repeat (first | exact obs_nil | refine obs_draw (by kernel_rfl) ?_ | refine obs_same ?_ | refine obs_and ?_ | refine obs_by (by (simp [inB] <;> omega)) ?_)) ?_
      refine runS_ret (I := inf) 0 rfl (Nat.le_refl _) rfl .nil rfl ⟨?_, rfl⟩
      have h0' : (fnd l names l.length).length = 0 := by
        have : (((fnd l names l.length).length : Int) == 0) = true := h0
        rw [beq_iff_eq] at this; omega
      rw [findF, if_pos hv, findR, hfn]
      dsimp only
      rw [if_pos h0']
      rfl
    have h0' : ¬ (fnd l names l.length).length = 0 := by
      have : (((fnd l names l.length).length : Int) == 0) = false := h0
      rw [beq_eq_false_iff_ne] at this; omega
    refine runS_x (I := inf) (J := jnf) ⟨false, false, [], 0, 0⟩ 9999 rfl (by repeat (first | exact obs_nil | refine obs_draw (by kernel_rfl) ?_ | refine obs_same ?_ | refine obs_and ?_ | refine obs_by (by (simp [inB] <;> omega)) ?_)) ?_
    refine runS_cond rfl (fun h1 => ?_) (fun h1 => ?_)
    · refine runS_x (I := inf) (J := jnf) ⟨false, false, [], 0, 0⟩ 9999 rfl (by repeat (first | exact obs_nil | refine obs_draw (by kernel_rfl) ?_ | refine obs_same ?_ | refine obs_and ?_ | refine obs_by (by (simp [inB] <;> omega)) ?_)) ?_
      refine runS_ret (I := inf) 0 rfl (Nat.le_refl _) rfl .nil rfl ⟨?_, rfl⟩
      have h1' : ¬ (fnd l names l.length).length = 1 := by
        have := of_decide_eq_true h1
        omega
      rw [findF, if_pos hv, findR, hfn]
      dsimp only
      rw [if_neg h0', if_neg h1']
      rfl
    · have h1' : (fnd l names l.length).length = 1 := by
        have := of_decide_eq_false h1
        omega
      refine runS_x (I := inf) (J := jnf) ⟨false, false, [], 0, 0⟩ 9999 rfl (by repeat (first | exact obs_nil | refine obs_draw (by kernel_rfl) ?_ | refine obs_same ?_ | refine obs_and ?_ | refine obs_by (by (simp [inB] <;> omega)) ?_)) ?_
      refine runS_ret (I := inf) 0 rfl (Nat.le_refl _) rfl .nil rfl ⟨?_, rfl⟩
      rw [findF, if_pos hv, findR, hfn]
      dsimp only
      rw [if_neg h0', if_pos h1']
      show Out.ret (.tup [iv (lastI (fnd l names l.length)), iv 0]) = _
      obtain ⟨a, ha⟩ := List.length_eq_one_iff.1 h1'
      rw [ha]
      rfl

theorem takeS (nl : Option Bool) (p : List Str) (h : Int) (hh : h = ((p.length - 1 : Nat) : Int)) : Says (.slc 1 nl (h - 0).toNat (shiftR (encR (fun s => [sv s]) [] p) (Int.toNat 0))) (txtS nl (p.take (p.length - 1))) := by
  subst hh
  refine says_slc (by simp) fun i hi => ?_
  have hi' : i < p.length - 1 := by simpa using hi
  show [sv ((p.take (p.length - 1)).getD i [])] = [sv (p.getD (0 + i) [])]
  rw [Nat.zero_add, List.getD_eq_getElem?_getD, List.getD_eq_getElem?_getD, List.getElem?_take, if_pos hi']
theorem level_lastT (n1 n2 : Option Bool) (p names : List Str) (h1 : p.length < 1000000000) (h2 : names.length < 1000000000) (hp : 0 < p.length) (hn : 0 < names.length) :
    CallT Try.prog 143 [.slc 1 n1 (IntKind.wrap .i64 ((p.length : Int) - 1) - 0).toNat (shiftR (encR (fun s => [sv s]) [] p) (Int.toNat 0)), .slc 1 n2 (IntKind.wrap .i64 ((names.length : Int) - 1) - 0).toNat (shiftR (encR (fun s => [sv s]) [] names) (Int.toNat 0))] []
      (fun o A => o = .ret (bv (lastN names (names.length - 1) (p.take (p.length - 1)) 0 == names.length - 1)) ∧ A = []) := by
  have w1 : IntKind.wrap .i64 ((p.length : Int) - 1) = ((p.length - 1 : Nat) : Int) := by rw [w64 (by omega) (by omega)]; omega
  have w2 : IntKind.wrap .i64 ((names.length : Int) - 1) = ((names.length - 1 : Nat) : Int) := by rw [w64 (by omega) (by omega)]; omega
  refine callT_says (.cons (takeS n1 p _ w1) (.cons (takeS n2 names _ w2) .nil)) ?_
  have hl : (names.take (names.length - 1)).length = names.length - 1 := by simp
  have := level_last n1 n2 (p.take (p.length - 1)) (names.take (names.length - 1)) (by simp; omega) (by simp; omega)
  rw [hl, lastN_take (Nat.le_refl _)] at this
  exact this
theorem level_Find (nl n2 : Option Bool) (l : List Fld) (names : List Str) (hs : smallF l) (h2 : names.length < 1000000000) : CallT Try.prog 81 [fldS nl l, txtS n2 names] [] (fun o A => o = .ret (findA (findF l names)) ∧ A = []) := by
  have hb := hs.1
  by_cases hv : validF l = true
  · have hlen := valid_len hv
    refine callS_body (n := 10) rfl rfl fun w ρ X => ?_
    refine runS_x (I := inf) (J := jnf) ⟨false, false, [125, 140], 0, 0⟩ 9999 rfl (by repeat (first | exact obs_nil | refine obs_draw (by kernel_rfl) ?_ | refine obs_same ?_ | refine obs_and ?_ | refine obs_by (by (simp [inB] <;> omega)) ?_)) ?_
    refine runS_call rfl rfl rfl rfl rfl rfl rfl (valid_ok nl l 0 hs hv (by omega)) ?_
    refine runS_x (I := inf) (J := jnf) ⟨false, false, [], 0, 0⟩ 9999 rfl (by repeat (first | exact obs_nil | refine obs_draw (by kernel_rfl) ?_ | refine obs_same ?_ | refine obs_and ?_ | refine obs_by (by (simp [inB] <;> omega)) ?_)) ?_
    refine runS_nilRow 4 3 1 (natR []) rfl rfl ?_
    refine runS_forget 5 rfl ?_
    refine runS_while (fun (i : Nat) τ ar => (τ 0 = .ptr 0 0 0 ∧ τ 1 = .ptr 1 0 0 ∧ τ 3 = treeS none l ∧ τ 4 = .row 4 (fnd l names i).length ∧ τ 10 = iv l.length ∧ τ 11 = iv i) ∧
      ar = [.box 41 [fldS nl l], .box 46 [txtS n2 names], .box 3 [iv 0], .box 51 [iv 0], .row 3 1 (fnd l names i).length (fnd l names i).length (natR (fnd l names i))] ∧ i ≤ l.length ∧ ∀ k, k < i → isP l names k = false) (fun i => l.length - i) 0
      ⟨⟨rfl, rfl, rfl, rfl, rfl, rfl⟩, rfl, Nat.zero_le _, fun k hk => by omega⟩ ?_
    rintro i τ' ar' ⟨⟨g0, g1, g3, g4, g10, g11⟩, rfl, hi, hp⟩ ih
    refine runS_says 0 (by exact g0) (Says.refl _) ?_; refine runS_says 1 (by exact g1) (Says.refl _) ?_; refine runS_says 3 (by exact g3) (Says.refl _) ?_; refine runS_says 4 (by exact g4) (Says.refl _) ?_; refine runS_says 10 (by exact g10) (Says.refl _) ?_; refine runS_says 11 (by exact g11) (Says.refl _) ?_
    have hfl := fnd_len l names i
    refine runS_x (I := inf) (J := jnf) ⟨false, false, [], 0, 0⟩ 9999 rfl (by repeat (first | exact obs_nil | refine obs_draw (by kernel_rfl) ?_ | refine obs_same ?_ | refine obs_and ?_ | refine obs_by (by (simp [inB] <;> omega)) ?_)) ?_
    refine runS_cond rfl (fun hlt => ?_) (fun hlt => ?_)
    · have hlt' : i < l.length := by simpa using hlt
      have hpl := pth_len l i
      have hpp := pth_pos l i
      refine runS_x (I := inf) (J := jnf) ⟨false, false, [], 0, 0⟩ 9999 rfl (by repeat (first | exact obs_nil | refine obs_draw (by kernel_rfl) ?_ | refine obs_same ?_ | refine obs_and ?_ | refine obs_by (by (simp [inB] <;> omega)) ?_)) ?_
      refine runS_call rfl rfl rfl rfl rfl rfl rfl (level_path none l i hlt' hb) ?_
      refine runS_x (I := inf) (J := jnf) ⟨false, false, [], 0, 0⟩ 9999 rfl (by repeat (first | exact obs_nil | refine obs_draw (by kernel_rfl) ?_ | refine obs_same ?_ | refine obs_and ?_ | refine obs_by (by (simp [inB] <;> omega)) ?_)) ?_
      refine runS_call rfl rfl rfl rfl rfl rfl rfl (slices_equalTexts none n2 (pth l i) names (by omega)) ?_
      refine runS_x (I := inf) (J := jnf) ⟨false, false, [], 0, 0⟩ 9999 rfl (by repeat (first | exact obs_nil | refine obs_draw (by kernel_rfl) ?_ | refine obs_same ?_ | refine obs_and ?_ | refine obs_by (by (simp [inB] <;> omega)) ?_)) ?_
      refine runS_cond rfl (fun hz => ?_) (fun hz => ?_)
      · refine runS_x (I := inf) (J := jnf) ⟨true, false, [167], 0, 0⟩ 9999 rfl (by repeat (first | exact obs_nil | refine obs_draw (by kernel_rfl) ?_ | refine obs_same ?_ | refine obs_and ?_ | refine obs_by (by (simp [inB] <;> omega)) ?_)) ?_
        refine runS_ret (I := inf) 0 rfl (Nat.le_refl _) rfl .nil rfl ⟨?_, rfl⟩
        have : isP l names i = true := by
          have := of_decide_eq_true hz
          rw [isP]
          simpa using this
        rw [findF, if_pos hv, findR, find_some hp hlt' this]
        rfl
      have hne : isP l names i = false := by
        have := of_decide_eq_false hz
        rw [isP]
        simpa using this
      have hp' : ∀ k, k < i + 1 → isP l names k = false := fun k hk => by
        by_cases h : k = i
        · subst h; exact hne
        · exact hp k (by omega)
      have hs1 := fnd_succ l names i
      refine runS_x (I := inf) (J := jnf) ⟨false, false, [], 0, 0⟩ 9999 rfl (by repeat (first | exact obs_nil | refine obs_draw (by kernel_rfl) ?_ | refine obs_same ?_ | refine obs_and ?_ | refine obs_by (by (simp [inB] <;> omega)) ?_)) ?_
      have w1 : IntKind.wrap .i64 (((pth l i).length : Int) - 1) = ((pth l i).length : Int) - 1 := by rw [w64 (by omega) (by omega)]
      have w2 : IntKind.wrap .i64 ((names.length : Int) - 1) = (names.length : Int) - 1 := by rw [w64 (by omega) (by omega)]
      refine runS_draw 31 (by kernel_rfl) (lexj_x (I := inf) (J := jnf) 99 rfl rfl (by repeat (first | exact obs_nil | refine obs_same ?_ | refine obs_and ?_ | refine obs_by (by (simp [inB, w1, w2, hpp] <;> omega)) ?_)) (lexj_callU rfl rfl (by first | exact .v rfl rfl rfl rfl | exact .o rfl rfl rfl rfl) rfl rfl (by repeat (first | exact .nil | refine .cons (.n rfl) ?_ | refine .cons .o ?_ | refine .cons gok_and ?_)) rfl rfl rfl rfl rfl (fun hcond => (level_lastT none n2 (pth l i) names (by omega) h2 hpp (by simp [condOf] at hcond; omega))) (lexj_x (I := inf) (J := jnf) 99 rfl rfl (by repeat (first | exact obs_nil | refine obs_same ?_ | refine obs_and ?_ | refine obs_by (by (simp [inB, w1, w2, hpp] <;> omega)) ?_)) lexj_nil))) ?_
      refine runS_x (I := inf) (J := jnf) ⟨false, false, [], 0, 0⟩ 9999 rfl (by repeat (first | exact obs_nil | refine obs_draw (by kernel_rfl) ?_ | refine obs_same ?_ | refine obs_and ?_ | refine obs_by (by (simp [inB] <;> omega)) ?_)) ?_
      have hw : (if (if decide ((names.length : Int) > 0) = true then ((bs ((pth l i).getD (IntKind.wrap .i64 (((pth l i).length : Int) - 1)).toNat [])).toList == (bs (names.getD (IntKind.wrap .i64 ((names.length : Int) - 1)).toNat [])).toList) else false) = true
          then (lastN names (names.length - 1) ((pth l i).take ((pth l i).length - 1)) 0 == names.length - 1) else false) = fitsB (pth l i) names := by
        rw [w1, w2, bs_toList, bs_toList, fitsB, decide_eq_true hpp, show (((pth l i).length : Int) - 1).toNat = (pth l i).length - 1 by omega, show ((names.length : Int) - 1).toNat = names.length - 1 by omega]
        have e : decide ((names.length : Int) > 0) = decide (0 < names.length) := by rw [Bool.eq_iff_iff]; simp
        rw [e]
        show (if (if decide (0 < names.length) = true then (lastS (pth l i) == lastS names) else false) = true then _ else _) = _
        cases decide (0 < names.length) <;> cases (lastS (pth l i) == lastS names) <;> simp
      refine runS_cond rfl (fun hf => ?_) (fun hf => ?_)
      · have hf' := hw.symm.trans hf
        rw [if_pos hf'] at hs1
        refine runS_x (I := inf) (J := jnf) ⟨false, false, [], 0, 0⟩ 9999 rfl (by repeat (first | exact obs_nil | refine obs_draw (by kernel_rfl) ?_ | refine obs_same ?_ | refine obs_and ?_ | refine obs_by (by (simp [inB] <;> omega)) ?_)) ?_
        refine runS_tell 4 (natR (fnd l names i ++ [i])) rfl (m' := (fnd l names i).length + 1) rfl (encR_snoc (enc := fun k : Nat => [iv k]) (d := 0) rfl) rfl ?_
        refine runS_drop 5 (Nat.zero_le _) rfl (by repeat (first | exact .nil | refine .row (fun j hj => rfl) ?_ | refine .box rfl ?_ | refine .fam (fun k j hk hj => rfl) ?_ | refine .loop (scrub_under _ _) ?_ | refine .dfr ?_ | refine .gone ?_ | refine .map (fun p hp => by (obtain ⟨k, _, rfl⟩ := List.mem_map.1 hp; rfl)) ?_)) rfl rfl rfl (by repeat (first | exact .nil | refine .cons rfl rfl rfl (scrub_under _ _) ?_)) ?_
        refine ih (i + 1) _ _ (by omega) ⟨⟨rfl, rfl, rfl, ?_, rfl, ?_⟩, ?_, by omega, hp'⟩
        · rw [hs1, List.length_append]; rfl
        · show iv (IntKind.wrap .i64 ((i : Int) + 1)) = _
          rw [w64 (by omega) (by omega)]; rfl
        · rw [hs1, List.length_append]; rfl
      · have hf' := hw.symm.trans hf
        rw [if_neg (by rw [hf']; decide)] at hs1
        refine runS_x (I := inf) (J := jnf) ⟨false, false, [], 0, 0⟩ 9999 rfl (by repeat (first | exact obs_nil | refine obs_draw (by kernel_rfl) ?_ | refine obs_same ?_ | refine obs_and ?_ | refine obs_by (by (simp [inB] <;> omega)) ?_)) ?_
        refine ih (i + 1) _ _ (by omega) ⟨⟨rfl, rfl, rfl, ?_, rfl, ?_⟩, ?_, by omega, hp'⟩
        · rw [hs1]; try rfl
        · show iv (IntKind.wrap .i64 ((i : Int) + 1)) = _
          rw [w64 (by omega) (by omega)]; rfl
        · rw [hs1]; try rfl
    · have : i = l.length := by simp at hlt; omega
      subst this
      have hfn := find_none hp
      refine runS_x (I := inf) (J := jnf) ⟨false, false, [], 0, 0⟩ 9999 rfl (by repeat (first | exact obs_nil | refine obs_draw (by kernel_rfl) ?_ | refine obs_same ?_ | refine obs_and ?_ | refine obs_by (by (simp [inB] <;> omega)) ?_)) ?_
      by_cases h0 : (fnd l names l.length).length = 0
      · have hd : decide (((fnd l names l.length).length : Int) > 0) = false := by rw [decide_eq_false_iff_not]; omega
        rw [hd]
        refine runS_callP rfl rfl rfl rfl rfl rfl rfl (must_no 5) ?_
        refine runS_x (I := inf) (J := jnf) ⟨true, false, [167], 0, 0⟩ 9999 rfl (by repeat (first | exact obs_nil | refine obs_draw (by kernel_rfl) ?_ | refine obs_same ?_ | refine obs_and ?_ | refine obs_by (by (simp [inB] <;> omega)) ?_)) ?_
        refine runS_drawG (ch := []) 4 [3] (fun b => [.box 41 [fldS nl l], .box 46 [txtS n2 names], .box 3 [iv 0], .box 51 [iv 0], .row 3 1 (fnd l names l.length).length (fnd l names l.length).length (natR (fnd l names l.length)), .box 170 [iv 5]]) none (c := 9) jnfI.draw (by kernel_rfl) rfl (lexg_g (I := inf) (J := jnf) none ⟨⟨_, rfl, (by repeat (first | exact obs_nil | refine obs_same ?_ | refine obs_and ?_ | refine obs_by (by (simp [inB] <;> omega)) ?_))⟩, (by first | exact .inl (by decide +kernel) | exact .inr ⟨_, rfl, (by repeat (first | exact obs_nil | refine obs_same ?_ | refine obs_and ?_ | refine obs_by (by (simp [inB] <;> omega)) ?_))⟩)⟩ rfl rfl rfl rfl (lexg_g (I := inf) (J := jnf) none ⟨⟨_, rfl, (by repeat (first | exact obs_nil | refine obs_same ?_ | refine obs_and ?_ | refine obs_by (by (simp [inB] <;> omega)) ?_))⟩, (by first | exact .inl (by decide +kernel) | exact .inr ⟨_, rfl, (by repeat (first | exact obs_nil | refine obs_same ?_ | refine obs_and ?_ | refine obs_by (by (simp [inB] <;> omega)) ?_))⟩)⟩ rfl rfl rfl rfl (lexg_g (I := inf) (J := jnf) none ⟨⟨_, rfl, (by repeat (first | exact obs_nil | refine obs_same ?_ | refine obs_and ?_ | refine obs_by (by (simp [inB] <;> omega)) ?_))⟩, (by first | exact .inl (by decide +kernel) | exact .inr ⟨_, rfl, (by repeat (first | exact obs_nil | refine obs_same ?_ | refine obs_and ?_ | refine obs_by (by (simp [inB] <;> omega)) ?_))⟩)⟩ rfl rfl rfl rfl (lexg_g (I := inf) (J := jnf) (some .store) ⟨⟨_, rfl, (by repeat (first | exact obs_nil | refine obs_same ?_ | refine obs_and ?_ | refine obs_by (by (simp [inB] <;> omega)) ?_))⟩, .inl rfl⟩ rfl rfl rfl rfl lexg_nil)))) rfl (fun _ => ?_) (fun h => by cases h)
        refine runS_x (I := inf) (J := jnf) ⟨true, false, [167], 0, 0⟩ 9999 rfl (by repeat (first | exact obs_nil | refine obs_draw (by kernel_rfl) ?_ | refine obs_same ?_ | refine obs_and ?_ | refine obs_by (by (simp [inB] <;> omega)) ?_)) ?_
        refine runS_ret (I := inf) 0 rfl (Nat.le_refl _) rfl .nil rfl ⟨?_, rfl⟩
        rw [findF, if_pos hv, findR, hfn]
        dsimp only
        rw [if_pos h0]
        rfl
      have hd : decide (((fnd l names l.length).length : Int) > 0) = true := by rw [decide_eq_true_iff]; omega
      rw [hd]
      refine runS_call rfl rfl rfl rfl rfl rfl rfl (must_ok 5) ?_
      refine runS_x (I := inf) (J := jnf) ⟨false, false, [], 0, 0⟩ 9999 rfl (by repeat (first | exact obs_nil | refine obs_draw (by kernel_rfl) ?_ | refine obs_same ?_ | refine obs_and ?_ | refine obs_by (by (simp [inB] <;> omega)) ?_)) ?_
      by_cases h1 : (fnd l names l.length).length = 1
      · have hd : (((fnd l names l.length).length : Int) == 1) = true := by rw [beq_iff_eq]; omega
        rw [hd]
        refine runS_call rfl rfl rfl rfl rfl rfl rfl (must_ok 6) ?_
        refine runS_x (I := inf) (J := jnf) ⟨true, false, [167], 0, 0⟩ 9999 rfl (by repeat (first | exact obs_nil | refine obs_draw (by kernel_rfl) ?_ | refine obs_same ?_ | refine obs_and ?_ | refine obs_by (by (simp [inB, h1] <;> omega)) ?_)) ?_
        refine runS_ret (I := inf) 0 rfl (Nat.le_refl _) rfl .nil rfl ⟨?_, rfl⟩
        rw [findF, if_pos hv, findR, hfn]
        dsimp only
        rw [if_neg h0, if_pos h1]
        rfl
      · have hd : (((fnd l names l.length).length : Int) == 1) = false := by rw [beq_eq_false_iff_ne]; omega
        rw [hd]
        refine runS_callP rfl rfl rfl rfl rfl rfl rfl (must_no 6) ?_
        refine runS_x (I := inf) (J := jnf) ⟨true, false, [167], 0, 0⟩ 9999 rfl (by repeat (first | exact obs_nil | refine obs_draw (by kernel_rfl) ?_ | refine obs_same ?_ | refine obs_and ?_ | refine obs_by (by (simp [inB] <;> omega)) ?_)) ?_
        refine runS_drawG (ch := []) 4 [3] (fun b => [.box 41 [fldS nl l], .box 46 [txtS n2 names], .box 3 [iv 0], .box 51 [iv 0], .row 3 1 (fnd l names l.length).length (fnd l names l.length).length (natR (fnd l names l.length)), .box 170 [iv 6]]) none (c := 9) jnfI.draw (by kernel_rfl) rfl (lexg_g (I := inf) (J := jnf) none ⟨⟨_, rfl, (by repeat (first | exact obs_nil | refine obs_same ?_ | refine obs_and ?_ | refine obs_by (by (simp [inB] <;> omega)) ?_))⟩, (by first | exact .inl (by decide +kernel) | exact .inr ⟨_, rfl, (by repeat (first | exact obs_nil | refine obs_same ?_ | refine obs_and ?_ | refine obs_by (by (simp [inB] <;> omega)) ?_))⟩)⟩ rfl rfl rfl rfl (lexg_g (I := inf) (J := jnf) none ⟨⟨_, rfl, (by repeat (first | exact obs_nil | refine obs_same ?_ | refine obs_and ?_ | refine obs_by (by (simp [inB] <;> omega)) ?_))⟩, (by first | exact .inl (by decide +kernel) | exact .inr ⟨_, rfl, (by repeat (first | exact obs_nil | refine obs_same ?_ | refine obs_and ?_ | refine obs_by (by (simp [inB] <;> omega)) ?_))⟩)⟩ rfl rfl rfl rfl (lexg_g (I := inf) (J := jnf) none ⟨⟨_, rfl, (by repeat (first | exact obs_nil | refine obs_same ?_ | refine obs_and ?_ | refine obs_by (by (simp [inB] <;> omega)) ?_))⟩, (by first | exact .inl (by decide +kernel) | exact .inr ⟨_, rfl, (by repeat (first | exact obs_nil | refine obs_same ?_ | refine obs_and ?_ | refine obs_by (by (simp [inB] <;> omega)) ?_))⟩)⟩ rfl rfl rfl rfl (lexg_g (I := inf) (J := jnf) (some .store) ⟨⟨_, rfl, (by repeat (first | exact obs_nil | refine obs_same ?_ | refine obs_and ?_ | refine obs_by (by (simp [inB] <;> omega)) ?_))⟩, .inl rfl⟩ rfl rfl rfl rfl lexg_nil)))) rfl (fun _ => ?_) (fun h => by cases h)
        refine runS_x (I := inf) (J := jnf) ⟨true, false, [167], 0, 0⟩ 9999 rfl (by repeat (first | exact obs_nil | refine obs_draw (by kernel_rfl) ?_ | refine obs_same ?_ | refine obs_and ?_ | refine obs_by (by (simp [inB] <;> omega)) ?_)) ?_
        refine runS_ret (I := inf) 0 rfl (Nat.le_refl _) rfl .nil rfl ⟨?_, rfl⟩
        rw [findF, if_pos hv, findR, hfn]
        dsimp only
        rw [if_neg h0, if_neg h1]
        rfl
  · refine callS_body (n := 10) rfl rfl fun w ρ X => ?_
    refine runS_x (I := inf) (J := jnf) ⟨false, false, [125, 140], 0, 0⟩ 9999 rfl (by repeat (first | exact obs_nil | refine obs_draw (by kernel_rfl) ?_ | refine obs_same ?_ | refine obs_and ?_ | refine obs_by (by (simp [inB] <;> omega)) ?_)) ?_
    refine runS_callP rfl rfl rfl rfl rfl rfl rfl (valid_bad1 nl l 0 hs (by simpa using hv)) ?_
    refine runS_x (I := inf) (J := jnf) ⟨true, false, [167], 0, 0⟩ 9999 rfl (by repeat (first | exact obs_nil | refine obs_draw (by kernel_rfl) ?_ | refine obs_same ?_ | refine obs_and ?_ | refine obs_by (by (simp [inB] <;> omega)) ?_)) ?_
    refine runS_drawG (ch := []) 4 [3] (fun b => [.box 41 [fldS nl l], .box 46 [txtS n2 names], .box 3 [iv 0], .box 51 [iv 0], .box 170 [iv 1]]) none (c := 9) jnfI.draw (by kernel_rfl) rfl (lexg_g (I := inf) (J := jnf) none ⟨⟨_, rfl, (by repeat (first | exact obs_nil | refine obs_same ?_ | refine obs_and ?_ | refine obs_by (by (simp [inB] <;> omega)) ?_))⟩, (by first | exact .inl (by decide +kernel) | exact .inr ⟨_, rfl, (by repeat (first | exact obs_nil | refine obs_same ?_ | refine obs_and ?_ | refine obs_by (by (simp [inB] <;> omega)) ?_))⟩)⟩ rfl rfl rfl rfl (lexg_g (I := inf) (J := jnf) none ⟨⟨_, rfl, (by repeat (first | exact obs_nil | refine obs_same ?_ | refine obs_and ?_ | refine obs_by (by (simp [inB] <;> omega)) ?_))⟩, (by first | exact .inl (by decide +kernel) | exact .inr ⟨_, rfl, (by repeat (first | exact obs_nil | refine obs_same ?_ | refine obs_and ?_ | refine obs_by (by (simp [inB] <;> omega)) ?_))⟩)⟩ rfl rfl rfl rfl (lexg_g (I := inf) (J := jnf) none ⟨⟨_, rfl, (by repeat (first | exact obs_nil | refine obs_same ?_ | refine obs_and ?_ | refine obs_by (by (simp [inB] <;> omega)) ?_))⟩, (by first | exact .inl (by decide +kernel) | exact .inr ⟨_, rfl, (by repeat (first | exact obs_nil | refine obs_same ?_ | refine obs_and ?_ | refine obs_by (by (simp [inB] <;> omega)) ?_))⟩)⟩ rfl rfl rfl rfl (lexg_g (I := inf) (J := jnf) (some .store) ⟨⟨_, rfl, (by repeat (first | exact obs_nil | refine obs_same ?_ | refine obs_and ?_ | refine obs_by (by (simp [inB] <;> omega)) ?_))⟩, .inl rfl⟩ rfl rfl rfl rfl lexg_nil)))) rfl (fun _ => ?_) (fun h => by cases h)
    refine runS_x (I := inf) (J := jnf) ⟨true, false, [167], 0, 0⟩ 9999 rfl (by repeat (first | exact obs_nil | refine obs_draw (by kernel_rfl) ?_ | refine obs_same ?_ | refine obs_and ?_ | refine obs_by (by (simp [inB] <;> omega)) ?_)) ?_
    refine runS_ret (I := inf) 0 rfl (Nat.le_refl _) rfl .nil rfl ⟨?_, rfl⟩
    rw [findF, if_neg hv]
    rfl
end Go.Iron.Try
