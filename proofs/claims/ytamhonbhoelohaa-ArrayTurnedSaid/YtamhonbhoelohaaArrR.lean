/- The array package's functions (seat Ytamhonbhoelohaa): Defined, by several frames. -/
import Derived.Test.YtamhonbhoelohaaArrP
import Derived.Test.YtamhonbhoelohaaIronQ
import Derived.Test.YtamhonbhoelohaaIronJnf
namespace Go.Iron.Try
open Go.Proofs

theorem mapped_defined {base own : List Dim} {l : List ISub} (h' : ¬ (!validD base || !validD own) = true) (h : ¬ mappedF base own l = 0) : definedF base own l = (none, 0, 0, mappedF base own l) ∧ True := by
  refine ⟨?_, trivial⟩
  unfold mappedF at h ⊢
  by_cases hb : l.any badI = true
  · have ha : askedF base own l = 1 := by unfold askedF; rw [if_neg h', if_pos hb]
    rw [definedF, if_neg (by rw [ha]; decide), ha, if_pos hb]
  · rw [if_neg hb] at h ⊢
    by_cases hl : l.length = base.length
    · rw [if_pos hl] at h ⊢
      have ha : askedF base own l = 0 := by simp only [askedF, h', hb, hl, if_true, if_false, Bool.false_eq_true]
      rw [definedF, if_pos ha, if_neg h]
    · rw [if_neg hl]
      have ha : askedF base own l = 11 := by simp only [askedF, h', hb, hl, if_true, if_false, Bool.false_eq_true]
      rw [definedF, if_neg (by rw [ha]; decide), ha]

theorem a_Defined (n1 n2 n3 : Option Bool) (base own : List Dim) (l : List ISub) (hlen : l.length < 9223372036854775807) : CallT Try.prog 57 [dimS n1 base, dimS n2 own, isubS n3 l] [] (fun o A => o = .ret (definedA (definedF base own l)) ∧ A = []) := by
  refine callS_body (n := 50) rfl rfl fun w ρ X => ?_
  refine runS_x (I := inf) (J := jnf) ⟨false, false, []⟩ 9999 rfl (by repeat (first | exact obs_nil | refine obs_draw (by kernel_rfl) ?_ | refine obs_same ?_ | refine obs_and ?_ | refine obs_by (by (simp [inB] <;> omega)) ?_)) ?_
  refine runS_call rfl rfl rfl rfl rfl rfl rfl (a_Valid n1 base) ?_
  refine runS_x (I := inf) (J := jnf) ⟨false, false, []⟩ 9999 rfl (by repeat (first | exact obs_nil | refine obs_draw (by kernel_rfl) ?_ | refine obs_same ?_ | refine obs_and ?_ | refine obs_by (by (simp [inB] <;> omega)) ?_)) ?_
  refine runS_callU rfl rfl (by first | exact .v rfl rfl rfl rfl | exact .o rfl rfl rfl rfl) rfl rfl (by repeat (first | exact .nil | refine .cons (.n rfl) ?_ | refine .cons .o ?_ | refine .cons gok_and ?_)) rfl rfl rfl rfl rfl (fun _ => (a_Valid n2 own)) ?_
  refine runS_x (I := inf) (J := jnf) ⟨false, false, []⟩ 9999 rfl (by repeat (first | exact obs_nil | refine obs_draw (by kernel_rfl) ?_ | refine obs_same ?_ | refine obs_and ?_ | refine obs_by (by (simp [inB] <;> omega)) ?_)) ?_
  refine runS_cond rfl (fun h => ?_) (fun h => ?_)
  · have h' : (!validD base || !validD own) = true := by simp at h ⊢; cases hb : validD base <;> simp_all
    have ha : askedF base own l = 1 := by simp only [askedF, h', if_true]
    refine runS_x (I := inf) (J := jnf) ⟨false, false, []⟩ 9999 rfl (by repeat (first | exact obs_nil | refine obs_draw (by kernel_rfl) ?_ | refine obs_same ?_ | refine obs_and ?_ | refine obs_by (by (simp [inB] <;> omega)) ?_)) ?_
    refine runS_saysBox 2 0 _ rfl rfl (says_nil (sz := 1) (r := intR []) (Nat.zero_le _)) rfl rfl ?_
    refine runS_ret (I := inf) 0 rfl (Nat.le_refl _) rfl .nil rfl ⟨?_, rfl⟩
    rw [definedF, if_neg (by rw [ha]; decide), ha]
    rfl
  have h' : ¬ (!validD base || !validD own) = true := by simp at h ⊢; cases hb : validD base <;> simp_all
  have hvb : validD base = true := by cases hb : validD base <;> simp_all
  have hvo : validD own = true := by cases hb : validD own <;> simp_all
  have hfb := fit_valid hvb
  have hfo := fit_valid hvo
  have hit := items_bounds hfo.1
  refine runS_x (I := inf) (J := jnf) ⟨false, false, []⟩ 9999 rfl (by repeat (first | exact obs_nil | refine obs_draw (by kernel_rfl) ?_ | refine obs_same ?_ | refine obs_and ?_ | refine obs_by (by (simp [inB] <;> omega)) ?_)) ?_
  refine runS_call rfl rfl rfl rfl rfl rfl rfl (a_mapped n1 n2 n3 base own l hlen) ?_
  refine runS_x (I := inf) (J := jnf) ⟨false, false, []⟩ 9999 rfl (by repeat (first | exact obs_nil | refine obs_draw (by kernel_rfl) ?_ | refine obs_same ?_ | refine obs_and ?_ | refine obs_by (by (simp [inB] <;> omega)) ?_)) ?_
  refine runS_cond rfl (fun h2 => ?_) (fun h2 => ?_)
  · refine runS_x (I := inf) (J := jnf) ⟨false, false, []⟩ 9999 rfl (by repeat (first | exact obs_nil | refine obs_draw (by kernel_rfl) ?_ | refine obs_same ?_ | refine obs_and ?_ | refine obs_by (by (simp [inB] <;> omega)) ?_)) ?_
    refine runS_saysBox 2 0 _ rfl rfl (says_nil (sz := 1) (r := intR []) (Nat.zero_le _)) rfl rfl ?_
    refine runS_ret (I := inf) 0 rfl (Nat.le_refl _) rfl .nil rfl ⟨?_, rfl⟩
    have h2' : ¬ mappedF base own l = 0 := by simpa using h2
    obtain ⟨hm, hm2⟩ := mapped_defined h' h2'
    rw [hm]
    rfl
  have h2' : mappedF base own l = 0 := by simpa using h2
  obtain ⟨ha', hn', hlb, hnm⟩ : askedF base own l = 0 ∧ namesF own l = 0 ∧ l.length = base.length ∧ l.any (fun x => decide (x.1 > own.length)) = false := by
    unfold mappedF at h2'
    split at h2'
    · omega
    · rename_i hb
      split at h2'
      · rename_i hl
        refine ⟨?_, h2', hl, ?_⟩
        · simp only [askedF, h', hb, hl, if_true, if_false, Bool.false_eq_true]
        · unfold namesF at h2'
          split at h2'
          · omega
          · rename_i hx; simpa using hx
      · omega
  refine runS_x (I := inf) (J := jnf) ⟨false, false, [104, 157]⟩ 9999 rfl (by repeat (first | exact obs_nil | refine obs_draw (by kernel_rfl) ?_ | refine obs_same ?_ | refine obs_and ?_ | refine obs_by (by (simp [inB] <;> omega)) ?_)) ?_
  refine runS_call rfl rfl rfl rfl rfl rfl rfl (a_count n2 own (by omega) hfo.1) ?_
  refine runS_x (I := inf) (J := jnf) ⟨false, false, [104, 157]⟩ 9999 rfl (by repeat (first | exact obs_nil | refine obs_draw (by kernel_rfl) ?_ | refine obs_same ?_ | refine obs_and ?_ | refine obs_by (by (simp [inB] <;> omega)) ?_)) ?_
  refine runS_nilRowBox 2 0 3 1 (intR []) rfl rfl rfl rfl rfl ?_
  refine runS_forget 10 rfl ?_; refine runS_forgetLoop 10 8 rfl rfl ?_
  refine runS_name 8 rfl (fun L => rfl) (fun L hL => ?_)
  refine runS_while (fun (x : Nat × List Int) τ ar => (τ 0 = .yld 8 ∧ τ 1 = .ptr 6 0 0 ∧ τ 5 = iv (items own) ∧ τ 6 = iv x.1) ∧
    ar = [.box 22 [dimS n1 base], .box 33 [isubS n3 l], .box 23 [.row 9 x.1], .box 3 [iv 0], .box 3 [iv 0], .box 51 [iv 0], .box 104 [dimS n2 own], .dfr true, L, .row 3 1 x.1 x.2.length (intR x.2)] ∧
    (x.1 : Int) ≤ items own ∧ x.2.length = x.1 ∧ defL base own l ((items own).toNat - x.1) x.1 x.2 = defL base own l (items own).toNat 0 []) (fun x => (items own).toNat - x.1)
    (0, []) ⟨⟨rfl, rfl, rfl, rfl⟩, rfl, by dsimp only; omega, rfl, rfl⟩ ?_
  rintro ⟨i, acc⟩ τ' ar' ⟨⟨g0, g1, g5, g6⟩, rfl, hi, hal, hd⟩ ih
  dsimp only at g6 hi hal hd ih
  subst hL
  refine runS_says 0 (by exact g0) (Says.refl _) ?_; refine runS_says 1 (by exact g1) (Says.refl _) ?_; refine runS_says 5 (by exact g5) (Says.refl _) ?_; refine runS_says 6 (by exact g6) (Says.refl _) ?_
  refine runS_x (I := inf) (J := jnf) ⟨false, false, []⟩ 9999 rfl (by repeat (first | exact obs_nil | refine obs_draw (by kernel_rfl) ?_ | refine obs_same ?_ | refine obs_and ?_ | refine obs_by (by (simp [inB] <;> omega)) ?_)) ?_
  refine runS_cond rfl (fun hlt => ?_) (fun hlt => ?_)
  · have hlt' : (i : Int) < items own := by simpa using hlt
    obtain ⟨hal2, hout, _⟩ := at_law hfo.1 (Int.natCast_nonneg i) hlt'
    obtain ⟨c, hc⟩ : ∃ c, (items own).toNat - i = c + 1 := ⟨(items own).toNat - i - 1, by omega⟩
    obtain ⟨D, hD⟩ : ∃ D, D = defL base own l (items own).toNat 0 [] := ⟨_, rfl⟩
    rw [← hD, hc] at hd
    unfold defL at hd
    refine runS_x (I := inf) (J := jnf) ⟨false, false, []⟩ 9999 rfl (by repeat (first | exact obs_nil | refine obs_draw (by kernel_rfl) ?_ | refine obs_same ?_ | refine obs_and ?_ | refine obs_by (by (simp [inB] <;> omega)) ?_)) ?_
    refine runS_call rfl rfl rfl rfl rfl rfl rfl (a_subs n2 own i (by omega) (by omega) (by omega) hfo.1) ?_
    refine runS_x (I := inf) (J := jnf) ⟨false, false, []⟩ 9999 rfl (by repeat (first | exact obs_nil | refine obs_draw (by kernel_rfl) ?_ | refine obs_same ?_ | refine obs_and ?_ | refine obs_by (by (simp [inB] <;> omega)) ?_)) ?_
    refine runS_call rfl rfl rfl rfl rfl rfl rfl (a_led n1 n3 none base l (atD own i) hlb (by omega) hfb.1 (of_names hnm hal2) (by omega)) ?_
    refine runS_x (I := inf) (J := jnf) ⟨false, false, []⟩ 9999 rfl (by repeat (first | exact obs_nil | refine obs_draw (by kernel_rfl) ?_ | refine obs_same ?_ | refine obs_and ?_ | refine obs_by (by (simp [inB] <;> omega)) ?_)) ?_
    refine runS_cond rfl (fun hq => ?_) (fun hq => ?_)
    · have hq' : ¬ out base (leadL l (atD own i)) = 0 := by simpa using hq
      rw [if_neg hq'] at hd
      refine runS_x (I := inf) (J := jnf) ⟨true, false, []⟩ 9999 rfl (by repeat (first | exact obs_nil | refine obs_draw (by kernel_rfl) ?_ | refine obs_same ?_ | refine obs_and ?_ | refine obs_by (by (simp [inB] <;> omega)) ?_)) ?_
      refine runS_saysBox 2 0 _ rfl rfl (says_nil (sz := 1) (r := intR []) (Nat.zero_le _)) rfl rfl ?_
      refine runS_ret (I := inf) 0 rfl (Nat.le_refl _) rfl .nil rfl ⟨?_, rfl⟩
      rw [definedF, if_pos ha', if_pos hn', ← hD, ← hd]
      show Out.ret (.tup [_, iv 7, iv (IntKind.wrap .i64 ((i : Int) + 1)), iv 0]) = _
      rw [w64 (by omega) (by omega)]
      rfl
    · have hq' : out base (leadL l (atD own i)) = 0 := by simpa using hq
      rw [if_pos hq'] at hd
      rw [if_pos hq']
      refine runS_x (I := inf) (J := jnf) ⟨true, false, []⟩ 9999 rfl (by repeat (first | exact obs_nil | refine obs_draw (by kernel_rfl) ?_ | refine obs_same ?_ | refine obs_and ?_ | refine obs_by (by (simp [inB, hal] <;> omega)) ?_)) ?_
      refine runS_tell 9 (intR (acc ++ [place base (leadL l (atD own i))])) rfl (m' := (acc ++ [place base (leadL l (atD own i))]).length) (by simp) (fun j hj => ?_) rfl ?_
      · rw [intR_snoc j (by simpa using hj)]
        by_cases hj' : j < acc.length
        · exact (appR_lt hj').trans (appR_lt hj').symm
        · have e : j - acc.length = 0 := by
            have : j < acc.length + 1 := hj
            omega
          refine (appR_ge (by omega)).trans (Eq.trans ?_ (appR_ge (by show acc.length ≤ j; omega)).symm)
          dsimp only
          rw [e]
          rfl
      refine runS_drop 10 (Nat.zero_le _) rfl (by repeat (first | exact .nil | refine .row (fun j hj => rfl) ?_ | refine .box rfl ?_ | refine .loop (scrub_under _ _) ?_ | refine .dfr ?_ | refine .gone ?_)) rfl rfl rfl (by repeat (first | exact .nil | refine .cons rfl rfl rfl (scrub_under _ _) ?_)) ?_
      refine ih (i + 1, acc ++ [place base (leadL l (atD own i))]) _ _ (by dsimp only; omega) ⟨⟨rfl, rfl, rfl, ?_⟩, rfl, by dsimp only; omega, by simp [hal], ?_⟩
      · show iv (IntKind.wrap .i64 ((i : Int) + 1)) = _
        rw [w64 (by omega) (by omega)]; rfl
      · dsimp only
        rw [← hD, ← hd, show (items own).toNat - (i + 1) = c by omega]; rfl
  · have hi' : (i : Int) = items own := by simp at hlt; omega
    have hz : (items own).toNat - i = 0 := by omega
    obtain ⟨D, hD⟩ : ∃ D, D = defL base own l (items own).toNat 0 [] := ⟨_, rfl⟩
    rw [← hD, hz] at hd
    unfold defL at hd
    refine runS_x (I := inf) (J := jnf) ⟨false, false, []⟩ 9999 rfl (by repeat (first | exact obs_nil | refine obs_draw (by kernel_rfl) ?_ | refine obs_same ?_ | refine obs_and ?_ | refine obs_by (by (simp [inB] <;> omega)) ?_)) ?_
    refine runS_freezeCell 2 0 rfl rfl rfl rfl (fun j hj => rfl) rfl rfl rfl ?_
    refine runS_ret (I := inf) 0 rfl (Nat.le_refl _) rfl .nil rfl ⟨?_, rfl⟩
    rw [definedF, if_pos ha', if_pos hn', ← hD, ← hd]
    rfl
end Go.Iron.Try
