/- The array package's functions (seat Ytamhonbhoelohaa): Through. -/
import Derived.Test.YtamhonbhoelohaaArrM
namespace Go.Iron.Try
open Go.Proofs

/-- Through's answer. -/
def throughF (base own : List Dim) (l : List ISub) (ss : List Int) : Int × Int × Int × Int :=
  if (!validD base || !validD own) = true then (0, 0, 0, 1)
  else if l.any badI = true then (0, 0, 0, 1)
  else if ¬ l.length = base.length then (0, 0, 0, 11)
  else if ¬ ss.length = own.length then (0, 0, 0, 11)
  else if l.any (fun x => decide (x.1 > own.length)) = true then (0, 0, 0, 7)
  else if ¬ out own ss = 0 then (0, 7, out own ss, 0)
  else if ¬ out base (leadL l ss) = 0 then (0, 7, 0, 0)
  else (place base (leadL l ss), 0, 0, 0)

theorem of_names {own : List Dim} {l : List ISub} (h : l.any (fun x => decide (x.1 > own.length)) = false) {ss : List Int} (hl : ss.length = own.length) : ∀ x ∈ l, x.1 ≤ ss.length := by
  intro x hx
  have := List.any_eq_false.1 h x hx
  simp at this
  omega

theorem a_Through (n1 n2 n3 n4 : Option Bool) (base own : List Dim) (l : List ISub) (ss : List Int) (hlen : l.length < 9223372036854775807) : CallT Try.prog 55 [dimS n1 base, dimS n2 own, isubS n3 l, intS n4 ss] [] (fun o A => o = .ret (tup4 (throughF base own l ss)) ∧ A = []) := by
  refine callT_body (n := 64) rfl rfl fun w ρ X => ?_
  refine run_x (I := inf) 99 rfl (by repeat (first | exact obs_nil | refine obs_same ?_ | refine obs_and ?_ | refine obs_by (by (simp [inB] <;> omega)) ?_)) ?_
  refine run_call rfl rfl rfl rfl rfl rfl rfl rfl (a_Valid n1 base) ?_
  refine run_x (I := inf) 99 rfl (by repeat (first | exact obs_nil | refine obs_same ?_ | refine obs_and ?_ | refine obs_by (by (simp [inB] <;> omega)) ?_)) ?_
  refine run_callU rfl rfl (by first | exact .v rfl rfl rfl rfl | exact .o rfl rfl rfl rfl) rfl rfl (by repeat (first | exact .nil | refine .cons (.n rfl) ?_ | refine .cons .o ?_ | refine .cons gok_and ?_)) rfl rfl rfl rfl rfl (fun _ => (a_Valid n2 own)) ?_
  refine run_x (I := inf) 99 rfl (by repeat (first | exact obs_nil | refine obs_same ?_ | refine obs_and ?_ | refine obs_by (by (simp [inB] <;> omega)) ?_)) ?_
  refine run_cond rfl (fun h => ?_) (fun h => ?_)
  · refine run_x (I := inf) 99 rfl (by repeat (first | exact obs_nil | refine obs_same ?_ | refine obs_and ?_ | refine obs_by (by (simp [inB] <;> omega)) ?_)) ?_
    refine run_retX (I := inf) 0 rfl (Nat.le_refl _) rfl .nil rfl ⟨?_, rfl⟩
    have h' : (!validD base || !validD own) = true := by simp at h ⊢; cases hb : validD base <;> simp_all
    simp only [throughF, h', if_true]; rfl
  have h' : ¬ (!validD base || !validD own) = true := by simp at h ⊢; cases hb : validD base <;> simp_all
  have hvb : validD base = true := by cases hb : validD base <;> simp_all
  have hvo : validD own = true := by cases hb : validD own <;> simp_all
  have hfb := fit_valid hvb
  have hfo := fit_valid hvo
  refine run_x (I := inf) 99 rfl (by repeat (first | exact obs_nil | refine obs_same ?_ | refine obs_and ?_ | refine obs_by (by (simp [inB] <;> omega)) ?_)) ?_
  refine run_call rfl rfl rfl rfl rfl rfl rfl rfl (a_mapped n1 n2 n3 base own l hlen) ?_
  by_cases hbad : l.any badI = true
  · have hm : mappedF base own l = 1 := by simp only [mappedF, hbad, if_true]
    rw [hm]
    refine run_x (I := inf) 99 rfl (by repeat (first | exact obs_nil | refine obs_same ?_ | refine obs_and ?_ | refine obs_by (by (simp [inB] <;> omega)) ?_)) ?_
    refine run_cond rfl (fun hc => ?_) (fun hc => ?_)
    · refine run_x (I := inf) 99 rfl (by repeat (first | exact obs_nil | refine obs_same ?_ | refine obs_and ?_ | refine obs_by (by (simp [inB] <;> omega)) ?_)) ?_
      refine run_retX (I := inf) 0 rfl (Nat.le_refl _) rfl .nil rfl ⟨?_, rfl⟩
      simp only [throughF, h', hbad, if_true, if_false]; rfl
    · exfalso; simp at hc
  by_cases hlb : l.length = base.length
  · by_cases hnm : l.any (fun x => decide (x.1 > own.length)) = true
    · have hm : mappedF base own l = 7 := by simp only [mappedF, hbad, hlb, namesF, hnm, if_true, if_false, Bool.false_eq_true]
      rw [hm]
      refine run_x (I := inf) 99 rfl (by repeat (first | exact obs_nil | refine obs_same ?_ | refine obs_and ?_ | refine obs_by (by (simp [inB] <;> omega)) ?_)) ?_
      refine run_cond rfl (fun hc => ?_) (fun hc => ?_)
      · exfalso; simp at hc
      refine run_x (I := inf) 99 rfl (by repeat (first | exact obs_nil | refine obs_same ?_ | refine obs_and ?_ | refine obs_by (by (simp [inB] <;> omega)) ?_)) ?_
      refine run_cond rfl (fun hc => ?_) (fun hc => ?_)
      · refine run_x (I := inf) 99 rfl (by repeat (first | exact obs_nil | refine obs_same ?_ | refine obs_and ?_ | refine obs_by (by (simp [inB] <;> omega)) ?_)) ?_
        refine run_retX (I := inf) 0 rfl (Nat.le_refl _) rfl .nil rfl ⟨?_, rfl⟩
        have hsl : ¬ ss.length = own.length := by simp at hc; omega
        simp only [throughF, h', hbad, hlb, hsl, if_true, if_false, not_true_eq_false, not_false_eq_true]; rfl
      · have hsl : ss.length = own.length := by simp at hc; omega
        refine run_x (I := inf) 99 rfl (by repeat (first | exact obs_nil | refine obs_same ?_ | refine obs_and ?_ | refine obs_by (by (simp [inB] <;> omega)) ?_)) ?_
        refine run_cond rfl (fun hc => ?_) (fun hc => ?_)
        · refine run_x (I := inf) 99 rfl (by repeat (first | exact obs_nil | refine obs_same ?_ | refine obs_and ?_ | refine obs_by (by (simp [inB] <;> omega)) ?_)) ?_
          refine run_retX (I := inf) 0 rfl (Nat.le_refl _) rfl .nil rfl ⟨?_, rfl⟩
          simp only [throughF, h', hbad, hlb, hsl, hnm, if_true, if_false, not_true_eq_false]; rfl
        · exfalso; simp at hc
    · have hm : mappedF base own l = 0 := by simp only [mappedF, hbad, hlb, namesF, hnm, if_true, if_false, Bool.false_eq_true]
      rw [hm]
      refine run_x (I := inf) 99 rfl (by repeat (first | exact obs_nil | refine obs_same ?_ | refine obs_and ?_ | refine obs_by (by (simp [inB] <;> omega)) ?_)) ?_
      refine run_cond rfl (fun hc => ?_) (fun hc => ?_)
      · exfalso; simp at hc
      refine run_x (I := inf) 99 rfl (by repeat (first | exact obs_nil | refine obs_same ?_ | refine obs_and ?_ | refine obs_by (by (simp [inB] <;> omega)) ?_)) ?_
      refine run_cond rfl (fun hc => ?_) (fun hc => ?_)
      · refine run_x (I := inf) 99 rfl (by repeat (first | exact obs_nil | refine obs_same ?_ | refine obs_and ?_ | refine obs_by (by (simp [inB] <;> omega)) ?_)) ?_
        refine run_retX (I := inf) 0 rfl (Nat.le_refl _) rfl .nil rfl ⟨?_, rfl⟩
        have hsl : ¬ ss.length = own.length := by simp at hc; omega
        simp only [throughF, h', hbad, hlb, hsl, if_true, if_false, not_true_eq_false, not_false_eq_true]; rfl
      · have hsl : ss.length = own.length := by simp at hc; omega
        refine run_x (I := inf) 99 rfl (by repeat (first | exact obs_nil | refine obs_same ?_ | refine obs_and ?_ | refine obs_by (by (simp [inB] <;> omega)) ?_)) ?_
        refine run_cond rfl (fun hc => ?_) (fun hc => ?_)
        · exfalso; simp at hc
        refine run_x (I := inf) 99 rfl (by repeat (first | exact obs_nil | refine obs_same ?_ | refine obs_and ?_ | refine obs_by (by (simp [inB] <;> omega)) ?_)) ?_
        refine run_call rfl rfl rfl rfl rfl rfl rfl rfl (a_offset n2 n4 own ss hsl (by omega) hfo.1) ?_
        refine run_x (I := inf) 99 rfl (by repeat (first | exact obs_nil | refine obs_same ?_ | refine obs_and ?_ | refine obs_by (by (simp [inB] <;> omega)) ?_)) ?_
        have hnn : 0 ≤ out own ss := out_nonneg 0 _ _ (by omega)
        refine run_cond rfl (fun hp => ?_) (fun hp => ?_)
        · refine run_x (I := inf) 99 rfl (by repeat (first | exact obs_nil | refine obs_same ?_ | refine obs_and ?_ | refine obs_by (by (simp [inB] <;> omega)) ?_)) ?_
          refine run_retX (I := inf) 0 rfl (Nat.le_refl _) rfl .nil rfl ⟨?_, rfl⟩
          have hp' : ¬ out own ss = 0 := by simp at hp; omega
          simp only [throughF, h', hbad, hlb, hsl, hnm, hp', if_true, if_false, not_true_eq_false, not_false_eq_true]; rfl
        · have hp' : out own ss = 0 := by simp at hp; omega
          refine run_x (I := inf) 99 rfl (by repeat (first | exact obs_nil | refine obs_same ?_ | refine obs_and ?_ | refine obs_by (by (simp [inB] <;> omega)) ?_)) ?_
          refine run_call rfl rfl rfl rfl rfl rfl rfl rfl (a_led n1 n3 n4 base l ss hlb (by omega) hfb.1 (of_names (by simpa using hnm) hsl) (by omega)) ?_
          refine run_x (I := inf) 99 rfl (by repeat (first | exact obs_nil | refine obs_same ?_ | refine obs_and ?_ | refine obs_by (by (simp [inB] <;> omega)) ?_)) ?_
          refine run_cond rfl (fun hq => ?_) (fun hq => ?_)
          · refine run_x (I := inf) 99 rfl (by repeat (first | exact obs_nil | refine obs_same ?_ | refine obs_and ?_ | refine obs_by (by (simp [inB] <;> omega)) ?_)) ?_
            refine run_retX (I := inf) 0 rfl (Nat.le_refl _) rfl .nil rfl ⟨?_, rfl⟩
            have hq' : ¬ out base (leadL l ss) = 0 := by simpa using hq
            simp only [throughF, h', hbad, hlb, hsl, hnm, hp', hq', if_true, if_false, not_true_eq_false, not_false_eq_true]; rfl
          · have hq' : out base (leadL l ss) = 0 := by simpa using hq
            rw [if_pos hq']
            refine run_x (I := inf) 99 rfl (by repeat (first | exact obs_nil | refine obs_same ?_ | refine obs_and ?_ | refine obs_by (by (simp [inB] <;> omega)) ?_)) ?_
            refine run_retX (I := inf) 0 rfl (Nat.le_refl _) rfl .nil rfl ⟨?_, rfl⟩
            simp only [throughF, h', hbad, hlb, hsl, hnm, hp', hq', if_true, if_false, not_true_eq_false]; rfl
  · have hm : mappedF base own l = 11 := by simp only [mappedF, hbad, hlb, if_false, Bool.false_eq_true]
    rw [hm]
    refine run_x (I := inf) 99 rfl (by repeat (first | exact obs_nil | refine obs_same ?_ | refine obs_and ?_ | refine obs_by (by (simp [inB] <;> omega)) ?_)) ?_
    refine run_cond rfl (fun hc => ?_) (fun hc => ?_)
    · exfalso; simp at hc
    refine run_x (I := inf) 99 rfl (by repeat (first | exact obs_nil | refine obs_same ?_ | refine obs_and ?_ | refine obs_by (by (simp [inB] <;> omega)) ?_)) ?_
    refine run_cond rfl (fun hc => ?_) (fun hc => ?_)
    · refine run_x (I := inf) 99 rfl (by repeat (first | exact obs_nil | refine obs_same ?_ | refine obs_and ?_ | refine obs_by (by (simp [inB] <;> omega)) ?_)) ?_
      refine run_retX (I := inf) 0 rfl (Nat.le_refl _) rfl .nil rfl ⟨?_, rfl⟩
      simp only [throughF, h', hbad, hlb, if_true, if_false, not_false_eq_true]; rfl
    · exfalso; simp at hc

theorem r_Through (n1 n2 n3 n4 : Option Bool) (base own : List Dim) (l : List ISub) (ss : List Int) (hlen : l.length < 9223372036854775807) : CallT Try.prog 56 [dimS n1 base, dimS n2 own, isubS n3 l, intS n4 ss] [] (fun o A => o = .ret (tup4 (throughF base own l ss)) ∧ A = []) := by
  refine callT_body (n := 51) rfl rfl fun w ρ X => ?_
  refine run_x (I := inf) 99 rfl (by repeat (first | exact obs_nil | refine obs_same ?_ | refine obs_and ?_ | refine obs_by (by (simp [inB] <;> omega)) ?_)) ?_
  refine run_call rfl rfl rfl rfl rfl rfl rfl rfl (r_asked n1 n2 n3 base own l hlen) ?_
  by_cases h' : (!validD base || !validD own) = true
  · have ha : askedF base own l = 1 := by simp only [askedF, h', if_true]
    rw [ha]
    refine run_x (I := inf) 99 rfl (by repeat (first | exact obs_nil | refine obs_same ?_ | refine obs_and ?_ | refine obs_by (by (simp [inB] <;> omega)) ?_)) ?_
    refine run_cond rfl (fun hc => ?_) (fun hc => ?_)
    · refine run_x (I := inf) 99 rfl (by repeat (first | exact obs_nil | refine obs_same ?_ | refine obs_and ?_ | refine obs_by (by (simp [inB] <;> omega)) ?_)) ?_
      refine run_retX (I := inf) 0 rfl (Nat.le_refl _) rfl .nil rfl ⟨?_, rfl⟩
      simp only [throughF, h', if_true]; rfl
    · exfalso; simp at hc
  by_cases hbad : l.any badI = true
  · have ha : askedF base own l = 1 := by simp only [askedF, h', hbad, if_true, if_false, Bool.false_eq_true]
    rw [ha]
    refine run_x (I := inf) 99 rfl (by repeat (first | exact obs_nil | refine obs_same ?_ | refine obs_and ?_ | refine obs_by (by (simp [inB] <;> omega)) ?_)) ?_
    refine run_cond rfl (fun hc => ?_) (fun hc => ?_)
    · refine run_x (I := inf) 99 rfl (by repeat (first | exact obs_nil | refine obs_same ?_ | refine obs_and ?_ | refine obs_by (by (simp [inB] <;> omega)) ?_)) ?_
      refine run_retX (I := inf) 0 rfl (Nat.le_refl _) rfl .nil rfl ⟨?_, rfl⟩
      simp only [throughF, h', hbad, if_true, if_false, Bool.false_eq_true]; rfl
    · exfalso; simp at hc
  by_cases hlb : l.length = base.length
  · have ha : askedF base own l = 0 := by simp only [askedF, h', hbad, hlb, if_true, if_false, Bool.false_eq_true]
    have hvb : validD base = true := by cases hb : validD base <;> simp_all
    have hvo : validD own = true := by cases hb : validD own <;> simp_all
    have hfb := fit_valid hvb
    have hfo := fit_valid hvo
    rw [ha]
    refine run_x (I := inf) 99 rfl (by repeat (first | exact obs_nil | refine obs_same ?_ | refine obs_and ?_ | refine obs_by (by (simp [inB] <;> omega)) ?_)) ?_
    refine run_cond rfl (fun hc => ?_) (fun hc => ?_)
    · exfalso; simp at hc
    refine run_x (I := inf) 99 rfl (by repeat (first | exact obs_nil | refine obs_same ?_ | refine obs_and ?_ | refine obs_by (by (simp [inB] <;> omega)) ?_)) ?_
    refine run_cond rfl (fun hc => ?_) (fun hc => ?_)
    · refine run_x (I := inf) 99 rfl (by repeat (first | exact obs_nil | refine obs_same ?_ | refine obs_and ?_ | refine obs_by (by (simp [inB] <;> omega)) ?_)) ?_
      refine run_retX (I := inf) 0 rfl (Nat.le_refl _) rfl .nil rfl ⟨?_, rfl⟩
      have hsl : ¬ ss.length = own.length := by simp at hc; omega
      simp only [throughF, h', hbad, hlb, hsl, if_true, if_false, not_true_eq_false, not_false_eq_true, Bool.false_eq_true]; rfl
    have hsl : ss.length = own.length := by simp at hc; omega
    refine run_x (I := inf) 99 rfl (by repeat (first | exact obs_nil | refine obs_same ?_ | refine obs_and ?_ | refine obs_by (by (simp [inB] <;> omega)) ?_)) ?_
    refine run_call rfl rfl rfl rfl rfl rfl rfl rfl (r_names n2 n3 own l hlen) ?_
    by_cases hnm : l.any (fun x => decide (x.1 > own.length)) = true
    · have hn : namesF own l = 7 := by simp only [namesF, hnm, if_true]
      rw [hn]
      refine run_x (I := inf) 99 rfl (by repeat (first | exact obs_nil | refine obs_same ?_ | refine obs_and ?_ | refine obs_by (by (simp [inB] <;> omega)) ?_)) ?_
      refine run_cond rfl (fun hc => ?_) (fun hc => ?_)
      · refine run_x (I := inf) 99 rfl (by repeat (first | exact obs_nil | refine obs_same ?_ | refine obs_and ?_ | refine obs_by (by (simp [inB] <;> omega)) ?_)) ?_
        refine run_retX (I := inf) 0 rfl (Nat.le_refl _) rfl .nil rfl ⟨?_, rfl⟩
        simp only [throughF, h', hbad, hlb, hsl, hnm, if_true, if_false, not_true_eq_false, Bool.false_eq_true]; rfl
      · exfalso; simp at hc
    · have hn : namesF own l = 0 := by simp only [namesF, hnm, if_false, Bool.false_eq_true]
      rw [hn]
      refine run_x (I := inf) 99 rfl (by repeat (first | exact obs_nil | refine obs_same ?_ | refine obs_and ?_ | refine obs_by (by (simp [inB] <;> omega)) ?_)) ?_
      refine run_cond rfl (fun hc => ?_) (fun hc => ?_)
      · exfalso; simp at hc
      refine run_x (I := inf) 99 rfl (by repeat (first | exact obs_nil | refine obs_same ?_ | refine obs_and ?_ | refine obs_by (by (simp [inB] <;> omega)) ?_)) ?_
      refine run_call rfl rfl rfl rfl rfl rfl rfl rfl (r_out n2 n4 own ss hsl (by omega)) ?_
      refine run_x (I := inf) 99 rfl (by repeat (first | exact obs_nil | refine obs_same ?_ | refine obs_and ?_ | refine obs_by (by (simp [inB] <;> omega)) ?_)) ?_
      have hnn : 0 ≤ out own ss := out_nonneg 0 _ _ (by omega)
      refine run_cond rfl (fun hp => ?_) (fun hp => ?_)
      · refine run_x (I := inf) 99 rfl (by repeat (first | exact obs_nil | refine obs_same ?_ | refine obs_and ?_ | refine obs_by (by (simp [inB] <;> omega)) ?_)) ?_
        refine run_retX (I := inf) 0 rfl (Nat.le_refl _) rfl .nil rfl ⟨?_, rfl⟩
        have hp' : ¬ out own ss = 0 := by simp at hp; omega
        simp only [throughF, h', hbad, hlb, hsl, hnm, hp', if_true, if_false, not_true_eq_false, not_false_eq_true, Bool.false_eq_true]; rfl
      · have hp' : out own ss = 0 := by simp at hp; omega
        refine run_x (I := inf) 99 rfl (by repeat (first | exact obs_nil | refine obs_same ?_ | refine obs_and ?_ | refine obs_by (by (simp [inB] <;> omega)) ?_)) ?_
        refine run_call rfl rfl rfl rfl rfl rfl rfl rfl (r_through n1 n3 n4 base l ss hlb (by omega) hfb.1 (of_names (by simpa using hnm) hsl) (by omega)) ?_
        refine run_x (I := inf) 99 rfl (by repeat (first | exact obs_nil | refine obs_same ?_ | refine obs_and ?_ | refine obs_by (by (simp [inB] <;> omega)) ?_)) ?_
        refine run_cond rfl (fun hq => ?_) (fun hq => ?_)
        · refine run_x (I := inf) 99 rfl (by repeat (first | exact obs_nil | refine obs_same ?_ | refine obs_and ?_ | refine obs_by (by (simp [inB] <;> omega)) ?_)) ?_
          refine run_retX (I := inf) 0 rfl (Nat.le_refl _) rfl .nil rfl ⟨?_, rfl⟩
          have hq' : ¬ out base (leadL l ss) = 0 := by simpa using hq
          simp only [throughF, h', hbad, hlb, hsl, hnm, hp', hq', if_true, if_false, not_true_eq_false, not_false_eq_true, Bool.false_eq_true]; rfl
        · have hq' : out base (leadL l ss) = 0 := by simpa using hq
          rw [if_pos hq']
          refine run_x (I := inf) 99 rfl (by repeat (first | exact obs_nil | refine obs_same ?_ | refine obs_and ?_ | refine obs_by (by (simp [inB] <;> omega)) ?_)) ?_
          refine run_retX (I := inf) 0 rfl (Nat.le_refl _) rfl .nil rfl ⟨?_, rfl⟩
          simp only [throughF, h', hbad, hlb, hsl, hnm, hp', hq', if_true, if_false, not_true_eq_false, Bool.false_eq_true]; rfl
  · have ha : askedF base own l = 11 := by simp only [askedF, h', hbad, hlb, if_false, Bool.false_eq_true]
    rw [ha]
    refine run_x (I := inf) 99 rfl (by repeat (first | exact obs_nil | refine obs_same ?_ | refine obs_and ?_ | refine obs_by (by (simp [inB] <;> omega)) ?_)) ?_
    refine run_cond rfl (fun hc => ?_) (fun hc => ?_)
    · refine run_x (I := inf) 99 rfl (by repeat (first | exact obs_nil | refine obs_same ?_ | refine obs_and ?_ | refine obs_by (by (simp [inB] <;> omega)) ?_)) ?_
      refine run_retX (I := inf) 0 rfl (Nat.le_refl _) rfl .nil rfl ⟨?_, rfl⟩
      simp only [throughF, h', hbad, hlb, if_true, if_false, not_false_eq_true, Bool.false_eq_true]; rfl
    · exfalso; simp at hc
end Go.Iron.Try
