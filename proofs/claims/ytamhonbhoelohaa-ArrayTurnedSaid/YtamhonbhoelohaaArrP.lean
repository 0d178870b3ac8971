/- The array package's functions (seat Ytamhonbhoelohaa): the reference's Defined. -/
import Derived.Test.YtamhonbhoelohaaArrN
import Derived.Test.YtamhonbhoelohaaArrG
namespace Go.Iron.Try
open Go.Proofs

def defL (base own : List Dim) (l : List ISub) : Nat → Int → List Int → Option (List Int) × Int
  | 0, _, acc => (some acc, 0)
  | c + 1, i, acc => if out base (leadL l (atD own i)) = 0 then defL base own l c (i + 1) (acc ++ [place base (leadL l (atD own i))]) else (none, i + 1)
/-- Defined's answer. -/
def definedF (base own : List Dim) (l : List ISub) : Option (List Int) × Int × Int × Int :=
  if askedF base own l = 0 then
    (if namesF own l = 0 then ((defL base own l (items own).toNat 0 []).1, (if (defL base own l (items own).toNat 0 []).1.isNone then 7 else 0), (defL base own l (items own).toNat 0 []).2, 0) else (none, 0, 0, namesF own l))
  else (none, 0, 0, askedF base own l)
def definedA (x : Option (List Int) × Int × Int × Int) : AV := .tup [optS x.1, iv x.2.1, iv x.2.2.1, iv x.2.2.2]

theorem intR_snoc {xs : List Int} {v : Int} : ∀ i, i < (xs ++ [v]).length → intR (xs ++ [v]) i = appR xs.length (intR xs) (fun _ => [iv v]) i := by
  intro i hi
  by_cases h : i < xs.length
  · rw [appR_lt h]
    simp [intR, List.getD_eq_getElem?_getD, List.getElem?_append_left h]
  · rw [appR_ge (by omega)]
    have : i = xs.length := by simp at hi; omega
    subst this
    simp [intR, List.getD_eq_getElem?_getD]

theorem asked_zero {base own : List Dim} {l : List ISub} (h : askedF base own l = 0) : validD base = true ∧ validD own = true ∧ l.length = base.length := by
  unfold askedF at h
  split at h
  · omega
  · rename_i h1
    split at h
    · omega
    · split at h
      · rename_i h2
        cases hb : validD base <;> cases ho : validD own <;> simp_all
      · omega

theorem r_Defined (n1 n2 n3 : Option Bool) (base own : List Dim) (l : List ISub) (hlen : l.length < 9223372036854775807) : CallT Try.prog 58 [dimS n1 base, dimS n2 own, isubS n3 l] [] (fun o A => o = .ret (definedA (definedF base own l)) ∧ A = []) := by
  refine callT_body (n := 51) rfl rfl fun w ρ X => ?_
  refine run_x (I := inf) 99 rfl (by repeat (first | exact obs_nil | refine obs_same ?_ | refine obs_and ?_ | refine obs_by (by (simp [inB] <;> omega)) ?_)) ?_
  refine run_call rfl rfl rfl rfl rfl rfl rfl rfl (r_asked n1 n2 n3 base own l hlen) ?_
  refine run_x (I := inf) 99 rfl (by repeat (first | exact obs_nil | refine obs_same ?_ | refine obs_and ?_ | refine obs_by (by (simp [inB] <;> omega)) ?_)) ?_
  refine run_cond rfl (fun ha => ?_) (fun ha => ?_)
  · have ha' : askedF base own l = 0 := by simpa using ha
    obtain ⟨hvb, hvo, hlb⟩ := asked_zero ha'
    have hfb := fit_valid hvb
    have hfo := fit_valid hvo
    have hit := items_bounds hfo.1
    refine run_x (I := inf) 99 rfl (by repeat (first | exact obs_nil | refine obs_same ?_ | refine obs_and ?_ | refine obs_by (by (simp [inB] <;> omega)) ?_)) ?_
    refine run_call rfl rfl rfl rfl rfl rfl rfl rfl (r_names n2 n3 own l hlen) ?_
    refine run_x (I := inf) 99 rfl (by repeat (first | exact obs_nil | refine obs_same ?_ | refine obs_and ?_ | refine obs_by (by (simp [inB] <;> omega)) ?_)) ?_
    refine run_cond rfl (fun hn => ?_) (fun hn => ?_)
    · have hn' : ¬ namesF own l = 0 := by simpa using hn
      refine run_x (I := inf) 99 rfl (by repeat (first | exact obs_nil | refine obs_same ?_ | refine obs_and ?_ | refine obs_by (by (simp [inB] <;> omega)) ?_)) ?_
      refine run_says 6 rfl (says_nil (sz := 1) (r := intR []) (Nat.zero_le _)) ?_
      refine run_retX (I := inf) 0 rfl (Nat.le_refl _) rfl .nil rfl ⟨?_, rfl⟩
      simp only [definedF, ha', hn', if_true, if_false]; rfl
    · have hn' : namesF own l = 0 := by simpa using hn
      have hnm : l.any (fun x => decide (x.1 > own.length)) = false := by
        unfold namesF at hn'
        split at hn'
        · omega
        · rename_i h; simpa using h
      refine run_x (I := inf) 99 rfl (by repeat (first | exact obs_nil | refine obs_same ?_ | refine obs_and ?_ | refine obs_by (by (simp [inB] <;> omega)) ?_)) ?_
      refine run_nilRow 11 3 1 rfl (intR []) rfl ?_
      refine run_while (fun (x : Nat × List Int) τ ar => (τ 0 = dimS n1 base ∧ τ 1 = dimS n2 own ∧ τ 2 = isubS n3 l ∧ τ 11 = .row 0 x.1 ∧ τ 12 = iv x.1) ∧ ar = [.row 3 1 x.1 x.2.length (intR x.2)] ∧ (x.1 : Int) ≤ items own ∧ x.2.length = x.1 ∧
          defL base own l ((items own).toNat - x.1) x.1 x.2 = defL base own l (items own).toNat 0 []) (fun x => (items own).toNat - x.1)
        (0, []) ⟨⟨rfl, rfl, rfl, rfl, rfl⟩, rfl, by dsimp only; omega, rfl, rfl⟩ ?_
      rintro ⟨i, acc⟩ τ' ar' ⟨⟨g0, g1, g2, g11, g12⟩, rfl, hi, hal, hd⟩ ih
      dsimp only at g11 g12 hi hal hd ih
      refine run_says 0 (by exact g0) (Says.refl _) ?_; refine run_says 1 (by exact g1) (Says.refl _) ?_; refine run_says 2 (by exact g2) (Says.refl _) ?_; refine run_says 11 (by exact g11) (Says.refl _) ?_; refine run_says 12 (by exact g12) (Says.refl _) ?_
      refine run_x (I := inf) 99 rfl (by repeat (first | exact obs_nil | refine obs_same ?_ | refine obs_and ?_ | refine obs_by (by (simp [inB] <;> omega)) ?_)) ?_
      refine run_call rfl rfl rfl rfl rfl rfl rfl rfl (r_items n2 own (by omega) hfo.1) ?_
      refine run_x (I := inf) 99 rfl (by repeat (first | exact obs_nil | refine obs_same ?_ | refine obs_and ?_ | refine obs_by (by (simp [inB] <;> omega)) ?_)) ?_
      refine run_cond rfl (fun hlt => ?_) (fun hlt => ?_)
      · have hlt' : (i : Int) < items own := by simpa using hlt
        obtain ⟨hal2, hout, _⟩ := at_law hfo.1 (Int.natCast_nonneg i) hlt'
        obtain ⟨c, hc⟩ : ∃ c, (items own).toNat - i = c + 1 := ⟨(items own).toNat - i - 1, by omega⟩
        obtain ⟨D, hD⟩ : ∃ D, D = defL base own l (items own).toNat 0 [] := ⟨_, rfl⟩
        rw [← hD, hc] at hd
        unfold defL at hd
        refine run_x (I := inf) 99 rfl (by repeat (first | exact obs_nil | refine obs_same ?_ | refine obs_and ?_ | refine obs_by (by (simp [inB] <;> omega)) ?_)) ?_
        refine run_call rfl rfl rfl rfl rfl rfl rfl rfl (r_at n2 own i (by omega) (by omega) (by omega) hfo.1) ?_
        refine run_x (I := inf) 99 rfl (by repeat (first | exact obs_nil | refine obs_same ?_ | refine obs_and ?_ | refine obs_by (by (simp [inB] <;> omega)) ?_)) ?_
        refine run_call rfl rfl rfl rfl rfl rfl rfl rfl (r_through n1 n3 none base l (atD own i) hlb (by omega) hfb.1 (of_names hnm hal2) (by omega)) ?_
        refine run_x (I := inf) 99 rfl (by repeat (first | exact obs_nil | refine obs_same ?_ | refine obs_and ?_ | refine obs_by (by (simp [inB] <;> omega)) ?_)) ?_
        refine run_cond rfl (fun hq => ?_) (fun hq => ?_)
        · have hq' : ¬ out base (leadL l (atD own i)) = 0 := by simpa using hq
          rw [if_neg hq'] at hd
          refine run_x (I := inf) 99 rfl (by repeat (first | exact obs_nil | refine obs_same ?_ | refine obs_and ?_ | refine obs_by (by (simp [inB] <;> omega)) ?_)) ?_
          refine run_says 6 rfl (says_nil (sz := 1) (r := intR []) (Nat.zero_le _)) ?_
          refine run_retX (I := inf) 0 rfl (Nat.le_refl _) rfl .nil rfl ⟨?_, rfl⟩
          rw [definedF, if_pos ha', if_pos hn', ← hD, ← hd]
          show Out.ret (.tup [_, iv 7, iv (IntKind.wrap .i64 ((i : Int) + 1)), iv 0]) = _
          rw [w64 (by omega) (by omega)]
          rfl
        · have hq' : out base (leadL l (atD own i)) = 0 := by simpa using hq
          rw [if_pos hq'] at hd
          rw [if_pos hq']
          refine run_x (I := inf) 99 rfl (by repeat (first | exact obs_nil | refine obs_same ?_ | refine obs_and ?_ | refine obs_by (by (simp [inB, hal] <;> omega)) ?_)) ?_
          refine run_tell 0 (intR (acc ++ [place base (leadL l (atD own i))])) rfl (m' := (acc ++ [place base (leadL l (atD own i))]).length) (by simp) (fun j hj => ?_) rfl ?_
          · rw [intR_snoc j (by simpa using hj)]
            by_cases hj' : j < acc.length
            · exact (appR_lt hj').trans (appR_lt hj').symm
            · have e : j - acc.length = 0 := by
                have : j < acc.length + 1 := hj
                omega
              refine (appR_ge (by omega)).trans (Eq.trans ?_ (appR_ge (by show acc.length ≤ j; omega)).symm)
              dsimp only
              rw [e]
              rfl
          refine run_drop 1 (Nat.zero_le _) rfl (.row (fun j hj => rfl) .nil) ?_
          refine ih (i + 1, acc ++ [place base (leadL l (atD own i))]) _ _ (by dsimp only; omega) ⟨⟨rfl, rfl, rfl, rfl, ?_⟩, rfl, by dsimp only; omega, by simp [hal], ?_⟩
          · show iv (IntKind.wrap .i64 ((i : Int) + 1)) = _
            rw [w64 (by omega) (by omega)]; rfl
          · dsimp only
            rw [← hD, ← hd, show (items own).toNat - (i + 1) = c by omega]; rfl
      · have hi' : (i : Int) = items own := by simp at hlt; omega
        have hz : (items own).toNat - i = 0 := by omega
        obtain ⟨D, hD⟩ : ∃ D, D = defL base own l (items own).toNat 0 [] := ⟨_, rfl⟩
        rw [← hD, hz] at hd
        unfold defL at hd
        refine run_x (I := inf) 99 rfl (by repeat (first | exact obs_nil | refine obs_same ?_ | refine obs_and ?_ | refine obs_by (by (simp [inB] <;> omega)) ?_)) ?_
        refine run_freeze 6 rfl rfl rfl (fun j hj => rfl) ?_
        refine run_retX (I := inf) 0 rfl (Nat.le_refl _) rfl .nil rfl ⟨?_, rfl⟩
        rw [definedF, if_pos ha', if_pos hn', ← hD, ← hd]
        rfl
  · have ha' : ¬ askedF base own l = 0 := by simpa using ha
    refine run_x (I := inf) 99 rfl (by repeat (first | exact obs_nil | refine obs_same ?_ | refine obs_and ?_ | refine obs_by (by (simp [inB] <;> omega)) ?_)) ?_
    refine run_cond rfl (fun hc => ?_) (fun hc => ?_)
    · refine run_x (I := inf) 99 rfl (by repeat (first | exact obs_nil | refine obs_same ?_ | refine obs_and ?_ | refine obs_by (by (simp [inB] <;> omega)) ?_)) ?_
      refine run_says 6 rfl (says_nil (sz := 1) (r := intR []) (Nat.zero_le _)) ?_
      refine run_retX (I := inf) 0 rfl (Nat.le_refl _) rfl .nil rfl ⟨?_, rfl⟩
      rw [definedF, if_neg ha']
      rfl
    · exfalso; simp at hc; omega
end Go.Iron.Try
