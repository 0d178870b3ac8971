/- The array package's functions (seat Ytamhonbhoelohaa): where own places lead. -/
import Derived.Test.YtamhonbhoelohaaArrK
namespace Go.Iron.Try
open Go.Proofs

/-- Where an own place leads. -/
def leadV (ss : List Int) (x : ISub) : Int := if x.1 > 0 then IntKind.wrap .i64 (x.2.2 + IntKind.wrap .i64 (x.2.1 * ss.getD (x.1 - 1).toNat 0)) else x.2.2
def leadL (l : List ISub) (ss : List Int) : List Int := l.map (leadV ss)
theorem set_take {xs : List Int} {i : Nat} {v : Int} (hi : i < xs.length) : (xs.set i v).take (i + 1) = xs.take i ++ [v] := by
  rw [List.take_succ_eq_append_getElem (by simpa using hi), List.getElem_set_self]
  congr 1
  rw [List.take_set_of_le (Nat.le_refl _)]
theorem lead_take {l : List ISub} {ss : List Int} {i : Nat} (hi : i < l.length) : (leadL l ss).take (i + 1) = (leadL l ss).take i ++ [leadV ss (l.getD i (0, 0, 0))] := by
  rw [List.take_succ_eq_append_getElem (by simpa [leadL] using hi)]
  simp [leadL, List.getD_eq_getElem?_getD, hi]

theorem a_led (n1 n2 n3 : Option Bool) (base : List Dim) (l : List ISub) (ss : List Int) (hlb : l.length = base.length) (hlen : base.length < 1000) (hf : fitL 1 base) (hof : ∀ x ∈ l, x.1 ≤ ss.length) (hss : ss.length < 1000) :
    CallT Try.prog 106 [dimS n1 base, isubS n2 l, intS n3 ss] [] (fun o A => o = .ret (.tup [iv (if out base (leadL l ss) = 0 then place base (leadL l ss) else 0), bv (decide (out base (leadL l ss) = 0))]) ∧ A = []) := by
  refine callT_body (n := 56) rfl rfl fun w ρ X => ?_
  refine run_x (I := inf) 99 rfl (by repeat (first | exact obs_nil | refine obs_same ?_ | refine obs_and ?_ | refine obs_by (by (simp [inB, hlen] <;> omega)) ?_)) ?_
  refine run_tell 0 (intR (List.replicate l.length 0)) rfl (m' := l.length) (by simp [hlb]) (fun i hi => rep_intR _ _ (by omega)) rfl ?_
  refine run_while (fun (x : List Int × Nat) τ ar => (τ 0 = dimS n1 base ∧ τ 2 = intS n3 ss ∧ τ 8 = .row 0 0 ∧ τ 16 = isubS n2 l ∧ τ 17 = iv l.length ∧ τ 18 = iv x.2) ∧ ar = [.row 3 1 0 l.length (intR x.1)] ∧ x.1.length = l.length ∧ x.2 ≤ l.length ∧ x.1.take x.2 = (leadL l ss).take x.2) (fun x => l.length - x.2)
    (List.replicate l.length 0, 0) ⟨⟨rfl, rfl, rfl, rfl, rfl, rfl⟩, rfl, by simp, Nat.zero_le _, rfl⟩ ?_
  rintro ⟨xs, i⟩ τ' ar' ⟨⟨g0, g2, g8, g16, g17, g18⟩, rfl, hx, hi, hp⟩ ih
  dsimp only at g18 hx hi hp ih
  refine run_says 0 (by exact g0) (Says.refl _) ?_; refine run_says 2 (by exact g2) (Says.refl _) ?_; refine run_says 8 (by exact g8) (Says.refl _) ?_; refine run_says 16 (by exact g16) (Says.refl _) ?_; refine run_says 17 (by exact g17) (Says.refl _) ?_; refine run_says 18 (by exact g18) (Says.refl _) ?_
  refine run_x (I := inf) 99 rfl (by repeat (first | exact obs_nil | refine obs_same ?_ | refine obs_and ?_ | refine obs_by (by (simp [inB] <;> omega)) ?_)) ?_
  refine run_cond rfl (fun hlt => ?_) (fun hlt => ?_)
  · have hlt' : i < l.length := by simpa using hlt
    refine run_x (I := inf) 99 rfl (by repeat (first | exact obs_nil | refine obs_same ?_ | refine obs_and ?_ | refine obs_by (by (simp [inB, hlt'] <;> omega)) ?_)) ?_
    generalize hd0 : l.getD ((i : Nat) : Int).toNat (0, 0, 0) = x
    rw [Int.toNat_natCast] at hd0
    have hxm : x ∈ l := by rw [← hd0, List.getD_eq_getElem?_getD, List.getElem?_eq_getElem hlt', Option.getD_some]; exact List.getElem_mem _
    have hof' := hof x hxm
    refine run_tell 0 (intR (xs.set i x.2.2)) rfl rfl (fun j hj => ?_) rfl ?_
    · rw [intR_set (by omega) j (by omega)]; rfl
    have hlead := lead_take (ss := ss) hlt'
    rw [hd0] at hlead
    refine run_cond rfl (fun hc => ?_) (fun hc => ?_)
    · have hc' : x.1 > 0 := by simpa using hc
      have hw : IntKind.wrap .i64 (x.1 - 1) = x.1 - 1 := w64 (by omega) (by omega)
      have hin : inB (IntKind.wrap .i64 (x.1 - 1)) ss.length = true := by rw [hw]; simp [inB]; omega
      refine run_x (I := inf) 99 rfl (by repeat (first | exact obs_nil | refine obs_same ?_ | refine obs_and ?_ | refine obs_by (by (simp [inB] <;> omega)) ?_)) ?_
      refine run_draw 15 (by kernel_rfl) (by kernel_rfl) (lex_x (I := inf) 99 rfl rfl (by repeat (first | exact obs_nil | refine obs_same ?_ | refine obs_and ?_ | refine obs_by (by first | exact fun _ => hin | (simp [inB] <;> omega)) ?_)) lex_nil) ?_
      refine run_x (I := inf) 99 rfl (by repeat (first | exact obs_nil | refine obs_same ?_ | refine obs_and ?_ | refine obs_by (by (simp [inB, hlt'] <;> omega)) ?_)) ?_
      have hval : IntKind.wrap .i64 ((xs.set i x.2.2).getD ((i : Nat) : Int).toNat 0 + IntKind.wrap .i64 (x.2.1 * ss.getD (IntKind.wrap .i64 (x.1 - 1)).toNat 0)) = leadV ss x := by
        have h1 : (xs.set i x.2.2).getD ((i : Nat) : Int).toNat 0 = x.2.2 := by simp [List.getD_eq_getElem?_getD, show i < xs.length by omega]
        rw [h1, hw]
        simp only [leadV, hc', if_true]
      refine run_tell 0 (intR (xs.set i (leadV ss x))) rfl rfl (fun j hj => ?_) rfl ?_
      · rw [hval]
        show _ = setR (intR (xs.set i x.2.2)) i [iv (leadV ss x)] j
        rw [← intR_set (by simp; omega) j (by simp; omega), List.set_set]
      refine run_drop 1 (Nat.zero_le _) rfl (.row (fun j hj => rfl) .nil) ?_
      refine ih (xs.set i (leadV ss x), i + 1) _ _ (by dsimp only; omega) ⟨⟨rfl, rfl, rfl, rfl, rfl, ?_⟩, rfl, by simpa using hx, by dsimp only; omega, ?_⟩
      · show iv (IntKind.wrap .i64 ((i : Int) + 1)) = _
        rw [w64 (by omega) (by omega)]; rfl
      · dsimp only
        rw [set_take (by omega), hlead, hp]
    · have hc' : ¬ x.1 > 0 := by simp at hc; omega
      have hval : leadV ss x = x.2.2 := by simp only [leadV, hc', if_false]
      refine run_x (I := inf) 99 rfl (by repeat (first | exact obs_nil | refine obs_same ?_ | refine obs_and ?_ | refine obs_by (by (simp [inB] <;> omega)) ?_)) ?_
      refine run_drop 1 (Nat.zero_le _) rfl (.row (fun j hj => rfl) .nil) ?_
      refine ih (xs.set i x.2.2, i + 1) _ _ (by dsimp only; omega) ⟨⟨rfl, rfl, rfl, rfl, rfl, ?_⟩, rfl, by simpa using hx, by dsimp only; omega, ?_⟩
      · show iv (IntKind.wrap .i64 ((i : Int) + 1)) = _
        rw [w64 (by omega) (by omega)]; rfl
      · dsimp only
        rw [set_take (by omega), hlead, hp, hval]
  · have hi' : i = l.length := by simp at hlt; omega
    subst hi'
    have hxs : xs = leadL l ss := by
      rw [List.take_of_length_le (by omega), List.take_of_length_le (by simp [leadL])] at hp
      exact hp
    subst hxs
    refine run_x (I := inf) 99 rfl (by repeat (first | exact obs_nil | refine obs_same ?_ | refine obs_and ?_ | refine obs_by (by (simp [inB] <;> omega)) ?_)) ?_
    refine run_freeze 49 rfl rfl rfl (fun i hi => rfl) ?_
    refine run_drop 0 (Nat.le_refl _) rfl .nil ?_
    refine run_says 49 rfl (y := intS none (leadL l ss)) (by rw [show l.length = (leadL l ss).length by simp [leadL]]; exact Says.refl _) ?_
    refine run_call rfl rfl rfl rfl rfl rfl rfl rfl (a_offset n1 none base (leadL l ss) (by simp [leadL, hlb]) (by omega) hf) ?_
    refine run_x (I := inf) 99 rfl (by repeat (first | exact obs_nil | refine obs_same ?_ | refine obs_and ?_ | refine obs_by (by (simp [inB] <;> omega)) ?_)) ?_
    refine run_retX (I := inf) 0 rfl (Nat.le_refl _) rfl .nil rfl ⟨?_, rfl⟩
    rfl

theorem r_through (n1 n2 n3 : Option Bool) (base : List Dim) (l : List ISub) (ss : List Int) (hlb : l.length = base.length) (hlen : base.length < 1000) (hf : fitL 1 base) (hof : ∀ x ∈ l, x.1 ≤ ss.length) (hss : ss.length < 1000) :
    CallT Try.prog 109 [dimS n1 base, isubS n2 l, intS n3 ss] [] (fun o A => o = .ret (.tup [iv (if out base (leadL l ss) = 0 then place base (leadL l ss) else 0), bv (decide (out base (leadL l ss) = 0))]) ∧ A = []) := by
  refine callT_body (n := 61) rfl rfl fun w ρ X => ?_
  refine run_x (I := inf) 99 rfl (by repeat (first | exact obs_nil | refine obs_same ?_ | refine obs_and ?_ | refine obs_by (by (simp [inB, hlen, hlb] <;> omega)) ?_)) ?_
  refine run_tell 0 (intR (List.replicate l.length 0)) rfl (m' := l.length) (by simp) (fun i hi => rep_intR _ _ (by omega)) rfl ?_
  refine run_while (fun (x : List Int × Nat) τ ar => (τ 0 = dimS n1 base ∧ τ 1 = isubS n2 l ∧ τ 2 = intS n3 ss ∧ τ 8 = .row 0 0 ∧ τ 9 = iv x.2) ∧ ar = [.row 3 1 0 l.length (intR x.1)] ∧ x.1.length = l.length ∧ x.2 ≤ l.length ∧ x.1.take x.2 = (leadL l ss).take x.2) (fun x => l.length - x.2)
    (List.replicate l.length 0, 0) ⟨⟨rfl, rfl, rfl, rfl, rfl⟩, rfl, by simp, Nat.zero_le _, rfl⟩ ?_
  rintro ⟨xs, i⟩ τ' ar' ⟨⟨g0, g1, g2, g8, g9⟩, rfl, hx, hi, hp⟩ ih
  dsimp only at g9 hx hi hp ih
  refine run_says 0 (by exact g0) (Says.refl _) ?_; refine run_says 1 (by exact g1) (Says.refl _) ?_; refine run_says 2 (by exact g2) (Says.refl _) ?_; refine run_says 8 (by exact g8) (Says.refl _) ?_; refine run_says 9 (by exact g9) (Says.refl _) ?_
  refine run_x (I := inf) 99 rfl (by repeat (first | exact obs_nil | refine obs_same ?_ | refine obs_and ?_ | refine obs_by (by (simp [inB] <;> omega)) ?_)) ?_
  refine run_cond rfl (fun hlt => ?_) (fun hlt => ?_)
  · have hlt' : i < l.length := by simpa using hlt
    refine run_x (I := inf) 99 rfl (by repeat (first | exact obs_nil | refine obs_same ?_ | refine obs_and ?_ | refine obs_by (by (simp [inB, hlt'] <;> omega)) ?_)) ?_
    generalize hd0 : l.getD ((i : Nat) : Int).toNat (0, 0, 0) = x
    have hd1 := hd0
    rw [Int.toNat_natCast] at hd0
    have hxm : x ∈ l := by rw [← hd0, List.getD_eq_getElem?_getD, List.getElem?_eq_getElem hlt', Option.getD_some]; exact List.getElem_mem _
    have hof' := hof x hxm
    refine run_tell 0 (intR (xs.set i x.2.2)) rfl rfl (fun j hj => ?_) rfl ?_
    · rw [intR_set (by omega) j (by omega)]; rfl
    have hlead := lead_take (ss := ss) hlt'
    rw [hd0] at hlead
    refine run_cond rfl (fun hc => ?_) (fun hc => ?_)
    · have hc' : x.1 > 0 := by simpa using hc
      have hw : IntKind.wrap .i64 (x.1 - 1) = x.1 - 1 := w64 (by omega) (by omega)
      have hin : inB (IntKind.wrap .i64 ((l.getD ((i : Nat) : Int).toNat (0, 0, 0)).1 - 1)) ss.length = true := by rw [hd1, hw]; simp [inB]; omega
      refine run_x (I := inf) 99 rfl (by repeat (first | exact obs_nil | refine obs_same ?_ | refine obs_and ?_ | refine obs_by (by (simp [inB] <;> omega)) ?_)) ?_
      refine run_draw 21 (by kernel_rfl) (by kernel_rfl) (lex_x (I := inf) 99 rfl rfl (by repeat (first | exact obs_nil | refine obs_same ?_ | refine obs_and ?_ | refine obs_by (by first | exact fun _ => hin | (simp [inB] <;> omega)) ?_)) lex_nil) ?_
      refine run_x (I := inf) 99 rfl (by repeat (first | exact obs_nil | refine obs_same ?_ | refine obs_and ?_ | refine obs_by (by (simp [inB, hlt'] <;> omega)) ?_)) ?_
      have hval : IntKind.wrap .i64 ((xs.set i x.2.2).getD ((i : Nat) : Int).toNat 0 + IntKind.wrap .i64 ((l.getD ((i : Nat) : Int).toNat (0, 0, 0)).2.1 * ss.getD (IntKind.wrap .i64 ((l.getD ((i : Nat) : Int).toNat (0, 0, 0)).1 - 1)).toNat 0)) = leadV ss x := by
        have h1 : (xs.set i x.2.2).getD ((i : Nat) : Int).toNat 0 = x.2.2 := by simp [List.getD_eq_getElem?_getD, show i < xs.length by omega]
        rw [h1, hd1, hw]
        simp only [leadV, hc', if_true]
      refine run_tell 0 (intR (xs.set i (leadV ss x))) rfl rfl (fun j hj => ?_) rfl ?_
      · rw [hval]
        show _ = setR (intR (xs.set i x.2.2)) i [iv (leadV ss x)] j
        rw [← intR_set (by simp; omega) j (by simp; omega), List.set_set]
      refine run_drop 1 (Nat.zero_le _) rfl (.row (fun j hj => rfl) .nil) ?_
      refine ih (xs.set i (leadV ss x), i + 1) _ _ (by dsimp only; omega) ⟨⟨rfl, rfl, rfl, rfl, ?_⟩, rfl, by simpa using hx, by dsimp only; omega, ?_⟩
      · show iv (IntKind.wrap .i64 ((i : Int) + 1)) = _
        rw [w64 (by omega) (by omega)]; rfl
      · dsimp only
        rw [set_take (by omega), hlead, hp]
    · have hc' : ¬ x.1 > 0 := by simp at hc; omega
      have hval : leadV ss x = x.2.2 := by simp only [leadV, hc', if_false]
      refine run_x (I := inf) 99 rfl (by repeat (first | exact obs_nil | refine obs_same ?_ | refine obs_and ?_ | refine obs_by (by (simp [inB] <;> omega)) ?_)) ?_
      refine run_drop 1 (Nat.zero_le _) rfl (.row (fun j hj => rfl) .nil) ?_
      refine ih (xs.set i x.2.2, i + 1) _ _ (by dsimp only; omega) ⟨⟨rfl, rfl, rfl, rfl, ?_⟩, rfl, by simpa using hx, by dsimp only; omega, ?_⟩
      · show iv (IntKind.wrap .i64 ((i : Int) + 1)) = _
        rw [w64 (by omega) (by omega)]; rfl
      · dsimp only
        rw [set_take (by omega), hlead, hp, hval]
  · have hi' : i = l.length := by simp at hlt; omega
    subst hi'
    have hxs : xs = leadL l ss := by
      rw [List.take_of_length_le (by omega), List.take_of_length_le (by simp [leadL])] at hp
      exact hp
    subst hxs
    have hll : (leadL l ss).length = l.length := by simp [leadL]
    refine run_x (I := inf) 99 rfl (by repeat (first | exact obs_nil | refine obs_same ?_ | refine obs_and ?_ | refine obs_by (by (simp [inB] <;> omega)) ?_)) ?_
    refine run_freezeRow 0 rfl rfl (fun i hi => rfl) ?_
    refine run_drop 0 (Nat.le_refl _) rfl .nil ?_
    refine run_says 55 rfl (y := intS none (leadL l ss)) (by rw [← hll]; exact Says.refl _) ?_
    refine run_says 8 rfl (y := intS none (leadL l ss)) (by rw [← hll]; exact Says.refl _) ?_
    have hlb2 : (leadL l ss).length = base.length := by simp [leadL, hlb]
    refine run_call rfl rfl rfl rfl rfl rfl rfl rfl (r_out n1 none base (leadL l ss) hlb2 (by omega)) ?_
    refine run_x (I := inf) 99 rfl (by repeat (first | exact obs_nil | refine obs_same ?_ | refine obs_and ?_ | refine obs_by (by (simp [inB] <;> omega)) ?_)) ?_
    have hnn : 0 ≤ out base (leadL l ss) := out_nonneg 0 _ _ (by omega)
    refine run_cond rfl (fun hq => ?_) (fun hq => ?_)
    · refine run_x (I := inf) 99 rfl (by repeat (first | exact obs_nil | refine obs_same ?_ | refine obs_and ?_ | refine obs_by (by (simp [inB] <;> omega)) ?_)) ?_
      refine run_retX (I := inf) 0 rfl (Nat.le_refl _) rfl .nil rfl ⟨?_, rfl⟩
      have hq' : ¬ out base (leadL l ss) = 0 := by simp at hq; omega
      simp only [hq', if_false, decide_false]; rfl
    · have hq' : out base (leadL l ss) = 0 := by simp at hq; omega
      refine run_x (I := inf) 99 rfl (by repeat (first | exact obs_nil | refine obs_same ?_ | refine obs_and ?_ | refine obs_by (by (simp [inB] <;> omega)) ?_)) ?_
      refine run_call rfl rfl rfl rfl rfl rfl rfl rfl (r_place n1 none base (leadL l ss) hlb2 (by omega) hf hq') ?_
      refine run_x (I := inf) 99 rfl (by repeat (first | exact obs_nil | refine obs_same ?_ | refine obs_and ?_ | refine obs_by (by (simp [inB] <;> omega)) ?_)) ?_
      refine run_retX (I := inf) 0 rfl (Nat.le_refl _) rfl .nil rfl ⟨?_, rfl⟩
      simp only [hq', if_true, decide_true]; rfl
end Go.Iron.Try
