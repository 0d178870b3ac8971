/- The level package: Leaves, of both. -/
import Derived.Test.YtamhonbhoelohaaTG
namespace Go.Iron.Try
open Go.Proofs

/-- The members without members, in the first n. -/
def leafN (l : List Fld) (n : Nat) : List Nat := (List.range n).filter fun k => !innerB l k
theorem leafN_succ (l : List Fld) (n : Nat) : leafN l (n + 1) = if innerB l n then leafN l n else leafN l n ++ [n] := by
  unfold leafN
  rw [List.range_succ, List.filter_append]
  by_cases h : innerB l n = true <;> simp [h]
theorem leafN_len (l : List Fld) (n : Nat) : (leafN l n).length ≤ n := by
  have := List.length_filter_le (fun k => !innerB l k) (List.range n)
  rwa [List.length_range] at this
def leavesF (l : List Fld) : List Nat × Int := if validF l then (leafN l l.length, 0) else ([], 1)
def natS (xs : List Nat) : AV := .slc 1 none xs.length (natR xs)
def leavesA (x : List Nat × Int) : AV := .tup [natS x.1, iv x.2]
abbrev nilN : Nat → List AV := natR []
theorem natR_snoc {acc : List Nat} {v : Nat} {r2 : Nat → List AV} (h : r2 0 = [iv v]) : ∀ j, j < acc.length + 1 → natR (acc ++ [v]) j = appR acc.length (natR acc) r2 j := fun j hj => encR_snoc (enc := fun k : Nat => [iv k]) (d := 0) (acc := acc) (v := v) h j hj
theorem level_leaves (nl : Option Bool) (l : List Fld) (hb : l.length < 1000000000) : CallT Try.prog 123 [treeS nl l] [] (fun o A => o = .ret (natS (leafN l l.length)) ∧ A = []) := by
  refine callS_body (n := 23) rfl rfl fun w ρ X => ?_
  refine runS_x (I := inf) (J := jnf) ⟨false, false, [], 0, 0⟩ 9999 rfl (by repeat (first | exact obs_nil | refine obs_draw (by kernel_rfl) ?_ | refine obs_same ?_ | refine obs_and ?_ | refine obs_by (by (simp [inB] <;> omega)) ?_)) ?_
  refine runS_nilRow 3 3 1 nilN rfl rfl ?_
  refine runS_while (fun (i : Nat) τ ar => (τ 3 = .row 0 (leafN l i).length ∧ τ 6 = treeS nl l ∧ τ 7 = iv l.length ∧ τ 8 = iv i) ∧ ar = [.row 3 1 (leafN l i).length (leafN l i).length (natR (leafN l i))] ∧ i ≤ l.length) (fun i => l.length - i) 0 ⟨⟨rfl, rfl, rfl, rfl⟩, rfl, Nat.zero_le _⟩ ?_
  rintro i τ' ar' ⟨⟨g3, g6, g7, g8⟩, rfl, hi⟩ ih
  refine runS_says 3 (by exact g3) (Says.refl _) ?_; refine runS_says 6 (by exact g6) (Says.refl _) ?_; refine runS_says 7 (by exact g7) (Says.refl _) ?_; refine runS_says 8 (by exact g8) (Says.refl _) ?_
  have hle := leafN_len l i
  refine runS_x (I := inf) (J := jnf) ⟨false, false, [], 0, 0⟩ 9999 rfl (by repeat (first | exact obs_nil | refine obs_draw (by kernel_rfl) ?_ | refine obs_same ?_ | refine obs_and ?_ | refine obs_by (by (simp [inB] <;> omega)) ?_)) ?_
  refine runS_cond rfl (fun hlt => ?_) (fun hlt => ?_)
  · have hlt' : i < l.length := by simpa using hlt
    have hw2 : IntKind.wrap .i64 ((i : Int) + 1) = ((i + 1 : Nat) : Int) := by rw [w64 (by omega) (by omega)]; rfl
    refine runS_x (I := inf) (J := jnf) ⟨false, false, [], 0, 0⟩ 9999 rfl (by repeat (first | exact obs_nil | refine obs_draw (by kernel_rfl) ?_ | refine obs_same ?_ | refine obs_and ?_ | refine obs_by (by (simp [inB, hlt'] <;> omega)) ?_)) ?_
    refine runS_cond rfl (fun hz => ?_) (fun hz => ?_)
    · have hin : innerB l i = false := by
        have : (((kidsN l l.length i : Nat) : Int) == 0) = true := hz
        have : kidsN l l.length i = 0 := by simpa using this
        rw [inner_kids hlt', decide_eq_false]
        show ¬ 0 < kidsN l l.length i
        omega
      have hs := leafN_succ l i
      rw [hin, if_neg (by decide)] at hs
      refine runS_x (I := inf) (J := jnf) ⟨false, false, [], 0, 0⟩ 9999 rfl (by repeat (first | exact obs_nil | refine obs_draw (by kernel_rfl) ?_ | refine obs_same ?_ | refine obs_and ?_ | refine obs_by (by (simp [inB] <;> omega)) ?_)) ?_
      refine runS_tell 0 (natR (leafN l i ++ [i])) rfl (m' := (leafN l i).length + 1) rfl (natR_snoc rfl) rfl ?_
      refine runS_drop 1 (Nat.zero_le _) rfl (by repeat (first | exact .nil | refine .row (fun j hj => rfl) ?_ | refine .box rfl ?_ | refine .fam (fun k j hk hj => rfl) ?_ | refine .loop (scrub_under _ _) ?_ | refine .dfr ?_ | refine .gone ?_ | refine .map (fun p hp => by (obtain ⟨k, _, rfl⟩ := List.mem_map.1 hp; rfl)) ?_)) rfl rfl rfl (by repeat (first | exact .nil | refine .cons rfl rfl rfl (scrub_under _ _) ?_)) ?_
      refine ih (i + 1) _ _ (by omega) ⟨⟨?_, rfl, rfl, congrArg iv hw2⟩, ?_, by omega⟩
      · rw [hs, List.length_append]; rfl
      · rw [hs, List.length_append]; rfl
    · have hin : innerB l i = true := by
        have : (((kidsN l l.length i : Nat) : Int) == 0) = false := hz
        have : ¬ kidsN l l.length i = 0 := by simpa using this
        rw [inner_kids hlt', decide_eq_true]
        show 0 < kidsN l l.length i
        omega
      have hs := leafN_succ l i
      rw [hin, if_pos rfl] at hs
      refine runS_x (I := inf) (J := jnf) ⟨false, false, [], 0, 0⟩ 9999 rfl (by repeat (first | exact obs_nil | refine obs_draw (by kernel_rfl) ?_ | refine obs_same ?_ | refine obs_and ?_ | refine obs_by (by (simp [inB] <;> omega)) ?_)) ?_
      refine runS_drop 1 (Nat.zero_le _) rfl (by repeat (first | exact .nil | refine .row (fun j hj => rfl) ?_ | refine .box rfl ?_ | refine .fam (fun k j hk hj => rfl) ?_ | refine .loop (scrub_under _ _) ?_ | refine .dfr ?_ | refine .gone ?_ | refine .map (fun p hp => by (obtain ⟨k, _, rfl⟩ := List.mem_map.1 hp; rfl)) ?_)) rfl rfl rfl (by repeat (first | exact .nil | refine .cons rfl rfl rfl (scrub_under _ _) ?_)) ?_
      refine ih (i + 1) _ _ (by omega) ⟨⟨?_, rfl, rfl, congrArg iv hw2⟩, ?_, by omega⟩
      · rw [hs]; rfl
      · rw [hs]
  · have : i = l.length := by simp at hlt; omega
    subst this
    refine runS_freeze 3 rfl rfl rfl (fun j hj => rfl) ?_
    refine runS_x (I := inf) (J := jnf) ⟨false, false, [], 0, 0⟩ 9999 rfl (by repeat (first | exact obs_nil | refine obs_draw (by kernel_rfl) ?_ | refine obs_same ?_ | refine obs_and ?_ | refine obs_by (by (simp [inB] <;> omega)) ?_)) ?_
    refine runS_ret (I := inf) 0 rfl (Nat.le_refl _) rfl .nil rfl ⟨?_, rfl⟩
    rfl
theorem ref_Leaves (nl : Option Bool) (l : List Fld) (hs : smallF l) : CallT Try.prog 71 [fldS nl l] [] (fun o A => o = .ret (leavesA (leavesF l)) ∧ A = []) := by
  have hb := hs.1
  refine callS_body (n := 24) rfl rfl fun w ρ X => ?_
  refine runS_x (I := inf) (J := jnf) ⟨false, false, [], 0, 0⟩ 9999 rfl (by repeat (first | exact obs_nil | refine obs_draw (by kernel_rfl) ?_ | refine obs_same ?_ | refine obs_and ?_ | refine obs_by (by (simp [inB] <;> omega)) ?_)) ?_
  refine runS_call rfl rfl rfl rfl rfl rfl rfl (ref_valid nl l hs) ?_
  refine runS_x (I := inf) (J := jnf) ⟨false, false, [], 0, 0⟩ 9999 rfl (by repeat (first | exact obs_nil | refine obs_draw (by kernel_rfl) ?_ | refine obs_same ?_ | refine obs_and ?_ | refine obs_by (by (simp [inB] <;> omega)) ?_)) ?_
  refine runS_cond rfl (fun h => ?_) (fun h => ?_)
  · refine runS_x (I := inf) (J := jnf) ⟨false, false, [], 0, 0⟩ 9999 rfl (by repeat (first | exact obs_nil | refine obs_draw (by kernel_rfl) ?_ | refine obs_same ?_ | refine obs_and ?_ | refine obs_by (by (simp [inB] <;> omega)) ?_)) ?_
    have hv : validF l = false := by simpa using h
    refine runS_says 2 rfl (says_nil0 (sz := 1) (r := nilN) (Nat.zero_le _)) ?_
    refine runS_ret (I := inf) 0 rfl (Nat.le_refl _) rfl .nil rfl ⟨?_, rfl⟩
    rw [leavesF, hv]; rfl
  have hv : validF l = true := by simpa using h
  refine runS_x (I := inf) (J := jnf) ⟨false, false, [], 0, 0⟩ 9999 rfl (by repeat (first | exact obs_nil | refine obs_draw (by kernel_rfl) ?_ | refine obs_same ?_ | refine obs_and ?_ | refine obs_by (by (simp [inB] <;> omega)) ?_)) ?_
  refine runS_nilRow 4 3 1 nilN rfl rfl ?_
  refine runS_while (fun (i : Nat) τ ar => (τ 0 = fldS nl l ∧ τ 4 = .row 0 (leafN l i).length ∧ τ 5 = iv i) ∧ ar = [.row 3 1 (leafN l i).length (leafN l i).length (natR (leafN l i))] ∧ i ≤ l.length) (fun i => l.length - i) 0 ⟨⟨rfl, rfl, rfl⟩, rfl, Nat.zero_le _⟩ ?_
  rintro i τ' ar' ⟨⟨g0, g4, g5⟩, rfl, hi⟩ ih
  refine runS_says 0 (by exact g0) (Says.refl _) ?_; refine runS_says 4 (by exact g4) (Says.refl _) ?_; refine runS_says 5 (by exact g5) (Says.refl _) ?_
  have hle := leafN_len l i
  refine runS_x (I := inf) (J := jnf) ⟨false, false, [], 0, 0⟩ 9999 rfl (by repeat (first | exact obs_nil | refine obs_draw (by kernel_rfl) ?_ | refine obs_same ?_ | refine obs_and ?_ | refine obs_by (by (simp [inB] <;> omega)) ?_)) ?_
  refine runS_cond rfl (fun hlt => ?_) (fun hlt => ?_)
  · have hlt' : i < l.length := by simpa using hlt
    have hw2 : IntKind.wrap .i64 ((i : Int) + 1) = ((i + 1 : Nat) : Int) := by rw [w64 (by omega) (by omega)]; rfl
    refine runS_x (I := inf) (J := jnf) ⟨false, false, [], 0, 0⟩ 9999 rfl (by repeat (first | exact obs_nil | refine obs_draw (by kernel_rfl) ?_ | refine obs_same ?_ | refine obs_and ?_ | refine obs_by (by (simp [inB] <;> omega)) ?_)) ?_
    refine runS_call rfl rfl rfl rfl rfl rfl rfl (ref_inner nl l i hlt' (by omega)) ?_
    refine runS_x (I := inf) (J := jnf) ⟨false, false, [], 0, 0⟩ 9999 rfl (by repeat (first | exact obs_nil | refine obs_draw (by kernel_rfl) ?_ | refine obs_same ?_ | refine obs_and ?_ | refine obs_by (by (simp [inB] <;> omega)) ?_)) ?_
    have hs := leafN_succ l i
    refine runS_cond rfl (fun hz => ?_) (fun hz => ?_)
    · have hin : innerB l i = false := by simpa using hz
      rw [hin, if_neg (by decide)] at hs
      refine runS_x (I := inf) (J := jnf) ⟨false, false, [], 0, 0⟩ 9999 rfl (by repeat (first | exact obs_nil | refine obs_draw (by kernel_rfl) ?_ | refine obs_same ?_ | refine obs_and ?_ | refine obs_by (by (simp [inB] <;> omega)) ?_)) ?_
      refine runS_tell 0 (natR (leafN l i ++ [i])) rfl (m' := (leafN l i).length + 1) rfl (natR_snoc rfl) rfl ?_
      refine runS_drop 1 (Nat.zero_le _) rfl (by repeat (first | exact .nil | refine .row (fun j hj => rfl) ?_ | refine .box rfl ?_ | refine .fam (fun k j hk hj => rfl) ?_ | refine .loop (scrub_under _ _) ?_ | refine .dfr ?_ | refine .gone ?_ | refine .map (fun p hp => by (obtain ⟨k, _, rfl⟩ := List.mem_map.1 hp; rfl)) ?_)) rfl rfl rfl (by repeat (first | exact .nil | refine .cons rfl rfl rfl (scrub_under _ _) ?_)) ?_
      refine ih (i + 1) _ _ (by omega) ⟨⟨rfl, ?_, congrArg iv hw2⟩, ?_, by omega⟩
      · rw [hs, List.length_append]; rfl
      · rw [hs, List.length_append]; rfl
    · have hin : innerB l i = true := by simpa using hz
      rw [hin, if_pos rfl] at hs
      refine runS_x (I := inf) (J := jnf) ⟨false, false, [], 0, 0⟩ 9999 rfl (by repeat (first | exact obs_nil | refine obs_draw (by kernel_rfl) ?_ | refine obs_same ?_ | refine obs_and ?_ | refine obs_by (by (simp [inB] <;> omega)) ?_)) ?_
      refine ih (i + 1) _ _ (by omega) ⟨⟨rfl, ?_, congrArg iv hw2⟩, ?_, by omega⟩
      · rw [hs]; rfl
      · rw [hs]
  · have : i = l.length := by simp at hlt; omega
    subst this
    refine runS_freeze 4 rfl rfl rfl (fun j hj => rfl) ?_
    refine runS_x (I := inf) (J := jnf) ⟨false, false, [], 0, 0⟩ 9999 rfl (by repeat (first | exact obs_nil | refine obs_draw (by kernel_rfl) ?_ | refine obs_same ?_ | refine obs_and ?_ | refine obs_by (by (simp [inB] <;> omega)) ?_)) ?_
    refine runS_ret (I := inf) 0 rfl (Nat.le_refl _) rfl .nil rfl ⟨?_, rfl⟩
    rw [leavesF, if_pos hv]
    rfl
theorem level_Leaves (nl : Option Bool) (l : List Fld) (hs : smallF l) : CallT Try.prog 70 [fldS nl l] [] (fun o A => o = .ret (leavesA (leavesF l)) ∧ A = []) := by
  have hb := hs.1
  by_cases hv : validF l = true
  · have hlen := valid_len hv
    refine callS_body (n := 8) rfl rfl fun w ρ X => ?_
    refine runS_x (I := inf) (J := jnf) ⟨false, false, [121, 122], 0, 0⟩ 9999 rfl (by repeat (first | exact obs_nil | refine obs_draw (by kernel_rfl) ?_ | refine obs_same ?_ | refine obs_and ?_ | refine obs_by (by (simp [inB] <;> omega)) ?_)) ?_
    refine runS_call rfl rfl rfl rfl rfl rfl rfl (valid_ok nl l 0 hs hv (by omega)) ?_
    refine runS_x (I := inf) (J := jnf) ⟨false, false, [], 0, 0⟩ 9999 rfl (by repeat (first | exact obs_nil | refine obs_draw (by kernel_rfl) ?_ | refine obs_same ?_ | refine obs_and ?_ | refine obs_by (by (simp [inB] <;> omega)) ?_)) ?_
    refine runS_call rfl rfl rfl rfl rfl rfl rfl (level_leaves none l (by omega)) ?_
    refine runS_x (I := inf) (J := jnf) ⟨true, false, [166], 0, 0⟩ 9999 rfl (by repeat (first | exact obs_nil | refine obs_draw (by kernel_rfl) ?_ | refine obs_same ?_ | refine obs_and ?_ | refine obs_by (by (simp [inB] <;> omega)) ?_)) ?_
    refine runS_ret (I := inf) 0 rfl (Nat.le_refl _) rfl .nil rfl ⟨?_, rfl⟩
    rw [leavesF, if_pos hv]
    rfl
  · refine callS_body (n := 8) rfl rfl fun w ρ X => ?_
    refine runS_x (I := inf) (J := jnf) ⟨false, false, [121, 122], 0, 0⟩ 9999 rfl (by repeat (first | exact obs_nil | refine obs_draw (by kernel_rfl) ?_ | refine obs_same ?_ | refine obs_and ?_ | refine obs_by (by (simp [inB] <;> omega)) ?_)) ?_
    refine runS_callP rfl rfl rfl rfl rfl rfl rfl (valid_bad1 nl l 0 hs (by simpa using hv)) ?_
    refine runS_x (I := inf) (J := jnf) ⟨true, false, [166], 0, 0⟩ 9999 rfl (by repeat (first | exact obs_nil | refine obs_draw (by kernel_rfl) ?_ | refine obs_same ?_ | refine obs_and ?_ | refine obs_by (by (simp [inB] <;> omega)) ?_)) ?_
    refine runS_drawG (ch := []) 4 [3] (fun b => [.box 41 [fldS nl l], .box 23 [.val (.slice none 0 0)], .box 51 [iv 0], .box 170 [iv 1]]) none (c := 9) jnfI.draw (by kernel_rfl) rfl (lexg_g (I := inf) (J := jnf) none ⟨⟨_, rfl, (by repeat (first | exact obs_nil | refine obs_same ?_ | refine obs_and ?_ | refine obs_by (by (simp [inB] <;> omega)) ?_))⟩, (by first | exact .inl (by decide +kernel) | exact .inr ⟨_, rfl, (by repeat (first | exact obs_nil | refine obs_same ?_ | refine obs_and ?_ | refine obs_by (by (simp [inB] <;> omega)) ?_))⟩)⟩ rfl rfl rfl rfl (lexg_g (I := inf) (J := jnf) none ⟨⟨_, rfl, (by repeat (first | exact obs_nil | refine obs_same ?_ | refine obs_and ?_ | refine obs_by (by (simp [inB] <;> omega)) ?_))⟩, (by first | exact .inl (by decide +kernel) | exact .inr ⟨_, rfl, (by repeat (first | exact obs_nil | refine obs_same ?_ | refine obs_and ?_ | refine obs_by (by (simp [inB] <;> omega)) ?_))⟩)⟩ rfl rfl rfl rfl (lexg_g (I := inf) (J := jnf) none ⟨⟨_, rfl, (by repeat (first | exact obs_nil | refine obs_same ?_ | refine obs_and ?_ | refine obs_by (by (simp [inB] <;> omega)) ?_))⟩, (by first | exact .inl (by decide +kernel) | exact .inr ⟨_, rfl, (by repeat (first | exact obs_nil | refine obs_same ?_ | refine obs_and ?_ | refine obs_by (by (simp [inB] <;> omega)) ?_))⟩)⟩ rfl rfl rfl rfl (lexg_g (I := inf) (J := jnf) (some .store) ⟨⟨_, rfl, (by repeat (first | exact obs_nil | refine obs_same ?_ | refine obs_and ?_ | refine obs_by (by (simp [inB] <;> omega)) ?_))⟩, .inl rfl⟩ rfl rfl rfl rfl lexg_nil)))) rfl (fun _ => ?_) (fun h => by cases h)
    refine runS_x (I := inf) (J := jnf) ⟨true, false, [166], 0, 0⟩ 9999 rfl (by repeat (first | exact obs_nil | refine obs_draw (by kernel_rfl) ?_ | refine obs_same ?_ | refine obs_and ?_ | refine obs_by (by (simp [inB] <;> omega)) ?_)) ?_
    refine runS_says 2 rfl (says_nil0 (sz := 1) (r := nilN) (Nat.zero_le _)) ?_
    refine runS_ret (I := inf) 0 rfl (Nat.le_refl _) rfl .nil rfl ⟨?_, rfl⟩
    rw [leavesF, if_neg hv]
    rfl
end Go.Iron.Try

/- The level package's laws: levelLays. -/
namespace Go.Iron.Try
open Go.Proofs

/-- A later sister outside a union lies behind an earlier one. -/
theorem off_later {l : List Fld} {cnt : Nat → Nat} (ok : LayOK l cnt) {p i j : Nat} (hu : (fat l p).union = false) (hij : i < j) (hj : j < l.length) (hpi : par l i = some p) (hpj : par l j = some p) : offK l cnt i + tkK l cnt i ≤ offK l cnt j := by
  obtain ⟨a, ha, ea⟩ := kids_at (mem_kids.2 ⟨by omega, hpi⟩ : i ∈ kidsA l p)
  obtain ⟨b, hb, eb⟩ := kids_at (mem_kids.2 ⟨hj, hpj⟩ : j ∈ kidsA l p)
  have hab : a < b := by
    rcases Nat.lt_trichotomy a b with h | h | h
    · exact h
    · subst h; omega
    · have := kids_mono h ha; omega
  have h1 := stP_kid (cnt := cnt) ha
  rw [ea] at h1
  have h2 := off_at (cnt := cnt) hb
  rw [eb, hu] at h2
  simp only [Bool.false_eq_true, if_false] at h2
  obtain ⟨b1, b2⟩ := (lay_bound ok l.length j hj (by omega)).1
  have h3 := (upR_bound (n := (stP l cnt p b).1) b1 b2).1
  have h4 := (stP_mono (l := l) (cnt := cnt) (i := p) (b - (a + 1)) (a + 1) (by omega)).1
  rw [show a + 1 + (b - (a + 1)) = b by omega, stP_same ok hu (a + 1) (by omega), stP_same ok hu b (by omega), h1] at h4
  dsimp only at h4
  omega
theorem lays_ok {l : List Fld} {vals : List Int} (h : (layoutF l vals).2 = 0) : validF l = true ∧ valsOK l vals = true ∧ tkK l (cntN l vals) 0 ≤ 1000000 ∧ (layoutF l vals).1 = spotsL l (cntN l vals) := by
  unfold layoutF at h ⊢
  by_cases h1 : validF l = true
  · rw [if_pos h1] at h ⊢
    by_cases h2 : valsOK l vals = true
    · rw [if_pos h2] at h ⊢
      by_cases h3 : tkK l (cntN l vals) 0 ≤ 1000000
      · rw [if_pos h3] at h ⊢
        exact ⟨h1, h2, h3, rfl⟩
      · rw [if_neg h3] at h; cases h
    · rw [if_neg h2] at h; cases h
  · rw [if_neg h1] at h; cases h
theorem cnt_pos {l : List Fld} {vals : List Int} (hv : validF l = true) (hvo : valsOK l vals = true) {i : Nat} (hi : i < l.length) : decide (cntV l vals i > 0) = isArr l i := by
  have h1 := cnt_bounds hv hvo hi
  have h2 := valid_all hv hi
  have h3 := base_all hv hi
  unfold isArr
  by_cases hc : (fat l i).count > 0
  · rw [decide_eq_true hc, decide_eq_true (by omega)]
  · rw [decide_eq_false hc, decide_eq_false]
    have hr : isRef l i = false := by
      cases hr : isRef l i with
      | false => rfl
      | true =>
        exfalso
        have hr' : 0 ≤ (fat l i).refer := by simpa [isRef] using hr
        simp only [okA, refOK, Bool.and_eq_true, Bool.or_eq_true, decide_eq_true_eq] at h2
        omega
    rw [cntV, hr]
    simpa using hc
theorem layF_small (l : List Fld) (vals : List Int) (hl : l.length < 1000000000) : (layoutF l vals).1.length < 1000000000 := by
  unfold layoutF
  split
  · split
    · split
      · simpa [spotsL] using hl
      · decide
    · decide
  · decide
theorem leaves_small (l : List Fld) (hl : l.length < 1000000000) : (leavesF l).1.length < 1000000000 := by
  unfold leavesF
  split
  · have := leafN_len l l.length
    show (leafN l l.length).length < _
    omega
  · decide
def parP (l : List Fld) (i k : Nat) : Int := if k < i then opI (par l k) else 0
theorem lev_levelLays (nl n2 : Option Bool) (l : List Fld) (vals : List Int) (hb : l.length < 1000000000000000) : CallT Try.prog 26 [fldS nl l, intS n2 vals] [] (fun o A => o = .ret (bv true) ∧ A = []) := by
  refine callS_body (n := 254) rfl rfl fun w ρ X => ?_
  refine runS_x (I := inf) (J := jnf) ⟨false, false, [], 0, 0⟩ 9999 rfl (by repeat (first | exact obs_nil | refine obs_draw (by kernel_rfl) ?_ | refine obs_same ?_ | refine obs_and ?_ | refine obs_by (by (simp [inB] <;> omega)) ?_)) ?_
  refine runS_call rfl rfl rfl rfl rfl rfl rfl (lev_light nl l hb) ?_
  refine runS_x (I := inf) (J := jnf) ⟨false, false, [], 0, 0⟩ 9999 rfl (by repeat (first | exact obs_nil | refine obs_draw (by kernel_rfl) ?_ | refine obs_same ?_ | refine obs_and ?_ | refine obs_by (by (simp [inB] <;> omega)) ?_)) ?_
  refine runS_cond rfl (fun h => ?_) (fun h => ?_)
  · refine runS_x (I := inf) (J := jnf) ⟨false, false, [], 0, 0⟩ 9999 rfl (by repeat (first | exact obs_nil | refine obs_draw (by kernel_rfl) ?_ | refine obs_same ?_ | refine obs_and ?_ | refine obs_by (by (simp [inB] <;> omega)) ?_)) ?_
    refine runS_call rfl rfl rfl rfl rfl rfl rfl lev_awake ?_
    refine runS_x (I := inf) (J := jnf) ⟨false, false, [], 0, 0⟩ 9999 rfl (by repeat (first | exact obs_nil | refine obs_draw (by kernel_rfl) ?_ | refine obs_same ?_ | refine obs_and ?_ | refine obs_by (by (simp [inB] <;> omega)) ?_)) ?_
    refine runS_ret (I := inf) 0 rfl (Nat.le_refl _) rfl .nil rfl ⟨?_, rfl⟩
    rfl
  have hlt : lightF l = true ∧ vals.length ≤ 210 := by
    have h' : (if (!lightF l) = true then true else decide ((vals.length : Int) > 210)) = false := h
    cases hl : lightF l with
    | true => rw [hl] at h'; simp at h'; exact ⟨rfl, by omega⟩
    | false => rw [hl] at h'; cases h'
  have hs := light_small hlt.1
  have h2 : vals.length < 1000000000 := by omega
  have hb1 := hs.1
  refine runS_x (I := inf) (J := jnf) ⟨false, false, [], 0, 0⟩ 9999 rfl (by repeat (first | exact obs_nil | refine obs_draw (by kernel_rfl) ?_ | refine obs_same ?_ | refine obs_and ?_ | refine obs_by (by (simp [inB] <;> omega)) ?_)) ?_
  refine runS_call rfl rfl rfl rfl rfl rfl rfl (level_Layout nl n2 l vals hs h2) ?_
  refine runS_x (I := inf) (J := jnf) ⟨false, false, [], 0, 0⟩ 9999 rfl (by repeat (first | exact obs_nil | refine obs_draw (by kernel_rfl) ?_ | refine obs_same ?_ | refine obs_and ?_ | refine obs_by (by (simp [inB] <;> omega)) ?_)) ?_
  refine runS_call rfl rfl rfl rfl rfl rfl rfl (ref_Layout nl n2 l vals hs h2) ?_
  refine runS_x (I := inf) (J := jnf) ⟨false, false, [], 0, 0⟩ 9999 rfl (by repeat (first | exact obs_nil | refine obs_draw (by kernel_rfl) ?_ | refine obs_same ?_ | refine obs_and ?_ | refine obs_by (by (simp [inB] <;> omega)) ?_)) ?_
  refine runS_call rfl rfl rfl rfl rfl rfl rfl (level_Leaves nl l hs) ?_
  refine runS_x (I := inf) (J := jnf) ⟨false, false, [], 0, 0⟩ 9999 rfl (by repeat (first | exact obs_nil | refine obs_draw (by kernel_rfl) ?_ | refine obs_same ?_ | refine obs_and ?_ | refine obs_by (by (simp [inB] <;> omega)) ?_)) ?_
  refine runS_call rfl rfl rfl rfl rfl rfl rfl (ref_Leaves nl l hs) ?_
  refine runS_x (I := inf) (J := jnf) ⟨false, false, [], 0, 0⟩ 9999 rfl (by repeat (first | exact obs_nil | refine obs_draw (by kernel_rfl) ?_ | refine obs_same ?_ | refine obs_and ?_ | refine obs_by (by (simp [inB] <;> omega)) ?_)) ?_
  refine runS_cond rfl (fun h => ?_) (fun h => ?_)
  · exfalso
    simp at h
  refine runS_x (I := inf) (J := jnf) ⟨false, false, [], 0, 0⟩ 9999 rfl (by repeat (first | exact obs_nil | refine obs_draw (by kernel_rfl) ?_ | refine obs_same ?_ | refine obs_and ?_ | refine obs_by (by (simp [inB] <;> omega)) ?_)) ?_
  have hl1 := layF_small l vals hb1
  have hl2 := leaves_small l hb1
  refine runS_while (fun (i : Nat) τ ar => (τ 0 = fldS nl l ∧ τ 1 = intS n2 vals ∧ τ 5 = spotS none (layoutF l vals).1 ∧ τ 6 = iv (layoutF l vals).2 ∧ τ 7 = spotS none (layoutF l vals).1 ∧ τ 9 = natS (leavesF l).1 ∧ τ 11 = natS (leavesF l).1 ∧ τ 13 = iv i) ∧ ar = [] ∧ i ≤ (layoutF l vals).1.length) (fun i => (layoutF l vals).1.length - i) 0 ⟨⟨rfl, rfl, rfl, rfl, rfl, rfl, rfl, rfl⟩, rfl, Nat.zero_le _⟩ ?_
  rintro i τ' ar' ⟨⟨g0, g1, g5, g6, g7, g9, g11, g13⟩, rfl, hi⟩ ih
  refine runS_says 0 (by exact g0) (Says.refl _) ?_; refine runS_says 1 (by exact g1) (Says.refl _) ?_; refine runS_says 5 (by exact g5) (Says.refl _) ?_; refine runS_says 6 (by exact g6) (Says.refl _) ?_; refine runS_says 7 (by exact g7) (Says.refl _) ?_; refine runS_says 9 (by exact g9) (Says.refl _) ?_; refine runS_says 11 (by exact g11) (Says.refl _) ?_; refine runS_says 13 (by exact g13) (Says.refl _) ?_
  refine runS_x (I := inf) (J := jnf) ⟨false, false, [], 0, 0⟩ 9999 rfl (by repeat (first | exact obs_nil | refine obs_draw (by kernel_rfl) ?_ | refine obs_same ?_ | refine obs_and ?_ | refine obs_by (by (simp [inB] <;> omega)) ?_)) ?_
  refine runS_cond rfl (fun hlt => ?_) (fun hlt => ?_)
  · have hlt' : i < (layoutF l vals).1.length := by simpa using hlt
    have hw2 : IntKind.wrap .i64 ((i : Int) + 1) = ((i + 1 : Nat) : Int) := by rw [w64 (by omega) (by omega)]; rfl
    refine runS_x (I := inf) (J := jnf) ⟨false, false, [], 0, 0⟩ 9999 rfl (by repeat (first | exact obs_nil | refine obs_draw (by kernel_rfl) ?_ | refine obs_same ?_ | refine obs_and ?_ | refine obs_by (by (simp [inB, hlt'] <;> omega)) ?_)) ?_
    refine runS_cond rfl (fun h => ?_) (fun h => ?_)
    · exfalso
      simp at h
    refine runS_x (I := inf) (J := jnf) ⟨false, false, [], 0, 0⟩ 9999 rfl (by repeat (first | exact obs_nil | refine obs_draw (by kernel_rfl) ?_ | refine obs_same ?_ | refine obs_and ?_ | refine obs_by (by (simp [inB] <;> omega)) ?_)) ?_
    exact ih (i + 1) _ _ (by omega) ⟨⟨rfl, rfl, rfl, rfl, rfl, rfl, rfl, congrArg iv hw2⟩, rfl, by omega⟩
  refine runS_x (I := inf) (J := jnf) ⟨false, false, [], 0, 0⟩ 9999 rfl (by repeat (first | exact obs_nil | refine obs_draw (by kernel_rfl) ?_ | refine obs_same ?_ | refine obs_and ?_ | refine obs_by (by (simp [inB] <;> omega)) ?_)) ?_
  refine runS_while (fun (i : Nat) τ ar => (τ 0 = fldS nl l ∧ τ 1 = intS n2 vals ∧ τ 5 = spotS none (layoutF l vals).1 ∧ τ 6 = iv (layoutF l vals).2 ∧ τ 9 = natS (leavesF l).1 ∧ τ 11 = natS (leavesF l).1 ∧ τ 14 = iv i) ∧ ar = [] ∧ i ≤ (leavesF l).1.length) (fun i => (leavesF l).1.length - i) 0 ⟨⟨rfl, rfl, rfl, rfl, rfl, rfl, rfl⟩, rfl, Nat.zero_le _⟩ ?_
  rintro i τ' ar' ⟨⟨g0, g1, g5, g6, g9, g11, g14⟩, rfl, hi⟩ ih
  refine runS_says 0 (by exact g0) (Says.refl _) ?_; refine runS_says 1 (by exact g1) (Says.refl _) ?_; refine runS_says 5 (by exact g5) (Says.refl _) ?_; refine runS_says 6 (by exact g6) (Says.refl _) ?_; refine runS_says 9 (by exact g9) (Says.refl _) ?_; refine runS_says 11 (by exact g11) (Says.refl _) ?_; refine runS_says 14 (by exact g14) (Says.refl _) ?_
  refine runS_x (I := inf) (J := jnf) ⟨false, false, [], 0, 0⟩ 9999 rfl (by repeat (first | exact obs_nil | refine obs_draw (by kernel_rfl) ?_ | refine obs_same ?_ | refine obs_and ?_ | refine obs_by (by (simp [inB] <;> omega)) ?_)) ?_
  refine runS_cond rfl (fun hlt => ?_) (fun hlt => ?_)
  · have hlt' : i < (leavesF l).1.length := by simpa using hlt
    have hw2 : IntKind.wrap .i64 ((i : Int) + 1) = ((i + 1 : Nat) : Int) := by rw [w64 (by omega) (by omega)]; rfl
    refine runS_x (I := inf) (J := jnf) ⟨false, false, [], 0, 0⟩ 9999 rfl (by repeat (first | exact obs_nil | refine obs_draw (by kernel_rfl) ?_ | refine obs_same ?_ | refine obs_and ?_ | refine obs_by (by (simp [inB, hlt'] <;> omega)) ?_)) ?_
    refine runS_cond rfl (fun h => ?_) (fun h => ?_)
    · exfalso
      simp at h
    refine runS_x (I := inf) (J := jnf) ⟨false, false, [], 0, 0⟩ 9999 rfl (by repeat (first | exact obs_nil | refine obs_draw (by kernel_rfl) ?_ | refine obs_same ?_ | refine obs_and ?_ | refine obs_by (by (simp [inB] <;> omega)) ?_)) ?_
    exact ih (i + 1) _ _ (by omega) ⟨⟨rfl, rfl, rfl, rfl, rfl, rfl, congrArg iv hw2⟩, rfl, by omega⟩
  refine runS_x (I := inf) (J := jnf) ⟨false, false, [], 0, 0⟩ 9999 rfl (by repeat (first | exact obs_nil | refine obs_draw (by kernel_rfl) ?_ | refine obs_same ?_ | refine obs_and ?_ | refine obs_by (by (simp [inB] <;> omega)) ?_)) ?_
  refine runS_cond rfl (fun h => ?_) (fun h => ?_)
  · refine runS_x (I := inf) (J := jnf) ⟨false, false, [], 0, 0⟩ 9999 rfl (by repeat (first | exact obs_nil | refine obs_draw (by kernel_rfl) ?_ | refine obs_same ?_ | refine obs_and ?_ | refine obs_by (by (simp [inB] <;> omega)) ?_)) ?_
    refine runS_call rfl rfl rfl rfl rfl rfl rfl lev_awake ?_
    refine runS_x (I := inf) (J := jnf) ⟨false, false, [], 0, 0⟩ 9999 rfl (by repeat (first | exact obs_nil | refine obs_draw (by kernel_rfl) ?_ | refine obs_same ?_ | refine obs_and ?_ | refine obs_by (by (simp [inB] <;> omega)) ?_)) ?_
    refine runS_ret (I := inf) 0 rfl (Nat.le_refl _) rfl .nil rfl ⟨?_, rfl⟩
    rfl
  have h0 : (layoutF l vals).2 = 0 := by simpa using h
  obtain ⟨hv, hvo, htk, he⟩ := lays_ok h0
  have ok := layOK_of hv hvo
  have hlen := valid_len hv
  have hsl : (layoutF l vals).1.length = l.length := by rw [he]; simp [spotsL]
  refine runS_says 5 (y := .slc 3 none l.length (fun k => spE (spotK l (cntN l vals) k))) rfl (says_slc hsl.symm fun k hk => ?_) ?_
  · have hk' : k < l.length := by omega
    show spE (spotK l (cntN l vals) k) = spE ((layoutF l vals).1.getD k (0, 0, 0))
    rw [he, spotsL, List.getD_eq_getElem?_getD, List.getElem?_map, List.getElem?_range hk']
    rfl
  have hl8 : l.length * 8 ≤ 140737488355328 := by omega
  refine runS_x (I := inf) (J := jnf) ⟨false, false, [], 0, 0⟩ 9999 rfl (by repeat (first | exact obs_nil | refine obs_draw (by kernel_rfl) ?_ | refine obs_same ?_ | refine obs_and ?_ | refine obs_by (by (simp [inB] <;> omega)) ?_)) ?_
  refine runS_tell 0 (fun k => [iv (cntP l vals 0 k)]) rfl (m' := l.length) (by simp) (fun k hk => rfl) rfl ?_
  refine runS_while (fun (i : Nat) τ ar => (τ 0 = fldS nl l ∧ τ 1 = intS n2 vals ∧ τ 5 = .slc 3 none l.length (fun k => spE (spotK l (cntN l vals) k)) ∧ τ 15 = .row 0 0 ∧ τ 16 = iv (rfN l i) ∧ τ 17 = iv i) ∧ ar = [.row 3 1 0 l.length (fun k => [iv (cntP l vals i k)])] ∧ i ≤ l.length) (fun i => l.length - i) 0
    ⟨⟨rfl, rfl, rfl, rfl, rfl, rfl⟩, rfl, Nat.zero_le _⟩ ?_
  rintro i τ' ar' ⟨⟨g0, g1, g5, g15, g16, g17⟩, rfl, hi⟩ ih
  refine runS_says 0 (by exact g0) (Says.refl _) ?_; refine runS_says 1 (by exact g1) (Says.refl _) ?_; refine runS_says 5 (by exact g5) (Says.refl _) ?_; refine runS_says 15 (by exact g15) (Says.refl _) ?_; refine runS_says 16 (by exact g16) (Says.refl _) ?_; refine runS_says 17 (by exact g17) (Says.refl _) ?_
  have hrf := rfN_le l i
  refine runS_x (I := inf) (J := jnf) ⟨false, false, [], 0, 0⟩ 9999 rfl (by repeat (first | exact obs_nil | refine obs_draw (by kernel_rfl) ?_ | refine obs_same ?_ | refine obs_and ?_ | refine obs_by (by (simp [inB] <;> omega)) ?_)) ?_
  refine runS_cond rfl (fun hlt => ?_) (fun hlt => ?_)
  · have hlt' : i < l.length := by simpa using hlt
    have hw2 : IntKind.wrap .i64 ((i : Int) + 1) = ((i + 1 : Nat) : Int) := by rw [w64 (by omega) (by omega)]; rfl
    have hz' := vok_all hvo hlt'
    refine runS_x (I := inf) (J := jnf) ⟨false, false, [], 0, 0⟩ 9999 rfl (by repeat (first | exact obs_nil | refine obs_draw (by kernel_rfl) ?_ | refine obs_same ?_ | refine obs_and ?_ | refine obs_by (by (simp [inB, hlt'] <;> omega)) ?_)) ?_
    have hcst : ∀ (c : Int), (∀ (k : Nat), k < l.length → [iv (if k = i then c else cntP l vals i k)] = setR (fun k => [iv (cntP l vals i k)]) i [iv c] k) := fun c k hk => by
      by_cases hki : k = i
      · subst hki
        rw [setR_self, if_pos rfl]
      · rw [setR_ne hki, if_neg hki]
    refine runS_tell 0 (fun k => [iv (if k = i then (fat l i).count else cntP l vals i k)]) rfl rfl (hcst _) rfl ?_
    refine runS_cond rfl (fun hr => ?_) (fun hr => ?_)
    · have hr' : isRef l i = true := hr
      have hrl : rfN l i < vals.length := by
        rw [vok, hr'] at hz'
        simp at hz'
        exact hz'.1.1
      refine runS_x (I := inf) (J := jnf) ⟨false, false, [], 0, 0⟩ 9999 rfl (by repeat (first | exact obs_nil | refine obs_draw (by kernel_rfl) ?_ | refine obs_same ?_ | refine obs_and ?_ | refine obs_by (by (simp [inB, hlt', hrl] <;> omega)) ?_)) ?_
      refine runS_tell 0 (fun k => [iv (cntP l vals (i + 1) k)]) rfl rfl (fun k hk => ?_) rfl ?_
      · by_cases hki : k = i
        · rw [hki]
          refine Eq.trans ?_ setR_self.symm
          rw [cntP, if_pos (by omega), cntV, hr']
          rfl
        · refine Eq.trans ?_ (setR_ne hki).symm
          show _ = [iv (if k = i then (fat l i).count else cntP l vals i k)]
          rw [if_neg hki]
          unfold cntP
          by_cases h' : k < i
          · rw [if_pos h', if_pos (by omega)]
          · rw [if_neg h', if_neg (by omega)]
      refine ih (i + 1) _ _ (by omega) ⟨⟨rfl, rfl, rfl, rfl, ?_, congrArg iv hw2⟩, rfl, by omega⟩
      show iv (IntKind.wrap .i64 ((rfN l i : Int) + 1)) = _
      rw [rfN_succ, hr', w64 (by omega) (by omega)]; rfl
    · have hr' : isRef l i = false := hr
      refine runS_x (I := inf) (J := jnf) ⟨false, false, [], 0, 0⟩ 9999 rfl (by repeat (first | exact obs_nil | refine obs_draw (by kernel_rfl) ?_ | refine obs_same ?_ | refine obs_and ?_ | refine obs_by (by (simp [inB] <;> omega)) ?_)) ?_
      refine ih (i + 1) _ _ (by omega) ⟨⟨rfl, rfl, rfl, rfl, ?_, congrArg iv hw2⟩, ?_, by omega⟩
      · rw [rfN_succ, hr']; rfl
      · have : (fun k => [iv (cntP l vals (i + 1) k)]) = (fun k => [iv (if k = i then (fat l i).count else cntP l vals i k)]) := by
          funext k
          unfold cntP
          by_cases hki : k = i
          · rw [if_pos hki, if_pos (by omega), hki, cntV, hr']; rfl
          · rw [if_neg hki]
            by_cases h' : k < i
            · rw [if_pos h', if_pos (by omega)]
            · rw [if_neg h', if_neg (by omega)]
        rw [this]
  have hie : i = l.length := by simp at hlt; omega
  subst hie
  refine runS_tell 0 (fun k => [iv (cntV l vals k)]) rfl rfl (fun k hk => ?_) rfl ?_
  · show _ = [iv (cntP l vals l.length k)]
    rw [cntP, if_pos hk]
  refine runS_x (I := inf) (J := jnf) ⟨false, false, [], 0, 0⟩ 9999 rfl (by repeat (first | exact obs_nil | refine obs_draw (by kernel_rfl) ?_ | refine obs_same ?_ | refine obs_and ?_ | refine obs_by (by (simp [inB] <;> omega)) ?_)) ?_
  refine runS_tell 1 (fun k => [iv (parP l 0 k)]) rfl (m' := l.length) (by simp) (fun k hk => rfl) rfl ?_
  refine runS_while (fun (i : Nat) τ ar => (τ 0 = fldS nl l ∧ τ 5 = .slc 3 none l.length (fun k => spE (spotK l (cntN l vals) k)) ∧ τ 15 = .row 0 0 ∧ τ 18 = .row 1 0 ∧ τ 146 = iv l.length ∧ τ 147 = iv i) ∧ ar = [.row 3 1 0 l.length (fun k => [iv (cntV l vals k)]), .row 3 1 0 l.length (fun k => [iv (parP l i k)])] ∧ i ≤ l.length) (fun i => l.length - i) 0
    ⟨⟨rfl, rfl, rfl, rfl, rfl, rfl⟩, rfl, Nat.zero_le _⟩ ?_
  rintro i τ' ar' ⟨⟨g0, g5, g15, g18, g146, g147⟩, rfl, hi⟩ ih
  refine runS_says 0 (by exact g0) (Says.refl _) ?_; refine runS_says 5 (by exact g5) (Says.refl _) ?_; refine runS_says 15 (by exact g15) (Says.refl _) ?_; refine runS_says 18 (by exact g18) (Says.refl _) ?_; refine runS_says 146 (by exact g146) (Says.refl _) ?_; refine runS_says 147 (by exact g147) (Says.refl _) ?_
  refine runS_x (I := inf) (J := jnf) ⟨false, false, [], 0, 0⟩ 9999 rfl (by repeat (first | exact obs_nil | refine obs_draw (by kernel_rfl) ?_ | refine obs_same ?_ | refine obs_and ?_ | refine obs_by (by (simp [inB] <;> omega)) ?_)) ?_
  refine runS_cond rfl (fun hlt => ?_) (fun hlt => ?_)
  · have hlt' : i < l.length := by simpa using hlt
    have hw2 : IntKind.wrap .i64 ((i : Int) + 1) = ((i + 1 : Nat) : Int) := by rw [w64 (by omega) (by omega)]; rfl
    have hpf : parentF l i = (opI (par l i), 0) := by rw [parentF, if_pos hv, if_pos ⟨by omega, by omega⟩]; rfl
    have hcall := level_Parent nl l i hs
    rw [hpf] at hcall
    refine runS_x (I := inf) (J := jnf) ⟨false, false, [], 0, 0⟩ 9999 rfl (by repeat (first | exact obs_nil | refine obs_draw (by kernel_rfl) ?_ | refine obs_same ?_ | refine obs_and ?_ | refine obs_by (by (simp [inB] <;> omega)) ?_)) ?_
    refine runS_call rfl rfl rfl rfl rfl rfl rfl hcall ?_
    refine runS_x (I := inf) (J := jnf) ⟨false, false, [], 0, 0⟩ 9999 rfl (by repeat (first | exact obs_nil | refine obs_draw (by kernel_rfl) ?_ | refine obs_same ?_ | refine obs_and ?_ | refine obs_by (by (simp [inB, hlt'] <;> omega)) ?_)) ?_
    refine runS_tell 1 (fun k => [iv (parP l (i + 1) k)]) rfl rfl (fun k hk => ?_) rfl ?_
    · by_cases hki : k = i
      · rw [hki]
        refine Eq.trans ?_ setR_self.symm
        rw [parP, if_pos (by omega)]
      · refine Eq.trans ?_ (setR_ne hki).symm
        show [iv (parP l (i + 1) k)] = [iv (parP l i k)]
        unfold parP
        by_cases h' : k < i
        · rw [if_pos h', if_pos (by omega)]
        · rw [if_neg h', if_neg (by omega)]
    exact ih (i + 1) _ _ (by omega) ⟨⟨rfl, rfl, rfl, rfl, rfl, congrArg iv hw2⟩, rfl, by omega⟩
  have hie : i = l.length := by simp at hlt; omega
  subst hie
  refine runS_tell 1 (fun k => [iv (opI (par l k))]) rfl rfl (fun k hk => ?_) rfl ?_
  · show _ = [iv (parP l l.length k)]
    rw [parP, if_pos hk]
  refine runS_x (I := inf) (J := jnf) ⟨false, false, [], 0, 0⟩ 9999 rfl (by repeat (first | exact obs_nil | refine obs_draw (by kernel_rfl) ?_ | refine obs_same ?_ | refine obs_and ?_ | refine obs_by (by (simp [inB] <;> omega)) ?_)) ?_
  refine runS_while (fun (i : Nat) τ ar => (τ 0 = fldS nl l ∧ τ 5 = .slc 3 none l.length (fun k => spE (spotK l (cntN l vals) k)) ∧ τ 15 = .row 0 0 ∧ τ 18 = .row 1 0 ∧ τ 20 = iv i) ∧ ar = [.row 3 1 0 l.length (fun k => [iv (cntV l vals k)]), .row 3 1 0 l.length (fun k => [iv (opI (par l k))])] ∧ 1 ≤ i ∧ i ≤ l.length) (fun i => l.length - i) 1
    ⟨⟨rfl, rfl, rfl, rfl, rfl⟩, rfl, Nat.le_refl _, by omega⟩ ?_
  rintro i τ' ar' ⟨⟨g0, g5, g15, g18, g20⟩, rfl, hi1, hi⟩ ih
  refine runS_says 0 (by exact g0) (Says.refl _) ?_; refine runS_says 5 (by exact g5) (Says.refl _) ?_; refine runS_says 15 (by exact g15) (Says.refl _) ?_; refine runS_says 18 (by exact g18) (Says.refl _) ?_; refine runS_says 20 (by exact g20) (Says.refl _) ?_
  refine runS_x (I := inf) (J := jnf) ⟨false, false, [], 0, 0⟩ 9999 rfl (by repeat (first | exact obs_nil | refine obs_draw (by kernel_rfl) ?_ | refine obs_same ?_ | refine obs_and ?_ | refine obs_by (by (simp [inB] <;> omega)) ?_)) ?_
  refine runS_cond rfl (fun hlt => ?_) (fun hlt => ?_)
  · have hlt' : i < l.length := by simpa using hlt
    have hw2 : IntKind.wrap .i64 ((i : Int) + 1) = ((i + 1 : Nat) : Int) := by rw [w64 (by omega) (by omega)]; rfl
    obtain ⟨p, hp, hpi⟩ := par_all hv hlt' (by omega)
    refine runS_x (I := inf) (J := jnf) ⟨false, false, [], 0, 0⟩ 9999 rfl (by repeat (first | exact obs_nil | refine obs_draw (by kernel_rfl) ?_ | refine obs_same ?_ | refine obs_and ?_ | refine obs_by (by (simp [inB, hlt'] <;> omega)) ?_)) ?_
    obtain ⟨b1, b2, b3⟩ := lay_le ok hlen.2 hlt'
    have b4 := off_le (cnt := cntN l vals) (i := p) (k := i) (by omega) (mem_kids.2 ⟨hlt', hp⟩)
    have b5 := (lay_le ok hlen.2 (show p < l.length by omega)).1
    obtain ⟨b6, b7⟩ := upR_bound (n := (lay l (cntN l vals) i).1) b2 b3
    have hS' : tkK l (cntN l vals) i = if isArr l i then cntN l vals i * upR (lay l (cntN l vals) i).1 (lay l (cntN l vals) i).2 else (lay l (cntN l vals) i).1 := rfl
    refine runS_cut (fun τ ar => (τ 0 = fldS nl l ∧ τ 5 = .slc 3 none l.length (fun k => spE (spotK l (cntN l vals) k)) ∧ τ 15 = .row 0 0 ∧ τ 18 = .row 1 0 ∧ τ 20 = iv i ∧ τ 21 = iv (p : Int) ∧ τ 22 = iv ((offK l (cntN l vals) i + tkK l (cntN l vals) i : Nat) : Int)) ∧ ar = [.row 3 1 0 l.length (fun k => [iv (cntV l vals k)]), .row 3 1 0 l.length (fun k => [iv (opI (par l k))])]) (fun rest => ?_) ?_
    · refine runS_cond rfl (fun hc => ?_) (fun hc => ?_)
      · have ha : isArr l i = true := (cnt_pos hv hvo hlt').symm.trans hc
        rw [ha, if_pos rfl] at hS'
        refine runS_x (I := inf) (J := jnf) ⟨false, false, [], 7, 0⟩ 9999 rfl (by repeat (first | exact obs_nil | refine obs_draw (by kernel_rfl) ?_ | refine obs_same ?_ | refine obs_and ?_ | refine obs_by (by (simp [inB, hlt'] <;> omega)) ?_)) ?_
        refine rest _ _ ⟨⟨rfl, rfl, rfl, rfl, rfl, ?_, ?_⟩, rfl⟩
        · show iv (opI (par l i)) = _
          rw [hp]; rfl
        · show iv (IntKind.wrap .i64 ((offK l (cntN l vals) i : Int) + IntKind.wrap .i64 (cntV l vals i * (upR (lay l (cntN l vals) i).1 (lay l (cntN l vals) i).2 : Int)))) = _
          rw [← cntN_int hv hvo hlt', ← Int.natCast_mul, ← hS', w64 (x := (tkK l (cntN l vals) i : Int)) (by omega) (by omega), w64 (by omega) (by omega)]
          rfl
      · have ha : isArr l i = false := (cnt_pos hv hvo hlt').symm.trans hc
        rw [ha, if_neg (by decide)] at hS'
        refine runS_x (I := inf) (J := jnf) ⟨false, false, [], 7, 0⟩ 9999 rfl (by repeat (first | exact obs_nil | refine obs_draw (by kernel_rfl) ?_ | refine obs_same ?_ | refine obs_and ?_ | refine obs_by (by (simp [inB] <;> omega)) ?_)) ?_
        refine rest _ _ ⟨⟨rfl, rfl, rfl, rfl, rfl, ?_, ?_⟩, rfl⟩
        · show iv (opI (par l i)) = _
          rw [hp]; rfl
        · show iv (IntKind.wrap .i64 ((offK l (cntN l vals) i : Int) + ((lay l (cntN l vals) i).1 : Int))) = _
          rw [← hS', w64 (by omega) (by omega)]
          rfl
    rintro τ2 ar2 ⟨⟨g0, g5, g15, g18, g20, g21, g22⟩, rfl⟩
    refine runS_says 0 (by exact g0) (Says.refl _) ?_; refine runS_says 5 (by exact g5) (Says.refl _) ?_; refine runS_says 15 (by exact g15) (Says.refl _) ?_; refine runS_says 18 (by exact g18) (Says.refl _) ?_; refine runS_says 20 (by exact g20) (Says.refl _) ?_; refine runS_says 21 (by exact g21) (Says.refl _) ?_; refine runS_says 22 (by exact g22) (Says.refl _) ?_
    have hpl : p < l.length := by omega
    refine runS_x (I := inf) (J := jnf) ⟨false, false, [], 0, 0⟩ 9999 rfl (by repeat (first | exact obs_nil | refine obs_draw (by kernel_rfl) ?_ | refine obs_same ?_ | refine obs_and ?_ | refine obs_by (by (simp [inB, hlt', hpl] <;> omega)) ?_)) ?_
    refine runS_cond rfl (fun h => ?_) (fun h => ?_)
    · exfalso
      have h' : (if decide (((offK l (cntN l vals) i + tkK l (cntN l vals) i : Nat) : Int) > ((lay l (cntN l vals) p).1 : Int)) = true then true else decide ((upR (lay l (cntN l vals) i).1 (lay l (cntN l vals) i).2 : Int) < ((lay l (cntN l vals) i).1 : Int))) = true := h
      have e1 : decide (((offK l (cntN l vals) i + tkK l (cntN l vals) i : Nat) : Int) > ((lay l (cntN l vals) p).1 : Int)) = false := decide_eq_false (by omega)
      have e2 : decide ((upR (lay l (cntN l vals) i).1 (lay l (cntN l vals) i).2 : Int) < ((lay l (cntN l vals) i).1 : Int)) = false := decide_eq_false (by omega)
      rw [e1, e2] at h'
      cases h'
    refine runS_x (I := inf) (J := jnf) ⟨false, false, [], 0, 0⟩ 9999 rfl (by repeat (first | exact obs_nil | refine obs_draw (by kernel_rfl) ?_ | refine obs_same ?_ | refine obs_and ?_ | refine obs_by (by (simp [inB] <;> omega)) ?_)) ?_
    refine runS_while (fun (j : Nat) τ ar => (τ 0 = fldS nl l ∧ τ 5 = .slc 3 none l.length (fun k => spE (spotK l (cntN l vals) k)) ∧ τ 15 = .row 0 0 ∧ τ 18 = .row 1 0 ∧ τ 20 = iv i ∧ τ 21 = iv (p : Int) ∧ τ 22 = iv ((offK l (cntN l vals) i + tkK l (cntN l vals) i : Nat) : Int) ∧ τ 23 = iv j) ∧ ar = [.row 3 1 0 l.length (fun k => [iv (cntV l vals k)]), .row 3 1 0 l.length (fun k => [iv (opI (par l k))])] ∧ i < j ∧ j ≤ l.length) (fun j => l.length - j) (i + 1)
      ⟨⟨rfl, rfl, rfl, rfl, rfl, rfl, rfl, congrArg iv hw2⟩, rfl, by omega, by omega⟩ ?_
    rintro j τ3 ar3 ⟨⟨g0, g5, g15, g18, g20, g21, g22, g23⟩, rfl, hij, hj⟩ ih2
    refine runS_says 0 (by exact g0) (Says.refl _) ?_; refine runS_says 5 (by exact g5) (Says.refl _) ?_; refine runS_says 15 (by exact g15) (Says.refl _) ?_; refine runS_says 18 (by exact g18) (Says.refl _) ?_; refine runS_says 20 (by exact g20) (Says.refl _) ?_; refine runS_says 21 (by exact g21) (Says.refl _) ?_; refine runS_says 22 (by exact g22) (Says.refl _) ?_; refine runS_says 23 (by exact g23) (Says.refl _) ?_
    refine runS_x (I := inf) (J := jnf) ⟨false, false, [], 0, 0⟩ 9999 rfl (by repeat (first | exact obs_nil | refine obs_draw (by kernel_rfl) ?_ | refine obs_same ?_ | refine obs_and ?_ | refine obs_by (by (simp [inB] <;> omega)) ?_)) ?_
    refine runS_cond rfl (fun hlt2 => ?_) (fun hlt2 => ?_)
    · have hj' : j < l.length := by simpa using hlt2
      have hw3 : IntKind.wrap .i64 ((j : Int) + 1) = ((j + 1 : Nat) : Int) := by rw [w64 (by omega) (by omega)]; rfl
      refine runS_x (I := inf) (J := jnf) ⟨false, false, [], 0, 0⟩ 9999 rfl (by repeat (first | exact obs_nil | refine obs_draw (by kernel_rfl) ?_ | refine obs_same ?_ | refine obs_and ?_ | refine obs_by (by (simp [inB, hj', hpl] <;> omega)) ?_)) ?_
      refine runS_cond rfl (fun h => ?_) (fun h => ?_)
      · exfalso
        have h' : (if (if (opI (par l j) == (p : Int)) = true then !(fat l p).union else false) = true then decide ((offK l (cntN l vals) j : Int) < ((offK l (cntN l vals) i + tkK l (cntN l vals) i : Nat) : Int)) else false) = true := h
        have hpj : par l j = some p := by
          cases hq : par l j with
          | none => rw [hq] at h'; simp [opI] at h'
          | some q =>
            rw [hq] at h'
            simp [opI] at h'
            rw [show q = p by omega]
        have hu : (fat l p).union = false := by
          cases hu : (fat l p).union with
          | false => rfl
          | true => rw [hu] at h'; simp at h'
        have := off_later ok hu hij hj' hp hpj
        rw [hpj, hu] at h'
        simp [opI] at h'
        omega
      refine runS_x (I := inf) (J := jnf) ⟨false, false, [], 0, 0⟩ 9999 rfl (by repeat (first | exact obs_nil | refine obs_draw (by kernel_rfl) ?_ | refine obs_same ?_ | refine obs_and ?_ | refine obs_by (by (simp [inB] <;> omega)) ?_)) ?_
      exact ih2 (j + 1) _ _ (by omega) ⟨⟨rfl, rfl, rfl, rfl, rfl, rfl, rfl, congrArg iv hw3⟩, rfl, by omega, by omega⟩
    refine runS_x (I := inf) (J := jnf) ⟨false, false, [], 0, 0⟩ 9999 rfl (by repeat (first | exact obs_nil | refine obs_draw (by kernel_rfl) ?_ | refine obs_same ?_ | refine obs_and ?_ | refine obs_by (by (simp [inB] <;> omega)) ?_)) ?_
    exact ih (i + 1) _ _ (by omega) ⟨⟨rfl, rfl, rfl, rfl, congrArg iv hw2⟩, rfl, by omega, by omega⟩
  refine runS_x (I := inf) (J := jnf) ⟨false, false, [], 0, 0⟩ 9999 rfl (by repeat (first | exact obs_nil | refine obs_draw (by kernel_rfl) ?_ | refine obs_same ?_ | refine obs_and ?_ | refine obs_by (by (simp [inB] <;> omega)) ?_)) ?_
  refine runS_call rfl rfl rfl rfl rfl rfl rfl lev_awake ?_
  refine runS_x (I := inf) (J := jnf) ⟨false, false, [], 0, 0⟩ 9999 rfl (by repeat (first | exact obs_nil | refine obs_draw (by kernel_rfl) ?_ | refine obs_same ?_ | refine obs_and ?_ | refine obs_by (by (simp [inB] <;> omega)) ?_)) ?_
  refine runS_ret (I := inf) 0 rfl (Nat.le_refl _) rfl .nil rfl ⟨?_, rfl⟩
  rfl
theorem lev_LevelLays (nl n2 : Option Bool) (l : List Fld) (vals : List Int) (hb : l.length * 104 ≤ 140737488351232) (hb2 : vals.length * 8 ≤ 140737488351232) : CallT Try.prog 7 [fldS nl l, intS n2 vals] [] (fun o A => o = .ret (bv true) ∧ A = []) := by
  refine callS_body (n := 24) rfl rfl fun w ρ X => ?_
  refine runS_x (I := inf) (J := jnf) ⟨false, false, [], 0, 0⟩ 9999 rfl (by repeat (first | exact obs_nil | refine obs_draw (by kernel_rfl) ?_ | refine obs_same ?_ | refine obs_and ?_ | refine obs_by (by (simp [inB] <;> omega)) ?_)) ?_
  refine runS_call rfl rfl rfl rfl rfl rfl rfl (stay_fields nl l (by omega)) ?_
  refine runS_x (I := inf) (J := jnf) ⟨false, false, [], 0, 0⟩ 9999 rfl (by repeat (first | exact obs_nil | refine obs_draw (by kernel_rfl) ?_ | refine obs_same ?_ | refine obs_and ?_ | refine obs_by (by (simp [inB] <;> omega)) ?_)) ?_
  refine runS_call rfl rfl rfl rfl rfl rfl rfl (stay_ints n2 vals (by omega)) ?_
  refine runS_x (I := inf) (J := jnf) ⟨false, false, [], 0, 0⟩ 9999 rfl (by repeat (first | exact obs_nil | refine obs_draw (by kernel_rfl) ?_ | refine obs_same ?_ | refine obs_and ?_ | refine obs_by (by (simp [inB] <;> omega)) ?_)) ?_
  refine runS_call rfl rfl rfl rfl rfl rfl rfl (lev_levelLays nl n2 l vals (by omega)) ?_
  refine runS_x (I := inf) (J := jnf) ⟨false, false, [], 0, 0⟩ 9999 rfl (by repeat (first | exact obs_nil | refine obs_draw (by kernel_rfl) ?_ | refine obs_same ?_ | refine obs_and ?_ | refine obs_by (by (simp [inB] <;> omega)) ?_)) ?_
  refine runS_callU rfl rfl (by first | exact .v rfl rfl rfl rfl | exact .o rfl rfl rfl rfl) rfl rfl (by repeat (first | exact .nil | refine .cons (.n rfl) ?_ | refine .cons .o ?_ | refine .cons gok_and ?_)) rfl rfl rfl rfl rfl (fun _ => (stay_sameFields _ _ l l (by omega))) ?_
  refine runS_x (I := inf) (J := jnf) ⟨false, false, [], 0, 0⟩ 9999 rfl (by repeat (first | exact obs_nil | refine obs_draw (by kernel_rfl) ?_ | refine obs_same ?_ | refine obs_and ?_ | refine obs_by (by (simp [inB] <;> omega)) ?_)) ?_
  refine runS_callU rfl rfl (by first | exact .v rfl rfl rfl rfl | exact .o rfl rfl rfl rfl) rfl rfl (by repeat (first | exact .nil | refine .cons (.n rfl) ?_ | refine .cons .o ?_ | refine .cons gok_and ?_)) rfl rfl rfl rfl rfl (fun _ => (stay_sameInts _ _ vals vals (by omega))) ?_
  refine runS_x (I := inf) (J := jnf) ⟨false, false, [], 0, 0⟩ 9999 rfl (by repeat (first | exact obs_nil | refine obs_draw (by kernel_rfl) ?_ | refine obs_same ?_ | refine obs_and ?_ | refine obs_by (by (simp [inB] <;> omega)) ?_)) ?_
  refine runS_ret (I := inf) 0 rfl (Nat.le_refl _) rfl .nil rfl ⟨?_, rfl⟩
  show Out.ret (bv (if (if true = true then decide (l = l) else false) = true then decide (vals = vals) else false)) = _
  simp
end Go.Iron.Try
