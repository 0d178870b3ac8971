/- The array package's functions (seat Ytamhonbhoelohaa): lists of bounds, Together. -/
import Derived.Test.YtamhonbhoelohaaArrY
import Derived.Test.YtamhonbhoelohaaArrQ
namespace Go.Iron.Try
open Go.Proofs

def lstE (d : List Dim) : List AV := [dimS none d]
def lstS (nl : Option Bool) (l : List (List Dim)) : AV := .slc 1 nl l.length (encR lstE [] l)

theorem stay_lists (nl : Option Bool) (l : List (List Dim)) (hb : l.length * 24 ≤ 140737488355328) (hb2 : ∀ d ∈ l, d.length * 16 ≤ 140737488355328) : CallT Try.prog 22 [lstS nl l] [] (fun out A => out = .ret (lstS none l) ∧ A = []) := by
  refine callS_body (n := 20) rfl rfl fun w ρ X => ?_
  refine runS_x (I := inf) (J := jnf) ⟨false, false, []⟩ 9999 rfl (by repeat (first | exact obs_nil | refine obs_draw (by kernel_rfl) ?_ | refine obs_same ?_ | refine obs_and ?_ | refine obs_by (by (simp [inB] <;> omega)) ?_)) ?_
  refine runS_nilRow 3 22 1 (encR lstE [] []) rfl rfl ?_
  refine runS_while (fun (i : Nat) τ ar => (τ 0 = lstS nl l ∧ τ 3 = .row 0 i ∧ τ 4 = iv i) ∧ ar = [.row 22 1 i (l.take i).length (encR lstE [] (l.take i))] ∧ i ≤ l.length) (fun i => l.length - i) 0
    ⟨⟨rfl, rfl, rfl⟩, rfl, Nat.zero_le _⟩ ?_
  rintro i τ' ar' ⟨⟨g0, g3, g4⟩, rfl, hi⟩ ih
  have htl : (l.take i).length = i := by simp; omega
  refine runS_says 0 (by exact g0) (Says.refl _) ?_; refine runS_says 3 (by exact g3) (Says.refl _) ?_; refine runS_says 4 (by exact g4) (Says.refl _) ?_
  refine runS_x (I := inf) (J := jnf) ⟨false, false, []⟩ 9999 rfl (by repeat (first | exact obs_nil | refine obs_draw (by kernel_rfl) ?_ | refine obs_same ?_ | refine obs_and ?_ | refine obs_by (by (simp [inB] <;> omega)) ?_)) ?_
  refine runS_cond rfl (fun hlt => ?_) (fun hlt => ?_)
  · have hlt' : i < l.length := by simpa using hlt
    have hmem : l.getD ((i : Nat) : Int).toNat [] ∈ l := by rw [Int.toNat_natCast, List.getD_eq_getElem?_getD, List.getElem?_eq_getElem hlt', Option.getD_some]; exact List.getElem_mem _
    refine runS_x (I := inf) (J := jnf) ⟨false, false, []⟩ 9999 rfl (by repeat (first | exact obs_nil | refine obs_draw (by kernel_rfl) ?_ | refine obs_same ?_ | refine obs_and ?_ | refine obs_by (by (simp [inB, hlt'] <;> omega)) ?_)) ?_
    refine runS_call rfl rfl rfl rfl rfl rfl rfl (stay_dims none (l.getD ((i : Nat) : Int).toNat []) (hb2 _ hmem)) ?_
    refine runS_x (I := inf) (J := jnf) ⟨false, false, []⟩ 9999 rfl (by repeat (first | exact obs_nil | refine obs_draw (by kernel_rfl) ?_ | refine obs_same ?_ | refine obs_and ?_ | refine obs_by (by (simp [inB, hlt', htl] <;> omega)) ?_)) ?_
    have hts : l.take i ++ [l.getD ((i : Nat) : Int).toNat []] = l.take (i + 1) := by
      rw [Int.toNat_natCast, List.take_succ_eq_append_getElem hlt', List.getD_eq_getElem?_getD, List.getElem?_eq_getElem hlt', Option.getD_some]
    refine runS_tell 0 (encR lstE [] (l.take i ++ [l.getD ((i : Nat) : Int).toNat []])) rfl (m' := (l.take i ++ [l.getD ((i : Nat) : Int).toNat []]).length) (by simp) (encR_snoc rfl) rfl ?_
    rw [hts]
    refine runS_drop 1 (Nat.zero_le _) rfl (by repeat (first | exact .nil | refine .row (fun j hj => rfl) ?_ | refine .box rfl ?_ | refine .loop (scrub_under _ _) ?_ | refine .dfr ?_ | refine .gone ?_)) rfl rfl rfl (by repeat (first | exact .nil | refine .cons rfl rfl rfl (scrub_under _ _) ?_)) ?_
    refine ih (i + 1) _ _ (by omega) ⟨⟨rfl, rfl, ?_⟩, rfl, by omega⟩
    show iv (IntKind.wrap .i64 ((i : Int) + 1)) = _
    rw [w64 (by omega) (by omega)]; rfl
  have hi' : i = l.length := by simp at hlt; omega
  subst hi'
  rw [List.take_length]
  refine runS_x (I := inf) (J := jnf) ⟨false, false, []⟩ 9999 rfl (by repeat (first | exact obs_nil | refine obs_draw (by kernel_rfl) ?_ | refine obs_same ?_ | refine obs_and ?_ | refine obs_by (by (simp [inB] <;> omega)) ?_)) ?_
  refine runS_freeze 2 rfl rfl rfl (fun j hj => rfl) ?_
  refine runS_ret (I := inf) 0 rfl (Nat.le_refl _) rfl .nil rfl ⟨?_, rfl⟩
  rfl

theorem stay_sameLists (n1 n2 : Option Bool) (l : List (List Dim)) (hb : l.length < 9223372036854775807) (hb2 : ∀ d ∈ l, d.length < 9223372036854775807) : CallT Try.prog 24 [lstS n1 l, lstS n2 l] [] (fun out A => out = .ret (bv true) ∧ A = []) := by
  refine callS_body (n := 27) rfl rfl fun w ρ X => ?_
  refine runS_x (I := inf) (J := jnf) ⟨false, false, []⟩ 9999 rfl (by repeat (first | exact obs_nil | refine obs_draw (by kernel_rfl) ?_ | refine obs_same ?_ | refine obs_and ?_ | refine obs_by (by (simp [inB] <;> omega)) ?_)) ?_
  refine runS_cond rfl (fun h => ?_) (fun h => ?_)
  · exfalso; simp at h
  refine runS_x (I := inf) (J := jnf) ⟨false, false, []⟩ 9999 rfl (by repeat (first | exact obs_nil | refine obs_draw (by kernel_rfl) ?_ | refine obs_same ?_ | refine obs_and ?_ | refine obs_by (by (simp [inB] <;> omega)) ?_)) ?_
  refine runS_while (fun (i : Nat) τ ar => (τ 0 = lstS n1 l ∧ τ 1 = lstS n2 l ∧ τ 5 = iv i) ∧ ar = [] ∧ i ≤ l.length) (fun i => l.length - i) 0
    ⟨⟨rfl, rfl, rfl⟩, rfl, Nat.zero_le _⟩ ?_
  rintro i τ' ar' ⟨⟨g0, g1, g5⟩, rfl, hi⟩ ih
  refine runS_says 0 (by exact g0) (Says.refl _) ?_; refine runS_says 1 (by exact g1) (Says.refl _) ?_; refine runS_says 5 (by exact g5) (Says.refl _) ?_
  refine runS_x (I := inf) (J := jnf) ⟨false, false, []⟩ 9999 rfl (by repeat (first | exact obs_nil | refine obs_draw (by kernel_rfl) ?_ | refine obs_same ?_ | refine obs_and ?_ | refine obs_by (by (simp [inB] <;> omega)) ?_)) ?_
  refine runS_cond rfl (fun hlt => ?_) (fun hlt => ?_)
  · have hlt' : i < l.length := by simpa using hlt
    have hmem : l.getD ((i : Nat) : Int).toNat [] ∈ l := by rw [Int.toNat_natCast, List.getD_eq_getElem?_getD, List.getElem?_eq_getElem hlt', Option.getD_some]; exact List.getElem_mem _
    refine runS_x (I := inf) (J := jnf) ⟨false, false, []⟩ 9999 rfl (by repeat (first | exact obs_nil | refine obs_draw (by kernel_rfl) ?_ | refine obs_same ?_ | refine obs_and ?_ | refine obs_by (by (simp [inB] <;> omega)) ?_)) ?_
    refine runS_draw 10 (by kernel_rfl) (lexj_x (I := inf) (J := jnf) 99 rfl rfl (by repeat (first | exact obs_nil | refine obs_same ?_ | refine obs_and ?_ | refine obs_by (by (simp [inB, hlt'] <;> omega)) ?_)) (lexj_call rfl rfl rfl rfl rfl rfl rfl rfl (stay_sameDims none none (l.getD ((i : Nat) : Int).toNat []) (l.getD ((i : Nat) : Int).toNat []) (hb2 _ hmem)) (lexj_x (I := inf) (J := jnf) 99 rfl rfl (by repeat (first | exact obs_nil | refine obs_same ?_ | refine obs_and ?_ | refine obs_by (by (simp [inB, hlt'] <;> omega)) ?_)) lexj_nil))) ?_
    refine runS_x (I := inf) (J := jnf) ⟨false, false, []⟩ 9999 rfl (by repeat (first | exact obs_nil | refine obs_draw (by kernel_rfl) ?_ | refine obs_same ?_ | refine obs_and ?_ | refine obs_by (by (simp [inB] <;> omega)) ?_)) ?_
    refine runS_cond rfl (fun hc => ?_) (fun hc => ?_)
    · exfalso; simp at hc
    refine runS_x (I := inf) (J := jnf) ⟨false, false, []⟩ 9999 rfl (by repeat (first | exact obs_nil | refine obs_draw (by kernel_rfl) ?_ | refine obs_same ?_ | refine obs_and ?_ | refine obs_by (by (simp [inB] <;> omega)) ?_)) ?_
    refine ih (i + 1) _ _ (by omega) ⟨⟨rfl, rfl, ?_⟩, rfl, by omega⟩
    show iv (IntKind.wrap .i64 ((i : Int) + 1)) = _
    rw [w64 (by omega) (by omega)]; rfl
  refine runS_x (I := inf) (J := jnf) ⟨false, false, []⟩ 9999 rfl (by repeat (first | exact obs_nil | refine obs_draw (by kernel_rfl) ?_ | refine obs_same ?_ | refine obs_and ?_ | refine obs_by (by (simp [inB] <;> omega)) ?_)) ?_
  refine runS_ret (I := inf) 0 rfl (Nat.le_refl _) rfl .nil rfl ⟨?_, rfl⟩
  rfl

theorem clone_dims (d : List Dim) (hd : 0 < d.length) (hb : d.length * 16 ≤ 140737488355328) : CallT Try.prog 111 [dimS (some false) d] [] (fun out A => out = .ret (dimS (some false) d) ∧ A = []) := by
  refine callS_body (n := 8) rfl rfl fun w ρ X => ?_
  refine runS_x (I := inf) (J := jnf) ⟨false, false, []⟩ 9999 rfl (by repeat (first | exact obs_nil | refine obs_draw (by kernel_rfl) ?_ | refine obs_same ?_ | refine obs_and ?_ | refine obs_by (by (simp [inB] <;> omega)) ?_)) ?_
  refine runS_cond rfl (fun h => ?_) (fun h => ?_)
  · cases h
  refine runS_x (I := inf) (J := jnf) ⟨false, false, []⟩ 9999 rfl (by repeat (first | exact obs_nil | refine obs_draw (by kernel_rfl) ?_ | refine obs_same ?_ | refine obs_and ?_ | refine obs_by (by (simp [inB, hb] <;> omega)) ?_)) ?_
  refine runS_freeze 2 rfl rfl rfl (fun i hi => by rw [appR_zero]; rfl) ?_
  refine runS_says 2 rfl (y := .slc 2 (some false) (0 + d.length) _) (says_nn (by omega)) ?_
  refine runS_ret (I := inf) 0 rfl (Nat.le_refl _) rfl .nil rfl ⟨?_, rfl⟩
  show Out.ret (.slc 2 (some false) (0 + d.length) _) = _
  rw [appR_zero, Nat.zero_add]
  rfl

/-- The bounds of an expression. -/
def badT (d : List Dim) : Bool := decide (0 < d.length) && !validD d
def togL : List (List Dim) → List Dim → List Dim × Int
  | [], acc => (acc, 0)
  | d :: l, acc => if d.length = 0 then togL l acc else if 0 < acc.length ∧ ¬ acc = d then ([], 11) else togL l d
def togetherF (l : List (List Dim)) : List Dim × Int := if l.any badT = true then ([], 1) else togL l []

theorem a_Together (nl : Option Bool) (l : List (List Dim)) (hb : l.length < 1000) (hb2 : ∀ d ∈ l, d.length < 1000) : CallT Try.prog 62 [lstS nl l] [] (fun out A => out = .ret (.tup [dimS none (togetherF l).1, iv (togetherF l).2]) ∧ A = []) := by
  refine callS_body (n := 45) rfl rfl fun w ρ X => ?_
  refine runS_x (I := inf) (J := jnf) ⟨false, false, []⟩ 9999 rfl (by repeat (first | exact obs_nil | refine obs_draw (by kernel_rfl) ?_ | refine obs_same ?_ | refine obs_and ?_ | refine obs_by (by (simp [inB] <;> omega)) ?_)) ?_
  refine runS_while (fun (i : Nat) τ ar => (τ 0 = lstS nl l ∧ τ 4 = .val (.slice none 0 0) ∧ τ 9 = lstS nl l ∧ τ 10 = iv l.length ∧ τ 11 = iv i) ∧ ar = [] ∧ i ≤ l.length ∧ (l.drop i).any badT = l.any badT) (fun i => l.length - i) 0
    ⟨⟨rfl, rfl, rfl, rfl, rfl⟩, rfl, Nat.zero_le _, rfl⟩ ?_
  rintro i τ' ar' ⟨⟨g0, g4, g9, g10, g11⟩, rfl, hi, hd⟩ ih
  refine runS_says 0 (by exact g0) (Says.refl _) ?_; refine runS_says 4 (by exact g4) (Says.refl _) ?_; refine runS_says 9 (by exact g9) (Says.refl _) ?_; refine runS_says 10 (by exact g10) (Says.refl _) ?_; refine runS_says 11 (by exact g11) (Says.refl _) ?_
  refine runS_x (I := inf) (J := jnf) ⟨false, false, []⟩ 9999 rfl (by repeat (first | exact obs_nil | refine obs_draw (by kernel_rfl) ?_ | refine obs_same ?_ | refine obs_and ?_ | refine obs_by (by (simp [inB] <;> omega)) ?_)) ?_
  refine runS_cond rfl (fun hlt => ?_) (fun hlt => ?_)
  · have hlt' : i < l.length := by simpa using hlt
    have hmem : l.getD ((i : Nat) : Int).toNat [] ∈ l := by rw [Int.toNat_natCast, List.getD_eq_getElem?_getD, List.getElem?_eq_getElem hlt', Option.getD_some]; exact List.getElem_mem _
    rw [getD_drop (d := ([] : List Dim)) hlt', List.any_cons] at hd
    refine runS_x (I := inf) (J := jnf) ⟨false, false, []⟩ 9999 rfl (by repeat (first | exact obs_nil | refine obs_draw (by kernel_rfl) ?_ | refine obs_same ?_ | refine obs_and ?_ | refine obs_by (by (simp [inB, hlt'] <;> omega)) ?_)) ?_
    generalize hx : l.getD ((i : Nat) : Int).toNat [] = x at hmem
    rw [Int.toNat_natCast] at hx
    rw [hx] at hd
    refine runS_callU rfl rfl (by first | exact .v rfl rfl rfl rfl | exact .o rfl rfl rfl rfl) rfl rfl (by repeat (first | exact .nil | refine .cons (.n rfl) ?_ | refine .cons .o ?_ | refine .cons gok_and ?_)) rfl rfl rfl rfl rfl (fun _ => (a_Valid none x)) ?_
    refine runS_x (I := inf) (J := jnf) ⟨false, false, []⟩ 9999 rfl (by repeat (first | exact obs_nil | refine obs_draw (by kernel_rfl) ?_ | refine obs_same ?_ | refine obs_and ?_ | refine obs_by (by (simp [inB] <;> omega)) ?_)) ?_
    refine runS_cond rfl (fun hc => ?_) (fun hc => ?_)
    · have hbt : badT x = true := by
        unfold badT
        by_cases h0 : 0 < x.length <;> simp_all
      rw [hbt, Bool.true_or] at hd
      refine runS_x (I := inf) (J := jnf) ⟨false, false, []⟩ 9999 rfl (by repeat (first | exact obs_nil | refine obs_draw (by kernel_rfl) ?_ | refine obs_same ?_ | refine obs_and ?_ | refine obs_by (by (simp [inB] <;> omega)) ?_)) ?_
      refine runS_says 2 rfl (says_nil0 (sz := 2) (r := nilD) (Nat.zero_le _)) ?_
      refine runS_ret (I := inf) 0 rfl (Nat.le_refl _) rfl .nil rfl ⟨?_, rfl⟩
      rw [togetherF, if_pos hd.symm]
      rfl
    · have hbt : badT x = false := by
        unfold badT
        by_cases h0 : 0 < x.length <;> simp_all
      rw [hbt, Bool.false_or] at hd
      refine runS_x (I := inf) (J := jnf) ⟨false, false, []⟩ 9999 rfl (by repeat (first | exact obs_nil | refine obs_draw (by kernel_rfl) ?_ | refine obs_same ?_ | refine obs_and ?_ | refine obs_by (by (simp [inB] <;> omega)) ?_)) ?_
      refine ih (i + 1) _ _ (by omega) ⟨⟨rfl, rfl, rfl, rfl, ?_⟩, rfl, by omega, hd⟩
      show iv (IntKind.wrap .i64 ((i : Int) + 1)) = _
      rw [w64 (by omega) (by omega)]; rfl
  have hi' : i = l.length := by simp at hlt; omega
  subst hi'
  rw [List.drop_length, List.any_nil] at hd
  obtain ⟨R, hR⟩ : ∃ R, R = togL l [] := ⟨_, rfl⟩
  have hF : togetherF l = R := by rw [togetherF, if_neg (by rw [← hd]; simp), hR]
  rw [hF]
  refine runS_x (I := inf) (J := jnf) ⟨false, false, []⟩ 9999 rfl (by repeat (first | exact obs_nil | refine obs_draw (by kernel_rfl) ?_ | refine obs_same ?_ | refine obs_and ?_ | refine obs_by (by (simp [inB] <;> omega)) ?_)) ?_
  refine runS_says 4 rfl (y := dimS (some true) []) (says_nil (Nat.zero_le _)) ?_
  refine runS_while (fun (x : Nat × List Dim) τ ar => (τ 4 = dimS (some (decide (x.2.length = 0))) x.2 ∧ τ 24 = lstS nl l ∧ τ 25 = iv l.length ∧ τ 26 = iv x.1) ∧ ar = [] ∧ x.1 ≤ l.length ∧ x.2.length < 1000 ∧ togL (l.drop x.1) x.2 = R) (fun x => l.length - x.1) (0, [])
    ⟨⟨rfl, rfl, rfl, rfl⟩, rfl, Nat.zero_le _, by simp, hR.symm⟩ ?_
  rintro ⟨i, acc⟩ τ' ar' ⟨⟨g4, g24, g25, g26⟩, rfl, hi, hac, hd⟩ ih
  dsimp only at g4 g26 hi hac hd ih
  refine runS_says 4 (by exact g4) (Says.refl _) ?_; refine runS_says 24 (by exact g24) (Says.refl _) ?_; refine runS_says 25 (by exact g25) (Says.refl _) ?_; refine runS_says 26 (by exact g26) (Says.refl _) ?_
  refine runS_x (I := inf) (J := jnf) ⟨false, false, []⟩ 9999 rfl (by repeat (first | exact obs_nil | refine obs_draw (by kernel_rfl) ?_ | refine obs_same ?_ | refine obs_and ?_ | refine obs_by (by (simp [inB] <;> omega)) ?_)) ?_
  refine runS_cond rfl (fun hlt => ?_) (fun hlt => ?_)
  · have hlt' : i < l.length := by simpa using hlt
    have hmem : l.getD ((i : Nat) : Int).toNat [] ∈ l := by rw [Int.toNat_natCast, List.getD_eq_getElem?_getD, List.getElem?_eq_getElem hlt', Option.getD_some]; exact List.getElem_mem _
    rw [getD_drop (d := ([] : List Dim)) hlt', togL] at hd
    refine runS_x (I := inf) (J := jnf) ⟨false, false, []⟩ 9999 rfl (by repeat (first | exact obs_nil | refine obs_draw (by kernel_rfl) ?_ | refine obs_same ?_ | refine obs_and ?_ | refine obs_by (by (simp [inB, hlt'] <;> omega)) ?_)) ?_
    generalize hx : l.getD ((i : Nat) : Int).toNat [] = x at hmem
    rw [Int.toNat_natCast] at hx
    rw [hx] at hd
    have hxb := hb2 x hmem
    refine runS_cond rfl (fun hc => ?_) (fun hc => ?_)
    · have h0 : x.length = 0 := by simpa using hc
      rw [if_pos h0] at hd
      refine runS_x (I := inf) (J := jnf) ⟨false, false, []⟩ 9999 rfl (by repeat (first | exact obs_nil | refine obs_draw (by kernel_rfl) ?_ | refine obs_same ?_ | refine obs_and ?_ | refine obs_by (by (simp [inB] <;> omega)) ?_)) ?_
      refine ih (i + 1, acc) _ _ (by dsimp only; omega) ⟨⟨rfl, rfl, rfl, ?_⟩, rfl, by dsimp only; omega, hac, hd⟩
      show iv (IntKind.wrap .i64 ((i : Int) + 1)) = _
      rw [w64 (by omega) (by omega)]; rfl
    · have h0 : ¬ x.length = 0 := by simp at hc; simp; exact hc
      rw [if_neg h0] at hd
      refine runS_says 8 rfl (y := dimS (some false) x) (says_nn (by omega)) ?_
      refine runS_x (I := inf) (J := jnf) ⟨false, false, []⟩ 9999 rfl (by repeat (first | exact obs_nil | refine obs_draw (by kernel_rfl) ?_ | refine obs_same ?_ | refine obs_and ?_ | refine obs_by (by (simp [inB] <;> omega)) ?_)) ?_
      refine runS_callU rfl rfl (by first | exact .v rfl rfl rfl rfl | exact .o rfl rfl rfl rfl) rfl rfl (by repeat (first | exact .nil | refine .cons (.n rfl) ?_ | refine .cons .o ?_ | refine .cons gok_and ?_)) rfl rfl rfl rfl rfl (fun _ => (slices_equalDims (some (decide (acc.length = 0))) (some false) acc x (by omega))) ?_
      refine runS_x (I := inf) (J := jnf) ⟨false, false, []⟩ 9999 rfl (by repeat (first | exact obs_nil | refine obs_draw (by kernel_rfl) ?_ | refine obs_same ?_ | refine obs_and ?_ | refine obs_by (by (simp [inB] <;> omega)) ?_)) ?_
      refine runS_cond rfl (fun hq => ?_) (fun hq => ?_)
      · have hq' : 0 < acc.length ∧ ¬ acc = x := by
          by_cases h1 : acc.length = 0 <;> by_cases h2 : acc = x <;> simp [h1, h2] at hq ⊢
          omega
        rw [if_pos hq'] at hd
        refine runS_x (I := inf) (J := jnf) ⟨false, false, []⟩ 9999 rfl (by repeat (first | exact obs_nil | refine obs_draw (by kernel_rfl) ?_ | refine obs_same ?_ | refine obs_and ?_ | refine obs_by (by (simp [inB] <;> omega)) ?_)) ?_
        refine runS_says 2 rfl (says_nil0 (sz := 2) (r := nilD) (Nat.zero_le _)) ?_
        refine runS_ret (I := inf) 0 rfl (Nat.le_refl _) rfl .nil rfl ⟨?_, rfl⟩
        rw [← hd]
        rfl
      · have hq' : ¬ (0 < acc.length ∧ ¬ acc = x) := by
          by_cases h1 : acc.length = 0 <;> by_cases h2 : acc = x <;> simp [h1, h2] at hq ⊢
        rw [if_neg hq'] at hd
        refine runS_x (I := inf) (J := jnf) ⟨false, false, []⟩ 9999 rfl (by repeat (first | exact obs_nil | refine obs_draw (by kernel_rfl) ?_ | refine obs_same ?_ | refine obs_and ?_ | refine obs_by (by (simp [inB] <;> omega)) ?_)) ?_
        refine runS_call rfl rfl rfl rfl rfl rfl rfl (clone_dims x (by omega) (by omega)) ?_
        refine runS_x (I := inf) (J := jnf) ⟨false, false, []⟩ 9999 rfl (by repeat (first | exact obs_nil | refine obs_draw (by kernel_rfl) ?_ | refine obs_same ?_ | refine obs_and ?_ | refine obs_by (by (simp [inB] <;> omega)) ?_)) ?_
        refine ih (i + 1, x) _ _ (by dsimp only; omega) ⟨⟨?_, rfl, rfl, ?_⟩, rfl, by dsimp only; omega, hxb, hd⟩
        · dsimp only
          rw [decide_eq_false h0]
          rfl
        · show iv (IntKind.wrap .i64 ((i : Int) + 1)) = _
          rw [w64 (by omega) (by omega)]; rfl
  have hi' : i = l.length := by simp at hlt; omega
  subst hi'
  rw [List.drop_length, togL] at hd
  refine runS_x (I := inf) (J := jnf) ⟨false, false, []⟩ 9999 rfl (by repeat (first | exact obs_nil | refine obs_draw (by kernel_rfl) ?_ | refine obs_same ?_ | refine obs_and ?_ | refine obs_by (by (simp [inB] <;> omega)) ?_)) ?_
  refine runS_says 2 rfl (y := dimS none acc) says_nl ?_
  refine runS_ret (I := inf) 0 rfl (Nat.le_refl _) rfl .nil rfl ⟨?_, rfl⟩
  rw [← hd]
  rfl

theorem r_Together (nl : Option Bool) (l : List (List Dim)) (hb : l.length < 1000) (hb2 : ∀ d ∈ l, d.length < 1000) : CallT Try.prog 63 [lstS nl l] [] (fun out A => out = .ret (.tup [dimS none (togetherF l).1, iv (togetherF l).2]) ∧ A = []) := by
  refine callS_body (n := 58) rfl rfl fun w ρ X => ?_
  refine runS_x (I := inf) (J := jnf) ⟨false, false, []⟩ 9999 rfl (by repeat (first | exact obs_nil | refine obs_draw (by kernel_rfl) ?_ | refine obs_same ?_ | refine obs_and ?_ | refine obs_by (by (simp [inB] <;> omega)) ?_)) ?_
  refine runS_while (fun (i : Nat) τ ar => (τ 0 = lstS nl l ∧ τ 4 = iv i) ∧ ar = [] ∧ i ≤ l.length ∧ (l.drop i).any badT = l.any badT) (fun i => l.length - i) 0
    ⟨⟨rfl, rfl⟩, rfl, Nat.zero_le _, rfl⟩ ?_
  rintro i τ' ar' ⟨⟨g0, g4⟩, rfl, hi, hd⟩ ih
  refine runS_says 0 (by exact g0) (Says.refl _) ?_; refine runS_says 4 (by exact g4) (Says.refl _) ?_
  refine runS_x (I := inf) (J := jnf) ⟨false, false, []⟩ 9999 rfl (by repeat (first | exact obs_nil | refine obs_draw (by kernel_rfl) ?_ | refine obs_same ?_ | refine obs_and ?_ | refine obs_by (by (simp [inB] <;> omega)) ?_)) ?_
  refine runS_cond rfl (fun hlt => ?_) (fun hlt => ?_)
  · have hlt' : i < l.length := by simpa using hlt
    have hmem : l.getD ((i : Nat) : Int).toNat [] ∈ l := by rw [Int.toNat_natCast, List.getD_eq_getElem?_getD, List.getElem?_eq_getElem hlt', Option.getD_some]; exact List.getElem_mem _
    rw [getD_drop (d := ([] : List Dim)) hlt', List.any_cons] at hd
    refine runS_x (I := inf) (J := jnf) ⟨false, false, []⟩ 9999 rfl (by repeat (first | exact obs_nil | refine obs_draw (by kernel_rfl) ?_ | refine obs_same ?_ | refine obs_and ?_ | refine obs_by (by (simp [inB, hlt'] <;> omega)) ?_)) ?_
    generalize hx : l.getD ((i : Nat) : Int).toNat [] = x at hmem
    rw [Int.toNat_natCast] at hx
    rw [hx] at hd
    refine runS_callU rfl rfl (by first | exact .v rfl rfl rfl rfl | exact .o rfl rfl rfl rfl) rfl rfl (by repeat (first | exact .nil | refine .cons (.n rfl) ?_ | refine .cons .o ?_ | refine .cons gok_and ?_)) rfl rfl rfl rfl rfl (fun _ => (r_Valid none x)) ?_
    refine runS_x (I := inf) (J := jnf) ⟨false, false, []⟩ 9999 rfl (by repeat (first | exact obs_nil | refine obs_draw (by kernel_rfl) ?_ | refine obs_same ?_ | refine obs_and ?_ | refine obs_by (by (simp [inB] <;> omega)) ?_)) ?_
    refine runS_cond rfl (fun hc => ?_) (fun hc => ?_)
    · have hbt : badT x = true := by
        unfold badT
        by_cases h0 : 0 < x.length <;> simp_all
      rw [hbt, Bool.true_or] at hd
      refine runS_x (I := inf) (J := jnf) ⟨false, false, []⟩ 9999 rfl (by repeat (first | exact obs_nil | refine obs_draw (by kernel_rfl) ?_ | refine obs_same ?_ | refine obs_and ?_ | refine obs_by (by (simp [inB] <;> omega)) ?_)) ?_
      refine runS_says 2 rfl (says_nil0 (sz := 2) (r := nilD) (Nat.zero_le _)) ?_
      refine runS_ret (I := inf) 0 rfl (Nat.le_refl _) rfl .nil rfl ⟨?_, rfl⟩
      rw [togetherF, if_pos hd.symm]
      rfl
    · have hbt : badT x = false := by
        unfold badT
        by_cases h0 : 0 < x.length <;> simp_all
      rw [hbt, Bool.false_or] at hd
      refine runS_x (I := inf) (J := jnf) ⟨false, false, []⟩ 9999 rfl (by repeat (first | exact obs_nil | refine obs_draw (by kernel_rfl) ?_ | refine obs_same ?_ | refine obs_and ?_ | refine obs_by (by (simp [inB] <;> omega)) ?_)) ?_
      refine ih (i + 1) _ _ (by omega) ⟨⟨rfl, ?_⟩, rfl, by omega, hd⟩
      show iv (IntKind.wrap .i64 ((i : Int) + 1)) = _
      rw [w64 (by omega) (by omega)]; rfl
  have hi' : i = l.length := by simp at hlt; omega
  subst hi'
  rw [List.drop_length, List.any_nil] at hd
  obtain ⟨R, hR⟩ : ∃ R, R = togL l [] := ⟨_, rfl⟩
  have hF : togetherF l = R := by rw [togetherF, if_neg (by rw [← hd]; simp), hR]
  rw [hF]
  refine runS_x (I := inf) (J := jnf) ⟨false, false, []⟩ 9999 rfl (by repeat (first | exact obs_nil | refine obs_draw (by kernel_rfl) ?_ | refine obs_same ?_ | refine obs_and ?_ | refine obs_by (by (simp [inB] <;> omega)) ?_)) ?_
  refine runS_says 5 rfl (y := dimS none []) (says_nil0 (Nat.zero_le _)) ?_
  refine runS_while (fun (x : Nat × List Dim) τ ar => (τ 0 = lstS nl l ∧ τ 5 = dimS none x.2 ∧ τ 6 = iv x.1) ∧ ar = [] ∧ x.1 ≤ l.length ∧ x.2.length < 1000 ∧ togL (l.drop x.1) x.2 = R) (fun x => l.length - x.1) (0, [])
    ⟨⟨rfl, rfl, rfl⟩, rfl, Nat.zero_le _, by simp, hR.symm⟩ ?_
  rintro ⟨i, acc⟩ τ' ar' ⟨⟨g0, g5, g6⟩, rfl, hi, hac, hd⟩ ih
  dsimp only at g5 g6 hi hac hd ih
  refine runS_says 0 (by exact g0) (Says.refl _) ?_; refine runS_says 5 (by exact g5) (Says.refl _) ?_; refine runS_says 6 (by exact g6) (Says.refl _) ?_
  refine runS_x (I := inf) (J := jnf) ⟨false, false, []⟩ 9999 rfl (by repeat (first | exact obs_nil | refine obs_draw (by kernel_rfl) ?_ | refine obs_same ?_ | refine obs_and ?_ | refine obs_by (by (simp [inB] <;> omega)) ?_)) ?_
  refine runS_cond rfl (fun hlt => ?_) (fun hlt => ?_)
  · have hlt' : i < l.length := by simpa using hlt
    have hmem : l.getD ((i : Nat) : Int).toNat [] ∈ l := by rw [Int.toNat_natCast, List.getD_eq_getElem?_getD, List.getElem?_eq_getElem hlt', Option.getD_some]; exact List.getElem_mem _
    rw [getD_drop (d := ([] : List Dim)) hlt', togL] at hd
    refine runS_x (I := inf) (J := jnf) ⟨false, false, []⟩ 9999 rfl (by repeat (first | exact obs_nil | refine obs_draw (by kernel_rfl) ?_ | refine obs_same ?_ | refine obs_and ?_ | refine obs_by (by (simp [inB, hlt'] <;> omega)) ?_)) ?_
    generalize hx : l.getD ((i : Nat) : Int).toNat [] = x at hmem
    have hx2 := hx
    rw [Int.toNat_natCast] at hx
    rw [hx] at hd
    have hxb := hb2 x hmem
    refine runS_cond rfl (fun hc => ?_) (fun hc => ?_)
    · have h0 : x.length = 0 := by simpa using hc
      rw [if_pos h0] at hd
      refine runS_x (I := inf) (J := jnf) ⟨false, false, []⟩ 9999 rfl (by repeat (first | exact obs_nil | refine obs_draw (by kernel_rfl) ?_ | refine obs_same ?_ | refine obs_and ?_ | refine obs_by (by (simp [inB] <;> omega)) ?_)) ?_
      refine ih (i + 1, acc) _ _ (by dsimp only; omega) ⟨⟨rfl, rfl, ?_⟩, rfl, by dsimp only; omega, hac, hd⟩
      show iv (IntKind.wrap .i64 ((i : Int) + 1)) = _
      rw [w64 (by omega) (by omega)]; rfl
    · have h0 : ¬ x.length = 0 := by simp at hc; simp; exact hc
      rw [if_neg h0] at hd
      refine runS_x (I := inf) (J := jnf) ⟨false, false, []⟩ 9999 rfl (by repeat (first | exact obs_nil | refine obs_draw (by kernel_rfl) ?_ | refine obs_same ?_ | refine obs_and ?_ | refine obs_by (by (simp [inB, hlt'] <;> omega)) ?_)) ?_
      rw [hx2]
      refine runS_callU rfl rfl (by first | exact .v rfl rfl rfl rfl | exact .o rfl rfl rfl rfl) rfl rfl (by repeat (first | exact .nil | refine .cons (.n rfl) ?_ | refine .cons .o ?_ | refine .cons gok_and ?_)) rfl rfl rfl rfl rfl (fun _ => (r_Equal none none acc x (by omega))) ?_
      refine runS_x (I := inf) (J := jnf) ⟨false, false, []⟩ 9999 rfl (by repeat (first | exact obs_nil | refine obs_draw (by kernel_rfl) ?_ | refine obs_same ?_ | refine obs_and ?_ | refine obs_by (by (simp [inB] <;> omega)) ?_)) ?_
      refine runS_cond rfl (fun hq => ?_) (fun hq => ?_)
      · have hq' : 0 < acc.length ∧ ¬ acc = x := by
          by_cases h1 : 0 < acc.length <;> by_cases h2 : acc = x <;> simp_all
        rw [if_pos hq'] at hd
        refine runS_x (I := inf) (J := jnf) ⟨false, false, []⟩ 9999 rfl (by repeat (first | exact obs_nil | refine obs_draw (by kernel_rfl) ?_ | refine obs_same ?_ | refine obs_and ?_ | refine obs_by (by (simp [inB] <;> omega)) ?_)) ?_
        refine runS_says 2 rfl (says_nil0 (sz := 2) (r := nilD) (Nat.zero_le _)) ?_
        refine runS_ret (I := inf) 0 rfl (Nat.le_refl _) rfl .nil rfl ⟨?_, rfl⟩
        rw [← hd]
        rfl
      · have hq' : ¬ (0 < acc.length ∧ ¬ acc = x) := by
          by_cases h1 : 0 < acc.length <;> by_cases h2 : acc = x <;> simp_all
        rw [if_neg hq'] at hd
        refine runS_x (I := inf) (J := jnf) ⟨false, false, []⟩ 9999 rfl (by repeat (first | exact obs_nil | refine obs_draw (by kernel_rfl) ?_ | refine obs_same ?_ | refine obs_and ?_ | refine obs_by (by (simp [inB, hlt'] <;> omega)) ?_)) ?_
        rw [hx2]
        refine ih (i + 1, x) _ _ (by dsimp only; omega) ⟨⟨rfl, rfl, ?_⟩, rfl, by dsimp only; omega, hxb, hd⟩
        show iv (IntKind.wrap .i64 ((i : Int) + 1)) = _
        rw [w64 (by omega) (by omega)]; rfl
  have hi' : i = l.length := by simp at hlt; omega
  subst hi'
  rw [List.drop_length, togL] at hd
  refine runS_x (I := inf) (J := jnf) ⟨false, false, []⟩ 9999 rfl (by repeat (first | exact obs_nil | refine obs_draw (by kernel_rfl) ?_ | refine obs_same ?_ | refine obs_and ?_ | refine obs_by (by (simp [inB, hac] <;> omega)) ?_)) ?_
  refine runS_freeze 2 rfl rfl rfl (fun i hi => by rw [appR_zero]; rfl) ?_
  refine runS_ret (I := inf) 0 rfl (Nat.le_refl _) rfl .nil rfl ⟨?_, rfl⟩
  rw [← hd]
  show Out.ret (.tup [.slc 2 none (0 + acc.length) _, iv 0]) = _
  rw [appR_zero, Nat.zero_add]
  rfl
end Go.Iron.Try
