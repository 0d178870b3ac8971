/- ArrayTurned (seat Ytamhonbhoelohaa): the law's own functions. -/
import Derived.Test.YtamhonbhoelohaaArrTD
namespace Go.Iron.Try
open Go.Proofs

theorem turO_map (d : List Dim) (order : List Int) (own : List Dim) : ∀ (c i : Nat) (acc : List Int), turO d order own c i acc = acc ++ (List.range' i c).map (fun k : Nat => offT d order own (k : Int))
  | 0, i, acc => by simp [turO]
  | c + 1, i, acc => by rw [turO, turO_map d order own c (i + 1), List.range'_succ]; simp
theorem tur_len {d : List Dim} {order : List Int} {own : List Dim} {c : Nat} : (turO d order own c 0 []).length = c := by rw [turO_map]; simp
theorem tur_get {d : List Dim} {order : List Int} {own : List Dim} {c i : Nat} (h : i < c) : (turO d order own c 0 []).getD i 0 = offT d order own i := by
  rw [turO_map]
  simp [List.getD_eq_getElem?_getD, h]

def idxs (n : Nat) : List Int := (List.range n).map (fun k : Nat => (k : Int) + 1)
def backF (d : List Dim) (order : List Int) : List Int := permF order (idxs order.length) (zeros d)

theorem valid_of_fit : ∀ {n : Int} {ds : List Dim}, fitL n ds → validL n ds = true
  | _, [], _ => rfl
  | n, d :: l, h => by
    simp only [fitL] at h
    obtain ⟨h1, h2, h3⟩ := h
    have hb : badD d = false := by unfold badD; simp; omega
    unfold validL
    rw [hb, if_neg (by simp), if_neg (by omega)]
    exact valid_of_fit h3

theorem perm_back {d : List Dim} {order : List Int} {own : List Dim} (h : Perm3 d order own) : Perm3 own (backF d order) d ∧ ordL own (backF d order) [] [] = some d ∧ ∀ r : List Int, r.length = d.length → permF order (permF (backF d order) r (zeros own)) (zeros d) = r := by
  rcases h with ⟨x, rfl, rfl, rfl⟩ | ⟨x, y, rfl, ⟨rfl, rfl⟩ | ⟨rfl, rfl⟩⟩ | ⟨x, y, z, rfl, ⟨rfl, rfl⟩ | ⟨rfl, rfl⟩ | ⟨rfl, rfl⟩ | ⟨rfl, rfl⟩ | ⟨rfl, rfl⟩ | ⟨rfl, rfl⟩⟩
  · refine ⟨.inl ⟨x, rfl, rfl, rfl⟩, by simp [ordL, backF, permF, idxs, zeros, List.range_succ], fun r hr => ?_⟩
    match r, hr with
    | [a], _ => rfl
  · refine ⟨.inr (.inl ⟨x, y, rfl, .inl ⟨rfl, rfl⟩⟩), by simp [ordL, backF, permF, idxs, zeros, List.range_succ], fun r hr => ?_⟩
    match r, hr with
    | [a, b], _ => rfl
  · refine ⟨.inr (.inl ⟨y, x, rfl, .inr ⟨rfl, rfl⟩⟩), by simp [ordL, backF, permF, idxs, zeros, List.range_succ], fun r hr => ?_⟩
    match r, hr with
    | [a, b], _ => rfl
  · refine ⟨.inr (.inr ⟨_, _, _, rfl, .inl ⟨rfl, rfl⟩⟩), by simp [ordL, backF, permF, idxs, zeros, List.range_succ], fun r hr => ?_⟩
    match r, hr with
    | [a, b, c], _ => rfl
  · refine ⟨.inr (.inr ⟨_, _, _, rfl, .inr (.inl ⟨rfl, rfl⟩)⟩), by simp [ordL, backF, permF, idxs, zeros, List.range_succ], fun r hr => ?_⟩
    match r, hr with
    | [a, b, c], _ => rfl
  · refine ⟨.inr (.inr ⟨_, _, _, rfl, .inr (.inr (.inl ⟨rfl, rfl⟩))⟩), by simp [ordL, backF, permF, idxs, zeros, List.range_succ], fun r hr => ?_⟩
    match r, hr with
    | [a, b, c], _ => rfl
  · refine ⟨.inr (.inr ⟨_, _, _, rfl, .inr (.inr (.inr (.inr (.inl ⟨rfl, rfl⟩))))⟩), by simp [ordL, backF, permF, idxs, zeros, List.range_succ], fun r hr => ?_⟩
    match r, hr with
    | [a, b, c], _ => rfl
  · refine ⟨.inr (.inr ⟨_, _, _, rfl, .inr (.inr (.inr (.inl ⟨rfl, rfl⟩)))⟩), by simp [ordL, backF, permF, idxs, zeros, List.range_succ], fun r hr => ?_⟩
    match r, hr with
    | [a, b, c], _ => rfl
  · refine ⟨.inr (.inr ⟨_, _, _, rfl, .inr (.inr (.inr (.inr (.inr ⟨rfl, rfl⟩))))⟩), by simp [ordL, backF, permF, idxs, zeros, List.range_succ], fun r hr => ?_⟩
    match r, hr with
    | [a, b, c], _ => rfl

theorem turned_ok {d : List Dim} {order own' : List Int} {own : List Dim} (h : turnedF d order = (own, own', 0)) : validD d = true ∧ order.length = d.length ∧ ordL d order [] [] = some own ∧ own' = turO d order own (items own).toNat 0 [] := by
  unfold turnedF at h
  split at h
  · cases h
  · rename_i hv
    split at h
    · cases h
    · rename_i hl
      cases hE : ordL d order [] [] with
      | none => rw [hE, turnG] at h; cases h
      | some o =>
        rw [hE, turnG] at h
        cases h
        exact ⟨by simpa using hv, by simpa using hl, rfl, rfl⟩

theorem turned_back {d : List Dim} {order : List Int} {own : List Dim} (hv : validD d = true) (hl : order.length = d.length) (ho : ordL d order [] [] = some own) :
    turnedF own (backF d order) = (d, turO own (backF d order) d (items d).toNat 0 [], 0) ∧ (items own = items d) ∧
    ∀ m : Nat, (m : Int) < items d → 0 ≤ offT own (backF d order) d m ∧ offT own (backF d order) d m < items own ∧ offT d order own (offT own (backF d order) d m) = m := by
  have hf := fit_valid hv
  have hP := ord_cases hf.2.1 hf.2.2 hl ho
  obtain ⟨f1, f2, f3, f4⟩ := perm_fit hP hf.1
  obtain ⟨b1, b2, b3⟩ := perm_back hP
  obtain ⟨g1, g2, g3, g4⟩ := perm_fit b1 f1
  have hvo : validD own = true := by
    unfold validD
    rw [valid_of_fit f1]
    simp; omega
  refine ⟨?_, f2, fun m hm => ?_⟩
  · rw [turnedF, if_neg (by simp [hvo]), if_neg (by simp [g4]), b2, turnG]
  · obtain ⟨p1, p2, p3⟩ := at_law hf.1 (Int.natCast_nonneg m) hm
    obtain ⟨u1, u2⟩ := perm_out b1 p1 p2
    obtain ⟨k1, k2, k3⟩ := at_place f1 u1 u2
    have e1 : offT own (backF d order) d m = place own (permF (backF d order) (atD d m) (zeros own)) := by unfold offT; rw [if_pos u2]
    rw [e1]
    refine ⟨k1, k2, ?_⟩
    have e2 : permF order (atD own (place own (permF (backF d order) (atD d m) (zeros own)))) (zeros d) = atD d m := by rw [k3]; exact b3 _ p1
    unfold offT
    rw [e2, if_pos p2, p3]

theorem turned_len {d : List Dim} {order : List Int} (hd : d.length ≤ 20) (hl : order.length ≤ 20) : (turnedF d order).1.length ≤ 20 ∧ (turnedF d order).2.1.length ≤ 200 := by
  unfold turnedF
  split
  · simp
  · rename_i hv
    split
    · simp
    · rename_i hl
      cases hE : ordL d order [] [] with
      | none => simp [turnG]
      | some o =>
        have hv' : validD d = true := by simpa using hv
        have hf := fit_valid hv'
        have hP := ord_cases hf.2.1 hf.2.2 (by simpa using hl) hE
        obtain ⟨f1, f2, f3, f4⟩ := perm_fit hP hf.1
        have := items_bounds f1
        simp only [turnG, tur_len]
        constructor <;> omega

theorem togL_len : ∀ (l : List (List Dim)) (acc : List Dim) (m : Nat), acc.length ≤ m → (∀ d ∈ l, d.length ≤ m) → (togL l acc).1.length ≤ m
  | [], acc, m, h1, h2 => h1
  | d :: l, acc, m, h1, h2 => by
    unfold togL
    split
    · exact togL_len l acc m h1 (fun x hx => h2 x (List.mem_cons_of_mem _ hx))
    · split
      · simp
      · exact togL_len l d m (h2 d (by simp)) (fun x hx => h2 x (List.mem_cons_of_mem _ hx))
theorem together_len (l : List (List Dim)) (m : Nat) (h : ∀ d ∈ l, d.length ≤ m) : (togetherF l).1.length ≤ m := by
  unfold togetherF
  split
  · simp
  · exact togL_len l [] m (by simp) h

theorem idxs_drop {n j : Nat} (h : j < n) : (idxs n).drop j = ((j : Int) + 1) :: (idxs n).drop (j + 1) := by
  have hl : j < (idxs n).length := by simp [idxs]; exact h
  rw [List.drop_eq_getElem_cons hl]
  simp [idxs]

set_option maxHeartbeats 4000000 in
theorem law_arrayTurned (n1 n2 n3 : Option Bool) (l : List (List Dim)) (d : List Dim) (order : List Int) (hb : l.length * 24 ≤ 140737488355328) (hb2 : ∀ d ∈ l, d.length * 16 ≤ 140737488355328) :
    CallT Try.prog 23 [lstS n1 l, dimS n2 d, intS n3 order] [] (fun o A => o = .ret (bv true) ∧ A = []) := by
  refine callS_body (n := 159) rfl rfl fun w ρ X => ?_
  refine runS_x (I := inf) (J := jnf) ⟨false, false, []⟩ 9999 rfl (by repeat (first | exact obs_nil | refine obs_draw (by kernel_rfl) ?_ | refine obs_same ?_ | refine obs_and ?_ | refine obs_by (by (simp [inB] <;> omega)) ?_)) ?_
  refine runS_cond rfl (fun h => ?_) (fun h => ?_)
  · refine runS_x (I := inf) (J := jnf) ⟨false, false, []⟩ 9999 rfl (by repeat (first | exact obs_nil | refine obs_draw (by kernel_rfl) ?_ | refine obs_same ?_ | refine obs_and ?_ | refine obs_by (by (simp [inB] <;> omega)) ?_)) ?_
    refine runS_call rfl rfl rfl rfl rfl rfl rfl law_awake ?_
    refine runS_x (I := inf) (J := jnf) ⟨false, false, []⟩ 9999 rfl (by repeat (first | exact obs_nil | refine obs_draw (by kernel_rfl) ?_ | refine obs_same ?_ | refine obs_and ?_ | refine obs_by (by (simp [inB] <;> omega)) ?_)) ?_
    refine runS_ret (I := inf) 0 rfl (Nat.le_refl _) rfl .nil rfl ⟨?_, rfl⟩
    rfl
  have hlen : l.length ≤ 20 ∧ d.length ≤ 20 ∧ order.length ≤ 20 := by
    simp at h
    omega
  refine runS_x (I := inf) (J := jnf) ⟨false, false, []⟩ 9999 rfl (by repeat (first | exact obs_nil | refine obs_draw (by kernel_rfl) ?_ | refine obs_same ?_ | refine obs_and ?_ | refine obs_by (by (simp [inB] <;> omega)) ?_)) ?_
  refine runS_while (fun (i : Nat) τ ar => (τ 0 = lstS n1 l ∧ τ 1 = dimS n2 d ∧ τ 2 = intS n3 order ∧ τ 7 = iv i) ∧ ar = [] ∧ i ≤ l.length ∧ ∀ x ∈ l.take i, x.length ≤ 20) (fun i => l.length - i) 0
    ⟨⟨rfl, rfl, rfl, rfl⟩, rfl, Nat.zero_le _, by simp⟩ ?_
  rintro i τ' ar' ⟨⟨g0, g1, g2, g7⟩, rfl, hi, hsm⟩ ih
  refine runS_says 0 (by exact g0) (Says.refl _) ?_; refine runS_says 1 (by exact g1) (Says.refl _) ?_; refine runS_says 2 (by exact g2) (Says.refl _) ?_; refine runS_says 7 (by exact g7) (Says.refl _) ?_
  refine runS_x (I := inf) (J := jnf) ⟨false, false, []⟩ 9999 rfl (by repeat (first | exact obs_nil | refine obs_draw (by kernel_rfl) ?_ | refine obs_same ?_ | refine obs_and ?_ | refine obs_by (by (simp [inB] <;> omega)) ?_)) ?_
  refine runS_cond rfl (fun hlt => ?_) (fun hlt => ?_)
  · have hlt' : i < l.length := by simpa using hlt
    have hmem : l.getD ((i : Nat) : Int).toNat [] ∈ l := by rw [Int.toNat_natCast, List.getD_eq_getElem?_getD, List.getElem?_eq_getElem hlt', Option.getD_some]; exact List.getElem_mem _
    have hmb := hb2 _ hmem
    have hts : l.take (i + 1) = l.take i ++ [l.getD ((i : Nat) : Int).toNat []] := by
      rw [Int.toNat_natCast, List.take_succ_eq_append_getElem hlt', List.getD_eq_getElem?_getD, List.getElem?_eq_getElem hlt', Option.getD_some]
    refine runS_x (I := inf) (J := jnf) ⟨false, false, []⟩ 9999 rfl (by repeat (first | exact obs_nil | refine obs_draw (by kernel_rfl) ?_ | refine obs_same ?_ | refine obs_and ?_ | refine obs_by (by (simp [inB, hlt'] <;> omega)) ?_)) ?_
    refine runS_cond rfl (fun hc => ?_) (fun hc => ?_)
    · refine runS_x (I := inf) (J := jnf) ⟨false, false, []⟩ 9999 rfl (by repeat (first | exact obs_nil | refine obs_draw (by kernel_rfl) ?_ | refine obs_same ?_ | refine obs_and ?_ | refine obs_by (by (simp [inB] <;> omega)) ?_)) ?_
      refine runS_call rfl rfl rfl rfl rfl rfl rfl law_awake ?_
      refine runS_x (I := inf) (J := jnf) ⟨false, false, []⟩ 9999 rfl (by repeat (first | exact obs_nil | refine obs_draw (by kernel_rfl) ?_ | refine obs_same ?_ | refine obs_and ?_ | refine obs_by (by (simp [inB] <;> omega)) ?_)) ?_
      refine runS_ret (I := inf) 0 rfl (Nat.le_refl _) rfl .nil rfl ⟨?_, rfl⟩
      rfl
    have hx20 : (l.getD ((i : Nat) : Int).toNat []).length ≤ 20 := by
      have := of_decide_eq_false hc
      omega
    refine runS_x (I := inf) (J := jnf) ⟨false, false, []⟩ 9999 rfl (by repeat (first | exact obs_nil | refine obs_draw (by kernel_rfl) ?_ | refine obs_same ?_ | refine obs_and ?_ | refine obs_by (by (simp [inB] <;> omega)) ?_)) ?_
    refine runS_draw 13 (by kernel_rfl) (lexj_x (I := inf) (J := jnf) 99 rfl rfl (by repeat (first | exact obs_nil | refine obs_same ?_ | refine obs_and ?_ | refine obs_by (by (simp [inB, hlt'] <;> omega)) ?_)) (lexj_call rfl rfl rfl rfl rfl rfl rfl rfl (a_Same none n2 (l.getD ((i : Nat) : Int).toNat []) d (by omega)) (lexj_x (I := inf) (J := jnf) 99 rfl rfl (by repeat (first | exact obs_nil | refine obs_same ?_ | refine obs_and ?_ | refine obs_by (by (simp [inB, hlt'] <;> omega)) ?_)) (lexj_call rfl rfl rfl rfl rfl rfl rfl rfl (r_Same none n2 (l.getD ((i : Nat) : Int).toNat []) d (by omega)) (lexj_x (I := inf) (J := jnf) 99 rfl rfl (by repeat (first | exact obs_nil | refine obs_same ?_ | refine obs_and ?_ | refine obs_by (by (simp [inB, hlt'] <;> omega)) ?_)) lexj_nil))))) ?_
    refine runS_x (I := inf) (J := jnf) ⟨false, false, []⟩ 9999 rfl (by repeat (first | exact obs_nil | refine obs_draw (by kernel_rfl) ?_ | refine obs_same ?_ | refine obs_and ?_ | refine obs_by (by (simp [inB] <;> omega)) ?_)) ?_
    refine runS_cond rfl (fun hq => ?_) (fun hq => ?_)
    · exfalso; simp at hq
    refine runS_x (I := inf) (J := jnf) ⟨false, false, []⟩ 9999 rfl (by repeat (first | exact obs_nil | refine obs_draw (by kernel_rfl) ?_ | refine obs_same ?_ | refine obs_and ?_ | refine obs_by (by (simp [inB] <;> omega)) ?_)) ?_
    refine ih (i + 1) _ _ (by omega) ⟨⟨rfl, rfl, rfl, ?_⟩, rfl, by omega, ?_⟩
    · show iv (IntKind.wrap .i64 ((i : Int) + 1)) = _
      rw [w64 (by omega) (by omega)]; rfl
    · intro x hx
      rw [hts, List.mem_append, List.mem_singleton] at hx
      rcases hx with hx | rfl
      · exact hsm x hx
      · exact hx20
  have hi' : i = l.length := by simp at hlt; omega
  subst hi'
  rw [List.take_length] at hsm
  have htl := together_len l 20 hsm
  have hul := turned_len hlen.2.1 hlen.2.2 (d := d) (order := order)
  refine runS_x (I := inf) (J := jnf) ⟨false, false, []⟩ 9999 rfl (by repeat (first | exact obs_nil | refine obs_draw (by kernel_rfl) ?_ | refine obs_same ?_ | refine obs_and ?_ | refine obs_by (by (simp [inB] <;> omega)) ?_)) ?_
  refine runS_call rfl rfl rfl rfl rfl rfl rfl (a_Together n1 l (by omega) (fun x hx => by have := hsm x hx; omega)) ?_
  refine runS_x (I := inf) (J := jnf) ⟨false, false, []⟩ 9999 rfl (by repeat (first | exact obs_nil | refine obs_draw (by kernel_rfl) ?_ | refine obs_same ?_ | refine obs_and ?_ | refine obs_by (by (simp [inB] <;> omega)) ?_)) ?_
  refine runS_call rfl rfl rfl rfl rfl rfl rfl (r_Together n1 l (by omega) (fun x hx => by have := hsm x hx; omega)) ?_
  refine runS_x (I := inf) (J := jnf) ⟨false, false, []⟩ 9999 rfl (by repeat (first | exact obs_nil | refine obs_draw (by kernel_rfl) ?_ | refine obs_same ?_ | refine obs_and ?_ | refine obs_by (by (simp [inB] <;> omega)) ?_)) ?_
  refine runS_call rfl rfl rfl rfl rfl rfl rfl (r_Equal none none _ _ (by omega)) ?_
  refine runS_x (I := inf) (J := jnf) ⟨false, false, []⟩ 9999 rfl (by repeat (first | exact obs_nil | refine obs_draw (by kernel_rfl) ?_ | refine obs_same ?_ | refine obs_and ?_ | refine obs_by (by (simp [inB] <;> omega)) ?_)) ?_
  refine runS_cond rfl (fun h => ?_) (fun h => ?_)
  · exfalso; simp at h
  refine runS_x (I := inf) (J := jnf) ⟨false, false, []⟩ 9999 rfl (by repeat (first | exact obs_nil | refine obs_draw (by kernel_rfl) ?_ | refine obs_same ?_ | refine obs_and ?_ | refine obs_by (by (simp [inB] <;> omega)) ?_)) ?_
  refine runS_call rfl rfl rfl rfl rfl rfl rfl (a_Turned n2 n3 d order (by omega)) ?_
  refine runS_x (I := inf) (J := jnf) ⟨false, false, []⟩ 9999 rfl (by repeat (first | exact obs_nil | refine obs_draw (by kernel_rfl) ?_ | refine obs_same ?_ | refine obs_and ?_ | refine obs_by (by (simp [inB] <;> omega)) ?_)) ?_
  refine runS_call rfl rfl rfl rfl rfl rfl rfl (r_Turned n2 n3 d order (by omega)) ?_
  refine runS_x (I := inf) (J := jnf) ⟨false, false, []⟩ 9999 rfl (by repeat (first | exact obs_nil | refine obs_draw (by kernel_rfl) ?_ | refine obs_same ?_ | refine obs_and ?_ | refine obs_by (by (simp [inB] <;> omega)) ?_)) ?_
  refine runS_call rfl rfl rfl rfl rfl rfl rfl (r_Equal none none _ _ (by omega)) ?_
  refine runS_x (I := inf) (J := jnf) ⟨false, false, []⟩ 9999 rfl (by repeat (first | exact obs_nil | refine obs_draw (by kernel_rfl) ?_ | refine obs_same ?_ | refine obs_and ?_ | refine obs_by (by (simp [inB] <;> omega)) ?_)) ?_
  refine runS_callU rfl rfl (by first | exact .v rfl rfl rfl rfl | exact .o rfl rfl rfl rfl) rfl rfl (by repeat (first | exact .nil | refine .cons (.n rfl) ?_ | refine .cons .o ?_ | refine .cons gok_and ?_)) rfl rfl rfl rfl rfl (fun _ => (law_ints none none _ _ (by omega))) ?_
  refine runS_x (I := inf) (J := jnf) ⟨false, false, []⟩ 9999 rfl (by repeat (first | exact obs_nil | refine obs_draw (by kernel_rfl) ?_ | refine obs_same ?_ | refine obs_and ?_ | refine obs_by (by (simp [inB] <;> omega)) ?_)) ?_
  refine runS_cond rfl (fun h => ?_) (fun h => ?_)
  · exfalso; simp at h
  refine runS_x (I := inf) (J := jnf) ⟨false, false, []⟩ 9999 rfl (by repeat (first | exact obs_nil | refine obs_draw (by kernel_rfl) ?_ | refine obs_same ?_ | refine obs_and ?_ | refine obs_by (by (simp [inB] <;> omega)) ?_)) ?_
  refine runS_cond rfl (fun h => ?_) (fun h => ?_)
  · refine runS_x (I := inf) (J := jnf) ⟨false, false, []⟩ 9999 rfl (by repeat (first | exact obs_nil | refine obs_draw (by kernel_rfl) ?_ | refine obs_same ?_ | refine obs_and ?_ | refine obs_by (by (simp [inB] <;> omega)) ?_)) ?_
    refine runS_call rfl rfl rfl rfl rfl rfl rfl law_awake ?_
    refine runS_x (I := inf) (J := jnf) ⟨false, false, []⟩ 9999 rfl (by repeat (first | exact obs_nil | refine obs_draw (by kernel_rfl) ?_ | refine obs_same ?_ | refine obs_and ?_ | refine obs_by (by (simp [inB] <;> omega)) ?_)) ?_
    refine runS_ret (I := inf) 0 rfl (Nat.le_refl _) rfl .nil rfl ⟨?_, rfl⟩
    rfl
  obtain ⟨own, o, e, hT⟩ : ∃ own o e, turnedF d order = (own, o, e) := ⟨_, _, _, rfl⟩
  have he : e = 0 := by rw [hT] at h; simpa using h
  subst he
  rw [hT]
  obtain ⟨hv, hl, ho, hoo⟩ := turned_ok hT
  obtain ⟨t1, t2, t3⟩ := turned_back hv hl ho
  have hfo := fit_valid hv
  have hit := items_bounds hfo.1
  have hP := ord_cases hfo.2.1 hfo.2.2 hl ho
  refine runS_x (I := inf) (J := jnf) ⟨false, false, []⟩ 9999 rfl (by repeat (first | exact obs_nil | refine obs_draw (by kernel_rfl) ?_ | refine obs_same ?_ | refine obs_and ?_ | refine obs_by (by (simp [inB, hlen] <;> omega)) ?_)) ?_
  refine runS_tell 0 (intR (zeros d)) rfl (m' := (zeros d).length) (by simp [zeros, hl]) (fun j hj => rep_intR _ _ (by rw [← hl]; simpa using hj)) rfl ?_
  refine runS_while (fun (x : Nat × List Int) τ ar => (τ 1 = dimS n2 d ∧ τ 2 = intS n3 order ∧ τ 8 = dimS none own ∧ τ 12 = intS none o ∧ τ 14 = .row 0 0 ∧ τ 15 = iv x.1) ∧
    ar = [.row 3 1 0 x.2.length (intR x.2)] ∧ x.1 ≤ order.length ∧ x.2.length = d.length ∧ permF (order.drop x.1) ((idxs order.length).drop x.1) x.2 = backF d order) (fun x => order.length - x.1)
    (0, zeros d) ⟨⟨rfl, rfl, rfl, rfl, rfl, rfl⟩, rfl, Nat.zero_le _, by simp [zeros], rfl⟩ ?_
  rintro ⟨j, t⟩ τ' ar' ⟨⟨g1, g2, g8, g12, g14, g15⟩, rfl, hj, htl2, hp⟩ ih2
  dsimp only at g15 hj htl2 hp ih2
  refine runS_says 1 (by exact g1) (Says.refl _) ?_; refine runS_says 2 (by exact g2) (Says.refl _) ?_; refine runS_says 8 (by exact g8) (Says.refl _) ?_; refine runS_says 12 (by exact g12) (Says.refl _) ?_; refine runS_says 14 (by exact g14) (Says.refl _) ?_; refine runS_says 15 (by exact g15) (Says.refl _) ?_
  refine runS_x (I := inf) (J := jnf) ⟨false, false, []⟩ 9999 rfl (by repeat (first | exact obs_nil | refine obs_draw (by kernel_rfl) ?_ | refine obs_same ?_ | refine obs_and ?_ | refine obs_by (by (simp [inB] <;> omega)) ?_)) ?_
  refine runS_cond rfl (fun hlt2 => ?_) (fun hlt2 => ?_)
  · have hlt2' : j < order.length := by simpa using hlt2
    obtain ⟨r1, r2⟩ := order_range hP hlt2'
    rw [getD_drop (d := (0 : Int)) hlt2', idxs_drop hlt2', permF] at hp
    generalize hx : order.getD j 0 = x at r1 r2 hp
    have hw : IntKind.wrap .i64 (x - 1) = x - 1 := w64 (by omega) (by omega)
    have hin : inB (IntKind.wrap .i64 (order.getD ((j : Nat) : Int).toNat 0 - 1)) t.length = true := by rw [Int.toNat_natCast, hx, hw, inB_iff]; omega
    have hin2 : inB (((IntKind.wrap .i64 (order.getD ((j : Nat) : Int).toNat 0 - 1)).toNat : Nat) : Int) t.length = true := by rw [Int.toNat_natCast, hx, hw, inB_iff]; omega
    refine runS_x (I := inf) (J := jnf) ⟨false, false, []⟩ 9999 rfl (by repeat (first | exact obs_nil | refine obs_draw (by kernel_rfl) ?_ | refine obs_same ?_ | refine obs_and ?_ | refine obs_by (by first | exact fun _ => hin | exact fun _ => hin2 | (simp [inB, hlt2'] <;> omega)) ?_)) ?_
    refine runS_tell 0 (intR (t.set (x - 1).toNat ((j : Int) + 1))) rfl (m' := (t.set (x - 1).toNat ((j : Int) + 1)).length) (by simp) (fun k hk => ?_) rfl ?_
    · have := setR_enc (enc := fun z : Int => [iv z]) (d := 0) (ms := t) (k := (x - 1).toNat) (v := (j : Int) + 1) rfl (by omega) k (by simpa using hk)
      refine this.trans ?_
      rw [Int.toNat_natCast, hx, hw, show IntKind.wrap .i64 ((j : Int) + 1) = (j : Int) + 1 from w64 (by omega) (by omega)]
      rfl
    refine ih2 (j + 1, t.set (x - 1).toNat ((j : Int) + 1)) _ _ (by dsimp only; omega) ⟨⟨rfl, rfl, rfl, rfl, rfl, ?_⟩, rfl, by dsimp only; omega, by simpa using htl2, hp⟩
    show iv (IntKind.wrap .i64 ((j : Int) + 1)) = _
    rw [w64 (by omega) (by omega)]; rfl
  have hj' : j = order.length := by simp at hlt2; omega
  subst hj'
  have hp' : t = backF d order := by rw [← hp, List.drop_length]; simp [permF]
  subst hp'
  refine runS_x (I := inf) (J := jnf) ⟨false, false, []⟩ 9999 rfl (by repeat (first | exact obs_nil | refine obs_draw (by kernel_rfl) ?_ | refine obs_same ?_ | refine obs_and ?_ | refine obs_by (by (simp [inB] <;> omega)) ?_)) ?_
  refine runS_freezeRow 0 rfl rfl (fun j hj => rfl) ?_
  refine runS_says 130 rfl (y := intS none (backF d order)) (Says.refl _) ?_
  refine runS_call rfl rfl rfl rfl rfl rfl rfl (a_Turned none none own (backF d order) (by omega)) ?_
  rw [t1]
  refine runS_x (I := inf) (J := jnf) ⟨false, false, []⟩ 9999 rfl (by repeat (first | exact obs_nil | refine obs_draw (by kernel_rfl) ?_ | refine obs_same ?_ | refine obs_and ?_ | refine obs_by (by (simp [inB] <;> omega)) ?_)) ?_
  refine runS_callU rfl rfl (by first | exact .v rfl rfl rfl rfl | exact .o rfl rfl rfl rfl) rfl rfl (by repeat (first | exact .nil | refine .cons (.n rfl) ?_ | refine .cons .o ?_ | refine .cons gok_and ?_)) rfl rfl rfl rfl rfl (fun _ => (r_Equal none n2 d d (by omega))) ?_
  refine runS_x (I := inf) (J := jnf) ⟨false, false, []⟩ 9999 rfl (by repeat (first | exact obs_nil | refine obs_draw (by kernel_rfl) ?_ | refine obs_same ?_ | refine obs_and ?_ | refine obs_by (by (simp [inB] <;> omega)) ?_)) ?_
  refine runS_cond rfl (fun h => ?_) (fun h => ?_)
  · exfalso; simp at h
  refine runS_x (I := inf) (J := jnf) ⟨false, false, []⟩ 9999 rfl (by repeat (first | exact obs_nil | refine obs_draw (by kernel_rfl) ?_ | refine obs_same ?_ | refine obs_and ?_ | refine obs_by (by (simp [inB] <;> omega)) ?_)) ?_
  have hql : (turO own (backF d order) d (items d).toNat 0 []).length = (items d).toNat := tur_len
  have hol : o.length = (items d).toNat := by rw [hoo, tur_len, t2]
  refine runS_while (fun (i : Nat) τ ar => (τ 12 = intS none o ∧ τ 17 = intS none (turO own (backF d order) d (items d).toNat 0 []) ∧ τ 18 = iv i) ∧ ar = [.gone] ∧ i ≤ (items d).toNat) (fun i => (items d).toNat - i)
    0 ⟨⟨rfl, rfl, rfl⟩, rfl, Nat.zero_le _⟩ ?_
  rintro i τ' ar' ⟨⟨g12, g17, g18⟩, rfl, hi⟩ ih3
  refine runS_says 12 (by exact g12) (Says.refl _) ?_; refine runS_says 17 (by exact g17) (Says.refl _) ?_; refine runS_says 18 (by exact g18) (Says.refl _) ?_
  refine runS_x (I := inf) (J := jnf) ⟨false, false, []⟩ 9999 rfl (by repeat (first | exact obs_nil | refine obs_draw (by kernel_rfl) ?_ | refine obs_same ?_ | refine obs_and ?_ | refine obs_by (by (simp [inB] <;> omega)) ?_)) ?_
  refine runS_cond rfl (fun hlt3 => ?_) (fun hlt3 => ?_)
  · have hlt3' : i < (items d).toNat := by simp at hlt3; omega
    obtain ⟨q1, q2, q3⟩ := t3 i (by omega)
    have hg := tur_get (d := own) (order := backF d order) (own := d) hlt3'
    have hin : inB ((turO own (backF d order) d (items d).toNat 0 []).getD ((i : Nat) : Int).toNat 0) o.length = true := by
      rw [Int.toNat_natCast, hg, inB_iff, hol]; omega
    refine runS_x (I := inf) (J := jnf) ⟨false, false, []⟩ 9999 rfl (by repeat (first | exact obs_nil | refine obs_draw (by kernel_rfl) ?_ | refine obs_same ?_ | refine obs_and ?_ | refine obs_by (by first | exact fun _ => hin | (simp [inB, hql, hlt3'] <;> omega)) ?_)) ?_
    refine runS_cond rfl (fun hq => ?_) (fun hq => ?_)
    · exfalso
      rw [Int.toNat_natCast, hg, hoo, tur_get (by omega), Int.toNat_of_nonneg q1, q3] at hq
      simp at hq
    refine runS_x (I := inf) (J := jnf) ⟨false, false, []⟩ 9999 rfl (by repeat (first | exact obs_nil | refine obs_draw (by kernel_rfl) ?_ | refine obs_same ?_ | refine obs_and ?_ | refine obs_by (by (simp [inB] <;> omega)) ?_)) ?_
    refine ih3 (i + 1) _ _ (by omega) ⟨⟨rfl, rfl, ?_⟩, rfl, by omega⟩
    show iv (IntKind.wrap .i64 ((i : Int) + 1)) = _
    rw [w64 (by omega) (by omega)]; rfl
  refine runS_x (I := inf) (J := jnf) ⟨false, false, []⟩ 9999 rfl (by repeat (first | exact obs_nil | refine obs_draw (by kernel_rfl) ?_ | refine obs_same ?_ | refine obs_and ?_ | refine obs_by (by (simp [inB] <;> omega)) ?_)) ?_
  refine runS_call rfl rfl rfl rfl rfl rfl rfl law_awake ?_
  refine runS_x (I := inf) (J := jnf) ⟨false, false, []⟩ 9999 rfl (by repeat (first | exact obs_nil | refine obs_draw (by kernel_rfl) ?_ | refine obs_same ?_ | refine obs_and ?_ | refine obs_by (by (simp [inB] <;> omega)) ?_)) ?_
  refine runS_ret (I := inf) 0 rfl (Nat.le_refl _) rfl .nil rfl ⟨?_, rfl⟩
  rfl

theorem law_ArrayTurned (n1 n2 n3 : Option Bool) (l : List (List Dim)) (d : List Dim) (order : List Int) (hb1 : l.length * 24 ≤ 140737488355328) (hb4 : ∀ d ∈ l, d.length * 16 ≤ 140737488355328) (hb2 : d.length * 16 ≤ 140737488355328) (hb3 : order.length * 8 ≤ 140737488355328) :
    CallT Try.prog 6 [lstS n1 l, dimS n2 d, intS n3 order] [] (fun o A => o = .ret (bv true) ∧ A = []) := by
  refine callS_body (n := 35) rfl rfl fun w ρ X => ?_
  refine runS_x (I := inf) (J := jnf) ⟨false, false, []⟩ 9999 rfl (by repeat (first | exact obs_nil | refine obs_draw (by kernel_rfl) ?_ | refine obs_same ?_ | refine obs_and ?_ | refine obs_by (by (simp [inB] <;> omega)) ?_)) ?_
  refine runS_call rfl rfl rfl rfl rfl rfl rfl (stay_lists n1 l hb1 hb4) ?_
  refine runS_x (I := inf) (J := jnf) ⟨false, false, []⟩ 9999 rfl (by repeat (first | exact obs_nil | refine obs_draw (by kernel_rfl) ?_ | refine obs_same ?_ | refine obs_and ?_ | refine obs_by (by (simp [inB] <;> omega)) ?_)) ?_
  refine runS_call rfl rfl rfl rfl rfl rfl rfl (stay_dims n2 d hb2) ?_
  refine runS_x (I := inf) (J := jnf) ⟨false, false, []⟩ 9999 rfl (by repeat (first | exact obs_nil | refine obs_draw (by kernel_rfl) ?_ | refine obs_same ?_ | refine obs_and ?_ | refine obs_by (by (simp [inB] <;> omega)) ?_)) ?_
  refine runS_call rfl rfl rfl rfl rfl rfl rfl (stay_ints n3 order hb3) ?_
  refine runS_x (I := inf) (J := jnf) ⟨false, false, []⟩ 9999 rfl (by repeat (first | exact obs_nil | refine obs_draw (by kernel_rfl) ?_ | refine obs_same ?_ | refine obs_and ?_ | refine obs_by (by (simp [inB] <;> omega)) ?_)) ?_
  refine runS_call rfl rfl rfl rfl rfl rfl rfl (law_arrayTurned n1 n2 n3 l d order hb1 hb4) ?_
  refine runS_x (I := inf) (J := jnf) ⟨false, false, []⟩ 9999 rfl (by repeat (first | exact obs_nil | refine obs_draw (by kernel_rfl) ?_ | refine obs_same ?_ | refine obs_and ?_ | refine obs_by (by (simp [inB] <;> omega)) ?_)) ?_
  refine runS_callU rfl rfl (by first | exact .v rfl rfl rfl rfl | exact .o rfl rfl rfl rfl) rfl rfl (by repeat (first | exact .nil | refine .cons (.n rfl) ?_ | refine .cons .o ?_ | refine .cons gok_and ?_)) rfl rfl rfl rfl rfl (fun _ => (stay_sameLists n1 none l (by omega) (fun x hx => by have := hb4 x hx; omega))) ?_
  refine runS_x (I := inf) (J := jnf) ⟨false, false, []⟩ 9999 rfl (by repeat (first | exact obs_nil | refine obs_draw (by kernel_rfl) ?_ | refine obs_same ?_ | refine obs_and ?_ | refine obs_by (by (simp [inB] <;> omega)) ?_)) ?_
  refine runS_callU rfl rfl (by first | exact .v rfl rfl rfl rfl | exact .o rfl rfl rfl rfl) rfl rfl (by repeat (first | exact .nil | refine .cons (.n rfl) ?_ | refine .cons .o ?_ | refine .cons gok_and ?_)) rfl rfl rfl rfl rfl (fun _ => (stay_sameDims n2 none d d (by omega))) ?_
  refine runS_x (I := inf) (J := jnf) ⟨false, false, []⟩ 9999 rfl (by repeat (first | exact obs_nil | refine obs_draw (by kernel_rfl) ?_ | refine obs_same ?_ | refine obs_and ?_ | refine obs_by (by (simp [inB] <;> omega)) ?_)) ?_
  refine runS_callU rfl rfl (by first | exact .v rfl rfl rfl rfl | exact .o rfl rfl rfl rfl) rfl rfl (by repeat (first | exact .nil | refine .cons (.n rfl) ?_ | refine .cons .o ?_ | refine .cons gok_and ?_)) rfl rfl rfl rfl rfl (fun _ => (stay_sameInts n3 none order order (by omega))) ?_
  refine runS_x (I := inf) (J := jnf) ⟨false, false, []⟩ 9999 rfl (by repeat (first | exact obs_nil | refine obs_draw (by kernel_rfl) ?_ | refine obs_same ?_ | refine obs_and ?_ | refine obs_by (by (simp [inB] <;> omega)) ?_)) ?_
  refine runS_ret (I := inf) 0 rfl (Nat.le_refl _) rfl .nil rfl ⟨?_, rfl⟩
  simp
  rfl
end Go.Iron.Try
