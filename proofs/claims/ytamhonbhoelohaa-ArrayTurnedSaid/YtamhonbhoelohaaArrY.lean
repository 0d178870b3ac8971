/- ArraySections (seat Ytamhonbhoelohaa): the law's own functions. -/
import Derived.Test.YtamhonbhoelohaaArrX
namespace Go.Iron.Try
open Go.Proofs

def boolR (ms : List Bool) : Nat → List AV := encR (fun b : Bool => [bv b]) false ms
def crossE (x : Cross) : List AV := [iv x.1, bv x.2]
theorem setR_enc {α : Type} {enc : α → List AV} {d : α} {ms : List α} {k : Nat} {v : α} {cs : List AV} (h : cs = enc v) (hk : k < ms.length) : ∀ j, j < ms.length → encR enc d (ms.set k v) j = setR (encR enc d ms) k cs j := by
  intro j hj
  subst h
  unfold encR
  by_cases h1 : j = k
  · subst h1
    rw [setR_self]
    simp [List.getD_eq_getElem?_getD, List.getElem?_set_self hk]
  · rw [setR_ne h1]
    simp [List.getD_eq_getElem?_getD, List.getElem?_set_ne (Ne.symm h1)]

theorem ks_mem {d : List Dim} {n : Int} {k : Nat} : k ∈ ksC d n ↔ k < (items d).toNat ∧ a0 d k = n := by
  unfold ksC; simp
theorem ks_nodup (d : List Dim) (n : Int) : (ksC d n).Nodup := (List.nodup_range).filter _

theorem ks_take {d : List Dim} {n : Int} {i : Nat} (hi : i < (ksC d n).length) : (ksC d n).getD i 0 ∈ ksC d n ∧ ¬ (ksC d n).getD i 0 ∈ (ksC d n).take i ∧ ∀ k, k ∈ (ksC d n).take (i + 1) ↔ k ∈ (ksC d n).take i ∨ k = (ksC d n).getD i 0 := by
  have hg : (ksC d n).getD i 0 = (ksC d n)[i] := by simp [List.getD_eq_getElem?_getD, hi]
  rw [hg]
  refine ⟨List.getElem_mem _, ?_, fun k => ?_⟩
  · intro hm
    obtain ⟨j, hj, e⟩ := List.mem_iff_getElem.1 hm
    simp only [List.length_take] at hj
    rw [List.getElem_take] at e
    exact List.pairwise_iff_getElem.1 (ks_nodup d n) j i (by omega) hi (by omega) e
  · rw [List.take_succ_eq_append_getElem hi, List.mem_append, List.mem_singleton]

theorem dim0_bounds {d : List Dim} (hv : validD d = true) : -32768 ≤ (d.getD 0 (0, 0)).1 ∧ (d.getD 0 (0, 0)).1 ≤ (d.getD 0 (0, 0)).2 ∧ (d.getD 0 (0, 0)).2 < 32768 := by
  have hf := fit_valid hv
  cases d with
  | nil => simp at hf
  | cons x d =>
    obtain ⟨hf, _⟩ := hf
    simp only [fitL] at hf
    simp only [List.getD_cons_zero]
    omega

set_option maxHeartbeats 4000000 in
theorem law_arraySections (n1 n2 : Option Bool) (d : List Dim) (l : List Cross) :
    CallT Try.prog 17 [dimS n1 d, crossS n2 l] [] (fun o A => o = .ret (bv true) ∧ A = []) := by
  refine callS_body (n := 156) rfl rfl fun w ρ X => ?_
  refine runS_x (I := inf) (J := jnf) ⟨false, false, []⟩ 9999 rfl (by repeat (first | exact obs_nil | refine obs_draw (by kernel_rfl) ?_ | refine obs_same ?_ | refine obs_and ?_ | refine obs_by (by (simp [inB] <;> omega)) ?_)) ?_
  refine runS_cond rfl (fun h => ?_) (fun h => ?_)
  · refine runS_x (I := inf) (J := jnf) ⟨false, false, []⟩ 9999 rfl (by repeat (first | exact obs_nil | refine obs_draw (by kernel_rfl) ?_ | refine obs_same ?_ | refine obs_and ?_ | refine obs_by (by (simp [inB] <;> omega)) ?_)) ?_
    refine runS_call rfl rfl rfl rfl rfl rfl rfl law_awake ?_
    refine runS_x (I := inf) (J := jnf) ⟨false, false, []⟩ 9999 rfl (by repeat (first | exact obs_nil | refine obs_draw (by kernel_rfl) ?_ | refine obs_same ?_ | refine obs_and ?_ | refine obs_by (by (simp [inB] <;> omega)) ?_)) ?_
    refine runS_ret (I := inf) 0 rfl (Nat.le_refl _) rfl .nil rfl ⟨?_, rfl⟩
    rfl
  have hlen : d.length ≤ 20 ∧ l.length ≤ 20 := by
    simp at h
    omega
  obtain ⟨q1, q2⟩ := sectionF_len d l hlen.1 hlen.2
  refine runS_x (I := inf) (J := jnf) ⟨false, false, []⟩ 9999 rfl (by repeat (first | exact obs_nil | refine obs_draw (by kernel_rfl) ?_ | refine obs_same ?_ | refine obs_and ?_ | refine obs_by (by (simp [inB] <;> omega)) ?_)) ?_
  refine runS_call rfl rfl rfl rfl rfl rfl rfl (a_Section n1 n2 d l (by omega)) ?_
  refine runS_x (I := inf) (J := jnf) ⟨false, false, []⟩ 9999 rfl (by repeat (first | exact obs_nil | refine obs_draw (by kernel_rfl) ?_ | refine obs_same ?_ | refine obs_and ?_ | refine obs_by (by (simp [inB] <;> omega)) ?_)) ?_
  refine runS_call rfl rfl rfl rfl rfl rfl rfl (r_Section n1 n2 d l (by omega)) ?_
  refine runS_x (I := inf) (J := jnf) ⟨false, false, []⟩ 9999 rfl (by repeat (first | exact obs_nil | refine obs_draw (by kernel_rfl) ?_ | refine obs_same ?_ | refine obs_and ?_ | refine obs_by (by (simp [inB] <;> omega)) ?_)) ?_
  refine runS_call rfl rfl rfl rfl rfl rfl rfl (r_Equal none none _ _ (by omega)) ?_
  refine runS_x (I := inf) (J := jnf) ⟨false, false, []⟩ 9999 rfl (by repeat (first | exact obs_nil | refine obs_draw (by kernel_rfl) ?_ | refine obs_same ?_ | refine obs_and ?_ | refine obs_by (by (simp [inB] <;> omega)) ?_)) ?_
  refine runS_callU rfl rfl (by first | exact .v rfl rfl rfl rfl | exact .o rfl rfl rfl rfl) rfl rfl (by repeat (first | exact .nil | refine .cons (.n rfl) ?_ | refine .cons .o ?_ | refine .cons gok_and ?_)) rfl rfl rfl rfl rfl (fun _ => (law_ints none none _ _ (by omega))) ?_
  refine runS_x (I := inf) (J := jnf) ⟨false, false, []⟩ 9999 rfl (by repeat (first | exact obs_nil | refine obs_draw (by kernel_rfl) ?_ | refine obs_same ?_ | refine obs_and ?_ | refine obs_by (by (simp [inB] <;> omega)) ?_)) ?_
  refine runS_cond rfl (fun h => ?_) (fun h => ?_)
  · exfalso; simp at h
  refine runS_x (I := inf) (J := jnf) ⟨false, false, []⟩ 9999 rfl (by repeat (first | exact obs_nil | refine obs_draw (by kernel_rfl) ?_ | refine obs_same ?_ | refine obs_and ?_ | refine obs_by (by (simp [inB] <;> omega)) ?_)) ?_
  refine runS_call rfl rfl rfl rfl rfl rfl rfl (r_Valid n1 d) ?_
  refine runS_x (I := inf) (J := jnf) ⟨false, false, []⟩ 9999 rfl (by repeat (first | exact obs_nil | refine obs_draw (by kernel_rfl) ?_ | refine obs_same ?_ | refine obs_and ?_ | refine obs_by (by (simp [inB] <;> omega)) ?_)) ?_
  refine runS_cond rfl (fun h => ?_) (fun h => ?_)
  · refine runS_x (I := inf) (J := jnf) ⟨false, false, []⟩ 9999 rfl (by repeat (first | exact obs_nil | refine obs_draw (by kernel_rfl) ?_ | refine obs_same ?_ | refine obs_and ?_ | refine obs_by (by (simp [inB] <;> omega)) ?_)) ?_
    refine runS_call rfl rfl rfl rfl rfl rfl rfl law_awake ?_
    refine runS_x (I := inf) (J := jnf) ⟨false, false, []⟩ 9999 rfl (by repeat (first | exact obs_nil | refine obs_draw (by kernel_rfl) ?_ | refine obs_same ?_ | refine obs_and ?_ | refine obs_by (by (simp [inB] <;> omega)) ?_)) ?_
    refine runS_ret (I := inf) 0 rfl (Nat.le_refl _) rfl .nil rfl ⟨?_, rfl⟩
    rfl
  have hv : validD d = true := by simpa using h
  have hfo := fit_valid hv
  have hit := items_bounds hfo.1
  refine runS_x (I := inf) (J := jnf) ⟨false, false, []⟩ 9999 rfl (by repeat (first | exact obs_nil | refine obs_draw (by kernel_rfl) ?_ | refine obs_same ?_ | refine obs_and ?_ | refine obs_by (by (simp [inB] <;> omega)) ?_)) ?_
  refine runS_call rfl rfl rfl rfl rfl rfl rfl (r_items n1 d (by omega) hfo.1) ?_
  obtain ⟨b1, b2, b3⟩ := dim0_bounds hv
  obtain ⟨M, hM⟩ : ∃ M, M = (items d).toNat := ⟨_, rfl⟩
  have hMi : (M : Int) = items d := by omega
  refine runS_x (I := inf) (J := jnf) ⟨false, false, []⟩ 9999 rfl (by repeat (first | exact obs_nil | refine obs_draw (by kernel_rfl) ?_ | refine obs_same ?_ | refine obs_and ?_ | refine obs_by (by (simp [inB, hfo, hit] <;> omega)) ?_)) ?_
  refine runS_tell 0 (boolR (List.replicate M false)) rfl (m' := (List.replicate M false).length) (by simp [hM]) (fun j hj => ?_) rfl ?_
  · unfold boolR encR
    simp [List.getD_eq_getElem?_getD, List.getElem?_replicate]
    split <;> rfl
  refine runS_while (fun (x : Int × List Bool) τ ar => (τ 0 = dimS n1 d ∧ τ 15 = .row 0 0 ∧ τ 16 = iv x.1) ∧ ar = [.row 4 1 0 x.2.length (boolR x.2)] ∧ (d.getD 0 (0, 0)).1 ≤ x.1 ∧ x.1 ≤ (d.getD 0 (0, 0)).2 + 1 ∧ x.2.length = M ∧ ∀ k : Nat, k < M → x.2.getD k false = decide (a0 d k < x.1)) (fun x => ((d.getD 0 (0, 0)).2 + 1 - x.1).toNat)
    ((d.getD 0 (0, 0)).1, List.replicate M false) ⟨⟨rfl, rfl, rfl⟩, rfl, by dsimp only; omega, by dsimp only; omega, by simp, ?_⟩ ?_
  · intro k hk
    have h1 := (a0_bounds hv (Int.natCast_nonneg k) (by omega)).1
    have e1 : (List.replicate M false).getD k false = false := by simp [List.getD_eq_getElem?_getD, List.getElem?_replicate, hk]
    dsimp only
    rw [e1]
    exact (decide_eq_false (by omega)).symm
  rintro ⟨n, ms⟩ τ' ar' ⟨⟨g0, g15, g16⟩, rfl, hn1, hn2, hml, hm⟩ ih
  dsimp only at g16 hn1 hn2 hml hm ih
  refine runS_says 0 (by exact g0) (Says.refl _) ?_; refine runS_says 15 (by exact g15) (Says.refl _) ?_; refine runS_says 16 (by exact g16) (Says.refl _) ?_
  refine runS_x (I := inf) (J := jnf) ⟨false, false, []⟩ 9999 rfl (by repeat (first | exact obs_nil | refine obs_draw (by kernel_rfl) ?_ | refine obs_same ?_ | refine obs_and ?_ | refine obs_by (by (simp [inB, hfo] <;> omega)) ?_)) ?_
  refine runS_cond rfl (fun hlt => ?_) (fun hlt => ?_)
  · have hlt' : n ≤ (d.getD 0 (0, 0)).2 := by simpa using hlt
    refine runS_x (I := inf) (J := jnf) ⟨false, false, []⟩ 9999 rfl (by repeat (first | exact obs_nil | refine obs_draw (by kernel_rfl) ?_ | refine obs_same ?_ | refine obs_and ?_ | refine obs_by (by (simp [inB] <;> omega)) ?_)) ?_
    refine runS_tell 1 (encR crossE (0, false) [(n, false)]) rfl (m' := 1) rfl (fun j hj => ?_) rfl ?_
    · have : j = 0 := by omega
      subst this
      rfl
    refine runS_while (fun (j : Nat) τ ar => (τ 0 = dimS n1 d ∧ τ 15 = .row 0 0 ∧ τ 16 = iv n ∧ τ 17 = .row 1 j ∧ τ 18 = iv (j + 1 : Nat)) ∧ ar = [.row 4 1 0 ms.length (boolR ms), .row 69 2 j (xsC (j + 1) n).length (encR crossE (0, false) (xsC (j + 1) n))] ∧ j + 1 ≤ d.length) (fun j => d.length - j)
      0 ⟨⟨rfl, rfl, rfl, rfl, rfl⟩, rfl, by omega⟩ ?_
    rintro j τ' ar' ⟨⟨g0, g15, g16, g17, g18⟩, rfl, hj⟩ ih2
    refine runS_says 0 (by exact g0) (Says.refl _) ?_; refine runS_says 15 (by exact g15) (Says.refl _) ?_; refine runS_says 16 (by exact g16) (Says.refl _) ?_; refine runS_says 17 (by exact g17) (Says.refl _) ?_; refine runS_says 18 (by exact g18) (Says.refl _) ?_
    refine runS_x (I := inf) (J := jnf) ⟨false, false, []⟩ 9999 rfl (by repeat (first | exact obs_nil | refine obs_draw (by kernel_rfl) ?_ | refine obs_same ?_ | refine obs_and ?_ | refine obs_by (by (simp [inB] <;> omega)) ?_)) ?_
    refine runS_cond rfl (fun hlt2 => ?_) (fun hlt2 => ?_)
    · have hlt2' : j + 1 < d.length := by simp at hlt2; omega
      have hxl : (xsC (j + 1) n).length = j + 1 := by simp [xsC]
      have hx2 : xsC (j + 1) n ++ [(0, true)] = xsC (j + 1 + 1) n := by
        simp only [xsC, Nat.add_sub_cancel]
        rw [List.replicate_succ', List.cons_append]
      refine runS_x (I := inf) (J := jnf) ⟨false, false, []⟩ 9999 rfl (by repeat (first | exact obs_nil | refine obs_draw (by kernel_rfl) ?_ | refine obs_same ?_ | refine obs_and ?_ | refine obs_by (by (simp [inB, hxl] <;> omega)) ?_)) ?_
      refine runS_tell 1 (encR crossE (0, false) (xsC (j + 1) n ++ [(0, true)])) rfl (m' := (xsC (j + 1) n ++ [(0, true)]).length) (by simp) (encR_snoc rfl) rfl ?_
      rw [hx2]
      refine runS_drop 2 (Nat.zero_le _) rfl (by repeat (first | exact .nil | refine .row (fun j hj => rfl) ?_ | refine .box rfl ?_ | refine .loop (scrub_under _ _) ?_ | refine .dfr ?_ | refine .gone ?_)) rfl rfl rfl (by repeat (first | exact .nil | refine .cons rfl rfl rfl (scrub_under _ _) ?_)) ?_
      refine ih2 (j + 1) _ _ (by omega) ⟨⟨rfl, rfl, rfl, rfl, ?_⟩, rfl, by omega⟩
      show iv (IntKind.wrap .i64 (((j + 1 : Nat) : Int) + 1)) = _
      rw [w64 (by omega) (by omega)]; rfl
    have hj' : j + 1 = d.length := by simp at hlt2; omega
    rw [hj']
    obtain ⟨own, hsec⟩ := section_xs hv hn1 hlt'
    have hxl : (xsC d.length n).length = d.length := by simp [xsC]; omega
    refine runS_x (I := inf) (J := jnf) ⟨false, false, []⟩ 9999 rfl (by repeat (first | exact obs_nil | refine obs_draw (by kernel_rfl) ?_ | refine obs_same ?_ | refine obs_and ?_ | refine obs_by (by (simp [inB] <;> omega)) ?_)) ?_
    refine runS_freeze 112 rfl rfl rfl (fun j hj => rfl) ?_
    refine runS_says 112 rfl (y := crossS none (xsC d.length n)) (Says.refl _) ?_
    refine runS_call rfl rfl rfl rfl rfl rfl rfl (a_Section n1 none d (xsC d.length n) (by omega)) ?_
    rw [hsec]
    refine runS_x (I := inf) (J := jnf) ⟨false, false, []⟩ 9999 rfl (by repeat (first | exact obs_nil | refine obs_draw (by kernel_rfl) ?_ | refine obs_same ?_ | refine obs_and ?_ | refine obs_by (by (simp [inB] <;> omega)) ?_)) ?_
    refine runS_cond rfl (fun hq => ?_) (fun hq => ?_)
    · exfalso; simp at hq
    refine runS_x (I := inf) (J := jnf) ⟨false, false, []⟩ 9999 rfl (by repeat (first | exact obs_nil | refine obs_draw (by kernel_rfl) ?_ | refine obs_same ?_ | refine obs_and ?_ | refine obs_by (by (simp [inB] <;> omega)) ?_)) ?_
    have hks : ∀ i, i < (ksC d n).length → ((ksC d n).map (fun k : Nat => (k : Int))).getD i 0 = (((ksC d n).getD i 0 : Nat) : Int) := by
      intro i hi
      simp [List.getD_eq_getElem?_getD, hi]
    have hkl : (ksC d n).length ≤ (items d).toNat := by
      have := List.length_filter_le (fun k : Nat => decide (a0 d k = n)) (List.range (items d).toNat)
      rw [List.length_range] at this
      exact this
    refine runS_while (fun (x : Nat × List Bool) τ ar => (τ 0 = dimS n1 d ∧ τ 15 = .row 0 0 ∧ τ 16 = iv n ∧ τ 20 = intS none ((ksC d n).map (fun k : Nat => (k : Int))) ∧ τ 24 = iv x.1) ∧ ar = [.row 4 1 0 x.2.length (boolR x.2), .gone] ∧
      x.1 ≤ (ksC d n).length ∧ x.2.length = M ∧ ∀ k : Nat, k < M → x.2.getD k false = (decide (a0 d k < n) || decide (k ∈ (ksC d n).take x.1))) (fun x => (ksC d n).length - x.1)
      (0, ms) ⟨⟨rfl, rfl, rfl, rfl, rfl⟩, rfl, Nat.zero_le _, hml, fun k hk => by rw [hm k hk]; simp⟩ ?_
    rintro ⟨i, ms2⟩ τ' ar' ⟨⟨g0, g15, g16, g20, g24⟩, rfl, hi, hml2, hm2⟩ ih3
    dsimp only at g24 hi hml2 hm2 ih3
    refine runS_says 0 (by exact g0) (Says.refl _) ?_; refine runS_says 15 (by exact g15) (Says.refl _) ?_; refine runS_says 16 (by exact g16) (Says.refl _) ?_; refine runS_says 20 (by exact g20) (Says.refl _) ?_; refine runS_says 24 (by exact g24) (Says.refl _) ?_
    refine runS_x (I := inf) (J := jnf) ⟨false, false, []⟩ 9999 rfl (by repeat (first | exact obs_nil | refine obs_draw (by kernel_rfl) ?_ | refine obs_same ?_ | refine obs_and ?_ | refine obs_by (by (simp [inB] <;> omega)) ?_)) ?_
    refine runS_cond rfl (fun hlt3 => ?_) (fun hlt3 => ?_)
    · have hlt3' : i < (ksC d n).length := by simpa using hlt3
      obtain ⟨t1, t2, t3⟩ := ks_take hlt3'
      obtain ⟨k, hk⟩ : ∃ k, k = (ksC d n).getD i 0 := ⟨_, rfl⟩
      have hkv := hks i hlt3'
      rw [← hk] at t1 t2 t3 hkv
      obtain ⟨t4, t5⟩ := ks_mem.1 t1
      have hin : inB (((ksC d n).map (fun k : Nat => (k : Int))).getD ((i : Nat) : Int).toNat 0) ms2.length = true := by
        rw [Int.toNat_natCast, hkv, inB_iff]; omega
      have hfalse : ms2.getD k false = false := by
        rw [hm2 k (by omega)]
        simp [t2]; omega
      have hin2 : inB (((((ksC d n).map (fun k : Nat => (k : Int))).getD ((i : Nat) : Int).toNat 0).toNat : Nat) : Int) ms2.length = true := by
        rw [Int.toNat_natCast, hkv, inB_iff]; omega
      refine runS_x (I := inf) (J := jnf) ⟨false, false, []⟩ 9999 rfl (by repeat (first | exact obs_nil | refine obs_draw (by kernel_rfl) ?_ | refine obs_same ?_ | refine obs_and ?_ | refine obs_by (by first | exact fun _ => hin | exact fun _ => hin2 | (simp [inB, hlt3'] <;> omega)) ?_)) ?_
      refine runS_cond rfl (fun hq => ?_) (fun hq => ?_)
      · exfalso
        rw [Int.toNat_natCast, hkv, Int.toNat_natCast, hfalse] at hq
        cases hq
      refine runS_x (I := inf) (J := jnf) ⟨false, false, []⟩ 9999 rfl (by repeat (first | exact obs_nil | refine obs_draw (by kernel_rfl) ?_ | refine obs_same ?_ | refine obs_and ?_ | refine obs_by (by first | exact fun _ => hin | exact fun _ => hin2 | (simp [inB, hlt3'] <;> omega)) ?_)) ?_
      refine runS_tell 0 (boolR (ms2.set k true)) rfl (m' := (ms2.set k true).length) (by simp) (fun j hj => ?_) rfl ?_
      · have := setR_enc (enc := fun b : Bool => [bv b]) (d := false) (ms := ms2) (k := k) (v := true) rfl (by omega) j (by simpa using hj)
        refine this.trans ?_
        rw [Int.toNat_natCast, hkv, Int.toNat_natCast]
        rfl
      refine ih3 (i + 1, ms2.set k true) _ _ (by dsimp only; omega) ⟨⟨rfl, rfl, rfl, rfl, ?_⟩, rfl, by dsimp only; omega, by simpa using hml2, fun k2 hk2 => ?_⟩
      · show iv (IntKind.wrap .i64 ((i : Int) + 1)) = _
        rw [w64 (by omega) (by omega)]; rfl
      · dsimp only
        by_cases he : k2 = k
        · subst he
          have : k2 ∈ (ksC d n).take (i + 1) := (t3 k2).2 (.inr rfl)
          simp [List.getD_eq_getElem?_getD, List.getElem?_set_self (by omega : k2 < ms2.length), this]
        · have e1 : (ms2.set k true).getD k2 false = ms2.getD k2 false := by simp [List.getD_eq_getElem?_getD, List.getElem?_set_ne (Ne.symm he)]
          rw [e1, hm2 k2 hk2]
          congr 1
          rw [decide_eq_decide, t3 k2]
          simp [he]
    have hi' : i = (ksC d n).length := by simp at hlt3; omega
    subst hi'
    refine runS_x (I := inf) (J := jnf) ⟨false, false, []⟩ 9999 rfl (by repeat (first | exact obs_nil | refine obs_draw (by kernel_rfl) ?_ | refine obs_same ?_ | refine obs_and ?_ | refine obs_by (by (simp [inB] <;> omega)) ?_)) ?_
    refine runS_drop 1 (Nat.zero_le _) rfl (by repeat (first | exact .nil | refine .row (fun j hj => rfl) ?_ | refine .box rfl ?_ | refine .loop (scrub_under _ _) ?_ | refine .dfr ?_ | refine .gone ?_)) rfl rfl rfl (by repeat (first | exact .nil | refine .cons rfl rfl rfl (scrub_under _ _) ?_)) ?_
    refine ih (n + 1, ms2) _ _ (by dsimp only; omega) ⟨⟨rfl, rfl, ?_⟩, rfl, by dsimp only; omega, by dsimp only; omega, hml2, fun k hk => ?_⟩
    · show iv (IntKind.wrap .i64 (n + 1)) = _
      rw [w64 (by omega) (by omega)]
    · dsimp only
      rw [hm2 k hk, List.take_length]
      have : (k ∈ ksC d n) ↔ a0 d k = n := by rw [ks_mem]; exact ⟨fun h => h.2, fun h => ⟨by omega, h⟩⟩
      by_cases h1 : a0 d k < n
      · simp [h1]; omega
      · by_cases h2 : a0 d k = n
        · simp [this, h2]; omega
        · simp [this, h1, h2]; omega
  · have h9 : ¬ n ≤ (d.getD 0 (0, 0)).2 := of_decide_eq_false hlt
    have hn' : n = (d.getD 0 (0, 0)).2 + 1 := by omega
    have hall : ∀ k : Nat, k < M → ms.getD k false = true := by
      intro k hk
      have := (a0_bounds hv (Int.natCast_nonneg k) (by omega)).2
      rw [hm k hk]
      simp; omega
    refine runS_x (I := inf) (J := jnf) ⟨false, false, []⟩ 9999 rfl (by repeat (first | exact obs_nil | refine obs_draw (by kernel_rfl) ?_ | refine obs_same ?_ | refine obs_and ?_ | refine obs_by (by (simp [inB] <;> omega)) ?_)) ?_
    refine runS_while (fun (i : Nat) τ ar => (τ 15 = .row 0 0 ∧ τ 25 = iv i) ∧ ar = [.row 4 1 0 ms.length (boolR ms)] ∧ i ≤ M) (fun i => M - i)
      0 ⟨⟨rfl, rfl⟩, rfl, Nat.zero_le _⟩ ?_
    rintro i τ' ar' ⟨⟨g15, g25⟩, rfl, hi⟩ ih4
    refine runS_says 15 (by exact g15) (Says.refl _) ?_; refine runS_says 25 (by exact g25) (Says.refl _) ?_
    refine runS_x (I := inf) (J := jnf) ⟨false, false, []⟩ 9999 rfl (by repeat (first | exact obs_nil | refine obs_draw (by kernel_rfl) ?_ | refine obs_same ?_ | refine obs_and ?_ | refine obs_by (by (simp [inB] <;> omega)) ?_)) ?_
    refine runS_cond rfl (fun hlt4 => ?_) (fun hlt4 => ?_)
    · have hlt4' : i < M := by simp at hlt4; omega
      refine runS_x (I := inf) (J := jnf) ⟨false, false, []⟩ 9999 rfl (by repeat (first | exact obs_nil | refine obs_draw (by kernel_rfl) ?_ | refine obs_same ?_ | refine obs_and ?_ | refine obs_by (by (simp [inB, hml, hlt4'] <;> omega)) ?_)) ?_
      refine runS_cond rfl (fun hq => ?_) (fun hq => ?_)
      · exfalso
        rw [Int.toNat_natCast, hall i hlt4'] at hq
        simp at hq
      refine runS_x (I := inf) (J := jnf) ⟨false, false, []⟩ 9999 rfl (by repeat (first | exact obs_nil | refine obs_draw (by kernel_rfl) ?_ | refine obs_same ?_ | refine obs_and ?_ | refine obs_by (by (simp [inB] <;> omega)) ?_)) ?_
      refine ih4 (i + 1) _ _ (by omega) ⟨⟨rfl, ?_⟩, rfl, by omega⟩
      show iv (IntKind.wrap .i64 ((i : Int) + 1)) = _
      rw [w64 (by omega) (by omega)]; rfl
    refine runS_x (I := inf) (J := jnf) ⟨false, false, []⟩ 9999 rfl (by repeat (first | exact obs_nil | refine obs_draw (by kernel_rfl) ?_ | refine obs_same ?_ | refine obs_and ?_ | refine obs_by (by (simp [inB] <;> omega)) ?_)) ?_
    refine runS_call rfl rfl rfl rfl rfl rfl rfl law_awake ?_
    refine runS_x (I := inf) (J := jnf) ⟨false, false, []⟩ 9999 rfl (by repeat (first | exact obs_nil | refine obs_draw (by kernel_rfl) ?_ | refine obs_same ?_ | refine obs_and ?_ | refine obs_by (by (simp [inB] <;> omega)) ?_)) ?_
    refine runS_ret (I := inf) 0 rfl (Nat.le_refl _) rfl .nil rfl ⟨?_, rfl⟩
    rfl
theorem law_ArraySections (n1 n2 : Option Bool) (d : List Dim) (l : List Cross) (hb1 : d.length * 16 ≤ 140737488355328) (hb2 : l.length * 16 ≤ 140737488355328) :
    CallT Try.prog 4 [dimS n1 d, crossS n2 l] [] (fun o A => o = .ret (bv true) ∧ A = []) := by
  refine callS_body (n := 24) rfl rfl fun w ρ X => ?_
  refine runS_x (I := inf) (J := jnf) ⟨false, false, []⟩ 9999 rfl (by repeat (first | exact obs_nil | refine obs_draw (by kernel_rfl) ?_ | refine obs_same ?_ | refine obs_and ?_ | refine obs_by (by (simp [inB] <;> omega)) ?_)) ?_
  refine runS_call rfl rfl rfl rfl rfl rfl rfl (stay_dims n1 d hb1) ?_
  refine runS_x (I := inf) (J := jnf) ⟨false, false, []⟩ 9999 rfl (by repeat (first | exact obs_nil | refine obs_draw (by kernel_rfl) ?_ | refine obs_same ?_ | refine obs_and ?_ | refine obs_by (by (simp [inB] <;> omega)) ?_)) ?_
  refine runS_call rfl rfl rfl rfl rfl rfl rfl (stay_crosses n2 l hb2) ?_
  refine runS_x (I := inf) (J := jnf) ⟨false, false, []⟩ 9999 rfl (by repeat (first | exact obs_nil | refine obs_draw (by kernel_rfl) ?_ | refine obs_same ?_ | refine obs_and ?_ | refine obs_by (by (simp [inB] <;> omega)) ?_)) ?_
  refine runS_call rfl rfl rfl rfl rfl rfl rfl (law_arraySections n1 n2 d l) ?_
  refine runS_x (I := inf) (J := jnf) ⟨false, false, []⟩ 9999 rfl (by repeat (first | exact obs_nil | refine obs_draw (by kernel_rfl) ?_ | refine obs_same ?_ | refine obs_and ?_ | refine obs_by (by (simp [inB] <;> omega)) ?_)) ?_
  refine runS_callU rfl rfl (by first | exact .v rfl rfl rfl rfl | exact .o rfl rfl rfl rfl) rfl rfl (by repeat (first | exact .nil | refine .cons (.n rfl) ?_ | refine .cons .o ?_ | refine .cons gok_and ?_)) rfl rfl rfl rfl rfl (fun _ => (stay_sameDims n1 none d d (by omega))) ?_
  refine runS_x (I := inf) (J := jnf) ⟨false, false, []⟩ 9999 rfl (by repeat (first | exact obs_nil | refine obs_draw (by kernel_rfl) ?_ | refine obs_same ?_ | refine obs_and ?_ | refine obs_by (by (simp [inB] <;> omega)) ?_)) ?_
  refine runS_callU rfl rfl (by first | exact .v rfl rfl rfl rfl | exact .o rfl rfl rfl rfl) rfl rfl (by repeat (first | exact .nil | refine .cons (.n rfl) ?_ | refine .cons .o ?_ | refine .cons gok_and ?_)) rfl rfl rfl rfl rfl (fun _ => (stay_sameCrosses n2 none l l (by omega))) ?_
  refine runS_x (I := inf) (J := jnf) ⟨false, false, []⟩ 9999 rfl (by repeat (first | exact obs_nil | refine obs_draw (by kernel_rfl) ?_ | refine obs_same ?_ | refine obs_and ?_ | refine obs_by (by (simp [inB] <;> omega)) ?_)) ?_
  refine runS_ret (I := inf) 0 rfl (Nat.le_refl _) rfl .nil rfl ⟨?_, rfl⟩
  simp
  rfl
end Go.Iron.Try
