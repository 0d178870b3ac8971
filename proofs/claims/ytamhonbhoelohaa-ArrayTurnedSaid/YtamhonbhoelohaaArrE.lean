/- The array package's functions (seat Ytamhonbhoelohaa): subscripts of an offset. -/
import Derived.Test.YtamhonbhoelohaaArrD
namespace Go.Iron.Try
open Go.Proofs

/-- The subscripts that remain to be told: the first k. -/
def fillD (ds : List Dim) : Nat → Int → List Int → List Int
  | 0, _, xs => xs
  | k + 1, off, xs => fillD ds k (off.tdiv (ext (ds.getD k (0, 0)))) (xs.set k ((ds.getD k (0, 0)).1 + off.tmod (ext (ds.getD k (0, 0)))))
def atD (ds : List Dim) (off : Int) : List Int := fillD ds ds.length off (List.replicate ds.length 0)

theorem intR_set {xs : List Int} {k : Nat} {v : Int} (hk : k < xs.length) : ∀ i, i < xs.length → intR (xs.set k v) i = setR (intR xs) k [iv v] i := by
  intro i hi
  by_cases h : i = k
  · subst h
    rw [setR_self]
    simp [intR, List.getD_eq_getElem?_getD, hi]
  · rw [setR_ne h]
    simp [intR, List.getD_eq_getElem?_getD, List.getElem?_set_ne (Ne.symm h)]

theorem ext_bounds {n : Int} {i : Nat} {ds : List Dim} (hf : fitL n ds) (hi : i < ds.length) : 1 ≤ ext (ds.getD i (0, 0)) ∧ ext (ds.getD i (0, 0)) ≤ 65536 := by
  have := dim_in hf hi
  unfold ext
  omega

theorem nz_of {q : Int} (h : q ≠ 0) : nz q = true := by
  cases q with
  | ofNat n => cases n with
    | zero => exact absurd rfl h
    | succ n => rfl
  | negSucc n => rfl

theorem rep_intR (n : Nat) (i : Nat) (hi : i < n) : intR (List.replicate n 0) i = [iv 0] := by
  simp [intR, List.getD_eq_getElem?_getD, hi]

theorem a_subs (n1 : Option Bool) (ds : List Dim) (off : Int) (h0 : 0 ≤ off) (h1 : off ≤ 1000000) (hlen : ds.length < 1000) (hf : fitL 1 ds) :
    CallT Try.prog 100 [dimS n1 ds, iv off] [] (fun o A => o = .ret (intS none (atD ds off)) ∧ A = []) := by
  refine callT_body (n := 41) rfl rfl fun w ρ X => ?_
  refine run_x (I := inf) 99 rfl (by repeat (first | exact obs_nil | refine obs_same ?_ | refine obs_and ?_ | refine obs_by (by (simp [inB, hlen] <;> omega)) ?_)) ?_
  refine run_tell 0 (intR (List.replicate ds.length 0)) rfl (m' := ds.length) (by simp) (fun i hi => rep_intR _ _ (by omega)) rfl ?_
  refine run_while (fun (x : Int × List Int × Nat) τ ar => (τ 0 = dimS n1 ds ∧ τ 1 = iv x.1 ∧ τ 5 = .row 0 0 ∧ τ 6 = iv ((x.2.2 : Int) - 1)) ∧ ar = [.row 3 1 0 ds.length (intR x.2.1)] ∧ x.2.1.length = ds.length ∧ x.2.2 ≤ ds.length ∧ 0 ≤ x.1 ∧ x.1 ≤ 1000000 ∧ fillD ds x.2.2 x.1 x.2.1 = atD ds off) (fun x => x.2.2)
    (off, List.replicate ds.length 0, ds.length) ⟨⟨rfl, rfl, rfl, ?_⟩, rfl, by simp, Nat.le_refl _, h0, h1, rfl⟩ ?_
  · show iv (IntKind.wrap .i64 ((ds.length : Int) - 1)) = _
    rw [w64 (by omega) (by omega)]
  rintro ⟨n, xs, k⟩ τ' ar' ⟨⟨g0, g1, g5, g6⟩, rfl, hx, hk, hn0, hn1, hfi⟩ ih
  dsimp only at g1 g6 hx hk hn0 hn1 hfi ih
  refine run_says 0 (by exact g0) (Says.refl _) ?_; refine run_says 1 (by exact g1) (Says.refl _) ?_; refine run_says 5 (by exact g5) (Says.refl _) ?_; refine run_says 6 (by exact g6) (Says.refl _) ?_
  refine run_x (I := inf) 99 rfl (by repeat (first | exact obs_nil | refine obs_same ?_ | refine obs_and ?_ | refine obs_by (by (simp [inB] <;> omega)) ?_)) ?_
  refine run_cond rfl (fun hlt => ?_) (fun hlt => ?_)
  · obtain ⟨k, rfl⟩ : ∃ k', k = k' + 1 := ⟨k - 1, by simp at hlt; omega⟩
    have hki : ((k + 1 : Nat) : Int) - 1 = (k : Int) := by omega
    rw [hki]
    have hk' : k < ds.length := by omega
    have he := ext_bounds hf hk'
    have hr := dim_in hf hk'
    have hnz : nz (ext (ds.getD k (0, 0))) = true := nz_of (by omega)
    refine run_x (I := inf) 99 rfl (by repeat (first | exact obs_nil | refine obs_same ?_ | refine obs_and ?_ | refine obs_by (by (simp [inB] <;> omega)) ?_)) ?_
    refine run_draw 16 (by kernel_rfl) (by kernel_rfl) (lex_x (I := inf) 99 rfl rfl (by repeat (first | exact obs_nil | refine obs_same ?_ | refine obs_and ?_ | refine obs_by (by first | exact fun _ => hnz | (simp [inB, hk'] <;> omega)) ?_)) (lex_call rfl rfl rfl rfl rfl rfl rfl rfl (extent (ds.getD k (0, 0)) hr.1 hr.2.1 hr.2.2) (lex_x (I := inf) 99 rfl rfl (by repeat (first | exact obs_nil | refine obs_same ?_ | refine obs_and ?_ | refine obs_by (by first | exact fun _ => hnz | (simp [inB, hk'] <;> omega)) ?_)) lex_nil))) ?_
    refine run_x (I := inf) 99 rfl (by repeat (first | exact obs_nil | refine obs_same ?_ | refine obs_and ?_ | refine obs_by (by (simp [inB, hk', hx] <;> omega)) ?_)) ?_
    generalize hd : ds.getD k (0, 0) = d at he hr hnz
    have hd0 : ds.getD ((k : Nat) : Int).toNat (0, 0) = d := hd
    have hm0 : 0 ≤ n.tmod (ext d) := Int.tmod_nonneg _ hn0
    have hm1 : n.tmod (ext d) < ext d := Int.tmod_lt_of_pos _ (by omega)
    have hq0 : 0 ≤ n.tdiv (ext d) := Int.tdiv_nonneg hn0 (by omega)
    have hq1 : n.tdiv (ext d) ≤ n := Int.tdiv_le_self _ hn0
    have hw : IntKind.wrap .i64 (d.1 + n.tmod (ext d)) = d.1 + n.tmod (ext d) := w64 (by omega) (by omega)
    refine run_tell 0 (intR (xs.set k (d.1 + n.tmod (ext d)))) rfl rfl (fun i hi => ?_) rfl ?_
    · rw [intR_set (by omega) i (by omega), hd0]
      show _ = setR (intR xs) k [iv (IntKind.wrap .i64 (d.1 + n.tmod (ext d)))] i
      rw [hw]
    rw [hd0]
    refine run_call rfl rfl rfl rfl rfl rfl rfl rfl (extent d hr.1 hr.2.1 hr.2.2) ?_
    refine run_x (I := inf) 99 rfl (by repeat (first | exact obs_nil | refine obs_same ?_ | refine obs_and ?_ | refine obs_by (by first | exact fun _ => hnz | (simp [inB] <;> omega)) ?_)) ?_
    refine ih (n.tdiv (ext d), xs.set k (d.1 + n.tmod (ext d)), k) _ _ (by dsimp only; omega) ⟨⟨rfl, ?_, rfl, ?_⟩, rfl, by simpa using hx, by dsimp only; omega, hq0, by dsimp only; omega, ?_⟩
    · show iv (IntKind.wrap .i64 (n.tdiv (ext d))) = _
      rw [w64 (by omega) (by omega)]
    · show iv (IntKind.wrap .i64 ((k : Int) - 1)) = _
      rw [w64 (by omega) (by omega)]
    · rw [← hfi, ← hd]; rfl
  · refine run_x (I := inf) 99 rfl (by repeat (first | exact obs_nil | refine obs_same ?_ | refine obs_and ?_ | refine obs_by (by (simp [inB] <;> omega)) ?_)) ?_
    have hk0 : k = 0 := by simp at hlt; omega
    subst hk0
    refine run_freeze 4 rfl rfl rfl (fun i hi => rfl) ?_
    refine run_retX (I := inf) 0 rfl (Nat.le_refl _) rfl .nil rfl ⟨?_, rfl⟩
    rw [← hfi]
    show Out.ret (.slc 1 none ds.length (intR xs)) = .ret (.slc 1 none xs.length (intR xs))
    rw [hx]

theorem r_at (n1 : Option Bool) (ds : List Dim) (off : Int) (h0 : 0 ≤ off) (h1 : off ≤ 1000000) (hlen : ds.length < 1000) (hf : fitL 1 ds) :
    CallT Try.prog 59 [dimS n1 ds, iv off] [] (fun o A => o = .ret (intS none (atD ds off)) ∧ A = []) := by
  refine callT_body (n := 46) rfl rfl fun w ρ X => ?_
  refine run_x (I := inf) 99 rfl (by repeat (first | exact obs_nil | refine obs_same ?_ | refine obs_and ?_ | refine obs_by (by (simp [inB, hlen] <;> omega)) ?_)) ?_
  refine run_tell 0 (intR (List.replicate ds.length 0)) rfl (m' := ds.length) (by simp) (fun i hi => rep_intR _ _ (by omega)) rfl ?_
  refine run_while (fun (x : Int × List Int × Nat) τ ar => (τ 0 = dimS n1 ds ∧ τ 1 = iv x.1 ∧ τ 5 = .row 0 0 ∧ τ 6 = iv ((x.2.2 : Int) - 1)) ∧ ar = [.row 3 1 0 ds.length (intR x.2.1)] ∧ x.2.1.length = ds.length ∧ x.2.2 ≤ ds.length ∧ 0 ≤ x.1 ∧ x.1 ≤ 1000000 ∧ fillD ds x.2.2 x.1 x.2.1 = atD ds off) (fun x => x.2.2)
    (off, List.replicate ds.length 0, ds.length) ⟨⟨rfl, rfl, rfl, ?_⟩, rfl, by simp, Nat.le_refl _, h0, h1, rfl⟩ ?_
  · show iv (IntKind.wrap .i64 ((ds.length : Int) - 1)) = _
    rw [w64 (by omega) (by omega)]
  rintro ⟨n, xs, k⟩ τ' ar' ⟨⟨g0, g1, g5, g6⟩, rfl, hx, hk, hn0, hn1, hfi⟩ ih
  dsimp only at g1 g6 hx hk hn0 hn1 hfi ih
  refine run_says 0 (by exact g0) (Says.refl _) ?_; refine run_says 1 (by exact g1) (Says.refl _) ?_; refine run_says 5 (by exact g5) (Says.refl _) ?_; refine run_says 6 (by exact g6) (Says.refl _) ?_
  refine run_x (I := inf) 99 rfl (by repeat (first | exact obs_nil | refine obs_same ?_ | refine obs_and ?_ | refine obs_by (by (simp [inB] <;> omega)) ?_)) ?_
  refine run_cond rfl (fun hlt => ?_) (fun hlt => ?_)
  · obtain ⟨k, rfl⟩ : ∃ k', k = k' + 1 := ⟨k - 1, by simp at hlt; omega⟩
    have hki : ((k + 1 : Nat) : Int) - 1 = (k : Int) := by omega
    rw [hki]
    have hk' : k < ds.length := by omega
    have he := ext_bounds hf hk'
    have hr := dim_in hf hk'
    refine run_x (I := inf) 99 rfl (by repeat (first | exact obs_nil | refine obs_same ?_ | refine obs_and ?_ | refine obs_by (by (simp [inB] <;> omega)) ?_)) ?_
    refine run_draw 13 (by kernel_rfl) (by kernel_rfl) (lex_x (I := inf) 99 rfl rfl (by repeat (first | exact obs_nil | refine obs_same ?_ | refine obs_and ?_ | refine obs_by (by (simp [inB, hk'] <;> omega)) ?_)) lex_nil) ?_
    refine run_x (I := inf) 99 rfl (by repeat (first | exact obs_nil | refine obs_same ?_ | refine obs_and ?_ | refine obs_by (by (simp [inB] <;> omega)) ?_)) ?_
    generalize hd : ds.getD k (0, 0) = d at he hr
    have hd0 : ds.getD ((k : Nat) : Int).toNat (0, 0) = d := hd
    have hnz : nz (ext d) = true := nz_of (by omega)
    have hwe : IntKind.wrap .i64 (IntKind.wrap .i64 (d.2 - d.1) + 1) = ext d := by
      rw [w64 (x := d.2 - d.1) (by omega) (by omega), w64 (by omega) (by omega)]
      rfl
    refine run_says 7 rfl (y := iv (ext d)) (by rw [hd0, hwe]; exact Says.refl _) ?_
    refine run_draw 12 (by kernel_rfl) (by kernel_rfl) (lex_x (I := inf) 99 rfl rfl (by repeat (first | exact obs_nil | refine obs_same ?_ | refine obs_and ?_ | refine obs_by (by first | exact fun _ => hnz | (simp [inB, hk', hx] <;> omega)) ?_)) lex_nil) ?_
    refine run_x (I := inf) 99 rfl (by repeat (first | exact obs_nil | refine obs_same ?_ | refine obs_and ?_ | refine obs_by (by first | exact fun _ => hnz | (simp [inB, hk', hx] <;> omega)) ?_)) ?_
    have hm0 : 0 ≤ n.tmod (ext d) := Int.tmod_nonneg _ hn0
    have hm1 : n.tmod (ext d) < ext d := Int.tmod_lt_of_pos _ (by omega)
    have hq0 : 0 ≤ n.tdiv (ext d) := Int.tdiv_nonneg hn0 (by omega)
    have hq1 : n.tdiv (ext d) ≤ n := Int.tdiv_le_self _ hn0
    have hw : IntKind.wrap .i64 (d.1 + n.tmod (ext d)) = d.1 + n.tmod (ext d) := w64 (by omega) (by omega)
    refine run_tell 0 (intR (xs.set k (d.1 + n.tmod (ext d)))) rfl rfl (fun i hi => ?_) rfl ?_
    · rw [intR_set (by omega) i (by omega), hd0]
      show _ = setR (intR xs) k [iv (IntKind.wrap .i64 (d.1 + n.tmod (ext d)))] i
      rw [hw]
    refine ih (n.tdiv (ext d), xs.set k (d.1 + n.tmod (ext d)), k) _ _ (by dsimp only; omega) ⟨⟨rfl, ?_, rfl, ?_⟩, rfl, by simpa using hx, by dsimp only; omega, hq0, by dsimp only; omega, ?_⟩
    · show iv (IntKind.wrap .i64 (n.tdiv (ext d))) = _
      rw [w64 (by omega) (by omega)]
    · show iv (IntKind.wrap .i64 ((k : Int) - 1)) = _
      rw [w64 (by omega) (by omega)]
    · rw [← hfi, ← hd]; rfl
  · refine run_x (I := inf) 99 rfl (by repeat (first | exact obs_nil | refine obs_same ?_ | refine obs_and ?_ | refine obs_by (by (simp [inB] <;> omega)) ?_)) ?_
    have hk0 : k = 0 := by simp at hlt; omega
    subst hk0
    refine run_freeze 4 rfl rfl rfl (fun i hi => rfl) ?_
    refine run_retX (I := inf) 0 rfl (Nat.le_refl _) rfl .nil rfl ⟨?_, rfl⟩
    rw [← hfi]
    show Out.ret (.slc 1 none ds.length (intR xs)) = .ret (.slc 1 none xs.length (intR xs))
    rw [hx]
end Go.Iron.Try
