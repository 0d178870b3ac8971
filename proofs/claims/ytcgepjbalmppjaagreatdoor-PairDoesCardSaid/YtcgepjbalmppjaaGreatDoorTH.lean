/- The pairs' seat: the reference's types of results. -/
import Derived.Test.YtcgepjbalmppjaaGreatDoorTF
import Derived.Test.YtcgepjbalmppjaaGreatDoorTG
namespace Go.Iron.Tryz
open Go.Proofs Go.RowKit Go.Iron.Tok Go.Iron.Dg

theorem flt_plain {t : Typ} (hv : vN t) : fltT t = if t.kind = 1 then ⟨3, min 15 ((3 * t.p + 9) / 10), 0, 0, false, []⟩ else ⟨3, t.p, 0, 0, false, []⟩ := by
  obtain ⟨k, p, q, n, vr, pc⟩ := t
  obtain ⟨hv, hk⟩ := hv
  dsimp only at hk
  unfold fltT
  dsimp only
  rcases hk with rfl | rfl | rfl
  · rfl
  · rfl
  · unfold validT at hv
    simp at hv
    obtain ⟨⟨⟨⟨_, h1⟩, h2⟩, h3⟩, h4⟩ := hv
    rw [if_neg (by decide), if_neg (by decide), if_neg (by decide), h1, h2, h3, h4]
theorem r_floatT (t : Typ) (hv : vN t) : CallT Tryz.prog 143 [.agg (typE t)] [] (fun o A => o = .ret (.agg (typE (fltT t))) ∧ A = []) := by
  rw [flt_plain hv]
  obtain ⟨hk, p1, p2, q1, q2⟩ := nt_of hv.1 hv.2
  obtain ⟨k, p, q, n, vr, pc⟩ := t
  dsimp only at hk p1 p2 q1 q2 ⊢
  have hw : (if IntKind.wrap .i64 ((IntKind.wrap .i64 (IntKind.wrap .i64 (3 * p) + 9)).tdiv 10) < 15 then IntKind.wrap .i64 ((IntKind.wrap .i64 (IntKind.wrap .i64 (3 * p) + 9)).tdiv 10) else 15) = min 15 ((3 * p + 9) / 10) := by
    rw [w64 (x := 3 * p) (by omega) (by omega), w64 (x := 3 * p + 9) (by omega) (by omega), tdivI (by omega) (by omega), w64 (by omega) (by omega), minI]
  refine callS_body (n := 16) rfl rfl fun w ρ X => ?_
  refine rX rfl ?_
  refine runS_cond rfl (fun h => ?_) (fun h => ?_)
  · have h1 : k = 1 := by simpa using (show (k == 1) = true from h)
    rw [if_pos h1]
    refine rX rfl ?_
    refine runS_ret (I := inf) 0 rfl (Nat.le_refl _) rfl .nil rfl ⟨?_, rfl⟩
    exact congrArg (fun z => Out.ret (.agg [iv 3, iv z, iv 0, iv 0, bv false, sv []])) hw
  · have h1 : ¬ k = 1 := by simpa using (show (k == 1) = false from h)
    rw [if_neg h1]
    refine rX rfl ?_
    refine runS_ret (I := inf) 0 rfl (Nat.le_refl _) rfl .nil rfl ⟨?_, rfl⟩
    rfl
theorem r_bin (t : Typ) (h : NT t) : CallT Tryz.prog 196 [.agg (typE t)] [] (fun o A => o = .ret (.agg (typE (binT t))) ∧ A = []) := by
  obtain ⟨hk, p1, p2, q1, q2⟩ := h
  obtain ⟨k, p, q, n, vr, pc⟩ := t
  dsimp only at hk p1 p2 q1 q2
  unfold binT
  dsimp only
  refine callS_body (n := 21) rfl rfl fun w ρ X => ?_
  refine rX rfl ?_
  refine runS_cond rfl (fun h => ?_) (fun h => ?_)
  · have h1 : k = 1 := by simpa using (show (k == 1) = true from h)
    rw [if_pos h1]
    refine rX rfl ?_
    refine runS_ret (I := inf) 0 rfl (Nat.le_refl _) rfl .nil rfl ⟨?_, rfl⟩
    rfl
  · have h1 : ¬ k = 1 := by simpa using (show (k == 1) = false from h)
    rw [if_neg h1]
    have e1 : IntKind.wrap .i64 (IntKind.wrap .i64 (10 * p) + 2) = 10 * p + 2 := by rw [w64 (x := 10 * p) (by omega) (by omega), w64 (by omega) (by omega)]
    have e2 : IntKind.wrap .i64 (IntKind.wrap .i64 (10 * q) + 2) = 10 * q + 2 := by rw [w64 (x := 10 * q) (by omega) (by omega), w64 (by omega) (by omega)]
    have e3 : IntKind.wrap .i64 ((10 * p + 2).tdiv 3) = (10 * p + 2) / 3 := by rw [tdivI (by omega) (by omega), w64 (by omega) (by omega)]
    have e4 : IntKind.wrap .i64 ((10 * q + 2).tdiv 3) = (10 * q + 2) / 3 := by rw [tdivI (by omega) (by omega), w64 (by omega) (by omega)]
    have e5 : IntKind.wrap .i64 ((10 * p + 2) / 3 + 1) = (10 * p + 2) / 3 + 1 := w64 (by omega) (by omega)
    refine rX rfl ?_
    refine runS_ret (I := inf) 0 rfl (Nat.le_refl _) rfl .nil rfl ⟨?_, rfl⟩
    refine congrArg Out.ret (congrArg AV.agg ?_)
    show [iv 1, iv (if IntKind.wrap .i64 (IntKind.wrap .i64 ((IntKind.wrap .i64 (IntKind.wrap .i64 (10 * p) + 2)).tdiv 3) + 1) < 31 then IntKind.wrap .i64 (IntKind.wrap .i64 ((IntKind.wrap .i64 (IntKind.wrap .i64 (10 * p) + 2)).tdiv 3) + 1) else 31), iv (if IntKind.wrap .i64 ((IntKind.wrap .i64 (IntKind.wrap .i64 (10 * q) + 2)).tdiv 3) < 31 then IntKind.wrap .i64 ((IntKind.wrap .i64 (IntKind.wrap .i64 (10 * q) + 2)).tdiv 3) else 31), iv 0, bv false, sv []] = _
    rw [e1, e2, e3, e4, e5, minI, minI]
def limT (t : Typ) : Int := if t.kind = 1 then 31 else 15
theorem r_limit (t : Typ) : CallT Tryz.prog 146 [.agg (typE t)] [] (fun o A => o = .ret (iv (limT t)) ∧ A = []) := by
  unfold limT
  refine callS_body (n := 6) rfl rfl fun w ρ X => ?_
  refine rX rfl ?_
  refine runS_cond rfl (fun h => ?_) (fun h => ?_)
  · have h1 : t.kind = 1 := by simpa using (show (t.kind == 1) = true from h)
    rw [if_pos h1]
    refine rX rfl ?_
    refine runS_ret (I := inf) 0 rfl (Nat.le_refl _) rfl .nil rfl ⟨?_, rfl⟩
    rfl
  · have h1 : ¬ t.kind = 1 := by simpa using (show (t.kind == 1) = false from h)
    rw [if_neg h1]
    refine rX rfl ?_
    refine runS_ret (I := inf) 0 rfl (Nat.le_refl _) rfl .nil rfl ⟨?_, rfl⟩
    rfl
theorem bin_kind (a : Typ) : (binT a).kind = 1 := by
  unfold binT
  split
  · assumption
  · rfl
theorem tog_lim (a b : Typ) : ∀ z : Typ × Typ × Int, togT a b = z → z.1.kind ≠ 3 → (a.kind = 1 ∨ a.kind = 2 ∨ a.kind = 3) → (b.kind = 1 ∨ b.kind = 2 ∨ b.kind = 3) → limT z.1 = z.2.2 := by
  intro z hz h3 ha hb
  subst hz
  unfold togT at h3 ⊢
  split
  · rename_i h
    rw [if_pos h] at h3
    exfalso
    apply h3
    show (fltT a).kind = 3
    unfold fltT
    rcases ha with h | h | h
    · rw [if_neg (by rw [h]; decide), if_pos h]
    · rw [if_pos h]
    · rw [if_neg (by rw [h]; decide), if_neg (by rw [h]; decide)]; exact h
  · rename_i h
    split
    · show limT (binT a) = 31
      unfold limT
      rw [if_pos (bin_kind a)]
    · rename_i h1
      show limT a = 15
      unfold limT
      rw [if_neg (fun e => h1 (.inl e))]
theorem r_brought (a b : Typ) (ha : vN a) (hb : vN b) : CallT Tryz.prog 144 [.agg (typE a), .agg (typE b)] [] (fun o A => o = .ret (.tup [.agg (typE (togT a b).1), .agg (typE (togT a b).2.1)]) ∧ A = []) := by
  have na := nt_of ha.1 ha.2
  have nb := nt_of hb.1 hb.2
  unfold togT
  refine callS_body (n := 34) rfl rfl fun w ρ X => ?_
  refine rX rfl ?_
  refine runS_cond rfl (fun h => ?_) (fun h => ?_)
  · have h3 : a.kind = 3 ∨ b.kind = 3 := by
      have h' : (if (a.kind == 3) = true then true else b.kind == 3) = true := h
      by_cases e : a.kind = 3
      · exact .inl e
      · rw [if_neg (by simpa using e)] at h'
        exact .inr (by simpa using h')
    rw [if_pos h3]
    refine rX rfl ?_
    refine runS_draw 3 (by kernel_rfl) (lexj_x (I := inf) (J := jnf) 99 rfl rfl ob0 (lexj_call rfl rfl rfl rfl rfl rfl rfl rfl (r_floatT a ha) (lexj_x (I := inf) (J := jnf) 99 rfl rfl ob0 lexj_nil))) ?_
    refine runS_call rfl rfl rfl rfl rfl rfl rfl (r_floatT b hb) ?_
    refine rX rfl ?_
    refine runS_ret (I := inf) 0 rfl (Nat.le_refl _) rfl .nil rfl ⟨?_, rfl⟩
    rfl
  · have h3 : ¬ (a.kind = 3 ∨ b.kind = 3) := by
      have h' : (if (a.kind == 3) = true then true else b.kind == 3) = false := h
      by_cases e : a.kind = 3
      · rw [if_pos (by simpa using e)] at h'
        cases h'
      · rw [if_neg (by simpa using e)] at h'
        rintro (h | h)
        · exact e h
        · exact absurd h (by simpa using h')
    rw [if_neg h3]
    refine rX rfl ?_
    refine runS_cond rfl (fun h => ?_) (fun h => ?_)
    · have h1 : a.kind = 1 ∨ b.kind = 1 := by
        have h' : (if (a.kind == 1) = true then true else b.kind == 1) = true := h
        by_cases e : a.kind = 1
        · exact .inl e
        · rw [if_neg (by simpa using e)] at h'
          exact .inr (by simpa using h')
      rw [if_pos h1]
      refine rX rfl ?_
      refine runS_draw 3 (by kernel_rfl) (lexj_x (I := inf) (J := jnf) 99 rfl rfl ob0 (lexj_call rfl rfl rfl rfl rfl rfl rfl rfl (r_bin a na) (lexj_x (I := inf) (J := jnf) 99 rfl rfl ob0 lexj_nil))) ?_
      refine runS_call rfl rfl rfl rfl rfl rfl rfl (r_bin b nb) ?_
      refine rX rfl ?_
      refine runS_ret (I := inf) 0 rfl (Nat.le_refl _) rfl .nil rfl ⟨?_, rfl⟩
      rfl
    · have h1 : ¬ (a.kind = 1 ∨ b.kind = 1) := by
        have h' : (if (a.kind == 1) = true then true else b.kind == 1) = false := h
        by_cases e : a.kind = 1
        · rw [if_pos (by simpa using e)] at h'
          cases h'
        · rw [if_neg (by simpa using e)] at h'
          rintro (h | h)
          · exact e h
          · exact absurd h (by simpa using h')
      rw [if_neg h1]
      refine rX rfl ?_
      refine runS_drawG (ch := []) (A2 := fun _ => []) 4 [2, 3] (fun z => [.box 25 (typE a), .box 25 (typE b), .box 25 (cond (z.getD 0 false) (typE a) (typE ty0)), .box 25 (cond (z.getD 1 false) (typE b) (typE ty0))]) none (c := 9) jnfI.draw (by kernel_rfl) rfl (lexg_g (I := inf) (J := jnf) none ⟨⟨⟨_, rfl, ob0⟩, oi⟩, oj⟩ rfl rfl rfl rfl (lexg_g (I := inf) (J := jnf) none ⟨⟨⟨_, rfl, ob0⟩, oi⟩, oj⟩ rfl rfl rfl rfl (lexg_g (I := inf) (J := jnf) (some .store) ⟨⟨⟨_, rfl, ob0⟩, oi⟩, .inl rfl⟩ rfl rfl rfl rfl (lexg_g (I := inf) (J := jnf) (some .store) ⟨⟨⟨_, rfl, ob0⟩, .inl rfl⟩, (by first | exact .inl (by decide +kernel) | exact .inr ⟨⟨_, rfl, ob0⟩, .inl rfl⟩)⟩ rfl rfl rfl rfl lexg_nil)))) rfl (fun _ => ?_) (fun h => by cases h)
      refine rX rfl ?_
      refine runS_ret (I := inf) 0 rfl (Nat.le_refl _) rfl .nil rfl ⟨?_, rfl⟩
      rfl
theorem r_asked2 (n1 : Option Bool) (ts : List Typ) (hl : ts.length ≤ 100000) (hv : ∀ t ∈ ts, vN t) : CallT Tryz.prog 142 [tyS n1 ts] [] (fun o A => o = .ret (iv 0) ∧ A = []) := by
  refine callS_body (n := 30) rfl rfl fun w ρ X => ?_
  refine rX rfl ?_
  refine runS_while (fun (i : Nat) τ ar => (τ 0 = tyS n1 ts ∧ τ 3 = iv i) ∧ ar = [] ∧ i ≤ ts.length) (fun i => ts.length - i) 0 ⟨⟨rfl, rfl⟩, rfl, Nat.zero_le _⟩ ?_
  rintro i τ' ar' ⟨⟨g0, g3⟩, rfl, hi⟩ ih
  refine runS_says 0 (by exact g0) (Says.refl _) ?_; refine runS_says 3 (by exact g3) (Says.refl _) ?_
  refine rX rfl ?_
  refine runS_cond rfl (fun h => ?_) (fun h => ?_)
  · have hlt : i < ts.length := by simp at h; omega
    have hw1 : IntKind.wrap .i64 ((i : Int) + 1) = ((i + 1 : Nat) : Int) := by rw [w64 (by omega) (by omega)]; rfl
    have hvt := (hv _ (List.getElem_mem hlt)).1
    have hd := r_valid (ts.getD i ty0)
    rw [ty_get hlt, hvt, ← ty_get hlt] at hd
    refine runS_x (I := inf) (J := jnf) ⟨false, false, [], 0, 0⟩ 9999 rfl (by repeat (first | exact obs_nil | refine obs_draw (by kernel_rfl) ?_ | refine obs_same ?_ | refine obs_and ?_ | refine obs_by (by (simp [inB, hlt] <;> omega)) ?_)) ?_
    refine runS_call rfl rfl rfl rfl rfl rfl rfl hd ?_
    refine rX rfl ?_
    refine runS_cond rfl (fun h => by cases h) (fun h => ?_)
    refine rX rfl ?_
    exact ih (i + 1) _ _ (by omega) ⟨⟨rfl, congrArg iv hw1⟩, rfl, by omega⟩
  · clear ih hi g0 g3 h
    refine rX rfl ?_
    refine runS_while (fun (i : Nat) τ ar => (τ 0 = tyS n1 ts ∧ τ 4 = iv i) ∧ ar = [] ∧ i ≤ ts.length) (fun i => ts.length - i) 0 ⟨⟨rfl, rfl⟩, rfl, Nat.zero_le _⟩ ?_
    rintro i τ' ar' ⟨⟨g0, g3⟩, rfl, hi⟩ ih
    refine runS_says 0 (by exact g0) (Says.refl _) ?_; refine runS_says 4 (by exact g3) (Says.refl _) ?_
    refine rX rfl ?_
    refine runS_cond rfl (fun h => ?_) (fun h => ?_)
    · have hlt : i < ts.length := by simp at h; omega
      have hw1 : IntKind.wrap .i64 ((i : Int) + 1) = ((i + 1 : Nat) : Int) := by rw [w64 (by omega) (by omega)]; rfl
      have hvt := (hv _ (List.getElem_mem hlt)).2
      have hk : (decide (1 ≤ ts[i].kind) && decide (ts[i].kind ≤ 3)) = true := by simp; omega
      have hd := r_numeric (ts.getD i ty0).kind
      rw [ty_get hlt, hk, ← ty_get hlt] at hd
      refine runS_x (I := inf) (J := jnf) ⟨false, false, [], 0, 0⟩ 9999 rfl (by repeat (first | exact obs_nil | refine obs_draw (by kernel_rfl) ?_ | refine obs_same ?_ | refine obs_and ?_ | refine obs_by (by (simp [inB, hlt] <;> omega)) ?_)) ?_
      refine runS_call rfl rfl rfl rfl rfl rfl rfl hd ?_
      refine rX rfl ?_
      refine runS_cond rfl (fun h => by cases h) (fun h => ?_)
      refine rX rfl ?_
      exact ih (i + 1) _ _ (by omega) ⟨⟨rfl, congrArg iv hw1⟩, rfl, by omega⟩
    · refine rX rfl ?_
      refine runS_ret (I := inf) 0 rfl (Nat.le_refl _) rfl .nil rfl ⟨?_, rfl⟩
      rfl
theorem r_sum (a b : Typ) (ha : vN a) (hb : vN b) : CallT Tryz.prog 145 [.agg (typE a), .agg (typE b), iv 1] [] (fun o A => o = .ret (.agg (typE (resT 43 a b))) ∧ A = []) := by
  have na := nt_of ha.1 ha.2
  have nb := nt_of hb.1 hb.2
  obtain ⟨nx, ny, hm, hr⟩ := tog_ok na nb (op := 43)
  have hlim := tog_lim a b _ rfl
  have ht := r_brought a b ha hb
  unfold resT
  generalize togT a b = z at *
  obtain ⟨x, y, m⟩ := z
  dsimp only at *
  refine callS_body (n := 51) rfl rfl fun w ρ X => ?_
  refine rX rfl ?_
  refine runS_call rfl rfl rfl rfl rfl rfl rfl ht ?_
  refine rX rfl ?_
  refine runS_cond rfl (fun h => ?_) (fun h => ?_)
  · have h3 : x.kind = 3 := by simpa using (show (x.kind == 3) = true from h)
    unfold fixT
    rw [if_pos h3]
    refine rX rfl ?_
    refine runS_ret (I := inf) 0 rfl (Nat.le_refl _) rfl .nil rfl ⟨?_, rfl⟩
    refine congrArg (fun z => Out.ret (.agg [iv 3, iv z, iv 0, iv 0, bv false, sv []])) ?_
    exact maxI x.p y.p
  · have h3 : ¬ x.kind = 3 := by simpa using (show (x.kind == 3) = false from h)
    have hl := hlim h3 ha.2 hb.2
    have hli := r_limit x
    rw [hl] at hli
    unfold fixT
    rw [if_neg h3, hr]
    dsimp only
    rw [if_pos (.inl rfl)]
    obtain ⟨_, p1, p2, q1, q2⟩ := nx
    obtain ⟨_, p3, p4, q3, q4⟩ := ny
    obtain ⟨ak, ap, aq, an, avr, ac⟩ := x
    obtain ⟨bk, bp, bq, bn, bvr, bc⟩ := y
    dsimp only at p1 p2 q1 q2 p3 p4 q3 q4
    have hQ : (if bq > aq then bq else aq) = max aq bq := maxI aq bq
    have hR : (if (if (IntKind.wrap .i64 (IntKind.wrap .i64 ((if (IntKind.wrap .i64 (bp - bq)) > (IntKind.wrap .i64 (ap - aq)) then (IntKind.wrap .i64 (bp - bq)) else (IntKind.wrap .i64 (ap - aq))) + (if bq > aq then bq else aq)) + 1)) > 1 then (IntKind.wrap .i64 (IntKind.wrap .i64 ((if (IntKind.wrap .i64 (bp - bq)) > (IntKind.wrap .i64 (ap - aq)) then (IntKind.wrap .i64 (bp - bq)) else (IntKind.wrap .i64 (ap - aq))) + (if bq > aq then bq else aq)) + 1)) else 1) < m then (if (IntKind.wrap .i64 (IntKind.wrap .i64 ((if (IntKind.wrap .i64 (bp - bq)) > (IntKind.wrap .i64 (ap - aq)) then (IntKind.wrap .i64 (bp - bq)) else (IntKind.wrap .i64 (ap - aq))) + (if bq > aq then bq else aq)) + 1)) > 1 then (IntKind.wrap .i64 (IntKind.wrap .i64 ((if (IntKind.wrap .i64 (bp - bq)) > (IntKind.wrap .i64 (ap - aq)) then (IntKind.wrap .i64 (bp - bq)) else (IntKind.wrap .i64 (ap - aq))) + (if bq > aq then bq else aq)) + 1)) else 1) else m) = min m (max 1 (max (ap - aq) (bp - bq) + max aq bq + 1)) := by
      rw [w64 (x := bp - bq) (by omega) (by omega), w64 (x := ap - aq) (by omega) (by omega), maxI (ap - aq) (bp - bq), maxI aq bq]
      rw [w64 (x := max (ap - aq) (bp - bq) + max aq bq) (by omega) (by omega), w64 (x := max (ap - aq) (bp - bq) + max aq bq + 1) (by omega) (by omega), maxI, minI]
    unfold sumT
    dsimp only
    rw [← hR, ← hQ]
    clear hR hQ hr hlim
    refine rX rfl ?_
    refine runS_drawG (ch := []) (A2 := fun _ => []) 24 [23] (fun z => [.box 25 [iv ak, iv ap, iv aq, iv an, bv avr, sv ac], .box 25 [iv bk, iv bp, iv bq, iv bn, bv bvr, sv bc], .box 25 (cond (z.getD 0 false) [iv ak, iv (if (if (IntKind.wrap .i64 (IntKind.wrap .i64 ((if (IntKind.wrap .i64 (bp - bq)) > (IntKind.wrap .i64 (ap - aq)) then (IntKind.wrap .i64 (bp - bq)) else (IntKind.wrap .i64 (ap - aq))) + (if bq > aq then bq else aq)) + 1)) > 1 then (IntKind.wrap .i64 (IntKind.wrap .i64 ((if (IntKind.wrap .i64 (bp - bq)) > (IntKind.wrap .i64 (ap - aq)) then (IntKind.wrap .i64 (bp - bq)) else (IntKind.wrap .i64 (ap - aq))) + (if bq > aq then bq else aq)) + 1)) else 1) < m then (if (IntKind.wrap .i64 (IntKind.wrap .i64 ((if (IntKind.wrap .i64 (bp - bq)) > (IntKind.wrap .i64 (ap - aq)) then (IntKind.wrap .i64 (bp - bq)) else (IntKind.wrap .i64 (ap - aq))) + (if bq > aq then bq else aq)) + 1)) > 1 then (IntKind.wrap .i64 (IntKind.wrap .i64 ((if (IntKind.wrap .i64 (bp - bq)) > (IntKind.wrap .i64 (ap - aq)) then (IntKind.wrap .i64 (bp - bq)) else (IntKind.wrap .i64 (ap - aq))) + (if bq > aq then bq else aq)) + 1)) else 1) else m), iv (if bq > aq then bq else aq), iv 0, bv false, sv []] (typE ty0))]) none (c := 9) jnfI.draw (by kernel_rfl) rfl (lexg_g (I := inf) (J := jnf) none ⟨⟨_, rfl, ob0⟩, oi⟩ rfl rfl rfl rfl (lexg_g (I := inf) (J := jnf) none ⟨⟨_, rfl, ob0⟩, oi⟩ rfl rfl rfl rfl (lexg_g (I := inf) (J := jnf) none ⟨⟨_, rfl, ob0⟩, oi⟩ rfl rfl rfl rfl (lexg_call rfl rfl rfl rfl rfl rfl rfl rfl rfl hli (lexg_g (I := inf) (J := jnf) none ⟨⟨_, rfl, ob0⟩, oi⟩ rfl rfl rfl rfl (lexg_g (I := inf) (J := jnf) none ⟨⟨_, rfl, ob0⟩, oi⟩ rfl rfl rfl rfl (lexg_g (I := inf) (J := jnf) none ⟨⟨_, rfl, ob0⟩, oi⟩ rfl rfl rfl rfl (lexg_g (I := inf) (J := jnf) none ⟨⟨_, rfl, ob0⟩, oi⟩ rfl rfl rfl rfl (lexg_g (I := inf) (J := jnf) none ⟨⟨_, rfl, ob0⟩, oi⟩ rfl rfl rfl rfl (lexg_g (I := inf) (J := jnf) none ⟨⟨_, rfl, ob0⟩, oi⟩ rfl rfl rfl rfl (lexg_g (I := inf) (J := jnf) none ⟨⟨_, rfl, ob0⟩, oi⟩ rfl rfl rfl rfl (lexg_g (I := inf) (J := jnf) none ⟨⟨_, rfl, ob0⟩, oi⟩ rfl rfl rfl rfl (lexg_g (I := inf) (J := jnf) none ⟨⟨_, rfl, ob0⟩, oi⟩ rfl rfl rfl rfl (lexg_g (I := inf) (J := jnf) none ⟨⟨_, rfl, ob0⟩, oi⟩ rfl rfl rfl rfl (lexg_g (I := inf) (J := jnf) none ⟨⟨_, rfl, ob0⟩, oi⟩ rfl rfl rfl rfl (lexg_g (I := inf) (J := jnf) none ⟨⟨_, rfl, ob0⟩, oi⟩ rfl rfl rfl rfl (lexg_g (I := inf) (J := jnf) none ⟨⟨_, rfl, ob0⟩, oi⟩ rfl rfl rfl rfl (lexg_g (I := inf) (J := jnf) none ⟨⟨_, rfl, ob0⟩, oi⟩ rfl rfl rfl rfl (lexg_g (I := inf) (J := jnf) none ⟨⟨_, rfl, ob0⟩, oi⟩ rfl rfl rfl rfl (lexg_g (I := inf) (J := jnf) none ⟨⟨_, rfl, ob0⟩, oi⟩ rfl rfl rfl rfl (lexg_g (I := inf) (J := jnf) none ⟨⟨_, rfl, ob0⟩, oi⟩ rfl rfl rfl rfl (lexg_g (I := inf) (J := jnf) none ⟨⟨_, rfl, ob0⟩, oi⟩ rfl rfl rfl rfl (lexg_g (I := inf) (J := jnf) none ⟨⟨_, rfl, ob0⟩, oi⟩ rfl rfl rfl rfl (lexg_g (I := inf) (J := jnf) (some .store) ⟨⟨_, rfl, ob0⟩, .inl rfl⟩ rfl rfl rfl rfl lexg_nil)))))))))))))))))))))))) rfl (fun _ => ?_) (fun h => by cases h)
    refine rX rfl ?_
    refine runS_ret (I := inf) 0 rfl (Nat.le_refl _) rfl .nil rfl ⟨?_, rfl⟩
    rfl
end Go.Iron.Tryz

/- The pairs' seat: the reference's Float and Result. -/
namespace Go.Iron.Tryz
open Go.Proofs Go.RowKit Go.Iron.Tok Go.Iron.Dg

theorem r_Float (t : Typ) (hv : vN t) : CallT Tryz.prog 74 [.agg (typE t)] [] (fun o A => o = .ret (.tup [.agg (typE (fltT t)), iv 0]) ∧ A = []) := by
  have hf := r_floatT t hv
  generalize fltT t = u at *
  refine callS_body (n := 14) rfl rfl fun w ρ X => ?_
  refine rX rfl ?_
  refine runS_tell 2 (tyR [t]) rfl (m' := 1) rfl (fun j hj => ?_) rfl ?_
  · rcases j with _ | j <;> first | rfl | omega
  refine runS_freeze 6 rfl rfl rfl (fun j hj => ?_) ?_
  · rcases j with _ | j <;> first | rfl | omega
  refine runS_call rfl rfl rfl rfl rfl rfl rfl (r_asked2 none [t] (by simp) (by intro a ha; simp at ha; rw [ha]; exact hv)) ?_
  refine rX rfl ?_
  refine runS_cond rfl (fun h => by cases h) (fun h => ?_)
  refine rX rfl ?_
  refine runS_call rfl rfl rfl rfl rfl rfl rfl hf ?_
  refine rX rfl ?_
  refine runS_ret (I := inf) 0 rfl (Nat.le_refl _) rfl .nil rfl ⟨?_, rfl⟩
  rfl
theorem r_Result43 (a b : Typ) (ha : vN a) (hb : vN b) : CallT Tryz.prog 75 [sv [43], .agg (typE a), .agg (typE b)] [] (fun o A => o = .ret (.tup [.agg (typE (resT 43 a b)), iv 0]) ∧ A = []) := by
  have na := nt_of ha.1 ha.2
  have nb := nt_of hb.1 hb.2
  have hs := r_sum a b ha hb
  have he : resT 43 a b = resT 43 a b := rfl
  rw [he]
  generalize resT 43 a b = t at *
  obtain ⟨nx, ny, hm, hr⟩ := tog_ok na nb (op := 43)
  have hlim := tog_lim a b _ rfl
  have ht := r_brought a b ha hb
  generalize togT a b = z at *
  obtain ⟨x, y, m⟩ := z
  dsimp only at *
  refine callS_body (n := 95) rfl rfl fun w ρ X => ?_
  refine rX rfl ?_
  refine runS_tell 3 (tyR [a, b]) rfl (m' := 2) rfl (fun j hj => ?_) rfl ?_
  · rcases j with _ | _ | j <;> first | rfl | omega
  refine runS_freeze 13 rfl rfl rfl (fun j hj => ?_) ?_
  · rcases j with _ | _ | j <;> first | rfl | omega
  refine runS_call rfl rfl rfl rfl rfl rfl rfl (r_asked2 none [a, b] (by simp) (by intro t ht; simp at ht; rcases ht with rfl | rfl; exact ha; exact hb)) ?_
  refine rX rfl ?_
  refine runS_cond rfl (fun h => by cases h) (fun h => ?_)
  refine rX rfl ?_
  refine runS_call rfl rfl rfl rfl rfl rfl rfl ht ?_
  refine rX rfl ?_
  refine runS_cond rfl (fun h => ?_) (fun h => by rw [show (ByteArray.mk #[43]) = bs [43] from rfl, bs_beq] at h; cases h)
  refine rX rfl ?_
  refine runS_cond rfl (fun h => ?_) (fun h => by rw [show (ByteArray.mk #[43]) = bs [43] from rfl, bs_beq] at h; cases h)
  refine rX rfl ?_
  refine runS_call rfl rfl rfl rfl rfl rfl rfl hs ?_
  refine rX rfl ?_
  refine runS_ret (I := inf) 0 rfl (Nat.le_refl _) rfl .nil rfl ⟨?_, rfl⟩
  rfl
theorem r_Result45 (a b : Typ) (ha : vN a) (hb : vN b) : CallT Tryz.prog 75 [sv [45], .agg (typE a), .agg (typE b)] [] (fun o A => o = .ret (.tup [.agg (typE (resT 45 a b)), iv 0]) ∧ A = []) := by
  have na := nt_of ha.1 ha.2
  have nb := nt_of hb.1 hb.2
  have hs := r_sum a b ha hb
  have he : resT 45 a b = resT 43 a b := rfl
  rw [he]
  generalize resT 43 a b = t at *
  obtain ⟨nx, ny, hm, hr⟩ := tog_ok na nb (op := 45)
  have hlim := tog_lim a b _ rfl
  have ht := r_brought a b ha hb
  generalize togT a b = z at *
  obtain ⟨x, y, m⟩ := z
  dsimp only at *
  refine callS_body (n := 95) rfl rfl fun w ρ X => ?_
  refine rX rfl ?_
  refine runS_tell 3 (tyR [a, b]) rfl (m' := 2) rfl (fun j hj => ?_) rfl ?_
  · rcases j with _ | _ | j <;> first | rfl | omega
  refine runS_freeze 13 rfl rfl rfl (fun j hj => ?_) ?_
  · rcases j with _ | _ | j <;> first | rfl | omega
  refine runS_call rfl rfl rfl rfl rfl rfl rfl (r_asked2 none [a, b] (by simp) (by intro t ht; simp at ht; rcases ht with rfl | rfl; exact ha; exact hb)) ?_
  refine rX rfl ?_
  refine runS_cond rfl (fun h => by cases h) (fun h => ?_)
  refine rX rfl ?_
  refine runS_call rfl rfl rfl rfl rfl rfl rfl ht ?_
  refine rX rfl ?_
  refine runS_cond rfl (fun h => by rw [show (ByteArray.mk #[43]) = bs [43] from rfl, bs_beq] at h; cases h) (fun h => ?_)
  refine rX rfl ?_
  refine runS_cond rfl (fun h => ?_) (fun h => by rw [show (ByteArray.mk #[45]) = bs [45] from rfl, bs_beq] at h; cases h)
  refine rX rfl ?_
  refine runS_call rfl rfl rfl rfl rfl rfl rfl hs ?_
  refine rX rfl ?_
  refine runS_ret (I := inf) 0 rfl (Nat.le_refl _) rfl .nil rfl ⟨?_, rfl⟩
  rfl
theorem r_Result42 (a b : Typ) (ha : vN a) (hb : vN b) : CallT Tryz.prog 75 [sv [42], .agg (typE a), .agg (typE b)] [] (fun o A => o = .ret (.tup [.agg (typE (resT 42 a b)), iv 0]) ∧ A = []) := by
  have na := nt_of ha.1 ha.2
  have nb := nt_of hb.1 hb.2
  obtain ⟨nx, ny, hm, hr⟩ := tog_ok na nb (op := 42)
  have hlim := tog_lim a b _ rfl
  have ht := r_brought a b ha hb
  unfold resT
  generalize togT a b = z at *
  obtain ⟨x, y, m⟩ := z
  dsimp only at *
  refine callS_body (n := 95) rfl rfl fun w ρ X => ?_
  refine rX rfl ?_
  refine runS_tell 3 (tyR [a, b]) rfl (m' := 2) rfl (fun j hj => ?_) rfl ?_
  · rcases j with _ | _ | j <;> first | rfl | omega
  refine runS_freeze 13 rfl rfl rfl (fun j hj => ?_) ?_
  · rcases j with _ | _ | j <;> first | rfl | omega
  refine runS_call rfl rfl rfl rfl rfl rfl rfl (r_asked2 none [a, b] (by simp) (by intro t ht; simp at ht; rcases ht with rfl | rfl; exact ha; exact hb)) ?_
  refine rX rfl ?_
  refine runS_cond rfl (fun h => by cases h) (fun h => ?_)
  refine rX rfl ?_
  refine runS_call rfl rfl rfl rfl rfl rfl rfl ht ?_
  refine rX rfl ?_
  refine runS_cond rfl (fun h => by rw [show (ByteArray.mk #[43]) = bs [43] from rfl, bs_beq] at h; cases h) (fun h => ?_)
  refine rX rfl ?_
  refine runS_cond rfl (fun h => by rw [show (ByteArray.mk #[45]) = bs [45] from rfl, bs_beq] at h; cases h) (fun h => ?_)
  refine rX rfl ?_
  refine runS_cond rfl (fun h => by rw [show (ByteArray.mk #[42,42]) = bs [42,42] from rfl, bs_beq] at h; cases h) (fun h => ?_)
  refine rX rfl ?_
  refine runS_cond rfl (fun h => ?_) (fun h => by rw [show (ByteArray.mk #[42]) = bs [42] from rfl, bs_beq] at h; cases h)
  refine rX rfl ?_
  refine runS_cond rfl (fun h => ?_) (fun h => by rw [show (ByteArray.mk #[42]) = bs [42] from rfl, bs_beq] at h; cases h)
  refine rX rfl ?_
  refine runS_cond rfl (fun h => ?_) (fun h => ?_)
  · have h3 : x.kind = 3 := by simpa using (show (x.kind == 3) = true from h)
    unfold fixT
    rw [if_pos h3]
    refine rX rfl ?_
    refine runS_ret (I := inf) 0 rfl (Nat.le_refl _) rfl .nil rfl ⟨?_, rfl⟩
    refine congrArg (fun z => Out.ret (.tup [.agg [iv 3, iv z, iv 0, iv 0, bv false, sv []], iv 0])) ?_
    exact maxI x.p y.p
  · have h3 : ¬ x.kind = 3 := by simpa using (show (x.kind == 3) = false from h)
    have hl := hlim h3 ha.2 hb.2
    have hli := r_limit x
    rw [hl] at hli
    unfold fixT
    rw [if_neg h3, hr]
    dsimp only
    obtain ⟨_, p1, p2, q1, q2⟩ := nx
    obtain ⟨_, p3, p4, q3, q4⟩ := ny
    obtain ⟨ak, ap, aq, an, avr, ac⟩ := x
    obtain ⟨bk, bp, bq, bn, bvr, bc⟩ := y
    dsimp only at p1 p2 q1 q2 p3 p4 q3 q4
    refine rX rfl ?_
    refine runS_cond rfl (fun h => ?_) (fun h => by rw [show (ByteArray.mk #[42]) = bs [42] from rfl, bs_beq] at h; cases h)
    refine rX rfl ?_
    have hP : (if IntKind.wrap .i64 (IntKind.wrap .i64 (ap + bp) + 1) < m then IntKind.wrap .i64 (IntKind.wrap .i64 (ap + bp) + 1) else m) = min m (ap + bp + 1) := by rw [w64 (x := ap + bp) (by omega) (by omega), w64 (x := ap + bp + 1) (by omega) (by omega), minI]
    have hQ : (if IntKind.wrap .i64 (aq + bq) < 31 then IntKind.wrap .i64 (aq + bq) else 31) = min 31 (aq + bq) := by rw [w64 (x := aq + bq) (by omega) (by omega), minI]
    show RunS _ _ _ _ _ (fun o A => o = .ret (.tup [.agg [iv ak, iv (min m (ap + bp + 1)), iv (min 31 (aq + bq)), iv 0, bv false, sv []], iv 0]) ∧ A = [])
    rw [← hP, ← hQ]
    refine runS_drawG (ch := []) (A2 := fun _ => []) 20 [18] (fun z => [.box 25 (typE a), .box 25 (typE b), .box 25 (cond (z.getD 0 false) [iv ak, iv (if IntKind.wrap .i64 (IntKind.wrap .i64 (ap + bp) + 1) < m then IntKind.wrap .i64 (IntKind.wrap .i64 (ap + bp) + 1) else m), iv (if IntKind.wrap .i64 (aq + bq) < 31 then IntKind.wrap .i64 (aq + bq) else 31), iv 0, bv false, sv []] (typE ty0)), .gone, .box 25 [iv ak, iv ap, iv aq, iv an, bv avr, sv ac], .box 25 [iv bk, iv bp, iv bq, iv bn, bv bvr, sv bc]]) none (c := 9) jnfI.draw (by kernel_rfl) rfl (lexg_g (I := inf) (J := jnf) none ⟨⟨_, rfl, ob0⟩, oi⟩ rfl rfl rfl rfl (lexg_g (I := inf) (J := jnf) none ⟨⟨_, rfl, ob0⟩, oi⟩ rfl rfl rfl rfl (lexg_g (I := inf) (J := jnf) none ⟨⟨_, rfl, ob0⟩, oi⟩ rfl rfl rfl rfl (lexg_call rfl rfl rfl rfl rfl rfl rfl rfl rfl hli (lexg_g (I := inf) (J := jnf) none ⟨⟨_, rfl, ob0⟩, oi⟩ rfl rfl rfl rfl (lexg_g (I := inf) (J := jnf) none ⟨⟨_, rfl, ob0⟩, oi⟩ rfl rfl rfl rfl (lexg_g (I := inf) (J := jnf) none ⟨⟨_, rfl, ob0⟩, oi⟩ rfl rfl rfl rfl (lexg_g (I := inf) (J := jnf) none ⟨⟨_, rfl, ob0⟩, oi⟩ rfl rfl rfl rfl (lexg_g (I := inf) (J := jnf) none ⟨⟨_, rfl, ob0⟩, oi⟩ rfl rfl rfl rfl (lexg_g (I := inf) (J := jnf) none ⟨⟨_, rfl, ob0⟩, oi⟩ rfl rfl rfl rfl (lexg_g (I := inf) (J := jnf) none ⟨⟨_, rfl, ob0⟩, oi⟩ rfl rfl rfl rfl (lexg_g (I := inf) (J := jnf) none ⟨⟨_, rfl, ob0⟩, oi⟩ rfl rfl rfl rfl (lexg_g (I := inf) (J := jnf) none ⟨⟨_, rfl, ob0⟩, oi⟩ rfl rfl rfl rfl (lexg_g (I := inf) (J := jnf) none ⟨⟨_, rfl, ob0⟩, oi⟩ rfl rfl rfl rfl (lexg_g (I := inf) (J := jnf) none ⟨⟨_, rfl, ob0⟩, oi⟩ rfl rfl rfl rfl (lexg_g (I := inf) (J := jnf) none ⟨⟨_, rfl, ob0⟩, oi⟩ rfl rfl rfl rfl (lexg_g (I := inf) (J := jnf) none ⟨⟨_, rfl, ob0⟩, oi⟩ rfl rfl rfl rfl (lexg_g (I := inf) (J := jnf) none ⟨⟨_, rfl, ob0⟩, oi⟩ rfl rfl rfl rfl (lexg_g (I := inf) (J := jnf) (some .store) ⟨⟨_, rfl, ob0⟩, .inl rfl⟩ rfl rfl rfl rfl (lexg_g (I := inf) (J := jnf) none ⟨⟨_, rfl, ob0⟩, oi⟩ rfl rfl rfl rfl lexg_nil)))))))))))))))))))) rfl (fun _ => ?_) (fun h => by cases h)
    refine rX rfl ?_
    refine runS_ret (I := inf) 0 rfl (Nat.le_refl _) rfl .nil rfl ⟨?_, rfl⟩
    rfl
theorem r_Result47 (a b : Typ) (ha : vN a) (hb : vN b) : CallT Tryz.prog 75 [sv [47], .agg (typE a), .agg (typE b)] [] (fun o A => o = .ret (.tup [.agg (typE (resT 47 a b)), iv 0]) ∧ A = []) := by
  have na := nt_of ha.1 ha.2
  have nb := nt_of hb.1 hb.2
  obtain ⟨nx, ny, hm, hr⟩ := tog_ok na nb (op := 47)
  have hlim := tog_lim a b _ rfl
  have ht := r_brought a b ha hb
  unfold resT
  generalize togT a b = z at *
  obtain ⟨x, y, m⟩ := z
  dsimp only at *
  refine callS_body (n := 95) rfl rfl fun w ρ X => ?_
  refine rX rfl ?_
  refine runS_tell 3 (tyR [a, b]) rfl (m' := 2) rfl (fun j hj => ?_) rfl ?_
  · rcases j with _ | _ | j <;> first | rfl | omega
  refine runS_freeze 13 rfl rfl rfl (fun j hj => ?_) ?_
  · rcases j with _ | _ | j <;> first | rfl | omega
  refine runS_call rfl rfl rfl rfl rfl rfl rfl (r_asked2 none [a, b] (by simp) (by intro t ht; simp at ht; rcases ht with rfl | rfl; exact ha; exact hb)) ?_
  refine rX rfl ?_
  refine runS_cond rfl (fun h => by cases h) (fun h => ?_)
  refine rX rfl ?_
  refine runS_call rfl rfl rfl rfl rfl rfl rfl ht ?_
  refine rX rfl ?_
  refine runS_cond rfl (fun h => by rw [show (ByteArray.mk #[43]) = bs [43] from rfl, bs_beq] at h; cases h) (fun h => ?_)
  refine rX rfl ?_
  refine runS_cond rfl (fun h => by rw [show (ByteArray.mk #[45]) = bs [45] from rfl, bs_beq] at h; cases h) (fun h => ?_)
  refine rX rfl ?_
  refine runS_cond rfl (fun h => by rw [show (ByteArray.mk #[42,42]) = bs [42,42] from rfl, bs_beq] at h; cases h) (fun h => ?_)
  refine rX rfl ?_
  refine runS_cond rfl (fun h => by rw [show (ByteArray.mk #[42]) = bs [42] from rfl, bs_beq] at h; cases h) (fun h => ?_)
  refine rX rfl ?_
  refine runS_cond rfl (fun h => ?_) (fun h => by rw [show (ByteArray.mk #[47]) = bs [47] from rfl, bs_beq] at h; cases h)
  refine rX rfl ?_
  refine runS_cond rfl (fun h => ?_) (fun h => ?_)
  · have h3 : x.kind = 3 := by simpa using (show (x.kind == 3) = true from h)
    unfold fixT
    rw [if_pos h3]
    refine rX rfl ?_
    refine runS_ret (I := inf) 0 rfl (Nat.le_refl _) rfl .nil rfl ⟨?_, rfl⟩
    refine congrArg (fun z => Out.ret (.tup [.agg [iv 3, iv z, iv 0, iv 0, bv false, sv []], iv 0])) ?_
    exact maxI x.p y.p
  · have h3 : ¬ x.kind = 3 := by simpa using (show (x.kind == 3) = false from h)
    have hl := hlim h3 ha.2 hb.2
    have hli := r_limit x
    rw [hl] at hli
    unfold fixT
    rw [if_neg h3, hr]
    dsimp only
    obtain ⟨_, p1, p2, q1, q2⟩ := nx
    obtain ⟨_, p3, p4, q3, q4⟩ := ny
    obtain ⟨ak, ap, aq, an, avr, ac⟩ := x
    obtain ⟨bk, bp, bq, bn, bvr, bc⟩ := y
    dsimp only at p1 p2 q1 q2 p3 p4 q3 q4
    refine rX rfl ?_
    refine runS_cond rfl (fun h => by rw [show (ByteArray.mk #[42]) = bs [42] from rfl, bs_beq] at h; cases h) (fun h => ?_)
    refine rX rfl ?_
    have hQ : (if (if IntKind.wrap .i64 (IntKind.wrap .i64 (IntKind.wrap .i64 (m - ap) + aq) - bq) < 31 then IntKind.wrap .i64 (IntKind.wrap .i64 (IntKind.wrap .i64 (m - ap) + aq) - bq) else 31) > 0 then (if IntKind.wrap .i64 (IntKind.wrap .i64 (IntKind.wrap .i64 (m - ap) + aq) - bq) < 31 then IntKind.wrap .i64 (IntKind.wrap .i64 (IntKind.wrap .i64 (m - ap) + aq) - bq) else 31) else 0) = max 0 (min 31 (m - ap + aq - bq)) := by rw [w64 (x := m - ap) (by omega) (by omega), w64 (x := m - ap + aq) (by omega) (by omega), w64 (x := m - ap + aq - bq) (by omega) (by omega), minI, maxI]
    show RunS _ _ _ _ _ (fun o A => o = .ret (.tup [.agg [iv ak, iv m, iv (max 0 (min 31 (m - ap + aq - bq))), iv 0, bv false, sv []], iv 0]) ∧ A = [])
    rw [← hQ]
    refine runS_drawG (ch := []) (A2 := fun _ => []) 20 [18] (fun z => [.box 25 (typE a), .box 25 (typE b), .box 25 (cond (z.getD 0 false) [iv ak, iv m, iv (if (if IntKind.wrap .i64 (IntKind.wrap .i64 (IntKind.wrap .i64 (m - ap) + aq) - bq) < 31 then IntKind.wrap .i64 (IntKind.wrap .i64 (IntKind.wrap .i64 (m - ap) + aq) - bq) else 31) > 0 then (if IntKind.wrap .i64 (IntKind.wrap .i64 (IntKind.wrap .i64 (m - ap) + aq) - bq) < 31 then IntKind.wrap .i64 (IntKind.wrap .i64 (IntKind.wrap .i64 (m - ap) + aq) - bq) else 31) else 0), iv 0, bv false, sv []] (typE ty0)), .gone, .box 25 [iv ak, iv ap, iv aq, iv an, bv avr, sv ac], .box 25 [iv bk, iv bp, iv bq, iv bn, bv bvr, sv bc]]) none (c := 9) jnfI.draw (by kernel_rfl) rfl (lexg_g (I := inf) (J := jnf) none ⟨⟨_, rfl, ob0⟩, oi⟩ rfl rfl rfl rfl (lexg_g (I := inf) (J := jnf) none ⟨⟨_, rfl, ob0⟩, oi⟩ rfl rfl rfl rfl (lexg_g (I := inf) (J := jnf) none ⟨⟨_, rfl, ob0⟩, oi⟩ rfl rfl rfl rfl (lexg_call rfl rfl rfl rfl rfl rfl rfl rfl rfl hli (lexg_g (I := inf) (J := jnf) none ⟨⟨_, rfl, ob0⟩, oi⟩ rfl rfl rfl rfl (lexg_call rfl rfl rfl rfl rfl rfl rfl rfl rfl hli (lexg_g (I := inf) (J := jnf) none ⟨⟨_, rfl, ob0⟩, oi⟩ rfl rfl rfl rfl (lexg_g (I := inf) (J := jnf) none ⟨⟨_, rfl, ob0⟩, oi⟩ rfl rfl rfl rfl (lexg_g (I := inf) (J := jnf) none ⟨⟨_, rfl, ob0⟩, oi⟩ rfl rfl rfl rfl (lexg_g (I := inf) (J := jnf) none ⟨⟨_, rfl, ob0⟩, oi⟩ rfl rfl rfl rfl (lexg_g (I := inf) (J := jnf) none ⟨⟨_, rfl, ob0⟩, oi⟩ rfl rfl rfl rfl (lexg_g (I := inf) (J := jnf) none ⟨⟨_, rfl, ob0⟩, oi⟩ rfl rfl rfl rfl (lexg_g (I := inf) (J := jnf) none ⟨⟨_, rfl, ob0⟩, oi⟩ rfl rfl rfl rfl (lexg_g (I := inf) (J := jnf) none ⟨⟨_, rfl, ob0⟩, oi⟩ rfl rfl rfl rfl (lexg_g (I := inf) (J := jnf) none ⟨⟨_, rfl, ob0⟩, oi⟩ rfl rfl rfl rfl (lexg_g (I := inf) (J := jnf) none ⟨⟨_, rfl, ob0⟩, oi⟩ rfl rfl rfl rfl (lexg_g (I := inf) (J := jnf) none ⟨⟨_, rfl, ob0⟩, oi⟩ rfl rfl rfl rfl (lexg_g (I := inf) (J := jnf) none ⟨⟨_, rfl, ob0⟩, oi⟩ rfl rfl rfl rfl (lexg_g (I := inf) (J := jnf) (some .store) ⟨⟨_, rfl, ob0⟩, .inl rfl⟩ rfl rfl rfl rfl (lexg_g (I := inf) (J := jnf) none ⟨⟨_, rfl, ob0⟩, oi⟩ rfl rfl rfl rfl lexg_nil)))))))))))))))))))) rfl (fun _ => ?_) (fun h => by cases h)
    refine rX rfl ?_
    refine runS_ret (I := inf) 0 rfl (Nat.le_refl _) rfl .nil rfl ⟨?_, rfl⟩
    rfl
end Go.Iron.Tryz

/- The pairs' seat: what the reference asks of pairs with their types. -/
namespace Go.Iron.Tryz
open Go.Proofs Go.RowKit Go.Iron.Tok Go.Iron.Dg

theorem no2 {a b : Bool} (h : (if (!a) = true then true else !b) = true) : (a && b) = false := by
  cases a <;> cases b <;> first | rfl | cases h
theorem yes2 {a b : Bool} (h : (if (!a) = true then true else !b) = false) : (a && b) = true := by
  cases a <;> cases b <;> first | rfl | cases h
theorem has_kind {t : Typ} {v : Vl} (h : hasB t v = true) : t.kind = v.kind := by
  unfold hasB at h
  simp at h
  exact h.1.2
theorem r_askedP (n1 n2 : Option Bool) (l : List Pr) (ts : List Typ) (hl : l.length ≤ 100000) (hts : ts.length = l.length) : CallT Tryz.prog 73 [prS n1 l, tyS n2 ts] [] (fun o A => o = .ret (iv (askP l ts)) ∧ A = []) := by
  refine callS_body (n := 102) rfl rfl fun w ρ X => ?_
  refine rX rfl ?_
  refine runS_while (fun (i : Nat) τ ar => (τ 0 = prS n1 l ∧ τ 1 = tyS n2 ts ∧ τ 5 = iv i) ∧ ar = [] ∧ i ≤ l.length ∧ (l.take i).all pRight = true) (fun i => l.length - i) 0 ⟨⟨rfl, rfl, rfl⟩, rfl, Nat.zero_le _, rfl⟩ ?_
  rintro i τ' ar' ⟨⟨g0, g1, g5⟩, rfl, hi, ha⟩ ih
  refine runS_says 0 (by exact g0) (Says.refl _) ?_; refine runS_says 1 (by exact g1) (Says.refl _) ?_; refine runS_says 5 (by exact g5) (Says.refl _) ?_
  refine rX rfl ?_
  refine runS_cond rfl (fun h => ?_) (fun h => ?_)
  · have hlt : i < l.length := by simp at h; omega
    have hw1 : IntKind.wrap .i64 ((i : Int) + 1) = ((i + 1 : Nat) : Int) := by rw [w64 (by omega) (by omega)]; rfl
    have hv := pr_get hlt
    have c1 := r_right (l.getD i pr0).re.kind (l.getD i pr0).re.n (l.getD i pr0).re.q (l.getD i pr0).re.s
    have c2 := r_right (l.getD i pr0).im.kind (l.getD i pr0).im.n (l.getD i pr0).im.q (l.getD i pr0).im.s
    refine runS_x (I := inf) (J := jnf) ⟨false, false, [], 0, 0⟩ 9999 rfl (by repeat (first | exact obs_nil | refine obs_draw (by kernel_rfl) ?_ | refine obs_same ?_ | refine obs_and ?_ | refine obs_by (by (simp [inB, hlt] <;> omega)) ?_)) ?_
    refine runS_call rfl rfl rfl rfl rfl rfl rfl c1 ?_
    refine runS_x (I := inf) (J := jnf) ⟨false, false, [], 0, 0⟩ 9999 rfl (by repeat (first | exact obs_nil | refine obs_draw (by kernel_rfl) ?_ | refine obs_same ?_ | refine obs_and ?_ | refine obs_by (by (simp [inB, hlt] <;> omega)) ?_)) ?_
    refine runS_callU rfl rfl (by first | exact .v rfl rfl rfl rfl | exact .o rfl rfl rfl rfl) rfl rfl (by repeat (first | exact .nil | refine .cons (.n rfl) ?_ | refine .cons .o ?_ | refine .cons gok_and ?_)) rfl rfl rfl rfl rfl (fun _ => c2) ?_
    refine rX rfl ?_
    refine runS_cond rfl (fun h2 => ?_) (fun h2 => ?_)
    · have h3 : (if (!(l.getD i pr0).re.right) = true then true else !(l.getD i pr0).im.right) = true := h2
      have hE : askP l ts = 1 := by
        unfold askP
        rw [if_pos]
        rw [List.all_eq_false]
        exact ⟨_, List.getElem_mem hlt, by rw [← hv]; unfold pRight; rw [no2 h3]; decide⟩
      rw [hE]
      refine rX rfl ?_
      refine runS_ret (I := inf) 0 rfl (Nat.le_refl _) rfl .nil rfl ⟨?_, rfl⟩
      rfl
    · have h3 : (if (!(l.getD i pr0).re.right) = true then true else !(l.getD i pr0).im.right) = false := h2
      refine rX rfl ?_
      exact ih (i + 1) _ _ (by omega) ⟨⟨rfl, rfl, congrArg iv hw1⟩, rfl, by omega, all_take ha hlt (by rw [← hv]; exact yes2 h3)⟩
  · have hie : i = l.length := by simp at h; omega
    subst hie
    rw [List.take_length] at ha
    clear ih hi g0 g1 g5 h
    refine rX rfl ?_
    refine runS_while (fun (i : Nat) τ ar => (τ 0 = prS n1 l ∧ τ 1 = tyS n2 ts ∧ τ 6 = iv i) ∧ ar = [] ∧ i ≤ ts.length) (fun i => ts.length - i) 0 ⟨⟨rfl, rfl, rfl⟩, rfl, Nat.zero_le _⟩ ?_
    rintro i τ2 ar2 ⟨⟨g0, g1, g6⟩, rfl, hi⟩ ih
    refine runS_says 0 (by exact g0) (Says.refl _) ?_; refine runS_says 1 (by exact g1) (Says.refl _) ?_; refine runS_says 6 (by exact g6) (Says.refl _) ?_
    refine rX rfl ?_
    refine runS_cond rfl (fun h => ?_) (fun h => ?_)
    · have hlt : i < ts.length := by simp at h; omega
      have hw1 : IntKind.wrap .i64 ((i : Int) + 1) = ((i + 1 : Nat) : Int) := by rw [w64 (by omega) (by omega)]; rfl
      refine runS_x (I := inf) (J := jnf) ⟨false, false, [], 0, 0⟩ 9999 rfl (by repeat (first | exact obs_nil | refine obs_draw (by kernel_rfl) ?_ | refine obs_same ?_ | refine obs_and ?_ | refine obs_by (by (simp [inB, hlt] <;> omega)) ?_)) ?_
      refine runS_call rfl rfl rfl rfl rfl rfl rfl (r_valid (ts.getD i ty0)) ?_
      refine rX rfl ?_
      refine runS_cond rfl (fun h2 => ?_) (fun h2 => ?_)
      · have h3 : (!validT (ts.getD i ty0)) = true := h2
        have hE : askP l ts = 13 := by
          unfold askP
          rw [if_neg (by rw [ha]; decide), if_pos]
          rw [List.all_eq_false]
          refine ⟨i, List.mem_range.2 (by omega), ?_⟩
          rw [Bool.not_eq_true'] at h3
          rw [h3, Bool.false_and]
          decide
        rw [hE]
        refine rX rfl ?_
        refine runS_ret (I := inf) 0 rfl (Nat.le_refl _) rfl .nil rfl ⟨?_, rfl⟩
        rfl
      · refine rX rfl ?_
        exact ih (i + 1) _ _ (by omega) ⟨⟨rfl, rfl, congrArg iv hw1⟩, rfl, by omega⟩
    · clear ih hi g0 g1 g6 h
      refine rX rfl ?_
      refine runS_while (fun (i : Nat) τ ar => (τ 0 = prS n1 l ∧ τ 1 = tyS n2 ts ∧ τ 7 = iv i) ∧ ar = [] ∧ i ≤ l.length ∧ ((List.range i).all fun i => validT (ts.getD i ty0) && pHas (ts.getD i ty0) (l.getD i pr0)) = true) (fun i => l.length - i) 0 ⟨⟨rfl, rfl, rfl⟩, rfl, Nat.zero_le _, rfl⟩ ?_
      rintro i τ3 ar3 ⟨⟨g0, g1, g7⟩, rfl, hi, hb⟩ ih
      refine runS_says 0 (by exact g0) (Says.refl _) ?_; refine runS_says 1 (by exact g1) (Says.refl _) ?_; refine runS_says 7 (by exact g7) (Says.refl _) ?_
      refine rX rfl ?_
      have hcd : (if decide ((i : Int) < (l.length : Int)) = true then decide ((ts.length : Int) > 0) else false) = decide (i < l.length) := by
        by_cases h : i < l.length
        · rw [decide_eq_true (show (i : Int) < (l.length : Int) by omega), if_pos rfl, decide_eq_true h, decide_eq_true (by omega)]
        · rw [decide_eq_false (show ¬ (i : Int) < (l.length : Int) by omega), decide_eq_false h]
          rfl
      refine runS_cond rfl (fun h => ?_) (fun h => ?_)
      · have hlt : i < l.length := of_decide_eq_true (hcd.symm.trans h)
        have hlt2 : i < ts.length := by omega
        have hw1 : IntKind.wrap .i64 ((i : Int) + 1) = ((i + 1 : Nat) : Int) := by rw [w64 (by omega) (by omega)]; rfl
        have c1 := r_has (ts.getD i ty0) (l.getD i pr0).re
        have c2 := r_has (ts.getD i ty0) (l.getD i pr0).im
        clear hcd h
        refine runS_x (I := inf) (J := jnf) ⟨false, false, [], 0, 0⟩ 9999 rfl (by repeat (first | exact obs_nil | refine obs_draw (by kernel_rfl) ?_ | refine obs_same ?_ | refine obs_and ?_ | refine obs_by (by (simp [inB, hlt, hlt2] <;> omega)) ?_)) ?_
        refine runS_draw 21 (by kernel_rfl) (lexj_x (I := inf) (J := jnf) 99 rfl rfl (by repeat (first | exact obs_nil | refine obs_same ?_ | refine obs_and ?_ | refine obs_by (by (simp [inB, hlt, hlt2] <;> omega)) ?_)) (lexj_call rfl rfl rfl rfl rfl rfl rfl rfl c1 (lexj_x (I := inf) (J := jnf) 99 rfl rfl (by repeat (first | exact obs_nil | refine obs_same ?_ | refine obs_and ?_ | refine obs_by (by (simp [inB, hlt, hlt2] <;> omega)) ?_)) lexj_nil))) ?_
        refine runS_callU rfl rfl (by first | exact .v rfl rfl rfl rfl | exact .o rfl rfl rfl rfl) rfl rfl (by repeat (first | exact .nil | refine .cons (.n rfl) ?_ | refine .cons .o ?_ | refine .cons gok_and ?_)) rfl rfl rfl rfl rfl (fun _ => c2) ?_
        refine rX rfl ?_
        refine runS_cond rfl (fun h2 => ?_) (fun h2 => ?_)
        · have h3 : (if (!hasB (ts.getD i ty0) (l.getD i pr0).re) = true then true else !hasB (ts.getD i ty0) (l.getD i pr0).im) = true := h2
          have hE : askP l ts = 13 := by
            unfold askP
            rw [if_neg (by rw [ha]; decide), if_pos]
            rw [List.all_eq_false]
            exact ⟨i, List.mem_range.2 hlt, by unfold pHas; rw [no2 h3, Bool.and_false]; decide⟩
          rw [hE]
          refine rX rfl ?_
          refine runS_ret (I := inf) 0 rfl (Nat.le_refl _) rfl .nil rfl ⟨?_, rfl⟩
          rfl
        · have h3 : (if (!hasB (ts.getD i ty0) (l.getD i pr0).re) = true then true else !hasB (ts.getD i ty0) (l.getD i pr0).im) = false := h2
          have h4 := yes2 h3
          have hvt : validT (ts.getD i ty0) = true := by
            have h5 := (Bool.and_eq_true_iff.1 h4).1
            unfold hasB at h5
            simp at h5
            simp
            exact h5.1.1.1
          refine rX rfl ?_
          exact ih (i + 1) _ _ (by omega) ⟨⟨rfl, rfl, congrArg iv hw1⟩, rfl, by omega, range_all hb (by unfold pHas; rw [h4, hvt]; rfl)⟩
      · have hie : i = l.length := by
          have := of_decide_eq_false (hcd.symm.trans h)
          omega
        subst hie
        clear ih hi g0 g1 g7 h hcd
        have hbi : ∀ i, i < l.length → validT (ts.getD i ty0) = true ∧ (ts.getD i ty0).kind = (l.getD i pr0).re.kind ∧ (ts.getD i ty0).kind = (l.getD i pr0).im.kind := fun i hi => by
          rw [List.all_eq_true] at hb
          have h1 := hb i (List.mem_range.2 hi)
          obtain ⟨h2, h3⟩ := Bool.and_eq_true_iff.1 h1
          unfold pHas at h3
          obtain ⟨h4, h5⟩ := Bool.and_eq_true_iff.1 h3
          exact ⟨h2, has_kind h4, has_kind h5⟩
        refine rX rfl ?_
        refine runS_while (fun (i : Nat) τ ar => (τ 0 = prS n1 l ∧ τ 8 = iv i) ∧ ar = [] ∧ i ≤ l.length ∧ (ts.take i).all (fun t => decide (t.kind ≤ 3)) = true) (fun i => l.length - i) 0 ⟨⟨rfl, rfl⟩, rfl, Nat.zero_le _, rfl⟩ ?_
        rintro i τ4 ar4 ⟨⟨g0, g8⟩, rfl, hi, hc⟩ ih
        refine runS_says 0 (by exact g0) (Says.refl _) ?_; refine runS_says 8 (by exact g8) (Says.refl _) ?_
        refine rX rfl ?_
        refine runS_cond rfl (fun h => ?_) (fun h => ?_)
        · have hlt : i < l.length := by simp at h; omega
          have hlt2 : i < ts.length := by omega
          have hw1 : IntKind.wrap .i64 ((i : Int) + 1) = ((i + 1 : Nat) : Int) := by rw [w64 (by omega) (by omega)]; rfl
          obtain ⟨k1, k2, k3⟩ := hbi i hlt
          have hk9 := valid_kind k1
          have c1 := r_numeric (l.getD i pr0).re.kind
          have c2 := r_numeric (l.getD i pr0).im.kind
          refine runS_x (I := inf) (J := jnf) ⟨false, false, [], 0, 0⟩ 9999 rfl (by repeat (first | exact obs_nil | refine obs_draw (by kernel_rfl) ?_ | refine obs_same ?_ | refine obs_and ?_ | refine obs_by (by (simp [inB, hlt] <;> omega)) ?_)) ?_
          refine runS_call rfl rfl rfl rfl rfl rfl rfl c1 ?_
          refine runS_x (I := inf) (J := jnf) ⟨false, false, [], 0, 0⟩ 9999 rfl (by repeat (first | exact obs_nil | refine obs_draw (by kernel_rfl) ?_ | refine obs_same ?_ | refine obs_and ?_ | refine obs_by (by (simp [inB, hlt] <;> omega)) ?_)) ?_
          refine runS_callU rfl rfl (by first | exact .v rfl rfl rfl rfl | exact .o rfl rfl rfl rfl) rfl rfl (by repeat (first | exact .nil | refine .cons (.n rfl) ?_ | refine .cons .o ?_ | refine .cons gok_and ?_)) rfl rfl rfl rfl rfl (fun _ => c2) ?_
          refine rX rfl ?_
          refine runS_cond rfl (fun h2 => ?_) (fun h2 => ?_)
          · have h3 : (if (!(decide (1 ≤ (l.getD i pr0).re.kind) && decide ((l.getD i pr0).re.kind ≤ 3))) = true then true else !(decide (1 ≤ (l.getD i pr0).im.kind) && decide ((l.getD i pr0).im.kind ≤ 3))) = true := h2
            have h4 := no2 h3
            rw [← k2, ← k3] at h4
            have h5 : ¬ (ts.getD i ty0).kind ≤ 3 := by
              intro e
              rw [decide_eq_true hk9.1, decide_eq_true e] at h4
              cases h4
            have hE : askP l ts = 10 := by
              unfold askP
              rw [if_neg (by rw [ha]; decide), if_neg (by rw [hb]; decide), if_pos]
              rw [List.all_eq_false]
              rw [ty_get hlt2] at h5
              exact ⟨_, List.getElem_mem hlt2, by simpa using h5⟩
            rw [hE]
            refine rX rfl ?_
            refine runS_ret (I := inf) 0 rfl (Nat.le_refl _) rfl .nil rfl ⟨?_, rfl⟩
            rfl
          · have h3 : (if (!(decide (1 ≤ (l.getD i pr0).re.kind) && decide ((l.getD i pr0).re.kind ≤ 3))) = true then true else !(decide (1 ≤ (l.getD i pr0).im.kind) && decide ((l.getD i pr0).im.kind ≤ 3))) = false := h2
            have h4 := yes2 h3
            rw [← k2, ← k3] at h4
            have h5 : (ts.getD i ty0).kind ≤ 3 := of_decide_eq_true (Bool.and_eq_true_iff.1 (Bool.and_eq_true_iff.1 h4).1).2
            rw [ty_get hlt2] at h5
            refine rX rfl ?_
            exact ih (i + 1) _ _ (by omega) ⟨⟨rfl, congrArg iv hw1⟩, rfl, by omega, all_take hc hlt2 (by simpa using h5)⟩
        · have hie : i = l.length := by simp at h; omega
          subst hie
          rw [← hts, List.take_length] at hc
          have hE : askP l ts = 0 := by
            unfold askP
            rw [if_neg (by rw [ha]; decide), if_neg (by rw [hb]; decide), if_neg (by rw [hc]; decide)]
          rw [hE]
          refine rX rfl ?_
          refine runS_ret (I := inf) 0 rfl (Nat.le_refl _) rfl .nil rfl ⟨?_, rfl⟩
          rfl
end Go.Iron.Tryz

/- The pairs' seat: the reference's steps. -/
namespace Go.Iron.Tryz
open Go.Proofs Go.RowKit Go.Iron.Tok Go.Iron.Dg

abbrev stE (t : Typ) (c : Int) : List AV := [iv t.kind, iv t.p, iv t.q, iv t.n, bv t.vary, sv t.pic, iv c]
def stepV (op : UInt8) (t : Typ) (c : Int) (a b : Vl) : Vl × Int := if c ≠ 0 then (a, c) else ((doV op a b t).1, (doV op a b t).2.1)
def timesS (t : Typ) (c : Int) (x y : Pr) : Pr × Int :=
  (⟨(stepV 45 t (stepV 42 t (stepV 42 t (stepV 42 t (stepV 42 t c x.re y.re).2 x.im y.im).2 x.re y.im).2 x.im y.re).2 (stepV 42 t c x.re y.re).1 (stepV 42 t (stepV 42 t c x.re y.re).2 x.im y.im).1).1,
    (stepV 43 t (stepV 45 t (stepV 42 t (stepV 42 t (stepV 42 t (stepV 42 t c x.re y.re).2 x.im y.im).2 x.re y.im).2 x.im y.re).2 (stepV 42 t c x.re y.re).1 (stepV 42 t (stepV 42 t c x.re y.re).2 x.im y.im).1).2 (stepV 42 t (stepV 42 t (stepV 42 t c x.re y.re).2 x.im y.im).2 x.re y.im).1 (stepV 42 t (stepV 42 t (stepV 42 t (stepV 42 t c x.re y.re).2 x.im y.im).2 x.re y.im).2 x.im y.re).1).1⟩,
    (stepV 43 t (stepV 45 t (stepV 42 t (stepV 42 t (stepV 42 t (stepV 42 t c x.re y.re).2 x.im y.im).2 x.re y.im).2 x.im y.re).2 (stepV 42 t c x.re y.re).1 (stepV 42 t (stepV 42 t c x.re y.re).2 x.im y.im).1).2 (stepV 42 t (stepV 42 t (stepV 42 t c x.re y.re).2 x.im y.im).2 x.re y.im).1 (stepV 42 t (stepV 42 t (stepV 42 t (stepV 42 t c x.re y.re).2 x.im y.im).2 x.re y.im).2 x.im y.re).1).2)
theorem step_ok {op : UInt8} {t : Typ} {a b v : Vl} (h : byV op t a b = .ok v) : stepV op t 0 a b = (v, 0) := by
  unfold byV at h
  unfold stepV
  rw [if_neg (by decide)]
  split at h
  · rename_i h0
    injection h with h
    rw [h, h0]
  · cases h
theorem step_err {op : UInt8} {t : Typ} {a b : Vl} {e : Int} (h : byV op t a b = .error e) : (stepV op t 0 a b).2 = e ∧ e ≠ 0 := by
  unfold byV at h
  unfold stepV
  rw [if_neg (by decide)]
  split at h
  · cases h
  · rename_i h0
    injection h with h
    exact ⟨h, by rw [← h]; exact h0⟩
theorem step_stay (op : UInt8) (t : Typ) {c : Int} (a b : Vl) (h : c ≠ 0) : stepV op t c a b = (a, c) := by
  unfold stepV
  rw [if_pos h]
theorem times_same (t : Typ) (x y : Pr) : match timesV t x y with
    | .ok z => timesS t 0 x y = (z, 0)
    | .error e => (timesS t 0 x y).2 = e ∧ e ≠ 0 := by
  unfold timesV timesS
  cases e1 : byV 42 t x.re y.re with
  | error e =>
    obtain ⟨h, h0⟩ := step_err e1
    generalize stepV 42 t 0 x.re y.re = s1 at *
    obtain ⟨v1, c1⟩ := s1
    dsimp only at h
    subst h
    dsimp only
    simp only [step_stay _ _ _ _ h0]
    exact ⟨trivial, h0⟩
  | ok p =>
    rw [step_ok e1]
    dsimp only
    cases e2 : byV 42 t x.im y.im with
    | error e =>
      obtain ⟨h, h0⟩ := step_err e2
      generalize stepV 42 t 0 x.im y.im = s1 at *
      obtain ⟨v1, c1⟩ := s1
      dsimp only at h
      subst h
      dsimp only
      simp only [step_stay _ _ _ _ h0]
      exact ⟨trivial, h0⟩
    | ok q =>
      rw [step_ok e2]
      dsimp only
      cases e3 : byV 42 t x.re y.im with
      | error e =>
        obtain ⟨h, h0⟩ := step_err e3
        generalize stepV 42 t 0 x.re y.im = s1 at *
        obtain ⟨v1, c1⟩ := s1
        dsimp only at h
        subst h
        dsimp only
        simp only [step_stay _ _ _ _ h0]
        exact ⟨trivial, h0⟩
      | ok r =>
        rw [step_ok e3]
        dsimp only
        cases e4 : byV 42 t x.im y.re with
        | error e =>
          obtain ⟨h, h0⟩ := step_err e4
          generalize stepV 42 t 0 x.im y.re = s1 at *
          obtain ⟨v1, c1⟩ := s1
          dsimp only at h
          subst h
          dsimp only
          simp only [step_stay _ _ _ _ h0]
          exact ⟨trivial, h0⟩
        | ok s =>
          rw [step_ok e4]
          dsimp only
          cases e5 : byV 45 t p q with
          | error e =>
            obtain ⟨h, h0⟩ := step_err e5
            generalize stepV 45 t 0 p q = s1 at *
            obtain ⟨v1, c1⟩ := s1
            dsimp only at h
            subst h
            dsimp only
            simp only [step_stay _ _ _ _ h0]
            exact ⟨trivial, h0⟩
          | ok re =>
            rw [step_ok e5]
            dsimp only
            cases e6 : byV 43 t r s with
            | error e => exact step_err e6
            | ok im =>
              rw [step_ok e6]
theorem r_step9 (o0 o1 o2 o3 o4 o5 o6 o7 o8 : AO) (hk0 : ∀ l, Kept 10 l → Kept 10 (o0 :: o1 :: o2 :: o3 :: o4 :: o5 :: o6 :: o7 :: o8 :: l)) (op : UInt8) (hop : op = 43 ∨ op = 45 ∨ op = 42 ∨ op = 47) (t : Typ) (c : Int) (a b : Vl) : CallT Tryz.prog 76 [.ptr 9 0 0, sv [op], .agg (vlE a), .agg (vlE b)] [o0, o1, o2, o3, o4, o5, o6, o7, o8, .box 101 (stE t c)] (fun o A => o = .ret (.agg (vlE (stepV op t c a b).1)) ∧ A = [o0, o1, o2, o3, o4, o5, o6, o7, o8, .box 101 (stE t (stepV op t c a b).2)]) := by
  have hd := r_do op hop a b t
  unfold stepV
  generalize doV op a b t = R at *
  obtain ⟨v, c2, e⟩ := R
  dsimp only at hd ⊢
  refine callS_body (n := 35) rfl rfl fun w ρ X => ?_
  refine rX rfl ?_
  refine runS_cond rfl (fun h => ?_) (fun h => ?_)
  · have hc : c ≠ 0 := by
      have h3 : (!(c == 0)) = true := h
      simpa using h3
    rw [if_pos hc]
    refine rX rfl ?_
    exact runS_ret (I := inf) 10 rfl (Nat.le_refl _) rfl (hk0 _ (.box rfl .nil)) rfl ⟨rfl, rfl⟩
  · have hc : c = 0 := by
      have h3 : (!(c == 0)) = false := h
      simpa using h3
    subst hc
    rw [if_neg (by decide)]
    refine rX rfl ?_
    refine runS_drawG (ch := []) (A2 := fun _ => []) 16 [12, 13] (fun z => [o0, o1, o2, o3, o4, o5, o6, o7, o8, .box 101 (stE t 0), .box 23 (vlE a), .box 23 (vlE b), .box 23 vlZ] ++ cond (z.getD 0 false) [.box 23 (cond (z.getD 1 false) (vlE v) vlZ)] []) none (c := 9) jnfI.draw (by kernel_rfl) rfl (lexg_g (I := inf) (J := jnf) none ⟨⟨⟨_, rfl, ob0⟩, oi⟩, oj⟩ rfl rfl rfl rfl (lexg_g (I := inf) (J := jnf) none ⟨⟨⟨_, rfl, ob0⟩, oi⟩, oj⟩ rfl rfl rfl rfl (lexg_g (I := inf) (J := jnf) none ⟨⟨⟨_, rfl, ob0⟩, oi⟩, oj⟩ rfl rfl rfl rfl (lexg_g (I := inf) (J := jnf) none ⟨⟨⟨_, rfl, ob0⟩, oi⟩, oj⟩ rfl rfl rfl rfl (lexg_g (I := inf) (J := jnf) none ⟨⟨⟨_, rfl, ob0⟩, oi⟩, oj⟩ rfl rfl rfl rfl (lexg_g (I := inf) (J := jnf) none ⟨⟨⟨_, rfl, ob0⟩, oi⟩, oj⟩ rfl rfl rfl rfl (lexg_g (I := inf) (J := jnf) none ⟨⟨⟨_, rfl, ob0⟩, oi⟩, oj⟩ rfl rfl rfl rfl (lexg_call rfl rfl rfl rfl rfl rfl rfl rfl rfl hd (lexg_g (I := inf) (J := jnf) none ⟨⟨⟨_, rfl, ob0⟩, oi⟩, oj⟩ rfl rfl rfl rfl (lexg_g (I := inf) (J := jnf) none ⟨⟨⟨_, rfl, ob0⟩, oi⟩, oj⟩ rfl rfl rfl rfl (lexg_g (I := inf) (J := jnf) none ⟨⟨⟨_, rfl, ob0⟩, oi⟩, oj⟩ rfl rfl rfl rfl (lexg_g (I := inf) (J := jnf) none ⟨⟨⟨_, rfl, ob0⟩, oi⟩, oj⟩ rfl rfl rfl rfl (lexg_a rfl rfl ⟨⟨(show _ = _ from rfl), (by first | exact .inl (by decide +kernel) | exact .inr (show _ = _ from rfl))⟩, .inl rfl⟩ rfl rfl rfl rfl (lexg_d (I := inf) (J := jnf) (some .store) ⟨ok, ok⟩ rfl rfl rfl rfl (lexg_g (I := inf) (J := jnf) none ⟨⟨⟨_, rfl, ob0⟩, oi⟩, oj⟩ rfl rfl rfl rfl (lexg_g (I := inf) (J := jnf) none ⟨⟨⟨_, rfl, ob0⟩, oi⟩, oj⟩ rfl rfl rfl rfl lexg_nil)))))))))))))))) rfl (fun _ => ?_) (fun h => by cases h)
    refine rX rfl ?_
    exact runS_ret (I := inf) 10 rfl (Nat.le_refl _) rfl (hk0 _ (.box rfl .nil)) rfl ⟨rfl, rfl⟩
theorem r_times9 (o0 o1 o2 o3 o4 o5 o6 o7 o8 : AO) (hk0 : ∀ l, Kept 10 l → Kept 10 (o0 :: o1 :: o2 :: o3 :: o4 :: o5 :: o6 :: o7 :: o8 :: l)) (t : Typ) (c : Int) (x y : Pr) : CallT Tryz.prog 77 [.ptr 9 0 0, .agg (prE x), .agg (prE y)] [o0, o1, o2, o3, o4, o5, o6, o7, o8, .box 101 (stE t c)] (fun o A => o = .ret (.agg (prE (timesS t c x y).1)) ∧ A = [o0, o1, o2, o3, o4, o5, o6, o7, o8, .box 101 (stE t (timesS t c x y).2)]) := by
  have hs := r_step9 o0 o1 o2 o3 o4 o5 o6 o7 o8 hk0
  have hkk : ∀ c, Kept 10 [o0, o1, o2, o3, o4, o5, o6, o7, o8, .box 101 (stE t c)] := fun c => hk0 _ (.box rfl .nil)
  unfold timesS
  have c1 := hs 42 (by decide) t c x.re y.re
  generalize stepV 42 t c x.re y.re = s1 at *
  obtain ⟨p, k1⟩ := s1
  dsimp only at c1 ⊢
  have c2 := hs 42 (by decide) t k1 x.im y.im
  generalize stepV 42 t k1 x.im y.im = s2 at *
  obtain ⟨q, k2⟩ := s2
  dsimp only at c2 ⊢
  have c3 := hs 42 (by decide) t k2 x.re y.im
  generalize stepV 42 t k2 x.re y.im = s3 at *
  obtain ⟨r, k3⟩ := s3
  dsimp only at c3 ⊢
  have c4 := hs 42 (by decide) t k3 x.im y.re
  generalize stepV 42 t k3 x.im y.re = s4 at *
  obtain ⟨s, k4⟩ := s4
  dsimp only at c4 ⊢
  have c5 := hs 45 (by decide) t k4 p q
  generalize stepV 45 t k4 p q = s5 at *
  obtain ⟨re, k5⟩ := s5
  dsimp only at c5 ⊢
  have c6 := hs 43 (by decide) t k5 r s
  generalize stepV 43 t k5 r s = s6 at *
  obtain ⟨im, k6⟩ := s6
  dsimp only at c6 ⊢
  refine callS_body (n := 48) rfl rfl fun w ρ X => ?_
  refine rX rfl ?_
  refine runS_callF [o0, o1, o2, o3, o4, o5, o6, o7, o8, .box 101 (stE t c)] [o0, o1, o2, o3, o4, o5, o6, o7, o8, .box 101 (stE t k1)] _ rfl rfl rfl rfl rfl (show _ = [.ptr 9 0 0, sv [42], .agg (vlE x.re), .agg (vlE y.re)] from rfl) rfl (hkk c) rfl rfl c1 ?_
  refine rX rfl ?_
  refine runS_callF [o0, o1, o2, o3, o4, o5, o6, o7, o8, .box 101 (stE t k1)] [o0, o1, o2, o3, o4, o5, o6, o7, o8, .box 101 (stE t k2)] _ rfl rfl rfl rfl rfl (show _ = [.ptr 9 0 0, sv [42], .agg (vlE x.im), .agg (vlE y.im)] from rfl) rfl (hkk k1) rfl rfl c2 ?_
  refine rX rfl ?_
  refine runS_callF [o0, o1, o2, o3, o4, o5, o6, o7, o8, .box 101 (stE t k2)] [o0, o1, o2, o3, o4, o5, o6, o7, o8, .box 101 (stE t k3)] _ rfl rfl rfl rfl rfl (show _ = [.ptr 9 0 0, sv [42], .agg (vlE x.re), .agg (vlE y.im)] from rfl) rfl (hkk k2) rfl rfl c3 ?_
  refine rX rfl ?_
  refine runS_callF [o0, o1, o2, o3, o4, o5, o6, o7, o8, .box 101 (stE t k3)] [o0, o1, o2, o3, o4, o5, o6, o7, o8, .box 101 (stE t k4)] _ rfl rfl rfl rfl rfl (show _ = [.ptr 9 0 0, sv [42], .agg (vlE x.im), .agg (vlE y.re)] from rfl) rfl (hkk k3) rfl rfl c4 ?_
  refine rX rfl ?_
  refine runS_callF [o0, o1, o2, o3, o4, o5, o6, o7, o8, .box 101 (stE t k4)] [o0, o1, o2, o3, o4, o5, o6, o7, o8, .box 101 (stE t k5)] _ rfl rfl rfl rfl rfl (show _ = [.ptr 9 0 0, sv [45], .agg (vlE p), .agg (vlE q)] from rfl) rfl (hkk k4) rfl rfl c5 ?_
  refine rX rfl ?_
  refine runS_callF [o0, o1, o2, o3, o4, o5, o6, o7, o8, .box 101 (stE t k5)] [o0, o1, o2, o3, o4, o5, o6, o7, o8, .box 101 (stE t k6)] _ rfl rfl rfl rfl rfl (show _ = [.ptr 9 0 0, sv [43], .agg (vlE r), .agg (vlE s)] from rfl) rfl (hkk k5) rfl rfl c6 ?_
  refine rX rfl ?_
  exact runS_ret (I := inf) 10 rfl (Nat.le_refl _) rfl (hkk k6) rfl ⟨rfl, rfl⟩
end Go.Iron.Tryz

/- The pairs' seat: the reference's Do. -/
namespace Go.Iron.Tryz
open Go.Proofs Go.RowKit Go.Iron.Tok Go.Iron.Dg

theorem r_zeros (t : Typ) : CallT Tryz.prog 78 [.agg (typE t)] [] (fun o A => o = .ret (.agg (prE (zeroP t))) ∧ A = []) := by
  have hz := r_Zero t
  unfold zeroP
  generalize zeroV t = z at *
  obtain ⟨⟨k, n, q, s⟩, e⟩ := z
  dsimp only at hz ⊢
  refine callS_body (n := 13) rfl rfl fun w ρ X => ?_
  refine rX rfl ?_
  refine runS_call rfl rfl rfl rfl rfl rfl rfl hz ?_
  refine rX rfl ?_
  refine runS_ret (I := inf) 0 rfl (Nat.le_refl _) rfl .nil rfl ⟨?_, rfl⟩
  rfl
def pmS (op : UInt8) (t : Typ) (x y : Pr) : Pr × Int := (⟨(stepV op t 0 x.re y.re).1, (stepV op t (stepV op t 0 x.re y.re).2 x.im y.im).1⟩, (stepV op t (stepV op t 0 x.re y.re).2 x.im y.im).2)
def endS (t : Typ) (z : Pr) (c : Int) : Pr × Int := if c ≠ 0 then (zeroP t, c) else (z, 0)
theorem op_known43 : (if ((if ((if (!((bs [43]).toList == (bs [43]).toList)) = true then !((bs [43]).toList == (bs [45]).toList) else false)) = true then !((bs [43]).toList == (bs [42]).toList) else false)) = true then !((bs [43]).toList == (bs [47]).toList) else false) = false := by
  simp only [bs_beq]
  decide
theorem op_known45 : (if ((if ((if (!((bs [45]).toList == (bs [43]).toList)) = true then !((bs [45]).toList == (bs [45]).toList) else false)) = true then !((bs [45]).toList == (bs [42]).toList) else false)) = true then !((bs [45]).toList == (bs [47]).toList) else false) = false := by
  simp only [bs_beq]
  decide
theorem op_known42 : (if ((if ((if (!((bs [42]).toList == (bs [43]).toList)) = true then !((bs [42]).toList == (bs [45]).toList) else false)) = true then !((bs [42]).toList == (bs [42]).toList) else false)) = true then !((bs [42]).toList == (bs [47]).toList) else false) = false := by
  simp only [bs_beq]
  decide
theorem op_known47 : (if ((if ((if (!((bs [47]).toList == (bs [43]).toList)) = true then !((bs [47]).toList == (bs [45]).toList) else false)) = true then !((bs [47]).toList == (bs [42]).toList) else false)) = true then !((bs [47]).toList == (bs [47]).toList) else false) = false := by
  simp only [bs_beq]
  decide
theorem r_Do43 (x y : Pr) (ta tb : Typ) (ha : askP [x, y] [ta, tb] = 0) (hva : vN ta) (hvb : vN tb) : CallT Tryz.prog 24 [sv [43], .agg (prE x), .agg (prE y), .agg (typE ta), .agg (typE tb)] [] (fun o A => o = .ret (doA (endS (resT 43 (inT 43 ta) (inT 43 tb)) (pmS 43 (resT 43 (inT 43 ta) (inT 43 tb)) x y).1 (pmS 43 (resT 43 (inT 43 ta) (inT 43 tb)) x y).2).1 (resT 43 (inT 43 ta) (inT 43 tb)) (endS (resT 43 (inT 43 ta) (inT 43 tb)) (pmS 43 (resT 43 (inT 43 ta) (inT 43 tb)) x y).1 (pmS 43 (resT 43 (inT 43 ta) (inT 43 tb)) x y).2).2 0) ∧ A = []) := by
  have hak := r_askedP none none [x, y] [ta, tb] (by simp) rfl
  rw [ha] at hak
  have hia : inT 43 ta = ta := rfl
  have hib : inT 43 tb = tb := rfl
  rw [hia, hib]
  have hra := r_Result43 ta tb hva hvb
  generalize resT 43 ta tb = t at *
  have hk0 : ∀ l, Kept 10 l → Kept 10 (.gone :: .gone :: .box 25 (typE ta) :: .box 25 (typE tb) :: .box 41 (prE pr0) :: .box 25 (typE ty0) :: .gone :: .gone :: .box 25 (typE t) :: l) := fun l hk => .gone (.gone (.box rfl (.box rfl (.box rfl (.box rfl (.gone (.gone (.box rfl hk))))))))
  have hkk : ∀ c, Kept 10 [.gone, .gone, .box 25 (typE ta), .box 25 (typE tb), .box 41 (prE pr0), .box 25 (typE ty0), .gone, .gone, .box 25 (typE t), .box 101 (stE t c)] := fun c => hk0 _ (.box rfl .nil)
  have hs := r_step9 _ _ _ _ _ _ _ _ _ hk0
  unfold pmS
  have c1 := hs 43 (by decide) t 0 x.re y.re
  generalize stepV 43 t 0 x.re y.re = s1 at *
  obtain ⟨re, k1⟩ := s1
  dsimp only at c1 ⊢
  have c2 := hs 43 (by decide) t k1 x.im y.im
  generalize stepV 43 t k1 x.im y.im = s2 at *
  obtain ⟨im, k2⟩ := s2
  dsimp only at c2 ⊢
  refine callS_body (n := 183) rfl rfl fun w ρ X => ?_
  refine rX rfl ?_
  refine runS_tell 6 (prR [x, y]) rfl (m' := 2) rfl (fun j hj => ?_) rfl ?_
  · rcases j with _ | _ | j <;> first | rfl | omega
  refine runS_tell 7 (tyR [ta, tb]) rfl (m' := 2) rfl (fun j hj => ?_) rfl ?_
  · rcases j with _ | _ | j <;> first | rfl | omega
  refine runS_freeze 24 rfl rfl rfl (fun j hj => ?_) ?_
  · rcases j with _ | _ | j <;> first | rfl | omega
  refine runS_freeze 27 rfl rfl rfl (fun j hj => ?_) ?_
  · rcases j with _ | _ | j <;> first | rfl | omega
  refine runS_call rfl rfl rfl rfl rfl rfl rfl hak ?_
  refine rX rfl ?_
  refine runS_cond rfl (fun h => by cases h) (fun h => ?_)
  refine rX rfl ?_
  have hnop := op_known43
  refine runS_cond rfl (fun h => Bool.noConfusion (hnop.symm.trans h)) (fun h => ?_)
  refine rX rfl ?_
  refine runS_cond rfl (fun h => by rw [show (ByteArray.mk #[47]) = bs [47] from rfl, bs_beq] at h; cases h) (fun h => ?_)
  refine rX rfl ?_
  refine runS_call rfl rfl rfl rfl rfl rfl rfl hra ?_
  refine rX rfl ?_
  refine runS_freezeBox 0 rfl rfl rfl ?_
  refine runS_freezeBox 1 rfl rfl rfl ?_
  refine runS_cond rfl (fun h => ?_) (fun h => by rw [show (ByteArray.mk #[43]) = bs [43] from rfl, bs_beq] at h; cases h)
  refine rX rfl ?_
  refine runS_cond rfl (fun h => ?_) (fun h => by rw [show (ByteArray.mk #[43]) = bs [43] from rfl, bs_beq] at h; cases h)
  refine rX rfl ?_
  refine runS_callF [.gone, .gone, .box 25 (typE ta), .box 25 (typE tb), .box 41 (prE pr0), .box 25 (typE ty0), .gone, .gone, .box 25 (typE t), .box 101 (stE t 0)] [.gone, .gone, .box 25 (typE ta), .box 25 (typE tb), .box 41 (prE pr0), .box 25 (typE ty0), .gone, .gone, .box 25 (typE t), .box 101 (stE t k1)] _ rfl rfl rfl rfl rfl (show _ = [.ptr 9 0 0, sv [43], .agg (vlE x.re), .agg (vlE y.re)] from rfl) rfl (hkk 0) rfl rfl c1 ?_
  refine rX rfl ?_
  refine runS_callF [.gone, .gone, .box 25 (typE ta), .box 25 (typE tb), .box 41 (prE pr0), .box 25 (typE ty0), .gone, .gone, .box 25 (typE t), .box 101 (stE t k1)] [.gone, .gone, .box 25 (typE ta), .box 25 (typE tb), .box 41 (prE pr0), .box 25 (typE ty0), .gone, .gone, .box 25 (typE t), .box 101 (stE t k2)] _ rfl rfl rfl rfl rfl (show _ = [.ptr 9 0 0, sv [43], .agg (vlE x.im), .agg (vlE y.im)] from rfl) rfl (hkk k1) rfl rfl c2 ?_
  refine rX rfl ?_
  refine runS_cond rfl (fun h => ?_) (fun h => ?_)
  · have hc : k2 ≠ 0 := by
      have h3 : (!(k2 == 0)) = true := h
      simpa using h3
    have he : endS t ⟨re, im⟩ k2 = (zeroP t, k2) := by
      unfold endS
      rw [if_pos hc]
    rw [he]
    refine rX rfl ?_
    refine runS_drawG (ch := []) (A2 := fun _ => []) 11 [7, 8] (fun w => [.gone, .gone, .box 25 (typE ta), .box 25 (typE tb), .box 41 (cond (w.getD 0 false) (prE (zeroP t)) (prE pr0)), .box 25 (cond (w.getD 1 false) (typE t) (typE ty0)), .gone, .gone, .box 25 (typE t), .box 101 (stE t k2), .box 41 (prE ⟨re, im⟩)]) none (c := 9) jnfI.draw (by kernel_rfl) rfl (lexg_g (I := inf) (J := jnf) none ⟨⟨⟨_, rfl, ob0⟩, oi⟩, oj⟩ rfl rfl rfl rfl (lexg_call rfl rfl rfl rfl rfl rfl rfl rfl rfl (r_zeros t) (lexg_g (I := inf) (J := jnf) none ⟨⟨⟨_, rfl, ob0⟩, oi⟩, oj⟩ rfl rfl rfl rfl (lexg_g (I := inf) (J := jnf) none ⟨⟨⟨_, rfl, ob0⟩, oi⟩, oj⟩ rfl rfl rfl rfl (lexg_g (I := inf) (J := jnf) none ⟨⟨⟨_, rfl, ob0⟩, oi⟩, oj⟩ rfl rfl rfl rfl (lexg_g (I := inf) (J := jnf) none ⟨⟨⟨_, rfl, ob0⟩, oi⟩, oj⟩ rfl rfl rfl rfl (lexg_g (I := inf) (J := jnf) none ⟨⟨⟨_, rfl, ob0⟩, oi⟩, oj⟩ rfl rfl rfl rfl (lexg_g (I := inf) (J := jnf) (some .store) ⟨⟨⟨_, rfl, ob0⟩, oi⟩, .inl rfl⟩ rfl rfl rfl rfl (lexg_g (I := inf) (J := jnf) (some .store) ⟨⟨⟨_, rfl, ob0⟩, .inl rfl⟩, (by first | exact .inl (by decide +kernel) | exact .inr ⟨⟨_, rfl, ob0⟩, .inl rfl⟩)⟩ rfl rfl rfl rfl (lexg_g (I := inf) (J := jnf) none ⟨⟨⟨_, rfl, ob0⟩, oi⟩, oj⟩ rfl rfl rfl rfl (lexg_g (I := inf) (J := jnf) none ⟨⟨⟨_, rfl, ob0⟩, oi⟩, oj⟩ rfl rfl rfl rfl lexg_nil))))))))))) rfl (fun _ => ?_) (fun h => by cases h)
    refine rX rfl ?_
    refine runS_ret (I := inf) 0 rfl (Nat.le_refl _) rfl .nil rfl ⟨?_, rfl⟩
    rfl
  · have hc : k2 = 0 := by
      have h3 : (!(k2 == 0)) = false := h
      simpa using h3
    have he : endS t ⟨re, im⟩ k2 = (⟨re, im⟩, 0) := by
      unfold endS
      rw [if_neg (by rw [hc]; decide)]
    rw [he]
    refine rX rfl ?_
    refine runS_drawG (ch := []) (A2 := fun _ => []) 6 [2, 3] (fun w => [.gone, .gone, .box 25 (typE ta), .box 25 (typE tb), .box 41 (cond (w.getD 0 false) (prE ⟨re, im⟩) (prE pr0)), .box 25 (cond (w.getD 1 false) (typE t) (typE ty0)), .gone, .gone, .box 25 (typE t), .box 101 (stE t k2), .box 41 (prE ⟨re, im⟩)]) none (c := 9) jnfI.draw (by kernel_rfl) rfl (lexg_g (I := inf) (J := jnf) none ⟨⟨⟨_, rfl, ob0⟩, oi⟩, oj⟩ rfl rfl rfl rfl (lexg_g (I := inf) (J := jnf) none ⟨⟨⟨_, rfl, ob0⟩, oi⟩, oj⟩ rfl rfl rfl rfl (lexg_g (I := inf) (J := jnf) (some .store) ⟨⟨⟨_, rfl, ob0⟩, oi⟩, .inl rfl⟩ rfl rfl rfl rfl (lexg_g (I := inf) (J := jnf) (some .store) ⟨⟨⟨_, rfl, ob0⟩, .inl rfl⟩, (by first | exact .inl (by decide +kernel) | exact .inr ⟨⟨_, rfl, ob0⟩, .inl rfl⟩)⟩ rfl rfl rfl rfl (lexg_g (I := inf) (J := jnf) none ⟨⟨⟨_, rfl, ob0⟩, oi⟩, oj⟩ rfl rfl rfl rfl (lexg_g (I := inf) (J := jnf) none ⟨⟨⟨_, rfl, ob0⟩, oi⟩, oj⟩ rfl rfl rfl rfl lexg_nil)))))) rfl (fun _ => ?_) (fun h => by cases h)
    refine rX rfl ?_
    refine runS_ret (I := inf) 0 rfl (Nat.le_refl _) rfl .nil rfl ⟨?_, rfl⟩
    rfl
theorem r_Do45 (x y : Pr) (ta tb : Typ) (ha : askP [x, y] [ta, tb] = 0) (hva : vN ta) (hvb : vN tb) : CallT Tryz.prog 24 [sv [45], .agg (prE x), .agg (prE y), .agg (typE ta), .agg (typE tb)] [] (fun o A => o = .ret (doA (endS (resT 45 (inT 45 ta) (inT 45 tb)) (pmS 45 (resT 45 (inT 45 ta) (inT 45 tb)) x y).1 (pmS 45 (resT 45 (inT 45 ta) (inT 45 tb)) x y).2).1 (resT 45 (inT 45 ta) (inT 45 tb)) (endS (resT 45 (inT 45 ta) (inT 45 tb)) (pmS 45 (resT 45 (inT 45 ta) (inT 45 tb)) x y).1 (pmS 45 (resT 45 (inT 45 ta) (inT 45 tb)) x y).2).2 0) ∧ A = []) := by
  have hak := r_askedP none none [x, y] [ta, tb] (by simp) rfl
  rw [ha] at hak
  have hia : inT 45 ta = ta := rfl
  have hib : inT 45 tb = tb := rfl
  rw [hia, hib]
  have hra := r_Result45 ta tb hva hvb
  generalize resT 45 ta tb = t at *
  have hk0 : ∀ l, Kept 10 l → Kept 10 (.gone :: .gone :: .box 25 (typE ta) :: .box 25 (typE tb) :: .box 41 (prE pr0) :: .box 25 (typE ty0) :: .gone :: .gone :: .box 25 (typE t) :: l) := fun l hk => .gone (.gone (.box rfl (.box rfl (.box rfl (.box rfl (.gone (.gone (.box rfl hk))))))))
  have hkk : ∀ c, Kept 10 [.gone, .gone, .box 25 (typE ta), .box 25 (typE tb), .box 41 (prE pr0), .box 25 (typE ty0), .gone, .gone, .box 25 (typE t), .box 101 (stE t c)] := fun c => hk0 _ (.box rfl .nil)
  have hs := r_step9 _ _ _ _ _ _ _ _ _ hk0
  unfold pmS
  have c1 := hs 45 (by decide) t 0 x.re y.re
  generalize stepV 45 t 0 x.re y.re = s1 at *
  obtain ⟨re, k1⟩ := s1
  dsimp only at c1 ⊢
  have c2 := hs 45 (by decide) t k1 x.im y.im
  generalize stepV 45 t k1 x.im y.im = s2 at *
  obtain ⟨im, k2⟩ := s2
  dsimp only at c2 ⊢
  refine callS_body (n := 183) rfl rfl fun w ρ X => ?_
  refine rX rfl ?_
  refine runS_tell 6 (prR [x, y]) rfl (m' := 2) rfl (fun j hj => ?_) rfl ?_
  · rcases j with _ | _ | j <;> first | rfl | omega
  refine runS_tell 7 (tyR [ta, tb]) rfl (m' := 2) rfl (fun j hj => ?_) rfl ?_
  · rcases j with _ | _ | j <;> first | rfl | omega
  refine runS_freeze 24 rfl rfl rfl (fun j hj => ?_) ?_
  · rcases j with _ | _ | j <;> first | rfl | omega
  refine runS_freeze 27 rfl rfl rfl (fun j hj => ?_) ?_
  · rcases j with _ | _ | j <;> first | rfl | omega
  refine runS_call rfl rfl rfl rfl rfl rfl rfl hak ?_
  refine rX rfl ?_
  refine runS_cond rfl (fun h => by cases h) (fun h => ?_)
  refine rX rfl ?_
  have hnop := op_known45
  refine runS_cond rfl (fun h => Bool.noConfusion (hnop.symm.trans h)) (fun h => ?_)
  refine rX rfl ?_
  refine runS_cond rfl (fun h => by rw [show (ByteArray.mk #[47]) = bs [47] from rfl, bs_beq] at h; cases h) (fun h => ?_)
  refine rX rfl ?_
  refine runS_call rfl rfl rfl rfl rfl rfl rfl hra ?_
  refine rX rfl ?_
  refine runS_freezeBox 0 rfl rfl rfl ?_
  refine runS_freezeBox 1 rfl rfl rfl ?_
  refine runS_cond rfl (fun h => by rw [show (ByteArray.mk #[43]) = bs [43] from rfl, bs_beq] at h; cases h) (fun h => ?_)
  refine rX rfl ?_
  refine runS_cond rfl (fun h => ?_) (fun h => by rw [show (ByteArray.mk #[45]) = bs [45] from rfl, bs_beq] at h; cases h)
  refine rX rfl ?_
  refine runS_callF [.gone, .gone, .box 25 (typE ta), .box 25 (typE tb), .box 41 (prE pr0), .box 25 (typE ty0), .gone, .gone, .box 25 (typE t), .box 101 (stE t 0)] [.gone, .gone, .box 25 (typE ta), .box 25 (typE tb), .box 41 (prE pr0), .box 25 (typE ty0), .gone, .gone, .box 25 (typE t), .box 101 (stE t k1)] _ rfl rfl rfl rfl rfl (show _ = [.ptr 9 0 0, sv [45], .agg (vlE x.re), .agg (vlE y.re)] from rfl) rfl (hkk 0) rfl rfl c1 ?_
  refine rX rfl ?_
  refine runS_callF [.gone, .gone, .box 25 (typE ta), .box 25 (typE tb), .box 41 (prE pr0), .box 25 (typE ty0), .gone, .gone, .box 25 (typE t), .box 101 (stE t k1)] [.gone, .gone, .box 25 (typE ta), .box 25 (typE tb), .box 41 (prE pr0), .box 25 (typE ty0), .gone, .gone, .box 25 (typE t), .box 101 (stE t k2)] _ rfl rfl rfl rfl rfl (show _ = [.ptr 9 0 0, sv [45], .agg (vlE x.im), .agg (vlE y.im)] from rfl) rfl (hkk k1) rfl rfl c2 ?_
  refine rX rfl ?_
  refine runS_cond rfl (fun h => ?_) (fun h => ?_)
  · have hc : k2 ≠ 0 := by
      have h3 : (!(k2 == 0)) = true := h
      simpa using h3
    have he : endS t ⟨re, im⟩ k2 = (zeroP t, k2) := by
      unfold endS
      rw [if_pos hc]
    rw [he]
    refine rX rfl ?_
    refine runS_drawG (ch := []) (A2 := fun _ => []) 11 [7, 8] (fun w => [.gone, .gone, .box 25 (typE ta), .box 25 (typE tb), .box 41 (cond (w.getD 0 false) (prE (zeroP t)) (prE pr0)), .box 25 (cond (w.getD 1 false) (typE t) (typE ty0)), .gone, .gone, .box 25 (typE t), .box 101 (stE t k2), .box 41 (prE ⟨re, im⟩)]) none (c := 9) jnfI.draw (by kernel_rfl) rfl (lexg_g (I := inf) (J := jnf) none ⟨⟨⟨_, rfl, ob0⟩, oi⟩, oj⟩ rfl rfl rfl rfl (lexg_call rfl rfl rfl rfl rfl rfl rfl rfl rfl (r_zeros t) (lexg_g (I := inf) (J := jnf) none ⟨⟨⟨_, rfl, ob0⟩, oi⟩, oj⟩ rfl rfl rfl rfl (lexg_g (I := inf) (J := jnf) none ⟨⟨⟨_, rfl, ob0⟩, oi⟩, oj⟩ rfl rfl rfl rfl (lexg_g (I := inf) (J := jnf) none ⟨⟨⟨_, rfl, ob0⟩, oi⟩, oj⟩ rfl rfl rfl rfl (lexg_g (I := inf) (J := jnf) none ⟨⟨⟨_, rfl, ob0⟩, oi⟩, oj⟩ rfl rfl rfl rfl (lexg_g (I := inf) (J := jnf) none ⟨⟨⟨_, rfl, ob0⟩, oi⟩, oj⟩ rfl rfl rfl rfl (lexg_g (I := inf) (J := jnf) (some .store) ⟨⟨⟨_, rfl, ob0⟩, oi⟩, .inl rfl⟩ rfl rfl rfl rfl (lexg_g (I := inf) (J := jnf) (some .store) ⟨⟨⟨_, rfl, ob0⟩, .inl rfl⟩, (by first | exact .inl (by decide +kernel) | exact .inr ⟨⟨_, rfl, ob0⟩, .inl rfl⟩)⟩ rfl rfl rfl rfl (lexg_g (I := inf) (J := jnf) none ⟨⟨⟨_, rfl, ob0⟩, oi⟩, oj⟩ rfl rfl rfl rfl (lexg_g (I := inf) (J := jnf) none ⟨⟨⟨_, rfl, ob0⟩, oi⟩, oj⟩ rfl rfl rfl rfl lexg_nil))))))))))) rfl (fun _ => ?_) (fun h => by cases h)
    refine rX rfl ?_
    refine runS_ret (I := inf) 0 rfl (Nat.le_refl _) rfl .nil rfl ⟨?_, rfl⟩
    rfl
  · have hc : k2 = 0 := by
      have h3 : (!(k2 == 0)) = false := h
      simpa using h3
    have he : endS t ⟨re, im⟩ k2 = (⟨re, im⟩, 0) := by
      unfold endS
      rw [if_neg (by rw [hc]; decide)]
    rw [he]
    refine rX rfl ?_
    refine runS_drawG (ch := []) (A2 := fun _ => []) 6 [2, 3] (fun w => [.gone, .gone, .box 25 (typE ta), .box 25 (typE tb), .box 41 (cond (w.getD 0 false) (prE ⟨re, im⟩) (prE pr0)), .box 25 (cond (w.getD 1 false) (typE t) (typE ty0)), .gone, .gone, .box 25 (typE t), .box 101 (stE t k2), .box 41 (prE ⟨re, im⟩)]) none (c := 9) jnfI.draw (by kernel_rfl) rfl (lexg_g (I := inf) (J := jnf) none ⟨⟨⟨_, rfl, ob0⟩, oi⟩, oj⟩ rfl rfl rfl rfl (lexg_g (I := inf) (J := jnf) none ⟨⟨⟨_, rfl, ob0⟩, oi⟩, oj⟩ rfl rfl rfl rfl (lexg_g (I := inf) (J := jnf) (some .store) ⟨⟨⟨_, rfl, ob0⟩, oi⟩, .inl rfl⟩ rfl rfl rfl rfl (lexg_g (I := inf) (J := jnf) (some .store) ⟨⟨⟨_, rfl, ob0⟩, .inl rfl⟩, (by first | exact .inl (by decide +kernel) | exact .inr ⟨⟨_, rfl, ob0⟩, .inl rfl⟩)⟩ rfl rfl rfl rfl (lexg_g (I := inf) (J := jnf) none ⟨⟨⟨_, rfl, ob0⟩, oi⟩, oj⟩ rfl rfl rfl rfl (lexg_g (I := inf) (J := jnf) none ⟨⟨⟨_, rfl, ob0⟩, oi⟩, oj⟩ rfl rfl rfl rfl lexg_nil)))))) rfl (fun _ => ?_) (fun h => by cases h)
    refine rX rfl ?_
    refine runS_ret (I := inf) 0 rfl (Nat.le_refl _) rfl .nil rfl ⟨?_, rfl⟩
    rfl
theorem r_Do42 (x y : Pr) (ta tb : Typ) (ha : askP [x, y] [ta, tb] = 0) (hva : vN ta) (hvb : vN tb) : CallT Tryz.prog 24 [sv [42], .agg (prE x), .agg (prE y), .agg (typE ta), .agg (typE tb)] [] (fun o A => o = .ret (doA (endS (resT 42 (inT 42 ta) (inT 42 tb)) ((fun t x y => timesS t 0 x y) (resT 42 (inT 42 ta) (inT 42 tb)) x y).1 ((fun t x y => timesS t 0 x y) (resT 42 (inT 42 ta) (inT 42 tb)) x y).2).1 (resT 42 (inT 42 ta) (inT 42 tb)) (endS (resT 42 (inT 42 ta) (inT 42 tb)) ((fun t x y => timesS t 0 x y) (resT 42 (inT 42 ta) (inT 42 tb)) x y).1 ((fun t x y => timesS t 0 x y) (resT 42 (inT 42 ta) (inT 42 tb)) x y).2).2 0) ∧ A = []) := by
  have hak := r_askedP none none [x, y] [ta, tb] (by simp) rfl
  rw [ha] at hak
  have hia : inT 42 ta = ta := rfl
  have hib : inT 42 tb = tb := rfl
  rw [hia, hib]
  have hra := r_Result42 ta tb hva hvb
  generalize resT 42 ta tb = t at *
  have hk0 : ∀ l, Kept 10 l → Kept 10 (.gone :: .gone :: .box 25 (typE ta) :: .box 25 (typE tb) :: .box 41 (prE pr0) :: .box 25 (typE ty0) :: .gone :: .gone :: .box 25 (typE t) :: l) := fun l hk => .gone (.gone (.box rfl (.box rfl (.box rfl (.box rfl (.gone (.gone (.box rfl hk))))))))
  have hkk : ∀ c, Kept 10 [.gone, .gone, .box 25 (typE ta), .box 25 (typE tb), .box 41 (prE pr0), .box 25 (typE ty0), .gone, .gone, .box 25 (typE t), .box 101 (stE t c)] := fun c => hk0 _ (.box rfl .nil)
  have hs := r_step9 _ _ _ _ _ _ _ _ _ hk0
  dsimp only
  have c1 := r_times9 _ _ _ _ _ _ _ _ _ hk0 t 0 x y
  generalize timesS t 0 x y = s1 at *
  obtain ⟨⟨re, im⟩, k1⟩ := s1
  dsimp only at c1 ⊢
  refine callS_body (n := 183) rfl rfl fun w ρ X => ?_
  refine rX rfl ?_
  refine runS_tell 6 (prR [x, y]) rfl (m' := 2) rfl (fun j hj => ?_) rfl ?_
  · rcases j with _ | _ | j <;> first | rfl | omega
  refine runS_tell 7 (tyR [ta, tb]) rfl (m' := 2) rfl (fun j hj => ?_) rfl ?_
  · rcases j with _ | _ | j <;> first | rfl | omega
  refine runS_freeze 24 rfl rfl rfl (fun j hj => ?_) ?_
  · rcases j with _ | _ | j <;> first | rfl | omega
  refine runS_freeze 27 rfl rfl rfl (fun j hj => ?_) ?_
  · rcases j with _ | _ | j <;> first | rfl | omega
  refine runS_call rfl rfl rfl rfl rfl rfl rfl hak ?_
  refine rX rfl ?_
  refine runS_cond rfl (fun h => by cases h) (fun h => ?_)
  refine rX rfl ?_
  have hnop := op_known42
  refine runS_cond rfl (fun h => Bool.noConfusion (hnop.symm.trans h)) (fun h => ?_)
  refine rX rfl ?_
  refine runS_cond rfl (fun h => by rw [show (ByteArray.mk #[47]) = bs [47] from rfl, bs_beq] at h; cases h) (fun h => ?_)
  refine rX rfl ?_
  refine runS_call rfl rfl rfl rfl rfl rfl rfl hra ?_
  refine rX rfl ?_
  refine runS_freezeBox 0 rfl rfl rfl ?_
  refine runS_freezeBox 1 rfl rfl rfl ?_
  refine runS_cond rfl (fun h => by rw [show (ByteArray.mk #[43]) = bs [43] from rfl, bs_beq] at h; cases h) (fun h => ?_)
  refine rX rfl ?_
  refine runS_cond rfl (fun h => by rw [show (ByteArray.mk #[45]) = bs [45] from rfl, bs_beq] at h; cases h) (fun h => ?_)
  refine rX rfl ?_
  refine runS_cond rfl (fun h => ?_) (fun h => by rw [show (ByteArray.mk #[42]) = bs [42] from rfl, bs_beq] at h; cases h)
  refine rX rfl ?_
  refine runS_callF [.gone, .gone, .box 25 (typE ta), .box 25 (typE tb), .box 41 (prE pr0), .box 25 (typE ty0), .gone, .gone, .box 25 (typE t), .box 101 (stE t 0)] [.gone, .gone, .box 25 (typE ta), .box 25 (typE tb), .box 41 (prE pr0), .box 25 (typE ty0), .gone, .gone, .box 25 (typE t), .box 101 (stE t k1)] _ rfl rfl rfl rfl rfl (show _ = [.ptr 9 0 0, .agg (prE x), .agg (prE y)] from rfl) rfl (hkk 0) rfl rfl c1 ?_
  refine rX rfl ?_
  refine runS_cond rfl (fun h => ?_) (fun h => ?_)
  · have hc : k1 ≠ 0 := by
      have h3 : (!(k1 == 0)) = true := h
      simpa using h3
    have he : endS t ⟨re, im⟩ k1 = (zeroP t, k1) := by
      unfold endS
      rw [if_pos hc]
    rw [he]
    refine rX rfl ?_
    refine runS_drawG (ch := []) (A2 := fun _ => []) 11 [7, 8] (fun w => [.gone, .gone, .box 25 (typE ta), .box 25 (typE tb), .box 41 (cond (w.getD 0 false) (prE (zeroP t)) (prE pr0)), .box 25 (cond (w.getD 1 false) (typE t) (typE ty0)), .gone, .gone, .box 25 (typE t), .box 101 (stE t k1), .box 41 (prE ⟨re, im⟩)]) none (c := 9) jnfI.draw (by kernel_rfl) rfl (lexg_g (I := inf) (J := jnf) none ⟨⟨⟨_, rfl, ob0⟩, oi⟩, oj⟩ rfl rfl rfl rfl (lexg_call rfl rfl rfl rfl rfl rfl rfl rfl rfl (r_zeros t) (lexg_g (I := inf) (J := jnf) none ⟨⟨⟨_, rfl, ob0⟩, oi⟩, oj⟩ rfl rfl rfl rfl (lexg_g (I := inf) (J := jnf) none ⟨⟨⟨_, rfl, ob0⟩, oi⟩, oj⟩ rfl rfl rfl rfl (lexg_g (I := inf) (J := jnf) none ⟨⟨⟨_, rfl, ob0⟩, oi⟩, oj⟩ rfl rfl rfl rfl (lexg_g (I := inf) (J := jnf) none ⟨⟨⟨_, rfl, ob0⟩, oi⟩, oj⟩ rfl rfl rfl rfl (lexg_g (I := inf) (J := jnf) none ⟨⟨⟨_, rfl, ob0⟩, oi⟩, oj⟩ rfl rfl rfl rfl (lexg_g (I := inf) (J := jnf) (some .store) ⟨⟨⟨_, rfl, ob0⟩, oi⟩, .inl rfl⟩ rfl rfl rfl rfl (lexg_g (I := inf) (J := jnf) (some .store) ⟨⟨⟨_, rfl, ob0⟩, .inl rfl⟩, (by first | exact .inl (by decide +kernel) | exact .inr ⟨⟨_, rfl, ob0⟩, .inl rfl⟩)⟩ rfl rfl rfl rfl (lexg_g (I := inf) (J := jnf) none ⟨⟨⟨_, rfl, ob0⟩, oi⟩, oj⟩ rfl rfl rfl rfl (lexg_g (I := inf) (J := jnf) none ⟨⟨⟨_, rfl, ob0⟩, oi⟩, oj⟩ rfl rfl rfl rfl lexg_nil))))))))))) rfl (fun _ => ?_) (fun h => by cases h)
    refine rX rfl ?_
    refine runS_ret (I := inf) 0 rfl (Nat.le_refl _) rfl .nil rfl ⟨?_, rfl⟩
    rfl
  · have hc : k1 = 0 := by
      have h3 : (!(k1 == 0)) = false := h
      simpa using h3
    have he : endS t ⟨re, im⟩ k1 = (⟨re, im⟩, 0) := by
      unfold endS
      rw [if_neg (by rw [hc]; decide)]
    rw [he]
    refine rX rfl ?_
    refine runS_drawG (ch := []) (A2 := fun _ => []) 6 [2, 3] (fun w => [.gone, .gone, .box 25 (typE ta), .box 25 (typE tb), .box 41 (cond (w.getD 0 false) (prE ⟨re, im⟩) (prE pr0)), .box 25 (cond (w.getD 1 false) (typE t) (typE ty0)), .gone, .gone, .box 25 (typE t), .box 101 (stE t k1), .box 41 (prE ⟨re, im⟩)]) none (c := 9) jnfI.draw (by kernel_rfl) rfl (lexg_g (I := inf) (J := jnf) none ⟨⟨⟨_, rfl, ob0⟩, oi⟩, oj⟩ rfl rfl rfl rfl (lexg_g (I := inf) (J := jnf) none ⟨⟨⟨_, rfl, ob0⟩, oi⟩, oj⟩ rfl rfl rfl rfl (lexg_g (I := inf) (J := jnf) (some .store) ⟨⟨⟨_, rfl, ob0⟩, oi⟩, .inl rfl⟩ rfl rfl rfl rfl (lexg_g (I := inf) (J := jnf) (some .store) ⟨⟨⟨_, rfl, ob0⟩, .inl rfl⟩, (by first | exact .inl (by decide +kernel) | exact .inr ⟨⟨_, rfl, ob0⟩, .inl rfl⟩)⟩ rfl rfl rfl rfl (lexg_g (I := inf) (J := jnf) none ⟨⟨⟨_, rfl, ob0⟩, oi⟩, oj⟩ rfl rfl rfl rfl (lexg_g (I := inf) (J := jnf) none ⟨⟨⟨_, rfl, ob0⟩, oi⟩, oj⟩ rfl rfl rfl rfl lexg_nil)))))) rfl (fun _ => ?_) (fun h => by cases h)
    refine rX rfl ?_
    refine runS_ret (I := inf) 0 rfl (Nat.le_refl _) rfl .nil rfl ⟨?_, rfl⟩
    rfl
end Go.Iron.Tryz

/- The pairs' seat: the reference's quotients of pairs. -/
namespace Go.Iron.Tryz
open Go.Proofs Go.RowKit Go.Iron.Tok Go.Iron.Dg

def overS (t : Typ) (x y : Pr) : Pr × Int :=
  match stepV 42 t 0 y.re y.re with
  | (a, k1) => match stepV 42 t k1 y.im y.im with
    | (b, k2) => match stepV 43 t k2 a b with
      | (d, k3) => match stepV 42 t (if k3 = 0 ∧ d.n = 0 then 9 else k3) x.re y.re with
        | (a1, k4) => match stepV 42 t k4 x.im y.im with
          | (b1, k5) => match stepV 43 t k5 a1 b1 with
            | (a2, k6) => match stepV 47 t k6 a2 d with
              | (re, k7) => match stepV 42 t k7 x.im y.re with
                | (a3, k8) => match stepV 42 t k8 x.re y.im with
                  | (b3, k9) => match stepV 45 t k9 a3 b3 with
                    | (a4, k10) => match stepV 47 t k10 a4 d with
                      | (im, k11) => (⟨re, im⟩, k11)
theorem r_Do47 (x y : Pr) (ta tb : Typ) (ha : askP [x, y] [ta, tb] = 0) (hva : vN ta) (hvb : vN tb) : CallT Tryz.prog 24 [sv [47], .agg (prE x), .agg (prE y), .agg (typE ta), .agg (typE tb)] [] (fun o A => o = .ret (doA (endS (resT 47 (inT 47 ta) (inT 47 tb)) (overS (resT 47 (inT 47 ta) (inT 47 tb)) x y).1 (overS (resT 47 (inT 47 ta) (inT 47 tb)) x y).2).1 (resT 47 (inT 47 ta) (inT 47 tb)) (endS (resT 47 (inT 47 ta) (inT 47 tb)) (overS (resT 47 (inT 47 ta) (inT 47 tb)) x y).1 (overS (resT 47 (inT 47 ta) (inT 47 tb)) x y).2).2 0) ∧ A = []) := by
  have hak := r_askedP none none [x, y] [ta, tb] (by simp) rfl
  rw [ha] at hak
  have hia : inT 47 ta = (fltT ta) := rfl
  have hib : inT 47 tb = (fltT tb) := rfl
  rw [hia, hib]
  have hfa := r_Float ta hva
  have hfb := r_Float tb hvb
  have hra := r_Result47 (fltT ta) (fltT tb) (vn_flt hva) (vn_flt hvb)
  generalize resT 47 (fltT ta) (fltT tb) = t at *
  generalize fltT ta = ua at *
  generalize fltT tb = ub at *
  have hk0 : ∀ l, Kept 10 l → Kept 10 (.gone :: .gone :: .box 25 (typE ua) :: .box 25 (typE ub) :: .box 41 (prE pr0) :: .box 25 (typE ty0) :: .gone :: .gone :: .box 25 (typE t) :: l) := fun l hk => .gone (.gone (.box rfl (.box rfl (.box rfl (.box rfl (.gone (.gone (.box rfl hk))))))))
  have hkk : ∀ c, Kept 10 [.gone, .gone, .box 25 (typE ua), .box 25 (typE ub), .box 41 (prE pr0), .box 25 (typE ty0), .gone, .gone, .box 25 (typE t), .box 101 (stE t c)] := fun c => hk0 _ (.box rfl .nil)
  have hs := r_step9 _ _ _ _ _ _ _ _ _ hk0
  unfold overS
  have cs1 := hs 42 (by decide) t 0 y.re y.re
  generalize stepV 42 t 0 y.re y.re = s1 at *
  obtain ⟨a, k1⟩ := s1
  dsimp only at cs1 ⊢
  have cs2 := hs 42 (by decide) t k1 y.im y.im
  generalize stepV 42 t k1 y.im y.im = s2 at *
  obtain ⟨b, k2⟩ := s2
  dsimp only at cs2 ⊢
  have cs3 := hs 43 (by decide) t k2 a b
  generalize stepV 43 t k2 a b = s3 at *
  obtain ⟨d, k3⟩ := s3
  dsimp only at cs3 ⊢
  obtain ⟨k0, hk0e⟩ : ∃ k0 : Int, (if k3 = 0 ∧ d.n = 0 then 9 else k3) = k0 := ⟨_, rfl⟩
  rw [hk0e]
  have cs4 := hs 42 (by decide) t k0 x.re y.re
  generalize stepV 42 t k0 x.re y.re = s4 at *
  obtain ⟨a1, k4⟩ := s4
  dsimp only at cs4 ⊢
  have cs5 := hs 42 (by decide) t k4 x.im y.im
  generalize stepV 42 t k4 x.im y.im = s5 at *
  obtain ⟨b1, k5⟩ := s5
  dsimp only at cs5 ⊢
  have cs6 := hs 43 (by decide) t k5 a1 b1
  generalize stepV 43 t k5 a1 b1 = s6 at *
  obtain ⟨a2, k6⟩ := s6
  dsimp only at cs6 ⊢
  have cs7 := hs 47 (by decide) t k6 a2 d
  generalize stepV 47 t k6 a2 d = s7 at *
  obtain ⟨re, k7⟩ := s7
  dsimp only at cs7 ⊢
  have cs8 := hs 42 (by decide) t k7 x.im y.re
  generalize stepV 42 t k7 x.im y.re = s8 at *
  obtain ⟨a3, k8⟩ := s8
  dsimp only at cs8 ⊢
  have cs9 := hs 42 (by decide) t k8 x.re y.im
  generalize stepV 42 t k8 x.re y.im = s9 at *
  obtain ⟨b3, k9⟩ := s9
  dsimp only at cs9 ⊢
  have cs10 := hs 45 (by decide) t k9 a3 b3
  generalize stepV 45 t k9 a3 b3 = s10 at *
  obtain ⟨a4, k10⟩ := s10
  dsimp only at cs10 ⊢
  have cs11 := hs 47 (by decide) t k10 a4 d
  generalize stepV 47 t k10 a4 d = s11 at *
  obtain ⟨im, k11⟩ := s11
  dsimp only at cs11 ⊢
  refine callS_body (n := 183) rfl rfl fun w ρ X => ?_
  refine rX rfl ?_
  refine runS_tell 6 (prR [x, y]) rfl (m' := 2) rfl (fun j hj => ?_) rfl ?_
  · rcases j with _ | _ | j <;> first | rfl | omega
  refine runS_tell 7 (tyR [ta, tb]) rfl (m' := 2) rfl (fun j hj => ?_) rfl ?_
  · rcases j with _ | _ | j <;> first | rfl | omega
  refine runS_freeze 24 rfl rfl rfl (fun j hj => ?_) ?_
  · rcases j with _ | _ | j <;> first | rfl | omega
  refine runS_freeze 27 rfl rfl rfl (fun j hj => ?_) ?_
  · rcases j with _ | _ | j <;> first | rfl | omega
  refine runS_call rfl rfl rfl rfl rfl rfl rfl hak ?_
  refine rX rfl ?_
  refine runS_cond rfl (fun h => by cases h) (fun h => ?_)
  refine rX rfl ?_
  have hnop := op_known47
  refine runS_cond rfl (fun h => Bool.noConfusion (hnop.symm.trans h)) (fun h => ?_)
  refine rX rfl ?_
  refine runS_cond rfl (fun h => ?_) (fun h => by rw [show (ByteArray.mk #[47]) = bs [47] from rfl, bs_beq] at h; cases h)
  refine rX rfl ?_
  refine runS_call rfl rfl rfl rfl rfl rfl rfl hfa ?_
  refine rX rfl ?_
  refine runS_call rfl rfl rfl rfl rfl rfl rfl hfb ?_
  refine rX rfl ?_
  refine runS_call rfl rfl rfl rfl rfl rfl rfl hra ?_
  refine rX rfl ?_
  refine runS_freezeBox 0 rfl rfl rfl ?_
  refine runS_freezeBox 1 rfl rfl rfl ?_
  refine runS_cond rfl (fun h => by rw [show (ByteArray.mk #[43]) = bs [43] from rfl, bs_beq] at h; cases h) (fun h => ?_)
  refine rX rfl ?_
  refine runS_cond rfl (fun h => by rw [show (ByteArray.mk #[45]) = bs [45] from rfl, bs_beq] at h; cases h) (fun h => ?_)
  refine rX rfl ?_
  refine runS_cond rfl (fun h => by rw [show (ByteArray.mk #[42]) = bs [42] from rfl, bs_beq] at h; cases h) (fun h => ?_)
  refine rX rfl ?_
  refine runS_callF [.gone, .gone, .box 25 (typE ua), .box 25 (typE ub), .box 41 (prE pr0), .box 25 (typE ty0), .gone, .gone, .box 25 (typE t), .box 101 (stE t 0)] [.gone, .gone, .box 25 (typE ua), .box 25 (typE ub), .box 41 (prE pr0), .box 25 (typE ty0), .gone, .gone, .box 25 (typE t), .box 101 (stE t k1)] _ rfl rfl rfl rfl rfl (show _ = [.ptr 9 0 0, sv [42], .agg (vlE y.re), .agg (vlE y.re)] from rfl) rfl (hkk 0) rfl rfl cs1 ?_
  refine rX rfl ?_
  refine runS_callF [.gone, .gone, .box 25 (typE ua), .box 25 (typE ub), .box 41 (prE pr0), .box 25 (typE ty0), .gone, .gone, .box 25 (typE t), .box 101 (stE t k1)] [.gone, .gone, .box 25 (typE ua), .box 25 (typE ub), .box 41 (prE pr0), .box 25 (typE ty0), .gone, .gone, .box 25 (typE t), .box 101 (stE t k2)] _ rfl rfl rfl rfl rfl (show _ = [.ptr 9 0 0, sv [42], .agg (vlE y.im), .agg (vlE y.im)] from rfl) rfl (hkk k1) rfl rfl cs2 ?_
  refine rX rfl ?_
  refine runS_callF [.gone, .gone, .box 25 (typE ua), .box 25 (typE ub), .box 41 (prE pr0), .box 25 (typE ty0), .gone, .gone, .box 25 (typE t), .box 101 (stE t k2)] [.gone, .gone, .box 25 (typE ua), .box 25 (typE ub), .box 41 (prE pr0), .box 25 (typE ty0), .gone, .gone, .box 25 (typE t), .box 101 (stE t k3)] _ rfl rfl rfl rfl rfl (show _ = [.ptr 9 0 0, sv [43], .agg (vlE a), .agg (vlE b)] from rfl) rfl (hkk k2) rfl rfl cs3 ?_
  refine rX rfl ?_
  refine runS_cut (fun τ ar => (τ 6 = .loc (prE x) 0 ∧ τ 7 = .loc (prE y) 0 ∧ τ 10 = .ptr 4 0 0 ∧ τ 11 = .ptr 5 0 0 ∧ τ 15 = .ptr 8 0 0 ∧ τ 17 = .ptr 9 0 0 ∧ τ 18 = .ptr 10 0 0 ∧ τ 19 = .ptr 11 0 0 ∧ τ 20 = .ptr 12 0 0 ∧ τ 21 = .ptr 13 0 0) ∧ ar = [.gone, .gone, .box 25 (typE ua), .box 25 (typE ub), .box 41 (prE pr0), .box 25 (typE ty0), .gone, .gone, .box 25 (typE t), .box 101 (stE t k0), .box 41 (prE pr0), .box 23 (vlE a), .box 23 (vlE b), .box 23 (vlE d)]) (fun rest => ?_) ?_
  · refine runS_cond rfl (fun h => ?_) (fun h => ?_)
    · have hc : k3 = 0 ∧ d.n = 0 := by
        have h3 : (if (k3 == 0) = true then d.n == 0 else false) = true := h
        by_cases e : k3 = 0
        · rw [if_pos (by simpa using e)] at h3
          exact ⟨e, by simpa using h3⟩
        · rw [if_neg (by simpa using e)] at h3
          cases h3
      rw [if_pos hc] at hk0e
      subst hk0e
      refine runS_x (I := inf) (J := jnf) ⟨false, false, [], 4, 0⟩ 9999 rfl ob1 ?_
      exact rest _ _ ⟨⟨rfl, rfl, rfl, rfl, rfl, rfl, rfl, rfl, rfl, rfl⟩, rfl⟩
    · have hc : ¬ (k3 = 0 ∧ d.n = 0) := by
        have h3 : (if (k3 == 0) = true then d.n == 0 else false) = false := h
        rintro ⟨e1, e2⟩
        rw [if_pos (by simpa using e1), e2] at h3
        cases h3
      rw [if_neg hc] at hk0e
      subst hk0e
      refine runS_x (I := inf) (J := jnf) ⟨false, false, [], 4, 0⟩ 9999 rfl ob1 ?_
      exact rest _ _ ⟨⟨rfl, rfl, rfl, rfl, rfl, rfl, rfl, rfl, rfl, rfl⟩, rfl⟩
  rintro τ2 ar2 ⟨⟨g6, g7, g10, g11, g15, g17, g18, g19, g20, g21⟩, rfl⟩
  refine runS_says 6 (by exact g6) (Says.refl _) ?_; refine runS_says 7 (by exact g7) (Says.refl _) ?_; refine runS_says 10 (by exact g10) (Says.refl _) ?_; refine runS_says 11 (by exact g11) (Says.refl _) ?_; refine runS_says 15 (by exact g15) (Says.refl _) ?_; refine runS_says 17 (by exact g17) (Says.refl _) ?_; refine runS_says 18 (by exact g18) (Says.refl _) ?_; refine runS_says 19 (by exact g19) (Says.refl _) ?_; refine runS_says 20 (by exact g20) (Says.refl _) ?_; refine runS_says 21 (by exact g21) (Says.refl _) ?_
  refine rX rfl ?_
  refine runS_callF [.gone, .gone, .box 25 (typE ua), .box 25 (typE ub), .box 41 (prE pr0), .box 25 (typE ty0), .gone, .gone, .box 25 (typE t), .box 101 (stE t k0)] [.gone, .gone, .box 25 (typE ua), .box 25 (typE ub), .box 41 (prE pr0), .box 25 (typE ty0), .gone, .gone, .box 25 (typE t), .box 101 (stE t k4)] _ rfl rfl rfl rfl rfl (show _ = [.ptr 9 0 0, sv [42], .agg (vlE x.re), .agg (vlE y.re)] from rfl) rfl (hkk k0) rfl rfl cs4 ?_
  refine rX rfl ?_
  refine runS_callF [.gone, .gone, .box 25 (typE ua), .box 25 (typE ub), .box 41 (prE pr0), .box 25 (typE ty0), .gone, .gone, .box 25 (typE t), .box 101 (stE t k4)] [.gone, .gone, .box 25 (typE ua), .box 25 (typE ub), .box 41 (prE pr0), .box 25 (typE ty0), .gone, .gone, .box 25 (typE t), .box 101 (stE t k5)] _ rfl rfl rfl rfl rfl (show _ = [.ptr 9 0 0, sv [42], .agg (vlE x.im), .agg (vlE y.im)] from rfl) rfl (hkk k4) rfl rfl cs5 ?_
  refine rX rfl ?_
  refine runS_callF [.gone, .gone, .box 25 (typE ua), .box 25 (typE ub), .box 41 (prE pr0), .box 25 (typE ty0), .gone, .gone, .box 25 (typE t), .box 101 (stE t k5)] [.gone, .gone, .box 25 (typE ua), .box 25 (typE ub), .box 41 (prE pr0), .box 25 (typE ty0), .gone, .gone, .box 25 (typE t), .box 101 (stE t k6)] _ rfl rfl rfl rfl rfl (show _ = [.ptr 9 0 0, sv [43], .agg (vlE a1), .agg (vlE b1)] from rfl) rfl (hkk k5) rfl rfl cs6 ?_
  refine rX rfl ?_
  refine runS_callF [.gone, .gone, .box 25 (typE ua), .box 25 (typE ub), .box 41 (prE pr0), .box 25 (typE ty0), .gone, .gone, .box 25 (typE t), .box 101 (stE t k6)] [.gone, .gone, .box 25 (typE ua), .box 25 (typE ub), .box 41 (prE pr0), .box 25 (typE ty0), .gone, .gone, .box 25 (typE t), .box 101 (stE t k7)] _ rfl rfl rfl rfl rfl (show _ = [.ptr 9 0 0, sv [47], .agg (vlE a2), .agg (vlE d)] from rfl) rfl (hkk k6) rfl rfl cs7 ?_
  refine rX rfl ?_
  refine runS_callF [.gone, .gone, .box 25 (typE ua), .box 25 (typE ub), .box 41 (prE pr0), .box 25 (typE ty0), .gone, .gone, .box 25 (typE t), .box 101 (stE t k7)] [.gone, .gone, .box 25 (typE ua), .box 25 (typE ub), .box 41 (prE pr0), .box 25 (typE ty0), .gone, .gone, .box 25 (typE t), .box 101 (stE t k8)] _ rfl rfl rfl rfl rfl (show _ = [.ptr 9 0 0, sv [42], .agg (vlE x.im), .agg (vlE y.re)] from rfl) rfl (hkk k7) rfl rfl cs8 ?_
  refine rX rfl ?_
  refine runS_callF [.gone, .gone, .box 25 (typE ua), .box 25 (typE ub), .box 41 (prE pr0), .box 25 (typE ty0), .gone, .gone, .box 25 (typE t), .box 101 (stE t k8)] [.gone, .gone, .box 25 (typE ua), .box 25 (typE ub), .box 41 (prE pr0), .box 25 (typE ty0), .gone, .gone, .box 25 (typE t), .box 101 (stE t k9)] _ rfl rfl rfl rfl rfl (show _ = [.ptr 9 0 0, sv [42], .agg (vlE x.re), .agg (vlE y.im)] from rfl) rfl (hkk k8) rfl rfl cs9 ?_
  refine rX rfl ?_
  refine runS_callF [.gone, .gone, .box 25 (typE ua), .box 25 (typE ub), .box 41 (prE pr0), .box 25 (typE ty0), .gone, .gone, .box 25 (typE t), .box 101 (stE t k9)] [.gone, .gone, .box 25 (typE ua), .box 25 (typE ub), .box 41 (prE pr0), .box 25 (typE ty0), .gone, .gone, .box 25 (typE t), .box 101 (stE t k10)] _ rfl rfl rfl rfl rfl (show _ = [.ptr 9 0 0, sv [45], .agg (vlE a3), .agg (vlE b3)] from rfl) rfl (hkk k9) rfl rfl cs10 ?_
  refine rX rfl ?_
  refine runS_callF [.gone, .gone, .box 25 (typE ua), .box 25 (typE ub), .box 41 (prE pr0), .box 25 (typE ty0), .gone, .gone, .box 25 (typE t), .box 101 (stE t k10)] [.gone, .gone, .box 25 (typE ua), .box 25 (typE ub), .box 41 (prE pr0), .box 25 (typE ty0), .gone, .gone, .box 25 (typE t), .box 101 (stE t k11)] _ rfl rfl rfl rfl rfl (show _ = [.ptr 9 0 0, sv [47], .agg (vlE a4), .agg (vlE d)] from rfl) rfl (hkk k10) rfl rfl cs11 ?_
  refine rX rfl ?_
  refine runS_cond rfl (fun h => ?_) (fun h => ?_)
  · have hc : k11 ≠ 0 := by
      have h3 : (!(k11 == 0)) = true := h
      simpa using h3
    have he : endS t ⟨re, im⟩ k11 = (zeroP t, k11) := by
      unfold endS
      rw [if_pos hc]
    rw [he]
    refine rX rfl ?_
    refine runS_drawG (ch := []) (A2 := fun _ => []) 11 [7, 8] (fun w => [.gone, .gone, .box 25 (typE ua), .box 25 (typE ub), .box 41 (cond (w.getD 0 false) (prE (zeroP t)) (prE pr0)), .box 25 (cond (w.getD 1 false) (typE t) (typE ty0)), .gone, .gone, .box 25 (typE t), .box 101 (stE t k11), .box 41 (prE ⟨re, im⟩), .box 23 (vlE a4), .box 23 (vlE b3), .box 23 (vlE d)]) none (c := 9) jnfI.draw (by kernel_rfl) rfl (lexg_g (I := inf) (J := jnf) none ⟨⟨⟨_, rfl, ob0⟩, oi⟩, oj⟩ rfl rfl rfl rfl (lexg_call rfl rfl rfl rfl rfl rfl rfl rfl rfl (r_zeros t) (lexg_g (I := inf) (J := jnf) none ⟨⟨⟨_, rfl, ob0⟩, oi⟩, oj⟩ rfl rfl rfl rfl (lexg_g (I := inf) (J := jnf) none ⟨⟨⟨_, rfl, ob0⟩, oi⟩, oj⟩ rfl rfl rfl rfl (lexg_g (I := inf) (J := jnf) none ⟨⟨⟨_, rfl, ob0⟩, oi⟩, oj⟩ rfl rfl rfl rfl (lexg_g (I := inf) (J := jnf) none ⟨⟨⟨_, rfl, ob0⟩, oi⟩, oj⟩ rfl rfl rfl rfl (lexg_g (I := inf) (J := jnf) none ⟨⟨⟨_, rfl, ob0⟩, oi⟩, oj⟩ rfl rfl rfl rfl (lexg_g (I := inf) (J := jnf) (some .store) ⟨⟨⟨_, rfl, ob0⟩, oi⟩, .inl rfl⟩ rfl rfl rfl rfl (lexg_g (I := inf) (J := jnf) (some .store) ⟨⟨⟨_, rfl, ob0⟩, .inl rfl⟩, (by first | exact .inl (by decide +kernel) | exact .inr ⟨⟨_, rfl, ob0⟩, .inl rfl⟩)⟩ rfl rfl rfl rfl (lexg_g (I := inf) (J := jnf) none ⟨⟨⟨_, rfl, ob0⟩, oi⟩, oj⟩ rfl rfl rfl rfl (lexg_g (I := inf) (J := jnf) none ⟨⟨⟨_, rfl, ob0⟩, oi⟩, oj⟩ rfl rfl rfl rfl lexg_nil))))))))))) rfl (fun _ => ?_) (fun h => by cases h)
    refine rX rfl ?_
    refine runS_ret (I := inf) 0 rfl (Nat.le_refl _) rfl .nil rfl ⟨?_, rfl⟩
    rfl
  · have hc : k11 = 0 := by
      have h3 : (!(k11 == 0)) = false := h
      simpa using h3
    have he : endS t ⟨re, im⟩ k11 = (⟨re, im⟩, 0) := by
      unfold endS
      rw [if_neg (by rw [hc]; decide)]
    rw [he]
    refine rX rfl ?_
    refine runS_drawG (ch := []) (A2 := fun _ => []) 6 [2, 3] (fun w => [.gone, .gone, .box 25 (typE ua), .box 25 (typE ub), .box 41 (cond (w.getD 0 false) (prE ⟨re, im⟩) (prE pr0)), .box 25 (cond (w.getD 1 false) (typE t) (typE ty0)), .gone, .gone, .box 25 (typE t), .box 101 (stE t k11), .box 41 (prE ⟨re, im⟩), .box 23 (vlE a4), .box 23 (vlE b3), .box 23 (vlE d)]) none (c := 9) jnfI.draw (by kernel_rfl) rfl (lexg_g (I := inf) (J := jnf) none ⟨⟨⟨_, rfl, ob0⟩, oi⟩, oj⟩ rfl rfl rfl rfl (lexg_g (I := inf) (J := jnf) none ⟨⟨⟨_, rfl, ob0⟩, oi⟩, oj⟩ rfl rfl rfl rfl (lexg_g (I := inf) (J := jnf) (some .store) ⟨⟨⟨_, rfl, ob0⟩, oi⟩, .inl rfl⟩ rfl rfl rfl rfl (lexg_g (I := inf) (J := jnf) (some .store) ⟨⟨⟨_, rfl, ob0⟩, .inl rfl⟩, (by first | exact .inl (by decide +kernel) | exact .inr ⟨⟨_, rfl, ob0⟩, .inl rfl⟩)⟩ rfl rfl rfl rfl (lexg_g (I := inf) (J := jnf) none ⟨⟨⟨_, rfl, ob0⟩, oi⟩, oj⟩ rfl rfl rfl rfl (lexg_g (I := inf) (J := jnf) none ⟨⟨⟨_, rfl, ob0⟩, oi⟩, oj⟩ rfl rfl rfl rfl lexg_nil)))))) rfl (fun _ => ?_) (fun h => by cases h)
    refine rX rfl ?_
    refine runS_ret (I := inf) 0 rfl (Nat.le_refl _) rfl .nil rfl ⟨?_, rfl⟩
    rfl
end Go.Iron.Tryz

/- The pairs' seat: what an operation tells is of its type. -/
namespace Go.Iron.Tryz
open Go.Proofs Go.RowKit Go.Iron.Tok Go.Iron.Dg

theorem normD_ok (n : Nat) (q : Int) (h : n ≠ 0) : (normD n q).1 ≠ 0 ∧ (normD n q).1 % 10 ≠ 0 ∧ (normD n q).1 ≤ n := by
  by_cases h0 : n % 10 = 0
  · rw [normD_step h h0]
    obtain ⟨a, b, c⟩ := normD_ok (n / 10) (q + 1) (by omega)
    exact ⟨a, b, by omega⟩
  · rw [normD_end h0]
    exact ⟨h, h0, Nat.le_refl _⟩
termination_by n
decreasing_by omega
theorem flt_has {num den P : Nat} {k : Int} (hP : 1 ≤ P) (hd : 0 < den) (hk : IsK num den P k) : (fltR num den k).1 = 0 ∨ (fltR num den k).1 % 10 ≠ 0 ∧ (frm (fltR num den k).1).length ≤ P := by
  obtain ⟨_, h2⟩ := hk
  unfold fltR
  have hD : 0 < den * e10 (-k) := Nat.mul_pos hd (e10_pos _)
  have hlt : num * (10 * e10 k) / (den * e10 (-k)) < 10 ^ (P + 1) := by
    rw [show num * (10 * e10 k) = num * e10 k * 10 by ac_rfl, Nat.div_lt_iff_lt_mul hD, Nat.pow_succ, show 10 ^ P * 10 * (den * e10 (-k)) = 10 ^ P * (den * e10 (-k)) * 10 by ac_rfl]
    exact Nat.mul_lt_mul_of_pos_right h2 (by decide)
  generalize num * (10 * e10 k) / (den * e10 (-k)) = D at *
  have hr : rndD D ≤ 10 ^ P := by
    rw [Nat.pow_succ] at hlt
    unfold rndD
    split <;> omega
  by_cases h0 : rndD D = 0
  · rw [h0, normD_zero]
    exact .inl rfl
  · right
    obtain ⟨a, b, c⟩ := normD_ok (rndD D) (-k) h0
    refine ⟨b, ?_⟩
    by_cases he : rndD D = 10 ^ P
    · rw [he, show 10 ^ P = 1 * 10 ^ P by rw [Nat.one_mul], normD_pow (by decide), normD_end (by decide)]
      exact frm_len_lt.2 (Nat.lt_of_lt_of_le (by decide : 1 < 10 ^ 1) (Nat.pow_le_pow_right (by decide) hP))
    · exact frm_len_lt.2 (by omega)
theorem fix_has {t : Typ} (hv : vN t) (h3 : t.kind ≠ 3) {ng : Bool} {M : Nat} (hM : M < bsN t.kind ^ t.p.toNat) : hasB t ⟨t.kind, sgn ng M, t.q, []⟩ = true := by
  obtain ⟨hv1, hk⟩ := hv
  obtain ⟨p1, p2, q1, q2, p15⟩ := num_p hv1 hk
  have hk12 : t.kind = 1 ∨ t.kind = 2 := by omega
  have hab := sgn_abs ng M
  have hr : (⟨t.kind, sgn ng M, t.q, []⟩ : Vl).right = true := by
    show rightB t.kind (sgn ng M) t.q [] = true
    unfold rightB
    rcases hk12 with h | h
    · rw [h, if_pos rfl]
      rw [h] at hM
      have h31 : bsN 1 ^ t.p.toNat ≤ 2 ^ 31 := Nat.pow_le_pow_right (by decide) (by omega)
      simp
      omega
    · rw [h, if_neg (by decide), if_pos rfl]
      rw [h] at hM
      have := p15 (by omega)
      have h31 : bsN 2 ^ t.p.toNat ≤ 10 ^ 15 := Nat.pow_le_pow_right (by decide) (by omega)
      simp
      omega
  unfold hasB hasK
  rw [hv1, hr, if_pos hk12]
  simp
  show (sgn ng M).natAbs < bsN t.kind ^ t.p.toNat
  rw [hab]
  exact hM
theorem zero_hasN {t : Typ} (hv : vN t) (h3 : t.kind = 3) : hasB t ⟨3, 0, 0, []⟩ = true := by
  unfold hasB hasK
  rw [hv.1, h3, if_neg (by decide), if_pos rfl, show Int.natAbs 0 = 0 from rfl, frm_zero]
  simp
  rfl
theorem fit_has {t : Typ} (hv : vN t) {ng : Bool} {num den : Nat} {k : Int} (hd : 0 < den) (hk : num ≠ 0 → t.kind = 3 → IsK num den t.p.toNat k) (hc : (fitS t.kind t.p.toNat t.q.toNat ng num den k 2).2.2 = 0) :
    hasB t ⟨t.kind, (fitS t.kind t.p.toNat t.q.toNat ng num den k 2).1, (fitS t.kind t.p.toNat t.q.toNat ng num den k 2).2.1, []⟩ = true := by
  obtain ⟨p1, p2, q1, q2, p15⟩ := num_p hv.1 hv.2
  unfold fitS at hc ⊢
  by_cases h3 : t.kind = 3
  · rw [if_pos h3] at hc ⊢
    by_cases hn : num = 0
    · rw [if_pos hn, h3]
      exact zero_hasN hv h3
    · rw [if_neg hn] at hc ⊢
      have hf := flt_has (show 1 ≤ t.p.toNat by omega) hd (hk hn h3)
      generalize fltR num den k = r at *
      obtain ⟨m, e⟩ := r
      unfold fltO at hc ⊢
      dsimp only at hc hf ⊢
      by_cases h0 : m = 0
      · rw [if_pos h0, h3]
        exact zero_hasN hv h3
      · rw [if_neg h0] at hc ⊢
        split at hc
        · cases hc
        · split at hc
          · cases hc
          · rename_i e1 e2
            rw [if_neg e1, if_neg e2]
            obtain ⟨f1, f2⟩ := hf.resolve_left h0
            have hab := sgn_abs ng m
            have hp15 := p15 (by omega)
            have hl15 : m < 10 ^ 15 := frm_len_lt.1 (by omega)
            have hl0 : 0 < (frm m).length := Nat.pos_of_ne_zero fun e => h0 (frm_len0.1 e)
            have hr : (⟨t.kind, sgn ng m, e, []⟩ : Vl).right = true := by
              show rightB t.kind (sgn ng m) e [] = true
              unfold rightB
              rw [h3, if_neg (by decide), if_neg (by decide), if_pos rfl, if_neg (by omega), hab]
              simp
              omega
            unfold hasB hasK
            rw [hv.1, hr, if_neg (by omega), if_pos h3]
            simp
            show (frm (sgn ng m).natAbs).length ≤ t.p.toNat
            rw [hab]
            exact f2
  · rw [if_neg h3] at hc ⊢
    dsimp only at hc ⊢
    split at hc
    · cases hc
    · rename_i hM
      have hM' : num * bsN t.kind ^ t.q.toNat / den < bsN t.kind ^ t.p.toNat := by omega
      rw [Nat.mod_eq_of_lt hM', show ((t.q.toNat : Nat) : Int) = t.q by omega]
      exact fix_has hv h3 hM'
theorem opX_den {op : UInt8} {x y : Ex} (hx : 0 < x.den) (hy : 0 < y.den) (hn : op = 43 ∨ op = 45 ∨ op = 42 ∨ y.num ≠ 0) : 0 < (opX op x y).den := by
  have hb : ∀ z : Ex, 0 < z.den → 0 < (bothE x z).den := fun z hz => by
    unfold bothE
    split
    · exact Nat.mul_pos hx hz
    · split <;> exact Nat.mul_pos hx hz
  unfold opX
  split
  · exact hb _ hy
  · split
    · exact hb _ hy
    · split
      · exact Nat.mul_pos hx hy
      · rename_i h1 h2 h3
        have hyn : y.num ≠ 0 := by
          rcases hn with h | h | h | h
          · exact absurd h h1
          · exact absurd h h2
          · exact absurd h h3
          · exact h
        exact Nat.mul_pos hx (Nat.pos_of_ne_zero hyn)
theorem do_has {op : UInt8} (hop : op = 43 ∨ op = 45 ∨ op = 42 ∨ op = 47) {a b : Vl} {t : Typ} (hv : vN t) (ha : askL (some t) [a, b] = 0) (hc : (doV op a b t).2.1 = 0) : hasB t (doV op a b t).1 = true := by
  unfold doV at hc ⊢
  rw [if_neg (by rw [ha]; decide)] at hc ⊢
  by_cases hz : op = 47 ∧ b.n = 0
  · rw [if_pos hz] at hc
    cases hc
  · rw [if_neg hz] at hc ⊢
    have hy0 : (ofE b.kind b.n b.q).num = 0 → b.n = 0 := fun e => by
      have := ofE_num0 b.kind b.n b.q
      first | exact this.1 e | exact (this.2 e)
    have hden : 0 < (opX op (ofE a.kind a.n a.q) (ofE b.kind b.n b.q)).den := opX_den (ofE_den _ _ _) (ofE_den _ _ _) (by
      rcases hop with h | h | h | h
      · exact .inl h
      · exact .inr (.inl h)
      · exact .inr (.inr (.inl h))
      · exact .inr (.inr (.inr fun e => hz ⟨h, hy0 e⟩)))
    generalize opX op (ofE a.kind a.n a.q) (ofE b.kind b.n b.q) = x at *
    obtain ⟨p1, p2, q1, q2, p15⟩ := num_p hv.1 hv.2
    exact fit_has hv hden (fun hn h3 => kF_is hn (by omega) (by omega)) hc
end Go.Iron.Tryz

/- The pairs' seat: Do of both is one. -/
namespace Go.Iron.Tryz
open Go.Proofs Go.RowKit Go.Iron.Tok Go.Iron.Dg

def Same (R : Except Int Pr) (S : Pr × Int) : Prop := match R with
  | .ok z => S = (z, 0)
  | .error e => S.2 = e ∧ e ≠ 0
theorem end_same (t : Typ) {R : Except Int Pr} {S : Pr × Int} (h : Same R S) : endS t S.1 S.2 = safeV t R := by
  cases R with
  | ok z =>
    have h : S = (z, 0) := h
    rw [h]
    rfl
  | error e =>
    have h : S.2 = e ∧ e ≠ 0 := h
    unfold endS safeV
    rw [h.1, if_pos h.2]
theorem pm_same (op : UInt8) (t : Typ) (x y : Pr) : Same (pmV op t x y) (pmS op t x y) := by
  unfold pmV pmS Same
  cases e1 : byV op t x.re y.re with
  | error e =>
    obtain ⟨h, h0⟩ := step_err e1
    generalize stepV op t 0 x.re y.re = s0 at *
    obtain ⟨v1, c1⟩ := s0
    dsimp only at h
    subst h
    dsimp only
    rw [step_stay _ _ _ _ h0]
    exact ⟨rfl, h0⟩
  | ok re =>
    rw [step_ok e1]
    dsimp only
    cases e2 : byV op t x.im y.im with
    | error e => exact step_err e2
    | ok im => rw [step_ok e2]
theorem over_same (t : Typ) (x y : Pr) : match overV t x y with
    | .ok z => overS t x y = (z, 0)
    | .error e => (overS t x y).2 = e ∧ e ≠ 0 := by
  unfold overV overS partV
  cases e1 : byV 42 t y.re y.re with
  | error e =>
    obtain ⟨h, h0⟩ := step_err e1
    generalize stepV 42 t 0 y.re y.re = s0 at *
    obtain ⟨v1, c1⟩ := s0
    dsimp only at h
    subst h
    first | exact ⟨rfl, h0⟩ | (simp only [step_stay _ _ _ _ h0, h0, false_and, if_false, ne_eq, not_false_eq_true, and_self])
  | ok p =>
    rw [step_ok e1]
    try dsimp only
    cases e2 : byV 42 t y.im y.im with
    | error e =>
      obtain ⟨h, h0⟩ := step_err e2
      generalize stepV 42 t 0 y.im y.im = s0 at *
      obtain ⟨v1, c1⟩ := s0
      dsimp only at h
      subst h
      first | exact ⟨rfl, h0⟩ | (simp only [step_stay _ _ _ _ h0, h0, false_and, if_false, ne_eq, not_false_eq_true, and_self])
    | ok q =>
      rw [step_ok e2]
      try dsimp only
      cases e3 : byV 43 t p q with
      | error e =>
        obtain ⟨h, h0⟩ := step_err e3
        generalize stepV 43 t 0 p q = s0 at *
        obtain ⟨v1, c1⟩ := s0
        dsimp only at h
        subst h
        first | exact ⟨rfl, h0⟩ | (simp only [step_stay _ _ _ _ h0, h0, false_and, if_false, ne_eq, not_false_eq_true, and_self])
      | ok d =>
        rw [step_ok e3]
        try dsimp only
        by_cases hd0 : d.n = 0
        · rw [if_pos hd0, if_pos ⟨rfl, hd0⟩]
          have h9 : (9 : Int) ≠ 0 := by decide
          simp only [step_stay _ _ _ _ h9, ne_eq, h9, not_false_eq_true, and_self]
        rw [if_neg hd0, if_neg (fun h => hd0 h.2)]
        cases e4 : byV 42 t x.re y.re with
        | error e =>
          obtain ⟨h, h0⟩ := step_err e4
          generalize stepV 42 t 0 x.re y.re = s0 at *
          obtain ⟨v1, c1⟩ := s0
          dsimp only at h
          subst h
          first | exact ⟨rfl, h0⟩ | (simp only [step_stay _ _ _ _ h0, h0, false_and, if_false, ne_eq, not_false_eq_true, and_self])
        | ok p1 =>
          rw [step_ok e4]
          try dsimp only
          cases e5 : byV 42 t x.im y.im with
          | error e =>
            obtain ⟨h, h0⟩ := step_err e5
            generalize stepV 42 t 0 x.im y.im = s0 at *
            obtain ⟨v1, c1⟩ := s0
            dsimp only at h
            subst h
            first | exact ⟨rfl, h0⟩ | (simp only [step_stay _ _ _ _ h0, h0, false_and, if_false, ne_eq, not_false_eq_true, and_self])
          | ok q1 =>
            rw [step_ok e5]
            try dsimp only
            cases e6 : byV 43 t p1 q1 with
            | error e =>
              obtain ⟨h, h0⟩ := step_err e6
              generalize stepV 43 t 0 p1 q1 = s0 at *
              obtain ⟨v1, c1⟩ := s0
              dsimp only at h
              subst h
              first | exact ⟨rfl, h0⟩ | (simp only [step_stay _ _ _ _ h0, h0, false_and, if_false, ne_eq, not_false_eq_true, and_self])
            | ok s1 =>
              rw [step_ok e6]
              try dsimp only
              cases e7 : byV 47 t s1 d with
              | error e =>
                obtain ⟨h, h0⟩ := step_err e7
                generalize stepV 47 t 0 s1 d = s0 at *
                obtain ⟨v1, c1⟩ := s0
                dsimp only at h
                subst h
                first | exact ⟨rfl, h0⟩ | (simp only [step_stay _ _ _ _ h0, h0, false_and, if_false, ne_eq, not_false_eq_true, and_self])
              | ok re =>
                rw [step_ok e7]
                try dsimp only
                cases e8 : byV 42 t x.im y.re with
                | error e =>
                  obtain ⟨h, h0⟩ := step_err e8
                  generalize stepV 42 t 0 x.im y.re = s0 at *
                  obtain ⟨v1, c1⟩ := s0
                  dsimp only at h
                  subst h
                  first | exact ⟨rfl, h0⟩ | (simp only [step_stay _ _ _ _ h0, h0, false_and, if_false, ne_eq, not_false_eq_true, and_self])
                | ok p2 =>
                  rw [step_ok e8]
                  try dsimp only
                  cases e9 : byV 42 t x.re y.im with
                  | error e =>
                    obtain ⟨h, h0⟩ := step_err e9
                    generalize stepV 42 t 0 x.re y.im = s0 at *
                    obtain ⟨v1, c1⟩ := s0
                    dsimp only at h
                    subst h
                    first | exact ⟨rfl, h0⟩ | (simp only [step_stay _ _ _ _ h0, h0, false_and, if_false, ne_eq, not_false_eq_true, and_self])
                  | ok q2 =>
                    rw [step_ok e9]
                    try dsimp only
                    cases e10 : byV 45 t p2 q2 with
                    | error e =>
                      obtain ⟨h, h0⟩ := step_err e10
                      generalize stepV 45 t 0 p2 q2 = s0 at *
                      obtain ⟨v1, c1⟩ := s0
                      dsimp only at h
                      subst h
                      first | exact ⟨rfl, h0⟩ | (simp only [step_stay _ _ _ _ h0, h0, false_and, if_false, ne_eq, not_false_eq_true, and_self])
                    | ok s2 =>
                      rw [step_ok e10]
                      try dsimp only
                      cases e11 : byV 47 t s2 d with
                      | error e =>
                        obtain ⟨h, h0⟩ := step_err e11
                        generalize stepV 47 t 0 s2 d = s0 at *
                        obtain ⟨v1, c1⟩ := s0
                        dsimp only at h
                        subst h
                        first | exact ⟨rfl, h0⟩ | (simp only [step_stay _ _ _ _ h0, h0, false_and, if_false, ne_eq, not_false_eq_true, and_self])
                      | ok im =>
                        rw [step_ok e11]
                        try dsimp only
end Go.Iron.Tryz

/- The pairs' seat: Do of both, for any operation. -/
namespace Go.Iron.Tryz
open Go.Proofs Go.RowKit Go.Iron.Tok Go.Iron.Dg

def isOp (s : Str) : Prop := s = [43] ∨ s = [45] ∨ s = [42] ∨ s = [47]
def dopV (op : UInt8) (x y : Pr) (ta tb : Typ) : Pr × Typ × Int × Int :=
  ((safeV (resT op (inT op ta) (inT op tb)) (opP op (resT op (inT op ta) (inT op tb)) x y)).1, resT op (inT op ta) (inT op tb), (safeV (resT op (inT op ta) (inT op tb)) (opP op (resT op (inT op ta) (inT op tb)) x y)).2, 0)
def doPV (s : Str) (x y : Pr) (ta tb : Typ) : Pr × Typ × Int × Int :=
  if askP [x, y] [ta, tb] ≠ 0 then (pr0, ty0, 0, askP [x, y] [ta, tb])
  else if s = [43] then dopV 43 x y ta tb
  else if s = [45] then dopV 45 x y ta tb
  else if s = [42] then dopV 42 x y ta tb
  else if s = [47] then dopV 47 x y ta tb
  else (pr0, ty0, 0, 5)
abbrev doB (r : Pr × Typ × Int × Int) : AV := doA r.1 r.2.1 r.2.2.1 r.2.2.2
theorem ask_vN {x y : Pr} {ta tb : Typ} (h : askP [x, y] [ta, tb] = 0) : (pRight x = true ∧ pRight y = true) ∧ (vN ta ∧ pHas ta x = true) ∧ vN tb ∧ pHas tb y = true := by
  unfold askP at h
  by_cases h1 : ([x, y].all pRight) = false
  · rw [if_pos h1] at h
    cases h
  · rw [if_neg h1] at h
    by_cases h2 : ((List.range [x, y].length).all fun i => validT ([ta, tb].getD i ty0) && pHas ([ta, tb].getD i ty0) ([x, y].getD i pr0)) = false
    · rw [if_pos h2] at h
      cases h
    · rw [if_neg h2] at h
      by_cases h3 : ([ta, tb].all fun t => decide (t.kind ≤ 3)) = false
      · rw [if_pos h3] at h
        cases h
      · simp [List.range_succ] at h1 h2 h3
        obtain ⟨a1, a2, b1, b2⟩ := h2
        obtain ⟨k1, _⟩ := valid_kind a1
        obtain ⟨k2, _⟩ := valid_kind b1
        exact ⟨h1, ⟨⟨a1, by omega⟩, a2⟩, ⟨b1, by omega⟩, b2⟩
theorem hasK4 {v1 v2 v3 v4 : AV} {s : Str} (h : _root_.Go.Iron.hasK [(Value.string ⟨#[43]⟩, v1), (Value.string ⟨#[45]⟩, v2), (Value.string ⟨#[42]⟩, v3), (Value.string ⟨#[47]⟩, v4)] (Value.string (bs s)) = true) : isOp s := by
  have hk : ∀ c : UInt8, keyEq (Value.string ⟨#[c]⟩) (Value.string (bs s)) = true → s = [c] := fun c hc => by
    have h1 : bytesEq [c] s = true := hc
    exact (bytesEq_iff.1 h1).symm
  unfold _root_.Go.Iron.hasK mapFind at h
  cases e1 : keyEq (Value.string ⟨#[43]⟩) (Value.string (bs s)) with
  | true => exact .inl (hk 43 e1)
  | false =>
    rw [e1] at h
    unfold mapFind at h
    cases e2 : keyEq (Value.string ⟨#[45]⟩) (Value.string (bs s)) with
    | true => exact .inr (.inl (hk 45 e2))
    | false =>
      rw [e2] at h
      unfold mapFind at h
      cases e3 : keyEq (Value.string ⟨#[42]⟩) (Value.string (bs s)) with
      | true => exact .inr (.inr (.inl (hk 42 e3)))
      | false =>
        rw [e3] at h
        unfold mapFind at h
        cases e4 : keyEq (Value.string ⟨#[47]⟩) (Value.string (bs s)) with
        | true => exact .inr (.inr (.inr (hk 47 e4)))
        | false =>
          rw [e4] at h
          cases h
theorem find4 {v1 v2 v3 v4 : AV} {s : Str} (h : ¬ isOp s) : mapFind [(Value.string ⟨#[43]⟩, v1), (Value.string ⟨#[45]⟩, v2), (Value.string ⟨#[42]⟩, v3), (Value.string ⟨#[47]⟩, v4)] (Value.string (bs s)) = none := by
  cases hf : mapFind [(Value.string ⟨#[43]⟩, v1), (Value.string ⟨#[45]⟩, v2), (Value.string ⟨#[42]⟩, v3), (Value.string ⟨#[47]⟩, v4)] (Value.string (bs s)) with
  | none => rfl
  | some y =>
    exfalso
    apply h
    apply hasK4 (v1 := v1) (v2 := v2) (v3 := v3) (v4 := v4)
    unfold _root_.Go.Iron.hasK
    rw [hf]
theorem look4 {τ : Nat → AV} {ar ar' : List AO} {o : Oper} {l : List (Value × AV)} {k : Value} {z : AV} (hf : mapFind l k = none) (h : OpStep Tryz.prog τ ar o (tupO true (lookA l k z) (.val (.bool (_root_.Go.Iron.hasK l k)))) ar') : OpStep Tryz.prog τ ar o (.tup [z, bv false]) ar' := by
  unfold lookA _root_.Go.Iron.hasK at h
  rw [hf] at h
  exact h
theorem p_doE (s : Str) (x y : Pr) (ta tb : Typ) (ha : askP [x, y] [ta, tb] ≠ 0) : CallT Tryz.prog 23 [sv s, .agg (prE x), .agg (prE y), .agg (typE ta), .agg (typE tb)] [] (fun o A => o = .ret (doA pr0 ty0 0 (askP [x, y] [ta, tb])) ∧ A = []) := by
  have hak := p_asked none none [x, y] [ta, tb] (by simp) rfl
  refine callS_body (n := 74) rfl rfl fun w ρ X => ?_
  refine rX rfl ?_
  refine runS_tell 6 (prR [x, y]) rfl (m' := 2) rfl (fun j hj => ?_) rfl ?_
  · rcases j with _ | _ | j <;> first | rfl | omega
  refine runS_tell 7 (tyR [ta, tb]) rfl (m' := 2) rfl (fun j hj => ?_) rfl ?_
  · rcases j with _ | _ | j <;> first | rfl | omega
  refine runS_freeze 24 rfl rfl rfl (fun j hj => ?_) ?_
  · rcases j with _ | _ | j <;> first | rfl | omega
  refine runS_freeze 27 rfl rfl rfl (fun j hj => ?_) ?_
  · rcases j with _ | _ | j <;> first | rfl | omega
  refine runS_call rfl rfl rfl rfl rfl rfl rfl hak ?_
  refine rX rfl ?_
  refine runS_cond rfl (fun h => ?_) (fun h => ?_)
  · refine rX rfl ?_
    refine runS_ret (I := inf) 0 rfl (Nat.le_refl _) rfl .nil rfl ⟨?_, rfl⟩
    rfl
  · exfalso
    have h3 : (!(askP [x, y] [ta, tb] == 0)) = false := h
    simp at h3
    exact ha h3
theorem p_doN (s : Str) (hs : ¬ isOp s) (x y : Pr) (ta tb : Typ) (ha : askP [x, y] [ta, tb] = 0) : CallT Tryz.prog 23 [sv s, .agg (prE x), .agg (prE y), .agg (typE ta), .agg (typE tb)] [] (fun o A => o = .ret (doA pr0 ty0 0 5) ∧ A = []) := by
  have hak := p_asked none none [x, y] [ta, tb] (by simp) rfl
  rw [ha] at hak
  refine callS_body (n := 74) rfl rfl fun w ρ X => ?_
  refine rX rfl ?_
  refine runS_tell 6 (prR [x, y]) rfl (m' := 2) rfl (fun j hj => ?_) rfl ?_
  · rcases j with _ | _ | j <;> first | rfl | omega
  refine runS_tell 7 (tyR [ta, tb]) rfl (m' := 2) rfl (fun j hj => ?_) rfl ?_
  · rcases j with _ | _ | j <;> first | rfl | omega
  refine runS_freeze 24 rfl rfl rfl (fun j hj => ?_) ?_
  · rcases j with _ | _ | j <;> first | rfl | omega
  refine runS_freeze 27 rfl rfl rfl (fun j hj => ?_) ?_
  · rcases j with _ | _ | j <;> first | rfl | omega
  refine runS_call rfl rfl rfl rfl rfl rfl rfl hak ?_
  refine rX rfl ?_
  refine runS_cond rfl (fun h => by cases h) (fun h => ?_)
  refine runS_x (I := inf) (J := jnf) ⟨false, false, [68], 0, 0⟩ 9999 rfl ob1 ?_
  refine runS_call rfl rfl rfl rfl rfl rfl rfl (p_mk (g := 34)) ?_
  refine runS_x (I := inf) (J := jnf) ⟨false, false, [68], 0, 0⟩ 9999 rfl ob1 ?_
  refine runS_call rfl rfl rfl rfl rfl rfl rfl (p_mk (g := 35)) ?_
  have hf := find4 (v1 := .fn (.func 131) [.loc [.fn (.func 34) []] 0]) (v2 := .fn (.func 131) [.loc [.fn (.func 35) []] 0]) (v3 := .fn (.func 99) []) (v4 := .fn (.func 132) []) hs
  refine runS_x (I := inf) (J := jnf) ⟨false, false, [68], 0, 0⟩ 9 rfl ob1 ?_
  refine runS_op (.tup [.val .nilFunc, bv false]) rfl rfl rfl (look4 hf (op_lookup (run_zeroV (jnfI.zv.mem (87, .val .nilFunc) (lk_mem rfl))) (jnfI.maps.mem (89, none, 87) (lk_mem rfl)) rfl rfl rfl rfl rfl)) ?_
  refine rX rfl ?_
  refine runS_cond rfl (fun h => ?_) (fun h => by cases h)
  refine rX rfl ?_
  refine runS_ret (I := inf) 0 rfl (Nat.le_refl _) rfl .nil rfl ⟨?_, rfl⟩
  rfl
theorem p_DoV (s : Str) (x y : Pr) (ta tb : Typ) : CallT Tryz.prog 23 [sv s, .agg (prE x), .agg (prE y), .agg (typE ta), .agg (typE tb)] [] (fun o A => o = .ret (doB (doPV s x y ta tb)) ∧ A = []) := by
  unfold doPV
  by_cases h : askP [x, y] [ta, tb] ≠ 0
  · rw [if_pos h]
    exact p_doE s x y ta tb h
  · rw [if_neg h]
    have h0 := Decidable.not_not.1 h
    obtain ⟨_, ⟨va, _⟩, vb, _⟩ := ask_vN h0
    by_cases e1 : s = [43]
    · rw [if_pos e1, e1]
      exact p_do43 x y ta tb h0 va vb
    · rw [if_neg e1]
      by_cases e2 : s = [45]
      · rw [if_pos e2, e2]
        exact p_do45 x y ta tb h0 va vb
      · rw [if_neg e2]
        by_cases e3 : s = [42]
        · rw [if_pos e3, e3]
          exact p_do42 x y ta tb h0 va vb
        · rw [if_neg e3]
          by_cases e4 : s = [47]
          · rw [if_pos e4, e4]
            exact p_do47 x y ta tb h0 va vb
          · rw [if_neg e4]
            exact p_doN s (by rintro (h | h | h | h); exact e1 h; exact e2 h; exact e3 h; exact e4 h) x y ta tb h0
theorem r_doE (s : Str) (x y : Pr) (ta tb : Typ) (ha : askP [x, y] [ta, tb] ≠ 0) : CallT Tryz.prog 24 [sv s, .agg (prE x), .agg (prE y), .agg (typE ta), .agg (typE tb)] [] (fun o A => o = .ret (doA pr0 ty0 0 (askP [x, y] [ta, tb])) ∧ A = []) := by
  have hak := r_askedP none none [x, y] [ta, tb] (by simp) rfl
  refine callS_body (n := 183) rfl rfl fun w ρ X => ?_
  refine rX rfl ?_
  refine runS_tell 6 (prR [x, y]) rfl (m' := 2) rfl (fun j hj => ?_) rfl ?_
  · rcases j with _ | _ | j <;> first | rfl | omega
  refine runS_tell 7 (tyR [ta, tb]) rfl (m' := 2) rfl (fun j hj => ?_) rfl ?_
  · rcases j with _ | _ | j <;> first | rfl | omega
  refine runS_freeze 24 rfl rfl rfl (fun j hj => ?_) ?_
  · rcases j with _ | _ | j <;> first | rfl | omega
  refine runS_freeze 27 rfl rfl rfl (fun j hj => ?_) ?_
  · rcases j with _ | _ | j <;> first | rfl | omega
  refine runS_call rfl rfl rfl rfl rfl rfl rfl hak ?_
  refine rX rfl ?_
  refine runS_cond rfl (fun h => ?_) (fun h => ?_)
  · refine rX rfl ?_
    refine runS_ret (I := inf) 0 rfl (Nat.le_refl _) rfl .nil rfl ⟨?_, rfl⟩
    rfl
  · exfalso
    have h3 : (!(askP [x, y] [ta, tb] == 0)) = false := h
    simp at h3
    exact ha h3
theorem r_doN (s : Str) (hs : ¬ isOp s) (x y : Pr) (ta tb : Typ) (ha : askP [x, y] [ta, tb] = 0) : CallT Tryz.prog 24 [sv s, .agg (prE x), .agg (prE y), .agg (typE ta), .agg (typE tb)] [] (fun o A => o = .ret (doA pr0 ty0 0 5) ∧ A = []) := by
  have hak := r_askedP none none [x, y] [ta, tb] (by simp) rfl
  rw [ha] at hak
  have hcd : (if (if (if (!((bs s).toList == (bs [43]).toList)) = true then !((bs s).toList == (bs [45]).toList) else false) = true then !((bs s).toList == (bs [42]).toList) else false) = true then !((bs s).toList == (bs [47]).toList) else false) = true := by
    simp only [bs_beq]
    have h1 : ¬ s = [43] := fun e => hs (.inl e)
    have h2 : ¬ s = [45] := fun e => hs (.inr (.inl e))
    have h3 : ¬ s = [42] := fun e => hs (.inr (.inr (.inl e)))
    have h4 : ¬ s = [47] := fun e => hs (.inr (.inr (.inr e)))
    rw [decide_eq_false h1, decide_eq_false h2, decide_eq_false h3, decide_eq_false h4]
    rfl
  refine callS_body (n := 183) rfl rfl fun w ρ X => ?_
  refine rX rfl ?_
  refine runS_tell 6 (prR [x, y]) rfl (m' := 2) rfl (fun j hj => ?_) rfl ?_
  · rcases j with _ | _ | j <;> first | rfl | omega
  refine runS_tell 7 (tyR [ta, tb]) rfl (m' := 2) rfl (fun j hj => ?_) rfl ?_
  · rcases j with _ | _ | j <;> first | rfl | omega
  refine runS_freeze 24 rfl rfl rfl (fun j hj => ?_) ?_
  · rcases j with _ | _ | j <;> first | rfl | omega
  refine runS_freeze 27 rfl rfl rfl (fun j hj => ?_) ?_
  · rcases j with _ | _ | j <;> first | rfl | omega
  refine runS_call rfl rfl rfl rfl rfl rfl rfl hak ?_
  refine rX rfl ?_
  refine runS_cond rfl (fun h => by cases h) (fun h => ?_)
  refine rX rfl ?_
  refine runS_cond rfl (fun h => ?_) (fun h => Bool.noConfusion (hcd.symm.trans h))
  refine rX rfl ?_
  refine runS_ret (I := inf) 0 rfl (Nat.le_refl _) rfl .nil rfl ⟨?_, rfl⟩
  rfl
theorem dop_same {op : UInt8} {x y : Pr} {ta tb : Typ} {S : Pr × Int} (h : Same (opP op (resT op (inT op ta) (inT op tb)) x y) S) : doA (endS (resT op (inT op ta) (inT op tb)) S.1 S.2).1 (resT op (inT op ta) (inT op tb)) (endS (resT op (inT op ta) (inT op tb)) S.1 S.2).2 0 = doB (dopV op x y ta tb) := by
  rw [end_same _ h]
  rfl
theorem r_DoV (s : Str) (x y : Pr) (ta tb : Typ) : CallT Tryz.prog 24 [sv s, .agg (prE x), .agg (prE y), .agg (typE ta), .agg (typE tb)] [] (fun o A => o = .ret (doB (doPV s x y ta tb)) ∧ A = []) := by
  unfold doPV
  by_cases h : askP [x, y] [ta, tb] ≠ 0
  · rw [if_pos h]
    exact r_doE s x y ta tb h
  · rw [if_neg h]
    have h0 := Decidable.not_not.1 h
    obtain ⟨_, ⟨va, _⟩, vb, _⟩ := ask_vN h0
    by_cases e1 : s = [43]
    · rw [if_pos e1, e1]
      have hr := r_Do43 x y ta tb h0 va vb
      rw [dop_same (op := 43) (pm_same 43 _ x y)] at hr
      exact hr
    · rw [if_neg e1]
      by_cases e2 : s = [45]
      · rw [if_pos e2, e2]
        have hr := r_Do45 x y ta tb h0 va vb
        rw [dop_same (op := 45) (pm_same 45 _ x y)] at hr
        exact hr
      · rw [if_neg e2]
        by_cases e3 : s = [42]
        · rw [if_pos e3, e3]
          have hr := r_Do42 x y ta tb h0 va vb
          rw [dop_same (op := 42) (S := timesS _ 0 x y) (times_same _ x y)] at hr
          exact hr
        · rw [if_neg e3]
          by_cases e4 : s = [47]
          · rw [if_pos e4, e4]
            have hr := r_Do47 x y ta tb h0 va vb
            rw [dop_same (op := 47) (over_same _ x y)] at hr
            exact hr
          · rw [if_neg e4]
            exact r_doN s (by rintro (h | h | h | h); exact e1 h; exact e2 h; exact e3 h; exact e4 h) x y ta tb h0
end Go.Iron.Tryz

/- The pairs' seat: Norm, Conjugate. -/
namespace Go.Iron.Tryz
open Go.Proofs Go.RowKit Go.Iron.Tok Go.Iron.Dg

end Go.Iron.Tryz

/- The pairs' seat: whole decimal pairs; the law of norms. -/
namespace Go.Iron.Tryz
open Go.Proofs Go.RowKit Go.Iron.Tok Go.Iron.Dg

theorem pow_le15 {P : Int} (h2 : P ≤ 15) : 10 ^ P.toNat ≤ 1000000000000000 := Nat.pow_le_pow_right (n := 10) (i := P.toNat) (j := 15) (by decide) (by omega)
theorem by_dec {op : UInt8} {n m r P : Int} (hop : op = 43 ∧ r = n + m ∨ op = 45 ∧ r = n - m ∨ op = 42 ∧ r = n * m) (hn : n.natAbs < 10 ^ P.toNat) (hm : m.natAbs < 10 ^ P.toNat) (h1 : 1 ≤ P) (h2 : P ≤ 15) (hr : r.natAbs < 10 ^ P.toNat) : byV op (dcT P) (dcV n) (dcV m) = .ok (dcV r) := by
  have h := pow_le15 h2
  unfold byV
  rw [do_dec hop (by omega) (by omega) h1 h2 hr, if_pos rfl]
abbrev dcP (a b : Int) : Pr := ⟨dcV a, dcV b⟩
theorem times_dec {a b c d P : Int} (h1 : 1 ≤ P) (h2 : P ≤ 15) (ha : a.natAbs < 10 ^ P.toNat) (hb : b.natAbs < 10 ^ P.toNat) (hc : c.natAbs < 10 ^ P.toNat) (hd : d.natAbs < 10 ^ P.toNat)
    (r1 : (a * c).natAbs < 10 ^ P.toNat) (r2 : (b * d).natAbs < 10 ^ P.toNat) (r3 : (a * d).natAbs < 10 ^ P.toNat) (r4 : (b * c).natAbs < 10 ^ P.toNat) (r5 : (a * c - b * d).natAbs < 10 ^ P.toNat) (r6 : (a * d + b * c).natAbs < 10 ^ P.toNat) :
    timesV (dcT P) (dcP a b) (dcP c d) = .ok (dcP (a * c - b * d) (a * d + b * c)) := by
  unfold timesV
  dsimp only
  rw [by_dec (op := 42) (.inr (.inr ⟨rfl, rfl⟩)) ha hc h1 h2 r1]
  dsimp only
  rw [by_dec (op := 42) (.inr (.inr ⟨rfl, rfl⟩)) hb hd h1 h2 r2]
  dsimp only
  rw [by_dec (op := 42) (.inr (.inr ⟨rfl, rfl⟩)) ha hd h1 h2 r3]
  dsimp only
  rw [by_dec (op := 42) (.inr (.inr ⟨rfl, rfl⟩)) hb hc h1 h2 r4]
  dsimp only
  rw [by_dec (op := 45) (.inr (.inl ⟨rfl, rfl⟩)) r1 r2 h1 h2 r5]
  dsimp only
  rw [by_dec (op := 43) (.inl ⟨rfl, rfl⟩) r3 r4 h1 h2 r6]
theorem dc_has {n P : Int} (h1 : 1 ≤ P) (h2 : P ≤ 15) (hn : n.natAbs < 10 ^ P.toNat) : hasB (dcT P) (dcV n) = true := by
  have h := pow_le15 h2
  unfold hasB hasK
  rw [dc_valid h1 h2, dc_right (by omega), if_pos (.inr rfl)]
  have hb : bsN 2 = 10 := rfl
  rw [hb]
  simp [hn]
theorem dc_vN {P : Int} (h1 : 1 ≤ P) (h2 : P ≤ 15) : vN (dcT P) := ⟨dc_valid h1 h2, .inr (.inl rfl)⟩
theorem dc_pH {a b P : Int} (h1 : 1 ≤ P) (h2 : P ≤ 15) (ha : a.natAbs < 10 ^ P.toNat) (hb : b.natAbs < 10 ^ P.toNat) : pHas (dcT P) (dcP a b) = true := by
  unfold pHas
  rw [dc_has h1 h2 ha, dc_has h1 h2 hb]
  rfl
theorem dc_pR {a b P : Int} (h2 : P ≤ 15) (ha : a.natAbs < 10 ^ P.toNat) (hb : b.natAbs < 10 ^ P.toNat) : pRight (dcP a b) = true := by
  have h := pow_le15 h2
  unfold pRight
  rw [dc_right (by omega), dc_right (by omega)]
  rfl
theorem ask_dec2 {a b c d P : Int} (h1 : 1 ≤ P) (h2 : P ≤ 15) (ha : a.natAbs < 10 ^ P.toNat) (hb : b.natAbs < 10 ^ P.toNat) (hc : c.natAbs < 10 ^ P.toNat) (hd : d.natAbs < 10 ^ P.toNat) : askP [dcP a b, dcP c d] [dcT P, dcT P] = 0 := by
  have e1 := dc_pR h2 ha hb
  have e2 := dc_pH h1 h2 ha hb
  have e3 := dc_pR h2 hc hd
  have e4 := dc_pH h1 h2 hc hd
  unfold askP
  rw [if_neg (by simp [e1, e3]), if_neg (by simp [List.range_succ, e2, e4, dc_valid h1 h2]), if_neg (by simp)]
theorem l_awakeP : CallT Tryz.prog 22 [] [] (fun o A => o = .ret (bv true) ∧ A = []) := by
  have hd := p_do42 (dcP 1 2) (dcP 3 (-1)) (dcT 1) (dcT 1) (ask_dec2 (by decide) (by decide) (by decide) (by decide) (by decide) (by decide)) (dc_vN (by decide) (by decide)) (dc_vN (by decide) (by decide))
  have ht : resT 42 (inT 42 (dcT 1)) (inT 42 (dcT 1)) = dcT 3 := rfl
  have hop0 : timesV (dcT 3) (dcP 1 2) (dcP 3 (-1)) = .ok (dcP (1 * 3 - 2 * (-1)) (1 * (-1) + 2 * 3)) := times_dec (a := 1) (b := 2) (c := 3) (d := -1) (P := 3) (by decide) (by decide) (by decide) (by decide) (by decide) (by decide) (by decide) (by decide) (by decide) (by decide) (by decide) (by decide)
  have hop : opP 42 (dcT 3) (dcP 1 2) (dcP 3 (-1)) = .ok (dcP 5 5) := hop0
  rw [ht, hop] at hd
  have hd : CallT Tryz.prog 23 [sv [42], .agg (prE (dcP 1 2)), .agg (prE (dcP 3 (-1))), .agg (typE (dcT 1)), .agg (typE (dcT 1))] [] (fun o A => o = .ret (doA (dcP 5 5) (dcT 3) 0 0) ∧ A = []) := hd
  refine callS_body (n := 33) rfl rfl fun w ρ X => ?_
  refine rX rfl ?_
  refine runS_hole ?_
  refine runS_hole ?_
  refine runS_drawG (ch := []) (A2 := fun _ => []) 16 [10, 11, 12, 13] (fun z => [.box 25 (typE (dcT 1)), cond (z.getD 0 false) (.row 41 8 1 1 (cond (z.getD 2 false) (setR (fun _ => prE pr0) 0 (prE (dcP 5 5))) (fun _ => prE pr0))) .hole, cond (z.getD 1 false) (.row 25 6 1 1 (cond (z.getD 3 false) (setR (fun _ => typE ty0) 0 (typE (dcT 3))) (fun _ => typE ty0))) .hole]) none (c := 9) jnfI.draw (by kernel_rfl) rfl (lexg_call rfl rfl rfl rfl rfl rfl rfl rfl rfl (p_one 1 2) (lexg_call rfl rfl rfl rfl rfl rfl rfl rfl rfl (p_one 3 (-1)) (lexg_g (I := inf) (J := jnf) none ⟨⟨⟨⟨⟨_, rfl, ob0⟩, oi⟩, oj⟩, ol⟩, on⟩ rfl rfl rfl rfl (lexg_g (I := inf) (J := jnf) none ⟨⟨⟨⟨⟨_, rfl, ob0⟩, oi⟩, oj⟩, ol⟩, on⟩ rfl rfl rfl rfl (lexg_call rfl rfl rfl rfl rfl rfl rfl rfl rfl hd (lexg_g (I := inf) (J := jnf) none ⟨⟨⟨⟨⟨_, rfl, ob0⟩, oi⟩, oj⟩, ol⟩, on⟩ rfl rfl rfl rfl (lexg_g (I := inf) (J := jnf) none ⟨⟨⟨⟨⟨_, rfl, ob0⟩, oi⟩, oj⟩, ol⟩, on⟩ rfl rfl rfl rfl (lexg_g (I := inf) (J := jnf) none ⟨⟨⟨⟨⟨_, rfl, ob0⟩, oi⟩, oj⟩, ol⟩, on⟩ rfl rfl rfl rfl (lexg_g (I := inf) (J := jnf) none ⟨⟨⟨⟨⟨_, rfl, ob0⟩, oi⟩, oj⟩, ol⟩, on⟩ rfl rfl rfl rfl (lexg_g (I := inf) (J := jnf) none ⟨⟨⟨⟨⟨_, rfl, ob0⟩, oi⟩, oj⟩, ol⟩, on⟩ rfl rfl rfl rfl (lexg_b 1 rfl rfl ⟨⟨⟨⟨⟨rfl, rfl⟩, (by first | exact .inl (by decide +kernel) | exact .inr ⟨rfl, rfl⟩)⟩, (by first | exact .inl (by decide +kernel) | exact .inr ⟨⟨rfl, rfl⟩, (by first | exact .inl (by decide +kernel) | exact .inr ⟨rfl, rfl⟩)⟩)⟩, (by first | exact .inl (by decide +kernel) | exact .inr ⟨⟨⟨rfl, rfl⟩, (by first | exact .inl (by decide +kernel) | exact .inr ⟨rfl, rfl⟩)⟩, (by first | exact .inl (by decide +kernel) | exact .inr ⟨⟨rfl, rfl⟩, (by first | exact .inl (by decide +kernel) | exact .inr ⟨rfl, rfl⟩)⟩)⟩)⟩, .inl rfl⟩ rfl rfl rfl rfl (lexg_b 2 rfl rfl ⟨⟨⟨⟨⟨rfl, rfl⟩, (by first | exact .inl (by decide +kernel) | exact .inr ⟨rfl, rfl⟩)⟩, (by first | exact .inl (by decide +kernel) | exact .inr ⟨⟨rfl, rfl⟩, (by first | exact .inl (by decide +kernel) | exact .inr ⟨rfl, rfl⟩)⟩)⟩, .inl rfl⟩, (by first | exact .inl (by decide +kernel) | exact .inr ⟨⟨⟨⟨rfl, rfl⟩, (by first | exact .inl (by decide +kernel) | exact .inr ⟨rfl, rfl⟩)⟩, (by first | exact .inl (by decide +kernel) | exact .inr ⟨⟨rfl, rfl⟩, (by first | exact .inl (by decide +kernel) | exact .inr ⟨rfl, rfl⟩)⟩)⟩, .inl rfl⟩)⟩ rfl rfl rfl rfl (lexg_d (I := inf) (J := jnf) (some .store) ⟨(by first | exact .inl (by decide +kernel) | exact .inr ⟨om, om⟩), (by first | exact .inl (by decide +kernel) | exact .inr ⟨om, om⟩)⟩ rfl rfl rfl rfl (lexg_d (I := inf) (J := jnf) (some .store) ⟨(by first | exact .inl (by decide +kernel) | exact .inr ⟨om, om⟩), (by first | exact .inl (by decide +kernel) | exact .inr ⟨om, om⟩)⟩ rfl rfl rfl rfl (lexg_g (I := inf) (J := jnf) none ⟨⟨⟨⟨⟨_, rfl, ob0⟩, oi⟩, oj⟩, ol⟩, on⟩ rfl rfl rfl rfl (lexg_g (I := inf) (J := jnf) none ⟨⟨⟨⟨⟨_, rfl, ob0⟩, oi⟩, oj⟩, ol⟩, on⟩ rfl rfl rfl rfl lexg_nil)))))))))))))))) rfl (fun _ => ?_) (fun h => by cases h)
  refine rX rfl ?_
  refine runS_tell 1 (fun _ => prE (dcP 5 5)) rfl (m' := 1) rfl (fun j hj => by (obtain rfl : j = 0 := by omega); rfl) rfl ?_
  refine runS_tell 2 (fun _ => typE (dcT 3)) rfl (m' := 1) rfl (fun j hj => by (obtain rfl : j = 0 := by omega); rfl) rfl ?_
  have h2 : (((0 : Int) == 0) == true) = true := rfl
  have h6 : ((if ((0 : Int) == 0) = true then ((0 : Int) == 0) else false) == true) = true := rfl
  have h11 : ((if (if ((0 : Int) == 0) = true then ((0 : Int) == 0) else false) = true then (((2 : Int) == 2) && (((3 : Int) == 3) && (((0 : Int) == 0) && (((0 : Int) == 0) && ((false == false) && (((bs []).toList == (bs []).toList) && true)))))) else false) == true) = true := by simp
  refine runS_drawG (ch := []) (A2 := fun _ => []) 17 [] (fun _ => _) none (c := 9) jnfI.draw (by kernel_rfl) rfl (lexg_g (I := inf) (J := jnf) none ⟨_, rfl, ob0⟩ rfl rfl rfl rfl (lexg_g (I := inf) (J := jnf) none ⟨_, rfl, ob0⟩ rfl rfl rfl rfl (lexg_g (I := inf) (J := jnf) none ⟨_, rfl, ob0⟩ rfl rfl rfl rfl (lexg_gT (I := inf) (J := jnf) none h2 ⟨_, rfl, ob0⟩ rfl rfl rfl rfl rfl rfl rfl rfl (lexg_gT (I := inf) (J := jnf) none h2 ⟨_, rfl, ob0⟩ rfl rfl rfl rfl rfl rfl rfl rfl (lexg_g (I := inf) (J := jnf) none ⟨_, rfl, ob0⟩ rfl rfl rfl rfl (lexg_g (I := inf) (J := jnf) none ⟨_, rfl, ob0⟩ rfl rfl rfl rfl (lexg_gT (I := inf) (J := jnf) none h6 ⟨_, rfl, ob0⟩ rfl rfl rfl rfl rfl rfl rfl rfl (lexg_gT (I := inf) (J := jnf) none h6 ⟨_, rfl, ob0⟩ rfl rfl rfl rfl rfl rfl rfl rfl (lexg_gT (I := inf) (J := jnf) none h6 ⟨_, rfl, ob0⟩ rfl rfl rfl rfl rfl rfl rfl rfl (lexg_g (I := inf) (J := jnf) none ⟨_, rfl, ob0⟩ rfl rfl rfl rfl (lexg_g (I := inf) (J := jnf) none ⟨_, rfl, ob0⟩ rfl rfl rfl rfl (lexg_gT (I := inf) (J := jnf) none h11 ⟨_, rfl, ob0⟩ rfl rfl rfl rfl rfl rfl rfl rfl (lexg_callT h11 rfl rfl rfl rfl rfl rfl rfl rfl (by repeat (first | exact .nil | refine .cons (.n rfl) ?_ | refine .cons .o ?_ | refine .cons gok_and ?_)) rfl rfl rfl rfl rfl rfl rfl (p_one 5 5) (lexg_gT (I := inf) (J := jnf) none h11 ⟨_, rfl, ob0⟩ rfl rfl rfl rfl rfl rfl rfl rfl (lexg_g (I := inf) (J := jnf) none ⟨_, rfl, ob0⟩ rfl rfl rfl rfl (lexg_g (I := inf) (J := jnf) none ⟨_, rfl, ob0⟩ rfl rfl rfl rfl lexg_nil))))))))))))))))) rfl (fun _ => ?_) (fun h => by cases h)
  refine rX rfl ?_
  refine runS_ret (I := inf) 0 rfl (Nat.le_refl _) rfl .nil rfl ⟨?_, rfl⟩
  refine congrArg (fun x => Out.ret (bv x)) (?_ : _ = true)
  simp
end Go.Iron.Tryz

/- The digits' seat: the law of valid values. -/
namespace Go.Iron.Tryz
open Go.Proofs Go.RowKit Go.Iron.Tok Go.Iron.Dg

theorem zero_has (t : Typ) (h : (zeroV t).2 = 0) : hasB t (zeroV t).1 = true := by
  cases hvt : validT t with
  | false =>
    unfold zeroV at h
    rw [if_pos hvt] at h
    cases h
  | true =>
    have h9 := valid9 hvt
    have hsn := str_n hvt
    have hnp := num_p hvt
    have hZ : zeroV t = if t.kind = 1 ∨ t.kind = 2 then (⟨t.kind, 0, t.q, []⟩, 0) else if t.kind = 3 then (⟨t.kind, 0, 0, []⟩, 0) else if t.kind = 4 then (⟨t.kind, 0, 0, if t.vary = true then [] else List.replicate t.n.toNat 32⟩, 0) else if t.kind = 5 then (⟨t.kind, 0, 0, if t.vary = true then [] else List.replicate t.n.toNat 48⟩, 0) else (⟨0, 0, 0, []⟩, 10) := by unfold zeroV; rw [if_neg (by rw [hvt]; decide)]
    rw [hZ] at h ⊢
    unfold hasB
    rw [hvt]
    clear hZ hvt
    obtain ⟨kd, p, q, n, vy, pc⟩ := t
    dsimp only at *
    rcases h9 with rfl | rfl | rfl | rfl | rfl | rfl | rfl | rfl | rfl
    · have := hnp (by decide)
      have hp : 0 < 2 ^ p.toNat := Nat.pow_pos (by decide)
      simp [Vl.right, rightB, hasK, bsN, hp]
      omega
    · have := hnp (by decide)
      have hp : 0 < 10 ^ p.toNat := Nat.pow_pos (by decide)
      simp [Vl.right, rightB, hasK, bsN, hp]
      omega
    · simp [Vl.right, rightB, hasK, frm_zero]
    · have := hsn (by decide)
      cases vy
      · simp [Vl.right, rightB, hasK]
        omega
      · simp [Vl.right, rightB, hasK]
        omega
    · have := hsn (by decide)
      cases vy
      · simp [Vl.right, rightB, hasK, isBit]
        omega
      · simp [Vl.right, rightB, hasK]
        omega
    all_goals simp at h
end Go.Iron.Tryz

/- The pairs' seat: the law of Do. -/
namespace Go.Iron.Tryz
open Go.Proofs Go.RowKit Go.Iron.Tok Go.Iron.Dg

def Good (v : Vl) : Prop := v.right = true ∧ numK v.kind = true
theorem has_good {t : Typ} {v : Vl} (ht : vN t) (h : hasB t v = true) : Good v := by
  have hk := has_kind h
  unfold hasB at h
  simp at h
  refine ⟨h.1.1.2, ?_⟩
  rw [← hk]
  obtain ⟨_, hk | hk | hk⟩ := ht <;> rw [hk] <;> rfl
theorem ask_good {t : Typ} {a b : Vl} (ht : vN t) (ha : Good a) (hb : Good b) : askL (some t) [a, b] = 0 := by
  have hn : numK t.kind = true := by obtain ⟨_, hk | hk | hk⟩ := ht <;> rw [hk] <;> rfl
  unfold askL
  rw [if_neg (by simp [ha.1, hb.1]), if_neg (by simp [ht.1]), if_neg (by simp [ha.2, hb.2]), if_neg (by simp [hn])]
theorem by_has {op : UInt8} (hop : op = 43 ∨ op = 45 ∨ op = 42 ∨ op = 47) {t : Typ} {a b v : Vl} (ht : vN t) (ha : Good a) (hb : Good b) (h : byV op t a b = .ok v) : hasB t v = true := by
  unfold byV at h
  split at h
  · rename_i hc
    injection h with h
    rw [← h]
    exact do_has hop ht (ask_good ht ha hb) hc
  · cases h
def PGood (x : Pr) : Prop := Good x.re ∧ Good x.im
theorem pm_has {op : UInt8} (hop : op = 43 ∨ op = 45 ∨ op = 42 ∨ op = 47) {t : Typ} {x y z : Pr} (ht : vN t) (hx : PGood x) (hy : PGood y) (h : pmV op t x y = .ok z) : pHas t z = true := by
  unfold pmV at h
  cases e1 : byV op t x.re y.re with
  | error e => rw [e1] at h; cases h
  | ok re =>
    rw [e1] at h
    dsimp only at h
    cases e2 : byV op t x.im y.im with
    | error e => rw [e2] at h; cases h
    | ok im =>
      rw [e2] at h
      injection h with h
      rw [← h]
      unfold pHas
      rw [by_has hop ht hx.1 hy.1 e1, by_has hop ht hx.2 hy.2 e2]
      rfl
theorem times_has {t : Typ} {x y z : Pr} (ht : vN t) (hx : PGood x) (hy : PGood y) (h : timesV t x y = .ok z) : pHas t z = true := by
  unfold timesV at h
  cases e1 : byV 42 t x.re y.re with
  | error e => rw [e1] at h; cases h
  | ok p =>
    rw [e1] at h
    dsimp only at h
    cases e2 : byV 42 t x.im y.im with
    | error e => rw [e2] at h; cases h
    | ok q =>
      rw [e2] at h
      dsimp only at h
      cases e3 : byV 42 t x.re y.im with
      | error e => rw [e3] at h; cases h
      | ok r =>
        rw [e3] at h
        dsimp only at h
        cases e4 : byV 42 t x.im y.re with
        | error e => rw [e4] at h; cases h
        | ok s =>
          rw [e4] at h
          dsimp only at h
          cases e5 : byV 45 t p q with
          | error e => rw [e5] at h; cases h
          | ok re =>
            rw [e5] at h
            dsimp only at h
            cases e6 : byV 43 t r s with
            | error e => rw [e6] at h; cases h
            | ok im =>
              rw [e6] at h
              injection h with h
              rw [← h]
              have g1 := has_good ht (by_has (by decide) ht hx.1 hy.1 e1)
              have g2 := has_good ht (by_has (by decide) ht hx.2 hy.2 e2)
              have g3 := has_good ht (by_has (by decide) ht hx.1 hy.2 e3)
              have g4 := has_good ht (by_has (by decide) ht hx.2 hy.1 e4)
              unfold pHas
              rw [by_has (by decide) ht g1 g2 e5, by_has (by decide) ht g3 g4 e6]
              rfl
theorem part_has {op : UInt8} (hop : op = 43 ∨ op = 45 ∨ op = 42 ∨ op = 47) {t : Typ} {a1 a2 b1 b2 d v : Vl} (ht : vN t) (h1 : Good a1) (h2 : Good a2) (h3 : Good b1) (h4 : Good b2) (h5 : Good d) (h : partV op t a1 a2 b1 b2 d = .ok v) : hasB t v = true := by
  unfold partV at h
  cases e1 : byV 42 t a1 a2 with
  | error e => rw [e1] at h; cases h
  | ok p =>
    rw [e1] at h
    dsimp only at h
    cases e2 : byV 42 t b1 b2 with
    | error e => rw [e2] at h; cases h
    | ok q =>
      rw [e2] at h
      dsimp only at h
      cases e3 : byV op t p q with
      | error e => rw [e3] at h; cases h
      | ok s =>
        rw [e3] at h
        dsimp only at h
        have g1 := has_good ht (by_has (by decide) ht h1 h2 e1)
        have g2 := has_good ht (by_has (by decide) ht h3 h4 e2)
        have g3 := has_good ht (by_has hop ht g1 g2 e3)
        exact by_has (by decide) ht g3 h5 h
theorem over_has {t : Typ} {x y z : Pr} (ht : vN t) (hx : PGood x) (hy : PGood y) (h : overV t x y = .ok z) : pHas t z = true := by
  unfold overV at h
  cases e1 : byV 42 t y.re y.re with
  | error e => rw [e1] at h; cases h
  | ok p =>
    rw [e1] at h
    dsimp only at h
    cases e2 : byV 42 t y.im y.im with
    | error e => rw [e2] at h; cases h
    | ok q =>
      rw [e2] at h
      dsimp only at h
      cases e3 : byV 43 t p q with
      | error e => rw [e3] at h; cases h
      | ok d =>
        rw [e3] at h
        dsimp only at h
        have g1 := has_good ht (by_has (by decide) ht hy.1 hy.1 e1)
        have g2 := has_good ht (by_has (by decide) ht hy.2 hy.2 e2)
        have g3 := has_good ht (by_has (by decide) ht g1 g2 e3)
        by_cases hd : d.n = 0
        · rw [if_pos hd] at h
          cases h
        · rw [if_neg hd] at h
          cases e4 : partV 43 t x.re y.re x.im y.im d with
          | error e => rw [e4] at h; cases h
          | ok re =>
            rw [e4] at h
            dsimp only at h
            cases e5 : partV 45 t x.im y.re x.re y.im d with
            | error e => rw [e5] at h; cases h
            | ok im =>
              rw [e5] at h
              injection h with h
              rw [← h]
              unfold pHas
              rw [part_has (by decide) ht hx.1 hy.1 hx.2 hy.2 g3 e4, part_has (by decide) ht hx.2 hy.1 hx.1 hy.2 g3 e5]
              rfl
theorem op_has {op : UInt8} (hop : op = 43 ∨ op = 45 ∨ op = 42 ∨ op = 47) {t : Typ} {x y z : Pr} (ht : vN t) (hx : PGood x) (hy : PGood y) (h : opP op t x y = .ok z) : pHas t z = true := by
  unfold opP at h
  split at h
  · exact pm_has hop ht hx hy h
  · split at h
    · exact times_has ht hx hy h
    · exact over_has ht hx hy h
theorem zero_P {t : Typ} (ht : vN t) : pHas t (zeroP t) = true := by
  have hz : (zeroV t).2 = 0 := by
    unfold zeroV
    rw [if_neg (by rw [ht.1]; decide)]
    obtain ⟨_, hk | hk | hk⟩ := ht
    · rw [if_pos (.inl hk)]
    · rw [if_pos (.inr hk)]
    · rw [if_neg (by omega), if_pos hk]
  unfold pHas zeroP
  rw [zero_has t hz]
  rfl
theorem vn_fix {k p q : Int} (hk : k = 1 ∧ p ≤ 31 ∨ k = 2 ∧ p ≤ 15) (p1 : 1 ≤ p) (q1 : 0 ≤ q) (q2 : q ≤ 31) : vN ⟨k, p, q, 0, false, []⟩ := by
  rcases hk with ⟨rfl, h⟩ | ⟨rfl, h⟩
  · refine ⟨?_, .inl rfl⟩
    unfold validT inR
    simp
    omega
  · refine ⟨?_, .inr (.inl rfl)⟩
    unfold validT inR
    simp
    omega
theorem vn_float {p : Int} (p1 : 1 ≤ p) (p2 : p ≤ 15) : vN ⟨3, p, 0, 0, false, []⟩ := by
  refine ⟨?_, .inr (.inr rfl)⟩
  unfold validT inR
  simp
  omega
theorem fix_vn {op : UInt8} {x y : Typ} {m : Int} (nx : NT x) (ny : NT y) (h3 : x.kind = 3 → x.p ≤ 15 ∧ y.p ≤ 15) (hm : x.kind = 1 ∧ m = 31 ∨ x.kind = 2 ∧ m = 15 ∨ x.kind = 3 ∧ m = 15) : vN (fixT op (x, y, m)) := by
  obtain ⟨xk, p1, p2, q1, q2⟩ := nx
  obtain ⟨_, p3, p4, q3, q4⟩ := ny
  unfold fixT
  dsimp only
  by_cases h : x.kind = 3
  · rw [if_pos h]
    have := h3 h
    exact vn_float (by omega) (by omega)
  · rw [if_neg h]
    have hb : 1 ≤ (rowT op x y m).1 ∧ (rowT op x y m).1 ≤ m ∧ 0 ≤ (rowT op x y m).2 ∧ (rowT op x y m).2 ≤ 31 := by
      unfold rowT
      split
      · unfold sumT
        dsimp only
        omega
      · split
        · unfold mulT
          dsimp only
          omega
        · unfold divT
          dsimp only
          omega
    exact vn_fix (by omega) hb.1 hb.2.2.1 hb.2.2.2
theorem flt_p {t : Typ} (h : vN t) : (fltT t).p ≤ 15 := by
  obtain ⟨hv, hk⟩ := h
  have hn := num_p hv hk
  unfold fltT
  split
  · exact hn.2.2.2.2 (by omega)
  · split
    · show min 15 ((3 * t.p + 9) / 10) ≤ 15
      omega
    · exact hn.2.2.2.2 (by omega)
theorem flt_k {t : Typ} (h : vN t) : (fltT t).kind = 3 := (by
  rw [flt_plain h]
  split <;> rfl)
theorem res_vn {op : UInt8} {a b : Typ} (ha : vN a) (hb : vN b) : vN (resT op a b) := by
  have na := nt_of ha.1 ha.2
  have nb := nt_of hb.1 hb.2
  unfold resT togT
  split
  · exact fix_vn (nt_flt na) (nt_flt nb) (fun _ => ⟨flt_p ha, flt_p hb⟩) (.inr (.inr ⟨flt_k ha, rfl⟩))
  · rename_i h3
    split
    · exact fix_vn (nt_bin na) (nt_bin nb) (fun e => by rw [bin_kind] at e; cases e) (.inl ⟨bin_kind a, rfl⟩)
    · rename_i h1
      have hk2 : a.kind = 2 := by
        have := ha.2
        omega
      exact fix_vn na nb (fun e => by omega) (.inr (.inl ⟨hk2, rfl⟩))
theorem in_vn {op : UInt8} {t : Typ} (h : vN t) : vN (inT op t) := by
  unfold inT
  split
  · exact vn_flt h
  · exact h
theorem dop_has {op : UInt8} (hop : op = 43 ∨ op = 45 ∨ op = 42 ∨ op = 47) {x y : Pr} {ta tb : Typ} (ha : vN ta) (hb : vN tb) (hx : PGood x) (hy : PGood y) : validT (dopV op x y ta tb).2.1 = true ∧ numK (dopV op x y ta tb).2.1.kind = true ∧ pHas (dopV op x y ta tb).2.1 (dopV op x y ta tb).1 = true := by
  unfold dopV
  dsimp only
  have ht := res_vn (op := op) (in_vn (op := op) ha) (in_vn (op := op) hb)
  generalize resT op (inT op ta) (inT op tb) = t at *
  refine ⟨ht.1, by obtain ⟨_, hk | hk | hk⟩ := ht <;> rw [hk] <;> rfl, ?_⟩
  cases hR : opP op t x y with
  | error e => exact zero_P ht
  | ok z => exact op_has hop ht hx hy hR
theorem do_hasP {s : Str} {x y : Pr} {ta tb : Typ} (h : (doPV s x y ta tb).2.2.2 = 0) : validT (doPV s x y ta tb).2.1 = true ∧ numK (doPV s x y ta tb).2.1.kind = true ∧ pHas (doPV s x y ta tb).2.1 (doPV s x y ta tb).1 = true := by
  unfold doPV at h ⊢
  by_cases h0 : askP [x, y] [ta, tb] ≠ 0
  · rw [if_pos h0] at h
    exact absurd h h0
  · rw [if_neg h0] at h ⊢
    obtain ⟨_, ⟨va, hxa⟩, vb, hyb⟩ := ask_vN (Decidable.not_not.1 h0)
    unfold pHas at hxa hyb
    rw [Bool.and_eq_true] at hxa hyb
    have hx : PGood x := ⟨has_good va hxa.1, has_good va hxa.2⟩
    have hy : PGood y := ⟨has_good vb hyb.1, has_good vb hyb.2⟩
    by_cases e1 : s = [43]
    · rw [if_pos e1]
      exact dop_has (by decide) va vb hx hy
    · rw [if_neg e1] at h ⊢
      by_cases e2 : s = [45]
      · rw [if_pos e2]
        exact dop_has (by decide) va vb hx hy
      · rw [if_neg e2] at h ⊢
        by_cases e3 : s = [42]
        · rw [if_pos e3]
          exact dop_has (by decide) va vb hx hy
        · rw [if_neg e3] at h ⊢
          by_cases e4 : s = [47]
          · rw [if_pos e4]
            exact dop_has (by decide) va vb hx hy
          · rw [if_neg e4] at h
            cases h
end Go.Iron.Tryz

/- The pairs' seat: the law of Do, walked. -/
namespace Go.Iron.Tryz
open Go.Proofs Go.RowKit Go.Iron.Tok Go.Iron.Dg

def hasP4 (t : Typ) (x : Pr) : Bool := if (if (if validT t = true then (decide (1 ≤ t.kind) && decide (t.kind ≤ 3)) else false) = true then hasB t x.re else false) = true then hasB t x.im else false
theorem r_HasP (t : Typ) (x : Pr) : CallT Tryz.prog 25 [.agg (typE t), .agg (prE x)] [] (fun o A => o = .ret (bv (hasP4 t x)) ∧ A = []) := by
  have c1 := r_has t x.re
  have c2 := r_has t x.im
  refine callS_body (n := 24) rfl rfl fun w ρ X => ?_
  refine rX rfl ?_
  refine runS_call rfl rfl rfl rfl rfl rfl rfl (r_valid t) ?_
  refine rX rfl ?_
  refine runS_callU rfl rfl (by first | exact .v rfl rfl rfl rfl | exact .o rfl rfl rfl rfl) rfl rfl (by repeat (first | exact .nil | refine .cons (.n rfl) ?_ | refine .cons .o ?_ | refine .cons gok_and ?_)) rfl rfl rfl rfl rfl (fun _ => (r_numeric t.kind)) ?_
  refine rX rfl ?_
  refine runS_callU rfl rfl (by first | exact .v rfl rfl rfl rfl | exact .o rfl rfl rfl rfl) rfl rfl (by repeat (first | exact .nil | refine .cons (.n rfl) ?_ | refine .cons .o ?_ | refine .cons gok_and ?_)) rfl rfl rfl rfl rfl (fun _ => c1) ?_
  refine rX rfl ?_
  refine runS_callU rfl rfl (by first | exact .v rfl rfl rfl rfl | exact .o rfl rfl rfl rfl) rfl rfl (by repeat (first | exact .nil | refine .cons (.n rfl) ?_ | refine .cons .o ?_ | refine .cons gok_and ?_)) rfl rfl rfl rfl rfl (fun _ => c2) ?_
  refine rX rfl ?_
  refine runS_ret (I := inf) 0 rfl (Nat.le_refl _) rfl .nil rfl ⟨?_, rfl⟩
  rfl
def lightB (x y : Pr) (ts : List Typ) : Bool :=
  if (ts.all fun t => decide (t.pic.length ≤ 300)) = true then
    (if (if (if decide (x.re.s.length ≤ 600) = true then decide (x.im.s.length ≤ 600) else false) = true then decide (y.re.s.length ≤ 600) else false) = true then decide (y.im.s.length ≤ 600) else false)
  else false
theorem l_lightP (x y : Pr) (n1 : Option Bool) (ts : List Typ) (hl : ts.length ≤ 100000) : CallT Tryz.prog 21 [.agg (prE x), .agg (prE y), tyS n1 ts] [] (fun o A => o = .ret (bv (lightB x y ts)) ∧ A = []) := by
  unfold lightB
  refine callS_body (n := 47) rfl rfl fun w ρ X => ?_
  refine rX rfl ?_
  refine runS_while (fun (i : Nat) τ ar => (τ 2 = tyS n1 ts ∧ τ 3 = .ptr 0 0 0 ∧ τ 4 = .ptr 1 0 0 ∧ τ 7 = iv i) ∧ ar = [.box 41 (prE x), .box 41 (prE y)] ∧ i ≤ ts.length ∧ (ts.take i).all (fun t => decide (t.pic.length ≤ 300)) = true) (fun i => ts.length - i) 0 ⟨⟨rfl, rfl, rfl, rfl⟩, rfl, Nat.zero_le _, rfl⟩ ?_
  rintro i τ' ar' ⟨⟨g2, g3, g4, g7⟩, rfl, hi, ha⟩ ih
  refine runS_says 2 (by exact g2) (Says.refl _) ?_; refine runS_says 3 (by exact g3) (Says.refl _) ?_; refine runS_says 4 (by exact g4) (Says.refl _) ?_; refine runS_says 7 (by exact g7) (Says.refl _) ?_
  refine rX rfl ?_
  refine runS_cond rfl (fun h => ?_) (fun h => ?_)
  · have hlt : i < ts.length := by simp at h; omega
    have hw1 : IntKind.wrap .i64 ((i : Int) + 1) = ((i + 1 : Nat) : Int) := by rw [w64 (by omega) (by omega)]; rfl
    have hv := ty_get hlt
    refine runS_x (I := inf) (J := jnf) ⟨false, false, [], 0, 0⟩ 9999 rfl (by repeat (first | exact obs_nil | refine obs_draw (by kernel_rfl) ?_ | refine obs_same ?_ | refine obs_and ?_ | refine obs_by (by (simp [inB, hlt] <;> omega)) ?_)) ?_
    refine runS_cond rfl (fun h2 => ?_) (fun h2 => ?_)
    · have h3 : ¬ ts[i].pic.length ≤ 300 := by
        have h4 := of_decide_eq_true h2
        rw [blS] at h4
        rw [← hv]
        exact fun e => absurd h4 (by show ¬ (((ts.getD i ty0).pic.length : Nat) : Int) > 300; omega)
      have hE : (ts.all fun t => decide (t.pic.length ≤ 300)) = false := by
        rw [List.all_eq_false]
        exact ⟨_, List.getElem_mem hlt, by simpa using h3⟩
      rw [hE, if_neg (by decide)]
      refine rX rfl ?_
      refine runS_ret (I := inf) 0 rfl (Nat.le_refl _) rfl .nil rfl ⟨?_, rfl⟩
      rfl
    · have h3 : ts[i].pic.length ≤ 300 := by
        have h4 := of_decide_eq_false h2
        rw [blS] at h4
        rw [← hv]
        have h5 : ¬ (((ts.getD i ty0).pic.length : Nat) : Int) > 300 := h4
        omega
      refine rX rfl ?_
      exact ih (i + 1) _ _ (by omega) ⟨⟨rfl, rfl, rfl, congrArg iv hw1⟩, rfl, by omega, all_take ha hlt (by simpa using h3)⟩
  · have hie : i = ts.length := by simp at h; omega
    subst hie
    rw [List.take_length] at ha
    rw [ha, if_pos rfl]
    refine rX rfl ?_
    refine runS_ret (I := inf) 0 rfl (Nat.le_refl _) rfl .nil rfl ⟨?_, rfl⟩
    refine congrArg (fun z => Out.ret (bv z)) ?_
    have e : ∀ s : Str, decide (((bl (bs s)).length : Int) ≤ 600) = decide (s.length ≤ 600) := fun s => by
      rw [blS, Bool.eq_iff_iff]
      simp
      omega
    show (if (if (if decide (((bl (bs x.re.s)).length : Int) ≤ 600) = true then decide (((bl (bs x.im.s)).length : Int) ≤ 600) else false) = true then decide (((bl (bs y.re.s)).length : Int) ≤ 600) else false) = true then decide (((bl (bs y.im.s)).length : Int) ≤ 600) else false) = _
    rw [e, e, e, e]
theorem l_does (s : Str) (x y : Pr) (ta tb : Typ) : CallT Tryz.prog 4 [sv s, .agg (prE x), .agg (prE y), .agg (typE ta), .agg (typE tb)] [] (fun o A => o = .ret (bv true) ∧ A = []) := by
  have hh := do_hasP (s := s) (x := x) (y := y) (ta := ta) (tb := tb)
  have c1 := p_DoV s x y ta tb
  have c2 := r_DoV s x y ta tb
  generalize doPV s x y ta tb = R at *
  obtain ⟨⟨⟨rk, rn, rq, rs⟩, ⟨ik, im, iq, is⟩⟩, ⟨tk, tp, tq, tn, tv, tc⟩, c, e⟩ := R
  dsimp only at hh c1 c2
  have hP : e = 0 → hasP4 ⟨tk, tp, tq, tn, tv, tc⟩ ⟨⟨rk, rn, rq, rs⟩, ⟨ik, im, iq, is⟩⟩ = true := fun he => by
    obtain ⟨h1, h2, h3⟩ := hh he
    unfold pHas at h3
    rw [Bool.and_eq_true] at h3
    unfold hasP4
    unfold numK at h2
    rw [h1, if_pos rfl, h2, if_pos rfl, h3.1, if_pos rfl, h3.2]
  have c3 := r_HasP ⟨tk, tp, tq, tn, tv, tc⟩ ⟨⟨rk, rn, rq, rs⟩, ⟨ik, im, iq, is⟩⟩
  generalize hasP4 ⟨tk, tp, tq, tn, tv, tc⟩ ⟨⟨rk, rn, rq, rs⟩, ⟨ik, im, iq, is⟩⟩ = hb at *
  clear hh
  have cl := l_lightP x y none [ta, tb] (by simp)
  generalize lightB x y [ta, tb] = lb at *
  refine callS_body (n := 84) rfl rfl fun w ρ X => ?_
  refine rX rfl ?_
  refine runS_tell 4 (tyR [ta, tb]) rfl (m' := 2) rfl (fun j hj => ?_) rfl ?_
  · rcases j with _ | _ | j <;> first | rfl | omega
  refine runS_freeze 23 rfl rfl rfl (fun j hj => ?_) ?_
  · rcases j with _ | _ | j <;> first | rfl | omega
  refine runS_call rfl rfl rfl rfl rfl rfl rfl cl ?_
  refine runS_x (I := inf) (J := jnf) ⟨false, false, [], 0, 0⟩ 9999 rfl (by repeat (first | exact obs_nil | refine obs_draw (by kernel_rfl) ?_ | refine obs_same ?_ | refine obs_and ?_ | refine obs_by (by (simp [inB, blS] <;> omega)) ?_)) ?_
  refine runS_cond rfl (fun h => ?_) (fun h => ?_)
  · refine rX rfl ?_
    refine runS_call rfl rfl rfl rfl rfl rfl rfl l_awakeP ?_
    refine rX rfl ?_
    refine runS_ret (I := inf) 0 rfl (Nat.le_refl _) rfl .nil rfl ⟨?_, rfl⟩
    rfl
  · clear h
    refine rX rfl ?_
    refine runS_call rfl rfl rfl rfl rfl rfl rfl c1 ?_
    refine rX rfl ?_
    refine runS_call rfl rfl rfl rfl rfl rfl rfl c2 ?_
    refine rX rfl ?_
    refine runS_callU rfl rfl (by first | exact .v rfl rfl rfl rfl | exact .o rfl rfl rfl rfl) rfl rfl (by repeat (first | exact .nil | refine .cons (.n rfl) ?_ | refine .cons .o ?_ | refine .cons gok_and ?_)) rfl rfl rfl rfl rfl (fun _ => c3) ?_
    refine rX rfl ?_
    refine runS_callU rfl rfl (by first | exact .v rfl rfl rfl rfl | exact .o rfl rfl rfl rfl) rfl rfl (by repeat (first | exact .nil | refine .cons (.n rfl) ?_ | refine .cons .o ?_ | refine .cons gok_and ?_)) rfl rfl rfl rfl rfl (fun _ => l_awakeP) ?_
    refine rX rfl ?_
    refine runS_ret (I := inf) 0 rfl (Nat.le_refl _) rfl .nil rfl ⟨?_, rfl⟩
    refine congrArg (fun z => Out.ret (bv z)) (?_ : _ = true)
    by_cases he : e = 0
    · simp [hP he, he]
    · simp [he]
end Go.Iron.Tryz
