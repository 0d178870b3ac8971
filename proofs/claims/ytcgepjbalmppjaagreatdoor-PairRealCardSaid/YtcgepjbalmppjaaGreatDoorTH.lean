/- The pairs' seat: the reference's types of results. -/
import Derived.Test.YtcgepjbalmppjaaGreatDoorTF
import Derived.Test.YtcgepjbalmppjaaGreatDoorTG
namespace Go.Iron.Tryz
open Go.Proofs Go.RowKit Go.Iron.Tok Go.Iron.Dg

theorem flt_plain {t : Typ} (hv : vN t) : fltT t = if t.kind = 1 then ⟨3, min 15 ((3 * t.p + 9) / 10), 0, 0, false, []⟩ else ⟨3, t.p, 0, 0, false, []⟩ := by
  obtain ⟨k, p, q, n, vr, pc⟩ := t
  obtain ⟨hv, hk⟩ := hv
  dsimp only at hk
  unfold fltT
  dsimp only
  rcases hk with rfl | rfl | rfl
  · rfl
  · rfl
  · unfold validT at hv
    simp at hv
    obtain ⟨⟨⟨⟨_, h1⟩, h2⟩, h3⟩, h4⟩ := hv
    rw [if_neg (by decide), if_neg (by decide), if_neg (by decide), h1, h2, h3, h4]
theorem r_floatT (t : Typ) (hv : vN t) : CallT Tryz.prog 143 [.agg (typE t)] [] (fun o A => o = .ret (.agg (typE (fltT t))) ∧ A = []) := by
  rw [flt_plain hv]
  obtain ⟨hk, p1, p2, q1, q2⟩ := nt_of hv.1 hv.2
  obtain ⟨k, p, q, n, vr, pc⟩ := t
  dsimp only at hk p1 p2 q1 q2 ⊢
  have hw : (if IntKind.wrap .i64 ((IntKind.wrap .i64 (IntKind.wrap .i64 (3 * p) + 9)).tdiv 10) < 15 then IntKind.wrap .i64 ((IntKind.wrap .i64 (IntKind.wrap .i64 (3 * p) + 9)).tdiv 10) else 15) = min 15 ((3 * p + 9) / 10) := by
    rw [w64 (x := 3 * p) (by omega) (by omega), w64 (x := 3 * p + 9) (by omega) (by omega), tdivI (by omega) (by omega), w64 (by omega) (by omega), minI]
  refine callS_body (n := 16) rfl rfl fun w ρ X => ?_
  refine rX rfl ?_
  refine runS_cond rfl (fun h => ?_) (fun h => ?_)
  · have h1 : k = 1 := by simpa using (show (k == 1) = true from h)
    rw [if_pos h1]
    refine rX rfl ?_
    refine runS_ret (I := inf) 0 rfl (Nat.le_refl _) rfl .nil rfl ⟨?_, rfl⟩
    exact congrArg (fun z => Out.ret (.agg [iv 3, iv z, iv 0, iv 0, bv false, sv []])) hw
  · have h1 : ¬ k = 1 := by simpa using (show (k == 1) = false from h)
    rw [if_neg h1]
    refine rX rfl ?_
    refine runS_ret (I := inf) 0 rfl (Nat.le_refl _) rfl .nil rfl ⟨?_, rfl⟩
    rfl
theorem r_bin (t : Typ) (h : NT t) : CallT Tryz.prog 196 [.agg (typE t)] [] (fun o A => o = .ret (.agg (typE (binT t))) ∧ A = []) := by
  obtain ⟨hk, p1, p2, q1, q2⟩ := h
  obtain ⟨k, p, q, n, vr, pc⟩ := t
  dsimp only at hk p1 p2 q1 q2
  unfold binT
  dsimp only
  refine callS_body (n := 21) rfl rfl fun w ρ X => ?_
  refine rX rfl ?_
  refine runS_cond rfl (fun h => ?_) (fun h => ?_)
  · have h1 : k = 1 := by simpa using (show (k == 1) = true from h)
    rw [if_pos h1]
    refine rX rfl ?_
    refine runS_ret (I := inf) 0 rfl (Nat.le_refl _) rfl .nil rfl ⟨?_, rfl⟩
    rfl
  · have h1 : ¬ k = 1 := by simpa using (show (k == 1) = false from h)
    rw [if_neg h1]
    have e1 : IntKind.wrap .i64 (IntKind.wrap .i64 (10 * p) + 2) = 10 * p + 2 := by rw [w64 (x := 10 * p) (by omega) (by omega), w64 (by omega) (by omega)]
    have e2 : IntKind.wrap .i64 (IntKind.wrap .i64 (10 * q) + 2) = 10 * q + 2 := by rw [w64 (x := 10 * q) (by omega) (by omega), w64 (by omega) (by omega)]
    have e3 : IntKind.wrap .i64 ((10 * p + 2).tdiv 3) = (10 * p + 2) / 3 := by rw [tdivI (by omega) (by omega), w64 (by omega) (by omega)]
    have e4 : IntKind.wrap .i64 ((10 * q + 2).tdiv 3) = (10 * q + 2) / 3 := by rw [tdivI (by omega) (by omega), w64 (by omega) (by omega)]
    have e5 : IntKind.wrap .i64 ((10 * p + 2) / 3 + 1) = (10 * p + 2) / 3 + 1 := w64 (by omega) (by omega)
    refine rX rfl ?_
    refine runS_ret (I := inf) 0 rfl (Nat.le_refl _) rfl .nil rfl ⟨?_, rfl⟩
    refine congrArg Out.ret (congrArg AV.agg ?_)
    show [iv 1, iv (if IntKind.wrap .i64 (IntKind.wrap .i64 ((IntKind.wrap .i64 (IntKind.wrap .i64 (10 * p) + 2)).tdiv 3) + 1) < 31 then IntKind.wrap .i64 (IntKind.wrap .i64 ((IntKind.wrap .i64 (IntKind.wrap .i64 (10 * p) + 2)).tdiv 3) + 1) else 31), iv (if IntKind.wrap .i64 ((IntKind.wrap .i64 (IntKind.wrap .i64 (10 * q) + 2)).tdiv 3) < 31 then IntKind.wrap .i64 ((IntKind.wrap .i64 (IntKind.wrap .i64 (10 * q) + 2)).tdiv 3) else 31), iv 0, bv false, sv []] = _
    rw [e1, e2, e3, e4, e5, minI, minI]
def limT (t : Typ) : Int := if t.kind = 1 then 31 else 15
theorem r_limit (t : Typ) : CallT Tryz.prog 146 [.agg (typE t)] [] (fun o A => o = .ret (iv (limT t)) ∧ A = []) := by
  unfold limT
  refine callS_body (n := 6) rfl rfl fun w ρ X => ?_
  refine rX rfl ?_
  refine runS_cond rfl (fun h => ?_) (fun h => ?_)
  · have h1 : t.kind = 1 := by simpa using (show (t.kind == 1) = true from h)
    rw [if_pos h1]
    refine rX rfl ?_
    refine runS_ret (I := inf) 0 rfl (Nat.le_refl _) rfl .nil rfl ⟨?_, rfl⟩
    rfl
  · have h1 : ¬ t.kind = 1 := by simpa using (show (t.kind == 1) = false from h)
    rw [if_neg h1]
    refine rX rfl ?_
    refine runS_ret (I := inf) 0 rfl (Nat.le_refl _) rfl .nil rfl ⟨?_, rfl⟩
    rfl
theorem bin_kind (a : Typ) : (binT a).kind = 1 := by
  unfold binT
  split
  · assumption
  · rfl
theorem tog_lim (a b : Typ) : ∀ z : Typ × Typ × Int, togT a b = z → z.1.kind ≠ 3 → (a.kind = 1 ∨ a.kind = 2 ∨ a.kind = 3) → (b.kind = 1 ∨ b.kind = 2 ∨ b.kind = 3) → limT z.1 = z.2.2 := by
  intro z hz h3 ha hb
  subst hz
  unfold togT at h3 ⊢
  split
  · rename_i h
    rw [if_pos h] at h3
    exfalso
    apply h3
    show (fltT a).kind = 3
    unfold fltT
    rcases ha with h | h | h
    · rw [if_neg (by rw [h]; decide), if_pos h]
    · rw [if_pos h]
    · rw [if_neg (by rw [h]; decide), if_neg (by rw [h]; decide)]; exact h
  · rename_i h
    split
    · show limT (binT a) = 31
      unfold limT
      rw [if_pos (bin_kind a)]
    · rename_i h1
      show limT a = 15
      unfold limT
      rw [if_neg (fun e => h1 (.inl e))]
theorem r_brought (a b : Typ) (ha : vN a) (hb : vN b) : CallT Tryz.prog 144 [.agg (typE a), .agg (typE b)] [] (fun o A => o = .ret (.tup [.agg (typE (togT a b).1), .agg (typE (togT a b).2.1)]) ∧ A = []) := by
  have na := nt_of ha.1 ha.2
  have nb := nt_of hb.1 hb.2
  unfold togT
  refine callS_body (n := 34) rfl rfl fun w ρ X => ?_
  refine rX rfl ?_
  refine runS_cond rfl (fun h => ?_) (fun h => ?_)
  · have h3 : a.kind = 3 ∨ b.kind = 3 := by
      have h' : (if (a.kind == 3) = true then true else b.kind == 3) = true := h
      by_cases e : a.kind = 3
      · exact .inl e
      · rw [if_neg (by simpa using e)] at h'
        exact .inr (by simpa using h')
    rw [if_pos h3]
    refine rX rfl ?_
    refine runS_draw 3 (by kernel_rfl) (lexj_x (I := inf) (J := jnf) 99 rfl rfl ob0 (lexj_call rfl rfl rfl rfl rfl rfl rfl rfl (r_floatT a ha) (lexj_x (I := inf) (J := jnf) 99 rfl rfl ob0 lexj_nil))) ?_
    refine runS_call rfl rfl rfl rfl rfl rfl rfl (r_floatT b hb) ?_
    refine rX rfl ?_
    refine runS_ret (I := inf) 0 rfl (Nat.le_refl _) rfl .nil rfl ⟨?_, rfl⟩
    rfl
  · have h3 : ¬ (a.kind = 3 ∨ b.kind = 3) := by
      have h' : (if (a.kind == 3) = true then true else b.kind == 3) = false := h
      by_cases e : a.kind = 3
      · rw [if_pos (by simpa using e)] at h'
        cases h'
      · rw [if_neg (by simpa using e)] at h'
        rintro (h | h)
        · exact e h
        · exact absurd h (by simpa using h')
    rw [if_neg h3]
    refine rX rfl ?_
    refine runS_cond rfl (fun h => ?_) (fun h => ?_)
    · have h1 : a.kind = 1 ∨ b.kind = 1 := by
        have h' : (if (a.kind == 1) = true then true else b.kind == 1) = true := h
        by_cases e : a.kind = 1
        · exact .inl e
        · rw [if_neg (by simpa using e)] at h'
          exact .inr (by simpa using h')
      rw [if_pos h1]
      refine rX rfl ?_
      refine runS_draw 3 (by kernel_rfl) (lexj_x (I := inf) (J := jnf) 99 rfl rfl ob0 (lexj_call rfl rfl rfl rfl rfl rfl rfl rfl (r_bin a na) (lexj_x (I := inf) (J := jnf) 99 rfl rfl ob0 lexj_nil))) ?_
      refine runS_call rfl rfl rfl rfl rfl rfl rfl (r_bin b nb) ?_
      refine rX rfl ?_
      refine runS_ret (I := inf) 0 rfl (Nat.le_refl _) rfl .nil rfl ⟨?_, rfl⟩
      rfl
    · have h1 : ¬ (a.kind = 1 ∨ b.kind = 1) := by
        have h' : (if (a.kind == 1) = true then true else b.kind == 1) = false := h
        by_cases e : a.kind = 1
        · rw [if_pos (by simpa using e)] at h'
          cases h'
        · rw [if_neg (by simpa using e)] at h'
          rintro (h | h)
          · exact e h
          · exact absurd h (by simpa using h')
      rw [if_neg h1]
      refine rX rfl ?_
      refine runS_drawG (ch := []) (A2 := fun _ => []) 4 [2, 3] (fun z => [.box 25 (typE a), .box 25 (typE b), .box 25 (cond (z.getD 0 false) (typE a) (typE ty0)), .box 25 (cond (z.getD 1 false) (typE b) (typE ty0))]) none (c := 9) jnfI.draw (by kernel_rfl) rfl (lexg_g (I := inf) (J := jnf) none ⟨⟨⟨_, rfl, ob0⟩, oi⟩, oj⟩ rfl rfl rfl rfl (lexg_g (I := inf) (J := jnf) none ⟨⟨⟨_, rfl, ob0⟩, oi⟩, oj⟩ rfl rfl rfl rfl (lexg_g (I := inf) (J := jnf) (some .store) ⟨⟨⟨_, rfl, ob0⟩, oi⟩, .inl rfl⟩ rfl rfl rfl rfl (lexg_g (I := inf) (J := jnf) (some .store) ⟨⟨⟨_, rfl, ob0⟩, .inl rfl⟩, (by first | exact .inl (by decide +kernel) | exact .inr ⟨⟨_, rfl, ob0⟩, .inl rfl⟩)⟩ rfl rfl rfl rfl lexg_nil)))) rfl (fun _ => ?_) (fun h => by cases h)
      refine rX rfl ?_
      refine runS_ret (I := inf) 0 rfl (Nat.le_refl _) rfl .nil rfl ⟨?_, rfl⟩
      rfl
theorem r_asked2 (n1 : Option Bool) (ts : List Typ) (hl : ts.length ≤ 100000) (hv : ∀ t ∈ ts, vN t) : CallT Tryz.prog 142 [tyS n1 ts] [] (fun o A => o = .ret (iv 0) ∧ A = []) := by
  refine callS_body (n := 30) rfl rfl fun w ρ X => ?_
  refine rX rfl ?_
  refine runS_while (fun (i : Nat) τ ar => (τ 0 = tyS n1 ts ∧ τ 3 = iv i) ∧ ar = [] ∧ i ≤ ts.length) (fun i => ts.length - i) 0 ⟨⟨rfl, rfl⟩, rfl, Nat.zero_le _⟩ ?_
  rintro i τ' ar' ⟨⟨g0, g3⟩, rfl, hi⟩ ih
  refine runS_says 0 (by exact g0) (Says.refl _) ?_; refine runS_says 3 (by exact g3) (Says.refl _) ?_
  refine rX rfl ?_
  refine runS_cond rfl (fun h => ?_) (fun h => ?_)
  · have hlt : i < ts.length := by simp at h; omega
    have hw1 : IntKind.wrap .i64 ((i : Int) + 1) = ((i + 1 : Nat) : Int) := by rw [w64 (by omega) (by omega)]; rfl
    have hvt := (hv _ (List.getElem_mem hlt)).1
    have hd := r_valid (ts.getD i ty0)
    rw [ty_get hlt, hvt, ← ty_get hlt] at hd
    refine runS_x (I := inf) (J := jnf) ⟨false, false, [], 0, 0⟩ 9999 rfl (by repeat (first | exact obs_nil | refine obs_draw (by kernel_rfl) ?_ | refine obs_same ?_ | refine obs_and ?_ | refine obs_by (by (simp [inB, hlt] <;> omega)) ?_)) ?_
    refine runS_call rfl rfl rfl rfl rfl rfl rfl hd ?_
    refine rX rfl ?_
    refine runS_cond rfl (fun h => by cases h) (fun h => ?_)
    refine rX rfl ?_
    exact ih (i + 1) _ _ (by omega) ⟨⟨rfl, congrArg iv hw1⟩, rfl, by omega⟩
  · clear ih hi g0 g3 h
    refine rX rfl ?_
    refine runS_while (fun (i : Nat) τ ar => (τ 0 = tyS n1 ts ∧ τ 4 = iv i) ∧ ar = [] ∧ i ≤ ts.length) (fun i => ts.length - i) 0 ⟨⟨rfl, rfl⟩, rfl, Nat.zero_le _⟩ ?_
    rintro i τ' ar' ⟨⟨g0, g3⟩, rfl, hi⟩ ih
    refine runS_says 0 (by exact g0) (Says.refl _) ?_; refine runS_says 4 (by exact g3) (Says.refl _) ?_
    refine rX rfl ?_
    refine runS_cond rfl (fun h => ?_) (fun h => ?_)
    · have hlt : i < ts.length := by simp at h; omega
      have hw1 : IntKind.wrap .i64 ((i : Int) + 1) = ((i + 1 : Nat) : Int) := by rw [w64 (by omega) (by omega)]; rfl
      have hvt := (hv _ (List.getElem_mem hlt)).2
      have hk : (decide (1 ≤ ts[i].kind) && decide (ts[i].kind ≤ 3)) = true := by simp; omega
      have hd := r_numeric (ts.getD i ty0).kind
      rw [ty_get hlt, hk, ← ty_get hlt] at hd
      refine runS_x (I := inf) (J := jnf) ⟨false, false, [], 0, 0⟩ 9999 rfl (by repeat (first | exact obs_nil | refine obs_draw (by kernel_rfl) ?_ | refine obs_same ?_ | refine obs_and ?_ | refine obs_by (by (simp [inB, hlt] <;> omega)) ?_)) ?_
      refine runS_call rfl rfl rfl rfl rfl rfl rfl hd ?_
      refine rX rfl ?_
      refine runS_cond rfl (fun h => by cases h) (fun h => ?_)
      refine rX rfl ?_
      exact ih (i + 1) _ _ (by omega) ⟨⟨rfl, congrArg iv hw1⟩, rfl, by omega⟩
    · refine rX rfl ?_
      refine runS_ret (I := inf) 0 rfl (Nat.le_refl _) rfl .nil rfl ⟨?_, rfl⟩
      rfl
theorem r_sum (a b : Typ) (ha : vN a) (hb : vN b) : CallT Tryz.prog 145 [.agg (typE a), .agg (typE b), iv 1] [] (fun o A => o = .ret (.agg (typE (resT 43 a b))) ∧ A = []) := by
  have na := nt_of ha.1 ha.2
  have nb := nt_of hb.1 hb.2
  obtain ⟨nx, ny, hm, hr⟩ := tog_ok na nb (op := 43)
  have hlim := tog_lim a b _ rfl
  have ht := r_brought a b ha hb
  unfold resT
  generalize togT a b = z at *
  obtain ⟨x, y, m⟩ := z
  dsimp only at *
  refine callS_body (n := 51) rfl rfl fun w ρ X => ?_
  refine rX rfl ?_
  refine runS_call rfl rfl rfl rfl rfl rfl rfl ht ?_
  refine rX rfl ?_
  refine runS_cond rfl (fun h => ?_) (fun h => ?_)
  · have h3 : x.kind = 3 := by simpa using (show (x.kind == 3) = true from h)
    unfold fixT
    rw [if_pos h3]
    refine rX rfl ?_
    refine runS_ret (I := inf) 0 rfl (Nat.le_refl _) rfl .nil rfl ⟨?_, rfl⟩
    refine congrArg (fun z => Out.ret (.agg [iv 3, iv z, iv 0, iv 0, bv false, sv []])) ?_
    exact maxI x.p y.p
  · have h3 : ¬ x.kind = 3 := by simpa using (show (x.kind == 3) = false from h)
    have hl := hlim h3 ha.2 hb.2
    have hli := r_limit x
    rw [hl] at hli
    unfold fixT
    rw [if_neg h3, hr]
    dsimp only
    rw [if_pos (.inl rfl)]
    obtain ⟨_, p1, p2, q1, q2⟩ := nx
    obtain ⟨_, p3, p4, q3, q4⟩ := ny
    obtain ⟨ak, ap, aq, an, avr, ac⟩ := x
    obtain ⟨bk, bp, bq, bn, bvr, bc⟩ := y
    dsimp only at p1 p2 q1 q2 p3 p4 q3 q4
    have hQ : (if bq > aq then bq else aq) = max aq bq := maxI aq bq
    have hR : (if (if (IntKind.wrap .i64 (IntKind.wrap .i64 ((if (IntKind.wrap .i64 (bp - bq)) > (IntKind.wrap .i64 (ap - aq)) then (IntKind.wrap .i64 (bp - bq)) else (IntKind.wrap .i64 (ap - aq))) + (if bq > aq then bq else aq)) + 1)) > 1 then (IntKind.wrap .i64 (IntKind.wrap .i64 ((if (IntKind.wrap .i64 (bp - bq)) > (IntKind.wrap .i64 (ap - aq)) then (IntKind.wrap .i64 (bp - bq)) else (IntKind.wrap .i64 (ap - aq))) + (if bq > aq then bq else aq)) + 1)) else 1) < m then (if (IntKind.wrap .i64 (IntKind.wrap .i64 ((if (IntKind.wrap .i64 (bp - bq)) > (IntKind.wrap .i64 (ap - aq)) then (IntKind.wrap .i64 (bp - bq)) else (IntKind.wrap .i64 (ap - aq))) + (if bq > aq then bq else aq)) + 1)) > 1 then (IntKind.wrap .i64 (IntKind.wrap .i64 ((if (IntKind.wrap .i64 (bp - bq)) > (IntKind.wrap .i64 (ap - aq)) then (IntKind.wrap .i64 (bp - bq)) else (IntKind.wrap .i64 (ap - aq))) + (if bq > aq then bq else aq)) + 1)) else 1) else m) = min m (max 1 (max (ap - aq) (bp - bq) + max aq bq + 1)) := by
      rw [w64 (x := bp - bq) (by omega) (by omega), w64 (x := ap - aq) (by omega) (by omega), maxI (ap - aq) (bp - bq), maxI aq bq]
      rw [w64 (x := max (ap - aq) (bp - bq) + max aq bq) (by omega) (by omega), w64 (x := max (ap - aq) (bp - bq) + max aq bq + 1) (by omega) (by omega), maxI, minI]
    unfold sumT
    dsimp only
    rw [← hR, ← hQ]
    clear hR hQ hr hlim
    refine rX rfl ?_
    refine runS_drawG (ch := []) (A2 := fun _ => []) 24 [23] (fun z => [.box 25 [iv ak, iv ap, iv aq, iv an, bv avr, sv ac], .box 25 [iv bk, iv bp, iv bq, iv bn, bv bvr, sv bc], .box 25 (cond (z.getD 0 false) [iv ak, iv (if (if (IntKind.wrap .i64 (IntKind.wrap .i64 ((if (IntKind.wrap .i64 (bp - bq)) > (IntKind.wrap .i64 (ap - aq)) then (IntKind.wrap .i64 (bp - bq)) else (IntKind.wrap .i64 (ap - aq))) + (if bq > aq then bq else aq)) + 1)) > 1 then (IntKind.wrap .i64 (IntKind.wrap .i64 ((if (IntKind.wrap .i64 (bp - bq)) > (IntKind.wrap .i64 (ap - aq)) then (IntKind.wrap .i64 (bp - bq)) else (IntKind.wrap .i64 (ap - aq))) + (if bq > aq then bq else aq)) + 1)) else 1) < m then (if (IntKind.wrap .i64 (IntKind.wrap .i64 ((if (IntKind.wrap .i64 (bp - bq)) > (IntKind.wrap .i64 (ap - aq)) then (IntKind.wrap .i64 (bp - bq)) else (IntKind.wrap .i64 (ap - aq))) + (if bq > aq then bq else aq)) + 1)) > 1 then (IntKind.wrap .i64 (IntKind.wrap .i64 ((if (IntKind.wrap .i64 (bp - bq)) > (IntKind.wrap .i64 (ap - aq)) then (IntKind.wrap .i64 (bp - bq)) else (IntKind.wrap .i64 (ap - aq))) + (if bq > aq then bq else aq)) + 1)) else 1) else m), iv (if bq > aq then bq else aq), iv 0, bv false, sv []] (typE ty0))]) none (c := 9) jnfI.draw (by kernel_rfl) rfl (lexg_g (I := inf) (J := jnf) none ⟨⟨_, rfl, ob0⟩, oi⟩ rfl rfl rfl rfl (lexg_g (I := inf) (J := jnf) none ⟨⟨_, rfl, ob0⟩, oi⟩ rfl rfl rfl rfl (lexg_g (I := inf) (J := jnf) none ⟨⟨_, rfl, ob0⟩, oi⟩ rfl rfl rfl rfl (lexg_call rfl rfl rfl rfl rfl rfl rfl rfl rfl hli (lexg_g (I := inf) (J := jnf) none ⟨⟨_, rfl, ob0⟩, oi⟩ rfl rfl rfl rfl (lexg_g (I := inf) (J := jnf) none ⟨⟨_, rfl, ob0⟩, oi⟩ rfl rfl rfl rfl (lexg_g (I := inf) (J := jnf) none ⟨⟨_, rfl, ob0⟩, oi⟩ rfl rfl rfl rfl (lexg_g (I := inf) (J := jnf) none ⟨⟨_, rfl, ob0⟩, oi⟩ rfl rfl rfl rfl (lexg_g (I := inf) (J := jnf) none ⟨⟨_, rfl, ob0⟩, oi⟩ rfl rfl rfl rfl (lexg_g (I := inf) (J := jnf) none ⟨⟨_, rfl, ob0⟩, oi⟩ rfl rfl rfl rfl (lexg_g (I := inf) (J := jnf) none ⟨⟨_, rfl, ob0⟩, oi⟩ rfl rfl rfl rfl (lexg_g (I := inf) (J := jnf) none ⟨⟨_, rfl, ob0⟩, oi⟩ rfl rfl rfl rfl (lexg_g (I := inf) (J := jnf) none ⟨⟨_, rfl, ob0⟩, oi⟩ rfl rfl rfl rfl (lexg_g (I := inf) (J := jnf) none ⟨⟨_, rfl, ob0⟩, oi⟩ rfl rfl rfl rfl (lexg_g (I := inf) (J := jnf) none ⟨⟨_, rfl, ob0⟩, oi⟩ rfl rfl rfl rfl (lexg_g (I := inf) (J := jnf) none ⟨⟨_, rfl, ob0⟩, oi⟩ rfl rfl rfl rfl (lexg_g (I := inf) (J := jnf) none ⟨⟨_, rfl, ob0⟩, oi⟩ rfl rfl rfl rfl (lexg_g (I := inf) (J := jnf) none ⟨⟨_, rfl, ob0⟩, oi⟩ rfl rfl rfl rfl (lexg_g (I := inf) (J := jnf) none ⟨⟨_, rfl, ob0⟩, oi⟩ rfl rfl rfl rfl (lexg_g (I := inf) (J := jnf) none ⟨⟨_, rfl, ob0⟩, oi⟩ rfl rfl rfl rfl (lexg_g (I := inf) (J := jnf) none ⟨⟨_, rfl, ob0⟩, oi⟩ rfl rfl rfl rfl (lexg_g (I := inf) (J := jnf) none ⟨⟨_, rfl, ob0⟩, oi⟩ rfl rfl rfl rfl (lexg_g (I := inf) (J := jnf) none ⟨⟨_, rfl, ob0⟩, oi⟩ rfl rfl rfl rfl (lexg_g (I := inf) (J := jnf) (some .store) ⟨⟨_, rfl, ob0⟩, .inl rfl⟩ rfl rfl rfl rfl lexg_nil)))))))))))))))))))))))) rfl (fun _ => ?_) (fun h => by cases h)
    refine rX rfl ?_
    refine runS_ret (I := inf) 0 rfl (Nat.le_refl _) rfl .nil rfl ⟨?_, rfl⟩
    rfl
end Go.Iron.Tryz

/- The pairs' seat: the reference's Float and Result. -/
namespace Go.Iron.Tryz
open Go.Proofs Go.RowKit Go.Iron.Tok Go.Iron.Dg

theorem r_Result43 (a b : Typ) (ha : vN a) (hb : vN b) : CallT Tryz.prog 75 [sv [43], .agg (typE a), .agg (typE b)] [] (fun o A => o = .ret (.tup [.agg (typE (resT 43 a b)), iv 0]) ∧ A = []) := by
  have na := nt_of ha.1 ha.2
  have nb := nt_of hb.1 hb.2
  have hs := r_sum a b ha hb
  have he : resT 43 a b = resT 43 a b := rfl
  rw [he]
  generalize resT 43 a b = t at *
  obtain ⟨nx, ny, hm, hr⟩ := tog_ok na nb (op := 43)
  have hlim := tog_lim a b _ rfl
  have ht := r_brought a b ha hb
  generalize togT a b = z at *
  obtain ⟨x, y, m⟩ := z
  dsimp only at *
  refine callS_body (n := 95) rfl rfl fun w ρ X => ?_
  refine rX rfl ?_
  refine runS_tell 3 (tyR [a, b]) rfl (m' := 2) rfl (fun j hj => ?_) rfl ?_
  · rcases j with _ | _ | j <;> first | rfl | omega
  refine runS_freeze 13 rfl rfl rfl (fun j hj => ?_) ?_
  · rcases j with _ | _ | j <;> first | rfl | omega
  refine runS_call rfl rfl rfl rfl rfl rfl rfl (r_asked2 none [a, b] (by simp) (by intro t ht; simp at ht; rcases ht with rfl | rfl; exact ha; exact hb)) ?_
  refine rX rfl ?_
  refine runS_cond rfl (fun h => by cases h) (fun h => ?_)
  refine rX rfl ?_
  refine runS_call rfl rfl rfl rfl rfl rfl rfl ht ?_
  refine rX rfl ?_
  refine runS_cond rfl (fun h => ?_) (fun h => by rw [show (ByteArray.mk #[43]) = bs [43] from rfl, bs_beq] at h; cases h)
  refine rX rfl ?_
  refine runS_cond rfl (fun h => ?_) (fun h => by rw [show (ByteArray.mk #[43]) = bs [43] from rfl, bs_beq] at h; cases h)
  refine rX rfl ?_
  refine runS_call rfl rfl rfl rfl rfl rfl rfl hs ?_
  refine rX rfl ?_
  refine runS_ret (I := inf) 0 rfl (Nat.le_refl _) rfl .nil rfl ⟨?_, rfl⟩
  rfl
theorem r_Result45 (a b : Typ) (ha : vN a) (hb : vN b) : CallT Tryz.prog 75 [sv [45], .agg (typE a), .agg (typE b)] [] (fun o A => o = .ret (.tup [.agg (typE (resT 45 a b)), iv 0]) ∧ A = []) := by
  have na := nt_of ha.1 ha.2
  have nb := nt_of hb.1 hb.2
  have hs := r_sum a b ha hb
  have he : resT 45 a b = resT 43 a b := rfl
  rw [he]
  generalize resT 43 a b = t at *
  obtain ⟨nx, ny, hm, hr⟩ := tog_ok na nb (op := 45)
  have hlim := tog_lim a b _ rfl
  have ht := r_brought a b ha hb
  generalize togT a b = z at *
  obtain ⟨x, y, m⟩ := z
  dsimp only at *
  refine callS_body (n := 95) rfl rfl fun w ρ X => ?_
  refine rX rfl ?_
  refine runS_tell 3 (tyR [a, b]) rfl (m' := 2) rfl (fun j hj => ?_) rfl ?_
  · rcases j with _ | _ | j <;> first | rfl | omega
  refine runS_freeze 13 rfl rfl rfl (fun j hj => ?_) ?_
  · rcases j with _ | _ | j <;> first | rfl | omega
  refine runS_call rfl rfl rfl rfl rfl rfl rfl (r_asked2 none [a, b] (by simp) (by intro t ht; simp at ht; rcases ht with rfl | rfl; exact ha; exact hb)) ?_
  refine rX rfl ?_
  refine runS_cond rfl (fun h => by cases h) (fun h => ?_)
  refine rX rfl ?_
  refine runS_call rfl rfl rfl rfl rfl rfl rfl ht ?_
  refine rX rfl ?_
  refine runS_cond rfl (fun h => by rw [show (ByteArray.mk #[43]) = bs [43] from rfl, bs_beq] at h; cases h) (fun h => ?_)
  refine rX rfl ?_
  refine runS_cond rfl (fun h => ?_) (fun h => by rw [show (ByteArray.mk #[45]) = bs [45] from rfl, bs_beq] at h; cases h)
  refine rX rfl ?_
  refine runS_call rfl rfl rfl rfl rfl rfl rfl hs ?_
  refine rX rfl ?_
  refine runS_ret (I := inf) 0 rfl (Nat.le_refl _) rfl .nil rfl ⟨?_, rfl⟩
  rfl
theorem r_Result42 (a b : Typ) (ha : vN a) (hb : vN b) : CallT Tryz.prog 75 [sv [42], .agg (typE a), .agg (typE b)] [] (fun o A => o = .ret (.tup [.agg (typE (resT 42 a b)), iv 0]) ∧ A = []) := by
  have na := nt_of ha.1 ha.2
  have nb := nt_of hb.1 hb.2
  obtain ⟨nx, ny, hm, hr⟩ := tog_ok na nb (op := 42)
  have hlim := tog_lim a b _ rfl
  have ht := r_brought a b ha hb
  unfold resT
  generalize togT a b = z at *
  obtain ⟨x, y, m⟩ := z
  dsimp only at *
  refine callS_body (n := 95) rfl rfl fun w ρ X => ?_
  refine rX rfl ?_
  refine runS_tell 3 (tyR [a, b]) rfl (m' := 2) rfl (fun j hj => ?_) rfl ?_
  · rcases j with _ | _ | j <;> first | rfl | omega
  refine runS_freeze 13 rfl rfl rfl (fun j hj => ?_) ?_
  · rcases j with _ | _ | j <;> first | rfl | omega
  refine runS_call rfl rfl rfl rfl rfl rfl rfl (r_asked2 none [a, b] (by simp) (by intro t ht; simp at ht; rcases ht with rfl | rfl; exact ha; exact hb)) ?_
  refine rX rfl ?_
  refine runS_cond rfl (fun h => by cases h) (fun h => ?_)
  refine rX rfl ?_
  refine runS_call rfl rfl rfl rfl rfl rfl rfl ht ?_
  refine rX rfl ?_
  refine runS_cond rfl (fun h => by rw [show (ByteArray.mk #[43]) = bs [43] from rfl, bs_beq] at h; cases h) (fun h => ?_)
  refine rX rfl ?_
  refine runS_cond rfl (fun h => by rw [show (ByteArray.mk #[45]) = bs [45] from rfl, bs_beq] at h; cases h) (fun h => ?_)
  refine rX rfl ?_
  refine runS_cond rfl (fun h => by rw [show (ByteArray.mk #[42,42]) = bs [42,42] from rfl, bs_beq] at h; cases h) (fun h => ?_)
  refine rX rfl ?_
  refine runS_cond rfl (fun h => ?_) (fun h => by rw [show (ByteArray.mk #[42]) = bs [42] from rfl, bs_beq] at h; cases h)
  refine rX rfl ?_
  refine runS_cond rfl (fun h => ?_) (fun h => by rw [show (ByteArray.mk #[42]) = bs [42] from rfl, bs_beq] at h; cases h)
  refine rX rfl ?_
  refine runS_cond rfl (fun h => ?_) (fun h => ?_)
  · have h3 : x.kind = 3 := by simpa using (show (x.kind == 3) = true from h)
    unfold fixT
    rw [if_pos h3]
    refine rX rfl ?_
    refine runS_ret (I := inf) 0 rfl (Nat.le_refl _) rfl .nil rfl ⟨?_, rfl⟩
    refine congrArg (fun z => Out.ret (.tup [.agg [iv 3, iv z, iv 0, iv 0, bv false, sv []], iv 0])) ?_
    exact maxI x.p y.p
  · have h3 : ¬ x.kind = 3 := by simpa using (show (x.kind == 3) = false from h)
    have hl := hlim h3 ha.2 hb.2
    have hli := r_limit x
    rw [hl] at hli
    unfold fixT
    rw [if_neg h3, hr]
    dsimp only
    obtain ⟨_, p1, p2, q1, q2⟩ := nx
    obtain ⟨_, p3, p4, q3, q4⟩ := ny
    obtain ⟨ak, ap, aq, an, avr, ac⟩ := x
    obtain ⟨bk, bp, bq, bn, bvr, bc⟩ := y
    dsimp only at p1 p2 q1 q2 p3 p4 q3 q4
    refine rX rfl ?_
    refine runS_cond rfl (fun h => ?_) (fun h => by rw [show (ByteArray.mk #[42]) = bs [42] from rfl, bs_beq] at h; cases h)
    refine rX rfl ?_
    have hP : (if IntKind.wrap .i64 (IntKind.wrap .i64 (ap + bp) + 1) < m then IntKind.wrap .i64 (IntKind.wrap .i64 (ap + bp) + 1) else m) = min m (ap + bp + 1) := by rw [w64 (x := ap + bp) (by omega) (by omega), w64 (x := ap + bp + 1) (by omega) (by omega), minI]
    have hQ : (if IntKind.wrap .i64 (aq + bq) < 31 then IntKind.wrap .i64 (aq + bq) else 31) = min 31 (aq + bq) := by rw [w64 (x := aq + bq) (by omega) (by omega), minI]
    show RunS _ _ _ _ _ (fun o A => o = .ret (.tup [.agg [iv ak, iv (min m (ap + bp + 1)), iv (min 31 (aq + bq)), iv 0, bv false, sv []], iv 0]) ∧ A = [])
    rw [← hP, ← hQ]
    refine runS_drawG (ch := []) (A2 := fun _ => []) 20 [18] (fun z => [.box 25 (typE a), .box 25 (typE b), .box 25 (cond (z.getD 0 false) [iv ak, iv (if IntKind.wrap .i64 (IntKind.wrap .i64 (ap + bp) + 1) < m then IntKind.wrap .i64 (IntKind.wrap .i64 (ap + bp) + 1) else m), iv (if IntKind.wrap .i64 (aq + bq) < 31 then IntKind.wrap .i64 (aq + bq) else 31), iv 0, bv false, sv []] (typE ty0)), .gone, .box 25 [iv ak, iv ap, iv aq, iv an, bv avr, sv ac], .box 25 [iv bk, iv bp, iv bq, iv bn, bv bvr, sv bc]]) none (c := 9) jnfI.draw (by kernel_rfl) rfl (lexg_g (I := inf) (J := jnf) none ⟨⟨_, rfl, ob0⟩, oi⟩ rfl rfl rfl rfl (lexg_g (I := inf) (J := jnf) none ⟨⟨_, rfl, ob0⟩, oi⟩ rfl rfl rfl rfl (lexg_g (I := inf) (J := jnf) none ⟨⟨_, rfl, ob0⟩, oi⟩ rfl rfl rfl rfl (lexg_call rfl rfl rfl rfl rfl rfl rfl rfl rfl hli (lexg_g (I := inf) (J := jnf) none ⟨⟨_, rfl, ob0⟩, oi⟩ rfl rfl rfl rfl (lexg_g (I := inf) (J := jnf) none ⟨⟨_, rfl, ob0⟩, oi⟩ rfl rfl rfl rfl (lexg_g (I := inf) (J := jnf) none ⟨⟨_, rfl, ob0⟩, oi⟩ rfl rfl rfl rfl (lexg_g (I := inf) (J := jnf) none ⟨⟨_, rfl, ob0⟩, oi⟩ rfl rfl rfl rfl (lexg_g (I := inf) (J := jnf) none ⟨⟨_, rfl, ob0⟩, oi⟩ rfl rfl rfl rfl (lexg_g (I := inf) (J := jnf) none ⟨⟨_, rfl, ob0⟩, oi⟩ rfl rfl rfl rfl (lexg_g (I := inf) (J := jnf) none ⟨⟨_, rfl, ob0⟩, oi⟩ rfl rfl rfl rfl (lexg_g (I := inf) (J := jnf) none ⟨⟨_, rfl, ob0⟩, oi⟩ rfl rfl rfl rfl (lexg_g (I := inf) (J := jnf) none ⟨⟨_, rfl, ob0⟩, oi⟩ rfl rfl rfl rfl (lexg_g (I := inf) (J := jnf) none ⟨⟨_, rfl, ob0⟩, oi⟩ rfl rfl rfl rfl (lexg_g (I := inf) (J := jnf) none ⟨⟨_, rfl, ob0⟩, oi⟩ rfl rfl rfl rfl (lexg_g (I := inf) (J := jnf) none ⟨⟨_, rfl, ob0⟩, oi⟩ rfl rfl rfl rfl (lexg_g (I := inf) (J := jnf) none ⟨⟨_, rfl, ob0⟩, oi⟩ rfl rfl rfl rfl (lexg_g (I := inf) (J := jnf) none ⟨⟨_, rfl, ob0⟩, oi⟩ rfl rfl rfl rfl (lexg_g (I := inf) (J := jnf) (some .store) ⟨⟨_, rfl, ob0⟩, .inl rfl⟩ rfl rfl rfl rfl (lexg_g (I := inf) (J := jnf) none ⟨⟨_, rfl, ob0⟩, oi⟩ rfl rfl rfl rfl lexg_nil)))))))))))))))))))) rfl (fun _ => ?_) (fun h => by cases h)
    refine rX rfl ?_
    refine runS_ret (I := inf) 0 rfl (Nat.le_refl _) rfl .nil rfl ⟨?_, rfl⟩
    rfl
end Go.Iron.Tryz

/- The pairs' seat: what the reference asks of pairs with their types. -/
namespace Go.Iron.Tryz
open Go.Proofs Go.RowKit Go.Iron.Tok Go.Iron.Dg

theorem has_kind {t : Typ} {v : Vl} (h : hasB t v = true) : t.kind = v.kind := by
  unfold hasB at h
  simp at h
  exact h.1.2
end Go.Iron.Tryz

/- The pairs' seat: the reference's steps. -/
namespace Go.Iron.Tryz
open Go.Proofs Go.RowKit Go.Iron.Tok Go.Iron.Dg

end Go.Iron.Tryz

/- The pairs' seat: the reference's Do. -/
namespace Go.Iron.Tryz
open Go.Proofs Go.RowKit Go.Iron.Tok Go.Iron.Dg

end Go.Iron.Tryz

/- The pairs' seat: the reference's quotients of pairs. -/
namespace Go.Iron.Tryz
open Go.Proofs Go.RowKit Go.Iron.Tok Go.Iron.Dg

end Go.Iron.Tryz

/- The pairs' seat: what an operation tells is of its type. -/
namespace Go.Iron.Tryz
open Go.Proofs Go.RowKit Go.Iron.Tok Go.Iron.Dg

theorem normD_ok (n : Nat) (q : Int) (h : n ≠ 0) : (normD n q).1 ≠ 0 ∧ (normD n q).1 % 10 ≠ 0 ∧ (normD n q).1 ≤ n := by
  by_cases h0 : n % 10 = 0
  · rw [normD_step h h0]
    obtain ⟨a, b, c⟩ := normD_ok (n / 10) (q + 1) (by omega)
    exact ⟨a, b, by omega⟩
  · rw [normD_end h0]
    exact ⟨h, h0, Nat.le_refl _⟩
termination_by n
decreasing_by omega
theorem flt_has {num den P : Nat} {k : Int} (hP : 1 ≤ P) (hd : 0 < den) (hk : IsK num den P k) : (fltR num den k).1 = 0 ∨ (fltR num den k).1 % 10 ≠ 0 ∧ (frm (fltR num den k).1).length ≤ P := by
  obtain ⟨_, h2⟩ := hk
  unfold fltR
  have hD : 0 < den * e10 (-k) := Nat.mul_pos hd (e10_pos _)
  have hlt : num * (10 * e10 k) / (den * e10 (-k)) < 10 ^ (P + 1) := by
    rw [show num * (10 * e10 k) = num * e10 k * 10 by ac_rfl, Nat.div_lt_iff_lt_mul hD, Nat.pow_succ, show 10 ^ P * 10 * (den * e10 (-k)) = 10 ^ P * (den * e10 (-k)) * 10 by ac_rfl]
    exact Nat.mul_lt_mul_of_pos_right h2 (by decide)
  generalize num * (10 * e10 k) / (den * e10 (-k)) = D at *
  have hr : rndD D ≤ 10 ^ P := by
    rw [Nat.pow_succ] at hlt
    unfold rndD
    split <;> omega
  by_cases h0 : rndD D = 0
  · rw [h0, normD_zero]
    exact .inl rfl
  · right
    obtain ⟨a, b, c⟩ := normD_ok (rndD D) (-k) h0
    refine ⟨b, ?_⟩
    by_cases he : rndD D = 10 ^ P
    · rw [he, show 10 ^ P = 1 * 10 ^ P by rw [Nat.one_mul], normD_pow (by decide), normD_end (by decide)]
      exact frm_len_lt.2 (Nat.lt_of_lt_of_le (by decide : 1 < 10 ^ 1) (Nat.pow_le_pow_right (by decide) hP))
    · exact frm_len_lt.2 (by omega)
theorem fix_has {t : Typ} (hv : vN t) (h3 : t.kind ≠ 3) {ng : Bool} {M : Nat} (hM : M < bsN t.kind ^ t.p.toNat) : hasB t ⟨t.kind, sgn ng M, t.q, []⟩ = true := by
  obtain ⟨hv1, hk⟩ := hv
  obtain ⟨p1, p2, q1, q2, p15⟩ := num_p hv1 hk
  have hk12 : t.kind = 1 ∨ t.kind = 2 := by omega
  have hab := sgn_abs ng M
  have hr : (⟨t.kind, sgn ng M, t.q, []⟩ : Vl).right = true := by
    show rightB t.kind (sgn ng M) t.q [] = true
    unfold rightB
    rcases hk12 with h | h
    · rw [h, if_pos rfl]
      rw [h] at hM
      have h31 : bsN 1 ^ t.p.toNat ≤ 2 ^ 31 := Nat.pow_le_pow_right (by decide) (by omega)
      simp
      omega
    · rw [h, if_neg (by decide), if_pos rfl]
      rw [h] at hM
      have := p15 (by omega)
      have h31 : bsN 2 ^ t.p.toNat ≤ 10 ^ 15 := Nat.pow_le_pow_right (by decide) (by omega)
      simp
      omega
  unfold hasB hasK
  rw [hv1, hr, if_pos hk12]
  simp
  show (sgn ng M).natAbs < bsN t.kind ^ t.p.toNat
  rw [hab]
  exact hM
theorem zero_hasN {t : Typ} (hv : vN t) (h3 : t.kind = 3) : hasB t ⟨3, 0, 0, []⟩ = true := by
  unfold hasB hasK
  rw [hv.1, h3, if_neg (by decide), if_pos rfl, show Int.natAbs 0 = 0 from rfl, frm_zero]
  simp
  rfl
theorem fit_has {t : Typ} (hv : vN t) {ng : Bool} {num den : Nat} {k : Int} (hd : 0 < den) (hk : num ≠ 0 → t.kind = 3 → IsK num den t.p.toNat k) (hc : (fitS t.kind t.p.toNat t.q.toNat ng num den k 2).2.2 = 0) :
    hasB t ⟨t.kind, (fitS t.kind t.p.toNat t.q.toNat ng num den k 2).1, (fitS t.kind t.p.toNat t.q.toNat ng num den k 2).2.1, []⟩ = true := by
  obtain ⟨p1, p2, q1, q2, p15⟩ := num_p hv.1 hv.2
  unfold fitS at hc ⊢
  by_cases h3 : t.kind = 3
  · rw [if_pos h3] at hc ⊢
    by_cases hn : num = 0
    · rw [if_pos hn, h3]
      exact zero_hasN hv h3
    · rw [if_neg hn] at hc ⊢
      have hf := flt_has (show 1 ≤ t.p.toNat by omega) hd (hk hn h3)
      generalize fltR num den k = r at *
      obtain ⟨m, e⟩ := r
      unfold fltO at hc ⊢
      dsimp only at hc hf ⊢
      by_cases h0 : m = 0
      · rw [if_pos h0, h3]
        exact zero_hasN hv h3
      · rw [if_neg h0] at hc ⊢
        split at hc
        · cases hc
        · split at hc
          · cases hc
          · rename_i e1 e2
            rw [if_neg e1, if_neg e2]
            obtain ⟨f1, f2⟩ := hf.resolve_left h0
            have hab := sgn_abs ng m
            have hp15 := p15 (by omega)
            have hl15 : m < 10 ^ 15 := frm_len_lt.1 (by omega)
            have hl0 : 0 < (frm m).length := Nat.pos_of_ne_zero fun e => h0 (frm_len0.1 e)
            have hr : (⟨t.kind, sgn ng m, e, []⟩ : Vl).right = true := by
              show rightB t.kind (sgn ng m) e [] = true
              unfold rightB
              rw [h3, if_neg (by decide), if_neg (by decide), if_pos rfl, if_neg (by omega), hab]
              simp
              omega
            unfold hasB hasK
            rw [hv.1, hr, if_neg (by omega), if_pos h3]
            simp
            show (frm (sgn ng m).natAbs).length ≤ t.p.toNat
            rw [hab]
            exact f2
  · rw [if_neg h3] at hc ⊢
    dsimp only at hc ⊢
    split at hc
    · cases hc
    · rename_i hM
      have hM' : num * bsN t.kind ^ t.q.toNat / den < bsN t.kind ^ t.p.toNat := by omega
      rw [Nat.mod_eq_of_lt hM', show ((t.q.toNat : Nat) : Int) = t.q by omega]
      exact fix_has hv h3 hM'
theorem opX_den {op : UInt8} {x y : Ex} (hx : 0 < x.den) (hy : 0 < y.den) (hn : op = 43 ∨ op = 45 ∨ op = 42 ∨ y.num ≠ 0) : 0 < (opX op x y).den := by
  have hb : ∀ z : Ex, 0 < z.den → 0 < (bothE x z).den := fun z hz => by
    unfold bothE
    split
    · exact Nat.mul_pos hx hz
    · split <;> exact Nat.mul_pos hx hz
  unfold opX
  split
  · exact hb _ hy
  · split
    · exact hb _ hy
    · split
      · exact Nat.mul_pos hx hy
      · rename_i h1 h2 h3
        have hyn : y.num ≠ 0 := by
          rcases hn with h | h | h | h
          · exact absurd h h1
          · exact absurd h h2
          · exact absurd h h3
          · exact h
        exact Nat.mul_pos hx (Nat.pos_of_ne_zero hyn)
theorem do_has {op : UInt8} (hop : op = 43 ∨ op = 45 ∨ op = 42 ∨ op = 47) {a b : Vl} {t : Typ} (hv : vN t) (ha : askL (some t) [a, b] = 0) (hc : (doV op a b t).2.1 = 0) : hasB t (doV op a b t).1 = true := by
  unfold doV at hc ⊢
  rw [if_neg (by rw [ha]; decide)] at hc ⊢
  by_cases hz : op = 47 ∧ b.n = 0
  · rw [if_pos hz] at hc
    cases hc
  · rw [if_neg hz] at hc ⊢
    have hy0 : (ofE b.kind b.n b.q).num = 0 → b.n = 0 := fun e => by
      have := ofE_num0 b.kind b.n b.q
      first | exact this.1 e | exact (this.2 e)
    have hden : 0 < (opX op (ofE a.kind a.n a.q) (ofE b.kind b.n b.q)).den := opX_den (ofE_den _ _ _) (ofE_den _ _ _) (by
      rcases hop with h | h | h | h
      · exact .inl h
      · exact .inr (.inl h)
      · exact .inr (.inr (.inl h))
      · exact .inr (.inr (.inr fun e => hz ⟨h, hy0 e⟩)))
    generalize opX op (ofE a.kind a.n a.q) (ofE b.kind b.n b.q) = x at *
    obtain ⟨p1, p2, q1, q2, p15⟩ := num_p hv.1 hv.2
    exact fit_has hv hden (fun hn h3 => kF_is hn (by omega) (by omega)) hc
end Go.Iron.Tryz

/- The pairs' seat: Do of both is one. -/
namespace Go.Iron.Tryz
open Go.Proofs Go.RowKit Go.Iron.Tok Go.Iron.Dg

end Go.Iron.Tryz

/- The pairs' seat: Do of both, for any operation. -/
namespace Go.Iron.Tryz
open Go.Proofs Go.RowKit Go.Iron.Tok Go.Iron.Dg

def isOp (s : Str) : Prop := s = [43] ∨ s = [45] ∨ s = [42] ∨ s = [47]
def dopV (op : UInt8) (x y : Pr) (ta tb : Typ) : Pr × Typ × Int × Int :=
  ((safeV (resT op (inT op ta) (inT op tb)) (opP op (resT op (inT op ta) (inT op tb)) x y)).1, resT op (inT op ta) (inT op tb), (safeV (resT op (inT op ta) (inT op tb)) (opP op (resT op (inT op ta) (inT op tb)) x y)).2, 0)
def doPV (s : Str) (x y : Pr) (ta tb : Typ) : Pr × Typ × Int × Int :=
  if askP [x, y] [ta, tb] ≠ 0 then (pr0, ty0, 0, askP [x, y] [ta, tb])
  else if s = [43] then dopV 43 x y ta tb
  else if s = [45] then dopV 45 x y ta tb
  else if s = [42] then dopV 42 x y ta tb
  else if s = [47] then dopV 47 x y ta tb
  else (pr0, ty0, 0, 5)
abbrev doB (r : Pr × Typ × Int × Int) : AV := doA r.1 r.2.1 r.2.2.1 r.2.2.2
theorem ask_vN {x y : Pr} {ta tb : Typ} (h : askP [x, y] [ta, tb] = 0) : (pRight x = true ∧ pRight y = true) ∧ (vN ta ∧ pHas ta x = true) ∧ vN tb ∧ pHas tb y = true := by
  unfold askP at h
  by_cases h1 : ([x, y].all pRight) = false
  · rw [if_pos h1] at h
    cases h
  · rw [if_neg h1] at h
    by_cases h2 : ((List.range [x, y].length).all fun i => validT ([ta, tb].getD i ty0) && pHas ([ta, tb].getD i ty0) ([x, y].getD i pr0)) = false
    · rw [if_pos h2] at h
      cases h
    · rw [if_neg h2] at h
      by_cases h3 : ([ta, tb].all fun t => decide (t.kind ≤ 3)) = false
      · rw [if_pos h3] at h
        cases h
      · simp [List.range_succ] at h1 h2 h3
        obtain ⟨a1, a2, b1, b2⟩ := h2
        obtain ⟨k1, _⟩ := valid_kind a1
        obtain ⟨k2, _⟩ := valid_kind b1
        exact ⟨h1, ⟨⟨a1, by omega⟩, a2⟩, ⟨b1, by omega⟩, b2⟩
theorem hasK4 {v1 v2 v3 v4 : AV} {s : Str} (h : _root_.Go.Iron.hasK [(Value.string ⟨#[43]⟩, v1), (Value.string ⟨#[45]⟩, v2), (Value.string ⟨#[42]⟩, v3), (Value.string ⟨#[47]⟩, v4)] (Value.string (bs s)) = true) : isOp s := by
  have hk : ∀ c : UInt8, keyEq (Value.string ⟨#[c]⟩) (Value.string (bs s)) = true → s = [c] := fun c hc => by
    have h1 : bytesEq [c] s = true := hc
    exact (bytesEq_iff.1 h1).symm
  unfold _root_.Go.Iron.hasK mapFind at h
  cases e1 : keyEq (Value.string ⟨#[43]⟩) (Value.string (bs s)) with
  | true => exact .inl (hk 43 e1)
  | false =>
    rw [e1] at h
    unfold mapFind at h
    cases e2 : keyEq (Value.string ⟨#[45]⟩) (Value.string (bs s)) with
    | true => exact .inr (.inl (hk 45 e2))
    | false =>
      rw [e2] at h
      unfold mapFind at h
      cases e3 : keyEq (Value.string ⟨#[42]⟩) (Value.string (bs s)) with
      | true => exact .inr (.inr (.inl (hk 42 e3)))
      | false =>
        rw [e3] at h
        unfold mapFind at h
        cases e4 : keyEq (Value.string ⟨#[47]⟩) (Value.string (bs s)) with
        | true => exact .inr (.inr (.inr (hk 47 e4)))
        | false =>
          rw [e4] at h
          cases h
theorem find4 {v1 v2 v3 v4 : AV} {s : Str} (h : ¬ isOp s) : mapFind [(Value.string ⟨#[43]⟩, v1), (Value.string ⟨#[45]⟩, v2), (Value.string ⟨#[42]⟩, v3), (Value.string ⟨#[47]⟩, v4)] (Value.string (bs s)) = none := by
  cases hf : mapFind [(Value.string ⟨#[43]⟩, v1), (Value.string ⟨#[45]⟩, v2), (Value.string ⟨#[42]⟩, v3), (Value.string ⟨#[47]⟩, v4)] (Value.string (bs s)) with
  | none => rfl
  | some y =>
    exfalso
    apply h
    apply hasK4 (v1 := v1) (v2 := v2) (v3 := v3) (v4 := v4)
    unfold _root_.Go.Iron.hasK
    rw [hf]
theorem look4 {τ : Nat → AV} {ar ar' : List AO} {o : Oper} {l : List (Value × AV)} {k : Value} {z : AV} (hf : mapFind l k = none) (h : OpStep Tryz.prog τ ar o (tupO true (lookA l k z) (.val (.bool (_root_.Go.Iron.hasK l k)))) ar') : OpStep Tryz.prog τ ar o (.tup [z, bv false]) ar' := by
  unfold lookA _root_.Go.Iron.hasK at h
  rw [hf] at h
  exact h
theorem p_doE (s : Str) (x y : Pr) (ta tb : Typ) (ha : askP [x, y] [ta, tb] ≠ 0) : CallT Tryz.prog 23 [sv s, .agg (prE x), .agg (prE y), .agg (typE ta), .agg (typE tb)] [] (fun o A => o = .ret (doA pr0 ty0 0 (askP [x, y] [ta, tb])) ∧ A = []) := by
  have hak := p_asked none none [x, y] [ta, tb] (by simp) rfl
  refine callS_body (n := 74) rfl rfl fun w ρ X => ?_
  refine rX rfl ?_
  refine runS_tell 6 (prR [x, y]) rfl (m' := 2) rfl (fun j hj => ?_) rfl ?_
  · rcases j with _ | _ | j <;> first | rfl | omega
  refine runS_tell 7 (tyR [ta, tb]) rfl (m' := 2) rfl (fun j hj => ?_) rfl ?_
  · rcases j with _ | _ | j <;> first | rfl | omega
  refine runS_freeze 24 rfl rfl rfl (fun j hj => ?_) ?_
  · rcases j with _ | _ | j <;> first | rfl | omega
  refine runS_freeze 27 rfl rfl rfl (fun j hj => ?_) ?_
  · rcases j with _ | _ | j <;> first | rfl | omega
  refine runS_call rfl rfl rfl rfl rfl rfl rfl hak ?_
  refine rX rfl ?_
  refine runS_cond rfl (fun h => ?_) (fun h => ?_)
  · refine rX rfl ?_
    refine runS_ret (I := inf) 0 rfl (Nat.le_refl _) rfl .nil rfl ⟨?_, rfl⟩
    rfl
  · exfalso
    have h3 : (!(askP [x, y] [ta, tb] == 0)) = false := h
    simp at h3
    exact ha h3
theorem p_doN (s : Str) (hs : ¬ isOp s) (x y : Pr) (ta tb : Typ) (ha : askP [x, y] [ta, tb] = 0) : CallT Tryz.prog 23 [sv s, .agg (prE x), .agg (prE y), .agg (typE ta), .agg (typE tb)] [] (fun o A => o = .ret (doA pr0 ty0 0 5) ∧ A = []) := by
  have hak := p_asked none none [x, y] [ta, tb] (by simp) rfl
  rw [ha] at hak
  refine callS_body (n := 74) rfl rfl fun w ρ X => ?_
  refine rX rfl ?_
  refine runS_tell 6 (prR [x, y]) rfl (m' := 2) rfl (fun j hj => ?_) rfl ?_
  · rcases j with _ | _ | j <;> first | rfl | omega
  refine runS_tell 7 (tyR [ta, tb]) rfl (m' := 2) rfl (fun j hj => ?_) rfl ?_
  · rcases j with _ | _ | j <;> first | rfl | omega
  refine runS_freeze 24 rfl rfl rfl (fun j hj => ?_) ?_
  · rcases j with _ | _ | j <;> first | rfl | omega
  refine runS_freeze 27 rfl rfl rfl (fun j hj => ?_) ?_
  · rcases j with _ | _ | j <;> first | rfl | omega
  refine runS_call rfl rfl rfl rfl rfl rfl rfl hak ?_
  refine rX rfl ?_
  refine runS_cond rfl (fun h => by cases h) (fun h => ?_)
  refine runS_x (I := inf) (J := jnf) ⟨false, false, [68], 0, 0⟩ 9999 rfl ob1 ?_
  refine runS_call rfl rfl rfl rfl rfl rfl rfl (p_mk (g := 34)) ?_
  refine runS_x (I := inf) (J := jnf) ⟨false, false, [68], 0, 0⟩ 9999 rfl ob1 ?_
  refine runS_call rfl rfl rfl rfl rfl rfl rfl (p_mk (g := 35)) ?_
  have hf := find4 (v1 := .fn (.func 131) [.loc [.fn (.func 34) []] 0]) (v2 := .fn (.func 131) [.loc [.fn (.func 35) []] 0]) (v3 := .fn (.func 99) []) (v4 := .fn (.func 132) []) hs
  refine runS_x (I := inf) (J := jnf) ⟨false, false, [68], 0, 0⟩ 9 rfl ob1 ?_
  refine runS_op (.tup [.val .nilFunc, bv false]) rfl rfl rfl (look4 hf (op_lookup (run_zeroV (jnfI.zv.mem (87, .val .nilFunc) (lk_mem rfl))) (jnfI.maps.mem (89, none, 87) (lk_mem rfl)) rfl rfl rfl rfl rfl)) ?_
  refine rX rfl ?_
  refine runS_cond rfl (fun h => ?_) (fun h => by cases h)
  refine rX rfl ?_
  refine runS_ret (I := inf) 0 rfl (Nat.le_refl _) rfl .nil rfl ⟨?_, rfl⟩
  rfl
theorem p_DoV (s : Str) (x y : Pr) (ta tb : Typ) : CallT Tryz.prog 23 [sv s, .agg (prE x), .agg (prE y), .agg (typE ta), .agg (typE tb)] [] (fun o A => o = .ret (doB (doPV s x y ta tb)) ∧ A = []) := by
  unfold doPV
  by_cases h : askP [x, y] [ta, tb] ≠ 0
  · rw [if_pos h]
    exact p_doE s x y ta tb h
  · rw [if_neg h]
    have h0 := Decidable.not_not.1 h
    obtain ⟨_, ⟨va, _⟩, vb, _⟩ := ask_vN h0
    by_cases e1 : s = [43]
    · rw [if_pos e1, e1]
      exact p_do43 x y ta tb h0 va vb
    · rw [if_neg e1]
      by_cases e2 : s = [45]
      · rw [if_pos e2, e2]
        exact p_do45 x y ta tb h0 va vb
      · rw [if_neg e2]
        by_cases e3 : s = [42]
        · rw [if_pos e3, e3]
          exact p_do42 x y ta tb h0 va vb
        · rw [if_neg e3]
          by_cases e4 : s = [47]
          · rw [if_pos e4, e4]
            exact p_do47 x y ta tb h0 va vb
          · rw [if_neg e4]
            exact p_doN s (by rintro (h | h | h | h); exact e1 h; exact e2 h; exact e3 h; exact e4 h) x y ta tb h0
end Go.Iron.Tryz

/- The pairs' seat: Norm, Conjugate. -/
namespace Go.Iron.Tryz
open Go.Proofs Go.RowKit Go.Iron.Tok Go.Iron.Dg

end Go.Iron.Tryz

/- The pairs' seat: whole decimal pairs; the law of norms. -/
namespace Go.Iron.Tryz
open Go.Proofs Go.RowKit Go.Iron.Tok Go.Iron.Dg

theorem pow_le15 {P : Int} (h2 : P ≤ 15) : 10 ^ P.toNat ≤ 1000000000000000 := Nat.pow_le_pow_right (n := 10) (i := P.toNat) (j := 15) (by decide) (by omega)
theorem by_dec {op : UInt8} {n m r P : Int} (hop : op = 43 ∧ r = n + m ∨ op = 45 ∧ r = n - m ∨ op = 42 ∧ r = n * m) (hn : n.natAbs < 10 ^ P.toNat) (hm : m.natAbs < 10 ^ P.toNat) (h1 : 1 ≤ P) (h2 : P ≤ 15) (hr : r.natAbs < 10 ^ P.toNat) : byV op (dcT P) (dcV n) (dcV m) = .ok (dcV r) := by
  have h := pow_le15 h2
  unfold byV
  rw [do_dec hop (by omega) (by omega) h1 h2 hr, if_pos rfl]
abbrev dcP (a b : Int) : Pr := ⟨dcV a, dcV b⟩
theorem times_dec {a b c d P : Int} (h1 : 1 ≤ P) (h2 : P ≤ 15) (ha : a.natAbs < 10 ^ P.toNat) (hb : b.natAbs < 10 ^ P.toNat) (hc : c.natAbs < 10 ^ P.toNat) (hd : d.natAbs < 10 ^ P.toNat)
    (r1 : (a * c).natAbs < 10 ^ P.toNat) (r2 : (b * d).natAbs < 10 ^ P.toNat) (r3 : (a * d).natAbs < 10 ^ P.toNat) (r4 : (b * c).natAbs < 10 ^ P.toNat) (r5 : (a * c - b * d).natAbs < 10 ^ P.toNat) (r6 : (a * d + b * c).natAbs < 10 ^ P.toNat) :
    timesV (dcT P) (dcP a b) (dcP c d) = .ok (dcP (a * c - b * d) (a * d + b * c)) := by
  unfold timesV
  dsimp only
  rw [by_dec (op := 42) (.inr (.inr ⟨rfl, rfl⟩)) ha hc h1 h2 r1]
  dsimp only
  rw [by_dec (op := 42) (.inr (.inr ⟨rfl, rfl⟩)) hb hd h1 h2 r2]
  dsimp only
  rw [by_dec (op := 42) (.inr (.inr ⟨rfl, rfl⟩)) ha hd h1 h2 r3]
  dsimp only
  rw [by_dec (op := 42) (.inr (.inr ⟨rfl, rfl⟩)) hb hc h1 h2 r4]
  dsimp only
  rw [by_dec (op := 45) (.inr (.inl ⟨rfl, rfl⟩)) r1 r2 h1 h2 r5]
  dsimp only
  rw [by_dec (op := 43) (.inl ⟨rfl, rfl⟩) r3 r4 h1 h2 r6]
theorem dc_has {n P : Int} (h1 : 1 ≤ P) (h2 : P ≤ 15) (hn : n.natAbs < 10 ^ P.toNat) : hasB (dcT P) (dcV n) = true := by
  have h := pow_le15 h2
  unfold hasB hasK
  rw [dc_valid h1 h2, dc_right (by omega), if_pos (.inr rfl)]
  have hb : bsN 2 = 10 := rfl
  rw [hb]
  simp [hn]
theorem dc_vN {P : Int} (h1 : 1 ≤ P) (h2 : P ≤ 15) : vN (dcT P) := ⟨dc_valid h1 h2, .inr (.inl rfl)⟩
theorem dc_pH {a b P : Int} (h1 : 1 ≤ P) (h2 : P ≤ 15) (ha : a.natAbs < 10 ^ P.toNat) (hb : b.natAbs < 10 ^ P.toNat) : pHas (dcT P) (dcP a b) = true := by
  unfold pHas
  rw [dc_has h1 h2 ha, dc_has h1 h2 hb]
  rfl
theorem dc_pR {a b P : Int} (h2 : P ≤ 15) (ha : a.natAbs < 10 ^ P.toNat) (hb : b.natAbs < 10 ^ P.toNat) : pRight (dcP a b) = true := by
  have h := pow_le15 h2
  unfold pRight
  rw [dc_right (by omega), dc_right (by omega)]
  rfl
theorem ask_dec2 {a b c d P : Int} (h1 : 1 ≤ P) (h2 : P ≤ 15) (ha : a.natAbs < 10 ^ P.toNat) (hb : b.natAbs < 10 ^ P.toNat) (hc : c.natAbs < 10 ^ P.toNat) (hd : d.natAbs < 10 ^ P.toNat) : askP [dcP a b, dcP c d] [dcT P, dcT P] = 0 := by
  have e1 := dc_pR h2 ha hb
  have e2 := dc_pH h1 h2 ha hb
  have e3 := dc_pR h2 hc hd
  have e4 := dc_pH h1 h2 hc hd
  unfold askP
  rw [if_neg (by simp [e1, e3]), if_neg (by simp [List.range_succ, e2, e4, dc_valid h1 h2]), if_neg (by simp)]
theorem l_awakeP : CallT Tryz.prog 22 [] [] (fun o A => o = .ret (bv true) ∧ A = []) := by
  have hd := p_do42 (dcP 1 2) (dcP 3 (-1)) (dcT 1) (dcT 1) (ask_dec2 (by decide) (by decide) (by decide) (by decide) (by decide) (by decide)) (dc_vN (by decide) (by decide)) (dc_vN (by decide) (by decide))
  have ht : resT 42 (inT 42 (dcT 1)) (inT 42 (dcT 1)) = dcT 3 := rfl
  have hop0 : timesV (dcT 3) (dcP 1 2) (dcP 3 (-1)) = .ok (dcP (1 * 3 - 2 * (-1)) (1 * (-1) + 2 * 3)) := times_dec (a := 1) (b := 2) (c := 3) (d := -1) (P := 3) (by decide) (by decide) (by decide) (by decide) (by decide) (by decide) (by decide) (by decide) (by decide) (by decide) (by decide) (by decide)
  have hop : opP 42 (dcT 3) (dcP 1 2) (dcP 3 (-1)) = .ok (dcP 5 5) := hop0
  rw [ht, hop] at hd
  have hd : CallT Tryz.prog 23 [sv [42], .agg (prE (dcP 1 2)), .agg (prE (dcP 3 (-1))), .agg (typE (dcT 1)), .agg (typE (dcT 1))] [] (fun o A => o = .ret (doA (dcP 5 5) (dcT 3) 0 0) ∧ A = []) := hd
  refine callS_body (n := 33) rfl rfl fun w ρ X => ?_
  refine rX rfl ?_
  refine runS_hole ?_
  refine runS_hole ?_
  refine runS_drawG (ch := []) (A2 := fun _ => []) 16 [10, 11, 12, 13] (fun z => [.box 25 (typE (dcT 1)), cond (z.getD 0 false) (.row 41 8 1 1 (cond (z.getD 2 false) (setR (fun _ => prE pr0) 0 (prE (dcP 5 5))) (fun _ => prE pr0))) .hole, cond (z.getD 1 false) (.row 25 6 1 1 (cond (z.getD 3 false) (setR (fun _ => typE ty0) 0 (typE (dcT 3))) (fun _ => typE ty0))) .hole]) none (c := 9) jnfI.draw (by kernel_rfl) rfl (lexg_call rfl rfl rfl rfl rfl rfl rfl rfl rfl (p_one 1 2) (lexg_call rfl rfl rfl rfl rfl rfl rfl rfl rfl (p_one 3 (-1)) (lexg_g (I := inf) (J := jnf) none ⟨⟨⟨⟨⟨_, rfl, ob0⟩, oi⟩, oj⟩, ol⟩, on⟩ rfl rfl rfl rfl (lexg_g (I := inf) (J := jnf) none ⟨⟨⟨⟨⟨_, rfl, ob0⟩, oi⟩, oj⟩, ol⟩, on⟩ rfl rfl rfl rfl (lexg_call rfl rfl rfl rfl rfl rfl rfl rfl rfl hd (lexg_g (I := inf) (J := jnf) none ⟨⟨⟨⟨⟨_, rfl, ob0⟩, oi⟩, oj⟩, ol⟩, on⟩ rfl rfl rfl rfl (lexg_g (I := inf) (J := jnf) none ⟨⟨⟨⟨⟨_, rfl, ob0⟩, oi⟩, oj⟩, ol⟩, on⟩ rfl rfl rfl rfl (lexg_g (I := inf) (J := jnf) none ⟨⟨⟨⟨⟨_, rfl, ob0⟩, oi⟩, oj⟩, ol⟩, on⟩ rfl rfl rfl rfl (lexg_g (I := inf) (J := jnf) none ⟨⟨⟨⟨⟨_, rfl, ob0⟩, oi⟩, oj⟩, ol⟩, on⟩ rfl rfl rfl rfl (lexg_g (I := inf) (J := jnf) none ⟨⟨⟨⟨⟨_, rfl, ob0⟩, oi⟩, oj⟩, ol⟩, on⟩ rfl rfl rfl rfl (lexg_b 1 rfl rfl ⟨⟨⟨⟨⟨rfl, rfl⟩, (by first | exact .inl (by decide +kernel) | exact .inr ⟨rfl, rfl⟩)⟩, (by first | exact .inl (by decide +kernel) | exact .inr ⟨⟨rfl, rfl⟩, (by first | exact .inl (by decide +kernel) | exact .inr ⟨rfl, rfl⟩)⟩)⟩, (by first | exact .inl (by decide +kernel) | exact .inr ⟨⟨⟨rfl, rfl⟩, (by first | exact .inl (by decide +kernel) | exact .inr ⟨rfl, rfl⟩)⟩, (by first | exact .inl (by decide +kernel) | exact .inr ⟨⟨rfl, rfl⟩, (by first | exact .inl (by decide +kernel) | exact .inr ⟨rfl, rfl⟩)⟩)⟩)⟩, .inl rfl⟩ rfl rfl rfl rfl (lexg_b 2 rfl rfl ⟨⟨⟨⟨⟨rfl, rfl⟩, (by first | exact .inl (by decide +kernel) | exact .inr ⟨rfl, rfl⟩)⟩, (by first | exact .inl (by decide +kernel) | exact .inr ⟨⟨rfl, rfl⟩, (by first | exact .inl (by decide +kernel) | exact .inr ⟨rfl, rfl⟩)⟩)⟩, .inl rfl⟩, (by first | exact .inl (by decide +kernel) | exact .inr ⟨⟨⟨⟨rfl, rfl⟩, (by first | exact .inl (by decide +kernel) | exact .inr ⟨rfl, rfl⟩)⟩, (by first | exact .inl (by decide +kernel) | exact .inr ⟨⟨rfl, rfl⟩, (by first | exact .inl (by decide +kernel) | exact .inr ⟨rfl, rfl⟩)⟩)⟩, .inl rfl⟩)⟩ rfl rfl rfl rfl (lexg_d (I := inf) (J := jnf) (some .store) ⟨(by first | exact .inl (by decide +kernel) | exact .inr ⟨om, om⟩), (by first | exact .inl (by decide +kernel) | exact .inr ⟨om, om⟩)⟩ rfl rfl rfl rfl (lexg_d (I := inf) (J := jnf) (some .store) ⟨(by first | exact .inl (by decide +kernel) | exact .inr ⟨om, om⟩), (by first | exact .inl (by decide +kernel) | exact .inr ⟨om, om⟩)⟩ rfl rfl rfl rfl (lexg_g (I := inf) (J := jnf) none ⟨⟨⟨⟨⟨_, rfl, ob0⟩, oi⟩, oj⟩, ol⟩, on⟩ rfl rfl rfl rfl (lexg_g (I := inf) (J := jnf) none ⟨⟨⟨⟨⟨_, rfl, ob0⟩, oi⟩, oj⟩, ol⟩, on⟩ rfl rfl rfl rfl lexg_nil)))))))))))))))) rfl (fun _ => ?_) (fun h => by cases h)
  refine rX rfl ?_
  refine runS_tell 1 (fun _ => prE (dcP 5 5)) rfl (m' := 1) rfl (fun j hj => by (obtain rfl : j = 0 := by omega); rfl) rfl ?_
  refine runS_tell 2 (fun _ => typE (dcT 3)) rfl (m' := 1) rfl (fun j hj => by (obtain rfl : j = 0 := by omega); rfl) rfl ?_
  have h2 : (((0 : Int) == 0) == true) = true := rfl
  have h6 : ((if ((0 : Int) == 0) = true then ((0 : Int) == 0) else false) == true) = true := rfl
  have h11 : ((if (if ((0 : Int) == 0) = true then ((0 : Int) == 0) else false) = true then (((2 : Int) == 2) && (((3 : Int) == 3) && (((0 : Int) == 0) && (((0 : Int) == 0) && ((false == false) && (((bs []).toList == (bs []).toList) && true)))))) else false) == true) = true := by simp
  refine runS_drawG (ch := []) (A2 := fun _ => []) 17 [] (fun _ => _) none (c := 9) jnfI.draw (by kernel_rfl) rfl (lexg_g (I := inf) (J := jnf) none ⟨_, rfl, ob0⟩ rfl rfl rfl rfl (lexg_g (I := inf) (J := jnf) none ⟨_, rfl, ob0⟩ rfl rfl rfl rfl (lexg_g (I := inf) (J := jnf) none ⟨_, rfl, ob0⟩ rfl rfl rfl rfl (lexg_gT (I := inf) (J := jnf) none h2 ⟨_, rfl, ob0⟩ rfl rfl rfl rfl rfl rfl rfl rfl (lexg_gT (I := inf) (J := jnf) none h2 ⟨_, rfl, ob0⟩ rfl rfl rfl rfl rfl rfl rfl rfl (lexg_g (I := inf) (J := jnf) none ⟨_, rfl, ob0⟩ rfl rfl rfl rfl (lexg_g (I := inf) (J := jnf) none ⟨_, rfl, ob0⟩ rfl rfl rfl rfl (lexg_gT (I := inf) (J := jnf) none h6 ⟨_, rfl, ob0⟩ rfl rfl rfl rfl rfl rfl rfl rfl (lexg_gT (I := inf) (J := jnf) none h6 ⟨_, rfl, ob0⟩ rfl rfl rfl rfl rfl rfl rfl rfl (lexg_gT (I := inf) (J := jnf) none h6 ⟨_, rfl, ob0⟩ rfl rfl rfl rfl rfl rfl rfl rfl (lexg_g (I := inf) (J := jnf) none ⟨_, rfl, ob0⟩ rfl rfl rfl rfl (lexg_g (I := inf) (J := jnf) none ⟨_, rfl, ob0⟩ rfl rfl rfl rfl (lexg_gT (I := inf) (J := jnf) none h11 ⟨_, rfl, ob0⟩ rfl rfl rfl rfl rfl rfl rfl rfl (lexg_callT h11 rfl rfl rfl rfl rfl rfl rfl rfl (by repeat (first | exact .nil | refine .cons (.n rfl) ?_ | refine .cons .o ?_ | refine .cons gok_and ?_)) rfl rfl rfl rfl rfl rfl rfl (p_one 5 5) (lexg_gT (I := inf) (J := jnf) none h11 ⟨_, rfl, ob0⟩ rfl rfl rfl rfl rfl rfl rfl rfl (lexg_g (I := inf) (J := jnf) none ⟨_, rfl, ob0⟩ rfl rfl rfl rfl (lexg_g (I := inf) (J := jnf) none ⟨_, rfl, ob0⟩ rfl rfl rfl rfl lexg_nil))))))))))))))))) rfl (fun _ => ?_) (fun h => by cases h)
  refine rX rfl ?_
  refine runS_ret (I := inf) 0 rfl (Nat.le_refl _) rfl .nil rfl ⟨?_, rfl⟩
  refine congrArg (fun x => Out.ret (bv x)) (?_ : _ = true)
  simp
end Go.Iron.Tryz

/- The digits' seat: the law of valid values. -/
namespace Go.Iron.Tryz
open Go.Proofs Go.RowKit Go.Iron.Tok Go.Iron.Dg

theorem zero_has (t : Typ) (h : (zeroV t).2 = 0) : hasB t (zeroV t).1 = true := by
  cases hvt : validT t with
  | false =>
    unfold zeroV at h
    rw [if_pos hvt] at h
    cases h
  | true =>
    have h9 := valid9 hvt
    have hsn := str_n hvt
    have hnp := num_p hvt
    have hZ : zeroV t = if t.kind = 1 ∨ t.kind = 2 then (⟨t.kind, 0, t.q, []⟩, 0) else if t.kind = 3 then (⟨t.kind, 0, 0, []⟩, 0) else if t.kind = 4 then (⟨t.kind, 0, 0, if t.vary = true then [] else List.replicate t.n.toNat 32⟩, 0) else if t.kind = 5 then (⟨t.kind, 0, 0, if t.vary = true then [] else List.replicate t.n.toNat 48⟩, 0) else (⟨0, 0, 0, []⟩, 10) := by unfold zeroV; rw [if_neg (by rw [hvt]; decide)]
    rw [hZ] at h ⊢
    unfold hasB
    rw [hvt]
    clear hZ hvt
    obtain ⟨kd, p, q, n, vy, pc⟩ := t
    dsimp only at *
    rcases h9 with rfl | rfl | rfl | rfl | rfl | rfl | rfl | rfl | rfl
    · have := hnp (by decide)
      have hp : 0 < 2 ^ p.toNat := Nat.pow_pos (by decide)
      simp [Vl.right, rightB, hasK, bsN, hp]
      omega
    · have := hnp (by decide)
      have hp : 0 < 10 ^ p.toNat := Nat.pow_pos (by decide)
      simp [Vl.right, rightB, hasK, bsN, hp]
      omega
    · simp [Vl.right, rightB, hasK, frm_zero]
    · have := hsn (by decide)
      cases vy
      · simp [Vl.right, rightB, hasK]
        omega
      · simp [Vl.right, rightB, hasK]
        omega
    · have := hsn (by decide)
      cases vy
      · simp [Vl.right, rightB, hasK, isBit]
        omega
      · simp [Vl.right, rightB, hasK]
        omega
    all_goals simp at h
end Go.Iron.Tryz

/- The pairs' seat: the law of Do. -/
namespace Go.Iron.Tryz
open Go.Proofs Go.RowKit Go.Iron.Tok Go.Iron.Dg

def Good (v : Vl) : Prop := v.right = true ∧ numK v.kind = true
theorem has_good {t : Typ} {v : Vl} (ht : vN t) (h : hasB t v = true) : Good v := by
  have hk := has_kind h
  unfold hasB at h
  simp at h
  refine ⟨h.1.1.2, ?_⟩
  rw [← hk]
  obtain ⟨_, hk | hk | hk⟩ := ht <;> rw [hk] <;> rfl
theorem ask_good {t : Typ} {a b : Vl} (ht : vN t) (ha : Good a) (hb : Good b) : askL (some t) [a, b] = 0 := by
  have hn : numK t.kind = true := by obtain ⟨_, hk | hk | hk⟩ := ht <;> rw [hk] <;> rfl
  unfold askL
  rw [if_neg (by simp [ha.1, hb.1]), if_neg (by simp [ht.1]), if_neg (by simp [ha.2, hb.2]), if_neg (by simp [hn])]
theorem by_has {op : UInt8} (hop : op = 43 ∨ op = 45 ∨ op = 42 ∨ op = 47) {t : Typ} {a b v : Vl} (ht : vN t) (ha : Good a) (hb : Good b) (h : byV op t a b = .ok v) : hasB t v = true := by
  unfold byV at h
  split at h
  · rename_i hc
    injection h with h
    rw [← h]
    exact do_has hop ht (ask_good ht ha hb) hc
  · cases h
theorem vn_fix {k p q : Int} (hk : k = 1 ∧ p ≤ 31 ∨ k = 2 ∧ p ≤ 15) (p1 : 1 ≤ p) (q1 : 0 ≤ q) (q2 : q ≤ 31) : vN ⟨k, p, q, 0, false, []⟩ := by
  rcases hk with ⟨rfl, h⟩ | ⟨rfl, h⟩
  · refine ⟨?_, .inl rfl⟩
    unfold validT inR
    simp
    omega
  · refine ⟨?_, .inr (.inl rfl)⟩
    unfold validT inR
    simp
    omega
theorem vn_float {p : Int} (p1 : 1 ≤ p) (p2 : p ≤ 15) : vN ⟨3, p, 0, 0, false, []⟩ := by
  refine ⟨?_, .inr (.inr rfl)⟩
  unfold validT inR
  simp
  omega
theorem fix_vn {op : UInt8} {x y : Typ} {m : Int} (nx : NT x) (ny : NT y) (h3 : x.kind = 3 → x.p ≤ 15 ∧ y.p ≤ 15) (hm : x.kind = 1 ∧ m = 31 ∨ x.kind = 2 ∧ m = 15 ∨ x.kind = 3 ∧ m = 15) : vN (fixT op (x, y, m)) := by
  obtain ⟨xk, p1, p2, q1, q2⟩ := nx
  obtain ⟨_, p3, p4, q3, q4⟩ := ny
  unfold fixT
  dsimp only
  by_cases h : x.kind = 3
  · rw [if_pos h]
    have := h3 h
    exact vn_float (by omega) (by omega)
  · rw [if_neg h]
    have hb : 1 ≤ (rowT op x y m).1 ∧ (rowT op x y m).1 ≤ m ∧ 0 ≤ (rowT op x y m).2 ∧ (rowT op x y m).2 ≤ 31 := by
      unfold rowT
      split
      · unfold sumT
        dsimp only
        omega
      · split
        · unfold mulT
          dsimp only
          omega
        · unfold divT
          dsimp only
          omega
    exact vn_fix (by omega) hb.1 hb.2.2.1 hb.2.2.2
theorem flt_p {t : Typ} (h : vN t) : (fltT t).p ≤ 15 := by
  obtain ⟨hv, hk⟩ := h
  have hn := num_p hv hk
  unfold fltT
  split
  · exact hn.2.2.2.2 (by omega)
  · split
    · show min 15 ((3 * t.p + 9) / 10) ≤ 15
      omega
    · exact hn.2.2.2.2 (by omega)
theorem flt_k {t : Typ} (h : vN t) : (fltT t).kind = 3 := (by
  rw [flt_plain h]
  split <;> rfl)
theorem res_vn {op : UInt8} {a b : Typ} (ha : vN a) (hb : vN b) : vN (resT op a b) := by
  have na := nt_of ha.1 ha.2
  have nb := nt_of hb.1 hb.2
  unfold resT togT
  split
  · exact fix_vn (nt_flt na) (nt_flt nb) (fun _ => ⟨flt_p ha, flt_p hb⟩) (.inr (.inr ⟨flt_k ha, rfl⟩))
  · rename_i h3
    split
    · exact fix_vn (nt_bin na) (nt_bin nb) (fun e => by rw [bin_kind] at e; cases e) (.inl ⟨bin_kind a, rfl⟩)
    · rename_i h1
      have hk2 : a.kind = 2 := by
        have := ha.2
        omega
      exact fix_vn na nb (fun e => by omega) (.inr (.inl ⟨hk2, rfl⟩))
end Go.Iron.Tryz

/- The pairs' seat: with 0 beside them numbers are reckoned as numbers. -/
namespace Go.Iron.Tryz
open Go.Proofs Go.RowKit Go.Iron.Tok Go.Iron.Dg

def zV (t : Typ) : Vl := ⟨t.kind, 0, if t.kind = 3 then 0 else t.q, []⟩
theorem zero_is {t : Typ} (ht : vN t) : zeroV t = (zV t, 0) := by
  unfold zeroV zV
  rw [if_neg (by rw [ht.1]; decide)]
  obtain ⟨_, hk | hk | hk⟩ := ht
  · rw [if_pos (.inl hk), if_neg (by omega)]
  · rw [if_pos (.inr hk), if_neg (by omega)]
  · rw [if_neg (by omega), if_pos hk, if_pos hk]
theorem zV_has {t : Typ} (ht : vN t) : hasB t (zV t) = true := by
  have h := zero_has t (by rw [zero_is ht])
  rw [zero_is ht] at h
  exact h
theorem zero_fit {t : Typ} (ht : vN t) {x : Ex} (hx : x.num = 0) : fitX t x 2 = (0, if t.kind = 3 then 0 else t.q, 0) := by
  obtain ⟨p1, p2, q1, q2, _⟩ := num_p ht.1 ht.2
  show fitS t.kind t.p.toNat t.q.toNat x.neg x.num x.den _ 2 = _
  unfold fitS
  by_cases h3 : t.kind = 3
  · rw [if_pos h3, if_pos hx, if_pos h3]
  · have hb : 0 < bsN t.kind ^ t.p.toNat := Nat.pow_pos (by unfold bsN; split <;> decide)
    rw [if_neg h3, if_neg h3, hx, Nat.zero_mul, Nat.zero_div, Nat.zero_mod, sgn_zero, if_neg (by omega), show ((t.q.toNat : Nat) : Int) = t.q by omega]
theorem do_val {op : UInt8} {a b : Vl} {t : Typ} (h : askL (some t) [a, b] = 0) (h47 : op ≠ 47) : doV op a b t = (⟨t.kind, (fitX t (opX op (ofE a.kind a.n a.q) (ofE b.kind b.n b.q)) 2).1, (fitX t (opX op (ofE a.kind a.n a.q) (ofE b.kind b.n b.q)) 2).2.1, []⟩, (fitX t (opX op (ofE a.kind a.n a.q) (ofE b.kind b.n b.q)) 2).2.2, 0) := by
  unfold doV
  rw [if_neg (by rw [h]; decide), if_neg (fun e => h47 e.1)]
theorem ofE_zero {k q : Int} : (ofE k 0 q).num = 0 := by
  show Int.natAbs 0 * _ = 0
  exact Nat.zero_mul _
theorem both_zero {x y : Ex} (hx : x.num = 0) (hy : y.num = 0) : (bothE x y).num = 0 := by
  unfold bothE
  split
  · show x.num * y.den + y.num * x.den = 0
    rw [hx, hy, Nat.zero_mul, Nat.zero_mul]
  · split
    · show x.num * y.den - y.num * x.den = 0
      rw [hx, Nat.zero_mul, Nat.zero_sub]
    · show y.num * x.den - x.num * y.den = 0
      rw [hy, Nat.zero_mul, Nat.zero_sub]
theorem by_zero {op : UInt8} {a b : Vl} {t : Typ} (ht : vN t) (ha : Good a) (hb : Good b) (h : (op = 43 ∨ op = 45) ∧ a.n = 0 ∧ b.n = 0 ∨ op = 42 ∧ (a.n = 0 ∨ b.n = 0)) : byV op t a b = .ok (zV t) := by
  have h47 : op ≠ 47 := by rcases h with ⟨rfl | rfl, _⟩ | ⟨rfl, _⟩ <;> decide
  have hx : (opX op (ofE a.kind a.n a.q) (ofE b.kind b.n b.q)).num = 0 := by
    unfold opX
    rcases h with ⟨rfl | rfl, e1, e2⟩ | ⟨rfl, e | e⟩
    · rw [if_pos rfl, e1, e2]
      exact both_zero ofE_zero ofE_zero
    · rw [if_neg (by decide), if_pos rfl, e1, e2]
      exact both_zero ofE_zero ofE_zero
    · rw [if_neg (by decide), if_neg (by decide), if_pos rfl, e]
      show (ofE a.kind 0 a.q).num * _ = 0
      rw [ofE_zero, Nat.zero_mul]
    · rw [if_neg (by decide), if_neg (by decide), if_pos rfl, e]
      show _ * (ofE b.kind 0 b.q).num = 0
      rw [ofE_zero, Nat.mul_zero]
  unfold byV
  rw [do_val (ask_good ht ha hb) h47, zero_fit ht hx, if_pos rfl]
  rfl
theorem has_fix {t : Typ} {v : Vl} (h3 : t.kind = 1 ∨ t.kind = 2) (h : hasB t v = true) : v.q = t.q ∧ v.n.natAbs < bsN t.kind ^ t.p.toNat := by
  unfold hasB hasK at h
  rw [if_pos h3] at h
  simp at h
  exact h.2
theorem has_flt {t : Typ} {v : Vl} (h3 : t.kind = 3) (h : hasB t v = true) : v.right = true ∧ (frm v.n.natAbs).length ≤ t.p.toNat := by
  unfold hasB hasK at h
  rw [if_neg (by omega), if_pos h3] at h
  simp at h
  exact ⟨h.1.1.2, h.2⟩
theorem sub_zero_ex (x y : Ex) (hy : y.num = 0) (hd : 0 < y.den) : (bothE x (turnE y)).num = x.num * y.den ∧ (bothE x (turnE y)).den = x.den * y.den ∧ (bothE x (turnE y)).neg = (x.neg && decide (x.num ≠ 0)) := by
  have ht : turnE y = ⟨false, 0, y.den⟩ := by
    unfold turnE
    rw [hy]
    simp
  rw [ht]
  have hz : decide (x.num * y.den ≠ 0) = decide (x.num ≠ 0) := by
    by_cases h : x.num = 0
    · rw [h, Nat.zero_mul]
    · rw [decide_eq_true (Nat.mul_ne_zero h (by omega)), decide_eq_true h]
  unfold bothE
  dsimp only
  by_cases hn : x.neg = false
  · rw [if_pos hn, Nat.zero_mul, Nat.add_zero, hz]
    exact ⟨rfl, rfl, rfl⟩
  · rw [if_neg hn, Nat.zero_mul, if_pos (Nat.zero_le _), Nat.sub_zero, hz]
    exact ⟨rfl, rfl, rfl⟩
theorem ofE_sgn (k n q : Int) (hk : k ≠ 3) : sgn ((ofE k n q).neg && decide ((ofE k n q).num ≠ 0)) n.natAbs = n := by
  show sgn (decide (n < 0) && decide (n.natAbs * (if k = 3 then 10 ^ q.toNat else 1) ≠ 0)) n.natAbs = n
  rw [if_neg hk, Nat.mul_one, sgn_and]
  unfold sgn
  by_cases h : n < 0
  · rw [decide_eq_true h, if_pos rfl]; omega
  · rw [decide_eq_false h, if_neg (by decide)]; omega
theorem ofE_sgn3 (n q : Int) (hn : n ≠ 0) : sgn ((ofE 3 n q).neg && decide ((ofE 3 n q).num ≠ 0)) n.natAbs = n := by
  have h0 : (ofE 3 n q).num ≠ 0 := by
    show n.natAbs * (if (3 : Int) = 3 then 10 ^ q.toNat else 1) ≠ 0
    rw [if_pos rfl]
    exact Nat.mul_ne_zero (by omega) (Nat.ne_of_gt (Nat.pow_pos (by decide)))
  rw [decide_eq_true h0, Bool.and_true]
  show sgn (decide (n < 0)) n.natAbs = n
  unfold sgn
  by_cases h : n < 0
  · rw [decide_eq_true h, if_pos rfl]; omega
  · rw [decide_eq_false h, if_neg (by decide)]; omega
theorem by_sub0 {t : Typ} {p z : Vl} (ht : vN t) (hp : hasB t p = true) (hz : Good z) (hz0 : z.n = 0) : byV 45 t p z = .ok p := by
  have hg := has_good ht hp
  have hpk := has_kind hp
  obtain ⟨p1, p2, q1, q2, p15⟩ := num_p ht.1 ht.2
  by_cases hn : p.n = 0
  · rw [by_zero ht hg hz (.inl ⟨.inr rfl, hn, hz0⟩)]
    obtain ⟨k, n, q, s⟩ := p
    dsimp only at hn hpk
    subst hn hpk
    obtain ⟨rfl, _⟩ := right_num hg.1 hg.2
    unfold zV
    by_cases h3 : t.kind = 3
    · have hr := hg.1
      unfold Vl.right rightB at hr
      dsimp only at hr
      rw [h3, if_neg (by decide), if_neg (by decide), if_pos rfl, if_pos rfl] at hr
      simp at hr
      rw [if_pos h3, hr]
    · have hk12 : t.kind = 1 ∨ t.kind = 2 := by
        have := ht.2
        omega
      have hq := (has_fix hk12 hp).1
      dsimp only at hq
      rw [if_neg h3, hq]
  · have hy : (ofE z.kind z.n z.q).num = 0 := by rw [hz0]; exact ofE_zero
    obtain ⟨x1, x2, x3⟩ := sub_zero_ex (ofE p.kind p.n p.q) (ofE z.kind z.n z.q) hy (ofE_den _ _ _)
    have hop : opX 45 (ofE p.kind p.n p.q) (ofE z.kind z.n z.q) = bothE (ofE p.kind p.n p.q) (turnE (ofE z.kind z.n z.q)) := rfl
    unfold byV
    rw [do_val (ask_good ht hg hz) (by decide), hop]
    have hyd := ofE_den z.kind z.n z.q
    have hpd := ofE_den p.kind p.n p.q
    generalize (ofE z.kind z.n z.q).den = yd at *
    generalize bothE (ofE p.kind p.n p.q) (turnE (ofE z.kind z.n z.q)) = x at *
    obtain ⟨k, n, q, s⟩ := p
    dsimp only at *
    subst hpk
    obtain ⟨rfl, _⟩ := right_num hg.1 hg.2
    have hf : fitX t x 2 = (n, q, 0) := by
      show fitS t.kind t.p.toNat t.q.toNat x.neg x.num x.den (kF x.num x.den t.p.toNat) 2 = _
      unfold fitS
      by_cases h3 : t.kind = 3
      · obtain ⟨hr, hl⟩ := has_flt h3 hp
        dsimp only at hr hl
        have hr0 := hr
        unfold Vl.right rightB at hr0
        dsimp only at hr0
        rw [h3, if_neg (by decide), if_neg (by decide), if_pos rfl, if_neg hn] at hr0
        simp at hr0
        obtain ⟨⟨h7, h8, h9⟩, h10, h11⟩ := hr0
        have hxn : x.num ≠ 0 := by
          rw [x1]
          refine Nat.mul_ne_zero ?_ (by omega)
          show n.natAbs * _ ≠ 0
          rw [if_pos h3]
          exact Nat.mul_ne_zero (by omega) (Nat.ne_of_gt (Nat.pow_pos (by decide)))
        have hxd : 0 < x.den := by rw [x2]; exact Nat.mul_pos hpd hyd
        have hk := kF_is (num := x.num) (den := x.den) (P := t.p.toNat) hxn (by omega) (by omega)
        have hrep : Rep ⟨n.natAbs, false, q⟩ x.num x.den := by
          have h0 := exact_rep (kd := 3) (n := n) (q := q) (.inr (.inr rfl)) (fun e => absurd rfl e)
          unfold Rep at h0 ⊢
          have h0 : n.natAbs * 1 * (ofE 3 n q).den * e10 q = (ofE 3 n q).num * e10 (-q) := h0
          rw [Nat.mul_one] at h0
          show n.natAbs * x.den * e10 q = x.num * e10 (-q)
          rw [x1, x2, h3, show n.natAbs * ((ofE 3 n q).den * yd) * e10 q = n.natAbs * (ofE 3 n q).den * e10 q * yd by ac_rfl, h0]
          ac_rfl
        have hfl := flt_rep (m := n.natAbs) (by omega) (by omega) hrep hk hxd
        have hfl2 : fltL n.natAbs q t.p.toNat = (n.natAbs, q) := by
          unfold fltL
          rw [if_neg (by omega), normD_end h8]
        rw [if_pos h3, if_neg hxn, ← hfl, hfl2]
        unfold fltO
        dsimp only
        rw [if_neg (by omega), if_neg (by omega), if_neg (by omega), x3, h3, ofE_sgn3 n q hn]
      · have hk12 : t.kind = 1 ∨ t.kind = 2 := by
          have := ht.2
          omega
        obtain ⟨hq, hM⟩ := has_fix hk12 hp
        dsimp only at hq hM
        subst hq
        have hxd : (ofE t.kind n t.q).den = bsN t.kind ^ t.q.toNat := by
          show (if t.kind = 1 then 2 ^ t.q.toNat else if t.kind = 2 then 10 ^ t.q.toNat else 10 ^ (-t.q).toNat) = _
          unfold bsN
          rcases hk12 with h | h
          · rw [if_pos h, if_pos h]
          · rw [if_neg (by omega), if_pos h, if_neg (by omega)]
        have hxn : (ofE t.kind n t.q).num = n.natAbs := by
          show n.natAbs * (if t.kind = 3 then 10 ^ t.q.toNat else 1) = _
          rw [if_neg h3, Nat.mul_one]
        have hb : 0 < bsN t.kind ^ t.q.toNat := by rw [← hxd]; exact hpd
        have hq2 : x.num * bsN t.kind ^ t.q.toNat / x.den = n.natAbs := by
          rw [x1, x2, hxn, hxd, show n.natAbs * yd * bsN t.kind ^ t.q.toNat = n.natAbs * (bsN t.kind ^ t.q.toNat * yd) by ac_rfl]
          exact Nat.mul_div_cancel _ (Nat.mul_pos hb hyd)
        rw [if_neg h3, hq2, Nat.mod_eq_of_lt hM, if_neg (by omega), x3, ofE_sgn t.kind n t.q h3, show ((t.q.toNat : Nat) : Int) = t.q by omega]
    rw [hf, if_pos rfl]
theorem real_pm {op : UInt8} (hop : op = 43 ∨ op = 45) {t ta tb : Typ} {a b : Vl} (ht : vN t) (va : vN ta) (vb : vN tb) : pmV op t ⟨a, zV ta⟩ ⟨b, zV tb⟩ = match byV op t a b with
    | .error c => .error c
    | .ok v => .ok ⟨v, zV t⟩ := by
  unfold pmV
  dsimp only
  rw [by_zero ht (has_good va (zV_has va)) (has_good vb (zV_has vb)) (.inl ⟨hop, rfl, rfl⟩)]
  cases byV op t a b <;> rfl
theorem real_times {t ta tb : Typ} {a b : Vl} (ht : vN t) (va : vN ta) (vb : vN tb) (ha : Good a) (hb : Good b) : timesV t ⟨a, zV ta⟩ ⟨b, zV tb⟩ = match byV 42 t a b with
    | .error c => .error c
    | .ok v => .ok ⟨v, zV t⟩ := by
  have gza := has_good va (zV_has va)
  have gzb := has_good vb (zV_has vb)
  have gz := has_good ht (zV_has ht)
  unfold timesV
  dsimp only
  cases e1 : byV 42 t a b with
  | error c => rfl
  | ok p =>
    have hp := by_has (by decide) ht ha hb e1
    dsimp only
    rw [by_zero (op := 42) ht gza gzb (.inr ⟨rfl, .inl rfl⟩)]
    dsimp only
    rw [by_zero (op := 42) ht ha gzb (.inr ⟨rfl, .inr rfl⟩)]
    dsimp only
    rw [by_zero (op := 42) ht gza hb (.inr ⟨rfl, .inl rfl⟩)]
    dsimp only
    rw [by_sub0 ht hp gz rfl]
    dsimp only
    rw [by_zero (op := 43) ht gz gz (.inl ⟨.inl rfl, rfl, rfl⟩)]
end Go.Iron.Tryz

/- The pairs' seat: the law of Do, walked. -/
namespace Go.Iron.Tryz
open Go.Proofs Go.RowKit Go.Iron.Tok Go.Iron.Dg

end Go.Iron.Tryz

/- The pairs' seat: the reference's Do of single numbers; the law of pairs with 0 beside them. -/
namespace Go.Iron.Tryz
open Go.Proofs Go.RowKit Go.Iron.Tok Go.Iron.Dg

theorem r_asked3 (n1 n2 : Option Bool) (l : List Vl) (ts : List Typ) (hl : l.length ≤ 100000) (hts : ts.length = l.length) (hv : ∀ t ∈ ts, vN t) (hh : ∀ i, i < l.length → hasB (ts.getD i ty0) (l.getD i ⟨0, 0, 0, []⟩) = true) : CallT Tryz.prog 80 [vlS n1 l, tyS n2 ts] [] (fun o A => o = .ret (iv 0) ∧ A = []) := by
  refine callS_body (n := 62) rfl rfl fun w ρ X => ?_
  refine rX rfl ?_
  refine runS_while (fun (i : Nat) τ ar => (τ 0 = vlS n1 l ∧ τ 1 = tyS n2 ts ∧ τ 5 = iv i) ∧ ar = [] ∧ i ≤ l.length) (fun i => l.length - i) 0 ⟨⟨rfl, rfl, rfl⟩, rfl, Nat.zero_le _⟩ ?_
  rintro i τ' ar' ⟨⟨g0, g1, g5⟩, rfl, hi⟩ ih
  refine runS_says 0 (by exact g0) (Says.refl _) ?_; refine runS_says 1 (by exact g1) (Says.refl _) ?_; refine runS_says 5 (by exact g5) (Says.refl _) ?_
  refine rX rfl ?_
  refine runS_cond rfl (fun h => ?_) (fun h => ?_)
  · have hlt : i < l.length := by simp at h; omega
    have hw1 : IntKind.wrap .i64 ((i : Int) + 1) = ((i + 1 : Nat) : Int) := by rw [w64 (by omega) (by omega)]; rfl
    have c1 := r_right (l.getD i ⟨0, 0, 0, []⟩).kind (l.getD i ⟨0, 0, 0, []⟩).n (l.getD i ⟨0, 0, 0, []⟩).q (l.getD i ⟨0, 0, 0, []⟩).s
    have hr : rightB (l.getD i ⟨0, 0, 0, []⟩).kind (l.getD i ⟨0, 0, 0, []⟩).n (l.getD i ⟨0, 0, 0, []⟩).q (l.getD i ⟨0, 0, 0, []⟩).s = true := by
      have h5 := hh i hlt
      unfold hasB at h5
      rw [Bool.and_eq_true, Bool.and_eq_true, Bool.and_eq_true] at h5
      exact h5.1.1.2
    rw [hr] at c1
    refine runS_x (I := inf) (J := jnf) ⟨false, false, [], 0, 0⟩ 9999 rfl (by repeat (first | exact obs_nil | refine obs_draw (by kernel_rfl) ?_ | refine obs_same ?_ | refine obs_and ?_ | refine obs_by (by (simp [inB, hlt] <;> omega)) ?_)) ?_
    refine runS_call rfl rfl rfl rfl rfl rfl rfl c1 ?_
    refine rX rfl ?_
    refine runS_cond rfl (fun h => by cases h) (fun h => ?_)
    refine rX rfl ?_
    exact ih (i + 1) _ _ (by omega) ⟨⟨rfl, rfl, congrArg iv hw1⟩, rfl, by omega⟩
  · clear ih hi g0 g1 g5 h
    refine rX rfl ?_
    refine runS_while (fun (i : Nat) τ ar => (τ 0 = vlS n1 l ∧ τ 1 = tyS n2 ts ∧ τ 6 = iv i) ∧ ar = [] ∧ i ≤ ts.length) (fun i => ts.length - i) 0 ⟨⟨rfl, rfl, rfl⟩, rfl, Nat.zero_le _⟩ ?_
    rintro i τ2 ar2 ⟨⟨g0, g1, g6⟩, rfl, hi⟩ ih
    refine runS_says 0 (by exact g0) (Says.refl _) ?_; refine runS_says 1 (by exact g1) (Says.refl _) ?_; refine runS_says 6 (by exact g6) (Says.refl _) ?_
    refine rX rfl ?_
    refine runS_cond rfl (fun h => ?_) (fun h => ?_)
    · have hlt : i < ts.length := by simp at h; omega
      have hw1 : IntKind.wrap .i64 ((i : Int) + 1) = ((i + 1 : Nat) : Int) := by rw [w64 (by omega) (by omega)]; rfl
      have hvt := (hv _ (List.getElem_mem hlt)).1
      have hd := r_valid (ts.getD i ty0)
      rw [ty_get hlt, hvt, ← ty_get hlt] at hd
      refine runS_x (I := inf) (J := jnf) ⟨false, false, [], 0, 0⟩ 9999 rfl (by repeat (first | exact obs_nil | refine obs_draw (by kernel_rfl) ?_ | refine obs_same ?_ | refine obs_and ?_ | refine obs_by (by (simp [inB, hlt] <;> omega)) ?_)) ?_
      refine runS_call rfl rfl rfl rfl rfl rfl rfl hd ?_
      refine rX rfl ?_
      refine runS_cond rfl (fun h => by cases h) (fun h => ?_)
      refine rX rfl ?_
      exact ih (i + 1) _ _ (by omega) ⟨⟨rfl, rfl, congrArg iv hw1⟩, rfl, by omega⟩
    · clear ih hi g0 g1 g6 h
      refine rX rfl ?_
      refine runS_while (fun (i : Nat) τ ar => (τ 0 = vlS n1 l ∧ τ 1 = tyS n2 ts ∧ τ 7 = iv i) ∧ ar = [] ∧ i ≤ l.length) (fun i => l.length - i) 0 ⟨⟨rfl, rfl, rfl⟩, rfl, Nat.zero_le _⟩ ?_
      rintro i τ3 ar3 ⟨⟨g0, g1, g7⟩, rfl, hi⟩ ih
      refine runS_says 0 (by exact g0) (Says.refl _) ?_; refine runS_says 1 (by exact g1) (Says.refl _) ?_; refine runS_says 7 (by exact g7) (Says.refl _) ?_
      refine rX rfl ?_
      refine runS_cond rfl (fun h => ?_) (fun h => ?_)
      · have hlt : i < l.length := by simp at h; omega
        have hlt2 : i < ts.length := by omega
        have hw1 : IntKind.wrap .i64 ((i : Int) + 1) = ((i + 1 : Nat) : Int) := by rw [w64 (by omega) (by omega)]; rfl
        have c1 := r_has (ts.getD i ty0) (l.getD i ⟨0, 0, 0, []⟩)
        rw [hh i hlt] at c1
        refine runS_x (I := inf) (J := jnf) ⟨false, false, [], 0, 0⟩ 9999 rfl (by repeat (first | exact obs_nil | refine obs_draw (by kernel_rfl) ?_ | refine obs_same ?_ | refine obs_and ?_ | refine obs_by (by (simp [inB, hlt, hlt2] <;> omega)) ?_)) ?_
        refine runS_call rfl rfl rfl rfl rfl rfl rfl c1 ?_
        refine rX rfl ?_
        refine runS_cond rfl (fun h => by cases h) (fun h => ?_)
        refine rX rfl ?_
        exact ih (i + 1) _ _ (by omega) ⟨⟨rfl, rfl, congrArg iv hw1⟩, rfl, by omega⟩
      · clear ih hi g0 g7 h
        refine rX rfl ?_
        refine runS_while (fun (i : Nat) τ ar => (τ 1 = tyS n2 ts ∧ τ 8 = iv i) ∧ ar = [] ∧ i ≤ ts.length) (fun i => ts.length - i) 0 ⟨⟨rfl, rfl⟩, rfl, Nat.zero_le _⟩ ?_
        rintro i τ4 ar4 ⟨⟨g1, g8⟩, rfl, hi⟩ ih
        refine runS_says 1 (by exact g1) (Says.refl _) ?_; refine runS_says 8 (by exact g8) (Says.refl _) ?_
        refine rX rfl ?_
        refine runS_cond rfl (fun h => ?_) (fun h => ?_)
        · have hlt : i < ts.length := by simp at h; omega
          have hw1 : IntKind.wrap .i64 ((i : Int) + 1) = ((i + 1 : Nat) : Int) := by rw [w64 (by omega) (by omega)]; rfl
          have hvt := (hv _ (List.getElem_mem hlt)).2
          have hk : (decide (1 ≤ ts[i].kind) && decide (ts[i].kind ≤ 3)) = true := by simp; omega
          have hd := r_numeric (ts.getD i ty0).kind
          rw [ty_get hlt, hk, ← ty_get hlt] at hd
          refine runS_x (I := inf) (J := jnf) ⟨false, false, [], 0, 0⟩ 9999 rfl (by repeat (first | exact obs_nil | refine obs_draw (by kernel_rfl) ?_ | refine obs_same ?_ | refine obs_and ?_ | refine obs_by (by (simp [inB, hlt] <;> omega)) ?_)) ?_
          refine runS_call rfl rfl rfl rfl rfl rfl rfl hd ?_
          refine rX rfl ?_
          refine runS_cond rfl (fun h => by cases h) (fun h => ?_)
          refine rX rfl ?_
          exact ih (i + 1) _ _ (by omega) ⟨⟨rfl, congrArg iv hw1⟩, rfl, by omega⟩
        · refine rX rfl ?_
          refine runS_ret (I := inf) 0 rfl (Nat.le_refl _) rfl .nil rfl ⟨?_, rfl⟩
          rfl
def isR (op : UInt8) : Prop := op = 43 ∨ op = 45 ∨ op = 42
theorem r_do3 (op : UInt8) (hop : isR op) (a b : Vl) (ta tb : Typ) (va : vN ta) (vb : vN tb) (ha : hasB ta a = true) (hb : hasB tb b = true) : CallT Tryz.prog 28 [sv [op], .agg (vlE a), .agg (vlE b), .agg (typE ta), .agg (typE tb)] [] (fun o A => o = .ret (.tup [.agg (vlE (doV op a b (resT op ta tb)).1), .agg (typE (resT op ta tb)), iv (doV op a b (resT op ta tb)).2.1, iv 0]) ∧ A = []) := by
  have hak := r_asked3 none none [a, b] [ta, tb] (by simp) rfl (by intro t ht; simp at ht; rcases ht with rfl | rfl; exact va; exact vb) (by
    intro i hi
    rcases i with _ | _ | i
    · exact ha
    · exact hb
    · simp at hi; omega)
  have hra : CallT Tryz.prog 75 [sv [op], .agg (typE ta), .agg (typE tb)] [] (fun o A => o = .ret (.tup [.agg (typE (resT op ta tb)), iv 0]) ∧ A = []) := by
    rcases hop with rfl | rfl | rfl
    · exact r_Result43 ta tb va vb
    · exact r_Result45 ta tb va vb
    · exact r_Result42 ta tb va vb
  have hd := r_do op (by rcases hop with h | h | h; exact .inl h; exact .inr (.inl h); exact .inr (.inr (.inl h))) a b (resT op ta tb)
  generalize resT op ta tb = t at *
  generalize doV op a b t = R at *
  obtain ⟨v, c, e⟩ := R
  dsimp only at hd ⊢
  refine callS_body (n := 70) rfl rfl fun w ρ X => ?_
  refine rX rfl ?_
  refine runS_tell 6 (vlR [a, b]) rfl (m' := 2) rfl (fun j hj => ?_) rfl ?_
  · rcases j with _ | _ | j <;> first | rfl | omega
  refine runS_tell 7 (tyR [ta, tb]) rfl (m' := 2) rfl (fun j hj => ?_) rfl ?_
  · rcases j with _ | _ | j <;> first | rfl | omega
  refine runS_freeze 24 rfl rfl rfl (fun j hj => ?_) ?_
  · rcases j with _ | _ | j <;> first | rfl | omega
  refine runS_freeze 27 rfl rfl rfl (fun j hj => ?_) ?_
  · rcases j with _ | _ | j <;> first | rfl | omega
  refine runS_call rfl rfl rfl rfl rfl rfl rfl hak ?_
  refine rX rfl ?_
  refine runS_cond rfl (fun h => by cases h) (fun h => ?_)
  refine rX rfl ?_
  refine runS_call rfl rfl rfl rfl rfl rfl rfl hra ?_
  refine rX rfl ?_
  refine runS_cond rfl (fun h => by cases h) (fun h => ?_)
  refine rX rfl ?_
  refine runS_cond rfl (fun h => by rw [show (ByteArray.mk #[42, 42]) = bs [42, 42] from rfl, bs_beq] at h; simp at h) (fun h => ?_)
  refine rX rfl ?_
  refine runS_call rfl rfl rfl rfl rfl rfl rfl hd ?_
  refine rX rfl ?_
  refine runS_drawG (ch := []) (A2 := fun _ => []) 7 [3, 4] (fun w => [.box 23 (vlE a), .box 23 (vlE b), .box 25 (typE ta), .box 25 (typE tb), .box 23 (cond (w.getD 0 false) (vlE v) vlZ), .box 25 (cond (w.getD 1 false) (typE t) (typE ty0)), .gone, .gone, .box 25 (typE t), .box 23 (vlE v)]) none (c := 9) jnfI.draw (by kernel_rfl) rfl (lexg_g (I := inf) (J := jnf) none ⟨⟨⟨_, rfl, ob0⟩, oi⟩, oj⟩ rfl rfl rfl rfl (lexg_g (I := inf) (J := jnf) none ⟨⟨⟨_, rfl, ob0⟩, oi⟩, oj⟩ rfl rfl rfl rfl (lexg_g (I := inf) (J := jnf) none ⟨⟨⟨_, rfl, ob0⟩, oi⟩, oj⟩ rfl rfl rfl rfl (lexg_g (I := inf) (J := jnf) (some .store) ⟨⟨⟨_, rfl, ob0⟩, oi⟩, .inl rfl⟩ rfl rfl rfl rfl (lexg_g (I := inf) (J := jnf) (some .store) ⟨⟨⟨_, rfl, ob0⟩, .inl rfl⟩, (by first | exact .inl (by decide +kernel) | exact .inr ⟨⟨_, rfl, ob0⟩, .inl rfl⟩)⟩ rfl rfl rfl rfl (lexg_g (I := inf) (J := jnf) none ⟨⟨⟨_, rfl, ob0⟩, oi⟩, oj⟩ rfl rfl rfl rfl (lexg_g (I := inf) (J := jnf) none ⟨⟨⟨_, rfl, ob0⟩, oi⟩, oj⟩ rfl rfl rfl rfl lexg_nil))))))) rfl (fun _ => ?_) (fun h => by cases h)
  refine rX rfl ?_
  refine runS_ret (I := inf) 0 rfl (Nat.le_refl _) rfl .nil rfl ⟨?_, rfl⟩
  rfl
theorem ask_real {a b : Vl} {ta tb : Typ} (va : vN ta) (vb : vN tb) (ha : hasB ta a = true) (hb : hasB tb b = true) : askP [⟨a, zV ta⟩, ⟨b, zV tb⟩] [ta, tb] = 0 := by
  have ga := has_good va ha
  have gb := has_good vb hb
  have gza := has_good va (zV_has va)
  have gzb := has_good vb (zV_has vb)
  have h1 := zV_has va
  have h2 := zV_has vb
  have k1 : ta.kind ≤ 3 := by have := va.2; omega
  have k2 : tb.kind ≤ 3 := by have := vb.2; omega
  unfold askP
  rw [if_neg (by simp [pRight, ga.1, gb.1, gza.1, gzb.1]), if_neg (by simp [List.range_succ, pHas, ha, hb, h1, h2, va.1, vb.1]), if_neg (by simp [k1, k2])]
theorem real_do {op : UInt8} (hop : isR op) {a b : Vl} {ta tb : Typ} (va : vN ta) (vb : vN tb) (ha : hasB ta a = true) (hb : hasB tb b = true) :
    (dopV op ⟨a, zV ta⟩ ⟨b, zV tb⟩ ta tb).2.1 = resT op ta tb ∧ (dopV op ⟨a, zV ta⟩ ⟨b, zV tb⟩ ta tb).2.2.1 = (doV op a b (resT op ta tb)).2.1 ∧ (dopV op ⟨a, zV ta⟩ ⟨b, zV tb⟩ ta tb).2.2.2 = 0 ∧
    ((doV op a b (resT op ta tb)).2.1 = 0 → (dopV op ⟨a, zV ta⟩ ⟨b, zV tb⟩ ta tb).1.re = (doV op a b (resT op ta tb)).1 ∧ (dopV op ⟨a, zV ta⟩ ⟨b, zV tb⟩ ta tb).1.im.n = 0) := by
  have ht := res_vn (op := op) va vb
  have h47 : op ≠ 47 := by rcases hop with rfl | rfl | rfl <;> decide
  have ia : inT op ta = ta := if_neg h47
  have ib : inT op tb = tb := if_neg h47
  unfold dopV
  rw [ia, ib]
  dsimp only
  generalize resT op ta tb = t at *
  have hR : opP op t ⟨a, zV ta⟩ ⟨b, zV tb⟩ = match byV op t a b with
      | .error c => .error c
      | .ok v => .ok ⟨v, zV t⟩ := by
    unfold opP
    rcases hop with rfl | rfl | rfl
    · rw [if_pos (.inl rfl)]
      exact real_pm (.inl rfl) ht va vb
    · rw [if_pos (.inr rfl)]
      exact real_pm (.inr rfl) ht va vb
    · rw [if_neg (by decide), if_pos rfl]
      exact real_times ht va vb (has_good va ha) (has_good vb hb)
  rw [hR]
  unfold byV
  by_cases hc : (doV op a b t).2.1 = 0
  · rw [if_pos hc, hc]
    exact ⟨rfl, rfl, rfl, fun _ => ⟨rfl, rfl⟩⟩
  · rw [if_neg hc]
    exact ⟨rfl, rfl, rfl, fun h => absurd h hc⟩
theorem l_real (s : Str) (a b : Vl) (ta tb : Typ) : CallT Tryz.prog 5 [sv s, .agg (vlE a), .agg (vlE b), .agg (typE ta), .agg (typE tb)] [] (fun o A => o = .ret (bv true) ∧ A = []) := by
  have ca := r_has ta a
  have cb := r_has tb b
  have na := r_numeric ta.kind
  have nb := r_numeric tb.kind
  obtain ⟨na', hna⟩ : ∃ x, (decide (1 ≤ ta.kind) && decide (ta.kind ≤ 3)) = x := ⟨_, rfl⟩
  obtain ⟨nb', hnb⟩ : ∃ x, (decide (1 ≤ tb.kind) && decide (tb.kind ≤ 3)) = x := ⟨_, rfl⟩
  rw [hna] at na
  rw [hnb] at nb
  obtain ⟨ha', hha⟩ : ∃ x, hasB ta a = x := ⟨_, rfl⟩
  obtain ⟨hb', hhb⟩ : ∃ x, hasB tb b = x := ⟨_, rfl⟩
  rw [hha] at ca
  rw [hhb] at cb
  by_cases hgo : (∃ op, s = [op] ∧ isR op) ∧ ha' = true ∧ hb' = true ∧ na' = true ∧ nb' = true
  · obtain ⟨⟨op, rfl, hop⟩, rfl, rfl, rfl, rfl⟩ := hgo
    have hgood : ∀ {t : Typ} {v : Vl}, hasB t v = true → (decide (1 ≤ t.kind) && decide (t.kind ≤ 3)) = true → vN t := fun {t v} h1 h2 => by
      unfold hasB at h1
      rw [Bool.and_eq_true, Bool.and_eq_true, Bool.and_eq_true] at h1
      rw [Bool.and_eq_true] at h2
      have e1 := of_decide_eq_true h2.1
      have e2 := of_decide_eq_true h2.2
      exact ⟨h1.1.1.1, by omega⟩
    have va := hgood hha hna
    have vb := hgood hhb hnb
    obtain ⟨d1, d2, d3, d4⟩ := real_do hop va vb hha hhb
    have hdo : doPV [op] ⟨a, zV ta⟩ ⟨b, zV tb⟩ ta tb = dopV op ⟨a, zV ta⟩ ⟨b, zV tb⟩ ta tb := by
      unfold doPV
      rw [if_neg (by rw [ask_real va vb hha hhb]; decide)]
      rcases hop with rfl | rfl | rfl
      · rw [if_pos rfl]
      · rw [if_neg (by decide), if_pos rfl]
      · rw [if_neg (by decide), if_neg (by decide), if_pos rfl]
    have c1 := p_DoV [op] ⟨a, zV ta⟩ ⟨b, zV tb⟩ ta tb
    rw [hdo] at c1
    have c2 := r_do3 op hop a b ta tb va vb hha hhb
    have z1 := r_Zero ta
    have z2 := r_Zero tb
    rw [zero_is va] at z1
    rw [zero_is vb] at z2
    generalize dopV op ⟨a, zV ta⟩ ⟨b, zV tb⟩ ta tb = D at *
    generalize doV op a b (resT op ta tb) = W at *
    generalize resT op ta tb = t at *
    generalize zV ta = zA at *
    generalize zV tb = zB at *
    obtain ⟨⟨⟨rk, rn, rq, rs⟩, ⟨ik, im, iq, is⟩⟩, ⟨tk, tp, tq, tn, tv, tc⟩, c, e⟩ := D
    obtain ⟨⟨wk, wn, wq, ws⟩, wc, we⟩ := W
    dsimp only at d1 d2 d3 d4 c1 c2 z1 z2
    subst d1 d2 d3
    have hcd : (if (if (if (if (if (if (!((bs [op]).toList == (bs [43]).toList)) = true then !((bs [op]).toList == (bs [45]).toList) else false) = true then !((bs [op]).toList == (bs [42]).toList) else false) = true then true else !true) = true then true else !true) = true then true else !true) = true then true else !true) = false := by
      simp only [bs_beq]
      rcases hop with rfl | rfl | rfl <;> decide
    clear hdo hgood hha hhb hna hnb
    refine callS_body (n := 127) rfl rfl fun w ρ X => ?_
    refine rX rfl ?_
    refine runS_callU rfl rfl (by first | exact .v rfl rfl rfl rfl | exact .o rfl rfl rfl rfl) rfl rfl (by repeat (first | exact .nil | refine .cons (.n rfl) ?_ | refine .cons .o ?_ | refine .cons gok_and ?_)) rfl rfl rfl rfl rfl (fun _ => ca) ?_
    refine rX rfl ?_
    refine runS_callU rfl rfl (by first | exact .v rfl rfl rfl rfl | exact .o rfl rfl rfl rfl) rfl rfl (by repeat (first | exact .nil | refine .cons (.n rfl) ?_ | refine .cons .o ?_ | refine .cons gok_and ?_)) rfl rfl rfl rfl rfl (fun _ => cb) ?_
    refine rX rfl ?_
    refine runS_callU rfl rfl (by first | exact .v rfl rfl rfl rfl | exact .o rfl rfl rfl rfl) rfl rfl (by repeat (first | exact .nil | refine .cons (.n rfl) ?_ | refine .cons .o ?_ | refine .cons gok_and ?_)) rfl rfl rfl rfl rfl (fun _ => na) ?_
    refine rX rfl ?_
    refine runS_callU rfl rfl (by first | exact .v rfl rfl rfl rfl | exact .o rfl rfl rfl rfl) rfl rfl (by repeat (first | exact .nil | refine .cons (.n rfl) ?_ | refine .cons .o ?_ | refine .cons gok_and ?_)) rfl rfl rfl rfl rfl (fun _ => nb) ?_
    refine rX rfl ?_
    refine runS_cond rfl (fun h => Bool.noConfusion (hcd.symm.trans h)) (fun h => ?_)
    clear hcd h
    refine rX rfl ?_
    refine runS_call rfl rfl rfl rfl rfl rfl rfl z1 ?_
    refine rX rfl ?_
    refine runS_call rfl rfl rfl rfl rfl rfl rfl z2 ?_
    refine rX rfl ?_
    refine runS_call rfl rfl rfl rfl rfl rfl rfl c1 ?_
    refine rX rfl ?_
    refine runS_call rfl rfl rfl rfl rfl rfl rfl c2 ?_
    refine rX rfl ?_
    refine runS_cond rfl (fun h => ?_) (fun h => ?_)
    · exfalso
      simp at h
    · clear h
      refine rX rfl ?_
      refine runS_callU rfl rfl (by first | exact .v rfl rfl rfl rfl | exact .o rfl rfl rfl rfl) rfl rfl (by repeat (first | exact .nil | refine .cons (.n rfl) ?_ | refine .cons .o ?_ | refine .cons gok_and ?_)) rfl rfl rfl rfl rfl (fun _ => l_awakeP) ?_
      refine rX rfl ?_
      refine runS_ret (I := inf) 0 rfl (Nat.le_refl _) rfl .nil rfl ⟨?_, rfl⟩
      refine congrArg (fun z => Out.ret (bv z)) (?_ : _ = true)
      by_cases he : c = 0
      · obtain ⟨e1, e2⟩ := d4 he
        injection e1 with f1 f2 f3 f4
        simp [he, e2, f1, f2, f3, f4]
      · simp [he]
  · have hcd : (if (if (if (if (if (if (!((bs s).toList == (bs [43]).toList)) = true then !((bs s).toList == (bs [45]).toList) else false) = true then !((bs s).toList == (bs [42]).toList) else false) = true then true else !ha') = true then true else !hb') = true then true else !na') = true then true else !nb') = true := by
      simp only [bs_beq]
      cases hv : (if (if (if (if (if (if (!decide (s = [43])) = true then !decide (s = [45]) else false) = true then !decide (s = [42]) else false) = true then true else !ha') = true then true else !hb') = true then true else !na') = true then true else !nb') with
      | true => rfl
      | false =>
        exfalso
        apply hgo
        by_cases o1 : s = [43]
        · refine ⟨⟨43, o1, .inl rfl⟩, ?_⟩
          cases ha' <;> cases hb' <;> cases na' <;> cases nb' <;> simp [o1] at hv ⊢
        · by_cases o2 : s = [45]
          · refine ⟨⟨45, o2, .inr (.inl rfl)⟩, ?_⟩
            cases ha' <;> cases hb' <;> cases na' <;> cases nb' <;> simp [o2] at hv ⊢
          · by_cases o3 : s = [42]
            · refine ⟨⟨42, o3, .inr (.inr rfl)⟩, ?_⟩
              cases ha' <;> cases hb' <;> cases na' <;> cases nb' <;> simp [o3] at hv ⊢
            · simp [o1, o2, o3] at hv
    refine callS_body (n := 127) rfl rfl fun w ρ X => ?_
    refine rX rfl ?_
    refine runS_callU rfl rfl (by first | exact .v rfl rfl rfl rfl | exact .o rfl rfl rfl rfl) rfl rfl (by repeat (first | exact .nil | refine .cons (.n rfl) ?_ | refine .cons .o ?_ | refine .cons gok_and ?_)) rfl rfl rfl rfl rfl (fun _ => ca) ?_
    refine rX rfl ?_
    refine runS_callU rfl rfl (by first | exact .v rfl rfl rfl rfl | exact .o rfl rfl rfl rfl) rfl rfl (by repeat (first | exact .nil | refine .cons (.n rfl) ?_ | refine .cons .o ?_ | refine .cons gok_and ?_)) rfl rfl rfl rfl rfl (fun _ => cb) ?_
    refine rX rfl ?_
    refine runS_callU rfl rfl (by first | exact .v rfl rfl rfl rfl | exact .o rfl rfl rfl rfl) rfl rfl (by repeat (first | exact .nil | refine .cons (.n rfl) ?_ | refine .cons .o ?_ | refine .cons gok_and ?_)) rfl rfl rfl rfl rfl (fun _ => na) ?_
    refine rX rfl ?_
    refine runS_callU rfl rfl (by first | exact .v rfl rfl rfl rfl | exact .o rfl rfl rfl rfl) rfl rfl (by repeat (first | exact .nil | refine .cons (.n rfl) ?_ | refine .cons .o ?_ | refine .cons gok_and ?_)) rfl rfl rfl rfl rfl (fun _ => nb) ?_
    refine rX rfl ?_
    refine runS_cond rfl (fun h => ?_) (fun h => Bool.noConfusion (hcd.symm.trans h))
    refine rX rfl ?_
    refine runS_call rfl rfl rfl rfl rfl rfl rfl l_awakeP ?_
    refine rX rfl ?_
    refine runS_ret (I := inf) 0 rfl (Nat.le_refl _) rfl .nil rfl ⟨?_, rfl⟩
    rfl
end Go.Iron.Tryz
