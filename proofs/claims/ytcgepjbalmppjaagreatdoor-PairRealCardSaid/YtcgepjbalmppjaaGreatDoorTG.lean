/- The pairs' seat: the rules of results' types. -/
import Derived.Test.YtcgepjbalmppjaaGreatDoorTC
import Derived.Test.YtcgepjbalmppjaaGreatDoorTE
import Derived.Test.YtcgepjbalmppjaaGreatDoorTF
namespace Go.Iron.Tryz
open Go.Proofs Go.RowKit Go.Iron.Tok Go.Iron.Dg

def fltT (t : Typ) : Typ := if t.kind = 2 then ⟨3, t.p, 0, 0, false, []⟩ else if t.kind = 1 then ⟨3, min 15 ((3 * t.p + 9) / 10), 0, 0, false, []⟩ else t
def binT (t : Typ) : Typ := if t.kind = 1 then t else ⟨1, min 31 ((10 * t.p + 2) / 3 + 1), min 31 ((10 * t.q + 2) / 3), 0, false, []⟩
def togT (a b : Typ) : Typ × Typ × Int := if a.kind = 3 ∨ b.kind = 3 then (fltT a, fltT b, 15) else if a.kind = 1 ∨ b.kind = 1 then (binT a, binT b, 31) else (a, b, 15)
def sumT (a b : Typ) (most : Int) : Int × Int := (min most (max 1 (max (a.p - a.q) (b.p - b.q) + max a.q b.q + 1)), max a.q b.q)
def mulT (a b : Typ) (most : Int) : Int × Int := (min most (a.p + b.p + 1), min 31 (a.q + b.q))
def divT (a b : Typ) (most : Int) : Int × Int := (most, max 0 (min 31 (most - a.p + a.q - b.q)))
def rowT (op : UInt8) (a b : Typ) (most : Int) : Int × Int := if op = 43 ∨ op = 45 then sumT a b most else if op = 42 then mulT a b most else divT a b most
def fixT (op : UInt8) (z : Typ × Typ × Int) : Typ := if z.1.kind = 3 then ⟨3, max z.1.p z.2.1.p, 0, 0, false, []⟩ else ⟨z.1.kind, (rowT op z.1 z.2.1 z.2.2).1, (rowT op z.1 z.2.1 z.2.2).2, 0, false, []⟩
def resT (op : UInt8) (a b : Typ) : Typ := fixT op (togT a b)
structure NT (t : Typ) : Prop where
  k : t.kind = 1 ∨ t.kind = 2 ∨ t.kind = 3
  p1 : 1 ≤ t.p
  p2 : t.p ≤ 31
  q1 : 0 ≤ t.q
  q2 : t.q ≤ 31
theorem minI (p q : Int) : (if q < p then q else p) = min p q := by omega
theorem maxI (p q : Int) : (if q > p then q else p) = max p q := by omega
theorem tdivI {a b : Int} (h : 0 ≤ a) (hb : 0 ≤ b) : a.tdiv b = a / b := Int.tdiv_eq_ediv_of_nonneg h
theorem p_float (t : Typ) (h : NT t) : CallT Tryz.prog 134 [.agg (typE t)] [] (fun o A => o = .ret (.agg (typE (fltT t))) ∧ A = []) := by
  obtain ⟨hk, p1, p2, q1, q2⟩ := h
  obtain ⟨k, p, q, n, vr, pc⟩ := t
  dsimp only at hk p1 p2 q1 q2
  unfold fltT
  dsimp only
  have hw : (if IntKind.wrap .i64 ((IntKind.wrap .i64 (IntKind.wrap .i64 (3 * p) + 9)).tdiv 10) < 15 then IntKind.wrap .i64 ((IntKind.wrap .i64 (IntKind.wrap .i64 (3 * p) + 9)).tdiv 10) else 15) = min 15 ((3 * p + 9) / 10) := by
    rw [w64 (x := 3 * p) (by omega) (by omega), w64 (x := 3 * p + 9) (by omega) (by omega), tdivI (by omega) (by omega), w64 (by omega) (by omega), minI]
  refine callS_body (n := 20) rfl rfl fun w ρ X => ?_
  refine rX rfl ?_
  refine runS_cond rfl (fun h => ?_) (fun h => ?_)
  · have h2 : k = 2 := by simpa using (show (k == 2) = true from h)
    rw [if_pos h2]
    refine rX rfl ?_
    refine runS_ret (I := inf) 0 rfl (Nat.le_refl _) rfl .nil rfl ⟨?_, rfl⟩
    rfl
  · have h2 : ¬ k = 2 := by simpa using (show (k == 2) = false from h)
    rw [if_neg h2]
    refine rX rfl ?_
    refine runS_cond rfl (fun h => ?_) (fun h => ?_)
    · have h1 : k = 1 := by simpa using (show (k == 1) = true from h)
      rw [if_pos h1]
      refine rX rfl ?_
      refine runS_ret (I := inf) 0 rfl (Nat.le_refl _) rfl .nil rfl ⟨?_, rfl⟩
      exact congrArg (fun z => Out.ret (.agg [iv 3, iv z, iv 0, iv 0, bv false, sv []])) hw
    · have h1 : ¬ k = 1 := by simpa using (show (k == 1) = false from h)
      rw [if_neg h1]
      refine rX rfl ?_
      refine runS_ret (I := inf) 0 rfl (Nat.le_refl _) rfl .nil rfl ⟨?_, rfl⟩
      rfl
theorem p_must (e : Int) : CallT Tryz.prog 191 [bv true, iv e] [] (fun o A => o = .ret (.tup []) ∧ A = []) := by
  refine callS_body (n := 9) rfl rfl fun w ρ X => ?_
  refine runS_x (I := inf) (J := jnf) ⟨true, false, [], 0, 0⟩ 9999 rfl ob1 ?_
  refine runS_ret (I := inf) 0 rfl (Nat.le_refl _) rfl .nil rfl ⟨?_, rfl⟩
  rfl
theorem p_binary (t : Typ) (h : NT t) (h3 : t.kind ≠ 3) : CallT Tryz.prog 192 [.agg (typE t)] [] (fun o A => o = .ret (.agg (typE (binT t))) ∧ A = []) := by
  obtain ⟨hk, p1, p2, q1, q2⟩ := h
  obtain ⟨k, p, q, n, vr, pc⟩ := t
  dsimp only at hk p1 p2 q1 q2 h3
  unfold binT
  dsimp only
  have hk3 : (!(k == 3)) = true := by simpa using h3
  have hm := p_must 10
  rw [← hk3] at hm
  refine callS_body (n := 25) rfl rfl fun w ρ X => ?_
  refine rX rfl ?_
  refine runS_call rfl rfl rfl rfl rfl rfl rfl hm ?_
  refine rX rfl ?_
  refine runS_cond rfl (fun h => ?_) (fun h => ?_)
  · have h1 : k = 1 := by simpa using (show (k == 1) = true from h)
    rw [if_pos h1]
    refine rX rfl ?_
    refine runS_ret (I := inf) 0 rfl (Nat.le_refl _) rfl .nil rfl ⟨?_, rfl⟩
    rfl
  · have h1 : ¬ k = 1 := by simpa using (show (k == 1) = false from h)
    rw [if_neg h1]
    have e1 : IntKind.wrap .i64 (IntKind.wrap .i64 (10 * p) + 2) = 10 * p + 2 := by rw [w64 (x := 10 * p) (by omega) (by omega), w64 (by omega) (by omega)]
    have e2 : IntKind.wrap .i64 (IntKind.wrap .i64 (10 * q) + 2) = 10 * q + 2 := by rw [w64 (x := 10 * q) (by omega) (by omega), w64 (by omega) (by omega)]
    have e3 : IntKind.wrap .i64 ((10 * p + 2).tdiv 3) = (10 * p + 2) / 3 := by rw [tdivI (by omega) (by omega), w64 (by omega) (by omega)]
    have e4 : IntKind.wrap .i64 ((10 * q + 2).tdiv 3) = (10 * q + 2) / 3 := by rw [tdivI (by omega) (by omega), w64 (by omega) (by omega)]
    have e5 : IntKind.wrap .i64 ((10 * p + 2) / 3 + 1) = (10 * p + 2) / 3 + 1 := w64 (by omega) (by omega)
    refine rX rfl ?_
    refine runS_ret (I := inf) 0 rfl (Nat.le_refl _) rfl .nil rfl ⟨?_, rfl⟩
    refine congrArg Out.ret (congrArg AV.agg ?_)
    show [iv 1, iv (if IntKind.wrap .i64 (IntKind.wrap .i64 ((IntKind.wrap .i64 (IntKind.wrap .i64 (10 * p) + 2)).tdiv 3) + 1) < 31 then IntKind.wrap .i64 (IntKind.wrap .i64 ((IntKind.wrap .i64 (IntKind.wrap .i64 (10 * p) + 2)).tdiv 3) + 1) else 31), iv (if IntKind.wrap .i64 ((IntKind.wrap .i64 (IntKind.wrap .i64 (10 * q) + 2)).tdiv 3) < 31 then IntKind.wrap .i64 ((IntKind.wrap .i64 (IntKind.wrap .i64 (10 * q) + 2)).tdiv 3) else 31), iv 0, bv false, sv []] = _
    rw [e1, e2, e3, e4, e5, minI, minI]
theorem nt_flt {t : Typ} (h : NT t) : NT (fltT t) := by
  obtain ⟨hk, p1, p2, q1, q2⟩ := h
  unfold fltT
  split
  · exact ⟨.inr (.inr rfl), p1, p2, (show (0 : Int) ≤ 0 by decide), (show (0 : Int) ≤ 31 by decide)⟩
  · split
    · refine ⟨.inr (.inr rfl), ?_, ?_, (show (0 : Int) ≤ 0 by decide), (show (0 : Int) ≤ 31 by decide)⟩
      · show 1 ≤ min 15 ((3 * t.p + 9) / 10); omega
      · show min 15 ((3 * t.p + 9) / 10) ≤ 31; omega
    · exact ⟨hk, p1, p2, q1, q2⟩
theorem nt_bin {t : Typ} (h : NT t) : NT (binT t) := by
  obtain ⟨hk, p1, p2, q1, q2⟩ := h
  unfold binT
  split
  · exact ⟨hk, p1, p2, q1, q2⟩
  · refine ⟨.inl rfl, ?_, ?_, ?_, ?_⟩
    · show 1 ≤ min 31 ((10 * t.p + 2) / 3 + 1); omega
    · show min 31 ((10 * t.p + 2) / 3 + 1) ≤ 31; omega
    · show 0 ≤ min 31 ((10 * t.q + 2) / 3); omega
    · show min 31 ((10 * t.q + 2) / 3) ≤ 31; omega
theorem p_sum (a b : Typ) (ha : NT a) (hb : NT b) (m : Int) (hm : m = 15 ∨ m = 31) : CallT Tryz.prog 193 [.agg (typE a), .agg (typE b), iv m] [] (fun o A => o = .ret (.tup [iv (sumT a b m).1, iv (sumT a b m).2]) ∧ A = []) := by
  obtain ⟨_, p1, p2, q1, q2⟩ := ha
  obtain ⟨_, p3, p4, q3, q4⟩ := hb
  obtain ⟨ak, ap, aq, an, avr, ac⟩ := a
  obtain ⟨bk, bp, bq, bn, bvr, bc⟩ := b
  dsimp only at p1 p2 q1 q2 p3 p4 q3 q4
  unfold sumT
  dsimp only
  refine callS_body (n := 32) rfl rfl fun w ρ X => ?_
  refine rX rfl ?_
  refine runS_ret (I := inf) 0 rfl (Nat.le_refl _) rfl .nil rfl ⟨?_, rfl⟩
  refine congrArg Out.ret ?_
  show AV.tup [iv (if (if IntKind.wrap .i64 (IntKind.wrap .i64 ((if IntKind.wrap .i64 (bp - bq) > IntKind.wrap .i64 (ap - aq) then IntKind.wrap .i64 (bp - bq) else IntKind.wrap .i64 (ap - aq)) + (if bq > aq then bq else aq)) + 1) > 1 then IntKind.wrap .i64 (IntKind.wrap .i64 ((if IntKind.wrap .i64 (bp - bq) > IntKind.wrap .i64 (ap - aq) then IntKind.wrap .i64 (bp - bq) else IntKind.wrap .i64 (ap - aq)) + (if bq > aq then bq else aq)) + 1) else 1) < m then (if IntKind.wrap .i64 (IntKind.wrap .i64 ((if IntKind.wrap .i64 (bp - bq) > IntKind.wrap .i64 (ap - aq) then IntKind.wrap .i64 (bp - bq) else IntKind.wrap .i64 (ap - aq)) + (if bq > aq then bq else aq)) + 1) > 1 then IntKind.wrap .i64 (IntKind.wrap .i64 ((if IntKind.wrap .i64 (bp - bq) > IntKind.wrap .i64 (ap - aq) then IntKind.wrap .i64 (bp - bq) else IntKind.wrap .i64 (ap - aq)) + (if bq > aq then bq else aq)) + 1) else 1) else m), iv (if bq > aq then bq else aq)] = _
  rw [w64 (x := bp - bq) (by omega) (by omega), w64 (x := ap - aq) (by omega) (by omega), maxI (ap - aq) (bp - bq), maxI aq bq]
  rw [w64 (x := max (ap - aq) (bp - bq) + max aq bq) (by omega) (by omega), w64 (x := max (ap - aq) (bp - bq) + max aq bq + 1) (by omega) (by omega), maxI, minI]
theorem p_mulR (a b : Typ) (ha : NT a) (hb : NT b) (m : Int) (hm : m = 15 ∨ m = 31) : CallT Tryz.prog 194 [.agg (typE a), .agg (typE b), iv m] [] (fun o A => o = .ret (.tup [iv (mulT a b m).1, iv (mulT a b m).2]) ∧ A = []) := by
  obtain ⟨_, p1, p2, q1, q2⟩ := ha
  obtain ⟨_, p3, p4, q3, q4⟩ := hb
  obtain ⟨ak, ap, aq, an, avr, ac⟩ := a
  obtain ⟨bk, bp, bq, bn, bvr, bc⟩ := b
  dsimp only at p1 p2 q1 q2 p3 p4 q3 q4
  unfold mulT
  dsimp only
  refine callS_body (n := 22) rfl rfl fun w ρ X => ?_
  refine rX rfl ?_
  refine runS_ret (I := inf) 0 rfl (Nat.le_refl _) rfl .nil rfl ⟨?_, rfl⟩
  refine congrArg Out.ret ?_
  show AV.tup [iv (if IntKind.wrap .i64 (IntKind.wrap .i64 (ap + bp) + 1) < m then IntKind.wrap .i64 (IntKind.wrap .i64 (ap + bp) + 1) else m), iv (if IntKind.wrap .i64 (aq + bq) < 31 then IntKind.wrap .i64 (aq + bq) else 31)] = _
  rw [w64 (x := ap + bp) (by omega) (by omega), w64 (x := ap + bp + 1) (by omega) (by omega), w64 (x := aq + bq) (by omega) (by omega), minI, minI]
theorem p_divR (a b : Typ) (ha : NT a) (hb : NT b) (m : Int) (hm : m = 15 ∨ m = 31) : CallT Tryz.prog 195 [.agg (typE a), .agg (typE b), iv m] [] (fun o A => o = .ret (.tup [iv (divT a b m).1, iv (divT a b m).2]) ∧ A = []) := by
  obtain ⟨_, p1, p2, q1, q2⟩ := ha
  obtain ⟨_, p3, p4, q3, q4⟩ := hb
  obtain ⟨ak, ap, aq, an, avr, ac⟩ := a
  obtain ⟨bk, bp, bq, bn, bvr, bc⟩ := b
  dsimp only at p1 p2 q1 q2 p3 p4 q3 q4
  unfold divT
  dsimp only
  refine callS_body (n := 21) rfl rfl fun w ρ X => ?_
  refine rX rfl ?_
  refine runS_ret (I := inf) 0 rfl (Nat.le_refl _) rfl .nil rfl ⟨?_, rfl⟩
  refine congrArg Out.ret ?_
  show AV.tup [iv m, iv (if (if IntKind.wrap .i64 (IntKind.wrap .i64 (IntKind.wrap .i64 (m - ap) + aq) - bq) < 31 then IntKind.wrap .i64 (IntKind.wrap .i64 (IntKind.wrap .i64 (m - ap) + aq) - bq) else 31) > 0 then (if IntKind.wrap .i64 (IntKind.wrap .i64 (IntKind.wrap .i64 (m - ap) + aq) - bq) < 31 then IntKind.wrap .i64 (IntKind.wrap .i64 (IntKind.wrap .i64 (m - ap) + aq) - bq) else 31) else 0)] = _
  rw [w64 (x := m - ap) (by omega) (by omega), w64 (x := m - ap + aq) (by omega) (by omega), w64 (x := m - ap + aq - bq) (by omega) (by omega), minI, maxI]
theorem p_rows : CallT Tryz.prog 140 [] [] (fun o A => o = .ret (.agg [.fn (.func 193) [], .fn (.func 193) [], .fn (.func 194) [], .fn (.func 195) [], .val .nilFunc]) ∧ A = []) := by
  refine callS_body (n := 5) rfl rfl fun w ρ X => ?_
  refine rX rfl ?_
  refine runS_ret (I := inf) 0 rfl (Nat.le_refl _) rfl .nil rfl ⟨?_, rfl⟩
  rfl
theorem p_together (a b : Typ) (ha : NT a) (hb : NT b) : CallT Tryz.prog 139 [.agg (typE a), .agg (typE b)] [] (fun o A => o = .ret (.tup [.agg (typE (togT a b).1), .agg (typE (togT a b).2.1), iv (togT a b).2.2]) ∧ A = []) := by
  unfold togT
  refine callS_body (n := 35) rfl rfl fun w ρ X => ?_
  refine rX rfl ?_
  refine runS_cond rfl (fun h => ?_) (fun h => ?_)
  · have h3 : a.kind = 3 ∨ b.kind = 3 := by
      have h' : (if (a.kind == 3) = true then true else b.kind == 3) = true := h
      by_cases e : a.kind = 3
      · exact .inl e
      · rw [if_neg (by simpa using e)] at h'
        exact .inr (by simpa using h')
    rw [if_pos h3]
    refine rX rfl ?_
    refine runS_draw 3 (by kernel_rfl) (lexj_x (I := inf) (J := jnf) 99 rfl rfl ob0 (lexj_call rfl rfl rfl rfl rfl rfl rfl rfl (p_float a ha) (lexj_x (I := inf) (J := jnf) 99 rfl rfl ob0 lexj_nil))) ?_
    refine runS_call rfl rfl rfl rfl rfl rfl rfl (p_float b hb) ?_
    refine rX rfl ?_
    refine runS_ret (I := inf) 0 rfl (Nat.le_refl _) rfl .nil rfl ⟨?_, rfl⟩
    rfl
  · have h3 : ¬ (a.kind = 3 ∨ b.kind = 3) := by
      have h' : (if (a.kind == 3) = true then true else b.kind == 3) = false := h
      by_cases e : a.kind = 3
      · rw [if_pos (by simpa using e)] at h'
        cases h'
      · rw [if_neg (by simpa using e)] at h'
        rintro (h | h)
        · exact e h
        · exact absurd h (by simpa using h')
    rw [if_neg h3]
    refine rX rfl ?_
    refine runS_cond rfl (fun h => ?_) (fun h => ?_)
    · have h1 : a.kind = 1 ∨ b.kind = 1 := by
        have h' : (if (a.kind == 1) = true then true else b.kind == 1) = true := h
        by_cases e : a.kind = 1
        · exact .inl e
        · rw [if_neg (by simpa using e)] at h'
          exact .inr (by simpa using h')
      rw [if_pos h1]
      refine rX rfl ?_
      refine runS_draw 3 (by kernel_rfl) (lexj_x (I := inf) (J := jnf) 99 rfl rfl ob0 (lexj_call rfl rfl rfl rfl rfl rfl rfl rfl (p_binary a ha (fun e => h3 (.inl e))) (lexj_x (I := inf) (J := jnf) 99 rfl rfl ob0 lexj_nil))) ?_
      refine runS_call rfl rfl rfl rfl rfl rfl rfl (p_binary b hb (fun e => h3 (.inr e))) ?_
      refine rX rfl ?_
      refine runS_ret (I := inf) 0 rfl (Nat.le_refl _) rfl .nil rfl ⟨?_, rfl⟩
      rfl
    · have h1 : ¬ (a.kind = 1 ∨ b.kind = 1) := by
        have h' : (if (a.kind == 1) = true then true else b.kind == 1) = false := h
        by_cases e : a.kind = 1
        · rw [if_pos (by simpa using e)] at h'
          cases h'
        · rw [if_neg (by simpa using e)] at h'
          rintro (h | h)
          · exact e h
          · exact absurd h (by simpa using h')
      rw [if_neg h1]
      refine rX rfl ?_
      refine runS_drawG (ch := []) (A2 := fun _ => []) 5 [2, 3] (fun z => [.box 25 (typE a), .box 25 (typE b), .box 25 (cond (z.getD 0 false) (typE a) (typE ty0)), .box 25 (cond (z.getD 1 false) (typE b) (typE ty0))]) none (c := 9) jnfI.draw (by kernel_rfl) rfl (lexg_g (I := inf) (J := jnf) none ⟨⟨⟨_, rfl, ob0⟩, oi⟩, oj⟩ rfl rfl rfl rfl (lexg_g (I := inf) (J := jnf) none ⟨⟨⟨_, rfl, ob0⟩, oi⟩, oj⟩ rfl rfl rfl rfl (lexg_g (I := inf) (J := jnf) (some .store) ⟨⟨⟨_, rfl, ob0⟩, oi⟩, .inl rfl⟩ rfl rfl rfl rfl (lexg_g (I := inf) (J := jnf) (some .store) ⟨⟨⟨_, rfl, ob0⟩, .inl rfl⟩, (by first | exact .inl (by decide +kernel) | exact .inr ⟨⟨_, rfl, ob0⟩, .inl rfl⟩)⟩ rfl rfl rfl rfl (lexg_g (I := inf) (J := jnf) none ⟨⟨⟨_, rfl, ob0⟩, oi⟩, oj⟩ rfl rfl rfl rfl lexg_nil))))) rfl (fun _ => ?_) (fun h => by cases h)
      refine rX rfl ?_
      refine runS_ret (I := inf) 0 rfl (Nat.le_refl _) rfl .nil rfl ⟨?_, rfl⟩
      rfl
theorem p_sign (op : UInt8) (k : Nat) (h : op = 43 ∧ k = 0 ∨ op = 45 ∧ k = 1 ∨ op = 42 ∧ k = 2 ∨ op = 47 ∧ k = 3) : CallT Tryz.prog 138 [sv [op]] [] (fun o A => o = .ret (iv k) ∧ A = []) := by
  rcases h with ⟨rfl, rfl⟩ | ⟨rfl, rfl⟩ | ⟨rfl, rfl⟩ | ⟨rfl, rfl⟩
  · refine callS_body (n := 17) rfl rfl fun w ρ X => ?_
    refine rX rfl ?_
    refine runS_while (fun (i : Nat) τ ar => (τ 0 = sv [43] ∧ τ 5 = .agg [.val (.string ⟨#[43]⟩), .val (.string ⟨#[45]⟩), .val (.string ⟨#[42]⟩), .val (.string ⟨#[47]⟩), .val (.string ⟨#[42,42]⟩)] ∧ τ 6 = iv i) ∧ ar = [] ∧ i ≤ 0) (fun i => 0 - i) 0 ⟨⟨rfl, rfl, rfl⟩, rfl, Nat.zero_le _⟩ ?_
    rintro i τ' ar' ⟨⟨g0, g5, g6⟩, rfl, hi⟩ ih
    have hc : i = 0 := by omega
    subst hc
    · refine runS_says 0 (by exact g0) (Says.refl _) ?_; refine runS_says 5 (by exact g5) (Says.refl _) ?_; refine runS_says 6 (by exact g6) (Says.refl _) ?_
      refine rX rfl ?_
      refine runS_cond rfl (fun h => ?_) (fun h => by cases h)
      refine rX rfl ?_
      refine runS_cond rfl (fun h => ?_) (fun h => by rw [show (ByteArray.mk #[43]) = bs [43] from rfl, bs_beq] at h; cases h)
      refine rX rfl ?_
      refine runS_ret (I := inf) 0 rfl (Nat.le_refl _) rfl .nil rfl ⟨?_, rfl⟩
      rfl
  · refine callS_body (n := 17) rfl rfl fun w ρ X => ?_
    refine rX rfl ?_
    refine runS_while (fun (i : Nat) τ ar => (τ 0 = sv [45] ∧ τ 5 = .agg [.val (.string ⟨#[43]⟩), .val (.string ⟨#[45]⟩), .val (.string ⟨#[42]⟩), .val (.string ⟨#[47]⟩), .val (.string ⟨#[42,42]⟩)] ∧ τ 6 = iv i) ∧ ar = [] ∧ i ≤ 1) (fun i => 1 - i) 0 ⟨⟨rfl, rfl, rfl⟩, rfl, Nat.zero_le _⟩ ?_
    rintro i τ' ar' ⟨⟨g0, g5, g6⟩, rfl, hi⟩ ih
    have hc : i = 0 ∨ i = 1 := by omega
    rcases hc with rfl | rfl
    · refine runS_says 0 (by exact g0) (Says.refl _) ?_; refine runS_says 5 (by exact g5) (Says.refl _) ?_; refine runS_says 6 (by exact g6) (Says.refl _) ?_
      refine rX rfl ?_
      refine runS_cond rfl (fun h => ?_) (fun h => by cases h)
      refine rX rfl ?_
      refine runS_cond rfl (fun h => by rw [show (ByteArray.mk #[43]) = bs [43] from rfl, bs_beq] at h; cases h) (fun h => ?_)
      refine rX rfl ?_
      exact ih 1 _ _ (by decide) ⟨⟨rfl, rfl, rfl⟩, rfl, by decide⟩
    · refine runS_says 0 (by exact g0) (Says.refl _) ?_; refine runS_says 5 (by exact g5) (Says.refl _) ?_; refine runS_says 6 (by exact g6) (Says.refl _) ?_
      refine rX rfl ?_
      refine runS_cond rfl (fun h => ?_) (fun h => by cases h)
      refine rX rfl ?_
      refine runS_cond rfl (fun h => ?_) (fun h => by rw [show (ByteArray.mk #[45]) = bs [45] from rfl, bs_beq] at h; cases h)
      refine rX rfl ?_
      refine runS_ret (I := inf) 0 rfl (Nat.le_refl _) rfl .nil rfl ⟨?_, rfl⟩
      rfl
  · refine callS_body (n := 17) rfl rfl fun w ρ X => ?_
    refine rX rfl ?_
    refine runS_while (fun (i : Nat) τ ar => (τ 0 = sv [42] ∧ τ 5 = .agg [.val (.string ⟨#[43]⟩), .val (.string ⟨#[45]⟩), .val (.string ⟨#[42]⟩), .val (.string ⟨#[47]⟩), .val (.string ⟨#[42,42]⟩)] ∧ τ 6 = iv i) ∧ ar = [] ∧ i ≤ 2) (fun i => 2 - i) 0 ⟨⟨rfl, rfl, rfl⟩, rfl, Nat.zero_le _⟩ ?_
    rintro i τ' ar' ⟨⟨g0, g5, g6⟩, rfl, hi⟩ ih
    have hc : i = 0 ∨ i = 1 ∨ i = 2 := by omega
    rcases hc with rfl | rfl | rfl
    · refine runS_says 0 (by exact g0) (Says.refl _) ?_; refine runS_says 5 (by exact g5) (Says.refl _) ?_; refine runS_says 6 (by exact g6) (Says.refl _) ?_
      refine rX rfl ?_
      refine runS_cond rfl (fun h => ?_) (fun h => by cases h)
      refine rX rfl ?_
      refine runS_cond rfl (fun h => by rw [show (ByteArray.mk #[43]) = bs [43] from rfl, bs_beq] at h; cases h) (fun h => ?_)
      refine rX rfl ?_
      exact ih 1 _ _ (by decide) ⟨⟨rfl, rfl, rfl⟩, rfl, by decide⟩
    · refine runS_says 0 (by exact g0) (Says.refl _) ?_; refine runS_says 5 (by exact g5) (Says.refl _) ?_; refine runS_says 6 (by exact g6) (Says.refl _) ?_
      refine rX rfl ?_
      refine runS_cond rfl (fun h => ?_) (fun h => by cases h)
      refine rX rfl ?_
      refine runS_cond rfl (fun h => by rw [show (ByteArray.mk #[45]) = bs [45] from rfl, bs_beq] at h; cases h) (fun h => ?_)
      refine rX rfl ?_
      exact ih 2 _ _ (by decide) ⟨⟨rfl, rfl, rfl⟩, rfl, by decide⟩
    · refine runS_says 0 (by exact g0) (Says.refl _) ?_; refine runS_says 5 (by exact g5) (Says.refl _) ?_; refine runS_says 6 (by exact g6) (Says.refl _) ?_
      refine rX rfl ?_
      refine runS_cond rfl (fun h => ?_) (fun h => by cases h)
      refine rX rfl ?_
      refine runS_cond rfl (fun h => ?_) (fun h => by rw [show (ByteArray.mk #[42]) = bs [42] from rfl, bs_beq] at h; cases h)
      refine rX rfl ?_
      refine runS_ret (I := inf) 0 rfl (Nat.le_refl _) rfl .nil rfl ⟨?_, rfl⟩
      rfl
  · refine callS_body (n := 17) rfl rfl fun w ρ X => ?_
    refine rX rfl ?_
    refine runS_while (fun (i : Nat) τ ar => (τ 0 = sv [47] ∧ τ 5 = .agg [.val (.string ⟨#[43]⟩), .val (.string ⟨#[45]⟩), .val (.string ⟨#[42]⟩), .val (.string ⟨#[47]⟩), .val (.string ⟨#[42,42]⟩)] ∧ τ 6 = iv i) ∧ ar = [] ∧ i ≤ 3) (fun i => 3 - i) 0 ⟨⟨rfl, rfl, rfl⟩, rfl, Nat.zero_le _⟩ ?_
    rintro i τ' ar' ⟨⟨g0, g5, g6⟩, rfl, hi⟩ ih
    have hc : i = 0 ∨ i = 1 ∨ i = 2 ∨ i = 3 := by omega
    rcases hc with rfl | rfl | rfl | rfl
    · refine runS_says 0 (by exact g0) (Says.refl _) ?_; refine runS_says 5 (by exact g5) (Says.refl _) ?_; refine runS_says 6 (by exact g6) (Says.refl _) ?_
      refine rX rfl ?_
      refine runS_cond rfl (fun h => ?_) (fun h => by cases h)
      refine rX rfl ?_
      refine runS_cond rfl (fun h => by rw [show (ByteArray.mk #[43]) = bs [43] from rfl, bs_beq] at h; cases h) (fun h => ?_)
      refine rX rfl ?_
      exact ih 1 _ _ (by decide) ⟨⟨rfl, rfl, rfl⟩, rfl, by decide⟩
    · refine runS_says 0 (by exact g0) (Says.refl _) ?_; refine runS_says 5 (by exact g5) (Says.refl _) ?_; refine runS_says 6 (by exact g6) (Says.refl _) ?_
      refine rX rfl ?_
      refine runS_cond rfl (fun h => ?_) (fun h => by cases h)
      refine rX rfl ?_
      refine runS_cond rfl (fun h => by rw [show (ByteArray.mk #[45]) = bs [45] from rfl, bs_beq] at h; cases h) (fun h => ?_)
      refine rX rfl ?_
      exact ih 2 _ _ (by decide) ⟨⟨rfl, rfl, rfl⟩, rfl, by decide⟩
    · refine runS_says 0 (by exact g0) (Says.refl _) ?_; refine runS_says 5 (by exact g5) (Says.refl _) ?_; refine runS_says 6 (by exact g6) (Says.refl _) ?_
      refine rX rfl ?_
      refine runS_cond rfl (fun h => ?_) (fun h => by cases h)
      refine rX rfl ?_
      refine runS_cond rfl (fun h => by rw [show (ByteArray.mk #[42]) = bs [42] from rfl, bs_beq] at h; cases h) (fun h => ?_)
      refine rX rfl ?_
      exact ih 3 _ _ (by decide) ⟨⟨rfl, rfl, rfl⟩, rfl, by decide⟩
    · refine runS_says 0 (by exact g0) (Says.refl _) ?_; refine runS_says 5 (by exact g5) (Says.refl _) ?_; refine runS_says 6 (by exact g6) (Says.refl _) ?_
      refine rX rfl ?_
      refine runS_cond rfl (fun h => ?_) (fun h => by cases h)
      refine rX rfl ?_
      refine runS_cond rfl (fun h => ?_) (fun h => by rw [show (ByteArray.mk #[47]) = bs [47] from rfl, bs_beq] at h; cases h)
      refine rX rfl ?_
      refine runS_ret (I := inf) 0 rfl (Nat.le_refl _) rfl .nil rfl ⟨?_, rfl⟩
      rfl
end Go.Iron.Tryz

/- The pairs' seat: the type of a result, told by the program's rules. -/
namespace Go.Iron.Tryz
open Go.Proofs Go.RowKit Go.Iron.Tok Go.Iron.Dg

theorem nt_of {t : Typ} (hv : validT t = true) (hk : t.kind = 1 ∨ t.kind = 2 ∨ t.kind = 3) : NT t := by
  obtain ⟨h1, h2, h3, h4, _⟩ := num_p hv hk
  exact ⟨hk, h1, h2, h3, h4⟩
def vN (t : Typ) : Prop := validT t = true ∧ (t.kind = 1 ∨ t.kind = 2 ∨ t.kind = 3)
theorem p_valid (n1 : Option Bool) (ts : List Typ) (hl : ts.length ≤ 100000) (hv : ∀ t ∈ ts, vN t) : CallT Tryz.prog 137 [tyS n1 ts] [] (fun o A => o = .ret (.tup []) ∧ A = []) := by
  refine callS_body (n := 32) rfl rfl fun w ρ X => ?_
  refine rX rfl ?_
  refine runS_while (fun (i : Nat) τ ar => (τ 0 = tyS n1 ts ∧ τ 6 = tyS n1 ts ∧ τ 7 = iv ts.length ∧ τ 8 = iv i) ∧ ar = [] ∧ i ≤ ts.length) (fun i => ts.length - i) 0 ⟨⟨rfl, rfl, rfl, rfl⟩, rfl, Nat.zero_le _⟩ ?_
  rintro i τ' ar' ⟨⟨g0, g6, g7, g8⟩, rfl, hi⟩ ih
  refine runS_says 0 (by exact g0) (Says.refl _) ?_; refine runS_says 6 (by exact g6) (Says.refl _) ?_; refine runS_says 7 (by exact g7) (Says.refl _) ?_; refine runS_says 8 (by exact g8) (Says.refl _) ?_
  refine rX rfl ?_
  refine runS_cond rfl (fun h => ?_) (fun h => ?_)
  · have hlt : i < ts.length := by simp at h; omega
    have hw1 : IntKind.wrap .i64 ((i : Int) + 1) = ((i + 1 : Nat) : Int) := by rw [w64 (by omega) (by omega)]; rfl
    have hvt := (hv _ (List.getElem_mem hlt)).1
    have hd := d_valid (ts.getD i ty0)
    rw [ty_get hlt, hvt, ← ty_get hlt] at hd
    refine runS_x (I := inf) (J := jnf) ⟨false, false, [], 0, 0⟩ 9999 rfl (by repeat (first | exact obs_nil | refine obs_draw (by kernel_rfl) ?_ | refine obs_same ?_ | refine obs_and ?_ | refine obs_by (by (simp [inB, hlt] <;> omega)) ?_)) ?_
    refine runS_call rfl rfl rfl rfl rfl rfl rfl hd ?_
    refine rX rfl ?_
    refine runS_call rfl rfl rfl rfl rfl rfl rfl (p_must 13) ?_
    refine rX rfl ?_
    refine runS_drop 0 (Nat.zero_le _) rfl (by repeat (first | exact .nil | refine .row (fun j hj => rfl) ?_ | refine .box rfl ?_ | refine .fam (fun k j hk hj => rfl) ?_ | refine .loop (scrub_under _ _) ?_ | refine .dfr ?_ | refine .gone ?_ | refine .map (fun p hp => by (obtain ⟨k, _, rfl⟩ := List.mem_map.1 hp; rfl)) ?_)) rfl rfl rfl (by repeat (first | exact .nil | refine .cons rfl rfl rfl (scrub_under _ _) ?_)) ?_
    exact ih (i + 1) _ _ (by omega) ⟨⟨rfl, rfl, rfl, congrArg iv hw1⟩, rfl, by omega⟩
  · clear ih hi g0 g6 g7 g8 h
    refine rX rfl ?_
    refine runS_while (fun (i : Nat) τ ar => (τ 16 = tyS n1 ts ∧ τ 17 = iv ts.length ∧ τ 18 = iv i) ∧ ar = [] ∧ i ≤ ts.length) (fun i => ts.length - i) 0 ⟨⟨rfl, rfl, rfl⟩, rfl, Nat.zero_le _⟩ ?_
    rintro i τ' ar' ⟨⟨g6, g7, g8⟩, rfl, hi⟩ ih
    refine runS_says 16 (by exact g6) (Says.refl _) ?_; refine runS_says 17 (by exact g7) (Says.refl _) ?_; refine runS_says 18 (by exact g8) (Says.refl _) ?_
    refine rX rfl ?_
    refine runS_cond rfl (fun h => ?_) (fun h => ?_)
    · have hlt : i < ts.length := by simp at h; omega
      have hw1 : IntKind.wrap .i64 ((i : Int) + 1) = ((i + 1 : Nat) : Int) := by rw [w64 (by omega) (by omega)]; rfl
      have hvt := (hv _ (List.getElem_mem hlt)).2
      have hb : (if decide ((ts.getD i ty0).kind ≥ 1) = true then decide ((ts.getD i ty0).kind ≤ 3) else false) = true := by
        rw [ty_get hlt, decide_eq_true (by omega), if_pos rfl, decide_eq_true (by omega)]
      have hm := p_must 10
      rw [← hb] at hm
      refine runS_x (I := inf) (J := jnf) ⟨false, false, [], 0, 0⟩ 9999 rfl (by repeat (first | exact obs_nil | refine obs_draw (by kernel_rfl) ?_ | refine obs_same ?_ | refine obs_and ?_ | refine obs_by (by (simp [inB, hlt] <;> omega)) ?_)) ?_
      refine runS_call rfl rfl rfl rfl rfl rfl rfl hm ?_
      refine rX rfl ?_
      refine runS_drop 0 (Nat.zero_le _) rfl (by repeat (first | exact .nil | refine .row (fun j hj => rfl) ?_ | refine .box rfl ?_ | refine .fam (fun k j hk hj => rfl) ?_ | refine .loop (scrub_under _ _) ?_ | refine .dfr ?_ | refine .gone ?_ | refine .map (fun p hp => by (obtain ⟨k, _, rfl⟩ := List.mem_map.1 hp; rfl)) ?_)) rfl rfl rfl (by repeat (first | exact .nil | refine .cons rfl rfl rfl (scrub_under _ _) ?_)) ?_
      exact ih (i + 1) _ _ (by omega) ⟨⟨rfl, rfl, congrArg iv hw1⟩, rfl, by omega⟩
    · refine rX rfl ?_
      refine runS_ret (I := inf) 0 rfl (Nat.le_refl _) rfl .nil rfl ⟨?_, rfl⟩
      rfl
theorem tog_ok {op : UInt8} {a b : Typ} (ha : NT a) (hb : NT b) : NT (togT a b).1 ∧ NT (togT a b).2.1 ∧ ((togT a b).2.2 = 15 ∨ (togT a b).2.2 = 31) ∧ rowT op (togT a b).1 (togT a b).2.1 (togT a b).2.2 = (if op = 43 ∨ op = 45 then sumT (togT a b).1 (togT a b).2.1 (togT a b).2.2 else if op = 42 then mulT (togT a b).1 (togT a b).2.1 (togT a b).2.2 else divT (togT a b).1 (togT a b).2.1 (togT a b).2.2) := by
  unfold togT
  split
  · exact ⟨nt_flt ha, nt_flt hb, .inl rfl, rfl⟩
  · split
    · exact ⟨nt_bin ha, nt_bin hb, .inr rfl, rfl⟩
    · exact ⟨ha, hb, .inl rfl, rfl⟩
theorem p_result43 (a b : Typ) (ha : vN a) (hb : vN b) : CallT Tryz.prog 70 [sv [43], .agg (typE a), .agg (typE b)] [] (fun o A => o = .ret (.tup [.agg (typE (resT 43 a b)), iv 0]) ∧ A = []) := by
  have na := nt_of ha.1 ha.2
  have nb := nt_of hb.1 hb.2
  obtain ⟨nx, ny, hm, hr⟩ := tog_ok na nb (op := 43)
  have ht := p_together a b na nb
  have hrow := p_sum (togT a b).1 (togT a b).2.1 nx ny (togT a b).2.2 hm
  unfold resT
  generalize togT a b = z at *
  obtain ⟨x, y, m⟩ := z
  dsimp only at *
  refine callS_body (n := 12) rfl rfl fun w ρ X => ?_
  refine runS_x (I := inf) (J := jnf) ⟨false, false, [135, 136, 190], 0, 0⟩ 9999 rfl ob1 ?_
  refine runS_tell 7 (tyR [a, b]) rfl (m' := 2) rfl (fun j hj => ?_) rfl ?_
  · rcases j with _ | _ | j <;> first | rfl | omega
  refine runS_freeze 12 rfl rfl rfl (fun j hj => ?_) ?_
  · rcases j with _ | _ | j <;> first | rfl | omega
  refine runS_call rfl rfl rfl rfl rfl rfl rfl (p_valid none [a, b] (by simp) (by intro t ht; simp at ht; rcases ht with rfl | rfl; exact ha; exact hb)) ?_
  refine runS_x (I := inf) (J := jnf) ⟨false, false, [135, 136, 190], 0, 0⟩ 9999 rfl ob1 ?_
  refine runS_call rfl rfl rfl rfl rfl rfl rfl (p_sign 43 0 (by decide)) ?_
  refine runS_x (I := inf) (J := jnf) ⟨false, false, [135, 136, 190], 0, 0⟩ 9999 rfl ob1 ?_
  refine runS_cond rfl (fun h => by cases h) (fun h => ?_)
  refine runS_x (I := inf) (J := jnf) ⟨false, false, [135, 136, 190], 0, 0⟩ 9999 rfl ob1 ?_
  refine runS_call rfl rfl rfl rfl rfl rfl rfl ht ?_
  refine runS_x (I := inf) (J := jnf) ⟨false, false, [135, 136, 190], 0, 0⟩ 9999 rfl ob1 ?_
  refine runS_cond rfl (fun h => ?_) (fun h => ?_)
  · have h3 : x.kind = 3 := by simpa using (show (x.kind == 3) = true from h)
    unfold fixT
    rw [if_pos h3]
    refine runS_x (I := inf) (J := jnf) ⟨true, false, [135, 136, 190], 0, 0⟩ 9999 rfl ob1 ?_
    refine runS_ret (I := inf) 0 rfl (Nat.le_refl _) rfl .nil rfl ⟨?_, rfl⟩
    refine congrArg (fun z => Out.ret (.tup [.agg [iv 3, iv z, iv 0, iv 0, bv false, sv []], iv 0])) ?_
    exact maxI x.p y.p
  · have h3 : ¬ x.kind = 3 := by simpa using (show (x.kind == 3) = false from h)
    unfold fixT
    rw [if_neg h3, hr]
    refine runS_x (I := inf) (J := jnf) ⟨false, false, [135, 136, 190], 0, 0⟩ 9999 rfl ob1 ?_
    refine runS_draw 12 (by kernel_rfl) (lexj_x (I := inf) (J := jnf) 99 rfl rfl ob0 (lexj_call rfl rfl rfl rfl rfl rfl rfl rfl p_rows (lexj_x (I := inf) (J := jnf) 99 rfl rfl ob0 (lexj_call rfl rfl rfl rfl rfl rfl rfl rfl hrow (lexj_x (I := inf) (J := jnf) 99 rfl rfl ob0 lexj_nil))))) ?_
    refine runS_x (I := inf) (J := jnf) ⟨true, false, [135, 136, 190], 0, 0⟩ 9999 rfl ob1 ?_
    refine runS_ret (I := inf) 0 rfl (Nat.le_refl _) rfl .nil rfl ⟨?_, rfl⟩
    rfl
theorem p_result45 (a b : Typ) (ha : vN a) (hb : vN b) : CallT Tryz.prog 70 [sv [45], .agg (typE a), .agg (typE b)] [] (fun o A => o = .ret (.tup [.agg (typE (resT 45 a b)), iv 0]) ∧ A = []) := by
  have na := nt_of ha.1 ha.2
  have nb := nt_of hb.1 hb.2
  obtain ⟨nx, ny, hm, hr⟩ := tog_ok na nb (op := 45)
  have ht := p_together a b na nb
  have hrow := p_sum (togT a b).1 (togT a b).2.1 nx ny (togT a b).2.2 hm
  unfold resT
  generalize togT a b = z at *
  obtain ⟨x, y, m⟩ := z
  dsimp only at *
  refine callS_body (n := 12) rfl rfl fun w ρ X => ?_
  refine runS_x (I := inf) (J := jnf) ⟨false, false, [135, 136, 190], 0, 0⟩ 9999 rfl ob1 ?_
  refine runS_tell 7 (tyR [a, b]) rfl (m' := 2) rfl (fun j hj => ?_) rfl ?_
  · rcases j with _ | _ | j <;> first | rfl | omega
  refine runS_freeze 12 rfl rfl rfl (fun j hj => ?_) ?_
  · rcases j with _ | _ | j <;> first | rfl | omega
  refine runS_call rfl rfl rfl rfl rfl rfl rfl (p_valid none [a, b] (by simp) (by intro t ht; simp at ht; rcases ht with rfl | rfl; exact ha; exact hb)) ?_
  refine runS_x (I := inf) (J := jnf) ⟨false, false, [135, 136, 190], 0, 0⟩ 9999 rfl ob1 ?_
  refine runS_call rfl rfl rfl rfl rfl rfl rfl (p_sign 45 1 (by decide)) ?_
  refine runS_x (I := inf) (J := jnf) ⟨false, false, [135, 136, 190], 0, 0⟩ 9999 rfl ob1 ?_
  refine runS_cond rfl (fun h => by cases h) (fun h => ?_)
  refine runS_x (I := inf) (J := jnf) ⟨false, false, [135, 136, 190], 0, 0⟩ 9999 rfl ob1 ?_
  refine runS_call rfl rfl rfl rfl rfl rfl rfl ht ?_
  refine runS_x (I := inf) (J := jnf) ⟨false, false, [135, 136, 190], 0, 0⟩ 9999 rfl ob1 ?_
  refine runS_cond rfl (fun h => ?_) (fun h => ?_)
  · have h3 : x.kind = 3 := by simpa using (show (x.kind == 3) = true from h)
    unfold fixT
    rw [if_pos h3]
    refine runS_x (I := inf) (J := jnf) ⟨true, false, [135, 136, 190], 0, 0⟩ 9999 rfl ob1 ?_
    refine runS_ret (I := inf) 0 rfl (Nat.le_refl _) rfl .nil rfl ⟨?_, rfl⟩
    refine congrArg (fun z => Out.ret (.tup [.agg [iv 3, iv z, iv 0, iv 0, bv false, sv []], iv 0])) ?_
    exact maxI x.p y.p
  · have h3 : ¬ x.kind = 3 := by simpa using (show (x.kind == 3) = false from h)
    unfold fixT
    rw [if_neg h3, hr]
    refine runS_x (I := inf) (J := jnf) ⟨false, false, [135, 136, 190], 0, 0⟩ 9999 rfl ob1 ?_
    refine runS_draw 12 (by kernel_rfl) (lexj_x (I := inf) (J := jnf) 99 rfl rfl ob0 (lexj_call rfl rfl rfl rfl rfl rfl rfl rfl p_rows (lexj_x (I := inf) (J := jnf) 99 rfl rfl ob0 (lexj_call rfl rfl rfl rfl rfl rfl rfl rfl hrow (lexj_x (I := inf) (J := jnf) 99 rfl rfl ob0 lexj_nil))))) ?_
    refine runS_x (I := inf) (J := jnf) ⟨true, false, [135, 136, 190], 0, 0⟩ 9999 rfl ob1 ?_
    refine runS_ret (I := inf) 0 rfl (Nat.le_refl _) rfl .nil rfl ⟨?_, rfl⟩
    rfl
theorem p_result42 (a b : Typ) (ha : vN a) (hb : vN b) : CallT Tryz.prog 70 [sv [42], .agg (typE a), .agg (typE b)] [] (fun o A => o = .ret (.tup [.agg (typE (resT 42 a b)), iv 0]) ∧ A = []) := by
  have na := nt_of ha.1 ha.2
  have nb := nt_of hb.1 hb.2
  obtain ⟨nx, ny, hm, hr⟩ := tog_ok na nb (op := 42)
  have ht := p_together a b na nb
  have hrow := p_mulR (togT a b).1 (togT a b).2.1 nx ny (togT a b).2.2 hm
  unfold resT
  generalize togT a b = z at *
  obtain ⟨x, y, m⟩ := z
  dsimp only at *
  refine callS_body (n := 12) rfl rfl fun w ρ X => ?_
  refine runS_x (I := inf) (J := jnf) ⟨false, false, [135, 136, 190], 0, 0⟩ 9999 rfl ob1 ?_
  refine runS_tell 7 (tyR [a, b]) rfl (m' := 2) rfl (fun j hj => ?_) rfl ?_
  · rcases j with _ | _ | j <;> first | rfl | omega
  refine runS_freeze 12 rfl rfl rfl (fun j hj => ?_) ?_
  · rcases j with _ | _ | j <;> first | rfl | omega
  refine runS_call rfl rfl rfl rfl rfl rfl rfl (p_valid none [a, b] (by simp) (by intro t ht; simp at ht; rcases ht with rfl | rfl; exact ha; exact hb)) ?_
  refine runS_x (I := inf) (J := jnf) ⟨false, false, [135, 136, 190], 0, 0⟩ 9999 rfl ob1 ?_
  refine runS_call rfl rfl rfl rfl rfl rfl rfl (p_sign 42 2 (by decide)) ?_
  refine runS_x (I := inf) (J := jnf) ⟨false, false, [135, 136, 190], 0, 0⟩ 9999 rfl ob1 ?_
  refine runS_cond rfl (fun h => by cases h) (fun h => ?_)
  refine runS_x (I := inf) (J := jnf) ⟨false, false, [135, 136, 190], 0, 0⟩ 9999 rfl ob1 ?_
  refine runS_call rfl rfl rfl rfl rfl rfl rfl ht ?_
  refine runS_x (I := inf) (J := jnf) ⟨false, false, [135, 136, 190], 0, 0⟩ 9999 rfl ob1 ?_
  refine runS_cond rfl (fun h => ?_) (fun h => ?_)
  · have h3 : x.kind = 3 := by simpa using (show (x.kind == 3) = true from h)
    unfold fixT
    rw [if_pos h3]
    refine runS_x (I := inf) (J := jnf) ⟨true, false, [135, 136, 190], 0, 0⟩ 9999 rfl ob1 ?_
    refine runS_ret (I := inf) 0 rfl (Nat.le_refl _) rfl .nil rfl ⟨?_, rfl⟩
    refine congrArg (fun z => Out.ret (.tup [.agg [iv 3, iv z, iv 0, iv 0, bv false, sv []], iv 0])) ?_
    exact maxI x.p y.p
  · have h3 : ¬ x.kind = 3 := by simpa using (show (x.kind == 3) = false from h)
    unfold fixT
    rw [if_neg h3, hr]
    refine runS_x (I := inf) (J := jnf) ⟨false, false, [135, 136, 190], 0, 0⟩ 9999 rfl ob1 ?_
    refine runS_draw 12 (by kernel_rfl) (lexj_x (I := inf) (J := jnf) 99 rfl rfl ob0 (lexj_call rfl rfl rfl rfl rfl rfl rfl rfl p_rows (lexj_x (I := inf) (J := jnf) 99 rfl rfl ob0 (lexj_call rfl rfl rfl rfl rfl rfl rfl rfl hrow (lexj_x (I := inf) (J := jnf) 99 rfl rfl ob0 lexj_nil))))) ?_
    refine runS_x (I := inf) (J := jnf) ⟨true, false, [135, 136, 190], 0, 0⟩ 9999 rfl ob1 ?_
    refine runS_ret (I := inf) 0 rfl (Nat.le_refl _) rfl .nil rfl ⟨?_, rfl⟩
    rfl
theorem p_result47 (a b : Typ) (ha : vN a) (hb : vN b) : CallT Tryz.prog 70 [sv [47], .agg (typE a), .agg (typE b)] [] (fun o A => o = .ret (.tup [.agg (typE (resT 47 a b)), iv 0]) ∧ A = []) := by
  have na := nt_of ha.1 ha.2
  have nb := nt_of hb.1 hb.2
  obtain ⟨nx, ny, hm, hr⟩ := tog_ok na nb (op := 47)
  have ht := p_together a b na nb
  have hrow := p_divR (togT a b).1 (togT a b).2.1 nx ny (togT a b).2.2 hm
  unfold resT
  generalize togT a b = z at *
  obtain ⟨x, y, m⟩ := z
  dsimp only at *
  refine callS_body (n := 12) rfl rfl fun w ρ X => ?_
  refine runS_x (I := inf) (J := jnf) ⟨false, false, [135, 136, 190], 0, 0⟩ 9999 rfl ob1 ?_
  refine runS_tell 7 (tyR [a, b]) rfl (m' := 2) rfl (fun j hj => ?_) rfl ?_
  · rcases j with _ | _ | j <;> first | rfl | omega
  refine runS_freeze 12 rfl rfl rfl (fun j hj => ?_) ?_
  · rcases j with _ | _ | j <;> first | rfl | omega
  refine runS_call rfl rfl rfl rfl rfl rfl rfl (p_valid none [a, b] (by simp) (by intro t ht; simp at ht; rcases ht with rfl | rfl; exact ha; exact hb)) ?_
  refine runS_x (I := inf) (J := jnf) ⟨false, false, [135, 136, 190], 0, 0⟩ 9999 rfl ob1 ?_
  refine runS_call rfl rfl rfl rfl rfl rfl rfl (p_sign 47 3 (by decide)) ?_
  refine runS_x (I := inf) (J := jnf) ⟨false, false, [135, 136, 190], 0, 0⟩ 9999 rfl ob1 ?_
  refine runS_cond rfl (fun h => by cases h) (fun h => ?_)
  refine runS_x (I := inf) (J := jnf) ⟨false, false, [135, 136, 190], 0, 0⟩ 9999 rfl ob1 ?_
  refine runS_call rfl rfl rfl rfl rfl rfl rfl ht ?_
  refine runS_x (I := inf) (J := jnf) ⟨false, false, [135, 136, 190], 0, 0⟩ 9999 rfl ob1 ?_
  refine runS_cond rfl (fun h => ?_) (fun h => ?_)
  · have h3 : x.kind = 3 := by simpa using (show (x.kind == 3) = true from h)
    unfold fixT
    rw [if_pos h3]
    refine runS_x (I := inf) (J := jnf) ⟨true, false, [135, 136, 190], 0, 0⟩ 9999 rfl ob1 ?_
    refine runS_ret (I := inf) 0 rfl (Nat.le_refl _) rfl .nil rfl ⟨?_, rfl⟩
    refine congrArg (fun z => Out.ret (.tup [.agg [iv 3, iv z, iv 0, iv 0, bv false, sv []], iv 0])) ?_
    exact maxI x.p y.p
  · have h3 : ¬ x.kind = 3 := by simpa using (show (x.kind == 3) = false from h)
    unfold fixT
    rw [if_neg h3, hr]
    refine runS_x (I := inf) (J := jnf) ⟨false, false, [135, 136, 190], 0, 0⟩ 9999 rfl ob1 ?_
    refine runS_draw 12 (by kernel_rfl) (lexj_x (I := inf) (J := jnf) 99 rfl rfl ob0 (lexj_call rfl rfl rfl rfl rfl rfl rfl rfl p_rows (lexj_x (I := inf) (J := jnf) 99 rfl rfl ob0 (lexj_call rfl rfl rfl rfl rfl rfl rfl rfl hrow (lexj_x (I := inf) (J := jnf) 99 rfl rfl ob0 lexj_nil))))) ?_
    refine runS_x (I := inf) (J := jnf) ⟨true, false, [135, 136, 190], 0, 0⟩ 9999 rfl ob1 ?_
    refine runS_ret (I := inf) 0 rfl (Nat.le_refl _) rfl .nil rfl ⟨?_, rfl⟩
    rfl
end Go.Iron.Tryz

/- The digits' seat: the reference's sums, products and order of exact numbers. -/
namespace Go.Iron.Tryz
open Go.Proofs Go.RowKit Go.Iron.Tok Go.Iron.Dg

theorem ExFit.mono {x : Ex} {l l2 : Nat} (h : ExFit x l) (hl : l ≤ l2) : ExFit x l2 := ⟨Nat.le_trans h.1 hl, Nat.le_trans h.2 hl⟩
theorem both_fit {x y : Ex} {l m : Nat} (hx : ExFit x l) (hy : ExFit y m) : ExFit (bothE x y) (2 * (l + m) + 1) := by
  have h1 := frm_len_mul x.num y.den
  have h2 := frm_len_mul y.num x.den
  have h3 := frm_len_mul x.den y.den
  have a1 := hx.1; have a2 := hx.2; have b1 := hy.1; have b2 := hy.2
  have hs := frm_len_add (x.num * y.den) (y.num * x.den)
  have d1 := frm_len_mono (Nat.sub_le (x.num * y.den) (y.num * x.den))
  have d2 := frm_len_mono (Nat.sub_le (y.num * x.den) (x.num * y.den))
  unfold bothE
  split
  · exact ⟨by dsimp only; omega, by dsimp only; omega⟩
  · split
    · exact ⟨by dsimp only; omega, by dsimp only; omega⟩
    · exact ⟨by dsimp only; omega, by dsimp only; omega⟩
theorem times_fit {x y : Ex} {l m : Nat} (hx : ExFit x l) (hy : ExFit y m) : ExFit (timesE x y) (l + m) := by
  have h1 := frm_len_mul x.num y.num
  have h3 := frm_len_mul x.den y.den
  have a1 := hx.1; have a2 := hx.2; have b1 := hy.1; have b2 := hy.2
  exact ⟨by show (frm (x.num * y.num)).length ≤ _; omega, by show (frm (x.den * y.den)).length ≤ _; omega⟩
theorem len_pos (n : Nat) : decide (((frm n).length : Int) > 0) = decide (n ≠ 0) := by
  have hl := frm_len0 (x := n)
  rw [Bool.eq_iff_iff]
  simp
  omega
theorem r_times (x y : Ex) (hx : ExFit x 4000) (hy : ExFit y 4000) : CallT Tryz.prog 19 [exA x, exA y] [] (fun o A => o = .ret (exA (timesE x y)) ∧ A = []) := by
  obtain ⟨xg, xn, xd⟩ := x
  obtain ⟨yg, yn, yd⟩ := y
  obtain ⟨a1, a2⟩ := hx
  obtain ⟨b1, b2⟩ := hy
  dsimp only at a1 a2 b1 b2
  have hm1 := r_mul none none xn yn a1 b1
  have hm2 := r_mul none none xd yd a2 b2
  refine callS_body (n := 28) rfl rfl fun w ρ X => ?_
  refine rX rfl ?_
  refine runS_call rfl rfl rfl rfl rfl rfl rfl hm1 ?_
  refine rX rfl ?_
  refine runS_call rfl rfl rfl rfl rfl rfl rfl hm2 ?_
  refine rX rfl ?_
  refine runS_ret (I := inf) 0 rfl (Nat.le_refl _) rfl .nil rfl ⟨?_, rfl⟩
  show Out.ret (.agg [bv (if (xg != yg) = true then decide (((frm (xn * yn)).length : Int) > 0) else false), natS none (frm (xn * yn)), natS none (frm (xd * yd))]) = _
  rw [len_pos]
  cases xg <;> cases yg <;> rfl
theorem r_both (x y : Ex) (hx : ExFit x 1900) (hy : ExFit y 1900) : CallT Tryz.prog 20 [exA x, exA y] [] (fun o A => o = .ret (exA (bothE x y)) ∧ A = []) := by
  obtain ⟨xg, xn, xd⟩ := x
  obtain ⟨yg, yn, yd⟩ := y
  obtain ⟨a1, a2⟩ := hx
  obtain ⟨b1, b2⟩ := hy
  dsimp only at a1 a2 b1 b2
  have hm1 := r_mul none none xn yd (by omega) (by omega)
  have hm2 := r_mul none none yn xd (by omega) (by omega)
  have hm3 := r_mul none none xd yd (by omega) (by omega)
  have hl1 := frm_len_mul xn yd
  have hl2 := frm_len_mul yn xd
  unfold bothE
  dsimp only
  generalize xn * yd = p at *
  generalize yn * xd = q at *
  generalize xd * yd = d at *
  have hcm := cmpT_lt p q
  refine callS_body (n := 66) rfl rfl fun w ρ X => ?_
  refine rX rfl ?_
  refine runS_draw 9 (by kernel_rfl) (lexj_x (I := inf) (J := jnf) 99 rfl rfl ob0 (lexj_call rfl rfl rfl rfl rfl rfl rfl rfl hm1 (lexj_x (I := inf) (J := jnf) 99 rfl rfl ob0 lexj_nil))) ?_
  refine rX rfl ?_
  refine runS_call rfl rfl rfl rfl rfl rfl rfl hm2 ?_
  refine rX rfl ?_
  refine runS_call rfl rfl rfl rfl rfl rfl rfl hm3 ?_
  refine rX rfl ?_
  refine runS_cond rfl (fun h => ?_) (fun h => ?_)
  · have hs : xg = yg := by simpa using h
    rw [if_pos hs]
    refine rX rfl ?_
    refine runS_draw 6 (by kernel_rfl) (lexj_x (I := inf) (J := jnf) 99 rfl rfl ob0 (lexj_call rfl rfl rfl rfl rfl rfl rfl rfl (r_plus none none p q (by omega) (by omega)) (lexj_x (I := inf) (J := jnf) 99 rfl rfl ob0 lexj_nil))) ?_
    refine rX rfl ?_
    refine runS_ret (I := inf) 0 rfl (Nat.le_refl _) rfl .nil rfl ⟨?_, rfl⟩
    show Out.ret (.agg [bv (if xg = true then decide (((frm (p + q)).length : Int) > 0) else false), natS none (frm (p + q)), natS none (frm d)]) = _
    rw [len_pos]
    cases xg <;> rfl
  · have hs : ¬ xg = yg := by simpa using h
    rw [if_neg hs]
    refine rX rfl ?_
    refine runS_call rfl rfl rfl rfl rfl rfl rfl (r_cmp none none (frm p) (frm q) (by omega) (by omega)) ?_
    refine rX rfl ?_
    refine runS_cond rfl (fun h2 => ?_) (fun h2 => ?_)
    · have hle : q ≤ p := by
        have := of_decide_eq_true h2
        omega
      rw [if_pos hle]
      refine rX rfl ?_
      refine runS_draw 6 (by kernel_rfl) (lexj_x (I := inf) (J := jnf) 99 rfl rfl ob0 (lexj_call rfl rfl rfl rfl rfl rfl rfl rfl (r_less none none p q hle (by omega)) (lexj_x (I := inf) (J := jnf) 99 rfl rfl ob0 lexj_nil))) ?_
      refine rX rfl ?_
      refine runS_ret (I := inf) 0 rfl (Nat.le_refl _) rfl .nil rfl ⟨?_, rfl⟩
      show Out.ret (.agg [bv (if xg = true then decide (((frm (p - q)).length : Int) > 0) else false), natS none (frm (p - q)), natS none (frm d)]) = _
      rw [len_pos]
      cases xg <;> rfl
    · have hle : ¬ q ≤ p := by
        have := of_decide_eq_false h2
        omega
      rw [if_neg hle]
      refine rX rfl ?_
      refine runS_draw 6 (by kernel_rfl) (lexj_x (I := inf) (J := jnf) 99 rfl rfl ob0 (lexj_call rfl rfl rfl rfl rfl rfl rfl rfl (r_less none none q p (by omega) (by omega)) (lexj_x (I := inf) (J := jnf) 99 rfl rfl ob0 lexj_nil))) ?_
      refine rX rfl ?_
      refine runS_ret (I := inf) 0 rfl (Nat.le_refl _) rfl .nil rfl ⟨?_, rfl⟩
      show Out.ret (.agg [bv (if yg = true then decide (((frm (q - p)).length : Int) > 0) else false), natS none (frm (q - p)), natS none (frm d)]) = _
      rw [len_pos]
      cases yg <;> rfl
theorem turn_fit {x : Ex} {l : Nat} (h : ExFit x l) : ExFit (turnE x) l := ⟨h.1, h.2⟩
end Go.Iron.Tryz

/- Digits: how the reference finds a float's digits, in plain Lean. -/
namespace Go.Iron.Dg

theorem float_start {num den P : Nat} {k0 : Int} (hn : num ≠ 0) (hd : den ≠ 0) (hP : 1 ≤ P) (hk : k0 = (P : Int) - ((frm num).length - (frm den).length) - 1) :
    den * e10 (-k0) * 10 ^ (P - 1) < num * e10 k0 * 10 ∧ num * e10 k0 < den * e10 (-k0) * 10 ^ P := by
  have n1 := frm_ge hn
  have n2 := frm_lt_pow num
  have d1 := frm_ge hd
  have d2 := frm_lt_pow den
  have ln : 0 < (frm num).length := Nat.pos_of_ne_zero fun e => hn (frm_len0.1 e)
  have ld : 0 < (frm den).length := Nat.pos_of_ne_zero fun e => hd (frm_len0.1 e)
  generalize (frm num).length = a at *
  generalize (frm den).length = b at *
  constructor
  · have h1 : den * e10 (-k0) * 10 ^ (P - 1) < 10 ^ b * e10 (-k0) * 10 ^ (P - 1) := Nat.mul_lt_mul_of_pos_right (Nat.mul_lt_mul_of_pos_right d2 (e10_pos _)) (Nat.pow_pos (by decide))
    have h2 : 10 ^ (a - 1) * e10 k0 * 10 ≤ num * e10 k0 * 10 := Nat.mul_le_mul_right _ (Nat.mul_le_mul_right _ n1)
    have h3 : 10 ^ b * e10 (-k0) * 10 ^ (P - 1) = 10 ^ (a - 1) * e10 k0 * 10 := by
      unfold e10
      rw [← Nat.pow_add, ← Nat.pow_add, ← Nat.pow_add, ← Nat.pow_succ]
      congr 1
      omega
    omega
  · have h1 : num * e10 k0 < 10 ^ a * e10 k0 := Nat.mul_lt_mul_of_pos_right n2 (e10_pos _)
    have h2 : 10 ^ (b - 1) * e10 (-k0) * 10 ^ P ≤ den * e10 (-k0) * 10 ^ P := Nat.mul_le_mul_right _ (Nat.mul_le_mul_right _ d1)
    have h3 : 10 ^ a * e10 k0 = 10 ^ (b - 1) * e10 (-k0) * 10 ^ P := by
      unfold e10
      rw [← Nat.pow_add, ← Nat.pow_add, ← Nat.pow_add]
      congr 1
      omega
    omega
theorem ratio_le {N D A B X : Nat} (h : N * B = D * A) (hD : 0 < D) (hB : 0 < B) : X * B ≤ A ↔ X * D ≤ N := by
  constructor
  · intro h1
    refine Nat.le_of_mul_le_mul_right (c := B) ?_ hB
    rw [h]
    calc X * D * B = D * (X * B) := by ac_rfl
      _ ≤ D * A := Nat.mul_le_mul_left _ h1
  · intro h1
    refine Nat.le_of_mul_le_mul_left ?_ hD
    rw [← h]
    calc D * (X * B) = X * D * B := by ac_rfl
      _ ≤ N * B := Nat.mul_le_mul_right _ h1
theorem ratio_div {N D A B : Nat} (h : N * B = D * A) (hD : 0 < D) (hB : 0 < B) (c : Nat) : A * c / B = N * c / D := by
  rw [← Nat.mul_div_mul_left (A * c) B hD, ← Nat.mul_div_mul_right (N * c) D hB]
  congr 1
  rw [show D * (A * c) = D * A * c by ac_rfl, ← h]
  ac_rfl
theorem float_found {num den P N D : Nat} {k : Int} (hr : N * (den * e10 (-k)) = D * (num * e10 k)) (hd : 0 < den) (hD : 0 < D) (h1 : D * 10 ^ (P - 1) ≤ N) (h2 : N < D * 10 ^ P) :
    IsK num den P k ∧ fltR num den k = normD (N / D + (if N % D + N % D ≥ D then 1 else 0)) (-k) := by
  have hB : 0 < den * e10 (-k) := Nat.mul_pos hd (e10_pos _)
  refine ⟨⟨?_, ?_⟩, ?_⟩
  · exact (ratio_le hr hD hB).2 (by rw [Nat.mul_comm]; exact h1)
  · refine Nat.lt_of_not_le fun h => ?_
    have h3 := (ratio_le (X := 10 ^ P) hr hD hB).1 h
    rw [Nat.mul_comm] at h3
    omega
  · unfold fltR
    rw [← rnd_half hD, show num * (10 * e10 k) = num * e10 k * 10 by ac_rfl, ratio_div hr hD hB 10]
theorem float_ratio (num den : Nat) (k0 : Int) (j : Nat) : num * e10 k0 * 10 ^ j * (den * e10 (-(k0 + j))) = den * e10 (-k0) * (num * e10 (k0 + j)) := by
  have h : e10 k0 * 10 ^ j * e10 (-(k0 + j)) = e10 (-k0) * e10 (k0 + j) := by
    unfold e10
    rw [← Nat.pow_add, ← Nat.pow_add, ← Nat.pow_add]
    congr 1
    omega
  rw [show num * e10 k0 * 10 ^ j * (den * e10 (-(k0 + j))) = num * den * (e10 k0 * 10 ^ j * e10 (-(k0 + j))) by ac_rfl, h]
  ac_rfl
end Go.Iron.Dg

/- The digits' seat: what the reference asks; its quotients of naturals. -/
namespace Go.Iron.Tryz
open Go.Proofs Go.RowKit Go.Iron.Tok Go.Iron.Dg

theorem r_numbers (n1 : Option Bool) (l : List Vl) (hl : l.length ≤ 100000) : CallT Tryz.prog 103 [vlS n1 l] [] (fun o A => o = .ret (iv (askL none l)) ∧ A = []) := by
  refine callS_body (n := 30) rfl rfl fun w ρ X => ?_
  refine rX rfl ?_
  refine runS_while (fun (i : Nat) τ ar => (τ 0 = vlS n1 l ∧ τ 3 = iv i) ∧ ar = [] ∧ i ≤ l.length ∧ (l.take i).all Vl.right = true) (fun i => l.length - i) 0 ⟨⟨rfl, rfl⟩, rfl, Nat.zero_le _, rfl⟩ ?_
  rintro i τ' ar' ⟨⟨g0, g3⟩, rfl, hi, ha⟩ ih
  refine runS_says 0 (by exact g0) (Says.refl _) ?_; refine runS_says 3 (by exact g3) (Says.refl _) ?_
  refine rX rfl ?_
  refine runS_cond rfl (fun h => ?_) (fun h => ?_)
  · have hlt : i < l.length := by simp at h; omega
    have hw1 : IntKind.wrap .i64 ((i : Int) + 1) = ((i + 1 : Nat) : Int) := by rw [w64 (by omega) (by omega)]; rfl
    have hv := vl_get hlt
    refine runS_x (I := inf) (J := jnf) ⟨false, false, [], 0, 0⟩ 9999 rfl (by repeat (first | exact obs_nil | refine obs_draw (by kernel_rfl) ?_ | refine obs_same ?_ | refine obs_and ?_ | refine obs_by (by (simp [inB, hlt] <;> omega)) ?_)) ?_
    refine runS_call rfl rfl rfl rfl rfl rfl rfl (r_right (l.getD i ⟨0, 0, 0, []⟩).kind (l.getD i ⟨0, 0, 0, []⟩).n (l.getD i ⟨0, 0, 0, []⟩).q (l.getD i ⟨0, 0, 0, []⟩).s) ?_
    refine rX rfl ?_
    refine runS_cond rfl (fun h2 => ?_) (fun h2 => ?_)
    · have hr : (l[i]).right = false := by
        rw [← hv]
        have h3 : (!(l.getD i ⟨0, 0, 0, []⟩).right) = true := h2
        rw [Bool.not_eq_true'] at h3
        exact h3
      have hE : askL none l = 1 := by
        unfold askL
        rw [if_pos]
        rw [List.all_eq_false]
        exact ⟨_, List.getElem_mem hlt, by rw [hr]; decide⟩
      rw [hE]
      refine rX rfl ?_
      refine runS_ret (I := inf) 0 rfl (Nat.le_refl _) rfl .nil rfl ⟨?_, rfl⟩
      rfl
    · have hr : (l[i]).right = true := by
        rw [← hv]
        have h3 : (!(l.getD i ⟨0, 0, 0, []⟩).right) = false := h2
        rw [Bool.not_eq_false'] at h3
        exact h3
      refine rX rfl ?_
      exact ih (i + 1) _ _ (by omega) ⟨⟨rfl, congrArg iv hw1⟩, rfl, by omega, all_take ha hlt hr⟩
  · have hie : i = l.length := by simp at h; omega
    subst hie
    rw [List.take_length] at ha
    clear ih hi g0 g3
    refine rX rfl ?_
    refine runS_while (fun (i : Nat) τ ar => (τ 0 = vlS n1 l ∧ τ 4 = iv i) ∧ ar = [] ∧ i ≤ l.length ∧ (l.take i).all (fun v => numK v.kind) = true) (fun i => l.length - i) 0 ⟨⟨rfl, rfl⟩, rfl, Nat.zero_le _, rfl⟩ ?_
    rintro i τ2 ar2 ⟨⟨g0, g4⟩, rfl, hi, hb⟩ ih
    refine runS_says 0 (by exact g0) (Says.refl _) ?_; refine runS_says 4 (by exact g4) (Says.refl _) ?_
    refine rX rfl ?_
    refine runS_cond rfl (fun h => ?_) (fun h => ?_)
    · have hlt : i < l.length := by simp at h; omega
      have hw1 : IntKind.wrap .i64 ((i : Int) + 1) = ((i + 1 : Nat) : Int) := by rw [w64 (by omega) (by omega)]; rfl
      have hv := vl_get hlt
      refine runS_x (I := inf) (J := jnf) ⟨false, false, [], 0, 0⟩ 9999 rfl (by repeat (first | exact obs_nil | refine obs_draw (by kernel_rfl) ?_ | refine obs_same ?_ | refine obs_and ?_ | refine obs_by (by (simp [inB, hlt] <;> omega)) ?_)) ?_
      refine runS_call rfl rfl rfl rfl rfl rfl rfl (r_numeric (l.getD i ⟨0, 0, 0, []⟩).kind) ?_
      refine rX rfl ?_
      refine runS_cond rfl (fun h2 => ?_) (fun h2 => ?_)
      · have hr : numK (l[i]).kind = false := by
          rw [← hv]
          have h3 : (!numK (l.getD i ⟨0, 0, 0, []⟩).kind) = true := h2
          rw [Bool.not_eq_true'] at h3
          exact h3
        have hE : askL none l = 10 := by
          unfold askL
          rw [if_neg (by rw [ha]; decide), if_neg (by simp), if_pos]
          rw [List.all_eq_false]
          exact ⟨_, List.getElem_mem hlt, by rw [hr]; decide⟩
        rw [hE]
        refine rX rfl ?_
        refine runS_ret (I := inf) 0 rfl (Nat.le_refl _) rfl .nil rfl ⟨?_, rfl⟩
        rfl
      · have hr : numK (l[i]).kind = true := by
          rw [← hv]
          have h3 : (!numK (l.getD i ⟨0, 0, 0, []⟩).kind) = false := h2
          rw [Bool.not_eq_false'] at h3
          exact h3
        refine rX rfl ?_
        exact ih (i + 1) _ _ (by omega) ⟨⟨rfl, congrArg iv hw1⟩, rfl, by omega, all_take hb hlt hr⟩
    · have hie : i = l.length := by simp at h; omega
      subst hie
      rw [List.take_length] at hb
      have hE : askL none l = 0 := by
        unfold askL
        rw [if_neg (by rw [ha]; decide), if_neg (by simp), if_neg (by rw [hb]; decide), if_neg (by simp)]
      rw [hE]
      refine rX rfl ?_
      refine runS_ret (I := inf) 0 rfl (Nat.le_refl _) rfl .nil rfl ⟨?_, rfl⟩
      rfl
theorem r_asked (t : Typ) (n1 : Option Bool) (l : List Vl) (hl : l.length ≤ 100000) : CallT Tryz.prog 109 [vlS n1 l, .agg (typE t)] [] (fun o A => o = .ret (iv (askL (some t) l)) ∧ A = []) := by
  have hE : askL (some t) l = if askL none l = 1 then 1 else if validT t = false then 13 else if askL none l ≠ 0 then askL none l else if numK t.kind = false then 10 else 0 := by
    unfold askL
    cases h1 : l.all Vl.right <;> cases h2 : (l.all fun v => numK v.kind) <;> cases h3 : validT t <;> cases h4 : numK t.kind <;> simp [h3, h4]
  rw [hE]
  refine callS_body (n := 25) rfl rfl fun w ρ X => ?_
  refine rX rfl ?_
  refine runS_call rfl rfl rfl rfl rfl rfl rfl (r_numbers n1 l hl) ?_
  refine rX rfl ?_
  refine runS_cond rfl (fun h => ?_) (fun h => ?_)
  · have h1 : askL none l = 1 := by simpa using (show (askL none l == 1) = true from h)
    rw [if_pos h1]
    refine rX rfl ?_
    refine runS_ret (I := inf) 0 rfl (Nat.le_refl _) rfl .nil rfl ⟨?_, rfl⟩
    rw [← h1]
    rfl
  · have h1 : ¬ askL none l = 1 := by simpa using (show (askL none l == 1) = false from h)
    rw [if_neg h1]
    refine rX rfl ?_
    refine runS_call rfl rfl rfl rfl rfl rfl rfl (r_valid t) ?_
    refine rX rfl ?_
    refine runS_cond rfl (fun h => ?_) (fun h => ?_)
    · have h2 : validT t = false := by
        have h3 : (!validT t) = true := h
        rw [Bool.not_eq_true'] at h3
        exact h3
      rw [if_pos h2]
      refine rX rfl ?_
      refine runS_ret (I := inf) 0 rfl (Nat.le_refl _) rfl .nil rfl ⟨?_, rfl⟩
      rfl
    · have h2 : ¬ validT t = false := by
        have h3 : (!validT t) = false := h
        rw [Bool.not_eq_false'] at h3
        rw [h3]; decide
      rw [if_neg h2]
      refine rX rfl ?_
      refine runS_cond rfl (fun h => ?_) (fun h => ?_)
      · have h4 : askL none l ≠ 0 := by
          have h3 : (!(askL none l == 0)) = true := h
          rw [Bool.not_eq_true', beq_eq_false_iff_ne] at h3
          exact h3
        rw [if_pos h4]
        refine rX rfl ?_
        refine runS_ret (I := inf) 0 rfl (Nat.le_refl _) rfl .nil rfl ⟨?_, rfl⟩
        rfl
      · have h4 : ¬ askL none l ≠ 0 := by
          have h3 : (!(askL none l == 0)) = false := h
          rw [Bool.not_eq_false', beq_iff_eq] at h3
          exact fun e => e h3
        rw [if_neg h4]
        refine rX rfl ?_
        refine runS_call rfl rfl rfl rfl rfl rfl rfl (r_numeric t.kind) ?_
        refine rX rfl ?_
        refine runS_cond rfl (fun h => ?_) (fun h => ?_)
        · have h5 : numK t.kind = false := by
            have h3 : (!numK t.kind) = true := h
            rw [Bool.not_eq_true'] at h3
            exact h3
          rw [if_pos h5]
          refine rX rfl ?_
          refine runS_ret (I := inf) 0 rfl (Nat.le_refl _) rfl .nil rfl ⟨?_, rfl⟩
          rfl
        · have h5 : ¬ numK t.kind = false := by
            have h3 : (!numK t.kind) = false := h
            rw [Bool.not_eq_false'] at h3
            rw [h3]; decide
          rw [if_neg h5]
          refine rX rfl ?_
          refine runS_ret (I := inf) 0 rfl (Nat.le_refl _) rfl .nil rfl ⟨?_, rfl⟩
          rfl
theorem r_int (n1 : Option Bool) (A : List Nat) (hll : A.length ≤ 18) (hda : ∀ d ∈ A, d < 10) : CallT Tryz.prog 207 [natS n1 A] [] (fun o A' => o = .ret (iv (val A : Nat)) ∧ A' = []) := by
  have hx : val A < 1000000000000000000 := Nat.lt_of_lt_of_le (val_lt hda) (Nat.pow_le_pow_right (by decide) hll)
  have hw0 : IntKind.wrap .i64 ((A.length : Int) - 1) = (A.length : Int) - 1 := w64 (by omega) (by omega)
  refine callS_body (n := 20) rfl rfl fun w ρ X => ?_
  refine rX rfl ?_
  refine runS_while (fun (i : Nat) τ ar => (τ 0 = natS n1 A ∧ τ 3 = iv (val (A.drop i) : Nat) ∧ τ 4 = iv ((i : Int) - 1)) ∧ ar = [] ∧ i ≤ A.length) (fun i => i) A.length ⟨⟨rfl, by rw [List.drop_length]; rfl, congrArg iv hw0⟩, rfl, Nat.le_refl _⟩ ?_
  rintro i τ' ar' ⟨⟨g0, g3, g4⟩, rfl, hi⟩ ih
  refine runS_says 0 (by exact g0) (Says.refl _) ?_; refine runS_says 3 (by exact g3) (Says.refl _) ?_; refine runS_says 4 (by exact g4) (Says.refl _) ?_
  refine rX rfl ?_
  refine runS_cond rfl (fun h => ?_) (fun h => ?_)
  · have hi0 : 0 < i := by
      have : decide ((i : Int) - 1 ≥ 0) = true := h
      simp at this
      omega
    obtain ⟨k, rfl⟩ : ∃ k, i = k + 1 := ⟨i - 1, by omega⟩
    have hk : k < A.length := by omega
    have e1 : (((k + 1 : Nat) : Int) - 1) = (k : Int) := by omega
    rw [e1] at g4 ⊢
    have hwk : IntKind.wrap .i64 ((k : Int) - 1) = (k : Int) - 1 := w64 (by omega) (by omega)
    have hv := val_drop A k
    have hle := val_drop_le A k
    have hd9 := getD_lt hda k
    have hev : IntKind.wrap .i64 (IntKind.wrap .i64 (10 * ((val (A.drop (k + 1)) : Nat) : Int)) + ((A.getD k 0 : Nat) : Int)) = ((val (A.drop k) : Nat) : Int) := by
      rw [w64 (x := 10 * ((val (A.drop (k + 1)) : Nat) : Int)) (by omega) (by omega), w64 (by omega) (by omega)]
      omega
    refine runS_x (I := inf) (J := jnf) ⟨false, false, [], 0, 0⟩ 9999 rfl (by repeat (first | exact obs_nil | refine obs_draw (by kernel_rfl) ?_ | refine obs_same ?_ | refine obs_and ?_ | refine obs_by (by (simp [inB, hk] <;> omega)) ?_)) ?_
    exact ih k _ _ (by omega) ⟨⟨rfl, congrArg iv hev, congrArg iv hwk⟩, rfl, by omega⟩
  · have hi0 : i = 0 := by
      have : decide ((i : Int) - 1 ≥ 0) = false := h
      simp at this
      omega
    subst hi0
    refine rX rfl ?_
    refine runS_ret (I := inf) 0 rfl (Nat.le_refl _) rfl .nil rfl ⟨?_, rfl⟩
    rw [List.drop_zero]
    rfl
theorem r_signed (n1 : Option Bool) (x : Nat) (ng : Bool) (hx : x < 1000000000000000000) : CallT Tryz.prog 179 [natS n1 (frm x), bv ng] [] (fun o A => o = .ret (iv (sgn ng x)) ∧ A = []) := by
  have hi := r_int n1 (frm x) (frm_len_lt.2 hx) (fun d hd => frm_digit hd)
  rw [val_frm] at hi
  cases ng
  · refine callS_body (n := 11) rfl rfl fun w ρ X => ?_
    refine rX rfl ?_
    refine runS_cond rfl (fun h => by cases h) (fun h => ?_)
    refine rX rfl ?_
    refine runS_call rfl rfl rfl rfl rfl rfl rfl hi ?_
    refine rX rfl ?_
    refine runS_ret (I := inf) 0 rfl (Nat.le_refl _) rfl .nil rfl ⟨?_, rfl⟩
    rfl
  · refine callS_body (n := 11) rfl rfl fun w ρ X => ?_
    refine rX rfl ?_
    refine runS_cond rfl (fun h => ?_) (fun h => by cases h)
    refine rX rfl ?_
    refine runS_call rfl rfl rfl rfl rfl rfl rfl hi ?_
    refine rX rfl ?_
    refine runS_ret (I := inf) 0 rfl (Nat.le_refl _) rfl .nil rfl ⟨?_, rfl⟩
    show Out.ret (iv (IntKind.wrap .i64 (0 - (x : Int)))) = _
    rw [w64 (by omega) (by omega), Int.zero_sub]
    rfl
end Go.Iron.Tryz

/- The digits' seat: the reference's quotients of naturals. -/
namespace Go.Iron.Tryz
open Go.Proofs Go.RowKit Go.Iron.Tok Go.Iron.Dg

theorem drop_upd (p : Nat → Nat) (k m n : Nat) : (listF (updF p k m) n).drop (k + 1) = (listF p n).drop (k + 1) := by
  unfold listF
  rw [← List.map_drop, ← List.map_drop]
  refine List.map_congr_left fun a ha => ?_
  obtain ⟨j, hj, rfl⟩ := List.mem_iff_getElem.1 ha
  rw [List.getElem_drop, List.getElem_range]
  unfold updF
  rw [if_neg (by omega)]
structure DivX where
  i : Nat
  p : Nat → Nat
  R : Nat
theorem r_div (n1 n2 : Option Bool) (x y : Nat) (hx : (frm x).length ≤ 4000) (hy : (frm y).length ≤ 3000) (hy0 : 0 < y) : CallT Tryz.prog 178 [natS n1 (frm x), natS n2 (frm y)] [] (fun o A => o = .ret (.tup [natS none (frm (x / y)), natS none (frm (x % y))]) ∧ A = []) := by
  have hvx := val_frm x
  have hda := fun d (hd : d ∈ frm x) => frm_digit hd
  generalize frm x = A at *
  have hw0 : IntKind.wrap .i64 ((A.length : Int) - 1) = (A.length : Int) - 1 := w64 (by omega) (by omega)
  refine callS_body (n := 43) rfl rfl fun w ρ X => ?_
  refine rX rfl ?_
  obtain ⟨n, hn⟩ : ∃ n, A.length = n := ⟨_, rfl⟩
  refine runS_tell 0 (rowN (fun _ => 0)) rfl (m' := n) (by rw [hn]; rfl) (fun j hj => rfl) rfl ?_
  refine runS_says 7 rfl (says_nil0 (sz := 1) (r := nilN) (Nat.zero_le _)) ?_
  refine runS_while (fun (z : DivX) τ ar => (τ 0 = natS n1 A ∧ τ 1 = natS n2 (frm y) ∧ τ 6 = .row 0 0 ∧ τ 7 = natS none (frm z.R) ∧ τ 8 = iv ((z.i : Int) - 1)) ∧ ar = [.row 3 1 0 n (rowN z.p)] ∧ z.i ≤ n ∧ (∀ j, z.p j < 10) ∧ (∀ j, j < z.i → z.p j = 0) ∧ z.R < y ∧ val (A.drop z.i) = val ((listF z.p n).drop z.i) * y + z.R) (fun z => z.i) ⟨n, fun _ => 0, 0⟩ ⟨⟨rfl, rfl, rfl, by rw [frm_zero]; rfl, by rw [← hn]; exact congrArg iv hw0⟩, rfl, Nat.le_refl _, fun _ => by show 0 < 10; decide, fun _ _ => rfl, hy0, by
      dsimp only
      rw [List.drop_eq_nil_of_le (by omega), List.drop_eq_nil_of_le (by rw [listF_len]; exact Nat.le_refl _)]
      show 0 = 0 * y + 0
      omega⟩ ?_
  rintro ⟨i, p, R⟩ τ' ar' ⟨⟨g0, g1, g6, g7, g8⟩, rfl, hi, hp10, hp0, hR, hval⟩ ih
  dsimp only at g7 g8 hi hp10 hp0 hR hval ih ⊢
  refine runS_says 0 (by exact g0) (Says.refl _) ?_; refine runS_says 1 (by exact g1) (Says.refl _) ?_; refine runS_says 6 (by exact g6) (Says.refl _) ?_; refine runS_says 7 (by exact g7) (Says.refl _) ?_; refine runS_says 8 (by exact g8) (Says.refl _) ?_
  refine rX rfl ?_
  refine runS_cond rfl (fun h => ?_) (fun h => ?_)
  · have hi0 : 0 < i := by
      have : decide ((i : Int) - 1 ≥ 0) = true := h
      simp at this
      omega
    obtain ⟨k, rfl⟩ : ∃ k, i = k + 1 := ⟨i - 1, by omega⟩
    have hk : k < A.length := by omega
    have e1 : (((k + 1 : Nat) : Int) - 1) = (k : Int) := by omega
    rw [e1] at g8 ⊢
    have hwk : IntKind.wrap .i64 ((k : Int) - 1) = (k : Int) - 1 := w64 (by omega) (by omega)
    have hv := val_drop A k
    have hd9 := getD_lt hda k
    have hRl : (frm R).length ≤ (frm y).length := frm_len_mono (Nat.le_of_lt hR)
    have hpk : p k = 0 := hp0 k (by omega)
    refine runS_x (I := inf) (J := jnf) ⟨false, false, [], 0, 0⟩ 9999 rfl (by repeat (first | exact obs_nil | refine obs_draw (by kernel_rfl) ?_ | refine obs_same ?_ | refine obs_and ?_ | refine obs_by (by (simp [inB, hk] <;> omega)) ?_)) ?_
    refine runS_tell 1 (natR (A.getD k 0 :: frm R)) rfl (m' := (A.getD k 0 :: frm R).length) (by simp; omega) (fun j hj => ?_) rfl ?_
    · cases j with
      | zero => rfl
      | succ j =>
        refine Eq.trans ?_ (appR_ge (m := 1) (i := j + 1) (Nat.succ_le_succ (Nat.zero_le j))).symm
        rfl
    refine runS_freeze 25 rfl rfl rfl (fun j hj => rfl) ?_
    refine runS_call rfl rfl rfl rfl rfl rfl rfl (r_trim none (A.getD k 0 :: frm R) (by simp; omega) (fun d hd => by rcases List.mem_cons.1 hd with rfl | hd; exact hd9; exact frm_digit hd)) ?_
    have hD : trim (A.getD k 0 :: frm R) = frm (A.getD k 0 + 10 * R) := by
      unfold trim
      rw [val, val_frm]
    rw [hD]
    generalize hDe : A.getD k 0 + 10 * R = D at *
    have hD10 : D < 10 * y := by omega
    refine rX rfl ?_
    refine runS_tell 0 (rowN (updF p k 0)) rfl (m' := n) rfl (fun j hj => by (unfold rowN updF; by_cases e : j = k; (rw [if_pos e, e, hpk]); (rw [if_neg e]))) rfl ?_
    refine runS_while (fun (m : Nat) τ ar => (τ 0 = natS n1 A ∧ τ 1 = natS n2 (frm y) ∧ τ 6 = .row 0 0 ∧ τ 7 = natS none (frm (D - m * y)) ∧ τ 8 = iv k) ∧ ar = [.row 3 1 0 n (rowN (updF p k m)), .gone] ∧ m * y ≤ D) (fun m => D - m * y) 0 ⟨⟨rfl, rfl, rfl, by rw [Nat.zero_mul, Nat.sub_zero]; rfl, rfl⟩, rfl, by omega⟩ ?_
    rintro m τ2 ar2 ⟨⟨j0, j1, j6, j7, j8⟩, rfl, hm⟩ ih2
    have hm9 : m ≤ 9 := by
      refine Nat.le_of_lt_succ (Nat.lt_of_mul_lt_mul_right (a := y) (Nat.lt_of_le_of_lt hm ?_))
      exact hD10
    have hDl : (frm (D - m * y)).length ≤ (frm y).length + 1 := by
      refine frm_len_lt.2 ?_
      have h1 := frm_lt_pow y
      rw [Nat.pow_succ]
      omega
    refine runS_says 0 (by exact j0) (Says.refl _) ?_; refine runS_says 1 (by exact j1) (Says.refl _) ?_; refine runS_says 6 (by exact j6) (Says.refl _) ?_; refine runS_says 7 (by exact j7) (Says.refl _) ?_; refine runS_says 8 (by exact j8) (Says.refl _) ?_
    refine rX rfl ?_
    refine runS_call rfl rfl rfl rfl rfl rfl rfl (r_cmp none n2 (frm (D - m * y)) (frm y) (by omega) (by omega)) ?_
    refine rX rfl ?_
    have hcm := cmpT_lt (D - m * y) y
    refine runS_cond rfl (fun h2 => ?_) (fun h2 => ?_)
    · have hge : y ≤ D - m * y := by
        have := of_decide_eq_true (show decide (cmpT (frm (D - m * y)) (frm y) ≥ 0) = true from h2)
        omega
      have hn1 : (m + 1) * y = m * y + y := by rw [Nat.add_mul, Nat.one_mul]
      have hls := r_less none n2 (D - m * y) y hge (by omega)
      rw [show D - m * y - y = D - (m + 1) * y by omega] at hls
      have huk : updF p k m k = m := by unfold updF; rw [if_pos rfl]
      have hwm : IntKind.wrap .i64 (((updF p k m k : Nat) : Int) + 1) = ((m + 1 : Nat) : Int) := by rw [huk, w64 (by omega) (by omega)]; rfl
      have hkn : k < n := by omega
      refine rX rfl ?_
      refine runS_call rfl rfl rfl rfl rfl rfl rfl hls ?_
      refine runS_x (I := inf) (J := jnf) ⟨false, false, [], 0, 0⟩ 9999 rfl (by repeat (first | exact obs_nil | refine obs_draw (by kernel_rfl) ?_ | refine obs_same ?_ | refine obs_and ?_ | refine obs_by (by (simp [inB, hkn] <;> omega)) ?_)) ?_
      refine runS_tell 0 (rowN (updF p k (m + 1))) rfl (m' := n) rfl (fun j hj => ?_) rfl ?_
      · refine Eq.trans ?_ (rowN_upd (p := updF p k m) (congrArg (fun z => [iv z]) hwm) j)
        unfold rowN updF
        by_cases e : j = k
        · simp [e]
        · simp [e]
      exact ih2 (m + 1) _ _ (by omega) ⟨⟨rfl, rfl, rfl, rfl, rfl⟩, rfl, by omega⟩
    · have hlt : D - m * y < y := by
        have := of_decide_eq_false (show decide (cmpT (frm (D - m * y)) (frm y) ≥ 0) = false from h2)
        omega
      refine rX rfl ?_
      refine runS_drop 1 (Nat.zero_le _) rfl (by repeat (first | exact .nil | refine .row (fun j hj => rfl) ?_ | refine .box rfl ?_ | refine .fam (fun k j hk hj => rfl) ?_ | refine .loop (scrub_under _ _) ?_ | refine .dfr ?_ | refine .gone ?_ | refine .map (fun p hp => by (obtain ⟨k, _, rfl⟩ := List.mem_map.1 hp; rfl)) ?_)) rfl rfl rfl (by repeat (first | exact .nil | refine .cons rfl rfl rfl (scrub_under _ _) ?_)) ?_
      refine ih ⟨k, updF p k m, D - m * y⟩ _ _ (by dsimp only; omega) ⟨⟨rfl, rfl, rfl, rfl, congrArg iv hwk⟩, rfl, by dsimp only; omega, ?_, ?_, hlt, ?_⟩
      · intro j
        dsimp only
        unfold updF
        split
        · omega
        · exact hp10 j
      · intro j hj
        dsimp only at hj ⊢
        unfold updF
        rw [if_neg (by omega)]
        exact hp0 j (by omega)
      · dsimp only
        have hvd := val_drop (listF (updF p k m) n) k
        rw [listF_getD _ (by omega), drop_upd, show updF p k m k = m by unfold updF; rw [if_pos rfl]] at hvd
        rw [hvd, hv, hval, Nat.add_mul, Nat.mul_add]
        have : 10 * (val ((listF p n).drop (k + 1)) * y) = 10 * val ((listF p n).drop (k + 1)) * y := by rw [Nat.mul_assoc]
        omega
  · have hi0 : i = 0 := by
      have : decide ((i : Int) - 1 ≥ 0) = false := h
      simp at this
      omega
    subst hi0
    rw [List.drop_zero, List.drop_zero, hvx] at hval
    have hdiv : x / y = val (listF p n) := by
      rw [hval, Nat.mul_comm, Nat.mul_add_div hy0, Nat.div_eq_of_lt hR, Nat.add_zero]
    have hmod : x % y = R := by
      rw [hval, Nat.mul_comm, Nat.mul_add_mod, Nat.mod_eq_of_lt hR]
    have hc := r_trim none (listF p n) (by rw [listF_len]; omega) (listF_lt fun j _ => hp10 j)
    unfold natS at hc
    rw [listF_len] at hc
    refine rX rfl ?_
    refine runS_tell 0 (natR (listF p n)) rfl (m' := n) rfl (fun j hj => natR_listF p hj) rfl ?_
    refine runS_freeze 40 rfl rfl rfl (fun j hj => rfl) ?_
    refine runS_call rfl rfl rfl rfl rfl rfl rfl hc ?_
    refine rX rfl ?_
    refine runS_ret (I := inf) 0 rfl (Nat.le_refl _) rfl .nil rfl ⟨?_, rfl⟩
    unfold trim
    rw [hdiv, hmod]
    rfl
end Go.Iron.Tryz

/- Digits: the exponent that the reference finds for a float, in plain Lean. -/
namespace Go.Iron.Dg

def k0F (num den P : Nat) : Int := (P : Int) - ((frm num).length - (frm den).length) - 1
def kF (num den P : Nat) : Int := if num * e10 (k0F num den P) < den * e10 (-k0F num den P) * 10 ^ (P - 1) then k0F num den P + 1 else k0F num den P
def rndF (N D : Nat) : Nat := N / D + (if N % D + N % D ≥ D then 1 else 0)
theorem kF_found {num den P j : Nat} (hn : num ≠ 0) (hd : den ≠ 0) (hP : 1 ≤ P) (hj : j ≤ 1)
    (h1 : j = 1 → num * e10 (k0F num den P) < den * e10 (-k0F num den P) * 10 ^ (P - 1)) (h2 : den * e10 (-k0F num den P) * 10 ^ (P - 1) ≤ num * e10 (k0F num den P) * 10 ^ j) :
    k0F num den P + j = kF num den P ∧ num * e10 (k0F num den P) * 10 ^ j < den * e10 (-k0F num den P) * 10 ^ P ∧ IsK num den P (kF num den P)
    ∧ fltR num den (kF num den P) = normD (rndF (num * e10 (k0F num den P) * 10 ^ j) (den * e10 (-k0F num den P))) (-kF num den P) ∧ rndF (num * e10 (k0F num den P) * 10 ^ j) (den * e10 (-k0F num den P)) ≤ 10 ^ P ∧ rndF (num * e10 (k0F num den P) * 10 ^ j) (den * e10 (-k0F num den P)) ≠ 0 := by
  have hs := float_start hn hd hP (k0 := k0F num den P) rfl
  have hr := float_ratio num den (k0F num den P) j
  have hD : 0 < den * e10 (-k0F num den P) := Nat.mul_pos (Nat.pos_of_ne_zero hd) (e10_pos _)
  have hk : k0F num den P + j = kF num den P := by
    unfold kF
    rcases (show j = 0 ∨ j = 1 by omega) with rfl | rfl
    · rw [if_neg (by rw [Nat.pow_zero, Nat.mul_one] at h2; omega)]
      simp
    · rw [if_pos (h1 rfl)]
      rfl
  have hlt : num * e10 (k0F num den P) * 10 ^ j < den * e10 (-k0F num den P) * 10 ^ P := by
    rcases (show j = 0 ∨ j = 1 by omega) with rfl | rfl
    · rw [Nat.pow_zero, Nat.mul_one]; exact hs.2
    · have := h1 rfl
      obtain ⟨p, rfl⟩ : ∃ p, P = p + 1 := ⟨P - 1, by omega⟩
      rw [Nat.add_sub_cancel] at this
      rw [Nat.pow_one, Nat.pow_succ, ← Nat.mul_assoc]
      omega
  rw [hk] at hr
  obtain ⟨i1, i2⟩ := float_found hr (Nat.pos_of_ne_zero hd) hD h2 hlt
  refine ⟨hk, hlt, i1, i2, ?_, ?_⟩
  · have hq : num * e10 (k0F num den P) * 10 ^ j / (den * e10 (-k0F num den P)) < 10 ^ P := Nat.div_lt_of_lt_mul hlt
    unfold rndF
    split <;> omega
  · have hq : 10 ^ (P - 1) ≤ num * e10 (k0F num den P) * 10 ^ j / (den * e10 (-k0F num den P)) := by
      rw [Nat.le_div_iff_mul_le hD, Nat.mul_comm]; exact h2
    have : 0 < 10 ^ (P - 1) := Nat.pow_pos (by decide)
    unfold rndF
    omega
theorem k0F_stop {num den P j : Nat} (hn : num ≠ 0) (hd : den ≠ 0) (hP : 1 ≤ P) (hj : j ≤ 1) (h : num * e10 (k0F num den P) * 10 ^ j < den * e10 (-k0F num den P) * 10 ^ (P - 1)) : j = 0 := by
  have hs := float_start hn hd hP (k0 := k0F num den P) rfl
  rcases (show j = 0 ∨ j = 1 by omega) with rfl | rfl
  · rfl
  · rw [Nat.pow_one] at h
    omega
theorem kF_is {num den P : Nat} (hn : num ≠ 0) (hd : den ≠ 0) (hP : 1 ≤ P) : IsK num den P (kF num den P) := by
  have hs := float_start hn hd hP (k0 := k0F num den P) rfl
  by_cases h : num * e10 (k0F num den P) < den * e10 (-k0F num den P) * 10 ^ (P - 1)
  · exact (kF_found (j := 1) hn hd hP (Nat.le_refl _) (fun _ => h) (by rw [Nat.pow_one]; exact Nat.le_of_lt hs.1)).2.2.1
  · exact (kF_found (j := 0) hn hd hP (Nat.zero_le _) (fun e => by cases e) (by rw [Nat.pow_zero, Nat.mul_one]; omega)).2.2.1
end Go.Iron.Dg

/- The digits' seat: the reference's floats. -/
namespace Go.Iron.Tryz
open Go.Proofs Go.RowKit Go.Iron.Tok Go.Iron.Dg

theorem natS_tail (d : Nat) (A : List Nat) : AV.slc 1 none (((d :: A).length : Int) - 1).toNat (shiftR (natR (d :: A)) (Int.toNat 1)) = natS none A := by
  have h : (((d :: A).length : Int) - 1).toNat = A.length := by rw [List.length_cons]; omega
  rw [h]
  refine congrArg (AV.slc 1 none A.length) (funext fun i => ?_)
  show natR (d :: A) (1 + i) = natR A i
  rw [Nat.add_comm]
  rfl
theorem r_float0 (ng : Bool) (den : Nat) (t : Typ) : CallT Tryz.prog 177 [exA ⟨ng, 0, den⟩, .agg (typE t)] [] (fun o A => o = .ret (numA 3 (0, 0, 0)) ∧ A = []) := by
  show CallT Tryz.prog 177 [.agg [bv ng, natS none (frm 0), natS none (frm den)], .agg (typE t)] [] _
  rw [frm_zero]
  refine callS_body (n := 125) rfl rfl fun w ρ X => ?_
  refine rX rfl ?_
  refine runS_cond rfl (fun h => ?_) (fun h => by cases h)
  refine rX rfl ?_
  refine runS_ret (I := inf) 0 rfl (Nat.le_refl _) rfl .nil rfl ⟨?_, rfl⟩
  rfl
theorem r_float (ng : Bool) (num den : Nat) (t : Typ) (P : Nat) (hn : num ≠ 0) (hd : den ≠ 0) (hp : t.p = P) (hP : 1 ≤ P) (hP2 : P ≤ 15) (hx : ExFit ⟨ng, num, den⟩ 980) :
    CallT Tryz.prog 177 [exA ⟨ng, num, den⟩, .agg (typE t)] [] (fun o A => o = .ret (numA 3 (fltO ng (fltR num den (kF num den P)))) ∧ A = []) := by
  obtain ⟨a1, a2⟩ := hx
  dsimp only at a1 a2
  obtain ⟨tk, tp, tq, tn, tv, tc⟩ := t
  dsimp only at hp
  subst hp
  have ln0 : 0 < (frm num).length := Nat.pos_of_ne_zero fun e => hn (frm_len0.1 e)
  have ld0 : 0 < (frm den).length := Nat.pos_of_ne_zero fun e => hd (frm_len0.1 e)
  have hkd : k0F num den P = (P : Int) - ((frm num).length - (frm den).length) - 1 := rfl
  have hwk : IntKind.wrap .i64 (IntKind.wrap .i64 ((P : Int) - IntKind.wrap .i64 (((frm num).length : Int) - ((frm den).length : Int))) - 1) = k0F num den P := by
    rw [w64 (x := ((frm num).length : Int) - ((frm den).length : Int)) (by omega) (by omega), w64 (x := (P : Int) - (((frm num).length : Int) - ((frm den).length : Int))) (by omega) (by omega), w64 (by omega) (by omega)]; rfl
  have hNl : (frm (num * e10 (k0F num den P))).length ≤ 1000 := by
    have := frm_len_up num (k0F num den P).toNat
    unfold e10
    omega
  have hDl : (frm (den * e10 (-k0F num den P))).length ≤ 1000 := by
    have := frm_len_up den (-k0F num den P).toNat
    unfold e10
    omega
  have hst := fun j => kF_found (j := j) hn hd hP
  have hsp := fun j => k0F_stop (j := j) hn hd hP
  have hD0 : 0 < den * e10 (-k0F num den P) := Nat.mul_pos (Nat.pos_of_ne_zero hd) (e10_pos _)
  have hk0b : -1000 ≤ k0F num den P ∧ k0F num den P ≤ 1000 := by omega
  refine callS_body (n := 125) rfl rfl fun w ρ X => ?_
  refine rX rfl ?_
  refine runS_cond rfl (fun h => ?_) (fun h => ?_)
  · have : ((frm num).length : Int) = 0 := by simpa using (show (((frm num).length : Int) == 0) = true from h)
    omega
  refine rX rfl ?_
  refine runS_cut (fun τ ar => (τ 2 = .ptr 0 0 0 ∧ τ 3 = .ptr 1 0 0 ∧ τ 4 = .ptr 2 0 0 ∧ τ 6 = .ptr 3 0 0 ∧ τ 7 = iv (k0F num den P) ∧ τ 8 = natS none (frm (num * e10 (k0F num den P))) ∧ τ 9 = natS none (frm (den * e10 (-k0F num den P)))) ∧ ar = [.box 35 [bv ng, natS none (frm num), natS none (frm den)], .box 25 [iv tk, iv P, iv tq, iv tn, bv tv, sv tc], .box 23 [iv 0, iv 0, iv 0, sv []], .box 23 [iv 3, iv 0, iv 0, sv []]]) (fun rest => ?_) ?_
  · refine runS_cond rfl (fun h => ?_) (fun h => ?_)
    · have h0 : 0 ≤ k0F num den P := by
        have := of_decide_eq_true h
        rw [hwk] at this
        exact this
      have hpw := r_pow10Z (k0F num den P) h0 (by omega)
      rw [← hwk] at hpw
      have hml := r_mul none none num (10 ^ (k0F num den P).toNat) (by omega) (by rw [frm_pow]; simp; omega)
      rw [← hwk] at hml
      refine runS_x (I := inf) (J := jnf) ⟨false, false, [], 2, 0⟩ 9999 rfl ob1 ?_
      refine runS_call rfl rfl rfl rfl rfl rfl rfl hpw ?_
      refine runS_x (I := inf) (J := jnf) ⟨false, false, [], 2, 0⟩ 9999 rfl ob1 ?_
      refine runS_call rfl rfl rfl rfl rfl rfl rfl hml ?_
      refine runS_x (I := inf) (J := jnf) ⟨false, false, [], 2, 0⟩ 9999 rfl ob1 ?_
      refine rest _ _ ⟨⟨rfl, rfl, rfl, rfl, congrArg iv hwk, by rw [← hwk]; rfl, ?_⟩, rfl⟩
      rw [show e10 (-k0F num den P) = 1 by unfold e10; rw [show (-k0F num den P).toNat = 0 by omega], Nat.mul_one]
      rfl
    · have h0 : ¬ 0 ≤ k0F num den P := by
        have := of_decide_eq_false h
        rw [hwk] at this
        exact this
      have hwn : IntKind.wrap .i64 (0 - k0F num den P) = -k0F num den P := by rw [w64 (by omega) (by omega)]; omega
      have hpw := r_pow10Z (-k0F num den P) (by omega) (by omega)
      rw [← hwn, ← hwk] at hpw
      have hml := r_mul none none den (10 ^ (-k0F num den P).toNat) (by omega) (by rw [frm_pow]; simp; omega)
      rw [← hwn, ← hwk] at hml
      refine runS_x (I := inf) (J := jnf) ⟨false, false, [], 2, 0⟩ 9999 rfl ob1 ?_
      refine runS_call rfl rfl rfl rfl rfl rfl rfl hpw ?_
      refine runS_x (I := inf) (J := jnf) ⟨false, false, [], 2, 0⟩ 9999 rfl ob1 ?_
      refine runS_call rfl rfl rfl rfl rfl rfl rfl hml ?_
      refine runS_x (I := inf) (J := jnf) ⟨false, false, [], 2, 0⟩ 9999 rfl ob1 ?_
      refine rest _ _ ⟨⟨rfl, rfl, rfl, rfl, congrArg iv hwk, ?_, by rw [← hwn, ← hwk]; rfl⟩, rfl⟩
      rw [show e10 (k0F num den P) = 1 by unfold e10; rw [show (k0F num den P).toNat = 0 by omega], Nat.mul_one]
      rfl
  generalize hNe : num * e10 (k0F num den P) = N0 at *
  generalize hDe : den * e10 (-k0F num den P) = D0 at *
  generalize hke : k0F num den P = k0 at *
  clear hwk hNe hDe
  rintro τ2 ar2 ⟨⟨g2, g3, g4, g6, g7, g8, g9⟩, rfl⟩
  refine runS_says 2 (by exact g2) (Says.refl _) ?_; refine runS_says 3 (by exact g3) (Says.refl _) ?_; refine runS_says 4 (by exact g4) (Says.refl _) ?_; refine runS_says 6 (by exact g6) (Says.refl _) ?_; refine runS_says 7 (by exact g7) (Says.refl _) ?_; refine runS_says 8 (by exact g8) (Says.refl _) ?_; refine runS_says 9 (by exact g9) (Says.refl _) ?_
  refine rX rfl ?_
  have hwp : IntKind.wrap .i64 ((P : Int) - 1) = ((P - 1 : Nat) : Int) := by rw [w64 (by omega) (by omega)]; omega
  have hp1 := r_pow10 (P - 1) (by omega)
  have hp2 := r_pow10 P (by omega)
  have hp3 := r_pow10 1 (by omega)
  have hl1 := frm_len_up D0 (P - 1)
  have hl2 := frm_len_up D0 P
  have hm1 := r_mul none none D0 (10 ^ (P - 1)) (by omega) (by rw [frm_pow]; simp; omega)
  have hm2 := r_mul none none D0 (10 ^ P) (by omega) (by rw [frm_pow]; simp; omega)
  refine runS_while (fun (j : Nat) τ ar => (τ 2 = .ptr 0 0 0 ∧ τ 3 = .ptr 1 0 0 ∧ τ 4 = .ptr 2 0 0 ∧ τ 6 = .ptr 3 0 0 ∧ τ 7 = iv (k0 + j) ∧ τ 8 = natS none (frm (N0 * 10 ^ j)) ∧ τ 9 = natS none (frm D0)) ∧ ar = [.box 35 [bv ng, natS none (frm num), natS none (frm den)], .box 25 [iv tk, iv P, iv tq, iv tn, bv tv, sv tc], .box 23 [iv 0, iv 0, iv 0, sv []], .box 23 [iv 3, iv 0, iv 0, sv []]] ∧ j ≤ 1 ∧ (j = 1 → N0 < D0 * 10 ^ (P - 1))) (fun j => 1 - j) 0 ⟨⟨rfl, rfl, rfl, rfl, congrArg iv (show k0 = k0 + ((0 : Nat) : Int) by simp), congrArg (fun z => natS none (frm z)) (show N0 = N0 * 10 ^ 0 by rw [Nat.pow_zero, Nat.mul_one]), rfl⟩, rfl, Nat.zero_le _, fun h => by cases h⟩ ?_
  rintro j τ3 ar3 ⟨⟨g2, g3, g4, g6, g7, g8, g9⟩, rfl, hj, hj1⟩ ih
  have hlN := frm_len_up N0 j
  have hlN2 := frm_len_up N0 (j + 1)
  refine runS_says 2 (by exact g2) (Says.refl _) ?_; refine runS_says 3 (by exact g3) (Says.refl _) ?_; refine runS_says 4 (by exact g4) (Says.refl _) ?_; refine runS_says 6 (by exact g6) (Says.refl _) ?_; refine runS_says 7 (by exact g7) (Says.refl _) ?_; refine runS_says 8 (by exact g8) (Says.refl _) ?_; refine runS_says 9 (by exact g9) (Says.refl _) ?_
  rw [← hwp] at hp1
  refine rX rfl ?_
  refine runS_call rfl rfl rfl rfl rfl rfl rfl hp1 ?_
  refine rX rfl ?_
  refine runS_call rfl rfl rfl rfl rfl rfl rfl hm1 ?_
  refine rX rfl ?_
  refine runS_call rfl rfl rfl rfl rfl rfl rfl (r_cmp none none (frm (N0 * 10 ^ j)) (frm (D0 * 10 ^ (P - 1))) (by omega) (by omega)) ?_
  have hcm := cmpT_lt (N0 * 10 ^ j) (D0 * 10 ^ (P - 1))
  refine rX rfl ?_
  refine runS_cond rfl (fun h => ?_) (fun h => ?_)
  · have hlt : N0 * 10 ^ j < D0 * 10 ^ (P - 1) := hcm.1 (of_decide_eq_true h)
    have hj0 := hsp j hj hlt
    subst hj0
    rw [Nat.pow_zero, Nat.mul_one] at hlt
    have hwj : IntKind.wrap .i64 (k0 + ((0 : Nat) : Int) + 1) = k0 + ((1 : Nat) : Int) := by rw [w64 (by omega) (by omega)]; omega
    have hm3 := r_mul none none (N0 * 10 ^ 0) (10 ^ 1) (by omega) (by rw [frm_pow]; simp)
    refine rX rfl ?_
    refine runS_call rfl rfl rfl rfl rfl rfl rfl hp3 ?_
    refine rX rfl ?_
    refine runS_call rfl rfl rfl rfl rfl rfl rfl hm3 ?_
    refine rX rfl ?_
    refine ih 1 _ _ (by decide) ⟨⟨rfl, rfl, rfl, rfl, congrArg iv hwj, congrArg (fun z => natS none (frm z)) (show N0 * 10 ^ 0 * 10 ^ 1 = N0 * 10 ^ 1 by rw [Nat.pow_zero, Nat.mul_one]), rfl⟩, rfl, Nat.le_refl _, fun _ => hlt⟩
  · have hge : D0 * 10 ^ (P - 1) ≤ N0 * 10 ^ j := Nat.le_of_not_lt fun hlt => absurd (hcm.2 hlt) (of_decide_eq_false h)
    obtain ⟨e1, e2, e3, e4, e5, e6⟩ := hst j hj hj1 hge
    clear ih hcm hsp hst hj1
    rw [e1] at g7
    rw [e4]
    generalize N0 * 10 ^ j = N at *
    generalize kF num den P = k at *
    refine rX rfl ?_
    refine runS_while (fun (_ : Unit) τ ar => (τ 2 = .ptr 0 0 0 ∧ τ 3 = .ptr 1 0 0 ∧ τ 4 = .ptr 2 0 0 ∧ τ 6 = .ptr 3 0 0 ∧ τ 7 = iv k ∧ τ 8 = natS none (frm N) ∧ τ 9 = natS none (frm D0)) ∧ ar = [.box 35 [bv ng, natS none (frm num), natS none (frm den)], .box 25 [iv tk, iv P, iv tq, iv tn, bv tv, sv tc], .box 23 [iv 0, iv 0, iv 0, sv []], .box 23 [iv 3, iv 0, iv 0, sv []]]) (fun _ => 0) () ⟨⟨rfl, rfl, rfl, rfl, congrArg iv e1, rfl, rfl⟩, rfl⟩ ?_
    rintro _ τ4 ar4 ⟨⟨g2, g3, g4, g6, g7, g8, g9⟩, rfl⟩ -
    refine runS_says 2 (by exact g2) (Says.refl _) ?_; refine runS_says 3 (by exact g3) (Says.refl _) ?_; refine runS_says 4 (by exact g4) (Says.refl _) ?_; refine runS_says 6 (by exact g6) (Says.refl _) ?_; refine runS_says 7 (by exact g7) (Says.refl _) ?_; refine runS_says 8 (by exact g8) (Says.refl _) ?_; refine runS_says 9 (by exact g9) (Says.refl _) ?_
    refine rX rfl ?_
    refine runS_call rfl rfl rfl rfl rfl rfl rfl hp2 ?_
    refine rX rfl ?_
    refine runS_call rfl rfl rfl rfl rfl rfl rfl hm2 ?_
    refine rX rfl ?_
    refine runS_call rfl rfl rfl rfl rfl rfl rfl (r_cmp none none (frm N) (frm (D0 * 10 ^ P)) (by omega) (by omega)) ?_
    have hcm := cmpT_lt N (D0 * 10 ^ P)
    refine rX rfl ?_
    refine runS_cond rfl (fun h => ?_) (fun h => ?_)
    · have := of_decide_eq_true (show decide (cmpT (frm N) (frm (D0 * 10 ^ P)) ≥ 0) = true from h)
      have := hcm.2 e2
      omega
    refine rX rfl ?_
    refine runS_call rfl rfl rfl rfl rfl rfl rfl (r_div none none N D0 (by omega) (by omega) hD0) ?_
    obtain ⟨q, hq⟩ : ∃ q, N / D0 = q := ⟨_, rfl⟩
    obtain ⟨r, hr⟩ : ∃ r, N % D0 = r := ⟨_, rfl⟩
    have hrl := frm_len_mono (Nat.le_of_lt (Nat.mod_lt N hD0))
    have hql := frm_len_mono (Nat.div_le_self N D0)
    have hqF : rndF N D0 = q + (if r + r ≥ D0 then 1 else 0) := by unfold rndF; rw [hq, hr]
    rw [hq] at hql ⊢
    rw [hr] at hrl ⊢
    have hpl1 := r_plus none none r r (by omega) (by omega)
    have hpl2 := r_plus none none q 1 (by omega) (by rw [frm_one]; decide)
    have hdl := frm_len_add r r
    have hcq := cmpT_lt (r + r) D0
    generalize rndF N D0 = q0 at *
    refine rX rfl ?_
    refine runS_call rfl rfl rfl rfl rfl rfl rfl hpl1 ?_
    refine rX rfl ?_
    refine runS_call rfl rfl rfl rfl rfl rfl rfl (r_cmp none none (frm (r + r)) (frm D0) (by omega) (by omega)) ?_
    refine rX rfl ?_
    refine runS_cut (fun τ ar => (τ 2 = .ptr 0 0 0 ∧ τ 3 = .ptr 1 0 0 ∧ τ 4 = .ptr 2 0 0 ∧ τ 6 = .ptr 3 0 0 ∧ τ 7 = iv k ∧ τ 10 = natS none (frm q0)) ∧ ar = [.box 35 [bv ng, natS none (frm num), natS none (frm den)], .box 25 [iv tk, iv P, iv tq, iv tn, bv tv, sv tc], .box 23 [iv 0, iv 0, iv 0, sv []], .box 23 [iv 3, iv 0, iv 0, sv []]]) (fun rest => ?_) ?_
    · refine runS_cond rfl (fun h => ?_) (fun h => ?_)
      · have hge : r + r ≥ D0 := by
          have := of_decide_eq_true (show decide (cmpT (frm (r + r)) (frm D0) ≥ 0) = true from h)
          omega
        rw [if_pos hge] at hqF
        rw [← hqF] at hpl2
        refine runS_x (I := inf) (J := jnf) ⟨false, false, [], 2, 0⟩ 9999 rfl ob1 ?_
        refine runS_tell 4 (natR (frm 1)) rfl (m' := (frm 1).length) (by rw [frm_one]; rfl) (fun i hi => ?_) rfl ?_
        · have : i = 0 := by omega
          subst this
          rw [frm_one]
          rfl
        refine runS_freeze 85 rfl rfl rfl (fun j hj => rfl) ?_
        refine runS_call rfl rfl rfl rfl rfl rfl rfl hpl2 ?_
        refine runS_x (I := inf) (J := jnf) ⟨false, false, [], 2, 0⟩ 9999 rfl ob1 ?_
        refine runS_drop 4 (Nat.zero_le _) rfl (by repeat (first | exact .nil | refine .row (fun j hj => rfl) ?_ | refine .box rfl ?_ | refine .fam (fun k j hk hj => rfl) ?_ | refine .loop (scrub_under _ _) ?_ | refine .dfr ?_ | refine .gone ?_ | refine .map (fun p hp => by (obtain ⟨k, _, rfl⟩ := List.mem_map.1 hp; rfl)) ?_)) rfl rfl rfl (by repeat (first | exact .nil | refine .cons rfl rfl rfl (scrub_under _ _) ?_)) ?_
        exact rest _ _ ⟨⟨rfl, rfl, rfl, rfl, rfl, rfl⟩, rfl⟩
      · have hge : ¬ r + r ≥ D0 := by
          have := of_decide_eq_false (show decide (cmpT (frm (r + r)) (frm D0) ≥ 0) = false from h)
          omega
        rw [if_neg hge, Nat.add_zero] at hqF
        rw [← hqF]
        refine runS_x (I := inf) (J := jnf) ⟨false, false, [], 2, 0⟩ 9999 rfl ob1 ?_
        exact rest _ _ ⟨⟨rfl, rfl, rfl, rfl, rfl, rfl⟩, rfl⟩
    have hP15 : 10 ^ P ≤ 10 ^ 15 := Nat.pow_le_pow_right (by decide) hP2
    have hP15' : (10 : Nat) ^ 15 = 1000000000000000 := by decide
    have hkb : -1000 ≤ k ∧ k ≤ 1001 := by omega
    have hwn : IntKind.wrap .i64 (0 - k) = -k := by rw [w64 (by omega) (by omega)]; omega
    have hq0l : (frm q0).length ≤ 16 := frm_len_lt.2 (by omega)
    clear hqF hcq hdl hpl1 hpl2 hrl hql hq hr g2 g3 g4 g6 g7 g8 g9 hcm hm1 hm2 hlN hlN2 hl1 hl2
    rintro τ5 ar5 ⟨⟨g2, g3, g4, g6, g7, g10⟩, rfl⟩
    refine runS_says 2 (by exact g2) (Says.refl _) ?_; refine runS_says 3 (by exact g3) (Says.refl _) ?_; refine runS_says 4 (by exact g4) (Says.refl _) ?_; refine runS_says 6 (by exact g6) (Says.refl _) ?_; refine runS_says 7 (by exact g7) (Says.refl _) ?_; refine runS_says 10 (by exact g10) (Says.refl _) ?_
    refine rX rfl ?_
    refine runS_while (fun (z : Nat × Int) τ ar => (τ 2 = .ptr 0 0 0 ∧ τ 3 = .ptr 1 0 0 ∧ τ 4 = .ptr 2 0 0 ∧ τ 6 = .ptr 3 0 0 ∧ τ 10 = natS none (frm z.1)) ∧ ar = [.box 35 [bv ng, natS none (frm num), natS none (frm den)], .box 25 [iv tk, iv P, iv tq, iv tn, bv tv, sv tc], .box 23 [iv 0, iv 0, iv 0, sv []], .box 23 [iv 3, iv 0, iv z.2, sv []]] ∧ z.1 ≤ q0 ∧ z.1 ≠ 0 ∧ normD q0 (-k) = normD z.1 z.2 ∧ -k ≤ z.2 ∧ z.2 + ((frm z.1).length : Int) ≤ -k + ((frm q0).length : Int)) (fun z => z.1) (q0, -k) ⟨⟨rfl, rfl, rfl, rfl, rfl⟩, by rw [← hwn], Nat.le_refl _, e6, rfl, Int.le_refl _, Int.le_refl _⟩ ?_
    rintro ⟨q, v⟩ τ6 ar6 ⟨⟨g2, g3, g4, g6, g10⟩, rfl, hq, hq0, hnd, hv1, hv2⟩ ih
    dsimp only at g10 hq hq0 hnd hv1 hv2 ih ⊢
    have hfq := frm_pos hq0
    have hql := frm_len_mono hq
    have hwv : IntKind.wrap .i64 (v + 1) = v + 1 := w64 (by omega) (by omega)
    refine runS_says 2 (by exact g2) (Says.refl _) ?_; refine runS_says 3 (by exact g3) (Says.refl _) ?_; refine runS_says 4 (by exact g4) (Says.refl _) ?_; refine runS_says 6 (by exact g6) (Says.refl _) ?_; refine runS_says 10 (by exact g10) (Says.refl _) ?_
    rw [hfq]
    refine rX rfl ?_
    refine runS_cond rfl (fun h => ?_) (fun h => ?_)
    · have h0 : q % 10 = 0 := by
        simp at h
        omega
      have hq1 : q / 10 ≠ 0 := by omega
      have hl1 : (frm q).length = (frm (q / 10)).length + 1 := by rw [hfq]; rfl
      refine rX rfl ?_
      refine ih (q / 10, v + 1) _ _ (by dsimp only; omega) ⟨⟨rfl, rfl, rfl, rfl, natS_tail _ _⟩, by rw [hwv], by dsimp only; omega, hq1, by rw [hnd, normD_step hq0 h0], by dsimp only; omega, by dsimp only; omega⟩
    · have h0 : q % 10 ≠ 0 := by
        simp at h
        omega
      rw [hnd, normD_end h0]
      have hsg := r_signed none q ng (by omega)
      have hl0 : 0 < (frm q).length := by rw [hfq]; exact Nat.succ_pos _
      have hwe : IntKind.wrap .i64 (IntKind.wrap .i64 (((frm q).length : Int) + v) - 1) = ((frm q).length : Int) + v - 1 := by rw [w64 (x := ((frm q).length : Int) + v) (by omega) (by omega), w64 (by omega) (by omega)]
      rw [hfq] at hsg
      refine rX rfl ?_
      refine runS_call rfl rfl rfl rfl rfl rfl rfl hsg ?_
      refine rX rfl ?_
      refine runS_cond rfl (fun h2 => ?_) (fun h2 => ?_)
      · have h3 : ((frm q).length : Int) + v - 1 > 75 := by
          have := of_decide_eq_true h2
          rw [← hfq, hwe] at this
          exact this
        have hF : fltO ng (q, v) = (0, 0, 3) := by unfold fltO; rw [if_neg hq0, if_pos h3]
        rw [hF]
        refine rX rfl ?_
        refine runS_ret (I := inf) 0 rfl (Nat.le_refl _) rfl .nil rfl ⟨?_, rfl⟩
        rfl
      · have h3 : ¬ ((frm q).length : Int) + v - 1 > 75 := by
          have := of_decide_eq_false h2
          rw [← hfq, hwe] at this
          exact this
        refine rX rfl ?_
        refine runS_cond rfl (fun h2 => ?_) (fun h2 => ?_)
        · have h4 : ((frm q).length : Int) + v - 1 < -75 := by
            have := of_decide_eq_true h2
            rw [← hfq, hwe] at this
            exact this
          have hF : fltO ng (q, v) = (0, 0, 8) := by unfold fltO; rw [if_neg hq0, if_neg h3, if_pos h4]
          rw [hF]
          refine rX rfl ?_
          refine runS_ret (I := inf) 0 rfl (Nat.le_refl _) rfl .nil rfl ⟨?_, rfl⟩
          rfl
        · have h4 : ¬ ((frm q).length : Int) + v - 1 < -75 := by
            have := of_decide_eq_false h2
            rw [← hfq, hwe] at this
            exact this
          have hF : fltO ng (q, v) = (sgn ng q, v, 0) := by unfold fltO; rw [if_neg hq0, if_neg h3, if_neg h4]
          rw [hF]
          refine rX rfl ?_
          refine runS_ret (I := inf) 0 rfl (Nat.le_refl _) rfl .nil rfl ⟨?_, rfl⟩
          rfl
end Go.Iron.Tryz

/- The digits' seat: the reference's quotients, floors, and numbers fitted to types. -/
namespace Go.Iron.Tryz
open Go.Proofs Go.RowKit Go.Iron.Tok Go.Iron.Dg

theorem r_over (x y : Ex) (hx : ExFit x 4000) (hy : ExFit y 4000) : CallT Tryz.prog 112 [exA x, exA y] [] (fun o A => o = .ret (exA (overE x y)) ∧ A = []) := by
  obtain ⟨xg, xn, xd⟩ := x
  obtain ⟨yg, yn, yd⟩ := y
  obtain ⟨a1, a2⟩ := hx
  obtain ⟨b1, b2⟩ := hy
  dsimp only at a1 a2 b1 b2
  have hm1 := r_mul none none xn yd a1 b2
  have hm2 := r_mul none none xd yn a2 b1
  refine callS_body (n := 28) rfl rfl fun w ρ X => ?_
  refine rX rfl ?_
  refine runS_call rfl rfl rfl rfl rfl rfl rfl hm1 ?_
  refine rX rfl ?_
  refine runS_call rfl rfl rfl rfl rfl rfl rfl hm2 ?_
  refine rX rfl ?_
  refine runS_ret (I := inf) 0 rfl (Nat.le_refl _) rfl .nil rfl ⟨?_, rfl⟩
  show Out.ret (.agg [bv (if (xg != yg) = true then decide (((frm (xn * yd)).length : Int) > 0) else false), natS none (frm (xn * yd)), natS none (frm (xd * yn))]) = _
  rw [len_pos]
  cases xg <;> cases yg <;> rfl
theorem fitS_fix {kd : Int} (h : kd ≠ 3) (P Q : Nat) (neg : Bool) (num den : Nat) (k big : Int) : fitS kd P Q neg num den k big = (sgn neg (num * bsN kd ^ Q / den % bsN kd ^ P), (Q : Int), if num * bsN kd ^ Q / den ≥ bsN kd ^ P then big else 0) := by
  unfold fitS
  rw [if_neg h]
theorem r_powB (kd : Int) (n : Nat) (hn : n ≤ 31) : CallT Tryz.prog 61 [iv (if kd = 1 then 2 else 10), iv n] [] (fun o A => o = .ret (natS none (frm (bsN kd ^ n))) ∧ A = []) := by
  unfold bsN
  by_cases h : kd = 1
  · rw [if_pos h, if_pos h]; exact r_pow2 n (by omega)
  · rw [if_neg h, if_neg h]; exact r_pow10 n (by omega)
theorem bsN_len (kd : Int) (n : Nat) : (frm (bsN kd ^ n)).length ≤ n + 1 := by
  have h : bsN kd ^ n ≤ 10 ^ n := Nat.pow_le_pow_left (by unfold bsN; split <;> decide) n
  have := frm_len_mono h
  rw [frm_pow] at this
  simp at this
  exact this
theorem r_fitTo (x : Ex) (t : Typ) (big : Int) (hv : validT t = true) (hk : numK t.kind = true) (hx : ExFit x 980) (hd : x.den ≠ 0) :
    CallT Tryz.prog 110 [exA x, .agg (typE t), iv big] [] (fun o A => o = .ret (numA t.kind (fitS t.kind t.p.toNat t.q.toNat x.neg x.num x.den (kF x.num x.den t.p.toNat) big)) ∧ A = []) := by
  obtain ⟨P, Q, hP, hQ, hP1, hP2, hQ2, hkd⟩ := valid_num hv hk
  clear hv hk
  obtain ⟨kd, p, q, n, vy, pc⟩ := t
  obtain ⟨xg, xn, xd⟩ := x
  have a1 := hx.1
  have a2 := hx.2
  dsimp only at hP hQ hkd a1 a2 hd ⊢
  subst hP; subst hQ
  rw [Int.toNat_natCast, Int.toNat_natCast]
  by_cases h3 : kd = 3
  · subst h3
    have hP15 : P ≤ 15 := by omega
    have hfl : CallT Tryz.prog 177 [exA ⟨xg, xn, xd⟩, .agg (typE ⟨3, P, Q, n, vy, pc⟩)] [] (fun o A => o = .ret (numA 3 (fitS 3 P Q xg xn xd (kF xn xd P) big)) ∧ A = []) := by
      unfold fitS
      rw [if_pos rfl]
      by_cases h0 : xn = 0
      · rw [if_pos h0, h0]
        exact r_float0 xg xd _
      · rw [if_neg h0]
        exact r_float xg xn xd _ P h0 hd rfl hP1 hP15 hx
    refine callS_body (n := 65) rfl rfl fun w ρ X => ?_
    refine rX rfl ?_
    refine runS_cond rfl (fun h => ?_) (fun h => by cases h)
    refine rX rfl ?_
    refine runS_call rfl rfl rfl rfl rfl rfl rfl hfl ?_
    refine rX rfl ?_
    refine runS_ret (I := inf) 0 rfl (Nat.le_refl _) rfl .nil rfl ⟨?_, rfl⟩
    rfl
  · rw [fitS_fix h3]
    have hb := r_base kd P Q n vy pc
    have hpQ := r_powB kd Q (by omega)
    have hpP := r_powB kd P hP2
    have hlQ := bsN_len kd Q
    have hlP := bsN_len kd P
    have hB0 := bsN_pos kd P
    have hm := r_mul none none xn (bsN kd ^ Q) (by omega) (by omega)
    have hml := frm_len_mul xn (bsN kd ^ Q)
    have hd1 := r_div none none (xn * bsN kd ^ Q) xd (by omega) (by omega) (Nat.pos_of_ne_zero hd)
    have hql := frm_len_mono (Nat.div_le_self (xn * bsN kd ^ Q) xd)
    have hd2 := r_div none none (xn * bsN kd ^ Q / xd) (bsN kd ^ P) (by omega) (by omega) hB0
    have hc := r_cmp none none (frm (xn * bsN kd ^ Q / xd)) (frm (bsN kd ^ P)) (by omega) (by omega)
    have hcl := cmpT_lt (xn * bsN kd ^ Q / xd) (bsN kd ^ P)
    have hlo : xn * bsN kd ^ Q / xd % bsN kd ^ P < 1000000000000000000 := by
      have h1 := Nat.mod_lt (xn * bsN kd ^ Q / xd) hB0
      have h2 : bsN kd ^ P ≤ 1000000000000000 := by
        rcases hkd with h | h | h
        · subst h
          have : 2 ^ P ≤ 2 ^ 31 := Nat.pow_le_pow_right (by decide) hP2
          show 2 ^ P ≤ _
          omega
        · obtain ⟨h, h5⟩ := h
          subst h
          have : 10 ^ P ≤ 10 ^ 15 := Nat.pow_le_pow_right (by decide) h5
          show 10 ^ P ≤ _
          omega
        · exact absurd h.1 h3
      omega
    have hs := r_signed none (xn * bsN kd ^ Q / xd % bsN kd ^ P) xg hlo
    generalize xn * bsN kd ^ Q = M1 at *
    generalize M1 / xd = q at *
    generalize M1 % xd = rr at *
    generalize q % bsN kd ^ P = lo at *
    generalize q / bsN kd ^ P = hi at *
    generalize bsN kd ^ P = BP at *
    generalize bsN kd ^ Q = BQ at *
    refine callS_body (n := 65) rfl rfl fun w ρ X => ?_
    refine rX rfl ?_
    refine runS_cond rfl (fun h => absurd (show kd = 3 by simpa using (show (kd == 3) = true from h)) h3) (fun h => ?_)
    refine rX rfl ?_
    refine runS_draw 15 (by kernel_rfl) (lexj_x (I := inf) (J := jnf) 99 rfl rfl ob0 (lexj_call rfl rfl rfl rfl rfl rfl rfl rfl hb (lexj_x (I := inf) (J := jnf) 99 rfl rfl ob0 (lexj_call rfl rfl rfl rfl rfl rfl rfl rfl hpQ (lexj_x (I := inf) (J := jnf) 99 rfl rfl ob0 (lexj_call rfl rfl rfl rfl rfl rfl rfl rfl hm (lexj_x (I := inf) (J := jnf) 99 rfl rfl ob0 (lexj_call rfl rfl rfl rfl rfl rfl rfl rfl hd1 (lexj_x (I := inf) (J := jnf) 99 rfl rfl ob0 lexj_nil))))))))) ?_
    refine rX rfl ?_
    refine runS_draw 11 (by kernel_rfl) (lexj_x (I := inf) (J := jnf) 99 rfl rfl ob0 (lexj_call rfl rfl rfl rfl rfl rfl rfl rfl hb (lexj_x (I := inf) (J := jnf) 99 rfl rfl ob0 (lexj_call rfl rfl rfl rfl rfl rfl rfl rfl hpP (lexj_x (I := inf) (J := jnf) 99 rfl rfl ob0 (lexj_call rfl rfl rfl rfl rfl rfl rfl rfl hd2 (lexj_x (I := inf) (J := jnf) 99 rfl rfl ob0 lexj_nil))))))) ?_
    refine rX rfl ?_
    refine rX rfl ?_
    refine runS_drawG (ch := []) (A2 := fun _ => []) 10 [9] (fun b => [.box 35 [bv xg, natS none (frm xn), natS none (frm xd)], .box 25 [iv kd, iv P, iv Q, iv n, bv vy, sv pc], .box 23 [iv 0, iv 0, iv 0, sv []]] ++ cond (b.getD 0 false) [.box 23 [iv 0, iv 0, iv 0, sv []]] []) none (c := 9) jnfI.draw (by kernel_rfl) rfl (lexg_g (I := inf) (J := jnf) none ⟨⟨_, rfl, ob0⟩, oi⟩ rfl rfl rfl rfl (lexg_g (I := inf) (J := jnf) none ⟨⟨_, rfl, ob0⟩, oi⟩ rfl rfl rfl rfl (lexg_g (I := inf) (J := jnf) none ⟨⟨_, rfl, ob0⟩, oi⟩ rfl rfl rfl rfl (lexg_g (I := inf) (J := jnf) none ⟨⟨_, rfl, ob0⟩, oi⟩ rfl rfl rfl rfl (lexg_g (I := inf) (J := jnf) none ⟨⟨_, rfl, ob0⟩, oi⟩ rfl rfl rfl rfl (lexg_call rfl rfl rfl rfl rfl rfl rfl rfl rfl hs (lexg_g (I := inf) (J := jnf) none ⟨⟨_, rfl, ob0⟩, oi⟩ rfl rfl rfl rfl (lexg_g (I := inf) (J := jnf) none ⟨⟨_, rfl, ob0⟩, oi⟩ rfl rfl rfl rfl (lexg_g (I := inf) (J := jnf) none ⟨⟨_, rfl, ob0⟩, oi⟩ rfl rfl rfl rfl (lexg_a rfl rfl ⟨(show _ = _ from rfl), .inl rfl⟩ rfl rfl rfl rfl lexg_nil)))))))))) rfl (fun _ => ?_) (fun h => by cases h)
    refine rX rfl ?_
    refine runS_draw 8 (by kernel_rfl) (lexj_x (I := inf) (J := jnf) 99 rfl rfl ob0 (lexj_call rfl rfl rfl rfl rfl rfl rfl rfl hb (lexj_x (I := inf) (J := jnf) 99 rfl rfl ob0 (lexj_call rfl rfl rfl rfl rfl rfl rfl rfl hpP (lexj_x (I := inf) (J := jnf) 99 rfl rfl ob0 (lexj_call rfl rfl rfl rfl rfl rfl rfl rfl hc (lexj_x (I := inf) (J := jnf) 99 rfl rfl ob0 lexj_nil))))))) ?_
    refine rX rfl ?_
    refine runS_cond rfl (fun h => ?_) (fun h => ?_)
    · have hge : q ≥ BP := by
        have := of_decide_eq_true (show decide (cmpT (frm q) (frm BP) ≥ 0) = true from h)
        omega
      rw [if_pos hge]
      refine rX rfl ?_
      refine runS_ret (I := inf) 0 rfl (Nat.le_refl _) rfl .nil rfl ⟨?_, rfl⟩
      rfl
    · have hge : ¬ q ≥ BP := by
        have := of_decide_eq_false (show decide (cmpT (frm q) (frm BP) ≥ 0) = false from h)
        omega
      rw [if_neg hge]
      refine rX rfl ?_
      refine runS_ret (I := inf) 0 rfl (Nat.le_refl _) rfl .nil rfl ⟨?_, rfl⟩
      rfl
end Go.Iron.Tryz

/- The digits' seat: the law of quotients. -/
namespace Go.Iron.Tryz
open Go.Proofs Go.RowKit Go.Iron.Tok Go.Iron.Dg

theorem of_fit {v : Vl} (hr : v.right = true) (hk : numK v.kind = true) : ExFit (ofE v.kind v.n v.q) 120 := by
  obtain ⟨h1, h2, h3, h4, h5, h6⟩ := right_num hr hk
  have hl1 : (frm v.n.natAbs).length ≤ 15 := frm_len_lt.2 (by omega)
  constructor
  · show (frm (v.n.natAbs * (if v.kind = 3 then 10 ^ v.q.toNat else 1))).length ≤ 120
    have hm := frm_len_mul v.n.natAbs (if v.kind = 3 then 10 ^ v.q.toNat else 1)
    have : (frm (if v.kind = 3 then 10 ^ v.q.toNat else 1)).length ≤ 100 := by
      split
      · rename_i hk3
        have := h4 hk3
        rw [frm_pow]; simp; omega
      · rw [frm_one]; decide
    omega
  · show (frm (if v.kind = 1 then 2 ^ v.q.toNat else if v.kind = 2 then 10 ^ v.q.toNat else 10 ^ (-v.q).toNat)).length ≤ 120
    split
    · rename_i hk1
      have := h3 (by omega)
      exact Nat.le_trans (frm_len_lt.2 (Nat.lt_of_le_of_lt (Nat.pow_le_pow_left (by decide : 2 ≤ 10) v.q.toNat) (Nat.pow_lt_pow_right (by decide) (show v.q.toNat < 32 by omega)))) (by decide)
    · split
      · rename_i hk2
        have := h3 (by omega)
        rw [frm_pow]; simp; omega
      · have := h4 (by omega)
        rw [frm_pow]; simp; omega
abbrev exZ : List AV := [bv false, .val (.slice none 0 0), .val (.slice none 0 0)]
end Go.Iron.Tryz

/- The digits' seat: zeros of a type; the law of valid values. -/
namespace Go.Iron.Tryz
open Go.Proofs Go.RowKit Go.Iron.Tok Go.Iron.Dg

def zeroV (t : Typ) : Vl × Int :=
  if validT t = false then (⟨0, 0, 0, []⟩, 13)
  else if t.kind = 1 ∨ t.kind = 2 then (⟨t.kind, 0, t.q, []⟩, 0)
  else if t.kind = 3 then (⟨t.kind, 0, 0, []⟩, 0)
  else if t.kind = 4 then (⟨t.kind, 0, 0, if t.vary = true then [] else List.replicate t.n.toNat 32⟩, 0)
  else if t.kind = 5 then (⟨t.kind, 0, 0, if t.vary = true then [] else List.replicate t.n.toNat 48⟩, 0)
  else (⟨0, 0, 0, []⟩, 10)
theorem repeat_one (b : UInt8) (c : Nat) : Lib.repeatL [b] c = List.replicate c b := by
  induction c with
  | zero => rfl
  | succ c ih =>
    show [b] ++ Lib.repeatL [b] c = _
    rw [ih, List.replicate_succ]
    rfl
theorem d_base (kd : Int) : CallT Tryz.prog 83 [iv kd] [] (fun o A => o = .ret (iv (if kd = 1 then 2 else if kd = 2 then 10 else 0)) ∧ A = []) := by
  refine callS_body (n := 8) rfl rfl fun w ρ X => ?_
  refine rX rfl ?_
  refine runS_cond rfl (fun h => ?_) (fun h => ?_)
  · have hk : kd = 1 := by simpa using (show (kd == 1) = true from h)
    refine rX rfl ?_
    refine runS_ret (I := inf) 0 rfl (Nat.le_refl _) rfl .nil rfl ⟨?_, rfl⟩
    rw [if_pos hk]
    rfl
  · have hk : ¬ kd = 1 := by simpa using (show (kd == 1) = false from h)
    refine rX rfl ?_
    refine runS_cond rfl (fun h => ?_) (fun h => ?_)
    · have hk2 : kd = 2 := by simpa using (show (kd == 2) = true from h)
      refine rX rfl ?_
      refine runS_ret (I := inf) 0 rfl (Nat.le_refl _) rfl .nil rfl ⟨?_, rfl⟩
      rw [if_neg hk, if_pos hk2]
      rfl
    · have hk2 : ¬ kd = 2 := by simpa using (show (kd == 2) = false from h)
      refine rX rfl ?_
      refine runS_ret (I := inf) 0 rfl (Nat.le_refl _) rfl .nil rfl ⟨?_, rfl⟩
      rw [if_neg hk, if_neg hk2]
      rfl
theorem str_n {t : Typ} (h : validT t = true) (hk : t.kind = 4 ∨ t.kind = 5) : 0 ≤ t.n ∧ t.n ≤ 250 := by
  unfold validT inR at h
  rw [if_neg (by omega), if_neg (by omega), if_neg (by omega), if_pos hk] at h
  simp at h
  omega
theorem d_Zero (t : Typ) : CallT Tryz.prog 30 [.agg (typE t)] [] (fun o A => o = .ret (.tup [.agg (vlE (zeroV t).1), iv (zeroV t).2]) ∧ A = []) := by
  have hvd := d_valid t
  have hbs := d_base t.kind
  cases hvt : validT t with
  | false =>
    have hZ : zeroV t = (⟨0, 0, 0, []⟩, 13) := by unfold zeroV; rw [if_pos hvt]
    rw [hvt] at hvd
    rw [hZ]
    refine callS_body (n := 62) rfl rfl fun w ρ X => ?_
    refine rX rfl ?_
    refine runS_call rfl rfl rfl rfl rfl rfl rfl hvd ?_
    refine rX rfl ?_
    refine runS_cond rfl (fun h => ?_) (fun h => by cases h)
    refine rX rfl ?_
    refine runS_ret (I := inf) 0 rfl (Nat.le_refl _) rfl .nil rfl ⟨?_, rfl⟩
    rfl
  | true =>
    rw [hvt] at hvd
    have h9 := valid9 hvt
    have hsn := str_n hvt
    have hZ : zeroV t = if t.kind = 1 ∨ t.kind = 2 then (⟨t.kind, 0, t.q, []⟩, 0) else if t.kind = 3 then (⟨t.kind, 0, 0, []⟩, 0) else if t.kind = 4 then (⟨t.kind, 0, 0, if t.vary = true then [] else List.replicate t.n.toNat 32⟩, 0) else if t.kind = 5 then (⟨t.kind, 0, 0, if t.vary = true then [] else List.replicate t.n.toNat 48⟩, 0) else (⟨0, 0, 0, []⟩, 10) := by unfold zeroV; rw [if_neg (by rw [hvt]; decide)]
    rw [hZ]
    clear hZ
    obtain ⟨kd, p, q, n, vy, pc⟩ := t
    dsimp only at *
    rcases h9 with rfl | rfl | rfl | rfl | rfl | rfl | rfl | rfl | rfl
    · refine callS_body (n := 62) rfl rfl fun w ρ X => ?_
      refine rX rfl ?_
      refine runS_call rfl rfl rfl rfl rfl rfl rfl hvd ?_
      refine rX rfl ?_
      refine runS_cond rfl (fun h => by cases h) (fun h => ?_)
      refine rX rfl ?_
      refine runS_call rfl rfl rfl rfl rfl rfl rfl hbs ?_
      refine rX rfl ?_
      refine runS_cond rfl (fun h => ?_) (fun h => by cases h)
      refine rX rfl ?_
      refine runS_ret (I := inf) 0 rfl (Nat.le_refl _) rfl .nil rfl ⟨?_, rfl⟩
      rfl
    · refine callS_body (n := 62) rfl rfl fun w ρ X => ?_
      refine rX rfl ?_
      refine runS_call rfl rfl rfl rfl rfl rfl rfl hvd ?_
      refine rX rfl ?_
      refine runS_cond rfl (fun h => by cases h) (fun h => ?_)
      refine rX rfl ?_
      refine runS_call rfl rfl rfl rfl rfl rfl rfl hbs ?_
      refine rX rfl ?_
      refine runS_cond rfl (fun h => ?_) (fun h => by cases h)
      refine rX rfl ?_
      refine runS_ret (I := inf) 0 rfl (Nat.le_refl _) rfl .nil rfl ⟨?_, rfl⟩
      rfl
    · refine callS_body (n := 62) rfl rfl fun w ρ X => ?_
      refine rX rfl ?_
      refine runS_call rfl rfl rfl rfl rfl rfl rfl hvd ?_
      refine rX rfl ?_
      refine runS_cond rfl (fun h => by cases h) (fun h => ?_)
      refine rX rfl ?_
      refine runS_call rfl rfl rfl rfl rfl rfl rfl hbs ?_
      refine rX rfl ?_
      refine runS_cond rfl (fun h => by cases h) (fun h => ?_)
      refine rX rfl ?_
      refine runS_cond rfl (fun h => ?_) (fun h => by cases h)
      refine rX rfl ?_
      refine runS_ret (I := inf) 0 rfl (Nat.le_refl _) rfl .nil rfl ⟨?_, rfl⟩
      rfl
    · obtain ⟨hn0, hn1⟩ := hsn (.inl rfl)
      have hrp := lib_repeat [32] n.toNat (by decide) (by omega)
      rw [repeat_one, show ((n.toNat : Nat) : Int) = n by omega] at hrp
      cases vy
      · refine callS_body (n := 62) rfl rfl fun w ρ X => ?_
        refine rX rfl ?_
        refine runS_call rfl rfl rfl rfl rfl rfl rfl hvd ?_
        refine rX rfl ?_
        refine runS_cond rfl (fun h => by cases h) (fun h => ?_)
        refine rX rfl ?_
        refine runS_call rfl rfl rfl rfl rfl rfl rfl hbs ?_
        refine rX rfl ?_
        refine runS_cond rfl (fun h => by cases h) (fun h => ?_)
        refine rX rfl ?_
        refine runS_cond rfl (fun h => by cases h) (fun h => ?_)
        refine rX rfl ?_
        refine runS_cond rfl (fun h => ?_) (fun h => by cases h)
        refine rX rfl ?_
        refine runS_call rfl rfl rfl rfl rfl rfl rfl hrp ?_
        refine rX rfl ?_
        refine runS_ret (I := inf) 0 rfl (Nat.le_refl _) rfl .nil rfl ⟨?_, rfl⟩
        rfl
      · refine callS_body (n := 62) rfl rfl fun w ρ X => ?_
        refine rX rfl ?_
        refine runS_call rfl rfl rfl rfl rfl rfl rfl hvd ?_
        refine rX rfl ?_
        refine runS_cond rfl (fun h => by cases h) (fun h => ?_)
        refine rX rfl ?_
        refine runS_call rfl rfl rfl rfl rfl rfl rfl hbs ?_
        refine rX rfl ?_
        refine runS_cond rfl (fun h => by cases h) (fun h => ?_)
        refine rX rfl ?_
        refine runS_cond rfl (fun h => by cases h) (fun h => ?_)
        refine rX rfl ?_
        refine runS_cond rfl (fun h => by cases h) (fun h => ?_)
        refine rX rfl ?_
        refine runS_cond rfl (fun h => by cases h) (fun h => ?_)
        refine rX rfl ?_
        refine runS_cond rfl (fun h => by cases h) (fun h => ?_)
        refine rX rfl ?_
        refine runS_ret (I := inf) 0 rfl (Nat.le_refl _) rfl .nil rfl ⟨?_, rfl⟩
        rfl
    · obtain ⟨hn0, hn1⟩ := hsn (.inr rfl)
      have hrp := lib_repeat [48] n.toNat (by decide) (by omega)
      rw [repeat_one, show ((n.toNat : Nat) : Int) = n by omega] at hrp
      cases vy
      · refine callS_body (n := 62) rfl rfl fun w ρ X => ?_
        refine rX rfl ?_
        refine runS_call rfl rfl rfl rfl rfl rfl rfl hvd ?_
        refine rX rfl ?_
        refine runS_cond rfl (fun h => by cases h) (fun h => ?_)
        refine rX rfl ?_
        refine runS_call rfl rfl rfl rfl rfl rfl rfl hbs ?_
        refine rX rfl ?_
        refine runS_cond rfl (fun h => by cases h) (fun h => ?_)
        refine rX rfl ?_
        refine runS_cond rfl (fun h => by cases h) (fun h => ?_)
        refine rX rfl ?_
        refine runS_cond rfl (fun h => by cases h) (fun h => ?_)
        refine rX rfl ?_
        refine runS_cond rfl (fun h => ?_) (fun h => by cases h)
        refine rX rfl ?_
        refine runS_call rfl rfl rfl rfl rfl rfl rfl hrp ?_
        refine rX rfl ?_
        refine runS_ret (I := inf) 0 rfl (Nat.le_refl _) rfl .nil rfl ⟨?_, rfl⟩
        rfl
      · refine callS_body (n := 62) rfl rfl fun w ρ X => ?_
        refine rX rfl ?_
        refine runS_call rfl rfl rfl rfl rfl rfl rfl hvd ?_
        refine rX rfl ?_
        refine runS_cond rfl (fun h => by cases h) (fun h => ?_)
        refine rX rfl ?_
        refine runS_call rfl rfl rfl rfl rfl rfl rfl hbs ?_
        refine rX rfl ?_
        refine runS_cond rfl (fun h => by cases h) (fun h => ?_)
        refine rX rfl ?_
        refine runS_cond rfl (fun h => by cases h) (fun h => ?_)
        refine rX rfl ?_
        refine runS_cond rfl (fun h => by cases h) (fun h => ?_)
        refine rX rfl ?_
        refine runS_cond rfl (fun h => by cases h) (fun h => ?_)
        refine rX rfl ?_
        refine runS_cond rfl (fun h => by cases h) (fun h => ?_)
        refine rX rfl ?_
        refine runS_ret (I := inf) 0 rfl (Nat.le_refl _) rfl .nil rfl ⟨?_, rfl⟩
        rfl
    all_goals
      refine callS_body (n := 62) rfl rfl fun w ρ X => ?_
      refine rX rfl ?_
      refine runS_call rfl rfl rfl rfl rfl rfl rfl hvd ?_
      refine rX rfl ?_
      refine runS_cond rfl (fun h => by cases h) (fun h => ?_)
      refine rX rfl ?_
      refine runS_call rfl rfl rfl rfl rfl rfl rfl hbs ?_
      refine rX rfl ?_
      refine runS_cond rfl (fun h => by cases h) (fun h => ?_)
      refine rX rfl ?_
      refine runS_cond rfl (fun h => by cases h) (fun h => ?_)
      refine rX rfl ?_
      refine runS_cond rfl (fun h => by cases h) (fun h => ?_)
      refine rX rfl ?_
      refine runS_cond rfl (fun h => by cases h) (fun h => ?_)
      refine rX rfl ?_
      refine runS_cond rfl (fun h => ?_) (fun h => by cases h)
      refine rX rfl ?_
      refine runS_ret (I := inf) 0 rfl (Nat.le_refl _) rfl .nil rfl ⟨?_, rfl⟩
      rfl
theorem r_Zero (t : Typ) : CallT Tryz.prog 27 [.agg (typE t)] [] (fun o A => o = .ret (.tup [.agg (vlE (zeroV t).1), iv (zeroV t).2]) ∧ A = []) := by
  have hvd := r_valid t
  cases hvt : validT t with
  | false =>
    have hZ : zeroV t = (⟨0, 0, 0, []⟩, 13) := by unfold zeroV; rw [if_pos hvt]
    rw [hvt] at hvd
    rw [hZ]
    refine callS_body (n := 50) rfl rfl fun w ρ X => ?_
    refine rX rfl ?_
    refine runS_call rfl rfl rfl rfl rfl rfl rfl hvd ?_
    refine rX rfl ?_
    refine runS_cond rfl (fun h => ?_) (fun h => by cases h)
    refine rX rfl ?_
    refine runS_ret (I := inf) 0 rfl (Nat.le_refl _) rfl .nil rfl ⟨?_, rfl⟩
    rfl
  | true =>
    rw [hvt] at hvd
    have h9 := valid9 hvt
    have hsn := str_n hvt
    have hZ : zeroV t = if t.kind = 1 ∨ t.kind = 2 then (⟨t.kind, 0, t.q, []⟩, 0) else if t.kind = 3 then (⟨t.kind, 0, 0, []⟩, 0) else if t.kind = 4 then (⟨t.kind, 0, 0, if t.vary = true then [] else List.replicate t.n.toNat 32⟩, 0) else if t.kind = 5 then (⟨t.kind, 0, 0, if t.vary = true then [] else List.replicate t.n.toNat 48⟩, 0) else (⟨0, 0, 0, []⟩, 10) := by unfold zeroV; rw [if_neg (by rw [hvt]; decide)]
    rw [hZ]
    clear hZ
    obtain ⟨kd, p, q, n, vy, pc⟩ := t
    dsimp only at *
    rcases h9 with rfl | rfl | rfl | rfl | rfl | rfl | rfl | rfl | rfl
    · clear hsn
      refine callS_body (n := 50) rfl rfl fun w ρ X => ?_
      refine rX rfl ?_
      refine runS_call rfl rfl rfl rfl rfl rfl rfl hvd ?_
      refine rX rfl ?_
      refine runS_cond rfl (fun h => by cases h) (fun h => ?_)
      refine rX rfl ?_
      refine runS_cond rfl (fun h => ?_) (fun h => by cases h)
      refine rX rfl ?_
      refine runS_cond rfl (fun h => ?_) (fun h => by cases h)
      refine rX rfl ?_
      refine runS_ret (I := inf) 0 rfl (Nat.le_refl _) rfl .nil rfl ⟨?_, rfl⟩
      rfl
    · clear hsn
      refine callS_body (n := 50) rfl rfl fun w ρ X => ?_
      refine rX rfl ?_
      refine runS_call rfl rfl rfl rfl rfl rfl rfl hvd ?_
      refine rX rfl ?_
      refine runS_cond rfl (fun h => by cases h) (fun h => ?_)
      refine rX rfl ?_
      refine runS_cond rfl (fun h => by cases h) (fun h => ?_)
      refine rX rfl ?_
      refine runS_cond rfl (fun h => ?_) (fun h => by cases h)
      refine rX rfl ?_
      refine runS_ret (I := inf) 0 rfl (Nat.le_refl _) rfl .nil rfl ⟨?_, rfl⟩
      rfl
    · clear hsn
      refine callS_body (n := 50) rfl rfl fun w ρ X => ?_
      refine rX rfl ?_
      refine runS_call rfl rfl rfl rfl rfl rfl rfl hvd ?_
      refine rX rfl ?_
      refine runS_cond rfl (fun h => by cases h) (fun h => ?_)
      refine rX rfl ?_
      refine runS_cond rfl (fun h => by cases h) (fun h => ?_)
      refine rX rfl ?_
      refine runS_cond rfl (fun h => by cases h) (fun h => ?_)
      refine rX rfl ?_
      refine runS_cond rfl (fun h => ?_) (fun h => by cases h)
      refine rX rfl ?_
      refine runS_ret (I := inf) 0 rfl (Nat.le_refl _) rfl .nil rfl ⟨?_, rfl⟩
      rfl
    · obtain ⟨hn0, hn1⟩ := hsn (by decide)
      obtain ⟨N, rfl⟩ : ∃ N : Nat, n = (N : Int) := ⟨n.toNat, by omega⟩
      refine callS_body (n := 50) rfl rfl fun w ρ X => ?_
      refine rX rfl ?_
      refine runS_call rfl rfl rfl rfl rfl rfl rfl hvd ?_
      refine rX rfl ?_
      refine runS_cond rfl (fun h => by cases h) (fun h => ?_)
      refine rX rfl ?_
      refine runS_cond rfl (fun h => by cases h) (fun h => ?_)
      refine rX rfl ?_
      refine runS_cond rfl (fun h => by cases h) (fun h => ?_)
      refine rX rfl ?_
      refine runS_cond rfl (fun h => by cases h) (fun h => ?_)
      refine rX rfl ?_
      refine runS_cond rfl (fun h => ?_) (fun h => by cases h)
      refine rX rfl ?_
      refine runS_cond rfl (fun h => ?_) (fun h => by cases h)
      refine rX rfl ?_
      refine runS_while (fun (i : Nat) τ ar => (τ 1 = .ptr 0 0 0 ∧ τ 2 = .ptr 1 0 0 ∧ τ 4 = .ptr 2 0 0 ∧ τ 5 = iv i) ∧ ar = [.box 25 (typE ⟨4, p, q, N, vy, pc⟩), .box 23 [iv 0, iv 0, iv 0, sv []], .box 23 [iv 4, iv 0, iv 0, sv (List.replicate i 32)]] ∧ i ≤ N ∧ (vy = true → i = 0)) (fun i => N - i) 0 ⟨⟨rfl, rfl, rfl, rfl⟩, rfl, Nat.zero_le _, fun _ => rfl⟩ ?_
      rintro i τ' ar' ⟨⟨g1, g2, g4, g5⟩, rfl, hi, hvy⟩ ih
      refine runS_says 1 (by exact g1) (Says.refl _) ?_; refine runS_says 2 (by exact g2) (Says.refl _) ?_; refine runS_says 4 (by exact g4) (Says.refl _) ?_; refine runS_says 5 (by exact g5) (Says.refl _) ?_
      refine rX rfl ?_
      refine runS_cond rfl (fun h => ?_) (fun h => ?_)
      · have h' : (if decide ((i : Int) < (N : Int)) = true then !vy else false) = true := h
        have hlt : i < N ∧ vy = false := by
          revert h'
          by_cases hl : i < N
          · rw [decide_eq_true (show (i : Int) < (N : Int) by omega)]
            cases vy <;> simp [hl]
          · rw [decide_eq_false (show ¬ (i : Int) < (N : Int) by omega)]
            simp
        obtain ⟨hlt, hv0⟩ := hlt
        have hw1 : IntKind.wrap .i64 ((i : Int) + 1) = ((i + 1 : Nat) : Int) := by rw [w64 (by omega) (by omega)]; rfl
        have hrl : (List.replicate i (32 : UInt8)).length = i := List.length_replicate
        have hone : (bl (ByteArray.mk #[32])).length = 1 := rfl
        refine rX rfl ?_
        refine runS_cond rfl (fun h => ?_) (fun h => by cases h)
        refine runS_x (I := inf) (J := jnf) ⟨false, false, [], 0, 0⟩ 9999 rfl (by repeat (first | exact obs_nil | refine obs_draw (by kernel_rfl) ?_ | refine obs_same ?_ | refine obs_and ?_ | refine obs_by (by (simp [inB, blS, hrl, hone] <;> omega)) ?_)) ?_
        refine ih (i + 1) _ _ (by omega) ⟨⟨rfl, rfl, rfl, congrArg iv hw1⟩, ?_, hlt, fun e => by rw [hv0] at e; cases e⟩
        rw [List.replicate_succ']
        rfl
      · have h' : (if decide ((i : Int) < (N : Int)) = true then !vy else false) = false := h
        have hie : vy = true ∨ i = N := by
          revert h'
          by_cases hl : i < N
          · rw [decide_eq_true (show (i : Int) < (N : Int) by omega)]
            cases vy <;> simp
          · intro _
            exact .inr (by omega)
        have hs : (if vy = true then [] else List.replicate ((N : Int)).toNat (32 : UInt8)) = List.replicate i 32 := by
          rcases hie with e | e
          · rw [if_pos e, hvy e]; rfl
          · cases vy with
            | true => rw [if_pos rfl, hvy rfl]; rfl
            | false => rw [if_neg (by decide), Int.toNat_natCast, e]
        show RunS _ _ _ _ _ (fun o A => o = .ret (.tup [.agg (vaE 4 0 0 (if vy = true then [] else List.replicate ((N : Int)).toNat 32)), iv 0]) ∧ A = [])
        rw [hs]
        refine rX rfl ?_
        refine runS_ret (I := inf) 0 rfl (Nat.le_refl _) rfl .nil rfl ⟨?_, rfl⟩
        rfl
    · obtain ⟨hn0, hn1⟩ := hsn (by decide)
      obtain ⟨N, rfl⟩ : ∃ N : Nat, n = (N : Int) := ⟨n.toNat, by omega⟩
      refine callS_body (n := 50) rfl rfl fun w ρ X => ?_
      refine rX rfl ?_
      refine runS_call rfl rfl rfl rfl rfl rfl rfl hvd ?_
      refine rX rfl ?_
      refine runS_cond rfl (fun h => by cases h) (fun h => ?_)
      refine rX rfl ?_
      refine runS_cond rfl (fun h => by cases h) (fun h => ?_)
      refine rX rfl ?_
      refine runS_cond rfl (fun h => by cases h) (fun h => ?_)
      refine rX rfl ?_
      refine runS_cond rfl (fun h => by cases h) (fun h => ?_)
      refine rX rfl ?_
      refine runS_cond rfl (fun h => by cases h) (fun h => ?_)
      refine rX rfl ?_
      refine runS_cond rfl (fun h => ?_) (fun h => by cases h)
      refine rX rfl ?_
      refine runS_while (fun (i : Nat) τ ar => (τ 1 = .ptr 0 0 0 ∧ τ 2 = .ptr 1 0 0 ∧ τ 4 = .ptr 2 0 0 ∧ τ 5 = iv i) ∧ ar = [.box 25 (typE ⟨5, p, q, N, vy, pc⟩), .box 23 [iv 0, iv 0, iv 0, sv []], .box 23 [iv 5, iv 0, iv 0, sv (List.replicate i 48)]] ∧ i ≤ N ∧ (vy = true → i = 0)) (fun i => N - i) 0 ⟨⟨rfl, rfl, rfl, rfl⟩, rfl, Nat.zero_le _, fun _ => rfl⟩ ?_
      rintro i τ' ar' ⟨⟨g1, g2, g4, g5⟩, rfl, hi, hvy⟩ ih
      refine runS_says 1 (by exact g1) (Says.refl _) ?_; refine runS_says 2 (by exact g2) (Says.refl _) ?_; refine runS_says 4 (by exact g4) (Says.refl _) ?_; refine runS_says 5 (by exact g5) (Says.refl _) ?_
      refine rX rfl ?_
      refine runS_cond rfl (fun h => ?_) (fun h => ?_)
      · have h' : (if decide ((i : Int) < (N : Int)) = true then !vy else false) = true := h
        have hlt : i < N ∧ vy = false := by
          revert h'
          by_cases hl : i < N
          · rw [decide_eq_true (show (i : Int) < (N : Int) by omega)]
            cases vy <;> simp [hl]
          · rw [decide_eq_false (show ¬ (i : Int) < (N : Int) by omega)]
            simp
        obtain ⟨hlt, hv0⟩ := hlt
        have hw1 : IntKind.wrap .i64 ((i : Int) + 1) = ((i + 1 : Nat) : Int) := by rw [w64 (by omega) (by omega)]; rfl
        have hrl : (List.replicate i (48 : UInt8)).length = i := List.length_replicate
        have hone : (bl (ByteArray.mk #[48])).length = 1 := rfl
        refine rX rfl ?_
        refine runS_cond rfl (fun h => by cases h) (fun h => ?_)
        refine runS_x (I := inf) (J := jnf) ⟨false, false, [], 0, 0⟩ 9999 rfl (by repeat (first | exact obs_nil | refine obs_draw (by kernel_rfl) ?_ | refine obs_same ?_ | refine obs_and ?_ | refine obs_by (by (simp [inB, blS, hrl, hone] <;> omega)) ?_)) ?_
        refine ih (i + 1) _ _ (by omega) ⟨⟨rfl, rfl, rfl, congrArg iv hw1⟩, ?_, hlt, fun e => by rw [hv0] at e; cases e⟩
        rw [List.replicate_succ']
        rfl
      · have h' : (if decide ((i : Int) < (N : Int)) = true then !vy else false) = false := h
        have hie : vy = true ∨ i = N := by
          revert h'
          by_cases hl : i < N
          · rw [decide_eq_true (show (i : Int) < (N : Int) by omega)]
            cases vy <;> simp
          · intro _
            exact .inr (by omega)
        have hs : (if vy = true then [] else List.replicate ((N : Int)).toNat (48 : UInt8)) = List.replicate i 48 := by
          rcases hie with e | e
          · rw [if_pos e, hvy e]; rfl
          · cases vy with
            | true => rw [if_pos rfl, hvy rfl]; rfl
            | false => rw [if_neg (by decide), Int.toNat_natCast, e]
        show RunS _ _ _ _ _ (fun o A => o = .ret (.tup [.agg (vaE 5 0 0 (if vy = true then [] else List.replicate ((N : Int)).toNat 48)), iv 0]) ∧ A = [])
        rw [hs]
        refine rX rfl ?_
        refine runS_ret (I := inf) 0 rfl (Nat.le_refl _) rfl .nil rfl ⟨?_, rfl⟩
        rfl
    · clear hsn
      refine callS_body (n := 50) rfl rfl fun w ρ X => ?_
      refine rX rfl ?_
      refine runS_call rfl rfl rfl rfl rfl rfl rfl hvd ?_
      refine rX rfl ?_
      refine runS_cond rfl (fun h => by cases h) (fun h => ?_)
      refine rX rfl ?_
      refine runS_cond rfl (fun h => by cases h) (fun h => ?_)
      refine rX rfl ?_
      refine runS_cond rfl (fun h => by cases h) (fun h => ?_)
      refine rX rfl ?_
      refine runS_cond rfl (fun h => by cases h) (fun h => ?_)
      refine rX rfl ?_
      refine runS_cond rfl (fun h => by cases h) (fun h => ?_)
      refine rX rfl ?_
      refine runS_cond rfl (fun h => by cases h) (fun h => ?_)
      refine rX rfl ?_
      refine runS_ret (I := inf) 0 rfl (Nat.le_refl _) rfl .nil rfl ⟨?_, rfl⟩
      rfl
    · clear hsn
      refine callS_body (n := 50) rfl rfl fun w ρ X => ?_
      refine rX rfl ?_
      refine runS_call rfl rfl rfl rfl rfl rfl rfl hvd ?_
      refine rX rfl ?_
      refine runS_cond rfl (fun h => by cases h) (fun h => ?_)
      refine rX rfl ?_
      refine runS_cond rfl (fun h => by cases h) (fun h => ?_)
      refine rX rfl ?_
      refine runS_cond rfl (fun h => by cases h) (fun h => ?_)
      refine rX rfl ?_
      refine runS_cond rfl (fun h => by cases h) (fun h => ?_)
      refine rX rfl ?_
      refine runS_cond rfl (fun h => by cases h) (fun h => ?_)
      refine rX rfl ?_
      refine runS_cond rfl (fun h => by cases h) (fun h => ?_)
      refine rX rfl ?_
      refine runS_ret (I := inf) 0 rfl (Nat.le_refl _) rfl .nil rfl ⟨?_, rfl⟩
      rfl
    · clear hsn
      refine callS_body (n := 50) rfl rfl fun w ρ X => ?_
      refine rX rfl ?_
      refine runS_call rfl rfl rfl rfl rfl rfl rfl hvd ?_
      refine rX rfl ?_
      refine runS_cond rfl (fun h => by cases h) (fun h => ?_)
      refine rX rfl ?_
      refine runS_cond rfl (fun h => by cases h) (fun h => ?_)
      refine rX rfl ?_
      refine runS_cond rfl (fun h => by cases h) (fun h => ?_)
      refine rX rfl ?_
      refine runS_cond rfl (fun h => by cases h) (fun h => ?_)
      refine rX rfl ?_
      refine runS_cond rfl (fun h => by cases h) (fun h => ?_)
      refine rX rfl ?_
      refine runS_cond rfl (fun h => by cases h) (fun h => ?_)
      refine rX rfl ?_
      refine runS_ret (I := inf) 0 rfl (Nat.le_refl _) rfl .nil rfl ⟨?_, rfl⟩
      rfl
    · clear hsn
      refine callS_body (n := 50) rfl rfl fun w ρ X => ?_
      refine rX rfl ?_
      refine runS_call rfl rfl rfl rfl rfl rfl rfl hvd ?_
      refine rX rfl ?_
      refine runS_cond rfl (fun h => by cases h) (fun h => ?_)
      refine rX rfl ?_
      refine runS_cond rfl (fun h => by cases h) (fun h => ?_)
      refine rX rfl ?_
      refine runS_cond rfl (fun h => by cases h) (fun h => ?_)
      refine rX rfl ?_
      refine runS_cond rfl (fun h => by cases h) (fun h => ?_)
      refine rX rfl ?_
      refine runS_cond rfl (fun h => by cases h) (fun h => ?_)
      refine rX rfl ?_
      refine runS_cond rfl (fun h => by cases h) (fun h => ?_)
      refine rX rfl ?_
      refine runS_ret (I := inf) 0 rfl (Nat.le_refl _) rfl .nil rfl ⟨?_, rfl⟩
      rfl
end Go.Iron.Tryz

/- The digits' seat: the reference's operations. -/
namespace Go.Iron.Tryz
open Go.Proofs Go.RowKit Go.Iron.Tok Go.Iron.Dg

theorem ofE_num0 (kd n q : Int) : (ofE kd n q).num = 0 ↔ n = 0 := by
  show n.natAbs * (if kd = 3 then 10 ^ q.toNat else 1) = 0 ↔ n = 0
  have : (if kd = 3 then 10 ^ q.toNat else 1) ≠ 0 := by
    split
    · exact Nat.pos_iff_ne_zero.1 (Nat.pow_pos (by decide))
    · decide
  rw [Nat.mul_eq_zero, or_iff_left this]
  omega
theorem ofE_den0 (kd n q : Int) : (ofE kd n q).den ≠ 0 := Nat.pos_iff_ne_zero.1 (ofE_den kd n q)
theorem over_fit {x y : Ex} {l m : Nat} (hx : ExFit x l) (hy : ExFit y m) : ExFit (overE x y) (l + m) := by
  have h1 := frm_len_mul x.num y.den
  have h3 := frm_len_mul x.den y.num
  have a1 := hx.1; have a2 := hx.2; have b1 := hy.1; have b2 := hy.2
  exact ⟨by show (frm (x.num * y.den)).length ≤ _; omega, by show (frm (x.den * y.num)).length ≤ _; omega⟩
def opX (op : UInt8) (x y : Ex) : Ex := if op = 43 then bothE x y else if op = 45 then bothE x (turnE y) else if op = 42 then timesE x y else overE x y
abbrev fitX (t : Typ) (x : Ex) (big : Int) : Int × Int × Int := fitS t.kind t.p.toNat t.q.toNat x.neg x.num x.den (kF x.num x.den t.p.toNat) big
abbrev vceA (r : Vl × Int × Int) : AV := .tup [.agg (vlE r.1), iv r.2.1, iv r.2.2]
def doV (op : UInt8) (a b : Vl) (t : Typ) : Vl × Int × Int :=
  if askL (some t) [a, b] ≠ 0 then (⟨0, 0, 0, []⟩, 0, askL (some t) [a, b])
  else if op = 47 ∧ b.n = 0 then ((zeroV t).1, 9, 0)
  else (⟨t.kind, (fitX t (opX op (ofE a.kind a.n a.q) (ofE b.kind b.n b.q)) 2).1, (fitX t (opX op (ofE a.kind a.n a.q) (ofE b.kind b.n b.q)) 2).2.1, []⟩, (fitX t (opX op (ofE a.kind a.n a.q) (ofE b.kind b.n b.q)) 2).2.2, 0)
theorem r_do (op : UInt8) (hop : op = 43 ∨ op = 45 ∨ op = 42 ∨ op = 47) (a b : Vl) (t : Typ) : CallT Tryz.prog 82 [sv [op], .agg (vlE a), .agg (vlE b), .agg (typE t)] [] (fun o A => o = .ret (vceA (doV op a b t)) ∧ A = []) := by
  unfold doV
  refine callS_body (n := 69) rfl rfl fun w ρ X => ?_
  refine rX rfl ?_
  refine runS_tell 4 (vlR [a, b]) rfl (m' := 2) rfl (fun j hj => ?_) rfl ?_
  · rcases j with _ | _ | j <;> first | rfl | omega
  refine runS_freeze 20 rfl rfl rfl (fun j hj => ?_) ?_
  · rcases j with _ | _ | j <;> first | rfl | omega
  refine runS_call rfl rfl rfl rfl rfl rfl rfl (r_asked t none [a, b] (by simp)) ?_
  refine rX rfl ?_
  refine runS_cond rfl (fun h => ?_) (fun h => ?_)
  · have h0 : askL (some t) [a, b] ≠ 0 := by
      have h3 : (!(askL (some t) [a, b] == 0)) = true := h
      rw [Bool.not_eq_true', beq_eq_false_iff_ne] at h3
      exact h3
    rw [if_pos h0]
    refine rX rfl ?_
    refine runS_ret (I := inf) 0 rfl (Nat.le_refl _) rfl .nil rfl ⟨?_, rfl⟩
    rfl
  · have h0 : askL (some t) [a, b] = 0 := by
      have h3 : (!(askL (some t) [a, b] == 0)) = false := h
      rw [Bool.not_eq_false', beq_iff_eq] at h3
      exact h3
    rw [if_neg (show ¬ askL (some t) [a, b] ≠ 0 from fun e => e h0)]
    obtain ⟨hnum, htn⟩ := ask_num h0
    obtain ⟨hv, hkt⟩ := htn t rfl
    obtain ⟨hra, hka⟩ := hnum a (by simp)
    obtain ⟨hrb, hkb⟩ := hnum b (by simp)
    have hfa := of_fit hra hka
    have hfb := of_fit hrb hkb
    have hofa := r_of a hra hka
    have hofb := r_of b hrb hkb
    have hbn := ofE_num0 b.kind b.n b.q
    have hda := ofE_den0 a.kind a.n a.q
    have hdb := ofE_den0 b.kind b.n b.q
    generalize ofE a.kind a.n a.q = x at *
    generalize ofE b.kind b.n b.q = y at *
    refine rX rfl ?_
    refine runS_hole ?_
    refine runS_hole ?_
    refine runS_drawG (ch := []) (A2 := fun _ => []) 6 [4, 5] (fun z => [.box 23 (vlE a), .box 23 (vlE b), .box 25 (typE t), .box 23 [iv 0, iv 0, iv 0, sv []], .gone, cond (z.getD 0 false) (.row 35 3 1 1 (fun _ => exZ)) .hole, cond (z.getD 1 false) (.row 35 3 1 1 (fun _ => exZ)) .hole]) none (c := 9) jnfI.draw (by kernel_rfl) rfl (lexg_g (I := inf) (J := jnf) none ⟨⟨⟨_, rfl, ob0⟩, oi⟩, oj⟩ rfl rfl rfl rfl (lexg_call rfl rfl rfl rfl rfl rfl rfl rfl rfl hofa (lexg_g (I := inf) (J := jnf) none ⟨⟨⟨_, rfl, ob0⟩, oi⟩, oj⟩ rfl rfl rfl rfl (lexg_call rfl rfl rfl rfl rfl rfl rfl rfl rfl hofb (lexg_b 5 rfl rfl ⟨⟨⟨rfl, rfl⟩, (by first | exact .inl (by decide +kernel) | exact .inr ⟨rfl, rfl⟩)⟩, .inl rfl⟩ rfl rfl rfl rfl (lexg_b 6 rfl rfl ⟨⟨⟨rfl, rfl⟩, .inl rfl⟩, (by first | exact .inl (by decide +kernel) | exact .inr ⟨⟨rfl, rfl⟩, .inl rfl⟩)⟩ rfl rfl rfl rfl lexg_nil)))))) rfl (fun _ => ?_) (fun h => by cases h)
    refine rX rfl ?_
    refine runS_tell 5 (fun _ => [bv x.neg, natS none (frm x.num), natS none (frm x.den)]) rfl (m' := 1) rfl (fun j hj => by (obtain rfl : j = 0 := by omega); rfl) rfl ?_
    refine runS_tell 6 (fun _ => [bv y.neg, natS none (frm y.num), natS none (frm y.den)]) rfl (m' := 1) rfl (fun j hj => by (obtain rfl : j = 0 := by omega); rfl) rfl ?_
    have hsum : ∀ z, ExFit z 120 → ExFit (bothE x z) 980 := fun z hz => (both_fit hfa hz).mono (by decide)
    have hfX : ExFit (opX op x y) 980 := by
      unfold opX
      split
      · exact hsum _ hfb
      · split
        · exact hsum _ (turn_fit hfb)
        · split
          · exact (times_fit hfa hfb).mono (by decide)
          · exact (over_fit hfa hfb).mono (by decide)
    have hdX : ¬ (op = 47 ∧ b.n = 0) → (opX op x y).den ≠ 0 := by
      intro hno
      unfold opX
      split
      · rw [both_den]; exact Nat.mul_ne_zero hda hdb
      · split
        · rw [both_den]; exact Nat.mul_ne_zero hda hdb
        · split
          · exact Nat.mul_ne_zero hda hdb
          · refine Nat.mul_ne_zero hda fun e => hno ⟨?_, hbn.1 e⟩
            rcases hop with h | h | h | h <;> first | exact h | contradiction
    refine runS_cut (fun τ ar => (τ 7 = .ptr 2 0 0 ∧ τ 8 = .ptr 3 0 0 ∧ τ 12 = .elt 5 1 3 0 0) ∧ ar = [.box 23 (vlE a), .box 23 (vlE b), .box 25 (typE t), .box 23 [iv 0, iv 0, iv 0, sv []], .gone, .row 35 3 1 1 (fun _ => [bv (opX op x y).neg, natS none (frm (opX op x y).num), natS none (frm (opX op x y).den)]), .row 35 3 1 1 (fun _ => [bv y.neg, natS none (frm y.num), natS none (frm y.den)])] ∧ ¬ (op = 47 ∧ b.n = 0)) (fun rest => ?_) ?_
    · rcases hop with rfl | rfl | rfl | rfl
      · refine runS_cond rfl (fun h => ?_) (fun h => absurd h (by decide +kernel))
        refine runS_x (I := inf) (J := jnf) ⟨false, false, [], 3, 0⟩ 9999 rfl ob1 ?_
        refine runS_call rfl rfl rfl rfl rfl rfl rfl (r_both x y (hfa.mono (by decide)) (hfb.mono (by decide))) ?_
        refine runS_x (I := inf) (J := jnf) ⟨false, false, [], 3, 0⟩ 9999 rfl ob1 ?_
        refine runS_tell 5 (fun _ => [bv (bothE x y).neg, natS none (frm (bothE x y).num), natS none (frm (bothE x y).den)]) rfl (m' := 1) rfl (fun j hj => by (obtain rfl : j = 0 := by omega); rfl) rfl ?_
        exact rest _ _ ⟨⟨rfl, rfl, rfl⟩, rfl, fun h => by (cases h.1)⟩
      · refine runS_cond rfl (fun h => absurd h (by decide +kernel)) (fun h => ?_)
        refine runS_x (I := inf) (J := jnf) ⟨false, false, [], 3, 0⟩ 9999 rfl ob1 ?_
        refine runS_cond rfl (fun h => ?_) (fun h => absurd h (by decide +kernel))
        refine runS_x (I := inf) (J := jnf) ⟨false, false, [], 3, 0⟩ 9999 rfl ob1 ?_
        refine runS_draw 4 (by kernel_rfl) (lexj_x (I := inf) (J := jnf) 99 rfl rfl ob0 (lexj_call rfl rfl rfl rfl rfl rfl rfl rfl (r_turn y (hfb.mono (by decide))) (lexj_x (I := inf) (J := jnf) 99 rfl rfl ob0 (lexj_call rfl rfl rfl rfl rfl rfl rfl rfl (r_both x (turnE y) (hfa.mono (by decide)) ((turn_fit hfb).mono (by decide))) (lexj_x (I := inf) (J := jnf) 99 rfl rfl ob0 lexj_nil))))) ?_
        refine runS_x (I := inf) (J := jnf) ⟨false, false, [], 3, 0⟩ 9999 rfl ob1 ?_
        refine runS_tell 5 (fun _ => [bv (bothE x (turnE y)).neg, natS none (frm (bothE x (turnE y)).num), natS none (frm (bothE x (turnE y)).den)]) rfl (m' := 1) rfl (fun j hj => by (obtain rfl : j = 0 := by omega); rfl) rfl ?_
        exact rest _ _ ⟨⟨rfl, rfl, rfl⟩, rfl, fun h => by (cases h.1)⟩
      · refine runS_cond rfl (fun h => absurd h (by decide +kernel)) (fun h => ?_)
        refine runS_x (I := inf) (J := jnf) ⟨false, false, [], 3, 0⟩ 9999 rfl ob1 ?_
        refine runS_cond rfl (fun h => absurd h (by decide +kernel)) (fun h => ?_)
        refine runS_x (I := inf) (J := jnf) ⟨false, false, [], 3, 0⟩ 9999 rfl ob1 ?_
        refine runS_cond rfl (fun h => ?_) (fun h => absurd h (by decide +kernel))
        refine runS_x (I := inf) (J := jnf) ⟨false, false, [], 3, 0⟩ 9999 rfl ob1 ?_
        refine runS_call rfl rfl rfl rfl rfl rfl rfl (r_times x y (hfa.mono (by decide)) (hfb.mono (by decide))) ?_
        refine runS_x (I := inf) (J := jnf) ⟨false, false, [], 3, 0⟩ 9999 rfl ob1 ?_
        refine runS_tell 5 (fun _ => [bv (timesE x y).neg, natS none (frm (timesE x y).num), natS none (frm (timesE x y).den)]) rfl (m' := 1) rfl (fun j hj => by (obtain rfl : j = 0 := by omega); rfl) rfl ?_
        exact rest _ _ ⟨⟨rfl, rfl, rfl⟩, rfl, fun h => by (cases h.1)⟩
      · refine runS_cond rfl (fun h => absurd h (by decide +kernel)) (fun h => ?_)
        refine runS_x (I := inf) (J := jnf) ⟨false, false, [], 3, 0⟩ 9999 rfl ob1 ?_
        refine runS_cond rfl (fun h => absurd h (by decide +kernel)) (fun h => ?_)
        refine runS_x (I := inf) (J := jnf) ⟨false, false, [], 3, 0⟩ 9999 rfl ob1 ?_
        refine runS_cond rfl (fun h => absurd h (by decide +kernel)) (fun h => ?_)
        refine runS_x (I := inf) (J := jnf) ⟨false, false, [], 3, 0⟩ 9999 rfl ob1 ?_
        refine runS_cond rfl (fun h => ?_) (fun h => ?_)
        · have hb0 : b.n = 0 := by
            have : (((frm y.num).length : Int) == 0) = true := h
            simp only [beq_iff_eq] at this
            exact hbn.1 (frm_len0.1 (by omega))
          rw [if_pos ⟨rfl, hb0⟩]
          refine runS_x (I := inf) (J := jnf) ⟨false, false, [], 3, 0⟩ 9999 rfl ob1 ?_
          refine runS_call rfl rfl rfl rfl rfl rfl rfl (r_Zero t) ?_
          refine runS_x (I := inf) (J := jnf) ⟨false, false, [], 3, 0⟩ 9999 rfl ob1 ?_
          refine runS_ret (I := inf) 0 rfl (Nat.le_refl _) rfl .nil rfl ⟨?_, rfl⟩
          rfl
        · have hb0 : ¬ b.n = 0 := by
            have : (((frm y.num).length : Int) == 0) = false := h
            simp only [beq_eq_false_iff_ne] at this
            exact fun e => this (by rw [hbn.2 e, frm_zero]; rfl)
          refine runS_x (I := inf) (J := jnf) ⟨false, false, [], 3, 0⟩ 9999 rfl ob1 ?_
          refine runS_call rfl rfl rfl rfl rfl rfl rfl (r_over x y (hfa.mono (by decide)) (hfb.mono (by decide))) ?_
          refine runS_x (I := inf) (J := jnf) ⟨false, false, [], 3, 0⟩ 9999 rfl ob1 ?_
          refine runS_tell 5 (fun _ => [bv (overE x y).neg, natS none (frm (overE x y).num), natS none (frm (overE x y).den)]) rfl (m' := 1) rfl (fun j hj => by (obtain rfl : j = 0 := by omega); rfl) rfl ?_
          exact rest _ _ ⟨⟨rfl, rfl, rfl⟩, rfl, fun h => hb0 h.2⟩
    rintro τ2 ar2 ⟨⟨g7, g8, g12⟩, rfl, hno⟩
    rw [if_neg hno]
    generalize opX op x y = z at *
    have hft := r_fitTo z t 2 hv hkt hfX (hdX hno)
    refine runS_says 7 (by exact g7) (Says.refl _) ?_; refine runS_says 8 (by exact g8) (Says.refl _) ?_; refine runS_says 12 (by exact g12) (Says.refl _) ?_
    refine rX rfl ?_
    refine runS_call rfl rfl rfl rfl rfl rfl rfl hft ?_
    refine rX rfl ?_
    refine runS_ret (I := inf) 0 rfl (Nat.le_refl _) rfl .nil rfl ⟨?_, rfl⟩
    rfl
end Go.Iron.Tryz

/- The pairs' seat: whole decimal numbers are reckoned as numbers. -/
namespace Go.Iron.Tryz
open Go.Proofs Go.RowKit Go.Iron.Tok Go.Iron.Dg

abbrev dcV (n : Int) : Vl := ⟨2, n, 0, []⟩
abbrev dcT (P : Int) : Typ := ⟨2, P, 0, 0, false, []⟩
theorem dc_right {n : Int} (h : n.natAbs < 1000000000000000) : (dcV n).right = true := by
  show rightB 2 n 0 [] = true
  unfold rightB
  rw [if_neg (by decide), if_pos rfl]
  simp
  omega
theorem dc_valid {P : Int} (h1 : 1 ≤ P) (h2 : P ≤ 15) : validT (dcT P) = true := by
  unfold validT inR
  simp
  omega
theorem dc_ask {n m P : Int} (hn : n.natAbs < 1000000000000000) (hm : m.natAbs < 1000000000000000) (h1 : 1 ≤ P) (h2 : P ≤ 15) : askL (some (dcT P)) [dcV n, dcV m] = 0 := by
  unfold askL
  rw [if_neg (by simp [dc_right hn, dc_right hm]), if_neg (by simp [dc_valid h1 h2]), if_neg (by simp [numK]), if_neg (by simp [numK])]
theorem sgn_ofE (n : Int) : sgn (ofE 2 n 0).neg (ofE 2 n 0).num = n ∧ (ofE 2 n 0).den = 1 := by
  refine ⟨?_, rfl⟩
  show sgn (decide (n < 0)) (n.natAbs * 1) = n
  unfold sgn
  by_cases h : n < 0
  · rw [decide_eq_true h, if_pos rfl]; omega
  · rw [decide_eq_false h, if_neg (by decide)]; omega
theorem turn_sgn (x : Ex) : sgn (turnE x).neg (turnE x).num = -sgn x.neg x.num := by
  show sgn (!x.neg && decide (x.num ≠ 0)) x.num = _
  rw [sgn_and]
  unfold sgn
  cases x.neg <;> simp
theorem op_dec {op : UInt8} {n m r : Int} (hop : op = 43 ∧ r = n + m ∨ op = 45 ∧ r = n - m ∨ op = 42 ∧ r = n * m) : sgn (opX op (ofE 2 n 0) (ofE 2 m 0)).neg (opX op (ofE 2 n 0) (ofE 2 m 0)).num = r ∧ (opX op (ofE 2 n 0) (ofE 2 m 0)).den = 1 := by
  obtain ⟨a1, a2⟩ := sgn_ofE n
  obtain ⟨b1, b2⟩ := sgn_ofE m
  have hbd : ∀ x y : Ex, x.den = 1 → y.den = 1 → (bothE x y).den = 1 := fun x y hx hy => by
    unfold bothE
    split
    · show x.den * y.den = 1; rw [hx, hy]
    · split
      · show x.den * y.den = 1; rw [hx, hy]
      · show x.den * y.den = 1; rw [hx, hy]
  unfold opX
  rcases hop with ⟨rfl, rfl⟩ | ⟨rfl, rfl⟩ | ⟨rfl, rfl⟩
  · rw [if_pos rfl, both_sgn, a2, b2, Nat.mul_one, Nat.mul_one, a1, b1]
    exact ⟨rfl, hbd _ _ a2 b2⟩
  · rw [if_neg (by decide), if_pos rfl, both_sgn]
    have t1 := turn_sgn (ofE 2 m 0)
    have t2 : (turnE (ofE 2 m 0)).den = 1 := b2
    rw [a2, t2, Nat.mul_one, Nat.mul_one, a1, t1, b1]
    exact ⟨by omega, hbd _ _ a2 t2⟩
  · rw [if_neg (by decide), if_neg (by decide), if_pos rfl]
    refine ⟨?_, ?_⟩
    · show sgn (((ofE 2 n 0).neg != (ofE 2 m 0).neg) && decide ((ofE 2 n 0).num * (ofE 2 m 0).num ≠ 0)) ((ofE 2 n 0).num * (ofE 2 m 0).num) = _
      rw [sgn_and, sgn_times, a1, b1]
    · show (ofE 2 n 0).den * (ofE 2 m 0).den = 1
      rw [a2, b2]
theorem sgn_abs (ng : Bool) (m : Nat) : (sgn ng m).natAbs = m := by
  unfold sgn
  cases ng <;> simp
theorem do_dec {op : UInt8} {n m r P : Int} (hop : op = 43 ∧ r = n + m ∨ op = 45 ∧ r = n - m ∨ op = 42 ∧ r = n * m) (hn : n.natAbs < 1000000000000000) (hm : m.natAbs < 1000000000000000) (h1 : 1 ≤ P) (h2 : P ≤ 15) (hr : r.natAbs < 10 ^ P.toNat) :
    doV op (dcV n) (dcV m) (dcT P) = (dcV r, 0, 0) := by
  obtain ⟨x1, x2⟩ := op_dec hop
  unfold doV
  rw [if_neg (by rw [dc_ask hn hm h1 h2]; decide), if_neg (by rcases hop with ⟨rfl, _⟩ | ⟨rfl, _⟩ | ⟨rfl, _⟩ <;> simp)]
  generalize opX op (ofE (dcV n).kind (dcV n).n (dcV n).q) (ofE (dcV m).kind (dcV m).n (dcV m).q) = x at *
  have hx : x.num = r.natAbs := by rw [← x1, sgn_abs]
  have hf : fitX (dcT P) x 2 = (r, 0, 0) := by
    show fitS 2 P.toNat 0 x.neg x.num x.den _ 2 = _
    unfold fitS
    rw [if_neg (by decide)]
    have h10 : bsN 2 = 10 := rfl
    rw [h10, Nat.pow_zero, Nat.mul_one, x2, Nat.div_one, hx, Nat.mod_eq_of_lt hr, if_neg (by omega), ← hx, x1]
    rfl
  rw [hf]
end Go.Iron.Tryz

/- The digits' seat: products, quotients by 0, rests. -/
namespace Go.Iron.Tryz
open Go.Proofs Go.RowKit Go.Iron.Tok Go.Iron.Dg

theorem d_divP (a b : Lg) (t : Typ) (hb0 : b.m = 0) : CallT Tryz.prog 58 [lgA a, lgA b, .loc (typE t) 0] [] (fun o A => o = .pan (.ifc 76 (.agg [])) ∧ A = []) := by
  refine callS_body (n := 17) rfl rfl fun w ρ X => ?_
  refine rX rfl ?_
  refine runS_cond rfl (fun h => ?_) (fun h => ?_)
  · refine rX rfl ?_
    refine runS_op (.agg []) rfl rfl rfl (op_build0 (by kernel_rfl) Tryz.underlying76 rfl) ?_
    refine rX rfl ?_
    exact runS_pan 0 rfl (Nat.le_refl _) rfl .nil ⟨rfl, rfl⟩
  · exfalso
    have : (((frm b.m).length : Int) == 0) = false := h
    rw [hb0, frm_zero] at this
    cases this
theorem d_reckonP (a b : Vl) (t : Typ) (g : FuncId) {gn : Func} {gc : Code} [Fun Tryz.prog g gn gc] (he : askL (some t) [a, b] = 0)
    (hdo : CallT Tryz.prog g ([lgA (ext a), lgA (ext b), .loc (typE t) 0]) [] (fun o A => o = .pan (.ifc 76 (.agg [])) ∧ A = [])) : CallT Tryz.prog 57 [.agg (vlE a), .agg (vlE b), .agg (typE t), .fn (.func g) [.loc (typE t) 0]] [] (fun o A => o = .ret (.tup [.agg (vlE (zeroV t).1), iv 9, iv 0]) ∧ A = []) := by
  obtain ⟨hnum, htn⟩ := ask_num he
  obtain ⟨hv, hkt⟩ := htn t rfl
  obtain ⟨hra, hka⟩ := hnum a (by simp)
  obtain ⟨hrb, hkb⟩ := hnum b (by simp)
  refine callS_body (n := 34) rfl rfl fun w ρ X => ?_
  refine rX rfl ?_
  refine runS_tell 6 (vlR [a, b]) rfl (m' := 2) rfl (fun j hj => ?_) rfl ?_
  · rcases j with _ | _ | j <;> first | rfl | omega
  refine runS_freeze 14 rfl rfl rfl (fun j hj => ?_) ?_
  · rcases j with _ | _ | j <;> first | rfl | omega
  refine runS_callF [.box 23 (vlE a), .box 23 (vlE b), .box 25 (typE t)] [.box 23 (vlE a), .box 23 (vlE b), .box 25 (typE t)] _ rfl rfl rfl rfl rfl (show _ = [.ptr 2 0 0, vlS none [a, b]] from rfl) rfl (.box rfl (.box rfl (.box rfl .nil))) rfl rfl (d_asked2 _ _ (fun l hl => .box rfl (.box rfl hl)) t none [a, b] (by simp)) ?_
  rw [he]
  refine rX rfl ?_
  refine runS_cond rfl (fun h => by cases h) (fun h => ?_)
  refine rX rfl ?_
  refine runS_drawG 12 [] (fun _ => _) (some 5) (c := 9) jnfI.draw (by kernel_rfl) rfl (lexg_g (I := inf) (J := jnf) none ⟨_, rfl, ob0⟩ rfl rfl rfl rfl (lexg_g (I := inf) (J := jnf) none ⟨_, rfl, ob0⟩ rfl rfl rfl rfl (lexg_call rfl rfl rfl rfl rfl rfl rfl rfl rfl (d_exactV a hra hka) (lexg_g (I := inf) (J := jnf) none ⟨_, rfl, ob0⟩ rfl rfl rfl rfl (lexg_call rfl rfl rfl rfl rfl rfl rfl rfl rfl (d_exactV b hrb hkb) (lexg_pan rfl rfl rfl rfl rfl rfl rfl rfl hdo (lexg_g (I := inf) (J := jnf) none ⟨_, rfl, ob0⟩ rfl rfl rfl rfl (lexg_late rfl (by kernel_rfl) (lexg_late rfl (by kernel_rfl) (lexg_late rfl (by kernel_rfl) (lexg_late rfl (by kernel_rfl) (lexg_late rfl (by kernel_rfl) lexg_nil)))))))))))) rfl (fun h => by cases h) (fun _ b tt => ?_)
  refine runS_x (I := inf) (J := jnf) ⟨true, false, [122], 0, 0⟩ 9999 rfl ob1 ?_
  refine runS_opA (.ptr 7 0 0) rfl rfl rfl (op_alloc0 (by kernel_rfl) rfl rfl) ?_
  refine runS_x (I := inf) (J := jnf) ⟨true, false, [122], 0, 0⟩ 9999 rfl ob1 ?_
  refine runS_call rfl rfl rfl rfl rfl rfl rfl (d_Zero t) ?_
  refine runS_x (I := inf) (J := jnf) ⟨true, false, [122], 0, 0⟩ 9999 rfl ob1 ?_
  refine runS_ret (I := inf) 0 rfl (Nat.le_refl _) rfl .nil rfl ⟨?_, rfl⟩
  rfl
theorem d_DivideZ (a b : Vl) (t : Typ) (he : askL (some t) [a, b] = 0) (hb0 : b.n = 0) : CallT Tryz.prog 16 [.agg (vlE a), .agg (vlE b), .agg (typE t)] [] (fun o A => o = .ret (.tup [.agg (vlE (zeroV t).1), iv 9, iv 0]) ∧ A = []) := by
  have hr := d_reckonP a b t 58 he (d_divP (ext a) (ext b) t (exact_m0.2 hb0))
  refine callS_body (n := 17) rfl rfl fun w ρ X => ?_
  refine rX rfl ?_
  refine runS_freezeBox 2 rfl rfl rfl ?_
  refine runS_call rfl rfl rfl rfl rfl rfl rfl hr ?_
  refine rX rfl ?_
  refine runS_ret (I := inf) 0 rfl (Nat.le_refl _) rfl .nil rfl ⟨?_, rfl⟩
  rfl
theorem prod_fits (a b : Lg) (ha : Fits a 50 100) (hb : Fits b 50 100) : Fits (prodL a b) 1500 1000 := by
  obtain ⟨ha1, ha2, ha3⟩ := ha
  obtain ⟨hb1, hb2, hb3⟩ := hb
  have := frm_len_mul a.m b.m
  unfold prodL
  exact ⟨by dsimp only; omega, by dsimp only; omega, by dsimp only; omega⟩
theorem d_Multiply (a b : Vl) (t : Typ) (he : askL (some t) [a, b] = 0) : CallT Tryz.prog 46 [.agg (vlE a), .agg (vlE b), .agg (typE t)] [] (fun o A => o = .ret (resA t.kind (fitL t.kind t.p.toNat t.q.toNat (prodL (ext a) (ext b)) 2)) ∧ A = []) := by
  obtain ⟨hnum, htn⟩ := ask_num he
  obtain ⟨hra, hka⟩ := hnum a (by simp)
  obtain ⟨hrb, hkb⟩ := hnum b (by simp)
  have hfa := ext_fits a hra hka
  have hfb := ext_fits b hrb hkb
  have hr := d_reckonV a b t 104 (prodL (ext a) (ext b)) he (d_product (ext a) (ext b) (hfa.mono (by decide) (by decide)) (hfb.mono (by decide) (by decide))) (prod_fits _ _ hfa hfb)
  refine callS_body (n := 16) rfl rfl fun w ρ X => ?_
  refine rX rfl ?_
  refine runS_call rfl rfl rfl rfl rfl rfl rfl hr ?_
  refine rX rfl ?_
  refine runS_ret (I := inf) 0 rfl (Nat.le_refl _) rfl .nil rfl ⟨?_, rfl⟩
  rfl
theorem d_AddE (a b : Vl) (t : Typ) (he : askL (some t) [a, b] ≠ 0) : CallT Tryz.prog 34 [.agg (vlE a), .agg (vlE b), .agg (typE t)] [] (fun o A => o = .ret (errA (askL (some t) [a, b])) ∧ A = []) := by
  refine callS_body (n := 16) rfl rfl fun w ρ X => ?_
  refine rX rfl ?_
  refine runS_call rfl rfl rfl rfl rfl rfl rfl (d_reckonE a b t 89 [] he) ?_
  refine rX rfl ?_
  refine runS_ret (I := inf) 0 rfl (Nat.le_refl _) rfl .nil rfl ⟨?_, rfl⟩
  rfl
theorem d_SubtractE (a b : Vl) (t : Typ) (he : askL (some t) [a, b] ≠ 0) : CallT Tryz.prog 35 [.agg (vlE a), .agg (vlE b), .agg (typE t)] [] (fun o A => o = .ret (errA (askL (some t) [a, b])) ∧ A = []) := by
  refine callS_body (n := 16) rfl rfl fun w ρ X => ?_
  refine rX rfl ?_
  refine runS_call rfl rfl rfl rfl rfl rfl rfl (d_reckonE a b t 90 [] he) ?_
  refine rX rfl ?_
  refine runS_ret (I := inf) 0 rfl (Nat.le_refl _) rfl .nil rfl ⟨?_, rfl⟩
  rfl
theorem d_MultiplyE (a b : Vl) (t : Typ) (he : askL (some t) [a, b] ≠ 0) : CallT Tryz.prog 46 [.agg (vlE a), .agg (vlE b), .agg (typE t)] [] (fun o A => o = .ret (errA (askL (some t) [a, b])) ∧ A = []) := by
  refine callS_body (n := 16) rfl rfl fun w ρ X => ?_
  refine rX rfl ?_
  refine runS_call rfl rfl rfl rfl rfl rfl rfl (d_reckonE a b t 104 [] he) ?_
  refine rX rfl ?_
  refine runS_ret (I := inf) 0 rfl (Nat.le_refl _) rfl .nil rfl ⟨?_, rfl⟩
  rfl
end Go.Iron.Tryz

/- The digits' seat: rests. -/
namespace Go.Iron.Tryz
open Go.Proofs Go.RowKit Go.Iron.Tok Go.Iron.Dg

end Go.Iron.Tryz

/- The digits' seat: operations of both are one. -/
namespace Go.Iron.Tryz
open Go.Proofs Go.RowKit Go.Iron.Tok Go.Iron.Dg

theorem fit_eq {L : Lg} {x : Ex} {t : Typ} {big : Int} (hv : validT t = true) (hk : numK t.kind = true) (hr : Rep L x.num x.den) (hd : x.den ≠ 0) (hn : x.num ≠ 0 → L.neg = x.neg) : fitL t.kind t.p.toNat t.q.toNat L big = fitX t x big := by
  obtain ⟨P, Q, hP, hQ, hP1, hP2, hQ2, hkd⟩ := valid_num hv hk
  have hp : t.p.toNat = P := by omega
  rw [hp]
  unfold fitX
  rw [hp]
  exact fit_rep (by omega) hP1 hr (Nat.pos_of_ne_zero hd) hn (fun h0 _ => kF_is h0 hd hP1)
theorem rep_v {v : Vl} (hr : v.right = true) (hk : numK v.kind = true) : Rep (ext v) (ofE v.kind v.n v.q).num (ofE v.kind v.n v.q).den := by
  obtain ⟨h1, h2, h3, h4, h5, h6⟩ := right_num hr hk
  exact exact_rep h2 (fun h => (h3 (by omega)).1)
theorem sum_zero {a b : Lg} (s : Bool) (h : b.m = 0) : sumL a ⟨b.m, s, b.exp⟩ = ⟨upM a (min a.exp b.exp), a.neg, min a.exp b.exp⟩ := by
  have hu : upM ⟨b.m, s, b.exp⟩ (min a.exp b.exp) = 0 := by unfold upM; rw [h, Nat.zero_mul]
  unfold sumL
  dsimp only
  rw [hu]
  split
  · rfl
  · rw [if_neg (Nat.not_lt_zero _)]
    rfl
theorem sub_rep {a b : Lg} {x y : Ex} (ha : Rep a x.num x.den) (hb : Rep b y.num y.den) (hna : a.neg = x.neg) (hnb : b.neg = y.neg) (hyd : y.den ≠ 0) : Rep (sumL a (flipL b)) (bothE x (turnE y)).num (bothE x (turnE y)).den ∧ ((bothE x (turnE y)).num ≠ 0 → (sumL a (flipL b)).neg = (bothE x (turnE y)).neg) := by
  have hs : sumL a (flipL b) = sumL a ⟨b.m, (turnE y).neg, b.exp⟩ := by
    by_cases h0 : y.num = 0
    · have hbm : b.m = 0 := by
        have hb' : b.m * y.den * e10 b.exp = y.num * e10 (-b.exp) := hb
        rw [h0, Nat.zero_mul] at hb'
        have := e10_pos b.exp
        rcases Nat.mul_eq_zero.1 hb' with h | h
        · rcases Nat.mul_eq_zero.1 h with h | h
          · exact h
          · exact absurd h hyd
        · omega
      rw [sum_zero _ hbm]
      exact sum_zero _ hbm
    · have : (turnE y).neg = !b.neg := by
        show (!y.neg && decide (y.num ≠ 0)) = !b.neg
        rw [decide_eq_true h0, Bool.and_true, hnb]
      rw [this]
      rfl
  rw [hs]
  exact sum_rep (b := ⟨b.m, (turnE y).neg, b.exp⟩) (y := turnE y) ha hb hna rfl
theorem d_AddV (a b : Vl) (t : Typ) : CallT Tryz.prog 34 [.agg (vlE a), .agg (vlE b), .agg (typE t)] [] (fun o A => o = .ret (vceA (doV 43 a b t)) ∧ A = []) := by
  unfold doV
  by_cases he : askL (some t) [a, b] = 0
  · obtain ⟨hnum, htn⟩ := ask_num he
    obtain ⟨hv, hkt⟩ := htn t rfl
    obtain ⟨hra, hka⟩ := hnum a (by simp)
    obtain ⟨hrb, hkb⟩ := hnum b (by simp)
    have h := d_Add a b t he
    obtain ⟨r1, r2⟩ := sum_rep (x := ofE a.kind a.n a.q) (y := ofE b.kind b.n b.q) (rep_v hra hka) (rep_v hrb hkb) rfl rfl
    rw [fit_eq hv hkt r1 (by rw [both_den]; exact Nat.mul_ne_zero (ofE_den0 a.kind a.n a.q) (ofE_den0 b.kind b.n b.q)) r2] at h
    rw [if_neg (fun e => e he), if_neg (fun e => absurd e.1 (by decide))]
    exact h
  · rw [if_pos he]
    exact d_AddE a b t he
theorem d_SubtractV (a b : Vl) (t : Typ) : CallT Tryz.prog 35 [.agg (vlE a), .agg (vlE b), .agg (typE t)] [] (fun o A => o = .ret (vceA (doV 45 a b t)) ∧ A = []) := by
  unfold doV
  by_cases he : askL (some t) [a, b] = 0
  · obtain ⟨hnum, htn⟩ := ask_num he
    obtain ⟨hv, hkt⟩ := htn t rfl
    obtain ⟨hra, hka⟩ := hnum a (by simp)
    obtain ⟨hrb, hkb⟩ := hnum b (by simp)
    have h := d_Subtract a b t he
    obtain ⟨r1, r2⟩ := sub_rep (x := ofE a.kind a.n a.q) (y := ofE b.kind b.n b.q) (rep_v hra hka) (rep_v hrb hkb) rfl rfl (ofE_den0 _ _ _)
    rw [fit_eq hv hkt r1 (by rw [both_den]; exact Nat.mul_ne_zero (ofE_den0 a.kind a.n a.q) (ofE_den0 b.kind b.n b.q)) r2] at h
    rw [if_neg (fun e => e he), if_neg (fun e => absurd e.1 (by decide))]
    exact h
  · rw [if_pos he]
    exact d_SubtractE a b t he
theorem d_MultiplyV (a b : Vl) (t : Typ) : CallT Tryz.prog 46 [.agg (vlE a), .agg (vlE b), .agg (typE t)] [] (fun o A => o = .ret (vceA (doV 42 a b t)) ∧ A = []) := by
  unfold doV
  by_cases he : askL (some t) [a, b] = 0
  · obtain ⟨hnum, htn⟩ := ask_num he
    obtain ⟨hv, hkt⟩ := htn t rfl
    obtain ⟨hra, hka⟩ := hnum a (by simp)
    obtain ⟨hrb, hkb⟩ := hnum b (by simp)
    have h := d_Multiply a b t he
    obtain ⟨r1, r2⟩ := prod_rep (x := ofE a.kind a.n a.q) (y := ofE b.kind b.n b.q) (rep_v hra hka) (rep_v hrb hkb) rfl rfl
    rw [fit_eq hv hkt r1 (Nat.mul_ne_zero (ofE_den0 _ _ _) (ofE_den0 _ _ _)) r2] at h
    rw [if_neg (fun e => e he), if_neg (fun e => absurd e.1 (by decide))]
    exact h
  · rw [if_pos he]
    exact d_MultiplyE a b t he
theorem d_DivideV (a b : Vl) (t : Typ) : CallT Tryz.prog 16 [.agg (vlE a), .agg (vlE b), .agg (typE t)] [] (fun o A => o = .ret (vceA (doV 47 a b t)) ∧ A = []) := by
  unfold doV
  by_cases he : askL (some t) [a, b] = 0
  · obtain ⟨hnum, htn⟩ := ask_num he
    obtain ⟨hv, hkt⟩ := htn t rfl
    obtain ⟨hra, hka⟩ := hnum a (by simp)
    obtain ⟨hrb, hkb⟩ := hnum b (by simp)
    rw [if_neg (fun e => e he)]
    by_cases hb0 : b.n = 0
    · rw [if_pos ⟨rfl, hb0⟩]
      exact d_DivideZ a b t he hb0
    · rw [if_neg (fun e => hb0 e.2)]
      have h := d_Divide a b t he hb0
      obtain ⟨P, Q, hP, hQ, hP1, hP2, hQ2, hkd⟩ := valid_num hv hkt
      obtain ⟨_, a2, a3, _, _, _⟩ := right_num hra hka
      obtain ⟨_, b2, b3, _, _, _⟩ := right_num hrb hkb
      have hd : (overE (ofE a.kind a.n a.q) (ofE b.kind b.n b.q)).den ≠ 0 := Nat.mul_ne_zero (ofE_den0 _ _ _) (fun e => hb0 ((ofE_num0 _ _ _).1 e))
      rw [quo_fit (k := kF (overE (ofE a.kind a.n a.q) (ofE b.kind b.n b.q)).num (overE (ofE a.kind a.n a.q) (ofE b.kind b.n b.q)).den t.p.toNat) a2 (fun h => (a3 (by omega)).1) b2 (fun h => (b3 (by omega)).1) hb0 (by omega) (by omega) (by omega) (fun h0 _ => kF_is h0 hd (by omega))] at h
      exact h
  · rw [if_pos he]
    exact d_DivideE a b t he
end Go.Iron.Tryz

/- The pairs' seat: steps, products. -/
namespace Go.Iron.Tryz
open Go.Proofs Go.RowKit Go.Iron.Tok Go.Iron.Dg

abbrev nuE (t : Typ) : List AV := [iv 0, iv 0, iv 0, sv [], iv 0, iv 0, iv 0, sv [], iv t.kind, iv t.p, iv t.q, iv t.n, bv t.vary, sv t.pic]
abbrev vlZ : List AV := [iv 0, iv 0, iv 0, sv []]
def byV (op : UInt8) (t : Typ) (a b : Vl) : Except Int Vl := if (doV op a b t).2.1 = 0 then .ok (doV op a b t).1 else .error (doV op a b t).2.1
abbrev stopO (c : Int) : Out := .pan (.ifc 121 (.agg [iv c]))
def outV : Except Int Vl → Out
  | .error c => stopO c
  | .ok v => .ret (.agg (vlE v))
def outP : Except Int Pr → Out
  | .error c => stopO c
  | .ok x => .ret (.agg (prE x))
theorem p_byG (t : Typ) (a b : Vl) (R : Vl × Int × Int) {g : FuncId} {gn : Func} {gc : Code} [Fun Tryz.prog g gn gc]
    (hg : CallT Tryz.prog g [.agg (vlE a), .agg (vlE b), .agg (typE t)] [] (fun o A => o = .ret (vceA R) ∧ A = [])) :
    CallT Tryz.prog 93 [.agg (nuE t), .fn (.func g) [], .agg (vlE a), .agg (vlE b)] [] (fun o A => o = outV (if R.2.1 = 0 then .ok R.1 else .error R.2.1) ∧ A = []) := by
  obtain ⟨v, c, e⟩ := R
  dsimp only at hg ⊢
  refine callS_body (n := 28) rfl rfl fun w ρ X => ?_
  refine rX rfl ?_
  refine runS_call rfl rfl rfl rfl rfl rfl rfl hg ?_
  refine rX rfl ?_
  refine runS_cond rfl (fun h => ?_) (fun h => ?_)
  · have hc : c ≠ 0 := by
      have h3 : (!(c == 0)) = true := h
      simpa using h3
    rw [if_neg hc]
    refine rX rfl ?_
    exact runS_pan 0 rfl (Nat.le_refl _) rfl .nil ⟨rfl, rfl⟩
  · have hc : c = 0 := by
      have h3 : (!(c == 0)) = false := h
      simpa using h3
    rw [if_pos hc]
    refine rX rfl ?_
    refine runS_ret (I := inf) 0 rfl (Nat.le_refl _) rfl .nil rfl ⟨?_, rfl⟩
    rfl
theorem p_by42 (t : Typ) (a b : Vl) : CallT Tryz.prog 93 [.agg (nuE t), .fn (.func 46) [], .agg (vlE a), .agg (vlE b)] [] (fun o A => o = outV (byV 42 t a b) ∧ A = []) := p_byG t a b _ (d_MultiplyV a b t)
theorem p_by43 (t : Typ) (a b : Vl) : CallT Tryz.prog 93 [.agg (nuE t), .fn (.func 34) [], .agg (vlE a), .agg (vlE b)] [] (fun o A => o = outV (byV 43 t a b) ∧ A = []) := p_byG t a b _ (d_AddV a b t)
theorem p_by45 (t : Typ) (a b : Vl) : CallT Tryz.prog 93 [.agg (nuE t), .fn (.func 35) [], .agg (vlE a), .agg (vlE b)] [] (fun o A => o = outV (byV 45 t a b) ∧ A = []) := p_byG t a b _ (d_SubtractV a b t)
theorem p_by47 (t : Typ) (a b : Vl) : CallT Tryz.prog 93 [.agg (nuE t), .fn (.func 16) [], .agg (vlE a), .agg (vlE b)] [] (fun o A => o = outV (byV 47 t a b) ∧ A = []) := p_byG t a b _ (d_DivideV a b t)
def timesV (t : Typ) (x y : Pr) : Except Int Pr :=
  match byV 42 t x.re y.re with
  | .error c => .error c
  | .ok p => match byV 42 t x.im y.im with
    | .error c => .error c
    | .ok q => match byV 42 t x.re y.im with
      | .error c => .error c
      | .ok r => match byV 42 t x.im y.re with
        | .error c => .error c
        | .ok s => match byV 45 t p q with
          | .error c => .error c
          | .ok re => match byV 43 t r s with
            | .error c => .error c
            | .ok im => .ok ⟨re, im⟩
theorem p_times (t : Typ) (x y : Pr) : CallT Tryz.prog 99 [.agg (nuE t), .agg (prE x), .agg (prE y)] [] (fun o A => o = outP (timesV t x y) ∧ A = []) := by
  have h1 := p_by42 t x.re y.re
  have h2 := p_by42 t x.im y.im
  have h3 := p_by42 t x.re y.im
  have h4 := p_by42 t x.im y.re
  unfold timesV
  refine callS_body (n := 46) rfl rfl fun w ρ X => ?_
  refine rX rfl ?_
  refine runS_hole ?_
  refine runS_hole ?_
  cases e1 : byV 42 t x.re y.re with
  | error c =>
    rw [e1] at h1
    dsimp only
    refine runS_drawG 16 [12, 13] (fun z => [.box 95 (nuE t), .box 41 (prE x), .box 41 (prE y), .box 41 (prE pr0), cond (z.getD 0 false) (.row 23 4 1 1 (fun _ => vlZ)) .hole, cond (z.getD 1 false) (.row 23 4 1 1 (fun _ => vlZ)) .hole]) (some 5) (c := 9) jnfI.draw (by kernel_rfl) rfl (lexg_g (I := inf) (J := jnf) none ⟨⟨⟨_, rfl, ob0⟩, oi⟩, oj⟩ rfl rfl rfl rfl (lexg_g (I := inf) (J := jnf) none ⟨⟨⟨_, rfl, ob0⟩, oi⟩, oj⟩ rfl rfl rfl rfl (lexg_g (I := inf) (J := jnf) none ⟨⟨⟨_, rfl, ob0⟩, oi⟩, oj⟩ rfl rfl rfl rfl (lexg_g (I := inf) (J := jnf) none ⟨⟨⟨_, rfl, ob0⟩, oi⟩, oj⟩ rfl rfl rfl rfl (lexg_g (I := inf) (J := jnf) none ⟨⟨⟨_, rfl, ob0⟩, oi⟩, oj⟩ rfl rfl rfl rfl (lexg_pan rfl rfl rfl rfl rfl rfl rfl rfl h1 (lexg_g (I := inf) (J := jnf) none ⟨⟨⟨_, rfl, ob0⟩, oi⟩, oj⟩ rfl rfl rfl rfl (lexg_g (I := inf) (J := jnf) none ⟨⟨⟨_, rfl, ob0⟩, oi⟩, oj⟩ rfl rfl rfl rfl (lexg_g (I := inf) (J := jnf) none ⟨⟨⟨_, rfl, ob0⟩, oi⟩, oj⟩ rfl rfl rfl rfl (lexg_g (I := inf) (J := jnf) none ⟨⟨⟨_, rfl, ob0⟩, oi⟩, oj⟩ rfl rfl rfl rfl (lexg_g (I := inf) (J := jnf) none ⟨⟨⟨_, rfl, ob0⟩, oi⟩, oj⟩ rfl rfl rfl rfl (lexg_late rfl (by kernel_rfl) (lexg_b 4 rfl rfl ⟨⟨⟨rfl, rfl⟩, (by first | exact .inl (by decide +kernel) | exact .inr ⟨rfl, rfl⟩)⟩, .inl rfl⟩ rfl rfl rfl rfl (lexg_b 5 rfl rfl ⟨⟨⟨rfl, rfl⟩, .inl rfl⟩, (by first | exact .inl (by decide +kernel) | exact .inr ⟨⟨rfl, rfl⟩, .inl rfl⟩)⟩ rfl rfl rfl rfl (lexg_late rfl (by kernel_rfl) (lexg_late rfl (by kernel_rfl) lexg_nil)))))))))))))))) rfl (fun h => by cases h) (fun _ b tt => ?_)
    refine rX rfl ?_
    exact runS_pan 0 rfl (Nat.le_refl _) rfl .nil ⟨rfl, rfl⟩
  | ok p =>
    rw [e1] at h1
    dsimp only
    cases e2 : byV 42 t x.im y.im with
    | error c =>
      rw [e2] at h2
      dsimp only
      refine runS_drawG 16 [12, 13] (fun z => [.box 95 (nuE t), .box 41 (prE x), .box 41 (prE y), .box 41 (prE pr0), cond (z.getD 0 false) (.row 23 4 1 1 (fun _ => vlZ)) .hole, cond (z.getD 1 false) (.row 23 4 1 1 (fun _ => vlZ)) .hole]) (some 11) (c := 9) jnfI.draw (by kernel_rfl) rfl (lexg_g (I := inf) (J := jnf) none ⟨⟨⟨_, rfl, ob0⟩, oi⟩, oj⟩ rfl rfl rfl rfl (lexg_g (I := inf) (J := jnf) none ⟨⟨⟨_, rfl, ob0⟩, oi⟩, oj⟩ rfl rfl rfl rfl (lexg_g (I := inf) (J := jnf) none ⟨⟨⟨_, rfl, ob0⟩, oi⟩, oj⟩ rfl rfl rfl rfl (lexg_g (I := inf) (J := jnf) none ⟨⟨⟨_, rfl, ob0⟩, oi⟩, oj⟩ rfl rfl rfl rfl (lexg_g (I := inf) (J := jnf) none ⟨⟨⟨_, rfl, ob0⟩, oi⟩, oj⟩ rfl rfl rfl rfl (lexg_call rfl rfl rfl rfl rfl rfl rfl rfl rfl h1 (lexg_g (I := inf) (J := jnf) none ⟨⟨⟨_, rfl, ob0⟩, oi⟩, oj⟩ rfl rfl rfl rfl (lexg_g (I := inf) (J := jnf) none ⟨⟨⟨_, rfl, ob0⟩, oi⟩, oj⟩ rfl rfl rfl rfl (lexg_g (I := inf) (J := jnf) none ⟨⟨⟨_, rfl, ob0⟩, oi⟩, oj⟩ rfl rfl rfl rfl (lexg_g (I := inf) (J := jnf) none ⟨⟨⟨_, rfl, ob0⟩, oi⟩, oj⟩ rfl rfl rfl rfl (lexg_g (I := inf) (J := jnf) none ⟨⟨⟨_, rfl, ob0⟩, oi⟩, oj⟩ rfl rfl rfl rfl (lexg_pan rfl rfl rfl rfl rfl rfl rfl rfl h2 (lexg_b 4 rfl rfl ⟨⟨⟨rfl, rfl⟩, (by first | exact .inl (by decide +kernel) | exact .inr ⟨rfl, rfl⟩)⟩, .inl rfl⟩ rfl rfl rfl rfl (lexg_b 5 rfl rfl ⟨⟨⟨rfl, rfl⟩, .inl rfl⟩, (by first | exact .inl (by decide +kernel) | exact .inr ⟨⟨rfl, rfl⟩, .inl rfl⟩)⟩ rfl rfl rfl rfl (lexg_late rfl (by kernel_rfl) (lexg_late rfl (by kernel_rfl) lexg_nil)))))))))))))))) rfl (fun h => by cases h) (fun _ b tt => ?_)
      refine rX rfl ?_
      exact runS_pan 0 rfl (Nat.le_refl _) rfl .nil ⟨rfl, rfl⟩
    | ok q =>
      rw [e2] at h2
      dsimp only
      refine runS_drawG (ch := []) (A2 := fun _ => []) 16 [12, 13, 14, 15] (fun z => [.box 95 (nuE t), .box 41 (prE x), .box 41 (prE y), .box 41 (prE pr0), cond (z.getD 0 false) (.row 23 4 1 1 (cond (z.getD 2 false) (setR (fun _ => vlZ) 0 (vlE p)) (fun _ => vlZ))) .hole, cond (z.getD 1 false) (.row 23 4 1 1 (cond (z.getD 3 false) (setR (fun _ => vlZ) 0 (vlE q)) (fun _ => vlZ))) .hole]) none (c := 9) jnfI.draw (by kernel_rfl) rfl (lexg_g (I := inf) (J := jnf) none ⟨⟨⟨⟨⟨_, rfl, ob0⟩, oi⟩, oj⟩, ol⟩, on⟩ rfl rfl rfl rfl (lexg_g (I := inf) (J := jnf) none ⟨⟨⟨⟨⟨_, rfl, ob0⟩, oi⟩, oj⟩, ol⟩, on⟩ rfl rfl rfl rfl (lexg_g (I := inf) (J := jnf) none ⟨⟨⟨⟨⟨_, rfl, ob0⟩, oi⟩, oj⟩, ol⟩, on⟩ rfl rfl rfl rfl (lexg_g (I := inf) (J := jnf) none ⟨⟨⟨⟨⟨_, rfl, ob0⟩, oi⟩, oj⟩, ol⟩, on⟩ rfl rfl rfl rfl (lexg_g (I := inf) (J := jnf) none ⟨⟨⟨⟨⟨_, rfl, ob0⟩, oi⟩, oj⟩, ol⟩, on⟩ rfl rfl rfl rfl (lexg_call rfl rfl rfl rfl rfl rfl rfl rfl rfl h1 (lexg_g (I := inf) (J := jnf) none ⟨⟨⟨⟨⟨_, rfl, ob0⟩, oi⟩, oj⟩, ol⟩, on⟩ rfl rfl rfl rfl (lexg_g (I := inf) (J := jnf) none ⟨⟨⟨⟨⟨_, rfl, ob0⟩, oi⟩, oj⟩, ol⟩, on⟩ rfl rfl rfl rfl (lexg_g (I := inf) (J := jnf) none ⟨⟨⟨⟨⟨_, rfl, ob0⟩, oi⟩, oj⟩, ol⟩, on⟩ rfl rfl rfl rfl (lexg_g (I := inf) (J := jnf) none ⟨⟨⟨⟨⟨_, rfl, ob0⟩, oi⟩, oj⟩, ol⟩, on⟩ rfl rfl rfl rfl (lexg_g (I := inf) (J := jnf) none ⟨⟨⟨⟨⟨_, rfl, ob0⟩, oi⟩, oj⟩, ol⟩, on⟩ rfl rfl rfl rfl (lexg_call rfl rfl rfl rfl rfl rfl rfl rfl rfl h2 (lexg_b 4 rfl rfl ⟨⟨⟨⟨⟨rfl, rfl⟩, (by first | exact .inl (by decide +kernel) | exact .inr ⟨rfl, rfl⟩)⟩, (by first | exact .inl (by decide +kernel) | exact .inr ⟨⟨rfl, rfl⟩, (by first | exact .inl (by decide +kernel) | exact .inr ⟨rfl, rfl⟩)⟩)⟩, (by first | exact .inl (by decide +kernel) | exact .inr ⟨⟨⟨rfl, rfl⟩, (by first | exact .inl (by decide +kernel) | exact .inr ⟨rfl, rfl⟩)⟩, (by first | exact .inl (by decide +kernel) | exact .inr ⟨⟨rfl, rfl⟩, (by first | exact .inl (by decide +kernel) | exact .inr ⟨rfl, rfl⟩)⟩)⟩)⟩, .inl rfl⟩ rfl rfl rfl rfl (lexg_b 5 rfl rfl ⟨⟨⟨⟨⟨rfl, rfl⟩, (by first | exact .inl (by decide +kernel) | exact .inr ⟨rfl, rfl⟩)⟩, (by first | exact .inl (by decide +kernel) | exact .inr ⟨⟨rfl, rfl⟩, (by first | exact .inl (by decide +kernel) | exact .inr ⟨rfl, rfl⟩)⟩)⟩, .inl rfl⟩, (by first | exact .inl (by decide +kernel) | exact .inr ⟨⟨⟨⟨rfl, rfl⟩, (by first | exact .inl (by decide +kernel) | exact .inr ⟨rfl, rfl⟩)⟩, (by first | exact .inl (by decide +kernel) | exact .inr ⟨⟨rfl, rfl⟩, (by first | exact .inl (by decide +kernel) | exact .inr ⟨rfl, rfl⟩)⟩)⟩, .inl rfl⟩)⟩ rfl rfl rfl rfl (lexg_d (I := inf) (J := jnf) (some .store) ⟨(by first | exact .inl (by decide +kernel) | exact .inr ⟨om, om⟩), (by first | exact .inl (by decide +kernel) | exact .inr ⟨om, om⟩)⟩ rfl rfl rfl rfl (lexg_d (I := inf) (J := jnf) (some .store) ⟨(by first | exact .inl (by decide +kernel) | exact .inr ⟨om, om⟩), (by first | exact .inl (by decide +kernel) | exact .inr ⟨om, om⟩)⟩ rfl rfl rfl rfl lexg_nil)))))))))))))))) rfl (fun _ => ?_) (fun h => by cases h)
      refine rX rfl ?_
      refine runS_tell 4 (fun _ => vlE p) rfl (m' := 1) rfl (fun j hj => by (obtain rfl : j = 0 := by omega); rfl) rfl ?_
      refine runS_tell 5 (fun _ => vlE q) rfl (m' := 1) rfl (fun j hj => by (obtain rfl : j = 0 := by omega); rfl) rfl ?_
      refine runS_hole ?_
      refine runS_hole ?_
      cases e3 : byV 42 t x.re y.im with
      | error c =>
        rw [e3] at h3
        dsimp only
        refine runS_drawG 16 [12, 13] (fun z => [.box 95 (nuE t), .box 41 (prE x), .box 41 (prE y), .box 41 (prE pr0), .row 23 4 1 1 (fun _ => vlE p), .row 23 4 1 1 (fun _ => vlE q), cond (z.getD 0 false) (.row 23 4 1 1 (fun _ => vlZ)) .hole, cond (z.getD 1 false) (.row 23 4 1 1 (fun _ => vlZ)) .hole]) (some 5) (c := 9) jnfI.draw (by kernel_rfl) rfl (lexg_g (I := inf) (J := jnf) none ⟨⟨⟨_, rfl, ob0⟩, oi⟩, oj⟩ rfl rfl rfl rfl (lexg_g (I := inf) (J := jnf) none ⟨⟨⟨_, rfl, ob0⟩, oi⟩, oj⟩ rfl rfl rfl rfl (lexg_g (I := inf) (J := jnf) none ⟨⟨⟨_, rfl, ob0⟩, oi⟩, oj⟩ rfl rfl rfl rfl (lexg_g (I := inf) (J := jnf) none ⟨⟨⟨_, rfl, ob0⟩, oi⟩, oj⟩ rfl rfl rfl rfl (lexg_g (I := inf) (J := jnf) none ⟨⟨⟨_, rfl, ob0⟩, oi⟩, oj⟩ rfl rfl rfl rfl (lexg_pan rfl rfl rfl rfl rfl rfl rfl rfl h3 (lexg_g (I := inf) (J := jnf) none ⟨⟨⟨_, rfl, ob0⟩, oi⟩, oj⟩ rfl rfl rfl rfl (lexg_g (I := inf) (J := jnf) none ⟨⟨⟨_, rfl, ob0⟩, oi⟩, oj⟩ rfl rfl rfl rfl (lexg_g (I := inf) (J := jnf) none ⟨⟨⟨_, rfl, ob0⟩, oi⟩, oj⟩ rfl rfl rfl rfl (lexg_g (I := inf) (J := jnf) none ⟨⟨⟨_, rfl, ob0⟩, oi⟩, oj⟩ rfl rfl rfl rfl (lexg_g (I := inf) (J := jnf) none ⟨⟨⟨_, rfl, ob0⟩, oi⟩, oj⟩ rfl rfl rfl rfl (lexg_late rfl (by kernel_rfl) (lexg_b 6 rfl rfl ⟨⟨⟨rfl, rfl⟩, (by first | exact .inl (by decide +kernel) | exact .inr ⟨rfl, rfl⟩)⟩, .inl rfl⟩ rfl rfl rfl rfl (lexg_b 7 rfl rfl ⟨⟨⟨rfl, rfl⟩, .inl rfl⟩, (by first | exact .inl (by decide +kernel) | exact .inr ⟨⟨rfl, rfl⟩, .inl rfl⟩)⟩ rfl rfl rfl rfl (lexg_late rfl (by kernel_rfl) (lexg_late rfl (by kernel_rfl) lexg_nil)))))))))))))))) rfl (fun h => by cases h) (fun _ b tt => ?_)
        refine rX rfl ?_
        exact runS_pan 0 rfl (Nat.le_refl _) rfl .nil ⟨rfl, rfl⟩
      | ok r =>
        rw [e3] at h3
        dsimp only
        cases e4 : byV 42 t x.im y.re with
        | error c =>
          rw [e4] at h4
          dsimp only
          refine runS_drawG 16 [12, 13] (fun z => [.box 95 (nuE t), .box 41 (prE x), .box 41 (prE y), .box 41 (prE pr0), .row 23 4 1 1 (fun _ => vlE p), .row 23 4 1 1 (fun _ => vlE q), cond (z.getD 0 false) (.row 23 4 1 1 (fun _ => vlZ)) .hole, cond (z.getD 1 false) (.row 23 4 1 1 (fun _ => vlZ)) .hole]) (some 11) (c := 9) jnfI.draw (by kernel_rfl) rfl (lexg_g (I := inf) (J := jnf) none ⟨⟨⟨_, rfl, ob0⟩, oi⟩, oj⟩ rfl rfl rfl rfl (lexg_g (I := inf) (J := jnf) none ⟨⟨⟨_, rfl, ob0⟩, oi⟩, oj⟩ rfl rfl rfl rfl (lexg_g (I := inf) (J := jnf) none ⟨⟨⟨_, rfl, ob0⟩, oi⟩, oj⟩ rfl rfl rfl rfl (lexg_g (I := inf) (J := jnf) none ⟨⟨⟨_, rfl, ob0⟩, oi⟩, oj⟩ rfl rfl rfl rfl (lexg_g (I := inf) (J := jnf) none ⟨⟨⟨_, rfl, ob0⟩, oi⟩, oj⟩ rfl rfl rfl rfl (lexg_call rfl rfl rfl rfl rfl rfl rfl rfl rfl h3 (lexg_g (I := inf) (J := jnf) none ⟨⟨⟨_, rfl, ob0⟩, oi⟩, oj⟩ rfl rfl rfl rfl (lexg_g (I := inf) (J := jnf) none ⟨⟨⟨_, rfl, ob0⟩, oi⟩, oj⟩ rfl rfl rfl rfl (lexg_g (I := inf) (J := jnf) none ⟨⟨⟨_, rfl, ob0⟩, oi⟩, oj⟩ rfl rfl rfl rfl (lexg_g (I := inf) (J := jnf) none ⟨⟨⟨_, rfl, ob0⟩, oi⟩, oj⟩ rfl rfl rfl rfl (lexg_g (I := inf) (J := jnf) none ⟨⟨⟨_, rfl, ob0⟩, oi⟩, oj⟩ rfl rfl rfl rfl (lexg_pan rfl rfl rfl rfl rfl rfl rfl rfl h4 (lexg_b 6 rfl rfl ⟨⟨⟨rfl, rfl⟩, (by first | exact .inl (by decide +kernel) | exact .inr ⟨rfl, rfl⟩)⟩, .inl rfl⟩ rfl rfl rfl rfl (lexg_b 7 rfl rfl ⟨⟨⟨rfl, rfl⟩, .inl rfl⟩, (by first | exact .inl (by decide +kernel) | exact .inr ⟨⟨rfl, rfl⟩, .inl rfl⟩)⟩ rfl rfl rfl rfl (lexg_late rfl (by kernel_rfl) (lexg_late rfl (by kernel_rfl) lexg_nil)))))))))))))))) rfl (fun h => by cases h) (fun _ b tt => ?_)
          refine rX rfl ?_
          exact runS_pan 0 rfl (Nat.le_refl _) rfl .nil ⟨rfl, rfl⟩
        | ok s =>
          rw [e4] at h4
          dsimp only
          refine runS_drawG (ch := []) (A2 := fun _ => []) 16 [12, 13, 14, 15] (fun z => [.box 95 (nuE t), .box 41 (prE x), .box 41 (prE y), .box 41 (prE pr0), .row 23 4 1 1 (fun _ => vlE p), .row 23 4 1 1 (fun _ => vlE q), cond (z.getD 0 false) (.row 23 4 1 1 (cond (z.getD 2 false) (setR (fun _ => vlZ) 0 (vlE r)) (fun _ => vlZ))) .hole, cond (z.getD 1 false) (.row 23 4 1 1 (cond (z.getD 3 false) (setR (fun _ => vlZ) 0 (vlE s)) (fun _ => vlZ))) .hole]) none (c := 9) jnfI.draw (by kernel_rfl) rfl (lexg_g (I := inf) (J := jnf) none ⟨⟨⟨⟨⟨_, rfl, ob0⟩, oi⟩, oj⟩, ol⟩, on⟩ rfl rfl rfl rfl (lexg_g (I := inf) (J := jnf) none ⟨⟨⟨⟨⟨_, rfl, ob0⟩, oi⟩, oj⟩, ol⟩, on⟩ rfl rfl rfl rfl (lexg_g (I := inf) (J := jnf) none ⟨⟨⟨⟨⟨_, rfl, ob0⟩, oi⟩, oj⟩, ol⟩, on⟩ rfl rfl rfl rfl (lexg_g (I := inf) (J := jnf) none ⟨⟨⟨⟨⟨_, rfl, ob0⟩, oi⟩, oj⟩, ol⟩, on⟩ rfl rfl rfl rfl (lexg_g (I := inf) (J := jnf) none ⟨⟨⟨⟨⟨_, rfl, ob0⟩, oi⟩, oj⟩, ol⟩, on⟩ rfl rfl rfl rfl (lexg_call rfl rfl rfl rfl rfl rfl rfl rfl rfl h3 (lexg_g (I := inf) (J := jnf) none ⟨⟨⟨⟨⟨_, rfl, ob0⟩, oi⟩, oj⟩, ol⟩, on⟩ rfl rfl rfl rfl (lexg_g (I := inf) (J := jnf) none ⟨⟨⟨⟨⟨_, rfl, ob0⟩, oi⟩, oj⟩, ol⟩, on⟩ rfl rfl rfl rfl (lexg_g (I := inf) (J := jnf) none ⟨⟨⟨⟨⟨_, rfl, ob0⟩, oi⟩, oj⟩, ol⟩, on⟩ rfl rfl rfl rfl (lexg_g (I := inf) (J := jnf) none ⟨⟨⟨⟨⟨_, rfl, ob0⟩, oi⟩, oj⟩, ol⟩, on⟩ rfl rfl rfl rfl (lexg_g (I := inf) (J := jnf) none ⟨⟨⟨⟨⟨_, rfl, ob0⟩, oi⟩, oj⟩, ol⟩, on⟩ rfl rfl rfl rfl (lexg_call rfl rfl rfl rfl rfl rfl rfl rfl rfl h4 (lexg_b 6 rfl rfl ⟨⟨⟨⟨⟨rfl, rfl⟩, (by first | exact .inl (by decide +kernel) | exact .inr ⟨rfl, rfl⟩)⟩, (by first | exact .inl (by decide +kernel) | exact .inr ⟨⟨rfl, rfl⟩, (by first | exact .inl (by decide +kernel) | exact .inr ⟨rfl, rfl⟩)⟩)⟩, (by first | exact .inl (by decide +kernel) | exact .inr ⟨⟨⟨rfl, rfl⟩, (by first | exact .inl (by decide +kernel) | exact .inr ⟨rfl, rfl⟩)⟩, (by first | exact .inl (by decide +kernel) | exact .inr ⟨⟨rfl, rfl⟩, (by first | exact .inl (by decide +kernel) | exact .inr ⟨rfl, rfl⟩)⟩)⟩)⟩, .inl rfl⟩ rfl rfl rfl rfl (lexg_b 7 rfl rfl ⟨⟨⟨⟨⟨rfl, rfl⟩, (by first | exact .inl (by decide +kernel) | exact .inr ⟨rfl, rfl⟩)⟩, (by first | exact .inl (by decide +kernel) | exact .inr ⟨⟨rfl, rfl⟩, (by first | exact .inl (by decide +kernel) | exact .inr ⟨rfl, rfl⟩)⟩)⟩, .inl rfl⟩, (by first | exact .inl (by decide +kernel) | exact .inr ⟨⟨⟨⟨rfl, rfl⟩, (by first | exact .inl (by decide +kernel) | exact .inr ⟨rfl, rfl⟩)⟩, (by first | exact .inl (by decide +kernel) | exact .inr ⟨⟨rfl, rfl⟩, (by first | exact .inl (by decide +kernel) | exact .inr ⟨rfl, rfl⟩)⟩)⟩, .inl rfl⟩)⟩ rfl rfl rfl rfl (lexg_d (I := inf) (J := jnf) (some .store) ⟨(by first | exact .inl (by decide +kernel) | exact .inr ⟨om, om⟩), (by first | exact .inl (by decide +kernel) | exact .inr ⟨om, om⟩)⟩ rfl rfl rfl rfl (lexg_d (I := inf) (J := jnf) (some .store) ⟨(by first | exact .inl (by decide +kernel) | exact .inr ⟨om, om⟩), (by first | exact .inl (by decide +kernel) | exact .inr ⟨om, om⟩)⟩ rfl rfl rfl rfl lexg_nil)))))))))))))))) rfl (fun _ => ?_) (fun h => by cases h)
          refine rX rfl ?_
          refine runS_tell 6 (fun _ => vlE r) rfl (m' := 1) rfl (fun j hj => by (obtain rfl : j = 0 := by omega); rfl) rfl ?_
          refine runS_tell 7 (fun _ => vlE s) rfl (m' := 1) rfl (fun j hj => by (obtain rfl : j = 0 := by omega); rfl) rfl ?_
          have h5 := p_by45 t p q
          have h6 := p_by43 t r s
          cases e5 : byV 45 t p q with
          | error c =>
            rw [e5] at h5
            dsimp only
            refine runS_callP rfl rfl rfl rfl rfl rfl rfl h5 ?_
            refine rX rfl ?_
            exact runS_pan 0 rfl (Nat.le_refl _) rfl .nil ⟨rfl, rfl⟩
          | ok re =>
            rw [e5] at h5
            dsimp only
            refine runS_call rfl rfl rfl rfl rfl rfl rfl h5 ?_
            refine rX rfl ?_
            cases e6 : byV 43 t r s with
            | error c =>
              rw [e6] at h6
              dsimp only
              refine runS_drawG 7 [] (fun _ => _) (some 4) (c := 9) jnfI.draw (by kernel_rfl) rfl (lexg_g (I := inf) (J := jnf) none ⟨_, rfl, ob0⟩ rfl rfl rfl rfl (lexg_g (I := inf) (J := jnf) none ⟨_, rfl, ob0⟩ rfl rfl rfl rfl (lexg_g (I := inf) (J := jnf) none ⟨_, rfl, ob0⟩ rfl rfl rfl rfl (lexg_g (I := inf) (J := jnf) none ⟨_, rfl, ob0⟩ rfl rfl rfl rfl (lexg_pan rfl rfl rfl rfl rfl rfl rfl rfl h6 (lexg_late rfl (by kernel_rfl) (lexg_late rfl (by kernel_rfl) lexg_nil))))))) rfl (fun h => by cases h) (fun _ b tt => ?_)
              refine rX rfl ?_
              exact runS_pan 0 rfl (Nat.le_refl _) rfl .nil ⟨rfl, rfl⟩
            | ok im =>
              rw [e6] at h6
              dsimp only
              refine runS_drawG (ch := []) (A2 := fun _ => []) 7 [6] (fun z => [.box 95 (nuE t), .box 41 (prE x), .box 41 (prE y), .box 41 (cond (z.getD 0 false) (prE ⟨re, im⟩) (prE pr0)), .row 23 4 1 1 (fun _ => vlE p), .row 23 4 1 1 (fun _ => vlE q), .row 23 4 1 1 (fun _ => vlE r), .row 23 4 1 1 (fun _ => vlE s), .box 23 (vlE re)]) none (c := 9) jnfI.draw (by kernel_rfl) rfl (lexg_g (I := inf) (J := jnf) none ⟨⟨_, rfl, ob0⟩, oi⟩ rfl rfl rfl rfl (lexg_g (I := inf) (J := jnf) none ⟨⟨_, rfl, ob0⟩, oi⟩ rfl rfl rfl rfl (lexg_g (I := inf) (J := jnf) none ⟨⟨_, rfl, ob0⟩, oi⟩ rfl rfl rfl rfl (lexg_g (I := inf) (J := jnf) none ⟨⟨_, rfl, ob0⟩, oi⟩ rfl rfl rfl rfl (lexg_call rfl rfl rfl rfl rfl rfl rfl rfl rfl h6 (lexg_g (I := inf) (J := jnf) none ⟨⟨_, rfl, ob0⟩, oi⟩ rfl rfl rfl rfl (lexg_g (I := inf) (J := jnf) (some .store) ⟨⟨_, rfl, ob0⟩, .inl rfl⟩ rfl rfl rfl rfl lexg_nil))))))) rfl (fun _ => ?_) (fun h => by cases h)
              refine rX rfl ?_
              refine runS_ret (I := inf) 0 rfl (Nat.le_refl _) rfl .nil rfl ⟨?_, rfl⟩
              rfl
end Go.Iron.Tryz

/- The pairs' seat: sums by parts, quotients. -/
namespace Go.Iron.Tryz
open Go.Proofs Go.RowKit Go.Iron.Tok Go.Iron.Dg

def pmV (op : UInt8) (t : Typ) (x y : Pr) : Except Int Pr :=
  match byV op t x.re y.re with
  | .error c => .error c
  | .ok re => match byV op t x.im y.im with
    | .error c => .error c
    | .ok im => .ok ⟨re, im⟩
def partV (op : UInt8) (t : Typ) (a1 a2 b1 b2 d : Vl) : Except Int Vl :=
  match byV 42 t a1 a2 with
  | .error c => .error c
  | .ok p => match byV 42 t b1 b2 with
    | .error c => .error c
    | .ok q => match byV op t p q with
      | .error c => .error c
      | .ok s => byV 47 t s d
def overV (t : Typ) (x y : Pr) : Except Int Pr :=
  match byV 42 t y.re y.re with
  | .error c => .error c
  | .ok p => match byV 42 t y.im y.im with
    | .error c => .error c
    | .ok q => match byV 43 t p q with
      | .error c => .error c
      | .ok d => if d.n = 0 then .error 9 else match partV 43 t x.re y.re x.im y.im d with
        | .error c => .error c
        | .ok re => match partV 45 t x.im y.re x.re y.im d with
          | .error c => .error c
          | .ok im => .ok ⟨re, im⟩
abbrev v2E (a b : Vl) : List AV := [iv a.kind, iv a.n, iv a.q, sv a.s, iv b.kind, iv b.n, iv b.q, sv b.s]
theorem p_pm (op : UInt8) (t : Typ) (x y : Pr) {g : FuncId} (hb : ∀ a b, CallT Tryz.prog 93 [.agg (nuE t), .fn (.func g) [], .agg (vlE a), .agg (vlE b)] [] (fun o A => o = outV (byV op t a b) ∧ A = [])) : CallT Tryz.prog 131 [.agg (nuE t), .agg (prE x), .agg (prE y), .loc [.fn (.func g) []] 0] [] (fun o A => o = outP (pmV op t x y) ∧ A = []) := by
  have h1 := hb x.re y.re
  have h2 := hb x.im y.im
  unfold pmV
  refine callS_body (n := 25) rfl rfl fun w ρ X => ?_
  refine rX rfl ?_
  cases e1 : byV op t x.re y.re with
  | error c =>
    rw [e1] at h1
    try dsimp only
    refine runS_callP rfl rfl rfl rfl rfl rfl rfl h1 ?_
    refine rX rfl ?_
    exact runS_pan 0 rfl (Nat.le_refl _) rfl .nil ⟨rfl, rfl⟩
  | ok re =>
    rw [e1] at h1
    try dsimp only
    refine runS_call rfl rfl rfl rfl rfl rfl rfl h1 ?_
    refine rX rfl ?_
    cases e2 : byV op t x.im y.im with
    | error c =>
      rw [e2] at h2
      try dsimp only
      refine runS_drawG 10 [] (fun _ => _) (some 7) (c := 9) jnfI.draw (by kernel_rfl) rfl (lexg_g (I := inf) (J := jnf) none ⟨_, rfl, ob0⟩ rfl rfl rfl rfl (lexg_g (I := inf) (J := jnf) none ⟨_, rfl, ob0⟩ rfl rfl rfl rfl (lexg_g (I := inf) (J := jnf) none ⟨_, rfl, ob0⟩ rfl rfl rfl rfl (lexg_g (I := inf) (J := jnf) none ⟨_, rfl, ob0⟩ rfl rfl rfl rfl (lexg_g (I := inf) (J := jnf) none ⟨_, rfl, ob0⟩ rfl rfl rfl rfl (lexg_g (I := inf) (J := jnf) none ⟨_, rfl, ob0⟩ rfl rfl rfl rfl (lexg_g (I := inf) (J := jnf) none ⟨_, rfl, ob0⟩ rfl rfl rfl rfl (lexg_pan rfl rfl rfl rfl rfl rfl rfl rfl h2 (lexg_late rfl (by kernel_rfl) (lexg_late rfl (by kernel_rfl) lexg_nil)))))))))) rfl (fun h => by cases h) (fun _ b tt => ?_)
      refine rX rfl ?_
      exact runS_pan 0 rfl (Nat.le_refl _) rfl .nil ⟨rfl, rfl⟩
    | ok im =>
      rw [e2] at h2
      try dsimp only
      refine runS_drawG (ch := []) (A2 := fun _ => []) 10 [9] (fun z => [.box 95 (nuE t), .box 41 (prE x), .box 41 (prE y), .box 41 (cond (z.getD 0 false) (prE ⟨re, im⟩) (prE pr0)), .box 23 (vlE re)]) none (c := 9) jnfI.draw (by kernel_rfl) rfl (lexg_g (I := inf) (J := jnf) none ⟨⟨_, rfl, ob0⟩, oi⟩ rfl rfl rfl rfl (lexg_g (I := inf) (J := jnf) none ⟨⟨_, rfl, ob0⟩, oi⟩ rfl rfl rfl rfl (lexg_g (I := inf) (J := jnf) none ⟨⟨_, rfl, ob0⟩, oi⟩ rfl rfl rfl rfl (lexg_g (I := inf) (J := jnf) none ⟨⟨_, rfl, ob0⟩, oi⟩ rfl rfl rfl rfl (lexg_g (I := inf) (J := jnf) none ⟨⟨_, rfl, ob0⟩, oi⟩ rfl rfl rfl rfl (lexg_g (I := inf) (J := jnf) none ⟨⟨_, rfl, ob0⟩, oi⟩ rfl rfl rfl rfl (lexg_g (I := inf) (J := jnf) none ⟨⟨_, rfl, ob0⟩, oi⟩ rfl rfl rfl rfl (lexg_call rfl rfl rfl rfl rfl rfl rfl rfl rfl h2 (lexg_g (I := inf) (J := jnf) none ⟨⟨_, rfl, ob0⟩, oi⟩ rfl rfl rfl rfl (lexg_g (I := inf) (J := jnf) (some .store) ⟨⟨_, rfl, ob0⟩, .inl rfl⟩ rfl rfl rfl rfl lexg_nil)))))))))) rfl (fun _ => ?_) (fun h => by cases h)
      refine rX rfl ?_
      refine runS_ret (I := inf) 0 rfl (Nat.le_refl _) rfl .nil rfl ⟨?_, rfl⟩
      rfl
theorem p_part (op : UInt8) (t : Typ) (a1 a2 b1 b2 d : Vl) {g : FuncId} (hb : ∀ a b, CallT Tryz.prog 93 [.agg (nuE t), .fn (.func g) [], .agg (vlE a), .agg (vlE b)] [] (fun o A => o = outV (byV op t a b) ∧ A = [])) : CallT Tryz.prog 188 [.agg (nuE t), .fn (.func g) [], .agg (v2E a1 a2), .agg (v2E b1 b2), .agg (vlE d)] [] (fun o A => o = outV (partV op t a1 a2 b1 b2 d) ∧ A = []) := by
  have h1 := p_by42 t a1 a2
  have h2 := p_by42 t b1 b2
  unfold partV
  refine callS_body (n := 33) rfl rfl fun w ρ X => ?_
  refine rX rfl ?_
  refine runS_hole ?_
  refine runS_hole ?_
  cases e1 : byV 42 t a1 a2 with
  | error c =>
    rw [e1] at h1
    try dsimp only
    refine runS_drawG 16 [12, 13] (fun z => [.box 95 (nuE t), .box 123 (v2E a1 a2), .box 123 (v2E b1 b2), .box 23 (vlE d), .box 23 vlZ, cond (z.getD 0 false) (.row 23 4 1 1 (fun _ => vlZ)) .hole, cond (z.getD 1 false) (.row 23 4 1 1 (fun _ => vlZ)) .hole]) (some 5) (c := 9) jnfI.draw (by kernel_rfl) rfl (lexg_g (I := inf) (J := jnf) none ⟨⟨⟨_, rfl, ob0⟩, oi⟩, oj⟩ rfl rfl rfl rfl (lexg_g (I := inf) (J := jnf) none ⟨⟨⟨_, rfl, ob0⟩, oi⟩, oj⟩ rfl rfl rfl rfl (lexg_g (I := inf) (J := jnf) none ⟨⟨⟨_, rfl, ob0⟩, oi⟩, oj⟩ rfl rfl rfl rfl (lexg_g (I := inf) (J := jnf) none ⟨⟨⟨_, rfl, ob0⟩, oi⟩, oj⟩ rfl rfl rfl rfl (lexg_g (I := inf) (J := jnf) none ⟨⟨⟨_, rfl, ob0⟩, oi⟩, oj⟩ rfl rfl rfl rfl (lexg_pan rfl rfl rfl rfl rfl rfl rfl rfl h1 (lexg_g (I := inf) (J := jnf) none ⟨⟨⟨_, rfl, ob0⟩, oi⟩, oj⟩ rfl rfl rfl rfl (lexg_g (I := inf) (J := jnf) none ⟨⟨⟨_, rfl, ob0⟩, oi⟩, oj⟩ rfl rfl rfl rfl (lexg_g (I := inf) (J := jnf) none ⟨⟨⟨_, rfl, ob0⟩, oi⟩, oj⟩ rfl rfl rfl rfl (lexg_g (I := inf) (J := jnf) none ⟨⟨⟨_, rfl, ob0⟩, oi⟩, oj⟩ rfl rfl rfl rfl (lexg_g (I := inf) (J := jnf) none ⟨⟨⟨_, rfl, ob0⟩, oi⟩, oj⟩ rfl rfl rfl rfl (lexg_late rfl (by kernel_rfl) (lexg_b 5 rfl rfl ⟨⟨⟨rfl, rfl⟩, (by first | exact .inl (by decide +kernel) | exact .inr ⟨rfl, rfl⟩)⟩, .inl rfl⟩ rfl rfl rfl rfl (lexg_b 6 rfl rfl ⟨⟨⟨rfl, rfl⟩, .inl rfl⟩, (by first | exact .inl (by decide +kernel) | exact .inr ⟨⟨rfl, rfl⟩, .inl rfl⟩)⟩ rfl rfl rfl rfl (lexg_late rfl (by kernel_rfl) (lexg_late rfl (by kernel_rfl) lexg_nil)))))))))))))))) rfl (fun h => by cases h) (fun _ b tt => ?_)
    refine rX rfl ?_
    exact runS_pan 0 rfl (Nat.le_refl _) rfl .nil ⟨rfl, rfl⟩
  | ok p =>
    rw [e1] at h1
    try dsimp only
    cases e2 : byV 42 t b1 b2 with
    | error c =>
      rw [e2] at h2
      try dsimp only
      refine runS_drawG 16 [12, 13] (fun z => [.box 95 (nuE t), .box 123 (v2E a1 a2), .box 123 (v2E b1 b2), .box 23 (vlE d), .box 23 vlZ, cond (z.getD 0 false) (.row 23 4 1 1 (fun _ => vlZ)) .hole, cond (z.getD 1 false) (.row 23 4 1 1 (fun _ => vlZ)) .hole]) (some 11) (c := 9) jnfI.draw (by kernel_rfl) rfl (lexg_g (I := inf) (J := jnf) none ⟨⟨⟨_, rfl, ob0⟩, oi⟩, oj⟩ rfl rfl rfl rfl (lexg_g (I := inf) (J := jnf) none ⟨⟨⟨_, rfl, ob0⟩, oi⟩, oj⟩ rfl rfl rfl rfl (lexg_g (I := inf) (J := jnf) none ⟨⟨⟨_, rfl, ob0⟩, oi⟩, oj⟩ rfl rfl rfl rfl (lexg_g (I := inf) (J := jnf) none ⟨⟨⟨_, rfl, ob0⟩, oi⟩, oj⟩ rfl rfl rfl rfl (lexg_g (I := inf) (J := jnf) none ⟨⟨⟨_, rfl, ob0⟩, oi⟩, oj⟩ rfl rfl rfl rfl (lexg_call rfl rfl rfl rfl rfl rfl rfl rfl rfl h1 (lexg_g (I := inf) (J := jnf) none ⟨⟨⟨_, rfl, ob0⟩, oi⟩, oj⟩ rfl rfl rfl rfl (lexg_g (I := inf) (J := jnf) none ⟨⟨⟨_, rfl, ob0⟩, oi⟩, oj⟩ rfl rfl rfl rfl (lexg_g (I := inf) (J := jnf) none ⟨⟨⟨_, rfl, ob0⟩, oi⟩, oj⟩ rfl rfl rfl rfl (lexg_g (I := inf) (J := jnf) none ⟨⟨⟨_, rfl, ob0⟩, oi⟩, oj⟩ rfl rfl rfl rfl (lexg_g (I := inf) (J := jnf) none ⟨⟨⟨_, rfl, ob0⟩, oi⟩, oj⟩ rfl rfl rfl rfl (lexg_pan rfl rfl rfl rfl rfl rfl rfl rfl h2 (lexg_b 5 rfl rfl ⟨⟨⟨rfl, rfl⟩, (by first | exact .inl (by decide +kernel) | exact .inr ⟨rfl, rfl⟩)⟩, .inl rfl⟩ rfl rfl rfl rfl (lexg_b 6 rfl rfl ⟨⟨⟨rfl, rfl⟩, .inl rfl⟩, (by first | exact .inl (by decide +kernel) | exact .inr ⟨⟨rfl, rfl⟩, .inl rfl⟩)⟩ rfl rfl rfl rfl (lexg_late rfl (by kernel_rfl) (lexg_late rfl (by kernel_rfl) lexg_nil)))))))))))))))) rfl (fun h => by cases h) (fun _ b tt => ?_)
      refine rX rfl ?_
      exact runS_pan 0 rfl (Nat.le_refl _) rfl .nil ⟨rfl, rfl⟩
    | ok q =>
      rw [e2] at h2
      try dsimp only
      refine runS_drawG (ch := []) (A2 := fun _ => []) 16 [12, 13, 14, 15] (fun z => [.box 95 (nuE t), .box 123 (v2E a1 a2), .box 123 (v2E b1 b2), .box 23 (vlE d), .box 23 vlZ, cond (z.getD 0 false) (.row 23 4 1 1 (cond (z.getD 2 false) (setR (fun _ => vlZ) 0 (vlE p)) (fun _ => vlZ))) .hole, cond (z.getD 1 false) (.row 23 4 1 1 (cond (z.getD 3 false) (setR (fun _ => vlZ) 0 (vlE q)) (fun _ => vlZ))) .hole]) none (c := 9) jnfI.draw (by kernel_rfl) rfl (lexg_g (I := inf) (J := jnf) none ⟨⟨⟨⟨⟨_, rfl, ob0⟩, oi⟩, oj⟩, ol⟩, on⟩ rfl rfl rfl rfl (lexg_g (I := inf) (J := jnf) none ⟨⟨⟨⟨⟨_, rfl, ob0⟩, oi⟩, oj⟩, ol⟩, on⟩ rfl rfl rfl rfl (lexg_g (I := inf) (J := jnf) none ⟨⟨⟨⟨⟨_, rfl, ob0⟩, oi⟩, oj⟩, ol⟩, on⟩ rfl rfl rfl rfl (lexg_g (I := inf) (J := jnf) none ⟨⟨⟨⟨⟨_, rfl, ob0⟩, oi⟩, oj⟩, ol⟩, on⟩ rfl rfl rfl rfl (lexg_g (I := inf) (J := jnf) none ⟨⟨⟨⟨⟨_, rfl, ob0⟩, oi⟩, oj⟩, ol⟩, on⟩ rfl rfl rfl rfl (lexg_call rfl rfl rfl rfl rfl rfl rfl rfl rfl h1 (lexg_g (I := inf) (J := jnf) none ⟨⟨⟨⟨⟨_, rfl, ob0⟩, oi⟩, oj⟩, ol⟩, on⟩ rfl rfl rfl rfl (lexg_g (I := inf) (J := jnf) none ⟨⟨⟨⟨⟨_, rfl, ob0⟩, oi⟩, oj⟩, ol⟩, on⟩ rfl rfl rfl rfl (lexg_g (I := inf) (J := jnf) none ⟨⟨⟨⟨⟨_, rfl, ob0⟩, oi⟩, oj⟩, ol⟩, on⟩ rfl rfl rfl rfl (lexg_g (I := inf) (J := jnf) none ⟨⟨⟨⟨⟨_, rfl, ob0⟩, oi⟩, oj⟩, ol⟩, on⟩ rfl rfl rfl rfl (lexg_g (I := inf) (J := jnf) none ⟨⟨⟨⟨⟨_, rfl, ob0⟩, oi⟩, oj⟩, ol⟩, on⟩ rfl rfl rfl rfl (lexg_call rfl rfl rfl rfl rfl rfl rfl rfl rfl h2 (lexg_b 5 rfl rfl ⟨⟨⟨⟨⟨rfl, rfl⟩, (by first | exact .inl (by decide +kernel) | exact .inr ⟨rfl, rfl⟩)⟩, (by first | exact .inl (by decide +kernel) | exact .inr ⟨⟨rfl, rfl⟩, (by first | exact .inl (by decide +kernel) | exact .inr ⟨rfl, rfl⟩)⟩)⟩, (by first | exact .inl (by decide +kernel) | exact .inr ⟨⟨⟨rfl, rfl⟩, (by first | exact .inl (by decide +kernel) | exact .inr ⟨rfl, rfl⟩)⟩, (by first | exact .inl (by decide +kernel) | exact .inr ⟨⟨rfl, rfl⟩, (by first | exact .inl (by decide +kernel) | exact .inr ⟨rfl, rfl⟩)⟩)⟩)⟩, .inl rfl⟩ rfl rfl rfl rfl (lexg_b 6 rfl rfl ⟨⟨⟨⟨⟨rfl, rfl⟩, (by first | exact .inl (by decide +kernel) | exact .inr ⟨rfl, rfl⟩)⟩, (by first | exact .inl (by decide +kernel) | exact .inr ⟨⟨rfl, rfl⟩, (by first | exact .inl (by decide +kernel) | exact .inr ⟨rfl, rfl⟩)⟩)⟩, .inl rfl⟩, (by first | exact .inl (by decide +kernel) | exact .inr ⟨⟨⟨⟨rfl, rfl⟩, (by first | exact .inl (by decide +kernel) | exact .inr ⟨rfl, rfl⟩)⟩, (by first | exact .inl (by decide +kernel) | exact .inr ⟨⟨rfl, rfl⟩, (by first | exact .inl (by decide +kernel) | exact .inr ⟨rfl, rfl⟩)⟩)⟩, .inl rfl⟩)⟩ rfl rfl rfl rfl (lexg_d (I := inf) (J := jnf) (some .store) ⟨(by first | exact .inl (by decide +kernel) | exact .inr ⟨om, om⟩), (by first | exact .inl (by decide +kernel) | exact .inr ⟨om, om⟩)⟩ rfl rfl rfl rfl (lexg_d (I := inf) (J := jnf) (some .store) ⟨(by first | exact .inl (by decide +kernel) | exact .inr ⟨om, om⟩), (by first | exact .inl (by decide +kernel) | exact .inr ⟨om, om⟩)⟩ rfl rfl rfl rfl lexg_nil)))))))))))))))) rfl (fun _ => ?_) (fun h => by cases h)
      refine rX rfl ?_
      refine runS_tell 5 (fun _ => vlE p) rfl (m' := 1) rfl (fun j hj => by (obtain rfl : j = 0 := by omega); rfl) rfl ?_
      refine runS_tell 6 (fun _ => vlE q) rfl (m' := 1) rfl (fun j hj => by (obtain rfl : j = 0 := by omega); rfl) rfl ?_
      have h3 := hb p q
      cases e3 : byV op t p q with
      | error c =>
        rw [e3] at h3
        try dsimp only
        refine runS_drawG 9 [] (fun _ => _) (some 5) (c := 9) jnfI.draw (by kernel_rfl) rfl (lexg_g (I := inf) (J := jnf) none ⟨_, rfl, ob0⟩ rfl rfl rfl rfl (lexg_g (I := inf) (J := jnf) none ⟨_, rfl, ob0⟩ rfl rfl rfl rfl (lexg_g (I := inf) (J := jnf) none ⟨_, rfl, ob0⟩ rfl rfl rfl rfl (lexg_g (I := inf) (J := jnf) none ⟨_, rfl, ob0⟩ rfl rfl rfl rfl (lexg_g (I := inf) (J := jnf) none ⟨_, rfl, ob0⟩ rfl rfl rfl rfl (lexg_pan rfl rfl rfl rfl rfl rfl rfl rfl h3 (lexg_g (I := inf) (J := jnf) none ⟨_, rfl, ob0⟩ rfl rfl rfl rfl (lexg_late rfl (by kernel_rfl) (lexg_late rfl (by kernel_rfl) lexg_nil))))))))) rfl (fun h => by cases h) (fun _ b tt => ?_)
        refine rX rfl ?_
        exact runS_pan 0 rfl (Nat.le_refl _) rfl .nil ⟨rfl, rfl⟩
      | ok s =>
        rw [e3] at h3
        try dsimp only
        have h4 := p_by47 t s d
        cases e4 : byV 47 t s d with
        | error c =>
          rw [e4] at h4
          try dsimp only
          refine runS_drawG 9 [] (fun _ => _) (some 7) (c := 9) jnfI.draw (by kernel_rfl) rfl (lexg_g (I := inf) (J := jnf) none ⟨_, rfl, ob0⟩ rfl rfl rfl rfl (lexg_g (I := inf) (J := jnf) none ⟨_, rfl, ob0⟩ rfl rfl rfl rfl (lexg_g (I := inf) (J := jnf) none ⟨_, rfl, ob0⟩ rfl rfl rfl rfl (lexg_g (I := inf) (J := jnf) none ⟨_, rfl, ob0⟩ rfl rfl rfl rfl (lexg_g (I := inf) (J := jnf) none ⟨_, rfl, ob0⟩ rfl rfl rfl rfl (lexg_call rfl rfl rfl rfl rfl rfl rfl rfl rfl h3 (lexg_g (I := inf) (J := jnf) none ⟨_, rfl, ob0⟩ rfl rfl rfl rfl (lexg_pan rfl rfl rfl rfl rfl rfl rfl rfl h4 (lexg_late rfl (by kernel_rfl) lexg_nil))))))))) rfl (fun h => by cases h) (fun _ b tt => ?_)
          refine rX rfl ?_
          exact runS_pan 0 rfl (Nat.le_refl _) rfl .nil ⟨rfl, rfl⟩
        | ok w =>
          rw [e4] at h4
          try dsimp only
          refine runS_drawG (ch := []) (A2 := fun _ => []) 9 [8] (fun z => [.box 95 (nuE t), .box 123 (v2E a1 a2), .box 123 (v2E b1 b2), .box 23 (vlE d), .box 23 (cond (z.getD 0 false) (vlE w) vlZ), .row 23 4 1 1 (fun _ => vlE p), .row 23 4 1 1 (fun _ => vlE q)]) none (c := 9) jnfI.draw (by kernel_rfl) rfl (lexg_g (I := inf) (J := jnf) none ⟨⟨_, rfl, ob0⟩, oi⟩ rfl rfl rfl rfl (lexg_g (I := inf) (J := jnf) none ⟨⟨_, rfl, ob0⟩, oi⟩ rfl rfl rfl rfl (lexg_g (I := inf) (J := jnf) none ⟨⟨_, rfl, ob0⟩, oi⟩ rfl rfl rfl rfl (lexg_g (I := inf) (J := jnf) none ⟨⟨_, rfl, ob0⟩, oi⟩ rfl rfl rfl rfl (lexg_g (I := inf) (J := jnf) none ⟨⟨_, rfl, ob0⟩, oi⟩ rfl rfl rfl rfl (lexg_call rfl rfl rfl rfl rfl rfl rfl rfl rfl h3 (lexg_g (I := inf) (J := jnf) none ⟨⟨_, rfl, ob0⟩, oi⟩ rfl rfl rfl rfl (lexg_call rfl rfl rfl rfl rfl rfl rfl rfl rfl h4 (lexg_g (I := inf) (J := jnf) (some .store) ⟨⟨_, rfl, ob0⟩, .inl rfl⟩ rfl rfl rfl rfl lexg_nil))))))))) rfl (fun _ => ?_) (fun h => by cases h)
          refine rX rfl ?_
          refine runS_ret (I := inf) 0 rfl (Nat.le_refl _) rfl .nil rfl ⟨?_, rfl⟩
          rfl
theorem p_over (t : Typ) (x y : Pr) : CallT Tryz.prog 132 [.agg (nuE t), .agg (prE x), .agg (prE y)] [] (fun o A => o = outP (overV t x y) ∧ A = []) := by
  have h1 := p_by42 t y.re y.re
  have h2 := p_by42 t y.im y.im
  unfold overV
  refine callS_body (n := 60) rfl rfl fun w ρ X => ?_
  refine rX rfl ?_
  refine runS_hole ?_
  refine runS_hole ?_
  cases e1 : byV 42 t y.re y.re with
  | error c =>
    rw [e1] at h1
    try dsimp only
    refine runS_drawG 16 [12, 13] (fun z => [.box 95 (nuE t), .box 41 (prE x), .box 41 (prE y), .box 41 (prE pr0), cond (z.getD 0 false) (.row 23 4 1 1 (fun _ => vlZ)) .hole, cond (z.getD 1 false) (.row 23 4 1 1 (fun _ => vlZ)) .hole]) (some 5) (c := 9) jnfI.draw (by kernel_rfl) rfl (lexg_g (I := inf) (J := jnf) none ⟨⟨⟨_, rfl, ob0⟩, oi⟩, oj⟩ rfl rfl rfl rfl (lexg_g (I := inf) (J := jnf) none ⟨⟨⟨_, rfl, ob0⟩, oi⟩, oj⟩ rfl rfl rfl rfl (lexg_g (I := inf) (J := jnf) none ⟨⟨⟨_, rfl, ob0⟩, oi⟩, oj⟩ rfl rfl rfl rfl (lexg_g (I := inf) (J := jnf) none ⟨⟨⟨_, rfl, ob0⟩, oi⟩, oj⟩ rfl rfl rfl rfl (lexg_g (I := inf) (J := jnf) none ⟨⟨⟨_, rfl, ob0⟩, oi⟩, oj⟩ rfl rfl rfl rfl (lexg_pan rfl rfl rfl rfl rfl rfl rfl rfl h1 (lexg_g (I := inf) (J := jnf) none ⟨⟨⟨_, rfl, ob0⟩, oi⟩, oj⟩ rfl rfl rfl rfl (lexg_g (I := inf) (J := jnf) none ⟨⟨⟨_, rfl, ob0⟩, oi⟩, oj⟩ rfl rfl rfl rfl (lexg_g (I := inf) (J := jnf) none ⟨⟨⟨_, rfl, ob0⟩, oi⟩, oj⟩ rfl rfl rfl rfl (lexg_g (I := inf) (J := jnf) none ⟨⟨⟨_, rfl, ob0⟩, oi⟩, oj⟩ rfl rfl rfl rfl (lexg_g (I := inf) (J := jnf) none ⟨⟨⟨_, rfl, ob0⟩, oi⟩, oj⟩ rfl rfl rfl rfl (lexg_late rfl (by kernel_rfl) (lexg_b 4 rfl rfl ⟨⟨⟨rfl, rfl⟩, (by first | exact .inl (by decide +kernel) | exact .inr ⟨rfl, rfl⟩)⟩, .inl rfl⟩ rfl rfl rfl rfl (lexg_b 5 rfl rfl ⟨⟨⟨rfl, rfl⟩, .inl rfl⟩, (by first | exact .inl (by decide +kernel) | exact .inr ⟨⟨rfl, rfl⟩, .inl rfl⟩)⟩ rfl rfl rfl rfl (lexg_late rfl (by kernel_rfl) (lexg_late rfl (by kernel_rfl) lexg_nil)))))))))))))))) rfl (fun h => by cases h) (fun _ b tt => ?_)
    refine rX rfl ?_
    exact runS_pan 0 rfl (Nat.le_refl _) rfl .nil ⟨rfl, rfl⟩
  | ok p =>
    rw [e1] at h1
    try dsimp only
    cases e2 : byV 42 t y.im y.im with
    | error c =>
      rw [e2] at h2
      try dsimp only
      refine runS_drawG 16 [12, 13] (fun z => [.box 95 (nuE t), .box 41 (prE x), .box 41 (prE y), .box 41 (prE pr0), cond (z.getD 0 false) (.row 23 4 1 1 (fun _ => vlZ)) .hole, cond (z.getD 1 false) (.row 23 4 1 1 (fun _ => vlZ)) .hole]) (some 11) (c := 9) jnfI.draw (by kernel_rfl) rfl (lexg_g (I := inf) (J := jnf) none ⟨⟨⟨_, rfl, ob0⟩, oi⟩, oj⟩ rfl rfl rfl rfl (lexg_g (I := inf) (J := jnf) none ⟨⟨⟨_, rfl, ob0⟩, oi⟩, oj⟩ rfl rfl rfl rfl (lexg_g (I := inf) (J := jnf) none ⟨⟨⟨_, rfl, ob0⟩, oi⟩, oj⟩ rfl rfl rfl rfl (lexg_g (I := inf) (J := jnf) none ⟨⟨⟨_, rfl, ob0⟩, oi⟩, oj⟩ rfl rfl rfl rfl (lexg_g (I := inf) (J := jnf) none ⟨⟨⟨_, rfl, ob0⟩, oi⟩, oj⟩ rfl rfl rfl rfl (lexg_call rfl rfl rfl rfl rfl rfl rfl rfl rfl h1 (lexg_g (I := inf) (J := jnf) none ⟨⟨⟨_, rfl, ob0⟩, oi⟩, oj⟩ rfl rfl rfl rfl (lexg_g (I := inf) (J := jnf) none ⟨⟨⟨_, rfl, ob0⟩, oi⟩, oj⟩ rfl rfl rfl rfl (lexg_g (I := inf) (J := jnf) none ⟨⟨⟨_, rfl, ob0⟩, oi⟩, oj⟩ rfl rfl rfl rfl (lexg_g (I := inf) (J := jnf) none ⟨⟨⟨_, rfl, ob0⟩, oi⟩, oj⟩ rfl rfl rfl rfl (lexg_g (I := inf) (J := jnf) none ⟨⟨⟨_, rfl, ob0⟩, oi⟩, oj⟩ rfl rfl rfl rfl (lexg_pan rfl rfl rfl rfl rfl rfl rfl rfl h2 (lexg_b 4 rfl rfl ⟨⟨⟨rfl, rfl⟩, (by first | exact .inl (by decide +kernel) | exact .inr ⟨rfl, rfl⟩)⟩, .inl rfl⟩ rfl rfl rfl rfl (lexg_b 5 rfl rfl ⟨⟨⟨rfl, rfl⟩, .inl rfl⟩, (by first | exact .inl (by decide +kernel) | exact .inr ⟨⟨rfl, rfl⟩, .inl rfl⟩)⟩ rfl rfl rfl rfl (lexg_late rfl (by kernel_rfl) (lexg_late rfl (by kernel_rfl) lexg_nil)))))))))))))))) rfl (fun h => by cases h) (fun _ b tt => ?_)
      refine rX rfl ?_
      exact runS_pan 0 rfl (Nat.le_refl _) rfl .nil ⟨rfl, rfl⟩
    | ok q =>
      rw [e2] at h2
      try dsimp only
      refine runS_drawG (ch := []) (A2 := fun _ => []) 16 [12, 13, 14, 15] (fun z => [.box 95 (nuE t), .box 41 (prE x), .box 41 (prE y), .box 41 (prE pr0), cond (z.getD 0 false) (.row 23 4 1 1 (cond (z.getD 2 false) (setR (fun _ => vlZ) 0 (vlE p)) (fun _ => vlZ))) .hole, cond (z.getD 1 false) (.row 23 4 1 1 (cond (z.getD 3 false) (setR (fun _ => vlZ) 0 (vlE q)) (fun _ => vlZ))) .hole]) none (c := 9) jnfI.draw (by kernel_rfl) rfl (lexg_g (I := inf) (J := jnf) none ⟨⟨⟨⟨⟨_, rfl, ob0⟩, oi⟩, oj⟩, ol⟩, on⟩ rfl rfl rfl rfl (lexg_g (I := inf) (J := jnf) none ⟨⟨⟨⟨⟨_, rfl, ob0⟩, oi⟩, oj⟩, ol⟩, on⟩ rfl rfl rfl rfl (lexg_g (I := inf) (J := jnf) none ⟨⟨⟨⟨⟨_, rfl, ob0⟩, oi⟩, oj⟩, ol⟩, on⟩ rfl rfl rfl rfl (lexg_g (I := inf) (J := jnf) none ⟨⟨⟨⟨⟨_, rfl, ob0⟩, oi⟩, oj⟩, ol⟩, on⟩ rfl rfl rfl rfl (lexg_g (I := inf) (J := jnf) none ⟨⟨⟨⟨⟨_, rfl, ob0⟩, oi⟩, oj⟩, ol⟩, on⟩ rfl rfl rfl rfl (lexg_call rfl rfl rfl rfl rfl rfl rfl rfl rfl h1 (lexg_g (I := inf) (J := jnf) none ⟨⟨⟨⟨⟨_, rfl, ob0⟩, oi⟩, oj⟩, ol⟩, on⟩ rfl rfl rfl rfl (lexg_g (I := inf) (J := jnf) none ⟨⟨⟨⟨⟨_, rfl, ob0⟩, oi⟩, oj⟩, ol⟩, on⟩ rfl rfl rfl rfl (lexg_g (I := inf) (J := jnf) none ⟨⟨⟨⟨⟨_, rfl, ob0⟩, oi⟩, oj⟩, ol⟩, on⟩ rfl rfl rfl rfl (lexg_g (I := inf) (J := jnf) none ⟨⟨⟨⟨⟨_, rfl, ob0⟩, oi⟩, oj⟩, ol⟩, on⟩ rfl rfl rfl rfl (lexg_g (I := inf) (J := jnf) none ⟨⟨⟨⟨⟨_, rfl, ob0⟩, oi⟩, oj⟩, ol⟩, on⟩ rfl rfl rfl rfl (lexg_call rfl rfl rfl rfl rfl rfl rfl rfl rfl h2 (lexg_b 4 rfl rfl ⟨⟨⟨⟨⟨rfl, rfl⟩, (by first | exact .inl (by decide +kernel) | exact .inr ⟨rfl, rfl⟩)⟩, (by first | exact .inl (by decide +kernel) | exact .inr ⟨⟨rfl, rfl⟩, (by first | exact .inl (by decide +kernel) | exact .inr ⟨rfl, rfl⟩)⟩)⟩, (by first | exact .inl (by decide +kernel) | exact .inr ⟨⟨⟨rfl, rfl⟩, (by first | exact .inl (by decide +kernel) | exact .inr ⟨rfl, rfl⟩)⟩, (by first | exact .inl (by decide +kernel) | exact .inr ⟨⟨rfl, rfl⟩, (by first | exact .inl (by decide +kernel) | exact .inr ⟨rfl, rfl⟩)⟩)⟩)⟩, .inl rfl⟩ rfl rfl rfl rfl (lexg_b 5 rfl rfl ⟨⟨⟨⟨⟨rfl, rfl⟩, (by first | exact .inl (by decide +kernel) | exact .inr ⟨rfl, rfl⟩)⟩, (by first | exact .inl (by decide +kernel) | exact .inr ⟨⟨rfl, rfl⟩, (by first | exact .inl (by decide +kernel) | exact .inr ⟨rfl, rfl⟩)⟩)⟩, .inl rfl⟩, (by first | exact .inl (by decide +kernel) | exact .inr ⟨⟨⟨⟨rfl, rfl⟩, (by first | exact .inl (by decide +kernel) | exact .inr ⟨rfl, rfl⟩)⟩, (by first | exact .inl (by decide +kernel) | exact .inr ⟨⟨rfl, rfl⟩, (by first | exact .inl (by decide +kernel) | exact .inr ⟨rfl, rfl⟩)⟩)⟩, .inl rfl⟩)⟩ rfl rfl rfl rfl (lexg_d (I := inf) (J := jnf) (some .store) ⟨(by first | exact .inl (by decide +kernel) | exact .inr ⟨om, om⟩), (by first | exact .inl (by decide +kernel) | exact .inr ⟨om, om⟩)⟩ rfl rfl rfl rfl (lexg_d (I := inf) (J := jnf) (some .store) ⟨(by first | exact .inl (by decide +kernel) | exact .inr ⟨om, om⟩), (by first | exact .inl (by decide +kernel) | exact .inr ⟨om, om⟩)⟩ rfl rfl rfl rfl lexg_nil)))))))))))))))) rfl (fun _ => ?_) (fun h => by cases h)
      refine rX rfl ?_
      refine runS_tell 4 (fun _ => vlE p) rfl (m' := 1) rfl (fun j hj => by (obtain rfl : j = 0 := by omega); rfl) rfl ?_
      refine runS_tell 5 (fun _ => vlE q) rfl (m' := 1) rfl (fun j hj => by (obtain rfl : j = 0 := by omega); rfl) rfl ?_
      have h3 := p_by43 t p q
      cases e3 : byV 43 t p q with
      | error c =>
        rw [e3] at h3
        try dsimp only
        refine runS_callP rfl rfl rfl rfl rfl rfl rfl h3 ?_
        refine rX rfl ?_
        exact runS_pan 0 rfl (Nat.le_refl _) rfl .nil ⟨rfl, rfl⟩
      | ok d =>
        rw [e3] at h3
        try dsimp only
        refine runS_call rfl rfl rfl rfl rfl rfl rfl h3 ?_
        refine rX rfl ?_
        refine runS_cond rfl (fun h => ?_) (fun h => ?_)
        · have hd : d.n = 0 := by simpa using (show (d.n == 0) = true from h)
          rw [if_pos hd]
          refine rX rfl ?_
          exact runS_pan 0 rfl (Nat.le_refl _) rfl .nil ⟨rfl, rfl⟩
        have hd : ¬ d.n = 0 := by simpa using (show (d.n == 0) = false from h)
        rw [if_neg hd]
        have h4 := p_part 43 t x.re y.re x.im y.im d (p_by43 t)
        have h5 := p_part 45 t x.im y.re x.re y.im d (p_by45 t)
        refine rX rfl ?_
        cases e4 : partV 43 t x.re y.re x.im y.im d with
        | error c =>
          rw [e4] at h4
          try dsimp only
          refine runS_callP rfl rfl rfl rfl rfl rfl rfl h4 ?_
          refine rX rfl ?_
          exact runS_pan 0 rfl (Nat.le_refl _) rfl .nil ⟨rfl, rfl⟩
        | ok re =>
          rw [e4] at h4
          try dsimp only
          refine runS_call rfl rfl rfl rfl rfl rfl rfl h4 ?_
          refine rX rfl ?_
          cases e5 : partV 45 t x.im y.re x.re y.im d with
          | error c =>
            rw [e5] at h5
            try dsimp only
            refine runS_drawG 16 [] (fun _ => _) (some 13) (c := 9) jnfI.draw (by kernel_rfl) rfl (lexg_g (I := inf) (J := jnf) none ⟨_, rfl, ob0⟩ rfl rfl rfl rfl (lexg_g (I := inf) (J := jnf) none ⟨_, rfl, ob0⟩ rfl rfl rfl rfl (lexg_g (I := inf) (J := jnf) none ⟨_, rfl, ob0⟩ rfl rfl rfl rfl (lexg_g (I := inf) (J := jnf) none ⟨_, rfl, ob0⟩ rfl rfl rfl rfl (lexg_g (I := inf) (J := jnf) none ⟨_, rfl, ob0⟩ rfl rfl rfl rfl (lexg_g (I := inf) (J := jnf) none ⟨_, rfl, ob0⟩ rfl rfl rfl rfl (lexg_g (I := inf) (J := jnf) none ⟨_, rfl, ob0⟩ rfl rfl rfl rfl (lexg_g (I := inf) (J := jnf) none ⟨_, rfl, ob0⟩ rfl rfl rfl rfl (lexg_g (I := inf) (J := jnf) none ⟨_, rfl, ob0⟩ rfl rfl rfl rfl (lexg_g (I := inf) (J := jnf) none ⟨_, rfl, ob0⟩ rfl rfl rfl rfl (lexg_g (I := inf) (J := jnf) none ⟨_, rfl, ob0⟩ rfl rfl rfl rfl (lexg_g (I := inf) (J := jnf) none ⟨_, rfl, ob0⟩ rfl rfl rfl rfl (lexg_g (I := inf) (J := jnf) none ⟨_, rfl, ob0⟩ rfl rfl rfl rfl (lexg_pan rfl rfl rfl rfl rfl rfl rfl rfl h5 (lexg_late rfl (by kernel_rfl) (lexg_late rfl (by kernel_rfl) lexg_nil)))))))))))))))) rfl (fun h => by cases h) (fun _ b tt => ?_)
            refine rX rfl ?_
            exact runS_pan 0 rfl (Nat.le_refl _) rfl .nil ⟨rfl, rfl⟩
          | ok im =>
            rw [e5] at h5
            try dsimp only
            refine runS_drawG (ch := []) (A2 := fun _ => []) 16 [15] (fun z => [.box 95 (nuE t), .box 41 (prE x), .box 41 (prE y), .box 41 (cond (z.getD 0 false) (prE ⟨re, im⟩) (prE pr0)), .row 23 4 1 1 (fun _ => vlE p), .row 23 4 1 1 (fun _ => vlE q), .box 23 (vlE d), .box 23 (vlE re)]) none (c := 9) jnfI.draw (by kernel_rfl) rfl (lexg_g (I := inf) (J := jnf) none ⟨⟨_, rfl, ob0⟩, oi⟩ rfl rfl rfl rfl (lexg_g (I := inf) (J := jnf) none ⟨⟨_, rfl, ob0⟩, oi⟩ rfl rfl rfl rfl (lexg_g (I := inf) (J := jnf) none ⟨⟨_, rfl, ob0⟩, oi⟩ rfl rfl rfl rfl (lexg_g (I := inf) (J := jnf) none ⟨⟨_, rfl, ob0⟩, oi⟩ rfl rfl rfl rfl (lexg_g (I := inf) (J := jnf) none ⟨⟨_, rfl, ob0⟩, oi⟩ rfl rfl rfl rfl (lexg_g (I := inf) (J := jnf) none ⟨⟨_, rfl, ob0⟩, oi⟩ rfl rfl rfl rfl (lexg_g (I := inf) (J := jnf) none ⟨⟨_, rfl, ob0⟩, oi⟩ rfl rfl rfl rfl (lexg_g (I := inf) (J := jnf) none ⟨⟨_, rfl, ob0⟩, oi⟩ rfl rfl rfl rfl (lexg_g (I := inf) (J := jnf) none ⟨⟨_, rfl, ob0⟩, oi⟩ rfl rfl rfl rfl (lexg_g (I := inf) (J := jnf) none ⟨⟨_, rfl, ob0⟩, oi⟩ rfl rfl rfl rfl (lexg_g (I := inf) (J := jnf) none ⟨⟨_, rfl, ob0⟩, oi⟩ rfl rfl rfl rfl (lexg_g (I := inf) (J := jnf) none ⟨⟨_, rfl, ob0⟩, oi⟩ rfl rfl rfl rfl (lexg_g (I := inf) (J := jnf) none ⟨⟨_, rfl, ob0⟩, oi⟩ rfl rfl rfl rfl (lexg_call rfl rfl rfl rfl rfl rfl rfl rfl rfl h5 (lexg_g (I := inf) (J := jnf) none ⟨⟨_, rfl, ob0⟩, oi⟩ rfl rfl rfl rfl (lexg_g (I := inf) (J := jnf) (some .store) ⟨⟨_, rfl, ob0⟩, .inl rfl⟩ rfl rfl rfl rfl lexg_nil)))))))))))))))) rfl (fun _ => ?_) (fun h => by cases h)
            refine rX rfl ?_
            refine runS_ret (I := inf) 0 rfl (Nat.le_refl _) rfl .nil rfl ⟨?_, rfl⟩
            rfl
end Go.Iron.Tryz

/- The pairs' seat: steps that may stop, and what is told then. -/
namespace Go.Iron.Tryz
open Go.Proofs Go.RowKit Go.Iron.Tok Go.Iron.Dg

def zeroP (t : Typ) : Pr := ⟨(zeroV t).1, (zeroV t).1⟩
def safeV (t : Typ) : Except Int Pr → Pr × Int
  | .ok z => (z, 0)
  | .error c => (zeroP t, c)
theorem p_zero (t : Typ) : CallT Tryz.prog 98 [.agg (typE t)] [] (fun o A => o = .ret (.agg (prE (zeroP t))) ∧ A = []) := by
  have hz := d_Zero t
  unfold zeroP
  generalize zeroV t = z at *
  obtain ⟨⟨k, n, q, s⟩, e⟩ := z
  dsimp only at hz ⊢
  refine callS_body (n := 13) rfl rfl fun w ρ X => ?_
  refine rX rfl ?_
  refine runS_call rfl rfl rfl rfl rfl rfl rfl hz ?_
  refine rX rfl ?_
  refine runS_ret (I := inf) 0 rfl (Nat.le_refl _) rfl .nil rfl ⟨?_, rfl⟩
  rfl
theorem p_safe (t : Typ) (R : Except Int Pr) {g : FuncId} {caps : List AV} {gn : Func} {gc : Code} [Fun Tryz.prog g gn gc] (hc : AV.unders 0 caps = true) (hdo : CallT Tryz.prog g caps [] (fun o A => o = outP R ∧ A = [])) :
    CallT Tryz.prog 71 [.agg (typE t), .fn (.func g) caps] [] (fun o A => o = .ret (.tup [.agg (prE (safeV t R).1), iv (safeV t R).2]) ∧ A = []) := by
  have hz := p_zero t
  cases R with
  | error c =>
    refine callS_body (n := 9) rfl rfl fun w ρ X => ?_
    refine rX rfl ?_
    refine runS_callP rfl rfl rfl rfl rfl hc rfl hdo ?_
    refine runS_x (I := inf) (J := jnf) ⟨true, false, [141], 0, 0⟩ 9999 rfl ob1 ?_
    refine runS_drawG (ch := []) (A2 := fun _ => []) 6 [4, 5] (fun z => [.box 25 (typE t), .box 41 (cond (z.getD 0 false) (prE (zeroP t)) (prE pr0)), .box 3 [cond (z.getD 1 false) (iv c) (iv 0)], .box 121 [iv c]]) none (c := 9) jnfI.draw (by kernel_rfl) rfl (lexg_g (I := inf) (J := jnf) none ⟨⟨⟨_, rfl, ob0⟩, oi⟩, oj⟩ rfl rfl rfl rfl (lexg_call rfl rfl rfl rfl rfl rfl rfl rfl rfl hz (lexg_g (I := inf) (J := jnf) none ⟨⟨⟨_, rfl, ob0⟩, oi⟩, oj⟩ rfl rfl rfl rfl (lexg_g (I := inf) (J := jnf) none ⟨⟨⟨_, rfl, ob0⟩, oi⟩, oj⟩ rfl rfl rfl rfl (lexg_g (I := inf) (J := jnf) (some .store) ⟨⟨⟨_, rfl, ob0⟩, oi⟩, .inl rfl⟩ rfl rfl rfl rfl (lexg_g (I := inf) (J := jnf) (some .store) ⟨⟨⟨_, rfl, ob0⟩, .inl rfl⟩, (by first | exact .inl (by decide +kernel) | exact .inr ⟨⟨_, rfl, ob0⟩, .inl rfl⟩)⟩ rfl rfl rfl rfl lexg_nil)))))) rfl (fun _ => ?_) (fun h => by cases h)
    refine runS_x (I := inf) (J := jnf) ⟨true, false, [141], 0, 0⟩ 9999 rfl ob1 ?_
    refine runS_ret (I := inf) 0 rfl (Nat.le_refl _) rfl .nil rfl ⟨?_, rfl⟩
    rfl
  | ok z =>
    refine callS_body (n := 9) rfl rfl fun w ρ X => ?_
    refine rX rfl ?_
    refine runS_call rfl rfl rfl rfl rfl hc rfl hdo ?_
    refine runS_x (I := inf) (J := jnf) ⟨true, false, [141], 0, 0⟩ 9999 rfl ob1 ?_
    refine runS_ret (I := inf) 0 rfl (Nat.le_refl _) rfl .nil rfl ⟨?_, rfl⟩
    rfl
theorem p_mk {g : FuncId} {gn : Func} {gc : Code} [Fun Tryz.prog g gn gc] : CallT Tryz.prog 130 [.fn (.func g) []] [] (fun o A => o = .ret (.fn (.func 131) [.loc [.fn (.func g) []] 0]) ∧ A = []) := by
  refine callS_body (n := 4) rfl rfl fun w ρ X => ?_
  refine rX rfl ?_
  refine runS_freezeBox 0 rfl rfl rfl ?_
  refine rX rfl ?_
  refine runS_ret (I := inf) 0 rfl (Nat.le_refl _) rfl .nil rfl ⟨?_, rfl⟩
  rfl
theorem p_do1 (t : Typ) (x y : Pr) (R : Except Int Pr) {g : FuncId} {caps : List AV} {gn : Func} {gc : Code} [Fun Tryz.prog g gn gc] (hc : AV.unders 0 caps = true) (h : CallT Tryz.prog g (.agg (nuE t) :: .agg (prE x) :: .agg (prE y) :: caps) [] (fun o A => o = outP R ∧ A = [])) :
    CallT Tryz.prog 72 [.loc [.fn (.func g) caps] 0, .loc (nuE t) 0, .loc (prE x) 0, .loc (prE y) 0] [] (fun o A => o = outP R ∧ A = []) := by
  have u : AV.unders 0 (.agg (nuE t) :: .agg (prE x) :: .agg (prE y) :: caps) = true := by
    show AV.unders 0 caps = true
    exact hc
  cases R with
  | error c =>
    refine callS_body (n := 10) rfl rfl fun w ρ X => ?_
    refine rX rfl ?_
    refine runS_callP rfl rfl rfl rfl rfl u rfl h ?_
    refine rX rfl ?_
    exact runS_pan 0 rfl (Nat.le_refl _) rfl .nil ⟨rfl, rfl⟩
  | ok z =>
    refine callS_body (n := 10) rfl rfl fun w ρ X => ?_
    refine rX rfl ?_
    refine runS_call rfl rfl rfl rfl rfl u rfl h ?_
    refine rX rfl ?_
    refine runS_ret (I := inf) 0 rfl (Nat.le_refl _) rfl .nil rfl ⟨?_, rfl⟩
    rfl
end Go.Iron.Tryz

/- The pairs' seat: the program's Do. -/
namespace Go.Iron.Tryz
open Go.Proofs Go.RowKit Go.Iron.Tok Go.Iron.Dg

theorem p_Float (t : Typ) (hv : vN t) : CallT Tryz.prog 69 [.agg (typE t)] [] (fun o A => o = .ret (.tup [.agg (typE (fltT t)), iv 0]) ∧ A = []) := by
  have hf := p_float t (nt_of hv.1 hv.2)
  generalize fltT t = u at *
  refine callS_body (n := 8) rfl rfl fun w ρ X => ?_
  refine runS_x (I := inf) (J := jnf) ⟨false, false, [133, 135, 189, 190], 0, 0⟩ 9999 rfl ob1 ?_
  refine runS_tell 8 (tyR [t]) rfl (m' := 1) rfl (fun j hj => ?_) rfl ?_
  · rcases j with _ | j <;> first | rfl | omega
  refine runS_freeze 4 rfl rfl rfl (fun j hj => ?_) ?_
  · rcases j with _ | j <;> first | rfl | omega
  refine runS_call rfl rfl rfl rfl rfl rfl rfl (p_valid none [t] (by simp) (by intro a ha; simp at ha; rw [ha]; exact hv)) ?_
  refine runS_x (I := inf) (J := jnf) ⟨false, false, [133, 135, 189, 190], 0, 0⟩ 9999 rfl ob1 ?_
  refine runS_call rfl rfl rfl rfl rfl rfl rfl hf ?_
  refine runS_x (I := inf) (J := jnf) ⟨true, false, [133, 135, 189, 190], 0, 0⟩ 9999 rfl ob1 ?_
  refine runS_ret (I := inf) 0 rfl (Nat.le_refl _) rfl .nil rfl ⟨?_, rfl⟩
  rfl
def inT (op : UInt8) (t : Typ) : Typ := if op = 47 then fltT t else t
def opP (op : UInt8) (t : Typ) (x y : Pr) : Except Int Pr := if op = 43 ∨ op = 45 then pmV op t x y else if op = 42 then timesV t x y else overV t x y
abbrev doA (z : Pr) (t : Typ) (c e : Int) : AV := .tup [.agg (prE z), .agg (typE t), iv c, iv e]
theorem vn_flt {t : Typ} (h : vN t) : vN (fltT t) := by
  obtain ⟨hv, hk⟩ := h
  have hn := num_p hv hk
  unfold fltT
  split
  · rename_i h2
    refine ⟨?_, .inr (.inr rfl)⟩
    have := hn.2.2.2.2 (by omega)
    unfold validT inR
    simp
    omega
  · split
    · refine ⟨?_, .inr (.inr rfl)⟩
      unfold validT inR
      simp
      omega
    · exact ⟨hv, hk⟩
theorem p_do43 (x y : Pr) (ta tb : Typ) (ha : askP [x, y] [ta, tb] = 0) (hva : vN ta) (hvb : vN tb) : CallT Tryz.prog 23 [sv [43], .agg (prE x), .agg (prE y), .agg (typE ta), .agg (typE tb)] [] (fun o A => o = .ret (doA (safeV (resT 43 (inT 43 ta) (inT 43 tb)) (opP 43 (resT 43 (inT 43 ta) (inT 43 tb)) x y)).1 (resT 43 (inT 43 ta) (inT 43 tb)) (safeV (resT 43 (inT 43 ta) (inT 43 tb)) (opP 43 (resT 43 (inT 43 ta) (inT 43 tb)) x y)).2 0) ∧ A = []) := by
  have hak := p_asked none none [x, y] [ta, tb] (by simp) rfl
  rw [ha] at hak
  have hia : inT 43 ta = ta := rfl
  have hib : inT 43 tb = tb := rfl
  have hop : ∀ t, opP 43 t x y = pmV 43 t x y := fun t => rfl
  rw [hia, hib, hop]
  have hra := p_result43 ta tb hva hvb
  generalize resT 43 ta tb = t at *
  have hR := p_safe t (pmV 43 t x y) (g := 72) (caps := [.loc [.fn (.func 131) [.loc [.fn (.func 34) []] 0]] 0, .loc (nuE t) 0, .loc (prE x) 0, .loc (prE y) 0]) rfl (p_do1 t x y (pmV 43 t x y) rfl (p_pm 43 t x y (p_by43 t)))
  generalize pmV 43 t x y = R at *
  generalize safeV t R = S at *
  obtain ⟨z, c⟩ := S
  dsimp only at hR ⊢
  refine callS_body (n := 74) rfl rfl fun w ρ X => ?_
  refine rX rfl ?_
  refine runS_tell 6 (prR [x, y]) rfl (m' := 2) rfl (fun j hj => ?_) rfl ?_
  · rcases j with _ | _ | j <;> first | rfl | omega
  refine runS_tell 7 (tyR [ta, tb]) rfl (m' := 2) rfl (fun j hj => ?_) rfl ?_
  · rcases j with _ | _ | j <;> first | rfl | omega
  refine runS_freeze 24 rfl rfl rfl (fun j hj => ?_) ?_
  · rcases j with _ | _ | j <;> first | rfl | omega
  refine runS_freeze 27 rfl rfl rfl (fun j hj => ?_) ?_
  · rcases j with _ | _ | j <;> first | rfl | omega
  refine runS_call rfl rfl rfl rfl rfl rfl rfl hak ?_
  refine rX rfl ?_
  refine runS_cond rfl (fun h => by cases h) (fun h => ?_)
  refine runS_x (I := inf) (J := jnf) ⟨false, false, [68], 0, 0⟩ 9999 rfl ob1 ?_
  refine runS_call rfl rfl rfl rfl rfl rfl rfl (p_mk (g := 34)) ?_
  refine runS_x (I := inf) (J := jnf) ⟨false, false, [68], 0, 0⟩ 9999 rfl ob1 ?_
  refine runS_call rfl rfl rfl rfl rfl rfl rfl (p_mk (g := 35)) ?_
  refine runS_x (I := inf) (J := jnf) ⟨false, false, [68], 0, 0⟩ 9999 rfl ob1 ?_
  refine runS_cond rfl (fun h => by cases h) (fun h => ?_)
  refine rX rfl ?_
  refine runS_cond rfl (fun h => by rw [show (ByteArray.mk #[47]) = bs [47] from rfl, bs_beq] at h; cases h) (fun h => ?_)
  refine rX rfl ?_
  refine runS_call rfl rfl rfl rfl rfl rfl rfl hra ?_
  refine rX rfl ?_
  refine runS_freezeBox 9 rfl rfl rfl ?_
  refine runS_freezeBox 11 rfl rfl rfl ?_
  refine runS_freezeBox 0 rfl rfl rfl ?_
  refine runS_freezeBox 1 rfl rfl rfl ?_
  refine runS_name 8 rfl (fun L => rfl) (fun L hL => ?_)
  refine runS_call rfl rfl rfl rfl rfl rfl rfl hR ?_
  refine rX rfl ?_
  refine runS_drawG (ch := []) (A2 := fun _ => []) 7 [3, 4] (fun w => [.gone, .gone, .box 25 (typE ta), .box 25 (typE tb), .box 41 (cond (w.getD 0 false) (prE z) (prE pr0)), .box 25 (cond (w.getD 1 false) (typE t) (typE ty0)), .gone, .gone, L, .gone, .box 25 (typE t), .gone, .box 41 (prE z)]) none (c := 9) jnfI.draw (by kernel_rfl) rfl (lexg_g (I := inf) (J := jnf) none ⟨⟨⟨_, rfl, ob0⟩, oi⟩, oj⟩ rfl rfl rfl rfl (lexg_g (I := inf) (J := jnf) none ⟨⟨⟨_, rfl, ob0⟩, oi⟩, oj⟩ rfl rfl rfl rfl (lexg_g (I := inf) (J := jnf) none ⟨⟨⟨_, rfl, ob0⟩, oi⟩, oj⟩ rfl rfl rfl rfl (lexg_g (I := inf) (J := jnf) (some .store) ⟨⟨⟨_, rfl, ob0⟩, oi⟩, .inl rfl⟩ rfl rfl rfl rfl (lexg_g (I := inf) (J := jnf) (some .store) ⟨⟨⟨_, rfl, ob0⟩, .inl rfl⟩, (by first | exact .inl (by decide +kernel) | exact .inr ⟨⟨_, rfl, ob0⟩, .inl rfl⟩)⟩ rfl rfl rfl rfl (lexg_g (I := inf) (J := jnf) none ⟨⟨⟨_, rfl, ob0⟩, oi⟩, oj⟩ rfl rfl rfl rfl (lexg_g (I := inf) (J := jnf) none ⟨⟨⟨_, rfl, ob0⟩, oi⟩, oj⟩ rfl rfl rfl rfl lexg_nil))))))) rfl (fun _ => ?_) (fun h => by cases h)
  refine rX rfl ?_
  refine runS_ret (I := inf) 0 rfl (Nat.le_refl _) rfl .nil rfl ⟨?_, rfl⟩
  rfl
theorem p_do45 (x y : Pr) (ta tb : Typ) (ha : askP [x, y] [ta, tb] = 0) (hva : vN ta) (hvb : vN tb) : CallT Tryz.prog 23 [sv [45], .agg (prE x), .agg (prE y), .agg (typE ta), .agg (typE tb)] [] (fun o A => o = .ret (doA (safeV (resT 45 (inT 45 ta) (inT 45 tb)) (opP 45 (resT 45 (inT 45 ta) (inT 45 tb)) x y)).1 (resT 45 (inT 45 ta) (inT 45 tb)) (safeV (resT 45 (inT 45 ta) (inT 45 tb)) (opP 45 (resT 45 (inT 45 ta) (inT 45 tb)) x y)).2 0) ∧ A = []) := by
  have hak := p_asked none none [x, y] [ta, tb] (by simp) rfl
  rw [ha] at hak
  have hia : inT 45 ta = ta := rfl
  have hib : inT 45 tb = tb := rfl
  have hop : ∀ t, opP 45 t x y = pmV 45 t x y := fun t => rfl
  rw [hia, hib, hop]
  have hra := p_result45 ta tb hva hvb
  generalize resT 45 ta tb = t at *
  have hR := p_safe t (pmV 45 t x y) (g := 72) (caps := [.loc [.fn (.func 131) [.loc [.fn (.func 35) []] 0]] 0, .loc (nuE t) 0, .loc (prE x) 0, .loc (prE y) 0]) rfl (p_do1 t x y (pmV 45 t x y) rfl (p_pm 45 t x y (p_by45 t)))
  generalize pmV 45 t x y = R at *
  generalize safeV t R = S at *
  obtain ⟨z, c⟩ := S
  dsimp only at hR ⊢
  refine callS_body (n := 74) rfl rfl fun w ρ X => ?_
  refine rX rfl ?_
  refine runS_tell 6 (prR [x, y]) rfl (m' := 2) rfl (fun j hj => ?_) rfl ?_
  · rcases j with _ | _ | j <;> first | rfl | omega
  refine runS_tell 7 (tyR [ta, tb]) rfl (m' := 2) rfl (fun j hj => ?_) rfl ?_
  · rcases j with _ | _ | j <;> first | rfl | omega
  refine runS_freeze 24 rfl rfl rfl (fun j hj => ?_) ?_
  · rcases j with _ | _ | j <;> first | rfl | omega
  refine runS_freeze 27 rfl rfl rfl (fun j hj => ?_) ?_
  · rcases j with _ | _ | j <;> first | rfl | omega
  refine runS_call rfl rfl rfl rfl rfl rfl rfl hak ?_
  refine rX rfl ?_
  refine runS_cond rfl (fun h => by cases h) (fun h => ?_)
  refine runS_x (I := inf) (J := jnf) ⟨false, false, [68], 0, 0⟩ 9999 rfl ob1 ?_
  refine runS_call rfl rfl rfl rfl rfl rfl rfl (p_mk (g := 34)) ?_
  refine runS_x (I := inf) (J := jnf) ⟨false, false, [68], 0, 0⟩ 9999 rfl ob1 ?_
  refine runS_call rfl rfl rfl rfl rfl rfl rfl (p_mk (g := 35)) ?_
  refine runS_x (I := inf) (J := jnf) ⟨false, false, [68], 0, 0⟩ 9999 rfl ob1 ?_
  refine runS_cond rfl (fun h => by cases h) (fun h => ?_)
  refine rX rfl ?_
  refine runS_cond rfl (fun h => by rw [show (ByteArray.mk #[47]) = bs [47] from rfl, bs_beq] at h; cases h) (fun h => ?_)
  refine rX rfl ?_
  refine runS_call rfl rfl rfl rfl rfl rfl rfl hra ?_
  refine rX rfl ?_
  refine runS_freezeBox 9 rfl rfl rfl ?_
  refine runS_freezeBox 11 rfl rfl rfl ?_
  refine runS_freezeBox 0 rfl rfl rfl ?_
  refine runS_freezeBox 1 rfl rfl rfl ?_
  refine runS_name 8 rfl (fun L => rfl) (fun L hL => ?_)
  refine runS_call rfl rfl rfl rfl rfl rfl rfl hR ?_
  refine rX rfl ?_
  refine runS_drawG (ch := []) (A2 := fun _ => []) 7 [3, 4] (fun w => [.gone, .gone, .box 25 (typE ta), .box 25 (typE tb), .box 41 (cond (w.getD 0 false) (prE z) (prE pr0)), .box 25 (cond (w.getD 1 false) (typE t) (typE ty0)), .gone, .gone, L, .gone, .box 25 (typE t), .gone, .box 41 (prE z)]) none (c := 9) jnfI.draw (by kernel_rfl) rfl (lexg_g (I := inf) (J := jnf) none ⟨⟨⟨_, rfl, ob0⟩, oi⟩, oj⟩ rfl rfl rfl rfl (lexg_g (I := inf) (J := jnf) none ⟨⟨⟨_, rfl, ob0⟩, oi⟩, oj⟩ rfl rfl rfl rfl (lexg_g (I := inf) (J := jnf) none ⟨⟨⟨_, rfl, ob0⟩, oi⟩, oj⟩ rfl rfl rfl rfl (lexg_g (I := inf) (J := jnf) (some .store) ⟨⟨⟨_, rfl, ob0⟩, oi⟩, .inl rfl⟩ rfl rfl rfl rfl (lexg_g (I := inf) (J := jnf) (some .store) ⟨⟨⟨_, rfl, ob0⟩, .inl rfl⟩, (by first | exact .inl (by decide +kernel) | exact .inr ⟨⟨_, rfl, ob0⟩, .inl rfl⟩)⟩ rfl rfl rfl rfl (lexg_g (I := inf) (J := jnf) none ⟨⟨⟨_, rfl, ob0⟩, oi⟩, oj⟩ rfl rfl rfl rfl (lexg_g (I := inf) (J := jnf) none ⟨⟨⟨_, rfl, ob0⟩, oi⟩, oj⟩ rfl rfl rfl rfl lexg_nil))))))) rfl (fun _ => ?_) (fun h => by cases h)
  refine rX rfl ?_
  refine runS_ret (I := inf) 0 rfl (Nat.le_refl _) rfl .nil rfl ⟨?_, rfl⟩
  rfl
theorem p_do42 (x y : Pr) (ta tb : Typ) (ha : askP [x, y] [ta, tb] = 0) (hva : vN ta) (hvb : vN tb) : CallT Tryz.prog 23 [sv [42], .agg (prE x), .agg (prE y), .agg (typE ta), .agg (typE tb)] [] (fun o A => o = .ret (doA (safeV (resT 42 (inT 42 ta) (inT 42 tb)) (opP 42 (resT 42 (inT 42 ta) (inT 42 tb)) x y)).1 (resT 42 (inT 42 ta) (inT 42 tb)) (safeV (resT 42 (inT 42 ta) (inT 42 tb)) (opP 42 (resT 42 (inT 42 ta) (inT 42 tb)) x y)).2 0) ∧ A = []) := by
  have hak := p_asked none none [x, y] [ta, tb] (by simp) rfl
  rw [ha] at hak
  have hia : inT 42 ta = ta := rfl
  have hib : inT 42 tb = tb := rfl
  have hop : ∀ t, opP 42 t x y = timesV t x y := fun t => rfl
  rw [hia, hib, hop]
  have hra := p_result42 ta tb hva hvb
  generalize resT 42 ta tb = t at *
  have hR := p_safe t (timesV t x y) (g := 72) (caps := [.loc [.fn (.func 99) []] 0, .loc (nuE t) 0, .loc (prE x) 0, .loc (prE y) 0]) rfl (p_do1 t x y (timesV t x y) rfl (p_times t x y))
  generalize timesV t x y = R at *
  generalize safeV t R = S at *
  obtain ⟨z, c⟩ := S
  dsimp only at hR ⊢
  refine callS_body (n := 74) rfl rfl fun w ρ X => ?_
  refine rX rfl ?_
  refine runS_tell 6 (prR [x, y]) rfl (m' := 2) rfl (fun j hj => ?_) rfl ?_
  · rcases j with _ | _ | j <;> first | rfl | omega
  refine runS_tell 7 (tyR [ta, tb]) rfl (m' := 2) rfl (fun j hj => ?_) rfl ?_
  · rcases j with _ | _ | j <;> first | rfl | omega
  refine runS_freeze 24 rfl rfl rfl (fun j hj => ?_) ?_
  · rcases j with _ | _ | j <;> first | rfl | omega
  refine runS_freeze 27 rfl rfl rfl (fun j hj => ?_) ?_
  · rcases j with _ | _ | j <;> first | rfl | omega
  refine runS_call rfl rfl rfl rfl rfl rfl rfl hak ?_
  refine rX rfl ?_
  refine runS_cond rfl (fun h => by cases h) (fun h => ?_)
  refine runS_x (I := inf) (J := jnf) ⟨false, false, [68], 0, 0⟩ 9999 rfl ob1 ?_
  refine runS_call rfl rfl rfl rfl rfl rfl rfl (p_mk (g := 34)) ?_
  refine runS_x (I := inf) (J := jnf) ⟨false, false, [68], 0, 0⟩ 9999 rfl ob1 ?_
  refine runS_call rfl rfl rfl rfl rfl rfl rfl (p_mk (g := 35)) ?_
  refine runS_x (I := inf) (J := jnf) ⟨false, false, [68], 0, 0⟩ 9999 rfl ob1 ?_
  refine runS_cond rfl (fun h => by cases h) (fun h => ?_)
  refine rX rfl ?_
  refine runS_cond rfl (fun h => by rw [show (ByteArray.mk #[47]) = bs [47] from rfl, bs_beq] at h; cases h) (fun h => ?_)
  refine rX rfl ?_
  refine runS_call rfl rfl rfl rfl rfl rfl rfl hra ?_
  refine rX rfl ?_
  refine runS_freezeBox 9 rfl rfl rfl ?_
  refine runS_freezeBox 11 rfl rfl rfl ?_
  refine runS_freezeBox 0 rfl rfl rfl ?_
  refine runS_freezeBox 1 rfl rfl rfl ?_
  refine runS_name 8 rfl (fun L => rfl) (fun L hL => ?_)
  refine runS_call rfl rfl rfl rfl rfl rfl rfl hR ?_
  refine rX rfl ?_
  refine runS_drawG (ch := []) (A2 := fun _ => []) 7 [3, 4] (fun w => [.gone, .gone, .box 25 (typE ta), .box 25 (typE tb), .box 41 (cond (w.getD 0 false) (prE z) (prE pr0)), .box 25 (cond (w.getD 1 false) (typE t) (typE ty0)), .gone, .gone, L, .gone, .box 25 (typE t), .gone, .box 41 (prE z)]) none (c := 9) jnfI.draw (by kernel_rfl) rfl (lexg_g (I := inf) (J := jnf) none ⟨⟨⟨_, rfl, ob0⟩, oi⟩, oj⟩ rfl rfl rfl rfl (lexg_g (I := inf) (J := jnf) none ⟨⟨⟨_, rfl, ob0⟩, oi⟩, oj⟩ rfl rfl rfl rfl (lexg_g (I := inf) (J := jnf) none ⟨⟨⟨_, rfl, ob0⟩, oi⟩, oj⟩ rfl rfl rfl rfl (lexg_g (I := inf) (J := jnf) (some .store) ⟨⟨⟨_, rfl, ob0⟩, oi⟩, .inl rfl⟩ rfl rfl rfl rfl (lexg_g (I := inf) (J := jnf) (some .store) ⟨⟨⟨_, rfl, ob0⟩, .inl rfl⟩, (by first | exact .inl (by decide +kernel) | exact .inr ⟨⟨_, rfl, ob0⟩, .inl rfl⟩)⟩ rfl rfl rfl rfl (lexg_g (I := inf) (J := jnf) none ⟨⟨⟨_, rfl, ob0⟩, oi⟩, oj⟩ rfl rfl rfl rfl (lexg_g (I := inf) (J := jnf) none ⟨⟨⟨_, rfl, ob0⟩, oi⟩, oj⟩ rfl rfl rfl rfl lexg_nil))))))) rfl (fun _ => ?_) (fun h => by cases h)
  refine rX rfl ?_
  refine runS_ret (I := inf) 0 rfl (Nat.le_refl _) rfl .nil rfl ⟨?_, rfl⟩
  rfl
theorem p_do47 (x y : Pr) (ta tb : Typ) (ha : askP [x, y] [ta, tb] = 0) (hva : vN ta) (hvb : vN tb) : CallT Tryz.prog 23 [sv [47], .agg (prE x), .agg (prE y), .agg (typE ta), .agg (typE tb)] [] (fun o A => o = .ret (doA (safeV (resT 47 (inT 47 ta) (inT 47 tb)) (opP 47 (resT 47 (inT 47 ta) (inT 47 tb)) x y)).1 (resT 47 (inT 47 ta) (inT 47 tb)) (safeV (resT 47 (inT 47 ta) (inT 47 tb)) (opP 47 (resT 47 (inT 47 ta) (inT 47 tb)) x y)).2 0) ∧ A = []) := by
  have hak := p_asked none none [x, y] [ta, tb] (by simp) rfl
  rw [ha] at hak
  have hia : inT 47 ta = (fltT ta) := rfl
  have hib : inT 47 tb = (fltT tb) := rfl
  have hop : ∀ t, opP 47 t x y = overV t x y := fun t => rfl
  rw [hia, hib, hop]
  have hfa := p_Float ta hva
  have hfb := p_Float tb hvb
  have hra := p_result47 (fltT ta) (fltT tb) (vn_flt hva) (vn_flt hvb)
  generalize resT 47 (fltT ta) (fltT tb) = t at *
  generalize fltT ta = ua at *
  generalize fltT tb = ub at *
  have hR := p_safe t (overV t x y) (g := 72) (caps := [.loc [.fn (.func 132) []] 0, .loc (nuE t) 0, .loc (prE x) 0, .loc (prE y) 0]) rfl (p_do1 t x y (overV t x y) rfl (p_over t x y))
  generalize overV t x y = R at *
  generalize safeV t R = S at *
  obtain ⟨z, c⟩ := S
  dsimp only at hR ⊢
  refine callS_body (n := 74) rfl rfl fun w ρ X => ?_
  refine rX rfl ?_
  refine runS_tell 6 (prR [x, y]) rfl (m' := 2) rfl (fun j hj => ?_) rfl ?_
  · rcases j with _ | _ | j <;> first | rfl | omega
  refine runS_tell 7 (tyR [ta, tb]) rfl (m' := 2) rfl (fun j hj => ?_) rfl ?_
  · rcases j with _ | _ | j <;> first | rfl | omega
  refine runS_freeze 24 rfl rfl rfl (fun j hj => ?_) ?_
  · rcases j with _ | _ | j <;> first | rfl | omega
  refine runS_freeze 27 rfl rfl rfl (fun j hj => ?_) ?_
  · rcases j with _ | _ | j <;> first | rfl | omega
  refine runS_call rfl rfl rfl rfl rfl rfl rfl hak ?_
  refine rX rfl ?_
  refine runS_cond rfl (fun h => by cases h) (fun h => ?_)
  refine runS_x (I := inf) (J := jnf) ⟨false, false, [68], 0, 0⟩ 9999 rfl ob1 ?_
  refine runS_call rfl rfl rfl rfl rfl rfl rfl (p_mk (g := 34)) ?_
  refine runS_x (I := inf) (J := jnf) ⟨false, false, [68], 0, 0⟩ 9999 rfl ob1 ?_
  refine runS_call rfl rfl rfl rfl rfl rfl rfl (p_mk (g := 35)) ?_
  refine runS_x (I := inf) (J := jnf) ⟨false, false, [68], 0, 0⟩ 9999 rfl ob1 ?_
  refine runS_cond rfl (fun h => by cases h) (fun h => ?_)
  refine rX rfl ?_
  refine runS_cond rfl (fun h => ?_) (fun h => by rw [show (ByteArray.mk #[47]) = bs [47] from rfl, bs_beq] at h; cases h)
  refine rX rfl ?_
  refine runS_call rfl rfl rfl rfl rfl rfl rfl hfa ?_
  refine rX rfl ?_
  refine runS_call rfl rfl rfl rfl rfl rfl rfl hfb ?_
  refine rX rfl ?_
  refine runS_call rfl rfl rfl rfl rfl rfl rfl hra ?_
  refine rX rfl ?_
  refine runS_freezeBox 9 rfl rfl rfl ?_
  refine runS_freezeBox 11 rfl rfl rfl ?_
  refine runS_freezeBox 0 rfl rfl rfl ?_
  refine runS_freezeBox 1 rfl rfl rfl ?_
  refine runS_name 8 rfl (fun L => rfl) (fun L hL => ?_)
  refine runS_call rfl rfl rfl rfl rfl rfl rfl hR ?_
  refine rX rfl ?_
  refine runS_drawG (ch := []) (A2 := fun _ => []) 7 [3, 4] (fun w => [.gone, .gone, .box 25 (typE ua), .box 25 (typE ub), .box 41 (cond (w.getD 0 false) (prE z) (prE pr0)), .box 25 (cond (w.getD 1 false) (typE t) (typE ty0)), .gone, .gone, L, .gone, .box 25 (typE t), .gone, .box 41 (prE z)]) none (c := 9) jnfI.draw (by kernel_rfl) rfl (lexg_g (I := inf) (J := jnf) none ⟨⟨⟨_, rfl, ob0⟩, oi⟩, oj⟩ rfl rfl rfl rfl (lexg_g (I := inf) (J := jnf) none ⟨⟨⟨_, rfl, ob0⟩, oi⟩, oj⟩ rfl rfl rfl rfl (lexg_g (I := inf) (J := jnf) none ⟨⟨⟨_, rfl, ob0⟩, oi⟩, oj⟩ rfl rfl rfl rfl (lexg_g (I := inf) (J := jnf) (some .store) ⟨⟨⟨_, rfl, ob0⟩, oi⟩, .inl rfl⟩ rfl rfl rfl rfl (lexg_g (I := inf) (J := jnf) (some .store) ⟨⟨⟨_, rfl, ob0⟩, .inl rfl⟩, (by first | exact .inl (by decide +kernel) | exact .inr ⟨⟨_, rfl, ob0⟩, .inl rfl⟩)⟩ rfl rfl rfl rfl (lexg_g (I := inf) (J := jnf) none ⟨⟨⟨_, rfl, ob0⟩, oi⟩, oj⟩ rfl rfl rfl rfl (lexg_g (I := inf) (J := jnf) none ⟨⟨⟨_, rfl, ob0⟩, oi⟩, oj⟩ rfl rfl rfl rfl lexg_nil))))))) rfl (fun _ => ?_) (fun h => by cases h)
  refine rX rfl ?_
  refine runS_ret (I := inf) 0 rfl (Nat.le_refl _) rfl .nil rfl ⟨?_, rfl⟩
  rfl
end Go.Iron.Tryz
