/- The pairs' seat: the reference's Norm and Power. -/
import Derived.Test.YtcgepjbalmppjaaGreatDoorTG
namespace Go.Iron.Tryz
open Go.Proofs Go.RowKit Go.Iron.Tok Go.Iron.Dg

def normR (t : Typ) (x : Pr) : Vl × Int := stepV 43 t (stepV 42 t (stepV 42 t 0 x.re x.re).2 x.im x.im).2 (stepV 42 t 0 x.re x.re).1 (stepV 42 t (stepV 42 t 0 x.re x.re).2 x.im x.im).1
def endN (t : Typ) (v : Vl) (c : Int) : Vl × Int := if c ≠ 0 then ((zeroP t).re, c) else (v, 0)
theorem r_normE (x : Pr) (ta : Typ) (ha : askP [x] [ta] ≠ 0) : CallT Tryz.prog 41 [.agg (prE x), .agg (typE ta)] [] (fun o A => o = .ret (.tup [.agg vlZ, .agg (typE ty0), iv 0, iv (askP [x] [ta])]) ∧ A = []) := by
  have hak := r_askedP none none [x] [ta] (by simp) rfl
  refine callS_body (n := 65) rfl rfl fun w ρ X => ?_
  refine rX rfl ?_
  refine runS_tell 4 (prR [x]) rfl (m' := 1) rfl (fun j hj => ?_) rfl ?_
  · rcases j with _ | j <;> first | rfl | omega
  refine runS_tell 5 (tyR [ta]) rfl (m' := 1) rfl (fun j hj => ?_) rfl ?_
  · rcases j with _ | j <;> first | rfl | omega
  refine runS_freeze 16 rfl rfl rfl (fun j hj => ?_) ?_
  · rcases j with _ | j <;> first | rfl | omega
  refine runS_freeze 18 rfl rfl rfl (fun j hj => ?_) ?_
  · rcases j with _ | j <;> first | rfl | omega
  refine runS_call rfl rfl rfl rfl rfl rfl rfl hak ?_
  refine rX rfl ?_
  refine runS_cond rfl (fun h => ?_) (fun h => ?_)
  · refine rX rfl ?_
    refine runS_ret (I := inf) 0 rfl (Nat.le_refl _) rfl .nil rfl ⟨?_, rfl⟩
    rfl
  · exfalso
    have h3 : (!(askP [x] [ta] == 0)) = false := h
    simp at h3
    exact ha h3
theorem r_norm (x : Pr) (ta : Typ) (ha : askP [x] [ta] = 0) (hva : vN ta) : CallT Tryz.prog 41 [.agg (prE x), .agg (typE ta)] [] (fun o A => o = .ret (.tup [.agg (vlE (endN (resT 42 ta ta) (normR (resT 42 ta ta) x).1 (normR (resT 42 ta ta) x).2).1), .agg (typE (resT 42 ta ta)), iv (endN (resT 42 ta ta) (normR (resT 42 ta ta) x).1 (normR (resT 42 ta ta) x).2).2, iv 0]) ∧ A = []) := by
  have hak := r_askedP none none [x] [ta] (by simp) rfl
  rw [ha] at hak
  have hra := r_Result42 ta ta hva hva
  generalize resT 42 ta ta = t at *
  have hk0 : ∀ l, Kept 8 l → Kept 8 (.box 41 (prE x) :: .box 25 (typE ta) :: .box 23 vlZ :: .box 25 (typE ty0) :: .gone :: .gone :: .box 25 (typE t) :: l) := fun l hk => .box rfl (.box rfl (.box rfl (.box rfl (.gone (.gone (.box rfl hk))))))
  have hkk : ∀ c, Kept 8 [.box 41 (prE x), .box 25 (typE ta), .box 23 vlZ, .box 25 (typE ty0), .gone, .gone, .box 25 (typE t), .box 101 (stE t c)] := fun c => hk0 _ (.box rfl .nil)
  have hs := r_step7 _ _ _ _ _ _ _ hk0
  unfold normR
  have c1 := hs 42 (by decide) t 0 x.re x.re
  generalize stepV 42 t 0 x.re x.re = s1 at *
  obtain ⟨a, k1⟩ := s1
  dsimp only at c1 ⊢
  have c2 := hs 42 (by decide) t k1 x.im x.im
  generalize stepV 42 t k1 x.im x.im = s2 at *
  obtain ⟨b, k2⟩ := s2
  dsimp only at c2 ⊢
  have c3 := hs 43 (by decide) t k2 a b
  generalize stepV 43 t k2 a b = s3 at *
  obtain ⟨v, k3⟩ := s3
  dsimp only at c3 ⊢
  refine callS_body (n := 65) rfl rfl fun w ρ X => ?_
  refine rX rfl ?_
  refine runS_tell 4 (prR [x]) rfl (m' := 1) rfl (fun j hj => ?_) rfl ?_
  · rcases j with _ | j <;> first | rfl | omega
  refine runS_tell 5 (tyR [ta]) rfl (m' := 1) rfl (fun j hj => ?_) rfl ?_
  · rcases j with _ | j <;> first | rfl | omega
  refine runS_freeze 16 rfl rfl rfl (fun j hj => ?_) ?_
  · rcases j with _ | j <;> first | rfl | omega
  refine runS_freeze 18 rfl rfl rfl (fun j hj => ?_) ?_
  · rcases j with _ | j <;> first | rfl | omega
  refine runS_call rfl rfl rfl rfl rfl rfl rfl hak ?_
  refine rX rfl ?_
  refine runS_cond rfl (fun h => by cases h) (fun h => ?_)
  refine rX rfl ?_
  refine runS_call rfl rfl rfl rfl rfl rfl rfl hra ?_
  refine rX rfl ?_
  refine runS_callF [.box 41 (prE x), .box 25 (typE ta), .box 23 vlZ, .box 25 (typE ty0), .gone, .gone, .box 25 (typE t), .box 101 (stE t 0)] [.box 41 (prE x), .box 25 (typE ta), .box 23 vlZ, .box 25 (typE ty0), .gone, .gone, .box 25 (typE t), .box 101 (stE t k1)] _ rfl rfl rfl rfl rfl (show _ = [.ptr 7 0 0, sv [42], .agg (vlE x.re), .agg (vlE x.re)] from rfl) rfl (hkk 0) rfl rfl c1 ?_
  refine rX rfl ?_
  refine runS_callF [.box 41 (prE x), .box 25 (typE ta), .box 23 vlZ, .box 25 (typE ty0), .gone, .gone, .box 25 (typE t), .box 101 (stE t k1)] [.box 41 (prE x), .box 25 (typE ta), .box 23 vlZ, .box 25 (typE ty0), .gone, .gone, .box 25 (typE t), .box 101 (stE t k2)] _ rfl rfl rfl rfl rfl (show _ = [.ptr 7 0 0, sv [42], .agg (vlE x.im), .agg (vlE x.im)] from rfl) rfl (hkk k1) rfl rfl c2 ?_
  refine rX rfl ?_
  refine runS_callF [.box 41 (prE x), .box 25 (typE ta), .box 23 vlZ, .box 25 (typE ty0), .gone, .gone, .box 25 (typE t), .box 101 (stE t k2)] [.box 41 (prE x), .box 25 (typE ta), .box 23 vlZ, .box 25 (typE ty0), .gone, .gone, .box 25 (typE t), .box 101 (stE t k3)] _ rfl rfl rfl rfl rfl (show _ = [.ptr 7 0 0, sv [43], .agg (vlE a), .agg (vlE b)] from rfl) rfl (hkk k2) rfl rfl c3 ?_
  refine rX rfl ?_
  refine runS_cond rfl (fun h => ?_) (fun h => ?_)
  · have hc : k3 ≠ 0 := by
      have h3 : (!(k3 == 0)) = true := h
      simpa using h3
    have he : endN t v k3 = ((zeroP t).re, k3) := by
      unfold endN
      rw [if_pos hc]
    rw [he]
    refine rX rfl ?_
    refine runS_drawG (ch := []) (A2 := fun _ => []) 12 [8, 9] (fun w => [.box 41 (prE x), .box 25 (typE ta), .box 23 (cond (w.getD 0 false) (vlE (zeroP t).re) vlZ), .box 25 (cond (w.getD 1 false) (typE t) (typE ty0)), .gone, .gone, .box 25 (typE t), .box 101 (stE t k3), .box 23 (vlE a), .box 23 (vlE b), .box 23 (vlE v)]) none (c := 9) jnfI.draw (by kernel_rfl) rfl (lexg_g (I := inf) (J := jnf) none ⟨⟨⟨_, rfl, ob0⟩, oi⟩, oj⟩ rfl rfl rfl rfl (lexg_call rfl rfl rfl rfl rfl rfl rfl rfl rfl (r_zeros t) (lexg_g (I := inf) (J := jnf) none ⟨⟨⟨_, rfl, ob0⟩, oi⟩, oj⟩ rfl rfl rfl rfl (lexg_g (I := inf) (J := jnf) none ⟨⟨⟨_, rfl, ob0⟩, oi⟩, oj⟩ rfl rfl rfl rfl (lexg_g (I := inf) (J := jnf) none ⟨⟨⟨_, rfl, ob0⟩, oi⟩, oj⟩ rfl rfl rfl rfl (lexg_g (I := inf) (J := jnf) none ⟨⟨⟨_, rfl, ob0⟩, oi⟩, oj⟩ rfl rfl rfl rfl (lexg_g (I := inf) (J := jnf) none ⟨⟨⟨_, rfl, ob0⟩, oi⟩, oj⟩ rfl rfl rfl rfl (lexg_g (I := inf) (J := jnf) none ⟨⟨⟨_, rfl, ob0⟩, oi⟩, oj⟩ rfl rfl rfl rfl (lexg_g (I := inf) (J := jnf) (some .store) ⟨⟨⟨_, rfl, ob0⟩, oi⟩, .inl rfl⟩ rfl rfl rfl rfl (lexg_g (I := inf) (J := jnf) (some .store) ⟨⟨⟨_, rfl, ob0⟩, .inl rfl⟩, (by first | exact .inl (by decide +kernel) | exact .inr ⟨⟨_, rfl, ob0⟩, .inl rfl⟩)⟩ rfl rfl rfl rfl (lexg_g (I := inf) (J := jnf) none ⟨⟨⟨_, rfl, ob0⟩, oi⟩, oj⟩ rfl rfl rfl rfl (lexg_g (I := inf) (J := jnf) none ⟨⟨⟨_, rfl, ob0⟩, oi⟩, oj⟩ rfl rfl rfl rfl lexg_nil)))))))))))) rfl (fun _ => ?_) (fun h => by cases h)
    refine rX rfl ?_
    refine runS_ret (I := inf) 0 rfl (Nat.le_refl _) rfl .nil rfl ⟨?_, rfl⟩
    rfl
  · have hc : k3 = 0 := by
      have h3 : (!(k3 == 0)) = false := h
      simpa using h3
    have he : endN t v k3 = (v, 0) := by
      unfold endN
      rw [if_neg (by rw [hc]; decide)]
    rw [he]
    refine rX rfl ?_
    refine runS_drawG (ch := []) (A2 := fun _ => []) 6 [2, 3] (fun w => [.box 41 (prE x), .box 25 (typE ta), .box 23 (cond (w.getD 0 false) (vlE v) vlZ), .box 25 (cond (w.getD 1 false) (typE t) (typE ty0)), .gone, .gone, .box 25 (typE t), .box 101 (stE t k3), .box 23 (vlE a), .box 23 (vlE b), .box 23 (vlE v)]) none (c := 9) jnfI.draw (by kernel_rfl) rfl (lexg_g (I := inf) (J := jnf) none ⟨⟨⟨_, rfl, ob0⟩, oi⟩, oj⟩ rfl rfl rfl rfl (lexg_g (I := inf) (J := jnf) none ⟨⟨⟨_, rfl, ob0⟩, oi⟩, oj⟩ rfl rfl rfl rfl (lexg_g (I := inf) (J := jnf) (some .store) ⟨⟨⟨_, rfl, ob0⟩, oi⟩, .inl rfl⟩ rfl rfl rfl rfl (lexg_g (I := inf) (J := jnf) (some .store) ⟨⟨⟨_, rfl, ob0⟩, .inl rfl⟩, (by first | exact .inl (by decide +kernel) | exact .inr ⟨⟨_, rfl, ob0⟩, .inl rfl⟩)⟩ rfl rfl rfl rfl (lexg_g (I := inf) (J := jnf) none ⟨⟨⟨_, rfl, ob0⟩, oi⟩, oj⟩ rfl rfl rfl rfl (lexg_g (I := inf) (J := jnf) none ⟨⟨⟨_, rfl, ob0⟩, oi⟩, oj⟩ rfl rfl rfl rfl lexg_nil)))))) rfl (fun _ => ?_) (fun h => by cases h)
    refine rX rfl ?_
    refine runS_ret (I := inf) 0 rfl (Nat.le_refl _) rfl .nil rfl ⟨?_, rfl⟩
    rfl
def powR (t : Typ) (y : Pr) (p : Nat) : Nat → Pr → Int → Pr × Int
  | 0, r, c => (r, c)
  | j + 1, r, c => if p / 2 ^ j % 2 = 1 then powR t y p j (timesS t (timesS t c r r).2 (timesS t c r r).1 y).1 (timesS t (timesS t c r r).2 (timesS t c r r).1 y).2 else powR t y p j (timesS t c r r).1 (timesS t c r r).2
def r0P : Pr := ⟨⟨3, 1, 0, []⟩, ⟨3, 0, 0, []⟩⟩
def powW (t : Typ) (x : Pr) (p : Nat) : Pr × Int := if p = 0 then (r0P, (fitP x t).2) else powR t (fitP x t).1 p (Nat.log2 p + 1) r0P (fitP x t).2
def topN (j : Nat) : Nat := if j = 0 then 0 else 2 ^ (j - 1)
theorem and_bit : ∀ p, p < 101 → ∀ j, j < 7 → ((p &&& 2 ^ j ≠ 0) ↔ p / 2 ^ j % 2 = 1) := by decide +kernel
theorem r_Power0 (x : Pr) (p : Int) (ta : Typ) (hb : askP [x] [ta] ≠ 0 ∨ p < 0 ∨ p > 100) : CallT Tryz.prog 40 [.agg (prE x), iv p, .agg (typE ta)] [] (fun o A => o = .ret (doA pr0 ty0 0 (if askP [x] [ta] ≠ 0 then askP [x] [ta] else 7)) ∧ A = []) := by
  have hak := r_askedP none none [x] [ta] (by simp) rfl
  refine callS_body (n := 98) rfl rfl fun w ρ X => ?_
  refine rX rfl ?_
  refine runS_tell 4 (prR [x]) rfl (m' := 1) rfl (fun j hj => ?_) rfl ?_
  · rcases j with _ | j <;> first | rfl | omega
  refine runS_tell 5 (tyR [ta]) rfl (m' := 1) rfl (fun j hj => ?_) rfl ?_
  · rcases j with _ | j <;> first | rfl | omega
  refine runS_freeze 20 rfl rfl rfl (fun j hj => ?_) ?_
  · rcases j with _ | j <;> first | rfl | omega
  refine runS_freeze 22 rfl rfl rfl (fun j hj => ?_) ?_
  · rcases j with _ | j <;> first | rfl | omega
  refine runS_call rfl rfl rfl rfl rfl rfl rfl hak ?_
  refine rX rfl ?_
  refine runS_cond rfl (fun h => ?_) (fun h => ?_)
  · have h3 : askP [x] [ta] ≠ 0 := by
      have h3 : (!(askP [x] [ta] == 0)) = true := h
      simpa using h3
    rw [if_pos h3]
    refine rX rfl ?_
    refine runS_ret (I := inf) 0 rfl (Nat.le_refl _) rfl .nil rfl ⟨?_, rfl⟩
    rfl
  · have h0 : askP [x] [ta] = 0 := by
      have h3 : (!(askP [x] [ta] == 0)) = false := h
      simpa using h3
    rw [if_neg (fun e => e h0)]
    have h1 := hb.resolve_left (fun e => e h0)
    have hcd : (if decide (p < 0) = true then true else decide (p > 100)) = true := by
      by_cases e : p < 0
      · rw [if_pos (by simpa using e)]
      · rw [if_neg (by simpa using e), decide_eq_true (by omega)]
    refine rX rfl ?_
    refine runS_cond rfl (fun h => ?_) (fun h => Bool.noConfusion (hcd.symm.trans h))
    refine rX rfl ?_
    refine runS_ret (I := inf) 0 rfl (Nat.le_refl _) rfl .nil rfl ⟨?_, rfl⟩
    rfl
theorem r_Power (x : Pr) (p : Nat) (ta : Typ) (h0 : askP [x] [ta] = 0) (hp : p ≤ 100) : CallT Tryz.prog 40 [.agg (prE x), iv p, .agg (typE ta)] [] (fun o A => o = .ret (doA (endS (fltT ta) (powW (fltT ta) x p).1 (powW (fltT ta) x p).2).1 (fltT ta) (endS (fltT ta) (powW (fltT ta) x p).1 (powW (fltT ta) x p).2).2 0) ∧ A = []) := by
  have hak := r_askedP none none [x] [ta] (by simp) rfl
  rw [h0] at hak
  obtain ⟨va, hxa⟩ := ask_vN1 h0
  have hF := r_Float ta va
  have hvf := vn_flt va
  generalize fltT ta = t at *
  have hfp := r_FitP x t hvf (has_PG va hxa)
  obtain ⟨W, hW⟩ : ∃ W, powW t x p = W := ⟨_, rfl⟩
  rw [hW]
  unfold powW at hW
  generalize fitP x t = F at *
  obtain ⟨y, c0⟩ := F
  dsimp only at hfp hW
  have hk0 : ∀ l, Kept 9 l → Kept 9 (.box 41 (prE x) :: .box 25 (typE ta) :: .box 41 (prE pr0) :: .box 25 (typE ty0) :: .gone :: .gone :: .box 25 (typE t) :: .box 41 (prE y) :: l) := fun l hk => .box rfl (.box rfl (.box rfl (.box rfl (.gone (.gone (.box rfl (.box rfl hk)))))))
  have hkk : ∀ c, Kept 9 [.box 41 (prE x), .box 25 (typE ta), .box 41 (prE pr0), .box 25 (typE ty0), .gone, .gone, .box 25 (typE t), .box 41 (prE y), .box 101 (stE t c)] := fun c => hk0 _ (.box rfl .nil)
  have hs := r_times8 _ _ _ _ _ _ _ _ hk0 t
  refine callS_body (n := 98) rfl rfl fun w ρ X => ?_
  refine rX rfl ?_
  refine runS_tell 4 (prR [x]) rfl (m' := 1) rfl (fun j hj => ?_) rfl ?_
  · rcases j with _ | j <;> first | rfl | omega
  refine runS_tell 5 (tyR [ta]) rfl (m' := 1) rfl (fun j hj => ?_) rfl ?_
  · rcases j with _ | j <;> first | rfl | omega
  refine runS_freeze 20 rfl rfl rfl (fun j hj => ?_) ?_
  · rcases j with _ | j <;> first | rfl | omega
  refine runS_freeze 22 rfl rfl rfl (fun j hj => ?_) ?_
  · rcases j with _ | j <;> first | rfl | omega
  refine runS_call rfl rfl rfl rfl rfl rfl rfl hak ?_
  refine rX rfl ?_
  refine runS_cond rfl (fun h => by cases h) (fun h => ?_)
  have hcd : (if decide ((p : Int) < 0) = true then true else decide ((p : Int) > 100)) = false := by
    rw [if_neg (by simp), decide_eq_false (by omega)]
  refine rX rfl ?_
  refine runS_cond rfl (fun h => Bool.noConfusion (hcd.symm.trans h)) (fun h => ?_)
  clear hcd h
  refine rX rfl ?_
  refine runS_call rfl rfl rfl rfl rfl rfl rfl hF ?_
  refine rX rfl ?_
  refine runS_call rfl rfl rfl rfl rfl rfl rfl hfp ?_
  refine rX rfl ?_
  refine runS_while (fun (J : Nat) τ ar => (τ 1 = iv p ∧ τ 6 = .ptr 2 0 0 ∧ τ 7 = .ptr 3 0 0 ∧ τ 11 = .ptr 6 0 0 ∧ τ 13 = .ptr 7 0 0 ∧ τ 16 = .ptr 8 0 0 ∧ τ 17 = .ptr 9 0 0 ∧ τ 18 = iv (2 ^ J : Nat)) ∧ ar = [.box 41 (prE x), .box 25 (typE ta), .box 41 (prE pr0), .box 25 (typE ty0), .gone, .gone, .box 25 (typE t), .box 41 (prE y), .box 101 (stE t c0), .box 41 (prE r0P)] ∧ J < 7 ∧ (J = 0 ∨ 2 ^ J ≤ p)) (fun J => 7 - J) 0 ⟨⟨rfl, rfl, rfl, rfl, rfl, rfl, rfl, rfl⟩, rfl, by decide, .inl rfl⟩ ?_
  rintro J τ2 ar2 ⟨⟨g1, g6, g7, g11, g13, g16, g17, g18⟩, rfl, hJ, hJp⟩ ih
  have h2J : 2 ^ J ≤ 2 ^ 6 := Nat.pow_le_pow_right (by decide) (by omega)
  have h2J1 : 2 ^ (J + 1) = 2 * 2 ^ J := by rw [Nat.pow_succ, Nat.mul_comm]
  have hw2 : IntKind.wrap .i64 (2 * ((2 ^ J : Nat) : Int)) = ((2 ^ (J + 1) : Nat) : Int) := by rw [w64 (by omega) (by omega)]; omega
  refine runS_says 1 (by exact g1) (Says.refl _) ?_; refine runS_says 6 (by exact g6) (Says.refl _) ?_; refine runS_says 7 (by exact g7) (Says.refl _) ?_; refine runS_says 11 (by exact g11) (Says.refl _) ?_; refine runS_says 13 (by exact g13) (Says.refl _) ?_; refine runS_says 16 (by exact g16) (Says.refl _) ?_; refine runS_says 17 (by exact g17) (Says.refl _) ?_; refine runS_says 18 (by exact g18) (Says.refl _) ?_
  refine rX rfl ?_
  refine runS_cond rfl (fun h => ?_) (fun h => ?_)
  · have hle : 2 ^ (J + 1) ≤ p := by
      have h3 := of_decide_eq_true h
      rw [hw2] at h3
      omega
    have hJ6 : J + 1 < 7 := by
      by_cases e : J = 6
      · subst e
        have : (2 : Nat) ^ (6 + 1) = 128 := rfl
        omega
      · omega
    refine rX rfl ?_
    exact ih (J + 1) _ _ (by omega) ⟨⟨rfl, rfl, rfl, rfl, rfl, rfl, rfl, congrArg iv hw2⟩, rfl, hJ6, .inr hle⟩
  · have hgt : ¬ 2 ^ (J + 1) ≤ p := by
      have h3 := of_decide_eq_false h
      rw [hw2] at h3
      omega
    have hWJ : (if p = 0 then (r0P, c0) else powR t y p (J + 1) r0P c0) = W := by
      rw [← hW]
      by_cases hp0 : p = 0
      · rw [if_pos hp0, if_pos hp0]
      · rw [if_neg hp0, if_neg hp0]
        have hle : 2 ^ J ≤ p := by
          rcases hJp with rfl | h
          · rw [Nat.pow_zero]; omega
          · exact h
        have hlog : Nat.log2 p = J := (Nat.log2_eq_iff hp0).2 ⟨hle, by omega⟩
        rw [hlog]
    clear ih h hw2 hW hJp hgt g1 g6 g7 g11 g13 g16 g17 g18 hak hF hfp
    refine rX rfl ?_
    refine runS_while (fun (z : Nat × Pr × Int) τ ar => (τ 1 = iv p ∧ τ 6 = .ptr 2 0 0 ∧ τ 7 = .ptr 3 0 0 ∧ τ 11 = .ptr 6 0 0 ∧ τ 13 = .ptr 7 0 0 ∧ τ 16 = .ptr 8 0 0 ∧ τ 17 = .ptr 9 0 0 ∧ τ 18 = iv (topN z.1 : Nat)) ∧ ar = [.box 41 (prE x), .box 25 (typE ta), .box 41 (prE pr0), .box 25 (typE ty0), .gone, .gone, .box 25 (typE t), .box 41 (prE y), .box 101 (stE t z.2.2), .box 41 (prE z.2.1)] ∧ z.1 ≤ 7 ∧ (if p = 0 then (z.2.1, z.2.2) else powR t y p z.1 z.2.1 z.2.2) = W) (fun z => z.1) (J + 1, r0P, c0) ⟨⟨rfl, rfl, rfl, rfl, rfl, rfl, rfl, rfl⟩, rfl, hJ, hWJ⟩ ?_
    clear hWJ
    rintro ⟨j, r, c⟩ τ3 ar3 ⟨⟨g1, g6, g7, g11, g13, g16, g17, g18⟩, rfl, hj7, hWj⟩ ih
    dsimp only at g18 hj7 hWj ih ⊢
    have c1 := hs c r r
    have htop : topN j ≤ 64 := by
      unfold topN
      split
      · omega
      · exact Nat.le_trans (Nat.pow_le_pow_right (by decide) (show j - 1 ≤ 6 by omega)) (by decide)
    have hcd : (if decide (((topN j : Nat) : Int) > 0) = true then decide ((p : Int) > 0) else false) = decide (j ≠ 0 ∧ p ≠ 0) := by
      unfold topN
      by_cases e : j = 0
      · subst e
        rfl
      · have h2 : 0 < 2 ^ (j - 1) := Nat.pow_pos (by decide)
        rw [if_neg e, decide_eq_true (show (((2 ^ (j - 1) : Nat)) : Int) > 0 by omega), if_pos rfl, Bool.eq_iff_iff, decide_eq_true_iff, decide_eq_true_iff]
        omega
    refine runS_says 1 (by exact g1) (Says.refl _) ?_; refine runS_says 6 (by exact g6) (Says.refl _) ?_; refine runS_says 7 (by exact g7) (Says.refl _) ?_; refine runS_says 11 (by exact g11) (Says.refl _) ?_; refine runS_says 13 (by exact g13) (Says.refl _) ?_; refine runS_says 16 (by exact g16) (Says.refl _) ?_; refine runS_says 17 (by exact g17) (Says.refl _) ?_; refine runS_says 18 (by exact g18) (Says.refl _) ?_
    refine rX rfl ?_
    refine runS_cond rfl (fun h => ?_) (fun h => ?_)
    · obtain ⟨hj0, hp0⟩ := of_decide_eq_true (hcd.symm.trans h)
      obtain ⟨i, rfl⟩ : ∃ i, j = i + 1 := ⟨j - 1, by omega⟩
      have htn : topN (i + 1) = 2 ^ i := rfl
      have hdiv : IntKind.wrap .i64 (((2 ^ i : Nat) : Int).tdiv 2) = ((topN i : Nat) : Int) := by
        have h1 : ((2 ^ i : Nat) : Int).tdiv 2 = ((2 ^ i / 2 : Nat) : Int) := rfl
        rw [h1, w64 (by omega) (by omega)]
        unfold topN
        by_cases e : i = 0
        · subst e
          rfl
        · obtain ⟨l, rfl⟩ : ∃ l, i = l + 1 := ⟨i - 1, by omega⟩
          rw [if_neg e, Nat.pow_succ, Nat.mul_div_cancel _ (by decide)]
          rfl
      have han := and_natP (n := p) (m := 2 ^ i) (by omega) (by omega)
      have hcb : (!(IntKind.wrap .i64 ((BitVec.ofInt IntKind.i64.bits (p : Int) &&& BitVec.ofInt IntKind.i64.bits ((2 ^ i : Nat) : Int)).toNat : Int) == 0)) = decide (p / 2 ^ i % 2 = 1) := by
        rw [han, Bool.eq_iff_iff, decide_eq_true_iff, ← and_bit p (by omega) i (by omega)]
        simp
      rw [if_neg hp0] at hWj
      have hWj : (if p / 2 ^ i % 2 = 1 then powR t y p i (timesS t (timesS t c r r).2 (timesS t c r r).1 y).1 (timesS t (timesS t c r r).2 (timesS t c r r).1 y).2 else powR t y p i (timesS t c r r).1 (timesS t c r r).2) = W := hWj
      have c2 := hs (timesS t c r r).2 (timesS t c r r).1 y
      generalize timesS t c r r = s1 at *
      obtain ⟨r1, k1⟩ := s1
      dsimp only at c1 c2 hWj
      clear hcd h han
      refine rX rfl ?_
      refine runS_callF [.box 41 (prE x), .box 25 (typE ta), .box 41 (prE pr0), .box 25 (typE ty0), .gone, .gone, .box 25 (typE t), .box 41 (prE y), .box 101 (stE t c)] [.box 41 (prE x), .box 25 (typE ta), .box 41 (prE pr0), .box 25 (typE ty0), .gone, .gone, .box 25 (typE t), .box 41 (prE y), .box 101 (stE t k1)] _ rfl rfl rfl rfl rfl (show _ = [.ptr 8 0 0, .agg (prE r), .agg (prE r)] from rfl) rfl (hkk c) rfl rfl c1 ?_
      refine rX rfl ?_
      refine runS_cond rfl (fun h => ?_) (fun h => ?_)
      · have h1 := of_decide_eq_true (hcb.symm.trans h)
        rw [if_pos h1] at hWj
        generalize timesS t k1 r1 y = s2 at *
        obtain ⟨r2, k2⟩ := s2
        dsimp only at c2 hWj
        clear hcb h
        refine rX rfl ?_
        refine runS_callF [.box 41 (prE x), .box 25 (typE ta), .box 41 (prE pr0), .box 25 (typE ty0), .gone, .gone, .box 25 (typE t), .box 41 (prE y), .box 101 (stE t k1)] [.box 41 (prE x), .box 25 (typE ta), .box 41 (prE pr0), .box 25 (typE ty0), .gone, .gone, .box 25 (typE t), .box 41 (prE y), .box 101 (stE t k2)] _ rfl rfl rfl rfl rfl (show _ = [.ptr 8 0 0, .agg (prE r1), .agg (prE y)] from rfl) rfl (hkk k1) rfl rfl c2 ?_
        refine rX rfl ?_
        exact ih (i, r2, k2) _ _ (Nat.lt_succ_self i) ⟨⟨rfl, rfl, rfl, rfl, rfl, rfl, rfl, congrArg iv hdiv⟩, rfl, by dsimp only; omega, by rw [if_neg hp0]; exact hWj⟩
      · have h1 := of_decide_eq_false (hcb.symm.trans h)
        rw [if_neg h1] at hWj
        clear hcb h
        refine rX rfl ?_
        exact ih (i, r1, k1) _ _ (Nat.lt_succ_self i) ⟨⟨rfl, rfl, rfl, rfl, rfl, rfl, rfl, congrArg iv hdiv⟩, rfl, by dsimp only; omega, by rw [if_neg hp0]; exact hWj⟩
    · have hno := of_decide_eq_false (hcd.symm.trans h)
      have hWe : W = (r, c) := by
        rw [← hWj]
        by_cases hp0 : p = 0
        · rw [if_pos hp0]
        · rw [if_neg hp0]
          have hj0 : j = 0 := by
            by_cases e : j = 0
            · exact e
            · exact absurd ⟨e, hp0⟩ hno
          subst hj0
          rfl
      subst hWe
      clear ih hcd h hno hWj
      dsimp only
      refine rX rfl ?_
      refine runS_cond rfl (fun h => ?_) (fun h => ?_)
      · have hc : c ≠ 0 := by
          have h3 : (!(c == 0)) = true := h
          simpa using h3
        have he : endS t r c = (zeroP t, c) := by
          unfold endS
          rw [if_pos hc]
        rw [he]
        refine rX rfl ?_
        refine runS_drawG (ch := []) (A2 := fun _ => []) 11 [7, 8] (fun w => [.box 41 (prE x), .box 25 (typE ta), .box 41 (cond (w.getD 0 false) (prE (zeroP t)) (prE pr0)), .box 25 (cond (w.getD 1 false) (typE t) (typE ty0)), .gone, .gone, .box 25 (typE t), .box 41 (prE y), .box 101 (stE t c), .box 41 (prE r)]) none (c := 9) jnfI.draw (by kernel_rfl) rfl (lexg_g (I := inf) (J := jnf) none ⟨⟨⟨_, rfl, ob0⟩, oi⟩, oj⟩ rfl rfl rfl rfl (lexg_call rfl rfl rfl rfl rfl rfl rfl rfl rfl (r_zeros t) (lexg_g (I := inf) (J := jnf) none ⟨⟨⟨_, rfl, ob0⟩, oi⟩, oj⟩ rfl rfl rfl rfl (lexg_g (I := inf) (J := jnf) none ⟨⟨⟨_, rfl, ob0⟩, oi⟩, oj⟩ rfl rfl rfl rfl (lexg_g (I := inf) (J := jnf) none ⟨⟨⟨_, rfl, ob0⟩, oi⟩, oj⟩ rfl rfl rfl rfl (lexg_g (I := inf) (J := jnf) none ⟨⟨⟨_, rfl, ob0⟩, oi⟩, oj⟩ rfl rfl rfl rfl (lexg_g (I := inf) (J := jnf) none ⟨⟨⟨_, rfl, ob0⟩, oi⟩, oj⟩ rfl rfl rfl rfl (lexg_g (I := inf) (J := jnf) (some .store) ⟨⟨⟨_, rfl, ob0⟩, oi⟩, .inl rfl⟩ rfl rfl rfl rfl (lexg_g (I := inf) (J := jnf) (some .store) ⟨⟨⟨_, rfl, ob0⟩, .inl rfl⟩, (by first | exact .inl (by decide +kernel) | exact .inr ⟨⟨_, rfl, ob0⟩, .inl rfl⟩)⟩ rfl rfl rfl rfl (lexg_g (I := inf) (J := jnf) none ⟨⟨⟨_, rfl, ob0⟩, oi⟩, oj⟩ rfl rfl rfl rfl (lexg_g (I := inf) (J := jnf) none ⟨⟨⟨_, rfl, ob0⟩, oi⟩, oj⟩ rfl rfl rfl rfl lexg_nil))))))))))) rfl (fun _ => ?_) (fun h => by cases h)
        refine rX rfl ?_
        refine runS_ret (I := inf) 0 rfl (Nat.le_refl _) rfl .nil rfl ⟨?_, rfl⟩
        rfl
      · have hc : c = 0 := by
          have h3 : (!(c == 0)) = false := h
          simpa using h3
        have he : endS t r c = (r, 0) := by
          unfold endS
          rw [if_neg (by rw [hc]; decide)]
        rw [he]
        refine rX rfl ?_
        refine runS_drawG (ch := []) (A2 := fun _ => []) 6 [2, 3] (fun w => [.box 41 (prE x), .box 25 (typE ta), .box 41 (cond (w.getD 0 false) (prE r) (prE pr0)), .box 25 (cond (w.getD 1 false) (typE t) (typE ty0)), .gone, .gone, .box 25 (typE t), .box 41 (prE y), .box 101 (stE t c), .box 41 (prE r)]) none (c := 9) jnfI.draw (by kernel_rfl) rfl (lexg_g (I := inf) (J := jnf) none ⟨⟨⟨_, rfl, ob0⟩, oi⟩, oj⟩ rfl rfl rfl rfl (lexg_g (I := inf) (J := jnf) none ⟨⟨⟨_, rfl, ob0⟩, oi⟩, oj⟩ rfl rfl rfl rfl (lexg_g (I := inf) (J := jnf) (some .store) ⟨⟨⟨_, rfl, ob0⟩, oi⟩, .inl rfl⟩ rfl rfl rfl rfl (lexg_g (I := inf) (J := jnf) (some .store) ⟨⟨⟨_, rfl, ob0⟩, .inl rfl⟩, (by first | exact .inl (by decide +kernel) | exact .inr ⟨⟨_, rfl, ob0⟩, .inl rfl⟩)⟩ rfl rfl rfl rfl (lexg_g (I := inf) (J := jnf) none ⟨⟨⟨_, rfl, ob0⟩, oi⟩, oj⟩ rfl rfl rfl rfl (lexg_g (I := inf) (J := jnf) none ⟨⟨⟨_, rfl, ob0⟩, oi⟩, oj⟩ rfl rfl rfl rfl lexg_nil)))))) rfl (fun _ => ?_) (fun h => by cases h)
        refine rX rfl ?_
        refine runS_ret (I := inf) 0 rfl (Nat.le_refl _) rfl .nil rfl ⟨?_, rfl⟩
        rfl
end Go.Iron.Tryz

/- The pairs' seat: with 0 beside them numbers are reckoned as numbers. -/
namespace Go.Iron.Tryz
open Go.Proofs Go.RowKit Go.Iron.Tok Go.Iron.Dg

def zV (t : Typ) : Vl := ⟨t.kind, 0, if t.kind = 3 then 0 else t.q, []⟩
theorem zero_is {t : Typ} (ht : vN t) : zeroV t = (zV t, 0) := by
  unfold zeroV zV
  rw [if_neg (by rw [ht.1]; decide)]
  obtain ⟨_, hk | hk | hk⟩ := ht
  · rw [if_pos (.inl hk), if_neg (by omega)]
  · rw [if_pos (.inr hk), if_neg (by omega)]
  · rw [if_neg (by omega), if_pos hk, if_pos hk]
end Go.Iron.Tryz

/- The pairs' seat: the law of Do, walked. -/
namespace Go.Iron.Tryz
open Go.Proofs Go.RowKit Go.Iron.Tok Go.Iron.Dg

def lightB (x y : Pr) (ts : List Typ) : Bool :=
  if (ts.all fun t => decide (t.pic.length ≤ 300)) = true then
    (if (if (if decide (x.re.s.length ≤ 600) = true then decide (x.im.s.length ≤ 600) else false) = true then decide (y.re.s.length ≤ 600) else false) = true then decide (y.im.s.length ≤ 600) else false)
  else false
theorem l_lightP (x y : Pr) (n1 : Option Bool) (ts : List Typ) (hl : ts.length ≤ 100000) : CallT Tryz.prog 21 [.agg (prE x), .agg (prE y), tyS n1 ts] [] (fun o A => o = .ret (bv (lightB x y ts)) ∧ A = []) := by
  unfold lightB
  refine callS_body (n := 47) rfl rfl fun w ρ X => ?_
  refine rX rfl ?_
  refine runS_while (fun (i : Nat) τ ar => (τ 2 = tyS n1 ts ∧ τ 3 = .ptr 0 0 0 ∧ τ 4 = .ptr 1 0 0 ∧ τ 7 = iv i) ∧ ar = [.box 41 (prE x), .box 41 (prE y)] ∧ i ≤ ts.length ∧ (ts.take i).all (fun t => decide (t.pic.length ≤ 300)) = true) (fun i => ts.length - i) 0 ⟨⟨rfl, rfl, rfl, rfl⟩, rfl, Nat.zero_le _, rfl⟩ ?_
  rintro i τ' ar' ⟨⟨g2, g3, g4, g7⟩, rfl, hi, ha⟩ ih
  refine runS_says 2 (by exact g2) (Says.refl _) ?_; refine runS_says 3 (by exact g3) (Says.refl _) ?_; refine runS_says 4 (by exact g4) (Says.refl _) ?_; refine runS_says 7 (by exact g7) (Says.refl _) ?_
  refine rX rfl ?_
  refine runS_cond rfl (fun h => ?_) (fun h => ?_)
  · have hlt : i < ts.length := by simp at h; omega
    have hw1 : IntKind.wrap .i64 ((i : Int) + 1) = ((i + 1 : Nat) : Int) := by rw [w64 (by omega) (by omega)]; rfl
    have hv := ty_get hlt
    refine runS_x (I := inf) (J := jnf) ⟨false, false, [], 0, 0⟩ 9999 rfl (by repeat (first | exact obs_nil | refine obs_draw (by kernel_rfl) ?_ | refine obs_same ?_ | refine obs_and ?_ | refine obs_by (by (simp [inB, hlt] <;> omega)) ?_)) ?_
    refine runS_cond rfl (fun h2 => ?_) (fun h2 => ?_)
    · have h3 : ¬ ts[i].pic.length ≤ 300 := by
        have h4 := of_decide_eq_true h2
        rw [blS] at h4
        rw [← hv]
        exact fun e => absurd h4 (by show ¬ (((ts.getD i ty0).pic.length : Nat) : Int) > 300; omega)
      have hE : (ts.all fun t => decide (t.pic.length ≤ 300)) = false := by
        rw [List.all_eq_false]
        exact ⟨_, List.getElem_mem hlt, by simpa using h3⟩
      rw [hE, if_neg (by decide)]
      refine rX rfl ?_
      refine runS_ret (I := inf) 0 rfl (Nat.le_refl _) rfl .nil rfl ⟨?_, rfl⟩
      rfl
    · have h3 : ts[i].pic.length ≤ 300 := by
        have h4 := of_decide_eq_false h2
        rw [blS] at h4
        rw [← hv]
        have h5 : ¬ (((ts.getD i ty0).pic.length : Nat) : Int) > 300 := h4
        omega
      refine rX rfl ?_
      exact ih (i + 1) _ _ (by omega) ⟨⟨rfl, rfl, rfl, congrArg iv hw1⟩, rfl, by omega, all_take ha hlt (by simpa using h3)⟩
  · have hie : i = ts.length := by simp at h; omega
    subst hie
    rw [List.take_length] at ha
    rw [ha, if_pos rfl]
    refine rX rfl ?_
    refine runS_ret (I := inf) 0 rfl (Nat.le_refl _) rfl .nil rfl ⟨?_, rfl⟩
    refine congrArg (fun z => Out.ret (bv z)) ?_
    have e : ∀ s : Str, decide (((bl (bs s)).length : Int) ≤ 600) = decide (s.length ≤ 600) := fun s => by
      rw [blS, Bool.eq_iff_iff]
      simp
      omega
    show (if (if (if decide (((bl (bs x.re.s)).length : Int) ≤ 600) = true then decide (((bl (bs x.im.s)).length : Int) ≤ 600) else false) = true then decide (((bl (bs y.re.s)).length : Int) ≤ 600) else false) = true then decide (((bl (bs y.im.s)).length : Int) ≤ 600) else false) = _
    rw [e, e, e, e]
end Go.Iron.Tryz

/- The pairs' seat: the reference's Do of single numbers; the law of pairs with 0 beside them. -/
namespace Go.Iron.Tryz
open Go.Proofs Go.RowKit Go.Iron.Tok Go.Iron.Dg

end Go.Iron.Tryz

/- The pairs' seat: the powers and norms of both are one. -/
namespace Go.Iron.Tryz
open Go.Proofs Go.RowKit Go.Iron.Tok Go.Iron.Dg

theorem timesS_stay (t : Typ) {c : Int} (x y : Pr) (h : c ≠ 0) : (timesS t c x y).2 = c := by
  unfold timesS
  simp only [step_stay _ _ _ _ h]
theorem powR_stay (t : Typ) (y : Pr) (p : Nat) : ∀ (j : Nat) (r : Pr) (c : Int), c ≠ 0 → (powR t y p j r c).2 = c
  | 0, _, _, _ => rfl
  | j + 1, r, c, h => by
    have h1 := timesS_stay t r r h
    by_cases hb : p / 2 ^ j % 2 = 1
    · have e : powR t y p (j + 1) r c = powR t y p j (timesS t (timesS t c r r).2 (timesS t c r r).1 y).1 (timesS t (timesS t c r r).2 (timesS t c r r).1 y).2 := if_pos hb
      rw [e, h1]
      have h2 := timesS_stay t (timesS t c r r).1 y h
      rw [h2]
      exact powR_stay t y p j _ c h
    · have e : powR t y p (j + 1) r c = powR t y p j (timesS t c r r).1 (timesS t c r r).2 := if_neg hb
      rw [e, h1]
      exact powR_stay t y p j _ c h
theorem powL_skip (t : Typ) (y : Pr) (p k : Nat) (r : Pr) (h : p < 2 ^ k) : ∀ d, powL t y p (k + d) r = powL t y p k r
  | 0 => rfl
  | d + 1 => by
    have h0 : p / 2 ^ (k + d) = 0 := Nat.div_eq_of_lt (Nat.lt_of_lt_of_le h (Nat.pow_le_pow_right (by decide) (Nat.le_add_right _ _)))
    have e : powL t y p (k + d + 1) r = powL t y p (k + d) r := if_pos h0
    exact e.trans (powL_skip t y p k r h d)
theorem powL_same (t : Typ) (y : Pr) (p : Nat) : ∀ (j : Nat) (r : Pr), (∀ i, i < j → p / 2 ^ i ≠ 0) → Same (powL t y p j r) (powR t y p j r 0)
  | 0, _, _ => rfl
  | j + 1, r, hj => by
    have ih := fun r => powL_same t y p j r (fun i hi => hj i (Nat.lt_succ_of_lt hi))
    have e : powL t y p (j + 1) r = (match timesV t r r with
        | .error c => .error c
        | .ok r2 => if p / 2 ^ j % 2 = 1 then (match timesV t r2 y with
          | .error c => .error c
          | .ok r3 => powL t y p j r3) else powL t y p j r2) := if_neg (hj j (Nat.lt_succ_self j))
    have hR : powR t y p (j + 1) r 0 = if p / 2 ^ j % 2 = 1 then powR t y p j (timesS t (timesS t 0 r r).2 (timesS t 0 r r).1 y).1 (timesS t (timesS t 0 r r).2 (timesS t 0 r r).1 y).2 else powR t y p j (timesS t 0 r r).1 (timesS t 0 r r).2 := rfl
    rw [e, hR]
    have h1 := times_same t r r
    cases e1 : timesV t r r with
    | error c =>
      rw [e1] at h1
      obtain ⟨h2, h3⟩ := h1
      dsimp only
      rw [h2]
      refine ⟨?_, h3⟩
      by_cases hb : p / 2 ^ j % 2 = 1
      · rw [if_pos hb, timesS_stay t _ y h3]
        exact powR_stay t y p j _ c h3
      · rw [if_neg hb]
        exact powR_stay t y p j _ c h3
    | ok r2 =>
      rw [e1] at h1
      have h1 : timesS t 0 r r = (r2, 0) := h1
      rw [h1]
      dsimp only
      by_cases hb : p / 2 ^ j % 2 = 1
      · rw [if_pos hb, if_pos hb]
        have h4 := times_same t r2 y
        cases e2 : timesV t r2 y with
        | error c =>
          rw [e2] at h4
          obtain ⟨h2, h3⟩ := h4
          dsimp only
          rw [h2]
          exact ⟨powR_stay t y p j _ c h3, h3⟩
        | ok r3 =>
          rw [e2] at h4
          have h4 : timesS t 0 r2 y = (r3, 0) := h4
          rw [h4]
          exact ih r3
      · rw [if_neg hb, if_neg hb]
        exact ih r2
theorem fit_same (x : Pr) (t : Typ) : Same (fitPE x t) (fitP x t) := by
  unfold fitPE fitP fitE
  by_cases h1 : (fitV x.re t).2 = 0
  · rw [if_pos h1, if_pos h1]
    by_cases h2 : (fitV x.im t).2 = 0
    · rw [if_pos h2, h2]
      exact rfl
    · rw [if_neg h2]
      exact ⟨rfl, h2⟩
  · rw [if_neg h1, if_neg h1]
    exact ⟨rfl, h1⟩
theorem pow_same {t : Typ} (ht : vN t) (h3 : t.kind = 3) (x : Pr) (p : Nat) (hp : p ≤ 100) : Same (powE t x p) (powW t x p) := by
  have hz : (⟨⟨(zeroV t).1.kind, 1, (zeroV t).1.q, (zeroV t).1.s⟩, (zeroV t).1⟩ : Pr) = r0P := by
    rw [zero_is ht]
    unfold zV r0P
    dsimp only
    rw [h3, if_pos rfl]
  have hf := fit_same x t
  unfold powE powW
  rw [hz]
  cases e : fitPE x t with
  | error c =>
    rw [e] at hf
    obtain ⟨h1, h2⟩ := hf
    dsimp only
    rw [h1]
    refine ⟨?_, h2⟩
    by_cases h0 : p = 0
    · rw [if_pos h0]
    · rw [if_neg h0]
      exact powR_stay _ _ _ _ _ c h2
  | ok y =>
    rw [e] at hf
    have hf : fitP x t = (y, 0) := hf
    rw [hf]
    dsimp only
    by_cases h0 : p = 0
    · rw [if_pos h0]
      have h1 := powL_skip t y p 0 r0P (by omega) 8
      rw [show powL t y p 8 r0P = powL t y p 0 r0P from h1]
      exact rfl
    · rw [if_neg h0]
      have hl := Nat.log2_self_le h0
      have hu : p < 2 ^ (Nat.log2 p + 1) := Nat.lt_log2_self
      have h7 : Nat.log2 p < 7 := by
        rcases Nat.lt_or_ge (Nat.log2 p) 7 with h | h
        · exact h
        · have := Nat.pow_le_pow_right (n := 2) (by decide) h
          omega
      have h1 := powL_skip t y p (Nat.log2 p + 1) r0P hu (7 - Nat.log2 p)
      rw [show Nat.log2 p + 1 + (7 - Nat.log2 p) = 8 by omega] at h1
      rw [h1]
      refine powL_same t y p _ r0P (fun i hi => ?_)
      have h5 : 2 ^ i ≤ p := Nat.le_trans (Nat.pow_le_pow_right (by decide) (Nat.le_of_lt_succ hi)) hl
      have h6 := Nat.div_pos h5 (Nat.pow_pos (n := i) (by decide))
      omega
theorem r_PowerV (x : Pr) (p : Int) (ta : Typ) : CallT Tryz.prog 40 [.agg (prE x), iv p, .agg (typE ta)] [] (fun o A => o = .ret (doA (powP x p ta).1 (powP x p ta).2.1 (powP x p ta).2.2.1 (powP x p ta).2.2.2) ∧ A = []) := by
  unfold powP
  by_cases h0 : askP [x] [ta] = 0
  · rw [if_neg (fun e => e h0)]
    by_cases h1 : p < 0 ∨ p > 100
    · have h := r_Power0 x p ta (.inr h1)
      rw [if_neg (fun e => e h0)] at h
      rw [if_pos h1]
      exact h
    · rw [if_neg h1]
      obtain ⟨q, rfl⟩ : ∃ q : Nat, p = (q : Int) := ⟨p.toNat, by omega⟩
      have h := r_Power x q ta h0 (by omega)
      obtain ⟨va, _⟩ := ask_vN1 h0
      rw [end_same _ (pow_same (vn_flt va) (flt_k va) x q (by omega))] at h
      rw [Int.toNat_natCast]
      exact h
  · have h := r_Power0 x p ta (.inl h0)
    rw [if_pos h0] at h ⊢
    exact h
def nrmV (x : Pr) (ta : Typ) : Vl × Typ × Int × Int :=
  if askP [x] [ta] ≠ 0 then (⟨0, 0, 0, []⟩, ty0, 0, askP [x] [ta])
  else ((safeV (resT 42 ta ta) (normS (resT 42 ta ta) x)).1.re, resT 42 ta ta, (safeV (resT 42 ta ta) (normS (resT 42 ta ta) x)).2, 0)
def nmA (v : Vl) (t : Typ) (c e : Int) : AV := .tup [.agg (vlE v), .agg (typE t), iv c, iv e]
theorem norm_same (t : Typ) (x : Pr) : endN t (normR t x).1 (normR t x).2 = ((safeV t (normS t x)).1.re, (safeV t (normS t x)).2) := by
  unfold normR normS endN
  cases e1 : byV 42 t x.re x.re with
  | error e =>
    obtain ⟨h, h0⟩ := step_err e1
    generalize stepV 42 t 0 x.re x.re = s1 at *
    obtain ⟨v1, c1⟩ := s1
    dsimp only at h
    subst h
    dsimp only
    simp only [step_stay _ _ _ _ h0]
    rw [if_pos h0]
    rfl
  | ok p =>
    rw [step_ok e1]
    dsimp only
    cases e2 : byV 42 t x.im x.im with
    | error e =>
      obtain ⟨h, h0⟩ := step_err e2
      generalize stepV 42 t 0 x.im x.im = s1 at *
      obtain ⟨v1, c1⟩ := s1
      dsimp only at h
      subst h
      dsimp only
      simp only [step_stay _ _ _ _ h0]
      rw [if_pos h0]
      rfl
    | ok q =>
      rw [step_ok e2]
      dsimp only
      cases e3 : byV 43 t p q with
      | error e =>
        obtain ⟨h, h0⟩ := step_err e3
        generalize stepV 43 t 0 p q = s1 at *
        obtain ⟨v1, c1⟩ := s1
        dsimp only at h
        subst h
        dsimp only
        rw [if_pos h0]
        rfl
      | ok v =>
        rw [step_ok e3]
        rfl
theorem p_NormV (x : Pr) (ta : Typ) : CallT Tryz.prog 38 [.agg (prE x), .agg (typE ta)] [] (fun o A => o = .ret (nmA (nrmV x ta).1 (nrmV x ta).2.1 (nrmV x ta).2.2.1 (nrmV x ta).2.2.2) ∧ A = []) := by
  unfold nrmV
  by_cases h0 : askP [x] [ta] = 0
  · rw [if_neg (fun e => e h0)]
    exact p_norm x ta h0 (ask_vN1 h0).1
  · rw [if_pos h0]
    exact p_normE x ta h0
theorem r_NormV (x : Pr) (ta : Typ) : CallT Tryz.prog 41 [.agg (prE x), .agg (typE ta)] [] (fun o A => o = .ret (nmA (nrmV x ta).1 (nrmV x ta).2.1 (nrmV x ta).2.2.1 (nrmV x ta).2.2.2) ∧ A = []) := by
  unfold nrmV
  by_cases h0 : askP [x] [ta] = 0
  · rw [if_neg (fun e => e h0)]
    have h := r_norm x ta h0 (ask_vN1 h0).1
    rw [norm_same] at h
    exact h
  · rw [if_pos h0]
    exact r_normE x ta h0
end Go.Iron.Tryz

/- The pairs' seat: the law of powers and norms, walked. -/
namespace Go.Iron.Tryz
open Go.Proofs Go.RowKit Go.Iron.Tok Go.Iron.Dg

theorem l_powers (x : Pr) (n : Int) (ta : Typ) : CallT Tryz.prog 9 [.agg (prE x), iv n, .agg (typE ta)] [] (fun o A => o = .ret (bv true) ∧ A = []) := by
  have c1 := p_Power x n ta
  have c2 := r_PowerV x n ta
  have c3 := p_NormV x ta
  have c4 := r_NormV x ta
  generalize powP x n ta = R at *
  obtain ⟨⟨⟨rk, rn, rq, rs⟩, ⟨ik, im, iq, is⟩⟩, ⟨tk, tp, tq, tn, tv, tc⟩, c, e⟩ := R
  generalize nrmV x ta = N at *
  obtain ⟨⟨nk, nn, nq, ns⟩, ⟨uk, up, uq, un, uv, uc⟩, d, f⟩ := N
  dsimp only at c1 c2 c3 c4
  have cl := l_lightP x x none [ta] (by simp)
  generalize lightB x x [ta] = lb at *
  refine callS_body (n := 97) rfl rfl fun w ρ X => ?_
  refine rX rfl ?_
  refine runS_tell 2 (tyR [ta]) rfl (m' := 1) rfl (fun j hj => ?_) rfl ?_
  · rcases j with _ | j <;> first | rfl | omega
  refine runS_freeze 20 rfl rfl rfl (fun j hj => ?_) ?_
  · rcases j with _ | j <;> first | rfl | omega
  refine runS_call rfl rfl rfl rfl rfl rfl rfl cl ?_
  refine runS_x (I := inf) (J := jnf) ⟨false, false, [], 0, 0⟩ 9999 rfl (by repeat (first | exact obs_nil | refine obs_draw (by kernel_rfl) ?_ | refine obs_same ?_ | refine obs_and ?_ | refine obs_by (by (simp [inB, blS] <;> omega)) ?_)) ?_
  refine runS_cond rfl (fun h => ?_) (fun h => ?_)
  · refine rX rfl ?_
    refine runS_call rfl rfl rfl rfl rfl rfl rfl l_awakeP ?_
    refine rX rfl ?_
    refine runS_ret (I := inf) 0 rfl (Nat.le_refl _) rfl .nil rfl ⟨?_, rfl⟩
    rfl
  · clear h
    refine rX rfl ?_
    refine runS_call rfl rfl rfl rfl rfl rfl rfl c1 ?_
    refine rX rfl ?_
    refine runS_call rfl rfl rfl rfl rfl rfl rfl c2 ?_
    refine rX rfl ?_
    refine runS_cond rfl (fun h => by simp at h) (fun h => ?_)
    clear h
    refine rX rfl ?_
    refine runS_call rfl rfl rfl rfl rfl rfl rfl c3 ?_
    refine rX rfl ?_
    refine runS_call rfl rfl rfl rfl rfl rfl rfl c4 ?_
    refine rX rfl ?_
    refine runS_callU rfl rfl (by first | exact .v rfl rfl rfl rfl | exact .o rfl rfl rfl rfl) rfl rfl (by repeat (first | exact .nil | refine .cons (.n rfl) ?_ | refine .cons .o ?_ | refine .cons gok_and ?_)) rfl rfl rfl rfl rfl (fun _ => l_awakeP) ?_
    refine rX rfl ?_
    refine runS_ret (I := inf) 0 rfl (Nat.le_refl _) rfl .nil rfl ⟨?_, rfl⟩
    refine congrArg (fun z => Out.ret (bv z)) (?_ : _ = true)
    simp
end Go.Iron.Tryz
