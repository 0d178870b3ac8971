/- The level package: layout, as plain functions. -/
import Derived.Test.YtamhonbhoelohaaTC
import Derived.Test.YtamhonbhoelohaaTE
namespace Go.Iron.Try
open Go.Proofs

theorem upN_ge {l : List Fld} {v : Int} {p : Nat} (hp : (fat l p).level < v) : ∀ {k : Nat}, p < k → ∃ q, upN l v k = some q ∧ p ≤ q
  | 0, h => by omega
  | k + 1, h => by
    unfold upN
    by_cases hk : (fat l k).level < v
    · rw [if_pos hk]
      exact ⟨k, rfl, by omega⟩
    · rw [if_neg hk]
      refine upN_ge hp ?_
      by_cases hpk : p = k
      · subst hpk; exact absurd hp hk
      · omega
theorem mem_anc {l : List Fld} {i j : Nat} : i ∈ anc l j ↔ i = j ∨ ∃ p, par l j = some p ∧ i ∈ anc l p := by
  rw [anc_eq, List.mem_cons]
  cases par l j with
  | none => simp [ancO]
  | some p => simp [ancO]
theorem anc_le {l : List Fld} {i : Nat} : ∀ {j : Nat}, i ∈ anc l j → i ≤ j := by
  intro j
  induction j using Nat.strongRecOn with
  | ind j ih =>
    intro h
    rcases mem_anc.1 h with rfl | ⟨p, hp, hi⟩
    · exact Nat.le_refl _
    · have := par_lt hp
      have := ih p this hi
      omega
theorem anc_self (l : List Fld) (i : Nat) : i ∈ anc l i := mem_anc.2 (.inl rfl)
theorem anc_trans {l : List Fld} {a b : Nat} (h : a ∈ anc l b) : ∀ {c : Nat}, b ∈ anc l c → a ∈ anc l c := by
  intro c
  induction c using Nat.strongRecOn with
  | ind c ih =>
    intro hb
    rcases mem_anc.1 hb with rfl | ⟨p, hp, hi⟩
    · exact h
    · exact mem_anc.2 (.inr ⟨p, hp, ih p (par_lt hp) hi⟩)
/-- What lies between a member and one that it is in is in that, too. -/
theorem anc_between {l : List Fld} {i : Nat} : ∀ {j : Nat}, i ∈ anc l j → ∀ m, i ≤ m → m ≤ j → i ∈ anc l m := by
  intro j
  induction j using Nat.strongRecOn with
  | ind j ih =>
    intro h m h1 h2
    rcases mem_anc.1 h with rfl | ⟨p, hp, hi⟩
    · have : m = i := by omega
      subst this; exact anc_self l m
    · by_cases hm : m ≤ p
      · exact ih p (par_lt hp) hi m h1 hm
      · by_cases hmj : m = j
        · subst hmj; exact h
        · obtain ⟨a1, a2, a3⟩ := upN_some hp
          have key : ∀ m, p < m → m < j → p ∈ anc l m := by
            intro m
            induction m using Nat.strongRecOn with
            | ind m ihm =>
              intro b1 b2
              have hl := a3 m b1 b2
              obtain ⟨q, hq, hpq⟩ := upN_ge (l := l) (v := (fat l m).level) (p := p) (by omega) b1
              have hq' : par l m = some q := hq
              have hqm := par_lt hq'
              by_cases hqp : q = p
              · subst hqp; exact mem_anc.2 (.inr ⟨q, hq', anc_self l q⟩)
              · exact mem_anc.2 (.inr ⟨q, hq', ihm q hqm (by omega) (by omega)⟩)
          exact anc_trans hi (key m (by omega) (by omega))
theorem kid_gt {l : List Fld} {i k : Nat} (h : k ∈ kidsA l i) : i < k ∧ k < l.length := ⟨par_lt (mem_kids.1 h).2, (mem_kids.1 h).1⟩
theorem kid_anc {l : List Fld} {i k : Nat} (h : k ∈ kidsA l i) : i ∈ anc l k := mem_anc.2 (.inr ⟨i, (mem_kids.1 h).2, anc_self l i⟩)
theorem arrs_kid {l : List Fld} {i k : Nat} (h : par l k = some i) : arrs l k = arrs l i + if isArr l k then 1 else 0 := by
  rw [arrs, anc_eq, h, List.countP_cons]
  rfl

/-- Rounded up. -/
def upR (n a : Nat) : Nat := (n + a - 1) / a * a
theorem upR_zero {a : Nat} (ha : 0 < a) : upR 0 a = 0 := by
  unfold upR
  rw [Nat.div_eq_of_lt (by omega)]
  simp
theorem upR_bound {n a : Nat} (h1 : 1 ≤ a) (h2 : a ≤ 8) : n ≤ upR n a ∧ upR n a ≤ n + 7 := by
  unfold upR
  have e := Nat.div_add_mod (n + a - 1) a
  have m := Nat.mod_lt (n + a - 1) (show a > 0 by omega)
  rw [Nat.mul_comm] at e
  omega
/-- A leaf's size and alignment. -/
def lieN (t : Typ) : Nat × Nat :=
  if t.kind = 1 then (if t.p ≤ 15 then (2, 2) else (4, 4))
  else if t.kind = 2 then ((t.p.toNat + 2) / 2, 1)
  else if t.kind = 3 then (if t.p ≤ 6 then (4, 4) else (8, 8))
  else if t.kind = 4 then (t.n.toNat + (if t.vary then 2 else 0), 1)
  else if t.kind = 5 then ((t.n.toNat + 7) / 8 + (if t.vary then 2 else 0), 1)
  else if t.kind = 6 then (t.pic.length, 1)
  else if t.kind = 7 then (4, 4)
  else (8, 4)
theorem lieN_bound {t : Typ} (h : validT t = true) : (lieN t).1 ≤ 252 ∧ 1 ≤ (lieN t).2 ∧ (lieN t).2 ≤ 8 := by
  unfold validT inR at h
  unfold lieN
  split
  · split <;> simp
  rename_i k1
  rw [if_neg k1] at h
  split
  · rename_i k2
    rw [if_pos k2] at h
    simp at h
    dsimp only
    omega
  rename_i k2
  rw [if_neg k2] at h
  split
  · split <;> simp
  rename_i k3
  rw [if_neg k3] at h
  split
  · rename_i k4
    rw [if_pos (.inl k4)] at h
    simp at h
    dsimp only
    split <;> omega
  rename_i k4
  split
  · rename_i k5
    rw [if_pos (.inr k5)] at h
    simp at h
    dsimp only
    split <;> omega
  rename_i k5
  rw [if_neg (by omega)] at h
  split
  · rename_i k6
    rw [if_pos k6] at h
    simp at h
    dsimp only
    omega
  split <;> simp

/-- What a member takes: its elements. -/
def takeN (s a c : Nat) (isA : Bool) : Nat := if isA then c * upR s a else s
/-- One member more in a structure: where the next may lie, the size so far, the alignment. -/
def stepL (sub : Nat → Nat × Nat) (l : List Fld) (cnt : Nat → Nat) (u : Bool) (x : Nat × Nat × Nat) (k : Nat) : Nat × Nat × Nat :=
  let b := upR (if u then 0 else x.1) (sub k).2 + takeN (sub k).1 (sub k).2 (cnt k) (isArr l k)
  (b, max x.2.1 b, max x.2.2 (sub k).2)
def layF (l : List Fld) (cnt : Nat → Nat) : Nat → Nat → Nat × Nat
  | 0, _ => (0, 1)
  | f + 1, i => if kidsA l i = [] then lieN (fat l i).typ else ((kidsA l i).foldl (stepL (layF l cnt f) l cnt (fat l i).union) (0, 0, 1)).2
def lay (l : List Fld) (cnt : Nat → Nat) (i : Nat) : Nat × Nat := layF l cnt (l.length + 1 - i) i
theorem foldl_congrL {sub sub' : Nat → Nat × Nat} {l : List Fld} {cnt : Nat → Nat} {u : Bool} : ∀ (ks : List Nat) (x : Nat × Nat × Nat), (∀ k ∈ ks, sub k = sub' k) → ks.foldl (stepL sub l cnt u) x = ks.foldl (stepL sub' l cnt u) x
  | [], x, _ => rfl
  | k :: ks, x, h => by
    have : stepL sub l cnt u x k = stepL sub' l cnt u x k := by unfold stepL; rw [h k (.head _)]
    rw [List.foldl_cons, List.foldl_cons, this]
    exact foldl_congrL ks _ fun k hk => h k (.tail _ hk)
theorem layF_stable (l : List Fld) (cnt : Nat → Nat) : ∀ (m i f g : Nat), i < l.length → l.length - i ≤ m → l.length + 1 - i ≤ f → l.length + 1 - i ≤ g → layF l cnt f i = layF l cnt g i
  | 0, i, f, g, h, hm, _, _ => by omega
  | m + 1, i, f, g, h, hm, hf, hg => by
    obtain ⟨f', rfl⟩ : ∃ f', f = f' + 1 := ⟨f - 1, by omega⟩
    obtain ⟨g', rfl⟩ : ∃ g', g = g' + 1 := ⟨g - 1, by omega⟩
    rw [layF, layF]
    by_cases hk : kidsA l i = []
    · rw [if_pos hk, if_pos hk]
    · rw [if_neg hk, if_neg hk]
      rw [foldl_congrL (kidsA l i) (0, 0, 1) fun k hk => layF_stable l cnt m k f' g' (kid_gt hk).2 (by have := (kid_gt hk).1; omega) (by have := (kid_gt hk).1; omega) (by have := (kid_gt hk).1; omega)]
theorem lay_eq (l : List Fld) (cnt : Nat → Nat) (i : Nat) (hi : i < l.length) : lay l cnt i = if kidsA l i = [] then lieN (fat l i).typ else ((kidsA l i).foldl (stepL (lay l cnt) l cnt (fat l i).union) (0, 0, 1)).2 := by
  rw [lay, show l.length + 1 - i = (l.length - i) + 1 by omega, layF]
  by_cases hk : kidsA l i = []
  · rw [if_pos hk, if_pos hk]
  · rw [if_neg hk, if_neg hk]
    rw [foldl_congrL (kidsA l i) (0, 0, 1) fun k hk => layF_stable l cnt l.length k _ _ (kid_gt hk).2 (by omega) (by have := (kid_gt hk).1; omega) (Nat.le_refl _)]
    rfl

/-- What has been laid when the first p members of a structure are. -/
def stP (l : List Fld) (cnt : Nat → Nat) (i p : Nat) : Nat × Nat × Nat := ((kidsA l i).take p).foldl (stepL (lay l cnt) l cnt (fat l i).union) (0, 0, 1)
theorem stP_succ {l : List Fld} {cnt : Nat → Nat} {i p : Nat} (h : p < (kidsA l i).length) : stP l cnt i (p + 1) = stepL (lay l cnt) l cnt (fat l i).union (stP l cnt i p) ((kidsA l i).getD p 0) := by
  rw [stP, take_nextN h, List.foldl_append]
  rfl
theorem lay_inner {l : List Fld} {cnt : Nat → Nat} {i : Nat} (hi : i < l.length) (hk : 0 < (kidsA l i).length) : lay l cnt i = (stP l cnt i (kidsA l i).length).2 := by
  rw [lay_eq l cnt i hi, if_neg (fun e => by rw [e] at hk; simp at hk), stP, List.take_length]
theorem lay_leaf {l : List Fld} {cnt : Nat → Nat} {i : Nat} (hi : i < l.length) (hk : ¬ 0 < (kidsA l i).length) : lay l cnt i = lieN (fat l i).typ := by
  rw [lay_eq l cnt i hi, if_pos (List.eq_nil_of_length_eq_zero (by omega))]

/-- What is asked of a structure and its counts. -/
structure LayOK (l : List Fld) (cnt : Nat → Nat) : Prop where
  typ : ∀ i, i < l.length → ¬ 0 < (kidsA l i).length → validT (fat l i).typ = true
  arr : ∀ i, i < l.length → arrs l i ≤ 3
  most : ∀ i, i < l.length → cnt i ≤ 200
  one : ∀ i, i < l.length → isArr l i = true → 1 ≤ cnt i
def bigK (a : Nat) : Nat := 512 * 200 ^ (3 - a)
theorem bigK_pos (a : Nat) : 512 ≤ bigK a := by
  unfold bigK
  have : 1 ≤ 200 ^ (3 - a) := Nat.pow_pos (by decide)
  omega
theorem bigK_succ {a : Nat} (h : a + 1 ≤ 3) : bigK a = 200 * bigK (a + 1) := by
  unfold bigK
  rw [show 3 - a = (3 - (a + 1)) + 1 by omega, Nat.pow_succ]
  omega
theorem bigK_le (a : Nat) : bigK a ≤ 4096000000 := by
  unfold bigK
  have : 200 ^ (3 - a) ≤ 200 ^ 3 := Nat.pow_le_pow_right (by decide) (by omega)
  have e : 200 ^ 3 = 8000000 := by decide
  omega
theorem mul_le_of {a b k : Nat} (h : a ≤ b) : a * k ≤ b * k := Nat.mul_le_mul_right _ h

theorem lay_bound {l : List Fld} {cnt : Nat → Nat} (ok : LayOK l cnt) : ∀ (m i : Nat), i < l.length → l.length - i ≤ m → (1 ≤ (lay l cnt i).2 ∧ (lay l cnt i).2 ≤ 8) ∧
    ∀ e, (∀ d, d < l.length → i ∈ anc l d → d < e) → (lay l cnt i).1 + 8 ≤ (e - i) * bigK (arrs l i)
  | 0, i, hi, hm => by omega
  | m + 1, i, hi, hm => by
    have hK := bigK_pos (arrs l i)
    by_cases hk : 0 < (kidsA l i).length
    · have hsub : ∀ p, p < (kidsA l i).length → (1 ≤ (lay l cnt ((kidsA l i).getD p 0)).2 ∧ (lay l cnt ((kidsA l i).getD p 0)).2 ≤ 8) ∧ ∀ e, (∀ d, d < l.length → (kidsA l i).getD p 0 ∈ anc l d → d < e) →
          (lay l cnt ((kidsA l i).getD p 0)).1 + 8 ≤ (e - (kidsA l i).getD p 0) * bigK (arrs l ((kidsA l i).getD p 0)) := fun p hp =>
        lay_bound ok m _ (kid_gt (kids_mem hp)).2 (by have := (kid_gt (kids_mem hp)).1; omega)
      have hal : ∀ p, p ≤ (kidsA l i).length → 1 ≤ (stP l cnt i p).2.2 ∧ (stP l cnt i p).2.2 ≤ 8 := by
        intro p
        induction p with
        | zero => intro _; exact ⟨Nat.le_refl 1, show 1 ≤ 8 by omega⟩
        | succ p ihp =>
          intro hp
          have h1 := ihp (by omega)
          have h2 := (hsub p (by omega)).1
          rw [stP_succ (by omega)]
          simp only [stepL]
          omega
      rw [lay_inner hi hk]
      refine ⟨hal _ (Nat.le_refl _), fun e he => ?_⟩
      have hei : i < e := he i hi (anc_self l i)
      have key : ∀ p, p ≤ (kidsA l i).length → ∀ b, b = (if p < (kidsA l i).length then (kidsA l i).getD p 0 else e) → (stP l cnt i p).1 ≤ (b - (i + 1)) * bigK (arrs l i) ∧ (stP l cnt i p).2.1 ≤ (b - (i + 1)) * bigK (arrs l i) := by
        intro p
        induction p with
        | zero => intro _ b _; exact ⟨Nat.zero_le _, Nat.zero_le _⟩
        | succ p ihp =>
          intro hp b hb
          have hpl : p < (kidsA l i).length := by omega
          obtain ⟨a1, a2⟩ := ihp (by omega) ((kidsA l i).getD p 0) (by rw [if_pos hpl])
          obtain ⟨c1, c2⟩ := hsub p hpl
          rw [stP_succ hpl]
          generalize hkk : (kidsA l i).getD p 0 = k at *
          have hkm : k ∈ kidsA l i := by rw [← hkk]; exact kids_mem hpl
          obtain ⟨g1, g2⟩ := kid_gt hkm
          have hkb : k < b ∧ ∀ d, d < l.length → k ∈ anc l d → d < b := by
            by_cases hq : p + 1 < (kidsA l i).length
            · rw [if_pos hq] at hb
              have hkb : k < b := by rw [hb, ← hkk]; exact kids_mono (by omega) hq
              refine ⟨hkb, fun d hd hkd => ?_⟩
              rcases Nat.lt_or_ge d b with h' | h'
              · exact h'
              · exfalso
                have hb2 := anc_between hkd b (by omega) h'
                obtain ⟨_, hpb⟩ := mem_kids.1 (kids_mem (l := l) (i := i) (q := p + 1) hq)
                rw [← hb] at hpb
                rcases mem_anc.1 hb2 with h3 | ⟨q, hq1, hq2⟩
                · omega
                · rw [hpb] at hq1
                  cases hq1
                  have := anc_le hq2
                  omega
            · rw [if_neg hq] at hb
              subst hb
              exact ⟨he k g2 (kid_anc hkm), fun d hd hkd => he d hd (anc_trans (kid_anc hkm) hkd)⟩
          have c3 := c2 b hkb.2
          have hpk := (mem_kids.1 hkm).2
          have hak := arrs_kid hpk
          have hak3 := ok.arr k g2
          have hct := ok.most k g2
          have ht : takeN (lay l cnt k).1 (lay l cnt k).2 (cnt k) (isArr l k) + 8 ≤ (b - k) * bigK (arrs l i) := by
            unfold takeN
            cases hia : isArr l k with
            | false =>
              rw [hia] at hak
              simp only [Bool.false_eq_true, if_false, Nat.add_zero] at hak ⊢
              rw [hak] at c3
              exact c3
            | true =>
              rw [hia] at hak
              simp only [if_true] at hak ⊢
              have hup := upR_bound (n := (lay l cnt k).1) c1.1 c1.2
              have hb1 := bigK_succ (a := arrs l i) (by omega)
              rw [hak] at c3
              have h1 : cnt k * upR (lay l cnt k).1 (lay l cnt k).2 ≤ 200 * upR (lay l cnt k).1 (lay l cnt k).2 := Nat.mul_le_mul_right _ hct
              have h2 : (b - k) * bigK (arrs l i) = 200 * ((b - k) * bigK (arrs l i + 1)) := by rw [hb1]; rw [Nat.mul_left_comm]
              rw [h2]
              omega
          have hup : upR (if (fat l i).union then 0 else (stP l cnt i p).1) (lay l cnt k).2 ≤ (k - (i + 1)) * bigK (arrs l i) + 7 := by
            by_cases hu : (fat l i).union = true
            · rw [if_pos hu, upR_zero (by omega)]; omega
            · rw [if_neg hu]
              have := (upR_bound (n := (stP l cnt i p).1) c1.1 c1.2).2
              omega
          have hsum : (k - (i + 1)) * bigK (arrs l i) + (b - k) * bigK (arrs l i) = (b - (i + 1)) * bigK (arrs l i) := by
            rw [← Nat.add_mul]
            congr 1
            omega
          simp only [stepL]
          omega
      obtain ⟨_, z2⟩ := key (kidsA l i).length (Nat.le_refl _) e (by rw [if_neg (Nat.lt_irrefl _)])
      have hsum : (e - (i + 1)) * bigK (arrs l i) + bigK (arrs l i) = (e - i) * bigK (arrs l i) := by
        rw [← Nat.succ_mul]
        congr 1
        omega
      omega
    · rw [lay_leaf hi hk]
      obtain ⟨b1, b2, b3⟩ := lieN_bound (ok.typ i hi hk)
      refine ⟨⟨b2, b3⟩, fun e he => ?_⟩
      have hei : i < e := he i hi (anc_self l i)
      have : 1 * bigK (arrs l i) ≤ (e - i) * bigK (arrs l i) := mul_le_of (by omega)
      omega
end Go.Iron.Try

/- The level package: sizes of types; rounding up. -/
namespace Go.Iron.Try
open Go.Proofs

theorem tdiv_nat (a b : Nat) : ((a : Int).tdiv (b : Int)) = ((a / b : Nat) : Int) := rfl
theorem up_int (n a : Nat) (hn : n ≤ 1000000000000000) (h1 : 1 ≤ a) (h2 : a ≤ 8) : IntKind.wrap .i64 (IntKind.wrap .i64 ((IntKind.wrap .i64 (IntKind.wrap .i64 ((n : Int) + a) - 1)).tdiv a) * a) = ((upR n a : Nat) : Int) := by
  have e1 : IntKind.wrap .i64 ((n : Int) + a) = ((n + a : Nat) : Int) := by rw [w64 (by omega) (by omega)]; omega
  have e2 : IntKind.wrap .i64 (((n + a : Nat) : Int) - 1) = ((n + a - 1 : Nat) : Int) := by rw [w64 (by omega) (by omega)]; omega
  have e3 : (n + a - 1) / a ≤ n + a := Nat.le_trans (Nat.div_le_self _ _) (by omega)
  have e4 := (upR_bound (n := n) h1 h2).2
  have e5 : IntKind.wrap .i64 ((((n + a - 1) / a : Nat) : Int)) = (((n + a - 1) / a : Nat) : Int) := by
    generalize (n + a - 1) / a = d at *
    rw [w64 (by omega) (by omega)]
  rw [e1, e2, tdiv_nat, e5, ← Int.natCast_mul]
  show IntKind.wrap .i64 ((upR n a : Nat) : Int) = _
  rw [w64 (by omega) (by omega)]
theorem level_raised (n a : Nat) (hn : n ≤ 1000000000000000) (h1 : 1 ≤ a) (h2 : a ≤ 8) : CallT Try.prog 163 [iv n, iv a] [] (fun o A => o = .ret (iv (upR n a)) ∧ A = []) := by
  obtain ⟨b, rfl⟩ : ∃ b, a = b + 1 := ⟨a - 1, by omega⟩
  refine callS_body (n := 13) rfl rfl fun w ρ X => ?_
  refine runS_x (I := inf) (J := jnf) ⟨false, false, [], 0, 0⟩ 9999 rfl (by repeat (first | exact obs_nil | refine obs_draw (by kernel_rfl) ?_ | refine obs_same ?_ | refine obs_and ?_ | refine obs_by (by (simp [inB] <;> omega)) ?_)) ?_
  refine runS_ret (I := inf) 0 rfl (Nat.le_refl _) rfl .nil rfl ⟨?_, rfl⟩
  exact congrArg (fun x => Out.ret (iv x)) (up_int n (b + 1) hn h1 h2)
theorem half_int (p : Int) (c d : Nat) (h : 0 ≤ p) (h2 : p ≤ 300) (hc : c ≤ 7) (hd : 0 < d) : IntKind.wrap .i64 ((IntKind.wrap .i64 (p + c)).tdiv d) = (((p.toNat + c) / d : Nat) : Int) := by
  obtain ⟨m, rfl⟩ : ∃ m : Nat, p = m := ⟨p.toNat, by omega⟩
  have e : (m + c) / d ≤ m + c := Nat.div_le_self _ _
  have e1 : IntKind.wrap .i64 ((m : Int) + c) = ((m + c : Nat) : Int) := by rw [w64 (by omega) (by omega)]; omega
  rw [e1, tdiv_nat, Int.toNat_natCast]
  generalize (m + c) / d = x at *
  rw [w64 (by omega) (by omega)]
end Go.Iron.Try

/- The level package: the reference's laid. -/
namespace Go.Iron.Try
open Go.Proofs

theorem kidsL_prefix (l : List Fld) (i : Nat) : ∀ (c k : Nat), ∃ r, kidsL l (k + c) i = kidsL l k i ++ r
  | 0, k => ⟨[], by simp⟩
  | c + 1, k => by
    obtain ⟨r, hr⟩ := kidsL_prefix l i c k
    rw [← Nat.add_assoc, kidsL_succ, hr]
    by_cases h : par l (k + c) = some i
    · exact ⟨r ++ [k + c], by rw [if_pos h, List.append_assoc]⟩
    · exact ⟨r, by rw [if_neg h]⟩
def stK (l : List Fld) (cnt : Nat → Nat) (i k : Nat) : Nat × Nat × Nat := (kidsL l k i).foldl (stepL (lay l cnt) l cnt (fat l i).union) (0, 0, 1)
theorem stK_P {l : List Fld} {cnt : Nat → Nat} {i k : Nat} (h : k ≤ l.length) : stK l cnt i k = stP l cnt i (kidsL l k i).length ∧ (kidsL l k i).length ≤ (kidsA l i).length := by
  obtain ⟨r, hr⟩ := kidsL_prefix l i (l.length - k) k
  rw [show k + (l.length - k) = l.length by omega] at hr
  have e : kidsA l i = kidsL l k i ++ r := hr
  refine ⟨?_, by rw [e]; simp⟩
  rw [stK, stP, e, List.take_left]
theorem stK_succ {l : List Fld} {cnt : Nat → Nat} {i k : Nat} : stK l cnt i (k + 1) = if par l k = some i then stepL (lay l cnt) l cnt (fat l i).union (stK l cnt i k) k else stK l cnt i k := by
  rw [stK, kidsL_succ]
  by_cases h : par l k = some i
  · rw [if_pos h, if_pos h, List.foldl_append]; rfl
  · rw [if_neg h, if_neg h]; rfl
theorem stP_mono {l : List Fld} {cnt : Nat → Nat} {i : Nat} : ∀ (c p : Nat), p + c ≤ (kidsA l i).length → (stP l cnt i p).2.1 ≤ (stP l cnt i (p + c)).2.1 ∧ (stP l cnt i p).2.2 ≤ (stP l cnt i (p + c)).2.2
  | 0, p, _ => ⟨Nat.le_refl _, Nat.le_refl _⟩
  | c + 1, p, h => by
    have h1 := stP_mono (l := l) (cnt := cnt) (i := i) c p (by omega)
    rw [← Nat.add_assoc, stP_succ (by omega)]
    simp only [stepL]
    omega
theorem stP_at {l : List Fld} {cnt : Nat → Nat} {i : Nat} : ∀ p, p ≤ (kidsA l i).length → (stP l cnt i p).1 ≤ (stP l cnt i p).2.1
  | 0, _ => Nat.le_refl _
  | p + 1, h => by
    rw [stP_succ (by omega)]
    simp only [stepL]
    omega
theorem lay_le {l : List Fld} {cnt : Nat → Nat} (ok : LayOK l cnt) (hl : l.length ≤ 200) {i : Nat} (hi : i < l.length) : (lay l cnt i).1 ≤ 1000000000000 ∧ 1 ≤ (lay l cnt i).2 ∧ (lay l cnt i).2 ≤ 8 := by
  obtain ⟨h1, h2⟩ := lay_bound ok l.length i hi (by omega)
  have h3 := h2 l.length fun d hd _ => hd
  have h4 := bigK_le (arrs l i)
  have : (l.length - i) * bigK (arrs l i) ≤ 200 * 4096000000 := Nat.mul_le_mul (by omega) h4
  omega
theorem stP_le {l : List Fld} {cnt : Nat → Nat} {i p : Nat} (hi : i < l.length) (hk : 0 < (kidsA l i).length) (hp : p ≤ (kidsA l i).length) : (stP l cnt i p).1 ≤ (lay l cnt i).1 ∧ (stP l cnt i p).2.1 ≤ (lay l cnt i).1 ∧ (stP l cnt i p).2.2 ≤ (lay l cnt i).2 := by
  have h1 := stP_mono (l := l) (cnt := cnt) (i := i) ((kidsA l i).length - p) p (by omega)
  rw [show p + ((kidsA l i).length - p) = (kidsA l i).length by omega] at h1
  have h2 := stP_at (l := l) (cnt := cnt) (i := i) p hp
  rw [lay_inner hi hk]
  omega
def tkK (l : List Fld) (cnt : Nat → Nat) (k : Nat) : Nat := takeN (lay l cnt k).1 (lay l cnt k).2 (cnt k) (isArr l k)
def offK (l : List Fld) (cnt : Nat → Nat) (k : Nat) : Nat := match par l k with
  | some i => upR (if (fat l i).union then 0 else (stK l cnt i k).1) (lay l cnt k).2
  | none => 0
theorem stK_kid {l : List Fld} {cnt : Nat → Nat} {i k : Nat} (h : par l k = some i) : (stK l cnt i (k + 1)) = (offK l cnt k + tkK l cnt k, max (stK l cnt i k).2.1 (offK l cnt k + tkK l cnt k), max (stK l cnt i k).2.2 (lay l cnt k).2) := by
  rw [stK_succ, if_pos h, offK, h]
  rfl
theorem off_le {l : List Fld} {cnt : Nat → Nat} {i k : Nat} (hi : i < l.length) (hk : k ∈ kidsA l i) : offK l cnt k + tkK l cnt k ≤ (lay l cnt i).1 := by
  obtain ⟨h1, h2⟩ := mem_kids.1 hk
  obtain ⟨h3, h4⟩ := stK_P (l := l) (cnt := cnt) (i := i) (k := k + 1) (by omega)
  have h5 := (stP_le (cnt := cnt) hi (List.length_pos_of_mem hk) h4).1
  rw [← h3, stK_kid h2] at h5
  exact h5
def spotK (l : List Fld) (cnt : Nat → Nat) (k : Nat) : Nat × Nat × Nat := (offK l cnt k, (lay l cnt k).1, upR (lay l cnt k).1 (lay l cnt k).2)
def spE (x : Nat × Nat × Nat) : List AV := [iv x.1, iv x.2.1, iv x.2.2]
/-- What is within the members of i before k. -/
def withinK (l : List Fld) (i k j : Nat) : Bool := (kidsL l k i).any fun c => decide (c ∈ anc l j)
theorem anc_kid {l : List Fld} {k j : Nat} (hj : j < l.length) (hne : j ≠ k) : decide (k ∈ anc l j) = withinK l k l.length j := by
  rw [Bool.eq_iff_iff, decide_eq_true_iff, withinK, List.any_eq_true]
  constructor
  · revert hj hne
    induction j using Nat.strongRecOn with
    | ind j ih =>
      intro hj hne h
      rcases mem_anc.1 h with h' | ⟨p, hp, hk⟩
      · exact absurd h'.symm hne
      · have hpj := par_lt hp
        by_cases hpk : p = k
        · subst hpk
          exact ⟨j, mem_kids.2 ⟨hj, hp⟩, by simpa using anc_self l j⟩
        · obtain ⟨c, hc, ha⟩ := ih p hpj (by omega) hpk hk
          exact ⟨c, hc, by simp at ha ⊢; exact mem_anc.2 (.inr ⟨p, hp, ha⟩)⟩
  · rintro ⟨c, hc, ha⟩
    exact anc_trans (kid_anc hc) (by simpa using ha)
theorem max_nat (a b : Nat) : (if (b : Int) > a then (b : Int) else a) = ((max a b : Nat) : Int) := by
  split <;> omega

end Go.Iron.Try

/- The level package: Layout, as a function; the reference's. -/
namespace Go.Iron.Try
open Go.Proofs

def isRef (l : List Fld) (k : Nat) : Bool := decide (0 ≤ (fat l k).refer)
/-- How many of the first i have a Refer. -/
def rfN (l : List Fld) (i : Nat) : Nat := (List.range i).countP (isRef l)
theorem rfN_succ (l : List Fld) (i : Nat) : rfN l (i + 1) = rfN l i + if isRef l i then 1 else 0 := by
  rw [rfN, List.range_succ, List.countP_append]; simp [rfN]
theorem rfN_le (l : List Fld) (i : Nat) : rfN l i ≤ i := by
  have : rfN l i ≤ (List.range i).length := List.countP_le_length
  simpa using this
def cntV (l : List Fld) (vals : List Int) (i : Nat) : Int := if isRef l i then vals.getD (rfN l i) 0 else (fat l i).count
def vok (l : List Fld) (vals : List Int) (k : Nat) : Bool := !isRef l k || (decide (rfN l k < vals.length) && decide ((fat l k).count ≤ vals.getD (rfN l k) 0) && decide (vals.getD (rfN l k) 0 ≤ 200))
def valsOK (l : List Fld) (vals : List Int) : Bool := (List.range l.length).all (vok l vals) && rfN l l.length == vals.length
def cntN (l : List Fld) (vals : List Int) (i : Nat) : Nat := (cntV l vals i).toNat
abbrev Spot3 := Nat × Nat × Nat
def spotS (nl : Option Bool) (xs : List Spot3) : AV := .slc 3 nl xs.length (encR spE (0, 0, 0) xs)
def spotsL (l : List Fld) (cnt : Nat → Nat) : List Spot3 := (List.range l.length).map (spotK l cnt)
def layoutF (l : List Fld) (vals : List Int) : List Spot3 × Int :=
  if validF l then (if valsOK l vals then (if tkK l (cntN l vals) 0 ≤ 1000000 then (spotsL l (cntN l vals), 0) else ([], 4)) else ([], 11)) else ([], 1)
def layoutA (x : List Spot3 × Int) : AV := .tup [spotS none x.1, iv x.2]

theorem valid_all {l : List Fld} (h : validF l = true) {i : Nat} (hi : i < l.length) : okA l i = true := by
  simp only [validF, okPre, Bool.and_eq_true, allR] at h
  exact h.2 i hi
theorem base_all {l : List Fld} (h : validF l = true) {i : Nat} (hi : i < l.length) : 1 ≤ (fat l i).level ∧ (fat l i).level ≤ 255 ∧ (0 < i → 2 ≤ (fat l i).level) ∧ 0 ≤ (fat l i).count ∧ (fat l i).count ≤ 200 ∧ nameB (fat l i).name = true := by
  have := valid_all h hi
  simp only [okA, baseOK, inR, Bool.and_eq_true, decide_eq_true_eq, Bool.not_eq_true', Bool.and_eq_false_iff, decide_eq_false_iff_not] at this
  exact ⟨by omega, by omega, by omega, by omega, by omega, this.1.1.1.1.1.2⟩
theorem level0 {l : List Fld} (h : validF l = true) : (fat l 0).level = 1 := by
  simp only [validF, Bool.and_eq_true, beq_iff_eq] at h
  exact h.1.2
theorem par_all {l : List Fld} (h : validF l = true) {i : Nat} (hi : i < l.length) (h0 : 0 < i) : ∃ p, par l i = some p ∧ p < i := by
  have := (base_all h hi).2.2.1 h0
  obtain ⟨q, hq, _⟩ := upN_ge (l := l) (v := (fat l i).level) (p := 0) (by rw [level0 h]; omega) h0
  exact ⟨q, hq, par_lt hq⟩
theorem anc0 {l : List Fld} (h : validF l = true) : ∀ j, j < l.length → 0 ∈ anc l j := by
  intro j
  induction j using Nat.strongRecOn with
  | ind j ih =>
    intro hj
    by_cases h0 : j = 0
    · subst h0; exact anc_self l 0
    · obtain ⟨p, hp, hpj⟩ := par_all h hj (by omega)
      exact mem_anc.2 (.inr ⟨p, hp, ih p hpj (by omega)⟩)
theorem vok_all {l : List Fld} {vals : List Int} (h : valsOK l vals = true) {k : Nat} (hk : k < l.length) : vok l vals k = true := by
  simp only [valsOK, Bool.and_eq_true, allR] at h
  exact h.1 k hk
theorem cnt_bounds {l : List Fld} {vals : List Int} (hv : validF l = true) (h : valsOK l vals = true) {k : Nat} (hk : k < l.length) : (fat l k).count ≤ cntV l vals k ∧ cntV l vals k ≤ 200 := by
  have h1 := vok_all h hk
  have h2 := base_all hv hk
  unfold cntV
  unfold vok at h1
  cases hr : isRef l k with
  | false => simp only [Bool.false_eq_true, if_false]; omega
  | true =>
    rw [hr] at h1
    simp only [Bool.not_true, Bool.false_or, Bool.and_eq_true, decide_eq_true_eq] at h1
    simp only [if_true]
    omega
theorem cntN_int {l : List Fld} {vals : List Int} (hv : validF l = true) (h : valsOK l vals = true) {k : Nat} (hk : k < l.length) : ((cntN l vals k : Nat) : Int) = cntV l vals k := by
  have := cnt_bounds hv h hk
  have := base_all hv hk
  unfold cntN
  omega
theorem layOK_of {l : List Fld} {vals : List Int} (hv : validF l = true) (h : valsOK l vals = true) : LayOK l (cntN l vals) where
  typ := fun i hi hk => by
    have := valid_all hv hi
    simp only [okA, Bool.and_eq_true] at this
    have h2 := this.1.1.1.2
    rw [kindOK, inner_kids hi, decide_eq_false hk] at h2
    simp at h2
    exact h2.1
  arr := fun i hi => by
    have := valid_all hv hi
    simp only [okA, Bool.and_eq_true, decide_eq_true_eq] at this
    exact this.1.2
  most := fun i hi => by
    have := cnt_bounds hv h hi
    have := cntN_int hv h hi
    omega
  one := fun i hi ha => by
    have := cnt_bounds hv h hi
    have := cntN_int hv h hi
    have : 0 < (fat l i).count := by simpa [isArr] using ha
    omega
abbrev nilSp : Nat → List AV := encR spE (0, 0, 0) []
theorem not_vals {l : List Fld} {vals : List Int} {k : Nat} (hk : k < l.length) (h : vok l vals k = false) : valsOK l vals = false := by
  rw [valsOK, allPre_false hk h]; rfl

end Go.Iron.Try

/- The level package: sizes of types, in the program. -/
namespace Go.Iron.Try
open Go.Proofs

theorem size_178 (a b : Int) : CallT Try.prog 178 [iv a, iv b] [] (fun o A => o = .ret (fnA 179 [cel a, cel b]) ∧ A = []) := by
  refine callS_body (n := 6) rfl rfl fun w ρ X => ?_
  refine runS_x (I := inf) (J := jnf) ⟨false, false, [], 0, 0⟩ 9999 rfl (by repeat (first | exact obs_nil | refine obs_draw (by kernel_rfl) ?_ | refine obs_same ?_ | refine obs_and ?_ | refine obs_by (by (simp [inB] <;> omega)) ?_)) ?_
  refine runS_freezeBox 0 rfl rfl rfl ?_
  refine runS_freezeBox 1 rfl rfl rfl ?_
  refine runS_drop 0 (Nat.zero_le _) rfl (by repeat (first | exact .nil | refine .row (fun j hj => rfl) ?_ | refine .box rfl ?_ | refine .fam (fun k j hk hj => rfl) ?_ | refine .loop (scrub_under _ _) ?_ | refine .dfr ?_ | refine .gone ?_ | refine .map (fun p hp => by (obtain ⟨k, _, rfl⟩ := List.mem_map.1 hp; rfl)) ?_)) rfl rfl rfl (by repeat (first | exact .nil | refine .cons rfl rfl rfl (scrub_under _ _) ?_)) ?_
  refine runS_ret (I := inf) 0 rfl (Nat.le_refl _) rfl .nil rfl ⟨?_, rfl⟩
  rfl
theorem size_181 (a : Int) : CallT Try.prog 181 [iv a] [] (fun o A => o = .ret (fnA 182 [cel a]) ∧ A = []) := by
  refine callS_body (n := 4) rfl rfl fun w ρ X => ?_
  refine runS_x (I := inf) (J := jnf) ⟨false, false, [], 0, 0⟩ 9999 rfl (by repeat (first | exact obs_nil | refine obs_draw (by kernel_rfl) ?_ | refine obs_same ?_ | refine obs_and ?_ | refine obs_by (by (simp [inB] <;> omega)) ?_)) ?_
  refine runS_freezeBox 0 rfl rfl rfl ?_
  refine runS_drop 0 (Nat.zero_le _) rfl (by repeat (first | exact .nil | refine .row (fun j hj => rfl) ?_ | refine .box rfl ?_ | refine .fam (fun k j hk hj => rfl) ?_ | refine .loop (scrub_under _ _) ?_ | refine .dfr ?_ | refine .gone ?_ | refine .map (fun p hp => by (obtain ⟨k, _, rfl⟩ := List.mem_map.1 hp; rfl)) ?_)) rfl rfl rfl (by repeat (first | exact .nil | refine .cons rfl rfl rfl (scrub_under _ _) ?_)) ?_
  refine runS_ret (I := inf) 0 rfl (Nat.le_refl _) rfl .nil rfl ⟨?_, rfl⟩
  rfl
theorem size_179 (a b : Int) (t : Typ) : CallT Try.prog 179 [.agg (typE t), cel a, cel b] [] (fun o A => o = .ret (.tup [iv a, iv b]) ∧ A = []) := by
  refine callS_body (n := 8) rfl rfl fun w ρ X => ?_
  refine runS_x (I := inf) (J := jnf) ⟨false, false, [], 0, 0⟩ 9999 rfl (by repeat (first | exact obs_nil | refine obs_draw (by kernel_rfl) ?_ | refine obs_same ?_ | refine obs_and ?_ | refine obs_by (by (simp [inB] <;> omega)) ?_)) ?_
  refine runS_ret (I := inf) 0 rfl (Nat.le_refl _) rfl .nil rfl ⟨?_, rfl⟩
  rfl
def varN (t : Typ) : Nat := if t.vary then 2 else 0
theorem size_180 (t : Typ) (n : Nat) (hn : n < 1000000000) {x : Int} (hx : x = n) : CallT Try.prog 180 [.agg (typE t), iv x] [] (fun o A => o = .ret (.tup [iv ((n + varN t : Nat) : Int), iv 1]) ∧ A = []) := by
  subst hx
  refine callS_body (n := 11) rfl rfl fun w ρ X => ?_
  refine runS_x (I := inf) (J := jnf) ⟨false, false, [], 0, 0⟩ 9999 rfl (by repeat (first | exact obs_nil | refine obs_draw (by kernel_rfl) ?_ | refine obs_same ?_ | refine obs_and ?_ | refine obs_by (by (simp [inB] <;> omega)) ?_)) ?_
  refine runS_cond rfl (fun h => ?_) (fun h => ?_)
  · refine runS_x (I := inf) (J := jnf) ⟨false, false, [], 0, 0⟩ 9999 rfl (by repeat (first | exact obs_nil | refine obs_draw (by kernel_rfl) ?_ | refine obs_same ?_ | refine obs_and ?_ | refine obs_by (by (simp [inB] <;> omega)) ?_)) ?_
    refine runS_ret (I := inf) 0 rfl (Nat.le_refl _) rfl .nil rfl ⟨?_, rfl⟩
    have h' : t.vary = true := h
    show Out.ret (.tup [iv (IntKind.wrap .i64 ((n : Int) + 2)), iv 1]) = _
    rw [w64 (by omega) (by omega), varN, h']
    rfl
  · refine runS_x (I := inf) (J := jnf) ⟨false, false, [], 0, 0⟩ 9999 rfl (by repeat (first | exact obs_nil | refine obs_draw (by kernel_rfl) ?_ | refine obs_same ?_ | refine obs_and ?_ | refine obs_by (by (simp [inB] <;> omega)) ?_)) ?_
    refine runS_ret (I := inf) 0 rfl (Nat.le_refl _) rfl .nil rfl ⟨?_, rfl⟩
    have h' : t.vary = false := h
    rw [varN, h']
    rfl
theorem size_183 (t : Typ) (h1 : 0 ≤ t.p) (h2 : t.p ≤ 300) : CallT Try.prog 183 [.agg (typE t)] [] (fun o A => o = .ret (.tup [iv (((t.p.toNat + 2) / 2 : Nat) : Int), iv 1]) ∧ A = []) := by
  refine callS_body (n := 8) rfl rfl fun w ρ X => ?_
  refine runS_x (I := inf) (J := jnf) ⟨false, false, [], 0, 0⟩ 9999 rfl (by repeat (first | exact obs_nil | refine obs_draw (by kernel_rfl) ?_ | refine obs_same ?_ | refine obs_and ?_ | refine obs_by (by (simp [inB] <;> omega)) ?_)) ?_
  refine runS_ret (I := inf) 0 rfl (Nat.le_refl _) rfl .nil rfl ⟨?_, rfl⟩
  rw [← half_int t.p 2 2 h1 h2 (by omega) (by omega)]
  rfl
theorem size_186 (t : Typ) (h : t.pic.length < 9223372036854775807) : CallT Try.prog 186 [.agg (typE t)] [] (fun o A => o = .ret (.tup [iv (t.pic.length : Int), iv 1]) ∧ A = []) := by
  refine callS_body (n := 7) rfl rfl fun w ρ X => ?_
  refine runS_x (I := inf) (J := jnf) ⟨false, false, [], 0, 0⟩ 9999 rfl (by repeat (first | exact obs_nil | refine obs_draw (by kernel_rfl) ?_ | refine obs_same ?_ | refine obs_and ?_ | refine obs_by (by (simp [inB] <;> omega)) ?_)) ?_
  refine runS_ret (I := inf) 0 rfl (Nat.le_refl _) rfl .nil rfl ⟨?_, rfl⟩
  rfl
abbrev varC : AV := .loc [fnA 180 []] 0
theorem size_184 (t : Typ) (h1 : 0 ≤ t.n) (h2 : t.n < 1000000000) : CallT Try.prog 184 [.agg (typE t), varC] [] (fun o A => o = .ret (.tup [iv ((t.n.toNat + varN t : Nat) : Int), iv 1]) ∧ A = []) := by
  obtain ⟨k, p, q, n, v, pic⟩ := t
  dsimp only at h1 h2
  obtain ⟨m, rfl⟩ : ∃ m : Nat, n = m := ⟨n.toNat, by omega⟩
  refine callS_body (n := 12) rfl rfl fun w ρ X => ?_
  refine runS_x (I := inf) (J := jnf) ⟨false, false, [], 0, 0⟩ 9999 rfl (by repeat (first | exact obs_nil | refine obs_draw (by kernel_rfl) ?_ | refine obs_same ?_ | refine obs_and ?_ | refine obs_by (by (simp [inB] <;> omega)) ?_)) ?_
  refine runS_call rfl rfl rfl rfl rfl rfl rfl (size_180 ⟨k, p, q, m, v, pic⟩ m (by omega) rfl) ?_
  refine runS_x (I := inf) (J := jnf) ⟨false, false, [], 0, 0⟩ 9999 rfl (by repeat (first | exact obs_nil | refine obs_draw (by kernel_rfl) ?_ | refine obs_same ?_ | refine obs_and ?_ | refine obs_by (by (simp [inB] <;> omega)) ?_)) ?_
  refine runS_ret (I := inf) 0 rfl (Nat.le_refl _) rfl .nil rfl ⟨?_, rfl⟩
  rfl
theorem size_185 (t : Typ) (h1 : 0 ≤ t.n) (h2 : t.n ≤ 300) : CallT Try.prog 185 [.agg (typE t), varC] [] (fun o A => o = .ret (.tup [iv (((t.n.toNat + 7) / 8 + varN t : Nat) : Int), iv 1]) ∧ A = []) := by
  obtain ⟨k, p, q, n, v, pic⟩ := t
  dsimp only at h1 h2
  obtain ⟨m, rfl⟩ : ∃ m : Nat, n = m := ⟨n.toNat, by omega⟩
  refine callS_body (n := 14) rfl rfl fun w ρ X => ?_
  refine runS_x (I := inf) (J := jnf) ⟨false, false, [], 0, 0⟩ 9999 rfl (by repeat (first | exact obs_nil | refine obs_draw (by kernel_rfl) ?_ | refine obs_same ?_ | refine obs_and ?_ | refine obs_by (by (simp [inB] <;> omega)) ?_)) ?_
  refine runS_call rfl rfl rfl rfl rfl rfl rfl (size_180 ⟨k, p, q, m, v, pic⟩ ((m + 7) / 8) (by omega) (half_int m 7 8 h1 h2 (by omega) (by omega))) ?_
  refine runS_x (I := inf) (J := jnf) ⟨false, false, [], 0, 0⟩ 9999 rfl (by repeat (first | exact obs_nil | refine obs_draw (by kernel_rfl) ?_ | refine obs_same ?_ | refine obs_and ?_ | refine obs_by (by (simp [inB] <;> omega)) ?_)) ?_
  refine runS_ret (I := inf) 0 rfl (Nat.le_refl _) rfl .nil rfl ⟨?_, rfl⟩
  rfl
abbrev litM : List (Value × AV) := mapPut (mapPut [] (Value.int .i64 2) (AV.val (Value.int .i64 15))) (Value.int .i64 4) (AV.val (Value.int .i64 6))
theorem lit_ok2 : okI .i64 litM (Value.int .i64 2) = true := rfl
theorem lit_ok4 : okI .i64 litM (Value.int .i64 4) = true := rfl
theorem size_182a (t : Typ) : CallT Try.prog 182 [.agg (typE t), cel 2] [] (fun o A => o = .ret (.tup [iv (if t.p ≤ 15 then 2 else 4), iv (if t.p ≤ 15 then 2 else 4)]) ∧ A = []) := by
  refine callS_body (n := 20) rfl rfl fun w ρ X => ?_
  refine runS_x (I := inf) (J := jnf) ⟨false, false, [], 0, 0⟩ 9999 rfl (by repeat (first | exact obs_nil | refine obs_draw (by kernel_rfl) ?_ | refine obs_same ?_ | refine obs_and ?_ | refine obs_by (by first | exact fun _ => lit_ok2 | (simp [inB] <;> omega)) ?_)) ?_
  refine runS_cond rfl (fun h => ?_) (fun h => ?_)
  · refine runS_x (I := inf) (J := jnf) ⟨false, false, [], 0, 0⟩ 9999 rfl (by repeat (first | exact obs_nil | refine obs_draw (by kernel_rfl) ?_ | refine obs_same ?_ | refine obs_and ?_ | refine obs_by (by (simp [inB] <;> omega)) ?_)) ?_
    refine runS_ret (I := inf) 0 rfl (Nat.le_refl _) rfl .nil rfl ⟨?_, rfl⟩
    have h' : t.p ≤ 15 := of_decide_eq_true h
    rw [if_pos h']; try rfl
  · refine runS_x (I := inf) (J := jnf) ⟨false, false, [], 0, 0⟩ 9999 rfl (by repeat (first | exact obs_nil | refine obs_draw (by kernel_rfl) ?_ | refine obs_same ?_ | refine obs_and ?_ | refine obs_by (by (simp [inB] <;> omega)) ?_)) ?_
    refine runS_ret (I := inf) 0 rfl (Nat.le_refl _) rfl .nil rfl ⟨?_, rfl⟩
    have h' : ¬ t.p ≤ 15 := of_decide_eq_false h
    rw [if_neg h']; try rfl
theorem size_182b (t : Typ) : CallT Try.prog 182 [.agg (typE t), cel 4] [] (fun o A => o = .ret (.tup [iv (if t.p ≤ 6 then 4 else 8), iv (if t.p ≤ 6 then 4 else 8)]) ∧ A = []) := by
  refine callS_body (n := 20) rfl rfl fun w ρ X => ?_
  refine runS_x (I := inf) (J := jnf) ⟨false, false, [], 0, 0⟩ 9999 rfl (by repeat (first | exact obs_nil | refine obs_draw (by kernel_rfl) ?_ | refine obs_same ?_ | refine obs_and ?_ | refine obs_by (by first | exact fun _ => lit_ok4 | (simp [inB] <;> omega)) ?_)) ?_
  refine runS_cond rfl (fun h => ?_) (fun h => ?_)
  · refine runS_x (I := inf) (J := jnf) ⟨false, false, [], 0, 0⟩ 9999 rfl (by repeat (first | exact obs_nil | refine obs_draw (by kernel_rfl) ?_ | refine obs_same ?_ | refine obs_and ?_ | refine obs_by (by (simp [inB] <;> omega)) ?_)) ?_
    refine runS_ret (I := inf) 0 rfl (Nat.le_refl _) rfl .nil rfl ⟨?_, rfl⟩
    have h' : t.p ≤ 6 := of_decide_eq_true h
    rw [if_pos h']; try rfl
  · refine runS_x (I := inf) (J := jnf) ⟨false, false, [], 0, 0⟩ 9999 rfl (by repeat (first | exact obs_nil | refine obs_draw (by kernel_rfl) ?_ | refine obs_same ?_ | refine obs_and ?_ | refine obs_by (by (simp [inB] <;> omega)) ?_)) ?_
    refine runS_ret (I := inf) 0 rfl (Nat.le_refl _) rfl .nil rfl ⟨?_, rfl⟩
    have h' : ¬ t.p ≤ 6 := of_decide_eq_false h
    rw [if_neg h']; try rfl
def sizesL : List AV := [.val .nilFunc, fnA 182 [cel 2], fnA 183 [], fnA 182 [cel 4], fnA 184 [varC], fnA 185 [varC], fnA 186 [], fnA 179 [cel 4, cel 4], fnA 179 [cel 8, cel 4], fnA 179 [cel 8, cel 4]]
theorem level_sizes : CallT Try.prog 161 [] [] (fun o A => o = .ret (.agg sizesL) ∧ A = []) := by
  refine callS_body (n := 17) rfl rfl fun w ρ X => ?_
  refine runS_x (I := inf) (J := jnf) ⟨false, false, [], 0, 0⟩ 9999 rfl (by repeat (first | exact obs_nil | refine obs_draw (by kernel_rfl) ?_ | refine obs_same ?_ | refine obs_and ?_ | refine obs_by (by (simp [inB] <;> omega)) ?_)) ?_
  refine runS_call rfl rfl rfl rfl rfl rfl rfl (size_181 2) ?_
  refine runS_x (I := inf) (J := jnf) ⟨false, false, [], 0, 0⟩ 9999 rfl (by repeat (first | exact obs_nil | refine obs_draw (by kernel_rfl) ?_ | refine obs_same ?_ | refine obs_and ?_ | refine obs_by (by (simp [inB] <;> omega)) ?_)) ?_
  refine runS_call rfl rfl rfl rfl rfl rfl rfl (size_181 4) ?_
  refine runS_x (I := inf) (J := jnf) ⟨false, false, [], 0, 0⟩ 9999 rfl (by repeat (first | exact obs_nil | refine obs_draw (by kernel_rfl) ?_ | refine obs_same ?_ | refine obs_and ?_ | refine obs_by (by (simp [inB] <;> omega)) ?_)) ?_
  refine runS_call rfl rfl rfl rfl rfl rfl rfl (size_178 4 4) ?_
  refine runS_x (I := inf) (J := jnf) ⟨false, false, [], 0, 0⟩ 9999 rfl (by repeat (first | exact obs_nil | refine obs_draw (by kernel_rfl) ?_ | refine obs_same ?_ | refine obs_and ?_ | refine obs_by (by (simp [inB] <;> omega)) ?_)) ?_
  refine runS_call rfl rfl rfl rfl rfl rfl rfl (size_178 8 4) ?_
  refine runS_x (I := inf) (J := jnf) ⟨false, false, [], 0, 0⟩ 9999 rfl (by repeat (first | exact obs_nil | refine obs_draw (by kernel_rfl) ?_ | refine obs_same ?_ | refine obs_and ?_ | refine obs_by (by (simp [inB] <;> omega)) ?_)) ?_
  refine runS_call rfl rfl rfl rfl rfl rfl rfl (size_178 8 4) ?_
  refine runS_freezeBox 1 rfl rfl rfl ?_
  refine runS_x (I := inf) (J := jnf) ⟨false, false, [], 0, 0⟩ 9999 rfl (by repeat (first | exact obs_nil | refine obs_draw (by kernel_rfl) ?_ | refine obs_same ?_ | refine obs_and ?_ | refine obs_by (by (simp [inB] <;> omega)) ?_)) ?_
  refine runS_ret (I := inf) 0 rfl (Nat.le_refl _) rfl .nil rfl ⟨?_, rfl⟩
  rfl
end Go.Iron.Try

/- The level package: the program's laying. -/
namespace Go.Iron.Try
open Go.Proofs

theorem keyEq_int (a b : Int) : keyEq (.int .i64 a) (.int .i64 b) = decide (a = b) := by
  show intEq a b = _
  rw [Bool.eq_iff_iff, intEq_iff]
  simp
def mpE (l : List Fld) (vals : List Int) (k : Nat) : Value × AV := (.int .i64 k, iv (vals.getD (rfN l k) 0))
/-- The counts asked of the caller, by the fields' numbers. -/
def mpK (l : List Fld) (vals : List Int) (i : Nat) : List (Value × AV) := ((List.range i).filter (isRef l)).map (mpE l vals)
theorem mpK_succ (l : List Fld) (vals : List Int) (i : Nat) : mpK l vals (i + 1) = if isRef l i then mpK l vals i ++ [mpE l vals i] else mpK l vals i := by
  rw [mpK, List.range_succ, List.filter_append]
  by_cases h : isRef l i = true
  · rw [if_pos h]; simp [h, mpK]
  · rw [if_neg h]; simp [h, mpK]
theorem mapFind_snoc (m : List (Value × AV)) (e : Value × AV) (k : Value) : mapFind (m ++ [e]) k = match mapFind m k with
    | some x => some x
    | none => if keyEq e.1 k then some e.2 else none := by
  induction m with
  | nil =>
    show (match keyEq e.1 k with | true => some e.2 | false => none) = _
    cases keyEq e.1 k <;> rfl
  | cons p m ih =>
    obtain ⟨a, x⟩ := p
    show (match keyEq a k with | true => some x | false => mapFind (m ++ [e]) k) = match (match keyEq a k with | true => some x | false => mapFind m k) with | some x => some x | none => _
    cases keyEq a k with
    | true => rfl
    | false => exact ih
theorem mapPut_new {k : Value} {y : AV} : ∀ {m : List (Value × AV)}, mapFind m k = none → mapPut m k y = m ++ [(k, y)]
  | [], _ => rfl
  | (a, x) :: m, h => by
    have h' : (match keyEq a k with | true => some x | false => mapFind m k) = none := h
    show (match keyEq a k with | true => (a, y) :: m | false => (a, x) :: mapPut m k y) = _
    cases hk : keyEq a k with
    | true => rw [hk] at h'; cases h'
    | false =>
      rw [hk] at h'
      rw [mapPut_new h']
      rfl
theorem mpK_find (l : List Fld) (vals : List Int) (k : Nat) : ∀ i, mapFind (mpK l vals i) (.int .i64 k) = if k < i ∧ isRef l k = true then some (iv (vals.getD (rfN l k) 0)) else none
  | 0 => by simp [mpK, mapFind]
  | i + 1 => by
    have ih := mpK_find l vals k i
    rw [mpK_succ]
    cases hi : isRef l i with
    | true =>
      have hk : keyEq (mpE l vals i).1 (.int .i64 k) = decide (i = k) := by
        show keyEq (.int .i64 i) (.int .i64 k) = _
        rw [keyEq_int, Bool.eq_iff_iff]
        simp
        omega
      rw [if_pos rfl, mapFind_snoc, ih, hk]
      by_cases hik : i = k
      · subst hik
        rw [if_neg (show ¬ (i < i ∧ isRef l i = true) from fun h => by omega), if_pos (show i < i + 1 ∧ isRef l i = true from ⟨by omega, hi⟩), decide_eq_true rfl]
        rfl
      · rw [decide_eq_false hik]
        by_cases hlt : k < i ∧ isRef l k = true
        · rw [if_pos hlt, if_pos (show k < i + 1 ∧ isRef l k = true from ⟨by omega, hlt.2⟩)]
        · rw [if_neg hlt, if_neg (show ¬ (k < i + 1 ∧ isRef l k = true) from fun h => hlt ⟨by omega, h.2⟩)]
          rfl
    | false =>
      rw [if_neg (by decide), ih]
      by_cases hlt : k < i ∧ isRef l k = true
      · rw [if_pos hlt, if_pos (show k < i + 1 ∧ isRef l k = true from ⟨by omega, hlt.2⟩)]
      · rw [if_neg hlt, if_neg (show ¬ (k < i + 1 ∧ isRef l k = true) from fun h => hlt ⟨by
          have : k ≠ i := fun e => by rw [e, hi] at h; cases h.2
          omega, h.2⟩)]
theorem mpK_put (l : List Fld) (vals : List Int) (i : Nat) (h : isRef l i = true) : mapPut (mpK l vals i) (.int .i64 i) (iv (vals.getD (rfN l i) 0)) = mpK l vals (i + 1) := by
  rw [mapPut_new (by rw [mpK_find, if_neg (by omega)]), mpK_succ, if_pos h]
  rfl
theorem mpK_has (l : List Fld) (vals : List Int) (k i : Nat) (hk : k < i) : hasK (mpK l vals i) (.int .i64 k) = isRef l k := by
  rw [hasK, mpK_find]
  cases h : isRef l k with
  | true => rw [if_pos ⟨hk, rfl⟩]
  | false => rw [if_neg (fun e => by cases e.2)]
theorem mpK_get (l : List Fld) (vals : List Int) (k i : Nat) (hk : k < i) : getI (mpK l vals i) (.int .i64 k) = if isRef l k then vals.getD (rfN l k) 0 else 0 := by
  rw [getI, mpK_find]
  cases h : isRef l k with
  | true => rw [if_pos ⟨hk, rfl⟩]; rfl
  | false => rw [if_neg (fun e => by cases e.2)]; rfl
theorem mpK_ok (l : List Fld) (vals : List Int) (k i : Nat) : okI .i64 (mpK l vals i) (.int .i64 k) = true := by
  rw [okI, mpK_find]
  by_cases h : k < i ∧ isRef l k = true
  · rw [if_pos h]
  · rw [if_neg h]

theorem kid_pos {l : List Fld} {i p : Nat} (hp : p < (kidsA l i).length) : (kidsL l ((kidsA l i).getD p 0) i).length = p := by
  obtain ⟨h1, h2⟩ := mem_kids.1 (kids_mem hp)
  generalize hc : (kidsA l i).getD p 0 = c at *
  obtain ⟨r, hr⟩ := kidsL_prefix l i (l.length - (c + 1)) (c + 1)
  rw [show c + 1 + (l.length - (c + 1)) = l.length by omega, kidsL_succ, if_pos h2] at hr
  have hr' : kidsA l i = kidsL l c i ++ [c] ++ r := hr
  have hq : (kidsL l c i).length < (kidsA l i).length := by rw [hr']; simp
  have hg : (kidsA l i).getD (kidsL l c i).length 0 = c := by
    rw [hr', List.append_assoc, List.getD_eq_getElem?_getD, List.getElem?_append_right (Nat.le_refl _), Nat.sub_self]
    rfl
  rcases Nat.lt_trichotomy (kidsL l c i).length p with h | h | h
  · have := kids_mono h hp; omega
  · exact h
  · have := kids_mono h hq; omega
theorem off_at {l : List Fld} {cnt : Nat → Nat} {i p : Nat} (hp : p < (kidsA l i).length) : offK l cnt ((kidsA l i).getD p 0) = upR (if (fat l i).union then 0 else (stP l cnt i p).1) (lay l cnt ((kidsA l i).getD p 0)).2 := by
  obtain ⟨h1, h2⟩ := mem_kids.1 (kids_mem hp)
  have h3 := (stK_P (l := l) (cnt := cnt) (i := i) (k := (kidsA l i).getD p 0) (by omega)).1
  rw [kid_pos hp] at h3
  rw [offK, h2, ← h3]
theorem stP_kid {l : List Fld} {cnt : Nat → Nat} {i p : Nat} (hp : p < (kidsA l i).length) : stP l cnt i (p + 1) = (offK l cnt ((kidsA l i).getD p 0) + tkK l cnt ((kidsA l i).getD p 0),
    max (stP l cnt i p).2.1 (offK l cnt ((kidsA l i).getD p 0) + tkK l cnt ((kidsA l i).getD p 0)), max (stP l cnt i p).2.2 (lay l cnt ((kidsA l i).getD p 0)).2) := by
  rw [stP_succ hp, off_at hp]
  rfl
/-- Outside a union the size so far is where the next may lie. -/
theorem stP_same {l : List Fld} {cnt : Nat → Nat} (ok : LayOK l cnt) {i : Nat} (hu : (fat l i).union = false) : ∀ p, p ≤ (kidsA l i).length → (stP l cnt i p).2.1 = (stP l cnt i p).1
  | 0, _ => rfl
  | p + 1, hp => by
    have hk := kids_mem (l := l) (i := i) (q := p) (by omega)
    obtain ⟨h1, h2⟩ := mem_kids.1 hk
    obtain ⟨b1, b2⟩ := (lay_bound ok l.length _ h1 (by omega)).1
    have h3 := off_at (cnt := cnt) (l := l) (i := i) (p := p) (by omega)
    rw [hu] at h3
    simp only [Bool.false_eq_true, if_false] at h3
    have h4 := (upR_bound (n := (stP l cnt i p).1) b1 b2).1
    have h5 := stP_same ok hu p (by omega)
    rw [stP_kid (by omega), h5]
    simp only
    omega
theorem off_union {l : List Fld} {cnt : Nat → Nat} (ok : LayOK l cnt) {i p : Nat} (hu : (fat l i).union = true) (hp : p < (kidsA l i).length) : offK l cnt ((kidsA l i).getD p 0) = 0 := by
  obtain ⟨h1, h2⟩ := mem_kids.1 (kids_mem hp)
  obtain ⟨b1, b2⟩ := (lay_bound ok l.length _ h1 (by omega)).1
  rw [off_at hp, hu]
  simp only [if_true]
  exact upR_zero (by omega)
theorem tk_ge {l : List Fld} {cnt : Nat → Nat} (ok : LayOK l cnt) {k : Nat} (hk : k < l.length) : (lay l cnt k).1 ≤ tkK l cnt k := by
  obtain ⟨b1, b2⟩ := (lay_bound ok l.length _ hk (by omega)).1
  unfold tkK takeN
  split
  · rename_i ha
    have h1 := ok.one k hk ha
    have h2 := (upR_bound (n := (lay l cnt k).1) b1 b2).1
    have : 1 * upR (lay l cnt k).1 (lay l cnt k).2 ≤ cnt k * upR (lay l cnt k).1 (lay l cnt k).2 := Nat.mul_le_mul_right _ h1
    omega
  · exact Nat.le_refl _

/-- Spots of which some have their offset (S), some their size (Z). -/
def sqR (l : List Fld) (cnt : Nat → Nat) (S Z : Nat → Bool) : Nat → List AV := fun k => [iv (if S k then offK l cnt k else 0 : Nat), iv (if Z k then (lay l cnt k).1 else 0 : Nat), iv (if Z k then upR (lay l cnt k).1 (lay l cnt k).2 else 0 : Nat)]
abbrev arnL (o0 o1 o2 o3 : AO) (l : List Fld) (vals : List Int) (R : Nat → List AV) : List AO := [o0, o1, o2, o3, .map 1 (some .i64) (mpK l vals l.length), .row 86 3 1 l.length R, .box 131 [treeS none l, .row 4 1, .row 5 1]]
abbrev lostL (o0 o1 o2 o3 : AO) : List AO := [o0, o1, o2, o3, .gone, .gone, .gone]
abbrev ptrL : AV := .ptr 6 0 0
def Kept4 (m : Nat) (o0 o1 o2 o3 : AO) : Prop := ∀ L, Kept m L → Kept m (o0 :: o1 :: o2 :: o3 :: L)
theorem kept_arn {o0 o1 o2 o3 : AO} (hk : Kept4 7 o0 o1 o2 o3) {l : List Fld} {vals : List Int} {R : Nat → List AV} (hR : ∀ j, j < l.length → AV.unders 7 (R j) = true) : Kept 7 (arnL o0 o1 o2 o3 l vals R) :=
  hk _ (.map (fun p hp => by
    obtain ⟨k, _, rfl⟩ := List.mem_map.1 hp
    rfl) (.row hR (.box rfl .nil)))
theorem level_count {o0 o1 o2 o3 : AO} (hk : Kept4 7 o0 o1 o2 o3) (l : List Fld) (vals : List Int) (S Z : Nat → Bool) (cnt : Nat → Nat) (k : Nat) (hkl : k < l.length) : CallT Try.prog 164 [ptrL, iv k] (arnL o0 o1 o2 o3 l vals (sqR l cnt S Z)) (fun o A => o = .ret (iv (cntV l vals k)) ∧ A = arnL o0 o1 o2 o3 l vals (sqR l cnt S Z)) := by
  have hok := mpK_ok l vals k l.length
  have hh := mpK_has l vals k l.length hkl
  have hg := mpK_get l vals k l.length hkl
  refine callS_body (n := 27) rfl rfl fun w ρ X => ?_
  refine runS_x (I := inf) (J := jnf) ⟨false, false, [], 0, 0⟩ 9999 rfl (by repeat (first | exact obs_nil | refine obs_draw (by kernel_rfl) ?_ | refine obs_same ?_ | refine obs_and ?_ | refine obs_by (by first | exact fun _ => hok | (simp [inB] <;> omega)) ?_)) ?_
  refine runS_cond rfl (fun h => ?_) (fun h => ?_)
  · have hr : isRef l k = true := hh.symm.trans h
    refine runS_x (I := inf) (J := jnf) ⟨false, false, [], 0, 0⟩ 9999 rfl (by repeat (first | exact obs_nil | refine obs_draw (by kernel_rfl) ?_ | refine obs_same ?_ | refine obs_and ?_ | refine obs_by (by (simp [inB] <;> omega)) ?_)) ?_
    refine runS_ret (I := inf) 7 rfl (Nat.le_refl _) rfl (kept_arn hk fun j hj => rfl) rfl ⟨?_, rfl⟩
    show Out.ret (iv (getI (mpK l vals l.length) (.int .i64 k))) = _
    rw [hg, cntV, hr]
    rfl
  · have hr : isRef l k = false := hh.symm.trans h
    refine runS_x (I := inf) (J := jnf) ⟨false, false, [], 0, 0⟩ 9999 rfl (by repeat (first | exact obs_nil | refine obs_draw (by kernel_rfl) ?_ | refine obs_same ?_ | refine obs_and ?_ | refine obs_by (by (simp [inB, hkl] <;> omega)) ?_)) ?_
    refine runS_ret (I := inf) 7 rfl (Nat.le_refl _) rfl (kept_arn hk fun j hj => rfl) rfl ⟨?_, rfl⟩
    rw [cntV, hr]
    rfl
/-- The program's own lay answers so. -/
def layQ (o0 o1 o2 o3 : AO) (l : List Fld) (vals : List Int) (cnt : Nat → Nat) (k : Nat) (S Z : Nat → Bool) (o : Out) (A : List AO) : Prop :=
  if tkK l cnt k ≤ 1000000 then o = .ret (.tup [iv (lay l cnt k).2, iv (tkK l cnt k)]) ∧ A = arnL o0 o1 o2 o3 l vals (sqR l cnt (fun j => S j || withinK l k l.length j) (fun j => Z j || decide (k ∈ anc l j)))
  else o = .pan (.ifc 170 (.agg [iv 4])) ∧ A = lostL o0 o1 o2 o3
def withinQ (o0 o1 o2 o3 : AO) (l : List Fld) (vals : List Int) (cnt : Nat → Nat) (k : Nat) (S Z : Nat → Bool) (o : Out) (A : List AO) : Prop :=
  if (lay l cnt k).1 ≤ 1000000 then o = .ret (.tup [iv (lay l cnt k).1, iv (lay l cnt k).2]) ∧ A = arnL o0 o1 o2 o3 l vals (sqR l cnt (fun j => S j || withinK l k l.length j) (fun j => Z j || withinK l k l.length j))
  else o = .pan (.ifc 170 (.agg [iv 4])) ∧ A = lostL o0 o1 o2 o3

/-- What is within the first p members of i. -/
def withinP (l : List Fld) (i p j : Nat) : Bool := ((kidsA l i).take p).any fun c => decide (c ∈ anc l j)
theorem withinP_succ {l : List Fld} {i p : Nat} (h : p < (kidsA l i).length) (j : Nat) : withinP l i (p + 1) j = (withinP l i p j || decide ((kidsA l i).getD p 0 ∈ anc l j)) := by
  rw [withinP, take_nextN h, List.any_append]
  simp [withinP]
theorem withinP_all (l : List Fld) (i : Nat) : withinP l i (kidsA l i).length = withinK l i l.length := by
  funext j
  rw [withinP, List.take_length]
  rfl
theorem sq_step {l : List Fld} {cnt : Nat → Nat} {i p : Nat} (S Z : Nat → Bool) (h : p < (kidsA l i).length) (j : Nat) (hj : j < l.length) : sqR l cnt (fun j => S j || withinP l i (p + 1) j) (fun j => Z j || withinP l i (p + 1) j) j =
    [iv (if j = (kidsA l i).getD p 0 then offK l cnt j else if ((S j || withinP l i p j) || withinK l ((kidsA l i).getD p 0) l.length j) then offK l cnt j else 0 : Nat),
     iv (if ((Z j || withinP l i p j) || decide ((kidsA l i).getD p 0 ∈ anc l j)) then (lay l cnt j).1 else 0 : Nat), iv (if ((Z j || withinP l i p j) || decide ((kidsA l i).getD p 0 ∈ anc l j)) then upR (lay l cnt j).1 (lay l cnt j).2 else 0 : Nat)] := by
  unfold sqR
  simp only [withinP_succ h, ← Bool.or_assoc]
  by_cases hjc : j = (kidsA l i).getD p 0
  · rw [if_pos hjc]
    have : decide ((kidsA l i).getD p 0 ∈ anc l j) = true := by rw [← hjc]; exact decide_eq_true (anc_self l j)
    rw [this, Bool.or_true, if_pos rfl]
  · rw [if_neg hjc, ← anc_kid hj hjc]
theorem level_within1 {o0 o1 o2 o3 : AO} (hk : Kept4 7 o0 o1 o2 o3) (l : List Fld) (vals : List Int) (cnt : Nat → Nat) (ok : LayOK l cnt) (hl : l.length ≤ 200) (i : Nat) (hi : i < l.length) (hin : 0 < (kidsA l i).length)
    (IH : ∀ c, c ∈ kidsA l i → ∀ S Z, CallT Try.prog 118 [ptrL, iv c] (arnL o0 o1 o2 o3 l vals (sqR l cnt S Z)) (layQ o0 o1 o2 o3 l vals cnt c S Z)) (S Z : Nat → Bool) :
    CallT Try.prog 162 [ptrL, .agg (nodE l i (kidC l i))] (arnL o0 o1 o2 o3 l vals (sqR l cnt S Z)) (withinQ o0 o1 o2 o3 l vals cnt i S Z) := by
  have hkl : (kidsA l i).length ≤ l.length := by have := List.length_filter_le (fun k => par l k == some i) (List.range l.length); simpa [kidsA, kidsL] using this
  refine callS_body (n := 55) rfl rfl fun w ρ X => ?_
  refine runS_x (I := inf) (J := jnf) ⟨false, false, [], 0, 0⟩ 9999 rfl (by repeat (first | exact obs_nil | refine obs_draw (by kernel_rfl) ?_ | refine obs_same ?_ | refine obs_and ?_ | refine obs_by (by (simp [inB] <;> omega)) ?_)) ?_
  refine runS_while (fun (p : Nat) τ ar => (τ 0 = ptrL ∧ τ 3 = .ptr 7 0 0 ∧ τ 4 = iv (stP l cnt i p).2.1 ∧ τ 5 = iv (stP l cnt i p).2.2 ∧ τ 6 = iv (if (fat l i).union then 0 else (stP l cnt i p).1 : Nat) ∧ τ 12 = kidC l i ∧ τ 13 = iv (kidsA l i).length ∧ τ 14 = iv p) ∧
    ar = arnL o0 o1 o2 o3 l vals (sqR l cnt (fun j => S j || withinP l i p j) (fun j => Z j || withinP l i p j)) ++ [.box 144 (nodE l i (kidC l i))] ∧ p ≤ (kidsA l i).length ∧ ∀ q, q < p → tkK l cnt ((kidsA l i).getD q 0) ≤ 1000000) (fun p => (kidsA l i).length - p) 0
    ⟨⟨rfl, rfl, rfl, rfl, ?_, rfl, rfl, rfl⟩, ?_, Nat.zero_le _, fun q h => by omega⟩ ?_
  · show iv (0 : Int) = _
    cases (fat l i).union <;> rfl
  · have : (fun j => S j || withinP l i 0 j) = S := by funext j; simp [withinP]
    have h2 : (fun j => Z j || withinP l i 0 j) = Z := by funext j; simp [withinP]
    rw [this, h2]
    rfl
  rintro p τ' ar' ⟨⟨g0, g3, g4, g5, g6, g12, g13, g14⟩, rfl, hp, hqs⟩ ih
  refine runS_says 0 (by exact g0) (Says.refl _) ?_; refine runS_says 3 (by exact g3) (Says.refl _) ?_; refine runS_says 4 (by exact g4) (Says.refl _) ?_; refine runS_says 5 (by exact g5) (Says.refl _) ?_; refine runS_says 6 (by exact g6) (Says.refl _) ?_; refine runS_says 12 (by exact g12) (Says.refl _) ?_; refine runS_says 13 (by exact g13) (Says.refl _) ?_; refine runS_says 14 (by exact g14) (Says.refl _) ?_
  refine runS_x (I := inf) (J := jnf) ⟨false, false, [], 0, 0⟩ 9999 rfl (by repeat (first | exact obs_nil | refine obs_draw (by kernel_rfl) ?_ | refine obs_same ?_ | refine obs_and ?_ | refine obs_by (by (simp [inB] <;> omega)) ?_)) ?_
  refine runS_cond rfl (fun hc => ?_) (fun hc => ?_)
  · have hpl : p < (kidsA l i).length := by simpa using hc
    have hw2 : IntKind.wrap .i64 ((p : Int) + 1) = ((p + 1 : Nat) : Int) := by rw [w64 (by omega) (by omega)]; rfl
    have hkm := kids_mem hpl
    obtain ⟨hcl, hpar⟩ := mem_kids.1 hkm
    have hpl' : p < kidsN l l.length i := hpl
    have hce : (natR (kidsL l l.length i) p) = [iv ((kidsA l i).getD p 0 : Nat)] := rfl
    refine runS_x (I := inf) (J := jnf) ⟨false, false, [], 0, 0⟩ 9999 rfl (by repeat (first | exact obs_nil | refine obs_draw (by kernel_rfl) ?_ | refine obs_same ?_ | refine obs_and ?_ | refine obs_by (by (simp [inB, hpl'] <;> omega)) ?_)) ?_
    by_cases ht : tkK l cnt ((kidsA l i).getD p 0) ≤ 1000000
    · have hq : ∀ S Z, layQ o0 o1 o2 o3 l vals cnt ((kidsA l i).getD p 0) S Z = fun o A => o = .ret (.tup [iv (lay l cnt ((kidsA l i).getD p 0)).2, iv (tkK l cnt ((kidsA l i).getD p 0))]) ∧ A = arnL o0 o1 o2 o3 l vals (sqR l cnt (fun j => S j || withinK l ((kidsA l i).getD p 0) l.length j) (fun j => Z j || decide ((kidsA l i).getD p 0 ∈ anc l j))) :=
        fun S Z => by funext o A; rw [layQ, if_pos ht]
      have hcall := IH _ hkm (fun j => S j || withinP l i p j) (fun j => Z j || withinP l i p j)
      rw [hq] at hcall
      refine runS_callF (arnL o0 o1 o2 o3 l vals (sqR l cnt (fun j => S j || withinP l i p j) (fun j => Z j || withinP l i p j))) (arnL o0 o1 o2 o3 l vals (sqR l cnt (fun j => (S j || withinP l i p j) || withinK l ((kidsA l i).getD p 0) l.length j) (fun j => (Z j || withinP l i p j) || decide ((kidsA l i).getD p 0 ∈ anc l j)))) [.box 144 (nodE l i (kidC l i))] rfl rfl rfl rfl rfl (show _ = [ptrL, iv ((kidsA l i).getD p 0 : Nat)] from rfl) rfl (kept_arn hk fun j hj => rfl) rfl rfl hcall ?_
      obtain ⟨b1, b2, b3⟩ := lay_le ok hl hcl
      have b4 := (lay_le ok hl hi).1
      have b5 := off_le (cnt := cnt) hi hkm
      obtain ⟨e1, e2, e3⟩ := stP_le (cnt := cnt) hi hin hp
      have hst := stP_kid (cnt := cnt) hpl
      have hcl' : inB (((kidsA l i).getD p 0 : Nat) : Int) l.length = true := inB_nat hcl
      refine runS_x (I := inf) (J := jnf) ⟨false, false, [], 0, 0⟩ 9999 rfl (by repeat (first | exact obs_nil | refine obs_draw (by kernel_rfl) ?_ | refine obs_same ?_ | refine obs_and ?_ | refine obs_by (by (simp [inB] <;> omega)) ?_)) ?_
      refine runS_says 8 (show _ = iv ((kidsA l i).getD p 0 : Nat) from rfl) (Says.refl _) ?_
      refine runS_cond rfl (fun hu => ?_) (fun hu => ?_)
      · have hu' : (fat l i).union = false := by
          have : (!(fat l i).union) = true := hu
          simpa using this
        have hoff := off_at (cnt := cnt) hpl
        rw [hu'] at hoff
        refine runS_x (I := inf) (J := jnf) ⟨false, false, [], 0, 0⟩ 9999 rfl (by repeat (first | exact obs_nil | refine obs_draw (by kernel_rfl) ?_ | refine obs_same ?_ | refine obs_and ?_ | refine obs_by (by (simp [inB] <;> omega)) ?_)) ?_
        refine runS_says 31 (show _ = iv (stP l cnt i p).1 from by
          show iv (if (fat l i).union then 0 else (stP l cnt i p).1 : Nat) = _
          rw [hu']; rfl) (Says.refl _) ?_
        refine runS_call rfl rfl rfl rfl rfl rfl rfl (level_raised (stP l cnt i p).1 (lay l cnt ((kidsA l i).getD p 0)).2 (by omega) b2 b3) ?_
        refine runS_x (I := inf) (J := jnf) ⟨false, false, [], 0, 0⟩ 9999 rfl (by repeat (first | exact obs_nil | refine obs_draw (by kernel_rfl) ?_ | refine obs_same ?_ | refine obs_and ?_ | refine obs_by (by first | exact fun _ => hcl' | (simp [inB] <;> omega)) ?_)) ?_
        refine runS_tell 5 (sqR l cnt (fun j => S j || withinP l i (p + 1) j) (fun j => Z j || withinP l i (p + 1) j)) rfl rfl (fun j hj => ?_) rfl ?_
        · rw [sq_step S Z hpl j hj]
          by_cases hjc : j = (kidsA l i).getD p 0
          · rw [if_pos hjc, hjc]
            refine Eq.trans ?_ setR_self.symm
            rw [hoff]
            rfl
          · rw [if_neg hjc]
            refine Eq.trans ?_ (setR_ne hjc).symm
            rfl
        have hoff' : offK l cnt ((kidsA l i).getD p 0) = upR (stP l cnt i p).1 (lay l cnt ((kidsA l i).getD p 0)).2 := hoff
        have hsame := stP_same ok hu' (p + 1) hpl
        have hat : IntKind.wrap .i64 ((upR (stP l cnt i p).1 (lay l cnt ((kidsA l i).getD p 0)).2 : Int) + (tkK l cnt ((kidsA l i).getD p 0) : Int)) = (((stP l cnt i (p + 1)).1 : Nat) : Int) := by
          rw [← hoff', w64 (by omega) (by omega), hst]
          rfl
        refine ih (p + 1) _ _ (by omega) ⟨⟨rfl, rfl, ?_, ?_, ?_, rfl, rfl, ?_⟩, rfl, by omega, fun q hq' => ?_⟩
        · rw [hsame]
          exact congrArg iv hat
        · rw [hst]
          exact congrArg iv (max_nat _ _)
        · rw [hu']
          exact congrArg iv hat
        · exact congrArg iv hw2
        · by_cases hqp : q = p
          · rw [hqp]; exact ht
          · exact hqs q (by omega)
      · have hu' : (fat l i).union = true := by
          have : (!(fat l i).union) = false := hu
          simpa using this
        have hoff := off_union ok hu' hpl
        refine runS_x (I := inf) (J := jnf) ⟨false, false, [], 0, 0⟩ 9999 rfl (by repeat (first | exact obs_nil | refine obs_draw (by kernel_rfl) ?_ | refine obs_same ?_ | refine obs_and ?_ | refine obs_by (by (simp [inB] <;> omega)) ?_)) ?_
        refine runS_tell 5 (sqR l cnt (fun j => S j || withinP l i (p + 1) j) (fun j => Z j || withinP l i (p + 1) j)) rfl rfl (fun j hj => ?_) rfl ?_
        · rw [sq_step S Z hpl j hj]
          by_cases hjc : j = (kidsA l i).getD p 0
          · rw [if_pos hjc, hjc, hoff]
            unfold sqR
            rw [hoff, ite_self]
          · rw [if_neg hjc]
            rfl
        refine ih (p + 1) _ _ (by omega) ⟨⟨rfl, rfl, ?_, ?_, ?_, rfl, rfl, ?_⟩, rfl, by omega, fun q hq' => ?_⟩
        · rw [hst, hoff, Nat.zero_add]
          exact congrArg iv (max_nat _ _)
        · rw [hst]
          exact congrArg iv (max_nat _ _)
        · rw [hu']
          rfl
        · exact congrArg iv hw2
        · by_cases hqp : q = p
          · rw [hqp]; exact ht
          · exact hqs q (by omega)
    · have hq : ∀ S Z, layQ o0 o1 o2 o3 l vals cnt ((kidsA l i).getD p 0) S Z = fun o A => o = .pan (.ifc 170 (.agg [iv 4])) ∧ A = lostL o0 o1 o2 o3 :=
        fun S Z => by funext o A; rw [layQ, if_neg ht]
      have hcall := IH _ hkm (fun j => S j || withinP l i p j) (fun j => Z j || withinP l i p j)
      rw [hq] at hcall
      refine runS_callFP (arnL o0 o1 o2 o3 l vals (sqR l cnt (fun j => S j || withinP l i p j) (fun j => Z j || withinP l i p j))) (lostL o0 o1 o2 o3) [.box 144 (nodE l i (kidC l i))] rfl rfl rfl rfl rfl (show _ = [ptrL, iv ((kidsA l i).getD p 0 : Nat)] from rfl) rfl (kept_arn hk fun j hj => rfl) rfl rfl hcall ?_
      refine runS_pan 7 rfl (Nat.le_refl _) rfl (hk _ (.gone (.gone (.gone .nil)))) ?_
      have h1 := off_le (cnt := cnt) hi hkm
      rw [withinQ, if_neg (by omega)]
      exact ⟨rfl, rfl⟩
  · have hpe : p = (kidsA l i).length := by simp at hc; omega
    have hsz : (stP l cnt i p).2 = lay l cnt i := by rw [lay_inner hi hin, hpe]
    have hfin := withinP_all l i
    rw [← hpe] at hfin
    refine runS_x (I := inf) (J := jnf) ⟨false, false, [], 0, 0⟩ 9999 rfl (by repeat (first | exact obs_nil | refine obs_draw (by kernel_rfl) ?_ | refine obs_same ?_ | refine obs_and ?_ | refine obs_by (by (simp [inB] <;> omega)) ?_)) ?_
    by_cases ht : (lay l cnt i).1 ≤ 1000000
    · have hd : decide (((stP l cnt i p).2.1 : Int) ≤ 1000000) = true := by rw [hsz]; exact decide_eq_true (by omega)
      refine runS_says 51 (show _ = bv true from congrArg bv hd) (Says.refl _) ?_
      refine runS_call rfl rfl rfl rfl rfl rfl rfl (must_ok 4) ?_
      refine runS_x (I := inf) (J := jnf) ⟨false, false, [], 0, 0⟩ 9999 rfl (by repeat (first | exact obs_nil | refine obs_draw (by kernel_rfl) ?_ | refine obs_same ?_ | refine obs_and ?_ | refine obs_by (by (simp [inB] <;> omega)) ?_)) ?_
      refine runS_ret (I := inf) 7 rfl (Nat.le_refl _) rfl (kept_arn hk fun j hj => rfl) rfl ?_
      rw [withinQ, if_pos ht, ← hsz, hfin]
      exact ⟨rfl, rfl⟩
    · have hd : decide (((stP l cnt i p).2.1 : Int) ≤ 1000000) = false := by rw [hsz]; exact decide_eq_false (by omega)
      refine runS_says 51 (show _ = bv false from congrArg bv hd) (Says.refl _) ?_
      refine runS_callP rfl rfl rfl rfl rfl rfl rfl (must_no 4) ?_
      refine runS_lose 4 rfl ?_
      refine runS_lose 5 rfl ?_
      refine runS_lose 6 rfl ?_
      refine runS_pan 7 rfl (Nat.le_refl _) rfl (hk _ (.gone (.gone (.gone .nil)))) ?_
      rw [withinQ, if_neg ht]
      exact ⟨rfl, rfl⟩
end Go.Iron.Try

/- The level package: the program's lay. -/
namespace Go.Iron.Try
open Go.Proofs

section
variable {P : Program} {f0 : FuncId} {C : Cx} {S : List AF} {ar ar' : List AO} {Q : Out → List AO → Prop}
theorem runS_arEq (h : ar = ar') (hr : RunS P f0 C S ar' Q) : RunS P f0 C S ar Q := h ▸ hr
end
theorem callT_to {P : Program} {g : Nat} {xs : List AV} {ar : List AO} {r : AV} {t : Typ} (h : CallT P g xs ar (fun o A => o = .ret r ∧ A = [])) (he : r = .tup [iv (lieN t).1, iv (lieN t).2]) : CallT P g xs ar (fun o A => o = .ret (.tup [iv (lieN t).1, iv (lieN t).2]) ∧ A = []) := by
  rw [← he]; exact h
theorem lie_1 (p q n : Int) (v : Bool) (pic : Str) : CallT Try.prog 182 [.agg (typE ⟨1, p, q, n, v, pic⟩), cel 2] [] (fun o A => o = .ret (.tup [iv (lieN ⟨1, p, q, n, v, pic⟩).1, iv (lieN ⟨1, p, q, n, v, pic⟩).2]) ∧ A = []) :=
  callT_to (size_182a _) (by
    show AV.tup [iv (if p ≤ 15 then 2 else 4), iv (if p ≤ 15 then 2 else 4)] = AV.tup [iv (((if p ≤ 15 then (2, 2) else (4, 4) : Nat × Nat).1 : Nat) : Int), iv (((if p ≤ 15 then (2, 2) else (4, 4) : Nat × Nat).2 : Nat) : Int)]
    split <;> rfl)
theorem lie_2 (p q n : Int) (v : Bool) (pic : Str) (h : validT ⟨2, p, q, n, v, pic⟩ = true) : CallT Try.prog 183 [.agg (typE ⟨2, p, q, n, v, pic⟩)] [] (fun o A => o = .ret (.tup [iv (lieN ⟨2, p, q, n, v, pic⟩).1, iv (lieN ⟨2, p, q, n, v, pic⟩).2]) ∧ A = []) := by
  have : inR p 1 15 && inR q 0 31 && n == 0 && !v && pic.isEmpty := h
  simp only [inR, Bool.and_eq_true, decide_eq_true_eq] at this
  exact callT_to (size_183 ⟨2, p, q, n, v, pic⟩ (show 0 ≤ p by omega) (show p ≤ 300 by omega)) rfl
theorem lie_3 (p q n : Int) (v : Bool) (pic : Str) : CallT Try.prog 182 [.agg (typE ⟨3, p, q, n, v, pic⟩), cel 4] [] (fun o A => o = .ret (.tup [iv (lieN ⟨3, p, q, n, v, pic⟩).1, iv (lieN ⟨3, p, q, n, v, pic⟩).2]) ∧ A = []) :=
  callT_to (size_182b _) (by
    show AV.tup [iv (if p ≤ 6 then 4 else 8), iv (if p ≤ 6 then 4 else 8)] = AV.tup [iv (((if p ≤ 6 then (4, 4) else (8, 8) : Nat × Nat).1 : Nat) : Int), iv (((if p ≤ 6 then (4, 4) else (8, 8) : Nat × Nat).2 : Nat) : Int)]
    split <;> rfl)
theorem lie_4 (p q n : Int) (v : Bool) (pic : Str) (h : validT ⟨4, p, q, n, v, pic⟩ = true) : CallT Try.prog 184 [.agg (typE ⟨4, p, q, n, v, pic⟩), varC] [] (fun o A => o = .ret (.tup [iv (lieN ⟨4, p, q, n, v, pic⟩).1, iv (lieN ⟨4, p, q, n, v, pic⟩).2]) ∧ A = []) := by
  have : p == 0 && q == 0 && inR n 0 250 && pic.isEmpty := h
  simp only [inR, Bool.and_eq_true, decide_eq_true_eq] at this
  exact callT_to (size_184 ⟨4, p, q, n, v, pic⟩ (show 0 ≤ n by omega) (show n < 1000000000 by omega)) rfl
theorem lie_5 (p q n : Int) (v : Bool) (pic : Str) (h : validT ⟨5, p, q, n, v, pic⟩ = true) : CallT Try.prog 185 [.agg (typE ⟨5, p, q, n, v, pic⟩), varC] [] (fun o A => o = .ret (.tup [iv (lieN ⟨5, p, q, n, v, pic⟩).1, iv (lieN ⟨5, p, q, n, v, pic⟩).2]) ∧ A = []) := by
  have : p == 0 && q == 0 && inR n 0 250 && pic.isEmpty := h
  simp only [inR, Bool.and_eq_true, decide_eq_true_eq] at this
  exact callT_to (size_185 ⟨5, p, q, n, v, pic⟩ (show 0 ≤ n by omega) (show n ≤ 300 by omega)) rfl
theorem lie_6 (p q n : Int) (v : Bool) (pic : Str) (h : validT ⟨6, p, q, n, v, pic⟩ = true) : CallT Try.prog 186 [.agg (typE ⟨6, p, q, n, v, pic⟩)] [] (fun o A => o = .ret (.tup [iv (lieN ⟨6, p, q, n, v, pic⟩).1, iv (lieN ⟨6, p, q, n, v, pic⟩).2]) ∧ A = []) := by
  have : p == 0 && q == 0 && n == 0 && !v && decide (1 ≤ pic.length) && decide (pic.length ≤ 80) := h
  simp only [Bool.and_eq_true, decide_eq_true_eq] at this
  exact callT_to (size_186 ⟨6, p, q, n, v, pic⟩ (show pic.length < 9223372036854775807 by omega)) rfl
theorem lie_7 (p q n : Int) (v : Bool) (pic : Str) : CallT Try.prog 179 [.agg (typE ⟨7, p, q, n, v, pic⟩), cel 4, cel 4] [] (fun o A => o = .ret (.tup [iv (lieN ⟨7, p, q, n, v, pic⟩).1, iv (lieN ⟨7, p, q, n, v, pic⟩).2]) ∧ A = []) :=
  callT_to (size_179 4 4 _) rfl
theorem lie_8 (p q n : Int) (v : Bool) (pic : Str) : CallT Try.prog 179 [.agg (typE ⟨8, p, q, n, v, pic⟩), cel 8, cel 4] [] (fun o A => o = .ret (.tup [iv (lieN ⟨8, p, q, n, v, pic⟩).1, iv (lieN ⟨8, p, q, n, v, pic⟩).2]) ∧ A = []) :=
  callT_to (size_179 8 4 _) rfl
theorem lie_9 (p q n : Int) (v : Bool) (pic : Str) : CallT Try.prog 179 [.agg (typE ⟨9, p, q, n, v, pic⟩), cel 8, cel 4] [] (fun o A => o = .ret (.tup [iv (lieN ⟨9, p, q, n, v, pic⟩).1, iv (lieN ⟨9, p, q, n, v, pic⟩).2]) ∧ A = []) :=
  callT_to (size_179 8 4 _) rfl

theorem level_lay {o0 o1 o2 o3 : AO} (hk : Kept4 7 o0 o1 o2 o3) (l : List Fld) (vals : List Int) (ok : LayOK l (cntN l vals)) (hv : validF l = true) (hvo : valsOK l vals = true) (hl : l.length ≤ 200) : ∀ (m i : Nat), i < l.length → l.length - i ≤ m → ∀ (S Z : Nat → Bool),
    CallT Try.prog 118 [ptrL, iv i] (arnL o0 o1 o2 o3 l vals (sqR l (cntN l vals) S Z)) (layQ o0 o1 o2 o3 l vals (cntN l vals) i S Z)
  | 0, i, hi, hm, S, Z => by omega
  | m + 1, i, hi, hm, S, Z => by
    refine callS_body (n := 73) rfl rfl fun w ρ X => ?_
    refine runS_x (I := inf) (J := jnf) ⟨false, false, [], 0, 0⟩ 9999 rfl (by repeat (first | exact obs_nil | refine obs_draw (by kernel_rfl) ?_ | refine obs_same ?_ | refine obs_and ?_ | refine obs_by (by (simp [inB, hi] <;> omega)) ?_)) ?_
    refine runS_cut (fun τ ar => (τ 0 = ptrL ∧ τ 1 = iv i ∧ τ 4 = iv (lay l (cntN l vals) i).2 ∧ τ 6 = .ptr 7 0 0 ∧ τ 7 = iv (lay l (cntN l vals) i).1) ∧ (lay l (cntN l vals) i).1 ≤ 1000000 ∧ ar = arnL o0 o1 o2 o3 l vals (sqR l (cntN l vals) (fun j => S j || withinK l i l.length j) (fun j => Z j || withinK l i l.length j)) ++ [.box 144 (nodE l i (kidC l i))]) (fun rest => ?_) ?_
    · refine runS_cond rfl (fun hlf => ?_) (fun hlf => ?_)
      · have hkn : ¬ 0 < (kidsA l i).length := by
          have : (((kidsN l l.length i : Nat) : Int) == 0) = true := hlf
          have : kidsN l l.length i = 0 := by simpa using this
          show ¬ 0 < kidsN l l.length i
          omega
        have hleaf := lay_leaf (cnt := cntN l vals) hi hkn
        have hvt := ok.typ i hi hkn
        have hwn : ∀ X : Nat → Bool, (fun j => X j || withinK l i l.length j) = X := by
          intro X
          have : kidsL l l.length i = [] := List.eq_nil_of_length_eq_zero (by show (kidsA l i).length = 0; omega)
          funext j
          rw [withinK, this]
          simp
        obtain ⟨z1, z2, z3⟩ := lieN_bound hvt
        rw [hwn, hwn, hleaf] at rest
        obtain ⟨d1, d2⟩ := valid_kind hvt
        cases ht : (fat l i).typ with
        | mk k p q n v pic =>
          rw [ht] at hvt d1 d2 z1 rest
          have hnode : nodE l i (kidC l i) = [iv (fat l i).level, sv (fat l i).name, iv (fat l i).count, iv k, iv p, iv q, iv n, bv v, sv pic, bv (fat l i).union, iv (fat l i).refer, iv i, iv (opI (par l i)), iv (dep l i), kidC l i] := by
            unfold nodE
            rw [ht]
          refine runS_arEq (show _ = arnL o0 o1 o2 o3 l vals (sqR l (cntN l vals) S Z) ++ [.box 144 (nodE l i (kidC l i))] from rfl) ?_
          rw [hnode]
          rw [hnode] at rest
          dsimp only at d1 d2
          have : k = 1 ∨ k = 2 ∨ k = 3 ∨ k = 4 ∨ k = 5 ∨ k = 6 ∨ k = 7 ∨ k = 8 ∨ k = 9 := by omega
          rcases this with rfl | rfl | rfl | rfl | rfl | rfl | rfl | rfl | rfl
          · refine runS_draw 15 (by kernel_rfl) (lexj_x (I := inf) (J := jnf) 99 rfl rfl (by repeat (first | exact obs_nil | refine obs_same ?_ | refine obs_and ?_ | refine obs_by (by (simp [inB] <;> omega)) ?_)) (lexj_call rfl rfl rfl rfl rfl rfl rfl rfl level_sizes (lexj_x (I := inf) (J := jnf) 99 rfl rfl (by repeat (first | exact obs_nil | refine obs_same ?_ | refine obs_and ?_ | refine obs_by (by (simp [inB] <;> omega)) ?_)) (lexj_call rfl rfl rfl rfl rfl rfl rfl rfl (lie_1 p q n v pic) (lexj_x (I := inf) (J := jnf) 99 rfl rfl (by repeat (first | exact obs_nil | refine obs_same ?_ | refine obs_and ?_ | refine obs_by (by (simp [inB] <;> omega)) ?_)) lexj_nil))))) ?_
            refine runS_x (I := inf) (J := jnf) ⟨false, false, [], 2, 0⟩ 9999 rfl (by repeat (first | exact obs_nil | refine obs_draw (by kernel_rfl) ?_ | refine obs_same ?_ | refine obs_and ?_ | refine obs_by (by (simp [inB] <;> omega)) ?_)) ?_
            exact rest _ _ ⟨⟨rfl, rfl, rfl, rfl, rfl⟩, by omega, rfl⟩
          · refine runS_draw 15 (by kernel_rfl) (lexj_x (I := inf) (J := jnf) 99 rfl rfl (by repeat (first | exact obs_nil | refine obs_same ?_ | refine obs_and ?_ | refine obs_by (by (simp [inB] <;> omega)) ?_)) (lexj_call rfl rfl rfl rfl rfl rfl rfl rfl level_sizes (lexj_x (I := inf) (J := jnf) 99 rfl rfl (by repeat (first | exact obs_nil | refine obs_same ?_ | refine obs_and ?_ | refine obs_by (by (simp [inB] <;> omega)) ?_)) (lexj_call rfl rfl rfl rfl rfl rfl rfl rfl (lie_2 p q n v pic hvt) (lexj_x (I := inf) (J := jnf) 99 rfl rfl (by repeat (first | exact obs_nil | refine obs_same ?_ | refine obs_and ?_ | refine obs_by (by (simp [inB] <;> omega)) ?_)) lexj_nil))))) ?_
            refine runS_x (I := inf) (J := jnf) ⟨false, false, [], 2, 0⟩ 9999 rfl (by repeat (first | exact obs_nil | refine obs_draw (by kernel_rfl) ?_ | refine obs_same ?_ | refine obs_and ?_ | refine obs_by (by (simp [inB] <;> omega)) ?_)) ?_
            exact rest _ _ ⟨⟨rfl, rfl, rfl, rfl, rfl⟩, by omega, rfl⟩
          · refine runS_draw 15 (by kernel_rfl) (lexj_x (I := inf) (J := jnf) 99 rfl rfl (by repeat (first | exact obs_nil | refine obs_same ?_ | refine obs_and ?_ | refine obs_by (by (simp [inB] <;> omega)) ?_)) (lexj_call rfl rfl rfl rfl rfl rfl rfl rfl level_sizes (lexj_x (I := inf) (J := jnf) 99 rfl rfl (by repeat (first | exact obs_nil | refine obs_same ?_ | refine obs_and ?_ | refine obs_by (by (simp [inB] <;> omega)) ?_)) (lexj_call rfl rfl rfl rfl rfl rfl rfl rfl (lie_3 p q n v pic) (lexj_x (I := inf) (J := jnf) 99 rfl rfl (by repeat (first | exact obs_nil | refine obs_same ?_ | refine obs_and ?_ | refine obs_by (by (simp [inB] <;> omega)) ?_)) lexj_nil))))) ?_
            refine runS_x (I := inf) (J := jnf) ⟨false, false, [], 2, 0⟩ 9999 rfl (by repeat (first | exact obs_nil | refine obs_draw (by kernel_rfl) ?_ | refine obs_same ?_ | refine obs_and ?_ | refine obs_by (by (simp [inB] <;> omega)) ?_)) ?_
            exact rest _ _ ⟨⟨rfl, rfl, rfl, rfl, rfl⟩, by omega, rfl⟩
          · refine runS_draw 15 (by kernel_rfl) (lexj_x (I := inf) (J := jnf) 99 rfl rfl (by repeat (first | exact obs_nil | refine obs_same ?_ | refine obs_and ?_ | refine obs_by (by (simp [inB] <;> omega)) ?_)) (lexj_call rfl rfl rfl rfl rfl rfl rfl rfl level_sizes (lexj_x (I := inf) (J := jnf) 99 rfl rfl (by repeat (first | exact obs_nil | refine obs_same ?_ | refine obs_and ?_ | refine obs_by (by (simp [inB] <;> omega)) ?_)) (lexj_call rfl rfl rfl rfl rfl rfl rfl rfl (lie_4 p q n v pic hvt) (lexj_x (I := inf) (J := jnf) 99 rfl rfl (by repeat (first | exact obs_nil | refine obs_same ?_ | refine obs_and ?_ | refine obs_by (by (simp [inB] <;> omega)) ?_)) lexj_nil))))) ?_
            refine runS_x (I := inf) (J := jnf) ⟨false, false, [], 2, 0⟩ 9999 rfl (by repeat (first | exact obs_nil | refine obs_draw (by kernel_rfl) ?_ | refine obs_same ?_ | refine obs_and ?_ | refine obs_by (by (simp [inB] <;> omega)) ?_)) ?_
            exact rest _ _ ⟨⟨rfl, rfl, rfl, rfl, rfl⟩, by omega, rfl⟩
          · refine runS_draw 15 (by kernel_rfl) (lexj_x (I := inf) (J := jnf) 99 rfl rfl (by repeat (first | exact obs_nil | refine obs_same ?_ | refine obs_and ?_ | refine obs_by (by (simp [inB] <;> omega)) ?_)) (lexj_call rfl rfl rfl rfl rfl rfl rfl rfl level_sizes (lexj_x (I := inf) (J := jnf) 99 rfl rfl (by repeat (first | exact obs_nil | refine obs_same ?_ | refine obs_and ?_ | refine obs_by (by (simp [inB] <;> omega)) ?_)) (lexj_call rfl rfl rfl rfl rfl rfl rfl rfl (lie_5 p q n v pic hvt) (lexj_x (I := inf) (J := jnf) 99 rfl rfl (by repeat (first | exact obs_nil | refine obs_same ?_ | refine obs_and ?_ | refine obs_by (by (simp [inB] <;> omega)) ?_)) lexj_nil))))) ?_
            refine runS_x (I := inf) (J := jnf) ⟨false, false, [], 2, 0⟩ 9999 rfl (by repeat (first | exact obs_nil | refine obs_draw (by kernel_rfl) ?_ | refine obs_same ?_ | refine obs_and ?_ | refine obs_by (by (simp [inB] <;> omega)) ?_)) ?_
            exact rest _ _ ⟨⟨rfl, rfl, rfl, rfl, rfl⟩, by omega, rfl⟩
          · refine runS_draw 15 (by kernel_rfl) (lexj_x (I := inf) (J := jnf) 99 rfl rfl (by repeat (first | exact obs_nil | refine obs_same ?_ | refine obs_and ?_ | refine obs_by (by (simp [inB] <;> omega)) ?_)) (lexj_call rfl rfl rfl rfl rfl rfl rfl rfl level_sizes (lexj_x (I := inf) (J := jnf) 99 rfl rfl (by repeat (first | exact obs_nil | refine obs_same ?_ | refine obs_and ?_ | refine obs_by (by (simp [inB] <;> omega)) ?_)) (lexj_call rfl rfl rfl rfl rfl rfl rfl rfl (lie_6 p q n v pic hvt) (lexj_x (I := inf) (J := jnf) 99 rfl rfl (by repeat (first | exact obs_nil | refine obs_same ?_ | refine obs_and ?_ | refine obs_by (by (simp [inB] <;> omega)) ?_)) lexj_nil))))) ?_
            refine runS_x (I := inf) (J := jnf) ⟨false, false, [], 2, 0⟩ 9999 rfl (by repeat (first | exact obs_nil | refine obs_draw (by kernel_rfl) ?_ | refine obs_same ?_ | refine obs_and ?_ | refine obs_by (by (simp [inB] <;> omega)) ?_)) ?_
            exact rest _ _ ⟨⟨rfl, rfl, rfl, rfl, rfl⟩, by omega, rfl⟩
          · refine runS_draw 15 (by kernel_rfl) (lexj_x (I := inf) (J := jnf) 99 rfl rfl (by repeat (first | exact obs_nil | refine obs_same ?_ | refine obs_and ?_ | refine obs_by (by (simp [inB] <;> omega)) ?_)) (lexj_call rfl rfl rfl rfl rfl rfl rfl rfl level_sizes (lexj_x (I := inf) (J := jnf) 99 rfl rfl (by repeat (first | exact obs_nil | refine obs_same ?_ | refine obs_and ?_ | refine obs_by (by (simp [inB] <;> omega)) ?_)) (lexj_call rfl rfl rfl rfl rfl rfl rfl rfl (lie_7 p q n v pic) (lexj_x (I := inf) (J := jnf) 99 rfl rfl (by repeat (first | exact obs_nil | refine obs_same ?_ | refine obs_and ?_ | refine obs_by (by (simp [inB] <;> omega)) ?_)) lexj_nil))))) ?_
            refine runS_x (I := inf) (J := jnf) ⟨false, false, [], 2, 0⟩ 9999 rfl (by repeat (first | exact obs_nil | refine obs_draw (by kernel_rfl) ?_ | refine obs_same ?_ | refine obs_and ?_ | refine obs_by (by (simp [inB] <;> omega)) ?_)) ?_
            exact rest _ _ ⟨⟨rfl, rfl, rfl, rfl, rfl⟩, by omega, rfl⟩
          · refine runS_draw 15 (by kernel_rfl) (lexj_x (I := inf) (J := jnf) 99 rfl rfl (by repeat (first | exact obs_nil | refine obs_same ?_ | refine obs_and ?_ | refine obs_by (by (simp [inB] <;> omega)) ?_)) (lexj_call rfl rfl rfl rfl rfl rfl rfl rfl level_sizes (lexj_x (I := inf) (J := jnf) 99 rfl rfl (by repeat (first | exact obs_nil | refine obs_same ?_ | refine obs_and ?_ | refine obs_by (by (simp [inB] <;> omega)) ?_)) (lexj_call rfl rfl rfl rfl rfl rfl rfl rfl (lie_8 p q n v pic) (lexj_x (I := inf) (J := jnf) 99 rfl rfl (by repeat (first | exact obs_nil | refine obs_same ?_ | refine obs_and ?_ | refine obs_by (by (simp [inB] <;> omega)) ?_)) lexj_nil))))) ?_
            refine runS_x (I := inf) (J := jnf) ⟨false, false, [], 2, 0⟩ 9999 rfl (by repeat (first | exact obs_nil | refine obs_draw (by kernel_rfl) ?_ | refine obs_same ?_ | refine obs_and ?_ | refine obs_by (by (simp [inB] <;> omega)) ?_)) ?_
            exact rest _ _ ⟨⟨rfl, rfl, rfl, rfl, rfl⟩, by omega, rfl⟩
          · refine runS_draw 15 (by kernel_rfl) (lexj_x (I := inf) (J := jnf) 99 rfl rfl (by repeat (first | exact obs_nil | refine obs_same ?_ | refine obs_and ?_ | refine obs_by (by (simp [inB] <;> omega)) ?_)) (lexj_call rfl rfl rfl rfl rfl rfl rfl rfl level_sizes (lexj_x (I := inf) (J := jnf) 99 rfl rfl (by repeat (first | exact obs_nil | refine obs_same ?_ | refine obs_and ?_ | refine obs_by (by (simp [inB] <;> omega)) ?_)) (lexj_call rfl rfl rfl rfl rfl rfl rfl rfl (lie_9 p q n v pic) (lexj_x (I := inf) (J := jnf) 99 rfl rfl (by repeat (first | exact obs_nil | refine obs_same ?_ | refine obs_and ?_ | refine obs_by (by (simp [inB] <;> omega)) ?_)) lexj_nil))))) ?_
            refine runS_x (I := inf) (J := jnf) ⟨false, false, [], 2, 0⟩ 9999 rfl (by repeat (first | exact obs_nil | refine obs_draw (by kernel_rfl) ?_ | refine obs_same ?_ | refine obs_and ?_ | refine obs_by (by (simp [inB] <;> omega)) ?_)) ?_
            exact rest _ _ ⟨⟨rfl, rfl, rfl, rfl, rfl⟩, by omega, rfl⟩
      · have hkn : 0 < (kidsA l i).length := by
          have : (((kidsN l l.length i : Nat) : Int) == 0) = false := hlf
          have : ¬ kidsN l l.length i = 0 := by simpa using this
          show 0 < kidsN l l.length i
          omega
        refine runS_arEq (show _ = arnL o0 o1 o2 o3 l vals (sqR l (cntN l vals) S Z) ++ [.box 144 (nodE l i (kidC l i))] from rfl) ?_
        refine runS_x (I := inf) (J := jnf) ⟨false, false, [], 2, 0⟩ 9999 rfl (by repeat (first | exact obs_nil | refine obs_draw (by kernel_rfl) ?_ | refine obs_same ?_ | refine obs_and ?_ | refine obs_by (by (simp [inB] <;> omega)) ?_)) ?_
        have hcall := level_within1 hk l vals (cntN l vals) ok hl i hi hkn (fun c hc S Z => level_lay hk l vals ok hv hvo hl m c (kid_gt hc).2 (by have := (kid_gt hc).1; omega) S Z) S Z
        by_cases ht : (lay l (cntN l vals) i).1 ≤ 1000000
        · have hq : withinQ o0 o1 o2 o3 l vals (cntN l vals) i S Z = fun o A => o = .ret (.tup [iv (lay l (cntN l vals) i).1, iv (lay l (cntN l vals) i).2]) ∧ A = arnL o0 o1 o2 o3 l vals (sqR l (cntN l vals) (fun j => S j || withinK l i l.length j) (fun j => Z j || withinK l i l.length j)) := by
            funext o A; rw [withinQ, if_pos ht]
          rw [hq] at hcall
          refine runS_callF (arnL o0 o1 o2 o3 l vals (sqR l (cntN l vals) S Z)) (arnL o0 o1 o2 o3 l vals (sqR l (cntN l vals) (fun j => S j || withinK l i l.length j) (fun j => Z j || withinK l i l.length j))) [.box 144 (nodE l i (kidC l i))] rfl rfl rfl rfl rfl (show _ = [ptrL, .agg (nodE l i (kidC l i))] from rfl) rfl (kept_arn hk fun j hj => rfl) rfl rfl hcall ?_
          refine runS_x (I := inf) (J := jnf) ⟨false, false, [], 2, 0⟩ 9999 rfl (by repeat (first | exact obs_nil | refine obs_draw (by kernel_rfl) ?_ | refine obs_same ?_ | refine obs_and ?_ | refine obs_by (by (simp [inB] <;> omega)) ?_)) ?_
          exact rest _ _ ⟨⟨rfl, rfl, rfl, rfl, rfl⟩, ht, rfl⟩
        · have hq : withinQ o0 o1 o2 o3 l vals (cntN l vals) i S Z = fun o A => o = .pan (.ifc 170 (.agg [iv 4])) ∧ A = lostL o0 o1 o2 o3 := by
            funext o A; rw [withinQ, if_neg ht]
          rw [hq] at hcall
          refine runS_callFP (arnL o0 o1 o2 o3 l vals (sqR l (cntN l vals) S Z)) (lostL o0 o1 o2 o3) [.box 144 (nodE l i (kidC l i))] rfl rfl rfl rfl rfl (show _ = [ptrL, .agg (nodE l i (kidC l i))] from rfl) rfl (kept_arn hk fun j hj => rfl) rfl rfl hcall ?_
          refine runS_pan 7 rfl (Nat.le_refl _) rfl (hk _ (.gone (.gone (.gone .nil)))) ?_
          have := tk_ge ok hi
          rw [layQ, if_neg (by omega)]
          exact ⟨rfl, rfl⟩
    rintro τ2 ar2 ⟨⟨g0, g1, g4, g6, g7⟩, hsz, rfl⟩
    refine runS_says 0 (by exact g0) (Says.refl _) ?_; refine runS_says 1 (by exact g1) (Says.refl _) ?_; refine runS_says 4 (by exact g4) (Says.refl _) ?_; refine runS_says 6 (by exact g6) (Says.refl _) ?_; refine runS_says 7 (by exact g7) (Says.refl _) ?_
    obtain ⟨b1, b2, b3⟩ := lay_le ok hl hi
    refine runS_x (I := inf) (J := jnf) ⟨false, false, [], 0, 0⟩ 9999 rfl (by repeat (first | exact obs_nil | refine obs_draw (by kernel_rfl) ?_ | refine obs_same ?_ | refine obs_and ?_ | refine obs_by (by (simp [inB, hi] <;> omega)) ?_)) ?_
    refine runS_call rfl rfl rfl rfl rfl rfl rfl (level_raised (lay l (cntN l vals) i).1 (lay l (cntN l vals) i).2 (by omega) b2 b3) ?_
    refine runS_x (I := inf) (J := jnf) ⟨false, false, [], 0, 0⟩ 5 rfl (by repeat (first | exact obs_nil | refine obs_draw (by kernel_rfl) ?_ | refine obs_same ?_ | refine obs_and ?_ | refine obs_by (by (simp [inB, hi] <;> omega)) ?_)) ?_
    refine runS_tell 5 (fun j => [iv (if (S j || withinK l i l.length j) then offK l (cntN l vals) j else 0 : Nat), iv (if j = i then (lay l (cntN l vals) j).1 else if (Z j || withinK l i l.length j) then (lay l (cntN l vals) j).1 else 0 : Nat),
      iv (if (Z j || withinK l i l.length j) then upR (lay l (cntN l vals) j).1 (lay l (cntN l vals) j).2 else 0 : Nat)]) rfl rfl (fun j hj => ?_) rfl ?_
    · by_cases hji : j = i
      · rw [if_pos hji, hji]
        refine Eq.trans ?_ setR_self.symm
        rfl
      · rw [if_neg hji]
        refine Eq.trans ?_ (setR_ne hji).symm
        rfl
    refine runS_x (I := inf) (J := jnf) ⟨false, false, [], 0, 0⟩ 9999 rfl (by repeat (first | exact obs_nil | refine obs_draw (by kernel_rfl) ?_ | refine obs_same ?_ | refine obs_and ?_ | refine obs_by (by (simp [inB, hi] <;> omega)) ?_)) ?_
    refine runS_tell 5 (sqR l (cntN l vals) (fun j => S j || withinK l i l.length j) (fun j => Z j || decide (i ∈ anc l j))) rfl rfl (fun j hj => ?_) rfl ?_
    · show [iv (if (S j || withinK l i l.length j) then offK l (cntN l vals) j else 0 : Nat), iv (if (Z j || decide (i ∈ anc l j)) then (lay l (cntN l vals) j).1 else 0 : Nat), iv (if (Z j || decide (i ∈ anc l j)) then upR (lay l (cntN l vals) j).1 (lay l (cntN l vals) j).2 else 0 : Nat)] = _
      by_cases hji : j = i
      · rw [hji, decide_eq_true (anc_self l i), Bool.or_true, if_pos rfl, if_pos rfl]
        refine Eq.trans ?_ setR_self.symm
        show _ = [iv (if (S i || withinK l i l.length i) then offK l (cntN l vals) i else 0 : Nat), iv (if i = i then (lay l (cntN l vals) i).1 else if (Z i || withinK l i l.length i) then (lay l (cntN l vals) i).1 else 0 : Nat), iv (upR (lay l (cntN l vals) i).1 (lay l (cntN l vals) i).2 : Nat)]
        rw [if_pos (rfl : i = i)]
      · rw [anc_kid hj hji]
        refine Eq.trans ?_ (setR_ne hji).symm
        rw [if_neg hji]
    have hS' : tkK l (cntN l vals) i = if isArr l i then cntN l vals i * upR (lay l (cntN l vals) i).1 (lay l (cntN l vals) i).2 else (lay l (cntN l vals) i).1 := rfl
    have b5 := (upR_bound (n := (lay l (cntN l vals) i).1) b2 b3).2
    have hcb := ok.most i hi
    have hmul : cntN l vals i * upR (lay l (cntN l vals) i).1 (lay l (cntN l vals) i).2 ≤ 200 * 2000000 := Nat.mul_le_mul hcb (by omega)
    refine runS_cut (fun τ ar => (τ 4 = iv (lay l (cntN l vals) i).2 ∧ τ 5 = iv (tkK l (cntN l vals) i)) ∧ ar = arnL o0 o1 o2 o3 l vals (sqR l (cntN l vals) (fun j => S j || withinK l i l.length j) (fun j => Z j || decide (i ∈ anc l j))) ++ [.box 144 (nodE l i (kidC l i))]) (fun rest => ?_) ?_
    · refine runS_cond rfl (fun ha => ?_) (fun ha => ?_)
      · have ha' : isArr l i = true := ha
        rw [ha', if_pos rfl] at hS'
        refine runS_draw 9 (by kernel_rfl) (lexj_x (I := inf) (J := jnf) 99 rfl rfl (by repeat (first | exact obs_nil | refine obs_same ?_ | refine obs_and ?_ | refine obs_by (by (simp [inB, hi] <;> omega)) ?_)) (lexj_callF (arnL o0 o1 o2 o3 l vals (sqR l (cntN l vals) (fun j => S j || withinK l i l.length j) (fun j => Z j || decide (i ∈ anc l j)))) [.box 144 (nodE l i (kidC l i))] rfl rfl rfl rfl rfl rfl rfl (show _ = [ptrL, iv i] from rfl) rfl (kept_arn hk fun j hj => rfl) (level_count hk l vals _ _ (cntN l vals) i hi) (lexj_x (I := inf) (J := jnf) 99 rfl rfl (by repeat (first | exact obs_nil | refine obs_same ?_ | refine obs_and ?_ | refine obs_by (by (simp [inB, hi] <;> omega)) ?_)) lexj_nil))) ?_
        refine runS_x (I := inf) (J := jnf) ⟨false, false, [], 2, 0⟩ 9999 rfl (by repeat (first | exact obs_nil | refine obs_draw (by kernel_rfl) ?_ | refine obs_same ?_ | refine obs_and ?_ | refine obs_by (by (simp [inB] <;> omega)) ?_)) ?_
        refine rest _ _ ⟨⟨rfl, ?_⟩, rfl⟩
        have hz : (Z i || decide (i ∈ anc l i)) = true := by rw [decide_eq_true (anc_self l i), Bool.or_true]
        show iv (IntKind.wrap .i64 (cntV l vals i * ((if (Z i || decide (i ∈ anc l i)) then upR (lay l (cntN l vals) i).1 (lay l (cntN l vals) i).2 else 0 : Nat) : Int))) = _
        rw [hz, if_pos rfl, hS', ← cntN_int hv hvo hi, ← Int.natCast_mul, w64 (by omega) (by omega)]
      · have ha' : isArr l i = false := ha
        rw [ha', if_neg (by decide)] at hS'
        refine runS_x (I := inf) (J := jnf) ⟨false, false, [], 2, 0⟩ 9999 rfl (by repeat (first | exact obs_nil | refine obs_draw (by kernel_rfl) ?_ | refine obs_same ?_ | refine obs_and ?_ | refine obs_by (by (simp [inB] <;> omega)) ?_)) ?_
        refine rest _ _ ⟨⟨rfl, ?_⟩, rfl⟩
        rw [hS']; rfl
    rintro τ3 ar3 ⟨⟨g4, g5⟩, rfl⟩
    refine runS_says 4 (by exact g4) (Says.refl _) ?_; refine runS_says 5 (by exact g5) (Says.refl _) ?_
    refine runS_x (I := inf) (J := jnf) ⟨false, false, [], 0, 0⟩ 9999 rfl (by repeat (first | exact obs_nil | refine obs_draw (by kernel_rfl) ?_ | refine obs_same ?_ | refine obs_and ?_ | refine obs_by (by (simp [inB] <;> omega)) ?_)) ?_
    by_cases ht : tkK l (cntN l vals) i ≤ 1000000
    · have hd : decide ((tkK l (cntN l vals) i : Int) ≤ 1000000) = true := decide_eq_true (by omega)
      refine runS_says 69 (show _ = bv true from congrArg bv hd) (Says.refl _) ?_
      refine runS_call rfl rfl rfl rfl rfl rfl rfl (must_ok 4) ?_
      refine runS_x (I := inf) (J := jnf) ⟨false, false, [], 0, 0⟩ 9999 rfl (by repeat (first | exact obs_nil | refine obs_draw (by kernel_rfl) ?_ | refine obs_same ?_ | refine obs_and ?_ | refine obs_by (by (simp [inB] <;> omega)) ?_)) ?_
      refine runS_ret (I := inf) 7 rfl (Nat.le_refl _) rfl (kept_arn hk fun j hj => rfl) rfl ?_
      rw [layQ, if_pos ht]
      exact ⟨rfl, rfl⟩
    · have hd : decide ((tkK l (cntN l vals) i : Int) ≤ 1000000) = false := decide_eq_false (by omega)
      refine runS_says 69 (show _ = bv false from congrArg bv hd) (Says.refl _) ?_
      refine runS_callP rfl rfl rfl rfl rfl rfl rfl (must_no 4) ?_
      refine runS_lose 4 rfl ?_
      refine runS_lose 5 rfl ?_
      refine runS_lose 6 rfl ?_
      refine runS_pan 7 rfl (Nat.le_refl _) rfl (hk _ (.gone (.gone (.gone .nil)))) ?_
      rw [layQ, if_neg ht]
      exact ⟨rfl, rfl⟩
end Go.Iron.Try

/- The level package: Layout. -/
namespace Go.Iron.Try
open Go.Proofs

def spZ : Nat → List AV := fun _ => [iv 0, iv 0, iv 0]
abbrev layS (nl n2 : Option Bool) (l : List Fld) (vals : List Int) (M : List (Value × AV)) : List AO := [.box 41 [fldS nl l], .box 23 [intS n2 vals], .box 81 [.val (.slice none 0 0)], .box 51 [iv 0], .map 1 (some .i64) M, .row 86 3 1 l.length spZ, .box 131 [treeS none l, .row 4 1, .row 5 1]]
theorem level_Layout (nl n2 : Option Bool) (l : List Fld) (vals : List Int) (hs : smallF l) (h2 : vals.length < 1000000000) : CallT Try.prog 68 [fldS nl l, intS n2 vals] [] (fun o A => o = .ret (layoutA (layoutF l vals)) ∧ A = []) := by
  have hb := hs.1
  by_cases hv : validF l = true
  · have hlen := valid_len hv
    refine callS_body (n := 10) rfl rfl fun w ρ X => ?_
    refine runS_x (I := inf) (J := jnf) ⟨false, false, [113, 114], 0, 0⟩ 9999 rfl (by repeat (first | exact obs_nil | refine obs_draw (by kernel_rfl) ?_ | refine obs_same ?_ | refine obs_and ?_ | refine obs_by (by (simp [inB] <;> omega)) ?_)) ?_
    refine runS_hole ?_
    refine runS_hole ?_
    refine runS_drawG (ch := []) 6 [2, 5] (fun b => [.box 41 [fldS nl l], .box 23 [intS n2 vals], .box 81 [.val (.slice none 0 0)], .box 51 [iv 0], cond (b.getD 0 false) (.map 1 (some .i64) []) .hole, cond (b.getD 1 false) (.row 86 3 1 l.length (fun _ => [iv 0, iv 0, iv 0])) .hole]) none (c := 9) jnfI.draw (by kernel_rfl) rfl (lexg_g (I := inf) (J := jnf) none ⟨⟨⟨_, rfl, (by repeat (first | exact obs_nil | refine obs_same ?_ | refine obs_and ?_ | refine obs_by (by (simp [inB, hlen] <;> omega)) ?_))⟩, (by first | exact .inl (by decide +kernel) | exact .inr ⟨_, rfl, (by repeat (first | exact obs_nil | refine obs_same ?_ | refine obs_and ?_ | refine obs_by (by (simp [inB, hlen] <;> omega)) ?_))⟩)⟩, (by first | exact .inl (by decide +kernel) | exact .inr ⟨⟨_, rfl, (by repeat (first | exact obs_nil | refine obs_same ?_ | refine obs_and ?_ | refine obs_by (by (simp [inB, hlen] <;> omega)) ?_))⟩, (by first | exact .inl (by decide +kernel) | exact .inr ⟨_, rfl, (by repeat (first | exact obs_nil | refine obs_same ?_ | refine obs_and ?_ | refine obs_by (by (simp [inB, hlen] <;> omega)) ?_))⟩)⟩)⟩ rfl rfl rfl rfl (lexg_call rfl rfl rfl rfl rfl rfl rfl rfl rfl (valid_ok nl l 0 hs hv (by omega)) (lexg_g (I := inf) (J := jnf) (some (.hole 4)) ⟨⟨⟨_, rfl, (by repeat (first | exact obs_nil | refine obs_same ?_ | refine obs_and ?_ | refine obs_by (by (simp [inB, hlen] <;> omega)) ?_))⟩, (by first | exact .inl (by decide +kernel) | exact .inr ⟨_, rfl, (by repeat (first | exact obs_nil | refine obs_same ?_ | refine obs_and ?_ | refine obs_by (by (simp [inB, hlen] <;> omega)) ?_))⟩)⟩, .inl rfl⟩ rfl rfl rfl rfl (lexg_g (I := inf) (J := jnf) none ⟨⟨⟨_, rfl, (by repeat (first | exact obs_nil | refine obs_same ?_ | refine obs_and ?_ | refine obs_by (by (simp [inB, hlen] <;> omega)) ?_))⟩, (by first | exact .inl (by decide +kernel) | exact .inr ⟨_, rfl, (by repeat (first | exact obs_nil | refine obs_same ?_ | refine obs_and ?_ | refine obs_by (by (simp [inB, hlen] <;> omega)) ?_))⟩)⟩, (by first | exact .inl (by decide +kernel) | exact .inr ⟨⟨_, rfl, (by repeat (first | exact obs_nil | refine obs_same ?_ | refine obs_and ?_ | refine obs_by (by (simp [inB, hlen] <;> omega)) ?_))⟩, (by first | exact .inl (by decide +kernel) | exact .inr ⟨_, rfl, (by repeat (first | exact obs_nil | refine obs_same ?_ | refine obs_and ?_ | refine obs_by (by (simp [inB, hlen] <;> omega)) ?_))⟩)⟩)⟩ rfl rfl rfl rfl (lexg_g (I := inf) (J := jnf) none ⟨⟨⟨_, rfl, (by repeat (first | exact obs_nil | refine obs_same ?_ | refine obs_and ?_ | refine obs_by (by (simp [inB, hlen] <;> omega)) ?_))⟩, (by first | exact .inl (by decide +kernel) | exact .inr ⟨_, rfl, (by repeat (first | exact obs_nil | refine obs_same ?_ | refine obs_and ?_ | refine obs_by (by (simp [inB, hlen] <;> omega)) ?_))⟩)⟩, (by first | exact .inl (by decide +kernel) | exact .inr ⟨⟨_, rfl, (by repeat (first | exact obs_nil | refine obs_same ?_ | refine obs_and ?_ | refine obs_by (by (simp [inB, hlen] <;> omega)) ?_))⟩, (by first | exact .inl (by decide +kernel) | exact .inr ⟨_, rfl, (by repeat (first | exact obs_nil | refine obs_same ?_ | refine obs_and ?_ | refine obs_by (by (simp [inB, hlen] <;> omega)) ?_))⟩)⟩)⟩ rfl rfl rfl rfl (lexg_g (I := inf) (J := jnf) (some (.hole 5)) ⟨⟨⟨_, rfl, (by repeat (first | exact obs_nil | refine obs_same ?_ | refine obs_and ?_ | refine obs_by (by (simp [inB, hlen] <;> omega)) ?_))⟩, .inl rfl⟩, (by first | exact .inl (by decide +kernel) | exact .inr ⟨⟨_, rfl, (by repeat (first | exact obs_nil | refine obs_same ?_ | refine obs_and ?_ | refine obs_by (by (simp [inB, hlen] <;> omega)) ?_))⟩, .inl rfl⟩)⟩ rfl rfl rfl rfl lexg_nil)))))) rfl (fun _ => ?_) (fun h => by cases h)
    refine runS_x (I := inf) (J := jnf) ⟨false, false, [], 0, 0⟩ 9999 rfl (by repeat (first | exact obs_nil | refine obs_draw (by kernel_rfl) ?_ | refine obs_same ?_ | refine obs_and ?_ | refine obs_by (by (simp [inB] <;> omega)) ?_)) ?_
    refine runS_forget 7 rfl ?_
    refine runS_while (fun (i : Nat) τ ar => (τ 0 = .ptr 0 0 0 ∧ τ 1 = .ptr 1 0 0 ∧ τ 3 = ptrL ∧ τ 4 = iv (rfN l i) ∧ τ 15 = fldS nl l ∧ τ 16 = iv l.length ∧ τ 17 = iv i) ∧ ar = layS nl n2 l vals (mpK l vals i) ∧ i ≤ l.length ∧ (List.range i).all (vok l vals) = true) (fun i => l.length - i) 0
      ⟨⟨rfl, rfl, rfl, rfl, rfl, rfl, rfl⟩, rfl, Nat.zero_le _, rfl⟩ ?_
    rintro i τ' ar' ⟨⟨g0, g1, g3, g4, g15, g16, g17⟩, rfl, hi, hp⟩ ih
    refine runS_says 0 (by exact g0) (Says.refl _) ?_; refine runS_says 1 (by exact g1) (Says.refl _) ?_; refine runS_says 3 (by exact g3) (Says.refl _) ?_; refine runS_says 4 (by exact g4) (Says.refl _) ?_; refine runS_says 15 (by exact g15) (Says.refl _) ?_; refine runS_says 16 (by exact g16) (Says.refl _) ?_; refine runS_says 17 (by exact g17) (Says.refl _) ?_
    have hrf := rfN_le l i
    refine runS_x (I := inf) (J := jnf) ⟨false, false, [], 0, 0⟩ 9999 rfl (by repeat (first | exact obs_nil | refine obs_draw (by kernel_rfl) ?_ | refine obs_same ?_ | refine obs_and ?_ | refine obs_by (by (simp [inB] <;> omega)) ?_)) ?_
    refine runS_cond rfl (fun hlt => ?_) (fun hlt => ?_)
    · have hlt' : i < l.length := by simpa using hlt
      have hw2 : IntKind.wrap .i64 ((i : Int) + 1) = ((i + 1 : Nat) : Int) := by rw [w64 (by omega) (by omega)]; rfl
      refine runS_x (I := inf) (J := jnf) ⟨false, false, [], 0, 0⟩ 9999 rfl (by repeat (first | exact obs_nil | refine obs_draw (by kernel_rfl) ?_ | refine obs_same ?_ | refine obs_and ?_ | refine obs_by (by (simp [inB, hlt'] <;> omega)) ?_)) ?_
      refine runS_cond rfl (fun hr => ?_) (fun hr => ?_)
      · have hr' : isRef l i = false := by
          have : (fat l i).refer < 0 := of_decide_eq_true hr
          rw [isRef, decide_eq_false (by omega)]
        refine runS_x (I := inf) (J := jnf) ⟨false, false, [], 0, 0⟩ 9999 rfl (by repeat (first | exact obs_nil | refine obs_draw (by kernel_rfl) ?_ | refine obs_same ?_ | refine obs_and ?_ | refine obs_by (by (simp [inB] <;> omega)) ?_)) ?_
        refine runS_drop 7 (Nat.zero_le _) rfl (by repeat (first | exact .nil | refine .row (fun j hj => rfl) ?_ | refine .box rfl ?_ | refine .fam (fun k j hk hj => rfl) ?_ | refine .loop (scrub_under _ _) ?_ | refine .dfr ?_ | refine .gone ?_ | refine .map (fun p hp => by (obtain ⟨k, _, rfl⟩ := List.mem_map.1 hp; rfl)) ?_)) rfl rfl rfl (by repeat (first | exact .nil | refine .cons rfl rfl rfl (scrub_under _ _) ?_)) ?_
        refine ih (i + 1) _ _ (by omega) ⟨⟨rfl, rfl, rfl, ?_, rfl, rfl, ?_⟩, ?_, by omega, ?_⟩
        · rw [rfN_succ, hr']; rfl
        · show iv (IntKind.wrap .i64 ((i : Int) + 1)) = _
          rw [hw2]
        · rw [mpK_succ, hr']; rfl
        · rw [allPre_succ, hp, vok, hr']; rfl
      · have hr' : isRef l i = true := by
          have : ¬ (fat l i).refer < 0 := of_decide_eq_false hr
          rw [isRef, decide_eq_true (by omega)]
        refine runS_x (I := inf) (J := jnf) ⟨false, false, [], 0, 0⟩ 9999 rfl (by repeat (first | exact obs_nil | refine obs_draw (by kernel_rfl) ?_ | refine obs_same ?_ | refine obs_and ?_ | refine obs_by (by (simp [inB] <;> omega)) ?_)) ?_
        refine runS_draw 13 (by kernel_rfl) (lexj_x (I := inf) (J := jnf) 99 rfl rfl (by repeat (first | exact obs_nil | refine obs_same ?_ | refine obs_and ?_ | refine obs_by (by (simp [inB] <;> omega)) ?_)) (lexj_callU rfl rfl (by first | exact .v rfl rfl rfl rfl | exact .o rfl rfl rfl rfl) rfl rfl (by repeat (first | exact .nil | refine .cons (.n rfl) ?_ | refine .cons .o ?_ | refine .cons gok_and ?_)) rfl rfl rfl rfl rfl (fun hcond => (level_within _ _ _)) (lexj_x (I := inf) (J := jnf) 99 rfl rfl (by repeat (first | exact obs_nil | refine obs_same ?_ | refine obs_and ?_ | refine obs_by (by (simp [inB] <;> omega)) ?_)) lexj_nil))) ?_
        have hw : (if decide ((rfN l i : Int) < (vals.length : Int)) = true then (decide ((fat l i).count ≤ vals.getD (rfN l i) 0) && decide (vals.getD (rfN l i) 0 ≤ 200)) else false) = vok l vals i := by
          rw [vok, hr']
          generalize vals.getD (rfN l i) 0 = v
          generalize (fat l i).count = c
          rw [Bool.eq_iff_iff]
          simp
          try omega
        by_cases hz : vok l vals i = true
        · have hrl : rfN l i < vals.length := by
            have := hz
            rw [vok, hr'] at this
            simp at this
            exact this.1.1
          refine runS_says 37 (show _ = bv true from congrArg bv (hw.trans hz)) (Says.refl _) ?_
          refine runS_call rfl rfl rfl rfl rfl rfl rfl (must_ok 11) ?_
          refine runS_x (I := inf) (J := jnf) ⟨false, false, [], 0, 0⟩ 9999 rfl (by repeat (first | exact obs_nil | refine obs_draw (by kernel_rfl) ?_ | refine obs_same ?_ | refine obs_and ?_ | refine obs_by (by (simp [inB, hrl] <;> omega)) ?_)) ?_
          refine runS_arEq (show _ = layS nl n2 l vals (mapPut (mpK l vals i) (.int .i64 i) (iv (vals.getD (rfN l i) 0))) ++ [.box 90 (fldE (fat l i))] from rfl) ?_
          rw [mpK_put l vals i hr']
          refine runS_drop 7 (Nat.zero_le _) rfl (by repeat (first | exact .nil | refine .row (fun j hj => rfl) ?_ | refine .box rfl ?_ | refine .fam (fun k j hk hj => rfl) ?_ | refine .loop (scrub_under _ _) ?_ | refine .dfr ?_ | refine .gone ?_ | refine .map (fun p hp => by (obtain ⟨k, _, rfl⟩ := List.mem_map.1 hp; rfl)) ?_)) rfl rfl rfl (by repeat (first | exact .nil | refine .cons rfl rfl rfl (scrub_under _ _) ?_)) ?_
          refine ih (i + 1) _ _ (by omega) ⟨⟨rfl, rfl, rfl, ?_, rfl, rfl, ?_⟩, ?_, by omega, ?_⟩
          · show iv (IntKind.wrap .i64 ((rfN l i : Int) + 1)) = _
            rw [rfN_succ, hr', w64 (by omega) (by omega)]; rfl
          · show iv (IntKind.wrap .i64 ((i : Int) + 1)) = _
            rw [hw2]
          · rfl
          · rw [allPre_succ, hp, hz]; rfl
        · have hz' : vok l vals i = false := by simpa using hz
          refine runS_says 37 (show _ = bv false from congrArg bv (hw.trans hz')) (Says.refl _) ?_
          refine runS_callP rfl rfl rfl rfl rfl rfl rfl (must_no 11) ?_
          refine runS_forget 4 rfl ?_
          refine runS_drop 4 (Nat.zero_le _) rfl (by repeat (first | exact .nil | refine .row (fun j hj => rfl) ?_ | refine .box rfl ?_ | refine .fam (fun k j hk hj => rfl) ?_ | refine .loop (scrub_under _ _) ?_ | refine .dfr ?_ | refine .gone ?_ | refine .map (fun p hp => by (obtain ⟨k, _, rfl⟩ := List.mem_map.1 hp; rfl)) ?_)) rfl rfl rfl (by repeat (first | exact .nil | refine .cons rfl rfl rfl (scrub_under _ _) ?_)) ?_
          refine runS_x (I := inf) (J := jnf) ⟨true, false, [160], 0, 0⟩ 9999 rfl (by repeat (first | exact obs_nil | refine obs_draw (by kernel_rfl) ?_ | refine obs_same ?_ | refine obs_and ?_ | refine obs_by (by (simp [inB] <;> omega)) ?_)) ?_
          refine runS_drawG (ch := []) 4 [3] (fun b => [.box 41 [fldS nl l], .box 23 [intS n2 vals], .box 81 [.val (.slice none 0 0)], .box 51 [iv 0], .box 170 [iv 11]]) none (c := 9) jnfI.draw (by kernel_rfl) rfl (lexg_g (I := inf) (J := jnf) none ⟨⟨_, rfl, (by repeat (first | exact obs_nil | refine obs_same ?_ | refine obs_and ?_ | refine obs_by (by (simp [inB] <;> omega)) ?_))⟩, (by first | exact .inl (by decide +kernel) | exact .inr ⟨_, rfl, (by repeat (first | exact obs_nil | refine obs_same ?_ | refine obs_and ?_ | refine obs_by (by (simp [inB] <;> omega)) ?_))⟩)⟩ rfl rfl rfl rfl (lexg_g (I := inf) (J := jnf) none ⟨⟨_, rfl, (by repeat (first | exact obs_nil | refine obs_same ?_ | refine obs_and ?_ | refine obs_by (by (simp [inB] <;> omega)) ?_))⟩, (by first | exact .inl (by decide +kernel) | exact .inr ⟨_, rfl, (by repeat (first | exact obs_nil | refine obs_same ?_ | refine obs_and ?_ | refine obs_by (by (simp [inB] <;> omega)) ?_))⟩)⟩ rfl rfl rfl rfl (lexg_g (I := inf) (J := jnf) none ⟨⟨_, rfl, (by repeat (first | exact obs_nil | refine obs_same ?_ | refine obs_and ?_ | refine obs_by (by (simp [inB] <;> omega)) ?_))⟩, (by first | exact .inl (by decide +kernel) | exact .inr ⟨_, rfl, (by repeat (first | exact obs_nil | refine obs_same ?_ | refine obs_and ?_ | refine obs_by (by (simp [inB] <;> omega)) ?_))⟩)⟩ rfl rfl rfl rfl (lexg_g (I := inf) (J := jnf) (some .store) ⟨⟨_, rfl, (by repeat (first | exact obs_nil | refine obs_same ?_ | refine obs_and ?_ | refine obs_by (by (simp [inB] <;> omega)) ?_))⟩, .inl rfl⟩ rfl rfl rfl rfl lexg_nil)))) rfl (fun _ => ?_) (fun h => by cases h)
          refine runS_x (I := inf) (J := jnf) ⟨true, false, [160], 0, 0⟩ 9999 rfl (by repeat (first | exact obs_nil | refine obs_draw (by kernel_rfl) ?_ | refine obs_same ?_ | refine obs_and ?_ | refine obs_by (by (simp [inB] <;> omega)) ?_)) ?_
          refine runS_says 4 rfl (says_nil0 (sz := 3) (r := nilSp) (Nat.zero_le _)) ?_
          refine runS_ret (I := inf) 0 rfl (Nat.le_refl _) rfl .nil rfl ⟨?_, rfl⟩
          rw [layoutF, if_pos hv, not_vals hlt' hz']
          rfl
    · have hie : i = l.length := by simp at hlt; omega
      subst hie
      refine runS_x (I := inf) (J := jnf) ⟨false, false, [], 0, 0⟩ 9999 rfl (by repeat (first | exact obs_nil | refine obs_draw (by kernel_rfl) ?_ | refine obs_same ?_ | refine obs_and ?_ | refine obs_by (by (simp [inB] <;> omega)) ?_)) ?_
      by_cases hz : valsOK l vals = true
      · have hd : ((rfN l l.length : Int) == (vals.length : Int)) = true := by
          simp only [valsOK, Bool.and_eq_true, beq_iff_eq] at hz
          rw [beq_iff_eq]
          omega
        refine runS_says 54 (show _ = bv true from congrArg bv hd) (Says.refl _) ?_
        refine runS_call rfl rfl rfl rfl rfl rfl rfl (must_ok 11) ?_
        refine runS_x (I := inf) (J := jnf) ⟨false, false, [], 0, 0⟩ 9999 rfl (by repeat (first | exact obs_nil | refine obs_draw (by kernel_rfl) ?_ | refine obs_same ?_ | refine obs_and ?_ | refine obs_by (by (simp [inB] <;> omega)) ?_)) ?_
        have ok := layOK_of hv hz
        have hk : Kept4 7 (.box 41 [fldS nl l]) (.box 23 [intS n2 vals]) (.box 81 [.val (.slice none 0 0)]) (.box 51 [iv 0]) := fun L h => .box rfl (.box rfl (.box rfl (.box rfl h)))
        refine runS_tell 5 (sqR l (cntN l vals) (fun _ => false) (fun _ => false)) rfl rfl (fun j hj => rfl) rfl ?_
        have hcall := level_lay hk l vals ok hv hz hlen.2 l.length 0 (by omega) (by omega) (fun _ => false) (fun _ => false)
        by_cases ht : tkK l (cntN l vals) 0 ≤ 1000000
        · have hq : layQ (.box 41 [fldS nl l]) (.box 23 [intS n2 vals]) (.box 81 [.val (.slice none 0 0)]) (.box 51 [iv 0]) l vals (cntN l vals) 0 (fun _ => false) (fun _ => false) = fun o A => o = .ret (.tup [iv (lay l (cntN l vals) 0).2, iv (tkK l (cntN l vals) 0)]) ∧ A = arnL (.box 41 [fldS nl l]) (.box 23 [intS n2 vals]) (.box 81 [.val (.slice none 0 0)]) (.box 51 [iv 0]) l vals (sqR l (cntN l vals) (fun j => false || withinK l 0 l.length j) (fun j => false || decide (0 ∈ anc l j))) := by
            funext o A; rw [layQ, if_pos ht]
          rw [hq] at hcall
          refine runS_callF (arnL (.box 41 [fldS nl l]) (.box 23 [intS n2 vals]) (.box 81 [.val (.slice none 0 0)]) (.box 51 [iv 0]) l vals (sqR l (cntN l vals) (fun _ => false) (fun _ => false)))
            (arnL (.box 41 [fldS nl l]) (.box 23 [intS n2 vals]) (.box 81 [.val (.slice none 0 0)]) (.box 51 [iv 0]) l vals (sqR l (cntN l vals) (fun j => false || withinK l 0 l.length j) (fun j => false || decide (0 ∈ anc l j)))) [] rfl rfl rfl rfl rfl (show _ = [ptrL, iv ((0 : Nat) : Int)] from rfl) rfl (kept_arn hk fun j hj => rfl) rfl rfl hcall ?_
          refine runS_tell 5 (encR spE (0, 0, 0) (spotsL l (cntN l vals))) rfl rfl (fun j hj => ?_) rfl ?_
          · have e : (spotsL l (cntN l vals)).getD j (0, 0, 0) = spotK l (cntN l vals) j := by
              rw [spotsL, List.getD_eq_getElem?_getD, List.getElem?_map, List.getElem?_range hj]; rfl
            show spE ((spotsL l (cntN l vals)).getD j (0, 0, 0)) = _
            rw [e]
            show _ = [iv (if (false || withinK l 0 l.length j) then offK l (cntN l vals) j else 0 : Nat), iv (if (false || decide (0 ∈ anc l j)) then (lay l (cntN l vals) j).1 else 0 : Nat), iv (if (false || decide (0 ∈ anc l j)) then upR (lay l (cntN l vals) j).1 (lay l (cntN l vals) j).2 else 0 : Nat)]
            have h1 : (false || decide (0 ∈ anc l j)) = true := by rw [decide_eq_true (anc0 hv j hj)]; rfl
            rw [h1]
            by_cases hj0 : j = 0
            · subst hj0
              have : offK l (cntN l vals) 0 = 0 := rfl
              unfold spE spotK
              rw [this, ite_self]
              rfl
            · have h2 : (false || withinK l 0 l.length j) = true := by rw [← anc_kid hj hj0]; exact h1
              rw [h2]
              rfl
          refine runS_x (I := inf) (J := jnf) ⟨true, false, [160], 0, 0⟩ 9999 rfl (by repeat (first | exact obs_nil | refine obs_draw (by kernel_rfl) ?_ | refine obs_same ?_ | refine obs_and ?_ | refine obs_by (by (simp [inB] <;> omega)) ?_)) ?_
          have hsl : (spotsL l (cntN l vals)).length = l.length := by simp [spotsL]
          refine runS_freeze 4 rfl rfl rfl (fun j hj => rfl) ?_
          refine runS_ret (I := inf) 0 rfl (Nat.le_refl _) rfl .nil rfl ⟨?_, rfl⟩
          rw [layoutF, if_pos hv, if_pos hz, if_pos ht]
          rw [layoutA, spotS, hsl]
          try rfl
        · have hq : layQ (.box 41 [fldS nl l]) (.box 23 [intS n2 vals]) (.box 81 [.val (.slice none 0 0)]) (.box 51 [iv 0]) l vals (cntN l vals) 0 (fun _ => false) (fun _ => false) = fun o A => o = .pan (.ifc 170 (.agg [iv 4])) ∧ A = lostL (.box 41 [fldS nl l]) (.box 23 [intS n2 vals]) (.box 81 [.val (.slice none 0 0)]) (.box 51 [iv 0]) := by
            funext o A; rw [layQ, if_neg ht]
          rw [hq] at hcall
          refine runS_callFP (arnL (.box 41 [fldS nl l]) (.box 23 [intS n2 vals]) (.box 81 [.val (.slice none 0 0)]) (.box 51 [iv 0]) l vals (sqR l (cntN l vals) (fun _ => false) (fun _ => false)))
            (lostL (.box 41 [fldS nl l]) (.box 23 [intS n2 vals]) (.box 81 [.val (.slice none 0 0)]) (.box 51 [iv 0])) [] rfl rfl rfl rfl rfl (show _ = [ptrL, iv ((0 : Nat) : Int)] from rfl) rfl (kept_arn hk fun j hj => rfl) rfl rfl hcall ?_
          refine runS_forget 4 rfl ?_
          refine runS_drop 4 (Nat.zero_le _) rfl (by repeat (first | exact .nil | refine .row (fun j hj => rfl) ?_ | refine .box rfl ?_ | refine .fam (fun k j hk hj => rfl) ?_ | refine .loop (scrub_under _ _) ?_ | refine .dfr ?_ | refine .gone ?_ | refine .map (fun p hp => by (obtain ⟨k, _, rfl⟩ := List.mem_map.1 hp; rfl)) ?_)) rfl rfl rfl (by repeat (first | exact .nil | refine .cons rfl rfl rfl (scrub_under _ _) ?_)) ?_
          refine runS_x (I := inf) (J := jnf) ⟨true, false, [160], 0, 0⟩ 9999 rfl (by repeat (first | exact obs_nil | refine obs_draw (by kernel_rfl) ?_ | refine obs_same ?_ | refine obs_and ?_ | refine obs_by (by (simp [inB] <;> omega)) ?_)) ?_
          refine runS_drawG (ch := []) 4 [3] (fun b => [.box 41 [fldS nl l], .box 23 [intS n2 vals], .box 81 [.val (.slice none 0 0)], .box 51 [iv 0], .box 170 [iv 4]]) none (c := 9) jnfI.draw (by kernel_rfl) rfl (lexg_g (I := inf) (J := jnf) none ⟨⟨_, rfl, (by repeat (first | exact obs_nil | refine obs_same ?_ | refine obs_and ?_ | refine obs_by (by (simp [inB] <;> omega)) ?_))⟩, (by first | exact .inl (by decide +kernel) | exact .inr ⟨_, rfl, (by repeat (first | exact obs_nil | refine obs_same ?_ | refine obs_and ?_ | refine obs_by (by (simp [inB] <;> omega)) ?_))⟩)⟩ rfl rfl rfl rfl (lexg_g (I := inf) (J := jnf) none ⟨⟨_, rfl, (by repeat (first | exact obs_nil | refine obs_same ?_ | refine obs_and ?_ | refine obs_by (by (simp [inB] <;> omega)) ?_))⟩, (by first | exact .inl (by decide +kernel) | exact .inr ⟨_, rfl, (by repeat (first | exact obs_nil | refine obs_same ?_ | refine obs_and ?_ | refine obs_by (by (simp [inB] <;> omega)) ?_))⟩)⟩ rfl rfl rfl rfl (lexg_g (I := inf) (J := jnf) none ⟨⟨_, rfl, (by repeat (first | exact obs_nil | refine obs_same ?_ | refine obs_and ?_ | refine obs_by (by (simp [inB] <;> omega)) ?_))⟩, (by first | exact .inl (by decide +kernel) | exact .inr ⟨_, rfl, (by repeat (first | exact obs_nil | refine obs_same ?_ | refine obs_and ?_ | refine obs_by (by (simp [inB] <;> omega)) ?_))⟩)⟩ rfl rfl rfl rfl (lexg_g (I := inf) (J := jnf) (some .store) ⟨⟨_, rfl, (by repeat (first | exact obs_nil | refine obs_same ?_ | refine obs_and ?_ | refine obs_by (by (simp [inB] <;> omega)) ?_))⟩, .inl rfl⟩ rfl rfl rfl rfl lexg_nil)))) rfl (fun _ => ?_) (fun h => by cases h)
          refine runS_x (I := inf) (J := jnf) ⟨true, false, [160], 0, 0⟩ 9999 rfl (by repeat (first | exact obs_nil | refine obs_draw (by kernel_rfl) ?_ | refine obs_same ?_ | refine obs_and ?_ | refine obs_by (by (simp [inB] <;> omega)) ?_)) ?_
          refine runS_says 4 rfl (says_nil0 (sz := 3) (r := nilSp) (Nat.zero_le _)) ?_
          refine runS_ret (I := inf) 0 rfl (Nat.le_refl _) rfl .nil rfl ⟨?_, rfl⟩
          rw [layoutF, if_pos hv, if_pos hz, if_neg ht]
          rfl
      · have hd : ((rfN l l.length : Int) == (vals.length : Int)) = false := by
          have : valsOK l vals = false := by simpa using hz
          rw [valsOK, hp, Bool.true_and, beq_eq_false_iff_ne] at this
          rw [beq_eq_false_iff_ne]
          omega
        refine runS_says 54 (show _ = bv false from congrArg bv hd) (Says.refl _) ?_
        refine runS_callP rfl rfl rfl rfl rfl rfl rfl (must_no 11) ?_
        refine runS_forget 4 rfl ?_
        refine runS_drop 4 (Nat.zero_le _) rfl (by repeat (first | exact .nil | refine .row (fun j hj => rfl) ?_ | refine .box rfl ?_ | refine .fam (fun k j hk hj => rfl) ?_ | refine .loop (scrub_under _ _) ?_ | refine .dfr ?_ | refine .gone ?_ | refine .map (fun p hp => by (obtain ⟨k, _, rfl⟩ := List.mem_map.1 hp; rfl)) ?_)) rfl rfl rfl (by repeat (first | exact .nil | refine .cons rfl rfl rfl (scrub_under _ _) ?_)) ?_
        refine runS_x (I := inf) (J := jnf) ⟨true, false, [160], 0, 0⟩ 9999 rfl (by repeat (first | exact obs_nil | refine obs_draw (by kernel_rfl) ?_ | refine obs_same ?_ | refine obs_and ?_ | refine obs_by (by (simp [inB] <;> omega)) ?_)) ?_
        refine runS_drawG (ch := []) 4 [3] (fun b => [.box 41 [fldS nl l], .box 23 [intS n2 vals], .box 81 [.val (.slice none 0 0)], .box 51 [iv 0], .box 170 [iv 11]]) none (c := 9) jnfI.draw (by kernel_rfl) rfl (lexg_g (I := inf) (J := jnf) none ⟨⟨_, rfl, (by repeat (first | exact obs_nil | refine obs_same ?_ | refine obs_and ?_ | refine obs_by (by (simp [inB] <;> omega)) ?_))⟩, (by first | exact .inl (by decide +kernel) | exact .inr ⟨_, rfl, (by repeat (first | exact obs_nil | refine obs_same ?_ | refine obs_and ?_ | refine obs_by (by (simp [inB] <;> omega)) ?_))⟩)⟩ rfl rfl rfl rfl (lexg_g (I := inf) (J := jnf) none ⟨⟨_, rfl, (by repeat (first | exact obs_nil | refine obs_same ?_ | refine obs_and ?_ | refine obs_by (by (simp [inB] <;> omega)) ?_))⟩, (by first | exact .inl (by decide +kernel) | exact .inr ⟨_, rfl, (by repeat (first | exact obs_nil | refine obs_same ?_ | refine obs_and ?_ | refine obs_by (by (simp [inB] <;> omega)) ?_))⟩)⟩ rfl rfl rfl rfl (lexg_g (I := inf) (J := jnf) none ⟨⟨_, rfl, (by repeat (first | exact obs_nil | refine obs_same ?_ | refine obs_and ?_ | refine obs_by (by (simp [inB] <;> omega)) ?_))⟩, (by first | exact .inl (by decide +kernel) | exact .inr ⟨_, rfl, (by repeat (first | exact obs_nil | refine obs_same ?_ | refine obs_and ?_ | refine obs_by (by (simp [inB] <;> omega)) ?_))⟩)⟩ rfl rfl rfl rfl (lexg_g (I := inf) (J := jnf) (some .store) ⟨⟨_, rfl, (by repeat (first | exact obs_nil | refine obs_same ?_ | refine obs_and ?_ | refine obs_by (by (simp [inB] <;> omega)) ?_))⟩, .inl rfl⟩ rfl rfl rfl rfl lexg_nil)))) rfl (fun _ => ?_) (fun h => by cases h)
        refine runS_x (I := inf) (J := jnf) ⟨true, false, [160], 0, 0⟩ 9999 rfl (by repeat (first | exact obs_nil | refine obs_draw (by kernel_rfl) ?_ | refine obs_same ?_ | refine obs_and ?_ | refine obs_by (by (simp [inB] <;> omega)) ?_)) ?_
        refine runS_says 4 rfl (says_nil0 (sz := 3) (r := nilSp) (Nat.zero_le _)) ?_
        refine runS_ret (I := inf) 0 rfl (Nat.le_refl _) rfl .nil rfl ⟨?_, rfl⟩
        rw [layoutF, if_pos hv, if_neg hz]
        rfl
  · refine callS_body (n := 10) rfl rfl fun w ρ X => ?_
    refine runS_x (I := inf) (J := jnf) ⟨false, false, [113, 114], 0, 0⟩ 9999 rfl (by repeat (first | exact obs_nil | refine obs_draw (by kernel_rfl) ?_ | refine obs_same ?_ | refine obs_and ?_ | refine obs_by (by (simp [inB] <;> omega)) ?_)) ?_
    refine runS_hole ?_
    refine runS_hole ?_
    refine runS_drawG 6 [2, 5] (fun b => [.box 41 [fldS nl l], .box 23 [intS n2 vals], .box 81 [.val (.slice none 0 0)], .box 51 [iv 0], cond (b.getD 0 false) (.map 1 (some .i64) []) .hole, cond (b.getD 1 false) (.row 86 3 1 l.length (fun _ => [iv 0, iv 0, iv 0])) .hole]) (some 1) (c := 9) jnfI.draw (by kernel_rfl) rfl (lexg_g (I := inf) (J := jnf) none ⟨⟨⟨_, rfl, (by repeat (first | exact obs_nil | refine obs_same ?_ | refine obs_and ?_ | refine obs_by (by (simp [inB, hb] <;> omega)) ?_))⟩, (by first | exact .inl (by decide +kernel) | exact .inr ⟨_, rfl, (by repeat (first | exact obs_nil | refine obs_same ?_ | refine obs_and ?_ | refine obs_by (by (simp [inB, hb] <;> omega)) ?_))⟩)⟩, (by first | exact .inl (by decide +kernel) | exact .inr ⟨⟨_, rfl, (by repeat (first | exact obs_nil | refine obs_same ?_ | refine obs_and ?_ | refine obs_by (by (simp [inB, hb] <;> omega)) ?_))⟩, (by first | exact .inl (by decide +kernel) | exact .inr ⟨_, rfl, (by repeat (first | exact obs_nil | refine obs_same ?_ | refine obs_and ?_ | refine obs_by (by (simp [inB, hb] <;> omega)) ?_))⟩)⟩)⟩ rfl rfl rfl rfl (lexg_pan rfl rfl rfl rfl rfl rfl rfl rfl (valid_bad1 nl l 0 hs (by simpa using hv)) (lexg_g (I := inf) (J := jnf) (some (.hole 4)) ⟨⟨⟨_, rfl, (by repeat (first | exact obs_nil | refine obs_same ?_ | refine obs_and ?_ | refine obs_by (by (simp [inB, hb] <;> omega)) ?_))⟩, (by first | exact .inl (by decide +kernel) | exact .inr ⟨_, rfl, (by repeat (first | exact obs_nil | refine obs_same ?_ | refine obs_and ?_ | refine obs_by (by (simp [inB, hb] <;> omega)) ?_))⟩)⟩, .inl rfl⟩ rfl rfl rfl rfl (lexg_g (I := inf) (J := jnf) none ⟨⟨⟨_, rfl, (by repeat (first | exact obs_nil | refine obs_same ?_ | refine obs_and ?_ | refine obs_by (by (simp [inB, hb] <;> omega)) ?_))⟩, (by first | exact .inl (by decide +kernel) | exact .inr ⟨_, rfl, (by repeat (first | exact obs_nil | refine obs_same ?_ | refine obs_and ?_ | refine obs_by (by (simp [inB, hb] <;> omega)) ?_))⟩)⟩, (by first | exact .inl (by decide +kernel) | exact .inr ⟨⟨_, rfl, (by repeat (first | exact obs_nil | refine obs_same ?_ | refine obs_and ?_ | refine obs_by (by (simp [inB, hb] <;> omega)) ?_))⟩, (by first | exact .inl (by decide +kernel) | exact .inr ⟨_, rfl, (by repeat (first | exact obs_nil | refine obs_same ?_ | refine obs_and ?_ | refine obs_by (by (simp [inB, hb] <;> omega)) ?_))⟩)⟩)⟩ rfl rfl rfl rfl (lexg_g (I := inf) (J := jnf) none ⟨⟨⟨_, rfl, (by repeat (first | exact obs_nil | refine obs_same ?_ | refine obs_and ?_ | refine obs_by (by (simp [inB, hb] <;> omega)) ?_))⟩, (by first | exact .inl (by decide +kernel) | exact .inr ⟨_, rfl, (by repeat (first | exact obs_nil | refine obs_same ?_ | refine obs_and ?_ | refine obs_by (by (simp [inB, hb] <;> omega)) ?_))⟩)⟩, (by first | exact .inl (by decide +kernel) | exact .inr ⟨⟨_, rfl, (by repeat (first | exact obs_nil | refine obs_same ?_ | refine obs_and ?_ | refine obs_by (by (simp [inB, hb] <;> omega)) ?_))⟩, (by first | exact .inl (by decide +kernel) | exact .inr ⟨_, rfl, (by repeat (first | exact obs_nil | refine obs_same ?_ | refine obs_and ?_ | refine obs_by (by (simp [inB, hb] <;> omega)) ?_))⟩)⟩)⟩ rfl rfl rfl rfl (lexg_g (I := inf) (J := jnf) (some (.hole 5)) ⟨⟨⟨_, rfl, (by repeat (first | exact obs_nil | refine obs_same ?_ | refine obs_and ?_ | refine obs_by (by (simp [inB, hb] <;> omega)) ?_))⟩, .inl rfl⟩, (by first | exact .inl (by decide +kernel) | exact .inr ⟨⟨_, rfl, (by repeat (first | exact obs_nil | refine obs_same ?_ | refine obs_and ?_ | refine obs_by (by (simp [inB, hb] <;> omega)) ?_))⟩, .inl rfl⟩)⟩ rfl rfl rfl rfl lexg_nil)))))) rfl (fun h => by cases h) (fun _ b tt => ?_)
    refine runS_lose 4 rfl ?_
    refine runS_lose 5 rfl ?_
    refine runS_x (I := inf) (J := jnf) ⟨true, false, [160], 0, 0⟩ 9999 rfl (by repeat (first | exact obs_nil | refine obs_draw (by kernel_rfl) ?_ | refine obs_same ?_ | refine obs_and ?_ | refine obs_by (by (simp [inB] <;> omega)) ?_)) ?_
    refine runS_drawG (ch := []) 4 [3] (fun b => [.box 41 [fldS nl l], .box 23 [intS n2 vals], .box 81 [.val (.slice none 0 0)], .box 51 [iv 0], .gone, .gone, .box 170 [iv 1]]) none (c := 9) jnfI.draw (by kernel_rfl) rfl (lexg_g (I := inf) (J := jnf) none ⟨⟨_, rfl, (by repeat (first | exact obs_nil | refine obs_same ?_ | refine obs_and ?_ | refine obs_by (by (simp [inB] <;> omega)) ?_))⟩, (by first | exact .inl (by decide +kernel) | exact .inr ⟨_, rfl, (by repeat (first | exact obs_nil | refine obs_same ?_ | refine obs_and ?_ | refine obs_by (by (simp [inB] <;> omega)) ?_))⟩)⟩ rfl rfl rfl rfl (lexg_g (I := inf) (J := jnf) none ⟨⟨_, rfl, (by repeat (first | exact obs_nil | refine obs_same ?_ | refine obs_and ?_ | refine obs_by (by (simp [inB] <;> omega)) ?_))⟩, (by first | exact .inl (by decide +kernel) | exact .inr ⟨_, rfl, (by repeat (first | exact obs_nil | refine obs_same ?_ | refine obs_and ?_ | refine obs_by (by (simp [inB] <;> omega)) ?_))⟩)⟩ rfl rfl rfl rfl (lexg_g (I := inf) (J := jnf) none ⟨⟨_, rfl, (by repeat (first | exact obs_nil | refine obs_same ?_ | refine obs_and ?_ | refine obs_by (by (simp [inB] <;> omega)) ?_))⟩, (by first | exact .inl (by decide +kernel) | exact .inr ⟨_, rfl, (by repeat (first | exact obs_nil | refine obs_same ?_ | refine obs_and ?_ | refine obs_by (by (simp [inB] <;> omega)) ?_))⟩)⟩ rfl rfl rfl rfl (lexg_g (I := inf) (J := jnf) (some .store) ⟨⟨_, rfl, (by repeat (first | exact obs_nil | refine obs_same ?_ | refine obs_and ?_ | refine obs_by (by (simp [inB] <;> omega)) ?_))⟩, .inl rfl⟩ rfl rfl rfl rfl lexg_nil)))) rfl (fun _ => ?_) (fun h => by cases h)
    refine runS_x (I := inf) (J := jnf) ⟨true, false, [160], 0, 0⟩ 9999 rfl (by repeat (first | exact obs_nil | refine obs_draw (by kernel_rfl) ?_ | refine obs_same ?_ | refine obs_and ?_ | refine obs_by (by (simp [inB] <;> omega)) ?_)) ?_
    refine runS_says 4 rfl (says_nil0 (sz := 3) (r := nilSp) (Nat.zero_le _)) ?_
    refine runS_ret (I := inf) 0 rfl (Nat.le_refl _) rfl .nil rfl ⟨?_, rfl⟩
    rw [layoutF, if_neg hv]
    rfl
end Go.Iron.Try

/- The level package's laws: light, awake. -/
namespace Go.Iron.Try
open Go.Proofs

def litL : List Fld := [⟨1, [65], 0, ⟨0, 0, 0, 0, false, []⟩, false, -1⟩, ⟨2, [66], 0, ⟨1, 31, 0, 0, false, []⟩, false, -1⟩, ⟨2, [67], 0, ⟨4, 0, 0, 3, false, []⟩, false, -1⟩, ⟨2, [68], 0, ⟨1, 15, 0, 0, false, []⟩, false, -1⟩]
theorem lit_layout : layoutF litL [] = ([(0, 10, 12), (0, 4, 4), (4, 3, 3), (8, 2, 2)], 0) := by decide +kernel
theorem lit_small : smallF litL := ⟨by decide, fun i hi => by
  have : i < 4 := hi
  rcases i with _ | _ | _ | _ | i
  · exact ⟨by decide, by decide⟩
  · exact ⟨by decide, by decide⟩
  · exact ⟨by decide, by decide⟩
  · exact ⟨by decide, by decide⟩
  · omega⟩
theorem lev_awake : CallT Try.prog 67 [] [] (fun o A => o = .ret (bv true) ∧ A = []) := by
  refine callS_body (n := 45) rfl rfl fun w ρ X => ?_
  refine runS_x (I := inf) (J := jnf) ⟨false, false, [], 0, 0⟩ 9999 rfl (by repeat (first | exact obs_nil | refine obs_draw (by kernel_rfl) ?_ | refine obs_same ?_ | refine obs_and ?_ | refine obs_by (by (simp [inB] <;> omega)) ?_)) ?_
  refine runS_tell 0 (encR fldE fld0 litL) rfl (m' := 4) rfl ?_ rfl ?_
  · intro i hi
    rcases i with _ | _ | _ | _ | i <;> first | rfl | omega
  refine runS_freeze 13 rfl rfl rfl (fun i hi => ?_) ?_
  · rcases i with _ | _ | _ | _ | i <;> first | rfl | omega
  refine runS_drop 0 (Nat.zero_le _) rfl (by repeat (first | exact .nil | refine .row (fun j hj => rfl) ?_ | refine .box rfl ?_ | refine .fam (fun k j hk hj => rfl) ?_ | refine .loop (scrub_under _ _) ?_ | refine .dfr ?_ | refine .gone ?_ | refine .map (fun p hp => by (obtain ⟨k, _, rfl⟩ := List.mem_map.1 hp; rfl)) ?_)) rfl rfl rfl (by repeat (first | exact .nil | refine .cons rfl rfl rfl (scrub_under _ _) ?_)) ?_
  have hcall := callT_says (.cons (Says.refl _) (.cons (says_nil0 (sz := 1) (r := intR []) (Nat.zero_le _)) .nil)) (level_Layout none none litL [] lit_small (by decide))
  rw [lit_layout] at hcall
  refine runS_call rfl rfl rfl rfl rfl rfl rfl hcall ?_
  refine runS_x (I := inf) (J := jnf) ⟨false, false, [], 0, 0⟩ 9999 rfl (by repeat (first | exact obs_nil | refine obs_draw (by kernel_rfl) ?_ | refine obs_same ?_ | refine obs_and ?_ | refine obs_by (by (simp [inB] <;> omega)) ?_)) ?_
  refine runS_ret (I := inf) 0 rfl (Nat.le_refl _) rfl .nil rfl ⟨?_, rfl⟩
  rfl
def lightT (l : List Fld) (i : Nat) : Bool := decide ((fat l i).name.length ≤ 100) && decide ((fat l i).typ.pic.length ≤ 300)
def lightF (l : List Fld) : Bool := (List.range (min l.length 250)).all (lightT l) && decide (l.length ≤ 210)
theorem lev_light (nl : Option Bool) (l : List Fld) (hb : l.length < 1000000000000000) : CallT Try.prog 66 [fldS nl l] [] (fun o A => o = .ret (bv (lightF l)) ∧ A = []) := by
  refine callS_body (n := 34) rfl rfl fun w ρ X => ?_
  refine runS_x (I := inf) (J := jnf) ⟨false, false, [], 0, 0⟩ 9999 rfl (by repeat (first | exact obs_nil | refine obs_draw (by kernel_rfl) ?_ | refine obs_same ?_ | refine obs_and ?_ | refine obs_by (by (simp [inB] <;> omega)) ?_)) ?_
  refine runS_while (fun (i : Nat) τ ar => (τ 0 = fldS nl l ∧ τ 3 = iv i) ∧ ar = [] ∧ i ≤ l.length ∧ i ≤ 250 ∧ (List.range i).all (lightT l) = true) (fun i => l.length - i) 0 ⟨⟨rfl, rfl⟩, rfl, Nat.zero_le _, Nat.zero_le _, rfl⟩ ?_
  rintro i τ' ar' ⟨⟨h0, h3⟩, rfl, hi, hi2, hp⟩ ih
  refine runS_says 0 (by exact h0) (Says.refl _) ?_; refine runS_says 3 (by exact h3) (Says.refl _) ?_
  refine runS_x (I := inf) (J := jnf) ⟨false, false, [], 0, 0⟩ 9999 rfl (by repeat (first | exact obs_nil | refine obs_draw (by kernel_rfl) ?_ | refine obs_same ?_ | refine obs_and ?_ | refine obs_by (by (simp [inB] <;> omega)) ?_)) ?_
  refine runS_cond rfl (fun hlt => ?_) (fun hlt => ?_)
  · have hlt' : i < l.length ∧ i < 250 := by
      have : (if decide ((i : Int) < (l.length : Int)) = true then decide ((i : Int) < 250) else false) = true := hlt
      simp at this
      omega
    have hl1 := hlt'.1
    refine runS_x (I := inf) (J := jnf) ⟨false, false, [], 0, 0⟩ 9999 rfl (by repeat (first | exact obs_nil | refine obs_draw (by kernel_rfl) ?_ | refine obs_same ?_ | refine obs_and ?_ | refine obs_by (by (simp [inB, hl1] <;> omega)) ?_)) ?_
    have hw : (if decide (((fat l i).name.length : Int) > 100) = true then true else decide (((fat l i).typ.pic.length : Int) > 300)) = !lightT l i := by
      rw [lightT, Bool.eq_iff_iff]
      simp
      try omega
    refine runS_cond rfl (fun hz => ?_) (fun hz => ?_)
    · refine runS_x (I := inf) (J := jnf) ⟨false, false, [], 0, 0⟩ 9999 rfl (by repeat (first | exact obs_nil | refine obs_draw (by kernel_rfl) ?_ | refine obs_same ?_ | refine obs_and ?_ | refine obs_by (by (simp [inB] <;> omega)) ?_)) ?_
      refine runS_ret (I := inf) 0 rfl (Nat.le_refl _) rfl .nil rfl ⟨?_, rfl⟩
      have hz' : lightT l i = false := by have := hw.symm.trans hz; simpa using this
      rw [lightF, allPre_false (show i < min l.length 250 by omega) hz']
      rfl
    · have hz' : lightT l i = true := by have := hw.symm.trans hz; simpa using this
      refine runS_x (I := inf) (J := jnf) ⟨false, false, [], 0, 0⟩ 9999 rfl (by repeat (first | exact obs_nil | refine obs_draw (by kernel_rfl) ?_ | refine obs_same ?_ | refine obs_and ?_ | refine obs_by (by (simp [inB] <;> omega)) ?_)) ?_
      refine ih (i + 1) _ _ (by omega) ⟨⟨rfl, ?_⟩, rfl, by omega, by omega, by rw [allPre_succ, hp, hz']; rfl⟩
      show iv (IntKind.wrap .i64 ((i : Int) + 1)) = _
      rw [w64 (by omega) (by omega)]; rfl
  · refine runS_x (I := inf) (J := jnf) ⟨false, false, [], 0, 0⟩ 9999 rfl (by repeat (first | exact obs_nil | refine obs_draw (by kernel_rfl) ?_ | refine obs_same ?_ | refine obs_and ?_ | refine obs_by (by (simp [inB] <;> omega)) ?_)) ?_
    refine runS_ret (I := inf) 0 rfl (Nat.le_refl _) rfl .nil rfl ⟨?_, rfl⟩
    have hge : min l.length 250 = i := by
      have : (if decide ((i : Int) < (l.length : Int)) = true then decide ((i : Int) < 250) else false) = false := hlt
      simp at this
      omega
    rw [lightF, hge, hp, Bool.true_and]
    refine congrArg (fun b => Out.ret (bv b)) ?_
    rw [Bool.eq_iff_iff]
    simp
    omega
theorem light_small {l : List Fld} (h : lightF l = true) : smallF l := by
  simp only [lightF, Bool.and_eq_true, decide_eq_true_eq] at h
  refine ⟨by omega, fun i hi => ?_⟩
  have := allR.1 h.1 i (by omega)
  simp only [lightT, Bool.and_eq_true, decide_eq_true_eq] at this
  omega
end Go.Iron.Try

/- The level package: what Normal and Path say of one another. -/
namespace Go.Iron.Try
open Go.Proofs

theorem upN_intro {l : List Fld} {v : Int} : ∀ {k i : Nat}, i < k → (fat l i).level < v → (∀ j, i < j → j < k → v ≤ (fat l j).level) → upN l v k = some i
  | 0, i, h, _, _ => by omega
  | k + 1, i, h, h1, h2 => by
    unfold upN
    by_cases hk : i = k
    · subst hk; rw [if_pos h1]
    · rw [if_neg (by have := h2 k (by omega) (by omega); omega)]
      exact upN_intro (by omega) h1 fun j a b => h2 j a (by omega)
end Go.Iron.Try

/- The level package: Like, as a function; members that come from another structure are laid as they were. -/
namespace Go.Iron.Try
open Go.Proofs

/-- A member of the structure itself: its Refer goes on where it is behind the place. -/
def movF (i m : Nat) (f : Fld) : Fld := { f with refer := if f.refer > i then f.refer + m else f.refer }
/-- A member that is put in. -/
def putF (d : Int) (i : Nat) (f : Fld) : Fld := { f with level := f.level + d, refer := if f.refer ≥ 0 then f.refer + i else f.refer }
def headF (l o : List Fld) (i : Nat) : Fld := { movF i (o.length - 1) (fat l i) with typ := typ0, union := (fat o 0).union }
def likeAt (l o : List Fld) (i j : Nat) : Fld :=
  if j < i then movF i (o.length - 1) (fat l j) else if j = i then headF l o i else if j < i + o.length then putF ((fat l i).level - 1) i (fat o (j - i)) else movF i (o.length - 1) (fat l (j - (o.length - 1)))
def likeT (l o : List Fld) (i n : Nat) : List Fld := (List.range n).map (likeAt l o i)
def likeL (l o : List Fld) (i : Nat) : List Fld := likeT l o i (l.length + (o.length - 1))
theorem likeT_succ (l o : List Fld) (i n : Nat) : likeT l o i (n + 1) = likeT l o i n ++ [likeAt l o i n] := by simp [likeT, List.range_succ]
theorem likeT_len (l o : List Fld) (i n : Nat) : (likeT l o i n).length = n := by simp [likeT]
theorem likeL_len (l o : List Fld) (i : Nat) : (likeL l o i).length = l.length + (o.length - 1) := likeT_len ..
theorem fat_like {l o : List Fld} {i j : Nat} (h : j < l.length + (o.length - 1)) : fat (likeL l o i) j = likeAt l o i j := by
  show (likeT l o i _).getD j fld0 = _
  rw [likeT, List.getD_eq_getElem?_getD, List.getElem?_map, List.getElem?_range h]
  rfl
theorem like_lo {l o : List Fld} {i j : Nat} (h : j < i) : likeAt l o i j = movF i (o.length - 1) (fat l j) := if_pos h
theorem like_at {l o : List Fld} {i : Nat} : likeAt l o i i = headF l o i := by rw [likeAt, if_neg (Nat.lt_irrefl _), if_pos rfl]
theorem like_in {l o : List Fld} {i j : Nat} (h1 : 1 ≤ j) (h2 : j < o.length) : likeAt l o i (i + j) = putF ((fat l i).level - 1) i (fat o j) := by
  rw [likeAt, if_neg (by omega), if_neg (by omega), if_pos (by omega), show i + j - i = j by omega]
theorem like_hi {l o : List Fld} {i k : Nat} (h0 : 1 ≤ o.length) (h : i < k) : likeAt l o i (k + (o.length - 1)) = movF i (o.length - 1) (fat l k) := by
  rw [likeAt, if_neg (by omega), if_neg (by omega), if_neg (by omega), show k + (o.length - 1) - (o.length - 1) = k by omega]

theorem like_small {l o : List Fld} {i : Nat} (hl : smallF l) (ho : smallF o) (hi : i < l.length) (hn : l.length + (o.length - 1) < 1000000000) : smallF (likeL l o i) := by
  refine ⟨by rw [likeL_len]; exact hn, fun j hj => ?_⟩
  rw [likeL_len] at hj
  rw [fat_like hj, likeAt]
  split
  · exact hl.2 j (by omega)
  split
  · exact ⟨(hl.2 i hi).1, by show (0 : Nat) < _; decide⟩
  split
  · exact ho.2 (j - i) (by omega)
  · exact hl.2 (j - (o.length - 1)) (by omega)
theorem like_bad {l o : List Fld} {i j : Nat} (h1 : 1 ≤ j) (h2 : j < o.length) (hi : i < l.length) (h : (fat o j).level + ((fat l i).level - 1) > 255) : validF (likeL l o i) = false := by
  have hj : i + j < l.length + (o.length - 1) := by omega
  refine validF_false (i := i + j) (by rw [likeL_len]; exact hj) ?_
  have : baseOK (likeL l o i) (i + j) = false := by
    have e : (fat (likeL l o i) (i + j)).level = (fat o j).level + ((fat l i).level - 1) := by rw [fat_like hj, like_in h1 h2]; rfl
    unfold baseOK inR
    rw [e, decide_eq_false (show ¬ (fat o j).level + ((fat l i).level - 1) ≤ 255 by omega)]
    simp
  rw [okA, this]
  rfl
theorem like_bad2 {l : List Fld} {k : Nat} (hk : k < l.length) (h : (fat l k).level > 255 ∨ arrs l k > 3) : validF l = false := by
  refine validF_false hk ?_
  rcases h with h | h
  · have : baseOK l k = false := by
      unfold baseOK inR
      rw [decide_eq_false (show ¬ (fat l k).level ≤ 255 by omega)]
      simp
    rw [okA, this]; rfl
  · rw [okA, decide_eq_false (show ¬ arrs l k ≤ 3 by omega)]
    simp

/-- The kind of refusal. -/
def likeF (l : List Fld) (i : Int) (o : List Fld) : List Fld × Int :=
  if (validF l && validF o) = true then (if 0 ≤ i ∧ i < l.length then (if (innerB l i.toNat || o.length == 1) = true then ([], 10) else if l.length + o.length - 1 > 200 then ([], 4) else if validF (likeL l o i.toNat) = true then (likeL l o i.toNat, 0) else ([], 4)) else ([], 7)) else ([], 1)

/-- Two ascending lists of the same members are one. -/
theorem sorted_ext : ∀ {a b : List Nat}, a.Pairwise (· < ·) → b.Pairwise (· < ·) → (∀ x, x ∈ a ↔ x ∈ b) → a = b
  | [], [], _, _, _ => rfl
  | [], y :: b, _, _, h => absurd ((h y).2 (.head _)) (by simp)
  | x :: a, [], _, _, h => absurd ((h x).1 (.head _)) (by simp)
  | x :: a, y :: b, ha, hb, h => by
    obtain ⟨ha1, ha2⟩ := List.pairwise_cons.1 ha
    obtain ⟨hb1, hb2⟩ := List.pairwise_cons.1 hb
    have hxy : x = y := by
      have h1 : x = y ∨ x ∈ b := by simpa using (h x).1 (.head _)
      have h2 : y = x ∨ y ∈ a := by simpa using (h y).2 (.head _)
      rcases h1 with h1 | h1
      · exact h1
      rcases h2 with h2 | h2
      · exact h2.symm
      have := ha1 y h2
      have := hb1 x h1
      omega
    subst hxy
    have : a = b := sorted_ext ha2 hb2 fun z => by
      have hz := h z
      constructor
      · intro hza
        have : z = x ∨ z ∈ b := by simpa using hz.1 (.tail _ hza)
        rcases this with rfl | hzb
        · exact absurd (ha1 z hza) (Nat.lt_irrefl _)
        · exact hzb
      · intro hzb
        have : z = x ∨ z ∈ a := by simpa using hz.2 (.tail _ hzb)
        rcases this with rfl | hza
        · exact absurd (hb1 z hzb) (Nat.lt_irrefl _)
        · exact hza
    rw [this]

/-- What Like made. -/
structure Liked (l o : List Fld) (i : Nat) : Prop where
  hl : validF l = true
  ho : validF o = true
  hi : i < l.length
  leaf : innerB l i = false
theorem like_level {l o : List Fld} {i : Nat} (H : Liked l o i) {j : Nat} (hj : j < o.length) : (fat (likeL l o i) (i + j)).level = (fat o j).level + ((fat l i).level - 1) := by
  have hi := H.hi
  rw [fat_like (by omega)]
  by_cases h0 : j = 0
  · subst h0
    rw [Nat.add_zero, like_at, level0 H.ho]
    show (fat l i).level = _
    omega
  · rw [like_in (by omega) hj]; rfl
theorem like_par {l o : List Fld} {i : Nat} (H : Liked l o i) {j : Nat} (h1 : 1 ≤ j) (hj : j < o.length) : ∃ p, par o j = some p ∧ par (likeL l o i) (i + j) = some (i + p) := by
  obtain ⟨p, hp, hpj⟩ := par_all H.ho hj h1
  refine ⟨p, hp, ?_⟩
  obtain ⟨a1, a2, a3⟩ := upN_some hp
  refine upN_intro (by omega) ?_ ?_
  · have e1 := like_level H hj
    have e2 := like_level H (j := p) (by omega)
    omega
  · intro x hx1 hx2
    obtain ⟨y, rfl⟩ : ∃ y, x = i + y := ⟨x - i, by omega⟩
    have e1 := like_level H hj
    have e2 := like_level H (j := y) (by omega)
    have := a3 y (by omega) (by omega)
    omega
/-- What comes behind is in none of the members that were put in. -/
theorem like_out {l o : List Fld} {i : Nat} (H : Liked l o i) {j x : Nat} (h1 : 1 ≤ j) (hj : j < o.length) (hx : i + o.length ≤ x) (hx2 : x < l.length + (o.length - 1)) : par (likeL l o i) x ≠ some (i + j) := by
  intro h
  obtain ⟨a1, a2, a3⟩ := upN_some h
  have hi := H.hi
  have hlv : (fat (likeL l o i) (i + o.length)).level ≤ (fat l i).level := by
    have e : i + o.length = (i + 1) + (o.length - 1) := by omega
    rw [fat_like (by omega), e, like_hi (by omega) (by omega)]
    show (fat l (i + 1)).level ≤ _
    have := H.leaf
    unfold innerB at this
    rw [decide_eq_true (show i + 1 < l.length by omega)] at this
    simpa using this
  have hb := (base_all H.ho hj).2.2.1 (by omega)
  have e1 := like_level H hj
  by_cases hxe : x = i + o.length
  · subst hxe; omega
  · have := a3 (i + o.length) (by omega) (by omega)
    omega
theorem like_kids {l o : List Fld} {i : Nat} (H : Liked l o i) {j : Nat} (h1 : 1 ≤ j) (hj : j < o.length) : kidsA (likeL l o i) (i + j) = (kidsA o j).map (i + ·) := by
  have hi := H.hi
  refine sorted_ext (kids_sorted _ _) ?_ fun x => ?_
  · rw [List.pairwise_map]
    exact (kids_sorted o j).imp fun h => by omega
  · rw [mem_kids, likeL_len, List.mem_map]
    constructor
    · rintro ⟨hx, hp⟩
      have hlt := par_lt hp
      by_cases hxo : x < i + o.length
      · obtain ⟨y, rfl⟩ : ∃ y, x = i + y := ⟨x - i, by omega⟩
        obtain ⟨p, hp1, hp2⟩ := like_par H (j := y) (by omega) (by omega)
        rw [hp2] at hp
        have : i + p = i + j := by simpa using hp
        exact ⟨y, mem_kids.2 ⟨by omega, by rw [hp1]; congr 1; omega⟩, rfl⟩
      · exact absurd hp (like_out H h1 hj (by omega) hx)
    · rintro ⟨y, hy, rfl⟩
      obtain ⟨hy1, hy2⟩ := mem_kids.1 hy
      have := par_lt hy2
      obtain ⟨p, hp1, hp2⟩ := like_par H (j := y) (by omega) hy1
      rw [hy2] at hp1
      cases hp1
      exact ⟨by omega, hp2⟩
theorem foldl_map_step {sub sub' : Nat → Nat × Nat} {a o : List Fld} {c c' : Nat → Nat} {u : Bool} {i : Nat} : ∀ (ks : List Nat) (x : Nat × Nat × Nat), (∀ k ∈ ks, sub (i + k) = sub' k ∧ c (i + k) = c' k ∧ isArr a (i + k) = isArr o k) → (ks.map (i + ·)).foldl (stepL sub a c u) x = ks.foldl (stepL sub' o c' u) x
  | [], x, _ => rfl
  | k :: ks, x, h => by
    obtain ⟨h1, h2, h3⟩ := h k (.head _)
    have : stepL sub a c u x (i + k) = stepL sub' o c' u x k := by unfold stepL; rw [h1, h2, h3]
    rw [List.map_cons, List.foldl_cons, List.foldl_cons, this]
    exact foldl_map_step ks _ fun k hk => h k (.tail _ hk)
theorem like_field {l o : List Fld} {i : Nat} (H : Liked l o i) {j : Nat} (h1 : 1 ≤ j) (hj : j < o.length) : (fat (likeL l o i) (i + j)).typ = (fat o j).typ ∧ (fat (likeL l o i) (i + j)).union = (fat o j).union ∧ (fat (likeL l o i) (i + j)).count = (fat o j).count := by
  have hi := H.hi
  rw [fat_like (by omega), like_in h1 hj]
  exact ⟨rfl, rfl, rfl⟩
theorem like_lay {l o : List Fld} {i : Nat} (H : Liked l o i) {c c' : Nat → Nat} (hc : ∀ j, 1 ≤ j → j < o.length → c (i + j) = c' j) : ∀ (m j : Nat), o.length - j ≤ m → 1 ≤ j → j < o.length → lay (likeL l o i) c (i + j) = lay o c' j
  | 0, j, hm, h1, hj => by omega
  | m + 1, j, hm, h1, hj => by
    have hi := H.hi
    obtain ⟨f1, f2, f3⟩ := like_field H h1 hj
    rw [lay_eq _ _ _ (by rw [likeL_len]; omega), lay_eq _ _ _ hj, like_kids H h1 hj, f1, f2]
    have e : ((kidsA o j).map (i + ·) = []) = (kidsA o j = []) := by simp
    by_cases hk : kidsA o j = []
    · rw [if_pos hk, if_pos (by rw [hk]; rfl)]
    · rw [if_neg hk, if_neg (by rw [e]; exact hk)]
      congr 1
      refine foldl_map_step (kidsA o j) (0, 0, 1) fun k hk => ?_
      obtain ⟨k1, k2⟩ := kid_gt hk
      refine ⟨like_lay H hc m k (by omega) (by omega) k2, hc k (by omega) k2, ?_⟩
      unfold isArr
      rw [(like_field H (by omega) k2).2.2]
end Go.Iron.Try

/- The level package: the reference's Like. -/
namespace Go.Iron.Try
open Go.Proofs

def posK (i m k : Nat) : Nat := if k ≤ i then k else k + m
theorem posK_le {i m k : Nat} : posK i m k ≤ k + m := by unfold posK; split <;> omega
theorem posK_lo {i m k : Nat} (h : k < i) : posK i m k = k ∧ posK i m (k + 1) = k + 1 := by unfold posK; rw [if_pos (by omega), if_pos (by omega)]; exact ⟨rfl, rfl⟩
theorem posK_at {i m : Nat} : posK i m i = i ∧ posK i m (i + 1) = i + 1 + m := by unfold posK; rw [if_pos (by omega), if_neg (by omega)]; exact ⟨rfl, rfl⟩
theorem posK_hi {i m k : Nat} (h : i < k) : posK i m k = k + m ∧ posK i m (k + 1) = k + m + 1 := by unfold posK; rw [if_neg (by omega), if_neg (by omega)]; exact ⟨rfl, by omega⟩
theorem refer_all {l : List Fld} (h : validF l = true) {i : Nat} (hi : i < l.length) : -1 ≤ (fat l i).refer ∧ (fat l i).refer < i := by
  have := valid_all h hi
  simp only [okA, refOK, Bool.and_eq_true, decide_eq_true_eq] at this
  exact ⟨this.1.1.2.1.1, this.1.1.2.1.2⟩
theorem likeR_snoc {l o : List Fld} {p n : Nat} {r2 : Nat → List AV} {v : Fld} (hv : likeAt l o p n = v) (h : r2 0 = fldE v) : ∀ j, j < n + 1 → encR fldE fld0 (likeT l o p (n + 1)) j = appR n (encR fldE fld0 (likeT l o p n)) r2 j := by
  intro j hj
  have := fldR_snoc (acc := likeT l o p n) (v := v) h j
  rw [likeT_len] at this
  rw [likeT_succ, hv]
  exact this hj
theorem movF_no {i m : Nat} {f : Fld} (h : ¬ f.refer > i) : movF i m f = f := by
  unfold movF
  rw [if_neg h]
theorem movF_yes {i m : Nat} {f : Fld} (h : f.refer > i) : movF i m f = { f with refer := f.refer + m } := by
  unfold movF
  rw [if_pos h]
theorem putF_no {d : Int} {i : Nat} {f : Fld} (h : ¬ f.refer ≥ 0) : putF d i f = { f with level := f.level + d } := by
  unfold putF
  rw [if_neg h]
theorem putF_yes {d : Int} {i : Nat} {f : Fld} (h : f.refer ≥ 0) : putF d i f = { f with level := f.level + d, refer := f.refer + i } := by
  unfold putF
  rw [if_pos h]
theorem ref_Like (nl n2 : Option Bool) (l : List Fld) (i : Int) (o : List Fld) (hs : smallF l) (ho : smallF o) : CallT Try.prog 74 [fldS nl l, iv i, fldS n2 o] [] (fun out A => out = .ret (fldsA (likeF l i o)) ∧ A = []) := by
  have hb := hs.1
  have hb2 := ho.1
  refine callS_body (n := 144) rfl rfl fun w ρ X => ?_
  refine runS_x (I := inf) (J := jnf) ⟨false, false, [], 0, 0⟩ 9999 rfl (by repeat (first | exact obs_nil | refine obs_draw (by kernel_rfl) ?_ | refine obs_same ?_ | refine obs_and ?_ | refine obs_by (by (simp [inB] <;> omega)) ?_)) ?_
  refine runS_call rfl rfl rfl rfl rfl rfl rfl (ref_valid nl l hs) ?_
  refine runS_x (I := inf) (J := jnf) ⟨false, false, [], 0, 0⟩ 9999 rfl (by repeat (first | exact obs_nil | refine obs_draw (by kernel_rfl) ?_ | refine obs_same ?_ | refine obs_and ?_ | refine obs_by (by (simp [inB] <;> omega)) ?_)) ?_
  refine runS_callU rfl rfl (by first | exact .v rfl rfl rfl rfl | exact .o rfl rfl rfl rfl) rfl rfl (by repeat (first | exact .nil | refine .cons (.n rfl) ?_ | refine .cons .o ?_ | refine .cons gok_and ?_)) rfl rfl rfl rfl rfl (fun _ => (ref_valid n2 o ho)) ?_
  refine runS_x (I := inf) (J := jnf) ⟨false, false, [], 0, 0⟩ 9999 rfl (by repeat (first | exact obs_nil | refine obs_draw (by kernel_rfl) ?_ | refine obs_same ?_ | refine obs_and ?_ | refine obs_by (by (simp [inB] <;> omega)) ?_)) ?_
  have hw : (if (!validF l) = true then true else !validF o) = !(validF l && validF o) := by cases validF l <;> cases validF o <;> rfl
  refine runS_cond rfl (fun h => ?_) (fun h => ?_)
  · refine runS_x (I := inf) (J := jnf) ⟨false, false, [], 0, 0⟩ 9999 rfl (by repeat (first | exact obs_nil | refine obs_draw (by kernel_rfl) ?_ | refine obs_same ?_ | refine obs_and ?_ | refine obs_by (by (simp [inB] <;> omega)) ?_)) ?_
    have hv : (validF l && validF o) = false := by have := hw.symm.trans h; rwa [Bool.not_eq_true'] at this
    refine runS_says 6 rfl (says_nil0 (sz := 11) (r := nilF) (Nat.zero_le _)) ?_
    refine runS_ret (I := inf) 0 rfl (Nat.le_refl _) rfl .nil rfl ⟨?_, rfl⟩
    rw [likeF, hv]; rfl
  have hv : (validF l && validF o) = true := by simpa using hw.symm.trans h
  have hv1 : validF l = true := by rw [Bool.and_eq_true] at hv; exact hv.1
  have hv2 : validF o = true := by rw [Bool.and_eq_true] at hv; exact hv.2
  have hn1 := valid_len hv1
  have hn2 := valid_len hv2
  refine runS_x (I := inf) (J := jnf) ⟨false, false, [], 0, 0⟩ 9999 rfl (by repeat (first | exact obs_nil | refine obs_draw (by kernel_rfl) ?_ | refine obs_same ?_ | refine obs_and ?_ | refine obs_by (by (simp [inB] <;> omega)) ?_)) ?_
  refine runS_cond rfl (fun h2 => ?_) (fun h2 => ?_)
  · refine runS_x (I := inf) (J := jnf) ⟨false, false, [], 0, 0⟩ 9999 rfl (by repeat (first | exact obs_nil | refine obs_draw (by kernel_rfl) ?_ | refine obs_same ?_ | refine obs_and ?_ | refine obs_by (by (simp [inB] <;> omega)) ?_)) ?_
    have : ¬ (0 ≤ i ∧ i < l.length) := by simp at h2; omega
    refine runS_says 6 rfl (says_nil0 (sz := 11) (r := nilF) (Nat.zero_le _)) ?_
    refine runS_ret (I := inf) 0 rfl (Nat.le_refl _) rfl .nil rfl ⟨?_, rfl⟩
    rw [likeF, if_pos hv, if_neg this]
    rfl
  have hi : 0 ≤ i ∧ i < l.length := by simp at h2; omega
  obtain ⟨p, rfl⟩ : ∃ p : Nat, i = p := ⟨i.toNat, by omega⟩
  have hp : p < l.length := by omega
  refine runS_x (I := inf) (J := jnf) ⟨false, false, [], 0, 0⟩ 9999 rfl (by repeat (first | exact obs_nil | refine obs_draw (by kernel_rfl) ?_ | refine obs_same ?_ | refine obs_and ?_ | refine obs_by (by (simp [inB] <;> omega)) ?_)) ?_
  refine runS_call rfl rfl rfl rfl rfl rfl rfl (ref_inner nl l p hp (by omega)) ?_
  refine runS_x (I := inf) (J := jnf) ⟨false, false, [], 0, 0⟩ 9999 rfl (by repeat (first | exact obs_nil | refine obs_draw (by kernel_rfl) ?_ | refine obs_same ?_ | refine obs_and ?_ | refine obs_by (by (simp [inB] <;> omega)) ?_)) ?_
  have hk : (if innerB l p = true then true else ((o.length : Int) == 1)) = (innerB l p || o.length == 1) := by
    cases innerB l p
    · rw [Bool.eq_iff_iff]; simp; omega
    · rfl
  refine runS_cond rfl (fun h3 => ?_) (fun h3 => ?_)
  · refine runS_x (I := inf) (J := jnf) ⟨false, false, [], 0, 0⟩ 9999 rfl (by repeat (first | exact obs_nil | refine obs_draw (by kernel_rfl) ?_ | refine obs_same ?_ | refine obs_and ?_ | refine obs_by (by (simp [inB] <;> omega)) ?_)) ?_
    have h3' : (innerB l p || o.length == 1) = true := hk.symm.trans h3
    refine runS_says 6 rfl (says_nil0 (sz := 11) (r := nilF) (Nat.zero_le _)) ?_
    refine runS_ret (I := inf) 0 rfl (Nat.le_refl _) rfl .nil rfl ⟨?_, rfl⟩
    rw [likeF, if_pos hv, if_pos hi, Int.toNat_natCast, if_pos h3']
    rfl
  have h3' : (innerB l p || o.length == 1) = false := hk.symm.trans h3
  have ho2 : 2 ≤ o.length := by simp at h3'; omega
  have hleaf : innerB l p = false := by simp at h3'; exact h3'.1
  have H : Liked l o p := ⟨hv1, hv2, hp, hleaf⟩
  have hN : IntKind.wrap .i64 (IntKind.wrap .i64 ((l.length : Int) + (o.length : Int)) - 1) = ((l.length + o.length - 1 : Nat) : Int) := by rw [w64 (x := (l.length : Int) + (o.length : Int)) (by omega) (by omega), w64 (by omega) (by omega)]; omega
  refine runS_x (I := inf) (J := jnf) ⟨false, false, [], 0, 0⟩ 9999 rfl (by repeat (first | exact obs_nil | refine obs_draw (by kernel_rfl) ?_ | refine obs_same ?_ | refine obs_and ?_ | refine obs_by (by (simp [inB] <;> omega)) ?_)) ?_
  refine runS_cond rfl (fun h4 => ?_) (fun h4 => ?_)
  · refine runS_x (I := inf) (J := jnf) ⟨false, false, [], 0, 0⟩ 9999 rfl (by repeat (first | exact obs_nil | refine obs_draw (by kernel_rfl) ?_ | refine obs_same ?_ | refine obs_and ?_ | refine obs_by (by (simp [inB] <;> omega)) ?_)) ?_
    have h4' : l.length + o.length - 1 > 200 := by
      have := of_decide_eq_true h4
      rw [hN] at this
      omega
    refine runS_says 6 rfl (says_nil0 (sz := 11) (r := nilF) (Nat.zero_le _)) ?_
    refine runS_ret (I := inf) 0 rfl (Nat.le_refl _) rfl .nil rfl ⟨?_, rfl⟩
    rw [likeF, if_pos hv, if_pos hi, Int.toNat_natCast, if_neg (by rw [h3']; decide), if_pos h4']
    rfl
  have h4' : l.length + (o.length - 1) ≤ 200 := by
    have := of_decide_eq_false h4
    rw [hN] at this
    omega
  have hF : likeF l p o = if validF (likeL l o p) = true then (likeL l o p, 0) else ([], 4) := by
    rw [likeF, if_pos hv, if_pos hi, Int.toNat_natCast, if_neg (by rw [h3']; decide), if_neg (by omega)]
  have hm : IntKind.wrap .i64 ((o.length : Int) - 1) = ((o.length - 1 : Nat) : Int) := by rw [w64 (by omega) (by omega)]; omega
  refine runS_x (I := inf) (J := jnf) ⟨false, false, [], 0, 0⟩ 9999 rfl (by repeat (first | exact obs_nil | refine obs_draw (by kernel_rfl) ?_ | refine obs_same ?_ | refine obs_and ?_ | refine obs_by (by (simp [inB] <;> omega)) ?_)) ?_
  refine runS_nilRow 9 90 11 nilF rfl rfl ?_
  refine runS_says 8 (show _ = iv ((o.length - 1 : Nat) : Int) from congrArg iv hm) (Says.refl _) ?_
  refine runS_while (fun (k : Nat) τ ar => (τ 0 = fldS nl l ∧ τ 1 = iv p ∧ τ 2 = fldS n2 o ∧ τ 8 = iv ((o.length - 1 : Nat) : Int) ∧ τ 9 = .row 0 (posK p (o.length - 1) k) ∧ τ 10 = iv k) ∧ ar = [.row 90 11 (posK p (o.length - 1) k) (posK p (o.length - 1) k) (encR fldE fld0 (likeT l o p (posK p (o.length - 1) k)))] ∧ k ≤ l.length) (fun k => l.length - k) 0 ⟨⟨rfl, rfl, rfl, rfl, rfl, rfl⟩, rfl, Nat.zero_le _⟩ ?_
  rintro k τ' ar' ⟨⟨g0, g1, g2, g8, g9, g10⟩, rfl, hk1⟩ ih
  refine runS_says 0 (by exact g0) (Says.refl _) ?_; refine runS_says 1 (by exact g1) (Says.refl _) ?_; refine runS_says 2 (by exact g2) (Says.refl _) ?_; refine runS_says 8 (by exact g8) (Says.refl _) ?_; refine runS_says 9 (by exact g9) (Says.refl _) ?_; refine runS_says 10 (by exact g10) (Says.refl _) ?_
  have hpk := posK_le (i := p) (m := o.length - 1) (k := k)
  refine runS_x (I := inf) (J := jnf) ⟨false, false, [], 0, 0⟩ 9999 rfl (by repeat (first | exact obs_nil | refine obs_draw (by kernel_rfl) ?_ | refine obs_same ?_ | refine obs_and ?_ | refine obs_by (by (simp [inB] <;> omega)) ?_)) ?_
  refine runS_cond rfl (fun hlt => ?_) (fun hlt => ?_)
  · have hlt' : k < l.length := by simpa using hlt
    have hw2 : IntKind.wrap .i64 ((k : Int) + 1) = ((k + 1 : Nat) : Int) := by rw [w64 (by omega) (by omega)]; rfl
    obtain ⟨hr1, hr2⟩ := refer_all hv1 hlt'
    have hlen : ∀ n, (likeT l o p n).length = n := likeT_len l o p
    have hrk : ∀ (h : (fat l k).refer > (p : Int)), p < k := fun h => by omega
    rcases Nat.lt_trichotomy k p with hkp | hkp | hkp
    · obtain ⟨e1, e2⟩ := posK_lo (m := o.length - 1) hkp
      rw [e1]
      refine runS_x (I := inf) (J := jnf) ⟨false, false, [], 0, 0⟩ 9999 rfl (by repeat (first | exact obs_nil | refine obs_draw (by kernel_rfl) ?_ | refine obs_same ?_ | refine obs_and ?_ | refine obs_by (by (simp [inB, hlt', hlen] <;> omega)) ?_)) ?_
      refine runS_cond rfl (fun hc => ?_) (fun hc => ?_)
      · exfalso
        have := hrk (of_decide_eq_true hc)
        omega
      refine runS_x (I := inf) (J := jnf) ⟨false, false, [], 0, 0⟩ 9999 rfl (by repeat (first | exact obs_nil | refine obs_draw (by kernel_rfl) ?_ | refine obs_same ?_ | refine obs_and ?_ | refine obs_by (by (simp [inB] <;> omega)) ?_)) ?_
      refine runS_cond rfl (fun hc2 => ?_) (fun hc2 => ?_)
      · refine runS_x (I := inf) (J := jnf) ⟨false, false, [], 0, 0⟩ 9999 rfl (by repeat (first | exact obs_nil | refine obs_draw (by kernel_rfl) ?_ | refine obs_same ?_ | refine obs_and ?_ | refine obs_by (by (simp [inB, hlen] <;> omega)) ?_)) ?_
        refine runS_tell 0 (encR fldE fld0 (likeT l o p (k + 1))) rfl (m' := k + 1) rfl (likeR_snoc (v := fat l k) (by rw [like_lo hkp, movF_no (fun h => by have := hrk h; omega)]) rfl) rfl ?_
        refine runS_drop 1 (Nat.zero_le _) rfl (by repeat (first | exact .nil | refine .row (fun j hj => rfl) ?_ | refine .box rfl ?_ | refine .fam (fun k j hk hj => rfl) ?_ | refine .loop (scrub_under _ _) ?_ | refine .dfr ?_ | refine .gone ?_ | refine .map (fun p hp => by (obtain ⟨k, _, rfl⟩ := List.mem_map.1 hp; rfl)) ?_)) rfl rfl rfl (by repeat (first | exact .nil | refine .cons rfl rfl rfl (scrub_under _ _) ?_)) ?_
        exact ih (k + 1) _ _ (by omega) ⟨⟨rfl, rfl, rfl, rfl, by rw [e2]; rfl, congrArg iv hw2⟩, by rw [e2], by omega⟩
      · exfalso
        have : ((k : Int) != (p : Int)) = false := hc2
        simp at this
        omega
    · subst hkp
      obtain ⟨e1, e2⟩ := posK_at (i := k) (m := o.length - 1)
      rw [e1]
      refine runS_x (I := inf) (J := jnf) ⟨false, false, [], 0, 0⟩ 9999 rfl (by repeat (first | exact obs_nil | refine obs_draw (by kernel_rfl) ?_ | refine obs_same ?_ | refine obs_and ?_ | refine obs_by (by (simp [inB, hlt', hlen] <;> omega)) ?_)) ?_
      refine runS_cond rfl (fun hc => ?_) (fun hc => ?_)
      · exfalso
        have := hrk (of_decide_eq_true hc)
        omega
      refine runS_x (I := inf) (J := jnf) ⟨false, false, [], 0, 0⟩ 9999 rfl (by repeat (first | exact obs_nil | refine obs_draw (by kernel_rfl) ?_ | refine obs_same ?_ | refine obs_and ?_ | refine obs_by (by (simp [inB] <;> omega)) ?_)) ?_
      refine runS_cond rfl (fun hc2 => ?_) (fun hc2 => ?_)
      · exfalso
        have : ((k : Int) != (k : Int)) = true := hc2
        simp at this
      refine runS_x (I := inf) (J := jnf) ⟨false, false, [], 0, 0⟩ 9999 rfl (by repeat (first | exact obs_nil | refine obs_draw (by kernel_rfl) ?_ | refine obs_same ?_ | refine obs_and ?_ | refine obs_by (by (simp [inB, hlen] <;> omega)) ?_)) ?_
      refine runS_drawG (ch := []) 7 [6] (fun b => [.row 90 11 k k (encR fldE fld0 (likeT l o k k)), .box 90 (fldE { fat l k with typ := cond (b.getD 0 false) typ0 (fat l k).typ })]) none (c := 9) jnfI.draw (by kernel_rfl) rfl (lexg_g (I := inf) (J := jnf) none ⟨⟨_, rfl, (by repeat (first | exact obs_nil | refine obs_same ?_ | refine obs_and ?_ | refine obs_by (by (simp [inB, ho2] <;> omega)) ?_))⟩, (by first | exact .inl (by decide +kernel) | exact .inr ⟨_, rfl, (by repeat (first | exact obs_nil | refine obs_same ?_ | refine obs_and ?_ | refine obs_by (by (simp [inB, ho2] <;> omega)) ?_))⟩)⟩ rfl rfl rfl rfl (lexg_g (I := inf) (J := jnf) none ⟨⟨_, rfl, (by repeat (first | exact obs_nil | refine obs_same ?_ | refine obs_and ?_ | refine obs_by (by (simp [inB, ho2] <;> omega)) ?_))⟩, (by first | exact .inl (by decide +kernel) | exact .inr ⟨_, rfl, (by repeat (first | exact obs_nil | refine obs_same ?_ | refine obs_and ?_ | refine obs_by (by (simp [inB, ho2] <;> omega)) ?_))⟩)⟩ rfl rfl rfl rfl (lexg_g (I := inf) (J := jnf) none ⟨⟨_, rfl, (by repeat (first | exact obs_nil | refine obs_same ?_ | refine obs_and ?_ | refine obs_by (by (simp [inB, ho2] <;> omega)) ?_))⟩, (by first | exact .inl (by decide +kernel) | exact .inr ⟨_, rfl, (by repeat (first | exact obs_nil | refine obs_same ?_ | refine obs_and ?_ | refine obs_by (by (simp [inB, ho2] <;> omega)) ?_))⟩)⟩ rfl rfl rfl rfl (lexg_g (I := inf) (J := jnf) none ⟨⟨_, rfl, (by repeat (first | exact obs_nil | refine obs_same ?_ | refine obs_and ?_ | refine obs_by (by (simp [inB, ho2] <;> omega)) ?_))⟩, (by first | exact .inl (by decide +kernel) | exact .inr ⟨_, rfl, (by repeat (first | exact obs_nil | refine obs_same ?_ | refine obs_and ?_ | refine obs_by (by (simp [inB, ho2] <;> omega)) ?_))⟩)⟩ rfl rfl rfl rfl (lexg_g (I := inf) (J := jnf) none ⟨⟨_, rfl, (by repeat (first | exact obs_nil | refine obs_same ?_ | refine obs_and ?_ | refine obs_by (by (simp [inB, ho2] <;> omega)) ?_))⟩, (by first | exact .inl (by decide +kernel) | exact .inr ⟨_, rfl, (by repeat (first | exact obs_nil | refine obs_same ?_ | refine obs_and ?_ | refine obs_by (by (simp [inB, ho2] <;> omega)) ?_))⟩)⟩ rfl rfl rfl rfl (lexg_g (I := inf) (J := jnf) none ⟨⟨_, rfl, (by repeat (first | exact obs_nil | refine obs_same ?_ | refine obs_and ?_ | refine obs_by (by (simp [inB, ho2] <;> omega)) ?_))⟩, (by first | exact .inl (by decide +kernel) | exact .inr ⟨_, rfl, (by repeat (first | exact obs_nil | refine obs_same ?_ | refine obs_and ?_ | refine obs_by (by (simp [inB, ho2] <;> omega)) ?_))⟩)⟩ rfl rfl rfl rfl (lexg_g (I := inf) (J := jnf) (some .store) ⟨⟨_, rfl, (by repeat (first | exact obs_nil | refine obs_same ?_ | refine obs_and ?_ | refine obs_by (by (simp [inB, ho2] <;> omega)) ?_))⟩, .inl rfl⟩ rfl rfl rfl rfl lexg_nil))))))) rfl (fun _ => ?_) (fun h => by cases h)
      refine runS_x (I := inf) (J := jnf) ⟨false, false, [], 0, 0⟩ 9999 rfl (by repeat (first | exact obs_nil | refine obs_draw (by kernel_rfl) ?_ | refine obs_same ?_ | refine obs_and ?_ | refine obs_by (by (simp [inB, hlen] <;> omega)) ?_)) ?_
      refine runS_tell 0 (encR fldE fld0 (likeT l o k (k + 1))) rfl (m' := k + 1) rfl (likeR_snoc (v := headF l o k) like_at ?_) rfl ?_
      · rw [headF, movF_no (fun h => by have := hrk h; omega)]
        rfl
      refine runS_drop 1 (Nat.zero_le _) rfl (by repeat (first | exact .nil | refine .row (fun j hj => rfl) ?_ | refine .box rfl ?_ | refine .fam (fun k j hk hj => rfl) ?_ | refine .loop (scrub_under _ _) ?_ | refine .dfr ?_ | refine .gone ?_ | refine .map (fun p hp => by (obtain ⟨k, _, rfl⟩ := List.mem_map.1 hp; rfl)) ?_)) rfl rfl rfl (by repeat (first | exact .nil | refine .cons rfl rfl rfl (scrub_under _ _) ?_)) ?_
      refine runS_while (fun (j : Nat) τ ar => (τ 0 = fldS nl l ∧ τ 1 = iv k ∧ τ 2 = fldS n2 o ∧ τ 8 = iv ((o.length - 1 : Nat) : Int) ∧ τ 9 = .row 0 (k + j) ∧ τ 10 = iv k ∧ τ 12 = iv j) ∧ ar = [.row 90 11 (k + j) (k + j) (encR fldE fld0 (likeT l o k (k + j)))] ∧ 1 ≤ j ∧ j ≤ o.length) (fun j => o.length - j) 1 ⟨⟨rfl, rfl, rfl, rfl, rfl, rfl, rfl⟩, rfl, Nat.le_refl _, by omega⟩ ?_
      rintro j τ' ar' ⟨⟨g0, g1, g2, g8, g9, g10, g12⟩, rfl, hj1, hj⟩ ih2
      refine runS_says 0 (by exact g0) (Says.refl _) ?_; refine runS_says 1 (by exact g1) (Says.refl _) ?_; refine runS_says 2 (by exact g2) (Says.refl _) ?_; refine runS_says 8 (by exact g8) (Says.refl _) ?_; refine runS_says 9 (by exact g9) (Says.refl _) ?_; refine runS_says 10 (by exact g10) (Says.refl _) ?_; refine runS_says 12 (by exact g12) (Says.refl _) ?_
      refine runS_x (I := inf) (J := jnf) ⟨false, false, [], 0, 0⟩ 9999 rfl (by repeat (first | exact obs_nil | refine obs_draw (by kernel_rfl) ?_ | refine obs_same ?_ | refine obs_and ?_ | refine obs_by (by (simp [inB] <;> omega)) ?_)) ?_
      refine runS_cond rfl (fun hlj => ?_) (fun hlj => ?_)
      · have hlj' : j < o.length := by simpa using hlj
        have hw3 : IntKind.wrap .i64 ((j : Int) + 1) = ((j + 1 : Nat) : Int) := by rw [w64 (by omega) (by omega)]; rfl
        obtain ⟨hq1, hq2⟩ := refer_all hv2 hlj'
        have bl := base_all hv1 hlt'
        have bo := base_all hv2 hlj'
        have hw4 : IntKind.wrap .i64 ((fat o j).level + IntKind.wrap .i64 ((fat l k).level - 1)) = (fat o j).level + ((fat l k).level - 1) := by
          rw [w64 (x := (fat l k).level - 1) (by omega) (by omega), w64 (by omega) (by omega)]
        refine runS_x (I := inf) (J := jnf) ⟨false, false, [], 0, 0⟩ 9999 rfl (by repeat (first | exact obs_nil | refine obs_draw (by kernel_rfl) ?_ | refine obs_same ?_ | refine obs_and ?_ | refine obs_by (by (simp [inB, hlj', hlt'] <;> omega)) ?_)) ?_
        refine runS_cond rfl (fun hc => ?_) (fun hc => ?_)
        · refine runS_x (I := inf) (J := jnf) ⟨false, false, [], 0, 0⟩ 9999 rfl (by repeat (first | exact obs_nil | refine obs_draw (by kernel_rfl) ?_ | refine obs_same ?_ | refine obs_and ?_ | refine obs_by (by (simp [inB, hlen] <;> omega)) ?_)) ?_
          refine runS_tell 0 (encR fldE fld0 (likeT l o k (k + j + 1))) rfl (m' := k + j + 1) rfl (likeR_snoc ((like_in hj1 hlj').trans (putF_yes (of_decide_eq_true hc))) ?_) rfl ?_
          · have : IntKind.wrap .i64 ((fat o j).refer + ((k : Nat) : Int)) = (fat o j).refer + ((k : Nat) : Int) := w64 (by omega) (by omega)
            rw [fldE, ← this, ← hw4]
            rfl
          refine runS_drop 1 (Nat.zero_le _) rfl (by repeat (first | exact .nil | refine .row (fun j hj => rfl) ?_ | refine .box rfl ?_ | refine .fam (fun k j hk hj => rfl) ?_ | refine .loop (scrub_under _ _) ?_ | refine .dfr ?_ | refine .gone ?_ | refine .map (fun p hp => by (obtain ⟨k, _, rfl⟩ := List.mem_map.1 hp; rfl)) ?_)) rfl rfl rfl (by repeat (first | exact .nil | refine .cons rfl rfl rfl (scrub_under _ _) ?_)) ?_
          exact ih2 (j + 1) _ _ (by omega) ⟨⟨rfl, rfl, rfl, rfl, rfl, rfl, congrArg iv hw3⟩, rfl, by omega, by omega⟩
        · refine runS_x (I := inf) (J := jnf) ⟨false, false, [], 0, 0⟩ 9999 rfl (by repeat (first | exact obs_nil | refine obs_draw (by kernel_rfl) ?_ | refine obs_same ?_ | refine obs_and ?_ | refine obs_by (by (simp [inB, hlen] <;> omega)) ?_)) ?_
          refine runS_tell 0 (encR fldE fld0 (likeT l o k (k + j + 1))) rfl (m' := k + j + 1) rfl (likeR_snoc ((like_in hj1 hlj').trans (putF_no (of_decide_eq_false hc))) ?_) rfl ?_
          · rw [fldE, ← hw4]
            rfl
          refine runS_drop 1 (Nat.zero_le _) rfl (by repeat (first | exact .nil | refine .row (fun j hj => rfl) ?_ | refine .box rfl ?_ | refine .fam (fun k j hk hj => rfl) ?_ | refine .loop (scrub_under _ _) ?_ | refine .dfr ?_ | refine .gone ?_ | refine .map (fun p hp => by (obtain ⟨k, _, rfl⟩ := List.mem_map.1 hp; rfl)) ?_)) rfl rfl rfl (by repeat (first | exact .nil | refine .cons rfl rfl rfl (scrub_under _ _) ?_)) ?_
          exact ih2 (j + 1) _ _ (by omega) ⟨⟨rfl, rfl, rfl, rfl, rfl, rfl, congrArg iv hw3⟩, rfl, by omega, by omega⟩
      · have hje : j = o.length := by simp at hlj; omega
        subst hje
        refine runS_x (I := inf) (J := jnf) ⟨false, false, [], 0, 0⟩ 9999 rfl (by repeat (first | exact obs_nil | refine obs_draw (by kernel_rfl) ?_ | refine obs_same ?_ | refine obs_and ?_ | refine obs_by (by (simp [inB] <;> omega)) ?_)) ?_
        have e3 : k + 1 + (o.length - 1) = k + o.length := by omega
        exact ih (k + 1) _ _ (by omega) ⟨⟨rfl, rfl, rfl, rfl, by rw [e2, e3]; rfl, congrArg iv hw2⟩, by rw [e2, e3], by omega⟩
    · obtain ⟨e1, e2⟩ := posK_hi (m := o.length - 1) hkp
      rw [e1]
      have hat : ∀ v, movF p (o.length - 1) (fat l k) = v → likeAt l o p (k + (o.length - 1)) = v := fun v h => (like_hi (by omega) hkp).trans h
      refine runS_x (I := inf) (J := jnf) ⟨false, false, [], 0, 0⟩ 9999 rfl (by repeat (first | exact obs_nil | refine obs_draw (by kernel_rfl) ?_ | refine obs_same ?_ | refine obs_and ?_ | refine obs_by (by (simp [inB, hlt', hlen] <;> omega)) ?_)) ?_
      refine runS_cond rfl (fun hc => ?_) (fun hc => ?_)
      · refine runS_x (I := inf) (J := jnf) ⟨false, false, [], 0, 0⟩ 9999 rfl (by repeat (first | exact obs_nil | refine obs_draw (by kernel_rfl) ?_ | refine obs_same ?_ | refine obs_and ?_ | refine obs_by (by (simp [inB] <;> omega)) ?_)) ?_
        refine runS_cond rfl (fun hc2 => ?_) (fun hc2 => ?_)
        · refine runS_x (I := inf) (J := jnf) ⟨false, false, [], 0, 0⟩ 9999 rfl (by repeat (first | exact obs_nil | refine obs_draw (by kernel_rfl) ?_ | refine obs_same ?_ | refine obs_and ?_ | refine obs_by (by (simp [inB, hlen] <;> omega)) ?_)) ?_
          refine runS_tell 0 (encR fldE fld0 (likeT l o p (k + (o.length - 1) + 1))) rfl (m' := k + (o.length - 1) + 1) rfl (likeR_snoc (hat _ (movF_yes (of_decide_eq_true hc))) ?_) rfl ?_
          · have : IntKind.wrap .i64 ((fat l k).refer + ((o.length - 1 : Nat) : Int)) = (fat l k).refer + ((o.length - 1 : Nat) : Int) := w64 (by omega) (by omega)
            rw [fldE, ← this]
            rfl
          refine runS_drop 1 (Nat.zero_le _) rfl (by repeat (first | exact .nil | refine .row (fun j hj => rfl) ?_ | refine .box rfl ?_ | refine .fam (fun k j hk hj => rfl) ?_ | refine .loop (scrub_under _ _) ?_ | refine .dfr ?_ | refine .gone ?_ | refine .map (fun p hp => by (obtain ⟨k, _, rfl⟩ := List.mem_map.1 hp; rfl)) ?_)) rfl rfl rfl (by repeat (first | exact .nil | refine .cons rfl rfl rfl (scrub_under _ _) ?_)) ?_
          exact ih (k + 1) _ _ (by omega) ⟨⟨rfl, rfl, rfl, rfl, by rw [e2]; rfl, congrArg iv hw2⟩, by rw [e2], by omega⟩
        · exfalso
          have : ((k : Int) != (p : Int)) = false := hc2
          simp at this
          omega
      · refine runS_x (I := inf) (J := jnf) ⟨false, false, [], 0, 0⟩ 9999 rfl (by repeat (first | exact obs_nil | refine obs_draw (by kernel_rfl) ?_ | refine obs_same ?_ | refine obs_and ?_ | refine obs_by (by (simp [inB] <;> omega)) ?_)) ?_
        refine runS_cond rfl (fun hc2 => ?_) (fun hc2 => ?_)
        · refine runS_x (I := inf) (J := jnf) ⟨false, false, [], 0, 0⟩ 9999 rfl (by repeat (first | exact obs_nil | refine obs_draw (by kernel_rfl) ?_ | refine obs_same ?_ | refine obs_and ?_ | refine obs_by (by (simp [inB, hlen] <;> omega)) ?_)) ?_
          refine runS_tell 0 (encR fldE fld0 (likeT l o p (k + (o.length - 1) + 1))) rfl (m' := k + (o.length - 1) + 1) rfl (likeR_snoc (hat _ (movF_no (of_decide_eq_false hc))) rfl) rfl ?_
          refine runS_drop 1 (Nat.zero_le _) rfl (by repeat (first | exact .nil | refine .row (fun j hj => rfl) ?_ | refine .box rfl ?_ | refine .fam (fun k j hk hj => rfl) ?_ | refine .loop (scrub_under _ _) ?_ | refine .dfr ?_ | refine .gone ?_ | refine .map (fun p hp => by (obtain ⟨k, _, rfl⟩ := List.mem_map.1 hp; rfl)) ?_)) rfl rfl rfl (by repeat (first | exact .nil | refine .cons rfl rfl rfl (scrub_under _ _) ?_)) ?_
          exact ih (k + 1) _ _ (by omega) ⟨⟨rfl, rfl, rfl, rfl, by rw [e2]; rfl, congrArg iv hw2⟩, by rw [e2], by omega⟩
        · exfalso
          have : ((k : Int) != (p : Int)) = false := hc2
          simp at this
          omega
  · have hkl : k = l.length := by simp at hlt; omega
    subst hkl
    have e1 := (posK_hi (m := o.length - 1) hp).1
    rw [e1]
    have hL : likeT l o p (l.length + (o.length - 1)) = likeL l o p := rfl
    have hLl := likeL_len l o p
    refine runS_x (I := inf) (J := jnf) ⟨false, false, [], 0, 0⟩ 9999 rfl (by repeat (first | exact obs_nil | refine obs_draw (by kernel_rfl) ?_ | refine obs_same ?_ | refine obs_and ?_ | refine obs_by (by (simp [inB] <;> omega)) ?_)) ?_
    rw [hL]
    refine runS_freeze 9 rfl rfl rfl (fun j hj => rfl) ?_
    refine runS_says 9 (y := fldS none (likeL l o p)) (show _ = AV.slc 11 none (likeL l o p).length (encR fldE fld0 (likeL l o p)) by rw [hLl]; rfl) (Says.refl _) ?_
    refine runS_drop 0 (Nat.zero_le _) rfl (by repeat (first | exact .nil | refine .row (fun j hj => rfl) ?_ | refine .box rfl ?_ | refine .fam (fun k j hk hj => rfl) ?_ | refine .loop (scrub_under _ _) ?_ | refine .dfr ?_ | refine .gone ?_ | refine .map (fun p hp => by (obtain ⟨k, _, rfl⟩ := List.mem_map.1 hp; rfl)) ?_)) rfl rfl rfl (by repeat (first | exact .nil | refine .cons rfl rfl rfl (scrub_under _ _) ?_)) ?_
    have hsL := like_small hs ho hp (by omega)
    have hbL := hsL.1
    refine runS_while (fun (j : Nat) τ ar => (τ 9 = fldS none (likeL l o p) ∧ τ 14 = iv j) ∧ ar = [] ∧ j ≤ (likeL l o p).length) (fun j => (likeL l o p).length - j) 0 ⟨⟨rfl, rfl⟩, rfl, Nat.zero_le _⟩ ?_
    rintro j τ' ar' ⟨⟨g9, g14⟩, rfl, hj⟩ ih2
    refine runS_says 9 (by exact g9) (Says.refl _) ?_; refine runS_says 14 (by exact g14) (Says.refl _) ?_
    refine runS_x (I := inf) (J := jnf) ⟨false, false, [], 0, 0⟩ 9999 rfl (by repeat (first | exact obs_nil | refine obs_draw (by kernel_rfl) ?_ | refine obs_same ?_ | refine obs_and ?_ | refine obs_by (by (simp [inB] <;> omega)) ?_)) ?_
    refine runS_cond rfl (fun hlj => ?_) (fun hlj => ?_)
    · have hlj' : j < (likeL l o p).length := by simpa using hlj
      have hw3 : IntKind.wrap .i64 ((j : Int) + 1) = ((j + 1 : Nat) : Int) := by rw [w64 (by omega) (by omega)]; rfl
      refine runS_x (I := inf) (J := jnf) ⟨false, false, [], 0, 0⟩ 9999 rfl (by repeat (first | exact obs_nil | refine obs_draw (by kernel_rfl) ?_ | refine obs_same ?_ | refine obs_and ?_ | refine obs_by (by (simp [inB, hlj'] <;> omega)) ?_)) ?_
      refine runS_callU rfl rfl (by first | exact .v rfl rfl rfl rfl | exact .o rfl rfl rfl rfl) rfl rfl (by repeat (first | exact .nil | refine .cons (.n rfl) ?_ | refine .cons .o ?_ | refine .cons gok_and ?_)) rfl rfl rfl rfl rfl (fun _ => (ref_arrays none (likeL l o p) j hlj' (by omega))) ?_
      refine runS_x (I := inf) (J := jnf) ⟨false, false, [], 0, 0⟩ 9999 rfl (by repeat (first | exact obs_nil | refine obs_draw (by kernel_rfl) ?_ | refine obs_same ?_ | refine obs_and ?_ | refine obs_by (by (simp [inB] <;> omega)) ?_)) ?_
      refine runS_cond rfl (fun hc => ?_) (fun hc => ?_)
      · refine runS_x (I := inf) (J := jnf) ⟨false, false, [], 0, 0⟩ 9999 rfl (by repeat (first | exact obs_nil | refine obs_draw (by kernel_rfl) ?_ | refine obs_same ?_ | refine obs_and ?_ | refine obs_by (by (simp [inB] <;> omega)) ?_)) ?_
        refine runS_says 6 rfl (says_nil0 (sz := 11) (r := nilF) (Nat.zero_le _)) ?_
        refine runS_ret (I := inf) 0 rfl (Nat.le_refl _) rfl .nil rfl ⟨?_, rfl⟩
        have h' : (if decide ((fat (likeL l o p) j).level > 255) = true then true else decide ((arrs (likeL l o p) j : Int) > 3)) = true := hc
        have : validF (likeL l o p) = false := like_bad2 hlj' (by simp [-List.getD_eq_getElem?_getD] at h'; omega)
        rw [hF, if_neg (by rw [this]; decide)]
        rfl
      · refine runS_x (I := inf) (J := jnf) ⟨false, false, [], 0, 0⟩ 9999 rfl (by repeat (first | exact obs_nil | refine obs_draw (by kernel_rfl) ?_ | refine obs_same ?_ | refine obs_and ?_ | refine obs_by (by (simp [inB] <;> omega)) ?_)) ?_
        exact ih2 (j + 1) _ _ (by omega) ⟨⟨rfl, congrArg iv hw3⟩, rfl, by omega⟩
    · refine runS_x (I := inf) (J := jnf) ⟨false, false, [], 0, 0⟩ 9999 rfl (by repeat (first | exact obs_nil | refine obs_draw (by kernel_rfl) ?_ | refine obs_same ?_ | refine obs_and ?_ | refine obs_by (by (simp [inB] <;> omega)) ?_)) ?_
      refine runS_call rfl rfl rfl rfl rfl rfl rfl (ref_valid none (likeL l o p) hsL) ?_
      refine runS_x (I := inf) (J := jnf) ⟨false, false, [], 0, 0⟩ 9999 rfl (by repeat (first | exact obs_nil | refine obs_draw (by kernel_rfl) ?_ | refine obs_same ?_ | refine obs_and ?_ | refine obs_by (by (simp [inB] <;> omega)) ?_)) ?_
      refine runS_cond rfl (fun hc => ?_) (fun hc => ?_)
      · have hv3 : validF (likeL l o p) = false := by simpa using hc
        refine runS_x (I := inf) (J := jnf) ⟨false, false, [], 0, 0⟩ 9999 rfl (by repeat (first | exact obs_nil | refine obs_draw (by kernel_rfl) ?_ | refine obs_same ?_ | refine obs_and ?_ | refine obs_by (by (simp [inB] <;> omega)) ?_)) ?_
        refine runS_says 6 rfl (says_nil0 (sz := 11) (r := nilF) (Nat.zero_le _)) ?_
        refine runS_ret (I := inf) 0 rfl (Nat.le_refl _) rfl .nil rfl ⟨?_, rfl⟩
        rw [hF, if_neg (by rw [hv3]; decide)]
        rfl
      · have hv3 : validF (likeL l o p) = true := by simpa using hc
        refine runS_x (I := inf) (J := jnf) ⟨false, false, [], 0, 0⟩ 9999 rfl (by repeat (first | exact obs_nil | refine obs_draw (by kernel_rfl) ?_ | refine obs_same ?_ | refine obs_and ?_ | refine obs_by (by (simp [inB] <;> omega)) ?_)) ?_
        refine runS_ret (I := inf) 0 rfl (Nat.le_refl _) rfl .nil rfl ⟨?_, rfl⟩
        rw [hF, if_pos hv3]
        rfl
end Go.Iron.Try

/- The level package: Like. -/
namespace Go.Iron.Try
open Go.Proofs

abbrev likB (nl n2 : Option Bool) (l o : List Fld) (p n : Nat) : List AO := [.box 41 [fldS nl l], .box 3 [iv p], .box 41 [fldS n2 o], .box 41 [.val (.slice none 0 0)], .box 51 [iv 0], .box 3 [iv ((o.length - 1 : Nat) : Int)], .row 90 11 n n (encR fldE fld0 (likeT l o p n))]
theorem level_Like (nl n2 : Option Bool) (l : List Fld) (i : Int) (o : List Fld) (hs : smallF l) (ho : smallF o) : CallT Try.prog 73 [fldS nl l, iv i, fldS n2 o] [] (fun out A => out = .ret (fldsA (likeF l i o)) ∧ A = []) := by
  have hb := hs.1
  have hb2 := ho.1
  by_cases hv : (validF l && validF o) = true
  · have hv1 : validF l = true := by rw [Bool.and_eq_true] at hv; exact hv.1
    have hv2 : validF o = true := by rw [Bool.and_eq_true] at hv; exact hv.2
    have hn1 := valid_len hv1
    have hn2 := valid_len hv2
    have hw : (if validF l = true then validF o else false) = true := by rw [hv1, hv2]; rfl
    by_cases hi : 0 ≤ i ∧ i < l.length
    · obtain ⟨p, rfl⟩ : ∃ p : Nat, i = p := ⟨i.toNat, by omega⟩
      have hp : p < l.length := by omega
      refine callS_body (n := 12) rfl rfl fun w ρ X => ?_
      refine runS_x (I := inf) (J := jnf) ⟨false, false, [127, 128], 0, 0⟩ 9999 rfl (by repeat (first | exact obs_nil | refine obs_draw (by kernel_rfl) ?_ | refine obs_same ?_ | refine obs_and ?_ | refine obs_by (by (simp [inB] <;> omega)) ?_)) ?_
      refine runS_call rfl rfl rfl rfl rfl rfl rfl (level_valid nl l hs) ?_
      refine runS_x (I := inf) (J := jnf) ⟨false, false, [], 0, 0⟩ 9999 rfl (by repeat (first | exact obs_nil | refine obs_draw (by kernel_rfl) ?_ | refine obs_same ?_ | refine obs_and ?_ | refine obs_by (by (simp [inB] <;> omega)) ?_)) ?_
      refine runS_callU rfl rfl (by first | exact .v rfl rfl rfl rfl | exact .o rfl rfl rfl rfl) rfl rfl (by repeat (first | exact .nil | refine .cons (.n rfl) ?_ | refine .cons .o ?_ | refine .cons gok_and ?_)) rfl rfl rfl rfl rfl (fun _ => (level_valid n2 o ho)) ?_
      refine runS_x (I := inf) (J := jnf) ⟨false, false, [], 0, 0⟩ 9999 rfl (by repeat (first | exact obs_nil | refine obs_draw (by kernel_rfl) ?_ | refine obs_same ?_ | refine obs_and ?_ | refine obs_by (by (simp [inB] <;> omega)) ?_)) ?_
      refine runS_says 18 (show _ = bv true from congrArg bv hw) (Says.refl _) ?_
      refine runS_call rfl rfl rfl rfl rfl rfl rfl (must_ok 1) ?_
      refine runS_x (I := inf) (J := jnf) ⟨false, false, [], 0, 0⟩ 9999 rfl (by repeat (first | exact obs_nil | refine obs_draw (by kernel_rfl) ?_ | refine obs_same ?_ | refine obs_and ?_ | refine obs_by (by (simp [inB] <;> omega)) ?_)) ?_
      refine runS_call rfl rfl rfl rfl rfl rfl rfl (valid_ok nl l p hs hv1 hi) ?_
      refine runS_x (I := inf) (J := jnf) ⟨false, false, [], 0, 0⟩ 9999 rfl (by repeat (first | exact obs_nil | refine obs_draw (by kernel_rfl) ?_ | refine obs_same ?_ | refine obs_and ?_ | refine obs_by (by (simp [inB, hp] <;> omega)) ?_)) ?_
      have hk : (if (((kidsN l l.length p : Nat) : Int) == 0) = true then decide ((o.length : Int) > 1) else false) = !(innerB l p || o.length == 1) := by
        rw [inner_kids hp]
        show (if (((kidsA l p).length : Int) == 0) = true then _ else _) = _
        rw [Bool.eq_iff_iff]
        by_cases h0 : (kidsA l p).length = 0
        · rw [h0]; simp; omega
        · simp; omega
      by_cases h3 : (innerB l p || o.length == 1) = true
      · refine runS_says 34 (show _ = bv false from congrArg bv (hk.trans (by rw [h3]; rfl))) (Says.refl _) ?_
        refine runS_callP rfl rfl rfl rfl rfl rfl rfl (must_no 10) ?_
        refine runS_x (I := inf) (J := jnf) ⟨true, false, [168], 0, 0⟩ 9999 rfl (by repeat (first | exact obs_nil | refine obs_draw (by kernel_rfl) ?_ | refine obs_same ?_ | refine obs_and ?_ | refine obs_by (by (simp [inB] <;> omega)) ?_)) ?_
        refine runS_drawG (ch := []) 4 [3] (fun b => [.box 41 [fldS nl l], .box 3 [iv p], .box 41 [fldS n2 o], .box 41 [.val (.slice none 0 0)], .box 51 [iv 0], .box 170 [iv 10]]) none (c := 9) jnfI.draw (by kernel_rfl) rfl (lexg_g (I := inf) (J := jnf) none ⟨⟨_, rfl, (by repeat (first | exact obs_nil | refine obs_same ?_ | refine obs_and ?_ | refine obs_by (by (simp [inB] <;> omega)) ?_))⟩, (by first | exact .inl (by decide +kernel) | exact .inr ⟨_, rfl, (by repeat (first | exact obs_nil | refine obs_same ?_ | refine obs_and ?_ | refine obs_by (by (simp [inB] <;> omega)) ?_))⟩)⟩ rfl rfl rfl rfl (lexg_g (I := inf) (J := jnf) none ⟨⟨_, rfl, (by repeat (first | exact obs_nil | refine obs_same ?_ | refine obs_and ?_ | refine obs_by (by (simp [inB] <;> omega)) ?_))⟩, (by first | exact .inl (by decide +kernel) | exact .inr ⟨_, rfl, (by repeat (first | exact obs_nil | refine obs_same ?_ | refine obs_and ?_ | refine obs_by (by (simp [inB] <;> omega)) ?_))⟩)⟩ rfl rfl rfl rfl (lexg_g (I := inf) (J := jnf) none ⟨⟨_, rfl, (by repeat (first | exact obs_nil | refine obs_same ?_ | refine obs_and ?_ | refine obs_by (by (simp [inB] <;> omega)) ?_))⟩, (by first | exact .inl (by decide +kernel) | exact .inr ⟨_, rfl, (by repeat (first | exact obs_nil | refine obs_same ?_ | refine obs_and ?_ | refine obs_by (by (simp [inB] <;> omega)) ?_))⟩)⟩ rfl rfl rfl rfl (lexg_g (I := inf) (J := jnf) (some .store) ⟨⟨_, rfl, (by repeat (first | exact obs_nil | refine obs_same ?_ | refine obs_and ?_ | refine obs_by (by (simp [inB] <;> omega)) ?_))⟩, .inl rfl⟩ rfl rfl rfl rfl lexg_nil)))) rfl (fun _ => ?_) (fun h => by cases h)
        refine runS_x (I := inf) (J := jnf) ⟨true, false, [168], 0, 0⟩ 9999 rfl (by repeat (first | exact obs_nil | refine obs_draw (by kernel_rfl) ?_ | refine obs_same ?_ | refine obs_and ?_ | refine obs_by (by (simp [inB] <;> omega)) ?_)) ?_
        refine runS_says 6 rfl (says_nil0 (sz := 11) (r := nilF) (Nat.zero_le _)) ?_
        refine runS_ret (I := inf) 0 rfl (Nat.le_refl _) rfl .nil rfl ⟨?_, rfl⟩
        rw [likeF, if_pos hv, if_pos hi, Int.toNat_natCast, if_pos h3]
        rfl
      have h3' : (innerB l p || o.length == 1) = false := by simpa using h3
      have ho2 : 2 ≤ o.length := by simp at h3'; omega
      have hleaf : innerB l p = false := by simp at h3'; exact h3'.1
      have H : Liked l o p := ⟨hv1, hv2, hp, hleaf⟩
      have hN : IntKind.wrap .i64 (IntKind.wrap .i64 ((l.length : Int) + (o.length : Int)) - 1) = ((l.length + o.length - 1 : Nat) : Int) := by rw [w64 (x := (l.length : Int) + (o.length : Int)) (by omega) (by omega), w64 (by omega) (by omega)]; omega
      refine runS_says 34 (show _ = bv true from congrArg bv (hk.trans (by rw [h3']; rfl))) (Says.refl _) ?_
      refine runS_call rfl rfl rfl rfl rfl rfl rfl (must_ok 10) ?_
      refine runS_x (I := inf) (J := jnf) ⟨false, false, [], 0, 0⟩ 9999 rfl (by repeat (first | exact obs_nil | refine obs_draw (by kernel_rfl) ?_ | refine obs_same ?_ | refine obs_and ?_ | refine obs_by (by (simp [inB] <;> omega)) ?_)) ?_
      by_cases h4 : l.length + o.length - 1 > 200
      · refine runS_says 42 (show _ = bv false from congrArg bv (by rw [hN]; exact decide_eq_false (by omega))) (Says.refl _) ?_
        refine runS_callP rfl rfl rfl rfl rfl rfl rfl (must_no 4) ?_
        refine runS_x (I := inf) (J := jnf) ⟨true, false, [168], 0, 0⟩ 9999 rfl (by repeat (first | exact obs_nil | refine obs_draw (by kernel_rfl) ?_ | refine obs_same ?_ | refine obs_and ?_ | refine obs_by (by (simp [inB] <;> omega)) ?_)) ?_
        refine runS_drawG (ch := []) 4 [3] (fun b => [.box 41 [fldS nl l], .box 3 [iv p], .box 41 [fldS n2 o], .box 41 [.val (.slice none 0 0)], .box 51 [iv 0], .box 170 [iv 4]]) none (c := 9) jnfI.draw (by kernel_rfl) rfl (lexg_g (I := inf) (J := jnf) none ⟨⟨_, rfl, (by repeat (first | exact obs_nil | refine obs_same ?_ | refine obs_and ?_ | refine obs_by (by (simp [inB] <;> omega)) ?_))⟩, (by first | exact .inl (by decide +kernel) | exact .inr ⟨_, rfl, (by repeat (first | exact obs_nil | refine obs_same ?_ | refine obs_and ?_ | refine obs_by (by (simp [inB] <;> omega)) ?_))⟩)⟩ rfl rfl rfl rfl (lexg_g (I := inf) (J := jnf) none ⟨⟨_, rfl, (by repeat (first | exact obs_nil | refine obs_same ?_ | refine obs_and ?_ | refine obs_by (by (simp [inB] <;> omega)) ?_))⟩, (by first | exact .inl (by decide +kernel) | exact .inr ⟨_, rfl, (by repeat (first | exact obs_nil | refine obs_same ?_ | refine obs_and ?_ | refine obs_by (by (simp [inB] <;> omega)) ?_))⟩)⟩ rfl rfl rfl rfl (lexg_g (I := inf) (J := jnf) none ⟨⟨_, rfl, (by repeat (first | exact obs_nil | refine obs_same ?_ | refine obs_and ?_ | refine obs_by (by (simp [inB] <;> omega)) ?_))⟩, (by first | exact .inl (by decide +kernel) | exact .inr ⟨_, rfl, (by repeat (first | exact obs_nil | refine obs_same ?_ | refine obs_and ?_ | refine obs_by (by (simp [inB] <;> omega)) ?_))⟩)⟩ rfl rfl rfl rfl (lexg_g (I := inf) (J := jnf) (some .store) ⟨⟨_, rfl, (by repeat (first | exact obs_nil | refine obs_same ?_ | refine obs_and ?_ | refine obs_by (by (simp [inB] <;> omega)) ?_))⟩, .inl rfl⟩ rfl rfl rfl rfl lexg_nil)))) rfl (fun _ => ?_) (fun h => by cases h)
        refine runS_x (I := inf) (J := jnf) ⟨true, false, [168], 0, 0⟩ 9999 rfl (by repeat (first | exact obs_nil | refine obs_draw (by kernel_rfl) ?_ | refine obs_same ?_ | refine obs_and ?_ | refine obs_by (by (simp [inB] <;> omega)) ?_)) ?_
        refine runS_says 6 rfl (says_nil0 (sz := 11) (r := nilF) (Nat.zero_le _)) ?_
        refine runS_ret (I := inf) 0 rfl (Nat.le_refl _) rfl .nil rfl ⟨?_, rfl⟩
        rw [likeF, if_pos hv, if_pos hi, Int.toNat_natCast, if_neg (by rw [h3']; decide), if_pos h4]
        rfl
      have hF : likeF l p o = if validF (likeL l o p) = true then (likeL l o p, 0) else ([], 4) := by
        rw [likeF, if_pos hv, if_pos hi, Int.toNat_natCast, if_neg (by rw [h3']; decide), if_neg (by omega)]
      have hm : IntKind.wrap .i64 ((o.length : Int) - 1) = ((o.length - 1 : Nat) : Int) := by rw [w64 (by omega) (by omega)]; omega
      have bl := base_all hv1 hp
      have hd : IntKind.wrap .i64 ((fat l p).level - (fat o 0).level) = (fat l p).level - 1 := by rw [level0 hv2, w64 (by omega) (by omega)]
      refine runS_says 42 (show _ = bv true from congrArg bv (by rw [hN]; exact decide_eq_true (by omega))) (Says.refl _) ?_
      refine runS_call rfl rfl rfl rfl rfl rfl rfl (must_ok 4) ?_
      refine runS_x (I := inf) (J := jnf) ⟨false, false, [], 0, 0⟩ 9999 rfl (by repeat (first | exact obs_nil | refine obs_draw (by kernel_rfl) ?_ | refine obs_same ?_ | refine obs_and ?_ | refine obs_by (by (simp [inB, hp, ho2] <;> omega)) ?_)) ?_
      refine runS_nilRow 6 90 11 nilF rfl rfl ?_
      refine runS_says 5 (show _ = iv ((fat l p).level - 1) from congrArg iv hd) (Says.refl _) ?_
      refine runS_arEq (show _ = likB nl n2 l o p 0 from congrArg (fun x => [AO.box 41 [fldS nl l], .box 3 [iv p], .box 41 [fldS n2 o], .box 41 [.val (.slice none 0 0)], .box 51 [iv 0], .box 3 [iv x], .row 90 11 0 0 nilF]) hm) ?_
      refine runS_forget 7 rfl ?_
      refine runS_while (fun (k : Nat) τ ar => (τ 0 = .ptr 0 0 0 ∧ τ 1 = .ptr 2 0 0 ∧ τ 2 = .ptr 1 0 0 ∧ τ 5 = iv ((fat l p).level - 1) ∧ τ 6 = .row 6 (posK p (o.length - 1) k) ∧ τ 8 = .fn (.func 129) [.ptr 1 0 0, .ptr 5 0 0] ∧ τ 58 = fldS nl l ∧ τ 59 = iv l.length ∧ τ 60 = iv k) ∧ ar = likB nl n2 l o p (posK p (o.length - 1) k) ∧ k ≤ l.length) (fun k => l.length - k) 0 ⟨⟨rfl, rfl, rfl, rfl, rfl, rfl, rfl, rfl, rfl⟩, rfl, Nat.zero_le _⟩ ?_
      rintro k τ' ar' ⟨⟨g0, g1, g2, g5, g6, g8, g58, g59, g60⟩, rfl, hk1⟩ ih
      refine runS_says 0 (by exact g0) (Says.refl _) ?_; refine runS_says 1 (by exact g1) (Says.refl _) ?_; refine runS_says 2 (by exact g2) (Says.refl _) ?_; refine runS_says 5 (by exact g5) (Says.refl _) ?_; refine runS_says 6 (by exact g6) (Says.refl _) ?_; refine runS_says 8 (by exact g8) (Says.refl _) ?_; refine runS_says 58 (by exact g58) (Says.refl _) ?_; refine runS_says 59 (by exact g59) (Says.refl _) ?_; refine runS_says 60 (by exact g60) (Says.refl _) ?_
      have hpk := posK_le (i := p) (m := o.length - 1) (k := k)
      refine runS_x (I := inf) (J := jnf) ⟨false, false, [], 0, 0⟩ 9999 rfl (by repeat (first | exact obs_nil | refine obs_draw (by kernel_rfl) ?_ | refine obs_same ?_ | refine obs_and ?_ | refine obs_by (by (simp [inB] <;> omega)) ?_)) ?_
      refine runS_cond rfl (fun hlt => ?_) (fun hlt => ?_)
      · have hlt' : k < l.length := by simpa using hlt
        have hw2 : IntKind.wrap .i64 ((k : Int) + 1) = ((k + 1 : Nat) : Int) := by rw [w64 (by omega) (by omega)]; rfl
        obtain ⟨hr1, hr2⟩ := refer_all hv1 hlt'
        have hlen : ∀ n, (likeT l o p n).length = n := likeT_len l o p
        have hrk : ∀ (h : (fat l k).refer > (p : Int)), p < k := fun h => by omega
        rcases Nat.lt_trichotomy k p with hkp | hkp | hkp
        · obtain ⟨e1, e2⟩ := posK_lo (m := o.length - 1) hkp
          rw [e1]
          refine runS_x (I := inf) (J := jnf) ⟨false, false, [129], 0, 0⟩ 9999 rfl (by repeat (first | exact obs_nil | refine obs_draw (by kernel_rfl) ?_ | refine obs_same ?_ | refine obs_and ?_ | refine obs_by (by (simp [inB, hlt', hlen] <;> omega)) ?_)) ?_
          refine runS_cond rfl (fun hc => ?_) (fun hc => ?_)
          · exfalso
            have := hrk (of_decide_eq_true hc)
            omega
          refine runS_x (I := inf) (J := jnf) ⟨false, false, [], 0, 0⟩ 9999 rfl (by repeat (first | exact obs_nil | refine obs_draw (by kernel_rfl) ?_ | refine obs_same ?_ | refine obs_and ?_ | refine obs_by (by (simp [inB] <;> omega)) ?_)) ?_
          refine runS_cond rfl (fun hc2 => ?_) (fun hc2 => ?_)
          · refine runS_x (I := inf) (J := jnf) ⟨false, false, [], 0, 0⟩ 9999 rfl (by repeat (first | exact obs_nil | refine obs_draw (by kernel_rfl) ?_ | refine obs_same ?_ | refine obs_and ?_ | refine obs_by (by (simp [inB, hlen] <;> omega)) ?_)) ?_
            refine runS_tell 6 (encR fldE fld0 (likeT l o p (k + 1))) rfl (m' := k + 1) rfl (likeR_snoc (v := fat l k) (by rw [like_lo hkp, movF_no (fun h => by have := hrk h; omega)]) rfl) rfl ?_
            refine runS_drop 7 (Nat.zero_le _) rfl (by repeat (first | exact .nil | refine .row (fun j hj => rfl) ?_ | refine .box rfl ?_ | refine .fam (fun k j hk hj => rfl) ?_ | refine .loop (scrub_under _ _) ?_ | refine .dfr ?_ | refine .gone ?_ | refine .map (fun p hp => by (obtain ⟨k, _, rfl⟩ := List.mem_map.1 hp; rfl)) ?_)) rfl rfl rfl (by repeat (first | exact .nil | refine .cons rfl rfl rfl (scrub_under _ _) ?_)) ?_
            exact ih (k + 1) _ _ (by omega) ⟨⟨rfl, rfl, rfl, rfl, by rw [e2]; rfl, rfl, rfl, rfl, congrArg iv hw2⟩, by rw [e2], by omega⟩
          · exfalso
            have : ((k : Int) != (p : Int)) = false := hc2
            simp at this
            omega
        · subst hkp
          obtain ⟨e1, e2⟩ := posK_at (i := k) (m := o.length - 1)
          rw [e1]
          refine runS_x (I := inf) (J := jnf) ⟨false, false, [129], 0, 0⟩ 9999 rfl (by repeat (first | exact obs_nil | refine obs_draw (by kernel_rfl) ?_ | refine obs_same ?_ | refine obs_and ?_ | refine obs_by (by (simp [inB, hlt', hlen] <;> omega)) ?_)) ?_
          refine runS_cond rfl (fun hc => ?_) (fun hc => ?_)
          · exfalso
            have := hrk (of_decide_eq_true hc)
            omega
          refine runS_x (I := inf) (J := jnf) ⟨false, false, [], 0, 0⟩ 9999 rfl (by repeat (first | exact obs_nil | refine obs_draw (by kernel_rfl) ?_ | refine obs_same ?_ | refine obs_and ?_ | refine obs_by (by (simp [inB] <;> omega)) ?_)) ?_
          refine runS_cond rfl (fun hc2 => ?_) (fun hc2 => ?_)
          · exfalso
            have : ((k : Int) != (k : Int)) = true := hc2
            simp at this
          refine runS_x (I := inf) (J := jnf) ⟨false, false, [], 0, 0⟩ 9999 rfl (by repeat (first | exact obs_nil | refine obs_draw (by kernel_rfl) ?_ | refine obs_same ?_ | refine obs_and ?_ | refine obs_by (by (simp [inB, hlen] <;> omega)) ?_)) ?_
          refine runS_drawG (ch := []) 7 [6] (fun b => likB nl n2 l o k k ++ [.box 90 (fldE { fat l k with typ := cond (b.getD 0 false) typ0 (fat l k).typ }), .box 90 (fldE (fat l k)), .box 90 (fldE (fat l k))]) none (c := 9) jnfI.draw (by kernel_rfl) rfl (lexg_g (I := inf) (J := jnf) none ⟨⟨_, rfl, (by repeat (first | exact obs_nil | refine obs_same ?_ | refine obs_and ?_ | refine obs_by (by (simp [inB, ho2] <;> omega)) ?_))⟩, (by first | exact .inl (by decide +kernel) | exact .inr ⟨_, rfl, (by repeat (first | exact obs_nil | refine obs_same ?_ | refine obs_and ?_ | refine obs_by (by (simp [inB, ho2] <;> omega)) ?_))⟩)⟩ rfl rfl rfl rfl (lexg_g (I := inf) (J := jnf) none ⟨⟨_, rfl, (by repeat (first | exact obs_nil | refine obs_same ?_ | refine obs_and ?_ | refine obs_by (by (simp [inB, ho2] <;> omega)) ?_))⟩, (by first | exact .inl (by decide +kernel) | exact .inr ⟨_, rfl, (by repeat (first | exact obs_nil | refine obs_same ?_ | refine obs_and ?_ | refine obs_by (by (simp [inB, ho2] <;> omega)) ?_))⟩)⟩ rfl rfl rfl rfl (lexg_g (I := inf) (J := jnf) none ⟨⟨_, rfl, (by repeat (first | exact obs_nil | refine obs_same ?_ | refine obs_and ?_ | refine obs_by (by (simp [inB, ho2] <;> omega)) ?_))⟩, (by first | exact .inl (by decide +kernel) | exact .inr ⟨_, rfl, (by repeat (first | exact obs_nil | refine obs_same ?_ | refine obs_and ?_ | refine obs_by (by (simp [inB, ho2] <;> omega)) ?_))⟩)⟩ rfl rfl rfl rfl (lexg_g (I := inf) (J := jnf) none ⟨⟨_, rfl, (by repeat (first | exact obs_nil | refine obs_same ?_ | refine obs_and ?_ | refine obs_by (by (simp [inB, ho2] <;> omega)) ?_))⟩, (by first | exact .inl (by decide +kernel) | exact .inr ⟨_, rfl, (by repeat (first | exact obs_nil | refine obs_same ?_ | refine obs_and ?_ | refine obs_by (by (simp [inB, ho2] <;> omega)) ?_))⟩)⟩ rfl rfl rfl rfl (lexg_g (I := inf) (J := jnf) none ⟨⟨_, rfl, (by repeat (first | exact obs_nil | refine obs_same ?_ | refine obs_and ?_ | refine obs_by (by (simp [inB, ho2] <;> omega)) ?_))⟩, (by first | exact .inl (by decide +kernel) | exact .inr ⟨_, rfl, (by repeat (first | exact obs_nil | refine obs_same ?_ | refine obs_and ?_ | refine obs_by (by (simp [inB, ho2] <;> omega)) ?_))⟩)⟩ rfl rfl rfl rfl (lexg_g (I := inf) (J := jnf) none ⟨⟨_, rfl, (by repeat (first | exact obs_nil | refine obs_same ?_ | refine obs_and ?_ | refine obs_by (by (simp [inB, ho2] <;> omega)) ?_))⟩, (by first | exact .inl (by decide +kernel) | exact .inr ⟨_, rfl, (by repeat (first | exact obs_nil | refine obs_same ?_ | refine obs_and ?_ | refine obs_by (by (simp [inB, ho2] <;> omega)) ?_))⟩)⟩ rfl rfl rfl rfl (lexg_g (I := inf) (J := jnf) (some .store) ⟨⟨_, rfl, (by repeat (first | exact obs_nil | refine obs_same ?_ | refine obs_and ?_ | refine obs_by (by (simp [inB, ho2] <;> omega)) ?_))⟩, .inl rfl⟩ rfl rfl rfl rfl lexg_nil))))))) rfl (fun _ => ?_) (fun h => by cases h)
          refine runS_x (I := inf) (J := jnf) ⟨false, false, [], 0, 0⟩ 9999 rfl (by repeat (first | exact obs_nil | refine obs_draw (by kernel_rfl) ?_ | refine obs_same ?_ | refine obs_and ?_ | refine obs_by (by (simp [inB, hlen, ho2] <;> omega)) ?_)) ?_
          refine runS_tell 6 (encR fldE fld0 (likeT l o k (k + 1))) rfl (m' := k + 1) rfl (likeR_snoc (v := headF l o k) like_at ?_) rfl ?_
          · rw [headF, movF_no (fun h => by have := hrk h; omega)]
            rfl
          refine runS_drop 7 (Nat.zero_le _) rfl (by repeat (first | exact .nil | refine .row (fun j hj => rfl) ?_ | refine .box rfl ?_ | refine .fam (fun k j hk hj => rfl) ?_ | refine .loop (scrub_under _ _) ?_ | refine .dfr ?_ | refine .gone ?_ | refine .map (fun p hp => by (obtain ⟨k, _, rfl⟩ := List.mem_map.1 hp; rfl)) ?_)) rfl rfl rfl (by repeat (first | exact .nil | refine .cons rfl rfl rfl (scrub_under _ _) ?_)) ?_
          refine runS_says 87 (y := .slc 11 n2 (o.length - 1) (fun m => fldE (fat o (m + 1)))) rfl (says_slc (by omega) (fun m hm => by rw [Nat.add_comm m 1]; rfl)) ?_
          refine runS_says 88 (show _ = iv ((o.length - 1 : Nat) : Int) from congrArg iv (by omega)) (Says.refl _) ?_
          refine runS_while (fun (m : Nat) τ ar => (τ 0 = .ptr 0 0 0 ∧ τ 1 = .ptr 2 0 0 ∧ τ 2 = .ptr 1 0 0 ∧ τ 5 = iv ((fat l k).level - 1) ∧ τ 6 = .row 6 (k + 1 + m) ∧ τ 8 = .fn (.func 129) [.ptr 1 0 0, .ptr 5 0 0] ∧ τ 58 = fldS nl l ∧ τ 59 = iv l.length ∧ τ 60 = iv k ∧ τ 87 = .slc 11 n2 (o.length - 1) (fun m => fldE (fat o (m + 1))) ∧ τ 88 = iv ((o.length - 1 : Nat) : Int) ∧ τ 89 = iv m) ∧ ar = likB nl n2 l o k (k + 1 + m) ∧ m ≤ o.length - 1) (fun m => o.length - 1 - m) 0 ⟨⟨rfl, rfl, rfl, rfl, rfl, rfl, rfl, rfl, rfl, rfl, rfl, rfl⟩, rfl, Nat.zero_le _⟩ ?_
          rintro m τ' ar' ⟨⟨g0, g1, g2, g5, g6, g8, g58, g59, g60, g87, g88, g89⟩, rfl, hm1⟩ ih2
          refine runS_says 0 (by exact g0) (Says.refl _) ?_; refine runS_says 1 (by exact g1) (Says.refl _) ?_; refine runS_says 2 (by exact g2) (Says.refl _) ?_; refine runS_says 5 (by exact g5) (Says.refl _) ?_; refine runS_says 6 (by exact g6) (Says.refl _) ?_; refine runS_says 8 (by exact g8) (Says.refl _) ?_; refine runS_says 58 (by exact g58) (Says.refl _) ?_; refine runS_says 59 (by exact g59) (Says.refl _) ?_; refine runS_says 60 (by exact g60) (Says.refl _) ?_; refine runS_says 87 (by exact g87) (Says.refl _) ?_; refine runS_says 88 (by exact g88) (Says.refl _) ?_; refine runS_says 89 (by exact g89) (Says.refl _) ?_
          refine runS_x (I := inf) (J := jnf) ⟨false, false, [], 0, 0⟩ 9999 rfl (by repeat (first | exact obs_nil | refine obs_draw (by kernel_rfl) ?_ | refine obs_same ?_ | refine obs_and ?_ | refine obs_by (by (simp [inB] <;> omega)) ?_)) ?_
          refine runS_cond rfl (fun hlj => ?_) (fun hlj => ?_)
          · have hlj' : m < o.length - 1 := by
              have : decide ((m : Int) < ((o.length - 1 : Nat) : Int)) = true := hlj
              simpa using this
            have hw3 : IntKind.wrap .i64 ((m : Int) + 1) = ((m + 1 : Nat) : Int) := by rw [w64 (by omega) (by omega)]; rfl
            obtain ⟨hq1, hq2⟩ := refer_all hv2 (show m + 1 < o.length by omega)
            have bo := base_all hv2 (show m + 1 < o.length by omega)
            have hw4 : IntKind.wrap .i64 ((fat o (m + 1)).level + ((fat l k).level - 1)) = (fat o (m + 1)).level + ((fat l k).level - 1) := w64 (by omega) (by omega)
            have hia : likeAt l o k (k + 1 + m) = putF ((fat l k).level - 1) k (fat o (m + 1)) := by rw [show k + 1 + m = k + (m + 1) by omega]; exact like_in (by omega) (by omega)
            refine runS_x (I := inf) (J := jnf) ⟨false, false, [], 0, 0⟩ 9999 rfl (by repeat (first | exact obs_nil | refine obs_draw (by kernel_rfl) ?_ | refine obs_same ?_ | refine obs_and ?_ | refine obs_by (by (simp [inB, hlj'] <;> omega)) ?_)) ?_
            by_cases hbad : (fat o (m + 1)).level + ((fat l k).level - 1) ≤ 255
            · refine runS_says 100 (show _ = bv true from congrArg bv (show decide (IntKind.wrap .i64 ((fat o (m + 1)).level + ((fat l k).level - 1)) ≤ 255) = true by rw [hw4]; exact decide_eq_true hbad)) (Says.refl _) ?_
              refine runS_call rfl rfl rfl rfl rfl rfl rfl (must_ok 4) ?_
              refine runS_x (I := inf) (J := jnf) ⟨false, false, [], 0, 0⟩ 9999 rfl (by repeat (first | exact obs_nil | refine obs_draw (by kernel_rfl) ?_ | refine obs_same ?_ | refine obs_and ?_ | refine obs_by (by (simp [inB] <;> omega)) ?_)) ?_
              refine runS_cond rfl (fun hc => ?_) (fun hc => ?_)
              · refine runS_x (I := inf) (J := jnf) ⟨false, false, [], 0, 0⟩ 9999 rfl (by repeat (first | exact obs_nil | refine obs_draw (by kernel_rfl) ?_ | refine obs_same ?_ | refine obs_and ?_ | refine obs_by (by (simp [inB, hlen] <;> omega)) ?_)) ?_
                refine runS_tell 6 (encR fldE fld0 (likeT l o k (k + 1 + m + 1))) rfl (m' := k + 1 + m + 1) rfl (likeR_snoc (hia.trans (putF_yes (of_decide_eq_true hc))) ?_) rfl ?_
                · have : IntKind.wrap .i64 ((fat o (m + 1)).refer + ((k : Nat) : Int)) = (fat o (m + 1)).refer + ((k : Nat) : Int) := w64 (by omega) (by omega)
                  rw [fldE, ← this, ← hw4]
                  rfl
                refine runS_drop 7 (Nat.zero_le _) rfl (by repeat (first | exact .nil | refine .row (fun j hj => rfl) ?_ | refine .box rfl ?_ | refine .fam (fun k j hk hj => rfl) ?_ | refine .loop (scrub_under _ _) ?_ | refine .dfr ?_ | refine .gone ?_ | refine .map (fun p hp => by (obtain ⟨k, _, rfl⟩ := List.mem_map.1 hp; rfl)) ?_)) rfl rfl rfl (by repeat (first | exact .nil | refine .cons rfl rfl rfl (scrub_under _ _) ?_)) ?_
                exact ih2 (m + 1) _ _ (by omega) ⟨⟨rfl, rfl, rfl, rfl, rfl, rfl, rfl, rfl, rfl, rfl, rfl, congrArg iv hw3⟩, rfl, by omega⟩
              · refine runS_x (I := inf) (J := jnf) ⟨false, false, [], 0, 0⟩ 9999 rfl (by repeat (first | exact obs_nil | refine obs_draw (by kernel_rfl) ?_ | refine obs_same ?_ | refine obs_and ?_ | refine obs_by (by (simp [inB, hlen] <;> omega)) ?_)) ?_
                refine runS_tell 6 (encR fldE fld0 (likeT l o k (k + 1 + m + 1))) rfl (m' := k + 1 + m + 1) rfl (likeR_snoc (hia.trans (putF_no (of_decide_eq_false hc))) ?_) rfl ?_
                · rw [fldE, ← hw4]
                  rfl
                refine runS_drop 7 (Nat.zero_le _) rfl (by repeat (first | exact .nil | refine .row (fun j hj => rfl) ?_ | refine .box rfl ?_ | refine .fam (fun k j hk hj => rfl) ?_ | refine .loop (scrub_under _ _) ?_ | refine .dfr ?_ | refine .gone ?_ | refine .map (fun p hp => by (obtain ⟨k, _, rfl⟩ := List.mem_map.1 hp; rfl)) ?_)) rfl rfl rfl (by repeat (first | exact .nil | refine .cons rfl rfl rfl (scrub_under _ _) ?_)) ?_
                exact ih2 (m + 1) _ _ (by omega) ⟨⟨rfl, rfl, rfl, rfl, rfl, rfl, rfl, rfl, rfl, rfl, rfl, congrArg iv hw3⟩, rfl, by omega⟩
            · refine runS_says 100 (show _ = bv false from congrArg bv (show decide (IntKind.wrap .i64 ((fat o (m + 1)).level + ((fat l k).level - 1)) ≤ 255) = false by rw [hw4]; exact decide_eq_false hbad)) (Says.refl _) ?_
              refine runS_callP rfl rfl rfl rfl rfl rfl rfl (must_no 4) ?_
              refine runS_forget 5 rfl ?_
              refine runS_drop 5 (Nat.zero_le _) rfl (by repeat (first | exact .nil | refine .row (fun j hj => rfl) ?_ | refine .box rfl ?_ | refine .fam (fun k j hk hj => rfl) ?_ | refine .loop (scrub_under _ _) ?_ | refine .dfr ?_ | refine .gone ?_ | refine .map (fun p hp => by (obtain ⟨k, _, rfl⟩ := List.mem_map.1 hp; rfl)) ?_)) rfl rfl rfl (by repeat (first | exact .nil | refine .cons rfl rfl rfl (scrub_under _ _) ?_)) ?_
              refine runS_x (I := inf) (J := jnf) ⟨true, false, [168], 0, 0⟩ 9999 rfl (by repeat (first | exact obs_nil | refine obs_draw (by kernel_rfl) ?_ | refine obs_same ?_ | refine obs_and ?_ | refine obs_by (by (simp [inB] <;> omega)) ?_)) ?_
              refine runS_drawG (ch := []) 4 [3] (fun b => [.box 41 [fldS nl l], .box 3 [iv k], .box 41 [fldS n2 o], .box 41 [.val (.slice none 0 0)], .box 51 [iv 0], .box 170 [iv 4]]) none (c := 9) jnfI.draw (by kernel_rfl) rfl (lexg_g (I := inf) (J := jnf) none ⟨⟨_, rfl, (by repeat (first | exact obs_nil | refine obs_same ?_ | refine obs_and ?_ | refine obs_by (by (simp [inB] <;> omega)) ?_))⟩, (by first | exact .inl (by decide +kernel) | exact .inr ⟨_, rfl, (by repeat (first | exact obs_nil | refine obs_same ?_ | refine obs_and ?_ | refine obs_by (by (simp [inB] <;> omega)) ?_))⟩)⟩ rfl rfl rfl rfl (lexg_g (I := inf) (J := jnf) none ⟨⟨_, rfl, (by repeat (first | exact obs_nil | refine obs_same ?_ | refine obs_and ?_ | refine obs_by (by (simp [inB] <;> omega)) ?_))⟩, (by first | exact .inl (by decide +kernel) | exact .inr ⟨_, rfl, (by repeat (first | exact obs_nil | refine obs_same ?_ | refine obs_and ?_ | refine obs_by (by (simp [inB] <;> omega)) ?_))⟩)⟩ rfl rfl rfl rfl (lexg_g (I := inf) (J := jnf) none ⟨⟨_, rfl, (by repeat (first | exact obs_nil | refine obs_same ?_ | refine obs_and ?_ | refine obs_by (by (simp [inB] <;> omega)) ?_))⟩, (by first | exact .inl (by decide +kernel) | exact .inr ⟨_, rfl, (by repeat (first | exact obs_nil | refine obs_same ?_ | refine obs_and ?_ | refine obs_by (by (simp [inB] <;> omega)) ?_))⟩)⟩ rfl rfl rfl rfl (lexg_g (I := inf) (J := jnf) (some .store) ⟨⟨_, rfl, (by repeat (first | exact obs_nil | refine obs_same ?_ | refine obs_and ?_ | refine obs_by (by (simp [inB] <;> omega)) ?_))⟩, .inl rfl⟩ rfl rfl rfl rfl lexg_nil)))) rfl (fun _ => ?_) (fun h => by cases h)
              refine runS_x (I := inf) (J := jnf) ⟨true, false, [168], 0, 0⟩ 9999 rfl (by repeat (first | exact obs_nil | refine obs_draw (by kernel_rfl) ?_ | refine obs_same ?_ | refine obs_and ?_ | refine obs_by (by (simp [inB] <;> omega)) ?_)) ?_
              refine runS_says 6 rfl (says_nil0 (sz := 11) (r := nilF) (Nat.zero_le _)) ?_
              refine runS_ret (I := inf) 0 rfl (Nat.le_refl _) rfl .nil rfl ⟨?_, rfl⟩
              rw [hF, if_neg (by rw [like_bad (j := m + 1) (by omega) (by omega) hp (by omega)]; decide)]
              rfl
          · have hje : m = o.length - 1 := by
              have : decide ((m : Int) < ((o.length - 1 : Nat) : Int)) = false := hlj
              simp at this
              omega
            subst hje
            refine runS_x (I := inf) (J := jnf) ⟨false, false, [], 0, 0⟩ 9999 rfl (by repeat (first | exact obs_nil | refine obs_draw (by kernel_rfl) ?_ | refine obs_same ?_ | refine obs_and ?_ | refine obs_by (by (simp [inB] <;> omega)) ?_)) ?_
            exact ih (k + 1) _ _ (by omega) ⟨⟨rfl, rfl, rfl, rfl, by rw [e2]; rfl, rfl, rfl, rfl, congrArg iv hw2⟩, by rw [e2], by omega⟩
        · obtain ⟨e1, e2⟩ := posK_hi (m := o.length - 1) hkp
          rw [e1]
          have hat : ∀ v, movF p (o.length - 1) (fat l k) = v → likeAt l o p (k + (o.length - 1)) = v := fun v h => (like_hi (by omega) hkp).trans h
          refine runS_x (I := inf) (J := jnf) ⟨false, false, [129], 0, 0⟩ 9999 rfl (by repeat (first | exact obs_nil | refine obs_draw (by kernel_rfl) ?_ | refine obs_same ?_ | refine obs_and ?_ | refine obs_by (by (simp [inB, hlt', hlen] <;> omega)) ?_)) ?_
          refine runS_cond rfl (fun hc => ?_) (fun hc => ?_)
          · refine runS_x (I := inf) (J := jnf) ⟨false, false, [], 0, 0⟩ 9999 rfl (by repeat (first | exact obs_nil | refine obs_draw (by kernel_rfl) ?_ | refine obs_same ?_ | refine obs_and ?_ | refine obs_by (by (simp [inB] <;> omega)) ?_)) ?_
            refine runS_cond rfl (fun hc2 => ?_) (fun hc2 => ?_)
            · refine runS_x (I := inf) (J := jnf) ⟨false, false, [], 0, 0⟩ 9999 rfl (by repeat (first | exact obs_nil | refine obs_draw (by kernel_rfl) ?_ | refine obs_same ?_ | refine obs_and ?_ | refine obs_by (by (simp [inB, hlen] <;> omega)) ?_)) ?_
              refine runS_tell 6 (encR fldE fld0 (likeT l o p (k + (o.length - 1) + 1))) rfl (m' := k + (o.length - 1) + 1) rfl (likeR_snoc (hat _ (movF_yes (of_decide_eq_true hc))) ?_) rfl ?_
              · have : IntKind.wrap .i64 ((fat l k).refer + ((o.length - 1 : Nat) : Int)) = (fat l k).refer + ((o.length - 1 : Nat) : Int) := w64 (by omega) (by omega)
                rw [fldE, ← this]
                rfl
              refine runS_drop 7 (Nat.zero_le _) rfl (by repeat (first | exact .nil | refine .row (fun j hj => rfl) ?_ | refine .box rfl ?_ | refine .fam (fun k j hk hj => rfl) ?_ | refine .loop (scrub_under _ _) ?_ | refine .dfr ?_ | refine .gone ?_ | refine .map (fun p hp => by (obtain ⟨k, _, rfl⟩ := List.mem_map.1 hp; rfl)) ?_)) rfl rfl rfl (by repeat (first | exact .nil | refine .cons rfl rfl rfl (scrub_under _ _) ?_)) ?_
              exact ih (k + 1) _ _ (by omega) ⟨⟨rfl, rfl, rfl, rfl, by rw [e2]; rfl, rfl, rfl, rfl, congrArg iv hw2⟩, by rw [e2], by omega⟩
            · exfalso
              have : ((k : Int) != (p : Int)) = false := hc2
              simp at this
              omega
          · refine runS_x (I := inf) (J := jnf) ⟨false, false, [], 0, 0⟩ 9999 rfl (by repeat (first | exact obs_nil | refine obs_draw (by kernel_rfl) ?_ | refine obs_same ?_ | refine obs_and ?_ | refine obs_by (by (simp [inB] <;> omega)) ?_)) ?_
            refine runS_cond rfl (fun hc2 => ?_) (fun hc2 => ?_)
            · refine runS_x (I := inf) (J := jnf) ⟨false, false, [], 0, 0⟩ 9999 rfl (by repeat (first | exact obs_nil | refine obs_draw (by kernel_rfl) ?_ | refine obs_same ?_ | refine obs_and ?_ | refine obs_by (by (simp [inB, hlen] <;> omega)) ?_)) ?_
              refine runS_tell 6 (encR fldE fld0 (likeT l o p (k + (o.length - 1) + 1))) rfl (m' := k + (o.length - 1) + 1) rfl (likeR_snoc (hat _ (movF_no (of_decide_eq_false hc))) rfl) rfl ?_
              refine runS_drop 7 (Nat.zero_le _) rfl (by repeat (first | exact .nil | refine .row (fun j hj => rfl) ?_ | refine .box rfl ?_ | refine .fam (fun k j hk hj => rfl) ?_ | refine .loop (scrub_under _ _) ?_ | refine .dfr ?_ | refine .gone ?_ | refine .map (fun p hp => by (obtain ⟨k, _, rfl⟩ := List.mem_map.1 hp; rfl)) ?_)) rfl rfl rfl (by repeat (first | exact .nil | refine .cons rfl rfl rfl (scrub_under _ _) ?_)) ?_
              exact ih (k + 1) _ _ (by omega) ⟨⟨rfl, rfl, rfl, rfl, by rw [e2]; rfl, rfl, rfl, rfl, congrArg iv hw2⟩, by rw [e2], by omega⟩
            · exfalso
              have : ((k : Int) != (p : Int)) = false := hc2
              simp at this
              omega
      · have hkl : k = l.length := by simp at hlt; omega
        subst hkl
        have e1 := (posK_hi (m := o.length - 1) hp).1
        rw [e1]
        have hL : likeT l o p (l.length + (o.length - 1)) = likeL l o p := rfl
        have hLl := likeL_len l o p
        have hsL := like_small hs ho hp (by omega)
        have hbL := hsL.1
        refine runS_freeze 6 rfl rfl rfl (fun j hj => rfl) ?_
        refine runS_says 6 (y := fldS none (likeL l o p)) (show _ = AV.slc 11 none (likeL l o p).length (encR fldE fld0 (likeL l o p)) by rw [hLl]; rfl) (Says.refl _) ?_
        refine runS_x (I := inf) (J := jnf) ⟨false, false, [], 0, 0⟩ 9999 rfl (by repeat (first | exact obs_nil | refine obs_draw (by kernel_rfl) ?_ | refine obs_same ?_ | refine obs_and ?_ | refine obs_by (by (simp [inB] <;> omega)) ?_)) ?_
        refine runS_call rfl rfl rfl rfl rfl rfl rfl (level_valid none (likeL l o p) hsL) ?_
        refine runS_x (I := inf) (J := jnf) ⟨false, false, [], 0, 0⟩ 9999 rfl (by repeat (first | exact obs_nil | refine obs_draw (by kernel_rfl) ?_ | refine obs_same ?_ | refine obs_and ?_ | refine obs_by (by (simp [inB] <;> omega)) ?_)) ?_
        by_cases hv3 : validF (likeL l o p) = true
        · refine runS_says 117 (show _ = bv true from congrArg bv hv3) (Says.refl _) ?_
          refine runS_call rfl rfl rfl rfl rfl rfl rfl (must_ok 4) ?_
          refine runS_x (I := inf) (J := jnf) ⟨true, false, [168], 0, 0⟩ 9999 rfl (by repeat (first | exact obs_nil | refine obs_draw (by kernel_rfl) ?_ | refine obs_same ?_ | refine obs_and ?_ | refine obs_by (by (simp [inB] <;> omega)) ?_)) ?_
          refine runS_ret (I := inf) 0 rfl (Nat.le_refl _) rfl .nil rfl ⟨?_, rfl⟩
          rw [hF, if_pos hv3]
          rfl
        · have hv4 : validF (likeL l o p) = false := by simpa using hv3
          refine runS_says 117 (show _ = bv false from congrArg bv hv4) (Says.refl _) ?_
          refine runS_callP rfl rfl rfl rfl rfl rfl rfl (must_no 4) ?_
          refine runS_forget 5 rfl ?_
          refine runS_drop 5 (Nat.zero_le _) rfl (by repeat (first | exact .nil | refine .row (fun j hj => rfl) ?_ | refine .box rfl ?_ | refine .fam (fun k j hk hj => rfl) ?_ | refine .loop (scrub_under _ _) ?_ | refine .dfr ?_ | refine .gone ?_ | refine .map (fun p hp => by (obtain ⟨k, _, rfl⟩ := List.mem_map.1 hp; rfl)) ?_)) rfl rfl rfl (by repeat (first | exact .nil | refine .cons rfl rfl rfl (scrub_under _ _) ?_)) ?_
          refine runS_x (I := inf) (J := jnf) ⟨true, false, [168], 0, 0⟩ 9999 rfl (by repeat (first | exact obs_nil | refine obs_draw (by kernel_rfl) ?_ | refine obs_same ?_ | refine obs_and ?_ | refine obs_by (by (simp [inB] <;> omega)) ?_)) ?_
          refine runS_drawG (ch := []) 4 [3] (fun b => [.box 41 [fldS nl l], .box 3 [iv p], .box 41 [fldS n2 o], .box 41 [.val (.slice none 0 0)], .box 51 [iv 0], .box 170 [iv 4]]) none (c := 9) jnfI.draw (by kernel_rfl) rfl (lexg_g (I := inf) (J := jnf) none ⟨⟨_, rfl, (by repeat (first | exact obs_nil | refine obs_same ?_ | refine obs_and ?_ | refine obs_by (by (simp [inB] <;> omega)) ?_))⟩, (by first | exact .inl (by decide +kernel) | exact .inr ⟨_, rfl, (by repeat (first | exact obs_nil | refine obs_same ?_ | refine obs_and ?_ | refine obs_by (by (simp [inB] <;> omega)) ?_))⟩)⟩ rfl rfl rfl rfl (lexg_g (I := inf) (J := jnf) none ⟨⟨_, rfl, (by repeat (first | exact obs_nil | refine obs_same ?_ | refine obs_and ?_ | refine obs_by (by (simp [inB] <;> omega)) ?_))⟩, (by first | exact .inl (by decide +kernel) | exact .inr ⟨_, rfl, (by repeat (first | exact obs_nil | refine obs_same ?_ | refine obs_and ?_ | refine obs_by (by (simp [inB] <;> omega)) ?_))⟩)⟩ rfl rfl rfl rfl (lexg_g (I := inf) (J := jnf) none ⟨⟨_, rfl, (by repeat (first | exact obs_nil | refine obs_same ?_ | refine obs_and ?_ | refine obs_by (by (simp [inB] <;> omega)) ?_))⟩, (by first | exact .inl (by decide +kernel) | exact .inr ⟨_, rfl, (by repeat (first | exact obs_nil | refine obs_same ?_ | refine obs_and ?_ | refine obs_by (by (simp [inB] <;> omega)) ?_))⟩)⟩ rfl rfl rfl rfl (lexg_g (I := inf) (J := jnf) (some .store) ⟨⟨_, rfl, (by repeat (first | exact obs_nil | refine obs_same ?_ | refine obs_and ?_ | refine obs_by (by (simp [inB] <;> omega)) ?_))⟩, .inl rfl⟩ rfl rfl rfl rfl lexg_nil)))) rfl (fun _ => ?_) (fun h => by cases h)
          refine runS_x (I := inf) (J := jnf) ⟨true, false, [168], 0, 0⟩ 9999 rfl (by repeat (first | exact obs_nil | refine obs_draw (by kernel_rfl) ?_ | refine obs_same ?_ | refine obs_and ?_ | refine obs_by (by (simp [inB] <;> omega)) ?_)) ?_
          refine runS_says 6 rfl (says_nil0 (sz := 11) (r := nilF) (Nat.zero_le _)) ?_
          refine runS_ret (I := inf) 0 rfl (Nat.le_refl _) rfl .nil rfl ⟨?_, rfl⟩
          rw [hF, if_neg hv3]
          rfl
    · refine callS_body (n := 12) rfl rfl fun w ρ X => ?_
      refine runS_x (I := inf) (J := jnf) ⟨false, false, [127, 128], 0, 0⟩ 9999 rfl (by repeat (first | exact obs_nil | refine obs_draw (by kernel_rfl) ?_ | refine obs_same ?_ | refine obs_and ?_ | refine obs_by (by (simp [inB] <;> omega)) ?_)) ?_
      refine runS_call rfl rfl rfl rfl rfl rfl rfl (level_valid nl l hs) ?_
      refine runS_x (I := inf) (J := jnf) ⟨false, false, [], 0, 0⟩ 9999 rfl (by repeat (first | exact obs_nil | refine obs_draw (by kernel_rfl) ?_ | refine obs_same ?_ | refine obs_and ?_ | refine obs_by (by (simp [inB] <;> omega)) ?_)) ?_
      refine runS_callU rfl rfl (by first | exact .v rfl rfl rfl rfl | exact .o rfl rfl rfl rfl) rfl rfl (by repeat (first | exact .nil | refine .cons (.n rfl) ?_ | refine .cons .o ?_ | refine .cons gok_and ?_)) rfl rfl rfl rfl rfl (fun _ => (level_valid n2 o ho)) ?_
      refine runS_x (I := inf) (J := jnf) ⟨false, false, [], 0, 0⟩ 9999 rfl (by repeat (first | exact obs_nil | refine obs_draw (by kernel_rfl) ?_ | refine obs_same ?_ | refine obs_and ?_ | refine obs_by (by (simp [inB] <;> omega)) ?_)) ?_
      refine runS_says 18 (show _ = bv true from congrArg bv hw) (Says.refl _) ?_
      refine runS_call rfl rfl rfl rfl rfl rfl rfl (must_ok 1) ?_
      refine runS_x (I := inf) (J := jnf) ⟨false, false, [], 0, 0⟩ 9999 rfl (by repeat (first | exact obs_nil | refine obs_draw (by kernel_rfl) ?_ | refine obs_same ?_ | refine obs_and ?_ | refine obs_by (by (simp [inB] <;> omega)) ?_)) ?_
      refine runS_callP rfl rfl rfl rfl rfl rfl rfl (valid_bad7 nl l i hs hv1 hi) ?_
      refine runS_x (I := inf) (J := jnf) ⟨true, false, [168], 0, 0⟩ 9999 rfl (by repeat (first | exact obs_nil | refine obs_draw (by kernel_rfl) ?_ | refine obs_same ?_ | refine obs_and ?_ | refine obs_by (by (simp [inB] <;> omega)) ?_)) ?_
      refine runS_drawG (ch := []) 4 [3] (fun b => [.box 41 [fldS nl l], .box 3 [iv i], .box 41 [fldS n2 o], .box 41 [.val (.slice none 0 0)], .box 51 [iv 0], .box 170 [iv 7]]) none (c := 9) jnfI.draw (by kernel_rfl) rfl (lexg_g (I := inf) (J := jnf) none ⟨⟨_, rfl, (by repeat (first | exact obs_nil | refine obs_same ?_ | refine obs_and ?_ | refine obs_by (by (simp [inB] <;> omega)) ?_))⟩, (by first | exact .inl (by decide +kernel) | exact .inr ⟨_, rfl, (by repeat (first | exact obs_nil | refine obs_same ?_ | refine obs_and ?_ | refine obs_by (by (simp [inB] <;> omega)) ?_))⟩)⟩ rfl rfl rfl rfl (lexg_g (I := inf) (J := jnf) none ⟨⟨_, rfl, (by repeat (first | exact obs_nil | refine obs_same ?_ | refine obs_and ?_ | refine obs_by (by (simp [inB] <;> omega)) ?_))⟩, (by first | exact .inl (by decide +kernel) | exact .inr ⟨_, rfl, (by repeat (first | exact obs_nil | refine obs_same ?_ | refine obs_and ?_ | refine obs_by (by (simp [inB] <;> omega)) ?_))⟩)⟩ rfl rfl rfl rfl (lexg_g (I := inf) (J := jnf) none ⟨⟨_, rfl, (by repeat (first | exact obs_nil | refine obs_same ?_ | refine obs_and ?_ | refine obs_by (by (simp [inB] <;> omega)) ?_))⟩, (by first | exact .inl (by decide +kernel) | exact .inr ⟨_, rfl, (by repeat (first | exact obs_nil | refine obs_same ?_ | refine obs_and ?_ | refine obs_by (by (simp [inB] <;> omega)) ?_))⟩)⟩ rfl rfl rfl rfl (lexg_g (I := inf) (J := jnf) (some .store) ⟨⟨_, rfl, (by repeat (first | exact obs_nil | refine obs_same ?_ | refine obs_and ?_ | refine obs_by (by (simp [inB] <;> omega)) ?_))⟩, .inl rfl⟩ rfl rfl rfl rfl lexg_nil)))) rfl (fun _ => ?_) (fun h => by cases h)
      refine runS_x (I := inf) (J := jnf) ⟨true, false, [168], 0, 0⟩ 9999 rfl (by repeat (first | exact obs_nil | refine obs_draw (by kernel_rfl) ?_ | refine obs_same ?_ | refine obs_and ?_ | refine obs_by (by (simp [inB] <;> omega)) ?_)) ?_
      refine runS_says 6 rfl (says_nil0 (sz := 11) (r := nilF) (Nat.zero_le _)) ?_
      refine runS_ret (I := inf) 0 rfl (Nat.le_refl _) rfl .nil rfl ⟨?_, rfl⟩
      rw [likeF, if_pos hv, if_neg hi]
      rfl
  · have hv' : (validF l && validF o) = false := by simpa using hv
    have hw : (if validF l = true then validF o else false) = false := by
      rw [← hv']
      cases validF l <;> rfl
    refine callS_body (n := 12) rfl rfl fun w ρ X => ?_
    refine runS_x (I := inf) (J := jnf) ⟨false, false, [127, 128], 0, 0⟩ 9999 rfl (by repeat (first | exact obs_nil | refine obs_draw (by kernel_rfl) ?_ | refine obs_same ?_ | refine obs_and ?_ | refine obs_by (by (simp [inB] <;> omega)) ?_)) ?_
    refine runS_call rfl rfl rfl rfl rfl rfl rfl (level_valid nl l hs) ?_
    refine runS_x (I := inf) (J := jnf) ⟨false, false, [], 0, 0⟩ 9999 rfl (by repeat (first | exact obs_nil | refine obs_draw (by kernel_rfl) ?_ | refine obs_same ?_ | refine obs_and ?_ | refine obs_by (by (simp [inB] <;> omega)) ?_)) ?_
    refine runS_callU rfl rfl (by first | exact .v rfl rfl rfl rfl | exact .o rfl rfl rfl rfl) rfl rfl (by repeat (first | exact .nil | refine .cons (.n rfl) ?_ | refine .cons .o ?_ | refine .cons gok_and ?_)) rfl rfl rfl rfl rfl (fun _ => (level_valid n2 o ho)) ?_
    refine runS_x (I := inf) (J := jnf) ⟨false, false, [], 0, 0⟩ 9999 rfl (by repeat (first | exact obs_nil | refine obs_draw (by kernel_rfl) ?_ | refine obs_same ?_ | refine obs_and ?_ | refine obs_by (by (simp [inB] <;> omega)) ?_)) ?_
    refine runS_says 18 (show _ = bv false from congrArg bv hw) (Says.refl _) ?_
    refine runS_callP rfl rfl rfl rfl rfl rfl rfl (must_no 1) ?_
    refine runS_x (I := inf) (J := jnf) ⟨true, false, [168], 0, 0⟩ 9999 rfl (by repeat (first | exact obs_nil | refine obs_draw (by kernel_rfl) ?_ | refine obs_same ?_ | refine obs_and ?_ | refine obs_by (by (simp [inB] <;> omega)) ?_)) ?_
    refine runS_drawG (ch := []) 4 [3] (fun b => [.box 41 [fldS nl l], .box 3 [iv i], .box 41 [fldS n2 o], .box 41 [.val (.slice none 0 0)], .box 51 [iv 0], .box 170 [iv 1]]) none (c := 9) jnfI.draw (by kernel_rfl) rfl (lexg_g (I := inf) (J := jnf) none ⟨⟨_, rfl, (by repeat (first | exact obs_nil | refine obs_same ?_ | refine obs_and ?_ | refine obs_by (by (simp [inB] <;> omega)) ?_))⟩, (by first | exact .inl (by decide +kernel) | exact .inr ⟨_, rfl, (by repeat (first | exact obs_nil | refine obs_same ?_ | refine obs_and ?_ | refine obs_by (by (simp [inB] <;> omega)) ?_))⟩)⟩ rfl rfl rfl rfl (lexg_g (I := inf) (J := jnf) none ⟨⟨_, rfl, (by repeat (first | exact obs_nil | refine obs_same ?_ | refine obs_and ?_ | refine obs_by (by (simp [inB] <;> omega)) ?_))⟩, (by first | exact .inl (by decide +kernel) | exact .inr ⟨_, rfl, (by repeat (first | exact obs_nil | refine obs_same ?_ | refine obs_and ?_ | refine obs_by (by (simp [inB] <;> omega)) ?_))⟩)⟩ rfl rfl rfl rfl (lexg_g (I := inf) (J := jnf) none ⟨⟨_, rfl, (by repeat (first | exact obs_nil | refine obs_same ?_ | refine obs_and ?_ | refine obs_by (by (simp [inB] <;> omega)) ?_))⟩, (by first | exact .inl (by decide +kernel) | exact .inr ⟨_, rfl, (by repeat (first | exact obs_nil | refine obs_same ?_ | refine obs_and ?_ | refine obs_by (by (simp [inB] <;> omega)) ?_))⟩)⟩ rfl rfl rfl rfl (lexg_g (I := inf) (J := jnf) (some .store) ⟨⟨_, rfl, (by repeat (first | exact obs_nil | refine obs_same ?_ | refine obs_and ?_ | refine obs_by (by (simp [inB] <;> omega)) ?_))⟩, .inl rfl⟩ rfl rfl rfl rfl lexg_nil)))) rfl (fun _ => ?_) (fun h => by cases h)
    refine runS_x (I := inf) (J := jnf) ⟨true, false, [168], 0, 0⟩ 9999 rfl (by repeat (first | exact obs_nil | refine obs_draw (by kernel_rfl) ?_ | refine obs_same ?_ | refine obs_and ?_ | refine obs_by (by (simp [inB] <;> omega)) ?_)) ?_
    refine runS_says 6 rfl (says_nil0 (sz := 11) (r := nilF) (Nat.zero_le _)) ?_
    refine runS_ret (I := inf) 0 rfl (Nat.le_refl _) rfl .nil rfl ⟨?_, rfl⟩
    rw [likeF, hv']
    rfl
end Go.Iron.Try

/- The level package's laws: levelLike. -/
namespace Go.Iron.Try
open Go.Proofs

theorem like_ok {l o : List Fld} {i : Int} (h : (likeF l i o).2 = 0) : ∃ p : Nat, i = p ∧ Liked l o p ∧ 2 ≤ o.length ∧ validF (likeL l o p) = true ∧ (likeF l i o).1 = likeL l o p := by
  unfold likeF at h ⊢
  by_cases h1 : (validF l && validF o) = true
  · rw [if_pos h1] at h ⊢
    by_cases h2 : 0 ≤ i ∧ i < l.length
    · rw [if_pos h2] at h ⊢
      by_cases h3 : (innerB l i.toNat || o.length == 1) = true
      · rw [if_pos h3] at h; cases h
      · rw [if_neg h3] at h ⊢
        by_cases h4 : l.length + o.length - 1 > 200
        · rw [if_pos h4] at h; cases h
        · rw [if_neg h4] at h ⊢
          by_cases h5 : validF (likeL l o i.toNat) = true
          · rw [if_pos h5]
            rw [Bool.and_eq_true] at h1
            have h3' : innerB l i.toNat = false ∧ o.length ≠ 1 := by simpa using h3
            have := (valid_len h1.2).1
            exact ⟨i.toNat, by omega, ⟨h1.1, h1.2, by omega, h3'.1⟩, by omega, h5, rfl⟩
          · rw [if_neg h5] at h; cases h
    · rw [if_neg h2] at h; cases h
  · rw [if_neg h1] at h; cases h
theorem like_smallF {l o : List Fld} {i : Int} (hl : smallF l) (ho : smallF o) : smallF (likeF l i o).1 := by
  have hnil : smallF [] := ⟨by decide, fun i hi => absurd hi (Nat.not_lt_zero i)⟩
  unfold likeF
  split
  · split
    · rename_i h2
      split
      · exact hnil
      · split
        · exact hnil
        · split
          · exact like_small hl ho (by omega) (by omega)
          · exact hnil
    · exact hnil
  · exact hnil
theorem layout_ok {l : List Fld} {vals : List Int} (h : (layoutF l vals).2 = 0) : validF l = true ∧ valsOK l vals = true ∧ tkK l (cntN l vals) 0 ≤ 1000000 ∧ (layoutF l vals).1 = spotsL l (cntN l vals) := by
  unfold layoutF at h ⊢
  by_cases h1 : validF l = true
  · rw [if_pos h1] at h ⊢
    by_cases h2 : valsOK l vals = true
    · rw [if_pos h2] at h ⊢
      by_cases h3 : tkK l (cntN l vals) 0 ≤ 1000000
      · rw [if_pos h3] at h ⊢
        exact ⟨h1, h2, h3, rfl⟩
      · rw [if_neg h3] at h; cases h
    · rw [if_neg h2] at h; cases h
  · rw [if_neg h1] at h; cases h
/-- Without values nothing has a Refer. -/
theorem no_refs {l : List Fld} (h : valsOK l [] = true) {k : Nat} (hk : k < l.length) : cntN l [] k = (fat l k).count.toNat := by
  have := vok_all h hk
  unfold cntN cntV
  cases hr : isRef l k with
  | false => rfl
  | true =>
    rw [vok, hr] at this
    simp at this
theorem like_sizes {l o : List Fld} {p : Nat} (H : Liked l o p) (h1 : valsOK (likeL l o p) [] = true) (h2 : valsOK o [] = true) {j : Nat} (hj1 : 1 ≤ j) (hj : j < o.length) : (spotK (likeL l o p) (cntN (likeL l o p) []) (p + j)).2 = (spotK o (cntN o []) j).2 := by
  have hi := H.hi
  have hl := like_lay H (c := cntN (likeL l o p) []) (c' := cntN o []) (fun j a b => by
    rw [no_refs h1 (by rw [likeL_len]; omega), no_refs h2 b, (like_field H a b).2.2]) o.length j (by omega) hj1 hj
  unfold spotK
  rw [hl]
theorem spots_at {l : List Fld} {cnt : Nat → Nat} {k : Nat} (hk : k < l.length) : (spotsL l cnt).getD k (0, 0, 0) = spotK l cnt k := by
  rw [spotsL, List.getD_eq_getElem?_getD, List.getElem?_map, List.getElem?_range hk]
  rfl
theorem layout_nil {n1 : Option Bool} {l : List Fld} (hs : smallF l) : CallT Try.prog 68 [fldS n1 l, .val (.slice none 0 0)] [] (fun o A => o = .ret (layoutA (layoutF l [])) ∧ A = []) :=
  callT_says (.cons (Says.refl _) (.cons (says_nil0 (sz := 1) (r := intR []) (Nat.zero_le _)) .nil)) (level_Layout n1 none l [] hs (by decide))
theorem lev_levelLike (nl n2 : Option Bool) (l : List Fld) (i : Int) (o : List Fld) (hb : l.length < 1000000000000000) (hb2 : o.length < 1000000000000000) : CallT Try.prog 28 [fldS nl l, iv i, fldS n2 o] [] (fun out A => out = .ret (bv true) ∧ A = []) := by
  refine callS_body (n := 106) rfl rfl fun w ρ X => ?_
  refine runS_x (I := inf) (J := jnf) ⟨false, false, [], 0, 0⟩ 9999 rfl (by repeat (first | exact obs_nil | refine obs_draw (by kernel_rfl) ?_ | refine obs_same ?_ | refine obs_and ?_ | refine obs_by (by (simp [inB] <;> omega)) ?_)) ?_
  refine runS_call rfl rfl rfl rfl rfl rfl rfl (lev_light nl l hb) ?_
  refine runS_x (I := inf) (J := jnf) ⟨false, false, [], 0, 0⟩ 9999 rfl (by repeat (first | exact obs_nil | refine obs_draw (by kernel_rfl) ?_ | refine obs_same ?_ | refine obs_and ?_ | refine obs_by (by (simp [inB] <;> omega)) ?_)) ?_
  refine runS_callU rfl rfl (by first | exact .v rfl rfl rfl rfl | exact .o rfl rfl rfl rfl) rfl rfl (by repeat (first | exact .nil | refine .cons (.n rfl) ?_ | refine .cons .o ?_ | refine .cons gok_and ?_)) rfl rfl rfl rfl rfl (fun _ => (lev_light n2 o hb2)) ?_
  refine runS_x (I := inf) (J := jnf) ⟨false, false, [], 0, 0⟩ 9999 rfl (by repeat (first | exact obs_nil | refine obs_draw (by kernel_rfl) ?_ | refine obs_same ?_ | refine obs_and ?_ | refine obs_by (by (simp [inB] <;> omega)) ?_)) ?_
  refine runS_cond rfl (fun h => ?_) (fun h => ?_)
  · refine runS_x (I := inf) (J := jnf) ⟨false, false, [], 0, 0⟩ 9999 rfl (by repeat (first | exact obs_nil | refine obs_draw (by kernel_rfl) ?_ | refine obs_same ?_ | refine obs_and ?_ | refine obs_by (by (simp [inB] <;> omega)) ?_)) ?_
    refine runS_call rfl rfl rfl rfl rfl rfl rfl lev_awake ?_
    refine runS_x (I := inf) (J := jnf) ⟨false, false, [], 0, 0⟩ 9999 rfl (by repeat (first | exact obs_nil | refine obs_draw (by kernel_rfl) ?_ | refine obs_same ?_ | refine obs_and ?_ | refine obs_by (by (simp [inB] <;> omega)) ?_)) ?_
    refine runS_ret (I := inf) 0 rfl (Nat.le_refl _) rfl .nil rfl ⟨?_, rfl⟩
    rfl
  have hlt : lightF l = true ∧ lightF o = true := by
    have h' : (if (!lightF l) = true then true else !lightF o) = false := h
    cases hl : lightF l <;> cases ho : lightF o <;> rw [hl, ho] at h' <;> simp at h' ⊢
  have hs := light_small hlt.1
  have ho := light_small hlt.2
  have hl1 := hs.1
  have ho1 := ho.1
  have hsL : smallF (likeF l i o).1 := like_smallF hs ho
  have hL1 := hsL.1
  refine runS_x (I := inf) (J := jnf) ⟨false, false, [], 0, 0⟩ 9999 rfl (by repeat (first | exact obs_nil | refine obs_draw (by kernel_rfl) ?_ | refine obs_same ?_ | refine obs_and ?_ | refine obs_by (by (simp [inB] <;> omega)) ?_)) ?_
  refine runS_call rfl rfl rfl rfl rfl rfl rfl (level_Like nl n2 l i o hs ho) ?_
  refine runS_x (I := inf) (J := jnf) ⟨false, false, [], 0, 0⟩ 9999 rfl (by repeat (first | exact obs_nil | refine obs_draw (by kernel_rfl) ?_ | refine obs_same ?_ | refine obs_and ?_ | refine obs_by (by (simp [inB] <;> omega)) ?_)) ?_
  refine runS_call rfl rfl rfl rfl rfl rfl rfl (ref_Like nl n2 l i o hs ho) ?_
  refine runS_x (I := inf) (J := jnf) ⟨false, false, [], 0, 0⟩ 9999 rfl (by repeat (first | exact obs_nil | refine obs_draw (by kernel_rfl) ?_ | refine obs_same ?_ | refine obs_and ?_ | refine obs_by (by (simp [inB] <;> omega)) ?_)) ?_
  refine runS_call rfl rfl rfl rfl rfl rfl rfl (law_fields none none (likeF l i o).1 (likeF l i o).1 (by omega)) ?_
  refine runS_x (I := inf) (J := jnf) ⟨false, false, [], 0, 0⟩ 9999 rfl (by repeat (first | exact obs_nil | refine obs_draw (by kernel_rfl) ?_ | refine obs_same ?_ | refine obs_and ?_ | refine obs_by (by (simp [inB] <;> omega)) ?_)) ?_
  refine runS_cond rfl (fun h => ?_) (fun h => ?_)
  · exfalso
    have h' : (if (!decide ((likeF l i o).1 = (likeF l i o).1)) = true then true else (likeF l i o).2 != (likeF l i o).2) = true := h
    simp at h'
  refine runS_x (I := inf) (J := jnf) ⟨false, false, [], 0, 0⟩ 9999 rfl (by repeat (first | exact obs_nil | refine obs_draw (by kernel_rfl) ?_ | refine obs_same ?_ | refine obs_and ?_ | refine obs_by (by (simp [inB] <;> omega)) ?_)) ?_
  refine runS_cond rfl (fun h => ?_) (fun h => ?_)
  · refine runS_x (I := inf) (J := jnf) ⟨false, false, [], 0, 0⟩ 9999 rfl (by repeat (first | exact obs_nil | refine obs_draw (by kernel_rfl) ?_ | refine obs_same ?_ | refine obs_and ?_ | refine obs_by (by (simp [inB] <;> omega)) ?_)) ?_
    refine runS_call rfl rfl rfl rfl rfl rfl rfl lev_awake ?_
    refine runS_x (I := inf) (J := jnf) ⟨false, false, [], 0, 0⟩ 9999 rfl (by repeat (first | exact obs_nil | refine obs_draw (by kernel_rfl) ?_ | refine obs_same ?_ | refine obs_and ?_ | refine obs_by (by (simp [inB] <;> omega)) ?_)) ?_
    refine runS_ret (I := inf) 0 rfl (Nat.le_refl _) rfl .nil rfl ⟨?_, rfl⟩
    rfl
  have h0 : (likeF l i o).2 = 0 := by
    have h' : ((likeF l i o).2 != 0) = false := h
    simpa using h'
  obtain ⟨p, rfl, H, ho2, hv3, he⟩ := like_ok h0
  have hp := H.hi
  refine runS_x (I := inf) (J := jnf) ⟨false, false, [], 0, 0⟩ 9999 rfl (by repeat (first | exact obs_nil | refine obs_draw (by kernel_rfl) ?_ | refine obs_same ?_ | refine obs_and ?_ | refine obs_by (by (simp [inB] <;> omega)) ?_)) ?_
  refine runS_call rfl rfl rfl rfl rfl rfl rfl (layout_nil hsL) ?_
  refine runS_x (I := inf) (J := jnf) ⟨false, false, [], 0, 0⟩ 9999 rfl (by repeat (first | exact obs_nil | refine obs_draw (by kernel_rfl) ?_ | refine obs_same ?_ | refine obs_and ?_ | refine obs_by (by (simp [inB] <;> omega)) ?_)) ?_
  refine runS_call rfl rfl rfl rfl rfl rfl rfl (layout_nil ho) ?_
  refine runS_x (I := inf) (J := jnf) ⟨false, false, [], 0, 0⟩ 9999 rfl (by repeat (first | exact obs_nil | refine obs_draw (by kernel_rfl) ?_ | refine obs_same ?_ | refine obs_and ?_ | refine obs_by (by (simp [inB] <;> omega)) ?_)) ?_
  refine runS_call rfl rfl rfl rfl rfl rfl rfl (level_valid none (likeF l p o).1 hsL) ?_
  refine runS_x (I := inf) (J := jnf) ⟨false, false, [], 0, 0⟩ 9999 rfl (by repeat (first | exact obs_nil | refine obs_draw (by kernel_rfl) ?_ | refine obs_same ?_ | refine obs_and ?_ | refine obs_by (by (simp [inB] <;> omega)) ?_)) ?_
  refine runS_cond rfl (fun h => ?_) (fun h => ?_)
  · exfalso
    have h' : (!validF (likeF l p o).1) = true := h
    rw [he, hv3] at h'
    cases h'
  refine runS_x (I := inf) (J := jnf) ⟨false, false, [], 0, 0⟩ 9999 rfl (by repeat (first | exact obs_nil | refine obs_draw (by kernel_rfl) ?_ | refine obs_same ?_ | refine obs_and ?_ | refine obs_by (by (simp [inB] <;> omega)) ?_)) ?_
  refine runS_cond rfl (fun h => ?_) (fun h => ?_)
  · refine runS_x (I := inf) (J := jnf) ⟨false, false, [], 0, 0⟩ 9999 rfl (by repeat (first | exact obs_nil | refine obs_draw (by kernel_rfl) ?_ | refine obs_same ?_ | refine obs_and ?_ | refine obs_by (by (simp [inB] <;> omega)) ?_)) ?_
    refine runS_call rfl rfl rfl rfl rfl rfl rfl lev_awake ?_
    refine runS_x (I := inf) (J := jnf) ⟨false, false, [], 0, 0⟩ 9999 rfl (by repeat (first | exact obs_nil | refine obs_draw (by kernel_rfl) ?_ | refine obs_same ?_ | refine obs_and ?_ | refine obs_by (by (simp [inB] <;> omega)) ?_)) ?_
    refine runS_ret (I := inf) 0 rfl (Nat.le_refl _) rfl .nil rfl ⟨?_, rfl⟩
    rfl
  have hz : (layoutF (likeF l p o).1 []).2 = 0 ∧ (layoutF o []).2 = 0 := by
    have h' : (if ((layoutF (likeF l p o).1 []).2 != 0) = true then true else (layoutF o []).2 != 0) = false := h
    by_cases h1 : (layoutF (likeF l p o).1 []).2 = 0
    · rw [h1] at h'
      simp at h'
      exact ⟨h1, h'⟩
    · simp [h1] at h'
  obtain ⟨va, vb, vc, vd⟩ := layout_ok hz.1
  obtain ⟨wa, wb, wc, wd⟩ := layout_ok hz.2
  have hn1 := valid_len H.hl
  have hn2 := valid_len H.ho
  have hlx : (layoutF (likeF l p o).1 []).1.length = l.length + (o.length - 1) := by rw [vd, spotsL, List.length_map, List.length_range, he, likeL_len]
  have hly : (layoutF o []).1.length = o.length := by rw [wd, spotsL, List.length_map, List.length_range]
  refine runS_x (I := inf) (J := jnf) ⟨false, false, [], 0, 0⟩ 9999 rfl (by repeat (first | exact obs_nil | refine obs_draw (by kernel_rfl) ?_ | refine obs_same ?_ | refine obs_and ?_ | refine obs_by (by (simp [inB] <;> omega)) ?_)) ?_
  refine runS_while (fun (j : Nat) τ ar => (τ 0 = fldS nl l ∧ τ 1 = iv p ∧ τ 2 = fldS n2 o ∧ τ 11 = spotS none (layoutF (likeF l p o).1 []).1 ∧ τ 13 = spotS none (layoutF o []).1 ∧ τ 15 = iv j) ∧ ar = [] ∧ 1 ≤ j ∧ j ≤ o.length) (fun j => o.length - j) 1 ⟨⟨rfl, rfl, rfl, rfl, rfl, rfl⟩, rfl, Nat.le_refl _, by omega⟩ ?_
  rintro j τ' ar' ⟨⟨g0, g1, g2, g11, g13, g15⟩, rfl, hj1, hj⟩ ih
  refine runS_says 0 (by exact g0) (Says.refl _) ?_; refine runS_says 1 (by exact g1) (Says.refl _) ?_; refine runS_says 2 (by exact g2) (Says.refl _) ?_; refine runS_says 11 (by exact g11) (Says.refl _) ?_; refine runS_says 13 (by exact g13) (Says.refl _) ?_; refine runS_says 15 (by exact g15) (Says.refl _) ?_
  refine runS_x (I := inf) (J := jnf) ⟨false, false, [], 0, 0⟩ 9999 rfl (by repeat (first | exact obs_nil | refine obs_draw (by kernel_rfl) ?_ | refine obs_same ?_ | refine obs_and ?_ | refine obs_by (by (simp [inB] <;> omega)) ?_)) ?_
  refine runS_cond rfl (fun hlt => ?_) (fun hlt => ?_)
  · have hlt' : j < o.length := by simpa using hlt
    have hw2 : IntKind.wrap .i64 ((j : Int) + 1) = ((j + 1 : Nat) : Int) := by rw [w64 (by omega) (by omega)]; rfl
    have hw3 : IntKind.wrap .i64 ((p : Int) + (j : Int)) = ((p + j : Nat) : Int) := by rw [w64 (by omega) (by omega)]; rfl
    refine runS_x (I := inf) (J := jnf) ⟨false, false, [], 0, 0⟩ 9999 rfl (by repeat (first | exact obs_nil | refine obs_draw (by kernel_rfl) ?_ | refine obs_same ?_ | refine obs_and ?_ | refine obs_by (by (simp [inB, hlt', hw3, hlx, hly] <;> omega)) ?_)) ?_
    have hx : (layoutF (likeF l p o).1 []).1.getD (IntKind.wrap .i64 ((p : Int) + (j : Int))).toNat (0, 0, 0) = spotK (likeL l o p) (cntN (likeL l o p) []) (p + j) := by
      rw [hw3, vd, he, Int.toNat_natCast]
      exact spots_at (by rw [likeL_len]; omega)
    have hy : (layoutF o []).1.getD j (0, 0, 0) = spotK o (cntN o []) j := by
      rw [wd]
      exact spots_at hlt'
    rw [he] at vb
    have hxy := like_sizes H vb wb hj1 hlt'
    refine runS_cond rfl (fun h => ?_) (fun h => ?_)
    · exfalso
      have h' : (if (((((layoutF (likeF l p o).1 []).1.getD (IntKind.wrap .i64 ((p : Int) + (j : Int))).toNat (0, 0, 0)).2.1 : Nat) : Int) != ((((layoutF o []).1.getD j (0, 0, 0)).2.1 : Nat) : Int)) = true then true else ((((layoutF (likeF l p o).1 []).1.getD (IntKind.wrap .i64 ((p : Int) + (j : Int))).toNat (0, 0, 0)).2.2 : Nat) : Int) != ((((layoutF o []).1.getD j (0, 0, 0)).2.2 : Nat) : Int)) = true := h
      rw [hx, hy, hxy] at h'
      simp at h'
    refine runS_x (I := inf) (J := jnf) ⟨false, false, [], 0, 0⟩ 9999 rfl (by repeat (first | exact obs_nil | refine obs_draw (by kernel_rfl) ?_ | refine obs_same ?_ | refine obs_and ?_ | refine obs_by (by (simp [inB] <;> omega)) ?_)) ?_
    exact ih (j + 1) _ _ (by omega) ⟨⟨rfl, rfl, rfl, rfl, rfl, congrArg iv hw2⟩, rfl, by omega, by omega⟩
  · refine runS_x (I := inf) (J := jnf) ⟨false, false, [], 0, 0⟩ 9999 rfl (by repeat (first | exact obs_nil | refine obs_draw (by kernel_rfl) ?_ | refine obs_same ?_ | refine obs_and ?_ | refine obs_by (by (simp [inB] <;> omega)) ?_)) ?_
    refine runS_call rfl rfl rfl rfl rfl rfl rfl lev_awake ?_
    refine runS_x (I := inf) (J := jnf) ⟨false, false, [], 0, 0⟩ 9999 rfl (by repeat (first | exact obs_nil | refine obs_draw (by kernel_rfl) ?_ | refine obs_same ?_ | refine obs_and ?_ | refine obs_by (by (simp [inB] <;> omega)) ?_)) ?_
    refine runS_ret (I := inf) 0 rfl (Nat.le_refl _) rfl .nil rfl ⟨?_, rfl⟩
    rfl
theorem lev_LevelLike (nl n2 : Option Bool) (l : List Fld) (i : Int) (o : List Fld) (hb : l.length * 104 ≤ 140737488351232) (hb2 : o.length * 104 ≤ 140737488351232) : CallT Try.prog 8 [fldS nl l, iv i, fldS n2 o] [] (fun out A => out = .ret (bv true) ∧ A = []) := by
  refine callS_body (n := 27) rfl rfl fun w ρ X => ?_
  refine runS_x (I := inf) (J := jnf) ⟨false, false, [], 0, 0⟩ 9999 rfl (by repeat (first | exact obs_nil | refine obs_draw (by kernel_rfl) ?_ | refine obs_same ?_ | refine obs_and ?_ | refine obs_by (by (simp [inB] <;> omega)) ?_)) ?_
  refine runS_call rfl rfl rfl rfl rfl rfl rfl (stay_fields nl l (by omega)) ?_
  refine runS_x (I := inf) (J := jnf) ⟨false, false, [], 0, 0⟩ 9999 rfl (by repeat (first | exact obs_nil | refine obs_draw (by kernel_rfl) ?_ | refine obs_same ?_ | refine obs_and ?_ | refine obs_by (by (simp [inB] <;> omega)) ?_)) ?_
  refine runS_call rfl rfl rfl rfl rfl rfl rfl (stay_fields n2 o (by omega)) ?_
  refine runS_x (I := inf) (J := jnf) ⟨false, false, [], 0, 0⟩ 9999 rfl (by repeat (first | exact obs_nil | refine obs_draw (by kernel_rfl) ?_ | refine obs_same ?_ | refine obs_and ?_ | refine obs_by (by (simp [inB] <;> omega)) ?_)) ?_
  refine runS_call rfl rfl rfl rfl rfl rfl rfl (lev_levelLike nl n2 l i o (by omega) (by omega)) ?_
  refine runS_x (I := inf) (J := jnf) ⟨false, false, [], 0, 0⟩ 9999 rfl (by repeat (first | exact obs_nil | refine obs_draw (by kernel_rfl) ?_ | refine obs_same ?_ | refine obs_and ?_ | refine obs_by (by (simp [inB] <;> omega)) ?_)) ?_
  refine runS_callU rfl rfl (by first | exact .v rfl rfl rfl rfl | exact .o rfl rfl rfl rfl) rfl rfl (by repeat (first | exact .nil | refine .cons (.n rfl) ?_ | refine .cons .o ?_ | refine .cons gok_and ?_)) rfl rfl rfl rfl rfl (fun _ => (stay_sameFields _ _ l l (by omega))) ?_
  refine runS_x (I := inf) (J := jnf) ⟨false, false, [], 0, 0⟩ 9999 rfl (by repeat (first | exact obs_nil | refine obs_draw (by kernel_rfl) ?_ | refine obs_same ?_ | refine obs_and ?_ | refine obs_by (by (simp [inB] <;> omega)) ?_)) ?_
  refine runS_callU rfl rfl (by first | exact .v rfl rfl rfl rfl | exact .o rfl rfl rfl rfl) rfl rfl (by repeat (first | exact .nil | refine .cons (.n rfl) ?_ | refine .cons .o ?_ | refine .cons gok_and ?_)) rfl rfl rfl rfl rfl (fun _ => (stay_sameFields _ _ o o (by omega))) ?_
  refine runS_x (I := inf) (J := jnf) ⟨false, false, [], 0, 0⟩ 9999 rfl (by repeat (first | exact obs_nil | refine obs_draw (by kernel_rfl) ?_ | refine obs_same ?_ | refine obs_and ?_ | refine obs_by (by (simp [inB] <;> omega)) ?_)) ?_
  refine runS_ret (I := inf) 0 rfl (Nat.le_refl _) rfl .nil rfl ⟨?_, rfl⟩
  show Out.ret (bv (if (if true = true then decide (l = l) else false) = true then decide (o = o) else false)) = _
  simp
end Go.Iron.Try
