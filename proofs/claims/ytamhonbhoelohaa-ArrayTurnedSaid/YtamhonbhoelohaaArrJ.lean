/- The array package's functions (seat Ytamhonbhoelohaa): crosses and own places, copied and compared. -/
import Derived.Test.YtamhonbhoelohaaArrF
import Derived.Test.YtamhonbhoelohaaIronH
namespace Go.Iron.Try
open Go.Proofs

abbrev Cross := Int × Bool
abbrev ISub := Int × Int × Int
def crossR (l : List Cross) : Nat → List AV := fun i => [iv (l.getD i (0, false)).1, bv (l.getD i (0, false)).2]
def crossS (nl : Option Bool) (l : List Cross) : AV := .slc 2 nl l.length (crossR l)
def isubR (l : List ISub) : Nat → List AV := fun i => [iv (l.getD i (0, 0, 0)).1, iv (l.getD i (0, 0, 0)).2.1, iv (l.getD i (0, 0, 0)).2.2]
def isubS (nl : Option Bool) (l : List ISub) : AV := .slc 3 nl l.length (isubR l)

theorem stay_crosses (nl : Option Bool) (ds : List Cross) (hb : ds.length * 16 ≤ 140737488355328) : CallT Try.prog 16 [crossS nl ds] [] (fun out A => out = .ret (crossS none ds) ∧ A = []) := by
  refine callT_body (n := 6) rfl rfl fun w ρ X => ?_
  refine run_x (I := inf) 99 rfl (by simp only [app, obs_cons, obs_nil']; simp [hb]) ?_
  refine run_freeze 2 rfl rfl rfl (fun i hi => by rw [appR_zero]; rfl) ?_
  refine run_drop 0 (Nat.le_refl _) rfl .nil ?_
  refine run_ret (.tmp .nil) ⟨?_, rfl⟩
  show Out.ret (.slc 2 none (0 + ds.length) _) = _
  rw [appR_zero, Nat.zero_add]
  rfl

theorem stay_subs (nl : Option Bool) (ds : List ISub) (hb : ds.length * 24 ≤ 140737488355328) : CallT Try.prog 19 [isubS nl ds] [] (fun out A => out = .ret (isubS none ds) ∧ A = []) := by
  refine callT_body (n := 6) rfl rfl fun w ρ X => ?_
  refine run_x (I := inf) 99 rfl (by simp only [app, obs_cons, obs_nil']; simp [hb]) ?_
  refine run_freeze 2 rfl rfl rfl (fun i hi => by rw [appR_zero]; rfl) ?_
  refine run_drop 0 (Nat.le_refl _) rfl .nil ?_
  refine run_ret (.tmp .nil) ⟨?_, rfl⟩
  show Out.ret (.slc 3 none (0 + ds.length) _) = _
  rw [appR_zero, Nat.zero_add]
  rfl

theorem stay_sameCrosses (n1 n2 : Option Bool) (xs ys : List Cross) (hb : xs.length < 9223372036854775807) : CallT Try.prog 18 [crossS n1 xs, crossS n2 ys] [] (fun out A => out = .ret (bv (decide (xs = ys))) ∧ A = []) := by
  refine callT_body (n := 26) rfl rfl fun w ρ X => ?_
  refine run_x (I := inf) 99 rfl (by simp only [app, obs_cons, obs_nil']) ?_
  refine run_cond rfl (fun h => ?_) (fun h => ?_)
  · refine run_x (I := inf) 99 rfl (by simp only [app, obs_cons, obs_nil']) ?_
    refine run_drop 0 (Nat.le_refl _) rfl .nil (run_ret (.tmp .nil) ⟨?_, rfl⟩)
    show Out.ret (bv false) = _
    have : xs ≠ ys := fun e => by subst e; simp at h
    simp [this]
  · have hl : xs.length = ys.length := ieq (by simpa using h)
    refine run_x (I := inf) 99 rfl (by simp only [app, obs_cons, obs_nil']) ?_
    refine run_while (fun (i : Nat) τ ar => (τ 0 = crossS n1 xs ∧ τ 1 = crossS n2 ys ∧ τ 5 = iv i) ∧ ar = [] ∧ i ≤ xs.length ∧ xs.take i = ys.take i) (fun i => xs.length - i) 0 ⟨⟨rfl, rfl, rfl⟩, rfl, Nat.zero_le _, rfl⟩ ?_
    rintro i τ' ar' ⟨⟨h0, h1, h5⟩, rfl, hi, hp⟩ ih
    refine run_says 0 h0 (Says.refl _) (run_says 1 (by exact h1) (Says.refl _) (run_says 5 (by exact h5) (Says.refl _) ?_))
    refine run_x (I := inf) 99 rfl (by simp only [app, obs_cons, obs_nil']) ?_
    refine run_cond rfl (fun hlt => ?_) (fun hlt => ?_)
    · have hlt' : i < xs.length := by simpa using hlt
      refine run_x (I := inf) 99 rfl (by simp only [app, obs_cons, obs_nil']) ?_
      refine run_draw 9 (by kernel_rfl) (by kernel_rfl) (lex_x (I := inf) 99 rfl rfl (by simp only [app, obs_cons, obs_nil']; simp [inB, hlt', ← hl]) lex_nil) ?_
      refine run_x (I := inf) 99 rfl (by simp only [app, obs_cons, obs_nil']) ?_
      refine run_cond rfl (fun hne => ?_) (fun hne => ?_)
      · refine run_x (I := inf) 99 rfl (by simp only [app, obs_cons, obs_nil']) ?_
        refine run_drop 0 (Nat.le_refl _) rfl .nil (run_ret (.tmp .nil) ⟨?_, rfl⟩)
        show Out.ret (bv false) = _
        have : xs ≠ ys := fun e => by subst e; simp at hne
        simp [this]
      · refine run_x (I := inf) 99 rfl (by simp only [app, obs_cons, obs_nil']) ?_
        have hs : IntKind.wrap .i64 ((i : Int) + 1) = ((i + 1 : Nat) : Int) := by rw [w64] <;> omega
        refine ih (i + 1) _ _ (by omega) ⟨⟨rfl, rfl, ?_⟩, rfl, by omega, ?_⟩
        · show iv (IntKind.wrap .i64 ((i : Int) + 1)) = _
          rw [hs]
        · refine take_next (d := (0, false)) hl hlt' hp ?_
          simp at hne
          exact Prod.ext hne.1 hne.2
    · refine run_x (I := inf) 99 rfl (by simp only [app, obs_cons, obs_nil']) ?_
      refine run_drop 0 (Nat.le_refl _) rfl .nil (run_ret (.tmp .nil) ⟨?_, rfl⟩)
      show Out.ret (bv true) = _
      have hi' : i = xs.length := by simp at hlt; omega
      subst hi'
      have : xs = ys := by rw [List.take_length] at hp; rw [hp, hl, List.take_length]
      simp [this]
theorem stay_sameSubs (n1 n2 : Option Bool) (xs ys : List ISub) (hb : xs.length < 9223372036854775807) : CallT Try.prog 21 [isubS n1 xs, isubS n2 ys] [] (fun out A => out = .ret (bv (decide (xs = ys))) ∧ A = []) := by
  refine callT_body (n := 26) rfl rfl fun w ρ X => ?_
  refine run_x (I := inf) 99 rfl (by simp only [app, obs_cons, obs_nil']) ?_
  refine run_cond rfl (fun h => ?_) (fun h => ?_)
  · refine run_x (I := inf) 99 rfl (by simp only [app, obs_cons, obs_nil']) ?_
    refine run_drop 0 (Nat.le_refl _) rfl .nil (run_ret (.tmp .nil) ⟨?_, rfl⟩)
    show Out.ret (bv false) = _
    have : xs ≠ ys := fun e => by subst e; simp at h
    simp [this]
  · have hl : xs.length = ys.length := ieq (by simpa using h)
    refine run_x (I := inf) 99 rfl (by simp only [app, obs_cons, obs_nil']) ?_
    refine run_while (fun (i : Nat) τ ar => (τ 0 = isubS n1 xs ∧ τ 1 = isubS n2 ys ∧ τ 5 = iv i) ∧ ar = [] ∧ i ≤ xs.length ∧ xs.take i = ys.take i) (fun i => xs.length - i) 0 ⟨⟨rfl, rfl, rfl⟩, rfl, Nat.zero_le _, rfl⟩ ?_
    rintro i τ' ar' ⟨⟨h0, h1, h5⟩, rfl, hi, hp⟩ ih
    refine run_says 0 h0 (Says.refl _) (run_says 1 (by exact h1) (Says.refl _) (run_says 5 (by exact h5) (Says.refl _) ?_))
    refine run_x (I := inf) 99 rfl (by simp only [app, obs_cons, obs_nil']) ?_
    refine run_cond rfl (fun hlt => ?_) (fun hlt => ?_)
    · have hlt' : i < xs.length := by simpa using hlt
      refine run_x (I := inf) 99 rfl (by simp only [app, obs_cons, obs_nil']) ?_
      refine run_draw 9 (by kernel_rfl) (by kernel_rfl) (lex_x (I := inf) 99 rfl rfl (by simp only [app, obs_cons, obs_nil']; simp [inB, hlt', ← hl]) lex_nil) ?_
      refine run_x (I := inf) 99 rfl (by simp only [app, obs_cons, obs_nil']) ?_
      refine run_cond rfl (fun hne => ?_) (fun hne => ?_)
      · refine run_x (I := inf) 99 rfl (by simp only [app, obs_cons, obs_nil']) ?_
        refine run_drop 0 (Nat.le_refl _) rfl .nil (run_ret (.tmp .nil) ⟨?_, rfl⟩)
        show Out.ret (bv false) = _
        have : xs ≠ ys := fun e => by subst e; simp at hne
        simp [this]
      · refine run_x (I := inf) 99 rfl (by simp only [app, obs_cons, obs_nil']) ?_
        have hs : IntKind.wrap .i64 ((i : Int) + 1) = ((i + 1 : Nat) : Int) := by rw [w64] <;> omega
        refine ih (i + 1) _ _ (by omega) ⟨⟨rfl, rfl, ?_⟩, rfl, by omega, ?_⟩
        · show iv (IntKind.wrap .i64 ((i : Int) + 1)) = _
          rw [hs]
        · refine take_next (d := (0, 0, 0)) hl hlt' hp ?_
          simp at hne
          exact Prod.ext hne.1 (Prod.ext hne.2.1 hne.2.2)
    · refine run_x (I := inf) 99 rfl (by simp only [app, obs_cons, obs_nil']) ?_
      refine run_drop 0 (Nat.le_refl _) rfl .nil (run_ret (.tmp .nil) ⟨?_, rfl⟩)
      show Out.ret (bv true) = _
      have hi' : i = xs.length := by simp at hlt; omega
      subst hi'
      have : xs = ys := by rw [List.take_length] at hp; rw [hp, hl, List.take_length]
      simp [this]

end Go.Iron.Try
