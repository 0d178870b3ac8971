/- The array package's functions (seat Ytamhonbhoelohaa): copies and comparisons. -/
import Derived.Test.YtamhonbhoelohaaIronZ
import Derived.Test.YtamhonbhoelohaaIronInf
namespace Go.Iron.Try
open Go.Proofs
abbrev iv (n : Int) : AV := .val (.int .i64 n)
abbrev bv (b : Bool) : AV := .val (.bool b)
abbrev Dim := Int × Int
def dimR (ds : List Dim) : Nat → List AV := fun i => [iv (ds.getD i (0, 0)).1, iv (ds.getD i (0, 0)).2]
def dimS (nl : Option Bool) (ds : List Dim) : AV := .slc 2 nl ds.length (dimR ds)
def intR (xs : List Int) : Nat → List AV := fun i => [iv (xs.getD i 0)]
def intS (nl : Option Bool) (xs : List Int) : AV := .slc 1 nl xs.length (intR xs)
theorem w64 {x : Int} (h1 : -9223372036854775808 ≤ x) (h2 : x ≤ 9223372036854775807) : IntKind.wrap .i64 x = x := IntWalk.i64_in x (by omega)
theorem obs_cons {c d : Bool} {l : Ob} : Obs ((c, d) :: l) ↔ (c = true → d = true) ∧ Obs l :=
  ⟨fun h => ⟨fun hc => h (c, d) (by simp) hc, fun p hp => h p (List.mem_cons_of_mem _ hp)⟩, fun h => obs_by h.1 h.2⟩
theorem obs_nil' : Obs [] ↔ True := ⟨fun _ => trivial, fun _ => obs_nil⟩
theorem ieq {a b : Nat} (h : (a : Int) = b) : a = b := by omega
theorem appR_zero (r r2 : Nat → List AV) : appR 0 r r2 = r2 := by funext i; exact appR_ge (Nat.zero_le i)

theorem take_next {α : Type} {d : α} {xs ys : List α} {i : Nat} (hl : xs.length = ys.length) (hi : i < xs.length) (hp : xs.take i = ys.take i) (h : xs.getD i d = ys.getD i d) : xs.take (i + 1) = ys.take (i + 1) := by
  rw [List.take_succ_eq_append_getElem hi, List.take_succ_eq_append_getElem (hl ▸ hi), hp]
  simp only [List.getD_eq_getElem?_getD, List.getElem?_eq_getElem hi, List.getElem?_eq_getElem (hl ▸ hi : i < ys.length), Option.getD_some] at h
  rw [h]

theorem stay_dims (nl : Option Bool) (ds : List Dim) (hb : ds.length * 16 ≤ 140737488355328) : CallT Try.prog 11 [dimS nl ds] [] (fun out A => out = .ret (dimS none ds) ∧ A = []) := by
  refine callT_body (n := 6) rfl rfl fun w ρ X => ?_
  refine run_x (I := inf) 99 rfl (by simp only [app, obs_cons, obs_nil']; simp [hb]) ?_
  refine run_freeze 2 rfl rfl rfl (fun i hi => by rw [appR_zero]; rfl) ?_
  refine run_drop 0 (Nat.le_refl _) rfl .nil ?_
  refine run_ret (.tmp .nil) ⟨?_, rfl⟩
  show Out.ret (.slc 2 none (0 + ds.length) _) = _
  rw [appR_zero, Nat.zero_add]
  rfl

theorem stay_ints (nl : Option Bool) (xs : List Int) (hb : xs.length * 8 ≤ 140737488355328) : CallT Try.prog 12 [intS nl xs] [] (fun out A => out = .ret (intS none xs) ∧ A = []) := by
  refine callT_body (n := 6) rfl rfl fun w ρ X => ?_
  refine run_x (I := inf) 99 rfl (by simp only [app, obs_cons, obs_nil']; simp [hb]) ?_
  refine run_freeze 2 rfl rfl rfl (fun i hi => by rw [appR_zero]; rfl) ?_
  refine run_drop 0 (Nat.le_refl _) rfl .nil ?_
  refine run_ret (.tmp .nil) ⟨?_, rfl⟩
  show Out.ret (.slc 1 none (0 + xs.length) _) = _
  rw [appR_zero, Nat.zero_add]
  rfl

theorem stay_sameDims (n1 n2 : Option Bool) (xs ys : List Dim) (hb : xs.length < 9223372036854775807) : CallT Try.prog 14 [dimS n1 xs, dimS n2 ys] [] (fun out A => out = .ret (bv (decide (xs = ys))) ∧ A = []) := by
  refine callT_body (n := 26) rfl rfl fun w ρ X => ?_
  refine run_x (I := inf) 99 rfl (by simp only [app, obs_cons, obs_nil']) ?_
  refine run_cond rfl (fun h => ?_) (fun h => ?_)
  · refine run_x (I := inf) 99 rfl (by simp only [app, obs_cons, obs_nil']) ?_
    refine run_drop 0 (Nat.le_refl _) rfl .nil (run_ret (.tmp .nil) ⟨?_, rfl⟩)
    show Out.ret (bv false) = _
    have : xs ≠ ys := fun e => by subst e; simp at h
    simp [this]
  · have hl : xs.length = ys.length := ieq (by simpa using h)
    refine run_x (I := inf) 99 rfl (by simp only [app, obs_cons, obs_nil']) ?_
    refine run_while (fun (i : Nat) τ ar => (τ 0 = dimS n1 xs ∧ τ 1 = dimS n2 ys ∧ τ 5 = iv i) ∧ ar = [] ∧ i ≤ xs.length ∧ xs.take i = ys.take i) (fun i => xs.length - i) 0 ⟨⟨rfl, rfl, rfl⟩, rfl, Nat.zero_le _, rfl⟩ ?_
    rintro i τ' ar' ⟨⟨h0, h1, h5⟩, rfl, hi, hp⟩ ih
    refine run_says 0 h0 (Says.refl _) (run_says 1 (by exact h1) (Says.refl _) (run_says 5 (by exact h5) (Says.refl _) ?_))
    refine run_x (I := inf) 99 rfl (by simp only [app, obs_cons, obs_nil']) ?_
    refine run_cond rfl (fun hlt => ?_) (fun hlt => ?_)
    · have hlt' : i < xs.length := by simpa using hlt
      refine run_x (I := inf) 99 rfl (by simp only [app, obs_cons, obs_nil']) ?_
      refine run_draw 9 (by kernel_rfl) (by kernel_rfl) (lex_x (I := inf) 99 rfl rfl (by simp only [app, obs_cons, obs_nil']; simp [inB, hlt', ← hl]) lex_nil) ?_
      refine run_x (I := inf) 99 rfl (by simp only [app, obs_cons, obs_nil']) ?_
      refine run_cond rfl (fun hne => ?_) (fun hne => ?_)
      · refine run_x (I := inf) 99 rfl (by simp only [app, obs_cons, obs_nil']) ?_
        refine run_drop 0 (Nat.le_refl _) rfl .nil (run_ret (.tmp .nil) ⟨?_, rfl⟩)
        show Out.ret (bv false) = _
        have : xs ≠ ys := fun e => by subst e; simp at hne
        simp [this]
      · refine run_x (I := inf) 99 rfl (by simp only [app, obs_cons, obs_nil']) ?_
        have hs : IntKind.wrap .i64 ((i : Int) + 1) = ((i + 1 : Nat) : Int) := by rw [w64] <;> omega
        refine ih (i + 1) _ _ (by omega) ⟨⟨rfl, rfl, ?_⟩, rfl, by omega, ?_⟩
        · show iv (IntKind.wrap .i64 ((i : Int) + 1)) = _
          rw [hs]
        · refine take_next (d := (0, 0)) hl hlt' hp ?_
          simp at hne
          exact Prod.ext hne.1 hne.2
    · refine run_x (I := inf) 99 rfl (by simp only [app, obs_cons, obs_nil']) ?_
      refine run_drop 0 (Nat.le_refl _) rfl .nil (run_ret (.tmp .nil) ⟨?_, rfl⟩)
      show Out.ret (bv true) = _
      have hi' : i = xs.length := by simp at hlt; omega
      subst hi'
      have : xs = ys := by rw [List.take_length] at hp; rw [hp, hl, List.take_length]
      simp [this]
end Go.Iron.Try
