/- Tokens of a text: the reference's way through a text, in plain Lean. -/
import Derived.Test.YtmohlahmfkkggaaGreatDoorTB
import Derived.Test.YtmohlahmfkkggaaGreatDoorTC
import Derived.Test.YtmohlahmfkkggaaGreatDoorTE
import Derived.Lib.Bytealg
import Derived.Lib.Replace
namespace Go.Iron.Tok

def spP (c : Nat) : Bool := c == 32 || c == 9 || c == 10
theorem spP_eq {c : Nat} : spP c = true ↔ c = 32 ∨ c = 9 ∨ c = 10 := by
  unfold spP
  simp [or_assoc]
/-- Behind blanks and comments; or where what is wrong is. -/
def gapR (s : Str) (p : Nat) : Rd :=
  if hp : p < s.length then
    if spP (byt s p) = true then gapR s (p + 1)
    else if byt s p = 47 ∧ byt s (p + 1) = 42 then
      match hc : comL s p (p + 2) with
      | .bad q => .bad q
      | .ok _ q => gapR s q
    else .ok none p
  else .ok none p
termination_by s.length - p
decreasing_by
  · omega
  · have := comL_le hc
    omega
theorem gapR_end {s : Str} {p : Nat} (h : ¬ p < s.length) : gapR s p = .ok none p := by rw [gapR, dif_neg h]
theorem gapR_sp {s : Str} {p : Nat} (h : p < s.length) (h2 : spP (byt s p) = true) : gapR s p = gapR s (p + 1) := by
  conv => lhs; rw [gapR]
  rw [dif_pos h, if_pos h2]
theorem gapR_tok {s : Str} {p : Nat} (h : p < s.length) (h2 : spP (byt s p) = false) (h3 : ¬ (byt s p = 47 ∧ byt s (p + 1) = 42)) : gapR s p = .ok none p := by
  rw [gapR, dif_pos h, if_neg (by rw [h2]; decide), if_neg h3]
theorem gapR_bad {s : Str} {p q : Nat} (h : p < s.length) (h3 : byt s p = 47 ∧ byt s (p + 1) = 42) (h4 : comL s p (p + 2) = .bad q) : gapR s p = .bad q := by
  rw [gapR, dif_pos h, if_neg (by rw [h3.1]; decide), if_pos h3]
  split
  · rename_i hc
    rw [h4] at hc
    injection hc with e
    rw [e]
  · rename_i hc
    rw [h4] at hc
    cases hc
theorem gapR_com {s : Str} {p q : Nat} {t : Option Tk} (h : p < s.length) (h3 : byt s p = 47 ∧ byt s (p + 1) = 42) (h4 : comL s p (p + 2) = .ok t q) : gapR s p = gapR s q := by
  conv => lhs; rw [gapR]
  rw [dif_pos h, if_neg (by rw [h3.1]; decide), if_pos h3]
  split
  · rename_i hc
    rw [h4] at hc
    cases hc
  · rename_i hc
    rw [h4] at hc
    injection hc with e e2
    rw [e2]
theorem com_none {s : Str} {f : Nat} : ∀ {p q : Nat} {t : Option Tk}, comL s f p = .ok t q → t = none
  | p, q, t, h => by
    unfold comL at h
    split at h
    · split at h
      · cases h
      · split at h
        · injection h with h3 h4
          exact h3.symm
        · exact com_none h
    · cases h
termination_by p => s.length - p
decreasing_by omega
theorem readAt_sp {s : Str} {p : Nat} (h : spP (byt s p) = true) : readAt s p = .ok none (p + 1) := by
  have h1 := spP_eq.1 h
  unfold readAt
  rcases h1 with h1 | h1 | h1 <;> rw [h1] <;> rfl
theorem readAt_com {s : Str} {p : Nat} (h : byt s p = 47 ∧ byt s (p + 1) = 42) : readAt s p = comL s p (p + 2) := by
  unfold readAt
  rw [h.1, if_neg (by decide), if_neg (by decide), if_neg (by decide), if_neg (by decide), if_pos (by decide)]
  unfold readOp
  rw [if_neg (by omega), if_pos h]
/-- The gap makes no token. -/
theorem gap_scan {s : Str} {acc : List Tk} : ∀ {p : Nat}, p ≤ s.length → (∀ q, gapR s p = .bad q → scanP s p acc = ([], q, 2)) ∧ ∀ t q, gapR s p = .ok t q → scanP s p acc = scanP s q acc ∧ p ≤ q ∧ q ≤ s.length ∧ (q < s.length → spP (byt s q) = false ∧ ¬ (byt s q = 47 ∧ byt s (q + 1) = 42))
  | p, hp => by
    by_cases h : p < s.length
    · by_cases h2 : spP (byt s p) = true
      · have ih := gap_scan (acc := acc) (p := p + 1) h
        rw [gapR_sp h h2, scanP_none h (readAt_sp h2)]
        refine ⟨ih.1, fun t q hq => ?_⟩
        obtain ⟨a, b, c, d⟩ := ih.2 t q hq
        exact ⟨a, by omega, c, d⟩
      · by_cases h3 : byt s p = 47 ∧ byt s (p + 1) = 42
        · cases hc : comL s p (p + 2) with
          | bad q =>
            rw [gapR_bad h h3 hc]
            refine ⟨fun q' e => ?_, fun t q' e => (by cases e)⟩
            injection e with e
            rw [scanP_bad h ((readAt_com h3).trans hc), e]
          | ok t q =>
            have hcl := comL_le hc
            have hn := com_none hc
            subst hn
            have ih := gap_scan (acc := acc) (p := q) hcl.2
            rw [gapR_com h h3 hc, scanP_none h ((readAt_com h3).trans hc)]
            refine ⟨ih.1, fun t q' hq => ?_⟩
            obtain ⟨a, b, c, d⟩ := ih.2 t q' hq
            exact ⟨a, by omega, c, d⟩
        · rw [gapR_tok h (by simpa using h2) h3]
          refine ⟨fun q e => (by cases e), fun t q e => ?_⟩
          injection e with e1 e2
          subst e2
          exact ⟨rfl, Nat.le_refl _, hp, fun _ => ⟨by simpa using h2, h3⟩⟩
    · rw [gapR_end h]
      refine ⟨fun q e => (by cases e), fun t q e => ?_⟩
      injection e with e1 e2
      subst e2
      exact ⟨rfl, Nat.le_refl _, hp, fun h' => absurd h' h⟩
termination_by p => s.length - p
decreasing_by
  · omega
  · have := comL_le hc
    omega
theorem pre2 (s : Str) (p a b : Nat) (ha : 0 < a) (hb : 0 < b) (ha2 : a < 256) (hb2 : b < 256) : [UInt8.ofNat a, UInt8.ofNat b].isPrefixOf (s.drop p) = decide (byt s p = a ∧ byt s (p + 1) = b) := by
  have hg : ∀ j, byt s (p + j) = ((s.drop p).getD j 0).toNat := fun j => by
    unfold byt
    rw [List.getD_eq_getElem?_getD, List.getD_eq_getElem?_getD, List.getElem?_drop]
  have h0 := hg 0
  rw [Nat.add_zero] at h0
  rw [h0, hg 1]
  have key : ∀ (x : UInt8) (c : Nat), c < 256 → ((UInt8.ofNat c == x) = decide (x.toNat = c)) := by
    intro x c hc
    rw [Bool.eq_iff_iff, beq_iff_eq, decide_eq_true_eq, ← UInt8.toNat_inj, UInt8.toNat_ofNat', Nat.mod_eq_of_lt hc]
    exact eq_comm
  rcases s.drop p with _ | ⟨x, _ | ⟨y, l⟩⟩
  · have : ¬ ((0 : UInt8).toNat = a ∧ (0 : UInt8).toNat = b) := by
      rintro ⟨h, -⟩
      rw [show (0 : UInt8).toNat = 0 from rfl] at h
      omega
    show false = decide ((0 : UInt8).toNat = a ∧ (0 : UInt8).toNat = b)
    rw [decide_eq_false this]
  · have : ¬ (x.toNat = a ∧ (0 : UInt8).toNat = b) := by
      rintro ⟨-, h⟩
      rw [show (0 : UInt8).toNat = 0 from rfl] at h
      omega
    show (UInt8.ofNat a == x && false) = decide (x.toNat = a ∧ (0 : UInt8).toNat = b)
    rw [decide_eq_false this, Bool.and_false]
  · show (UInt8.ofNat a == x && (UInt8.ofNat b == y && true)) = decide (x.toNat = a ∧ y.toNat = b)
    rw [key x a ha2, key y b hb2, Bool.and_true, Bool.decide_and]
theorem no_oper {s : Str} {p : Nat} (h : plP (byt s p) = false) : opers.find? (fun o => o.isPrefixOf (s.drop p)) = none := by
  rw [List.find?_eq_none]
  intro o ho hp
  have hd : ∃ b l, s.drop p = b :: l ∧ byt s p = b.toNat := by
    have hlen : 1 ≤ o.length := by
      have : ∀ o ∈ opers, 1 ≤ o.length := by decide
      exact this o ho
    have hpre : o <+: s.drop p := by simpa [List.isPrefixOf_iff_prefix] using hp
    have hle := hpre.length_le
    cases hs : s.drop p with
    | nil => rw [hs, List.length_nil] at hle; omega
    | cons b l =>
      refine ⟨b, l, rfl, ?_⟩
      unfold byt
      have : s[p]? = some b := by
        have := congrArg (fun z => z[0]?) hs
        simpa using this
      rw [List.getD_eq_getElem?_getD, this]
      rfl
  obtain ⟨b, l, hs, hb⟩ := hd
  rw [hs] at hp
  have key : ∀ o ∈ opers, ∃ c r, o = c :: r ∧ plP c.toNat = true := by
    intro o ho
    have : opers.all (fun o => match o with | c :: _ => plP c.toNat | [] => false) = true := by decide
    have := List.all_eq_true.1 this o ho
    cases o with
    | nil => cases this
    | cons c r => exact ⟨c, r, rfl, this⟩
  obtain ⟨c, r, rfl, hc⟩ := key o ho
  rw [List.isPrefixOf_cons_cons, Bool.and_eq_true, beq_iff_eq] at hp
  rw [hb, ← hp.1, hc] at h
  cases h
/-- The token at a place that is no blank and no comment. -/
def nextR (s : Str) (p : Nat) : Rd :=
  if begP (byt s p) = true then readName s p
  else if digP (byt s p) = true ∨ (byt s p = 46 ∧ digP (byt s (p + 1)) = true) then readNum s p
  else if byt s p = 39 then readQuo s p
  else match opers.find? fun o => o.isPrefixOf (s.drop p) with
    | some o => .ok (some ⟨5, o, p⟩) (p + o.length)
    | none => .bad p
theorem nextR_eq {s : Str} {p : Nat} (h : spP (byt s p) = false) (h2 : ¬ (byt s p = 47 ∧ byt s (p + 1) = 42)) : nextR s p = readAt s p := by
  unfold nextR readAt
  by_cases h3 : begP (byt s p) = true
  · rw [if_pos h3, if_pos h3]
  rw [if_neg h3, if_neg h3]
  by_cases h4 : digP (byt s p) = true
  · rw [if_pos (.inl h4), if_pos h4]
  rw [if_neg h4]
  have hsp : ¬ (byt s p = 32 ∨ byt s p = 10 ∨ byt s p = 9) := by
    intro e
    have : spP (byt s p) = true := spP_eq.2 (by omega)
    rw [this] at h
    cases h
  by_cases h5 : byt s p = 46 ∧ digP (byt s (p + 1)) = true
  · rw [if_pos (.inr h5), if_neg (by omega), if_neg hsp, if_pos (by rw [h5.1]; decide)]
    unfold readOp
    rw [if_pos h5]
  rw [if_neg (fun e => e.elim h4 h5)]
  by_cases h6 : byt s p = 39
  · rw [if_pos h6, if_pos h6]
  rw [if_neg h6, if_neg h6, if_neg hsp]
  by_cases h7 : plP (byt s p) = true
  · rw [if_pos h7]
    unfold readOp
    rw [if_neg h5, if_neg h2] <;> rfl
  · rw [if_neg h7, no_oper (by simpa using h7)]
/-- The reference's token where a constant in quotes is none. -/
def quoA (s : Str) (p : Nat) (acc : Str) : Str :=
  if h : p < s.length then
    if byt s p = 10 ∨ byt s p = 9 then acc
    else if plP (byt s p) = false then acc
    else if byt s p ≠ 39 then quoA s (p + 1) (acc ++ [s.getD p 0])
    else if byt s (p + 1) = 39 then quoA s (p + 2) (acc ++ [39])
    else acc
  else acc
termination_by s.length - p
decreasing_by all_goals omega
def bitsU (four : Bool) : Str → Str × Bool
  | [] => ([], true)
  | b :: l => match hexN b.toNat with
    | none => ([], false)
    | some n => if four = true then (bit4 n ++ (bitsU four l).1, (bitsU four l).2)
      else if b.toNat = 48 ∨ b.toNat = 49 then (b :: (bitsU four l).1, (bitsU four l).2) else ([], false)
def quoB (s : Str) (p : Nat) : Tk := match quoL s p (p + 1) [] with
  | .bad _ => ⟨3, quoA s (p + 1) [], p⟩
  | .fin l k => if upN (byt s (k + 1)) = 66 then ⟨4, (bitsU (decide (byt s (k + 2) = 52)) l).1, p⟩ else ⟨3, l, p⟩
theorem bitsU_hex : ∀ l : Str, hexL l = if (bitsU true l).2 = true then some (bitsU true l).1 else none
  | [] => rfl
  | b :: l => by
    rw [hexL, bitsU, bitsU_hex l]
    cases hexN b.toNat with
    | none => rfl
    | some n =>
      cases h : (bitsU true l).2
      · simp
      · simp
theorem bitsU_two : ∀ l : Str, (bitsU false l).2 = (l.all fun b => b.toNat == 48 || b.toNat == 49) ∧ ((bitsU false l).2 = true → (bitsU false l).1 = l)
  | [] => ⟨rfl, fun _ => rfl⟩
  | b :: l => by
    obtain ⟨h1, h2⟩ := bitsU_two l
    rw [bitsU, List.all_cons]
    by_cases hb : b.toNat = 48 ∨ b.toNat = 49
    · have hx : ∃ n, hexN b.toNat = some n := by
        unfold hexN
        rw [if_pos (by omega)]
        exact ⟨_, rfl⟩
      obtain ⟨n, hn⟩ := hx
      rw [hn]
      dsimp only
      rw [if_neg (by decide), if_pos hb]
      dsimp only
      rw [h1] at h2 ⊢
      have : (b.toNat == 48 || b.toNat == 49) = true := by simpa using hb
      rw [this, Bool.true_and]
      exact ⟨rfl, fun e => by rw [h2 e]⟩
    · have : (b.toNat == 48 || b.toNat == 49) = false := by simpa using hb
      rw [this, Bool.false_and]
      cases hexN b.toNat with
      | none => exact ⟨rfl, fun e => by cases e⟩
      | some n =>
        dsimp only
        rw [if_neg (by decide), if_neg hb]
        exact ⟨rfl, fun e => by cases e⟩
end Go.Iron.Tok

/- Tokens of a text: tokens compared, and how they are written; in plain Lean. -/
namespace Go.Iron.Tok

def tk0 : Tk := ⟨0, [], 0⟩
/-- Two tokens are the same, with their places or without. -/
def sameT (pl : Bool) (a b : Tk) : Bool := decide (a.kind = b.kind) && decide (a.text = b.text) && (!pl || decide (a.at_ = b.at_))
def sameL (pl : Bool) (a b : List Tk) : Bool := decide (a.length = b.length) && (List.range a.length).all fun i => sameT pl (a.getD i tk0) (b.getD i tk0)
/-- A text is read as these tokens, but for places. -/
def readAs (s : Str) (l : List Tk) : Bool := decide ((scanF s).2.2 = 0) && sameL false (scanF s).1 l
def dbl (l : Str) : Str := l.flatMap fun b => if b = 39 then [39, 39] else [b]
/-- How a token is written. -/
def wrS (t : Tk) : Str := if t.kind = 3 then [39] ++ dbl t.text ++ [39] else if t.kind = 4 then [39] ++ t.text ++ [39, 66] else t.text
/-- A token that is read from its text as it is. -/
def validT (t : Tk) : Bool := readAs (wrS t) [t]

/-- A number's text. -/
def NumT (T : Str) : Prop := upS T = T ∧ numE T 0 = (T.length, true) ∧ (digP (byt T 0) = true ∨ (byt T 0 = 46 ∧ digP (byt T 1) = true))
/-- What tokens are that have been read. -/
inductive Good : Tk → Prop
  | name (T : Str) (a : Nat) : upS T = T → T.length ≤ 31 → begP (byt T 0) = true → (∀ j, j < T.length → goP (byt T j) = true) → Good ⟨1, T, a⟩
  | num (T : Str) (a : Nat) : NumT T → Good ⟨2, T, a⟩
  | chars (T : Str) (a : Nat) : T.length ≤ 250 → (∀ b ∈ T, plP b.toNat = true ∧ b.toNat ≠ 10 ∧ b.toNat ≠ 9) → Good ⟨3, T, a⟩
  | bits (T : Str) (a : Nat) : T.length ≤ 250 → (∀ b ∈ T, b.toNat = 48 ∨ b.toNat = 49) → Good ⟨4, T, a⟩
  | oper (T : Str) (a : Nat) : T ∈ opers → Good ⟨5, T, a⟩
theorem byt_get {s : Str} {j : Nat} (h : j < s.length) : byt s j = (s[j]).toNat := by
  unfold byt
  rw [List.getD_eq_getElem?_getD, List.getElem?_eq_getElem h]
  rfl
theorem up_leN (c : Nat) : upN c ≤ c := by unfold upN; split <;> omega
theorem byt_up (s : Str) (j : Nat) : byt (upS s) j = upN (byt s j) := by
  unfold upS
  by_cases h : j < s.length
  · rw [byt_get (by simpa using h), byt_get h, List.getElem_map]
    have := (s[j]).toNat_lt
    have := up_leN (s[j]).toNat
    unfold upB
    rw [UInt8.toNat_ofNat', Nat.mod_eq_of_lt (by omega)]
  · rw [byt_end (by simp; omega), byt_end (by omega)]
    rfl
theorem byt_part {s : Str} {p q j : Nat} (h : p + j < q) : byt (part s p q) j = byt s (p + j) := by
  unfold byt part
  rw [List.getD_eq_getElem?_getD, List.getD_eq_getElem?_getD, List.getElem?_drop, List.getElem?_take, if_pos h]
theorem part_len {s : Str} {p q : Nat} (h : q ≤ s.length) : (part s p q).length = q - p := by
  unfold part
  rw [List.length_drop, List.length_take]
  omega
theorem up_twice (s : Str) : upS (upS s) = upS s := by
  unfold upS
  rw [List.map_map]
  refine List.map_congr_left fun b _ => ?_
  show upB (upB b) = upB b
  unfold upB
  have h1 := b.toNat_lt
  have h2 := up_leN b.toNat
  rw [UInt8.toNat_ofNat', Nat.mod_eq_of_lt (by omega)]
  have : upN (upN b.toNat) = upN b.toNat := by
    unfold upN
    split
    · rw [if_neg (by omega)]
    · rfl
  rw [this]
end Go.Iron.Tok

/- Tokens of a text: what is read, where it stands in another text; in plain Lean. -/
namespace Go.Iron.Tok

theorem go_dig {c : Nat} (h : goP c = false) : digP c = false := by
  unfold goP at h
  cases hd : digP c with
  | false => rfl
  | true => rw [hd] at h; simp at h
theorem go_beg {c : Nat} (h : goP c = false) : begP c = false := by
  unfold goP at h
  cases hd : begP c with
  | false => rfl
  | true => rw [hd] at h; simp at h
theorem go_up {c : Nat} (h : goP c = false) : ¬ (65 ≤ upN c ∧ upN c ≤ 90) := by
  intro hu
  have := go_beg h
  unfold begP at this
  simp [hu.1, hu.2] at this
/-- A number's bytes stand in another text, some letters great; what is behind them doesn't go on. -/
structure Loc (X : Str) (x : Nat) (S : Str) (p n : Nat) : Prop where
  hx : x + n ≤ X.length
  hp : p + n ≤ S.length
  cap : ∀ j, j < n → Cap (byt X (x + j)) (byt S (p + j))
  go : goP (byt S (p + n)) = false
  dot : byt S (p + n) = 46 → byt X (x + n) = 46
theorem loc_span {X S : Str} {x p n i : Nat} (h : Loc X x S p n) (hi : i ≤ n) (hr : spanN X digP (x + i) ≤ x + n) : spanN S digP (p + i) = p + (spanN X digP (x + i) - x) := by
  have h1 := spanN_le X digP (x + i)
  have h2 := spanN_in X digP (x + i)
  have h3 := spanN_stop X digP (x + i)
  generalize spanN X digP (x + i) = r at hr h1 h2 h3 ⊢
  refine spanN_eq (by omega) (fun j a b => ?_) (fun e => ?_)
  · have hc := h.cap (j - p) (by omega)
    have hd := h2 (x + (j - p)) (by omega) (by omega)
    rw [show p + (j - p) = j by omega] at hc
    have := h.hp
    exact ⟨by omega, by rw [cap_dig hc]; exact hd⟩
  · by_cases hrn : r = x + n
    · subst hrn
      have := go_dig h.go
      rw [show p + (x + n - x) = p + n by omega] at e
      rw [this] at e
      cases e.2
    · have hc := h.cap (r - x) (by omega)
      rw [show x + (r - x) = r by omega] at hc
      have := h.hx
      exact h3 ⟨by omega, by rw [← cap_dig hc]; exact e.2⟩
theorem loc_numD {X S : Str} {x p n : Nat} (h : Loc X x S p n) (hr : numD X x ≤ x + n) : numD S p = p + (numD X x - x) := by
  have hD : numD X x = if byt X (spanN X digP x) = 46 then spanN X digP (spanN X digP x + 1) else spanN X digP x := rfl
  have hS : numD S p = if byt S (spanN S digP p) = 46 then spanN S digP (spanN S digP p + 1) else spanN S digP p := rfl
  have h1 := spanN_le X digP x
  have h2 := spanN_le X digP (spanN X digP x + 1)
  have hq : spanN X digP x ≤ x + n := by
    rw [hD] at hr
    split at hr <;> omega
  have e1 := loc_span (i := 0) h (Nat.zero_le _) hq
  rw [Nat.add_zero, Nat.add_zero] at e1
  rw [hS, e1, hD]
  generalize hqe : spanN X digP x = q at *
  by_cases h46 : byt X q = 46
  · rw [if_pos h46] at hD
    have hqn : q < x + n := by omega
    have hc := h.cap (q - x) (by omega)
    rw [show x + (q - x) = q by omega] at hc
    have h46' : byt S (p + (q - x)) = 46 := (cap_same hc (.inl (by decide)) (.inl (by decide))).2 h46
    have e2 := loc_span (i := q - x + 1) h (by omega) (by rw [show x + (q - x + 1) = q + 1 by omega, ← hD]; exact hr)
    rw [show x + (q - x + 1) = q + 1 by omega] at e2
    rw [if_pos h46', if_pos h46, show p + (q - x) + 1 = p + (q - x + 1) by omega, e2]
  · rw [if_neg h46]
    have h46' : ¬ byt S (p + (q - x)) = 46 := by
      by_cases hqn : q = x + n
      · subst hqn
        rw [show p + (x + n - x) = p + n by omega]
        exact fun e => h46 (h.dot e)
      · have hc := h.cap (q - x) (by omega)
        rw [show x + (q - x) = q by omega] at hc
        exact fun e => h46 ((cap_same hc (.inl (by decide)) (.inl (by decide))).1 e)
    rw [if_neg h46']
theorem bits_iff {u : Str} {p q : Nat} (hq : q ≤ u.length) : bits01 (part u p q) = true ↔ ∀ j, p + j < q → byt u (p + j) = 48 ∨ byt u (p + j) = 49 ∨ byt u (p + j) = 46 := by
  unfold bits01
  rw [List.all_eq_true]
  have hl := part_len (s := u) (p := p) hq
  constructor
  · intro h j hj
    have hb := h ((part u p q)[j]'(by omega)) (List.getElem_mem _)
    rw [← byt_get, byt_part hj] at hb
    simpa [or_assoc] using hb
  · intro h b hb
    obtain ⟨i, hi, rfl⟩ := List.mem_iff_getElem.1 hb
    have := h i (by omega)
    rw [← byt_part (q := q) (by omega), byt_get hi] at this
    simpa [or_assoc] using this
theorem loc_num {X S : Str} {x p n : Nat} (h : Loc X x S p n) (hn : numE X x = (x + n, true)) : numE S p = (p + n, true) := by
  have hE : numE X x = if upN (byt X (numD X x)) = 69 then (spanN X digP (signE X (numD X x + 1)), decide (1 ≤ spanN X digP (signE X (numD X x + 1)) - signE X (numD X x + 1)) && decide (spanN X digP (signE X (numD X x + 1)) - signE X (numD X x + 1) ≤ 2)) else if upN (byt X (numD X x)) = 66 then (numD X x + 1, bits01 (part X x (numD X x))) else (numD X x, true) := rfl
  have hF : numE S p = if upN (byt S (numD S p)) = 69 then (spanN S digP (signE S (numD S p + 1)), decide (1 ≤ spanN S digP (signE S (numD S p + 1)) - signE S (numD S p + 1)) && decide (spanN S digP (signE S (numD S p + 1)) - signE S (numD S p + 1) ≤ 2)) else if upN (byt S (numD S p)) = 66 then (numD S p + 1, bits01 (part S p (numD S p))) else (numD S p, true) := rfl
  have hxn := h.hx
  have hpn := h.hp
  have hle := numE_le (s := X) (p := x) (by omega)
  have hDl := numD_le (s := X) (p := x) (by omega)
  rw [hn] at hE hle
  have eD := loc_numD h hle.1
  rw [hF, eD]
  generalize hq : numD X x = q at *
  have hql : q ≤ x + n := hle.1
  by_cases h69 : upN (byt X q) = 69
  · rw [if_pos h69] at hE
    injection hE with e1 e2
    have hsg : signE X (q + 1) = if byt X (q + 1) = 43 ∨ byt X (q + 1) = 45 then q + 1 + 1 else q + 1 := rfl
    have hsS : signE S (p + (q - x) + 1) = if byt S (p + (q - x) + 1) = 43 ∨ byt S (p + (q - x) + 1) = 45 then p + (q - x) + 1 + 1 else p + (q - x) + 1 := rfl
    have hsl := spanN_le X digP (signE X (q + 1))
    have h2 : 1 ≤ spanN X digP (signE X (q + 1)) - signE X (q + 1) ∧ spanN X digP (signE X (q + 1)) - signE X (q + 1) ≤ 2 := by
      have := e2.symm
      rw [Bool.and_eq_true, decide_eq_true_eq, decide_eq_true_eq] at this
      exact this
    have hkq : q + 1 ≤ signE X (q + 1) := by rw [hsg]; split <;> omega
    have hqn : q < x + n := by omega
    have hc := h.cap (q - x) (by omega)
    rw [show x + (q - x) = q by omega] at hc
    have hc1 := h.cap (q - x + 1) (by omega)
    rw [show x + (q - x + 1) = q + 1 by omega, show p + (q - x + 1) = p + (q - x) + 1 by omega] at hc1
    have k43 := cap_same hc1 (c := 43) (.inl (by decide)) (.inl (by decide))
    have k45 := cap_same hc1 (c := 45) (.inl (by decide)) (.inl (by decide))
    have ek : signE S (p + (q - x) + 1) = p + (signE X (q + 1) - x) := by
      rw [hsS, hsg]
      by_cases hs : byt X (q + 1) = 43 ∨ byt X (q + 1) = 45
      · rw [if_pos hs, if_pos (hs.elim (fun e => .inl (k43.2 e)) fun e => .inr (k45.2 e))]
        omega
      · rw [if_neg hs, if_neg (fun e => hs (e.elim (fun e => .inl (k43.1 e)) fun e => .inr (k45.1 e)))]
        omega
    have er := loc_span (i := signE X (q + 1) - x) h (by omega) (by rw [show x + (signE X (q + 1) - x) = signE X (q + 1) by omega]; omega)
    rw [show x + (signE X (q + 1) - x) = signE X (q + 1) by omega] at er
    rw [if_pos (by rw [cap_up hc]; exact h69), ek, er]
    refine Prod.ext ?_ ?_
    · show p + (spanN X digP (signE X (q + 1)) - x) = p + n
      omega
    · show (decide _ && decide _) = true
      rw [decide_eq_true (by omega), decide_eq_true (by omega)]
      rfl
  · rw [if_neg h69] at hE
    by_cases h66 : upN (byt X q) = 66
    · rw [if_pos h66] at hE
      injection hE with e1 e2
      have hqn : q < x + n := by omega
      have hc := h.cap (q - x) (by omega)
      rw [show x + (q - x) = q by omega] at hc
      rw [if_neg (by rw [cap_up hc]; exact h69), if_pos (by rw [cap_up hc]; exact h66)]
      refine Prod.ext ?_ ?_
      · show p + (q - x) + 1 = p + n
        omega
      · show bits01 (part S p (p + (q - x))) = true
        rw [bits_iff (by omega)]
        have hb := (bits_iff (u := X) (p := x) (q := q) (by omega)).1 e2.symm
        intro j hj
        have hcj := h.cap j (by omega)
        have := hb j (by omega)
        rcases this with e | e | e
        · exact .inl ((cap_same hcj (.inl (by decide)) (.inl (by decide))).2 e)
        · exact .inr (.inl ((cap_same hcj (.inl (by decide)) (.inl (by decide))).2 e))
        · exact .inr (.inr ((cap_same hcj (.inl (by decide)) (.inl (by decide))).2 e))
    · rw [if_neg h66] at hE
      injection hE with e1 e2
      subst e1
      have hg := go_up h.go
      rw [show p + (x + n - x) = p + n by omega, if_neg (by omega), if_neg (by omega)]
/-- A number is read. -/
theorem read_num {S : Str} {p n : Nat} (hp : p + n ≤ S.length) (hd : digP (byt S p) = true ∨ (byt S p = 46 ∧ digP (byt S (p + 1)) = true)) (hn : numE S p = (p + n, true)) (hg : goP (byt S (p + n)) = false) : readAt S p = .ok (some ⟨2, upS (part S p (p + n)), p⟩) (p + n) := by
  have hr : readNum S p = .ok (some ⟨2, upS (part S p (p + n)), p⟩) (p + n) := by
    unfold readNum
    rw [hn, if_pos ⟨rfl, hg⟩]
  have hb : begP (byt S p) = false := by
    rcases hd with h | h
    · have h1 : 48 ≤ byt S p ∧ byt S p ≤ 57 := by simpa [digP] using h
      unfold begP upN
      rw [if_neg (by omega)]
      simp
      omega
    · rw [h.1]; rfl
  unfold readAt
  rw [hb, if_neg (by decide)]
  by_cases h : digP (byt S p) = true
  · rw [if_pos h, hr]
  · have h2 := hd.resolve_left h
    rw [if_neg h, if_neg (by omega), if_neg (by omega), if_pos (by rw [h2.1]; rfl)]
    unfold readOp
    rw [if_pos h2, hr]
/-- A name is read. -/
theorem read_name {S : Str} {p n : Nat} (hp : p + n ≤ S.length) (hn : n ≤ 31) (h0 : 0 < n) (hb : begP (byt S p) = true) (hin : ∀ j, j < n → goP (byt S (p + j)) = true) (hg : goP (byt S (p + n)) = false) : readAt S p = .ok (some ⟨1, upS (part S p (p + n)), p⟩) (p + n) := by
  unfold readAt
  rw [if_pos hb]
  have hs : spanN S goP p = p + n := spanN_eq (by omega) (fun j a b => by
    have := hin (j - p) (by omega)
    rw [show p + (j - p) = j by omega] at this
    exact ⟨by omega, this⟩) (fun e => by rw [hg] at e; cases e.2)
  unfold readName
  rw [hs]
  dsimp only
  rw [if_neg (by omega)]
end Go.Iron.Tok

/- Tokens of a text: each token is read wherever it stands as it is written; in plain Lean. -/
namespace Go.Iron.Tok

/-- W stands in S at p. -/
def Occ (S : Str) (p : Nat) (W : Str) : Prop := p + W.length ≤ S.length ∧ ∀ j, j < W.length → byt S (p + j) = byt W j
theorem byt_app {U V : Str} (j : Nat) : byt (U ++ V) j = if j < U.length then byt U j else byt V (j - U.length) := by
  unfold byt
  rw [List.getD_eq_getElem?_getD, List.getElem?_append]
  split <;> rw [List.getD_eq_getElem?_getD]
theorem occ_app {S U V : Str} {p : Nat} : Occ S p (U ++ V) ↔ Occ S p U ∧ Occ S (p + U.length) V := by
  unfold Occ
  rw [List.length_append]
  constructor
  · rintro ⟨h1, h2⟩
    refine ⟨⟨by omega, fun j hj => ?_⟩, by omega, fun j hj => ?_⟩
    · rw [h2 j (by omega), byt_app, if_pos hj]
    · have := h2 (U.length + j) (by omega)
      rw [byt_app, if_neg (by omega), show U.length + j - U.length = j by omega] at this
      rw [show p + U.length + j = p + (U.length + j) by omega]
      exact this
  · rintro ⟨⟨h1, h2⟩, h3, h4⟩
    refine ⟨by omega, fun j hj => ?_⟩
    rw [byt_app]
    by_cases h : j < U.length
    · rw [if_pos h]; exact h2 j h
    · rw [if_neg h]
      have := h4 (j - U.length) (by omega)
      rwa [show p + U.length + (j - U.length) = p + j by omega] at this
theorem occ_one {S : Str} {p : Nat} {b : UInt8} (h : Occ S p [b]) : p < S.length ∧ byt S p = b.toNat := by
  obtain ⟨h1, h2⟩ := h
  have := h2 0 (by show 0 < 1; omega)
  rw [Nat.add_zero] at this
  exact ⟨h1, this⟩
theorem occ_getD {S : Str} {p : Nat} {b : UInt8} (h : Occ S p [b]) : S.getD p 0 = b := UInt8.toNat_inj.1 (occ_one h).2
theorem occ_part {S W : Str} {p : Nat} (h : Occ S p W) : part S p (p + W.length) = W := by
  apply List.ext_getElem (by rw [part_len h.1]; omega)
  intro j h1 h2
  apply UInt8.toNat_inj.1
  rw [← byt_get h1, ← byt_get h2, byt_part (by omega)]
  exact h.2 j h2
theorem dbl_cons (b : UInt8) (T : Str) : dbl (b :: T) = (if b = 39 then [39, 39] else [b]) ++ dbl T := by
  unfold dbl
  rw [List.flatMap_cons]
theorem quo_read {S : Str} {f : Nat} : ∀ (T : Str) (p : Nat) (acc : Str), Occ S p (dbl T) → (∀ b ∈ T, plP b.toNat = true ∧ b.toNat ≠ 10 ∧ b.toNat ≠ 9) → p + (dbl T).length < S.length → byt S (p + (dbl T).length) = 39 → byt S (p + (dbl T).length + 1) ≠ 39 → quoL S f p acc = .fin (acc ++ T) (p + (dbl T).length)
  | [], p, acc, ho, hg, hl, h1, h2 => by
    have e : (dbl ([] : Str)).length = 0 := rfl
    rw [e, Nat.add_zero] at hl h1 h2 ⊢
    have n3 : ¬ (byt S p ≠ 39) := fun e => e h1
    rw [quoL, dif_pos hl, if_neg (by omega), if_neg (by rw [h1]; decide), if_neg n3, if_neg h2, List.append_nil]
  | b :: T, p, acc, ho, hg, hl, h1, h2 => by
    rw [dbl_cons] at ho hl h1 h2 ⊢
    rw [List.length_append] at hl h1 h2 ⊢
    obtain ⟨o1, o2⟩ := occ_app.1 ho
    obtain ⟨g1, g2, g3⟩ := hg b (by simp)
    by_cases hb : b = 39
    · subst hb
      rw [if_pos rfl] at o1 o2 hl h1 h2 ⊢
      have o3 := (occ_app (U := [39]) (V := [39])).1 o1
      obtain ⟨a1, a2⟩ := occ_one o3.1
      obtain ⟨b1, b2⟩ := occ_one o3.2
      have e39 : (39 : UInt8).toNat = 39 := rfl
      rw [e39] at a2 b2
      have el : ([39, 39] : Str).length = 2 := rfl
      rw [el] at o2 hl h1 h2 ⊢
      have ih := quo_read (f := f) T (p + 2) (acc ++ [39]) o2 (fun b hb => hg b (by simp [hb])) (by omega) (by rw [show p + 2 + (dbl T).length = p + (2 + (dbl T).length) by omega]; exact h1) (by rw [show p + 2 + (dbl T).length = p + (2 + (dbl T).length) by omega]; exact h2)
      conv => lhs; rw [quoL]
      have n3 : ¬ (byt S p ≠ 39) := fun e => e a2
      rw [dif_pos a1, if_neg (by omega), if_neg (by rw [a2]; decide), if_neg n3, if_pos (show byt S (p + 1) = 39 from b2), ih, List.append_assoc, show p + 2 + (dbl T).length = p + (2 + (dbl T).length) by omega]
      rfl
    · rw [if_neg hb] at o1 o2 hl h1 h2 ⊢
      obtain ⟨a1, a2⟩ := occ_one o1
      have el : ([b] : Str).length = 1 := rfl
      rw [el] at o2 hl h1 h2 ⊢
      have hb2 : b.toNat ≠ 39 := fun e => hb (UInt8.toNat_inj.1 e)
      have ih := quo_read (f := f) T (p + 1) (acc ++ [b]) o2 (fun b hb => hg b (by simp [hb])) (by omega) (by rw [show p + 1 + (dbl T).length = p + (1 + (dbl T).length) by omega]; exact h1) (by rw [show p + 1 + (dbl T).length = p + (1 + (dbl T).length) by omega]; exact h2)
      conv => lhs; rw [quoL]
      rw [dif_pos a1, if_neg (by omega), if_neg (by rw [a2, g1]; decide), if_pos (by omega), occ_getD o1, ih, List.append_assoc, show p + 1 + (dbl T).length = p + (1 + (dbl T).length) by omega]
      rfl
theorem dbl_bits : ∀ T : Str, (∀ b ∈ T, b.toNat = 48 ∨ b.toNat = 49) → dbl T = T
  | [], _ => rfl
  | b :: T, h => by
    have hb : b ≠ 39 := fun e => by
      have := h b (by simp)
      rw [e] at this
      exact absurd this (by decide)
    rw [dbl_cons, if_neg hb, dbl_bits T (fun b hb => h b (by simp [hb]))]
    rfl
theorem read_quote {S : Str} {p : Nat} (h : byt S p = 39) : readAt S p = readQuo S p := by
  unfold readAt
  rw [h, if_neg (by decide), if_neg (by decide), if_pos rfl]
/-- Characters in quotes are read. -/
theorem read_chars {S T : Str} {p : Nat} (ho : Occ S p ([39] ++ dbl T ++ [39])) (hl : T.length ≤ 250) (hg : ∀ b ∈ T, plP b.toNat = true ∧ b.toNat ≠ 10 ∧ b.toNat ≠ 9)
    (h39 : byt S (p + ([39] ++ dbl T ++ [39]).length) ≠ 39) (hB : upN (byt S (p + ([39] ++ dbl T ++ [39]).length)) ≠ 66) : readAt S p = .ok (some ⟨3, T, p⟩) (p + ([39] ++ dbl T ++ [39]).length) := by
  obtain ⟨o12, o3⟩ := occ_app.1 ho
  obtain ⟨o1, o2⟩ := occ_app.1 o12
  obtain ⟨a1, a2⟩ := occ_one o1
  obtain ⟨b1, b2⟩ := occ_one o3
  have el : ([39] ++ dbl T ++ [39] : Str).length = (dbl T).length + 2 := by simp
  have el1 : ([39] ++ dbl T : Str).length = (dbl T).length + 1 := by simp
  have el0 : ([39] : Str).length = 1 := rfl
  rw [el] at h39 hB ⊢
  rw [el1] at b1 b2
  rw [el0] at o2
  have hq : quoL S p (p + 1) [] = .fin T (p + 1 + (dbl T).length) := by
    have := quo_read (f := p) T (p + 1) [] o2 hg (by omega) (by rw [show p + 1 + (dbl T).length = p + ((dbl T).length + 1) by omega]; exact b2) (by rw [show p + 1 + (dbl T).length + 1 = p + ((dbl T).length + 2) by omega]; exact h39)
    rwa [List.nil_append] at this
  rw [read_quote a2]
  unfold readQuo
  rw [hq]
  dsimp only
  rw [show p + 1 + (dbl T).length + 1 = p + ((dbl T).length + 2) by omega, if_pos hB, if_neg (by omega)]
/-- Bits are read. -/
theorem read_bits {S T : Str} {p : Nat} (ho : Occ S p ([39] ++ T ++ [39, 66])) (hl : T.length ≤ 250) (hg : ∀ b ∈ T, b.toNat = 48 ∨ b.toNat = 49)
    (hgo : goP (byt S (p + ([39] ++ T ++ [39, 66]).length)) = false) : readAt S p = .ok (some ⟨4, T, p⟩) (p + ([39] ++ T ++ [39, 66]).length) := by
  obtain ⟨o12, o3⟩ := occ_app.1 ho
  obtain ⟨o1, o2⟩ := occ_app.1 o12
  have o4 := (occ_app (U := [39]) (V := [66])).1 o3
  obtain ⟨a1, a2⟩ := occ_one o1
  obtain ⟨b1, b2⟩ := occ_one o4.1
  obtain ⟨c1, c2⟩ := occ_one o4.2
  have hd := dbl_bits T hg
  have el : ([39] ++ T ++ [39, 66] : Str).length = T.length + 3 := by simp
  have el1 : ([39] ++ T : Str).length = T.length + 1 := by simp
  have el0 : ([39] : Str).length = 1 := rfl
  rw [el] at hgo ⊢
  rw [el1] at b1 b2 c1 c2
  rw [el0] at o2 c1 c2
  have hc66 : byt S (p + (T.length + 2)) = 66 := by rw [show p + (T.length + 2) = p + (T.length + 1) + 1 by omega]; exact c2
  have hq : quoL S p (p + 1) [] = .fin T (p + 1 + T.length) := by
    have := quo_read (f := p) T (p + 1) [] (by rw [hd]; exact o2) (fun b hb => by
      have := hg b hb
      refine ⟨?_, by omega, by omega⟩
      rcases this with e | e <;> rw [e] <;> rfl) (by rw [hd]; omega) (by rw [hd, show p + 1 + T.length = p + (T.length + 1) by omega]; exact b2) (by rw [hd, show p + 1 + T.length + 1 = p + (T.length + 2) by omega, hc66]; decide)
    rwa [List.nil_append, hd] at this
  rw [read_quote a2]
  unfold readQuo
  rw [hq]
  dsimp only
  have hn52 : ¬ byt S (p + (T.length + 3)) = 52 := fun e => by rw [e] at hgo; exact absurd hgo (by decide)
  have hall : (T.all fun b => b.toNat == 48 || b.toNat == 49) = true := by
    rw [List.all_eq_true]
    intro b hb
    simpa using hg b hb
  rw [show p + 1 + T.length + 1 = p + (T.length + 2) by omega, show p + 1 + T.length + 2 = p + (T.length + 3) by omega, hc66, if_neg (by decide), if_neg hn52, if_pos ⟨hall, by omega, hgo⟩]
/-- Whether two bytes begin with an operator. -/
def prefB (a b : Nat) : Str → Bool
  | [x] => x.toNat == a
  | [x, y] => x.toNat == a && y.toNat == b
  | _ => false
def fnd (a b : Nat) : Option Str := opers.find? (prefB a b)
theorem opers_two : ∀ o ∈ opers, (∃ x, o = [x] ∧ x.toNat ≠ 0) ∨ ∃ x y, o = [x, y] ∧ x.toNat ≠ 0 ∧ y.toNat ≠ 0 := by
  intro o ho
  simp only [opers, List.mem_cons, List.not_mem_nil, or_false] at ho
  rcases ho with rfl | rfl | rfl | rfl | rfl | rfl | rfl | rfl | rfl | rfl | rfl | rfl | rfl | rfl | rfl | rfl | rfl | rfl | rfl | rfl | rfl | rfl | rfl | rfl | rfl <;> first | exact .inl ⟨_, rfl, by decide⟩ | exact .inr ⟨_, _, rfl, by decide, by decide⟩
theorem find_cong {α : Type} {f g : α → Bool} : ∀ {l : List α}, (∀ x ∈ l, f x = g x) → l.find? f = l.find? g
  | [], _ => rfl
  | a :: l, h => by
    rw [List.find?_cons, List.find?_cons, h a (by simp), find_cong fun x hx => h x (by simp [hx])]
theorem find_fnd (S : Str) (p : Nat) : opers.find? (fun o => o.isPrefixOf (S.drop p)) = fnd (byt S p) (byt S (p + 1)) := by
  refine find_cong fun o ho => ?_
  rcases opers_two o ho with ⟨x, rfl, hx⟩ | ⟨x, y, rfl, hx, hy⟩
  · show ([x] : Str).isPrefixOf (S.drop p) = (x.toNat == byt S p)
    have hb : byt S p = ((S.drop p).getD 0 0).toNat := by
      unfold byt
      rw [List.getD_eq_getElem?_getD, List.getD_eq_getElem?_getD, List.getElem?_drop, Nat.add_zero]
    rw [hb]
    rcases S.drop p with _ | ⟨b, l⟩
    · show false = (x.toNat == 0)
      simp [hx]
    · show (x == b && true) = (x.toNat == b.toNat)
      rw [Bool.and_true, Bool.eq_iff_iff, beq_iff_eq, beq_iff_eq, UInt8.toNat_inj]
  · have h2 := pre2 S p x.toNat y.toNat (by omega) (by omega) x.toNat_lt y.toNat_lt
    simp only [UInt8.ofNat_toNat] at h2
    rw [h2]
    show _ = (x.toNat == byt S p && y.toNat == byt S (p + 1))
    rw [Bool.eq_iff_iff, decide_eq_true_eq, Bool.and_eq_true, beq_iff_eq, beq_iff_eq]
    constructor <;> rintro ⟨a, b⟩ <;> exact ⟨a.symm, b.symm⟩
/-- An operator is read, behind which stands c. -/
def stO (o : Str) (c : Nat) : Bool := match o with
  | [x] => fnd x.toNat c == some [x] && !(x == 46 && digP c) && !(x == 47 && c == 42)
  | [x, y] => fnd x.toNat y.toNat == some [x, y] && !(x == 46 && digP y.toNat) && !(x == 47 && y == 42)
  | _ => false
theorem oper_first : ∀ o ∈ opers, begP (byt o 0) = false ∧ digP (byt o 0) = false ∧ byt o 0 ≠ 39 ∧ byt o 0 ≠ 32 ∧ byt o 0 ≠ 10 ∧ byt o 0 ≠ 9 ∧ plP (byt o 0) = true := by
  have h : opers.all (fun o => !begP (byt o 0) && !digP (byt o 0) && byt o 0 != 39 && byt o 0 != 32 && byt o 0 != 10 && byt o 0 != 9 && plP (byt o 0)) = true := by decide
  intro o ho
  have := List.all_eq_true.1 h o ho
  simpa [and_assoc] using this
theorem read_oper {S o : Str} {p : Nat} (hm : o ∈ opers) (ho : Occ S p o) (hs : stO o (byt S (p + o.length)) = true) : readAt S p = .ok (some ⟨5, o, p⟩) (p + o.length) := by
  have hlen : 0 < o.length := by
    rcases opers_two o hm with ⟨x, rfl, _⟩ | ⟨x, y, rfl, _⟩ <;> simp
  have h0 : byt S p = byt o 0 := by have := ho.2 0 hlen; rwa [Nat.add_zero] at this
  obtain ⟨f1, f2, f3, f4, f5, f6, f7⟩ := oper_first o hm
  rw [← h0] at f1 f2 f3 f4 f5 f6 f7
  unfold readAt
  rw [f1, f2, f7, if_neg (by decide), if_neg (by decide), if_neg f3, if_neg (by omega), if_pos rfl]
  unfold readOp
  rw [find_fnd]
  rcases opers_two o hm with ⟨x, rfl, hx⟩ | ⟨x, y, rfl, hx, hy⟩
  · have e0 : byt S p = x.toNat := h0
    have e1 : ([x] : Str).length = 1 := rfl
    rw [e1] at hs ⊢
    unfold stO at hs
    simp only [Bool.and_eq_true, beq_iff_eq, Bool.not_eq_true', Bool.and_eq_false_iff, beq_eq_false_iff_ne, ne_eq] at hs
    obtain ⟨⟨k1, k2⟩, k3⟩ := hs
    have n1 : ¬ (byt S p = 46 ∧ digP (byt S (p + 1)) = true) := by
      rintro ⟨a, b⟩
      rcases k2 with k2 | k2
      · exact k2 (UInt8.toNat_inj.1 (e0.symm.trans a))
      · rw [b] at k2; cases k2
    have n2 : ¬ (byt S p = 47 ∧ byt S (p + 1) = 42) := by
      rintro ⟨a, b⟩
      rcases k3 with k3 | k3
      · exact k3 (UInt8.toNat_inj.1 (e0.symm.trans a))
      · exact k3 b
    rw [if_neg n1, if_neg n2, e0, k1] <;> rfl
  · have e0 : byt S p = x.toNat := h0
    have e1 : byt S (p + 1) = y.toNat := ho.2 1 (by show 1 < 2; omega)
    unfold stO at hs
    simp only [Bool.and_eq_true, beq_iff_eq, Bool.not_eq_true', Bool.and_eq_false_iff, beq_eq_false_iff_ne, ne_eq] at hs
    obtain ⟨⟨k1, k2⟩, k3⟩ := hs
    have n1 : ¬ (byt S p = 46 ∧ digP (byt S (p + 1)) = true) := by
      rintro ⟨a, b⟩
      rw [e1] at b
      rcases k2 with k2 | k2
      · exact k2 (UInt8.toNat_inj.1 (e0.symm.trans a))
      · rw [b] at k2; cases k2
    have n2 : ¬ (byt S p = 47 ∧ byt S (p + 1) = 42) := by
      rintro ⟨a, b⟩
      rcases k3 with k3 | k3
      · exact k3 (UInt8.toNat_inj.1 (e0.symm.trans a))
      · exact k3 (UInt8.toNat_inj.1 (e1.symm.trans b))
    rw [if_neg n1, if_neg n2, e0, e1, k1]
end Go.Iron.Tok

/- Tokens of a text: what has been read is good; what is good is read; in plain Lean. -/
namespace Go.Iron.Tok

/-- Behind a token stands c: it is read as it is. -/
def stT (t : Tk) (c : Nat) : Prop :=
  if t.kind = 1 then goP c = false
  else if t.kind = 2 then goP c = false ∧ c ≠ 46
  else if t.kind = 3 then c ≠ 39 ∧ upN c ≠ 66
  else if t.kind = 4 then goP c = false
  else stO t.text c = true
theorem name_len {T : Str} (hb : begP (byt T 0) = true) : 0 < T.length := byt_lt (p := 0) (fun e => by rw [e] at hb; exact absurd hb (by decide))
theorem num_first {T : Str} (h : digP (byt T 0) = true ∨ (byt T 0 = 46 ∧ digP (byt T 1) = true)) : 0 < T.length ∧ (¬ digP (byt T 0) = true → 1 < T.length) := by
  have hz : digP 0 = false := by decide
  rcases h with h | h
  · exact ⟨byt_lt (fun e => by rw [e, hz] at h; cases h), fun hn => absurd h hn⟩
  · have := byt_lt (s := T) (p := 1) (fun e => by rw [e, hz] at h; cases h.2)
    exact ⟨by omega, fun _ => this⟩
theorem num_read {S T X : Str} {p : Nat} (hu : upS T = T) (hf : digP (byt T 0) = true ∨ (byt T 0 = 46 ∧ digP (byt T 1) = true)) (ho : Occ S p T) (hl : Loc X 0 S p T.length) (hn : numE X 0 = (T.length, true)) : readAt S p = .ok (some ⟨2, T, p⟩) (p + T.length) := by
  obtain ⟨l0, l1⟩ := num_first hf
  have h0 : byt S p = byt T 0 := by have := ho.2 0 l0; rwa [Nat.add_zero] at this
  have hd : digP (byt S p) = true ∨ (byt S p = 46 ∧ digP (byt S (p + 1)) = true) := by
    by_cases h : digP (byt T 0) = true
    · exact .inl (by rw [h0]; exact h)
    · have h2 := hf.resolve_left h
      have h1 := ho.2 1 (l1 h)
      exact .inr ⟨by rw [h0]; exact h2.1, by rw [h1]; exact h2.2⟩
  have := read_num ho.1 hd (loc_num hl (by rw [Nat.zero_add]; exact hn)) hl.go
  rwa [occ_part ho, hu] at this
theorem good_read {t : Tk} (hg : Good t) {S : Str} {p : Nat} (ho : Occ S p (wrS t)) (hs : stT t (byt S (p + (wrS t).length))) : readAt S p = .ok (some ⟨t.kind, t.text, p⟩) (p + (wrS t).length) := by
  cases hg with
  | name T a hu hl hb hin =>
    have e : wrS ⟨1, T, a⟩ = T := rfl
    rw [e] at ho hs ⊢
    have l0 := name_len hb
    have h0 : byt S p = byt T 0 := by have := ho.2 0 l0; rwa [Nat.add_zero] at this
    have := read_name ho.1 hl l0 (by rw [h0]; exact hb) (fun j hj => by rw [ho.2 j hj]; exact hin j hj) hs
    rwa [occ_part ho, hu] at this
  | num T a hN =>
    have e : wrS ⟨2, T, a⟩ = T := rfl
    rw [e] at ho hs ⊢
    obtain ⟨hu, hn, hf⟩ := hN
    exact num_read hu hf ho ⟨Nat.le_of_eq (Nat.zero_add _), ho.1, fun j hj => .inl (by rw [Nat.zero_add]; exact ho.2 j hj), hs.1, fun e => absurd e hs.2⟩ hn
  | chars T a hl hg =>
    have e : wrS ⟨3, T, a⟩ = [39] ++ dbl T ++ [39] := rfl
    rw [e] at ho hs ⊢
    exact read_chars ho hl hg hs.1 hs.2
  | bits T a hl hg =>
    have e : wrS ⟨4, T, a⟩ = [39] ++ T ++ [39, 66] := rfl
    rw [e] at ho hs ⊢
    exact read_bits ho hl hg hs
  | oper T a hm =>
    have e : wrS ⟨5, T, a⟩ = T := rfl
    rw [e] at ho hs ⊢
    exact read_oper hm ho hs
/-- Bytes that end every token (the last one: every one but a number). -/
def stops : List Nat := [0, 32, 44, 59, 41, 58, 40]
theorem oper_stop : ∀ o ∈ opers, ∀ c ∈ 46 :: stops, stO o c = true := by
  have h : opers.all (fun o => (46 :: stops).all fun c => stO o c) = true := by decide
  exact fun o ho c hc => List.all_eq_true.1 (List.all_eq_true.1 h o ho) c hc
theorem good_stop {t : Tk} (hg : Good t) {c : Nat} (hc : c ∈ 46 :: stops) (h2 : t.kind = 2 → c ≠ 46) : stT t c := by
  have hgo : goP c = false := by
    have h : (46 :: stops).all (fun c => !goP c) = true := by decide
    simpa using List.all_eq_true.1 h c hc
  have h39 : c ≠ 39 ∧ upN c ≠ 66 := by
    have h : (46 :: stops).all (fun c => c != 39 && upN c != 66) = true := by decide
    simpa using List.all_eq_true.1 h c hc
  cases hg with
  | name T a _ _ _ _ => exact hgo
  | num T a _ => exact ⟨hgo, h2 rfl⟩
  | chars T a _ _ => exact h39
  | bits T a _ _ => exact hgo
  | oper T a hm => exact oper_stop T hm c hc
theorem good_len {t : Tk} (hg : Good t) : 0 < (wrS t).length := by
  cases hg with
  | name T a _ _ hb _ => exact name_len hb
  | num T a hN => exact (num_first hN.2.2).1
  | chars T a _ _ => show 0 < ([39] ++ dbl T ++ [39] : Str).length; simp
  | bits T a _ _ => show 0 < ([39] ++ T ++ [39, 66] : Str).length; simp
  | oper T a hm => rcases opers_two T hm with ⟨x, rfl, _⟩ | ⟨x, y, rfl, _⟩ <;> exact Nat.zero_lt_succ _
theorem occ_self (W : Str) : Occ W 0 W := ⟨by omega, fun j _ => by rw [Nat.zero_add]⟩
theorem scan_one {t : Tk} (hg : Good t) (hl : (wrS t).length ≤ 20000) : scanF (wrS t) = ([⟨t.kind, t.text, 0⟩], 0, 0) := by
  have hr := good_read hg (occ_self (wrS t)) (by rw [Nat.zero_add, byt_end (Nat.le_refl _)]; exact good_stop hg (by decide) (fun _ => by decide))
  rw [Nat.zero_add] at hr
  have : scanF (wrS t) = scanP (wrS t) 0 [] := by rw [scanF, if_neg (by omega)]; rfl
  rw [this, scanP_some (good_len hg) hr, scanP_end]
  rfl
/-- What is written is read as it is. -/
theorem good_valid {t : Tk} (hg : Good t) (hl : (wrS t).length ≤ 20000) : validT t = true := by
  unfold validT readAs
  rw [scan_one hg hl]
  simp [sameL, sameT]
/-! ### What is read is good. -/
theorem up_go (c : Nat) : goP (upN c) = goP c := by
  have h : Cap c (upN c) := .inr rfl
  exact cap_go h
theorem up_beg (c : Nat) : begP (upN c) = begP c := cap_beg (.inr rfl)
theorem readName_good {s : Str} {p q : Nat} {t : Tk} (hp : p < s.length) (hb : begP (byt s p) = true) (h : readName s p = .ok (some t) q) : Good t ∧ t.at_ = p := by
  have hq := readName_prog hp hb h
  unfold readName at h
  dsimp only at h
  split at h
  · cases h
  · rename_i hn
    injection h with h1 h2
    injection h1 with h1
    subst h1
    have hsp := spanN_le s goP p
    have hin := spanN_in s goP p
    have hl : (upS (part s p (spanN s goP p))).length = spanN s goP p - p := by
      unfold upS
      rw [List.length_map, part_len (by omega)]
    refine ⟨.name _ _ (up_twice _) (by omega) ?_ ?_, rfl⟩
    · rw [byt_up, byt_part (by omega), Nat.add_zero, up_beg, hb]
    · intro j hj
      rw [byt_up, byt_part (by omega), up_go]
      exact hin (p + j) (by omega) (by omega)
theorem readNum_good {s : Str} {p q : Nat} {t : Tk} (hp : p < s.length) (hf : digP (byt s p) = true ∨ (byt s p = 46 ∧ digP (byt s (p + 1)) = true)) (h : readNum s p = .ok (some t) q) : Good t ∧ t.at_ = p := by
  unfold readNum at h
  split at h
  · rename_i hok
    injection h with h1 h2
    injection h1 with h1
    subst h1
    have hle := numE_le (s := s) (p := p) (by omega)
    have hDl := numD_le (s := s) (p := p) (by omega)
    have hgt : p < numD s p := by
      rcases hf with hf | hf
      · exact numD_dig hp hf
      · exact numD_dot hf.1
    generalize he : (numE s p).1 = e at hok hle ⊢
    have hl : (part s p e).length = e - p := part_len hle.2
    have hlu : (upS (part s p e)).length = e - p := by unfold upS; rw [List.length_map, hl]
    have hby : ∀ j, j < e - p → byt (upS (part s p e)) j = upN (byt s (p + j)) := fun j hj => by rw [byt_up, byt_part (by omega)]
    have hL : Loc s p (upS (part s p e)) 0 (e - p) := ⟨by omega, by omega, fun j hj => .inr (by rw [Nat.zero_add, hby j hj]), by rw [Nat.zero_add, byt_end (by omega)]; decide, fun e' => by rw [Nat.zero_add, byt_end (by omega)] at e'; cases e'⟩
    have hnum := loc_num hL (by rw [show p + (e - p) = e by omega]; exact Prod.ext he hok.1)
    rw [Nat.zero_add] at hnum
    have dg : ∀ c, digP (upN c) = digP c := fun c => cap_dig (.inr rfl)
    refine ⟨.num _ _ ⟨up_twice _, by rw [hlu]; exact hnum, ?_⟩, rfl⟩
    rcases hf with hf | hf
    · exact .inl (by rw [hby 0 (by omega), Nat.add_zero, dg]; exact hf)
    · refine .inr ⟨by rw [hby 0 (by omega), Nat.add_zero, hf.1]; rfl, ?_⟩
      have h1 : p + 1 < e := by
        have hD : numD s p = if byt s (spanN s digP p) = 46 then spanN s digP (spanN s digP p + 1) else spanN s digP p := rfl
        have hz : spanN s digP p = p := spanN_end (by rw [hf.1]; simp [digP])
        rw [hz, if_pos hf.1] at hD
        have h2 := byt_lt (s := s) (p := p + 1) (fun e => by rw [e] at hf; exact absurd hf.2 (by decide))
        rw [spanN_go h2 hf.2] at hD
        have := spanN_le s digP (p + 1 + 1)
        omega
      rw [hby 1 (by omega), dg]
      exact hf.2
  · cases h
theorem quoL_good {s : Str} {f : Nat} : ∀ {p : Nat} {acc l : Str} {k : Nat}, quoL s f p acc = .fin l k → (∀ b ∈ acc, plP b.toNat = true ∧ b.toNat ≠ 10 ∧ b.toNat ≠ 9) → ∀ b ∈ l, plP b.toNat = true ∧ b.toNat ≠ 10 ∧ b.toNat ≠ 9
  | p, acc, l, k, h, ha => by
    unfold quoL at h
    split at h
    · split at h
      · cases h
      · rename_i h1
        split at h
        · cases h
        · rename_i h2
          split at h
          · refine quoL_good h fun b hb => ?_
            rcases List.mem_append.1 hb with hb | hb
            · exact ha b hb
            · have : b = s.getD p 0 := by simpa using hb
              subst this
              have h2' : plP (byt s p) = true := by simpa using h2
              unfold byt at h1 h2'
              exact ⟨h2', by omega, by omega⟩
          · split at h
            · refine quoL_good h fun b hb => ?_
              rcases List.mem_append.1 hb with hb | hb
              · exact ha b hb
              · have : b = 39 := by simpa using hb
                subst this
                exact ⟨by decide, by decide, by decide⟩
            · injection h with h3 h4
              rw [← h3]
              exact ha
    · cases h
termination_by p => s.length - p
decreasing_by all_goals omega
theorem hexL_good : ∀ {l r : Str}, hexL l = some r → ∀ b ∈ r, b.toNat = 48 ∨ b.toNat = 49
  | [], r, h => by
    rw [hexL] at h
    injection h with h
    subst h
    intro b hb
    cases hb
  | c :: l, r, h => by
    rw [hexL] at h
    split at h
    · rename_i n r' hn hr
      injection h with h
      subst h
      intro b hb
      rcases List.mem_append.1 hb with hb | hb
      · have key : ∀ m : Nat, (UInt8.ofNat (48 + m % 2)).toNat = 48 ∨ (UInt8.ofNat (48 + m % 2)).toNat = 49 := fun m => by
          have h2 : m % 2 = 0 ∨ m % 2 = 1 := by omega
          rcases h2 with e | e <;> rw [e] <;> decide
        unfold bit4 at hb
        simp only [List.mem_cons, List.not_mem_nil, or_false] at hb
        rcases hb with rfl | rfl | rfl | rfl <;> exact key _
      · exact hexL_good hr b hb
    · cases h
theorem readQuo_good {s : Str} {p q : Nat} {t : Tk} (h : readQuo s p = .ok (some t) q) : Good t ∧ t.at_ = p := by
  unfold readQuo at h
  split at h
  · cases h
  · rename_i l k hk
    have hg := quoL_good hk (fun b hb => by cases hb)
    split at h
    · split at h
      · cases h
      · rename_i hl
        injection h with h1 h2
        injection h1 with h1
        subst h1
        exact ⟨.chars _ _ (by omega) hg, rfl⟩
    · split at h
      · split at h
        · rename_i b hb
          split at h
          · cases h
          · rename_i hl
            injection h with h1 h2
            injection h1 with h1
            subst h1
            exact ⟨.bits _ _ (by omega) (hexL_good hb), rfl⟩
        · cases h
      · split at h
        · rename_i hc
          injection h with h1 h2
          injection h1 with h1
          subst h1
          refine ⟨.bits _ _ (by omega) fun b hb => ?_, rfl⟩
          have := List.all_eq_true.1 hc.1 b hb
          simpa using this
        · cases h
theorem readOp_good {s : Str} {p q : Nat} {t : Tk} (hp : p < s.length) (h : readOp s p = .ok (some t) q) : Good t ∧ t.at_ = p := by
  unfold readOp at h
  split at h
  · rename_i hc
    exact readNum_good hp (.inr hc) h
  · split at h
    · have := com_none h
      cases this
    · split at h
      · rename_i o ho
        injection h with h1 h2
        injection h1 with h1
        subst h1
        exact ⟨.oper _ _ (List.mem_of_find?_eq_some ho), rfl⟩
      · cases h
theorem readAt_good {s : Str} {p q : Nat} {t : Tk} (hp : p < s.length) (h : readAt s p = .ok (some t) q) : Good t ∧ t.at_ = p := by
  unfold readAt at h
  split at h
  · exact readName_good hp (by assumption) h
  · split at h
    · exact readNum_good hp (.inl (by assumption)) h
    · split at h
      · exact readQuo_good h
      · split at h
        · cases h
        · split at h
          · exact readOp_good hp h
          · cases h
/-- The tokens of a text are good, and their places ascend. -/
theorem scanL_good {s : Str} : ∀ (n p : Nat) (acc : List Tk), p ≤ s.length → (∀ t ∈ acc, Good t ∧ t.at_ < p) → (∀ i, i + 1 < acc.length → (acc.getD i tk0).at_ < (acc.getD (i + 1) tk0).at_) →
    (∀ t ∈ (scanL s n p acc).1, Good t) ∧ ∀ i, i + 1 < (scanL s n p acc).1.length → ((scanL s n p acc).1.getD i tk0).at_ < ((scanL s n p acc).1.getD (i + 1) tk0).at_
  | 0, p, acc, hp, ha, hs => by rw [scanL]; exact ⟨fun t ht => (ha t ht).1, hs⟩
  | n + 1, p, acc, hp, ha, hs => by
    rw [scanL]
    split
    · rename_i hlt
      cases hr : readAt s p with
      | bad q => exact ⟨fun t ht => (by cases ht), fun i hi => by simp at hi⟩
      | ok t q =>
        obtain ⟨a, b⟩ := readAt_prog hlt hr
        cases t with
        | none => exact scanL_good n q acc b (fun t ht => ⟨(ha t ht).1, by have := (ha t ht).2; omega⟩) hs
        | some t =>
          obtain ⟨g, hat⟩ := readAt_good hlt hr
          refine scanL_good n q (acc ++ [t]) b (fun t' ht' => ?_) (fun i hi => ?_)
          · rcases List.mem_append.1 ht' with h | h
            · exact ⟨(ha t' h).1, by have := (ha t' h).2; omega⟩
            · have : t' = t := by simpa using h
              subst this
              exact ⟨g, by omega⟩
          · rw [List.length_append, List.length_singleton] at hi
            have e1 : (acc ++ [t]).getD i tk0 = acc.getD i tk0 := by
              rw [List.getD_eq_getElem?_getD, List.getD_eq_getElem?_getD, List.getElem?_append_left (by omega)]
            rw [e1]
            by_cases h : i + 1 < acc.length
            · have e2 : (acc ++ [t]).getD (i + 1) tk0 = acc.getD (i + 1) tk0 := by
                rw [List.getD_eq_getElem?_getD, List.getD_eq_getElem?_getD, List.getElem?_append_left (by omega)]
              rw [e2]
              exact hs i h
            · have e2 : (acc ++ [t]).getD (i + 1) tk0 = t := by
                rw [List.getD_eq_getElem?_getD, show i + 1 = acc.length by omega, List.getElem?_append_right (Nat.le_refl _), Nat.sub_self]
                rfl
              rw [e2, hat]
              have hi2 : i < acc.length := by omega
              have e3 : acc.getD i tk0 = acc[i] := by rw [List.getD_eq_getElem?_getD, List.getElem?_eq_getElem hi2]; rfl
              rw [e3]
              exact (ha _ (List.getElem_mem hi2)).2
    · exact ⟨fun t ht => (ha t ht).1, hs⟩
theorem scanF_good (s : Str) : (∀ t ∈ (scanF s).1, Good t) ∧ ∀ i, i + 1 < (scanF s).1.length → ((scanF s).1.getD i tk0).at_ < ((scanF s).1.getD (i + 1) tk0).at_ := by
  unfold scanF
  split
  · exact ⟨fun t ht => (by cases ht), fun i hi => by simp at hi⟩
  · exact scanL_good _ _ _ (Nat.zero_le _) (fun t ht => by cases ht) (fun i hi => by simp at hi)
end Go.Iron.Tok

/- Tokens of a text: what is shown is read as it is (P9.2), in plain Lean. -/
namespace Go.Iron.Tok

theorem replaceK_dbl : ∀ (s : Str) (k : Nat), s.count 39 ≤ k → Lib.replaceK [39] [39, 39] k s = dbl s
  | [], 0, _ => rfl
  | [], k + 1, _ => rfl
  | b :: l, k, h => by
    rw [dbl_cons]
    by_cases hb : b = 39
    · subst hb
      rw [if_pos rfl, List.count_cons_self] at *
      obtain ⟨k, rfl⟩ : ∃ k', k = k' + 1 := ⟨k - 1, by omega⟩
      have hi : Lib.index (39 :: l) [39] = ((0 : Nat) : Int) := rfl
      rw [Lib.replaceK_hit _ _ _ _ 0 hi]
      show [] ++ [39, 39] ++ Lib.replaceK [39] [39, 39] k l = _
      rw [replaceK_dbl l k (by omega)]
      rfl
    · rw [if_neg hb]
      rw [List.count_cons_of_ne hb] at h
      have hpf : ([39] : Str).isPrefixOf (b :: l) = false := by
        show ((39 : UInt8) == b && true) = false
        rw [Bool.and_true]
        exact beq_eq_false_iff_ne.2 (fun e => hb e.symm)
      have hix : Lib.index (b :: l) [39] = if Lib.index l [39] == -1 then -1 else Lib.index l [39] + 1 := by
        show (if ([39] : Str).isPrefixOf (b :: l) = true then (0 : Int) else _) = _
        rw [hpf]
        rfl
      have ih := replaceK_dbl l k h
      cases k with
      | zero =>
        rw [← ih]
        rfl
      | succ k =>
        rw [← ih, Lib.replaceK, Lib.replaceK, hix]
        by_cases hm : (Lib.index l [39] == -1) = true
        · rw [if_pos hm, if_pos hm]
          rfl
        · have hge := Lib.index_ge l [39]
          have hm2 : Lib.index l [39] ≠ -1 := fun e => hm (beq_iff_eq.2 e)
          rw [if_neg hm, if_neg hm]
          obtain ⟨i, hi⟩ : ∃ i : Nat, Lib.index l [39] = i := ⟨(Lib.index l [39]).toNat, by omega⟩
          rw [hi, if_neg (by simp; omega), Int.toNat_natCast, show ((i : Int) + 1).toNat = i + 1 by omega]
          show (b :: l.take i) ++ [39, 39] ++ Lib.replaceK [39] [39, 39] k ((b :: l).drop (i + 1 + 1)) = [b] ++ (l.take i ++ [39, 39] ++ Lib.replaceK [39] [39, 39] k (l.drop (i + 1)))
          rw [List.drop_succ_cons]
          simp
theorem replace_dbl (s : Str) : Lib.replaceAll s [39] [39, 39] = dbl s := by
  show (if (([39] : Str) == [39, 39]) = true then s else Lib.replaceK [39] [39, 39] (Lib.replaceNum s [39] (-1)) s) = _
  rw [if_neg (by decide)]
  refine replaceK_dbl s _ ?_
  unfold Lib.replaceNum
  rw [if_pos (.inl (by decide)), Lib.count_one]
  exact Nat.le_refl _
theorem dbl_le (s : Str) : (dbl s).length ≤ 2 * s.length := by
  induction s with
  | nil => exact Nat.zero_le _
  | cons b l ih =>
    rw [dbl_cons, List.length_append, List.length_cons]
    split
    · show 2 + _ ≤ _
      omega
    · show 1 + _ ≤ _
      omega
end Go.Iron.Tok

/- The token seat: tokens compared; awake. -/
namespace Go.Iron.Tryz
open Go.Proofs Go.RowKit Go.Iron.Tok

theorem bs_beq (a b : Str) : ((bs a).toList == (bs b).toList) = decide (a = b) := by
  rw [bs_toList, bs_toList, Bool.eq_iff_iff]
  simp
def awakeS : Str := [105,102,32,105,102,61,116,104,101,110,32,116,104,101,110,32,116,104,101,110,61,101,108,115,101,59]
def awakeL : List Tk := [⟨1, [73, 70], 0⟩, ⟨1, [73, 70], 3⟩, ⟨5, [61], 5⟩, ⟨1, [84, 72, 69, 78], 6⟩, ⟨1, [84, 72, 69, 78], 11⟩, ⟨1, [84, 72, 69, 78], 16⟩, ⟨5, [61], 20⟩, ⟨1, [69, 76, 83, 69], 21⟩, ⟨5, [59], 25⟩]
theorem awake_scan : scanF awakeS = (awakeL, 0, 0) := by decide +kernel
theorem k_awake : CallT Tryz.prog 5 [] [] (fun o A => o = .ret (bv true) ∧ A = []) := by
  have hc := k_scan awakeS (by decide)
  rw [awake_scan] at hc
  refine callS_body (n := 41) rfl rfl fun w ρ X => ?_
  refine runS_x (I := inf) (J := jnf) ⟨false, false, [], 0, 0⟩ 9999 rfl (by repeat (first | exact obs_nil | refine obs_draw (by kernel_rfl) ?_ | refine obs_same ?_ | refine obs_and ?_ | refine obs_by (by (simp [inB] <;> omega)) ?_)) ?_
  refine runS_call rfl rfl rfl rfl rfl rfl rfl hc ?_
  refine runS_x (I := inf) (J := jnf) ⟨false, false, [], 0, 0⟩ 9999 rfl (by repeat (first | exact obs_nil | refine obs_draw (by kernel_rfl) ?_ | refine obs_same ?_ | refine obs_and ?_ | refine obs_by (by (simp [inB] <;> omega)) ?_)) ?_
  refine runS_ret (I := inf) 0 rfl (Nat.le_refl _) rfl .nil rfl ⟨?_, rfl⟩
  refine congrArg (fun x => Out.ret (bv x)) (?_ : _ = true)
  rw [show (ByteArray.mk #[61]) = bs [61] from rfl, show (ByteArray.mk #[59]) = bs [59] from rfl, show (ByteArray.mk #[73, 70]) = bs [73, 70] from rfl, bs_beq, bs_beq, bs_beq]
  decide
end Go.Iron.Tryz

/- The token seat: the reference's small functions. -/
namespace Go.Iron.Tryz
open Go.Proofs Go.RowKit Go.Iron.Tok

def letP (c : Nat) : Bool := (decide (65 ≤ c) && decide (c ≤ 90)) || (decide (97 ≤ c) && decide (c ≤ 122))
def mrkP (c : Nat) : Bool := c == 36 || c == 35 || c == 64
theorem beg_let (c : Nat) : begP c = (letP c || mrkP c) := by
  unfold begP letP mrkP upN
  rw [Bool.eq_iff_iff]
  split <;> simp <;> omega
theorem r_space (c : Nat) : CallT Tryz.prog 81 [uv c] [] (fun o A => o = .ret (bv (spP c)) ∧ A = []) := by
  refine callS_body (n := 13) rfl rfl fun w ρ X => ?_
  refine runS_x (I := inf) (J := jnf) ⟨false, false, [], 0, 0⟩ 9999 rfl (by repeat (first | exact obs_nil | refine obs_draw (by kernel_rfl) ?_ | refine obs_same ?_ | refine obs_and ?_ | refine obs_by (by (simp [inB] <;> omega)) ?_)) ?_
  refine runS_ret (I := inf) 0 rfl (Nat.le_refl _) rfl .nil rfl ⟨?_, rfl⟩
  refine congrArg (fun x => Out.ret (bv x)) ?_
  unfold spP
  rw [Bool.eq_iff_iff]
  simp
  omega
theorem r_source (c : Nat) : CallT Tryz.prog 83 [uv c] [] (fun o A => o = .ret (bv (plP c)) ∧ A = []) := by
  refine callS_body (n := 17) rfl rfl fun w ρ X => ?_
  refine runS_x (I := inf) (J := jnf) ⟨false, false, [], 0, 0⟩ 9999 rfl (by repeat (first | exact obs_nil | refine obs_draw (by kernel_rfl) ?_ | refine obs_same ?_ | refine obs_and ?_ | refine obs_by (by (simp [inB] <;> omega)) ?_)) ?_
  refine runS_ret (I := inf) 0 rfl (Nat.le_refl _) rfl .nil rfl ⟨?_, rfl⟩
  refine congrArg (fun x => Out.ret (bv x)) ?_
  unfold plP
  rw [Bool.eq_iff_iff]
  simp
  omega
theorem r_letter (c : Nat) : CallT Tryz.prog 84 [uv c] [] (fun o A => o = .ret (bv (letP c)) ∧ A = []) := by
  refine callS_body (n := 17) rfl rfl fun w ρ X => ?_
  refine runS_x (I := inf) (J := jnf) ⟨false, false, [], 0, 0⟩ 9999 rfl (by repeat (first | exact obs_nil | refine obs_draw (by kernel_rfl) ?_ | refine obs_same ?_ | refine obs_and ?_ | refine obs_by (by (simp [inB] <;> omega)) ?_)) ?_
  refine runS_ret (I := inf) 0 rfl (Nat.le_refl _) rfl .nil rfl ⟨?_, rfl⟩
  refine congrArg (fun x => Out.ret (bv x)) ?_
  unfold letP
  rw [Bool.eq_iff_iff]
  simp
  omega
theorem r_mark (c : Nat) : CallT Tryz.prog 85 [uv c] [] (fun o A => o = .ret (bv (mrkP c)) ∧ A = []) := by
  refine callS_body (n := 13) rfl rfl fun w ρ X => ?_
  refine runS_x (I := inf) (J := jnf) ⟨false, false, [], 0, 0⟩ 9999 rfl (by repeat (first | exact obs_nil | refine obs_draw (by kernel_rfl) ?_ | refine obs_same ?_ | refine obs_and ?_ | refine obs_by (by (simp [inB] <;> omega)) ?_)) ?_
  refine runS_ret (I := inf) 0 rfl (Nat.le_refl _) rfl .nil rfl ⟨?_, rfl⟩
  refine congrArg (fun x => Out.ret (bv x)) ?_
  unfold mrkP
  rw [Bool.eq_iff_iff]
  simp
  omega
theorem r_digit (c : Nat) : CallT Tryz.prog 13 [uv c] [] (fun o A => o = .ret (bv (digP c)) ∧ A = []) := by
  refine callS_body (n := 9) rfl rfl fun w ρ X => ?_
  refine runS_x (I := inf) (J := jnf) ⟨false, false, [], 0, 0⟩ 9999 rfl (by repeat (first | exact obs_nil | refine obs_draw (by kernel_rfl) ?_ | refine obs_same ?_ | refine obs_and ?_ | refine obs_by (by (simp [inB] <;> omega)) ?_)) ?_
  refine runS_ret (I := inf) 0 rfl (Nat.le_refl _) rfl .nil rfl ⟨?_, rfl⟩
  refine congrArg (fun x => Out.ret (bv x)) ?_
  unfold digP
  rw [Bool.eq_iff_iff]
  simp
  omega
theorem r_within (c : Nat) : CallT Tryz.prog 86 [uv c] [] (fun o A => o = .ret (bv (goP c)) ∧ A = []) := by
  refine callS_body (n := 17) rfl rfl fun w ρ X => ?_
  refine runS_x (I := inf) (J := jnf) ⟨false, false, [], 0, 0⟩ 9999 rfl (by repeat (first | exact obs_nil | refine obs_draw (by kernel_rfl) ?_ | refine obs_same ?_ | refine obs_and ?_ | refine obs_by (by (simp [inB] <;> omega)) ?_)) ?_
  refine runS_call rfl rfl rfl rfl rfl rfl rfl (r_letter c) ?_
  refine runS_x (I := inf) (J := jnf) ⟨false, false, [], 0, 0⟩ 9999 rfl (by repeat (first | exact obs_nil | refine obs_draw (by kernel_rfl) ?_ | refine obs_same ?_ | refine obs_and ?_ | refine obs_by (by (simp [inB] <;> omega)) ?_)) ?_
  refine runS_callU rfl rfl (by first | exact .v rfl rfl rfl rfl | exact .o rfl rfl rfl rfl) rfl rfl (by repeat (first | exact .nil | refine .cons (.n rfl) ?_ | refine .cons .o ?_ | refine .cons gok_and ?_)) rfl rfl rfl rfl rfl (fun _ => (r_digit c)) ?_
  refine runS_x (I := inf) (J := jnf) ⟨false, false, [], 0, 0⟩ 9999 rfl (by repeat (first | exact obs_nil | refine obs_draw (by kernel_rfl) ?_ | refine obs_same ?_ | refine obs_and ?_ | refine obs_by (by (simp [inB] <;> omega)) ?_)) ?_
  refine runS_callU rfl rfl (by first | exact .v rfl rfl rfl rfl | exact .o rfl rfl rfl rfl) rfl rfl (by repeat (first | exact .nil | refine .cons (.n rfl) ?_ | refine .cons .o ?_ | refine .cons gok_and ?_)) rfl rfl rfl rfl rfl (fun _ => (r_mark c)) ?_
  refine runS_x (I := inf) (J := jnf) ⟨false, false, [], 0, 0⟩ 9999 rfl (by repeat (first | exact obs_nil | refine obs_draw (by kernel_rfl) ?_ | refine obs_same ?_ | refine obs_and ?_ | refine obs_by (by (simp [inB] <;> omega)) ?_)) ?_
  refine runS_ret (I := inf) 0 rfl (Nat.le_refl _) rfl .nil rfl ⟨?_, rfl⟩
  refine congrArg (fun x => Out.ret (bv x)) ?_
  unfold goP
  rw [beg_let]
  generalize letP c = x
  generalize digP c = y
  generalize mrkP c = z
  rw [Bool.eq_iff_iff]
  cases x <;> cases y <;> cases z <;> simp <;> omega
theorem r_hex (c : Nat) (hc : c ≤ 255) : CallT Tryz.prog 116 [uv c] [] (fun o A => o = .ret (iv (match hexN c with | some n => (n : Int) | none => -1)) ∧ A = []) := by
  refine callS_body (n := 31) rfl rfl fun w ρ X => ?_
  refine runS_x (I := inf) (J := jnf) ⟨false, false, [], 0, 0⟩ 9999 rfl (by repeat (first | exact obs_nil | refine obs_draw (by kernel_rfl) ?_ | refine obs_same ?_ | refine obs_and ?_ | refine obs_by (by (simp [inB] <;> omega)) ?_)) ?_
  refine runS_call rfl rfl rfl rfl rfl rfl rfl (r_digit c) ?_
  refine runS_x (I := inf) (J := jnf) ⟨false, false, [], 0, 0⟩ 9999 rfl (by repeat (first | exact obs_nil | refine obs_draw (by kernel_rfl) ?_ | refine obs_same ?_ | refine obs_and ?_ | refine obs_by (by (simp [inB] <;> omega)) ?_)) ?_
  refine runS_cond rfl (fun h => ?_) (fun h => ?_)
  · have h1 : 48 ≤ c ∧ c ≤ 57 := by have : digP c = true := h; simpa [digP] using this
    refine runS_x (I := inf) (J := jnf) ⟨false, false, [], 0, 0⟩ 9999 rfl (by repeat (first | exact obs_nil | refine obs_draw (by kernel_rfl) ?_ | refine obs_same ?_ | refine obs_and ?_ | refine obs_by (by (simp [inB] <;> omega)) ?_)) ?_
    refine runS_ret (I := inf) 0 rfl (Nat.le_refl _) rfl .nil rfl ⟨?_, rfl⟩
    rw [hexN, if_pos h1]
    have e : IntKind.wrap .i64 (IntKind.wrap .u8 ((c : Int) - 48)) = ((c - 48 : Nat) : Int) := by
      rw [IntWalk.u8_in _ (by omega), w64 (by omega) (by omega)]; omega
    exact congrArg (fun x => Out.ret (iv x)) e
  · have h1 : ¬ (48 ≤ c ∧ c ≤ 57) := by have : digP c = false := h; simp [digP] at this; omega
    refine runS_x (I := inf) (J := jnf) ⟨false, false, [], 0, 0⟩ 9999 rfl (by repeat (first | exact obs_nil | refine obs_draw (by kernel_rfl) ?_ | refine obs_same ?_ | refine obs_and ?_ | refine obs_by (by (simp [inB] <;> omega)) ?_)) ?_
    refine runS_cond rfl (fun h2 => ?_) (fun h2 => ?_)
    · have h3 : 65 ≤ c ∧ c ≤ 70 := by simp at h2; omega
      have hu : upN c = c := by unfold upN; rw [if_neg (by omega)]
      refine runS_x (I := inf) (J := jnf) ⟨false, false, [], 0, 0⟩ 9999 rfl (by repeat (first | exact obs_nil | refine obs_draw (by kernel_rfl) ?_ | refine obs_same ?_ | refine obs_and ?_ | refine obs_by (by (simp [inB] <;> omega)) ?_)) ?_
      refine runS_ret (I := inf) 0 rfl (Nat.le_refl _) rfl .nil rfl ⟨?_, rfl⟩
      rw [hexN, if_neg h1, hu, if_pos h3]
      have e : IntKind.wrap .i64 (IntKind.wrap .i64 (IntKind.wrap .u8 ((c : Int) - 65)) + 10) = ((c - 55 : Nat) : Int) := by
        rw [IntWalk.u8_in _ (by omega), w64 (x := (c : Int) - 65) (by omega) (by omega), w64 (by omega) (by omega)]; omega
      exact congrArg (fun x => Out.ret (iv x)) e
    · have h3 : ¬ (65 ≤ c ∧ c ≤ 70) := by simp at h2; omega
      refine runS_x (I := inf) (J := jnf) ⟨false, false, [], 0, 0⟩ 9999 rfl (by repeat (first | exact obs_nil | refine obs_draw (by kernel_rfl) ?_ | refine obs_same ?_ | refine obs_and ?_ | refine obs_by (by (simp [inB] <;> omega)) ?_)) ?_
      refine runS_cond rfl (fun h4 => ?_) (fun h4 => ?_)
      · have h5 : 97 ≤ c ∧ c ≤ 102 := by simp at h4; omega
        have hu : upN c = c - 32 := by unfold upN; rw [if_pos (by omega)]
        refine runS_x (I := inf) (J := jnf) ⟨false, false, [], 0, 0⟩ 9999 rfl (by repeat (first | exact obs_nil | refine obs_draw (by kernel_rfl) ?_ | refine obs_same ?_ | refine obs_and ?_ | refine obs_by (by (simp [inB] <;> omega)) ?_)) ?_
        refine runS_ret (I := inf) 0 rfl (Nat.le_refl _) rfl .nil rfl ⟨?_, rfl⟩
        rw [hexN, if_neg h1, hu, if_pos (by omega)]
        have e : IntKind.wrap .i64 (IntKind.wrap .i64 (IntKind.wrap .u8 ((c : Int) - 97)) + 10) = ((c - 32 - 55 : Nat) : Int) := by
          rw [IntWalk.u8_in _ (by omega), w64 (x := (c : Int) - 97) (by omega) (by omega), w64 (by omega) (by omega)]; omega
        exact congrArg (fun x => Out.ret (iv x)) e
      · have h5 : ¬ (97 ≤ c ∧ c ≤ 102) := by simp at h4; omega
        refine runS_x (I := inf) (J := jnf) ⟨false, false, [], 0, 0⟩ 9999 rfl (by repeat (first | exact obs_nil | refine obs_draw (by kernel_rfl) ?_ | refine obs_same ?_ | refine obs_and ?_ | refine obs_by (by (simp [inB] <;> omega)) ?_)) ?_
        refine runS_ret (I := inf) 0 rfl (Nat.le_refl _) rfl .nil rfl ⟨?_, rfl⟩
        rw [hexN, if_neg h1, if_neg (by unfold upN; split <;> omega)]
        rfl
theorem pre_part (s w : Str) (p : Nat) (hp : p ≤ s.length) : (decide (p + w.length ≤ s.length) && decide (part2 (p : Int) ((p + w.length : Nat) : Int) s = w)) = w.isPrefixOf (s.drop p) := by
  rw [Bool.eq_iff_iff, Bool.and_eq_true, decide_eq_true_eq, decide_eq_true_eq, List.isPrefixOf_iff_prefix]
  have e : part2 (p : Int) ((p + w.length : Nat) : Int) s = (s.drop p).take w.length := by
    show (s.take (p + w.length)).drop p = _
    rw [List.drop_take]
    congr 1
    omega
  rw [e]
  constructor
  · rintro ⟨h1, h2⟩
    exact List.prefix_iff_eq_take.2 h2.symm
  · intro h
    refine ⟨?_, (List.prefix_iff_eq_take.1 h).symm⟩
    have := h.length_le
    rw [List.length_drop] at this
    omega
theorem r_begins (s x0 : Str) (p : Nat) (hp : p ≤ s.length) (hs : s.length ≤ 30000) (hw : x0.length ≤ 100) : CallT Tryz.prog 82 [sv s, iv p, sv x0] [] (fun o A => o = .ret (bv (x0.isPrefixOf (s.drop p))) ∧ A = []) := by
  have hw1 : IntKind.wrap .i64 ((p : Int) + (x0.length : Int)) = ((p + x0.length : Nat) : Int) := by rw [w64 (by omega) (by omega)]; rfl
  refine callS_body (n := 25) rfl rfl fun w ρ X => ?_
  refine runS_x (I := inf) (J := jnf) ⟨false, false, [], 0, 0⟩ 9999 rfl (by repeat (first | exact obs_nil | refine obs_draw (by kernel_rfl) ?_ | refine obs_same ?_ | refine obs_and ?_ | refine obs_by (by (simp [inB, blS, hw1] <;> omega)) ?_)) ?_
  refine runS_ret (I := inf) 0 rfl (Nat.le_refl _) rfl .nil rfl ⟨?_, rfl⟩
  refine congrArg (fun x => Out.ret (bv x)) ?_
  rw [← pre_part s x0 p hp]
  show (if decide (IntKind.wrap .i64 ((p : Int) + (x0.length : Int)) ≤ (s.length : Int)) = true then ((bs (part2 (p : Int) (IntKind.wrap .i64 ((p : Int) + (x0.length : Int))) s)).toList == (bs x0).toList) else false) = _
  rw [hw1, bs_beq]
  by_cases h : p + x0.length ≤ s.length
  · have h2 : ((p + x0.length : Nat) : Int) ≤ (s.length : Int) := by omega
    simp only [h, h2, decide_true, if_true, Bool.true_and]
  · have h2 : ¬ ((p + x0.length : Nat) : Int) ≤ (s.length : Int) := by omega
    simp only [h, h2, decide_false, Bool.false_and]
    rfl
theorem upS_len (s : Str) : (upS s).length = s.length := by unfold upS; rw [List.length_map]
theorem textR_eq {m : Nat} {r : Nat → Int} {b : Str} (hm : m = b.length) (hr : ∀ j, j < m → r j = ((byt b j : Nat) : Int)) : textR m r = bs b := by
  unfold textR
  congr 2
  apply List.ext_getElem?
  intro j
  rw [List.getElem?_map]
  by_cases hj : j < m
  · rw [List.getElem?_range hj, List.getElem?_eq_getElem (by omega : j < b.length)]
    show some (UInt8.ofNat (r j).toNat) = _
    rw [hr j hj, Int.toNat_natCast]
    have e1 : byt b j = (b[j]'(by omega)).toNat := by unfold byt; rw [List.getD_eq_getElem?_getD, List.getElem?_eq_getElem (by omega : j < b.length)]; rfl
    rw [e1]
    simp
  · rw [List.getElem?_eq_none (by simp; omega), List.getElem?_eq_none (by omega)]
    rfl
/-- The first i bytes in great letters. -/
def upTo (s : Str) (i : Nat) : Str := upS (s.take i) ++ s.drop i
theorem upTo_byt (s : Str) (i j : Nat) : byt (upTo s i) j = if j < i then upN (byt s j) else byt s j := by
  unfold upTo byt
  rw [List.getD_eq_getElem?_getD, List.getD_eq_getElem?_getD, List.getElem?_append, upS_len, List.length_take, List.getElem?_drop]
  unfold upS
  rw [List.getElem?_map, List.getElem?_take]
  by_cases h : j < i
  · by_cases hl : j < s.length
    · rw [if_pos (by omega), if_pos h, if_pos h, List.getElem?_eq_getElem hl]
      show (upB s[j]).toNat = _
      have h1 := s[j].toNat_lt
      have h2 : upN s[j].toNat ≤ 255 := by unfold upN; split <;> omega
      unfold upB
      rw [UInt8.toNat_ofNat', Nat.mod_eq_of_lt (by omega)]
      rfl
    · rw [if_neg (by omega), if_pos h, List.getElem?_eq_none (by omega), List.getElem?_eq_none (by omega)]
      rfl
  · by_cases hl : j < s.length
    · rw [if_neg (by omega), if_neg h, show i + (j - min i s.length) = j by omega]
    · rw [if_neg (by omega), if_neg h, List.getElem?_eq_none (by omega), List.getElem?_eq_none (by omega)]
theorem r_great (s : Str) (hs : s.length ≤ 30000) : CallT Tryz.prog 87 [sv s] [] (fun o A => o = .ret (sv (upS s)) ∧ A = []) := by
  have hml : (bl' (bs s)).length ≤ maxLen := by
    have e : (bl' (bs s)).length = s.length := rfl
    have e2 : maxLen = 9223372036854775807 := rfl
    omega
  refine callS_body (n := 33) rfl rfl fun w ρ X => ?_
  refine runS_x (I := inf) (J := jnf) ⟨false, false, [], 0, 0⟩ 9999 rfl (by repeat (first | exact obs_nil | refine obs_draw (by kernel_rfl) ?_ | refine obs_same ?_ | refine obs_and ?_ | refine obs_by (by (simp [inB, hml] <;> omega)) ?_)) ?_
  refine runS_while (fun (x : Nat × (Nat → Int)) τ ar => (τ 3 = .row 0 0 ∧ τ 4 = iv x.1) ∧ ar = [.byt s.length x.2] ∧ x.1 ≤ s.length ∧ ∀ j, j < s.length → x.2 j = ((byt (upTo s x.1) j : Nat) : Int)) (fun x => s.length - x.1) (0, bytR (bs s)) ⟨⟨rfl, rfl⟩, rfl, Nat.zero_le _, fun j hj => by rw [upTo_byt, if_neg (by omega)]; rfl⟩ ?_
  rintro ⟨i, r⟩ τ' ar' ⟨⟨g3, g4⟩, rfl, hi, hr⟩ ih
  dsimp only at hi hr ih
  refine runS_says 3 (by exact g3) (Says.refl _) ?_; refine runS_says 4 (by exact g4) (Says.refl _) ?_
  refine runS_x (I := inf) (J := jnf) ⟨false, false, [], 0, 0⟩ 9999 rfl (by repeat (first | exact obs_nil | refine obs_draw (by kernel_rfl) ?_ | refine obs_same ?_ | refine obs_and ?_ | refine obs_by (by (simp [inB] <;> omega)) ?_)) ?_
  refine runS_cond rfl (fun h1 => ?_) (fun h1 => ?_)
  · have hil : i < s.length := by
      have : decide ((i : Int) < (s.length : Int)) = true := h1
      simp at this
      omega
    have hri := hr i hil
    rw [upTo_byt, if_neg (Nat.lt_irrefl i)] at hri
    have hw1 : IntKind.wrap .i64 ((i : Int) + 1) = ((i + 1 : Nat) : Int) := by rw [w64 (by omega) (by omega)]; rfl
    refine runS_x (I := inf) (J := jnf) ⟨false, false, [], 0, 0⟩ 9999 rfl (by repeat (first | exact obs_nil | refine obs_draw (by kernel_rfl) ?_ | refine obs_same ?_ | refine obs_and ?_ | refine obs_by (by (simp [inB, hil] <;> omega)) ?_)) ?_
    have hcd : (if decide (r ((i : Int)).toNat ≥ 97) = true then decide (r ((i : Int)).toNat ≤ 122) else false) = decide (97 ≤ byt s i ∧ byt s i ≤ 122) := by
      rw [Int.toNat_natCast, hri, Bool.eq_iff_iff]
      simp
      omega
    refine runS_cond rfl (fun h2 => ?_) (fun h2 => ?_)
    · have hc := of_decide_eq_true (hcd.symm.trans h2)
      refine runS_x (I := inf) (J := jnf) ⟨false, false, [], 0, 0⟩ 9999 rfl (by repeat (first | exact obs_nil | refine obs_draw (by kernel_rfl) ?_ | refine obs_same ?_ | refine obs_and ?_ | refine obs_by (by (simp [inB, hil] <;> omega)) ?_)) ?_
      refine ih (i + 1, setB r i (IntKind.wrap .u8 (r i - 32))) _ _ (by dsimp only; omega) ⟨⟨rfl, congrArg iv hw1⟩, rfl, hil, fun j hj => ?_⟩
      dsimp only
      rw [setB_eq, upTo_byt]
      by_cases hji : j = i
      · subst hji
        rw [if_pos rfl, if_pos (by omega), hri, IntWalk.u8_in _ (by omega), upN, if_pos hc]
        omega
      · rw [if_neg hji, hr j hj, upTo_byt]
        by_cases hlt : j < i
        · rw [if_pos hlt, if_pos (by omega)]
        · rw [if_neg hlt, if_neg (by omega)]
    · have hc := of_decide_eq_false (hcd.symm.trans h2)
      refine runS_x (I := inf) (J := jnf) ⟨false, false, [], 0, 0⟩ 9999 rfl (by repeat (first | exact obs_nil | refine obs_draw (by kernel_rfl) ?_ | refine obs_same ?_ | refine obs_and ?_ | refine obs_by (by (simp [inB] <;> omega)) ?_)) ?_
      refine ih (i + 1, r) _ _ (by dsimp only; omega) ⟨⟨rfl, congrArg iv hw1⟩, rfl, hil, fun j hj => ?_⟩
      dsimp only
      rw [hr j hj, upTo_byt, upTo_byt]
      by_cases hlt : j < i
      · rw [if_pos hlt, if_pos (by omega)]
      · by_cases hji : j = i
        · subst hji
          rw [if_neg (by omega), if_pos (by omega), upN, if_neg hc]
        · rw [if_neg hlt, if_neg (by omega)]
  · have hie : i = s.length := by
      have : decide ((i : Int) < (s.length : Int)) = false := h1
      simp at this
      omega
    subst hie
    have hfull : upTo s s.length = upS s := by unfold upTo; rw [List.take_length, List.drop_length, List.append_nil]
    have ht : textR s.length r = bs (upS s) := textR_eq (by rw [upS_len]) fun j hj => by rw [← hfull]; exact hr j hj
    refine runS_x (I := inf) (J := jnf) ⟨false, false, [], 0, 0⟩ 9999 rfl (by repeat (first | exact obs_nil | refine obs_draw (by kernel_rfl) ?_ | refine obs_same ?_ | refine obs_and ?_ | refine obs_by (by (simp [inB] <;> omega)) ?_)) ?_
    refine runS_ret (I := inf) 0 rfl (Nat.le_refl _) rfl .nil rfl ⟨?_, rfl⟩
    exact congrArg (fun x => Out.ret (.val (.string x))) ht
end Go.Iron.Tryz

/- The token seat: the reference's number. -/
namespace Go.Iron.Tryz
open Go.Proofs Go.RowKit Go.Iron.Tok

def rNum (s : Str) (p : Nat) : Nat × Bool :=
  if upN (byt s (numD s p)) = 66 then (numD s p + 1, bits01 (Tok.part s p (numD s p)))
  else if upN (byt s (numD s p)) = 69 then (signE s (numD s p + 1) + min 2 (spanN s digP (signE s (numD s p + 1)) - signE s (numD s p + 1)), decide (0 < min 2 (spanN s digP (signE s (numD s p + 1)) - signE s (numD s p + 1))))
  else (numD s p, true)
/-- Both numbers are the same where they are numbers. -/
theorem rNum_eq (s : Str) (p : Nat) : ((rNum s p).2 = true ∧ goP (byt s (rNum s p).1) = false) ↔ ((numE s p).2 = true ∧ goP (byt s (numE s p).1) = false) := by
  have hE : numE s p = if upN (byt s (numD s p)) = 69 then (spanN s digP (signE s (numD s p + 1)), decide (1 ≤ spanN s digP (signE s (numD s p + 1)) - signE s (numD s p + 1)) && decide (spanN s digP (signE s (numD s p + 1)) - signE s (numD s p + 1) ≤ 2)) else if upN (byt s (numD s p)) = 66 then (numD s p + 1, bits01 (Tok.part s p (numD s p))) else (numD s p, true) := rfl
  unfold rNum
  rw [hE]
  by_cases h66 : upN (byt s (numD s p)) = 66
  · rw [if_pos h66, if_neg (by omega), if_pos h66]
  rw [if_neg h66]
  by_cases h69 : upN (byt s (numD s p)) = 69
  · rw [if_pos h69, if_pos h69]
    generalize signE s (numD s p + 1) = k
    have h1 := spanN_le s digP k
    have h2 := spanN_in s digP k
    generalize spanN s digP k = r at h1 h2 ⊢
    dsimp only
    by_cases hr : r - k ≤ 2
    · rw [Nat.min_eq_right hr, show k + (r - k) = r by omega]
      simp
      omega
    · have hd := dig_go (h2 (k + 2) (by omega) (by omega))
      rw [Nat.min_eq_left (by omega), hd]
      simp
      omega
  · rw [if_neg h69, if_neg h69, if_neg h66]
theorem rNum_end {s : Str} {p : Nat} (h : (rNum s p).2 = true ∧ goP (byt s (rNum s p).1) = false) : (rNum s p).1 = (numE s p).1 := by
  have hE : numE s p = if upN (byt s (numD s p)) = 69 then (spanN s digP (signE s (numD s p + 1)), decide (1 ≤ spanN s digP (signE s (numD s p + 1)) - signE s (numD s p + 1)) && decide (spanN s digP (signE s (numD s p + 1)) - signE s (numD s p + 1) ≤ 2)) else if upN (byt s (numD s p)) = 66 then (numD s p + 1, bits01 (Tok.part s p (numD s p))) else (numD s p, true) := rfl
  unfold rNum at h ⊢
  rw [hE]
  by_cases h66 : upN (byt s (numD s p)) = 66
  · rw [if_pos h66, if_neg (by omega), if_pos h66]
  rw [if_neg h66] at h ⊢
  by_cases h69 : upN (byt s (numD s p)) = 69
  · rw [if_pos h69] at h ⊢
    rw [if_pos h69]
    generalize signE s (numD s p + 1) = k at h ⊢
    have h1 := spanN_le s digP k
    have h2 := spanN_in s digP k
    generalize spanN s digP k = r at h1 h2 h ⊢
    dsimp only at h ⊢
    by_cases hr : r - k ≤ 2
    · rw [Nat.min_eq_right hr]
      omega
    · have hd := dig_go (h2 (k + 2) (by omega) (by omega))
      rw [Nat.min_eq_left (by omega), hd] at h
      cases h.2
  · rw [if_neg h69, if_neg h69, if_neg h66]
theorem part_snoc {s : Str} {p k : Nat} (hp : p ≤ k) (hk : k < s.length) : Tok.part s p (k + 1) = Tok.part s p k ++ [s.getD k 0] := by
  unfold Tok.part
  rw [List.take_succ_eq_append_getElem hk, List.drop_append_of_le_length (by rw [List.length_take]; omega), List.getD_eq_getElem?_getD, List.getElem?_eq_getElem hk]
  rfl
theorem bits_snoc {s : Str} {p k : Nat} (hp : p ≤ k) (hk : k < s.length) : bits01 (Tok.part s p (k + 1)) = (bits01 (Tok.part s p k) && (byt s k == 48 || byt s k == 49 || byt s k == 46)) := by
  rw [part_snoc hp hk]
  unfold bits01
  rw [List.all_append]
  simp [byt]
theorem span_min {s : Str} {k n : Nat} (h1 : ∀ j, j < n → k + j < s.length ∧ digP (byt s (k + j)) = true) (h2 : n ≤ 2) (h3 : n = 2 ∨ ¬ (k + n < s.length ∧ digP (byt s (k + n)) = true)) : n = min 2 (spanN s digP k - k) := by
  have hst := spanN_stop s digP k
  have hle := spanN_le s digP k
  have hge : k + n ≤ spanN s digP k := by
    rcases Nat.lt_or_ge (spanN s digP k) (k + n) with h | h
    · have := h1 (spanN s digP k - k) (by omega)
      rw [show k + (spanN s digP k - k) = spanN s digP k by omega] at this
      exact absurd this hst
    · exact h
  rcases h3 with h3 | h3
  · omega
  · have := spanN_eq (s := s) (f := digP) (p := k) (q := k + n) (by omega) (fun j a b => by have := h1 (j - k) (by omega); rwa [show k + (j - k) = j by omega] at this) h3
    omega
theorem part_nil (s : Str) (p : Nat) : Tok.part s p p = [] := by
  unfold Tok.part
  rw [List.drop_eq_nil_iff]
  rw [List.length_take]
  omega
theorem r_number (s : Str) (p : Nat) (hs : s.length ≤ 29000) (hp : p ≤ s.length) : CallT Tryz.prog 88 [sv s, iv p] [] (fun o A => o = .ret (.tup [iv (rNum s p).1, bv (rNum s p).2]) ∧ A = []) := by
  refine callS_body (n := 120) rfl rfl fun w ρ X => ?_
  refine runS_x (I := inf) (J := jnf) ⟨false, false, [], 0, 0⟩ 9999 rfl (by repeat (first | exact obs_nil | refine obs_draw (by kernel_rfl) ?_ | refine obs_same ?_ | refine obs_and ?_ | refine obs_by (by (simp [inB] <;> omega)) ?_)) ?_
  refine runS_while (fun (x : Nat × Bool) τ ar => (τ 0 = sv s ∧ τ 1 = iv p ∧ τ 6 = iv x.1 ∧ τ 7 = bv x.2 ∧ τ 8 = bv (bits01 (Tok.part s p x.1))) ∧ ar = [] ∧ x.1 ≤ s.length ∧ p ≤ x.1 ∧ numD s p = if x.2 = true then spanN s digP x.1 else numD s x.1) (fun x => s.length - x.1) (p, false) ⟨⟨rfl, rfl, rfl, rfl, by dsimp only; rw [part_nil]; rfl⟩, rfl, hp, Nat.le_refl _, rfl⟩ ?_
  rintro ⟨k, pt⟩ τ' ar' ⟨⟨g0, g1, g6, g7, g8⟩, rfl, hk, hpk, hD⟩ ih
  dsimp only at hk hpk hD ih
  refine runS_says 0 (by exact g0) (Says.refl _) ?_; refine runS_says 1 (by exact g1) (Says.refl _) ?_; refine runS_says 6 (by exact g6) (Says.refl _) ?_; refine runS_says 7 (by exact g7) (Says.refl _) ?_; refine runS_says 8 (by exact g8) (Says.refl _) ?_
  refine runS_x (I := inf) (J := jnf) ⟨false, false, [], 0, 0⟩ 9999 rfl (by repeat (first | exact obs_nil | refine obs_draw (by kernel_rfl) ?_ | refine obs_same ?_ | refine obs_and ?_ | refine obs_by (by (simp [inB, blS] <;> omega)) ?_)) ?_
  refine runS_callU rfl rfl (by first | exact .v rfl rfl rfl rfl | exact .o rfl rfl rfl rfl) rfl rfl (by repeat (first | exact .nil | refine .cons (.n rfl) ?_ | refine .cons .o ?_ | refine .cons gok_and ?_)) rfl rfl rfl rfl rfl (fun _ => (r_digit (byt s k))) ?_
  refine runS_x (I := inf) (J := jnf) ⟨false, false, [], 0, 0⟩ 9999 rfl (by repeat (first | exact obs_nil | refine obs_draw (by kernel_rfl) ?_ | refine obs_same ?_ | refine obs_and ?_ | refine obs_by (by (simp [inB, blS] <;> omega)) ?_)) ?_
  have hcd : (if decide ((k : Int) < (s.length : Int)) = true then (if digP (byt s k) = true then true else (if (((byt s k : Nat) : Int) == 46) = true then !pt else false)) else false) = decide (k < s.length ∧ (digP (byt s k) = true ∨ (byt s k = 46 ∧ pt = false))) := by
    rw [Bool.eq_iff_iff]
    by_cases h : k < s.length <;> cases hd : digP (byt s k) <;> by_cases h46 : byt s k = 46 <;> cases pt <;> simp [h, h46] <;> omega
  refine runS_cond rfl (fun h => ?_) (fun h => ?_)
  · obtain ⟨hkl, hc⟩ := of_decide_eq_true (hcd.symm.trans h)
    have hw1 : IntKind.wrap .i64 ((k : Int) + 1) = ((k + 1 : Nat) : Int) := by rw [w64 (by omega) (by omega)]; rfl
    have hbs := bits_snoc hpk hkl
    refine runS_x (I := inf) (J := jnf) ⟨false, false, [], 0, 0⟩ 9999 rfl (by repeat (first | exact obs_nil | refine obs_draw (by kernel_rfl) ?_ | refine obs_same ?_ | refine obs_and ?_ | refine obs_by (by (simp [inB, blS, hkl] <;> omega)) ?_)) ?_
    refine runS_cond rfl (fun h1 => ?_) (fun h1 => ?_)
    · have h46 : byt s k = 46 := by
        have : (((byt s k : Nat) : Int) == 46) = true := h1
        simp at this
        omega
      have hpt : pt = false := by
        rcases hc with hc | hc
        · rw [h46] at hc; exact absurd hc (by decide)
        · exact hc.2
      subst hpt
      refine runS_x (I := inf) (J := jnf) ⟨false, false, [], 0, 0⟩ 9999 rfl (by repeat (first | exact obs_nil | refine obs_draw (by kernel_rfl) ?_ | refine obs_same ?_ | refine obs_and ?_ | refine obs_by (by (simp [inB] <;> omega)) ?_)) ?_
      refine ih (k + 1, true) _ _ (by dsimp only; omega) ⟨⟨rfl, rfl, congrArg iv hw1, rfl, ?_⟩, rfl, hkl, by dsimp only; omega, ?_⟩
      · show bv (bits01 (Tok.part s p k)) = bv (bits01 (Tok.part s p (k + 1)))
        rw [hbs, h46]
        simp
      · rw [hD, if_neg (by decide)]
        dsimp only
        rw [if_pos rfl]
        unfold numD
        rw [spanN_end (by rw [h46]; simp [digP])]
        rw [if_pos h46]
    · have h46 : byt s k ≠ 46 := by
        have : (((byt s k : Nat) : Int) == 46) = false := h1
        simp at this
        omega
      have hdg : digP (byt s k) = true := by
        rcases hc with hc | hc
        · exact hc
        · exact absurd hc.1 h46
      have hdr : 48 ≤ byt s k ∧ byt s k ≤ 57 := by simpa [digP] using hdg
      have hDn : numD s p = if pt = true then spanN s digP (k + 1) else numD s (k + 1) := by
        rw [hD]
        cases pt
        · rw [if_neg (by decide), if_neg (by decide)]
          unfold numD
          rw [spanN_go hkl hdg]
        · rw [if_pos rfl, if_pos rfl, spanN_go hkl hdg]
      refine runS_x (I := inf) (J := jnf) ⟨false, false, [], 0, 0⟩ 9999 rfl (by repeat (first | exact obs_nil | refine obs_draw (by kernel_rfl) ?_ | refine obs_same ?_ | refine obs_and ?_ | refine obs_by (by (simp [inB, blS, hkl] <;> omega)) ?_)) ?_
      refine runS_cond rfl (fun h2 => ?_) (fun h2 => ?_)
      · have h49 : byt s k > 49 := by
          have : decide (((byt s k : Nat) : Int) > 49) = true := h2
          simp at this
          omega
        refine runS_x (I := inf) (J := jnf) ⟨false, false, [], 0, 0⟩ 9999 rfl (by repeat (first | exact obs_nil | refine obs_draw (by kernel_rfl) ?_ | refine obs_same ?_ | refine obs_and ?_ | refine obs_by (by (simp [inB] <;> omega)) ?_)) ?_
        refine ih (k + 1, pt) _ _ (by dsimp only; omega) ⟨⟨rfl, rfl, congrArg iv hw1, rfl, ?_⟩, rfl, hkl, by dsimp only; omega, hDn⟩
        show bv false = bv (bits01 (Tok.part s p (k + 1)))
        rw [hbs]
        have : (byt s k == 48 || byt s k == 49 || byt s k == 46) = false := by simp; omega
        rw [this, Bool.and_false]
      · have h49 : byt s k ≤ 49 := by
          have : decide (((byt s k : Nat) : Int) > 49) = false := h2
          simp at this
          omega
        refine runS_x (I := inf) (J := jnf) ⟨false, false, [], 0, 0⟩ 9999 rfl (by repeat (first | exact obs_nil | refine obs_draw (by kernel_rfl) ?_ | refine obs_same ?_ | refine obs_and ?_ | refine obs_by (by (simp [inB] <;> omega)) ?_)) ?_
        refine ih (k + 1, pt) _ _ (by dsimp only; omega) ⟨⟨rfl, rfl, congrArg iv hw1, rfl, ?_⟩, rfl, hkl, by dsimp only; omega, hDn⟩
        show bv (bits01 (Tok.part s p k)) = bv (bits01 (Tok.part s p (k + 1)))
        rw [hbs]
        have : (byt s k == 48 || byt s k == 49 || byt s k == 46) = true := by simp; omega
        rw [this, Bool.and_true]
  · have hno := of_decide_eq_false (hcd.symm.trans h)
    have hDk : numD s p = k := by
      rw [hD]
      have hnd : ¬ (k < s.length ∧ digP (byt s k) = true) := fun e => hno ⟨e.1, .inl e.2⟩
      cases pt
      · rw [if_neg (by decide)]
        unfold numD
        rw [spanN_end hnd]
        refine if_neg fun e => hno ⟨byt_lt (by omega), .inr ⟨e, rfl⟩⟩
      · rw [if_pos rfl, spanN_end hnd]
    clear ih hD hcd
    have hup : ∀ v : Nat, 65 ≤ v → v ≤ 90 → (if decide ((k : Int) < (s.length : Int)) = true then (if (((byt s k : Nat) : Int) == (v : Int)) = true then true else (((byt s k : Nat) : Int) == ((v + 32 : Nat) : Int))) else false) = decide (upN (byt s k) = v) := by
      intro v hv1 hv2
      by_cases h : k < s.length
      · rw [Bool.eq_iff_iff]
        simp [h]
        unfold upN
        split <;> omega
      · have h0 : byt s k = 0 := byt_end (by omega)
        rw [h0, Bool.eq_iff_iff]
        have : upN 0 = 0 := rfl
        rw [this]
        simp
        omega
    unfold rNum
    rw [hDk]
    refine runS_x (I := inf) (J := jnf) ⟨false, false, [], 0, 0⟩ 9999 rfl (by repeat (first | exact obs_nil | refine obs_draw (by kernel_rfl) ?_ | refine obs_same ?_ | refine obs_and ?_ | refine obs_by (by (simp [inB, blS] <;> omega)) ?_)) ?_
    refine runS_cond rfl (fun h1 => ?_) (fun h1 => ?_)
    · have h66 := of_decide_eq_true ((hup 66 (by decide) (by decide)).symm.trans h1)
      have hkl := byt_lt (s := s) (p := k) (upN_ne (by omega))
      have hw1 : IntKind.wrap .i64 ((k : Int) + 1) = ((k + 1 : Nat) : Int) := by rw [w64 (by omega) (by omega)]; rfl
      refine runS_x (I := inf) (J := jnf) ⟨false, false, [], 0, 0⟩ 9999 rfl (by repeat (first | exact obs_nil | refine obs_draw (by kernel_rfl) ?_ | refine obs_same ?_ | refine obs_and ?_ | refine obs_by (by (simp [inB] <;> omega)) ?_)) ?_
      refine runS_ret (I := inf) 0 rfl (Nat.le_refl _) rfl .nil rfl ⟨?_, rfl⟩
      rw [if_pos h66]
      exact congrArg (fun x => Out.ret (.tup [iv x, bv (bits01 (Tok.part s p k))])) hw1
    · have h66 := of_decide_eq_false ((hup 66 (by decide) (by decide)).symm.trans h1)
      rw [if_neg h66]
      refine runS_x (I := inf) (J := jnf) ⟨false, false, [], 0, 0⟩ 9999 rfl (by repeat (first | exact obs_nil | refine obs_draw (by kernel_rfl) ?_ | refine obs_same ?_ | refine obs_and ?_ | refine obs_by (by (simp [inB, blS] <;> omega)) ?_)) ?_
      refine runS_cond rfl (fun h2 => ?_) (fun h2 => ?_)
      · have h69 := of_decide_eq_true ((hup 69 (by decide) (by decide)).symm.trans h2)
        rw [if_pos h69]
        have hkl := byt_lt (s := s) (p := k) (upN_ne (by omega))
        have hw1 : IntKind.wrap .i64 ((k : Int) + 1) = ((k + 1 : Nat) : Int) := by rw [w64 (by omega) (by omega)]; rfl
        refine runS_x (I := inf) (J := jnf) ⟨false, false, [], 0, 0⟩ 9999 rfl (by repeat (first | exact obs_nil | refine obs_draw (by kernel_rfl) ?_ | refine obs_same ?_ | refine obs_and ?_ | refine obs_by (by (simp [inB, blS, hw1] <;> omega)) ?_)) ?_
        have hsl := signE_le (s := s) (k := k + 1) (by omega)
        have hsE : signE s (k + 1) = if byt s (k + 1) = 43 ∨ byt s (k + 1) = 45 then k + 1 + 1 else k + 1 := rfl
        refine runS_cut (fun τ ar => (τ 0 = sv s ∧ τ 6 = iv (signE s (k + 1))) ∧ ar = []) (fun rest => ?_) ?_
        · have hcd2 : (if decide (IntKind.wrap .i64 ((k : Int) + 1) < (s.length : Int)) = true then (if (((s.getD (IntKind.wrap .i64 ((k : Int) + 1)).toNat 0).toNat : Int) == 43) = true then true else (((s.getD (IntKind.wrap .i64 ((k : Int) + 1)).toNat 0).toNat : Int) == 45)) else false) = decide (byt s (k + 1) = 43 ∨ byt s (k + 1) = 45) := by
            rw [hw1, Int.toNat_natCast]
            show (if decide (((k + 1 : Nat) : Int) < (s.length : Int)) = true then (if (((byt s (k + 1) : Nat) : Int) == 43) = true then true else (((byt s (k + 1) : Nat) : Int) == 45)) else false) = _
            by_cases h : k + 1 < s.length
            · have h' : ((k + 1 : Nat) : Int) < (s.length : Int) := by omega
              rw [decide_eq_true h', Bool.eq_iff_iff]
              simp
              omega
            · have h' : ¬ ((k + 1 : Nat) : Int) < (s.length : Int) := by omega
              have h0 : byt s (k + 1) = 0 := byt_end (by omega)
              rw [decide_eq_false h', h0]
              rfl
          refine runS_cond rfl (fun h3 => ?_) (fun h3 => ?_)
          · have hc3 := of_decide_eq_true (hcd2.symm.trans h3)
            have hw3 : IntKind.wrap .i64 (IntKind.wrap .i64 ((k : Int) + 1) + 1) = ((k + 1 + 1 : Nat) : Int) := by rw [hw1, w64 (by omega) (by omega)]; rfl
            refine runS_x (I := inf) (J := jnf) ⟨false, false, [], 4, 0⟩ 9999 rfl (by repeat (first | exact obs_nil | refine obs_draw (by kernel_rfl) ?_ | refine obs_same ?_ | refine obs_and ?_ | refine obs_by (by (simp [inB] <;> omega)) ?_)) ?_
            exact rest _ _ ⟨⟨rfl, by rw [hsE, if_pos hc3]; exact congrArg iv hw3⟩, rfl⟩
          · have hc3 := of_decide_eq_false (hcd2.symm.trans h3)
            refine runS_x (I := inf) (J := jnf) ⟨false, false, [], 4, 0⟩ 9999 rfl (by repeat (first | exact obs_nil | refine obs_draw (by kernel_rfl) ?_ | refine obs_same ?_ | refine obs_and ?_ | refine obs_by (by (simp [inB] <;> omega)) ?_)) ?_
            exact rest _ _ ⟨⟨rfl, by rw [hsE, if_neg hc3]; exact congrArg iv hw1⟩, rfl⟩
        rintro τ2 ar2 ⟨⟨g0, g6⟩, rfl⟩
        refine runS_says 0 (by exact g0) (Says.refl _) ?_; refine runS_says 6 (by exact g6) (Says.refl _) ?_
        generalize signE s (k + 1) = kk at hsl ⊢
        refine runS_x (I := inf) (J := jnf) ⟨false, false, [], 0, 0⟩ 9999 rfl (by repeat (first | exact obs_nil | refine obs_draw (by kernel_rfl) ?_ | refine obs_same ?_ | refine obs_and ?_ | refine obs_by (by (simp [inB] <;> omega)) ?_)) ?_
        refine runS_while (fun (n : Nat) τ ar => (τ 0 = sv s ∧ τ 6 = iv ((kk + n : Nat) : Int) ∧ τ 9 = iv n) ∧ ar = [] ∧ n ≤ 2 ∧ ∀ j, j < n → kk + j < s.length ∧ digP (byt s (kk + j)) = true) (fun n => 2 - n) 0 ⟨⟨rfl, rfl, rfl⟩, rfl, by omega, fun j hj => by omega⟩ ?_
        rintro n τ4 ar4 ⟨⟨g0, g6, g9⟩, rfl, hn2, hn⟩ ih
        have hqq : ∃ m, kk + n = m := ⟨_, rfl⟩
        obtain ⟨m, hm⟩ := hqq
        rw [hm] at g6
        refine runS_says 0 (by exact g0) (Says.refl _) ?_; refine runS_says 6 (by exact g6) (Says.refl _) ?_; refine runS_says 9 (by exact g9) (Says.refl _) ?_
        refine runS_x (I := inf) (J := jnf) ⟨false, false, [], 0, 0⟩ 9999 rfl (by repeat (first | exact obs_nil | refine obs_draw (by kernel_rfl) ?_ | refine obs_same ?_ | refine obs_and ?_ | refine obs_by (by (simp [inB, blS] <;> omega)) ?_)) ?_
        refine runS_callU rfl rfl (by first | exact .v rfl rfl rfl rfl | exact .o rfl rfl rfl rfl) rfl rfl (by repeat (first | exact .nil | refine .cons (.n rfl) ?_ | refine .cons .o ?_ | refine .cons gok_and ?_)) rfl rfl rfl rfl rfl (fun _ => (r_digit (byt s m))) ?_
        refine runS_x (I := inf) (J := jnf) ⟨false, false, [], 0, 0⟩ 9999 rfl (by repeat (first | exact obs_nil | refine obs_draw (by kernel_rfl) ?_ | refine obs_same ?_ | refine obs_and ?_ | refine obs_by (by (simp [inB] <;> omega)) ?_)) ?_
        have hcd4 : (if (if decide (((m : Nat) : Int) < (s.length : Int)) = true then digP (byt s m) else false) = true then decide ((n : Int) < 2) else false) = decide ((kk + n < s.length ∧ digP (byt s (kk + n)) = true) ∧ n < 2) := by
          rw [hm, Bool.eq_iff_iff]
          by_cases h : m < s.length <;> cases hd : digP (byt s m) <;> simp [h] <;> omega
        refine runS_cond rfl (fun h3 => ?_) (fun h3 => ?_)
        · have hc3 := of_decide_eq_true (hcd4.symm.trans h3)
          have hw4 : IntKind.wrap .i64 ((m : Int) + 1) = ((kk + (n + 1) : Nat) : Int) := by rw [w64 (by omega) (by omega)]; omega
          have hw5 : IntKind.wrap .i64 ((n : Int) + 1) = ((n + 1 : Nat) : Int) := by rw [w64 (by omega) (by omega)]; rfl
          refine runS_x (I := inf) (J := jnf) ⟨false, false, [], 0, 0⟩ 9999 rfl (by repeat (first | exact obs_nil | refine obs_draw (by kernel_rfl) ?_ | refine obs_same ?_ | refine obs_and ?_ | refine obs_by (by (simp [inB] <;> omega)) ?_)) ?_
          refine ih (n + 1) _ _ (by omega) ⟨⟨rfl, congrArg iv hw4, congrArg iv hw5⟩, rfl, by omega, fun j hj => ?_⟩
          by_cases hjn : j = n
          · subst hjn; exact hc3.1
          · exact hn j (by omega)
        · have hc3 := of_decide_eq_false (hcd4.symm.trans h3)
          have hmin := span_min hn hn2 (by
            by_cases h : n = 2
            · exact .inl h
            · exact .inr fun e => hc3 ⟨e, by omega⟩)
          rw [← hmin]
          refine runS_x (I := inf) (J := jnf) ⟨false, false, [], 0, 0⟩ 9999 rfl (by repeat (first | exact obs_nil | refine obs_draw (by kernel_rfl) ?_ | refine obs_same ?_ | refine obs_and ?_ | refine obs_by (by (simp [inB] <;> omega)) ?_)) ?_
          refine runS_ret (I := inf) 0 rfl (Nat.le_refl _) rfl .nil rfl ⟨?_, rfl⟩
          have e : decide ((n : Int) > 0) = decide (0 < n) := by
            rw [Bool.eq_iff_iff]
            simp
          rw [hm]
          exact congrArg (fun x => Out.ret (.tup [iv m, bv x])) e
      · have h69 := of_decide_eq_false ((hup 69 (by decide) (by decide)).symm.trans h2)
        rw [if_neg h69]
        refine runS_x (I := inf) (J := jnf) ⟨false, false, [], 0, 0⟩ 9999 rfl (by repeat (first | exact obs_nil | refine obs_draw (by kernel_rfl) ?_ | refine obs_same ?_ | refine obs_and ?_ | refine obs_by (by (simp [inB] <;> omega)) ?_)) ?_
        refine runS_ret (I := inf) 0 rfl (Nat.le_refl _) rfl .nil rfl ⟨?_, rfl⟩
        rfl
end Go.Iron.Tryz

/- The token seat: the reference's constants in quotes. -/
namespace Go.Iron.Tryz
open Go.Proofs Go.RowKit Go.Iron.Tok

theorem r_opers : CallT Tryz.prog 90 [] [] (fun o A => o = .ret (txtS none opers) ∧ A = []) := by
  refine callS_body (n := 2) rfl rfl fun w ρ X => ?_
  refine runS_x (I := inf) (J := jnf) ⟨false, false, [], 0, 0⟩ 9999 rfl (by repeat (first | exact obs_nil | refine obs_draw (by kernel_rfl) ?_ | refine obs_same ?_ | refine obs_and ?_ | refine obs_by (by (simp [inB] <;> omega)) ?_)) ?_
  refine runS_tell 0 (txtR opers) rfl (m' := 25) rfl (fun i hi => txt_chunk opers i hi) rfl ?_
  refine runS_freeze 0 rfl rfl rfl (fun j hj => rfl) ?_
  refine runS_ret (I := inf) 0 rfl (Nat.le_refl _) rfl .nil rfl ⟨?_, rfl⟩
  rfl
/-- What the reference reads at a place: the token, the place behind it, and what is wrong. -/
def nxtA (t : Tk) : Tok.Rd → AV
  | .ok (some t') q => .tup [.agg (tkE t'), iv q, iv (-1)]
  | .ok none q => .tup [.agg (tkE t), iv 0, iv q]
  | .bad q => .tup [.agg (tkE t), iv 0, iv q]
abbrev tB (k : Nat) (l : Str) (p : Nat) : AO := .box 29 [iv k, sv l, iv p]
theorem quoA_end {s : Str} {k : Nat} {a : Str} (h : ¬ k < s.length ∨ byt s k = 10 ∨ byt s k = 9) : quoA s k a = a := by
  rw [quoA]
  split
  · rename_i hk
    rw [if_pos (h.resolve_left (fun e => e hk))]
  · rfl
theorem quoA_bad {s : Str} {k : Nat} {a : Str} (hk : k < s.length) (h : ¬ (byt s k = 10 ∨ byt s k = 9)) (h2 : plP (byt s k) = false) : quoA s k a = a := by
  rw [quoA, dif_pos hk, if_neg h, if_pos h2]
theorem quoA_one {s : Str} {k : Nat} {a : Str} (hk : k < s.length) (h : ¬ (byt s k = 10 ∨ byt s k = 9)) (h2 : plP (byt s k) = true) (h3 : byt s k ≠ 39) : quoA s k a = quoA s (k + 1) (a ++ [s.getD k 0]) := by
  conv => lhs; rw [quoA]
  rw [dif_pos hk, if_neg h, if_neg (by rw [h2]; decide), if_pos h3]
theorem quoA_two {s : Str} {k : Nat} {a : Str} (hk : k < s.length) (h3 : byt s k = 39) (h4 : byt s (k + 1) = 39) : quoA s k a = quoA s (k + 2) (a ++ [39]) := by
  conv => lhs; rw [quoA]
  have n3 : ¬ (byt s k ≠ 39) := fun e => e h3
  rw [dif_pos hk, if_neg (by omega), if_neg (by rw [h3]; decide), if_neg n3, if_pos h4]
theorem quoB_bad {s : Str} {p q : Nat} (h : quoL s p (p + 1) [] = .bad q) : quoB s p = ⟨3, quoA s (p + 1) [], p⟩ := by unfold quoB; rw [h]
theorem quoB_fin {s : Str} {p k : Nat} {l : Str} (h : quoL s p (p + 1) [] = .fin l k) : quoB s p = if upN (byt s (k + 1)) = 66 then ⟨4, (bitsU (decide (byt s (k + 2) = 52)) l).1, p⟩ else ⟨3, l, p⟩ := by unfold quoB; rw [h]
theorem up_cond (s : Str) (q v : Nat) (h1 : 65 ≤ v) (h2 : v ≤ 90) : (if decide ((q : Int) < (s.length : Int)) = true then (if (((byt s q : Nat) : Int) == (v : Int)) = true then true else (((byt s q : Nat) : Int) == ((v + 32 : Nat) : Int))) else false) = decide (upN (byt s q) = v) := by
  by_cases h : q < s.length
  · rw [Bool.eq_iff_iff]
    simp [h]
    unfold upN
    split <;> omega
  · have h0 : byt s q = 0 := byt_end (by omega)
    rw [h0, Bool.eq_iff_iff]
    have : upN 0 = 0 := rfl
    rw [this]
    simp
    omega
theorem byt_cond (s : Str) (q v : Nat) (h1 : v ≠ 0) : (if decide ((q : Int) < (s.length : Int)) = true then (((byt s q : Nat) : Int) == (v : Int)) else false) = decide (byt s q = v) := by
  by_cases h : q < s.length
  · rw [Bool.eq_iff_iff]
    simp [h]
    omega
  · have h0 : byt s q = 0 := byt_end (by omega)
    rw [h0, Bool.eq_iff_iff]
    simp
    omega
theorem go_cond (s : Str) (q : Nat) : (if decide ((q : Int) < (s.length : Int)) = true then goP (byt s q) else false) = goP (byt s q) := by
  by_cases h : q < s.length
  · have : ((q : Int) < (s.length : Int)) := by omega
    rw [decide_eq_true this, if_pos rfl]
  · have h0 : byt s q = 0 := byt_end (by omega)
    have : ¬ ((q : Int) < (s.length : Int)) := by omega
    rw [decide_eq_false this, h0]
    rfl
theorem okQ_U (s l : Str) (k : Nat) : okQ s l k = (bitsU (decide (byt s (k + 2) = 52)) l).2 ∧ ((bitsU (decide (byt s (k + 2) = 52)) l).2 = true → bitsQ s l k = (bitsU (decide (byt s (k + 2) = 52)) l).1) := by
  unfold okQ bitsQ
  by_cases h : byt s (k + 2) = 52
  · rw [if_pos h, if_pos h, decide_eq_true h, bitsU_hex l]
    cases (bitsU true l).2
    · exact ⟨rfl, fun e => by cases e⟩
    · exact ⟨rfl, fun e => rfl⟩
  · rw [if_neg h, if_neg h, decide_eq_false h]
    exact ⟨(bitsU_two l).1.symm, fun e => ((bitsU_two l).2 e).symm⟩
def bitsN (v d : Nat) : Str := if d = 8 then bit4 v else if d = 4 then (bit4 v).drop 1 else if d = 2 then (bit4 v).drop 2 else if d = 1 then (bit4 v).drop 3 else []
theorem bitsN_step {v d : Nat} (h : d = 8 ∨ d = 4 ∨ d = 2 ∨ d = 1) : bitsN v d = [UInt8.ofNat (48 + v / d % 2)] ++ bitsN v (d / 2) := by
  rcases h with rfl | rfl | rfl | rfl
  · rfl
  · rfl
  · rfl
  · unfold bitsN bit4
    rw [Nat.div_one]
    rfl
theorem nz_nat {d : Nat} (h : d ≠ 0) : nz (d : Int) = true := by
  cases d with
  | zero => exact absurd rfl h
  | succ d => rfl
abbrev hxv (v d : Int) : Int := IntKind.wrap .u8 (IntKind.wrap .i64 (48 + (IntKind.wrap .i64 (v.tdiv d)).tmod 2))
theorem hxv_eq {v d : Nat} (hv : v ≤ 15) (hd : d = 8 ∨ d = 4 ∨ d = 2 ∨ d = 1) : hxv v d = (((UInt8.ofNat (48 + v / d % 2)).toNat : Nat) : Int) := by
  have h : ∀ n : _root_.Fin 16, hxv n.val (8 : Nat) = (((UInt8.ofNat (48 + n.val / 8 % 2)).toNat : Nat) : Int) ∧ hxv n.val (4 : Nat) = (((UInt8.ofNat (48 + n.val / 4 % 2)).toNat : Nat) : Int) ∧ hxv n.val (2 : Nat) = (((UInt8.ofNat (48 + n.val / 2 % 2)).toNat : Nat) : Int) ∧ hxv n.val (1 : Nat) = (((UInt8.ofNat (48 + n.val / 1 % 2)).toNat : Nat) : Int) := by decide +kernel
  obtain ⟨h8, h4, h2, h1⟩ := h ⟨v, by omega⟩
  rcases hd with rfl | rfl | rfl | rfl
  · exact h8
  · exact h4
  · exact h2
  · exact h1
theorem r_quoted (s : Str) (p : Nat) (hs : s.length ≤ 24000) (hp : p < s.length) : CallT Tryz.prog 89 [sv s, iv p] [] (fun o A => o = .ret (nxtA (quoB s p) (readQuo s p)) ∧ A = []) := by
  have hw1 : IntKind.wrap .i64 ((p : Int) + 1) = ((p + 1 : Nat) : Int) := by rw [w64 (by omega) (by omega)]; rfl
  refine callS_body (n := 182) rfl rfl fun w ρ X => ?_
  refine runS_x (I := inf) (J := jnf) ⟨false, false, [], 0, 0⟩ 9999 rfl (by repeat (first | exact obs_nil | refine obs_draw (by kernel_rfl) ?_ | refine obs_same ?_ | refine obs_and ?_ | refine obs_by (by (simp [inB] <;> omega)) ?_)) ?_
  rw [hw1]
  refine runS_while (fun (x : Nat × Str) τ ar => (τ 0 = sv s ∧ τ 1 = iv p ∧ τ 4 = .ptr 0 0 0 ∧ τ 7 = .ptr 1 0 0 ∧ τ 8 = iv x.1) ∧ ar = [tB 0 [] 0, tB 3 x.2 p] ∧ x.1 ≤ s.length + 1 ∧ p < x.1 ∧ x.2.length ≤ x.1 ∧ quoL s p (p + 1) [] = quoL s p x.1 x.2 ∧ quoA s (p + 1) [] = quoA s x.1 x.2) (fun x => s.length + 1 - x.1) (p + 1, []) ⟨⟨rfl, rfl, rfl, rfl, rfl⟩, rfl, by dsimp only; omega, by dsimp only; omega, Nat.zero_le _, rfl, rfl⟩ ?_
  rintro ⟨k, b⟩ τ' ar' ⟨⟨g0, g1, g4, g7, g8⟩, rfl, hkl, hpk, hb, hq, hqa⟩ ih
  dsimp only at hkl hpk hb hq hqa ih
  refine runS_says 0 (by exact g0) (Says.refl _) ?_; refine runS_says 1 (by exact g1) (Says.refl _) ?_; refine runS_says 4 (by exact g4) (Says.refl _) ?_; refine runS_says 7 (by exact g7) (Says.refl _) ?_; refine runS_says 8 (by exact g8) (Says.refl _) ?_
  refine runS_x (I := inf) (J := jnf) ⟨false, false, [], 0, 0⟩ 9999 rfl (by repeat (first | exact obs_nil | refine obs_draw (by kernel_rfl) ?_ | refine obs_same ?_ | refine obs_and ?_ | refine obs_by (by (simp [inB, blS] <;> omega)) ?_)) ?_
  dsimp only
  refine runS_callU rfl rfl (by first | exact .v rfl rfl rfl rfl | exact .o rfl rfl rfl rfl) rfl rfl (by repeat (first | exact .nil | refine .cons (.n rfl) ?_ | refine .cons .o ?_ | refine .cons gok_and ?_)) rfl rfl rfl rfl rfl (fun _ => (r_space (byt s k))) ?_
  refine runS_x (I := inf) (J := jnf) ⟨false, false, [], 0, 0⟩ 9999 rfl (by repeat (first | exact obs_nil | refine obs_draw (by kernel_rfl) ?_ | refine obs_same ?_ | refine obs_and ?_ | refine obs_by (by (simp [inB, blS] <;> omega)) ?_)) ?_
  have hcd : (if decide ((k : Int) ≥ (s.length : Int)) = true then true else (if decide (((byt s k : Nat) : Int) < 32) = true then spP (byt s k) else false)) = decide (¬ k < s.length ∨ byt s k = 10 ∨ byt s k = 9) := by
    have h1 : spP (byt s k) = decide (byt s k = 32 ∨ byt s k = 9 ∨ byt s k = 10) := by rw [Bool.eq_iff_iff, spP_eq, decide_eq_true_eq]
    rw [h1, Bool.eq_iff_iff]
    by_cases h2 : k < s.length
    · by_cases h3 : byt s k < 32
      · simp [h2, h3]
        omega
      · simp [h2, h3]
        omega
    · simp [h2]
      omega
  have hwk1 : k ≤ s.length → IntKind.wrap .i64 ((k : Int) + 1) = ((k + 1 : Nat) : Int) := fun _ => by rw [w64 (by omega) (by omega)]; rfl
  have hwk2 : IntKind.wrap .i64 ((k : Int) + 2) = ((k + 2 : Nat) : Int) := by rw [w64 (by omega) (by omega)]; rfl
  refine runS_cond rfl (fun h => ?_) (fun h => ?_)
  · have hc := of_decide_eq_true (hcd.symm.trans h)
    have hbad := hq.trans (quoL_end hc)
    refine runS_x (I := inf) (J := jnf) ⟨false, false, [], 0, 0⟩ 9999 rfl (by repeat (first | exact obs_nil | refine obs_draw (by kernel_rfl) ?_ | refine obs_same ?_ | refine obs_and ?_ | refine obs_by (by (simp [inB] <;> omega)) ?_)) ?_
    refine runS_ret (I := inf) 0 rfl (Nat.le_refl _) rfl .nil rfl ⟨?_, rfl⟩
    rw [readQuo_bad hbad, quoB_bad hbad, hqa, quoA_end hc]
    rfl
  · have hc := of_decide_eq_false (hcd.symm.trans h)
    have hkl' : k < s.length := by
      rcases Nat.lt_or_ge k s.length with h1 | h1
      · exact h1
      · exact absurd (.inl (by omega)) hc
    have hc2 : ¬ (byt s k = 10 ∨ byt s k = 9) := fun e => hc (.inr e)
    have hwk1' := hwk1 (by omega)
    refine runS_x (I := inf) (J := jnf) ⟨false, false, [], 0, 0⟩ 9999 rfl (by repeat (first | exact obs_nil | refine obs_draw (by kernel_rfl) ?_ | refine obs_same ?_ | refine obs_and ?_ | refine obs_by (by (simp [inB, blS, hkl'] <;> omega)) ?_)) ?_
    refine runS_call rfl rfl rfl rfl rfl rfl rfl (r_source (byt s k)) ?_
    refine runS_x (I := inf) (J := jnf) ⟨false, false, [], 0, 0⟩ 9999 rfl (by repeat (first | exact obs_nil | refine obs_draw (by kernel_rfl) ?_ | refine obs_same ?_ | refine obs_and ?_ | refine obs_by (by (simp [inB] <;> omega)) ?_)) ?_
    refine runS_cond rfl (fun h1 => ?_) (fun h1 => ?_)
    · have hpl : plP (byt s k) = false := by simpa using h1
      have hbad := hq.trans (quoL_bad hkl' hc2 hpl)
      refine runS_x (I := inf) (J := jnf) ⟨false, false, [], 0, 0⟩ 9999 rfl (by repeat (first | exact obs_nil | refine obs_draw (by kernel_rfl) ?_ | refine obs_same ?_ | refine obs_and ?_ | refine obs_by (by (simp [inB] <;> omega)) ?_)) ?_
      refine runS_ret (I := inf) 0 rfl (Nat.le_refl _) rfl .nil rfl ⟨?_, rfl⟩
      rw [readQuo_bad hbad, quoB_bad hbad, hqa, quoA_bad hkl' hc2 hpl]
      rfl
    · have hpl : plP (byt s k) = true := by simpa using h1
      refine runS_x (I := inf) (J := jnf) ⟨false, false, [], 0, 0⟩ 9999 rfl (by repeat (first | exact obs_nil | refine obs_draw (by kernel_rfl) ?_ | refine obs_same ?_ | refine obs_and ?_ | refine obs_by (by (simp [inB, blS, hkl'] <;> omega)) ?_)) ?_
      refine runS_cond rfl (fun h2 => ?_) (fun h2 => ?_)
      · have h39 : byt s k ≠ 39 := by
          have : (!(((byt s k : Nat) : Int) == 39)) = true := h2
          simp at this
          omega
        have hp1 : part2 (k : Int) (IntKind.wrap .i64 ((k : Int) + 1)) s = [s.getD k 0] := by
          rw [hwk1']
          show (s.take (k + 1)).drop k = _
          rw [List.take_succ_eq_append_getElem hkl', List.drop_append_of_le_length (by rw [List.length_take]; omega), List.drop_eq_nil_of_le (by rw [List.length_take]; omega), List.getD_eq_getElem?_getD, List.getElem?_eq_getElem hkl']
          rfl
        have hp2 : (part2 (k : Int) ((k : Int) + 1) s).length = 1 := by
          have := congrArg List.length hp1
          rw [hwk1'] at this
          exact this
        refine runS_x (I := inf) (J := jnf) ⟨false, false, [], 0, 0⟩ 9999 rfl (by repeat (first | exact obs_nil | refine obs_draw (by kernel_rfl) ?_ | refine obs_same ?_ | refine obs_and ?_ | refine obs_by (by (simp [inB, blS, hkl', hwk1', hp2] <;> omega)) ?_)) ?_
        have hsn : (b ++ [s.getD k 0]).length = b.length + 1 := by simp
        refine ih (k + 1, b ++ [s.getD k 0]) _ _ (by dsimp only; omega) ⟨⟨rfl, rfl, rfl, rfl, congrArg iv hwk1'⟩, ?_, by dsimp only; omega, by dsimp only; omega, by dsimp only; omega, hq.trans (quoL_one hkl' hc2 hpl h39), hqa.trans (quoA_one hkl' hc2 hpl h39)⟩
        exact congrArg (fun z => [tB 0 [] 0, tB 3 (b ++ z) p]) hp1
      · have h39 : byt s k = 39 := by
          have : (!(((byt s k : Nat) : Int) == 39)) = false := h2
          simp at this
          omega
        refine runS_x (I := inf) (J := jnf) ⟨false, false, [], 0, 0⟩ 9999 rfl (by repeat (first | exact obs_nil | refine obs_draw (by kernel_rfl) ?_ | refine obs_same ?_ | refine obs_and ?_ | refine obs_by (by (simp [inB] <;> omega)) ?_)) ?_
        refine runS_call rfl rfl rfl rfl rfl rfl rfl (r_begins s [39, 39] k (by omega) (by omega) (by decide)) ?_
        refine runS_x (I := inf) (J := jnf) ⟨false, false, [], 0, 0⟩ 9999 rfl (by repeat (first | exact obs_nil | refine obs_draw (by kernel_rfl) ?_ | refine obs_same ?_ | refine obs_and ?_ | refine obs_by (by (simp [inB] <;> omega)) ?_)) ?_
        refine runS_cond rfl (fun h3 => ?_) (fun h3 => ?_)
        · have h391 : ¬ byt s (k + 1) = 39 := by
            have h4 : (!([39, 39] : Str).isPrefixOf (s.drop k)) = true := h3
            rw [show ([39, 39] : Str) = [UInt8.ofNat 39, UInt8.ofNat 39] from rfl, pre2 s k 39 39 (by decide) (by decide) (by decide) (by decide)] at h4
            simp at h4
            omega
          have hfin := hq.trans (quoL_fin hkl' h39 h391)
          clear ih
          rw [readQuo_fin hfin, quoB_fin hfin]
          clear hq hqa hfin h h1 h2 h3 hcd
          have hcB : (if decide (IntKind.wrap .i64 ((k : Int) + 1) < (s.length : Int)) = true then (if (((s.getD (IntKind.wrap .i64 ((k : Int) + 1)).toNat 0).toNat : Int) == 66) = true then true else (((s.getD (IntKind.wrap .i64 ((k : Int) + 1)).toNat 0).toNat : Int) == 98)) else false) = decide (upN (byt s (k + 1)) = 66) := by
            rw [hwk1', Int.toNat_natCast]
            exact up_cond s (k + 1) 66 (by decide) (by decide)
          refine runS_x (I := inf) (J := jnf) ⟨false, false, [], 0, 0⟩ 9999 rfl (by repeat (first | exact obs_nil | refine obs_draw (by kernel_rfl) ?_ | refine obs_same ?_ | refine obs_and ?_ | refine obs_by (by (simp [inB, blS, hwk1'] <;> omega)) ?_)) ?_
          refine runS_cond rfl (fun h => ?_) (fun h => ?_)
          · have h66 := of_decide_eq_true (hcB.symm.trans h)
            clear h hcB
            rw [quoT_bits h66, if_pos h66]
            have hk1 : k + 1 < s.length := byt_lt (upN_ne (by omega))
            have hwk3 : IntKind.wrap .i64 (IntKind.wrap .i64 ((k : Int) + 1) + 1) = ((k + 2 : Nat) : Int) := by rw [hwk1', w64 (by omega) (by omega)]; rfl
            have hc4 : (if decide (IntKind.wrap .i64 (IntKind.wrap .i64 ((k : Int) + 1) + 1) < (s.length : Int)) = true then (((s.getD (IntKind.wrap .i64 (IntKind.wrap .i64 ((k : Int) + 1) + 1)).toNat 0).toNat : Int) == 52) else false) = decide (byt s (k + 2) = 52) := by
              rw [hwk3, Int.toNat_natCast]
              exact byt_cond s (k + 2) 52 (by decide)
            have hend : endQ s k ≤ s.length + 1 := by
              unfold endQ
              split
              · rename_i h52
                have := byt_lt (s := s) (p := k + 2) (by omega)
                omega
              · omega
            refine runS_x (I := inf) (J := jnf) ⟨false, false, [], 0, 0⟩ 9999 rfl (by repeat (first | exact obs_nil | refine obs_draw (by kernel_rfl) ?_ | refine obs_same ?_ | refine obs_and ?_ | refine obs_by (by (simp [inB, blS, hwk3] <;> omega)) ?_)) ?_
            obtain ⟨hU1, hU2⟩ := okQ_U s b k
            have hEQ : endQ s k = if byt s (k + 2) = 52 then k + 3 else k + 2 := rfl
            generalize endQ s k = q at hend hEQ ⊢
            generalize okQ s b k = ok at hU1 ⊢
            generalize bitsQ s b k = bits at hU2 ⊢
            have hFE : ∃ four, four = decide (byt s (k + 2) = 52) := ⟨_, rfl⟩
            obtain ⟨four, hfour⟩ := hFE
            rw [← hfour] at hU1 hU2 ⊢
            refine runS_cut (fun τ ar => (τ 0 = sv s ∧ τ 1 = iv p ∧ τ 4 = .ptr 0 0 0 ∧ τ 7 = .ptr 1 0 0 ∧ τ 8 = iv q ∧ τ 9 = bv four) ∧ ar = [tB 0 [] 0, tB 4 b p]) (fun rest => ?_) ?_
            · refine runS_cond rfl (fun h => ?_) (fun h => ?_)
              · have h52 := of_decide_eq_true (hc4.symm.trans h)
                have hwk4 : IntKind.wrap .i64 (IntKind.wrap .i64 (IntKind.wrap .i64 ((k : Int) + 1) + 1) + 1) = ((q : Nat) : Int) := by rw [hwk3, hEQ, if_pos h52, w64 (by omega) (by omega)]; rfl
                refine runS_x (I := inf) (J := jnf) ⟨false, false, [], 3, 0⟩ 9999 rfl (by repeat (first | exact obs_nil | refine obs_draw (by kernel_rfl) ?_ | refine obs_same ?_ | refine obs_and ?_ | refine obs_by (by (simp [inB] <;> omega)) ?_)) ?_
                exact rest _ _ ⟨⟨rfl, rfl, rfl, rfl, congrArg iv hwk4, congrArg bv (hc4.trans hfour.symm)⟩, rfl⟩
              · have h52 := of_decide_eq_false (hc4.symm.trans h)
                have hwk4 : IntKind.wrap .i64 (IntKind.wrap .i64 ((k : Int) + 1) + 1) = ((q : Nat) : Int) := by rw [hwk3, hEQ, if_neg h52]
                refine runS_x (I := inf) (J := jnf) ⟨false, false, [], 3, 0⟩ 9999 rfl (by repeat (first | exact obs_nil | refine obs_draw (by kernel_rfl) ?_ | refine obs_same ?_ | refine obs_and ?_ | refine obs_by (by (simp [inB] <;> omega)) ?_)) ?_
                exact rest _ _ ⟨⟨rfl, rfl, rfl, rfl, congrArg iv hwk4, congrArg bv (hc4.trans hfour.symm)⟩, rfl⟩
            clear hc4 hwk3 hfour hEQ g0 g1 g4 g7 g8
            rintro τ2 ar2 ⟨⟨g0, g1, g4, g7, g8, g9⟩, rfl⟩
            refine runS_says 0 (by exact g0) (Says.refl _) ?_; refine runS_says 1 (by exact g1) (Says.refl _) ?_; refine runS_says 4 (by exact g4) (Says.refl _) ?_; refine runS_says 7 (by exact g7) (Says.refl _) ?_; refine runS_says 8 (by exact g8) (Says.refl _) ?_; refine runS_says 9 (by exact g9) (Says.refl _) ?_
            refine runS_x (I := inf) (J := jnf) ⟨false, false, [], 0, 0⟩ 9999 rfl (by repeat (first | exact obs_nil | refine obs_draw (by kernel_rfl) ?_ | refine obs_same ?_ | refine obs_and ?_ | refine obs_by (by (simp [inB] <;> omega)) ?_)) ?_
            refine runS_while (fun (x : Nat × Str) τ ar => (τ 0 = sv s ∧ τ 1 = iv p ∧ τ 4 = .ptr 0 0 0 ∧ τ 7 = .ptr 1 0 0 ∧ τ 8 = iv q ∧ τ 9 = bv four ∧ τ 10 = sv b ∧ τ 11 = iv x.1) ∧ ar = [tB 0 [] 0, tB 4 x.2 p] ∧ x.1 ≤ b.length ∧ x.2.length ≤ 4 * x.1 ∧ bitsU four b = (x.2 ++ (bitsU four (b.drop x.1)).1, (bitsU four (b.drop x.1)).2)) (fun x => b.length - x.1) (0, []) ⟨⟨rfl, rfl, rfl, rfl, rfl, rfl, rfl, rfl⟩, rfl, Nat.zero_le _, Nat.zero_le _, rfl⟩ ?_
            rintro ⟨n, acc⟩ τ' ar' ⟨⟨g0, g1, g4, g7, g8, g9, g10, g11⟩, rfl, hn, ha, hbu⟩ ih
            dsimp only at hn ha hbu ih
            refine runS_says 0 (by exact g0) (Says.refl _) ?_; refine runS_says 1 (by exact g1) (Says.refl _) ?_; refine runS_says 4 (by exact g4) (Says.refl _) ?_; refine runS_says 7 (by exact g7) (Says.refl _) ?_; refine runS_says 8 (by exact g8) (Says.refl _) ?_; refine runS_says 9 (by exact g9) (Says.refl _) ?_; refine runS_says 10 (by exact g10) (Says.refl _) ?_; refine runS_says 11 (by exact g11) (Says.refl _) ?_
            refine runS_x (I := inf) (J := jnf) ⟨false, false, [], 0, 0⟩ 9999 rfl (by repeat (first | exact obs_nil | refine obs_draw (by kernel_rfl) ?_ | refine obs_same ?_ | refine obs_and ?_ | refine obs_by (by (simp [inB, blS] <;> omega)) ?_)) ?_
            refine runS_cond rfl (fun h => ?_) (fun h => ?_)
            · have hn' : n < b.length := by
                have : decide ((n : Int) < (b.length : Int)) = true := h
                simp at this
                omega
              have h255 := (b.getD n 0).toNat_lt
              have hdr : b.drop n = b.getD n 0 :: b.drop (n + 1) := by
                rw [List.drop_eq_getElem_cons hn', List.getD_eq_getElem?_getD, List.getElem?_eq_getElem hn']
                rfl
              have hwn : IntKind.wrap .i64 ((n : Int) + 1) = ((n + 1 : Nat) : Int) := by rw [w64 (by omega) (by omega)]; rfl
              rw [hdr, bitsU] at hbu
              refine runS_x (I := inf) (J := jnf) ⟨false, false, [], 0, 0⟩ 9999 rfl (by repeat (first | exact obs_nil | refine obs_draw (by kernel_rfl) ?_ | refine obs_same ?_ | refine obs_and ?_ | refine obs_by (by (simp [inB, blS, hn'] <;> omega)) ?_)) ?_
              refine runS_call rfl rfl rfl rfl rfl rfl rfl (r_hex (b.getD n 0).toNat (by omega)) ?_
              have hp1 : part2 (n : Int) (IntKind.wrap .i64 ((n : Int) + 1)) b = [b.getD n 0] := by
                rw [hwn]
                show (b.take (n + 1)).drop n = _
                rw [List.take_succ_eq_append_getElem hn', List.drop_append_of_le_length (by rw [List.length_take]; omega), List.drop_eq_nil_of_le (by rw [List.length_take]; omega), List.getD_eq_getElem?_getD, List.getElem?_eq_getElem hn']
                rfl
              have hp2 : (part2 (n : Int) ((n : Int) + 1) b).length = 1 := by
                have := congrArg List.length hp1
                rw [hwn] at this
                exact this
              have hcg : b.getD ((n : Int)).toNat 0 = b.getD n 0 := by rw [Int.toNat_natCast]
              have hce : ∃ c, b.getD n 0 = c := ⟨_, rfl⟩
              obtain ⟨c, hc⟩ := hce
              rw [hc] at h255 hbu hp1 hcg ⊢
              cases hx : hexN c.toNat with
              | none =>
                rw [hx] at hbu
                dsimp only at hbu
                refine runS_x (I := inf) (J := jnf) ⟨false, false, [], 0, 0⟩ 9999 rfl (by repeat (first | exact obs_nil | refine obs_draw (by kernel_rfl) ?_ | refine obs_same ?_ | refine obs_and ?_ | refine obs_by (by (simp [inB, blS, hn'] <;> omega)) ?_)) ?_
                refine runS_cond rfl (fun h1 => ?_) (fun h1 => by cases h1)
                have h2 : ok = false := by rw [hU1, hbu]
                have h3 : (bitsU four b).1 = acc := by rw [hbu, List.append_nil]
                refine runS_x (I := inf) (J := jnf) ⟨false, false, [], 0, 0⟩ 9999 rfl (by repeat (first | exact obs_nil | refine obs_draw (by kernel_rfl) ?_ | refine obs_same ?_ | refine obs_and ?_ | refine obs_by (by (simp [inB] <;> omega)) ?_)) ?_
                refine runS_ret (I := inf) 0 rfl (Nat.le_refl _) rfl .nil rfl ⟨?_, rfl⟩
                rw [h3, h2]
                rfl
              | some v =>
                rw [hx] at hbu
                dsimp only at hbu
                have hv15 := hexN_le hx
                refine runS_x (I := inf) (J := jnf) ⟨false, false, [], 0, 0⟩ 9999 rfl (by repeat (first | exact obs_nil | refine obs_draw (by kernel_rfl) ?_ | refine obs_same ?_ | refine obs_and ?_ | refine obs_by (by (simp [inB, blS, hn'] <;> omega)) ?_)) ?_
                have hcd1 : (if decide (((v : Nat) : Int) < 0) = true then true else (if (if (!four) = true then (!((((b.getD ((n : Int)).toNat 0).toNat : Nat) : Int) == 48)) else false) = true then (!((((b.getD ((n : Int)).toNat 0).toNat : Nat) : Int) == 49)) else false)) = decide (four = false ∧ ¬ (c.toNat = 48 ∨ c.toNat = 49)) := by
                  have : ¬ ((v : Nat) : Int) < 0 := by omega
                  rw [decide_eq_false this, hcg, Bool.eq_iff_iff]
                  cases four
                  · simp
                    omega
                  · simp
                refine runS_cond rfl (fun h1 => ?_) (fun h1 => ?_)
                · obtain ⟨hf, hno⟩ := of_decide_eq_true (hcd1.symm.trans h1)
                  rw [if_neg (by rw [hf]; decide), if_neg hno] at hbu
                  have h2 : ok = false := by rw [hU1, hbu]
                  have h3 : (bitsU four b).1 = acc := by rw [hbu, List.append_nil]
                  refine runS_x (I := inf) (J := jnf) ⟨false, false, [], 0, 0⟩ 9999 rfl (by repeat (first | exact obs_nil | refine obs_draw (by kernel_rfl) ?_ | refine obs_same ?_ | refine obs_and ?_ | refine obs_by (by (simp [inB] <;> omega)) ?_)) ?_
                  refine runS_ret (I := inf) 0 rfl (Nat.le_refl _) rfl .nil rfl ⟨?_, rfl⟩
                  rw [h3, h2]
                  rfl
                · have hyes := of_decide_eq_false (hcd1.symm.trans h1)
                  refine runS_x (I := inf) (J := jnf) ⟨false, false, [], 0, 0⟩ 9999 rfl (by repeat (first | exact obs_nil | refine obs_draw (by kernel_rfl) ?_ | refine obs_same ?_ | refine obs_and ?_ | refine obs_by (by (simp [inB] <;> omega)) ?_)) ?_
                  refine runS_cond rfl (fun h2 => ?_) (fun h2 => ?_)
                  · have hf : four = false := by simpa using h2
                    rw [hf, if_neg (by decide), if_pos (by
                      rcases Nat.lt_or_ge 49 c.toNat with h | h
                      · exact absurd ⟨hf, by omega⟩ hyes
                      · rcases Nat.lt_or_ge c.toNat 48 with h5 | h5
                        · exact absurd ⟨hf, by omega⟩ hyes
                        · omega), ← hf] at hbu
                    refine runS_x (I := inf) (J := jnf) ⟨false, false, [], 0, 0⟩ 9999 rfl (by repeat (first | exact obs_nil | refine obs_draw (by kernel_rfl) ?_ | refine obs_same ?_ | refine obs_and ?_ | refine obs_by (by (simp [inB, blS, hn', hwn, hp2] <;> omega)) ?_)) ?_
                    refine ih (n + 1, acc ++ [c]) _ _ (by dsimp only; omega) ⟨⟨rfl, rfl, rfl, rfl, rfl, rfl, rfl, congrArg iv hwn⟩, ?_, hn', by dsimp only; rw [List.length_append, List.length_singleton]; omega, ?_⟩
                    · exact congrArg (fun z => [tB 0 [] 0, tB 4 (acc ++ z) p]) hp1
                    · rw [hbu]
                      dsimp only
                      rw [List.append_assoc]
                      rfl
                  · have hf : four = true := by simpa using h2
                    rw [if_pos hf] at hbu
                    refine runS_x (I := inf) (J := jnf) ⟨false, false, [], 0, 0⟩ 9999 rfl (by repeat (first | exact obs_nil | refine obs_draw (by kernel_rfl) ?_ | refine obs_same ?_ | refine obs_and ?_ | refine obs_by (by (simp [inB] <;> omega)) ?_)) ?_
                    have hT1 : ∀ r, (bl (textR 1 r)).length = 1 := fun r => rfl
                    refine runS_while (fun (x : Nat × Str) τ ar => (τ 0 = sv s ∧ τ 1 = iv p ∧ τ 4 = .ptr 0 0 0 ∧ τ 7 = .ptr 1 0 0 ∧ τ 8 = iv q ∧ τ 9 = bv four ∧ τ 10 = sv b ∧ τ 11 = iv n ∧ τ 12 = iv v ∧ τ 13 = iv x.1) ∧ ar = [tB 0 [] 0, tB 4 x.2 p] ∧ (x.1 = 8 ∨ x.1 = 4 ∨ x.1 = 2 ∨ x.1 = 1 ∨ x.1 = 0) ∧ x.2.length + x.1 ≤ 100008 ∧ acc ++ bit4 v = x.2 ++ bitsN v x.1) (fun x => x.1) (8, acc) ⟨⟨rfl, rfl, rfl, rfl, rfl, rfl, rfl, rfl, rfl, rfl⟩, rfl, .inl rfl, by dsimp only; omega, rfl⟩ ?_
                    rintro ⟨d, ac⟩ τ' ar' ⟨⟨g0, g1, g4, g7, g8, g9, g10, g11, g12, g13⟩, rfl, hd, hac, hrest⟩ ih2
                    dsimp only at hd hac hrest ih2
                    refine runS_says 0 (by exact g0) (Says.refl _) ?_; refine runS_says 1 (by exact g1) (Says.refl _) ?_; refine runS_says 4 (by exact g4) (Says.refl _) ?_; refine runS_says 7 (by exact g7) (Says.refl _) ?_; refine runS_says 8 (by exact g8) (Says.refl _) ?_; refine runS_says 9 (by exact g9) (Says.refl _) ?_; refine runS_says 10 (by exact g10) (Says.refl _) ?_; refine runS_says 11 (by exact g11) (Says.refl _) ?_; refine runS_says 12 (by exact g12) (Says.refl _) ?_; refine runS_says 13 (by exact g13) (Says.refl _) ?_
                    refine runS_x (I := inf) (J := jnf) ⟨false, false, [], 0, 0⟩ 9999 rfl (by repeat (first | exact obs_nil | refine obs_draw (by kernel_rfl) ?_ | refine obs_same ?_ | refine obs_and ?_ | refine obs_by (by (simp [inB] <;> omega)) ?_)) ?_
                    refine runS_cond rfl (fun h3 => ?_) (fun h3 => ?_)
                    · have hd0 : d ≠ 0 := by
                        have : decide ((d : Int) > 0) = true := h3
                        simp at this
                        omega
                      have hnz : nz (d : Int) = true := nz_nat hd0
                      refine runS_x (I := inf) (J := jnf) ⟨false, false, [], 0, 0⟩ 9999 rfl (by repeat (first | exact obs_nil | refine obs_draw (by kernel_rfl) ?_ | refine obs_same ?_ | refine obs_and ?_ | refine obs_by (by (simp [inB] <;> omega)) ?_)) ?_
                      refine runS_hole ?_
                      refine runS_drawG (ch := []) (A2 := fun _ => []) 11 [8] (fun t => [tB 0 [] 0, tB 4 ac p, cond (t.getD 0 false) (.row 5 1 1 1 (chunk 1 [AV.val (.int .u8 (hxv v d))])) .hole]) none (c := 9) jnfI.draw (by kernel_rfl) rfl (lexg_g (I := inf) (J := jnf) none ⟨⟨_, rfl, (by repeat (first | exact obs_nil | refine obs_same ?_ | refine obs_and ?_ | refine obs_by (by first | exact (fun _ => hnz) | (simp [inB, hT1] <;> omega)) ?_))⟩, (by first | exact .inl (by decide +kernel) | exact .inr ⟨_, rfl, (by repeat (first | exact obs_nil | refine obs_same ?_ | refine obs_and ?_ | refine obs_by (by first | exact (fun _ => hnz) | (simp [inB, hT1] <;> omega)) ?_))⟩)⟩ rfl rfl rfl rfl (lexg_g (I := inf) (J := jnf) none ⟨⟨_, rfl, (by repeat (first | exact obs_nil | refine obs_same ?_ | refine obs_and ?_ | refine obs_by (by first | exact (fun _ => hnz) | (simp [inB, hT1] <;> omega)) ?_))⟩, (by first | exact .inl (by decide +kernel) | exact .inr ⟨_, rfl, (by repeat (first | exact obs_nil | refine obs_same ?_ | refine obs_and ?_ | refine obs_by (by first | exact (fun _ => hnz) | (simp [inB, hT1] <;> omega)) ?_))⟩)⟩ rfl rfl rfl rfl (lexg_g (I := inf) (J := jnf) none ⟨⟨_, rfl, (by repeat (first | exact obs_nil | refine obs_same ?_ | refine obs_and ?_ | refine obs_by (by first | exact (fun _ => hnz) | (simp [inB, hT1] <;> omega)) ?_))⟩, (by first | exact .inl (by decide +kernel) | exact .inr ⟨_, rfl, (by repeat (first | exact obs_nil | refine obs_same ?_ | refine obs_and ?_ | refine obs_by (by first | exact (fun _ => hnz) | (simp [inB, hT1] <;> omega)) ?_))⟩)⟩ rfl rfl rfl rfl (lexg_g (I := inf) (J := jnf) none ⟨⟨_, rfl, (by repeat (first | exact obs_nil | refine obs_same ?_ | refine obs_and ?_ | refine obs_by (by first | exact (fun _ => hnz) | (simp [inB, hT1] <;> omega)) ?_))⟩, (by first | exact .inl (by decide +kernel) | exact .inr ⟨_, rfl, (by repeat (first | exact obs_nil | refine obs_same ?_ | refine obs_and ?_ | refine obs_by (by first | exact (fun _ => hnz) | (simp [inB, hT1] <;> omega)) ?_))⟩)⟩ rfl rfl rfl rfl (lexg_g (I := inf) (J := jnf) none ⟨⟨_, rfl, (by repeat (first | exact obs_nil | refine obs_same ?_ | refine obs_and ?_ | refine obs_by (by first | exact (fun _ => hnz) | (simp [inB, hT1] <;> omega)) ?_))⟩, (by first | exact .inl (by decide +kernel) | exact .inr ⟨_, rfl, (by repeat (first | exact obs_nil | refine obs_same ?_ | refine obs_and ?_ | refine obs_by (by first | exact (fun _ => hnz) | (simp [inB, hT1] <;> omega)) ?_))⟩)⟩ rfl rfl rfl rfl (lexg_g (I := inf) (J := jnf) none ⟨⟨_, rfl, (by repeat (first | exact obs_nil | refine obs_same ?_ | refine obs_and ?_ | refine obs_by (by first | exact (fun _ => hnz) | (simp [inB, hT1] <;> omega)) ?_))⟩, (by first | exact .inl (by decide +kernel) | exact .inr ⟨_, rfl, (by repeat (first | exact obs_nil | refine obs_same ?_ | refine obs_and ?_ | refine obs_by (by first | exact (fun _ => hnz) | (simp [inB, hT1] <;> omega)) ?_))⟩)⟩ rfl rfl rfl rfl (lexg_g (I := inf) (J := jnf) none ⟨⟨_, rfl, (by repeat (first | exact obs_nil | refine obs_same ?_ | refine obs_and ?_ | refine obs_by (by first | exact (fun _ => hnz) | (simp [inB, hT1] <;> omega)) ?_))⟩, (by first | exact .inl (by decide +kernel) | exact .inr ⟨_, rfl, (by repeat (first | exact obs_nil | refine obs_same ?_ | refine obs_and ?_ | refine obs_by (by first | exact (fun _ => hnz) | (simp [inB, hT1] <;> omega)) ?_))⟩)⟩ rfl rfl rfl rfl (lexg_g (I := inf) (J := jnf) none ⟨⟨_, rfl, (by repeat (first | exact obs_nil | refine obs_same ?_ | refine obs_and ?_ | refine obs_by (by first | exact (fun _ => hnz) | (simp [inB, hT1] <;> omega)) ?_))⟩, (by first | exact .inl (by decide +kernel) | exact .inr ⟨_, rfl, (by repeat (first | exact obs_nil | refine obs_same ?_ | refine obs_and ?_ | refine obs_by (by first | exact (fun _ => hnz) | (simp [inB, hT1] <;> omega)) ?_))⟩)⟩ rfl rfl rfl rfl (lexg_g (I := inf) (J := jnf) (some (.hole 2)) ⟨⟨_, rfl, (by repeat (first | exact obs_nil | refine obs_same ?_ | refine obs_and ?_ | refine obs_by (by first | exact (fun _ => hnz) | (simp [inB, hT1] <;> omega)) ?_))⟩, .inl rfl⟩ rfl rfl rfl rfl (lexg_d (I := inf) (J := jnf) none ⟨(by first | exact .inl (by decide +kernel) | exact .inr ⟨_, rfl, (by repeat (first | exact obs_nil | refine obs_same ?_ | refine obs_and ?_ | refine obs_by (by first | exact (fun _ => hnz) | (simp [inB, hT1] <;> omega)) ?_))⟩), (by first | exact .inl (by decide +kernel) | exact .inr ⟨_, rfl, (by repeat (first | exact obs_nil | refine obs_same ?_ | refine obs_and ?_ | refine obs_by (by first | exact (fun _ => hnz) | (simp [inB, hT1] <;> omega)) ?_))⟩)⟩ rfl rfl rfl rfl (lexg_d (I := inf) (J := jnf) none ⟨(by first | exact .inl (by decide +kernel) | exact .inr ⟨_, rfl, (by repeat (first | exact obs_nil | refine obs_same ?_ | refine obs_and ?_ | refine obs_by (by first | exact (fun _ => hnz) | (simp [inB, hT1] <;> omega)) ?_))⟩), (by first | exact .inl (by decide +kernel) | exact .inr ⟨_, rfl, (by repeat (first | exact obs_nil | refine obs_same ?_ | refine obs_and ?_ | refine obs_by (by first | exact (fun _ => hnz) | (simp [inB, hT1] <;> omega)) ?_))⟩)⟩ rfl rfl rfl rfl lexg_nil))))))))))) rfl (fun _ => ?_) (fun h => by cases h)
                      have hdd : d = 8 ∨ d = 4 ∨ d = 2 ∨ d = 1 := by omega
                      have htx : textR 1 (fun i => getU (chunk 1 [AV.val (.int .u8 (hxv v d))] i)) = bs [UInt8.ofNat (48 + v / d % 2)] := textR_eq rfl fun j hj => by
                        have hj0 : j = 0 := by omega
                        subst hj0
                        exact hxv_eq hv15 hdd
                      have hwd : IntKind.wrap .i64 ((d : Int).tdiv 2) = ((d / 2 : Nat) : Int) := by
                        rcases hdd with rfl | rfl | rfl | rfl <;> decide
                      refine runS_x (I := inf) (J := jnf) ⟨false, false, [], 0, 0⟩ 9999 rfl (by repeat (first | exact obs_nil | refine obs_draw (by kernel_rfl) ?_ | refine obs_same ?_ | refine obs_and ?_ | refine obs_by (by (simp [inB] <;> omega)) ?_)) ?_
                      refine runS_drop 2 (Nat.zero_le _) rfl (by repeat (first | exact .nil | refine .row (fun j hj => rfl) ?_ | refine .box rfl ?_ | refine .fam (fun k j hk hj => rfl) ?_ | refine .loop (scrub_under _ _) ?_ | refine .dfr ?_ | refine .gone ?_ | refine .map (fun p hp => by (obtain ⟨k, _, rfl⟩ := List.mem_map.1 hp; rfl)) ?_)) rfl rfl rfl (by repeat (first | exact .nil | refine .cons rfl rfl rfl (scrub_under _ _) ?_)) ?_
                      refine ih2 (d / 2, ac ++ [UInt8.ofNat (48 + v / d % 2)]) _ _ (by dsimp only; omega) ⟨⟨rfl, rfl, rfl, rfl, rfl, rfl, rfl, rfl, rfl, congrArg iv hwd⟩, ?_, by dsimp only; omega, ?_, ?_⟩
                      · exact congrArg (fun z => [tB 0 [] 0, .box 29 [iv 4, .val (.string (bs (bl (bs ac) ++ bl z))), iv p]]) htx
                      · dsimp only; rw [List.length_append, List.length_singleton]; omega
                      · rw [hrest, bitsN_step hdd, List.append_assoc]
                    · have hd0 : d = 0 := by
                        have : decide ((d : Int) > 0) = false := h3
                        simp at this
                        omega
                      subst hd0
                      have hac2 : acc ++ bit4 v = ac := by
                        rw [hrest]
                        exact List.append_nil _
                      refine runS_x (I := inf) (J := jnf) ⟨false, false, [], 0, 0⟩ 9999 rfl (by repeat (first | exact obs_nil | refine obs_draw (by kernel_rfl) ?_ | refine obs_same ?_ | refine obs_and ?_ | refine obs_by (by (simp [inB] <;> omega)) ?_)) ?_
                      refine ih (n + 1, ac) _ _ (by dsimp only; omega) ⟨⟨rfl, rfl, rfl, rfl, rfl, rfl, rfl, congrArg iv hwn⟩, rfl, hn', ?_, ?_⟩
                      · dsimp only
                        rw [← hac2, List.length_append]
                        show _ + 4 ≤ _
                        omega
                      · rw [hbu, ← hac2]
                        dsimp only
                        rw [List.append_assoc]
            · have hne : n = b.length := by
                have : decide ((n : Int) < (b.length : Int)) = false := h
                simp at this
                omega
              subst hne
              rw [List.drop_length] at hbu
              refine runS_x (I := inf) (J := jnf) ⟨false, false, [], 0, 0⟩ 9999 rfl (by repeat (first | exact obs_nil | refine obs_draw (by kernel_rfl) ?_ | refine obs_same ?_ | refine obs_and ?_ | refine obs_by (by (simp [inB, blS] <;> omega)) ?_)) ?_
              have h2 : ok = true := by rw [hU1, hbu]; rfl
              have h3 : (bitsU four b).1 = acc := by rw [hbu]; exact List.append_nil _
              have h4 : bits = acc := (hU2 (by rw [hbu]; rfl)).trans h3
              rw [h3, h4, h2]
              refine runS_callU rfl rfl (by first | exact .v rfl rfl rfl rfl | exact .o rfl rfl rfl rfl) rfl rfl (by repeat (first | exact .nil | refine .cons (.n rfl) ?_ | refine .cons .o ?_ | refine .cons gok_and ?_)) rfl rfl rfl rfl rfl (fun _ => (r_within (byt s q))) ?_
              refine runS_x (I := inf) (J := jnf) ⟨false, false, [], 0, 0⟩ 9999 rfl (by repeat (first | exact obs_nil | refine obs_draw (by kernel_rfl) ?_ | refine obs_same ?_ | refine obs_and ?_ | refine obs_by (by (simp [inB] <;> omega)) ?_)) ?_
              have hcd5 : (if decide ((q : Int) < ((bl (bs s)).length : Int)) = true then goP (byt s q) else false) = goP (byt s q) := go_cond s q
              refine runS_cond rfl (fun h1 => ?_) (fun h1 => ?_)
              · have hg : goP (byt s q) = true := hcd5.symm.trans h1
                refine runS_x (I := inf) (J := jnf) ⟨false, false, [], 0, 0⟩ 9999 rfl (by repeat (first | exact obs_nil | refine obs_draw (by kernel_rfl) ?_ | refine obs_same ?_ | refine obs_and ?_ | refine obs_by (by (simp [inB] <;> omega)) ?_)) ?_
                refine runS_ret (I := inf) 0 rfl (Nat.le_refl _) rfl .nil rfl ⟨?_, rfl⟩
                rw [if_neg (fun e => by rw [hg] at e; cases e.2.2)]
                rfl
              · have hg : goP (byt s q) = false := hcd5.symm.trans h1
                refine runS_x (I := inf) (J := jnf) ⟨false, false, [], 0, 0⟩ 9999 rfl (by repeat (first | exact obs_nil | refine obs_draw (by kernel_rfl) ?_ | refine obs_same ?_ | refine obs_and ?_ | refine obs_by (by (simp [inB, blS] <;> omega)) ?_)) ?_
                refine runS_cond rfl (fun h => ?_) (fun h => ?_)
                · have h250 : acc.length > 250 := by
                    have : decide ((acc.length : Int) > 250) = true := h
                    simp at this
                    omega
                  refine runS_x (I := inf) (J := jnf) ⟨false, false, [], 0, 0⟩ 9999 rfl (by repeat (first | exact obs_nil | refine obs_draw (by kernel_rfl) ?_ | refine obs_same ?_ | refine obs_and ?_ | refine obs_by (by (simp [inB] <;> omega)) ?_)) ?_
                  refine runS_ret (I := inf) 0 rfl (Nat.le_refl _) rfl .nil rfl ⟨?_, rfl⟩
                  rw [if_neg (fun e => e.2.1 h250)]
                  rfl
                · have h250 : ¬ acc.length > 250 := by
                    have : decide ((acc.length : Int) > 250) = false := h
                    simp at this
                    omega
                  refine runS_x (I := inf) (J := jnf) ⟨false, false, [], 0, 0⟩ 9999 rfl (by repeat (first | exact obs_nil | refine obs_draw (by kernel_rfl) ?_ | refine obs_same ?_ | refine obs_and ?_ | refine obs_by (by (simp [inB] <;> omega)) ?_)) ?_
                  refine runS_ret (I := inf) 0 rfl (Nat.le_refl _) rfl .nil rfl ⟨?_, rfl⟩
                  rw [if_pos ⟨rfl, h250, hg⟩]
                  rfl
          · have h66 := of_decide_eq_false (hcB.symm.trans h)
            clear h hcB
            have hqt : quoT s p b k = if b.length > 250 then .bad p else .ok (some ⟨3, b, p⟩) (k + 1) := by
              unfold quoT
              rw [if_pos h66]
            rw [if_neg h66, hqt]
            refine runS_x (I := inf) (J := jnf) ⟨false, false, [], 0, 0⟩ 9999 rfl (by repeat (first | exact obs_nil | refine obs_draw (by kernel_rfl) ?_ | refine obs_same ?_ | refine obs_and ?_ | refine obs_by (by (simp [inB, blS] <;> omega)) ?_)) ?_
            refine runS_cond rfl (fun h => ?_) (fun h => ?_)
            · have h250 : b.length > 250 := by
                have : decide ((b.length : Int) > 250) = true := h
                simp at this
                omega
              rw [if_pos h250]
              refine runS_x (I := inf) (J := jnf) ⟨false, false, [], 0, 0⟩ 9999 rfl (by repeat (first | exact obs_nil | refine obs_draw (by kernel_rfl) ?_ | refine obs_same ?_ | refine obs_and ?_ | refine obs_by (by (simp [inB] <;> omega)) ?_)) ?_
              refine runS_ret (I := inf) 0 rfl (Nat.le_refl _) rfl .nil rfl ⟨?_, rfl⟩
              rfl
            · have h250 : ¬ b.length > 250 := by
                have : decide ((b.length : Int) > 250) = false := h
                simp at this
                omega
              rw [if_neg h250]
              refine runS_x (I := inf) (J := jnf) ⟨false, false, [], 0, 0⟩ 9999 rfl (by repeat (first | exact obs_nil | refine obs_draw (by kernel_rfl) ?_ | refine obs_same ?_ | refine obs_and ?_ | refine obs_by (by (simp [inB] <;> omega)) ?_)) ?_
              refine runS_ret (I := inf) 0 rfl (Nat.le_refl _) rfl .nil rfl ⟨?_, rfl⟩
              exact congrArg (fun z => Out.ret (.tup [.agg (tkE ⟨3, b, p⟩), iv z, iv (-1)])) hwk1'
        · have h391 : byt s (k + 1) = 39 := by
            have h4 : (!([39, 39] : Str).isPrefixOf (s.drop k)) = false := h3
            rw [show ([39, 39] : Str) = [UInt8.ofNat 39, UInt8.ofNat 39] from rfl, pre2 s k 39 39 (by decide) (by decide) (by decide) (by decide)] at h4
            simp at h4
            exact h4.2
          have hp3 : (bl (ByteArray.mk #[39])).length = 1 := rfl
          refine runS_x (I := inf) (J := jnf) ⟨false, false, [], 0, 0⟩ 9999 rfl (by repeat (first | exact obs_nil | refine obs_draw (by kernel_rfl) ?_ | refine obs_same ?_ | refine obs_and ?_ | refine obs_by (by (simp [inB, blS, hp3] <;> omega)) ?_)) ?_
          have hsn : (b ++ [39]).length = b.length + 1 := by simp
          refine ih (k + 2, b ++ [39]) _ _ (by dsimp only; omega) ⟨⟨rfl, rfl, rfl, rfl, congrArg iv hwk2⟩, ?_, by dsimp only; omega, by dsimp only; omega, by dsimp only; omega, hq.trans (quoL_two hkl' h39 h391), hqa.trans (quoA_two hkl' h39 h391)⟩
          rfl
end Go.Iron.Tryz

/- The token seat: the reference's next token, its gaps, its Scan. -/
namespace Go.Iron.Tryz
open Go.Proofs Go.RowKit Go.Iron.Tok

def gapA : Tok.Rd → AV
  | .ok _ q => .tup [iv q, iv (-1)]
  | .bad q => .tup [iv 0, iv q]
theorem comL_end {s : Str} {f k : Nat} (h : ¬ k < s.length) : comL s f k = .bad f := by
  rw [comL, dif_neg h]
theorem comL_bad {s : Str} {f k : Nat} (hk : k < s.length) (h : plP (byt s k) = false) : comL s f k = .bad k := by
  rw [comL, dif_pos hk, if_pos h]
theorem comL_fin {s : Str} {f k : Nat} (hk : k < s.length) (h : plP (byt s k) = true) (h2 : byt s k = 42 ∧ byt s (k + 1) = 47) : comL s f k = .ok none (k + 2) := by
  rw [comL, dif_pos hk, if_neg (by rw [h]; decide), if_pos h2]
theorem r_gap (s : Str) (p : Nat) (hs : s.length ≤ 24000) (hp : p ≤ s.length) : CallT Tryz.prog 57 [sv s, iv p] [] (fun o A => o = .ret (gapA (gapR s p)) ∧ A = []) := by
  refine callS_body (n := 51) rfl rfl fun w ρ X => ?_
  refine runS_x (I := inf) (J := jnf) ⟨false, false, [], 0, 0⟩ 9999 rfl (by repeat (first | exact obs_nil | refine obs_draw (by kernel_rfl) ?_ | refine obs_same ?_ | refine obs_and ?_ | refine obs_by (by (simp [inB] <;> omega)) ?_)) ?_
  refine runS_while (fun (i : Nat) τ ar => (τ 0 = sv s ∧ τ 1 = iv i) ∧ ar = [] ∧ i ≤ s.length ∧ gapR s p = gapR s i) (fun i => s.length - i) p ⟨⟨rfl, rfl⟩, rfl, hp, rfl⟩ ?_
  rintro i τ' ar' ⟨⟨g0, g1⟩, rfl, hi, hq⟩ ih
  refine runS_says 0 (by exact g0) (Says.refl _) ?_; refine runS_says 1 (by exact g1) (Says.refl _) ?_
  refine runS_x (I := inf) (J := jnf) ⟨false, false, [], 0, 0⟩ 9999 rfl (by repeat (first | exact obs_nil | refine obs_draw (by kernel_rfl) ?_ | refine obs_same ?_ | refine obs_and ?_ | refine obs_by (by (simp [inB, blS] <;> omega)) ?_)) ?_
  refine runS_cond rfl (fun h => ?_) (fun h => ?_)
  · have hil : i < s.length := by
      have : decide ((i : Int) < (s.length : Int)) = true := h
      simp at this
      omega
    have hw1 : IntKind.wrap .i64 ((i : Int) + 1) = ((i + 1 : Nat) : Int) := by rw [w64 (by omega) (by omega)]; rfl
    refine runS_x (I := inf) (J := jnf) ⟨false, false, [], 0, 0⟩ 9999 rfl (by repeat (first | exact obs_nil | refine obs_draw (by kernel_rfl) ?_ | refine obs_same ?_ | refine obs_and ?_ | refine obs_by (by (simp [inB, blS, hil] <;> omega)) ?_)) ?_
    refine runS_call rfl rfl rfl rfl rfl rfl rfl (r_space (byt s i)) ?_
    refine runS_x (I := inf) (J := jnf) ⟨false, false, [], 0, 0⟩ 9999 rfl (by repeat (first | exact obs_nil | refine obs_draw (by kernel_rfl) ?_ | refine obs_same ?_ | refine obs_and ?_ | refine obs_by (by (simp [inB] <;> omega)) ?_)) ?_
    refine runS_cond rfl (fun h1 => ?_) (fun h1 => ?_)
    · refine runS_x (I := inf) (J := jnf) ⟨false, false, [], 0, 0⟩ 9999 rfl (by repeat (first | exact obs_nil | refine obs_draw (by kernel_rfl) ?_ | refine obs_same ?_ | refine obs_and ?_ | refine obs_by (by (simp [inB] <;> omega)) ?_)) ?_
      exact ih (i + 1) _ _ (by omega) ⟨⟨rfl, congrArg iv hw1⟩, rfl, hil, hq.trans (gapR_sp hil h1)⟩
    · have h1' : spP (byt s i) = false := h1
      refine runS_x (I := inf) (J := jnf) ⟨false, false, [], 0, 0⟩ 9999 rfl (by repeat (first | exact obs_nil | refine obs_draw (by kernel_rfl) ?_ | refine obs_same ?_ | refine obs_and ?_ | refine obs_by (by (simp [inB] <;> omega)) ?_)) ?_
      refine runS_call rfl rfl rfl rfl rfl rfl rfl (r_begins s [47, 42] i (by omega) (by omega) (by decide)) ?_
      refine runS_x (I := inf) (J := jnf) ⟨false, false, [], 0, 0⟩ 9999 rfl (by repeat (first | exact obs_nil | refine obs_draw (by kernel_rfl) ?_ | refine obs_same ?_ | refine obs_and ?_ | refine obs_by (by (simp [inB] <;> omega)) ?_)) ?_
      have hpr : ([47, 42] : Str).isPrefixOf (s.drop i) = decide (byt s i = 47 ∧ byt s (i + 1) = 42) := pre2 s i 47 42 (by decide) (by decide) (by decide) (by decide)
      refine runS_cond rfl (fun h2 => ?_) (fun h2 => ?_)
      · have h3 : ¬ (byt s i = 47 ∧ byt s (i + 1) = 42) := by
          have h4 : (!([47, 42] : Str).isPrefixOf (s.drop i)) = true := h2
          rw [hpr] at h4
          simp at h4
          omega
        refine runS_x (I := inf) (J := jnf) ⟨false, false, [], 0, 0⟩ 9999 rfl (by repeat (first | exact obs_nil | refine obs_draw (by kernel_rfl) ?_ | refine obs_same ?_ | refine obs_and ?_ | refine obs_by (by (simp [inB] <;> omega)) ?_)) ?_
        refine runS_ret (I := inf) 0 rfl (Nat.le_refl _) rfl .nil rfl ⟨?_, rfl⟩
        rw [hq, gapR_tok hil h1' h3]
        rfl
      · have h3 : byt s i = 47 ∧ byt s (i + 1) = 42 := by
          have h4 : (!([47, 42] : Str).isPrefixOf (s.drop i)) = false := h2
          rw [hpr] at h4
          simpa using h4
        have hi2 : i + 1 < s.length := byt_lt (by omega)
        have hw2 : IntKind.wrap .i64 ((i : Int) + 2) = ((i + 2 : Nat) : Int) := by rw [w64 (by omega) (by omega)]; rfl
        refine runS_x (I := inf) (J := jnf) ⟨false, false, [], 0, 0⟩ 9999 rfl (by repeat (first | exact obs_nil | refine obs_draw (by kernel_rfl) ?_ | refine obs_same ?_ | refine obs_and ?_ | refine obs_by (by (simp [inB] <;> omega)) ?_)) ?_
        rw [hw2]
        refine runS_while (fun (x : Nat × Nat) τ ar => (τ 0 = sv s ∧ τ 1 = iv i ∧ τ 6 = iv (if x.2 = 0 then -1 else (x.2 : Int)) ∧ τ 7 = iv x.1) ∧ ar = [] ∧ x.1 ≤ s.length + 1 ∧ i < x.1 ∧ (x.2 = 0 → comL s i (i + 2) = comL s i x.1) ∧ (x.2 ≠ 0 → comL s i (i + 2) = .ok none x.2)) (fun x => s.length + 1 - x.1) (i + 2, 0) ⟨⟨rfl, rfl, rfl, rfl⟩, rfl, by dsimp only; omega, by dsimp only; omega, fun _ => rfl, fun h => absurd rfl h⟩ ?_
        rintro ⟨k, e⟩ τ' ar' ⟨⟨g0, g1, g6, g7⟩, rfl, hk, hik, he0, he1⟩ ih2
        dsimp only at hk hik he0 he1 ih2
        refine runS_says 0 (by exact g0) (Says.refl _) ?_; refine runS_says 1 (by exact g1) (Says.refl _) ?_; refine runS_says 6 (by exact g6) (Says.refl _) ?_; refine runS_says 7 (by exact g7) (Says.refl _) ?_
        refine runS_x (I := inf) (J := jnf) ⟨false, false, [], 0, 0⟩ 9999 rfl (by repeat (first | exact obs_nil | refine obs_draw (by kernel_rfl) ?_ | refine obs_same ?_ | refine obs_and ?_ | refine obs_by (by (simp [inB, blS] <;> omega)) ?_)) ?_
        have hcd : (if decide ((k : Int) < (s.length : Int)) = true then decide ((if e = 0 then -1 else (e : Int)) < 0) else false) = decide (k < s.length ∧ e = 0) := by
          rw [Bool.eq_iff_iff]
          by_cases h : k < s.length <;> by_cases h2 : e = 0 <;> simp [h, h2]
        refine runS_cond rfl (fun h4 => ?_) (fun h4 => ?_)
        · obtain ⟨hkl, rfl⟩ := of_decide_eq_true (hcd.symm.trans h4)
          have he0' := he0 rfl
          have hwk : IntKind.wrap .i64 ((k : Int) + 1) = ((k + 1 : Nat) : Int) := by rw [w64 (by omega) (by omega)]; rfl
          have hwk2 : IntKind.wrap .i64 ((k : Int) + 2) = ((k + 2 : Nat) : Int) := by rw [w64 (by omega) (by omega)]; rfl
          refine runS_x (I := inf) (J := jnf) ⟨false, false, [], 0, 0⟩ 9999 rfl (by repeat (first | exact obs_nil | refine obs_draw (by kernel_rfl) ?_ | refine obs_same ?_ | refine obs_and ?_ | refine obs_by (by (simp [inB, blS, hkl] <;> omega)) ?_)) ?_
          refine runS_call rfl rfl rfl rfl rfl rfl rfl (r_source (byt s k)) ?_
          refine runS_x (I := inf) (J := jnf) ⟨false, false, [], 0, 0⟩ 9999 rfl (by repeat (first | exact obs_nil | refine obs_draw (by kernel_rfl) ?_ | refine obs_same ?_ | refine obs_and ?_ | refine obs_by (by (simp [inB] <;> omega)) ?_)) ?_
          refine runS_cond rfl (fun h5 => ?_) (fun h5 => ?_)
          · have hpl : plP (byt s k) = false := by simpa using h5
            refine runS_x (I := inf) (J := jnf) ⟨false, false, [], 0, 0⟩ 9999 rfl (by repeat (first | exact obs_nil | refine obs_draw (by kernel_rfl) ?_ | refine obs_same ?_ | refine obs_and ?_ | refine obs_by (by (simp [inB] <;> omega)) ?_)) ?_
            refine runS_ret (I := inf) 0 rfl (Nat.le_refl _) rfl .nil rfl ⟨?_, rfl⟩
            rw [hq, gapR_bad hil h3 (he0'.trans (comL_bad hkl hpl))]
            rfl
          · have hpl : plP (byt s k) = true := by simpa using h5
            refine runS_x (I := inf) (J := jnf) ⟨false, false, [], 0, 0⟩ 9999 rfl (by repeat (first | exact obs_nil | refine obs_draw (by kernel_rfl) ?_ | refine obs_same ?_ | refine obs_and ?_ | refine obs_by (by (simp [inB] <;> omega)) ?_)) ?_
            refine runS_call rfl rfl rfl rfl rfl rfl rfl (r_begins s [42, 47] k (by omega) (by omega) (by decide)) ?_
            refine runS_x (I := inf) (J := jnf) ⟨false, false, [], 0, 0⟩ 9999 rfl (by repeat (first | exact obs_nil | refine obs_draw (by kernel_rfl) ?_ | refine obs_same ?_ | refine obs_and ?_ | refine obs_by (by (simp [inB] <;> omega)) ?_)) ?_
            have hpr2 : ([42, 47] : Str).isPrefixOf (s.drop k) = decide (byt s k = 42 ∧ byt s (k + 1) = 47) := pre2 s k 42 47 (by decide) (by decide) (by decide) (by decide)
            refine runS_cond rfl (fun h6 => ?_) (fun h6 => ?_)
            · have h7 : byt s k = 42 ∧ byt s (k + 1) = 47 := of_decide_eq_true (hpr2.symm.trans h6)
              refine runS_x (I := inf) (J := jnf) ⟨false, false, [], 0, 0⟩ 9999 rfl (by repeat (first | exact obs_nil | refine obs_draw (by kernel_rfl) ?_ | refine obs_same ?_ | refine obs_and ?_ | refine obs_by (by (simp [inB] <;> omega)) ?_)) ?_
              refine ih2 (k + 1, k + 2) _ _ (by dsimp only; omega) ⟨⟨rfl, rfl, ?_, congrArg iv hwk⟩, rfl, by dsimp only; omega, by dsimp only; omega, fun h => absurd h (by simp), fun _ => he0'.trans (comL_fin hkl hpl h7)⟩
              have e1 : (if k + 2 = 0 then (-1 : Int) else ((k + 2 : Nat) : Int)) = ((k + 2 : Nat) : Int) := if_neg (by omega)
              exact (congrArg iv hwk2).trans (congrArg iv e1.symm)
            · have h7 : ¬ (byt s k = 42 ∧ byt s (k + 1) = 47) := of_decide_eq_false (hpr2.symm.trans h6)
              refine runS_x (I := inf) (J := jnf) ⟨false, false, [], 0, 0⟩ 9999 rfl (by repeat (first | exact obs_nil | refine obs_draw (by kernel_rfl) ?_ | refine obs_same ?_ | refine obs_and ?_ | refine obs_by (by (simp [inB] <;> omega)) ?_)) ?_
              exact ih2 (k + 1, 0) _ _ (by dsimp only; omega) ⟨⟨rfl, rfl, rfl, congrArg iv hwk⟩, rfl, by dsimp only; omega, by dsimp only; omega, fun _ => he0'.trans (comL_go hkl hpl h7), fun h => absurd rfl h⟩
        · have hno := of_decide_eq_false (hcd.symm.trans h4)
          refine runS_x (I := inf) (J := jnf) ⟨false, false, [], 0, 0⟩ 9999 rfl (by repeat (first | exact obs_nil | refine obs_draw (by kernel_rfl) ?_ | refine obs_same ?_ | refine obs_and ?_ | refine obs_by (by (simp [inB] <;> omega)) ?_)) ?_
          by_cases hez : e = 0
          · subst hez
            refine runS_cond rfl (fun h5 => ?_) (fun h5 => by cases h5)
            refine runS_x (I := inf) (J := jnf) ⟨false, false, [], 0, 0⟩ 9999 rfl (by repeat (first | exact obs_nil | refine obs_draw (by kernel_rfl) ?_ | refine obs_same ?_ | refine obs_and ?_ | refine obs_by (by (simp [inB] <;> omega)) ?_)) ?_
            refine runS_ret (I := inf) 0 rfl (Nat.le_refl _) rfl .nil rfl ⟨?_, rfl⟩
            rw [hq, gapR_bad hil h3 ((he0 rfl).trans (comL_end (by intro h; exact hno ⟨h, rfl⟩)))]
            rfl
          · refine runS_cond rfl (fun h5 => ?_) (fun h5 => ?_)
            · exfalso
              have h6 : decide ((if e = 0 then -1 else (e : Int)) < 0) = true := h5
              rw [if_neg hez] at h6
              simp at h6
              omega
            · have hcl := comL_le (he1 hez)
              refine runS_x (I := inf) (J := jnf) ⟨false, false, [], 0, 0⟩ 9999 rfl (by repeat (first | exact obs_nil | refine obs_draw (by kernel_rfl) ?_ | refine obs_same ?_ | refine obs_and ?_ | refine obs_by (by (simp [inB] <;> omega)) ?_)) ?_
              refine ih e _ _ (by omega) ⟨⟨rfl, ?_⟩, rfl, by omega, hq.trans (gapR_com hil h3 (he1 hez))⟩
              have e1 : (if e = 0 then (-1 : Int) else (e : Int)) = (e : Int) := if_neg hez
              exact congrArg iv e1
  · have hie : i = s.length := by
      have : decide ((i : Int) < (s.length : Int)) = false := h
      simp at this
      omega
    refine runS_x (I := inf) (J := jnf) ⟨false, false, [], 0, 0⟩ 9999 rfl (by repeat (first | exact obs_nil | refine obs_draw (by kernel_rfl) ?_ | refine obs_same ?_ | refine obs_and ?_ | refine obs_by (by (simp [inB] <;> omega)) ?_)) ?_
    refine runS_ret (I := inf) 0 rfl (Nat.le_refl _) rfl .nil rfl ⟨?_, rfl⟩
    rw [hq, gapR_end (by omega)]
    rfl
/-- The token that the reference gives beside a place that is wrong. -/
def nextT (s : Str) (p : Nat) : Tk :=
  if begP (byt s p) = true then ⟨0, [], p⟩
  else if digP (byt s p) = true ∨ (byt s p = 46 ∧ digP (byt s (p + 1)) = true) then ⟨0, [], p⟩
  else if byt s p = 39 then quoB s p
  else ⟨0, [], p⟩
theorem r_next (s : Str) (p : Nat) (hs : s.length ≤ 24000) (hp : p < s.length) : CallT Tryz.prog 58 [sv s, iv p] [] (fun o A => o = .ret (nxtA (nextT s p) (nextR s p)) ∧ A = []) := by
  have hbl := beg_let (byt s p)
  refine callS_body (n := 145) rfl rfl fun w ρ X => ?_
  refine runS_x (I := inf) (J := jnf) ⟨false, false, [], 0, 0⟩ 9999 rfl (by repeat (first | exact obs_nil | refine obs_draw (by kernel_rfl) ?_ | refine obs_same ?_ | refine obs_and ?_ | refine obs_by (by (simp [inB, blS, hp] <;> omega)) ?_)) ?_
  refine runS_call rfl rfl rfl rfl rfl rfl rfl (r_letter (byt s p)) ?_
  refine runS_x (I := inf) (J := jnf) ⟨false, false, [], 0, 0⟩ 9999 rfl (by repeat (first | exact obs_nil | refine obs_draw (by kernel_rfl) ?_ | refine obs_same ?_ | refine obs_and ?_ | refine obs_by (by (simp [inB] <;> omega)) ?_)) ?_
  refine runS_callU rfl rfl (by first | exact .v rfl rfl rfl rfl | exact .o rfl rfl rfl rfl) rfl rfl (by repeat (first | exact .nil | refine .cons (.n rfl) ?_ | refine .cons .o ?_ | refine .cons gok_and ?_)) rfl rfl rfl rfl rfl (fun _ => (r_mark (byt s p))) ?_
  refine runS_x (I := inf) (J := jnf) ⟨false, false, [], 0, 0⟩ 9999 rfl (by repeat (first | exact obs_nil | refine obs_draw (by kernel_rfl) ?_ | refine obs_same ?_ | refine obs_and ?_ | refine obs_by (by (simp [inB] <;> omega)) ?_)) ?_
  have hcd : (if letP (byt s p) = true then true else mrkP (byt s p)) = begP (byt s p) := by
    rw [hbl]
    cases letP (byt s p) <;> rfl
  refine runS_cond rfl (fun h => ?_) (fun h => ?_)
  · have hb : begP (byt s p) = true := hcd.symm.trans h
    have e1 : nextT s p = ⟨0, [], p⟩ := by unfold nextT; rw [if_pos hb]
    have e2 : nextR s p = readName s p := by unfold nextR; rw [if_pos hb]
    rw [e1, e2]
    clear hcd h hbl e1 e2
    refine runS_x (I := inf) (J := jnf) ⟨false, false, [], 0, 0⟩ 9999 rfl (by repeat (first | exact obs_nil | refine obs_draw (by kernel_rfl) ?_ | refine obs_same ?_ | refine obs_and ?_ | refine obs_by (by (simp [inB] <;> omega)) ?_)) ?_
    refine runS_while (fun (q : Nat) τ ar => (τ 0 = sv s ∧ τ 1 = iv p ∧ τ 4 = .ptr 0 0 0 ∧ τ 7 = .ptr 1 0 0 ∧ τ 9 = iv q) ∧ ar = [tB 0 [] 0, tB 0 [] p] ∧ q ≤ s.length ∧ p ≤ q ∧ spanN s goP p = spanN s goP q) (fun q => s.length - q) p ⟨⟨rfl, rfl, rfl, rfl, rfl⟩, rfl, by omega, Nat.le_refl _, rfl⟩ ?_
    rintro q τ' ar' ⟨⟨g0, g1, g4, g7, g9⟩, rfl, hq, hpq, he⟩ ih
    refine runS_says 0 (by exact g0) (Says.refl _) ?_; refine runS_says 1 (by exact g1) (Says.refl _) ?_; refine runS_says 4 (by exact g4) (Says.refl _) ?_; refine runS_says 7 (by exact g7) (Says.refl _) ?_; refine runS_says 9 (by exact g9) (Says.refl _) ?_
    refine runS_x (I := inf) (J := jnf) ⟨false, false, [], 0, 0⟩ 9999 rfl (by repeat (first | exact obs_nil | refine obs_draw (by kernel_rfl) ?_ | refine obs_same ?_ | refine obs_and ?_ | refine obs_by (by (simp [inB, blS] <;> omega)) ?_)) ?_
    refine runS_callU rfl rfl (by first | exact .v rfl rfl rfl rfl | exact .o rfl rfl rfl rfl) rfl rfl (by repeat (first | exact .nil | refine .cons (.n rfl) ?_ | refine .cons .o ?_ | refine .cons gok_and ?_)) rfl rfl rfl rfl rfl (fun _ => (r_within (byt s q))) ?_
    refine runS_x (I := inf) (J := jnf) ⟨false, false, [], 0, 0⟩ 9999 rfl (by repeat (first | exact obs_nil | refine obs_draw (by kernel_rfl) ?_ | refine obs_same ?_ | refine obs_and ?_ | refine obs_by (by (simp [inB] <;> omega)) ?_)) ?_
    have hcd : (if decide ((q : Int) < (s.length : Int)) = true then goP (byt s q) else false) = decide (q < s.length ∧ goP (byt s q) = true) := by
      rw [Bool.eq_iff_iff]
      by_cases h : q < s.length <;> simp [h]
    refine runS_cond rfl (fun h => ?_) (fun h => ?_)
    · obtain ⟨hql, hg⟩ := of_decide_eq_true (hcd.symm.trans h)
      have hw1 : IntKind.wrap .i64 ((q : Int) + 1) = ((q + 1 : Nat) : Int) := by rw [w64 (by omega) (by omega)]; rfl
      refine runS_x (I := inf) (J := jnf) ⟨false, false, [], 0, 0⟩ 9999 rfl (by repeat (first | exact obs_nil | refine obs_draw (by kernel_rfl) ?_ | refine obs_same ?_ | refine obs_and ?_ | refine obs_by (by (simp [inB] <;> omega)) ?_)) ?_
      exact ih (q + 1) _ _ (by omega) ⟨⟨rfl, rfl, rfl, rfl, congrArg iv hw1⟩, rfl, hql, by omega, he.trans (spanN_go hql hg)⟩
    · have hno := of_decide_eq_false (hcd.symm.trans h)
      have hsp : spanN s goP p = q := he.trans (spanN_end hno)
      have hrn : readName s p = if q - p > 31 then .bad p else .ok (some ⟨1, upS (Tok.part s p q), p⟩) q := by
        rw [← hsp]; rfl
      have hw : IntKind.wrap .i64 ((q : Int) - (p : Int)) = ((q - p : Nat) : Int) := by rw [w64 (by omega) (by omega)]; omega
      clear ih he hcd
      refine runS_x (I := inf) (J := jnf) ⟨false, false, [], 0, 0⟩ 9999 rfl (by repeat (first | exact obs_nil | refine obs_draw (by kernel_rfl) ?_ | refine obs_same ?_ | refine obs_and ?_ | refine obs_by (by (simp [inB] <;> omega)) ?_)) ?_
      refine runS_cond rfl (fun h => ?_) (fun h => ?_)
      · have hb : q - p > 31 := by
          have : decide (IntKind.wrap .i64 ((q : Int) - (p : Int)) > 31) = true := h
          rw [hw] at this
          simp at this
          omega
        refine runS_x (I := inf) (J := jnf) ⟨false, false, [], 0, 0⟩ 9999 rfl (by repeat (first | exact obs_nil | refine obs_draw (by kernel_rfl) ?_ | refine obs_same ?_ | refine obs_and ?_ | refine obs_by (by (simp [inB] <;> omega)) ?_)) ?_
        refine runS_ret (I := inf) 0 rfl (Nat.le_refl _) rfl .nil rfl ⟨?_, rfl⟩
        rw [hrn, if_pos hb]
        rfl
      · have hb : ¬ q - p > 31 := by
          have : decide (IntKind.wrap .i64 ((q : Int) - (p : Int)) > 31) = false := h
          rw [hw] at this
          simp at this
          omega
        refine runS_x (I := inf) (J := jnf) ⟨false, false, [], 0, 0⟩ 9999 rfl (by repeat (first | exact obs_nil | refine obs_draw (by kernel_rfl) ?_ | refine obs_same ?_ | refine obs_and ?_ | refine obs_by (by (simp [inB, blS, hpq, hq] <;> omega)) ?_)) ?_
        refine runS_call rfl rfl rfl rfl rfl rfl rfl (r_great (Tok.part s p q) (by have := part_le s p q; omega)) ?_
        refine runS_x (I := inf) (J := jnf) ⟨false, false, [], 0, 0⟩ 9999 rfl (by repeat (first | exact obs_nil | refine obs_draw (by kernel_rfl) ?_ | refine obs_same ?_ | refine obs_and ?_ | refine obs_by (by (simp [inB] <;> omega)) ?_)) ?_
        refine runS_ret (I := inf) 0 rfl (Nat.le_refl _) rfl .nil rfl ⟨?_, rfl⟩
        rw [hrn, if_neg hb]
        rfl
  · have hb : begP (byt s p) = false := hcd.symm.trans h
    clear hcd h
    refine runS_x (I := inf) (J := jnf) ⟨false, false, [], 0, 0⟩ 9999 rfl (by repeat (first | exact obs_nil | refine obs_draw (by kernel_rfl) ?_ | refine obs_same ?_ | refine obs_and ?_ | refine obs_by (by (simp [inB, blS] <;> omega)) ?_)) ?_
    refine runS_call rfl rfl rfl rfl rfl rfl rfl (r_digit (byt s p)) ?_
    have hw1 : IntKind.wrap .i64 ((p : Int) + 1) = ((p + 1 : Nat) : Int) := by rw [w64 (by omega) (by omega)]; rfl
    refine runS_x (I := inf) (J := jnf) ⟨false, false, [], 0, 0⟩ 9999 rfl (by repeat (first | exact obs_nil | refine obs_draw (by kernel_rfl) ?_ | refine obs_same ?_ | refine obs_and ?_ | refine obs_by (by (simp [inB, blS, hw1] <;> omega)) ?_)) ?_
    refine runS_callU rfl rfl (by first | exact .v rfl rfl rfl rfl | exact .o rfl rfl rfl rfl) rfl rfl (by repeat (first | exact .nil | refine .cons (.n rfl) ?_ | refine .cons .o ?_ | refine .cons gok_and ?_)) rfl rfl rfl rfl rfl (fun _ => (r_digit _)) ?_
    refine runS_x (I := inf) (J := jnf) ⟨false, false, [], 0, 0⟩ 9999 rfl (by repeat (first | exact obs_nil | refine obs_draw (by kernel_rfl) ?_ | refine obs_same ?_ | refine obs_and ?_ | refine obs_by (by (simp [inB] <;> omega)) ?_)) ?_
    have hcd : (if digP (byt s p) = true then true else (if (if (((byt s p : Nat) : Int) == 46) = true then decide (IntKind.wrap .i64 ((p : Int) + 1) < (s.length : Int)) else false) = true then digP (s.getD (IntKind.wrap .i64 ((p : Int) + 1)).toNat 0).toNat else false)) = decide (digP (byt s p) = true ∨ (byt s p = 46 ∧ digP (byt s (p + 1)) = true)) := by
      rw [hw1, Int.toNat_natCast]
      show (if digP (byt s p) = true then true else (if (if (((byt s p : Nat) : Int) == 46) = true then decide (((p + 1 : Nat) : Int) < (s.length : Int)) else false) = true then digP (byt s (p + 1)) else false)) = _
      rw [Bool.eq_iff_iff]
      by_cases h46 : byt s p = 46
      · by_cases hl : p + 1 < s.length
        · have : ((p + 1 : Nat) : Int) < (s.length : Int) := by omega
          rw [decide_eq_true this, h46]
          cases digP (byt s (p + 1)) <;> simp [digP]
        · have h0 : byt s (p + 1) = 0 := byt_end (by omega)
          have : ¬ ((p + 1 : Nat) : Int) < (s.length : Int) := by omega
          rw [decide_eq_false this, h46, h0]
          simp [digP]
      · have : (((byt s p : Nat) : Int) == 46) = false := by simp; omega
        rw [this]
        cases digP (byt s p) <;> simp [h46]
    refine runS_cond rfl (fun h => ?_) (fun h => ?_)
    · have hc := of_decide_eq_true (hcd.symm.trans h)
      have e1 : nextT s p = ⟨0, [], p⟩ := by unfold nextT; rw [if_neg (by rw [hb]; decide), if_pos hc]
      have e2 : nextR s p = readNum s p := by unfold nextR; rw [if_neg (by rw [hb]; decide), if_pos hc]
      rw [e1, e2]
      clear hcd h hbl e1 e2
      have hnE := numE_le (s := s) (p := p) (by omega)
      have hnD := numD_le (s := s) (p := p) (by omega)
      have hR1 := rNum_eq s p
      have hR2 := fun h => rNum_end (s := s) (p := p) h
      have hrn : readNum s p = if (numE s p).2 = true ∧ goP (byt s (numE s p).1) = false then .ok (some ⟨2, upS (Tok.part s p (numE s p).1), p⟩) (numE s p).1 else .bad p := rfl
      refine runS_x (I := inf) (J := jnf) ⟨false, false, [], 0, 0⟩ 9999 rfl (by repeat (first | exact obs_nil | refine obs_draw (by kernel_rfl) ?_ | refine obs_same ?_ | refine obs_and ?_ | refine obs_by (by (simp [inB] <;> omega)) ?_)) ?_
      refine runS_call rfl rfl rfl rfl rfl rfl rfl (r_number s p (by omega) (by omega)) ?_
      generalize rNum s p = x at hR1 hR2 ⊢
      obtain ⟨k, ok⟩ := x
      dsimp only at hR1 hR2
      refine runS_x (I := inf) (J := jnf) ⟨false, false, [], 0, 0⟩ 9999 rfl (by repeat (first | exact obs_nil | refine obs_draw (by kernel_rfl) ?_ | refine obs_same ?_ | refine obs_and ?_ | refine obs_by (by (simp [inB, blS] <;> omega)) ?_)) ?_
      refine runS_callU rfl rfl (by first | exact .v rfl rfl rfl rfl | exact .o rfl rfl rfl rfl) rfl rfl (by repeat (first | exact .nil | refine .cons (.n rfl) ?_ | refine .cons .o ?_ | refine .cons gok_and ?_)) rfl rfl rfl rfl rfl (fun _ => (r_within (byt s k))) ?_
      refine runS_x (I := inf) (J := jnf) ⟨false, false, [], 0, 0⟩ 9999 rfl (by repeat (first | exact obs_nil | refine obs_draw (by kernel_rfl) ?_ | refine obs_same ?_ | refine obs_and ?_ | refine obs_by (by (simp [inB] <;> omega)) ?_)) ?_
      have hcd : (if (!ok) = true then true else (if decide ((k : Int) < (s.length : Int)) = true then goP (byt s k) else false)) = !decide (ok = true ∧ goP (byt s k) = false) := by
        rw [go_cond]
        cases ok <;> cases goP (byt s k) <;> rfl
      refine runS_cond rfl (fun h => ?_) (fun h => ?_)
      · have hn : ¬ (ok = true ∧ goP (byt s k) = false) := by
          intro e
          have := hcd.symm.trans h
          rw [decide_eq_true e] at this
          cases this
        refine runS_x (I := inf) (J := jnf) ⟨false, false, [], 0, 0⟩ 9999 rfl (by repeat (first | exact obs_nil | refine obs_draw (by kernel_rfl) ?_ | refine obs_same ?_ | refine obs_and ?_ | refine obs_by (by (simp [inB] <;> omega)) ?_)) ?_
        refine runS_ret (I := inf) 0 rfl (Nat.le_refl _) rfl .nil rfl ⟨?_, rfl⟩
        rw [hrn, if_neg (fun e => hn (hR1.2 e))]
        rfl
      · have hy : ok = true ∧ goP (byt s k) = false := by
          have := hcd.symm.trans h
          exact of_decide_eq_true (by simpa using this)
        have hk := hR2 hy
        have hpk : p ≤ k := by omega
        have hkl : k ≤ s.length := by omega
        refine runS_x (I := inf) (J := jnf) ⟨false, false, [], 0, 0⟩ 9999 rfl (by repeat (first | exact obs_nil | refine obs_draw (by kernel_rfl) ?_ | refine obs_same ?_ | refine obs_and ?_ | refine obs_by (by (simp [inB, blS, hpk, hkl] <;> omega)) ?_)) ?_
        refine runS_call rfl rfl rfl rfl rfl rfl rfl (r_great (Tok.part s p k) (by have := part_le s p k; omega)) ?_
        refine runS_x (I := inf) (J := jnf) ⟨false, false, [], 0, 0⟩ 9999 rfl (by repeat (first | exact obs_nil | refine obs_draw (by kernel_rfl) ?_ | refine obs_same ?_ | refine obs_and ?_ | refine obs_by (by (simp [inB] <;> omega)) ?_)) ?_
        refine runS_ret (I := inf) 0 rfl (Nat.le_refl _) rfl .nil rfl ⟨?_, rfl⟩
        rw [hrn, if_pos (hR1.1 hy), ← hk]
        rfl
    · have hc := of_decide_eq_false (hcd.symm.trans h)
      clear hcd h hbl
      refine runS_x (I := inf) (J := jnf) ⟨false, false, [], 0, 0⟩ 9999 rfl (by repeat (first | exact obs_nil | refine obs_draw (by kernel_rfl) ?_ | refine obs_same ?_ | refine obs_and ?_ | refine obs_by (by (simp [inB] <;> omega)) ?_)) ?_
      refine runS_cond rfl (fun h => ?_) (fun h => ?_)
      · have h39 : byt s p = 39 := by
          have : (((byt s p : Nat) : Int) == 39) = true := h
          simp at this
          omega
        have e1 : nextT s p = quoB s p := by unfold nextT; rw [if_neg (by rw [hb]; decide), if_neg hc, if_pos h39]
        have e2 : nextR s p = readQuo s p := by unfold nextR; rw [if_neg (by rw [hb]; decide), if_neg hc, if_pos h39]
        rw [e1, e2]
        refine runS_x (I := inf) (J := jnf) ⟨false, false, [], 0, 0⟩ 9999 rfl (by repeat (first | exact obs_nil | refine obs_draw (by kernel_rfl) ?_ | refine obs_same ?_ | refine obs_and ?_ | refine obs_by (by (simp [inB] <;> omega)) ?_)) ?_
        have hcall := r_quoted s p hs hp
        cases hr : readQuo s p with
        | bad q =>
          rw [hr] at hcall
          refine runS_call rfl rfl rfl rfl rfl rfl rfl hcall ?_
          refine runS_x (I := inf) (J := jnf) ⟨false, false, [], 0, 0⟩ 9999 rfl (by repeat (first | exact obs_nil | refine obs_draw (by kernel_rfl) ?_ | refine obs_same ?_ | refine obs_and ?_ | refine obs_by (by (simp [inB] <;> omega)) ?_)) ?_
          refine runS_ret (I := inf) 0 rfl (Nat.le_refl _) rfl .nil rfl ⟨?_, rfl⟩
          rfl
        | ok t q =>
          rw [hr] at hcall
          cases t with
          | none =>
            refine runS_call rfl rfl rfl rfl rfl rfl rfl hcall ?_
            refine runS_x (I := inf) (J := jnf) ⟨false, false, [], 0, 0⟩ 9999 rfl (by repeat (first | exact obs_nil | refine obs_draw (by kernel_rfl) ?_ | refine obs_same ?_ | refine obs_and ?_ | refine obs_by (by (simp [inB] <;> omega)) ?_)) ?_
            refine runS_ret (I := inf) 0 rfl (Nat.le_refl _) rfl .nil rfl ⟨?_, rfl⟩
            rfl
          | some t =>
            refine runS_call rfl rfl rfl rfl rfl rfl rfl hcall ?_
            refine runS_x (I := inf) (J := jnf) ⟨false, false, [], 0, 0⟩ 9999 rfl (by repeat (first | exact obs_nil | refine obs_draw (by kernel_rfl) ?_ | refine obs_same ?_ | refine obs_and ?_ | refine obs_by (by (simp [inB] <;> omega)) ?_)) ?_
            refine runS_ret (I := inf) 0 rfl (Nat.le_refl _) rfl .nil rfl ⟨?_, rfl⟩
            rfl
      · have h39 : ¬ byt s p = 39 := by
          have : (((byt s p : Nat) : Int) == 39) = false := h
          simp at this
          omega
        have e1 : nextT s p = ⟨0, [], p⟩ := by unfold nextT; rw [if_neg (by rw [hb]; decide), if_neg hc, if_neg h39]
        have e2 : nextR s p = match opers.find? fun o => o.isPrefixOf (s.drop p) with
            | some o => .ok (some ⟨5, o, p⟩) (p + o.length)
            | none => .bad p := by unfold nextR; rw [if_neg (by rw [hb]; decide), if_neg hc, if_neg h39] <;> rfl
        rw [e1, e2]
        refine runS_x (I := inf) (J := jnf) ⟨false, false, [], 0, 0⟩ 9999 rfl (by repeat (first | exact obs_nil | refine obs_draw (by kernel_rfl) ?_ | refine obs_same ?_ | refine obs_and ?_ | refine obs_by (by (simp [inB] <;> omega)) ?_)) ?_
        refine runS_call rfl rfl rfl rfl rfl rfl rfl r_opers ?_
        refine runS_x (I := inf) (J := jnf) ⟨false, false, [], 0, 0⟩ 9999 rfl (by repeat (first | exact obs_nil | refine obs_draw (by kernel_rfl) ?_ | refine obs_same ?_ | refine obs_and ?_ | refine obs_by (by (simp [inB] <;> omega)) ?_)) ?_
        have hol2 : opers.length = 25 := rfl
        refine runS_while (fun (i : Nat) τ ar => (τ 0 = sv s ∧ τ 1 = iv p ∧ τ 4 = .ptr 0 0 0 ∧ τ 7 = .ptr 1 0 0 ∧ τ 12 = txtS none opers ∧ τ 13 = iv i) ∧ ar = [tB 0 [] 0, tB 0 [] p] ∧ i ≤ 25 ∧ ∀ j, j < i → (opers.getD j []).isPrefixOf (s.drop p) = false) (fun i => 25 - i) 0 ⟨⟨rfl, rfl, rfl, rfl, rfl, rfl⟩, rfl, by omega, fun j hj => by omega⟩ ?_
        rintro i τ' ar' ⟨⟨g0, g1, g4, g7, g12, g13⟩, rfl, hi, hn⟩ ih
        refine runS_says 0 (by exact g0) (Says.refl _) ?_; refine runS_says 1 (by exact g1) (Says.refl _) ?_; refine runS_says 4 (by exact g4) (Says.refl _) ?_; refine runS_says 7 (by exact g7) (Says.refl _) ?_; refine runS_says 12 (by exact g12) (Says.refl _) ?_; refine runS_says 13 (by exact g13) (Says.refl _) ?_
        refine runS_x (I := inf) (J := jnf) ⟨false, false, [], 0, 0⟩ 9999 rfl (by repeat (first | exact obs_nil | refine obs_draw (by kernel_rfl) ?_ | refine obs_same ?_ | refine obs_and ?_ | refine obs_by (by (simp [inB] <;> omega)) ?_)) ?_
        refine runS_cond rfl (fun h3 => ?_) (fun h3 => ?_)
        · have hi' : i < 25 := by
            have : decide ((i : Int) < (opers.length : Int)) = true := h3
            simp at this
            omega
          have hol := opers_len i hi'
          refine runS_x (I := inf) (J := jnf) ⟨false, false, [], 0, 0⟩ 9999 rfl (by repeat (first | exact obs_nil | refine obs_draw (by kernel_rfl) ?_ | refine obs_same ?_ | refine obs_and ?_ | refine obs_by (by (simp [inB, blS, hi', hol2] <;> omega)) ?_)) ?_
          refine runS_call rfl rfl rfl rfl rfl rfl rfl (r_begins s (opers.getD i []) p (by omega) (by omega) (by omega)) ?_
          refine runS_x (I := inf) (J := jnf) ⟨false, false, [], 0, 0⟩ 9999 rfl (by repeat (first | exact obs_nil | refine obs_draw (by kernel_rfl) ?_ | refine obs_same ?_ | refine obs_and ?_ | refine obs_by (by (simp [inB] <;> omega)) ?_)) ?_
          refine runS_cond rfl (fun h4 => ?_) (fun h4 => ?_)
          · have hfd := find_at (f := fun o : Str => o.isPrefixOf (s.drop p)) (l := opers) (d := []) hi' h4 hn
            rw [hfd]
            have hw : IntKind.wrap .i64 ((p : Int) + ((bl (bs (opers.getD ((i : Int)).toNat []))).length : Int)) = ((p + (opers.getD i []).length : Nat) : Int) := by
              rw [Int.toNat_natCast, blS, w64 (by omega) (by omega)]; rfl
            refine runS_x (I := inf) (J := jnf) ⟨false, false, [], 0, 0⟩ 9999 rfl (by repeat (first | exact obs_nil | refine obs_draw (by kernel_rfl) ?_ | refine obs_same ?_ | refine obs_and ?_ | refine obs_by (by (simp [inB, blS, hi', hol2] <;> omega)) ?_)) ?_
            refine runS_drawG (ch := []) (A2 := fun _ => []) 6 [5] (fun b => [tB 0 [] 0, .box 29 [cond (b.getD 0 false) (.val (.int .i64 5)) (iv (0 : Nat)), sv [], iv p]]) none (c := 9) jnfI.draw (by kernel_rfl) rfl (lexg_g (I := inf) (J := jnf) none ⟨⟨_, rfl, (by repeat (first | exact obs_nil | refine obs_same ?_ | refine obs_and ?_ | refine obs_by (by (simp [inB, blS, hi', hol2] <;> omega)) ?_))⟩, (by first | exact .inl (by decide +kernel) | exact .inr ⟨_, rfl, (by repeat (first | exact obs_nil | refine obs_same ?_ | refine obs_and ?_ | refine obs_by (by (simp [inB, blS, hi', hol2] <;> omega)) ?_))⟩)⟩ rfl rfl rfl rfl (lexg_g (I := inf) (J := jnf) none ⟨⟨_, rfl, (by repeat (first | exact obs_nil | refine obs_same ?_ | refine obs_and ?_ | refine obs_by (by (simp [inB, blS, hi', hol2] <;> omega)) ?_))⟩, (by first | exact .inl (by decide +kernel) | exact .inr ⟨_, rfl, (by repeat (first | exact obs_nil | refine obs_same ?_ | refine obs_and ?_ | refine obs_by (by (simp [inB, blS, hi', hol2] <;> omega)) ?_))⟩)⟩ rfl rfl rfl rfl (lexg_g (I := inf) (J := jnf) none ⟨⟨_, rfl, (by repeat (first | exact obs_nil | refine obs_same ?_ | refine obs_and ?_ | refine obs_by (by (simp [inB, blS, hi', hol2] <;> omega)) ?_))⟩, (by first | exact .inl (by decide +kernel) | exact .inr ⟨_, rfl, (by repeat (first | exact obs_nil | refine obs_same ?_ | refine obs_and ?_ | refine obs_by (by (simp [inB, blS, hi', hol2] <;> omega)) ?_))⟩)⟩ rfl rfl rfl rfl (lexg_g (I := inf) (J := jnf) none ⟨⟨_, rfl, (by repeat (first | exact obs_nil | refine obs_same ?_ | refine obs_and ?_ | refine obs_by (by (simp [inB, blS, hi', hol2] <;> omega)) ?_))⟩, (by first | exact .inl (by decide +kernel) | exact .inr ⟨_, rfl, (by repeat (first | exact obs_nil | refine obs_same ?_ | refine obs_and ?_ | refine obs_by (by (simp [inB, blS, hi', hol2] <;> omega)) ?_))⟩)⟩ rfl rfl rfl rfl (lexg_g (I := inf) (J := jnf) none ⟨⟨_, rfl, (by repeat (first | exact obs_nil | refine obs_same ?_ | refine obs_and ?_ | refine obs_by (by (simp [inB, blS, hi', hol2] <;> omega)) ?_))⟩, (by first | exact .inl (by decide +kernel) | exact .inr ⟨_, rfl, (by repeat (first | exact obs_nil | refine obs_same ?_ | refine obs_and ?_ | refine obs_by (by (simp [inB, blS, hi', hol2] <;> omega)) ?_))⟩)⟩ rfl rfl rfl rfl (lexg_g (I := inf) (J := jnf) (some .store) ⟨⟨_, rfl, (by repeat (first | exact obs_nil | refine obs_same ?_ | refine obs_and ?_ | refine obs_by (by (simp [inB, blS, hi', hol2] <;> omega)) ?_))⟩, .inl rfl⟩ rfl rfl rfl rfl lexg_nil)))))) rfl (fun _ => ?_) (fun h => by cases h)
            refine runS_x (I := inf) (J := jnf) ⟨false, false, [], 0, 0⟩ 9999 rfl (by repeat (first | exact obs_nil | refine obs_draw (by kernel_rfl) ?_ | refine obs_same ?_ | refine obs_and ?_ | refine obs_by (by (simp [inB, blS, hi', hol2] <;> omega)) ?_)) ?_
            refine runS_drawG (ch := []) (A2 := fun _ => []) 9 [8] (fun b => [.box 29 [cond (b.getD 0 false) (.val (.int .i64 5)) (iv (0 : Nat)), cond (b.getD 0 false) (sv (opers.getD i [])) (sv []), cond (b.getD 0 false) (iv p) (iv (0 : Nat))], .box 29 [.val (.int .i64 5), sv (opers.getD i []), iv p]]) none (c := 9) jnfI.draw (by kernel_rfl) rfl (lexg_g (I := inf) (J := jnf) none ⟨⟨_, rfl, (by repeat (first | exact obs_nil | refine obs_same ?_ | refine obs_and ?_ | refine obs_by (by (simp [inB, blS, hi', hol2] <;> omega)) ?_))⟩, (by first | exact .inl (by decide +kernel) | exact .inr ⟨_, rfl, (by repeat (first | exact obs_nil | refine obs_same ?_ | refine obs_and ?_ | refine obs_by (by (simp [inB, blS, hi', hol2] <;> omega)) ?_))⟩)⟩ rfl rfl rfl rfl (lexg_g (I := inf) (J := jnf) none ⟨⟨_, rfl, (by repeat (first | exact obs_nil | refine obs_same ?_ | refine obs_and ?_ | refine obs_by (by (simp [inB, blS, hi', hol2] <;> omega)) ?_))⟩, (by first | exact .inl (by decide +kernel) | exact .inr ⟨_, rfl, (by repeat (first | exact obs_nil | refine obs_same ?_ | refine obs_and ?_ | refine obs_by (by (simp [inB, blS, hi', hol2] <;> omega)) ?_))⟩)⟩ rfl rfl rfl rfl (lexg_g (I := inf) (J := jnf) none ⟨⟨_, rfl, (by repeat (first | exact obs_nil | refine obs_same ?_ | refine obs_and ?_ | refine obs_by (by (simp [inB, blS, hi', hol2] <;> omega)) ?_))⟩, (by first | exact .inl (by decide +kernel) | exact .inr ⟨_, rfl, (by repeat (first | exact obs_nil | refine obs_same ?_ | refine obs_and ?_ | refine obs_by (by (simp [inB, blS, hi', hol2] <;> omega)) ?_))⟩)⟩ rfl rfl rfl rfl (lexg_g (I := inf) (J := jnf) none ⟨⟨_, rfl, (by repeat (first | exact obs_nil | refine obs_same ?_ | refine obs_and ?_ | refine obs_by (by (simp [inB, blS, hi', hol2] <;> omega)) ?_))⟩, (by first | exact .inl (by decide +kernel) | exact .inr ⟨_, rfl, (by repeat (first | exact obs_nil | refine obs_same ?_ | refine obs_and ?_ | refine obs_by (by (simp [inB, blS, hi', hol2] <;> omega)) ?_))⟩)⟩ rfl rfl rfl rfl (lexg_g (I := inf) (J := jnf) none ⟨⟨_, rfl, (by repeat (first | exact obs_nil | refine obs_same ?_ | refine obs_and ?_ | refine obs_by (by (simp [inB, blS, hi', hol2] <;> omega)) ?_))⟩, (by first | exact .inl (by decide +kernel) | exact .inr ⟨_, rfl, (by repeat (first | exact obs_nil | refine obs_same ?_ | refine obs_and ?_ | refine obs_by (by (simp [inB, blS, hi', hol2] <;> omega)) ?_))⟩)⟩ rfl rfl rfl rfl (lexg_g (I := inf) (J := jnf) none ⟨⟨_, rfl, (by repeat (first | exact obs_nil | refine obs_same ?_ | refine obs_and ?_ | refine obs_by (by (simp [inB, blS, hi', hol2] <;> omega)) ?_))⟩, (by first | exact .inl (by decide +kernel) | exact .inr ⟨_, rfl, (by repeat (first | exact obs_nil | refine obs_same ?_ | refine obs_and ?_ | refine obs_by (by (simp [inB, blS, hi', hol2] <;> omega)) ?_))⟩)⟩ rfl rfl rfl rfl (lexg_g (I := inf) (J := jnf) none ⟨⟨_, rfl, (by repeat (first | exact obs_nil | refine obs_same ?_ | refine obs_and ?_ | refine obs_by (by (simp [inB, blS, hi', hol2] <;> omega)) ?_))⟩, (by first | exact .inl (by decide +kernel) | exact .inr ⟨_, rfl, (by repeat (first | exact obs_nil | refine obs_same ?_ | refine obs_and ?_ | refine obs_by (by (simp [inB, blS, hi', hol2] <;> omega)) ?_))⟩)⟩ rfl rfl rfl rfl (lexg_g (I := inf) (J := jnf) none ⟨⟨_, rfl, (by repeat (first | exact obs_nil | refine obs_same ?_ | refine obs_and ?_ | refine obs_by (by (simp [inB, blS, hi', hol2] <;> omega)) ?_))⟩, (by first | exact .inl (by decide +kernel) | exact .inr ⟨_, rfl, (by repeat (first | exact obs_nil | refine obs_same ?_ | refine obs_and ?_ | refine obs_by (by (simp [inB, blS, hi', hol2] <;> omega)) ?_))⟩)⟩ rfl rfl rfl rfl (lexg_g (I := inf) (J := jnf) (some .store) ⟨⟨_, rfl, (by repeat (first | exact obs_nil | refine obs_same ?_ | refine obs_and ?_ | refine obs_by (by (simp [inB, blS, hi', hol2] <;> omega)) ?_))⟩, .inl rfl⟩ rfl rfl rfl rfl lexg_nil))))))))) rfl (fun _ => ?_) (fun h => by cases h)
            refine runS_x (I := inf) (J := jnf) ⟨false, false, [], 0, 0⟩ 9999 rfl (by repeat (first | exact obs_nil | refine obs_draw (by kernel_rfl) ?_ | refine obs_same ?_ | refine obs_and ?_ | refine obs_by (by (simp [inB, blS, hi', hol2] <;> omega)) ?_)) ?_
            refine runS_ret (I := inf) 0 rfl (Nat.le_refl _) rfl .nil rfl ⟨?_, rfl⟩
            exact congrArg (fun z => Out.ret (.tup [.agg (tkE ⟨5, opers.getD i [], p⟩), iv z, iv (-1)])) hw
          · have hw : IntKind.wrap .i64 ((i : Int) + 1) = ((i + 1 : Nat) : Int) := by rw [w64 (by omega) (by omega)]; rfl
            refine runS_x (I := inf) (J := jnf) ⟨false, false, [], 0, 0⟩ 9999 rfl (by repeat (first | exact obs_nil | refine obs_draw (by kernel_rfl) ?_ | refine obs_same ?_ | refine obs_and ?_ | refine obs_by (by (simp [inB] <;> omega)) ?_)) ?_
            refine ih (i + 1) _ _ (by omega) ⟨⟨rfl, rfl, rfl, rfl, rfl, congrArg iv hw⟩, rfl, by omega, fun j hj => ?_⟩
            by_cases hji : j = i
            · subst hji; exact h4
            · exact hn j (by omega)
        · have hi' : i = 25 := by
            have : decide ((i : Int) < (opers.length : Int)) = false := h3
            simp at this
            omega
          subst hi'
          have hfd := find_no (f := fun o : Str => o.isPrefixOf (s.drop p)) (l := opers) (d := []) hn
          rw [hfd]
          refine runS_x (I := inf) (J := jnf) ⟨false, false, [], 0, 0⟩ 9999 rfl (by repeat (first | exact obs_nil | refine obs_draw (by kernel_rfl) ?_ | refine obs_same ?_ | refine obs_and ?_ | refine obs_by (by (simp [inB] <;> omega)) ?_)) ?_
          refine runS_ret (I := inf) 0 rfl (Nat.le_refl _) rfl .nil rfl ⟨?_, rfl⟩
          rfl
end Go.Iron.Tryz

/- The token seat: the reference's Scan is the scanner's. -/
namespace Go.Iron.Tryz
open Go.Proofs Go.RowKit Go.Iron.Tok

theorem nextR_no {s : Str} {p q : Nat} : nextR s p ≠ .ok none q := by
  unfold nextR
  intro h
  split at h
  · unfold readName at h
    dsimp only at h
    split at h <;> cases h
  · split at h
    · unfold readNum at h
      split at h <;> cases h
    · split at h
      · unfold readQuo at h
        split at h
        · cases h
        · split at h
          · split at h <;> cases h
          · split at h
            · split at h
              · split at h <;> cases h
              · cases h
            · split at h <;> cases h
      · split at h <;> cases h
theorem r_scan (s : Str) (hs : s.length ≤ 24000) : CallT Tryz.prog 35 [sv s] [] (fun o A => o = .ret (scanA (scanF s)) ∧ A = []) := by
  refine callS_body (n := 43) rfl rfl fun w ρ X => ?_
  refine runS_x (I := inf) (J := jnf) ⟨false, false, [], 0, 0⟩ 9999 rfl (by repeat (first | exact obs_nil | refine obs_draw (by kernel_rfl) ?_ | refine obs_same ?_ | refine obs_and ?_ | refine obs_by (by (simp [inB, blS] <;> omega)) ?_)) ?_
  refine runS_cond rfl (fun h => ?_) (fun h => ?_)
  · have hb : s.length > 20000 := by
      have : decide ((s.length : Int) > 20000) = true := h
      simp at this
      omega
    refine runS_x (I := inf) (J := jnf) ⟨false, false, [], 0, 0⟩ 9999 rfl (by repeat (first | exact obs_nil | refine obs_draw (by kernel_rfl) ?_ | refine obs_same ?_ | refine obs_and ?_ | refine obs_by (by (simp [inB] <;> omega)) ?_)) ?_
    refine runS_says 2 rfl (says_nil0 (sz := 3) (r := nilT) (Nat.zero_le _)) ?_
    refine runS_ret (I := inf) 0 rfl (Nat.le_refl _) rfl .nil rfl ⟨?_, rfl⟩
    rw [scanF, if_pos hb]
    rfl
  · have hb : ¬ s.length > 20000 := by
      have : decide ((s.length : Int) > 20000) = false := h
      simp at this
      omega
    have hfs : scanF s = scanP s 0 [] := by rw [scanF, if_neg hb]; rfl
    refine runS_x (I := inf) (J := jnf) ⟨false, false, [], 0, 0⟩ 9999 rfl (by repeat (first | exact obs_nil | refine obs_draw (by kernel_rfl) ?_ | refine obs_same ?_ | refine obs_and ?_ | refine obs_by (by (simp [inB] <;> omega)) ?_)) ?_
    refine runS_nilRow 5 29 3 nilT rfl rfl ?_
    refine runS_while (fun (x : Nat × List Tk) τ ar => (τ 0 = sv s ∧ τ 5 = .row 0 x.2.length ∧ τ 6 = iv x.1) ∧ ar = [.row 29 3 x.2.length x.2.length (tkR x.2)] ∧ x.1 ≤ s.length ∧ x.2.length ≤ x.1 ∧ scanP s 0 [] = scanP s x.1 x.2) (fun x => s.length - x.1) (0, []) ⟨⟨rfl, rfl, rfl⟩, rfl, Nat.zero_le _, Nat.le_refl _, rfl⟩ ?_
    rintro ⟨i, acc⟩ τ' ar' ⟨⟨g0, g5, g6⟩, rfl, hi, ha, hq⟩ ih
    dsimp only at hi ha hq ih
    refine runS_says 0 (by exact g0) (Says.refl _) ?_; refine runS_says 5 (by exact g5) (Says.refl _) ?_; refine runS_says 6 (by exact g6) (Says.refl _) ?_
    obtain ⟨hg1, hg2⟩ := gap_scan (s := s) (acc := acc) (p := i) hi
    have hcall := r_gap s i hs hi
    refine runS_x (I := inf) (J := jnf) ⟨false, false, [], 0, 0⟩ 9999 rfl (by repeat (first | exact obs_nil | refine obs_draw (by kernel_rfl) ?_ | refine obs_same ?_ | refine obs_and ?_ | refine obs_by (by (simp [inB] <;> omega)) ?_)) ?_
    cases hgr : gapR s i with
    | bad q =>
      rw [hgr] at hcall
      refine runS_call rfl rfl rfl rfl rfl rfl rfl hcall ?_
      refine runS_x (I := inf) (J := jnf) ⟨false, false, [], 0, 0⟩ 9999 rfl (by repeat (first | exact obs_nil | refine obs_draw (by kernel_rfl) ?_ | refine obs_same ?_ | refine obs_and ?_ | refine obs_by (by (simp [inB] <;> omega)) ?_)) ?_
      refine runS_cond rfl (fun h1 => ?_) (fun h1 => ?_)
      · refine runS_x (I := inf) (J := jnf) ⟨false, false, [], 0, 0⟩ 9999 rfl (by repeat (first | exact obs_nil | refine obs_draw (by kernel_rfl) ?_ | refine obs_same ?_ | refine obs_and ?_ | refine obs_by (by (simp [inB] <;> omega)) ?_)) ?_
        refine runS_says 2 rfl (says_nil0 (sz := 3) (r := nilT) (Nat.zero_le _)) ?_
        refine runS_ret (I := inf) 0 rfl (Nat.le_refl _) rfl .nil rfl ⟨?_, rfl⟩
        rw [hfs, hq, hg1 q hgr]
        rfl
      · exfalso
        have : decide ((q : Int) ≥ 0) = false := h1
        simp at this
    | ok t p =>
      rw [hgr] at hcall
      obtain ⟨hsc, hip, hp, htk⟩ := hg2 t p hgr
      refine runS_call rfl rfl rfl rfl rfl rfl rfl hcall ?_
      refine runS_x (I := inf) (J := jnf) ⟨false, false, [], 0, 0⟩ 9999 rfl (by repeat (first | exact obs_nil | refine obs_draw (by kernel_rfl) ?_ | refine obs_same ?_ | refine obs_and ?_ | refine obs_by (by (simp [inB, blS] <;> omega)) ?_)) ?_
      refine runS_cond rfl (fun h1 => by cases h1) (fun h1 => ?_)
      refine runS_x (I := inf) (J := jnf) ⟨false, false, [], 0, 0⟩ 9999 rfl (by repeat (first | exact obs_nil | refine obs_draw (by kernel_rfl) ?_ | refine obs_same ?_ | refine obs_and ?_ | refine obs_by (by (simp [inB, blS] <;> omega)) ?_)) ?_
      refine runS_cond rfl (fun h2 => ?_) (fun h2 => ?_)
      · have hpe : p = s.length := by
          have : ((p : Int) == (s.length : Int)) = true := h2
          simp at this
          omega
        subst hpe
        refine runS_x (I := inf) (J := jnf) ⟨false, false, [], 0, 0⟩ 9999 rfl (by repeat (first | exact obs_nil | refine obs_draw (by kernel_rfl) ?_ | refine obs_same ?_ | refine obs_and ?_ | refine obs_by (by (simp [inB] <;> omega)) ?_)) ?_
        refine runS_freeze 2 rfl rfl rfl (fun j hj => rfl) ?_
        refine runS_ret (I := inf) 0 rfl (Nat.le_refl _) rfl .nil rfl ⟨?_, rfl⟩
        rw [hfs, hq, hsc, scanP_end]
        rfl
      · have hpl : p < s.length := by
          have : ((p : Int) == (s.length : Int)) = false := h2
          simp at this
          omega
        obtain ⟨hsp, hcm⟩ := htk hpl
        have hnr := nextR_eq hsp hcm
        have hcall2 := r_next s p hs hpl
        rw [hnr] at hcall2
        refine runS_x (I := inf) (J := jnf) ⟨false, false, [], 0, 0⟩ 9999 rfl (by repeat (first | exact obs_nil | refine obs_draw (by kernel_rfl) ?_ | refine obs_same ?_ | refine obs_and ?_ | refine obs_by (by (simp [inB] <;> omega)) ?_)) ?_
        cases hr : readAt s p with
        | bad q =>
          rw [hr] at hcall2
          refine runS_call rfl rfl rfl rfl rfl rfl rfl hcall2 ?_
          refine runS_x (I := inf) (J := jnf) ⟨false, false, [], 0, 0⟩ 9999 rfl (by repeat (first | exact obs_nil | refine obs_draw (by kernel_rfl) ?_ | refine obs_same ?_ | refine obs_and ?_ | refine obs_by (by (simp [inB] <;> omega)) ?_)) ?_
          refine runS_cond rfl (fun h3 => ?_) (fun h3 => ?_)
          · refine runS_x (I := inf) (J := jnf) ⟨false, false, [], 0, 0⟩ 9999 rfl (by repeat (first | exact obs_nil | refine obs_draw (by kernel_rfl) ?_ | refine obs_same ?_ | refine obs_and ?_ | refine obs_by (by (simp [inB] <;> omega)) ?_)) ?_
            refine runS_says 2 rfl (says_nil0 (sz := 3) (r := nilT) (Nat.zero_le _)) ?_
            refine runS_ret (I := inf) 0 rfl (Nat.le_refl _) rfl .nil rfl ⟨?_, rfl⟩
            rw [hfs, hq, hsc, scanP_bad hpl hr]
            rfl
          · exfalso
            have : decide ((q : Int) ≥ 0) = false := h3
            simp at this
        | ok t q =>
          rw [hr] at hcall2
          obtain ⟨b1, b2⟩ := readAt_prog hpl hr
          cases t with
          | none => exact absurd (hnr.trans hr) nextR_no
          | some t =>
            refine runS_call rfl rfl rfl rfl rfl rfl rfl hcall2 ?_
            refine runS_x (I := inf) (J := jnf) ⟨false, false, [], 0, 0⟩ 9999 rfl (by repeat (first | exact obs_nil | refine obs_draw (by kernel_rfl) ?_ | refine obs_same ?_ | refine obs_and ?_ | refine obs_by (by (simp [inB] <;> omega)) ?_)) ?_
            refine runS_cond rfl (fun h3 => by cases h3) (fun h3 => ?_)
            refine runS_x (I := inf) (J := jnf) ⟨false, false, [], 0, 0⟩ 9999 rfl (by repeat (first | exact obs_nil | refine obs_draw (by kernel_rfl) ?_ | refine obs_same ?_ | refine obs_and ?_ | refine obs_by (by (simp [inB] <;> omega)) ?_)) ?_
            refine runS_tell 0 (tkR (acc ++ [t])) rfl (m' := acc.length + 1) rfl (tkR_snoc rfl) rfl ?_
            refine runS_drop 1 (Nat.zero_le _) rfl (by repeat (first | exact .nil | refine .row (fun j hj => rfl) ?_ | refine .box rfl ?_ | refine .fam (fun k j hk hj => rfl) ?_ | refine .loop (scrub_under _ _) ?_ | refine .dfr ?_ | refine .gone ?_ | refine .map (fun p hp => by (obtain ⟨k, _, rfl⟩ := List.mem_map.1 hp; rfl)) ?_)) rfl rfl rfl (by repeat (first | exact .nil | refine .cons rfl rfl rfl (scrub_under _ _) ?_)) ?_
            have hl' : (acc ++ [t]).length = acc.length + 1 := by simp
            exact ih (q, acc ++ [t]) _ _ (by dsimp only; omega) ⟨⟨rfl, by dsimp only; rw [hl']; rfl, rfl⟩, by dsimp only; rw [hl'], b2, by dsimp only; omega, by rw [hq, hsc, scanP_some hpl hr]⟩
end Go.Iron.Tryz

/- The token seat: the law TokenLetters. -/
namespace Go.Iron.Tryz
open Go.Proofs Go.RowKit Go.Iron.Tok

theorem scanL_len {s : Str} : ∀ (n p : Nat) (acc : List Tk), p ≤ s.length → acc.length ≤ p → (scanL s n p acc).1.length ≤ s.length
  | 0, p, acc, hp, ha => by rw [scanL]; show acc.length ≤ _; omega
  | n + 1, p, acc, hp, ha => by
    rw [scanL]
    split
    · rename_i hlt
      cases hr : readAt s p with
      | bad q => exact Nat.zero_le _
      | ok t q =>
        obtain ⟨a, b⟩ := readAt_prog hlt hr
        cases t with
        | none => exact scanL_len n q acc b (by omega)
        | some t => exact scanL_len n q _ b (by rw [List.length_append]; show acc.length + 1 ≤ q; omega)
    · dsimp only; omega
theorem scanF_len (s : Str) : (scanF s).1.length ≤ s.length := by
  unfold scanF
  split
  · exact Nat.zero_le _
  · exact scanL_len _ _ _ (Nat.zero_le _) (Nat.zero_le _)
end Go.Iron.Tryz

/- The token seat: tokens as they are written; valid ones. -/
namespace Go.Iron.Tryz
open Go.Proofs Go.RowKit Go.Iron.Tok

theorem k_eqT (a b : Tk) : CallT Tryz.prog 55 [.agg (tkE a), .agg (tkE b)] [] (fun o A => o = .ret (bv (sameT false a b)) ∧ A = []) := by
  refine callS_body (n := 17) rfl rfl fun w ρ X => ?_
  refine runS_x (I := inf) (J := jnf) ⟨false, false, [], 0, 0⟩ 9999 rfl (by repeat (first | exact obs_nil | refine obs_draw (by kernel_rfl) ?_ | refine obs_same ?_ | refine obs_and ?_ | refine obs_by (by (simp [inB] <;> omega)) ?_)) ?_
  refine runS_ret (I := inf) 0 rfl (Nat.le_refl _) rfl .nil rfl ⟨?_, rfl⟩
  refine congrArg (fun x => Out.ret (bv x)) ?_
  show (if (((a.kind : Nat) : Int) == ((b.kind : Nat) : Int)) = true then ((bs a.text).toList == (bs b.text).toList) else false) = _
  rw [bs_beq]
  unfold sameT
  rw [Bool.eq_iff_iff]
  by_cases h1 : a.kind = b.kind <;> by_cases h2 : a.text = b.text <;> simp [h1, h2] <;> omega
theorem k_eqF (n1 n2 : Option Bool) (a b : List Tk) (hl : a.length ≤ 100000) (hl2 : b.length ≤ 100000) : CallT Tryz.prog 54 [tkS n1 a, tkS n2 b, .fn (.func 55) []] [] (fun o A => o = .ret (bv (sameL false a b)) ∧ A = []) := by
  refine callS_body (n := 32) rfl rfl fun w ρ X => ?_
  refine runS_x (I := inf) (J := jnf) ⟨false, false, [], 0, 0⟩ 9999 rfl (by repeat (first | exact obs_nil | refine obs_draw (by kernel_rfl) ?_ | refine obs_same ?_ | refine obs_and ?_ | refine obs_by (by (simp [inB] <;> omega)) ?_)) ?_
  refine runS_cond rfl (fun h => ?_) (fun h => ?_)
  · have hne : a.length ≠ b.length := by simp at h; omega
    refine runS_x (I := inf) (J := jnf) ⟨false, false, [], 0, 0⟩ 9999 rfl (by repeat (first | exact obs_nil | refine obs_draw (by kernel_rfl) ?_ | refine obs_same ?_ | refine obs_and ?_ | refine obs_by (by (simp [inB] <;> omega)) ?_)) ?_
    refine runS_ret (I := inf) 0 rfl (Nat.le_refl _) rfl .nil rfl ⟨?_, rfl⟩
    unfold sameL
    rw [decide_eq_false hne]
    rfl
  · have hle : a.length = b.length := by simp at h; omega
    refine runS_x (I := inf) (J := jnf) ⟨false, false, [], 0, 0⟩ 9999 rfl (by repeat (first | exact obs_nil | refine obs_draw (by kernel_rfl) ?_ | refine obs_same ?_ | refine obs_and ?_ | refine obs_by (by (simp [inB] <;> omega)) ?_)) ?_
    refine runS_while (fun (i : Nat) τ ar => (τ 1 = tkS n2 b ∧ τ 2 = .fn (.func 55) [] ∧ τ 15 = tkS n1 a ∧ τ 16 = iv a.length ∧ τ 17 = iv i) ∧ ar = [] ∧ i ≤ a.length ∧ ∀ j, j < i → sameT false (a.getD j tk0) (b.getD j tk0) = true) (fun i => a.length - i) 0 ⟨⟨rfl, rfl, rfl, rfl, rfl⟩, rfl, Nat.zero_le _, fun j hj => by omega⟩ ?_
    rintro i τ' ar' ⟨⟨g1, g2, g15, g16, g17⟩, rfl, hi, hall⟩ ih
    refine runS_says 1 (by exact g1) (Says.refl _) ?_; refine runS_says 2 (by exact g2) (Says.refl _) ?_; refine runS_says 15 (by exact g15) (Says.refl _) ?_; refine runS_says 16 (by exact g16) (Says.refl _) ?_; refine runS_says 17 (by exact g17) (Says.refl _) ?_
    refine runS_x (I := inf) (J := jnf) ⟨false, false, [], 0, 0⟩ 9999 rfl (by repeat (first | exact obs_nil | refine obs_draw (by kernel_rfl) ?_ | refine obs_same ?_ | refine obs_and ?_ | refine obs_by (by (simp [inB] <;> omega)) ?_)) ?_
    refine runS_cond rfl (fun h1 => ?_) (fun h1 => ?_)
    · have hi' : i < a.length := by simp at h1; omega
      have hib : i < b.length := by omega
      have hw : IntKind.wrap .i64 ((i : Int) + 1) = ((i + 1 : Nat) : Int) := by rw [w64 (by omega) (by omega)]; rfl
      refine runS_x (I := inf) (J := jnf) ⟨false, false, [], 0, 0⟩ 9999 rfl (by repeat (first | exact obs_nil | refine obs_draw (by kernel_rfl) ?_ | refine obs_same ?_ | refine obs_and ?_ | refine obs_by (by (simp [inB, hi', hib] <;> omega)) ?_)) ?_
      refine runS_call rfl rfl rfl rfl rfl rfl rfl (k_eqT (a.getD i tk0) (b.getD i tk0)) ?_
      refine runS_x (I := inf) (J := jnf) ⟨false, false, [], 0, 0⟩ 9999 rfl (by repeat (first | exact obs_nil | refine obs_draw (by kernel_rfl) ?_ | refine obs_same ?_ | refine obs_and ?_ | refine obs_by (by (simp [inB] <;> omega)) ?_)) ?_
      refine runS_cond rfl (fun h2 => ?_) (fun h2 => ?_)
      · have hc : sameT false (a.getD i tk0) (b.getD i tk0) = false := by simpa using h2
        refine runS_x (I := inf) (J := jnf) ⟨false, false, [], 0, 0⟩ 9999 rfl (by repeat (first | exact obs_nil | refine obs_draw (by kernel_rfl) ?_ | refine obs_same ?_ | refine obs_and ?_ | refine obs_by (by (simp [inB] <;> omega)) ?_)) ?_
        refine runS_ret (I := inf) 0 rfl (Nat.le_refl _) rfl .nil rfl ⟨?_, rfl⟩
        have : sameL false a b = false := by
          unfold sameL
          rw [Bool.and_eq_false_iff]
          refine .inr ?_
          rw [← Bool.not_eq_true, List.all_eq_true]
          intro hh
          have := hh i (List.mem_range.2 hi')
          rw [this] at hc
          cases hc
        rw [this]
        rfl
      · have hc : sameT false (a.getD i tk0) (b.getD i tk0) = true := by simpa using h2
        refine runS_x (I := inf) (J := jnf) ⟨false, false, [], 0, 0⟩ 9999 rfl (by repeat (first | exact obs_nil | refine obs_draw (by kernel_rfl) ?_ | refine obs_same ?_ | refine obs_and ?_ | refine obs_by (by (simp [inB] <;> omega)) ?_)) ?_
        refine runS_drop 0 (Nat.zero_le _) rfl (by repeat (first | exact .nil | refine .row (fun j hj => rfl) ?_ | refine .box rfl ?_ | refine .fam (fun k j hk hj => rfl) ?_ | refine .loop (scrub_under _ _) ?_ | refine .dfr ?_ | refine .gone ?_ | refine .map (fun p hp => by (obtain ⟨k, _, rfl⟩ := List.mem_map.1 hp; rfl)) ?_)) rfl rfl rfl (by repeat (first | exact .nil | refine .cons rfl rfl rfl (scrub_under _ _) ?_)) ?_
        refine ih (i + 1) _ _ (by omega) ⟨⟨rfl, rfl, rfl, rfl, congrArg iv hw⟩, rfl, hi', fun j hj => ?_⟩
        by_cases hji : j = i
        · subst hji; exact hc
        · exact hall j (by omega)
    · have hie : i = a.length := by simp at h1; omega
      subst hie
      refine runS_x (I := inf) (J := jnf) ⟨false, false, [], 0, 0⟩ 9999 rfl (by repeat (first | exact obs_nil | refine obs_draw (by kernel_rfl) ?_ | refine obs_same ?_ | refine obs_and ?_ | refine obs_by (by (simp [inB] <;> omega)) ?_)) ?_
      refine runS_ret (I := inf) 0 rfl (Nat.le_refl _) rfl .nil rfl ⟨?_, rfl⟩
      have : sameL false a b = true := by
        unfold sameL
        rw [decide_eq_true hle, Bool.true_and, List.all_eq_true]
        exact fun j hj => hall j (List.mem_range.1 hj)
      rw [this]
      rfl
theorem k_readAs (n2 : Option Bool) (s : Str) (l : List Tk) (hs : s.length ≤ 100000) (hl : l.length ≤ 100000) : CallT Tryz.prog 33 [sv s, tkS n2 l] [] (fun o A => o = .ret (bv (readAs s l)) ∧ A = []) := by
  have hlen := scanF_len s
  refine callS_body (n := 21) rfl rfl fun w ρ X => ?_
  refine runS_x (I := inf) (J := jnf) ⟨false, false, [], 0, 0⟩ 9999 rfl (by repeat (first | exact obs_nil | refine obs_draw (by kernel_rfl) ?_ | refine obs_same ?_ | refine obs_and ?_ | refine obs_by (by (simp [inB] <;> omega)) ?_)) ?_
  refine runS_call rfl rfl rfl rfl rfl rfl rfl (k_scan s hs) ?_
  refine runS_x (I := inf) (J := jnf) ⟨false, false, [], 0, 0⟩ 9999 rfl (by repeat (first | exact obs_nil | refine obs_draw (by kernel_rfl) ?_ | refine obs_same ?_ | refine obs_and ?_ | refine obs_by (by (simp [inB] <;> omega)) ?_)) ?_
  refine runS_callU rfl rfl (by first | exact .v rfl rfl rfl rfl | exact .o rfl rfl rfl rfl) rfl rfl (by repeat (first | exact .nil | refine .cons (.n rfl) ?_ | refine .cons .o ?_ | refine .cons gok_and ?_)) rfl rfl rfl rfl rfl (fun _ => (k_eqF none n2 (scanF s).1 l (by omega) hl)) ?_
  refine runS_x (I := inf) (J := jnf) ⟨false, false, [], 0, 0⟩ 9999 rfl (by repeat (first | exact obs_nil | refine obs_draw (by kernel_rfl) ?_ | refine obs_same ?_ | refine obs_and ?_ | refine obs_by (by (simp [inB] <;> omega)) ?_)) ?_
  refine runS_ret (I := inf) 0 rfl (Nat.le_refl _) rfl .nil rfl ⟨?_, rfl⟩
  refine congrArg (fun x => Out.ret (bv x)) ?_
  show (if ((((scanF s).2.2 : Nat) : Int) == 0) = true then sameL false (scanF s).1 l else false) = _
  unfold readAs
  by_cases h : (scanF s).2.2 = 0
  · rw [h]; rfl
  · have : ((((scanF s).2.2 : Nat) : Int) == 0) = false := by simp; omega
    rw [this, decide_eq_false h]
    rfl
theorem k_written (t : Tk) (ht : t.text.length ≤ 100000) (h3 : t.kind ≠ 3) : CallT Tryz.prog 34 [.agg (tkE t)] [] (fun o A => o = .ret (sv (wrS t)) ∧ A = []) := by
  have hwr : wrS t = if t.kind = 4 then [39] ++ t.text ++ [39, 66] else t.text := by unfold wrS; rw [if_neg h3]
  refine callS_body (n := 20) rfl rfl fun w ρ X => ?_
  refine runS_x (I := inf) (J := jnf) ⟨false, false, [], 0, 0⟩ 9999 rfl (by repeat (first | exact obs_nil | refine obs_draw (by kernel_rfl) ?_ | refine obs_same ?_ | refine obs_and ?_ | refine obs_by (by (simp [inB] <;> omega)) ?_)) ?_
  refine runS_cond rfl (fun h => ?_) (fun h => ?_)
  · exfalso
    have : (((t.kind : Nat) : Int) == 3) = true := h
    simp at this
    omega
  · refine runS_x (I := inf) (J := jnf) ⟨false, false, [], 0, 0⟩ 9999 rfl (by repeat (first | exact obs_nil | refine obs_draw (by kernel_rfl) ?_ | refine obs_same ?_ | refine obs_and ?_ | refine obs_by (by (simp [inB] <;> omega)) ?_)) ?_
    refine runS_cond rfl (fun h1 => ?_) (fun h1 => ?_)
    · have h4 : t.kind = 4 := by
        have : (((t.kind : Nat) : Int) == 4) = true := h1
        simp at this
        omega
      have hp1 : (bl (ByteArray.mk #[39])).length = 1 := rfl
      have hp2 : (bl (ByteArray.mk #[39, 66])).length = 2 := rfl
      refine runS_x (I := inf) (J := jnf) ⟨false, false, [], 0, 0⟩ 9999 rfl (by repeat (first | exact obs_nil | refine obs_draw (by kernel_rfl) ?_ | refine obs_same ?_ | refine obs_and ?_ | refine obs_by (by (simp [inB, blS, hp1, hp2] <;> omega)) ?_)) ?_
      refine runS_ret (I := inf) 0 rfl (Nat.le_refl _) rfl .nil rfl ⟨?_, rfl⟩
      rw [hwr, if_pos h4]
      rfl
    · have h4 : ¬ t.kind = 4 := by
        have : (((t.kind : Nat) : Int) == 4) = false := h1
        simp at this
        omega
      refine runS_x (I := inf) (J := jnf) ⟨false, false, [], 0, 0⟩ 9999 rfl (by repeat (first | exact obs_nil | refine obs_draw (by kernel_rfl) ?_ | refine obs_same ?_ | refine obs_and ?_ | refine obs_by (by (simp [inB] <;> omega)) ?_)) ?_
      refine runS_ret (I := inf) 0 rfl (Nat.le_refl _) rfl .nil rfl ⟨?_, rfl⟩
      rw [hwr, if_neg h4]
      rfl
theorem k_valid (t : Tk) (hw : CallT Tryz.prog 34 [.agg (tkE t)] [] (fun o A => o = .ret (sv (wrS t)) ∧ A = [])) (hl : (wrS t).length ≤ 100000) : CallT Tryz.prog 17 [.agg (tkE t)] [] (fun o A => o = .ret (bv (validT t)) ∧ A = []) := by
  have hge : (decide ((t.at_ : Int) ≥ 0) == true) = true := by simp
  refine callS_body (n := 13) rfl rfl fun w ρ X => ?_
  refine runS_x (I := inf) (J := jnf) ⟨false, false, [], 0, 0⟩ 9999 rfl (by repeat (first | exact obs_nil | refine obs_draw (by kernel_rfl) ?_ | refine obs_same ?_ | refine obs_and ?_ | refine obs_by (by (simp [inB] <;> omega)) ?_)) ?_
  refine runS_hole ?_
  refine runS_drawG (ch := []) (A2 := fun _ => []) 8 [7] (fun b => [.box 29 [iv t.kind, sv t.text, iv t.at_], cond (b.getD 0 false) (.row 29 3 1 1 (chunk 3 (tkE t))) .hole]) none (c := 9) jnfI.draw (by kernel_rfl) rfl (lexg_g (I := inf) (J := jnf) none ⟨⟨_, rfl, (by repeat (first | exact obs_nil | refine obs_same ?_ | refine obs_and ?_ | refine obs_by (by (simp [inB] <;> omega)) ?_))⟩, (by first | exact .inl (by decide +kernel) | exact .inr ⟨_, rfl, (by repeat (first | exact obs_nil | refine obs_same ?_ | refine obs_and ?_ | refine obs_by (by (simp [inB] <;> omega)) ?_))⟩)⟩ rfl rfl rfl rfl (lexg_g (I := inf) (J := jnf) none ⟨⟨_, rfl, (by repeat (first | exact obs_nil | refine obs_same ?_ | refine obs_and ?_ | refine obs_by (by (simp [inB] <;> omega)) ?_))⟩, (by first | exact .inl (by decide +kernel) | exact .inr ⟨_, rfl, (by repeat (first | exact obs_nil | refine obs_same ?_ | refine obs_and ?_ | refine obs_by (by (simp [inB] <;> omega)) ?_))⟩)⟩ rfl rfl rfl rfl (lexg_g (I := inf) (J := jnf) none ⟨⟨_, rfl, (by repeat (first | exact obs_nil | refine obs_same ?_ | refine obs_and ?_ | refine obs_by (by (simp [inB] <;> omega)) ?_))⟩, (by first | exact .inl (by decide +kernel) | exact .inr ⟨_, rfl, (by repeat (first | exact obs_nil | refine obs_same ?_ | refine obs_and ?_ | refine obs_by (by (simp [inB] <;> omega)) ?_))⟩)⟩ rfl rfl rfl rfl (lexg_g (I := inf) (J := jnf) none ⟨⟨_, rfl, (by repeat (first | exact obs_nil | refine obs_same ?_ | refine obs_and ?_ | refine obs_by (by (simp [inB] <;> omega)) ?_))⟩, (by first | exact .inl (by decide +kernel) | exact .inr ⟨_, rfl, (by repeat (first | exact obs_nil | refine obs_same ?_ | refine obs_and ?_ | refine obs_by (by (simp [inB] <;> omega)) ?_))⟩)⟩ rfl rfl rfl rfl (lexg_gT (I := inf) (J := jnf) none hge ⟨⟨_, rfl, (by repeat (first | exact obs_nil | refine obs_same ?_ | refine obs_and ?_ | refine obs_by (by (simp [inB] <;> omega)) ?_))⟩, (by first | exact .inl (by decide +kernel) | exact .inr ⟨_, rfl, (by repeat (first | exact obs_nil | refine obs_same ?_ | refine obs_and ?_ | refine obs_by (by (simp [inB] <;> omega)) ?_))⟩)⟩ rfl rfl rfl rfl rfl rfl rfl rfl (lexg_callT hge rfl rfl rfl rfl rfl rfl rfl rfl (by repeat (first | exact .nil | refine .cons (.n rfl) ?_ | refine .cons .o ?_ | refine .cons gok_and ?_)) rfl rfl rfl rfl rfl rfl rfl hw (lexg_gT (I := inf) (J := jnf) none hge ⟨⟨_, rfl, (by repeat (first | exact obs_nil | refine obs_same ?_ | refine obs_and ?_ | refine obs_by (by (simp [inB] <;> omega)) ?_))⟩, (by first | exact .inl (by decide +kernel) | exact .inr ⟨_, rfl, (by repeat (first | exact obs_nil | refine obs_same ?_ | refine obs_and ?_ | refine obs_by (by (simp [inB] <;> omega)) ?_))⟩)⟩ rfl rfl rfl rfl rfl rfl rfl rfl (lexg_gT (I := inf) (J := jnf) (some (.hole 1)) hge ⟨⟨_, rfl, (by repeat (first | exact obs_nil | refine obs_same ?_ | refine obs_and ?_ | refine obs_by (by (simp [inB] <;> omega)) ?_))⟩, .inl rfl⟩ rfl rfl rfl rfl rfl rfl rfl rfl lexg_nil)))))))) rfl (fun _ => ?_) (fun h => by cases h)
  refine runS_x (I := inf) (J := jnf) ⟨false, false, [], 0, 0⟩ 9999 rfl (by repeat (first | exact obs_nil | refine obs_draw (by kernel_rfl) ?_ | refine obs_same ?_ | refine obs_and ?_ | refine obs_by (by (simp [inB] <;> omega)) ?_)) ?_
  refine runS_tell 1 (tkR [t]) rfl (m' := 1) rfl (fun i hi => by have : i = 0 := by omega
                                                                 subst this; rfl) rfl ?_
  refine runS_freeze 10 rfl rfl rfl (fun j hj => rfl) ?_
  refine runS_callU rfl rfl (by first | exact .v rfl rfl rfl rfl | exact .o rfl rfl rfl rfl) rfl rfl (by repeat (first | exact .nil | refine .cons (.n rfl) ?_ | refine .cons .o ?_ | refine .cons gok_and ?_)) rfl rfl rfl rfl rfl (fun _ => (k_readAs none (wrS t) [t] hl (Nat.le_of_ble_eq_true rfl))) ?_
  refine runS_x (I := inf) (J := jnf) ⟨false, false, [], 0, 0⟩ 9999 rfl (by repeat (first | exact obs_nil | refine obs_draw (by kernel_rfl) ?_ | refine obs_same ?_ | refine obs_and ?_ | refine obs_by (by (simp [inB] <;> omega)) ?_)) ?_
  refine runS_ret (I := inf) 0 rfl (Nat.le_refl _) rfl .nil rfl ⟨?_, rfl⟩
  have hge2 : decide ((t.at_ : Int) ≥ 0) = true := by simp
  show Out.ret (bv (if decide ((t.at_ : Int) ≥ 0) = true then readAs (wrS t) [t] else false)) = _
  rw [hge2, if_pos rfl]
  rfl
end Go.Iron.Tryz

/- The token seat: places. -/
namespace Go.Iron.Tryz
open Go.Proofs Go.RowKit Go.Iron.Tok

end Go.Iron.Tryz

/- The token seat: the reference's Valid; names; the law of places. -/
namespace Go.Iron.Tryz
open Go.Proofs Go.RowKit Go.Iron.Tok

abbrev tkI (kd : Int) (s : Str) (a : Int) : AV := .agg [iv kd, sv s, iv a]
/-- The reference's valid bytes of a constant. -/
def cBy (kd : Int) (c : Nat) : Bool := decide (32 ≤ c) && decide (c ≤ 126) && (!decide (kd = 4) || c == 48 || c == 49)
def refV (kd : Int) (s : Str) (a : Int) : Bool :=
  if a < 0 ∨ s.length > 20000 then false
  else if kd = 3 ∨ kd = 4 then (if s.length > 250 then false else (List.range s.length).all fun i => cBy kd (byt s i))
  else decide ((scanF s).2.2 = 0) && decide ((scanF s).1.length = 1) && decide ((((scanF s).1.getD 0 tk0).kind : Int) = kd) && decide (((scanF s).1.getD 0 tk0).text = s) && (decide (kd = 1) || decide (kd = 2) || decide (kd = 5))
theorem r_valid (kd : Int) (s : Str) (a : Int) (hs : s.length ≤ 30000) : CallT Tryz.prog 18 [tkI kd s a] [] (fun o A => o = .ret (bv (refV kd s a)) ∧ A = []) := by
  refine callS_body (n := 113) rfl rfl fun w ρ X => ?_
  refine runS_x (I := inf) (J := jnf) ⟨false, false, [], 0, 0⟩ 9999 rfl (by repeat (first | exact obs_nil | refine obs_draw (by kernel_rfl) ?_ | refine obs_same ?_ | refine obs_and ?_ | refine obs_by (by (simp [inB, blS] <;> omega)) ?_)) ?_
  have hcd : (if decide (a < 0) = true then true else decide ((s.length : Int) > 20000)) = decide (a < 0 ∨ s.length > 20000) := by
    rw [Bool.eq_iff_iff]
    by_cases h : a < 0 <;> simp [h]
    omega
  refine runS_cond rfl (fun h => ?_) (fun h => ?_)
  · have hc := of_decide_eq_true (hcd.symm.trans h)
    refine runS_x (I := inf) (J := jnf) ⟨false, false, [], 0, 0⟩ 9999 rfl (by repeat (first | exact obs_nil | refine obs_draw (by kernel_rfl) ?_ | refine obs_same ?_ | refine obs_and ?_ | refine obs_by (by (simp [inB] <;> omega)) ?_)) ?_
    refine runS_ret (I := inf) 0 rfl (Nat.le_refl _) rfl .nil rfl ⟨?_, rfl⟩
    rw [refV, if_pos hc]
    rfl
  · have hc := of_decide_eq_false (hcd.symm.trans h)
    have hs2 : s.length ≤ 20000 := by omega
    clear hcd h
    refine runS_x (I := inf) (J := jnf) ⟨false, false, [], 0, 0⟩ 9999 rfl (by repeat (first | exact obs_nil | refine obs_draw (by kernel_rfl) ?_ | refine obs_same ?_ | refine obs_and ?_ | refine obs_by (by (simp [inB] <;> omega)) ?_)) ?_
    have hcd : (if (kd == 3) = true then true else (kd == 4)) = decide (kd = 3 ∨ kd = 4) := by
      rw [Bool.eq_iff_iff]
      by_cases h : kd = 3 <;> simp [h]
    refine runS_cond rfl (fun h => ?_) (fun h => ?_)
    · have hk := of_decide_eq_true (hcd.symm.trans h)
      have hrv : refV kd s a = if s.length > 250 then false else (List.range s.length).all fun i => cBy kd (byt s i) := by
        unfold refV
        rw [if_neg hc, if_pos hk]
      clear hcd h
      refine runS_x (I := inf) (J := jnf) ⟨false, false, [], 0, 0⟩ 9999 rfl (by repeat (first | exact obs_nil | refine obs_draw (by kernel_rfl) ?_ | refine obs_same ?_ | refine obs_and ?_ | refine obs_by (by (simp [inB, blS] <;> omega)) ?_)) ?_
      refine runS_cond rfl (fun h => ?_) (fun h => ?_)
      · have h250 : s.length > 250 := by
          have : decide ((s.length : Int) > 250) = true := h
          simp at this
          omega
        refine runS_x (I := inf) (J := jnf) ⟨false, false, [], 0, 0⟩ 9999 rfl (by repeat (first | exact obs_nil | refine obs_draw (by kernel_rfl) ?_ | refine obs_same ?_ | refine obs_and ?_ | refine obs_by (by (simp [inB] <;> omega)) ?_)) ?_
        refine runS_ret (I := inf) 0 rfl (Nat.le_refl _) rfl .nil rfl ⟨?_, rfl⟩
        rw [hrv, if_pos h250]
        rfl
      · have h250 : ¬ s.length > 250 := by
          have : decide ((s.length : Int) > 250) = false := h
          simp at this
          omega
        rw [if_neg h250] at hrv
        refine runS_x (I := inf) (J := jnf) ⟨false, false, [], 0, 0⟩ 9999 rfl (by repeat (first | exact obs_nil | refine obs_draw (by kernel_rfl) ?_ | refine obs_same ?_ | refine obs_and ?_ | refine obs_by (by (simp [inB] <;> omega)) ?_)) ?_
        refine runS_while (fun (i : Nat) τ ar => (τ 1 = .ptr 0 0 0 ∧ τ 3 = iv i) ∧ ar = [.box 29 [iv kd, sv s, iv a]] ∧ i ≤ s.length ∧ ∀ j, j < i → cBy kd (byt s j) = true) (fun i => s.length - i) 0 ⟨⟨rfl, rfl⟩, rfl, Nat.zero_le _, fun j hj => by omega⟩ ?_
        rintro i τ' ar' ⟨⟨g1, g3⟩, rfl, hi, hall⟩ ih
        refine runS_says 1 (by exact g1) (Says.refl _) ?_; refine runS_says 3 (by exact g3) (Says.refl _) ?_
        refine runS_x (I := inf) (J := jnf) ⟨false, false, [], 0, 0⟩ 9999 rfl (by repeat (first | exact obs_nil | refine obs_draw (by kernel_rfl) ?_ | refine obs_same ?_ | refine obs_and ?_ | refine obs_by (by (simp [inB, blS] <;> omega)) ?_)) ?_
        refine runS_cond rfl (fun h1 => ?_) (fun h1 => ?_)
        · have hil : i < s.length := by
            have : decide ((i : Int) < (s.length : Int)) = true := h1
            simp at this
            omega
          have hw1 : IntKind.wrap .i64 ((i : Int) + 1) = ((i + 1 : Nat) : Int) := by rw [w64 (by omega) (by omega)]; rfl
          refine runS_x (I := inf) (J := jnf) ⟨false, false, [], 0, 0⟩ 9999 rfl (by repeat (first | exact obs_nil | refine obs_draw (by kernel_rfl) ?_ | refine obs_same ?_ | refine obs_and ?_ | refine obs_by (by (simp [inB, blS, hil] <;> omega)) ?_)) ?_
          have hcd : (if (if decide (((byt s i : Nat) : Int) < 32) = true then true else decide (((byt s i : Nat) : Int) > 126)) = true then true else (if (if (kd == 4) = true then (!(((byt s i : Nat) : Int) == 48)) else false) = true then (!(((byt s i : Nat) : Int) == 49)) else false)) = !cBy kd (byt s i) := by
            unfold cBy
            generalize byt s i = c
            rw [Bool.eq_iff_iff]
            by_cases h1 : c < 32 <;> by_cases h2 : c > 126 <;> by_cases h3 : kd = 4 <;> by_cases h4 : c = 48 <;> by_cases h5 : c = 49 <;> simp [h1, h2, h3, h4, h5] <;> omega
          refine runS_cond rfl (fun h2 => ?_) (fun h2 => ?_)
          · have hno : cBy kd (byt s i) = false := by simpa using hcd.symm.trans h2
            refine runS_x (I := inf) (J := jnf) ⟨false, false, [], 0, 0⟩ 9999 rfl (by repeat (first | exact obs_nil | refine obs_draw (by kernel_rfl) ?_ | refine obs_same ?_ | refine obs_and ?_ | refine obs_by (by (simp [inB] <;> omega)) ?_)) ?_
            refine runS_ret (I := inf) 0 rfl (Nat.le_refl _) rfl .nil rfl ⟨?_, rfl⟩
            rw [hrv]
            refine congrArg (fun x => Out.ret (bv x)) ?_
            symm
            rw [← Bool.not_eq_true, List.all_eq_true]
            intro hh
            have := hh i (List.mem_range.2 hil)
            rw [hno] at this
            cases this
          · have hyes : cBy kd (byt s i) = true := by simpa using hcd.symm.trans h2
            refine runS_x (I := inf) (J := jnf) ⟨false, false, [], 0, 0⟩ 9999 rfl (by repeat (first | exact obs_nil | refine obs_draw (by kernel_rfl) ?_ | refine obs_same ?_ | refine obs_and ?_ | refine obs_by (by (simp [inB] <;> omega)) ?_)) ?_
            refine ih (i + 1) _ _ (by omega) ⟨⟨rfl, congrArg iv hw1⟩, rfl, hil, fun j hj => ?_⟩
            by_cases hji : j = i
            · subst hji; exact hyes
            · exact hall j (by omega)
        · have hie : i = s.length := by
            have : decide ((i : Int) < (s.length : Int)) = false := h1
            simp at this
            omega
          subst hie
          refine runS_x (I := inf) (J := jnf) ⟨false, false, [], 0, 0⟩ 9999 rfl (by repeat (first | exact obs_nil | refine obs_draw (by kernel_rfl) ?_ | refine obs_same ?_ | refine obs_and ?_ | refine obs_by (by (simp [inB] <;> omega)) ?_)) ?_
          refine runS_ret (I := inf) 0 rfl (Nat.le_refl _) rfl .nil rfl ⟨?_, rfl⟩
          rw [hrv]
          refine congrArg (fun x => Out.ret (bv x)) ?_
          symm
          rw [List.all_eq_true]
          exact fun j hj => hall j (List.mem_range.1 hj)
    · have hk := of_decide_eq_false (hcd.symm.trans h)
      have hrv : refV kd s a = (decide ((scanF s).2.2 = 0) && decide ((scanF s).1.length = 1) && decide ((((scanF s).1.getD 0 tk0).kind : Int) = kd) && decide (((scanF s).1.getD 0 tk0).text = s) && (decide (kd = 1) || decide (kd = 2) || decide (kd = 5))) := by
        unfold refV
        rw [if_neg hc, if_neg hk]
      clear hcd h
      have hlen := scanF_len s
      refine runS_x (I := inf) (J := jnf) ⟨false, false, [], 0, 0⟩ 9999 rfl (by repeat (first | exact obs_nil | refine obs_draw (by kernel_rfl) ?_ | refine obs_same ?_ | refine obs_and ?_ | refine obs_by (by (simp [inB] <;> omega)) ?_)) ?_
      refine runS_call rfl rfl rfl rfl rfl rfl rfl (r_scan s (by omega)) ?_
      refine runS_x (I := inf) (J := jnf) ⟨false, false, [], 0, 0⟩ 9999 rfl (by repeat (first | exact obs_nil | refine obs_draw (by kernel_rfl) ?_ | refine obs_same ?_ | refine obs_and ?_ | refine obs_by (by (simp [inB, hlen] <;> omega)) ?_)) ?_
      refine runS_ret (I := inf) 0 rfl (Nat.le_refl _) rfl .nil rfl ⟨?_, rfl⟩
      rw [hrv]
      refine congrArg (fun x => Out.ret (bv x)) ?_
      rw [bs_beq]
      show (if (if (if (if (((scanF s).2.2 : Int) == 0) = true then (((scanF s).1.length : Int) == 1) else false) = true then (((((scanF s).1.getD 0 tk0).kind : Nat) : Int) == kd) else false) = true then decide (((scanF s).1.getD 0 tk0).text = s) else false) = true then (if (if (kd == 1) = true then true else (kd == 2)) = true then true else (kd == 5)) else false) = _
      generalize (scanF s).1.getD 0 tk0 = x
      generalize (scanF s).1.length = m
      generalize (scanF s).2.2 = e
      have h1 : ((e : Int) == 0) = decide (e = 0) := by rw [Bool.eq_iff_iff]; simp
      have h2 : ((m : Int) == 1) = decide (m = 1) := by rw [Bool.eq_iff_iff]; simp; omega
      have h3 : (((x.kind : Nat) : Int) == kd) = decide ((x.kind : Int) = kd) := by rw [Bool.eq_iff_iff]; simp
      have h4 : ∀ v : Int, (kd == v) = decide (kd = v) := fun v => by rw [Bool.eq_iff_iff]; simp
      rw [h1, h2, h3, h4, h4, h4]
      cases decide (e = 0) <;> cases decide (m = 1) <;> cases decide ((x.kind : Int) = kd) <;> cases decide (x.text = s) <;> cases decide (kd = 1) <;> cases decide (kd = 2) <;> cases decide (kd = 5) <;> rfl
end Go.Iron.Tryz

/- Naturals by their decimal digits, the least one first, as plain lists. -/
namespace Go.Iron.Dg

def frm (n : Nat) : List Nat := if h : n = 0 then [] else n % 10 :: frm (n / 10)
termination_by n
decreasing_by omega
def val : List Nat → Nat
  | [] => 0
  | d :: l => d + 10 * val l
theorem frm_zero : frm 0 = [] := by rw [frm, dif_pos rfl]
theorem frm_pos {n : Nat} (h : n ≠ 0) : frm n = n % 10 :: frm (n / 10) := by
  conv => lhs; rw [frm]
  rw [dif_neg h]
theorem val_frm (n : Nat) : val (frm n) = n := by
  by_cases h : n = 0
  · rw [h, frm_zero]; rfl
  · rw [frm_pos h, val, val_frm (n / 10)]
    omega
termination_by n
decreasing_by omega
/-- Digits, and no zero at the end. -/
def Canon : List Nat → Prop
  | [] => True
  | d :: l => d < 10 ∧ (l = [] → d ≠ 0) ∧ Canon l
theorem canon_frm (n : Nat) : Canon (frm n) := by
  by_cases h : n = 0
  · rw [h, frm_zero]; trivial
  · rw [frm_pos h]
    refine ⟨by omega, fun e => ?_, canon_frm (n / 10)⟩
    have := val_frm (n / 10)
    rw [e] at this
    have h2 : n / 10 = 0 := this.symm
    omega
termination_by n
decreasing_by omega
theorem val_pos : ∀ {l : List Nat}, Canon l → l ≠ [] → 0 < val l
  | [], _, h => absurd rfl h
  | d :: l, hc, _ => by
    obtain ⟨h1, h2, h3⟩ := hc
    by_cases hl : l = []
    · have := h2 hl
      rw [val]
      omega
    · have := val_pos h3 hl
      rw [val]
      omega
theorem canon_eq : ∀ {l : List Nat}, Canon l → l = frm (val l)
  | [], _ => by rw [val, frm_zero]
  | d :: l, hc => by
    obtain ⟨h1, h2, h3⟩ := hc
    have hp := val_pos (l := d :: l) ⟨h1, h2, h3⟩ (by simp)
    rw [frm_pos (by omega)]
    have e1 : val (d :: l) % 10 = d := by rw [val]; omega
    have e2 : val (d :: l) / 10 = val l := by rw [val]; omega
    rw [e1, e2, ← canon_eq h3]
theorem frm_digit {n d : Nat} (h : d ∈ frm n) : d < 10 := by
  have key : ∀ l : List Nat, Canon l → ∀ d ∈ l, d < 10 := by
    intro l
    induction l with
    | nil => intro _ d hd; cases hd
    | cons e l ih =>
      intro hc d hd
      rcases List.mem_cons.1 hd with rfl | hd
      · exact hc.1
      · exact ih hc.2.2 d hd
  exact key _ (canon_frm n) d h
theorem val_app : ∀ (a b : List Nat), val (a ++ b) = val a + 10 ^ a.length * val b
  | [], b => by rw [List.nil_append, val, List.length_nil, Nat.pow_zero]; omega
  | d :: a, b => by
    rw [List.cons_append, val, val, val_app a b, List.length_cons, Nat.pow_succ, Nat.mul_add, ← Nat.mul_assoc, Nat.mul_comm 10 (10 ^ a.length)]
    omega
theorem val_lt : ∀ {l : List Nat}, (∀ d ∈ l, d < 10) → val l < 10 ^ l.length
  | [], _ => by show 0 < 10 ^ 0; decide
  | d :: l, h => by
    have h1 := h d (by simp)
    have h2 := val_lt (l := l) fun e he => h e (by simp [he])
    rw [val, List.length_cons, Nat.pow_succ]
    omega
theorem val_ge : ∀ {l : List Nat}, Canon l → l ≠ [] → 10 ^ (l.length - 1) ≤ val l
  | [], _, h => absurd rfl h
  | d :: l, hc, _ => by
    obtain ⟨h1, h2, h3⟩ := hc
    by_cases hl : l = []
    · subst hl
      have := h2 rfl
      show 10 ^ 0 ≤ d + 10 * 0
      rw [Nat.pow_zero]
      omega
    · have ih := val_ge h3 hl
      have hp : 0 < l.length := List.length_pos_iff.2 hl
      rw [val, List.length_cons, Nat.add_sub_cancel]
      have e : 10 ^ l.length = 10 * 10 ^ (l.length - 1) := by
        obtain ⟨m, hm⟩ : ∃ m, l.length = m + 1 := ⟨l.length - 1, by omega⟩
        rw [hm, Nat.add_sub_cancel, Nat.pow_succ]
        omega
      omega
theorem frm_len_lt {n k : Nat} : (frm n).length ≤ k ↔ n < 10 ^ k := by
  constructor
  · intro h
    have h1 := val_lt (l := frm n) fun d hd => frm_digit hd
    rw [val_frm] at h1
    exact Nat.lt_of_lt_of_le h1 (Nat.pow_le_pow_right (by decide) h)
  · intro h
    rcases Nat.lt_or_ge k (frm n).length with h2 | h2
    · exfalso
      have hne : frm n ≠ [] := fun e => by rw [e] at h2; simp at h2
      have h1 := val_ge (canon_frm n) hne
      rw [val_frm] at h1
      have h3 : 10 ^ k ≤ 10 ^ ((frm n).length - 1) := Nat.pow_le_pow_right (by decide) (by omega)
      omega
    · exact h2
/-- Compared from the top. -/
def cmpN (a b : List Nat) : Nat → Int
  | 0 => 0
  | i + 1 => if a.getD i 0 < b.getD i 0 then -1 else if a.getD i 0 > b.getD i 0 then 1 else cmpN a b i
def cmpT (a b : List Nat) : Int := if a.length ≠ b.length then (if a.length < b.length then -1 else 1) else cmpN a b a.length
theorem val_take {l : List Nat} {i : Nat} (h : i < l.length) : val (l.take (i + 1)) = val (l.take i) + 10 ^ i * l.getD i 0 := by
  rw [List.take_succ_eq_append_getElem h, val_app, List.length_take, Nat.min_eq_left (by omega), List.getD_eq_getElem?_getD, List.getElem?_eq_getElem h]
  show _ + 10 ^ i * (l[i] + 10 * 0) = _
  rw [Nat.mul_zero, Nat.add_zero]
  rfl
theorem take_lt {l : List Nat} (h : ∀ d ∈ l, d < 10) {i : Nat} (hi : i ≤ l.length) : val (l.take i) < 10 ^ i := by
  have := val_lt (l := l.take i) fun d hd => h d (List.mem_of_mem_take hd)
  rwa [List.length_take, Nat.min_eq_left hi] at this
theorem cmpN_val {a b : List Nat} (ha : ∀ d ∈ a, d < 10) (hb : ∀ d ∈ b, d < 10) : ∀ i, i ≤ a.length → i ≤ b.length → cmpN a b i = if val (a.take i) < val (b.take i) then -1 else if val (a.take i) > val (b.take i) then 1 else 0
  | 0, _, _ => by rw [List.take_zero, List.take_zero]; rfl
  | i + 1, h1, h2 => by
    have ih := cmpN_val ha hb i (by omega) (by omega)
    have la := take_lt ha (i := i) (by omega)
    have lb := take_lt hb (i := i) (by omega)
    have ea := val_take (l := a) (i := i) h1
    have eb := val_take (l := b) (i := i) h2
    unfold cmpN
    generalize a.getD i 0 = x at *
    generalize b.getD i 0 = y at *
    generalize 10 ^ i = p at *
    by_cases hxy : x < y
    · have : p * (x + 1) ≤ p * y := Nat.mul_le_mul_left _ hxy
      rw [Nat.mul_add, Nat.mul_one] at this
      rw [if_pos hxy, if_pos (by omega)]
    · by_cases hyx : x > y
      · have : p * (y + 1) ≤ p * x := Nat.mul_le_mul_left _ hyx
        rw [Nat.mul_add, Nat.mul_one] at this
        rw [if_neg hxy, if_pos hyx, if_neg (by omega), if_pos (by omega)]
      · have : x = y := by omega
        subst this
        rw [if_neg hxy, if_neg hyx, ih]
        rcases Nat.lt_trichotomy (val (a.take i)) (val (b.take i)) with h | h | h
        · rw [if_pos h, if_pos (show val (a.take (i + 1)) < val (b.take (i + 1)) by omega)]
        · rw [if_neg (show ¬ val (a.take i) < val (b.take i) by omega), if_neg (show ¬ val (a.take i) > val (b.take i) by omega), if_neg (show ¬ val (a.take (i + 1)) < val (b.take (i + 1)) by omega), if_neg (show ¬ val (a.take (i + 1)) > val (b.take (i + 1)) by omega)]
        · rw [if_neg (show ¬ val (a.take i) < val (b.take i) by omega), if_pos (show val (a.take i) > val (b.take i) from h), if_neg (show ¬ val (a.take (i + 1)) < val (b.take (i + 1)) by omega), if_pos (show val (a.take (i + 1)) > val (b.take (i + 1)) by omega)]
theorem cmpT_frm (x y : Nat) : cmpT (frm x) (frm y) = if x < y then -1 else if x > y then 1 else 0 := by
  unfold cmpT
  by_cases hl : (frm x).length ≠ (frm y).length
  · rw [if_pos hl]
    by_cases h : (frm x).length < (frm y).length
    · have h1 : x < 10 ^ (frm x).length := frm_len_lt.1 (Nat.le_refl _)
      have h2 : ¬ y < 10 ^ (frm x).length := fun e => by have := frm_len_lt.2 e; omega
      rw [if_pos h, if_pos (by omega)]
    · have h1 : y < 10 ^ (frm y).length := frm_len_lt.1 (Nat.le_refl _)
      have h2 : ¬ x < 10 ^ (frm y).length := fun e => by have := frm_len_lt.2 e; omega
      rw [if_neg h, if_neg (by omega), if_pos (by omega)]
  · have hl' : (frm x).length = (frm y).length := Decidable.not_not.1 hl
    rw [if_neg hl, cmpN_val (fun d hd => frm_digit hd) (fun d hd => frm_digit hd) _ (Nat.le_refl _) (by omega), List.take_length, hl', List.take_length, val_frm, val_frm]
theorem cmpT_lt (x y : Nat) : (cmpT (frm x) (frm y) < 0) ↔ x < y := by
  rw [cmpT_frm]
  split
  · simp; assumption
  · split
    · simp; omega
    · simp; omega
theorem frm_pow (k : Nat) : frm (10 ^ k) = List.replicate k 0 ++ [1] := by
  have hv : ∀ k : Nat, val (List.replicate k 0 ++ [1]) = 10 ^ k := by
    intro k
    induction k with
    | zero => rfl
    | succ k ih =>
      rw [List.replicate_succ, List.cons_append, val, ih, Nat.pow_succ]
      omega
  have hc : ∀ k : Nat, Canon (List.replicate k 0 ++ [1]) := by
    intro k
    induction k with
    | zero => exact ⟨by decide, fun _ => by decide, trivial⟩
    | succ k ih =>
      rw [List.replicate_succ, List.cons_append]
      exact ⟨by decide, fun e => by simp at e, ih⟩
  have := canon_eq (hc k)
  rw [hv] at this
  exact this.symm
/-- Without zeros at the end. -/
def trim (l : List Nat) : List Nat := frm (val l)
theorem trim_zero {l : List Nat} : trim (l ++ [0]) = trim l := by
  unfold trim
  rw [val_app]
  show frm (val l + 10 ^ l.length * (0 + 10 * 0)) = _
  simp
theorem canon_app {l : List Nat} {d : Nat} (h : ∀ e ∈ l, e < 10) (hd : d < 10) (h0 : d ≠ 0) : Canon (l ++ [d]) := by
  induction l with
  | nil => exact ⟨hd, fun _ => h0, trivial⟩
  | cons e l ih => exact ⟨h e (by simp), fun e' => by simp at e', ih fun x hx => h x (by simp [hx])⟩
theorem trim_canon {l : List Nat} {d : Nat} (h : ∀ e ∈ l, e < 10) (hd : d < 10) (h0 : d ≠ 0) : trim (l ++ [d]) = l ++ [d] := (canon_eq (canon_app h hd h0)).symm
end Go.Iron.Dg

/- The token seat: the library's functions for constants. -/
namespace Go.Iron.Tryz
open Go.Proofs Go.RowKit Go.Iron.Tok

theorem grow_below (w : World) (k : Nat) (os : Array Obj) : Below w.heap.size w (Sort.grow (w.drewN k) os) :=
  ⟨rfl, rfl, rfl, by simp [Sort.grow, World.drewN], fun j hj => by
    simp only [Sort.grow, World.drewN]
    rw [Array.getElem?_append_left hj]⟩
theorem drew_below (w : World) (k : Nat) : Below w.heap.size w (w.drewN k) :=
  ⟨rfl, rfl, rfl, Nat.le_refl _, fun j hj => rfl⟩
theorem cell_of {w : World} (h : StandsIn w) : ∃ m, w.cell? ⟨0, 0, none⟩ = some (.int .i64 m) := by
  obtain ⟨cs, e, fz, h1, m, rfl⟩ := h _ (List.Mem.head _)
  exact ⟨m, by simp [World.cell?, h1]⟩
theorem gPow : Tryz.prog.globalNamed "internal/strconv.uint64pow10" = some 3 := by kernel_rfl
theorem tab_of {w : World} (h : StandsIn w) : Lib.TabIs Tryz.prog w "internal/strconv.uint64pow10" .u64 Lib.pow10Tab := by
  obtain ⟨cs, e, fz, h1, h2⟩ := h _ (List.Mem.tail _ (List.Mem.head _))
  unfold Lib.TabIs World.var?
  rw [gPow]
  dsimp only [Option.bind]
  rw [h1, h2]
theorem lib_replace (s : Str) (hs : s.length ≤ 100000) : CallT Tryz.prog 56 [sv s, sv [39], sv [39, 39]] [] (fun o A => o = .ret (sv (dbl s)) ∧ A = []) :=
  callT_lib fun w O vs hst hl hv => by
    obtain ⟨v, v2, v3, rfl⟩ : ∃ v v2 v3, vs = #[v, v2, v3] := by
      obtain ⟨l⟩ := vs
      match l, hl with
      | [v, v2, v3], _ => exact ⟨v, v2, v3, rfl⟩
    have hv0 := rv_val (hv 0 _ v rfl rfl)
    have hv1 := rv_val (hv 1 _ v2 rfl rfl)
    have hv2 := rv_val (hv 2 _ v3 rfl rfl)
    subst hv0
    subst hv1
    subst hv2
    obtain ⟨m, hm⟩ := cell_of hst
    have hcb := Lib.countB_le (bs [39]) (by decide) s.length (bs s) (Nat.le_refl _)
    have hsz : (bs s).size = s.length := rfl
    rw [hsz] at hcb
    refine (Tryz.strings_ReplaceAll (bs s) (bs [39]) (bs [39, 39]) m w (show s.length < _ by omega) hm (by decide) (by
      rw [hsz]
      have : (bs [39, 39]).size = 2 := rfl
      rw [this]
      omega)).mono fun e w' hh => ?_
    obtain ⟨rfl, hB⟩ := hh
    refine ⟨_, rfl, hB, fun w'' O' => ?_⟩
    have e : Lib.replaceAll (bs s).data.toList (bs [39]).data.toList (bs [39, 39]).data.toList = dbl s := replace_dbl s
    rw [e]
    exact .val
theorem lib_cut (s p : Str) (hs : s.length ≤ 100000) : CallT Tryz.prog 38 [sv s, sv p] [] (fun o A => o = .ret (.tup [sv (Lib.cut s p).1, sv (Lib.cut s p).2.1, bv (Lib.cut s p).2.2]) ∧ A = []) :=
  callT_lib fun w O vs hst hl hv => by
    obtain ⟨v, v2, rfl⟩ : ∃ v v2, vs = #[v, v2] := by
      obtain ⟨l⟩ := vs
      match l, hl with
      | [v, v2], _ => exact ⟨v, v2, rfl⟩
    have hv0 := rv_val (hv 0 _ v rfl rfl)
    have hv1 := rv_val (hv 1 _ v2 rfl rfl)
    subst hv0
    subst hv1
    obtain ⟨m, hm⟩ := cell_of hst
    refine (Tryz.strings_Cut (bs s) (bs p) m w (show s.length < _ by omega) hm).mono fun e w' hh => ?_
    obtain ⟨rfl, n, rfl⟩ := hh
    refine ⟨_, rfl, drew_below w n, fun w'' O' => .tup rfl fun i x v hx hv => ?_⟩
    rcases i with _ | _ | _ | i
    · cases hx; cases hv; exact .val
    · cases hx; cases hv; exact .val
    · cases hx; cases hv; exact .val
    · simp at hx
theorem lib_cutSuffix (s p : Str) (hs : s.length ≤ 100000) : CallT Tryz.prog 36 [sv s, sv p] [] (fun o A => o = .ret (.tup [sv (Lib.trimSuffix s p), bv (Lib.hasSuffix s p)]) ∧ A = []) :=
  callT_lib fun w O vs hst hl hv => by
    obtain ⟨v, v2, rfl⟩ : ∃ v v2, vs = #[v, v2] := by
      obtain ⟨l⟩ := vs
      match l, hl with
      | [v, v2], _ => exact ⟨v, v2, rfl⟩
    have hv0 := rv_val (hv 0 _ v rfl rfl)
    have hv1 := rv_val (hv 1 _ v2 rfl rfl)
    subst hv0
    subst hv1
    refine (Tryz.strings_CutSuffix (bs s) (bs p) w (show s.length ≤ _ by omega)).mono fun e w' hh => ?_
    obtain ⟨rfl, rfl⟩ := hh
    refine ⟨_, rfl, Below.refl _ _, fun w'' O' => .tup rfl fun i x v hx hv => ?_⟩
    rcases i with _ | _ | i
    · cases hx; cases hv; exact .val
    · cases hx; cases hv; exact .val
    · simp at hx
theorem lib_itoa (n : Int) (h0 : -9223372036854775808 ≤ n) (h1 : n ≤ 9223372036854775807) : CallT Tryz.prog 40 [iv n] [] (fun o A => o = .ret (sv (Lib.itoa n)) ∧ A = []) :=
  callT_lib fun w O vs hst hl hv => by
    obtain ⟨v, rfl⟩ : ∃ v, vs = #[v] := by
      obtain ⟨l⟩ := vs
      match l, hl with
      | [v], _ => exact ⟨v, rfl⟩
    have hv0 := rv_val (hv 0 _ v rfl rfl)
    subst hv0
    refine (Tryz.strconv_Itoa n h0 h1 w (tab_of hst)).mono fun e w' hh => ?_
    obtain ⟨rfl, k, os, rfl⟩ := hh
    exact ⟨_, rfl, grow_below w k os, fun w'' O' => .val⟩
theorem lib_atoi (s : Str) (n : Int) (hl : s.length ≤ 18) (h : Lib.atoi s = some n) : CallT Tryz.prog 39 [sv s] [] (fun o A => o = .ret (.tup [iv n, .val .nilIface]) ∧ A = []) :=
  callT_lib fun w O vs hst hl' hv => by
    obtain ⟨v, rfl⟩ : ∃ v, vs = #[v] := by
      obtain ⟨l⟩ := vs
      match l, hl' with
      | [v], _ => exact ⟨v, rfl⟩
    have hv0 := rv_val (hv 0 _ v rfl rfl)
    subst hv0
    refine (Tryz.strconv_Atoi (bs s) n (show s.length ≤ 18 from hl) h w).mono fun e w' hh => ?_
    obtain ⟨rfl, t, rfl⟩ := hh
    refine ⟨_, rfl, Lib.bytesWorld_below w 5 t, fun w'' O' => .tup rfl fun i x v hx hv => ?_⟩
    rcases i with _ | _ | i
    · cases hx; cases hv; exact .val
    · cases hx; cases hv; exact .val
    · simp at hx
end Go.Iron.Tryz
