/- Iron: an abstract machine that goes as far as it can by itself. -/
import Derived.Test.YtamhonbhoelohaaIronE
import Derived.Test.YtamhonbhoelohaaIronG
namespace Go.Iron

def lk {α : Type} : List (Nat × α) → Nat → Option α
  | [], _ => none
  | (k, x) :: l, t => match Nat.beq t k with
    | true => some x
    | false => lk l t
inductive AllL {α : Type} (p : α → Prop) : List α → Prop
  | nil : AllL p []
  | cons {x l} : p x → AllL p l → AllL p (x :: l)
theorem AllL.mem {α : Type} {p : α → Prop} {l : List α} (h : AllL p l) : ∀ x ∈ l, p x := by
  induction h with
  | nil => intro x hx; simp at hx
  | cons h1 _ ih => intro x hx; rcases List.mem_cons.1 hx with rfl | h'; exact h1; exact ih x h'
theorem lk_mem {α : Type} {l : List (Nat × α)} {t : Nat} {x : α} (h : lk l t = some x) : (t, x) ∈ l := by
  induction l with
  | nil => simp [lk] at h
  | cons p l ih =>
    obtain ⟨k, y⟩ := p
    simp only [lk] at h
    cases hb : Nat.beq t k with
    | true => simp [hb] at h; subst h; rw [Nat.eq_of_beq_eq_true hb]; simp
    | false => simp [hb] at h; exact List.mem_cons_of_mem _ (ih h)

/-- How a type's values are compared. -/
inductive EK where
  | int | bool | str
  | struct (fs : List (Nat × TypeId))

def EqK (P : Program) (t : TypeId) : EK → Prop
  | .int => ∃ k, P.underlying t = some (.int k)
  | .bool => P.underlying t = some .bool
  | .str => P.underlying t = some .string
  | .struct l => (∃ fs, P.underlying t = some (.struct fs) ∧ fs.toList.map (fun f => (f.offset, f.type)) = l ∧ fs.toList.all (fun f => f.name != "_") = true) ∧ P.stoodInHeld t = false ∧ P.eqGuardType P.depth t = false

/-- What the machine knows of types. -/
structure TI where
  eqs : List (Nat × EK)
  ty : List (Nat × Nat × Bool)
  el : List (Nat × Nat)
  fld : List (Nat × List (Nat × Nat))
  zero : List (Nat × List AV × Nat)
  bools : List (Nat × Unit)
  conc : List (Nat × Unit)
  pl : List (Nat × List (Nat × Nat))

class Inf (P : Program) (I : outParam TI) : Prop where
  ty : AllL (fun p : Nat × Nat × Bool => Ty P p.1 p.2.1 p.2.2) I.ty
  el : AllL (fun p : Nat × Nat => ElT P p.1 p.2) I.el
  fld : AllL (fun p : Nat × List (Nat × Nat) => ∀ j off ft, nth p.2 j = some (off, ft) → FldT P p.1 j off ft) I.fld
  zero : AllL (fun p : Nat × List AV × Nat => ZeroT P p.1 p.2.1 p.2.2) I.zero
  bools : AllL (fun p : Nat × Unit => P.underlying p.1 = some .bool) I.bools
  conc : AllL (fun p : Nat × Unit => ConT P p.1) I.conc
  pl : AllL (fun p : Nat × List (Nat × Nat) => StrT P p.1 p.2) I.pl
  eqs : AllL (fun p : Nat × EK => EqK P p.1 p.2) I.eqs

theorem fldAll {P : Program} {t : Nat} {l : List (Nat × Nat)} (h : ∃ fs, P.underlying t = some (.struct fs) ∧ fs.toList.map (fun f => (f.offset, f.type)) = l) : ∀ j off ft, nth l j = some (off, ft) → FldT P t j off ft := by
  obtain ⟨fs, h1, rfl⟩ := h
  intro j off ft hj
  rw [nth_eq, List.getElem?_map] at hj
  cases hf : fs.toList[j]? with
  | none => simp [hf] at hj
  | some f =>
    simp [hf] at hj
    exact ⟨⟨fs, f, h1, by simpa using hf, hj.1, hj.2⟩⟩

abbrev Ob := List (Bool × Bool)
def Obs (l : Ob) : Prop := ∀ p ∈ l, p.1 = true → p.2 = true
theorem obs_nil : Obs [] := fun p h => by simp at h
theorem obs_same {c : Bool} {l : Ob} (h : Obs l) : Obs ((c, c) :: l) := fun p hp => by
  rcases List.mem_cons.1 hp with rfl | h'
  · exact fun z => z
  · exact h p h'
theorem obs_and {c d : Bool} {l : Ob} (h : Obs l) : Obs ((c && d, c) :: l) := fun p hp => by
  rcases List.mem_cons.1 hp with rfl | h'
  · intro z; simp at z; exact z.1
  · exact h p h'
theorem obs_by {c d : Bool} {l : Ob} (h' : c = true → d = true) (h : Obs l) : Obs ((c, d) :: l) := fun p hp => by
  rcases List.mem_cons.1 hp with rfl | h''
  · exact h'
  · exact h p h''

def IntKind.idx : IntKind → Nat
  | .i8 => 0 | .i16 => 1 | .i32 => 2 | .i64 => 3 | .u8 => 4 | .u16 => 5 | .u32 => 6 | .u64 => 7
theorem IntKind.idx_inj {k k' : IntKind} (h : Nat.beq (IntKind.idx k) (IntKind.idx k') = true) : k = k' := by
  cases k <;> cases k' <;> first | rfl | simp [IntKind.idx] at h

/-- It has been told. -/
def frc : AV → Option AV
  | .bad => none
  | .val v => some (.val v)
  | .agg cs => some (.agg cs)
  | .tup cs => some (.tup cs)
  | .slc a b c d => some (.slc a b c d)
  | .loc a b => some (.loc a b)
  | .ptr a b c => some (.ptr a b c)
  | .row a b => some (.row a b)
  | .elt a b c d e => some (.elt a b c d e)
  | .fn a b => some (.fn a b)
  | .ifc a b => some (.ifc a b)
  | .opt a b => some (.opt a b)
  | .yld a => some (.yld a)
theorem frc_eq {x y : AV} (h : frc x = some y) : y = x := by cases x <;> simp [frc] at h <;> exact h.symm

def nz : Int → Bool
  | .ofNat 0 => false
  | _ => true
theorem nz_ne {q : Int} (h : nz q = true) : q ≠ 0 := by
  intro e
  subst e
  simp [nz] at h

def eqFs (I : TI) (E : TypeId → AV → AV → Option Bool) (xs ys : List AV) : List (Nat × TypeId) → Option Bool
  | [] => some true
  | (off, ft) :: l => match lk I.ty ft with
    | none => none
    | some (sz, ag) => match loadA ag sz xs off with
      | none => none
      | some a => match loadA ag sz ys off with
        | none => none
        | some b => match E ft a b with
          | none => none
          | some r => match eqFs I E xs ys l with
            | none => none
            | some s => some (r && s)

def eqA (I : TI) : Nat → TypeId → AV → AV → Option Bool
  | 0, _, _, _ => none
  | d + 1, t, x, y => match lk I.eqs t with
    | none => none
    | some .int => match x with
      | .val (.int k p) => match y with
        | .val (.int k' q) => match Nat.beq (IntKind.idx k) (IntKind.idx k') with
          | true => some (p == q)
          | false => none
        | _ => none
      | _ => none
    | some .bool => match x with
      | .val (.bool p) => match y with
        | .val (.bool q) => some (p == q)
        | _ => none
      | _ => none
    | some .str => match x with
      | .val (.string p) => match y with
        | .val (.string q) => some (p.toList == q.toList)
        | _ => none
      | _ => none
    | some (.struct fs) => match x with
      | .agg xs => match y with
        | .agg ys => eqFs I (fun ft a b => eqA I d ft a b) xs ys fs
        | _ => none
      | _ => none

def binP (I : TI) (op : BinOp) (xt : TypeId) : AV → AV → Option (AV × Ob)
  | .val (.int k p), .val (.int k' q) => match Nat.beq (IntKind.idx k) (IntKind.idx k') with
    | false => none
    | true => match op with
      | .quo => some (.val (.int k (k.wrap (p.tdiv q))), [(true, nz q)])
      | .rem => some (.val (.int k (p.tmod q)), [(true, nz q)])
      | op => match arithV op k p q with
        | some v => some (.val v, [])
        | none => none
  | .val (.bool p), .val (.bool q) => match lk I.bools xt with
    | none => none
    | some _ => match op with
      | .eql => some (.val (.bool (p == q)), [])
      | .neq => some (.val (.bool (!(p == q))), [])
      | _ => none
  | .val (.string p), .val (.string q) => match op with
    | .eql => some (.val (.bool (p.toList == q.toList)), [])
    | .neq => some (.val (.bool (!(p.toList == q.toList))), [])
    | _ => none
  | .slc _ (some b) _ _, .val (.slice none 0 0) => match lk I.el xt with
    | none => none
    | some _ => match op with
      | .eql => some (.val (.bool b), [])
      | .neq => some (.val (.bool (!b)), [])
      | _ => none
  | .agg xs, .agg ys => match op with
    | .eql => match eqA I 20 xt (.agg xs) (.agg ys) with
      | some b => some (.val (.bool b), [])
      | none => none
    | .neq => match eqA I 20 xt (.agg xs) (.agg ys) with
      | some b => some (.val (.bool (!b)), [])
      | none => none
    | _ => none
  | _, _ => none

/-- One's own row at its version. -/
def rowP (ar : List AO) (id ver : Nat) : Option (TypeId × Nat × Nat × (Nat → List AV) × Bool) :=
  match nth ar id with
  | some (.row e sz v m r) => some (e, sz, m, r, Nat.beq v ver)
  | _ => none

def lenP (I : TI) (ar : List AO) (t : TypeId) : AV → Option (AV × Ob)
  | .slc _ _ m _ => match lk I.el t with
    | some _ => some (.val (.int .i64 m), [])
    | none => none
  | .row id ver => match lk I.el t with
    | some _ => match rowP ar id ver with
      | some (_, _, m, _, ok) => some (.val (.int .i64 m), [(true, ok)])
      | none => none
    | none => none
  | .val (.slice none 0 _) => match lk I.el t with
    | some _ => some (.val (.int .i64 0), [])
    | none => none
  | _ => none

/-- The version and cells behind a pointer of one's own. -/
def objP (ar : List AO) (id ver : Nat) : Option (AO × List AV) :=
  match nth ar id with
  | none => none
  | some ob => match ob.cells with
    | none => none
    | some (v, cs) => match Nat.beq v ver with
      | true => some (ob, cs)
      | false => none

def execP (I : TI) (τ : Nat → AV) (ar : List AO) : Op → Option (AV × Ob)
  | .move y | .assign y => match frc (evA τ y) with
    | some x => some (x, [])
    | none => none
  | .pick c y z => match evA τ c with
    | .val (.bool b) => match evA τ y with
      | .val (.bool p) => match evA τ z with
        | .val (.bool q) => some (.val (.bool (if b then p else q)), [])
        | .opt c' (.val (.bool q)) => some (.val (.bool (if b then p else q)), [(b == false, c')])
        | _ => none
      | .opt c' (.val (.bool p)) => match evA τ z with
        | .val (.bool q) => some (.val (.bool (if b then p else q)), [(b == true, c')])
        | _ => none
      | _ => none
    | _ => none
  | .binOp op xt x y _ => binP I op xt (evA τ x) (evA τ y)
  | .unOp .not _ x => match evA τ x with
    | .val (.bool b) => some (.val (.bool (!b)), [])
    | _ => none
  | .unOp .neg _ x => match evA τ x with
    | .val (.int k p) => some (.val (.int k (k.wrap (0 - p))), [])
    | _ => none
  | .extract x j => match evA τ x with
    | .tup l => match nth l j with
      | some y => match frc y with
        | some y => some (y, [])
        | none => none
      | none => none
    | _ => none
  | .call { callee := .builtin .len, args, argTypes } => match args.toList, argTypes.toList with
    | [x], [t] => lenP I ar t (evA τ x)
    | _, _ => none
  | .load t p => match lk I.ty t with
    | none => none
    | some (sz, ag) => match evA τ p with
      | .loc cs off => match loadA ag sz cs off with
        | some y => match frc y with
          | some y => some (y, [])
          | none => none
        | none => none
      | .ptr id ver off => match objP ar id ver with
        | some (_, cs) => match loadA ag sz cs off with
          | some y => match frc y with
            | some y => some (y, [])
            | none => none
          | none => none
        | none => none
      | .elt id ver sz2 i off => match rowP ar id ver with
        | some (_, sz', m, r, ok) => match Nat.beq sz' sz2 with
          | true => match loadA ag sz (r i) off with
            | some y => match frc y with
              | some y => some (y, [(true, inB i m), (true, ok)])
              | none => none
            | none => none
          | false => none
        | none => none
      | _ => none
  | .indexAddr t x y => match lk I.el t with
    | none => none
    | some e => match lk I.ty e with
      | none => none
      | some (sz, _) => match evA τ y with
        | .val (.int _ i) => match evA τ x with
          | .slc sz' _ m r => match Nat.beq sz' sz with
            | true => some (.loc (r i.toNat) 0, [(true, inB i m)])
            | false => none
          | .row id ver => match rowP ar id ver with
            | some (_, sz', m, _, ok) => match Nat.beq sz' sz with
              | true => some (.elt id ver sz i.toNat 0, [(true, inB i m), (true, ok)])
              | false => none
            | none => none
          | _ => none
        | _ => none
  | .fieldAddr t x j => match lk I.fld t with
    | none => none
    | some fs => match nth fs j with
      | none => none
      | some (off, ft) => match lk I.ty ft with
        | none => none
        | some (sz, _) => match Nat.beq sz 0 with
          | true => none
          | false => match evA τ x with
            | .loc cs o1 => some (.loc cs (Nat.add o1 off), [])
            | .ptr id ver o1 => match objP ar id ver with
              | some _ => some (.ptr id ver (Nat.add o1 off), [])
              | none => none
            | .elt id ver sze i o1 => match rowP ar id ver with
              | some (_, sz', _, _, ok) => match Nat.beq sz' sze with
                | true => some (.elt id ver sze i (Nat.add o1 off), [(true, ok)])
                | false => none
              | none => none
            | _ => none
  | .field t x j => match lk I.fld t with
    | none => none
    | some fs => match nth fs j with
      | none => none
      | some (off, ft) => match lk I.ty ft with
        | none => none
        | some (sz, ag) => match evA τ x with
          | .agg cs => match loadA ag sz cs off with
            | some y => match frc y with
              | some y => some (y, [])
              | none => none
            | none => none
          | _ => none
  | .build t parts => match lk I.zero t, lk I.pl t with
    | some (z0, _), some pl => match partsA τ parts.toList with
      | some as => match fillA (nth pl) z0 as with
        | some cs => some (.agg cs, [])
        | none => none
      | none => none
    | _, _ => none
  | .makeFunc g first capt => match first.toList with
    | [] => some (.fn g (evAs τ capt.toList), [])
    | _ => none
  | .makeInterface t x => match lk I.conc t with
    | some _ => match frc (evA τ x) with
      | some y => some (.ifc t y, [])
      | none => none
    | none => none
  | _ => none

/-- An element's cells changed. -/
def setR (r : Nat → List AV) (i : Nat) (ys : List AV) : Nat → List AV := fun k => match Nat.beq k i with
  | true => ys
  | false => r k
theorem setR_self {r : Nat → List AV} {i : Nat} {ys : List AV} : setR r i ys i = ys := by simp [setR]
theorem setR_ne {r : Nat → List AV} {i k : Nat} {ys : List AV} (h : k ≠ i) : setR r i ys k = r k := by
  have : Nat.beq k i = false := by rw [Bool.eq_false_iff]; simp [h]
  simp [setR, this]

/-- The elements of a slice: so many, and their cells. -/
def srcP (ar : List AO) (sz : Nat) : AV → Option (Nat × (Nat → List AV) × Bool)
  | .slc sz' _ m r => match Nat.beq sz' sz with
    | true => some (m, r, true)
    | false => none
  | .row id ver => match rowP ar id ver with
    | some (_, sz', m, r, ok) => match Nat.beq sz' sz with
      | true => some (m, r, ok)
      | false => none
    | none => none
  | .val (.slice none 0 0) => some (0, fun _ => [], true)
  | _ => none

def execM (I : TI) (τ : Nat → AV) (ar : List AO) : Op → Option (AV × List AO × Ob)
  | .box e y => match cellsA (evA τ y) with
    | some cs => match snocN ar (.box e cs) with
      | some (ar', id) => some (.ptr id 0 0, ar', [])
      | none => none
    | none => none
  | .alloc e => match lk I.zero e with
    | some (cs, _) => match snocN ar (.box e cs) with
      | some (ar', id) => some (.ptr id 0 0, ar', [])
      | none => none
    | none => none
  | .store t p y => match lk I.ty t with
    | none => none
    | some (sz, _) => match evA τ p with
      | .ptr id ver off => match objP ar id ver with
        | some (ob, cs) => match cellsA (evA τ y) with
          | some ys => match Nat.beq ys.length sz with
            | true => match splice cs off ys with
              | some cs' => match ob with
                | .box e _ => match setN ar id (.box e cs') with
                  | some ar' => some (.val undef, ar', [])
                  | none => none
                | _ => none
              | none => none
            | false => none
          | none => none
        | none => none
      | .elt id ver szr i off => match rowP ar id ver with
        | some (e, szr', m, r, ok) => match Nat.beq szr' szr with
          | false => none
          | true => match cellsA (evA τ y) with
            | some ys => match Nat.beq ys.length sz with
              | true => match splice (r i) off ys with
                | some cs' => match setN ar id (.row e szr' ver m (setR r i cs')) with
                  | some ar' => some (.val undef, ar', [(true, inB i m), (true, ok)])
                  | none => none
                | none => none
              | false => none
            | none => none
        | none => none
      | _ => none
  | .buildSlice t len parts => match lk I.el t with
    | none => none
    | some e => match lk I.zero e with
      | none => none
      | some (z0, _) => match partsA τ parts.toList with
        | none => none
        | some as => match fillA (rowPl z0.length) (rep z0 len) as with
          | none => none
          | some cs => match Nat.ble (len * z0.length) 16777216 with
            | false => none
            | true => match snocN ar (.row e z0.length 0 len (chunk z0.length cs)) with
              | some (ar', id) => some (.row id 0, ar', [])
              | none => none
  | .makeSlice t x y => match lk I.el t with
    | none => none
    | some e => match lk I.zero e with
      | none => none
      | some (z0, bytes) => match evA τ x with
        | .val (.int _ l) => match evA τ y with
          | .val (.int _ l') => match snocN ar (.row e z0.length 0 l.toNat (fun _ => z0)) with
            | some (ar', id) => some (.row id 0, ar', [(true, decide (l' = l)), (true, decide (0 ≤ l) && decide (l * bytes ≤ 140737488355328))])
            | none => none
          | _ => none
        | _ => none
  | .call { callee := .builtin .append, args, argTypes } => match args.toList with
    | [x, y] => match argTypes.toList with
      | [t, t'] => match Nat.beq t t' with
        | false => none
        | true => match lk I.el t with
          | none => none
          | some e => match lk I.zero e with
            | none => none
            | some (z0, bytes) => match evA τ x with
              | .row id ver => match rowP ar id ver with
                | none => none
                | some (e', sz, m, r, ok) => match Nat.beq e' e with
                  | false => none
                  | true => match Nat.beq sz z0.length with
                    | false => none
                    | true => match srcP ar z0.length (evA τ y) with
                      | none => none
                      | some (m2, r2, ok2) => match setN ar id (.row e' sz (Nat.succ ver) (m + m2) (appR m r r2)) with
                        | some ar' => some (.row id (Nat.succ ver), ar', [(true, ok), (true, ok2), (true, Nat.ble ((m + m2) * bytes) 140737488355328)])
                        | none => none
              | .val (.slice none 0 0) => match srcP ar z0.length (evA τ y) with
                | none => none
                | some (m2, r2, ok2) => match snocN ar (.row e z0.length 1 (0 + m2) (appR 0 r2 r2)) with
                  | some (ar', id) => some (.row id 1, ar', [(true, ok2), (true, Nat.ble ((0 + m2) * bytes) 140737488355328)])
                  | none => none
              | _ => none
      | _ => none
    | _ => none
  | _ => none

section
variable {P : Program} {f n : Nat} {C : Cx} {τ τ' : Nat → AV} {ar ar' : List AO} {k todo : List Item} {Q : Out → List AO → Prop} {ops : Array Oper} {I : TI}

theorem objP_spec {id ver : Nat} {ob : AO} {cs : List AV} (h : objP ar id ver = some (ob, cs)) : nth ar id = some ob ∧ ob.cells = some (ver, cs) := by
  unfold objP at h
  cases h1 : nth ar id with
  | none => simp [h1] at h
  | some o =>
    cases h2 : o.cells with
    | none => simp [h1, h2] at h
    | some p =>
      obtain ⟨v, c⟩ := p
      cases h3 : Nat.beq v ver with
      | false => simp [h1, h2, h3] at h
      | true =>
        simp [h1, h2, h3] at h
        obtain ⟨rfl, rfl⟩ := h
        rw [Nat.eq_of_beq_eq_true h3] at h2
        exact ⟨rfl, h2⟩

theorem rowP_spec {id ver : Nat} {e sz m : Nat} {r : Nat → List AV} {ok : Bool} (h : rowP ar id ver = some (e, sz, m, r, ok)) (hok : ok = true) : nth ar id = some (.row e sz ver m r) := by
  unfold rowP at h
  split at h
  · rename_i e' sz' v m' r' h1
    simp only [Option.some.injEq, Prod.mk.injEq] at h
    obtain ⟨rfl, rfl, rfl, rfl, rfl⟩ := h
    rw [h1, Nat.eq_of_beq_eq_true hok]
  · cases h

theorem op_pickOr' {o : Oper} {c y z : Operand} {b p q c' : Bool} (ho : o.op = .pick c y z) (hc : evA τ c = .val (.bool b)) (hy : evA τ y = .val (.bool p)) (hz : evA τ z = .opt c' (.val (.bool q))) (hi : (b == false) = true → c' = true) :
    OpStep P τ ar o (.val (.bool (if b then p else q))) ar :=
  opStep_same fun C a w ρ _ h => ⟨.bool (if b then p else q), by
    have hv := evA_ok h z
    rw [hz] at hv
    cases b with
    | true => simp [execOp, ho, eval_val h hc, eval_val h hy, asBool]
    | false => have := rv_val (rv_opt hv (hi rfl)); simp [execOp, ho, eval_val h hc, this, asBool], .val⟩
theorem op_pickAnd' {o : Oper} {c y z : Operand} {b p q c' : Bool} (ho : o.op = .pick c y z) (hc : evA τ c = .val (.bool b)) (hy : evA τ y = .opt c' (.val (.bool p))) (hz : evA τ z = .val (.bool q)) (hi : (b == true) = true → c' = true) :
    OpStep P τ ar o (.val (.bool (if b then p else q))) ar :=
  opStep_same fun C a w ρ _ h => ⟨.bool (if b then p else q), by
    have hv := evA_ok h y
    rw [hy] at hv
    cases b with
    | true => have := rv_val (rv_opt hv (hi rfl)); simp [execOp, ho, eval_val h hc, this, asBool]
    | false => simp [execOp, ho, eval_val h hc, eval_val h hz, asBool], .val⟩

theorem part_ok {w : World} {O : Nat → Prop} {ρ : List Loc} {ft : TypeId} {off sz : Nat} {ag : Bool} [ht : Ty P ft sz ag] {cs : List AV} {y : AV} {v : Value} (hv : RV w O ρ (.agg cs) v) (hy : loadA ag sz cs off = some y) :
    ∃ vs u, v = .agg vs ∧ (part ft vs off).run P w = .ok u w ∧ RV w O ρ y u := by
  obtain ⟨vs, e1, e2, e3, e4⟩ := rv_agg hv
  have hp : ∃ v, (part ft vs off).run P w = .ok v w ∧ RV w O ρ y v := by
    cases ag with
    | false =>
      simp only [loadA, nth_eq] at hy
      have hi : off < vs.size := by rw [← e2]; exact (List.getElem?_eq_some_iff.1 hy).1
      refine ⟨vs[off], ?_, e3 off y _ hy (by simp [hi])⟩
      simp [part, isAgg_run (P := P) (t := ft) (sz := sz) (ag := false), hi]
    | true =>
      simp only [loadA] at hy
      cases hs : sub cs off sz with
      | none => simp [hs] at hy
      | some r =>
        simp [hs] at hy
        subst hy
        obtain ⟨hl, hr⟩ := sub_spec cs off sz r hs
        have hfit : ∀ j, j < sz → off + j < vs.size := fun j hj => by
          have : cs[off + j]? = r[j]? := hr j hj
          have hjr : j < r.length := by omega
          rw [List.getElem?_eq_getElem hjr] at this
          rw [← e2]; exact (List.getElem?_eq_some_iff.1 this).1
        refine ⟨.agg (vs.extract off (off + sz)), ?_, ?_⟩
        · simp [part, isAgg_run (P := P) (t := ft) (sz := sz) (ag := true), sizeOf_run (P := P) (t := ft) (sz := sz) (ag := true)]
        · have hsz : sz = 0 ∨ off + sz ≤ vs.size := by
            rcases Nat.eq_zero_or_pos sz with h0 | h0
            · exact .inl h0
            · have := hfit (sz - 1) (by omega); right; omega
          have hel : ∀ (i : Nat) v, (vs.extract off (off + sz))[i]? = some v → i < sz ∧ vs[off + i]? = some v := fun i v hv => by
            have hi := (Array.getElem?_eq_some_iff.1 hv).1
            simp at hi
            have : i < sz := by omega
            refine ⟨this, ?_⟩
            rw [Array.getElem?_extract, if_pos hi] at hv
            exact hv
          refine .agg ?_ (fun i x v hx hv => ?_) (fun i v hv => ?_)
          · rw [hl]; simp; rcases hsz with h0 | h0 <;> omega
          · obtain ⟨hi, hv'⟩ := hel i v hv
            exact e3 (off + i) x v (by rw [hr i hi]; exact hx) hv'
          · obtain ⟨hi, hv'⟩ := hel i v hv
            exact e4 _ _ hv'
  obtain ⟨u, h1, h2⟩ := hp
  exact ⟨vs, u, e1, h1, h2⟩

theorem eqA_ok [hI : Inf P I] {w : World} {O : Nat → Prop} {ρ : List Loc} : ∀ (d : Nat) (t : TypeId) (x y : AV) (b : Bool), eqA I d t x y = some b → ∀ v u, RV w O ρ x v → RV w O ρ y u → ∀ D, d ≤ D → (Op.equalIn D t v u).run P w = .ok b w
  | 0, _, _, _, _, h => by simp [eqA] at h
  | d + 1, t, x, y, b, h => by
    intro v u hx hy D hD
    obtain ⟨D, rfl⟩ : ∃ D', D = D' + 1 := ⟨D - 1, by omega⟩
    unfold eqA at h
    split at h
    · cases h
    · rename_i hk
      obtain ⟨k, hk⟩ : ∃ k, P.underlying t = some (.int k) := hI.eqs.mem _ (lk_mem hk)
      split at h
      · split at h
        · split at h
          · rename_i hid
            have := IntKind.idx_inj hid
            subst this
            cases h
            rw [rv_val hx, rv_val hy]
            exact run_equalIn_int w D t _ k _ _ hk
          · cases h
        · cases h
      · cases h
    · rename_i hk
      have hk : P.underlying t = some .bool := hI.eqs.mem _ (lk_mem hk)
      split at h
      · split at h
        · cases h
          rw [rv_val hx, rv_val hy]
          exact run_equalIn_bool' w D t _ _ hk
        · cases h
      · cases h
    · rename_i hk
      have hk : P.underlying t = some .string := hI.eqs.mem _ (lk_mem hk)
      split at h
      · split at h
        · cases h
          rw [rv_val hx, rv_val hy]
          exact run_equalIn_string w D t _ _ hk
        · cases h
      · cases h
    · rename_i fs hk
      obtain ⟨⟨fl, f1, f2, f3⟩, hst, _⟩ : EqK P t (.struct fs) := hI.eqs.mem _ (lk_mem hk)
      split at h
      · split at h
        · rename_i xs ys
          obtain ⟨vs, rfl, _⟩ := rv_agg hx
          obtain ⟨us, rfl, _⟩ := rv_agg hy
          have hfo : P.fieldsOf t = fl := by simp [Program.fieldsOf, f1]
          rw [run_equalIn_struct w D t vs us (by rw [hfo]; exact f1) hst, hfo]
          clear hk f1 hfo
          revert f2 f3
          generalize fl.toList = l
          intro f2 f3
          induction l generalizing fs b with
          | nil =>
            simp at f2
            subst f2
            simp [eqFs] at h
            subst h
            simp [Op.eqFields]
          | cons f l ih =>
            cases fs with
            | nil => simp at f2
            | cons p fs =>
              simp only [List.map_cons, List.cons.injEq] at f2
              obtain ⟨rfl, f2⟩ := f2
              simp only [List.all_cons, Bool.and_eq_true, bne_iff_ne] at f3
              simp only [eqFs] at h
              split at h
              · cases h
              · rename_i sz ag hty
                haveI : Ty P f.type sz ag := hI.ty.mem _ (lk_mem hty)
                split at h
                · cases h
                · rename_i a ha
                  split at h
                  · cases h
                  · rename_i b' hb
                    split at h
                    · cases h
                    · rename_i r hr
                      split at h
                      · cases h
                      · rename_i s hs
                        cases h
                        obtain ⟨vs', va, e1, p1, p2⟩ := part_ok (P := P) (ft := f.type) hx ha
                        cases e1
                        obtain ⟨us', ua, e1, q1, q2⟩ := part_ok (P := P) (ft := f.type) hy hb
                        cases e1
                        have hE := eqA_ok d f.type a b' r hr va ua p2 q2 D (by omega)
                        have hrest := ih s fs hs f2 f3.2
                        have hn : (f.name ≠ "_") = True := eq_true f3.1
                        simp only [Op.eqFields, hn, if_true, Sem.run_bind, p1, q1, hE, Result.andThen_ok, Sem.run_ite]
                        cases r
                        · simp
                        · simpa using hrest
        · cases h
      · cases h

theorem op_eqAgg [hI : Inf P I] {o : Oper} {xt yt : TypeId} {x y : Operand} {xs ys : List AV} {b : Bool} (hb : eqA I 20 xt (.agg xs) (.agg ys) = some b) (hx : evA τ x = .agg xs) (hy : evA τ y = .agg ys) :
    (o.op = .binOp .eql xt x y yt → OpStep P τ ar o (.val (.bool b)) ar) ∧ (o.op = .binOp .neq xt x y yt → OpStep P τ ar o (.val (.bool (!b))) ar) := by
  have hg : P.eqGuardType P.depth xt = false := by
    unfold eqA at hb
    split at hb
    · cases hb
    · simp at hb
    · simp at hb
    · simp at hb
    · rename_i fs hk
      obtain ⟨_, _, h⟩ : EqK P xt (.struct fs) := hI.eqs.mem _ (lk_mem hk)
      exact h
  constructor
  all_goals
    intro ho
    refine opStep_same fun C a w ρ hR h => ?_
    have hv := evA_ok h x
    have hu := evA_ok h y
    rw [hx] at hv
    rw [hy] at hu
    obtain ⟨vs, e1, _⟩ := rv_agg hv
    obtain ⟨us, e2, _⟩ := rv_agg hu
    have hE := eqA_ok (P := P) 20 xt _ _ b hb _ _ hv hu 10000 (by omega)
    rw [e1, e2] at hE
  · refine ⟨.bool b, ?_, .val⟩
    simp only [execOp, ho, e1, e2, Sem.run_bind, run_eqGuard_agg w .eql xt x y vs us hg, Result.andThen_ok, run_eql_struct, hE]
    rfl
  · refine ⟨.bool (!b), ?_, .val⟩
    simp only [execOp, ho, e1, e2, Sem.run_bind, run_eqGuard_agg w .neq xt x y vs us hg, Result.andThen_ok, run_neq_struct, hE]
    rfl

theorem op_eqNil {o : Oper} {xt yt e : TypeId} {x y : Operand} {sz m : Nat} {b : Bool} {r : Nat → List AV} (he : P.underlying xt = some (.slice e)) (hx : evA τ x = .slc sz (some b) m r) (hy : evA τ y = .val (.slice none 0 0)) :
    (o.op = .binOp .eql xt x y yt → OpStep P τ ar o (.val (.bool b)) ar) ∧ (o.op = .binOp .neq xt x y yt → OpStep P τ ar o (.val (.bool (!b))) ar) := by
  have key : ∀ (d : Nat) (w : World) (A : Option Addr) (n cap : Nat), (Op.equalIn (d + 1) xt (.slice A n cap) (.slice none 0 0)).run P w = .ok A.isNone w := by
    intro d w A n cap
    cases A <;> simp [Op.equalIn, run_underlying he]
  constructor
  all_goals
    intro ho
    refine opStep_same fun C a w ρ hR h => ?_
    have hv := evA_ok h x
    rw [hx] at hv
    obtain ⟨A, cap, g, e1, _, _, hb, _⟩ := rv_slc hv
    have hb' := hb b rfl
    subst hb'
    have hg : ∀ op, (eqGuard op xt x y (.slice A m cap) (.slice none 0 0)).run P w = .ok () w := fun op => by unfold eqGuard; cases op <;> rfl
    obtain ⟨q1, q2⟩ := run_binEq (P := P) (w := w) (t := xt) (x := .slice A m cap) (y := .slice none 0 0) rfl (key 9999 w A m cap)
  · exact ⟨_, by simp only [execOp, ho, e1, eval_val h hy, Sem.run_bind, hg, q1, Result.andThen_ok]; rfl, .val⟩
  · exact ⟨_, by simp only [execOp, ho, e1, eval_val h hy, Sem.run_bind, hg, q2, Result.andThen_ok]; rfl, .val⟩

theorem binP_ok [hI : Inf P I] {o : Oper} {op : BinOp} {xt yt : TypeId} {x y : Operand} {v : AV} {ob : Ob} (ho : o.op = .binOp op xt x y yt) (h : binP I op xt (evA τ x) (evA τ y) = some (v, ob)) (hob : Obs ob) : OpStep P τ ar o v ar := by
  unfold binP at h
  split at h
  · rename_i k p k' q hx hy
    split at h
    · cases h
    · rename_i hk
      have := IntKind.idx_inj hk
      subst this
      split at h
      · cases h
        exact op_quo ho hx hy (nz_ne (hob _ (List.mem_singleton.2 rfl) rfl))
      · cases h
        exact op_rem ho hx hy (nz_ne (hob _ (List.mem_singleton.2 rfl) rfl))
      · split at h
        · rename_i hv
          cases h
          exact op_arith ho hx hy hv
        · cases h
  · rename_i p q hx hy
    split at h
    · cases h
    · rename_i hb
      have ht := hI.bools.mem _ (lk_mem hb)
      split at h
      · cases h; exact op_eqBool ht ho hx hy
      · cases h; exact op_neBool ht ho hx hy
      · cases h
  · rename_i p q hx hy
    split at h
    · cases h; exact op_eqStr ho hx hy
    · cases h; exact op_neStr ho hx hy
    · cases h
  · rename_i sz b m r hx hy
    split at h
    · cases h
    · rename_i e he
      have he' := (hI.el.mem _ (lk_mem he)).h
      split at h
      · cases h; exact (op_eqNil (P := P) he' hx hy).1 ho
      · cases h; exact (op_eqNil (P := P) he' hx hy).2 ho
      · cases h
  · rename_i xs ys hx hy
    split at h
    · split at h
      · rename_i b hb; cases h; exact (op_eqAgg (P := P) hb hx hy).1 ho
      · cases h
    · split at h
      · rename_i b hb; cases h; exact (op_eqAgg (P := P) hb hx hy).2 ho
      · cases h
    · cases h
  · cases h

theorem execP_ok [hI : Inf P I] {o : Oper} {x : AV} {ob : Ob} (h : execP I τ ar o.op = some (x, ob)) (hob : Obs ob) : OpStep P τ ar o x ar := by
  unfold execP at h
  split at h
  · rename_i y ho
    split at h
    · rename_i x' hx; cases h; exact op_mv (.inl ho) (frc_eq hx).symm
    · cases h
  · rename_i y ho
    split at h
    · rename_i x' hx; cases h; exact op_mv (.inr ho) (frc_eq hx).symm
    · cases h
  · rename_i c y z ho
    split at h
    · rename_i b hc
      split at h
      · rename_i p hy
        split at h
        · rename_i q hz; cases h; exact op_pickB ho hc hy hz
        · rename_i c' q hz; cases h; exact op_pickOr' ho hc hy hz (hob (b == false, c') (List.mem_singleton.2 rfl))
        · cases h
      · rename_i c' p hy
        split at h
        · rename_i q hz; cases h; exact op_pickAnd' ho hc hy hz (hob (b == true, c') (List.mem_singleton.2 rfl))
        · cases h
      · cases h
    · cases h
  · rename_i op xt x y yt ho
    exact binP_ok ho h hob
  · rename_i xt x ho
    split at h
    · rename_i b hx; cases h; exact op_not ho hx
    · cases h
  · rename_i xt x ho
    split at h
    · rename_i b hx; cases h; exact op_neg ho hx
    · cases h
  · rename_i x j ho
    split at h
    · rename_i l hx
      split at h
      · rename_i y hy
        split at h
        · rename_i y' hf; cases h; rw [frc_eq hf]; exact op_extract ho hx hy
        · cases h
      · cases h
    · cases h
  · rename_i args argTypes ho
    split at h
    · rename_i x t ha ht
      have ha' : args = #[x] := by cases args; simp_all
      have ht' : argTypes = #[t] := by cases argTypes; simp_all
      subst ha'
      subst ht'
      unfold lenP at h
      split at h
      · rename_i sz nl l hx
        split at h
        · rename_i e he
          cases h
          haveI := hI.el.mem _ (lk_mem he)
          exact op_len_slc (P := P) (t := t) (e := e) ho hx
        · cases h
      · rename_i id ver hx
        split at h
        · rename_i e he
          haveI := hI.el.mem _ (lk_mem he)
          split at h
          · rename_i e' sz' m r ok hrw
            cases h
            exact op_len_row (P := P) (t := t) (e := e) ho hx (rowP_spec hrw (hob (true, ok) (List.mem_singleton.2 rfl) rfl))
          · cases h
        · cases h
      · rename_i c hx
        split at h
        · rename_i e he
          cases h
          haveI := hI.el.mem _ (lk_mem he)
          exact op_len_nil (P := P) (t := t) (e := e) ho hx
        · cases h
      · cases h
    · cases h
  · rename_i t p ho
    split at h
    · cases h
    · rename_i sz ag ht
      haveI : Ty P t sz ag := hI.ty.mem _ (lk_mem ht)
      split at h
      · rename_i cs off hp
        split at h
        · rename_i y hy
          split at h
          · rename_i y' hf; cases h; rw [frc_eq hf]; exact op_load_loc (P := P) ho hp hy
          · cases h
        · cases h
      · rename_i id ver off hp
        split at h
        · rename_i ob' cs hob'
          obtain ⟨h1, h2⟩ := objP_spec hob'
          split at h
          · rename_i y hy
            split at h
            · rename_i y' hf; cases h; rw [frc_eq hf]; exact op_load_ptr (P := P) ho hp h1 h2 hy
            · cases h
          · cases h
        · cases h
      · rename_i id ver sz2 i off hp
        split at h
        · rename_i e' sz' m r ok hrw
          split at h
          · rename_i hb
            split at h
            · rename_i y hy
              split at h
              · rename_i y' hf
                cases h
                have hrw' := rowP_spec hrw (hob (true, ok) (by simp) rfl)
                rw [Nat.eq_of_beq_eq_true hb] at hrw'
                rw [frc_eq hf]
                exact op_load_elt (P := P) ho hp hrw' (hob (true, inB i m) (by simp) rfl) hy
              · cases h
            · cases h
          · cases h
        · cases h
      · cases h
  · rename_i t x y ho
    split at h
    · cases h
    · rename_i e he
      haveI := hI.el.mem _ (lk_mem he)
      split at h
      · cases h
      · rename_i sz ag hsz
        haveI : Ty P e sz ag := hI.ty.mem _ (lk_mem hsz)
        split at h
        · rename_i kk i hy
          split at h
          · rename_i sz' nl m r hx
            split at h
            · rename_i hb
              cases h
              exact op_index_slc (P := P) (t := t) (e := e) ho hx hy (Nat.eq_of_beq_eq_true hb) (hob (true, inB i m) (List.mem_singleton.2 rfl) rfl)
            · cases h
          · rename_i id ver hx
            split at h
            · rename_i e' sz' m r ok hrw
              split at h
              · rename_i hb
                cases h
                exact op_index_row (P := P) (t := t) (e := e) ho hx (rowP_spec hrw (hob (true, ok) (by simp) rfl)) hy (Nat.eq_of_beq_eq_true hb) (hob (true, inB i m) (by simp) rfl)
              · cases h
            · cases h
          · cases h
        · cases h
  · rename_i t x j ho
    split at h
    · cases h
    · rename_i fs hfs
      split at h
      · cases h
      · rename_i off ft hft
        haveI : FldT P t j off ft := hI.fld.mem _ (lk_mem hfs) j off ft hft
        split at h
        · cases h
        · rename_i sz ag hsz
          haveI : Ty P ft sz ag := hI.ty.mem _ (lk_mem hsz)
          split at h
          · cases h
          · rename_i hnz
            split at h
            · rename_i cs o1 hx; cases h; exact op_field_loc (P := P) ho hx hnz rfl
            · rename_i id ver o1 hx
              split at h
              · rename_i pr hob'
                obtain ⟨ob', cs⟩ := pr
                obtain ⟨h1, h2⟩ := objP_spec hob'
                cases h
                refine op_field_ptr (P := P) ho hx h1 ?_ hnz rfl
                cases ob' <;> simp [AO.cells] at h2 <;> simp [h2.1]
              · cases h
            · rename_i id ver sze i o1 hx
              split at h
              · rename_i e' sz' m r ok hrw
                split at h
                · rename_i hb
                  cases h
                  have := rowP_spec hrw (hob (true, ok) (by simp) rfl)
                  rw [Nat.eq_of_beq_eq_true hb] at this
                  exact op_field_elt (P := P) ho hx this hnz
                · cases h
              · cases h
            · cases h
  · rename_i t x j ho
    split at h
    · cases h
    · rename_i fs hfs
      split at h
      · cases h
      · rename_i off ft hft
        haveI : FldT P t j off ft := hI.fld.mem _ (lk_mem hfs) j off ft hft
        split at h
        · cases h
        · rename_i sz ag hsz
          haveI : Ty P ft sz ag := hI.ty.mem _ (lk_mem hsz)
          split at h
          · rename_i cs hx
            split at h
            · rename_i y hy
              split at h
              · rename_i y' hf; cases h; rw [frc_eq hf]; exact op_field_val (P := P) ho hx hy
              · cases h
            · cases h
          · cases h
  · rename_i t parts ho
    split at h
    · rename_i z0 bytes pl hz hp
      haveI : ZeroT P t z0 bytes := hI.zero.mem _ (lk_mem hz)
      haveI : StrT P t pl := hI.pl.mem _ (lk_mem hp)
      split at h
      · rename_i as has
        split at h
        · rename_i cs hcs; cases h; exact op_build (P := P) ho has hcs
        · cases h
      · cases h
    · cases h
  · rename_i g first capt ho
    split at h
    · rename_i hf
      have hf' : first = #[] := by cases first; simp_all
      subst hf'
      cases h
      exact op_makeFunc ho
    · cases h
  · rename_i t x ho
    split at h
    · rename_i u hu
      haveI : ConT P t := hI.conc.mem _ (lk_mem hu)
      split at h
      · rename_i y hy; cases h; exact op_makeInterface (P := P) ho (frc_eq hy).symm
      · cases h
    · cases h
  · cases h

theorem src_ok {sz m : Nat} {r : Nat → List AV} {x : AV} {ok : Bool} (hpos : 0 < sz) (h : srcP ar sz x = some (m, r, ok)) (hok : ok = true) (C : Cx) (w : World) (ρ : List Loc) (v : Value) (hR : RelA C ρ ar w) (hv : RV w (Ow C ρ ar) ρ x v) : Src w (Ow C ρ ar) ρ sz m r v := by
  unfold srcP at h
  split at h
  · split at h
    · rename_i hb
      cases h
      rw [Nat.eq_of_beq_eq_true hb] at hv
      exact src_slc hpos hv
    · cases h
  · split at h
    · rename_i hrw
      split at h
      · rename_i hb
        cases h
        have hrw' := rowP_spec hrw hok
        rw [Nat.eq_of_beq_eq_true hb, nth_eq] at hrw'
        exact src_row hpos hR hrw' hv
      · cases h
    · cases h
  · cases h
    rw [rv_val hv]
    exact ⟨none, 0, [], rfl, fun _ => rfl, by simp, fun a h => (by cases h), fun u h => (by cases h), by simp, fun i h => by omega, fun i j x v h => by omega⟩
  · cases h

theorem execM_ok [hI : Inf P I] {o : Oper} {x : AV} {ob : Ob} (h : execM I τ ar o.op = some (x, ar', ob)) (hob : Obs ob) : OpStep P τ ar o x ar' := by
  unfold execM at h
  split at h
  · rename_i e y ho
    split at h
    · rename_i cs hcs
      split at h
      · rename_i ar1 id har; cases h; exact op_box ho hcs har
      · cases h
    · cases h
  · rename_i e ho
    split at h
    · rename_i cs bytes hz
      haveI : ZeroT P e cs bytes := hI.zero.mem _ (lk_mem hz)
      split at h
      · rename_i ar1 id har; cases h; exact op_alloc (P := P) ho har
      · cases h
    · cases h
  · rename_i t p y ho
    split at h
    · cases h
    · rename_i sz ag ht
      haveI : Ty P t sz ag := hI.ty.mem _ (lk_mem ht)
      split at h
      · rename_i id ver off hp
        split at h
        · rename_i ob' cs hob'
          obtain ⟨h1, h2⟩ := objP_spec hob'
          split at h
          · rename_i ys hys
            split at h
            · rename_i hl
              split at h
              · rename_i cs' hsp
                split at h
                · rename_i e c
                  split at h
                  · rename_i ar1 har; cases h; exact op_store (P := P) ho hp h1 h2 hys hl hsp har
                  · cases h
                · cases h
              · cases h
            · cases h
          · cases h
        · cases h
      · rename_i id ver szr i off hp
        split at h
        · rename_i e szr' m r ok hrw
          split at h
          · cases h
          · rename_i hb
            have hbe := Nat.eq_of_beq_eq_true hb
            subst hbe
            split at h
            · rename_i ys hys
              split at h
              · rename_i hl
                split at h
                · rename_i cs' hsp
                  split at h
                  · rename_i ar1 har
                    cases h
                    have hrw' := rowP_spec hrw (hob (true, ok) (by simp) rfl)
                    have hin0 : inB i m = true := hob (true, inB i m) (by simp) rfl
                    have hin := (inB_iff.1 hin0).2
                    exact op_storeElt (P := P) (setR r i cs') ho hp hrw' (by omega) hys hl (by rw [setR_self]; exact hsp) (fun k _ hk => setR_ne hk) har
                  · cases h
                · cases h
              · cases h
            · cases h
        · cases h
      · cases h
  · rename_i t len parts ho
    split at h
    · cases h
    · rename_i e he
      haveI := hI.el.mem _ (lk_mem he)
      split at h
      · cases h
      · rename_i z0 bytes hz
        haveI : ZeroT P e z0 bytes := hI.zero.mem _ (lk_mem hz)
        split at h
        · cases h
        · rename_i as has
          split at h
          · cases h
          · rename_i cs hcs
            split at h
            · cases h
            · rename_i hle
              split at h
              · rename_i ar1 id har; cases h; exact op_buildSlice (P := P) (t := t) (e := e) ho rfl has hcs hle har
              · cases h
  · rename_i t x y ho
    split at h
    · cases h
    · rename_i e he
      haveI := hI.el.mem _ (lk_mem he)
      split at h
      · cases h
      · rename_i z0 bytes hz
        haveI : ZeroT P e z0 bytes := hI.zero.mem _ (lk_mem hz)
        split at h
        · rename_i k1 l hx
          split at h
          · rename_i k2 l' hy
            split at h
            · rename_i ar1 id har
              cases h
              have h1 := hob _ (List.mem_cons_self ..) rfl
              have h2 := hob _ (List.mem_cons_of_mem _ (List.mem_cons_self ..)) rfl
              have h1' : l' = l := by simpa using h1
              subst h1'
              exact op_makeSlice (P := P) (t := t) (e := e) ho hx hy rfl h2 har
            · cases h
          · cases h
        · cases h
  · rename_i args argTypes ho
    split at h
    · rename_i x y ha
      have ha' : args = #[x, y] := by cases args; simp_all
      subst ha'
      split at h
      · rename_i t t' ht
        have ht' : argTypes = #[t, t'] := by cases argTypes; simp_all
        subst ht'
        split at h
        · cases h
        · rename_i htt
          have htt' := Nat.eq_of_beq_eq_true htt
          subst htt'
          split at h
          · cases h
          · rename_i e he
            haveI := hI.el.mem _ (lk_mem he)
            split at h
            · cases h
            · rename_i z0 bytes hz
              haveI hzi : ZeroT P e z0 bytes := hI.zero.mem _ (lk_mem hz)
              have hpos : 0 < z0.length := by obtain ⟨_, _, _, _, _, _, _, _, _, _, h⟩ := hzi.all; exact h
              split at h
              · rename_i id ver hx
                split at h
                · cases h
                · rename_i e' sz m r ok hrw
                  split at h
                  · cases h
                  · rename_i hee
                    have hee' := Nat.eq_of_beq_eq_true hee
                    subst hee'
                    split at h
                    · cases h
                    · rename_i hsz
                      have hsz' := Nat.eq_of_beq_eq_true hsz
                      subst hsz'
                      split at h
                      · cases h
                      · rename_i m2 r2 ok2 hsrc
                        split at h
                        · rename_i ar1 har
                          cases h
                          exact op_append (P := P) ho hx (rowP_spec hrw (hob (true, ok) (by simp) rfl)) rfl (fun C w ρ v hR hv => src_ok hpos hsrc (hob (true, ok2) (by simp) rfl) C w ρ v hR hv) (hob (true, _) (List.mem_cons_of_mem _ (List.mem_cons_of_mem _ (List.mem_singleton.2 rfl))) rfl) har
                        · cases h
              · rename_i hx
                split at h
                · cases h
                · rename_i m2 r2 ok2 hsrc
                  split at h
                  · rename_i ar1 id har
                    cases h
                    exact op_appendNil (P := P) ho hx (fun C w ρ v hR hv => src_ok hpos hsrc (hob (true, ok2) (by simp) rfl) C w ρ v hR hv) (hob (true, _) (List.mem_cons_of_mem _ (List.mem_singleton.2 rfl)) rfl) har
                  · cases h
              · cases h
      · cases h
    · cases h
  · cases h

/-! ### The machine -/
structure Cfg where
  τ : Nat → AV
  ar : List AO
  todo : List Item
  ob : Ob

/-- What the condition asks of the operands' own. -/
def obsOf (c : Bool) (τ : Nat → AV) : List Nat → Ob
  | [] => []
  | t :: l => match τ t with
    | .opt c' _ => (c, c') :: obsOf c τ l
    | _ => obsOf c τ l

theorem goks_of {c : Bool} {l : List Nat} (h : Obs (obsOf c τ l)) : GOKs c τ l := by
  induction l with
  | nil => exact .nil
  | cons t l ih =>
    cases ht : τ t with
    | opt c' x =>
      simp only [obsOf, ht] at h
      exact .cons (by rw [ht]; exact .i (h (c, c') (by simp))) (ih fun p hp => h p (List.mem_cons_of_mem _ hp))
    | bad => simp only [obsOf, ht] at h; exact .cons (by rw [ht]; exact .n rfl) (ih h)
    | val _ => simp only [obsOf, ht] at h; exact .cons (by rw [ht]; exact .n rfl) (ih h)
    | agg _ => simp only [obsOf, ht] at h; exact .cons (by rw [ht]; exact .n rfl) (ih h)
    | tup _ => simp only [obsOf, ht] at h; exact .cons (by rw [ht]; exact .n rfl) (ih h)
    | slc _ _ _ _ => simp only [obsOf, ht] at h; exact .cons (by rw [ht]; exact .n rfl) (ih h)
    | loc _ _ => simp only [obsOf, ht] at h; exact .cons (by rw [ht]; exact .n rfl) (ih h)
    | ptr _ _ _ => simp only [obsOf, ht] at h; exact .cons (by rw [ht]; exact .n rfl) (ih h)
    | row _ _ => simp only [obsOf, ht] at h; exact .cons (by rw [ht]; exact .n rfl) (ih h)
    | elt _ _ _ _ _ => simp only [obsOf, ht] at h; exact .cons (by rw [ht]; exact .n rfl) (ih h)
    | fn _ _ => simp only [obsOf, ht] at h; exact .cons (by rw [ht]; exact .n rfl) (ih h)
    | ifc _ _ => simp only [obsOf, ht] at h; exact .cons (by rw [ht]; exact .n rfl) (ih h)
    | yld _ => simp only [obsOf, ht] at h; exact .cons (by rw [ht]; exact .n rfl) (ih h)

/-- What is asked only where the operation is done. -/
def cnd (c : Bool) : Ob → Ob
  | [] => []
  | (a, b) :: l => (c && a, b) :: cnd c l
theorem cnd_spec {c : Bool} {l : Ob} (h : Obs (cnd c l)) (hc : c = true) : Obs l := by
  subst hc
  induction l with
  | nil => exact obs_nil
  | cons p l ih =>
    obtain ⟨a, b⟩ := p
    exact obs_by (fun ha => h (true && a, b) (by simp [cnd]) (by simp [ha])) (ih fun p hp => h p (List.mem_cons_of_mem _ hp))

/-- An operation, where nothing but the machine's own knowledge is asked. -/
def opA (I : TI) (n : Nat) (τ : Nat → AV) (ar : List AO) (ops : Array Oper) (rest : List Nat) (k : List Item) (o : Oper) : Option Cfg :=
  match o.guard with
  | none => match execP I τ ar o.op with
    | some (x, ob) => match o.dst with
      | some d => match Nat.blt d n with
        | true => some ⟨upd τ d x, ar, .inRegion ops rest :: k, ob⟩
        | false => none
      | none => some ⟨τ, ar, .inRegion ops rest :: k, ob⟩
    | none => match execM I τ ar o.op with
      | some (x, ar', ob) => match o.dst with
        | some d => match Nat.blt d n with
          | true => some ⟨upd τ d x, ar', .inRegion ops rest :: k, ob⟩
          | false => none
        | none => some ⟨τ, ar', .inRegion ops rest :: k, ob⟩
      | none => none
  | some (j, want) => match nth ops.toList j with
    | none => none
    | some oj => match oj.dst with
      | none => none
      | some dj => match Nat.blt dj n, o.dst with
        | true, some d => match Nat.blt d n with
          | false => none
          | true => match τ dj with
            | .val (.bool b) => match execP I (opS (tmpsOf o.op.operands.toList) (sops o.op) τ) ar o.op with
              | some (x, ob) => some ⟨upd τ d (.opt (b == want) x), ar, .inRegion ops rest :: k, obsOf (b == want) τ (sops o.op) ++ cnd (b == want) ob⟩
              | none => none
            | .opt c (.val (.bool b)) => match execP I (opS (tmpsOf o.op.operands.toList) (sops o.op) τ) ar o.op with
              | some (x, ob) => some ⟨upd τ d (.opt (c && (b == want)) x), ar, .inRegion ops rest :: k, obsOf (c && (b == want)) τ (sops o.op) ++ cnd (c && (b == want)) ob⟩
              | none => none
            | _ => none
        | _, _ => none

def stepA (I : TI) (n : Nat) (τ : Nat → AV) (ar : List AO) : List Item → Option Cfg
  | .code (.seq x y) :: k => some ⟨τ, ar, .code x :: .code y :: k, []⟩
  | .code (.block id c) :: k => some ⟨τ, ar, .code c :: .inBlock id :: k, []⟩
  | .code .skip :: k => some ⟨τ, ar, k, []⟩
  | .code (.label _) :: k => some ⟨τ, ar, k, []⟩
  | .inBlock _ :: k => some ⟨τ, ar, k, []⟩
  | .code (.exit id) :: k => match exitTo id k with
    | some k' => some ⟨τ, ar, k', []⟩
    | none => none
  | .code (.region _ ops false) :: k => some ⟨τ, ar, .inRegion ops (List.range ops.size) :: k, []⟩
  | .inRegion _ [] :: k => some ⟨τ, ar, k, []⟩
  | .inRegion ops (i :: rest) :: k => match nth ops.toList i with
    | some o => opA I n τ ar ops rest k o
    | none => none
  | _ => none

theorem Obs.app {a b : Ob} (h : Obs (a ++ b)) : Obs a ∧ Obs b := ⟨fun p hp => h p (List.mem_append_left _ hp), fun p hp => h p (List.mem_append_right _ hp)⟩

theorem stepA_ok [hI : Inf P I] {c : Cfg} (h : stepA I n τ ar todo = some c) (hob : Obs c.ob) (hr : Run P f n C c.τ c.ar c.todo Q) : Run P f n C τ ar todo Q := by
  unfold stepA at h
  split at h
  · cases h; exact run_seq hr
  · cases h; exact run_block hr
  · cases h; exact run_skip hr
  · cases h; exact run_label hr
  · cases h; exact run_inBlock hr
  · split at h
    · rename_i k' hk; cases h; exact run_exit hk hr
    · cases h
  · cases h; exact run_region hr
  · cases h; exact run_regionEnd hr
  · rename_i ops i rest k
    split at h
    · rename_i o ho
      have ho' : ops[i]? = some o := by rw [nth_eq] at ho; simpa using ho
      unfold opA at h
      split at h
      · rename_i hg
        split at h
        · rename_i x ob hx
          split at h
          · rename_i d hd
            split at h
            · rename_i hdn
              cases h
              exact run_op ho' hg hd hdn (execP_ok hx hob) hr
            · cases h
          · rename_i hd
            cases h
            exact run_op0 ho' hg hd (execP_ok hx hob) hr
        · split at h
          · rename_i x ar1 ob hx
            split at h
            · rename_i d hd
              split at h
              · rename_i hdn
                cases h
                exact run_op ho' hg hd hdn (execM_ok hx hob) hr
              · cases h
            · rename_i hd
              cases h
              exact run_op0 ho' hg hd (execM_ok hx hob) hr
          · cases h
      · rename_i j want hg
        split at h
        · cases h
        · rename_i oj hoj
          have hoj' : ops[j]? = some oj := by rw [nth_eq] at hoj; simpa using hoj
          split at h
          · cases h
          · rename_i dj hdj
            split at h
            · rename_i d hdjn hd
              split at h
              · cases h
              · rename_i hdn
                split at h
                · rename_i b hb
                  split at h
                  · rename_i x ob hx
                    cases h
                    obtain ⟨o1, o2⟩ := hob.app
                    exact run_opV (oc := none) (b := b) ho' hg (.v hoj' hdj hdjn hb) hd hdn (goks_of o1) (fun hc => execP_ok hx (cnd_spec o2 hc)) hr
                  · cases h
                · rename_i c b hb
                  split at h
                  · rename_i x ob hx
                    cases h
                    obtain ⟨o1, o2⟩ := hob.app
                    exact run_opV (oc := some c) (b := b) ho' hg (.o hoj' hdj hdjn hb) hd hdn (goks_of o1) (fun hc => execP_ok hx (cnd_spec o2 hc)) hr
                  · cases h
                · cases h
            · cases h
    · cases h
  · cases h

def app {α : Type} : List α → List α → List α
  | [], l => l
  | x :: m, l => x :: app m l
theorem app_eq {α : Type} (m l : List α) : app m l = m ++ l := by induction m <;> simp [app, *]

def iterA (I : TI) (n : Nat) : Nat → (Nat → AV) → List AO → List Item → Ob → Cfg
  | 0, τ, ar, todo, ob => ⟨τ, ar, todo, ob⟩
  | m + 1, τ, ar, todo, ob => match stepA I n τ ar todo with
    | none => ⟨τ, ar, todo, ob⟩
    | some ⟨τ', ar', todo', ob'⟩ => iterA I n m τ' ar' todo' (app ob' ob)

theorem iterA_ok [hI : Inf P I] : ∀ (m : Nat) (τ : Nat → AV) (ar : List AO) (todo : List Item) (ob : Ob), Obs (iterA I n m τ ar todo ob).ob →
    Run P f n C (iterA I n m τ ar todo ob).τ (iterA I n m τ ar todo ob).ar (iterA I n m τ ar todo ob).todo Q → Obs ob ∧ Run P f n C τ ar todo Q
  | 0, τ, ar, todo, ob, ho, hr => ⟨ho, hr⟩
  | m + 1, τ, ar, todo, ob, ho, hr => by
    simp only [iterA] at ho hr
    cases hs : stepA I n τ ar todo with
    | none => simp only [hs] at ho hr; exact ⟨ho, hr⟩
    | some c =>
      obtain ⟨τ', ar', todo', ob'⟩ := c
      simp only [hs] at ho hr
      obtain ⟨h1, h2⟩ := iterA_ok m τ' ar' todo' (app ob' ob) ho hr
      rw [app_eq] at h1
      exact ⟨h1.app.2, stepA_ok hs h1.app.1 h2⟩

/-- As far as the machine goes by itself. -/
theorem run_x [hI : Inf P I] (m : Nat) {ob : Ob} (h : iterA I n m τ ar todo [] = ⟨τ', ar', k, ob⟩) (ho : Obs ob) (hr : Run P f n C τ' ar' k Q) : Run P f n C τ ar todo Q :=
  (iterA_ok (P := P) (f := f) (C := C) (Q := Q) m τ ar todo [] (by rw [h]; exact ho) (by rw [h]; exact hr)).2

end
end Go.Iron
