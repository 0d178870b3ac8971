/- Iron: more of operations: texts, what stands in interfaces, numbers' kinds and bits, parts of slices. -/
import Derived.Test.YtamhonbhoelohaaIronU
namespace Go.Iron

/-- What the machine knows besides. -/
structure TJ where
  ifs : List (Nat × Unit)
  zv : List (Nat × AV)
  strs : List (Nat × Unit)
  ints : List (Nat × IntKind)
  fns : List (Nat × Func)
  dr : List (Nat × List (Nat × Nat))

def ZV (P : Program) (t : TypeId) (x : AV) : Prop := P.concrete t = true ∧ ∃ z, (P.info? t).bind (fun i => i.zero) = some z ∧ toA (.iface 0 z) = some (.ifc 0 x)

class Inf2 (P : Program) (J : outParam TJ) : Prop where
  ifs : AllL (fun p : Nat × Unit => ∃ ms, P.underlying p.1 = some (.interface ms)) J.ifs
  zv : AllL (fun p : Nat × AV => ZV P p.1 p.2) J.zv
  strs : AllL (fun p : Nat × Unit => P.underlying p.1 = some .string) J.strs
  ints : AllL (fun p : Nat × IntKind => P.underlying p.1 = some (.int p.2)) J.ints
  fns : AllL (fun p : Nat × Func => P.funcs[p.1]? = some p.2 ∧ p.2.body.isSome = true ∧ (p.2.name == "runtime.NumGoroutine") = false) J.fns
  draw : P.follows .mixedOrders = true

/-- A text of bytes, and its bytes. -/
def bs (l : List UInt8) : ByteArray := ⟨⟨l⟩⟩
def bl (s : ByteArray) : List UInt8 := s.data.toList
@[simp] theorem bl_bs (l : List UInt8) : bl (bs l) = l := rfl
@[simp] theorem bs_bl (s : ByteArray) : bs (bl s) = s := rfl
theorem bs_toList (l : List UInt8) : (bs l).toList = l := by rw [ByteArray.toList_eq]; rfl
theorem size_bl (s : ByteArray) : s.size = (bl s).length := by
  show s.data.size = s.data.toList.length
  rw [Array.length_toList]
theorem bs_inj {a b : List UInt8} (h : bs a = bs b) : a = b := by have := congrArg bl h; simpa using this

def intsB (op : BinOp) (k : IntKind) (x y : Int) : Option Value :=
  match op with
  | .and => some (.int k (k.wrap (BitVec.ofInt k.bits x &&& BitVec.ofInt k.bits y).toNat))
  | .or => some (.int k (k.wrap (BitVec.ofInt k.bits x ||| BitVec.ofInt k.bits y).toNat))
  | .xor => some (.int k (k.wrap (BitVec.ofInt k.bits x ^^^ BitVec.ofInt k.bits y).toNat))
  | .andNot => some (.int k (k.wrap (BitVec.ofInt k.bits x &&& ~~~BitVec.ofInt k.bits y).toNat))
  | _ => none

def binN (J : TJ) (op : BinOp) (xt : TypeId) : AV → AV → Option (AV × Ob)
  | .ifc _ _, .val .nilIface => match lk J.ifs xt with
    | none => none
    | some _ => match op with
      | .eql => some (.val (.bool false), [])
      | .neq => some (.val (.bool true), [])
      | _ => none
  | .val (.string p), .val (.string q) => match op with
    | .add => some (.val (.string (bs (bl p ++ bl q))), [(true, Nat.ble ((bl p).length + (bl q).length) 9223372036854775807)])
    | .lss => some (.val (.bool (Op.bytesLess p.toList q.toList)), [])
    | .leq => some (.val (.bool (Op.bytesLess p.toList q.toList || p.toList == q.toList)), [])
    | .gtr => some (.val (.bool !(Op.bytesLess p.toList q.toList || p.toList == q.toList)), [])
    | .geq => some (.val (.bool !(Op.bytesLess p.toList q.toList)), [])
    | _ => none
  | .val (.int k p), .val (.int k' q) => match op with
    | .shl => some (.val (.int k (k.wrap (p * 2 ^ (min q.toNat k.bits)))), [(true, decide (0 ≤ q))])
    | .shr => some (.val (.int k (p.fdiv (2 ^ (min q.toNat k.bits)))), [(true, decide (0 ≤ q))])
    | op => match Nat.beq (IntKind.idx k) (IntKind.idx k') with
      | false => none
      | true => match intsB op k p q with
        | some v => some (.val v, [])
        | none => none
  | _, _ => none

/-- The bounds of a part: from, to. -/
def loP (τ : Nat → AV) : Option Operand → Option Int
  | none => some 0
  | some x => match evA τ x with
    | .val (.int _ i) => some i
    | _ => none
def hiP (τ : Nat → AV) (m : Nat) : Option Operand → Option Int
  | none => some m
  | some x => match evA τ x with
    | .val (.int _ i) => some i
    | _ => none

def part2 (l h : Int) (s : List UInt8) : List UInt8 := (s.take h.toNat).drop l.toNat
/-- Parts of a row. -/
def shiftR (r : Nat → List AV) (l : Nat) : Nat → List AV := fun i => r (l + i)

def maxsP (mx : Bool) (τ : Nat → AV) : List Operand → Option (IntKind × Int)
  | [] => none
  | [x] => match evA τ x with
    | .val (.int k p) => some (k, p)
    | _ => none
  | x :: l => none
def max2P (mx : Bool) : AV → AV → Option AV
  | .val (.int k p), .val (.int _ q) => some (.val (.int k (match mx with | true => if q > p then q else p | false => if q < p then q else p)))
  | _, _ => none
def foldP (mx : Bool) (τ : Nat → AV) : AV → List Operand → Option AV
  | x, [] => some x
  | x, y :: l => match max2P mx x (evA τ y) with
    | some z => foldP mx τ z l
    | none => none

def execN (I : TI) (J : TJ) (τ : Nat → AV) (ar : List AO) : Op → Option (AV × Ob)
  | .binOp op xt x y _ => binN J op xt (evA τ x) (evA τ y)
  | .typeAssert x _ t ok => match lk J.zv t with
    | none => none
    | some z => match evA τ x with
      | .ifc t' y => match Nat.beq t' t with
        | true => match ok with
          | true => some (.tup [y, .val (.bool true)], [])
          | false => match frc y with
            | some y => some (y, [])
            | none => none
        | false => match ok with
          | true => some (.tup [z, .val (.bool false)], [])
          | false => none
      | .val .nilIface => match ok with
        | true => some (.tup [z, .val (.bool false)], [])
        | false => none
      | _ => none
  | .call { callee := .builtin .len, args, argTypes } => match args.toList, argTypes.toList with
    | [x], [t] => match lk J.strs t with
      | some _ => match evA τ x with
        | .val (.string s) => some (.val (.int .i64 (bl s).length), [])
        | _ => none
      | none => none
    | _, _ => none
  | .call { callee := .builtin .max, args, argTypes } => match args.toList with
    | x :: l => match foldP true τ (evA τ x) l with
      | some z => match frc z with
        | some z => some (z, [])
        | none => none
      | none => none
    | [] => none
  | .call { callee := .builtin .min, args, argTypes } => match args.toList with
    | x :: l => match foldP false τ (evA τ x) l with
      | some z => match frc z with
        | some z => some (z, [])
        | none => none
      | none => none
    | [] => none
  | .index t x y => match lk J.strs t with
    | some _ => match evA τ x with
      | .val (.string s) => match evA τ y with
        | .val (.int _ i) => some (.val (.int .u8 ((bl s).getD i.toNat 0).toNat), [(true, inB i (bl s).length)])
        | _ => none
      | _ => none
    | none => none
  | .slice t x lo hi none => match evA τ x with
    | .val (.string s) => match lk J.strs t with
      | some _ => match loP τ lo with
        | some l => match hiP τ (bl s).length hi with
          | some h => some (.val (.string (bs (part2 l h (bl s)))), [(true, decide (0 ≤ l) && decide (l ≤ h) && decide (h ≤ (bl s).length))])
          | none => none
        | none => none
      | none => none
    | .slc sz nl m r => match lk I.el t with
      | some e => match lk I.ty e with
        | some (sz', _) => match Nat.beq sz' sz with
          | true => match loP τ lo with
            | some l => match hiP τ m hi with
              | some h => some (.slc sz nl (h - l).toNat (shiftR r l.toNat), [(true, decide (0 ≤ l) && decide (l ≤ h) && decide (h ≤ m))])
              | none => none
            | none => none
          | false => none
        | none => none
      | none => none
    | _ => none
  | .convert s t x => match evA τ x with
    | .val (.int _ p) => match lk J.ints t with
      | some k => match lk J.ints s with
        | some _ => some (.val (.int k (k.wrap p)), [])
        | none => none
      | none => none
    | _ => none
  | _ => none

section
variable {P : Program} {τ : Nat → AV} {ar : List AO} {I : TI} {J : TJ}

theorem op_ifcNil {o : Oper} {xt yt : TypeId} {x y : Operand} {t : TypeId} {z : AV} (ht : ∃ ms, P.underlying xt = some (.interface ms)) (hx : evA τ x = .ifc t z) (hy : evA τ y = .val .nilIface) :
    (o.op = .binOp .eql xt x y yt → OpStep P τ ar o (.val (.bool false)) ar) ∧ (o.op = .binOp .neq xt x y yt → OpStep P τ ar o (.val (.bool true)) ar) := by
  obtain ⟨ms, ht⟩ := ht
  have key : ∀ (d : Nat) (w : World) (u : Value), (Op.equalIn (d + 1) xt (.iface t u) .nilIface).run P w = .ok false w := by
    intro d w u
    simp [Op.equalIn, run_underlying ht]
  constructor
  all_goals
    intro ho
    refine opStep_same fun C a w ρ hR h => ?_
    have hv := evA_ok h x
    rw [hx] at hv
    obtain ⟨u, e1, _⟩ := rv_ifc hv
    have hg : ∀ op, (eqGuard op xt x y (.iface t u) .nilIface).run P w = .ok () w := fun op => by unfold eqGuard; cases op <;> rfl
    obtain ⟨q1, q2⟩ := run_binEq (P := P) (w := w) (t := xt) (x := .iface t u) (y := .nilIface) rfl (key 9999 w u)
  · exact ⟨_, by simp only [execOp, ho, e1, eval_val h hy, Sem.run_bind, hg, q1, Result.andThen_ok]; rfl, .val⟩
  · exact ⟨_, by simp only [execOp, ho, e1, eval_val h hy, Sem.run_bind, hg, q2, Result.andThen_ok]; rfl, .val⟩

theorem op_str {o : Oper} {op : BinOp} {xt yt : TypeId} {x y : Operand} {p q : ByteArray} {v : Value} (ho : o.op = .binOp op xt x y yt) (hx : evA τ x = .val (.string p)) (hy : evA τ y = .val (.string q))
    (h : ∀ w : World, (Op.stringOp op p q).run P w = .ok v w) : OpStep P τ ar o (.val v) ar :=
  opStep_same fun C a w ρ hR hs => by
    have hg : (eqGuard op xt x y (.string p) (.string q)).run P w = .ok () w := by unfold eqGuard; cases op <;> rfl
    have hb : binOp op xt (.string p) (.string q) = Op.stringOp op p q := by cases op <;> rfl
    exact ⟨v, by simp only [execOp, ho, eval_val hs hx, eval_val hs hy, Sem.run_bind, hg, Result.andThen_ok, hb, h]; rfl, .val⟩

theorem op_ints {o : Oper} {op : BinOp} {xt yt : TypeId} {x y : Operand} {k : IntKind} {p q : Int} {v : Value} (ho : o.op = .binOp op xt x y yt) (hx : evA τ x = .val (.int k p)) (hy : evA τ y = .val (.int k q))
    (hv : intsB op k p q = some v) : OpStep P τ ar o (.val v) ar :=
  opStep_same fun C a w ρ hR hs => by
    have hg : (eqGuard op xt x y (.int k p) (.int k q)).run P w = .ok () w := by unfold eqGuard; cases op <;> rfl
    have hb : (binOp op xt (.int k p) (.int k q)).run P w = .ok v w := by
      cases op <;> first | (cases hv; done) | (cases hv; simp [binOp, Op.intBits])
    exact ⟨v, by simp only [execOp, ho, eval_val hs hx, eval_val hs hy, Sem.run_bind, hg, Result.andThen_ok, hb]; rfl, .val⟩

theorem op_shift {o : Oper} {op : BinOp} {xt yt : TypeId} {x y : Operand} {k k' : IntKind} {p q : Int} {r : Int} (ho : o.op = .binOp op xt x y yt) (hx : evA τ x = .val (.int k p)) (hy : evA τ y = .val (.int k' q)) (hq : 0 ≤ q)
    (hop : op = .shl ∧ r = k.wrap (p * 2 ^ (min q.toNat k.bits)) ∨ op = .shr ∧ r = p.fdiv (2 ^ (min q.toNat k.bits))) : OpStep P τ ar o (.val (.int k r)) ar :=
  opStep_same fun C a w ρ hR hs => by
    have hq' : ¬ q < 0 := by omega
    have hg : ∀ op, (eqGuard op xt x y (.int k p) (.int k' q)).run P w = .ok () w := fun op => by unfold eqGuard; cases op <;> rfl
    rcases hop with ⟨rfl, rfl⟩ | ⟨rfl, rfl⟩
    · have hb : (binOp .shl xt (.int k p) (.int k' q)).run P w = .ok (.int k (k.wrap (p * 2 ^ (min q.toNat k.bits)))) w := by simp [binOp, Op.shift, hq']
      exact ⟨_, by simp only [execOp, ho, eval_val hs hx, eval_val hs hy, Sem.run_bind, hg, Result.andThen_ok, hb]; rfl, .val⟩
    · have hb : (binOp .shr xt (.int k p) (.int k' q)).run P w = .ok (.int k (p.fdiv (2 ^ (min q.toNat k.bits)))) w := by simp [binOp, Op.shift, hq']
      exact ⟨_, by simp only [execOp, ho, eval_val hs hx, eval_val hs hy, Sem.run_bind, hg, Result.andThen_ok, hb]; rfl, .val⟩

theorem run_zeroV {t : TypeId} {x : AV} (h : ZV P t x) (w : World) : ∃ z, (zeroValue t).run P w = .ok z w ∧ ∀ O ρ, RV w O ρ x z := by
  obtain ⟨_, z, h1, h3⟩ := h
  obtain ⟨i, h1, h2⟩ : ∃ i, P.info? t = some i ∧ i.zero = some z := by
    cases hi : P.info? t with
    | none => simp [hi] at h1
    | some i => simp [hi] at h1; exact ⟨i, rfl, h1⟩
  refine ⟨z, by simp [zeroValue, typeInfo, h1, h2], fun O ρ => ?_⟩
  have := toA_ok (w := w) (O := O) (ρ := ρ) h3
  obtain ⟨u, e, h⟩ := rv_ifc this
  cases e
  exact h

theorem not_ifc {t : TypeId} (h : P.concrete t = true) : ∃ d, P.underlying t = some d ∧ ∀ ms, d ≠ .interface ms := by
  unfold Program.concrete at h
  cases hd : P.underlying t with
  | none => simp [hd] at h
  | some d => exact ⟨d, rfl, fun ms e => by subst e; simp [hd] at h⟩

theorem op_assert {o : Oper} {x : Operand} {xt t t' : TypeId} {z y : AV} (hz : ZV P t z) (hx : evA τ x = .ifc t' y) :
    (t' = t → o.op = .typeAssert x xt t true → OpStep P τ ar o (.tup [y, .val (.bool true)]) ar) ∧ (t' = t → o.op = .typeAssert x xt t false → OpStep P τ ar o y ar) ∧
    (t' ≠ t → o.op = .typeAssert x xt t true → OpStep P τ ar o (.tup [z, .val (.bool false)]) ar) := by
  obtain ⟨d, hd, hd2⟩ := not_ifc hz.1
  have tup2 : ∀ {w : World} {O : Nat → Prop} {ρ : List Loc} {a : AV} {u : Value} {b : Bool}, RV w O ρ a u → RV w O ρ (.tup [a, .val (.bool b)]) (.tuple #[u, .bool b]) := by
    intro w O ρ a u b h
    refine .tup rfl fun i x v hx hv => ?_
    match i with
    | 0 => simp at hx hv; subst hx; subst hv; exact h
    | 1 => simp at hx hv; subst hx; subst hv; exact .val
    | i + 2 => simp at hx
  refine ⟨?_, ?_, ?_⟩
  · rintro rfl ho
    refine opStep_same fun C a w ρ hR h => ?_
    have hv := evA_ok h x
    rw [hx] at hv
    obtain ⟨u, e1, h1⟩ := rv_ifc hv
    refine ⟨.tuple #[u, .bool true], ?_, tup2 h1⟩
    cases d <;> first | (exact absurd rfl (hd2 _)) | simp [execOp, ho, e1, Instr.typeAssert, run_underlying hd]
  · rintro rfl ho
    refine opStep_same fun C a w ρ hR h => ?_
    have hv := evA_ok h x
    rw [hx] at hv
    obtain ⟨u, e1, h1⟩ := rv_ifc hv
    refine ⟨u, ?_, h1⟩
    cases d <;> first | (exact absurd rfl (hd2 _)) | simp [execOp, ho, e1, Instr.typeAssert, run_underlying hd]
  · intro hne ho
    refine opStep_same fun C a w ρ hR h => ?_
    have hv := evA_ok h x
    rw [hx] at hv
    obtain ⟨u, e1, h1⟩ := rv_ifc hv
    obtain ⟨zv, z1, z2⟩ := run_zeroV hz w
    refine ⟨.tuple #[zv, .bool false], ?_, tup2 (z2 _ _)⟩
    cases d <;> first | (exact absurd rfl (hd2 _)) | simp [execOp, ho, e1, Instr.typeAssert, run_underlying hd, hne, z1]
theorem op_assertNil {o : Oper} {x : Operand} {xt t : TypeId} {z : AV} (hz : ZV P t z) (hx : evA τ x = .val .nilIface) (ho : o.op = .typeAssert x xt t true) : OpStep P τ ar o (.tup [z, .val (.bool false)]) ar := by
  obtain ⟨d, hd, hd2⟩ := not_ifc hz.1
  refine opStep_same fun C a w ρ hR h => ?_
  obtain ⟨zv, z1, z2⟩ := run_zeroV hz w
  refine ⟨.tuple #[zv, .bool false], ?_, ?_⟩
  · cases d <;> first | (exact absurd rfl (hd2 _)) | simp [execOp, ho, eval_val h hx, Instr.typeAssert, run_underlying hd, z1]
  · refine .tup rfl fun i x v hx hv => ?_
    match i with
    | 0 => simp at hx hv; subst hx; subst hv; exact z2 _ _
    | 1 => simp at hx hv; subst hx; subst hv; exact .val
    | i + 2 => simp at hx

theorem op_indexStr {o : Oper} {t : TypeId} {x y : Operand} {s : ByteArray} {k : IntKind} {i : Int} (ht : P.underlying t = some .string) (ho : o.op = .index t x y) (hx : evA τ x = .val (.string s)) (hy : evA τ y = .val (.int k i)) (hi : inB i (bl s).length = true) :
    OpStep P τ ar o (.val (.int .u8 ((bl s).getD i.toNat 0).toNat)) ar :=
  opStep_same fun C a w ρ hR h => by
    obtain ⟨h1, h2⟩ := inB_iff.1 hi
    have hlt : i.toNat < (bl s).length := by omega
    have hg : s[i.toNat]? = some ((bl s).getD i.toNat 0) := by
      have hsz : i.toNat < s.size := by rw [size_bl]; exact hlt
      rw [getElem?_pos s i.toNat hsz, List.getD_eq_getElem?_getD, List.getElem?_eq_getElem hlt]
      rfl
    exact ⟨_, by simp only [execOp, ho, eval_val h hx, eval_val h hy, Instr.index, Sem.run_bind, run_underlying ht, Result.andThen_ok, asIntOf, Sem.run_pure]; simp [h1, hg], .val⟩

theorem bounds_run {w : World} {isS : Bool} {len cap : Nat} {l h : Int} {lo hi : Option Operand} {a : Act} {O : Nat → Prop} {ρ : List Loc} (hs : Slots w O ρ τ a.tmps) (hl : loP τ lo = some l) (hh : hiP τ len hi = some h) (h1 : 0 ≤ l) (h2 : l ≤ h) (h3 : h ≤ len) (hc : len ≤ cap) :
    (Instr.sliceBounds isS len cap (lo.map a.eval) (hi.map a.eval) none).run P w = .ok (l.toNat, h.toNat, cap) w := by
  have hlo : lo = none ∧ l = 0 ∨ ∃ x k, lo = some x ∧ evA τ x = .val (.int k l) := by
    cases lo with
    | none => simp [loP] at hl; exact .inl ⟨rfl, hl.symm⟩
    | some x =>
      simp only [loP] at hl
      split at hl
      · rename_i k i hx; cases hl; exact .inr ⟨x, k, rfl, hx⟩
      · cases hl
  have hhi : hi = none ∧ h = len ∨ ∃ x k, hi = some x ∧ evA τ x = .val (.int k h) := by
    cases hi with
    | none => simp [hiP] at hh; exact .inl ⟨rfl, hh.symm⟩
    | some x =>
      simp only [hiP] at hh
      split at hh
      · rename_i k i hx; cases hh; exact .inr ⟨x, k, rfl, hx⟩
      · cases hh
  have hb : ∀ (x : Operand) (k : IntKind) (i : Int) (y : Nat) (c : BoundsCode), evA τ x = .val (.int k i) → 0 ≤ i → i ≤ y → (Instr.sliceBound (a.eval x) y c).run P w = .ok i.toNat w := by
    intro x k i y c hx hi1 hi2
    simp [Instr.sliceBound, eval_val hs hx, asIntOf, hi1, hi2]
  rcases hlo with ⟨rfl, rfl⟩ | ⟨x, k, rfl, hx⟩ <;> rcases hhi with ⟨rfl, rfl⟩ | ⟨y, k', rfl, hy⟩
  · simp [Instr.sliceBounds]
  · simp only [Instr.sliceBounds, Option.map_none, Option.map_some, Sem.run_bind, Sem.run_pure, Result.andThen_ok, hb y k' h cap _ hy (by omega) (by omega)]; simp
  · have := hb x k l len .sliceB hx (by omega) (by omega)
    simp only [Instr.sliceBounds, Option.map_none, Option.map_some, Sem.run_bind, Sem.run_pure, Result.andThen_ok]
    simp [this]
  · have := hb x k l h.toNat .sliceB hx (by omega) (by omega)
    simp only [Instr.sliceBounds, Option.map_none, Option.map_some, Sem.run_bind, Sem.run_pure, Result.andThen_ok, hb y k' h cap _ hy (by omega) (by omega)]
    simp [this]

theorem op_sliceStr {o : Oper} {t : TypeId} {x : Operand} {lo hi : Option Operand} {s : ByteArray} {l h : Int} (ht : P.underlying t = some .string) (ho : o.op = .slice t x lo hi none) (hx : evA τ x = .val (.string s)) (hl : loP τ lo = some l) (hh : hiP τ (bl s).length hi = some h)
    (h1 : 0 ≤ l) (h2 : l ≤ h) (h3 : h ≤ (bl s).length) : OpStep P τ ar o (.val (.string (bs (part2 l h (bl s))))) ar :=
  opStep_same fun C a w ρ hR hs => by
    have hb := bounds_run (P := P) (isS := false) hs hl hh h1 h2 h3 (Nat.le_refl _)
    have he : s.extract l.toNat h.toNat = bs (part2 l h (bl s)) := by
      apply ByteArray.ext
      apply Array.ext'
      simp [part2, bs, bl, ByteArray.data_extract, List.extract_eq_take_drop, List.drop_take]
    refine ⟨_, ?_, .val⟩
    rw [← size_bl] at hb
    simp only [execOp, ho, eval_val hs hx, Instr.sliceAt, Instr.slice, Sem.run_bind, run_underlying ht, Result.andThen_ok, Option.map_none, hb, Sem.run_pure, he]
    simp [hb, he]

theorem op_sliceSlc {o : Oper} {t e : TypeId} {x : Operand} {lo hi : Option Operand} {sz : Nat} {ag : Bool} {nl : Option Bool} {m : Nat} {r : Nat → List AV} {l h : Int} [he : ElT P t e] [hty : Ty P e sz ag] (ho : o.op = .slice t x lo hi none) (hx : evA τ x = .slc sz nl m r)
    (hl : loP τ lo = some l) (hh : hiP τ m hi = some h) (h1 : 0 ≤ l) (h2 : l ≤ h) (h3 : h ≤ m) : OpStep P τ ar o (.slc sz nl (h - l).toNat (shiftR r l.toNat)) ar :=
  opStep_same fun C a w ρ hR hs => by
    have hv := evA_ok hs x
    rw [hx] at hv
    obtain ⟨A, cap, g, e1, c1, c2, c3, c4, c5, c6, c7⟩ := rv_slc hv
    have hb := bounds_run (P := P) (isS := true) (cap := cap) hs hl hh h1 h2 h3 c1
    have key : ∀ i, i < (h - l).toNat → l.toNat + i < m := by intro i hi; omega
    have kpos : 0 < (h - l).toNat → 0 < m := by intro i; omega
    have klen : h.toNat - l.toNat = (h - l).toNat := by omega
    have kcap : h.toNat - l.toNat ≤ cap - l.toNat := by omega
    have kmax : cap - l.toNat ≤ maxLen := by omega
    refine ⟨.slice (if cap = l.toNat then A else A.map (·.add (l.toNat * sz))) (h.toNat - l.toNat) (cap - l.toNat), ?_, ?_⟩
    · simp only [execOp, ho, e1, Instr.sliceAt, Instr.slice, Sem.run_bind, run_underlying he.h, Result.andThen_ok, Option.map_none, hb, sizeOf_run, Sem.run_pure]
    · by_cases hcap : cap = l.toNat
      · have h0 : h.toNat - l.toNat = 0 := by omega
        rw [if_pos hcap]
        exact .slc klen kcap kmax c3 (fun i hi => by omega) (fun hn => by omega) (fun _ _ => undef) (fun i j x a hi => by omega) (fun i j x hi => by omega)
      · rw [if_neg hcap]
        refine .slc klen kcap kmax (fun b hb' => by rw [c3 b hb']; cases A <;> rfl) (fun i hi => c4 _ (key i hi)) (fun hn => ?_) (fun i j => g (l.toNat + i) j) (fun i j x a' hi hxj ha => ?_) (fun i j x hi hxj => c7 (l.toNat + i) j x (key i hi) hxj)
        · obtain ⟨a', ha, hb1, hb2⟩ := c5 (kpos (by rw [← klen]; exact hn))
          exact ⟨a'.add (l.toNat * sz), by rw [ha]; rfl, by rw [add_block]; exact hb1, by rw [add_block]; exact hb2⟩
        · cases A with
          | none => simp at ha
          | some a0 =>
            simp at ha
            subst ha
            obtain ⟨q1, q2⟩ := c6 (l.toNat + i) j x a0 (key i hi) hxj rfl
            have hadd : (a0.add (l.toNat * sz)).add (i * sz + j) = a0.add ((l.toNat + i) * sz + j) := by
              have : (l.toNat + i) * sz + j = l.toNat * sz + (i * sz + j) := by rw [Nat.add_mul]; omega
              rw [this] at q1 ⊢
              exact add_add' q1
            rw [hadd]
            exact ⟨q1, q2⟩

theorem op_convInt {o : Oper} {s t : TypeId} {x : Operand} {k k0 k1 : IntKind} {p : Int} (ht : P.underlying t = some (.int k)) (hs0 : P.underlying s = some (.int k0)) (ho : o.op = .convert s t x) (hx : evA τ x = .val (.int k1 p)) : OpStep P τ ar o (.val (.int k (k.wrap p))) ar :=
  opStep_same fun C a w ρ hR hs => ⟨_, by simp [execOp, ho, eval_val hs hx, convert, run_underlying ht, run_underlying hs0, Conv.intToInt], .val⟩

theorem fold_ok {mx : Bool} {w : World} {O : Nat → Prop} {ρ : List Loc} {a : Act} (hs : Slots w O ρ τ a.tmps) : ∀ (l : List Operand) (x z : AV) (v : Value), foldP mx τ x l = some z → RV w O ρ x v →
    ∃ u, ((l.map a.eval).foldlM (if mx then Builtin.max2 else Builtin.min2) v).run P w = .ok u w ∧ RV w O ρ z u
  | [], x, z, v, h, hx => by
    simp [foldP] at h
    subst h
    exact ⟨v, by simp, hx⟩
  | y :: l, x, z, v, h, hx => by
    simp only [foldP] at h
    split at h
    · rename_i z1 hz
      unfold max2P at hz
      split at hz
      · rename_i k p k' q hy
        cases hz
        have e1 := rv_val hx
        subst e1
        have e2 := eval_val hs hy
        obtain ⟨u, h1, h2⟩ := fold_ok hs l _ z _ h .val
        refine ⟨u, ?_, h2⟩
        cases mx <;> simpa [Builtin.max2, Builtin.min2, e2] using h1
      · cases hz
    · cases h
end
end Go.Iron
