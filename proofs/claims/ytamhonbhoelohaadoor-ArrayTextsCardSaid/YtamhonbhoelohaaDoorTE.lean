/- Iron: this seat's types and functions, by program (mkinf.py). -/
import Derived.Test.YtamhonbhoelohaaDoorTB
import Derived.Test.YtamhonbhoelohaaDoorTC
import Derived.Test.YtamhonbhoelohaaDoorTD
import Derived.Test.YtamhonbhoelohaaDoorProg
import Derived.Lib.LaidTab
import Derived.Lib.ItoaNum
import Derived.Shelf.Strings.Builder1
import Derived.Shelf.Strings.Builder2
import Derived.Shelf.Strings.OnBuilder
import Derived.Shelf.Strconv.Atoi
import Derived.Shelf.Strconv.Itoa0
import Derived.Shelf.Strconv.Itoa1
import Derived.Shelf.LaysM
import Derived.Shelf.Strconv.Itoa2
import Derived.Shelf.Strconv.Itoa3
import Derived.Lib.AtoiErrMem
set_option maxRecDepth 10000
namespace Go.Iron.Tryd
open Go.Proofs
instance globs : Globs := ⟨[(0, fun cs => cs = (Lib.pow10Tab.map fun z => Value.int .u64 z).toArray)]⟩
def inf : TI where
  ty := [(1, 1, false), (3, 1, false), (4, 1, false), (5, 1, false), (9, 1, false), (20, 1, false), (22, 1, false), (27, 1, false), (33, 2, true), (36, 1, false), (38, 1, true), (39, 1, false), (41, 2, true), (47, 1, false), (51, 1, false), (53, 1, false), (55, 1, false), (60, 1, false)]
  el := [(22, 33), (36, 3), (47, 9), (51, 33), (55, 5)]
  fld := [(33, [(0, 3), (1, 3)]), (38, [(0, 3)]), (41, [(0, 9), (1, 3)])]
  zero := [(1, [.val (.nilFunc)], 8), (3, [.val (.int .i64 0)], 8), (4, [.val (.bool false)], 1), (5, [.val (.int .u8 0)], 1), (9, [.val (.string ⟨#[]⟩)], 16), (20, [.val (.nilIface)], 16), (22, [.val (.slice none 0 0)], 24), (27, [.val (.int .i64 0)], 8), (33, [.val (.int .i64 0), .val (.int .i64 0)], 16), (36, [.val (.slice none 0 0)], 24), (38, [.val (.int .i64 0)], 8), (39, [.val (.pointer none)], 8), (41, [.val (.string ⟨#[]⟩), .val (.int .i64 0)], 24), (47, [.val (.slice none 0 0)], 24), (51, [.val (.slice none 0 0)], 24), (53, [.val (.nilFunc)], 8), (55, [.val (.slice none 0 0)], 24), (60, [.val (.nilIface)], 16)]
  bools := [(4, ())]
  conc := [(1, ()), (3, ()), (4, ()), (5, ()), (9, ()), (22, ()), (27, ()), (33, ()), (36, ()), (38, ()), (39, ()), (41, ()), (47, ()), (51, ()), (53, ()), (55, ())]
  pl := [(33, [(0, 1), (1, 1)]), (38, [(0, 1)]), (41, [(0, 1), (1, 1)])]
  eqs := [(3, .int), (5, .int), (9, .str), (27, .int), (33, .struct [(0, 3), (1, 3)])]
theorem inf_ty : AllL (fun p : Nat × Nat × Bool => Ty Tryd.prog p.1 p.2.1 p.2.2) inf.ty := .cons (⟨by kernel_rfl, by kernel_rfl⟩) <| .cons (⟨by kernel_rfl, by kernel_rfl⟩) <| .cons (⟨by kernel_rfl, by kernel_rfl⟩) <| .cons (⟨by kernel_rfl, by kernel_rfl⟩) <| .cons (⟨by kernel_rfl, by kernel_rfl⟩) <| .cons (⟨by kernel_rfl, by kernel_rfl⟩) <| .cons (⟨by kernel_rfl, by kernel_rfl⟩) <| .cons (⟨by kernel_rfl, by kernel_rfl⟩) <| .cons (⟨by kernel_rfl, by kernel_rfl⟩) <| .cons (⟨by kernel_rfl, by kernel_rfl⟩) <| .cons (⟨by kernel_rfl, by kernel_rfl⟩) <| .cons (⟨by kernel_rfl, by kernel_rfl⟩) <| .cons (⟨by kernel_rfl, by kernel_rfl⟩) <| .cons (⟨by kernel_rfl, by kernel_rfl⟩) <| .cons (⟨by kernel_rfl, by kernel_rfl⟩) <| .cons (⟨by kernel_rfl, by kernel_rfl⟩) <| .cons (⟨by kernel_rfl, by kernel_rfl⟩) <| .cons (⟨by kernel_rfl, by kernel_rfl⟩) <| .nil
theorem inf_el : AllL (fun p : Nat × Nat => ElT Tryd.prog p.1 p.2) inf.el := .cons (⟨Tryd.underlying22⟩) <| .cons (⟨Tryd.underlying36⟩) <| .cons (⟨Tryd.underlying47⟩) <| .cons (⟨Tryd.underlying51⟩) <| .cons (⟨Tryd.underlying55⟩) <| .nil
theorem inf_fld : AllL (fun p : Nat × List (Nat × Nat) => ∀ j off ft, nth p.2 j = some (off, ft) → FldT Tryd.prog p.1 j off ft) inf.fld := .cons (fldAll ⟨_, Tryd.underlying33, rfl⟩) <| .cons (fldAll ⟨_, Tryd.underlying38, rfl⟩) <| .cons (fldAll ⟨_, Tryd.underlying41, rfl⟩) <| .nil
theorem inf_zero : AllL (fun p : Nat × List AV × Nat => ZeroT Tryd.prog p.1 p.2.1 p.2.2) inf.zero := .cons (⟨⟨.nilFunc, by kernel_rfl, rfl, rfl, rfl, rfl⟩⟩) <| .cons (⟨⟨.int .i64 0, by kernel_rfl, rfl, rfl, rfl, rfl⟩⟩) <| .cons (⟨⟨.bool false, by kernel_rfl, rfl, rfl, rfl, rfl⟩⟩) <| .cons (⟨⟨.int .u8 0, by kernel_rfl, rfl, rfl, rfl, rfl⟩⟩) <| .cons (⟨⟨.string ⟨#[]⟩, by kernel_rfl, rfl, rfl, rfl, rfl⟩⟩) <| .cons (⟨⟨.nilIface, by kernel_rfl, rfl, rfl, rfl, rfl⟩⟩) <| .cons (⟨⟨.slice none 0 0, by kernel_rfl, rfl, rfl, rfl, rfl⟩⟩) <| .cons (⟨⟨.int .i64 0, by kernel_rfl, rfl, rfl, rfl, rfl⟩⟩) <| .cons (⟨⟨.agg #[(.int .i64 0), (.int .i64 0)], by kernel_rfl, rfl, rfl, rfl, rfl⟩⟩) <| .cons (⟨⟨.slice none 0 0, by kernel_rfl, rfl, rfl, rfl, rfl⟩⟩) <| .cons (⟨⟨.agg #[(.int .i64 0)], by kernel_rfl, rfl, rfl, rfl, rfl⟩⟩) <| .cons (⟨⟨.pointer none, by kernel_rfl, rfl, rfl, rfl, rfl⟩⟩) <| .cons (⟨⟨.agg #[(.string ⟨#[]⟩), (.int .i64 0)], by kernel_rfl, rfl, rfl, rfl, rfl⟩⟩) <| .cons (⟨⟨.slice none 0 0, by kernel_rfl, rfl, rfl, rfl, rfl⟩⟩) <| .cons (⟨⟨.slice none 0 0, by kernel_rfl, rfl, rfl, rfl, rfl⟩⟩) <| .cons (⟨⟨.nilFunc, by kernel_rfl, rfl, rfl, rfl, rfl⟩⟩) <| .cons (⟨⟨.slice none 0 0, by kernel_rfl, rfl, rfl, rfl, rfl⟩⟩) <| .cons (⟨⟨.nilIface, by kernel_rfl, rfl, rfl, rfl, rfl⟩⟩) <| .nil
theorem inf_bools : AllL (fun p : Nat × Unit => (Tryd.prog).underlying p.1 = some .bool) inf.bools := .cons (Tryd.underlying4) <| .nil
theorem inf_conc : AllL (fun p : Nat × Unit => ConT Tryd.prog p.1) inf.conc := .cons (⟨by kernel_rfl⟩) <| .cons (⟨by kernel_rfl⟩) <| .cons (⟨by kernel_rfl⟩) <| .cons (⟨by kernel_rfl⟩) <| .cons (⟨by kernel_rfl⟩) <| .cons (⟨by kernel_rfl⟩) <| .cons (⟨by kernel_rfl⟩) <| .cons (⟨by kernel_rfl⟩) <| .cons (⟨by kernel_rfl⟩) <| .cons (⟨by kernel_rfl⟩) <| .cons (⟨by kernel_rfl⟩) <| .cons (⟨by kernel_rfl⟩) <| .cons (⟨by kernel_rfl⟩) <| .cons (⟨by kernel_rfl⟩) <| .cons (⟨by kernel_rfl⟩) <| .cons (⟨by kernel_rfl⟩) <| .nil
theorem inf_pl : AllL (fun p : Nat × List (Nat × Nat) => StrT Tryd.prog p.1 p.2) inf.pl := .cons (⟨⟨_, Tryd.underlying33, by kernel_rfl⟩⟩) <| .cons (⟨⟨_, Tryd.underlying38, by kernel_rfl⟩⟩) <| .cons (⟨⟨_, Tryd.underlying41, by kernel_rfl⟩⟩) <| .nil
theorem inf_eqs : AllL (fun p : Nat × EK => EqK Tryd.prog p.1 p.2) inf.eqs := .cons (⟨_, Tryd.underlying3⟩) <| .cons (⟨_, Tryd.underlying5⟩) <| .cons (Tryd.underlying9) <| .cons (⟨_, Tryd.underlying27⟩) <| .cons (⟨⟨_, Tryd.underlying33, rfl, by kernel_rfl⟩, by kernel_rfl, by kernel_rfl⟩) <| .nil
instance infI : Inf Tryd.prog inf := ⟨inf_ty, inf_el, inf_fld, inf_zero, inf_bools, inf_conc, inf_pl, inf_eqs⟩
instance fun3 : Fun Tryd.prog 3 Tryd.f3 (bodyOf Tryd.f3) := ⟨Tryd.func3, rfl, by kernel_rfl⟩
instance fun4 : Fun Tryd.prog 4 Tryd.f4 (bodyOf Tryd.f4) := ⟨Tryd.func4, rfl, by kernel_rfl⟩
instance fun5 : Fun Tryd.prog 5 Tryd.f5 (bodyOf Tryd.f5) := ⟨Tryd.func5, rfl, by kernel_rfl⟩
instance fun6 : Fun Tryd.prog 6 Tryd.f6 (bodyOf Tryd.f6) := ⟨Tryd.func6, rfl, by kernel_rfl⟩
instance fun7 : Fun Tryd.prog 7 Tryd.f7 (bodyOf Tryd.f7) := ⟨Tryd.func7, rfl, by kernel_rfl⟩
instance fun8 : Fun Tryd.prog 8 Tryd.f8 (bodyOf Tryd.f8) := ⟨Tryd.func8, rfl, by kernel_rfl⟩
instance fun9 : Fun Tryd.prog 9 Tryd.f9 (bodyOf Tryd.f9) := ⟨Tryd.func9, rfl, by kernel_rfl⟩
instance fun10 : Fun Tryd.prog 10 Tryd.f10 (bodyOf Tryd.f10) := ⟨Tryd.func10, rfl, by kernel_rfl⟩
instance fun11 : Fun Tryd.prog 11 Tryd.f11 (bodyOf Tryd.f11) := ⟨Tryd.func11, rfl, by kernel_rfl⟩
instance fun12 : Fun Tryd.prog 12 Tryd.f12 (bodyOf Tryd.f12) := ⟨Tryd.func12, rfl, by kernel_rfl⟩
instance fun13 : Fun Tryd.prog 13 Tryd.f13 (bodyOf Tryd.f13) := ⟨Tryd.func13, rfl, by kernel_rfl⟩
instance fun14 : Fun Tryd.prog 14 Tryd.f14 (bodyOf Tryd.f14) := ⟨Tryd.func14, rfl, by kernel_rfl⟩
instance fun15 : Fun Tryd.prog 15 Tryd.f15 (bodyOf Tryd.f15) := ⟨Tryd.func15, rfl, by kernel_rfl⟩
instance fun16 : Fun Tryd.prog 16 Tryd.f16 (bodyOf Tryd.f16) := ⟨Tryd.func16, rfl, by kernel_rfl⟩
instance fun17 : Fun Tryd.prog 17 Tryd.f17 (bodyOf Tryd.f17) := ⟨Tryd.func17, rfl, by kernel_rfl⟩
instance fun18 : Fun Tryd.prog 18 Tryd.f18 (bodyOf Tryd.f18) := ⟨Tryd.func18, rfl, by kernel_rfl⟩
instance fun19 : Fun Tryd.prog 19 Tryd.f19 (bodyOf Tryd.f19) := ⟨Tryd.func19, rfl, by kernel_rfl⟩
instance fun20 : Fun Tryd.prog 20 Tryd.f20 (bodyOf Tryd.f20) := ⟨Tryd.func20, rfl, by kernel_rfl⟩
instance fun21 : Fun Tryd.prog 21 Tryd.f21 (bodyOf Tryd.f21) := ⟨Tryd.func21, rfl, by kernel_rfl⟩
instance fun22 : Fun Tryd.prog 22 Tryd.f22 (bodyOf Tryd.f22) := ⟨Tryd.func22, rfl, by kernel_rfl⟩
instance fun35 : Fun Tryd.prog 35 Tryd.f35 (bodyOf Tryd.f35) := ⟨Tryd.func35, rfl, by kernel_rfl⟩
instance fun23 : Fun Tryd.prog 23 Tryd.f23 (bodyOf Tryd.f23) := ⟨Tryd.func23, rfl, by kernel_rfl⟩
instance fun24 : Fun Tryd.prog 24 Tryd.f24 (bodyOf Tryd.f24) := ⟨Tryd.func24, rfl, by kernel_rfl⟩
instance fun25 : Fun Tryd.prog 25 Tryd.f25 (bodyOf Tryd.f25) := ⟨Tryd.func25, rfl, by kernel_rfl⟩
instance fun26 : Fun Tryd.prog 26 Tryd.f26 (bodyOf Tryd.f26) := ⟨Tryd.func26, rfl, by kernel_rfl⟩
instance fun27 : Fun Tryd.prog 27 Tryd.f27 (bodyOf Tryd.f27) := ⟨Tryd.func27, rfl, by kernel_rfl⟩
instance fun32 : Fun Tryd.prog 32 Tryd.f32 (bodyOf Tryd.f32) := ⟨Tryd.func32, rfl, by kernel_rfl⟩
instance fun33 : Fun Tryd.prog 33 Tryd.f33 (bodyOf Tryd.f33) := ⟨Tryd.func33, rfl, by kernel_rfl⟩
instance fun34 : Fun Tryd.prog 34 Tryd.f34 (bodyOf Tryd.f34) := ⟨Tryd.func34, rfl, by kernel_rfl⟩
end Go.Iron.Tryd

/- Iron: this seat's further tables, by program (mkinf2.py). -/
set_option maxRecDepth 10000
namespace Go.Iron.Tryd
open Go.Proofs
noncomputable def jnf : TJ where
  ifs := [(20, ()), (59, ()), (60, ())]
  zv := [(38, .agg [.val (.int .i64 0)])]
  strs := [(9, ()), (10, ()), (11, ())]
  ints := [(2, .i64), (3, .i64), (5, .u8), (6, .u8), (12, .u64), (21, .i32), (27, .i64), (69, .u64), (77, .i64), (86, .u32), (89, .u64), (110, .u8), (111, .u8), (113, .i32), (114, .i32)]
  fns := [(3, Tryd.f3), (4, Tryd.f4), (5, Tryd.f5), (6, Tryd.f6), (7, Tryd.f7), (8, Tryd.f8), (9, Tryd.f9), (10, Tryd.f10), (11, Tryd.f11), (12, Tryd.f12), (13, Tryd.f13), (14, Tryd.f14), (15, Tryd.f15), (16, Tryd.f16), (17, Tryd.f17), (18, Tryd.f18), (19, Tryd.f19), (20, Tryd.f20), (23, Tryd.f23), (24, Tryd.f24), (25, Tryd.f25), (26, Tryd.f26), (27, Tryd.f27), (32, Tryd.f32), (33, Tryd.f33), (34, Tryd.f34)]
  dr := [(6, [(6, 8)]), (8, [(4, 4), (6, 4)]), (11, [(6, 8)]), (13, [(5, 27), (7, 13)]), (15, [(7, 3)]), (18, [(1, 23)]), (24, [(4, 14), (6, 11)]), (25, [(4, 13), (6, 8), (8, 20)]), (34, [(2, 44)])]
  maps := []
  arrs := [(68, 24, 5), (85, 20, 69), (87, 65, 5), (103, 32, 5), (104, 64, 5), (107, 0, 16)]
theorem jnf_ifs : AllL (fun p : Nat × Unit => ∃ ms, (Tryd.prog).underlying p.1 = some (.interface ms)) jnf.ifs := .cons (⟨_, Tryd.underlying20⟩) <| .cons (⟨_, Tryd.underlying59⟩) <| .cons (⟨_, Tryd.underlying60⟩) <| .nil
theorem jnf_zv : AllL (fun p : Nat × AV => ZV Tryd.prog p.1 p.2) jnf.zv := .cons (⟨by kernel_rfl, .agg #[(.int .i64 0)], by kernel_rfl, rfl⟩) <| .nil
theorem jnf_strs : AllL (fun p : Nat × Unit => (Tryd.prog).underlying p.1 = some .string) jnf.strs := .cons (Tryd.underlying9) <| .cons (Tryd.underlying10) <| .cons (Tryd.underlying11) <| .nil
theorem jnf_ints : AllL (fun p : Nat × IntKind => (Tryd.prog).underlying p.1 = some (.int p.2)) jnf.ints := .cons (Tryd.underlying2) <| .cons (Tryd.underlying3) <| .cons (Tryd.underlying5) <| .cons (Tryd.underlying6) <| .cons (Tryd.underlying12) <| .cons (Tryd.underlying21) <| .cons (Tryd.underlying27) <| .cons (Tryd.underlying69) <| .cons (Tryd.underlying77) <| .cons (Tryd.underlying86) <| .cons (Tryd.underlying89) <| .cons (Tryd.underlying110) <| .cons (Tryd.underlying111) <| .cons (Tryd.underlying113) <| .cons (Tryd.underlying114) <| .nil
theorem jnf_fns : AllL (fun p : Nat × Func => (Tryd.prog).funcs[p.1]? = some p.2 ∧ p.2.body.isSome = true ∧ (p.2.name == "runtime.NumGoroutine") = false) jnf.fns := .cons (⟨Tryd.func3, rfl, by kernel_rfl⟩) <| .cons (⟨Tryd.func4, rfl, by kernel_rfl⟩) <| .cons (⟨Tryd.func5, rfl, by kernel_rfl⟩) <| .cons (⟨Tryd.func6, rfl, by kernel_rfl⟩) <| .cons (⟨Tryd.func7, rfl, by kernel_rfl⟩) <| .cons (⟨Tryd.func8, rfl, by kernel_rfl⟩) <| .cons (⟨Tryd.func9, rfl, by kernel_rfl⟩) <| .cons (⟨Tryd.func10, rfl, by kernel_rfl⟩) <| .cons (⟨Tryd.func11, rfl, by kernel_rfl⟩) <| .cons (⟨Tryd.func12, rfl, by kernel_rfl⟩) <| .cons (⟨Tryd.func13, rfl, by kernel_rfl⟩) <| .cons (⟨Tryd.func14, rfl, by kernel_rfl⟩) <| .cons (⟨Tryd.func15, rfl, by kernel_rfl⟩) <| .cons (⟨Tryd.func16, rfl, by kernel_rfl⟩) <| .cons (⟨Tryd.func17, rfl, by kernel_rfl⟩) <| .cons (⟨Tryd.func18, rfl, by kernel_rfl⟩) <| .cons (⟨Tryd.func19, rfl, by kernel_rfl⟩) <| .cons (⟨Tryd.func20, rfl, by kernel_rfl⟩) <| .cons (⟨Tryd.func23, rfl, by kernel_rfl⟩) <| .cons (⟨Tryd.func24, rfl, by kernel_rfl⟩) <| .cons (⟨Tryd.func25, rfl, by kernel_rfl⟩) <| .cons (⟨Tryd.func26, rfl, by kernel_rfl⟩) <| .cons (⟨Tryd.func27, rfl, by kernel_rfl⟩) <| .cons (⟨Tryd.func32, rfl, by kernel_rfl⟩) <| .cons (⟨Tryd.func33, rfl, by kernel_rfl⟩) <| .cons (⟨Tryd.func34, rfl, by kernel_rfl⟩) <| .nil
theorem jnf_maps : AllL (fun p : Nat × Option IntKind × Nat => MapT Tryd.prog p.1 p.2.1 p.2.2) jnf.maps := .nil
theorem jnf_arrs : AllL (fun p : Nat × Nat × Nat => (Tryd.prog).underlying p.1 = some (.array p.2.1 p.2.2)) jnf.arrs := .cons (Tryd.underlying68) <| .cons (Tryd.underlying85) <| .cons (Tryd.underlying87) <| .cons (Tryd.underlying103) <| .cons (Tryd.underlying104) <| .cons (Tryd.underlying107) <| .nil
instance jnfI : Inf2 Tryd.prog jnf := ⟨jnf_ifs, jnf_zv, jnf_strs, jnf_ints, jnf_fns, by kernel_rfl, jnf_maps, jnf_arrs⟩
end Go.Iron.Tryd

/- The array package in the seat of ArrayTexts: what was walked before (port.py). -/
namespace Go.Iron.Tryd
open Go.Proofs

abbrev iv (n : Int) : AV := .val (.int .i64 n)
abbrev bv (b : Bool) : AV := .val (.bool b)
abbrev Dim := Int × Int
def dimR (ds : List Dim) : Nat → List AV := fun i => [iv (ds.getD i (0, 0)).1, iv (ds.getD i (0, 0)).2]
def dimS (nl : Option Bool) (ds : List Dim) : AV := .slc 2 nl ds.length (dimR ds)
def intR (xs : List Int) : Nat → List AV := fun i => [iv (xs.getD i 0)]
def intS (nl : Option Bool) (xs : List Int) : AV := .slc 1 nl xs.length (intR xs)
theorem w64 {x : Int} (h1 : -9223372036854775808 ≤ x) (h2 : x ≤ 9223372036854775807) : IntKind.wrap .i64 x = x := IntWalk.i64_in x (by omega)
theorem obs_cons {c d : Bool} {l : Ob} : Obs ((c, d) :: l) ↔ (c = true → d = true) ∧ Obs l :=
  ⟨fun h => ⟨fun hc => h (c, d) (by simp) hc, fun p hp => h p (List.mem_cons_of_mem _ hp)⟩, fun h => obs_by h.1 h.2⟩
theorem obs_nil' : Obs [] ↔ True := ⟨fun _ => trivial, fun _ => obs_nil⟩
theorem ieq {a b : Nat} (h : (a : Int) = b) : a = b := by omega
theorem appR_zero (r r2 : Nat → List AV) : appR 0 r r2 = r2 := by funext i; exact appR_ge (Nat.zero_le i)

theorem take_next {α : Type} {d : α} {xs ys : List α} {i : Nat} (hl : xs.length = ys.length) (hi : i < xs.length) (hp : xs.take i = ys.take i) (h : xs.getD i d = ys.getD i d) : xs.take (i + 1) = ys.take (i + 1) := by
  rw [List.take_succ_eq_append_getElem hi, List.take_succ_eq_append_getElem (hl ▸ hi), hp]
  simp only [List.getD_eq_getElem?_getD, List.getElem?_eq_getElem hi, List.getElem?_eq_getElem (hl ▸ hi : i < ys.length), Option.getD_some] at h
  rw [h]

theorem stay_dims (nl : Option Bool) (ds : List Dim) (hb : ds.length * 16 ≤ 140737488355328) : CallT Tryd.prog 4 [dimS nl ds] [] (fun out A => out = .ret (dimS none ds) ∧ A = []) := by
  refine callT_body (n := 6) rfl rfl fun w ρ X => ?_
  refine run_x (I := inf) 99 rfl (by simp only [app, obs_cons, obs_nil']; simp [hb]) ?_
  refine run_freeze 2 rfl rfl rfl (fun i hi => by rw [appR_zero]; rfl) ?_
  refine run_drop 0 (Nat.le_refl _) rfl .nil ?_
  refine run_ret (.tmp .nil) ⟨?_, rfl⟩
  show Out.ret (.slc 2 none (0 + ds.length) _) = _
  rw [appR_zero, Nat.zero_add]
  rfl

theorem stay_sameDims (n1 n2 : Option Bool) (xs ys : List Dim) (hb : xs.length < 9223372036854775807) : CallT Tryd.prog 6 [dimS n1 xs, dimS n2 ys] [] (fun out A => out = .ret (bv (decide (xs = ys))) ∧ A = []) := by
  refine callT_body (n := 26) rfl rfl fun w ρ X => ?_
  refine run_x (I := inf) 99 rfl (by simp only [app, obs_cons, obs_nil']) ?_
  refine run_cond rfl (fun h => ?_) (fun h => ?_)
  · refine run_x (I := inf) 99 rfl (by simp only [app, obs_cons, obs_nil']) ?_
    refine run_drop 0 (Nat.le_refl _) rfl .nil (run_ret (.tmp .nil) ⟨?_, rfl⟩)
    show Out.ret (bv false) = _
    have : xs ≠ ys := fun e => by subst e; simp at h
    simp [this]
  · have hl : xs.length = ys.length := ieq (by simpa using h)
    refine run_x (I := inf) 99 rfl (by simp only [app, obs_cons, obs_nil']) ?_
    refine run_while (fun (i : Nat) τ ar => (τ 0 = dimS n1 xs ∧ τ 1 = dimS n2 ys ∧ τ 5 = iv i) ∧ ar = [] ∧ i ≤ xs.length ∧ xs.take i = ys.take i) (fun i => xs.length - i) 0 ⟨⟨rfl, rfl, rfl⟩, rfl, Nat.zero_le _, rfl⟩ ?_
    rintro i τ' ar' ⟨⟨h0, h1, h5⟩, rfl, hi, hp⟩ ih
    refine run_says 0 h0 (Says.refl _) (run_says 1 (by exact h1) (Says.refl _) (run_says 5 (by exact h5) (Says.refl _) ?_))
    refine run_x (I := inf) 99 rfl (by simp only [app, obs_cons, obs_nil']) ?_
    refine run_cond rfl (fun hlt => ?_) (fun hlt => ?_)
    · have hlt' : i < xs.length := by simpa using hlt
      refine run_x (I := inf) 99 rfl (by simp only [app, obs_cons, obs_nil']) ?_
      refine run_draw 9 (by kernel_rfl) (by kernel_rfl) (lex_x (I := inf) 99 rfl rfl (by simp only [app, obs_cons, obs_nil']; simp [inB, hlt', ← hl]) lex_nil) ?_
      refine run_x (I := inf) 99 rfl (by simp only [app, obs_cons, obs_nil']) ?_
      refine run_cond rfl (fun hne => ?_) (fun hne => ?_)
      · refine run_x (I := inf) 99 rfl (by simp only [app, obs_cons, obs_nil']) ?_
        refine run_drop 0 (Nat.le_refl _) rfl .nil (run_ret (.tmp .nil) ⟨?_, rfl⟩)
        show Out.ret (bv false) = _
        have : xs ≠ ys := fun e => by subst e; simp at hne
        simp [this]
      · refine run_x (I := inf) 99 rfl (by simp only [app, obs_cons, obs_nil']) ?_
        have hs : IntKind.wrap .i64 ((i : Int) + 1) = ((i + 1 : Nat) : Int) := by rw [w64] <;> omega
        refine ih (i + 1) _ _ (by omega) ⟨⟨rfl, rfl, ?_⟩, rfl, by omega, ?_⟩
        · show iv (IntKind.wrap .i64 ((i : Int) + 1)) = _
          rw [hs]
        · refine take_next (d := (0, 0)) hl hlt' hp ?_
          simp at hne
          exact Prod.ext hne.1 hne.2
    · refine run_x (I := inf) 99 rfl (by simp only [app, obs_cons, obs_nil']) ?_
      refine run_drop 0 (Nat.le_refl _) rfl .nil (run_ret (.tmp .nil) ⟨?_, rfl⟩)
      show Out.ret (bv true) = _
      have hi' : i = xs.length := by simp at hlt; omega
      subst hi'
      have : xs = ys := by rw [List.take_length] at hp; rw [hp, hl, List.take_length]
      simp [this]
/-- How many subscripts a dimension has. -/
def ext (d : Dim) : Int := d.2 - d.1 + 1
def badD (d : Dim) : Bool := decide (d.1 < -32768) || decide (d.2 ≥ 32768) || decide (d.1 > d.2)
def validL : Int → List Dim → Bool
  | _, [] => true
  | n, d :: l => if badD d then false else if n * ext d > 200 then false else validL (n * ext d) l
def validD (ds : List Dim) : Bool := decide (1 ≤ ds.length) && decide (ds.length ≤ 3) && validL 1 ds
theorem extent (d : Dim) (h1 : -32768 ≤ d.1) (h2 : d.1 ≤ d.2) (h3 : d.2 < 32768) : CallT Tryd.prog 33 [.agg [iv d.1, iv d.2]] [] (fun out A => out = .ret (iv (ext d)) ∧ A = []) := by
  refine callT_body (n := 9) rfl rfl fun w ρ X => ?_
  refine run_x (I := inf) 99 rfl (by repeat (first | exact obs_nil | refine obs_same ?_ | refine obs_and ?_ | refine obs_by (by (simp [inB] <;> omega)) ?_)) ?_
  refine run_retX (I := inf) 0 rfl (Nat.le_refl _) rfl .nil rfl ⟨?_, rfl⟩
  show Out.ret (iv (IntKind.wrap .i64 (IntKind.wrap .i64 (d.2 - d.1) + 1))) = _
  rw [w64 (x := d.2 - d.1) (by omega) (by omega), w64 (by omega) (by omega)]
  rfl

theorem getD_drop {α : Type} {d : α} {xs : List α} {i : Nat} (h : i < xs.length) : xs.drop i = xs.getD i d :: xs.drop (i + 1) := by
  rw [List.drop_eq_getElem_cons h, List.getD_eq_getElem?_getD, List.getElem?_eq_getElem h, Option.getD_some]
theorem mul_le_200 {n e : Int} (h1 : 1 ≤ n) (h2 : n ≤ 200) (h3 : 1 ≤ e) (h4 : e ≤ 65536) : 1 ≤ n * e ∧ n * e ≤ 13107200 := by
  constructor
  · have := Int.mul_le_mul h1 h3 (by omega) (by omega); omega
  · have := Int.mul_le_mul h2 h4 (by omega) (by omega); omega

theorem a_valid (nl : Option Bool) (ds : List Dim) : CallT Tryd.prog 26 [dimS nl ds] [] (fun out A => out = .ret (bv (validD ds)) ∧ A = []) := by
  refine callT_body (n := 42) rfl rfl fun w ρ X => ?_
  refine run_x (I := inf) 99 rfl (by repeat (first | exact obs_nil | refine obs_same ?_ | refine obs_and ?_ | refine obs_by (by (simp [inB] <;> omega)) ?_)) ?_
  refine run_cond rfl (fun h => ?_) (fun h => ?_)
  · refine run_x (I := inf) 99 rfl (by repeat (first | exact obs_nil | refine obs_same ?_ | refine obs_and ?_ | refine obs_by (by (simp [inB] <;> omega)) ?_)) ?_
    refine run_retX (I := inf) 0 rfl (Nat.le_refl _) rfl .nil rfl ⟨?_, rfl⟩
    show Out.ret (bv false) = _
    have : validD ds = false := by
      simp at h
      simp [validD]; omega
    rw [this]
  · have hlen : 1 ≤ ds.length ∧ ds.length ≤ 3 := by simp at h; omega
    refine run_x (I := inf) 99 rfl (by repeat (first | exact obs_nil | refine obs_same ?_ | refine obs_and ?_ | refine obs_by (by (simp [inB] <;> omega)) ?_)) ?_
    refine run_while (fun (x : Int × Nat) τ ar => (τ 3 = iv x.1 ∧ τ 14 = dimS nl ds ∧ τ 15 = iv ds.length ∧ τ 16 = iv x.2) ∧ ar = [] ∧ x.2 ≤ ds.length ∧ 1 ≤ x.1 ∧ x.1 ≤ 200 ∧ validL x.1 (ds.drop x.2) = validL 1 ds) (fun x => ds.length - x.2)
      (1, 0) ⟨⟨rfl, rfl, rfl, rfl⟩, rfl, Nat.zero_le _, by omega, by omega, rfl⟩ ?_
    rintro ⟨n, i⟩ τ' ar' ⟨⟨h3, h14, h15, h16⟩, rfl, hi, hn1, hn2, hv⟩ ih
    dsimp only at h3 h16 hi hn1 hn2 hv ih
    refine run_says 3 (by exact h3) (Says.refl _) ?_; refine run_says 14 (by exact h14) (Says.refl _) ?_; refine run_says 15 (by exact h15) (Says.refl _) ?_; refine run_says 16 (by exact h16) (Says.refl _) ?_
    refine run_x (I := inf) 99 rfl (by repeat (first | exact obs_nil | refine obs_same ?_ | refine obs_and ?_ | refine obs_by (by (simp [inB] <;> omega)) ?_)) ?_
    refine run_cond rfl (fun hlt => ?_) (fun hlt => ?_)
    · have hlt' : i < ds.length := by simpa using hlt
      refine run_x (I := inf) 99 rfl (by repeat (first | exact obs_nil | refine obs_same ?_ | refine obs_and ?_ | refine obs_by (by (simp [inB, hlt'] <;> omega)) ?_)) ?_
      have hdr := getD_drop (d := ((0, 0) : Dim)) hlt'
      rw [hdr] at hv
      generalize hd : ds.getD ((i : Nat) : Int).toNat (0, 0) = d
      rw [Int.toNat_natCast] at hd
      rw [hd] at hv
      refine run_cond rfl (fun hc => ?_) (fun hc => ?_)
      · refine run_x (I := inf) 99 rfl (by repeat (first | exact obs_nil | refine obs_same ?_ | refine obs_and ?_ | refine obs_by (by (simp [inB] <;> omega)) ?_)) ?_
        refine run_retX (I := inf) 0 rfl (Nat.le_refl _) rfl .nil rfl ⟨?_, rfl⟩
        show Out.ret (bv false) = _
        have hb : badD d = true := by simp at hc; simp [badD]; omega
        have : validD ds = false := by simp only [validL, hb, if_true] at hv; simp [validD, ← hv]
        rw [this]
      · have hb : badD d = false := by simp at hc; simp [badD]; omega
        have hr : -32768 ≤ d.1 ∧ d.1 ≤ d.2 ∧ d.2 < 32768 := by simp [badD] at hb; omega
        obtain ⟨m1, m2⟩ := mul_le_200 (e := ext d) hn1 hn2 (by unfold ext; omega) (by unfold ext; omega)
        refine run_x (I := inf) 99 rfl (by repeat (first | exact obs_nil | refine obs_same ?_ | refine obs_and ?_ | refine obs_by (by (simp [inB] <;> omega)) ?_)) ?_
        refine run_call rfl rfl rfl rfl rfl rfl rfl rfl (extent d hr.1 hr.2.1 hr.2.2) ?_
        refine run_x (I := inf) 99 rfl (by repeat (first | exact obs_nil | refine obs_same ?_ | refine obs_and ?_ | refine obs_by (by (simp [inB] <;> omega)) ?_)) ?_
        have hw : IntKind.wrap .i64 (n * ext d) = n * ext d := w64 (by omega) (by omega)
        refine run_says 3 rfl (y := iv (n * ext d)) (by rw [hw]; exact Says.refl _) ?_
        refine run_cond rfl (fun hc2 => ?_) (fun hc2 => ?_)
        · refine run_x (I := inf) 99 rfl (by repeat (first | exact obs_nil | refine obs_same ?_ | refine obs_and ?_ | refine obs_by (by (simp [inB] <;> omega)) ?_)) ?_
          refine run_retX (I := inf) 0 rfl (Nat.le_refl _) rfl .nil rfl ⟨?_, rfl⟩
          show Out.ret (bv false) = _
          have h200 : n * ext d > 200 := by rw [hw] at hc2; simpa using hc2
          have : validD ds = false := by simp only [validL, hb, Bool.false_eq_true, if_false, h200, if_true] at hv; simp [validD, ← hv]
          rw [this]
        · refine run_x (I := inf) 99 rfl (by repeat (first | exact obs_nil | refine obs_same ?_ | refine obs_and ?_ | refine obs_by (by (simp [inB] <;> omega)) ?_)) ?_
          refine run_drop 0 (Nat.le_refl _) rfl .nil ?_
          have h200 : ¬ n * ext d > 200 := by rw [hw] at hc2; simp at hc2; omega
          refine ih (n * ext d, i + 1) _ _ (by dsimp only; omega) ⟨⟨rfl, rfl, rfl, ?_⟩, rfl, by dsimp only; omega, m1, by dsimp only; omega, ?_⟩
          · show iv (IntKind.wrap .i64 ((i : Int) + 1)) = _
            rw [w64 (by omega) (by omega)]; rfl
          · simp only [validL, hb, Bool.false_eq_true, if_false, h200] at hv
            exact hv
    · refine run_x (I := inf) 99 rfl (by repeat (first | exact obs_nil | refine obs_same ?_ | refine obs_and ?_ | refine obs_by (by (simp [inB] <;> omega)) ?_)) ?_
      refine run_retX (I := inf) 0 rfl (Nat.le_refl _) rfl .nil rfl ⟨?_, rfl⟩
      show Out.ret (bv true) = _
      have hi' : i = ds.length := by simp at hlt; omega
      subst hi'
      rw [List.drop_length] at hv
      simp [validD, ← hv, validL, hlen]

theorem a_Valid (nl : Option Bool) (ds : List Dim) : CallT Tryd.prog 19 [dimS nl ds] [] (fun out A => out = .ret (bv (validD ds)) ∧ A = []) := by
  refine callT_body (n := 5) rfl rfl fun w ρ X => ?_
  refine run_x (I := inf) 99 rfl (by repeat (first | exact obs_nil | refine obs_same ?_ | refine obs_and ?_ | refine obs_by (by (simp [inB] <;> omega)) ?_)) ?_
  refine run_call rfl rfl rfl rfl rfl rfl rfl rfl (a_valid nl ds) ?_
  refine run_x (I := inf) 99 rfl (by repeat (first | exact obs_nil | refine obs_same ?_ | refine obs_and ?_ | refine obs_by (by (simp [inB] <;> omega)) ?_)) ?_
  refine run_retX (I := inf) 0 rfl (Nat.le_refl _) rfl .nil rfl ⟨?_, rfl⟩
  rfl

theorem r_Valid (nl : Option Bool) (ds : List Dim) : CallT Tryd.prog 13 [dimS nl ds] [] (fun out A => out = .ret (bv (validD ds)) ∧ A = []) := by
  refine callT_body (n := 66) rfl rfl fun w ρ X => ?_
  refine run_x (I := inf) 99 rfl (by repeat (first | exact obs_nil | refine obs_same ?_ | refine obs_and ?_ | refine obs_by (by (simp [inB] <;> omega)) ?_)) ?_
  refine run_while (fun (x : Int × Nat) τ ar => (τ 3 = iv x.1 ∧ τ 0 = dimS nl ds ∧ τ 4 = iv x.2) ∧ ar = [] ∧ x.2 ≤ ds.length ∧ x.2 ≤ 4 ∧ 1 ≤ x.1 ∧ x.1 ≤ 200 ∧ validL x.1 (ds.drop x.2) = validL 1 ds) (fun x => ds.length - x.2)
    (1, 0) ⟨⟨rfl, rfl, rfl⟩, rfl, Nat.zero_le _, by omega, by omega, by omega, rfl⟩ ?_
  rintro ⟨n, i⟩ τ' ar' ⟨⟨h3, h0, h4⟩, rfl, hi, hi4, hn1, hn2, hv⟩ ih
  dsimp only at h3 h4 hi hi4 hn1 hn2 hv ih
  refine run_says 3 (by exact h3) (Says.refl _) ?_; refine run_says 0 (by exact h0) (Says.refl _) ?_; refine run_says 4 (by exact h4) (Says.refl _) ?_
  refine run_x (I := inf) 99 rfl (by repeat (first | exact obs_nil | refine obs_same ?_ | refine obs_and ?_ | refine obs_by (by (simp [inB] <;> omega)) ?_)) ?_
  refine run_cond rfl (fun hlt => ?_) (fun hlt => ?_)
  · have hlt' : i < ds.length ∧ i < 4 := by simp at hlt; omega
    refine run_x (I := inf) 99 rfl (by repeat (first | exact obs_nil | refine obs_same ?_ | refine obs_and ?_ | refine obs_by (by (simp [inB] <;> omega)) ?_)) ?_
    refine run_draw 27 (by kernel_rfl) (by kernel_rfl) (lex_x (I := inf) 99 rfl rfl (by repeat (first | exact obs_nil | refine obs_same ?_ | refine obs_and ?_ | refine obs_by (by (simp [inB, hlt'.1] <;> omega)) ?_)) lex_nil) ?_
    have hdr := getD_drop (d := ((0, 0) : Dim)) hlt'.1
    rw [hdr] at hv
    refine run_x (I := inf) 99 rfl (by repeat (first | exact obs_nil | refine obs_same ?_ | refine obs_and ?_ | refine obs_by (by (simp [inB] <;> omega)) ?_)) ?_
    generalize hd0 : ds.getD ((i : Nat) : Int).toNat (0, 0) = d
    have hd := hd0
    rw [Int.toNat_natCast] at hd
    rw [hd] at hv
    refine run_cond rfl (fun hc => ?_) (fun hc => ?_)
    · refine run_x (I := inf) 99 rfl (by repeat (first | exact obs_nil | refine obs_same ?_ | refine obs_and ?_ | refine obs_by (by (simp [inB] <;> omega)) ?_)) ?_
      refine run_retX (I := inf) 0 rfl (Nat.le_refl _) rfl .nil rfl ⟨?_, rfl⟩
      show Out.ret (bv false) = _
      have hb : badD d = true := by simp at hc; simp [badD]; omega
      have : validD ds = false := by simp only [validL, hb, if_true] at hv; simp [validD, ← hv]
      rw [this]
    · have hb : badD d = false := by simp at hc; simp [badD]; omega
      have hr : -32768 ≤ d.1 ∧ d.1 ≤ d.2 ∧ d.2 < 32768 := by simp [badD] at hb; omega
      obtain ⟨m1, m2⟩ := mul_le_200 (e := ext d) hn1 hn2 (by unfold ext; omega) (by unfold ext; omega)
      refine run_x (I := inf) 99 rfl (by repeat (first | exact obs_nil | refine obs_same ?_ | refine obs_and ?_ | refine obs_by (by (simp [inB] <;> omega)) ?_)) ?_
      refine run_draw 15 (by kernel_rfl) (by kernel_rfl) (lex_x (I := inf) 99 rfl rfl (by repeat (first | exact obs_nil | refine obs_same ?_ | refine obs_and ?_ | refine obs_by (by (simp [inB, hlt'.1] <;> omega)) ?_)) lex_nil) ?_
      refine run_x (I := inf) 99 rfl (by repeat (first | exact obs_nil | refine obs_same ?_ | refine obs_and ?_ | refine obs_by (by (simp [inB] <;> omega)) ?_)) ?_
      rw [hd0]
      have hw : IntKind.wrap .i64 (n * IntKind.wrap .i64 (IntKind.wrap .i64 (d.2 - d.1) + 1)) = n * ext d := by
        rw [w64 (x := d.2 - d.1) (by omega) (by omega), w64 (x := d.2 - d.1 + 1) (by omega) (by omega)]
        exact w64 (by unfold ext at m1 m2; omega) (by unfold ext at m1 m2; omega)
      refine run_says 3 rfl (y := iv (n * ext d)) (by rw [← hw]; exact Says.refl _) ?_
      refine run_cond rfl (fun hc2 => ?_) (fun hc2 => ?_)
      · refine run_x (I := inf) 99 rfl (by repeat (first | exact obs_nil | refine obs_same ?_ | refine obs_and ?_ | refine obs_by (by (simp [inB] <;> omega)) ?_)) ?_
        refine run_retX (I := inf) 0 rfl (Nat.le_refl _) rfl .nil rfl ⟨?_, rfl⟩
        show Out.ret (bv false) = _
        have h200 : n * ext d > 200 := by rw [hw] at hc2; simpa using hc2
        have : validD ds = false := by simp only [validL, hb, Bool.false_eq_true, if_false, h200, if_true] at hv; simp [validD, ← hv]
        rw [this]
      · refine run_x (I := inf) 99 rfl (by repeat (first | exact obs_nil | refine obs_same ?_ | refine obs_and ?_ | refine obs_by (by (simp [inB] <;> omega)) ?_)) ?_
        refine run_drop 0 (Nat.le_refl _) rfl .nil ?_
        have h200 : ¬ n * ext d > 200 := by rw [hw] at hc2; simp at hc2; omega
        refine ih (n * ext d, i + 1) _ _ (by dsimp only; omega) ⟨⟨rfl, rfl, ?_⟩, rfl, by dsimp only; omega, by dsimp only; omega, m1, by dsimp only; omega, ?_⟩
        · show iv (IntKind.wrap .i64 ((i : Int) + 1)) = _
          rw [w64 (by omega) (by omega)]; rfl
        · simp only [validL, hb, Bool.false_eq_true, if_false, h200] at hv
          exact hv
  · refine run_x (I := inf) 99 rfl (by repeat (first | exact obs_nil | refine obs_same ?_ | refine obs_and ?_ | refine obs_by (by (simp [inB] <;> omega)) ?_)) ?_
    refine run_retX (I := inf) 0 rfl (Nat.le_refl _) rfl .nil rfl ⟨?_, rfl⟩
    have hx : i = ds.length ∨ i = 4 := by simp at hlt; omega
    have : validD ds = (if decide (1 ≤ (ds.length : Int)) then decide ((ds.length : Int) ≤ 3) else false) := by
      rcases hx with hx | hx
      · subst hx
        rw [List.drop_length] at hv
        simp [validD, ← hv, validL]
        by_cases h1 : 1 ≤ ds.length <;> by_cases h3 : ds.length ≤ 3 <;> simp [h1, h3] <;> omega
      · have h3 : ¬ ds.length ≤ 3 := by omega
        simp [validD, h3]; omega
    rw [this]
    rfl

/-- All partial products are small. -/
def fitL : Int → List Dim → Prop
  | _, [] => True
  | n, d :: l => (-32768 ≤ d.1 ∧ d.1 ≤ d.2 ∧ d.2 < 32768) ∧ n * ext d ≤ 200 ∧ fitL (n * ext d) l
theorem fit_of : ∀ {n : Int} {ds : List Dim}, validL n ds = true → fitL n ds
  | _, [], _ => trivial
  | n, d :: l, h => by
    unfold validL at h
    split at h
    · cases h
    · rename_i hb
      split at h
      · cases h
      · rename_i h2
        have hb' : badD d = false := by simpa using hb
        exact ⟨by simp [badD] at hb'; omega, by omega, fit_of h⟩
theorem fit_valid {ds : List Dim} (h : validD ds = true) : fitL 1 ds ∧ 1 ≤ ds.length ∧ ds.length ≤ 3 := by
  simp only [validD, Bool.and_eq_true, decide_eq_true_eq] at h
  exact ⟨fit_of h.2, h.1.1, h.1.2⟩

/-- The first subscript that is out, from i + 1 on; 0: none. -/
def outL : Int → List Dim → List Int → Int
  | i, d :: l, s :: t => if decide (s < d.1) || decide (s > d.2) then i + 1 else outL (i + 1) l t
  | _, _, _ => 0
def placeL : Int → List Dim → List Int → Int
  | n, d :: l, s :: t => placeL (n * ext d + s - d.1) l t
  | n, _, _ => n
def out (ds : List Dim) (ss : List Int) : Int := outL 0 ds ss
def place (ds : List Dim) (ss : List Int) : Int := placeL 0 ds ss

theorem step_lt {n p e s : Int} (h0 : 0 ≤ n) (h1 : n < p) (hs : 0 ≤ s) (he : s < e) : 0 ≤ n * e + s ∧ n * e + s < p * e := by
  have h2 : 0 ≤ n * e := Int.mul_nonneg h0 (by omega)
  have h3 : (n + 1) * e ≤ p * e := Int.mul_le_mul_of_nonneg_right (by omega) (by omega)
  rw [Int.add_mul] at h3
  omega

theorem a_offset (n1 n2 : Option Bool) (ds : List Dim) (ss : List Int) (hl : ss.length = ds.length) (hlen : ds.length < 1000) (hf : fitL 1 ds) :
    CallT Tryd.prog 24 [dimS n1 ds, intS n2 ss] [] (fun o A => o = .ret (.tup [iv (if out ds ss = 0 then place ds ss else 0), iv (out ds ss)]) ∧ A = []) := by
  refine callT_body (n := 47) rfl rfl fun w ρ X => ?_
  refine run_x (I := inf) 99 rfl (by repeat (first | exact obs_nil | refine obs_same ?_ | refine obs_and ?_ | refine obs_by (by (simp [inB] <;> omega)) ?_)) ?_
  refine run_while (fun (x : Int × Int × Nat) τ ar => (τ 1 = intS n2 ss ∧ τ 4 = iv x.1 ∧ τ 8 = dimS n1 ds ∧ τ 9 = iv ds.length ∧ τ 10 = iv x.2.2) ∧ ar = [] ∧ x.2.2 ≤ ds.length ∧ 1 ≤ x.2.1 ∧ x.2.1 ≤ 200 ∧ 0 ≤ x.1 ∧ x.1 < x.2.1 ∧ fitL x.2.1 (ds.drop x.2.2) ∧
      outL x.2.2 (ds.drop x.2.2) (ss.drop x.2.2) = out ds ss ∧ placeL x.1 (ds.drop x.2.2) (ss.drop x.2.2) = place ds ss) (fun x => ds.length - x.2.2)
    (0, 1, 0) ⟨⟨rfl, rfl, rfl, rfl, rfl⟩, rfl, Nat.zero_le _, (by dsimp only; omega), (by dsimp only; omega), (by dsimp only; omega), (by dsimp only; omega), hf, rfl, rfl⟩ ?_
  rintro ⟨n, p, i⟩ τ' ar' ⟨⟨h1, h4, h8, h9, h10⟩, rfl, hi, hp1, hp2, hn1, hn2, hv, ho, hpl⟩ ih
  dsimp only at h4 h10 hi hp1 hp2 hn1 hn2 hv ho hpl ih
  refine run_says 1 (by exact h1) (Says.refl _) ?_; refine run_says 4 (by exact h4) (Says.refl _) ?_; refine run_says 8 (by exact h8) (Says.refl _) ?_; refine run_says 9 (by exact h9) (Says.refl _) ?_; refine run_says 10 (by exact h10) (Says.refl _) ?_
  refine run_x (I := inf) 99 rfl (by repeat (first | exact obs_nil | refine obs_same ?_ | refine obs_and ?_ | refine obs_by (by (simp [inB] <;> omega)) ?_)) ?_
  refine run_cond rfl (fun hlt => ?_) (fun hlt => ?_)
  · have hlt' : i < ds.length := by simpa using hlt
    have hlt2 : i < ss.length := by omega
    rw [getD_drop (d := ((0, 0) : Dim)) hlt'] at hv ho hpl
    rw [getD_drop (d := (0 : Int)) hlt2] at ho hpl
    refine run_x (I := inf) 99 rfl (by repeat (first | exact obs_nil | refine obs_same ?_ | refine obs_and ?_ | refine obs_by (by (simp [inB, hlt'] <;> omega)) ?_)) ?_
    refine run_draw 16 (by kernel_rfl) (by kernel_rfl) (lex_x (I := inf) 99 rfl rfl (by repeat (first | exact obs_nil | refine obs_same ?_ | refine obs_and ?_ | refine obs_by (by (simp [inB, hlt'] <;> omega)) ?_)) lex_nil) ?_
    refine run_x (I := inf) 99 rfl (by repeat (first | exact obs_nil | refine obs_same ?_ | refine obs_and ?_ | refine obs_by (by (simp [inB] <;> omega)) ?_)) ?_
    generalize hd0 : ds.getD ((i : Nat) : Int).toNat (0, 0) = d
    have hd := hd0
    rw [Int.toNat_natCast] at hd
    generalize hs0 : ss.getD ((i : Nat) : Int).toNat 0 = s
    have hs := hs0
    rw [Int.toNat_natCast] at hs
    rw [hd] at hv ho hpl
    rw [hs] at ho hpl
    obtain ⟨hr, hp3, hv'⟩ := hv
    refine run_cond rfl (fun hc => ?_) (fun hc => ?_)
    · refine run_x (I := inf) 99 rfl (by repeat (first | exact obs_nil | refine obs_same ?_ | refine obs_and ?_ | refine obs_by (by (simp [inB] <;> omega)) ?_)) ?_
      refine run_retX (I := inf) 0 rfl (Nat.le_refl _) rfl .nil rfl ⟨?_, rfl⟩
      have hc' : (decide (s < d.1) || decide (s > d.2)) = true := by simp at hc ⊢; omega
      simp only [outL, hc', if_true] at ho
      have hne : ¬ out ds ss = 0 := by omega
      simp only [hne, if_false]
      show Out.ret (.tup [iv 0, iv (IntKind.wrap .i64 ((i : Int) + 1))]) = _
      rw [w64 (by omega) (by omega), ho]
    · have hc' : (decide (s < d.1) || decide (s > d.2)) = false := by simp at hc ⊢; omega
      have hs2 : d.1 ≤ s ∧ s ≤ d.2 := by simp at hc'; omega
      simp only [outL, hc', Bool.false_eq_true, if_false] at ho
      simp only [placeL] at hpl
      obtain ⟨m1, m2⟩ := mul_le_200 (e := ext d) hp1 hp2 (by unfold ext; omega) (by unfold ext; omega)
      obtain ⟨q1, q2⟩ := step_lt (e := ext d) (s := s - d.1) hn1 hn2 (by omega) (by unfold ext; omega)
      obtain ⟨q3, q4⟩ := step_lt (e := ext d) (s := 0) hn1 hn2 (by omega) (by unfold ext; omega)
      refine run_x (I := inf) 99 rfl (by repeat (first | exact obs_nil | refine obs_same ?_ | refine obs_and ?_ | refine obs_by (by (simp [inB] <;> omega)) ?_)) ?_
      refine run_draw 13 (by kernel_rfl) (by kernel_rfl) (lex_x (I := inf) 99 rfl rfl (by repeat (first | exact obs_nil | refine obs_same ?_ | refine obs_and ?_ | refine obs_by (by (simp [inB, hlt'] <;> omega)) ?_)) (lex_call rfl rfl rfl rfl rfl rfl rfl rfl (extent d hr.1 hr.2.1 hr.2.2) (lex_x (I := inf) 99 rfl rfl (by repeat (first | exact obs_nil | refine obs_same ?_ | refine obs_and ?_ | refine obs_by (by (simp [inB, hlt'] <;> omega)) ?_)) lex_nil))) ?_
      rw [hs0]
      refine run_x (I := inf) 99 rfl (by repeat (first | exact obs_nil | refine obs_same ?_ | refine obs_and ?_ | refine obs_by (by (simp [inB] <;> omega)) ?_)) ?_
      refine run_drop 0 (Nat.le_refl _) rfl .nil ?_
      have hw : IntKind.wrap .i64 (IntKind.wrap .i64 (IntKind.wrap .i64 (n * ext d) + s) - d.1) = n * ext d + s - d.1 := by
        rw [w64 (x := n * ext d) (by omega) (by omega), w64 (x := n * ext d + s) (by omega) (by omega), w64 (by omega) (by omega)]
      refine ih (n * ext d + s - d.1, p * ext d, i + 1) _ _ (by dsimp only; omega) ⟨⟨rfl, ?_, rfl, rfl, ?_⟩, rfl, by dsimp only; omega, m1, hp3, by dsimp only; omega, by dsimp only; omega, hv', ho, hpl⟩
      · show iv (IntKind.wrap .i64 (IntKind.wrap .i64 (IntKind.wrap .i64 (n * ext d) + s) - d.1)) = _
        rw [hw]
      · show iv (IntKind.wrap .i64 ((i : Int) + 1)) = _
        rw [w64 (by omega) (by omega)]; rfl
  · refine run_x (I := inf) 99 rfl (by repeat (first | exact obs_nil | refine obs_same ?_ | refine obs_and ?_ | refine obs_by (by (simp [inB] <;> omega)) ?_)) ?_
    refine run_retX (I := inf) 0 rfl (Nat.le_refl _) rfl .nil rfl ⟨?_, rfl⟩
    have hi' : i = ds.length := by simp at hlt; omega
    subst hi'
    rw [List.drop_length] at ho hpl
    have h0 : out ds ss = 0 := by rw [← ho]; simp [outL]
    have hpl' : place ds ss = n := by rw [← hpl]; simp [placeL]
    simp only [h0, hpl', if_true]
    rfl

/-- Offset's answer. -/
def offF (ds : List Dim) (ss : List Int) : Int × Int × Int × Int :=
  if validD ds then (if ss.length = ds.length then (if out ds ss = 0 then (place ds ss, 0, 0, 0) else (0, 7, out ds ss, 0)) else (0, 0, 0, 11)) else (0, 0, 0, 1)
def tup4 (x : Int × Int × Int × Int) : AV := .tup [iv x.1, iv x.2.1, iv x.2.2.1, iv x.2.2.2]

theorem out_nonneg : ∀ (i : Int) (ds : List Dim) (ss : List Int), 0 ≤ i → 0 ≤ outL i ds ss
  | i, [], ss, h => by simp [outL]
  | i, d :: l, [], h => by simp [outL]
  | i, d :: l, s :: t, h => by
    unfold outL
    split
    · omega
    · exact out_nonneg (i + 1) l t (by omega)

theorem a_Offset (n1 n2 : Option Bool) (ds : List Dim) (ss : List Int) : CallT Tryd.prog 14 [dimS n1 ds, intS n2 ss] [] (fun o A => o = .ret (tup4 (offF ds ss)) ∧ A = []) := by
  refine callT_body (n := 28) rfl rfl fun w ρ X => ?_
  refine run_x (I := inf) 99 rfl (by repeat (first | exact obs_nil | refine obs_same ?_ | refine obs_and ?_ | refine obs_by (by (simp [inB] <;> omega)) ?_)) ?_
  refine run_call rfl rfl rfl rfl rfl rfl rfl rfl (a_Valid n1 ds) ?_
  refine run_x (I := inf) 99 rfl (by repeat (first | exact obs_nil | refine obs_same ?_ | refine obs_and ?_ | refine obs_by (by (simp [inB] <;> omega)) ?_)) ?_
  refine run_cond rfl (fun h => ?_) (fun h => ?_)
  · refine run_x (I := inf) 99 rfl (by repeat (first | exact obs_nil | refine obs_same ?_ | refine obs_and ?_ | refine obs_by (by (simp [inB] <;> omega)) ?_)) ?_
    refine run_retX (I := inf) 0 rfl (Nat.le_refl _) rfl .nil rfl ⟨?_, rfl⟩
    have h' : validD ds = false := by simpa using h
    simp only [offF, h']; rfl
  · have h' : validD ds = true := by simpa using h
    have hf := fit_valid h'
    refine run_x (I := inf) 99 rfl (by repeat (first | exact obs_nil | refine obs_same ?_ | refine obs_and ?_ | refine obs_by (by (simp [inB] <;> omega)) ?_)) ?_
    refine run_cond rfl (fun hc => ?_) (fun hc => ?_)
    · refine run_x (I := inf) 99 rfl (by repeat (first | exact obs_nil | refine obs_same ?_ | refine obs_and ?_ | refine obs_by (by (simp [inB] <;> omega)) ?_)) ?_
      refine run_retX (I := inf) 0 rfl (Nat.le_refl _) rfl .nil rfl ⟨?_, rfl⟩
      have hc' : ¬ ss.length = ds.length := by simp at hc; omega
      simp only [offF, h', hc', if_true, if_false]; rfl
    · have hc' : ss.length = ds.length := by simp at hc; omega
      refine run_x (I := inf) 99 rfl (by repeat (first | exact obs_nil | refine obs_same ?_ | refine obs_and ?_ | refine obs_by (by (simp [inB] <;> omega)) ?_)) ?_
      refine run_call rfl rfl rfl rfl rfl rfl rfl rfl (a_offset n1 n2 ds ss hc' (by omega) hf.1) ?_
      refine run_x (I := inf) 99 rfl (by repeat (first | exact obs_nil | refine obs_same ?_ | refine obs_and ?_ | refine obs_by (by (simp [inB] <;> omega)) ?_)) ?_
      have hnn : 0 ≤ out ds ss := out_nonneg 0 ds ss (by omega)
      refine run_cond rfl (fun hp => ?_) (fun hp => ?_)
      · refine run_x (I := inf) 99 rfl (by repeat (first | exact obs_nil | refine obs_same ?_ | refine obs_and ?_ | refine obs_by (by (simp [inB] <;> omega)) ?_)) ?_
        refine run_retX (I := inf) 0 rfl (Nat.le_refl _) rfl .nil rfl ⟨?_, rfl⟩
        have hp' : ¬ out ds ss = 0 := by simp at hp; omega
        simp only [offF, h', hc', hp', if_true, if_false]; rfl
      · refine run_x (I := inf) 99 rfl (by repeat (first | exact obs_nil | refine obs_same ?_ | refine obs_and ?_ | refine obs_by (by (simp [inB] <;> omega)) ?_)) ?_
        refine run_retX (I := inf) 0 rfl (Nat.le_refl _) rfl .nil rfl ⟨?_, rfl⟩
        have hp' : out ds ss = 0 := by simp at hp; omega
        simp only [offF, h', hc', hp', if_true]
        rfl

theorem r_Equal (n1 n2 : Option Bool) (xs ys : List Dim) (hb : xs.length < 9223372036854775807) : CallT Tryd.prog 11 [dimS n1 xs, dimS n2 ys] [] (fun out A => out = .ret (bv (decide (xs = ys))) ∧ A = []) := by
  refine callT_body (n := 26) rfl rfl fun w ρ X => ?_
  refine run_x (I := inf) 99 rfl (by simp only [app, obs_cons, obs_nil']) ?_
  refine run_cond rfl (fun h => ?_) (fun h => ?_)
  · refine run_x (I := inf) 99 rfl (by simp only [app, obs_cons, obs_nil']) ?_
    refine run_drop 0 (Nat.le_refl _) rfl .nil (run_ret (.tmp .nil) ⟨?_, rfl⟩)
    show Out.ret (bv false) = _
    have : xs ≠ ys := fun e => by subst e; simp at h
    simp [this]
  · have hl : xs.length = ys.length := ieq (by simpa using h)
    refine run_x (I := inf) 99 rfl (by simp only [app, obs_cons, obs_nil']) ?_
    refine run_while (fun (i : Nat) τ ar => (τ 0 = dimS n1 xs ∧ τ 1 = dimS n2 ys ∧ τ 5 = iv i) ∧ ar = [] ∧ i ≤ xs.length ∧ xs.take i = ys.take i) (fun i => xs.length - i) 0 ⟨⟨rfl, rfl, rfl⟩, rfl, Nat.zero_le _, rfl⟩ ?_
    rintro i τ' ar' ⟨⟨h0, h1, h5⟩, rfl, hi, hp⟩ ih
    refine run_says 0 h0 (Says.refl _) (run_says 1 (by exact h1) (Says.refl _) (run_says 5 (by exact h5) (Says.refl _) ?_))
    refine run_x (I := inf) 99 rfl (by simp only [app, obs_cons, obs_nil']) ?_
    refine run_cond rfl (fun hlt => ?_) (fun hlt => ?_)
    · have hlt' : i < xs.length := by simpa using hlt
      refine run_x (I := inf) 99 rfl (by simp only [app, obs_cons, obs_nil']) ?_
      refine run_draw 9 (by kernel_rfl) (by kernel_rfl) (lex_x (I := inf) 99 rfl rfl (by simp only [app, obs_cons, obs_nil']; simp [inB, hlt', ← hl]) lex_nil) ?_
      refine run_x (I := inf) 99 rfl (by simp only [app, obs_cons, obs_nil']) ?_
      refine run_cond rfl (fun hne => ?_) (fun hne => ?_)
      · refine run_x (I := inf) 99 rfl (by simp only [app, obs_cons, obs_nil']) ?_
        refine run_drop 0 (Nat.le_refl _) rfl .nil (run_ret (.tmp .nil) ⟨?_, rfl⟩)
        show Out.ret (bv false) = _
        have : xs ≠ ys := fun e => by subst e; simp at hne
        simp [this]
      · refine run_x (I := inf) 99 rfl (by simp only [app, obs_cons, obs_nil']) ?_
        have hs : IntKind.wrap .i64 ((i : Int) + 1) = ((i + 1 : Nat) : Int) := by rw [w64] <;> omega
        refine ih (i + 1) _ _ (by omega) ⟨⟨rfl, rfl, ?_⟩, rfl, by omega, ?_⟩
        · show iv (IntKind.wrap .i64 ((i : Int) + 1)) = _
          rw [hs]
        · refine take_next (d := (0, 0)) hl hlt' hp ?_
          simp at hne
          exact Prod.ext hne.1 hne.2
    · refine run_x (I := inf) 99 rfl (by simp only [app, obs_cons, obs_nil']) ?_
      refine run_drop 0 (Nat.le_refl _) rfl .nil (run_ret (.tmp .nil) ⟨?_, rfl⟩)
      show Out.ret (bv true) = _
      have hi' : i = xs.length := by simp at hlt; omega
      subst hi'
      have : xs = ys := by rw [List.take_length] at hp; rw [hp, hl, List.take_length]
      simp [this]

theorem law_awake : CallT Tryd.prog 7 [] [] (fun o A => o = .ret (bv true) ∧ A = []) := by
  refine callT_body (n := 25) rfl rfl fun w ρ X => ?_
  refine run_x (I := inf) 99 rfl (by repeat (first | exact obs_nil | refine obs_same ?_ | refine obs_and ?_ | refine obs_by (by (simp [inB] <;> omega)) ?_)) ?_
  refine run_tell 0 (dimR [(1, 2), (0, 2)]) rfl rfl (fun i hi => by rcases i with _ | _ | i <;> first | rfl | omega) rfl ?_
  refine run_tell 1 (intR [2, 1]) rfl rfl (fun i hi => by rcases i with _ | _ | i <;> first | rfl | omega) rfl ?_
  refine run_freeze 8 rfl rfl rfl (fun i hi => rfl) ?_
  refine run_freeze 9 rfl rfl rfl (fun i hi => rfl) ?_
  refine run_drop 0 (Nat.le_refl _) rfl .nil ?_
  refine run_call rfl rfl rfl rfl rfl rfl rfl rfl (a_Offset none none [(1, 2), (0, 2)] [2, 1]) ?_
  rw [show offF [(1, 2), (0, 2)] [2, 1] = (4, 0, 0, 0) from by decide]
  refine run_x (I := inf) 99 rfl (by repeat (first | exact obs_nil | refine obs_same ?_ | refine obs_and ?_ | refine obs_by (by (simp [inB] <;> omega)) ?_)) ?_
  refine run_retX (I := inf) 0 rfl (Nat.le_refl _) rfl .nil rfl ⟨?_, rfl⟩
  rfl
end Go.Iron.Tryd

/-
  DERIVED: THE SHELF's CONTRACTS AT THIS DUMP, IN PLAIN WORDS (tools/lay-plain.mjs out of 'YtamhonbhoelohaaDoorShelf.lean', which tools/lay-shelf.mjs wrote): THE SAME DECLARATIONS UNDER THE SAME NAMES: 'import', 'namespace', 'open', 'def', 'theorem' AND NOTHING ELSE: no command of the shelf's: FOR A HAND-IN. Each laying: the table of numbers ('.._ren') and one theorem, a field a fact of the dump's own or the kernel's comparison; each contract: ONE APPLICATION.
-/
namespace Go.Proofs
open Go.Shelf
def Tryd.lays156_ren : Go.Shelf.Ren := ⟨fun | 156 => 22 | 165 => 29 | 166 => 30 | 169 => 31 | 240 => 37 | 241 => 38 | 276 => 45 | 277 => 46 | n => n, fun | 31 => 47 | 9 => 9 | 3 => 3 | 4 => 4 | 0 => 0 | 20 => 20 | 72 => 57 | 76 => 61 | 70 => 54 | 37 => 55 | 75 => 60 | 127 => 66 | 164 => 74 | 5 => 5 | 80 => 63 | n => n, fun | n => n⟩
theorem Tryd.lays156 : Go.Proofs.Lays.n156 Tryd.prog Tryd.lays156_ren := {
  mixed := by kernel_rfl
  f156 := Tryd.func22.trans (congrArg some (by kernel_rfl))
  f165 := Tryd.func29.trans (congrArg some (by kernel_rfl))
  f166 := Tryd.func30.trans (congrArg some (by kernel_rfl))
  f169 := Tryd.func31.trans (congrArg some (by kernel_rfl))
  f240 := Tryd.func37.trans (congrArg some (by kernel_rfl))
  f241 := Tryd.func38.trans (congrArg some (by kernel_rfl))
  f276 := Tryd.func45.trans (congrArg some (by kernel_rfl))
  f277 := Tryd.func46.trans (congrArg some (by kernel_rfl))
  t0 := Tryd.underlying0
  a0 := Tryd.isAgg0
  z0 := Tryd.sizeOf0
  v0 := Tryd.zeroValue0
  t3 := Tryd.underlying3
  a3 := Tryd.isAgg3
  z3 := Tryd.sizeOf3
  v3 := Tryd.zeroValue3
  t4 := Tryd.underlying4
  a4 := Tryd.isAgg4
  z4 := Tryd.sizeOf4
  v4 := Tryd.zeroValue4
  t9 := Tryd.underlying9
  a9 := Tryd.isAgg9
  z9 := Tryd.sizeOf9
  v9 := Tryd.zeroValue9
  t20 := Tryd.underlying20
  a20 := Tryd.isAgg20
  z20 := Tryd.sizeOf20
  v20 := Tryd.zeroValue20
  t31 := Tryd.underlying47
  a31 := Tryd.isAgg47
  z31 := Tryd.sizeOf47
  v31 := Tryd.zeroValue47
  t37 := Tryd.underlying55
  a37 := Tryd.isAgg55
  z37 := Tryd.sizeOf55
  v37 := Tryd.zeroValue55
  t70 := Tryd.underlying54
  a70 := Tryd.isAgg54
  z70 := Tryd.sizeOf54
  v70 := Tryd.zeroValue54
  t72 := Tryd.underlying57
  a72 := Tryd.isAgg57
  z72 := Tryd.sizeOf57
  v72 := Tryd.zeroValue57
  t75 := Tryd.underlying60
  a75 := Tryd.isAgg60
  z75 := Tryd.sizeOf60
  v75 := Tryd.zeroValue60
  t76 := Tryd.underlying61
  a76 := Tryd.isAgg61
  z76 := Tryd.sizeOf61
  v76 := Tryd.zeroValue61
  t127 := Tryd.underlying66
  a127 := Tryd.isAgg66
  z127 := Tryd.sizeOf66
  v127 := Tryd.zeroValue66
  t164 := Tryd.underlying74
  a164 := Tryd.isAgg74
  z164 := Tryd.sizeOf74
  v164 := Tryd.zeroValue74 }
theorem Tryd.Builder_Extra_156 : Builder.Extra Tryd.prog Tryd.lays156_ren := {
  sizeBuilder := by kernel_rfl
  liesBuilder := by kernel_rfl
  t5 := Tryd.underlying5
  a5 := Tryd.isAgg5
  z5 := Tryd.sizeOf5
  v5 := Tryd.zeroValue5
  infoByte := by kernel_rfl
  cellsByte := by kernel_rfl
  sizeByte := by kernel_rfl
  neB5 := by decide }
open Go.RowKit in
/-- No element: the empty string; the world is as it was. (Whatever the slice's address and capacity: a nil slice too.) (LAID: no walk: one application.) -/
theorem Tryd.strings_Join_none (a : Option Addr) (c : Nat) (sep : ByteArray) (w : World) :
    Calls Tryd.prog 22 #[.slice a 0 c, .string sep] w fun e w' => e = .returned (.string ⟨#[]⟩) ∧ w' = w := Any.strings_Join_none Tryd.lays156 Tryd.Builder_Extra_156 a c sep w
open Go.RowKit in
/-- strings.Join: "Join concatenates the elements of its first argument to create a single string. The separator string sep is placed between elements in the resulting string.": HOWEVER MANY ELEMENTS. Below the heap's end the world is as it was. (LAID: no walk: one application.) -/
theorem Tryd.strings_Join (bk o c : Nat) (xs : List ByteArray) (sep : ByteArray) (w : World) (hcells : ∀ (j : Nat) x, xs[j]? = some x → w.cell? ⟨bk, o + j, none⟩ = some (.string x)) (hbk : bk < w.heap.size) (hN : xs.length ≤ 140737488355328) (hcap : xs.length ≤ c) (hlen : (Lib.join (xs.map (·.data.toList)) sep.data.toList).length ≤ 140737488355328) :
    Calls Tryd.prog 22 #[.slice (some ⟨bk, o, none⟩) xs.length c, .string sep] w fun e w' => e = .returned (.string ⟨(Lib.join (xs.map (·.data.toList)) sep.data.toList).toArray⟩) ∧ Below w.heap.size w w' := Any.strings_Join Tryd.lays156 Tryd.Builder_Extra_156 bk o c xs sep w hcells hbk hN hcap hlen
def Tryd.lays172_ren : Go.Shelf.Ren := ⟨fun | 172 => 35 | 244 => 39 | 245 => 40 | 247 => 47 | 279 => 48 | 280 => 49 | 281 => 50 | 282 => 51 | 287 => 57 | 316 => 58 | 171 => 21 | 205 => 59 | 321 => 62 | 322 => 63 | 243 => 28 | 246 => 36 | 283 => 41 | 284 => 42 | 285 => 43 | 286 => 44 | 129 => 53 | 317 => 52 | 318 => 54 | 319 => 55 | 320 => 56 | 337 => 60 | 338 => 61 | n => n, fun | 9 => 9 | 3 => 3 | 75 => 60 | 76 => 61 | 4 => 4 | 5 => 5 | 167 => 77 | 37 => 55 | 0 => 0 | 85 => 78 | 2 => 2 | 168 => 80 | 53 => 69 | 175 => 91 | 46 => 89 | 210 => 95 | 127 => 66 | 145 => 102 | 143 => 100 | 21 => 21 | 171 => 68 | 173 => 72 | 212 => 85 | 51 => 86 | 20 => 20 | 213 => 87 | 232 => 103 | 233 => 104 | 80 => 63 | n => n, fun | 15 => 2 | 16 => 3 | 17 => 0 | 18 => 4 | 19 => 5 | n => n⟩
theorem Tryd.lays172 : Go.Proofs.Lays.n172 Tryd.prog Tryd.lays172_ren := {
  mixed := by kernel_rfl
  f129 := Tryd.func53.trans (congrArg some (by kernel_rfl))
  f171 := Tryd.func21.trans (congrArg some (by kernel_rfl))
  f172 := Tryd.func35.trans (congrArg some (by kernel_rfl))
  f205 := Tryd.func59.trans (congrArg some (by kernel_rfl))
  f243 := Tryd.func28.trans (congrArg some (by kernel_rfl))
  f244 := Tryd.func39.trans (congrArg some (by kernel_rfl))
  f245 := Tryd.func40.trans (congrArg some (by kernel_rfl))
  f246 := Tryd.func36.trans (congrArg some (by kernel_rfl))
  f247 := Tryd.func47.trans (congrArg some (by kernel_rfl))
  f279 := Tryd.func48.trans (congrArg some (by kernel_rfl))
  f280 := Tryd.func49.trans (congrArg some (by kernel_rfl))
  f281 := Tryd.func50.trans (congrArg some (by kernel_rfl))
  f282 := Tryd.func51.trans (congrArg some (by kernel_rfl))
  f283 := Tryd.func41.trans (congrArg some (by kernel_rfl))
  f284 := Tryd.func42.trans (congrArg some (by kernel_rfl))
  f285 := Tryd.func43.trans (congrArg some (by kernel_rfl))
  f286 := Tryd.func44.trans (congrArg some (by kernel_rfl))
  f287 := Tryd.func57.trans (congrArg some (by kernel_rfl))
  f316 := Tryd.func58.trans (congrArg some (by kernel_rfl))
  f317 := Tryd.func52.trans (congrArg some (by kernel_rfl))
  f318 := Tryd.func54.trans (congrArg some (by kernel_rfl))
  f319 := Tryd.func55.trans (congrArg some (by kernel_rfl))
  f320 := Tryd.func56.trans (congrArg some (by kernel_rfl))
  f321 := Tryd.func62.trans (congrArg some (by kernel_rfl))
  f322 := Tryd.func63.trans (congrArg some (by kernel_rfl))
  f337 := Tryd.func60.trans (congrArg some (by kernel_rfl))
  f338 := Tryd.func61.trans (congrArg some (by kernel_rfl))
  t0 := Tryd.underlying0
  a0 := Tryd.isAgg0
  z0 := Tryd.sizeOf0
  v0 := Tryd.zeroValue0
  t2 := Tryd.underlying2
  a2 := Tryd.isAgg2
  z2 := Tryd.sizeOf2
  v2 := Tryd.zeroValue2
  t3 := Tryd.underlying3
  a3 := Tryd.isAgg3
  z3 := Tryd.sizeOf3
  v3 := Tryd.zeroValue3
  t4 := Tryd.underlying4
  a4 := Tryd.isAgg4
  z4 := Tryd.sizeOf4
  v4 := Tryd.zeroValue4
  t5 := Tryd.underlying5
  a5 := Tryd.isAgg5
  z5 := Tryd.sizeOf5
  v5 := Tryd.zeroValue5
  t9 := Tryd.underlying9
  a9 := Tryd.isAgg9
  z9 := Tryd.sizeOf9
  v9 := Tryd.zeroValue9
  t20 := Tryd.underlying20
  a20 := Tryd.isAgg20
  z20 := Tryd.sizeOf20
  v20 := Tryd.zeroValue20
  t21 := Tryd.underlying21
  a21 := Tryd.isAgg21
  z21 := Tryd.sizeOf21
  v21 := Tryd.zeroValue21
  t37 := Tryd.underlying55
  a37 := Tryd.isAgg55
  z37 := Tryd.sizeOf55
  v37 := Tryd.zeroValue55
  t46 := Tryd.underlying89
  a46 := Tryd.isAgg89
  z46 := Tryd.sizeOf89
  v46 := Tryd.zeroValue89
  t51 := Tryd.underlying86
  a51 := Tryd.isAgg86
  z51 := Tryd.sizeOf86
  v51 := Tryd.zeroValue86
  t53 := Tryd.underlying69
  a53 := Tryd.isAgg69
  z53 := Tryd.sizeOf69
  v53 := Tryd.zeroValue69
  t75 := Tryd.underlying60
  a75 := Tryd.isAgg60
  z75 := Tryd.sizeOf60
  v75 := Tryd.zeroValue60
  t76 := Tryd.underlying61
  a76 := Tryd.isAgg61
  z76 := Tryd.sizeOf61
  v76 := Tryd.zeroValue61
  t85 := Tryd.underlying78
  a85 := Tryd.isAgg78
  z85 := Tryd.sizeOf78
  v85 := Tryd.zeroValue78
  t127 := Tryd.underlying66
  a127 := Tryd.isAgg66
  z127 := Tryd.sizeOf66
  v127 := Tryd.zeroValue66
  t143 := Tryd.underlying100
  a143 := Tryd.isAgg100
  z143 := Tryd.sizeOf100
  v143 := Tryd.zeroValue100
  t145 := Tryd.underlying102
  a145 := Tryd.isAgg102
  z145 := Tryd.sizeOf102
  v145 := Tryd.zeroValue102
  t167 := Tryd.underlying77
  a167 := Tryd.isAgg77
  z167 := Tryd.sizeOf77
  v167 := Tryd.zeroValue77
  t168 := Tryd.underlying80
  a168 := Tryd.isAgg80
  z168 := Tryd.sizeOf80
  v168 := Tryd.zeroValue80
  t171 := Tryd.underlying68
  a171 := Tryd.isAgg68
  z171 := Tryd.sizeOf68
  v171 := Tryd.zeroValue68
  t173 := Tryd.underlying72
  a173 := Tryd.isAgg72
  z173 := Tryd.sizeOf72
  v173 := Tryd.zeroValue72
  t175 := Tryd.underlying91
  a175 := Tryd.isAgg91
  z175 := Tryd.sizeOf91
  v175 := Tryd.zeroValue91
  t210 := Tryd.underlying95
  a210 := Tryd.isAgg95
  z210 := Tryd.sizeOf95
  v210 := Tryd.zeroValue95
  t212 := Tryd.underlying85
  a212 := Tryd.isAgg85
  z212 := Tryd.sizeOf85
  v212 := Tryd.zeroValue85
  t213 := Tryd.underlying87
  a213 := Tryd.isAgg87
  z213 := Tryd.sizeOf87
  t232 := Tryd.underlying103
  a232 := Tryd.isAgg103
  z232 := Tryd.sizeOf103
  v232 := Tryd.zeroValue103
  t233 := Tryd.underlying104
  a233 := Tryd.isAgg104
  z233 := Tryd.sizeOf104
  v233 := Tryd.zeroValue104
  g15 := by kernel_rfl
  g16 := by kernel_rfl
  g17 := by kernel_rfl
  g18 := by kernel_rfl
  g19 := by kernel_rfl }
open Go.RowKit in
/-- strconv.Atoi: "Atoi is equivalent to ParseInt(s, 10, 0), converted to type int.": AT A DECIMAL NUMERAL OF AT MOST 18 BYTES: its value, and a nil error. The world behind the call: the one new row that the library's '[]byte(s)' lays. (LAID: no walk: one application.) -/
theorem Tryd.strconv_Atoi (s : ByteArray) (n : Int) (hl : s.size ≤ 18) (h : Lib.atoi s.data.toList = some n) (w : World) :
    Calls Tryd.prog 35 #[.string s] w fun e w' => e = .returned (.tuple #[.int .i64 n, .nilIface]) ∧ ∃ t, w' = Lib.bytesWorld w 5 t := Any.strconv_Atoi Tryd.lays172 s n hl h w
def Tryd.laysM171_ren : Go.Shelf.Ren := ⟨fun | 171 => 21 | 243 => 28 | 246 => 36 | 283 => 41 | 284 => 42 | 285 => 43 | 286 => 44 | 129 => 53 | 317 => 52 | 318 => 54 | 319 => 55 | 320 => 56 | 337 => 60 | 338 => 61 | n => n, fun | 3 => 3 | 9 => 9 | 2 => 2 | 4 => 4 | 171 => 68 | 0 => 0 | 53 => 69 | 37 => 55 | 5 => 5 | 173 => 72 | 212 => 85 | 51 => 86 | 20 => 20 | 213 => 87 | 46 => 89 | 232 => 103 | 233 => 104 | n => n, fun | 17 => 0 | 18 => 4 | 19 => 5 | n => n⟩
theorem Tryd.laysM171 : Go.Proofs.LaysM.n171 Tryd.prog Tryd.laysM171_ren := {
  mixed := by kernel_rfl
  f129 := Tryd.func53.trans (congrArg some (by kernel_rfl))
  f171 := Tryd.func21.trans (congrArg some (by kernel_rfl))
  f243 := Tryd.func28.trans (congrArg some (by kernel_rfl))
  f246 := Tryd.func36.trans (congrArg some (by kernel_rfl))
  f283 := Tryd.func41.trans (congrArg some (by kernel_rfl))
  f284 := Tryd.func42.trans (congrArg some (by kernel_rfl))
  f285 := Tryd.func43.trans (congrArg some (by kernel_rfl))
  f286 := Tryd.func44.trans (congrArg some (by kernel_rfl))
  f317 := Tryd.func52.trans (congrArg some (by kernel_rfl))
  f318 := Tryd.func54.trans (congrArg some (by kernel_rfl))
  f319 := Tryd.func55.trans (congrArg some (by kernel_rfl))
  f320 := Tryd.func56.trans (congrArg some (by kernel_rfl))
  f337 := Tryd.func60.trans (congrArg some (by kernel_rfl))
  f338 := Tryd.func61.trans (congrArg some (by kernel_rfl))
  t0 := Tryd.underlying0
  a0 := Tryd.isAgg0
  z0 := Tryd.sizeOf0
  v0 := Tryd.zeroValue0
  t2 := Tryd.underlying2
  a2 := Tryd.isAgg2
  z2 := Tryd.sizeOf2
  v2 := Tryd.zeroValue2
  t3 := Tryd.underlying3
  a3 := Tryd.isAgg3
  z3 := Tryd.sizeOf3
  v3 := Tryd.zeroValue3
  t4 := Tryd.underlying4
  a4 := Tryd.isAgg4
  z4 := Tryd.sizeOf4
  v4 := Tryd.zeroValue4
  t5 := Tryd.underlying5
  a5 := Tryd.isAgg5
  z5 := Tryd.sizeOf5
  v5 := Tryd.zeroValue5
  t9 := Tryd.underlying9
  a9 := Tryd.isAgg9
  z9 := Tryd.sizeOf9
  v9 := Tryd.zeroValue9
  t20 := Tryd.underlying20
  a20 := Tryd.isAgg20
  z20 := Tryd.sizeOf20
  v20 := Tryd.zeroValue20
  t37 := Tryd.underlying55
  a37 := Tryd.isAgg55
  z37 := Tryd.sizeOf55
  v37 := Tryd.zeroValue55
  t46 := Tryd.underlying89
  a46 := Tryd.isAgg89
  z46 := Tryd.sizeOf89
  v46 := Tryd.zeroValue89
  t51 := Tryd.underlying86
  a51 := Tryd.isAgg86
  z51 := Tryd.sizeOf86
  v51 := Tryd.zeroValue86
  t53 := Tryd.underlying69
  a53 := Tryd.isAgg69
  z53 := Tryd.sizeOf69
  v53 := Tryd.zeroValue69
  t171 := Tryd.underlying68
  a171 := Tryd.isAgg68
  z171 := Tryd.sizeOf68
  v171 := Tryd.zeroValue68
  t173 := Tryd.underlying72
  a173 := Tryd.isAgg72
  z173 := Tryd.sizeOf72
  v173 := Tryd.zeroValue72
  t212 := Tryd.underlying85
  a212 := Tryd.isAgg85
  z212 := Tryd.sizeOf85
  v212 := Tryd.zeroValue85
  t213 := Tryd.underlying87
  a213 := Tryd.isAgg87
  z213 := Tryd.sizeOf87
  t232 := Tryd.underlying103
  a232 := Tryd.isAgg103
  z232 := Tryd.sizeOf103
  v232 := Tryd.zeroValue103
  t233 := Tryd.underlying104
  a233 := Tryd.isAgg104
  z233 := Tryd.sizeOf104
  v233 := Tryd.zeroValue104
  g17 := by kernel_rfl
  g18 := by kernel_rfl
  g19 := by kernel_rfl
  i0 := by kernel_rfl
  i2 := by kernel_rfl
  i3 := by kernel_rfl
  i4 := by kernel_rfl
  i5 := by kernel_rfl
  i9 := by kernel_rfl
  i20 := by kernel_rfl
  i37 := by kernel_rfl
  i46 := by kernel_rfl
  i51 := by kernel_rfl
  i53 := by kernel_rfl
  i171 := by kernel_rfl
  i173 := by kernel_rfl
  i212 := by kernel_rfl
  i232 := by kernel_rfl
  i233 := by kernel_rfl
  m17 := by kernel_rfl
  m18 := by kernel_rfl
  m19 := by kernel_rfl }
open Go.RowKit Go.Sort Go.Lib in
/-- strconv.Itoa: "Itoa is equivalent to FormatInt(int64(i), 10).": i's DECIMAL NUMERAL ('Lib.itoa': a '-' where i is negative, then the digits), FOR EVERY int. The world behind the call: the world before it, new blocks behind the heap (the library's 'var a [24]byte'), draws. (LAID: no walk: one application.) -/
theorem Tryd.strconv_Itoa (n : Int) (h0 : -9223372036854775808 ≤ n) (h1 : n ≤ 9223372036854775807) (w : World) (htab : Lib.TabIs Tryd.prog w "internal/strconv.uint64pow10" .u64 Lib.pow10Tab) :
    Calls Tryd.prog 21 #[.int .i64 n] w fun e w' => e = .returned (.string ⟨(Lib.itoa n).toArray⟩) ∧ ∃ k os, w' = grow (w.drewN k) os := Any.strconv_Itoa Tryd.laysM171 n h0 h1 w htab
end Go.Proofs

/- The library's functions in the seat of ArrayTexts: Itoa, Atoi, Join. -/
namespace Go.Iron.Tryd
open Go.Proofs Go.RowKit

abbrev Str := List UInt8
abbrev sv (s : Str) : AV := .val (.string (bs s))
def txtR (xs : List Str) : Nat → List AV := encR (fun s => [sv s]) [] xs
def txtS (nl : Option Bool) (l : List Str) : AV := .slc 1 nl l.length (txtR l)
theorem grow_below (w : World) (k : Nat) (os : Array Obj) : Below w.heap.size w (Sort.grow (w.drewN k) os) :=
  ⟨rfl, rfl, rfl, by simp [Sort.grow, World.drewN], fun j hj => by
    simp only [Sort.grow, World.drewN]
    rw [Array.getElem?_append_left hj]⟩
theorem tab_of {w : World} (h : StandsIn w) : Lib.TabIs Tryd.prog w "internal/strconv.uint64pow10" .u64 Lib.pow10Tab := by
  obtain ⟨cs, e, fz, h1, h2⟩ := h _ (List.mem_singleton.2 rfl)
  have hg : Tryd.prog.globalNamed "internal/strconv.uint64pow10" = some 0 := by kernel_rfl
  unfold Lib.TabIs World.var?
  rw [hg]
  dsimp only [Option.bind]
  rw [h1, h2]
theorem lib_itoa (n : Int) (h0 : -9223372036854775808 ≤ n) (h1 : n ≤ 9223372036854775807) : CallT Tryd.prog 21 [iv n] [] (fun o A => o = .ret (sv (Lib.itoa n)) ∧ A = []) :=
  callT_lib fun w O vs hst hl hv => by
    obtain ⟨v, rfl⟩ : ∃ v, vs = #[v] := by
      obtain ⟨l⟩ := vs
      match l, hl with
      | [v], _ => exact ⟨v, rfl⟩
    have hv0 := rv_val (hv 0 _ v rfl rfl)
    subst hv0
    refine (Tryd.strconv_Itoa n h0 h1 w (tab_of hst)).mono fun e w' hh => ?_
    obtain ⟨rfl, k, os, rfl⟩ := hh
    exact ⟨_, rfl, grow_below w k os, fun w'' O' => .val⟩
theorem lib_atoi (s : Str) (n : Int) (hl : s.length ≤ 18) (h : Lib.atoi s = some n) : CallT Tryd.prog 35 [sv s] [] (fun o A => o = .ret (.tup [iv n, .val .nilIface]) ∧ A = []) :=
  callT_lib fun w O vs hst hl' hv => by
    obtain ⟨v, rfl⟩ : ∃ v, vs = #[v] := by
      obtain ⟨l⟩ := vs
      match l, hl' with
      | [v], _ => exact ⟨v, rfl⟩
    have hv0 := rv_val (hv 0 _ v rfl rfl)
    subst hv0
    refine (Tryd.strconv_Atoi (bs s) n (show s.length ≤ 18 from hl) h w).mono fun e w' hh => ?_
    obtain ⟨rfl, t, rfl⟩ := hh
    refine ⟨_, rfl, Lib.bytesWorld_below w 5 t, fun w'' O' => .tup rfl fun i x v hx hv => ?_⟩
    rcases i with _ | _ | i
    · cases hx; cases hv; exact .val
    · cases hx; cases hv; exact .val
    · simp at hx
theorem lib_join (nl : Option Bool) (xs : List Str) (sep : Str) (hn : xs.length ≤ 1000) (hl : (Lib.join xs sep).length ≤ 140737488355328) : CallT Tryd.prog 22 [txtS nl xs, sv sep] [] (fun o A => o = .ret (sv (Lib.join xs sep)) ∧ A = []) :=
  callT_lib fun w O vs hst hl' hv => by
    obtain ⟨v, v2, rfl⟩ : ∃ v v2, vs = #[v, v2] := by
      obtain ⟨l⟩ := vs
      match l, hl' with
      | [v, v2], _ => exact ⟨v, v2, rfl⟩
    have hv1 := rv_val (hv 1 _ v2 rfl rfl)
    subst hv1
    obtain ⟨A, cap, g, e1, e3, e4, e5, e6, e7, e8, e9⟩ := rv_slc (hv 0 _ v rfl rfl)
    subst e1
    cases xs with
    | nil =>
      refine (Tryd.strings_Join_none A cap (bs sep) w).mono fun e w' hh => ?_
      obtain ⟨rfl, rfl⟩ := hh
      exact ⟨_, rfl, Below.refl _ _, fun w'' O' => .val⟩
    | cons x r =>
      obtain ⟨ad, rfl, hb, hO⟩ := e7 (by simp)
      have hspot : ad.spot = none := by
        have h0 := (e8 0 0 _ ad (by simp) rfl rfl).1
        rw [show ad.add (0 * 1 + 0) = ad from rfl] at h0
        cases hsp : ad.spot with
        | none => rfl
        | some k =>
          unfold World.cell? at h0
          rw [hsp] at h0
          split at h0
          · simp at h0
          · cases h0
      obtain ⟨bk, o, spt⟩ := ad
      dsimp only at hspot hb
      subst hspot
      have hj := Tryd.strings_Join bk o cap ((x :: r).map bs) (bs sep) w (fun j y hy => ?_) hb (by simp at hn ⊢; omega) (by simpa using e3) (by
        rw [List.map_map]
        have : ((fun a : ByteArray => a.data.toList) ∘ bs) = fun s : Str => s := by funext s; rfl
        rw [this, List.map_id']
        exact hl)
      · rw [List.length_map] at hj
        refine hj.mono fun e w' hh => ?_
        obtain ⟨rfl, hB⟩ := hh
        refine ⟨_, rfl, hB, fun w'' O' => ?_⟩
        rw [List.map_map]
        have : ((fun a : ByteArray => a.data.toList) ∘ bs) = fun s : Str => s := by funext s; rfl
        rw [this, List.map_id']
        exact .val
      · have hjl : j < (x :: r).length := by
          have := (List.getElem?_eq_some_iff.1 hy).1
          simpa using this
        rw [List.getElem?_map, List.getElem?_eq_getElem hjl] at hy
        have hy' : bs (x :: r)[j] = y := by simpa using hy
        have hcell : txtR (x :: r) j = [sv (x :: r)[j]] := by
          show [sv ((x :: r).getD j [])] = _
          rw [List.getD_eq_getElem?_getD, List.getElem?_eq_getElem hjl]
          rfl
        have h1 := (e8 j 0 (sv (x :: r)[j]) ⟨bk, o, none⟩ hjl (by rw [hcell]; rfl) rfl).1
        have h2 := rv_val (e9 j 0 (sv (x :: r)[j]) hjl (by rw [hcell]; rfl))
        rw [h2, hy'] at h1
        rw [← h1]
        congr 1
        unfold Addr.add
        split
        · rename_i h0; simp at h0; subst h0; rfl
        · simp
end Go.Iron.Tryd

/- The seat of ArrayTexts: the reference's numbers and Text. -/
namespace Go.Iron.Tryd
open Go.Proofs

theorem bs_app (a b : Str) : bs a ++ bs b = bs (a ++ b) := by
  apply ByteArray.ext
  simp [bs, ByteArray.data_append]
def digS (n : Nat) : Str := if n = 0 then [] else Lib.decDigits n
theorem digS_step {n : Nat} (h : 0 < n) : digS n = digS (n / 10) ++ [UInt8.ofNat (48 + n % 10)] := by
  unfold digS
  rw [if_neg (by omega), Lib.decDigits]
  by_cases h1 : n < 10
  · rw [dif_pos h1, if_pos (by omega), Nat.mod_eq_of_lt h1]; rfl
  · rw [dif_neg h1, if_neg (by omega)]
theorem dec_len : ∀ u : Nat, (Lib.decDigits u).length ≤ u + 1 := by
  intro u
  induction u using Nat.strongRecOn with
  | ind u ih =>
    rw [Lib.decDigits]
    by_cases h : u < 10
    · rw [dif_pos h]; simp
    · rw [dif_neg h, List.length_append]
      have := ih (u / 10) (by omega)
      simp
      omega
theorem dig_len (u : Nat) : (digS u).length ≤ u + 1 := by
  unfold digS
  split
  · simp
  · exact dec_len u
theorem bl_textR (m : Nat) (r : Nat → Int) : (bl (textR m r)).length = m := by simp [textR, bl]
theorem blS (s : Str) : (bl (bs s)).length = s.length := rfl
theorem dig_byte {m : Nat} : textR 1 (fun i => getU (chunk 1 (AV.val (Value.int IntKind.u8 (IntKind.u8.wrap (IntKind.i64.wrap (48 + (m : Int).tmod 10)))) :: rep [AV.val (Value.int IntKind.u8 0)] 0) i)) = bs [UInt8.ofNat (48 + m % 10)] := by
  have h1 : (m : Int).tmod 10 = ((m % 10 : Nat) : Int) := rfl
  have h2 : m % 10 < 10 := Nat.mod_lt _ (by decide)
  rw [h1]
  generalize m % 10 = d at *
  have h3 : IntKind.u8.wrap (IntKind.i64.wrap (48 + (d : Int))) = 48 + d := by
    rw [w64 (by omega) (by omega)]
    exact IntWalk.u8_in _ (by omega)
  rw [h3]
  show (⟨⟨[UInt8.ofNat ((48 : Int) + d).toNat]⟩⟩ : ByteArray) = bs [UInt8.ofNat (48 + d)]
  congr 4
theorem ref_Decimal (n : Nat) (hn : n < 1000000000) : CallT Tryd.prog 32 [iv n] [] (fun o A => o = .ret (sv (Lib.decDigits n)) ∧ A = []) := by
  refine callS_body (n := 19) rfl rfl fun w ρ X => ?_
  refine runS_x (I := inf) (J := jnf) ⟨false, false, [], 0, 0⟩ 9999 rfl (by repeat (first | exact obs_nil | refine obs_draw (by kernel_rfl) ?_ | refine obs_same ?_ | refine obs_and ?_ | refine obs_by (by (simp [inB] <;> omega)) ?_)) ?_
  refine runS_cond rfl (fun h => ?_) (fun h => ?_)
  · refine runS_x (I := inf) (J := jnf) ⟨false, false, [], 0, 0⟩ 9999 rfl (by repeat (first | exact obs_nil | refine obs_draw (by kernel_rfl) ?_ | refine obs_same ?_ | refine obs_and ?_ | refine obs_by (by (simp [inB] <;> omega)) ?_)) ?_
    refine runS_ret (I := inf) 0 rfl (Nat.le_refl _) rfl .nil rfl ⟨?_, rfl⟩
    have : n = 0 := by simp at h; omega
    subst this
    rw [Lib.decDigits]
    rfl
  have hn0 : 0 < n := by simp at h; omega
  refine runS_x (I := inf) (J := jnf) ⟨false, false, [], 0, 0⟩ 9999 rfl (by repeat (first | exact obs_nil | refine obs_draw (by kernel_rfl) ?_ | refine obs_same ?_ | refine obs_and ?_ | refine obs_by (by (simp [inB] <;> omega)) ?_)) ?_
  refine runS_while (fun (x : Nat × Str) τ ar => (τ 0 = iv x.1 ∧ τ 3 = sv x.2) ∧ ar = [] ∧ x.1 < 1000000000 ∧ digS n = digS x.1 ++ x.2) (fun x => x.1) (n, []) ⟨⟨rfl, rfl⟩, rfl, hn, by simp⟩ ?_
  rintro ⟨m, acc⟩ τ' ar' ⟨⟨g0, g3⟩, rfl, hm, hp⟩ ih
  dsimp only at g0 g3 hm hp ih
  refine runS_says 0 (by exact g0) (Says.refl _) ?_; refine runS_says 3 (by exact g3) (Says.refl _) ?_
  refine runS_x (I := inf) (J := jnf) ⟨false, false, [], 0, 0⟩ 9999 rfl (by repeat (first | exact obs_nil | refine obs_draw (by kernel_rfl) ?_ | refine obs_same ?_ | refine obs_and ?_ | refine obs_by (by (simp [inB] <;> omega)) ?_)) ?_
  refine runS_cond rfl (fun hlt => ?_) (fun hlt => ?_)
  · have hlt' : 0 < m := by simpa using hlt
    have hal : acc.length ≤ n + 1 := by
      have h1 := dig_len n
      rw [hp, List.length_append] at h1
      omega
    refine runS_x (I := inf) (J := jnf) ⟨false, false, [], 0, 0⟩ 9999 rfl (by repeat (first | exact obs_nil | refine obs_draw (by kernel_rfl) ?_ | refine obs_same ?_ | refine obs_and ?_ | refine obs_by (by (simp [inB, bl_textR, blS] <;> omega)) ?_)) ?_
    refine runS_says 3 (show _ = sv (UInt8.ofNat (48 + m % 10) :: acc) from congrArg (fun b => AV.val (.string b)) ((congrArg (· ++ bs acc) dig_byte).trans (bs_app _ _))) (Says.refl _) ?_
    refine runS_drop 0 (Nat.zero_le _) rfl (by repeat (first | exact .nil | refine .row (fun j hj => rfl) ?_ | refine .box rfl ?_ | refine .fam (fun k j hk hj => rfl) ?_ | refine .loop (scrub_under _ _) ?_ | refine .dfr ?_ | refine .gone ?_ | refine .map (fun p hp => by (obtain ⟨k, _, rfl⟩ := List.mem_map.1 hp; rfl)) ?_)) rfl rfl rfl (by repeat (first | exact .nil | refine .cons rfl rfl rfl (scrub_under _ _) ?_)) ?_
    refine ih (m / 10, UInt8.ofNat (48 + m % 10) :: acc) _ _ ?_ ⟨⟨?_, rfl⟩, rfl, ?_, ?_⟩
    · dsimp only; omega
    · have : (m : Int).tdiv 10 = ((m / 10 : Nat) : Int) := rfl
      show iv (IntKind.wrap .i64 ((m : Int).tdiv 10)) = _
      rw [this, w64 (by omega) (by omega)]
    · dsimp only; omega
    · dsimp only
      rw [hp, digS_step hlt', List.append_assoc]
      rfl
  · have : m = 0 := by simp at hlt; omega
    subst this
    refine runS_x (I := inf) (J := jnf) ⟨false, false, [], 0, 0⟩ 9999 rfl (by repeat (first | exact obs_nil | refine obs_draw (by kernel_rfl) ?_ | refine obs_same ?_ | refine obs_and ?_ | refine obs_by (by (simp [inB] <;> omega)) ?_)) ?_
    refine runS_ret (I := inf) 0 rfl (Nat.le_refl _) rfl .nil rfl ⟨?_, rfl⟩
    have : digS n = Lib.decDigits n := if_neg (by omega)
    rw [← this, hp]
    rfl
end Go.Iron.Tryd

/- The seat of ArrayTexts: Text, of both. -/
namespace Go.Iron.Tryd
open Go.Proofs

theorem bl1 (a : UInt8) : (bl ⟨#[a]⟩).length = 1 := rfl
theorem ref_number (n : Int) (h1 : -1000000 < n) (h2 : n < 1000000) : CallT Tryd.prog 23 [iv n] [] (fun o A => o = .ret (sv (Lib.itoa n)) ∧ A = []) := by
  by_cases hn : n < 0
  · obtain ⟨m, rfl⟩ : ∃ m : Nat, n = -(m : Int) := ⟨n.natAbs, by omega⟩
    have hm0 : 0 < m := by omega
    refine callS_body (n := 11) rfl rfl fun w ρ X => ?_
    refine runS_x (I := inf) (J := jnf) ⟨false, false, [], 0, 0⟩ 9999 rfl (by repeat (first | exact obs_nil | refine obs_draw (by kernel_rfl) ?_ | refine obs_same ?_ | refine obs_and ?_ | refine obs_by (by (simp [inB] <;> omega)) ?_)) ?_
    refine runS_cond rfl (fun h => ?_) (fun h => ?_)
    · refine runS_x (I := inf) (J := jnf) ⟨false, false, [], 0, 0⟩ 9999 rfl (by repeat (first | exact obs_nil | refine obs_draw (by kernel_rfl) ?_ | refine obs_same ?_ | refine obs_and ?_ | refine obs_by (by (simp [inB] <;> omega)) ?_)) ?_
      have hneg : IntKind.wrap .i64 (0 - -(m : Int)) = (m : Int) := by rw [show (0 : Int) - -(m : Int) = m by omega, w64 (by omega) (by omega)]
      refine runS_says 6 (show _ = iv (m : Int) from congrArg iv hneg) (Says.refl _) ?_
      refine runS_call rfl rfl rfl rfl rfl rfl rfl (ref_Decimal m (by omega)) ?_
      have hdl := dec_len m
      refine runS_x (I := inf) (J := jnf) ⟨false, false, [], 0, 0⟩ 9999 rfl (by repeat (first | exact obs_nil | refine obs_draw (by kernel_rfl) ?_ | refine obs_same ?_ | refine obs_and ?_ | refine obs_by (by (simp [inB, blS, bl1, -List.getD_eq_getElem?_getD] <;> omega)) ?_)) ?_
      refine runS_ret (I := inf) 0 rfl (Nat.le_refl _) rfl .nil rfl ⟨?_, rfl⟩
      have e : Lib.itoa (-(m : Int)) = 45 :: Lib.decDigits m := by rw [Lib.itoa, if_pos hn]; congr 1; congr 1; omega
      rw [e]
      exact congrArg (fun b => Out.ret (.val (.string b))) (bs_app [45] (Lib.decDigits m))
    · exfalso; simp at h; omega
  · obtain ⟨m, rfl⟩ : ∃ m : Nat, n = (m : Int) := ⟨n.toNat, by omega⟩
    refine callS_body (n := 11) rfl rfl fun w ρ X => ?_
    refine runS_x (I := inf) (J := jnf) ⟨false, false, [], 0, 0⟩ 9999 rfl (by repeat (first | exact obs_nil | refine obs_draw (by kernel_rfl) ?_ | refine obs_same ?_ | refine obs_and ?_ | refine obs_by (by (simp [inB] <;> omega)) ?_)) ?_
    refine runS_cond rfl (fun h => ?_) (fun h => ?_)
    · exfalso; simp at h; omega
    · refine runS_x (I := inf) (J := jnf) ⟨false, false, [], 0, 0⟩ 9999 rfl (by repeat (first | exact obs_nil | refine obs_draw (by kernel_rfl) ?_ | refine obs_same ?_ | refine obs_and ?_ | refine obs_by (by (simp [inB] <;> omega)) ?_)) ?_
      refine runS_call rfl rfl rfl rfl rfl rfl rfl (ref_Decimal m (by omega)) ?_
      refine runS_x (I := inf) (J := jnf) ⟨false, false, [], 0, 0⟩ 9999 rfl (by repeat (first | exact obs_nil | refine obs_draw (by kernel_rfl) ?_ | refine obs_same ?_ | refine obs_and ?_ | refine obs_by (by (simp [inB] <;> omega)) ?_)) ?_
      refine runS_ret (I := inf) 0 rfl (Nat.le_refl _) rfl .nil rfl ⟨?_, rfl⟩
      rw [Lib.itoa, if_neg hn, Int.toNat_natCast]
      rfl
theorem itoa_len (n : Int) (h1 : -1000000 < n) (h2 : n < 1000000) : (Lib.itoa n).length ≤ 1000002 := by
  unfold Lib.itoa
  split
  · have := dec_len n.natAbs
    simp
    omega
  · have := dec_len n.toNat
    omega
def dimT (d : Dim) : Str := if d.1 ≠ 1 then Lib.itoa d.1 ++ [58] ++ Lib.itoa d.2 else Lib.itoa d.2
def bodyT (ds : List Dim) : Str := Lib.join (ds.map dimT) [44]
def textF (ds : List Dim) : Str := if validD ds then [40] ++ bodyT ds ++ [41] else []
theorem join_snoc {x : Str} {r : List Str} {y sep : Str} : Lib.join (x :: r ++ [y]) sep = Lib.join (x :: r) sep ++ (sep ++ y) := by
  rw [List.cons_append, Lib.join_cons, Lib.join_cons, Lib.joinTail, Lib.joinTail, List.map_append, List.flatten_append]
  simp
theorem dimT_len {d : Dim} (h1 : -1000000 < d.1) (h2 : d.1 < 1000000) (h3 : -1000000 < d.2) (h4 : d.2 < 1000000) : (dimT d).length ≤ 2000005 := by
  have a := itoa_len d.1 h1 h2
  have b := itoa_len d.2 h3 h4
  unfold dimT
  split
  · simp; omega
  · omega
/-- The first i of them. -/
def partT (ds : List Dim) (i : Nat) : Str := bodyT (ds.take i)
theorem partT_succ {ds : List Dim} {i : Nat} (h : i < ds.length) : partT ds (i + 1) = (if 0 < i then partT ds i ++ [44] else partT ds i) ++ dimT (ds.getD i (0, 0)) := by
  have e : ds.take (i + 1) = ds.take i ++ [ds.getD i (0, 0)] := by
    rw [List.take_succ_eq_append_getElem h, List.getD_eq_getElem?_getD, List.getElem?_eq_getElem h]; rfl
  unfold partT bodyT
  rw [e, List.map_append]
  by_cases hi : 0 < i
  · rw [if_pos hi]
    have hne : (ds.take i).map dimT ≠ [] := by
      intro h0
      have := congrArg List.length h0
      rw [List.length_map, List.length_take] at this
      have : min i ds.length = 0 := this
      omega
    obtain ⟨x, r, hx⟩ := List.exists_cons_of_ne_nil hne
    rw [hx]
    show Lib.join (x :: r ++ [dimT (ds.getD i (0, 0))]) [44] = _
    rw [join_snoc]
    simp
  · have : i = 0 := by omega
    subst this
    rw [if_neg (by omega)]
    simp [Lib.join_one, Lib.join_nil]
theorem partT_len {ds : List Dim} (hf : ∀ i, i < ds.length → (dimT (ds.getD i (0, 0))).length ≤ 2000005) : ∀ i, i ≤ ds.length → (partT ds i).length ≤ i * 2000006
  | 0, _ => by simp [partT, bodyT, Lib.join_nil]
  | i + 1, h => by
    rw [partT_succ (by omega)]
    have h1 := partT_len hf i (by omega)
    have h2 := hf i (by omega)
    split <;> simp [-List.getD_eq_getElem?_getD] <;> omega
theorem dim_in {n : Int} {i : Nat} {ds : List Dim} (hf : fitL n ds) (hi : i < ds.length) : -32768 ≤ (ds.getD i (0, 0)).1 ∧ (ds.getD i (0, 0)).1 ≤ (ds.getD i (0, 0)).2 ∧ (ds.getD i (0, 0)).2 < 32768 := by
  induction ds generalizing n i with
  | nil => simp at hi
  | cons d l ih =>
    cases i with
    | zero => exact hf.1
    | succ i => simpa using ih hf.2.2 (by simpa using hi)
theorem dims_bound {ds : List Dim} (hv : validD ds = true) {i : Nat} (hi : i < ds.length) : -1000000 < (ds.getD i (0, 0)).1 ∧ (ds.getD i (0, 0)).1 < 1000000 ∧ -1000000 < (ds.getD i (0, 0)).2 ∧ (ds.getD i (0, 0)).2 < 1000000 := by
  have := dim_in (fit_valid hv).1 hi
  omega
theorem ref_Text (nl : Option Bool) (ds : List Dim) : CallT Tryd.prog 12 [dimS nl ds] [] (fun o A => o = .ret (sv (textF ds)) ∧ A = []) := by
  refine callS_body (n := 43) rfl rfl fun w ρ X => ?_
  refine runS_x (I := inf) (J := jnf) ⟨false, false, [], 0, 0⟩ 9999 rfl (by repeat (first | exact obs_nil | refine obs_draw (by kernel_rfl) ?_ | refine obs_same ?_ | refine obs_and ?_ | refine obs_by (by (simp [inB] <;> omega)) ?_)) ?_
  refine runS_call rfl rfl rfl rfl rfl rfl rfl (r_Valid nl ds) ?_
  refine runS_x (I := inf) (J := jnf) ⟨false, false, [], 0, 0⟩ 9999 rfl (by repeat (first | exact obs_nil | refine obs_draw (by kernel_rfl) ?_ | refine obs_same ?_ | refine obs_and ?_ | refine obs_by (by (simp [inB] <;> omega)) ?_)) ?_
  refine runS_cond rfl (fun h => ?_) (fun h => ?_)
  · refine runS_x (I := inf) (J := jnf) ⟨false, false, [], 0, 0⟩ 9999 rfl (by repeat (first | exact obs_nil | refine obs_draw (by kernel_rfl) ?_ | refine obs_same ?_ | refine obs_and ?_ | refine obs_by (by (simp [inB] <;> omega)) ?_)) ?_
    refine runS_ret (I := inf) 0 rfl (Nat.le_refl _) rfl .nil rfl ⟨?_, rfl⟩
    have hv : validD ds = false := by simpa using h
    rw [textF, hv]; rfl
  have hv : validD ds = true := by simpa using h
  obtain ⟨hf, hl1, hl3⟩ := fit_valid hv
  have hpl := partT_len (ds := ds) fun i hi => by obtain ⟨a, b, c, d⟩ := dims_bound hv hi; exact dimT_len a b c d
  refine runS_x (I := inf) (J := jnf) ⟨false, false, [], 0, 0⟩ 9999 rfl (by repeat (first | exact obs_nil | refine obs_draw (by kernel_rfl) ?_ | refine obs_same ?_ | refine obs_and ?_ | refine obs_by (by (simp [inB] <;> omega)) ?_)) ?_
  refine runS_while (fun (i : Nat) τ ar => (τ 0 = dimS nl ds ∧ τ 3 = sv ([40] ++ partT ds i) ∧ τ 4 = iv i) ∧ ar = [] ∧ i ≤ ds.length) (fun i => ds.length - i) 0 ⟨⟨rfl, rfl, rfl⟩, rfl, Nat.zero_le _⟩ ?_
  rintro i τ' ar' ⟨⟨g0, g3, g4⟩, rfl, hi⟩ ih
  refine runS_says 0 (by exact g0) (Says.refl _) ?_; refine runS_says 3 (by exact g3) (Says.refl _) ?_; refine runS_says 4 (by exact g4) (Says.refl _) ?_
  have hpi := hpl i hi
  refine runS_x (I := inf) (J := jnf) ⟨false, false, [], 0, 0⟩ 9999 rfl (by repeat (first | exact obs_nil | refine obs_draw (by kernel_rfl) ?_ | refine obs_same ?_ | refine obs_and ?_ | refine obs_by (by (simp [inB] <;> omega)) ?_)) ?_
  refine runS_cond rfl (fun hlt => ?_) (fun hlt => ?_)
  · have hlt' : i < ds.length := by simpa using hlt
    have hw2 : IntKind.wrap .i64 ((i : Int) + 1) = ((i + 1 : Nat) : Int) := by rw [w64 (by omega) (by omega)]; rfl
    obtain ⟨b1, b2, b3, b4⟩ := dims_bound hv hlt'
    have hps := partT_succ hlt'
    have q1 := itoa_len _ b1 b2
    have q2 := itoa_len _ b3 b4
    refine runS_x (I := inf) (J := jnf) ⟨false, false, [], 0, 0⟩ 9999 rfl (by repeat (first | exact obs_nil | refine obs_draw (by kernel_rfl) ?_ | refine obs_same ?_ | refine obs_and ?_ | refine obs_by (by (simp [inB] <;> omega)) ?_)) ?_
    refine runS_cut (fun τ ar => (τ 0 = dimS nl ds ∧ τ 3 = sv ([40] ++ (if 0 < i then partT ds i ++ [44] else partT ds i)) ∧ τ 4 = iv i) ∧ ar = []) (fun rest => ?_) ?_
    · refine runS_cond rfl (fun hc => ?_) (fun hc => ?_)
      · have hi0 : 0 < i := by simpa using hc
        refine runS_x (I := inf) (J := jnf) ⟨false, false, [], 7, 0⟩ 9999 rfl (by repeat (first | exact obs_nil | refine obs_draw (by kernel_rfl) ?_ | refine obs_same ?_ | refine obs_and ?_ | refine obs_by (by (simp [inB, blS, bl1, -List.getD_eq_getElem?_getD] <;> omega)) ?_)) ?_
        refine rest _ _ ⟨⟨rfl, ?_, rfl⟩, rfl⟩
        rw [if_pos hi0]
        exact congrArg (fun b => AV.val (.string b)) ((bs_app _ [44]).trans (by rw [List.append_assoc]))
      · have hi0 : ¬ 0 < i := by simpa using hc
        refine runS_x (I := inf) (J := jnf) ⟨false, false, [], 7, 0⟩ 9999 rfl (by repeat (first | exact obs_nil | refine obs_draw (by kernel_rfl) ?_ | refine obs_same ?_ | refine obs_and ?_ | refine obs_by (by (simp [inB] <;> omega)) ?_)) ?_
        refine rest _ _ ⟨⟨rfl, ?_, rfl⟩, rfl⟩
        rw [if_neg hi0]
        rfl
    generalize hpp : (if 0 < i then partT ds i ++ [44] else partT ds i) = pp at *
    have hppl : pp.length ≤ 3 * 2000006 + 1 := by
      rw [← hpp]
      split <;> simp <;> omega
    rintro τ2 ar2 ⟨⟨g0, g3, g4⟩, rfl⟩
    refine runS_says 0 (by exact g0) (Says.refl _) ?_; refine runS_says 3 (by exact g3) (Says.refl _) ?_; refine runS_says 4 (by exact g4) (Says.refl _) ?_
    refine runS_x (I := inf) (J := jnf) ⟨false, false, [], 0, 0⟩ 9999 rfl (by repeat (first | exact obs_nil | refine obs_draw (by kernel_rfl) ?_ | refine obs_same ?_ | refine obs_and ?_ | refine obs_by (by (simp [inB, hlt'] <;> omega)) ?_)) ?_
    refine runS_cond rfl (fun hc => ?_) (fun hc => ?_)
    · have hc' : (ds.getD i (0, 0)).1 ≠ 1 := by
        have : ((ds.getD i (0, 0)).1 != 1) = true := hc
        simpa [-List.getD_eq_getElem?_getD] using this
      refine runS_x (I := inf) (J := jnf) ⟨false, false, [], 0, 0⟩ 9999 rfl (by repeat (first | exact obs_nil | refine obs_draw (by kernel_rfl) ?_ | refine obs_same ?_ | refine obs_and ?_ | refine obs_by (by (simp [inB, hlt'] <;> omega)) ?_)) ?_
      refine runS_call rfl rfl rfl rfl rfl rfl rfl (ref_number (ds.getD i (0, 0)).1 b1 b2) ?_
      refine runS_x (I := inf) (J := jnf) ⟨false, false, [], 0, 0⟩ 9999 rfl (by repeat (first | exact obs_nil | refine obs_draw (by kernel_rfl) ?_ | refine obs_same ?_ | refine obs_and ?_ | refine obs_by (by (simp [inB, blS, bl1, hlt', -List.getD_eq_getElem?_getD] <;> omega)) ?_)) ?_
      refine runS_says 3 (show _ = sv (([40] ++ pp) ++ (Lib.itoa (ds.getD i (0, 0)).1 ++ [58])) from congrArg (fun b => AV.val (.string b)) ((congrArg (bs ([40] ++ pp) ++ ·) (bs_app _ [58])).trans (bs_app _ _))) (Says.refl _) ?_
      refine runS_call rfl rfl rfl rfl rfl rfl rfl (ref_number (ds.getD i (0, 0)).2 b3 b4) ?_
      refine runS_x (I := inf) (J := jnf) ⟨false, false, [], 0, 0⟩ 9999 rfl (by repeat (first | exact obs_nil | refine obs_draw (by kernel_rfl) ?_ | refine obs_same ?_ | refine obs_and ?_ | refine obs_by (by (simp [inB, blS, bl1, -List.getD_eq_getElem?_getD] <;> omega)) ?_)) ?_
      refine ih (i + 1) _ _ (by omega) ⟨⟨rfl, ?_, congrArg iv hw2⟩, rfl, by omega⟩
      rw [hps, dimT, if_pos hc']
      exact congrArg (fun b => AV.val (.string b)) ((bs_app (([40] ++ pp) ++ (Lib.itoa (ds.getD i (0, 0)).1 ++ [58])) (Lib.itoa (ds.getD i (0, 0)).2)).trans (congrArg bs (by simp [-List.getD_eq_getElem?_getD, bl])))
    · have hc' : ¬ (ds.getD i (0, 0)).1 ≠ 1 := by
        have : ((ds.getD i (0, 0)).1 != 1) = false := hc
        simpa [-List.getD_eq_getElem?_getD] using this
      refine runS_x (I := inf) (J := jnf) ⟨false, false, [], 0, 0⟩ 9999 rfl (by repeat (first | exact obs_nil | refine obs_draw (by kernel_rfl) ?_ | refine obs_same ?_ | refine obs_and ?_ | refine obs_by (by (simp [inB, hlt'] <;> omega)) ?_)) ?_
      refine runS_call rfl rfl rfl rfl rfl rfl rfl (ref_number (ds.getD i (0, 0)).2 b3 b4) ?_
      refine runS_x (I := inf) (J := jnf) ⟨false, false, [], 0, 0⟩ 9999 rfl (by repeat (first | exact obs_nil | refine obs_draw (by kernel_rfl) ?_ | refine obs_same ?_ | refine obs_and ?_ | refine obs_by (by (simp [inB, blS, bl1, -List.getD_eq_getElem?_getD] <;> omega)) ?_)) ?_
      refine ih (i + 1) _ _ (by omega) ⟨⟨rfl, ?_, congrArg iv hw2⟩, rfl, by omega⟩
      rw [hps, dimT, if_neg hc']
      exact congrArg (fun b => AV.val (.string b)) ((bs_app ([40] ++ pp) (Lib.itoa (ds.getD i (0, 0)).2)).trans (congrArg bs (by simp [-List.getD_eq_getElem?_getD, bl])))
  · have : i = ds.length := by simp at hlt; omega
    subst this
    refine runS_x (I := inf) (J := jnf) ⟨false, false, [], 0, 0⟩ 9999 rfl (by repeat (first | exact obs_nil | refine obs_draw (by kernel_rfl) ?_ | refine obs_same ?_ | refine obs_and ?_ | refine obs_by (by (simp [inB, blS, bl1, -List.getD_eq_getElem?_getD] <;> omega)) ?_)) ?_
    refine runS_ret (I := inf) 0 rfl (Nat.le_refl _) rfl .nil rfl ⟨?_, rfl⟩
    rw [textF, if_pos hv]
    have : partT ds ds.length = bodyT ds := by rw [partT, List.take_length]
    rw [this]
    exact congrArg (fun b => Out.ret (.val (.string b))) (bs_app _ _)
theorem txtR_snoc {acc : List Str} {v : Str} {r2 : Nat → List AV} (h : r2 0 = [sv v]) : ∀ j, j < acc.length + 1 → txtR (acc ++ [v]) j = appR acc.length (txtR acc) r2 j := fun j hj => encR_snoc (enc := fun s => [sv s]) (d := []) (acc := acc) (v := v) h j hj
theorem a_Text (nl : Option Bool) (ds : List Dim) : CallT Tryd.prog 10 [dimS nl ds] [] (fun o A => o = .ret (sv (textF ds)) ∧ A = []) := by
  refine callS_body (n := 37) rfl rfl fun w ρ X => ?_
  refine runS_x (I := inf) (J := jnf) ⟨false, false, [], 0, 0⟩ 9999 rfl (by repeat (first | exact obs_nil | refine obs_draw (by kernel_rfl) ?_ | refine obs_same ?_ | refine obs_and ?_ | refine obs_by (by (simp [inB] <;> omega)) ?_)) ?_
  refine runS_call rfl rfl rfl rfl rfl rfl rfl (a_Valid nl ds) ?_
  refine runS_x (I := inf) (J := jnf) ⟨false, false, [], 0, 0⟩ 9999 rfl (by repeat (first | exact obs_nil | refine obs_draw (by kernel_rfl) ?_ | refine obs_same ?_ | refine obs_and ?_ | refine obs_by (by (simp [inB] <;> omega)) ?_)) ?_
  refine runS_cond rfl (fun h => ?_) (fun h => ?_)
  · refine runS_x (I := inf) (J := jnf) ⟨false, false, [], 0, 0⟩ 9999 rfl (by repeat (first | exact obs_nil | refine obs_draw (by kernel_rfl) ?_ | refine obs_same ?_ | refine obs_and ?_ | refine obs_by (by (simp [inB] <;> omega)) ?_)) ?_
    refine runS_ret (I := inf) 0 rfl (Nat.le_refl _) rfl .nil rfl ⟨?_, rfl⟩
    have hv : validD ds = false := by simpa using h
    rw [textF, hv]; rfl
  have hv : validD ds = true := by simpa using h
  obtain ⟨hf, hl1, hl3⟩ := fit_valid hv
  have hpl := partT_len (ds := ds) fun i hi => by obtain ⟨a, b, c, d⟩ := dims_bound hv hi; exact dimT_len a b c d
  refine runS_x (I := inf) (J := jnf) ⟨false, false, [], 0, 0⟩ 9999 rfl (by repeat (first | exact obs_nil | refine obs_draw (by kernel_rfl) ?_ | refine obs_same ?_ | refine obs_and ?_ | refine obs_by (by (simp [inB] <;> omega)) ?_)) ?_
  refine runS_nilRow 3 9 1 (txtR []) rfl rfl ?_
  refine runS_while (fun (i : Nat) τ ar => (τ 3 = .row 0 i ∧ τ 10 = dimS nl ds ∧ τ 11 = iv ds.length ∧ τ 12 = iv i) ∧ ar = [.row 9 1 i i (txtR ((ds.take i).map dimT))] ∧ i ≤ ds.length) (fun i => ds.length - i) 0 ⟨⟨rfl, rfl, rfl, rfl⟩, rfl, Nat.zero_le _⟩ ?_
  rintro i τ' ar' ⟨⟨g3, g10, g11, g12⟩, rfl, hi⟩ ih
  refine runS_says 3 (by exact g3) (Says.refl _) ?_; refine runS_says 10 (by exact g10) (Says.refl _) ?_; refine runS_says 11 (by exact g11) (Says.refl _) ?_; refine runS_says 12 (by exact g12) (Says.refl _) ?_
  refine runS_x (I := inf) (J := jnf) ⟨false, false, [], 0, 0⟩ 9999 rfl (by repeat (first | exact obs_nil | refine obs_draw (by kernel_rfl) ?_ | refine obs_same ?_ | refine obs_and ?_ | refine obs_by (by (simp [inB] <;> omega)) ?_)) ?_
  refine runS_cond rfl (fun hlt => ?_) (fun hlt => ?_)
  · have hlt' : i < ds.length := by simpa using hlt
    have hw2 : IntKind.wrap .i64 ((i : Int) + 1) = ((i + 1 : Nat) : Int) := by rw [w64 (by omega) (by omega)]; rfl
    obtain ⟨b1, b2, b3, b4⟩ := dims_bound hv hlt'
    have q1 := itoa_len _ b1 b2
    have q2 := itoa_len _ b3 b4
    have hlen : ((ds.take i).map dimT).length = i := by rw [List.length_map, List.length_take]; omega
    have htk : (ds.take (i + 1)).map dimT = (ds.take i).map dimT ++ [dimT (ds.getD i (0, 0))] := by
      rw [List.take_succ_eq_append_getElem hlt', List.map_append, List.getD_eq_getElem?_getD, List.getElem?_eq_getElem hlt']; rfl
    have hsn : ∀ {r2 : Nat → List AV}, r2 0 = [sv (dimT (ds.getD i (0, 0)))] → ∀ j, j < i + 1 → txtR ((ds.take (i + 1)).map dimT) j = appR i (txtR ((ds.take i).map dimT)) r2 j := fun h j hj => by
      have := txtR_snoc (acc := (ds.take i).map dimT) h j
      rw [hlen] at this
      rw [htk]
      exact this hj
    refine runS_x (I := inf) (J := jnf) ⟨false, false, [], 0, 0⟩ 9999 rfl (by repeat (first | exact obs_nil | refine obs_draw (by kernel_rfl) ?_ | refine obs_same ?_ | refine obs_and ?_ | refine obs_by (by (simp [inB, hlt'] <;> omega)) ?_)) ?_
    refine runS_call rfl rfl rfl rfl rfl rfl rfl (lib_itoa (ds.getD i (0, 0)).2 (by omega) (by omega)) ?_
    refine runS_x (I := inf) (J := jnf) ⟨false, false, [], 0, 0⟩ 9999 rfl (by repeat (first | exact obs_nil | refine obs_draw (by kernel_rfl) ?_ | refine obs_same ?_ | refine obs_and ?_ | refine obs_by (by (simp [inB] <;> omega)) ?_)) ?_
    refine runS_cond rfl (fun hc => ?_) (fun hc => ?_)
    · have hc' : (ds.getD i (0, 0)).1 ≠ 1 := by
        have : ((ds.getD i (0, 0)).1 != 1) = true := hc
        simpa [-List.getD_eq_getElem?_getD] using this
      refine runS_x (I := inf) (J := jnf) ⟨false, false, [], 0, 0⟩ 9999 rfl (by repeat (first | exact obs_nil | refine obs_draw (by kernel_rfl) ?_ | refine obs_same ?_ | refine obs_and ?_ | refine obs_by (by (simp [inB] <;> omega)) ?_)) ?_
      refine runS_call rfl rfl rfl rfl rfl rfl rfl (lib_itoa (ds.getD i (0, 0)).1 (by omega) (by omega)) ?_
      refine runS_x (I := inf) (J := jnf) ⟨false, false, [], 0, 0⟩ 9999 rfl (by repeat (first | exact obs_nil | refine obs_draw (by kernel_rfl) ?_ | refine obs_same ?_ | refine obs_and ?_ | refine obs_by (by (simp [inB, blS, bl1, -List.getD_eq_getElem?_getD] <;> omega)) ?_)) ?_
      refine runS_tell 0 (txtR ((ds.take (i + 1)).map dimT)) rfl (m' := i + 1) rfl (hsn ?_) rfl ?_
      · rw [dimT, if_pos hc']
        exact congrArg (fun b => [AV.val (.string b)]) (((congrArg (· ++ bs _) (bs_app _ [58])).trans (bs_app _ _)).symm) |>.symm
      refine runS_drop 1 (Nat.zero_le _) rfl (by repeat (first | exact .nil | refine .row (fun j hj => rfl) ?_ | refine .box rfl ?_ | refine .fam (fun k j hk hj => rfl) ?_ | refine .loop (scrub_under _ _) ?_ | refine .dfr ?_ | refine .gone ?_ | refine .map (fun p hp => by (obtain ⟨k, _, rfl⟩ := List.mem_map.1 hp; rfl)) ?_)) rfl rfl rfl (by repeat (first | exact .nil | refine .cons rfl rfl rfl (scrub_under _ _) ?_)) ?_
      exact ih (i + 1) _ _ (by omega) ⟨⟨rfl, rfl, rfl, congrArg iv hw2⟩, rfl, by omega⟩
    · have hc' : ¬ (ds.getD i (0, 0)).1 ≠ 1 := by
        have : ((ds.getD i (0, 0)).1 != 1) = false := hc
        simpa [-List.getD_eq_getElem?_getD] using this
      refine runS_x (I := inf) (J := jnf) ⟨false, false, [], 0, 0⟩ 9999 rfl (by repeat (first | exact obs_nil | refine obs_draw (by kernel_rfl) ?_ | refine obs_same ?_ | refine obs_and ?_ | refine obs_by (by (simp [inB] <;> omega)) ?_)) ?_
      refine runS_tell 0 (txtR ((ds.take (i + 1)).map dimT)) rfl (m' := i + 1) rfl (hsn ?_) rfl ?_
      · rw [dimT, if_neg hc']
        rfl
      refine runS_drop 1 (Nat.zero_le _) rfl (by repeat (first | exact .nil | refine .row (fun j hj => rfl) ?_ | refine .box rfl ?_ | refine .fam (fun k j hk hj => rfl) ?_ | refine .loop (scrub_under _ _) ?_ | refine .dfr ?_ | refine .gone ?_ | refine .map (fun p hp => by (obtain ⟨k, _, rfl⟩ := List.mem_map.1 hp; rfl)) ?_)) rfl rfl rfl (by repeat (first | exact .nil | refine .cons rfl rfl rfl (scrub_under _ _) ?_)) ?_
      exact ih (i + 1) _ _ (by omega) ⟨⟨rfl, rfl, rfl, congrArg iv hw2⟩, rfl, by omega⟩
  · have hie : i = ds.length := by simp at hlt; omega
    subst hie
    have hbl : (bodyT ds).length ≤ 3 * 2000006 := by
      have := hpl ds.length (Nat.le_refl _)
      rw [partT, List.take_length] at this
      exact Nat.le_trans this (Nat.mul_le_mul_right _ hl3)
    refine runS_freeze 3 rfl rfl rfl (fun j hj => rfl) ?_
    refine runS_says 3 ((rfl : _ = AV.slc 1 none ds.length (txtR ((ds.take ds.length).map dimT))).trans (show _ = AV.slc 1 none (ds.map dimT).length (txtR (ds.map dimT)) by rw [List.take_length, List.length_map])) (Says.refl _) ?_
    refine runS_x (I := inf) (J := jnf) ⟨false, false, [], 0, 0⟩ 9999 rfl (by repeat (first | exact obs_nil | refine obs_draw (by kernel_rfl) ?_ | refine obs_same ?_ | refine obs_and ?_ | refine obs_by (by (simp [inB] <;> omega)) ?_)) ?_
    refine runS_call rfl rfl rfl rfl rfl rfl rfl (lib_join none (ds.map dimT) [44] (by rw [List.length_map]; omega) (show (bodyT ds).length ≤ _ by omega)) ?_
    have hbl' : (Lib.join (ds.map dimT) [44]).length ≤ 3 * 2000006 := hbl
    refine runS_x (I := inf) (J := jnf) ⟨false, false, [], 0, 0⟩ 9999 rfl (by repeat (first | exact obs_nil | refine obs_draw (by kernel_rfl) ?_ | refine obs_same ?_ | refine obs_and ?_ | refine obs_by (by (simp [inB, blS, bl1, -List.getD_eq_getElem?_getD] <;> omega)) ?_)) ?_
    refine runS_ret (I := inf) 0 rfl (Nat.le_refl _) rfl .nil rfl ⟨?_, rfl⟩
    rw [textF, if_pos hv, bodyT]
    exact congrArg (fun b => Out.ret (.val (.string b))) ((congrArg (· ++ bs [41]) (bs_app [40] _)).trans (bs_app _ _))
end Go.Iron.Tryd

/- The seat of ArrayTexts: numbers in a text, as functions. -/
namespace Go.Iron.Tryd
open Go.Proofs

def byt (s : Str) (p : Nat) : Nat := (s.getD p 0).toNat
def isB (s : Str) (p c : Nat) : Bool := decide (p < s.length) && byt s p == c
def isDg (s : Str) (p : Nat) : Bool := decide (p < s.length) && decide (48 ≤ byt s p) && decide (byt s p ≤ 57)
def dgN (s : Str) : Nat → Nat → Nat
  | 0, _ => 0
  | k + 1, p => if isDg s p then dgN s k (p + 1) + 1 else 0
theorem dgN_le (s : Str) : ∀ k p, dgN s k p ≤ k
  | 0, _ => Nat.le_refl _
  | k + 1, p => by
    unfold dgN
    split
    · have := dgN_le s k (p + 1); omega
    · omega
theorem dgN_all (s : Str) : ∀ k p j, j < dgN s k p → isDg s (p + j) = true
  | 0, p, j, h => by simp [dgN] at h
  | k + 1, p, j, h => by
    unfold dgN at h
    split at h
    · rename_i hd
      cases j with
      | zero => exact hd
      | succ j =>
        have := dgN_all s k (p + 1) j (by omega)
        rwa [show p + 1 + j = p + (j + 1) by omega] at this
    · omega
theorem dgN_eq {s : Str} : ∀ {n k p : Nat}, n ≤ k → (∀ j, j < n → isDg s (p + j) = true) → (n = k ∨ isDg s (p + n) = false) → dgN s k p = n
  | 0, 0, p, _, _, _ => rfl
  | 0, k + 1, p, _, _, h => by
    rcases h with h | h
    · omega
    · unfold dgN
      rw [if_neg (by rw [show p = p + 0 from rfl, h]; decide)]
  | n + 1, 0, p, h, _, _ => by omega
  | n + 1, k + 1, p, h, ha, he => by
    unfold dgN
    rw [if_pos (show isDg s p = true from ha 0 (by omega))]
    rw [dgN_eq (n := n) (k := k) (p := p + 1) (by omega) (fun j hj => by have := ha (j + 1) (by omega); rwa [show p + (j + 1) = p + 1 + j by omega] at this) (he.elim (fun h => .inl (by omega)) fun h => .inr (by rwa [show p + (n + 1) = p + 1 + n by omega] at h))]
inductive Rd (α : Type)
  | ok (x : α) (p : Nat)
  | bad (q r : Nat)
def minP (s : Str) (p : Nat) : Nat := if isB s p 45 then p + 1 else p
def decV (l : Str) : Nat := l.foldl (fun a b => 10 * a + (b.toNat - 48)) 0
def numL (s : Str) (p : Nat) : Nat := if byt s p = 48 then 1 else dgN s 5 p
def numV (s : Str) (p : Nat) : Nat := decV ((s.drop p).take (numL s p))
def numF (s : Str) (p : Nat) : Rd Int :=
  if dgN s 5 (minP s p) = 0 ∨ (isB s p 45 = true ∧ byt s (minP s p) = 48) then .bad (minP s p) (minP s p)
  else .ok (if isB s p 45 then -(numV s (minP s p) : Int) else numV s (minP s p)) (minP s p + numL s (minP s p))
theorem isDg_lt {s : Str} {p : Nat} (h : isDg s p = true) : p < s.length := by
  simp only [isDg, Bool.and_eq_true, decide_eq_true_eq] at h
  exact h.1.1
theorem numL_bounds {s : Str} {p : Nat} (h : dgN s 5 p ≠ 0) : 1 ≤ numL s p ∧ numL s p ≤ 5 ∧ p + numL s p ≤ s.length ∧ (∀ j, j < numL s p → isDg s (p + j) = true) := by
  have h5 := dgN_le s 5 p
  have hall : ∀ j, j < numL s p → isDg s (p + j) = true := fun j hj => by
    unfold numL at hj
    split at hj
    · exact dgN_all s 5 p j (by omega)
    · exact dgN_all s 5 p j hj
  have h1 : 1 ≤ numL s p ∧ numL s p ≤ 5 := by unfold numL; split <;> omega
  have := isDg_lt (hall (numL s p - 1) (by omega))
  exact ⟨h1.1, h1.2, by omega, hall⟩
theorem part_get {s : Str} {p n j : Nat} (h : p + n ≤ s.length) (hj : j < n) : ((s.drop p).take n)[j]? = some (s.getD (p + j) 0) := by
  rw [List.getElem?_take, if_pos hj, List.getElem?_drop, List.getD_eq_getElem?_getD, List.getElem?_eq_getElem (show p + j < s.length by omega)]
  rfl
theorem dec_from : ∀ (l : Str) (acc : Nat), (∀ b ∈ l, 48 ≤ b.toNat ∧ b.toNat ≤ 57) → Lib.decFrom acc l = some (l.foldl (fun a b => 10 * a + (b.toNat - 48)) acc)
  | [], acc, _ => rfl
  | b :: l, acc, h => by
    obtain ⟨h1, h2⟩ := h b (.head _)
    unfold Lib.decFrom Lib.digitVal
    rw [if_pos ⟨h1, h2⟩]
    dsimp only
    rw [dec_from l _ fun c hc => h c (.tail _ hc), List.foldl_cons, Nat.mul_comm acc 10]
theorem atoi_digits {l : Str} (h0 : l ≠ []) (h : ∀ b ∈ l, 48 ≤ b.toNat ∧ b.toNat ≤ 57) : Lib.atoi l = some (decV l : Int) := by
  cases l with
  | nil => exact absurd rfl h0
  | cons b r =>
    obtain ⟨h1, h2⟩ := h b (.head _)
    have e1 : (b == 45) = false := by rw [beq_eq_false_iff_ne]; rintro rfl; revert h1; decide
    have e2 : (b == 43) = false := by rw [beq_eq_false_iff_ne]; rintro rfl; revert h1; decide
    show (if (b == 45) = true then (Lib.decNat r).map fun (m : Nat) => -(m : Int) else if (b == 43) = true then (Lib.decNat r).map fun (m : Nat) => (m : Int) else (Lib.decNat (b :: r)).map fun (m : Nat) => (m : Int)) = _
    rw [e1, e2]
    simp only [Bool.false_eq_true, if_false]
    rw [Lib.decNat, List.isEmpty_cons, if_neg (by decide), dec_from _ 0 h]
    rfl
theorem dec_bound : ∀ (l : Str) (acc : Nat), (∀ b ∈ l, b.toNat ≤ 57) → l.foldl (fun a b => 10 * a + (b.toNat - 48)) acc + 1 ≤ (acc + 1) * 10 ^ l.length
  | [], acc, _ => by simp
  | b :: l, acc, h => by
    have h1 := h b (.head _)
    have h2 := dec_bound l (10 * acc + (b.toNat - 48)) fun c hc => h c (.tail _ hc)
    rw [List.foldl_cons, List.length_cons, Nat.pow_succ]
    refine Nat.le_trans h2 ?_
    rw [Nat.mul_comm (10 ^ l.length) 10, ← Nat.mul_assoc]
    exact Nat.mul_le_mul_right _ (by omega)
theorem numV_spec {s : Str} {p : Nat} (h : dgN s 5 p ≠ 0) : Lib.atoi ((s.drop p).take (numL s p)) = some (numV s p : Int) ∧ numV s p < 100000 := by
  obtain ⟨h1, h2, h3, h4⟩ := numL_bounds h
  have hlen : ((s.drop p).take (numL s p)).length = numL s p := by rw [List.length_take, List.length_drop]; omega
  have hb : ∀ b ∈ (s.drop p).take (numL s p), 48 ≤ b.toNat ∧ b.toNat ≤ 57 := fun b hb => by
    obtain ⟨j, hj⟩ := List.mem_iff_getElem?.1 hb
    have hjl := (List.getElem?_eq_some_iff.1 hj).1
    rw [hlen] at hjl
    rw [part_get h3 hjl] at hj
    have hd := h4 j hjl
    simp only [isDg, Bool.and_eq_true, decide_eq_true_eq] at hd
    have hbb : byt s (p + j) = b.toNat := congrArg UInt8.toNat (Option.some.inj hj)
    omega
  refine ⟨atoi_digits (fun e => by rw [e] at hlen; simp at hlen; omega) hb, ?_⟩
  have := dec_bound ((s.drop p).take (numL s p)) 0 fun b hb' => (hb b hb').2
  rw [hlen] at this
  have h10 : 10 ^ numL s p ≤ 10 ^ 5 := Nat.pow_le_pow_right (by decide) h2
  have e : numV s p = ((s.drop p).take (numL s p)).foldl (fun a b => 10 * a + (b.toNat - 48)) 0 := rfl
  omega
end Go.Iron.Tryd

/- The seat of ArrayTexts: the reader. -/
namespace Go.Iron.Tryd
open Go.Proofs

abbrev rdL (o0 o1 o2 o4 : AO) (s : Str) (p : Nat) : List AO := [o0, o1, o2, .box 41 [sv s, iv p], o4]
/-- The objects beside the reader are sound by themselves. -/
def KeptR (o0 o1 o2 o4 : AO) : Prop := ∀ s p, Kept 5 (rdL o0 o1 o2 o4 s p)
abbrev uv (c : Nat) : AV := .val (.int .u8 (c : Int))
theorem isB_int (s : Str) (p c : Nat) : (if decide ((p : Int) < (s.length : Int)) = true then (((s.getD p 0).toNat : Int) == (c : Int)) else false) = isB s p c := by
  unfold isB byt
  rw [Bool.eq_iff_iff]
  by_cases h : p < s.length
  · simp [h]; omega
  · simp [h]
theorem rd_is {o0 o1 o2 o4 : AO} (hk : KeptR o0 o1 o2 o4) (s : Str) (p c : Nat) (hs : s.length ≤ 1000) (hp : p ≤ 1000) : CallT Tryd.prog 18 [.ptr 3 0 0, uv c] (rdL o0 o1 o2 o4 s p) (fun o A => o = .ret (bv (isB s p c)) ∧ A = rdL o0 o1 o2 o4 s (if isB s p c then p + 1 else p)) := by
  refine callS_body (n := 35) rfl rfl fun w ρ X => ?_
  refine runS_x (I := inf) (J := jnf) ⟨false, false, [], 0, 0⟩ 9999 rfl (by repeat (first | exact obs_nil | refine obs_draw (by kernel_rfl) ?_ | refine obs_same ?_ | refine obs_and ?_ | refine obs_by (by (simp [inB, blS] <;> omega)) ?_)) ?_
  refine runS_cond rfl (fun h => ?_) (fun h => ?_)
  · have hb : isB s p c = true := (isB_int s p c).symm.trans h
    have hw2 : IntKind.wrap .i64 ((p : Int) + 1) = ((p + 1 : Nat) : Int) := by rw [w64 (by omega) (by omega)]; rfl
    refine runS_x (I := inf) (J := jnf) ⟨false, false, [], 0, 0⟩ 9999 rfl (by repeat (first | exact obs_nil | refine obs_draw (by kernel_rfl) ?_ | refine obs_same ?_ | refine obs_and ?_ | refine obs_by (by (simp [inB] <;> omega)) ?_)) ?_
    refine runS_ret (I := inf) 5 rfl (Nat.le_refl _) rfl (by rw [hw2]; exact hk s (p + 1)) rfl ⟨?_, ?_⟩
    · rw [hb]; rfl
    · rw [hb, if_pos rfl, hw2]
  · have hb : isB s p c = false := (isB_int s p c).symm.trans h
    refine runS_x (I := inf) (J := jnf) ⟨false, false, [], 0, 0⟩ 9999 rfl (by repeat (first | exact obs_nil | refine obs_draw (by kernel_rfl) ?_ | refine obs_same ?_ | refine obs_and ?_ | refine obs_by (by (simp [inB] <;> omega)) ?_)) ?_
    refine runS_ret (I := inf) 5 rfl (Nat.le_refl _) rfl (hk s p) rfl ⟨?_, ?_⟩
    · rw [hb]; rfl
    · rw [hb, if_neg (by decide)]
theorem rd_must {o0 o1 o2 o4 : AO} (hk : KeptR o0 o1 o2 o4) (s : Str) (p c : Nat) (hs : s.length ≤ 1000) (hp : p ≤ 1000) : CallT Tryd.prog 16 [.ptr 3 0 0, uv c] (rdL o0 o1 o2 o4 s p) (fun o A => o = (if isB s p c then .ret (.tup []) else .pan (.ifc 38 (.agg [iv p]))) ∧ A = rdL o0 o1 o2 o4 s (if isB s p c then p + 1 else p)) := by
  refine callS_body (n := 14) rfl rfl fun w ρ X => ?_
  refine runS_x (I := inf) (J := jnf) ⟨false, false, [], 0, 0⟩ 9999 rfl (by repeat (first | exact obs_nil | refine obs_draw (by kernel_rfl) ?_ | refine obs_same ?_ | refine obs_and ?_ | refine obs_by (by (simp [inB] <;> omega)) ?_)) ?_
  refine runS_callF (rdL o0 o1 o2 o4 s p) (rdL o0 o1 o2 o4 s (if isB s p c then p + 1 else p)) [] rfl rfl rfl rfl rfl (show _ = [.ptr 3 0 0, uv c] from rfl) rfl (hk s p) rfl rfl (rd_is hk s p c hs hp) ?_
  refine runS_x (I := inf) (J := jnf) ⟨false, false, [], 0, 0⟩ 9999 rfl (by repeat (first | exact obs_nil | refine obs_draw (by kernel_rfl) ?_ | refine obs_same ?_ | refine obs_and ?_ | refine obs_by (by (simp [inB] <;> omega)) ?_)) ?_
  refine runS_cond rfl (fun h => ?_) (fun h => ?_)
  · have hb : isB s p c = false := by simpa using h
    rw [hb]
    refine runS_x (I := inf) (J := jnf) ⟨false, false, [], 0, 0⟩ 9999 rfl (by repeat (first | exact obs_nil | refine obs_draw (by kernel_rfl) ?_ | refine obs_same ?_ | refine obs_and ?_ | refine obs_by (by (simp [inB] <;> omega)) ?_)) ?_
    exact runS_pan 5 rfl (Nat.le_refl _) rfl (hk s p) ⟨rfl, rfl⟩
  · have hb : isB s p c = true := by simpa using h
    rw [hb]
    refine runS_x (I := inf) (J := jnf) ⟨false, false, [], 0, 0⟩ 9999 rfl (by repeat (first | exact obs_nil | refine obs_draw (by kernel_rfl) ?_ | refine obs_same ?_ | refine obs_and ?_ | refine obs_by (by (simp [inB] <;> omega)) ?_)) ?_
    refine runS_ret (I := inf) 5 rfl (Nat.le_refl _) rfl (hk s (p + 1)) rfl ⟨?_, ?_⟩
    · rfl
    · rfl
theorem rd_mustY {o0 o1 o2 o4 : AO} (hk : KeptR o0 o1 o2 o4) (s : Str) (p c : Nat) (hs : s.length ≤ 1000) (hp : p ≤ 1000) (h : isB s p c = true) : CallT Tryd.prog 16 [.ptr 3 0 0, uv c] (rdL o0 o1 o2 o4 s p) (fun o A => o = .ret (.tup []) ∧ A = rdL o0 o1 o2 o4 s (p + 1)) := by
  have := rd_must hk s p c hs hp
  rw [h] at this
  exact this
theorem rd_mustN {o0 o1 o2 o4 : AO} (hk : KeptR o0 o1 o2 o4) (s : Str) (p c : Nat) (hs : s.length ≤ 1000) (hp : p ≤ 1000) (h : isB s p c = false) : CallT Tryd.prog 16 [.ptr 3 0 0, uv c] (rdL o0 o1 o2 o4 s p) (fun o A => o = .pan (.ifc 38 (.agg [iv p])) ∧ A = rdL o0 o1 o2 o4 s p) := by
  have := rd_must hk s p c hs hp
  rw [h] at this
  exact this
def rdQ {α : Type} (o0 o1 o2 o4 : AO) (s : Str) (F : α → AV) : Rd α → Out → List AO → Prop
  | .ok x p => fun o A => o = .ret (F x) ∧ A = rdL o0 o1 o2 o4 s p
  | .bad q r => fun o A => o = .pan (.ifc 38 (.agg [iv q])) ∧ A = rdL o0 o1 o2 o4 s r
theorem isDg_int (s : Str) (p n : Nat) : (if (if (if decide ((n : Int) < 5) = true then decide (((p + n : Nat) : Int) < (s.length : Int)) else false) = true then decide (((s.getD (p + n) 0).toNat : Int) ≥ 48) else false) = true then decide (((s.getD (p + n) 0).toNat : Int) ≤ 57) else false) = (decide (n < 5) && isDg s (p + n)) := by
  unfold isDg byt
  rw [Bool.eq_iff_iff]
  simp [-List.getD_eq_getElem?_getD]
  omega
theorem rd_number {o0 o1 o2 o4 : AO} (hk : KeptR o0 o1 o2 o4) (s : Str) (p : Nat) (hs : s.length ≤ 900) (hp : p ≤ 950) : CallT Tryd.prog 25 [.ptr 3 0 0] (rdL o0 o1 o2 o4 s p) (rdQ o0 o1 o2 o4 s iv (numF s p)) := by
  refine callS_body (n := 77) rfl rfl fun w ρ X => ?_
  refine runS_x (I := inf) (J := jnf) ⟨false, false, [], 0, 0⟩ 9999 rfl (by repeat (first | exact obs_nil | refine obs_draw (by kernel_rfl) ?_ | refine obs_same ?_ | refine obs_and ?_ | refine obs_by (by (simp [inB] <;> omega)) ?_)) ?_
  refine runS_callF (rdL o0 o1 o2 o4 s p) (rdL o0 o1 o2 o4 s (minP s p)) [.box 39 [.ptr 3 0 0]] rfl rfl rfl rfl rfl (show _ = [.ptr 3 0 0, uv 45] from rfl) rfl (hk s p) rfl rfl (rd_is hk s p 45 (by omega) (by omega)) ?_
  have hmp : minP s p ≤ p + 1 := by unfold minP; split <;> omega
  generalize hq : minP s p = q at *
  refine runS_x (I := inf) (J := jnf) ⟨false, false, [34], 0, 0⟩ 9999 rfl (by repeat (first | exact obs_nil | refine obs_draw (by kernel_rfl) ?_ | refine obs_same ?_ | refine obs_and ?_ | refine obs_by (by (simp [inB] <;> omega)) ?_)) ?_
  refine runS_forget 6 rfl ?_
  refine runS_while (fun (n : Nat) τ ar => (τ 0 = .ptr 5 0 0 ∧ τ 2 = iv n) ∧ ar = rdL o0 o1 o2 o4 s q ++ [.box 39 [.ptr 3 0 0]] ∧ n ≤ 5 ∧ ∀ j, j < n → isDg s (q + j) = true) (fun n => 5 - n) 0 ⟨⟨rfl, rfl⟩, rfl, by omega, fun j hj => by omega⟩ ?_
  rintro n τ' ar' ⟨⟨g0, g2⟩, rfl, hn, ha⟩ ih
  refine runS_says 0 (by exact g0) (Says.refl _) ?_; refine runS_says 2 (by exact g2) (Says.refl _) ?_
  have hw1 : IntKind.wrap .i64 ((q : Int) + (n : Int)) = ((q + n : Nat) : Int) := by rw [w64 (by omega) (by omega)]; rfl
  refine runS_x (I := inf) (J := jnf) ⟨false, false, [], 0, 0⟩ 9999 rfl (by repeat (first | exact obs_nil | refine obs_draw (by kernel_rfl) ?_ | refine obs_same ?_ | refine obs_and ?_ | refine obs_by (by (simp [inB, blS, hw1] <;> omega)) ?_)) ?_
  have hcd : (if (if (if decide ((n : Int) < 5) = true then decide (IntKind.wrap .i64 ((q : Int) + (n : Int)) < (s.length : Int)) else false) = true then decide (((s.getD (IntKind.wrap .i64 ((q : Int) + (n : Int))).toNat 0).toNat : Int) ≥ 48) else false) = true then decide (((s.getD (IntKind.wrap .i64 ((q : Int) + (n : Int))).toNat 0).toNat : Int) ≤ 57) else false) = (decide (n < 5) && isDg s (q + n)) := by
    rw [hw1, Int.toNat_natCast]
    exact isDg_int s q n
  refine runS_cond rfl (fun h => ?_) (fun h => ?_)
  · have hb : n < 5 ∧ isDg s (q + n) = true := by have := hcd.symm.trans h; simpa using this
    have hw2 : IntKind.wrap .i64 ((n : Int) + 1) = ((n + 1 : Nat) : Int) := by rw [w64 (by omega) (by omega)]; rfl
    refine runS_x (I := inf) (J := jnf) ⟨false, false, [], 0, 0⟩ 9999 rfl (by repeat (first | exact obs_nil | refine obs_draw (by kernel_rfl) ?_ | refine obs_same ?_ | refine obs_and ?_ | refine obs_by (by (simp [inB] <;> omega)) ?_)) ?_
    refine ih (n + 1) _ _ (by omega) ⟨⟨rfl, congrArg iv hw2⟩, rfl, by omega, fun j hj => ?_⟩
    by_cases hjn : j = n
    · subst hjn; exact hb.2
    · exact ha j (by omega)
  · have hb : n = 5 ∨ isDg s (q + n) = false := by
      have := hcd.symm.trans h
      simp only [Bool.and_eq_false_iff, decide_eq_false_iff_not] at this
      rcases this with h | h
      · exact .inl (by omega)
      · exact .inr h
    have hdn : dgN s 5 q = n := dgN_eq hn ha hb
    by_cases hn0 : n = 0
    · subst hn0
      refine runS_x (I := inf) (J := jnf) ⟨false, false, [], 0, 0⟩ 9999 rfl (by repeat (first | exact obs_nil | refine obs_draw (by kernel_rfl) ?_ | refine obs_same ?_ | refine obs_and ?_ | refine obs_by (by (simp [inB] <;> omega)) ?_)) ?_
      refine runS_cond rfl (fun h2 => ?_) (fun h2 => ?_)
      · refine runS_x (I := inf) (J := jnf) ⟨false, false, [], 0, 0⟩ 9999 rfl (by repeat (first | exact obs_nil | refine obs_draw (by kernel_rfl) ?_ | refine obs_same ?_ | refine obs_and ?_ | refine obs_by (by (simp [inB] <;> omega)) ?_)) ?_
        refine runS_pan 5 rfl (Nat.le_refl _) rfl (hk s q) ?_
        rw [numF, hq, if_pos (.inl hdn)]
        exact ⟨rfl, rfl⟩
      · exfalso
        simp at h2
    · have hd0 := ha 0 (by omega)
      have hql := isDg_lt hd0
      refine runS_x (I := inf) (J := jnf) ⟨false, false, [], 0, 0⟩ 9999 rfl (by repeat (first | exact obs_nil | refine obs_draw (by kernel_rfl) ?_ | refine obs_same ?_ | refine obs_and ?_ | refine obs_by (by (simp [inB, blS, hql] <;> omega)) ?_)) ?_
      have hcd2 : (if ((n : Int) == 0) = true then true else (if isB s p 45 = true then (((s.getD q 0).toNat : Int) == 48) else false)) = (isB s p 45 && byt s q == 48) := by
        have e1 : ((n : Int) == 0) = false := by rw [beq_eq_false_iff_ne]; omega
        rw [e1]
        unfold byt
        cases isB s p 45
        · rfl
        · rw [Bool.eq_iff_iff]; simp; omega
      refine runS_cond rfl (fun h2 => ?_) (fun h2 => ?_)
      · have h2' := hcd2.symm.trans h2
        rw [Bool.and_eq_true, beq_iff_eq] at h2'
        refine runS_x (I := inf) (J := jnf) ⟨false, false, [], 0, 0⟩ 9999 rfl (by repeat (first | exact obs_nil | refine obs_draw (by kernel_rfl) ?_ | refine obs_same ?_ | refine obs_and ?_ | refine obs_by (by (simp [inB] <;> omega)) ?_)) ?_
        refine runS_pan 5 rfl (Nat.le_refl _) rfl (hk s q) ?_
        rw [numF, hq, if_pos (.inr h2')]
        exact ⟨rfl, rfl⟩
      · have h2' := hcd2.symm.trans h2
        rw [Bool.and_eq_false_iff, beq_eq_false_iff_ne] at h2'
        have hnF : numF s p = .ok (if isB s p 45 then -(numV s q : Int) else numV s q) (q + numL s q) := by
          rw [numF, hq, if_neg]
          rintro (h | ⟨h, h'⟩)
          · omega
          · rcases h2' with h2' | h2'
            · rw [h] at h2'; cases h2'
            · exact h2' h'
        obtain ⟨v1, v2⟩ := numV_spec (s := s) (p := q) (by omega)
        obtain ⟨m1, m2, m3, m4⟩ := numL_bounds (s := s) (p := q) (by omega)
        refine runS_x (I := inf) (J := jnf) ⟨false, false, [], 0, 0⟩ 9999 rfl (by repeat (first | exact obs_nil | refine obs_draw (by kernel_rfl) ?_ | refine obs_same ?_ | refine obs_and ?_ | refine obs_by (by (simp [inB, blS, hql] <;> omega)) ?_)) ?_
        have hnl : numL s q = if byt s q = 48 then 1 else n := by rw [numL, hdn]
        refine runS_cut (fun τ ar => (τ 1 = .ptr 5 0 0 ∧ τ 3 = bv (isB s p 45) ∧ τ 5 = iv (numL s q)) ∧ ar = rdL o0 o1 o2 o4 s q ++ [.box 39 [.ptr 3 0 0]]) (fun rest => ?_) ?_
        · refine runS_cond rfl (fun h3 => ?_) (fun h3 => ?_)
          · have h3' : byt s q = 48 := by
              have : (((s.getD q 0).toNat : Int) == 48) = true := h3
              rw [beq_iff_eq] at this
              unfold byt
              omega
            refine runS_x (I := inf) (J := jnf) ⟨false, false, [], 2, 0⟩ 9999 rfl (by repeat (first | exact obs_nil | refine obs_draw (by kernel_rfl) ?_ | refine obs_same ?_ | refine obs_and ?_ | refine obs_by (by (simp [inB] <;> omega)) ?_)) ?_
            refine rest _ _ ⟨⟨rfl, rfl, ?_⟩, rfl⟩
            rw [hnl, if_pos h3']
            rfl
          · have h3' : ¬ byt s q = 48 := by
              have : (((s.getD q 0).toNat : Int) == 48) = false := h3
              rw [beq_eq_false_iff_ne] at this
              unfold byt
              omega
            refine runS_x (I := inf) (J := jnf) ⟨false, false, [], 2, 0⟩ 9999 rfl (by repeat (first | exact obs_nil | refine obs_draw (by kernel_rfl) ?_ | refine obs_same ?_ | refine obs_and ?_ | refine obs_by (by (simp [inB] <;> omega)) ?_)) ?_
            refine rest _ _ ⟨⟨rfl, rfl, ?_⟩, rfl⟩
            rw [hnl, if_neg h3']
            rfl
        rintro τ2 ar2 ⟨⟨g1, g3, g5⟩, rfl⟩
        refine runS_says 1 (by exact g1) (Says.refl _) ?_; refine runS_says 3 (by exact g3) (Says.refl _) ?_; refine runS_says 5 (by exact g5) (Says.refl _) ?_
        have hwm : IntKind.wrap .i64 ((q : Int) + (numL s q : Int)) = ((q + numL s q : Nat) : Int) := by rw [w64 (by omega) (by omega)]; rfl
        have hpart : part2 (q : Int) (IntKind.wrap .i64 ((q : Int) + (numL s q : Int))) s = (s.drop q).take (numL s q) := by
          rw [hwm]
          rw [part2, List.drop_take]
          congr 1
          omega
        have hat := lib_atoi ((s.drop q).take (numL s q)) (numV s q) (by rw [List.length_take]; omega) v1
        rw [← hpart] at hat
        refine runS_x (I := inf) (J := jnf) ⟨false, false, [], 0, 0⟩ 9999 rfl (by repeat (first | exact obs_nil | refine obs_draw (by kernel_rfl) ?_ | refine obs_same ?_ | refine obs_and ?_ | refine obs_by (by (simp [inB] <;> omega)) ?_)) ?_
        refine runS_draw 20 (by kernel_rfl) (lexj_x (I := inf) (J := jnf) 99 rfl rfl (by repeat (first | exact obs_nil | refine obs_same ?_ | refine obs_and ?_ | refine obs_by (by (simp [inB, blS, hwm, m3] <;> omega)) ?_)) (lexj_call rfl rfl rfl rfl rfl rfl rfl rfl hat (lexj_x (I := inf) (J := jnf) 99 rfl rfl (by repeat (first | exact obs_nil | refine obs_same ?_ | refine obs_and ?_ | refine obs_by (by (simp [inB, blS, hwm, m3] <;> omega)) ?_)) lexj_nil))) ?_
        refine runS_x (I := inf) (J := jnf) ⟨false, false, [], 0, 0⟩ 9999 rfl (by repeat (first | exact obs_nil | refine obs_draw (by kernel_rfl) ?_ | refine obs_same ?_ | refine obs_and ?_ | refine obs_by (by (simp [inB] <;> omega)) ?_)) ?_
        refine runS_cond rfl (fun h4 => ?_) (fun h4 => ?_)
        · have h4' : isB s p 45 = true := h4
          refine runS_x (I := inf) (J := jnf) ⟨false, false, [], 0, 0⟩ 9999 rfl (by repeat (first | exact obs_nil | refine obs_draw (by kernel_rfl) ?_ | refine obs_same ?_ | refine obs_and ?_ | refine obs_by (by (simp [inB] <;> omega)) ?_)) ?_
          refine runS_ret (I := inf) 5 rfl (Nat.le_refl _) rfl (by rw [hwm]; exact hk s _) rfl ?_
          rw [hnF, h4', if_pos rfl]
          refine ⟨?_, by rw [hwm]⟩
          have : IntKind.wrap .i64 (0 - (numV s q : Int)) = -(numV s q : Int) := by rw [w64 (by omega) (by omega)]; omega
          exact congrArg (fun x => Out.ret (iv x)) this
        · have h4' : isB s p 45 = false := h4
          refine runS_x (I := inf) (J := jnf) ⟨false, false, [], 0, 0⟩ 9999 rfl (by repeat (first | exact obs_nil | refine obs_draw (by kernel_rfl) ?_ | refine obs_same ?_ | refine obs_and ?_ | refine obs_by (by (simp [inB] <;> omega)) ?_)) ?_
          refine runS_ret (I := inf) 5 rfl (Nat.le_refl _) rfl (by rw [hwm]; exact hk s _) rfl ?_
          rw [hnF, h4', if_neg (by decide)]
          exact ⟨rfl, by rw [hwm]⟩
end Go.Iron.Tryd

/- The seat of ArrayTexts: the reader's dim; Parse, as a function. -/
namespace Go.Iron.Tryd
open Go.Proofs

def dimF (s : Str) (p : Nat) : Rd Dim := match numF s p with
  | .bad q r => .bad q r
  | .ok n q => if isB s q 58 then (if n = 1 then .bad q (q + 1) else match numF s (q + 1) with
    | .bad a b => .bad a b
    | .ok h r => .ok (n, h) r) else .ok (1, n) q
theorem numF_ok {s : Str} {p q : Nat} {n : Int} (h : numF s p = .ok n q) : p < q ∧ q ≤ s.length ∧ -100000 < n ∧ n < 100000 := by
  unfold numF at h
  split at h
  · cases h
  · rename_i hc
    have hd : dgN s 5 (minP s p) ≠ 0 := fun e => hc (.inl e)
    obtain ⟨m1, m2, m3, m4⟩ := numL_bounds hd
    obtain ⟨_, v2⟩ := numV_spec hd
    have hm : p ≤ minP s p := by unfold minP; split <;> omega
    injection h with h1 h2
    subst h2
    refine ⟨by omega, m3, ?_⟩
    subst h1
    split <;> omega
abbrev dmA (d : Dim) : AV := .agg [iv d.1, iv d.2]
theorem isB_lt {s : Str} {p c : Nat} (h : isB s p c = true) : p < s.length := by
  simp only [isB, Bool.and_eq_true, decide_eq_true_eq] at h
  exact h.1
theorem dimF_ok {s : Str} {p q : Nat} {d : Dim} (h : dimF s p = .ok d q) : p < q ∧ q ≤ s.length := by
  unfold dimF at h
  split at h
  · cases h
  · rename_i n q1 hn
    obtain ⟨a1, a2, _⟩ := numF_ok hn
    split at h
    · split at h
      · cases h
      · split at h
        · cases h
        · rename_i hh r hr
          obtain ⟨b1, b2, _⟩ := numF_ok hr
          injection h with h1 h2
          omega
    · injection h with h1 h2
      omega
theorem rd_dim {o0 o1 o2 o4 : AO} (hk : KeptR o0 o1 o2 o4) (s : Str) (p : Nat) (hs : s.length ≤ 900) (hp : p ≤ 940) : CallT Tryd.prog 17 [.ptr 3 0 0] (rdL o0 o1 o2 o4 s p) (rdQ o0 o1 o2 o4 s dmA (dimF s p)) := by
  have hc1 := rd_number hk s p hs (by omega)
  refine callS_body (n := 24) rfl rfl fun w ρ X => ?_
  refine runS_x (I := inf) (J := jnf) ⟨false, false, [], 0, 0⟩ 9999 rfl (by repeat (first | exact obs_nil | refine obs_draw (by kernel_rfl) ?_ | refine obs_same ?_ | refine obs_and ?_ | refine obs_by (by (simp [inB] <;> omega)) ?_)) ?_
  cases hn : numF s p with
  | bad q r =>
    rw [hn] at hc1
    refine runS_callFP (rdL o0 o1 o2 o4 s p) (rdL o0 o1 o2 o4 s r) [.box 33 [iv 0, iv 0]] rfl rfl rfl rfl rfl (show _ = [.ptr 3 0 0] from rfl) rfl (hk s p) rfl rfl hc1 ?_
    refine runS_pan 5 rfl (Nat.le_refl _) rfl (hk s r) ?_
    rw [dimF, hn]
    exact ⟨rfl, rfl⟩
  | ok n q =>
    rw [hn] at hc1
    obtain ⟨a1, a2, a3, a4⟩ := numF_ok hn
    refine runS_callF (rdL o0 o1 o2 o4 s p) (rdL o0 o1 o2 o4 s q) [.box 33 [iv 0, iv 0]] rfl rfl rfl rfl rfl (show _ = [.ptr 3 0 0] from rfl) rfl (hk s p) rfl rfl hc1 ?_
    refine runS_x (I := inf) (J := jnf) ⟨false, false, [], 0, 0⟩ 9999 rfl (by repeat (first | exact obs_nil | refine obs_draw (by kernel_rfl) ?_ | refine obs_same ?_ | refine obs_and ?_ | refine obs_by (by (simp [inB] <;> omega)) ?_)) ?_
    refine runS_callF (rdL o0 o1 o2 o4 s q) (rdL o0 o1 o2 o4 s (if isB s q 58 then q + 1 else q)) [.box 33 [iv 0, iv 0]] rfl rfl rfl rfl rfl (show _ = [.ptr 3 0 0, uv 58] from rfl) rfl (hk s q) rfl rfl (rd_is hk s q 58 (by omega) (by omega)) ?_
    refine runS_x (I := inf) (J := jnf) ⟨false, false, [], 0, 0⟩ 9999 rfl (by repeat (first | exact obs_nil | refine obs_draw (by kernel_rfl) ?_ | refine obs_same ?_ | refine obs_and ?_ | refine obs_by (by (simp [inB] <;> omega)) ?_)) ?_
    refine runS_cond rfl (fun h => ?_) (fun h => ?_)
    · have hb : isB s q 58 = true := h
      have hbl := isB_lt hb
      rw [hb]
      refine runS_x (I := inf) (J := jnf) ⟨false, false, [], 0, 0⟩ 9999 rfl (by repeat (first | exact obs_nil | refine obs_draw (by kernel_rfl) ?_ | refine obs_same ?_ | refine obs_and ?_ | refine obs_by (by (simp [inB] <;> omega)) ?_)) ?_
      refine runS_cond rfl (fun h1 => ?_) (fun h1 => ?_)
      · have h1' : n = 1 := by simpa using h1
        refine runS_x (I := inf) (J := jnf) ⟨false, false, [], 0, 0⟩ 9999 rfl (by repeat (first | exact obs_nil | refine obs_draw (by kernel_rfl) ?_ | refine obs_same ?_ | refine obs_and ?_ | refine obs_by (by (simp [inB] <;> omega)) ?_)) ?_
        refine runS_pan 5 rfl (Nat.le_refl _) rfl (hk s (q + 1)) ?_
        rw [dimF, hn]
        dsimp only
        rw [if_pos hb, if_pos h1']
        exact ⟨rfl, rfl⟩
      · have h1' : ¬ n = 1 := by simpa using h1
        have hc2 := rd_number hk s (q + 1) hs (by omega)
        refine runS_x (I := inf) (J := jnf) ⟨false, false, [], 0, 0⟩ 9999 rfl (by repeat (first | exact obs_nil | refine obs_draw (by kernel_rfl) ?_ | refine obs_same ?_ | refine obs_and ?_ | refine obs_by (by (simp [inB] <;> omega)) ?_)) ?_
        cases hn2 : numF s (q + 1) with
        | bad a b =>
          rw [hn2] at hc2
          refine runS_callFP (rdL o0 o1 o2 o4 s (q + 1)) (rdL o0 o1 o2 o4 s b) [.box 33 [iv 0, iv 0]] rfl rfl rfl rfl rfl (show _ = [.ptr 3 0 0] from rfl) rfl (hk s (q + 1)) rfl rfl hc2 ?_
          refine runS_pan 5 rfl (Nat.le_refl _) rfl (hk s b) ?_
          rw [dimF, hn]
          dsimp only
          rw [if_pos hb, if_neg h1', hn2]
          exact ⟨rfl, rfl⟩
        | ok m r =>
          rw [hn2] at hc2
          refine runS_callF (rdL o0 o1 o2 o4 s (q + 1)) (rdL o0 o1 o2 o4 s r) [.box 33 [iv 0, iv 0]] rfl rfl rfl rfl rfl (show _ = [.ptr 3 0 0] from rfl) rfl (hk s (q + 1)) rfl rfl hc2 ?_
          refine runS_x (I := inf) (J := jnf) ⟨false, false, [], 0, 0⟩ 9999 rfl (by repeat (first | exact obs_nil | refine obs_draw (by kernel_rfl) ?_ | refine obs_same ?_ | refine obs_and ?_ | refine obs_by (by (simp [inB] <;> omega)) ?_)) ?_
          refine runS_ret (I := inf) 5 rfl (Nat.le_refl _) rfl (hk s r) rfl ?_
          rw [dimF, hn]
          dsimp only
          rw [if_pos hb, if_neg h1', hn2]
          exact ⟨rfl, rfl⟩
    · have hb : isB s q 58 = false := h
      rw [hb]
      refine runS_x (I := inf) (J := jnf) ⟨false, false, [], 0, 0⟩ 9999 rfl (by repeat (first | exact obs_nil | refine obs_draw (by kernel_rfl) ?_ | refine obs_same ?_ | refine obs_and ?_ | refine obs_by (by (simp [inB] <;> omega)) ?_)) ?_
      refine runS_ret (I := inf) 5 rfl (Nat.le_refl _) rfl (hk s q) rfl ?_
      rw [dimF, hn]
      dsimp only
      rw [if_neg (by rw [hb]; decide)]
      exact ⟨rfl, rfl⟩

/-- What Parse tells: its dims, or where it is wrong. -/
inductive Pl
  | bad (q : Nat)
  | fin (ds : List Dim) (q : Nat)
def parL (s : Str) (p : Nat) (acc : List Dim) : Pl := match h : dimF s p with
  | .bad q r => .bad q
  | .ok d q => if hb : isB s q 44 = true then parL s (q + 1) (acc ++ [d]) else .fin (acc ++ [d]) q
termination_by s.length - p
decreasing_by
  have h1 := dimF_ok h
  have h2 := isB_lt hb
  omega
theorem parL_bad {s : Str} {p q r : Nat} {acc : List Dim} (h : dimF s p = .bad q r) : parL s p acc = .bad q := by
  rw [parL]
  split
  · rename_i q' r' h'
    rw [h] at h'
    cases h'
    rfl
  · rename_i d q' h'
    rw [h] at h'
    cases h'
theorem parL_ok {s : Str} {p q : Nat} {d : Dim} {acc : List Dim} (h : dimF s p = .ok d q) : parL s p acc = if isB s q 44 = true then parL s (q + 1) (acc ++ [d]) else .fin (acc ++ [d]) q := by
  rw [parL]
  split
  · rename_i q' r' h'
    rw [h] at h'
    cases h'
  · rename_i d' q' h'
    rw [h] at h'
    cases h'
    rfl
def finF (s : Str) : Pl → List Dim × Int × Int
  | .bad q => ([], q, 2)
  | .fin ds q => if isB s q 41 = true then (if q + 1 < s.length then ([], (q + 1 : Nat), 2) else if validD ds = true then (ds, 0, 0) else ([], s.length, 2)) else ([], q, 2)
def parseF (s : Str) : List Dim × Int × Int := if isB s 0 40 = true then finF s (parL s 1 []) else ([], 0, 2)
def parseA (x : List Dim × Int × Int) : AV := .tup [dimS none x.1, iv x.2.1, iv x.2.2]
end Go.Iron.Tryd

/- The seat of ArrayTexts: Parse. -/
namespace Go.Iron.Tryd
open Go.Proofs

abbrev nilD : Nat → List AV := dimR []
abbrev pc0 (n : Nat) : AO := .box 22 [.row 4 n]
abbrev pc1 : AO := .box 3 [iv 0]
abbrev pc2 : AO := .box 27 [iv 0]
abbrev rdArg : List AV := [.ptr 3 0 0]
abbrev nilAc : List Dim := []
abbrev pc4 (acc : List Dim) : AO := .row 33 2 acc.length acc.length (dimR acc)
abbrev rdP (acc : List Dim) (s : Str) (p : Nat) : List AO := rdL (pc0 acc.length) pc1 pc2 (pc4 acc) s p
theorem keptP (n : Nat) (acc : List Dim) : KeptR (pc0 n) pc1 pc2 (pc4 acc) := fun s p => .box rfl (.box rfl (.box rfl (.box rfl (.row (fun j hj => rfl) .nil))))
theorem dimR_snoc {acc : List Dim} {v : Dim} {r2 : Nat → List AV} (h : r2 0 = [iv v.1, iv v.2]) : ∀ j, j < acc.length + 1 → dimR (acc ++ [v]) j = appR acc.length (dimR acc) r2 j := fun j hj => encR_snoc (enc := fun d : Dim => [iv d.1, iv d.2]) (d := (0, 0)) (acc := acc) (v := v) h j hj
theorem a_Parse (s : Str) (hs : s.length ≤ 900) : CallT Tryd.prog 8 [sv s] [] (fun o A => o = .ret (parseA (parseF s)) ∧ A = []) := by
  refine callS_body (n := 47) rfl rfl fun w ρ X => ?_
  refine runS_x (I := inf) (J := jnf) ⟨false, false, [], 0, 0⟩ 9999 rfl (by repeat (first | exact obs_nil | refine obs_draw (by kernel_rfl) ?_ | refine obs_same ?_ | refine obs_and ?_ | refine obs_by (by (simp [inB] <;> omega)) ?_)) ?_
  refine runS_nilRowBox 0 0 33 2 nilD rfl rfl rfl rfl rfl ?_
  cases h40 : isB s 0 40 with
  | false =>
    refine runS_callFP (rdP nilAc s 0) (rdP nilAc s 0) [] rfl rfl rfl rfl rfl (show _ = [.ptr 3 0 0, uv 40] from rfl) rfl (keptP 0 [] s 0) rfl rfl (rd_mustN (keptP 0 []) s 0 40 (by omega) (by omega) h40) ?_
    refine runS_x (I := inf) (J := jnf) ⟨true, false, [15], 0, 0⟩ 9999 rfl (by repeat (first | exact obs_nil | refine obs_draw (by kernel_rfl) ?_ | refine obs_same ?_ | refine obs_and ?_ | refine obs_by (by (simp [inB] <;> omega)) ?_)) ?_
    refine runS_drawG (ch := []) (A2 := fun _ => []) 3 [2] (fun b => [.box 22 [cond (b.getD 0 false) (.val (.slice none 0 0)) (.row 4 0)], .box 3 [iv 0], .box 27 [iv 0], .box 41 [sv s, iv 0], .row 33 2 0 0 (dimR []), .box 38 [iv 0]]) none (c := 9) jnfI.draw (by kernel_rfl) rfl (lexg_g (I := inf) (J := jnf) none ⟨⟨_, rfl, (by repeat (first | exact obs_nil | refine obs_same ?_ | refine obs_and ?_ | refine obs_by (by (simp [inB] <;> omega)) ?_))⟩, (by first | exact .inl (by decide +kernel) | exact .inr ⟨_, rfl, (by repeat (first | exact obs_nil | refine obs_same ?_ | refine obs_and ?_ | refine obs_by (by (simp [inB] <;> omega)) ?_))⟩)⟩ rfl rfl rfl rfl (lexg_g (I := inf) (J := jnf) none ⟨⟨_, rfl, (by repeat (first | exact obs_nil | refine obs_same ?_ | refine obs_and ?_ | refine obs_by (by (simp [inB] <;> omega)) ?_))⟩, (by first | exact .inl (by decide +kernel) | exact .inr ⟨_, rfl, (by repeat (first | exact obs_nil | refine obs_same ?_ | refine obs_and ?_ | refine obs_by (by (simp [inB] <;> omega)) ?_))⟩)⟩ rfl rfl rfl rfl (lexg_g (I := inf) (J := jnf) (some .store) ⟨⟨_, rfl, (by repeat (first | exact obs_nil | refine obs_same ?_ | refine obs_and ?_ | refine obs_by (by (simp [inB] <;> omega)) ?_))⟩, .inl rfl⟩ rfl rfl rfl rfl lexg_nil))) rfl (fun _ => ?_) (fun h => by cases h)
    refine runS_x (I := inf) (J := jnf) ⟨true, false, [15], 0, 0⟩ 9999 rfl (by repeat (first | exact obs_nil | refine obs_draw (by kernel_rfl) ?_ | refine obs_same ?_ | refine obs_and ?_ | refine obs_by (by (simp [inB] <;> omega)) ?_)) ?_
    refine runS_saysBox 0 0 _ rfl rfl (says_nil0 (sz := 2) (r := nilD) (Nat.zero_le _)) rfl rfl ?_
    refine runS_ret (I := inf) 0 rfl (Nat.le_refl _) rfl .nil rfl ⟨?_, rfl⟩
    rw [parseF, if_neg (by rw [h40]; decide)]
    rfl
  | true =>
    refine runS_callF (rdP nilAc s 0) (rdP nilAc s 1) [] rfl rfl rfl rfl rfl (show _ = [.ptr 3 0 0, uv 40] from rfl) rfl (keptP 0 [] s 0) rfl rfl (rd_mustY (keptP 0 []) s 0 40 (by omega) (by omega) h40) ?_
    refine runS_x (I := inf) (J := jnf) ⟨false, false, [], 0, 0⟩ 9999 rfl (by repeat (first | exact obs_nil | refine obs_draw (by kernel_rfl) ?_ | refine obs_same ?_ | refine obs_and ?_ | refine obs_by (by (simp [inB] <;> omega)) ?_)) ?_
    have hF : parseF s = finF s (parL s 1 []) := by rw [parseF, if_pos h40]
    have hd1 := rd_dim (keptP 0 nilAc) s 1 hs (by omega)
    cases hd : dimF s 1 with
    | bad q r =>
      rw [hd] at hd1
      refine runS_drawG (A2 := (fun _ => rdP nilAc s r)) 4 [] (fun _ => rdP nilAc s 1) (some 2) (c := 9) jnfI.draw (by kernel_rfl) rfl (lexg_g (I := inf) (J := jnf) none ⟨_, rfl, (by repeat (first | exact obs_nil | refine obs_same ?_ | refine obs_and ?_ | refine obs_by (by (simp [inB] <;> omega)) ?_))⟩ rfl rfl rfl rfl (lexg_g (I := inf) (J := jnf) none ⟨_, rfl, (by repeat (first | exact obs_nil | refine obs_same ?_ | refine obs_and ?_ | refine obs_by (by (simp [inB] <;> omega)) ?_))⟩ rfl rfl rfl rfl (lexg_panF (rdP nilAc s 1) (rdP nilAc s r) ⟨_, rfl, rfl⟩ rfl rfl rfl rfl (show _ = rdArg from rfl) rfl (keptP 0 nilAc s 1) rfl rfl rfl hd1 (lexg_late rfl (by kernel_rfl) lexg_nil)))) rfl (fun h => by cases h) (fun _ b tt => ?_)
      refine runS_x (I := inf) (J := jnf) ⟨true, false, [15], 0, 0⟩ 9999 rfl (by repeat (first | exact obs_nil | refine obs_draw (by kernel_rfl) ?_ | refine obs_same ?_ | refine obs_and ?_ | refine obs_by (by (simp [inB] <;> omega)) ?_)) ?_
      refine runS_drawG (ch := []) (A2 := fun _ => []) 3 [2] (fun b => [.box 22 [cond (b.getD 0 false) (.val (.slice none 0 0)) (.row 4 0)], .box 3 [iv 0], .box 27 [iv 0], .box 41 [sv s, iv r], .row 33 2 0 0 (dimR []), .box 38 [iv q]]) none (c := 9) jnfI.draw (by kernel_rfl) rfl (lexg_g (I := inf) (J := jnf) none ⟨⟨_, rfl, (by repeat (first | exact obs_nil | refine obs_same ?_ | refine obs_and ?_ | refine obs_by (by (simp [inB] <;> omega)) ?_))⟩, (by first | exact .inl (by decide +kernel) | exact .inr ⟨_, rfl, (by repeat (first | exact obs_nil | refine obs_same ?_ | refine obs_and ?_ | refine obs_by (by (simp [inB] <;> omega)) ?_))⟩)⟩ rfl rfl rfl rfl (lexg_g (I := inf) (J := jnf) none ⟨⟨_, rfl, (by repeat (first | exact obs_nil | refine obs_same ?_ | refine obs_and ?_ | refine obs_by (by (simp [inB] <;> omega)) ?_))⟩, (by first | exact .inl (by decide +kernel) | exact .inr ⟨_, rfl, (by repeat (first | exact obs_nil | refine obs_same ?_ | refine obs_and ?_ | refine obs_by (by (simp [inB] <;> omega)) ?_))⟩)⟩ rfl rfl rfl rfl (lexg_g (I := inf) (J := jnf) (some .store) ⟨⟨_, rfl, (by repeat (first | exact obs_nil | refine obs_same ?_ | refine obs_and ?_ | refine obs_by (by (simp [inB] <;> omega)) ?_))⟩, .inl rfl⟩ rfl rfl rfl rfl lexg_nil))) rfl (fun _ => ?_) (fun h => by cases h)
      refine runS_x (I := inf) (J := jnf) ⟨true, false, [15], 0, 0⟩ 9999 rfl (by repeat (first | exact obs_nil | refine obs_draw (by kernel_rfl) ?_ | refine obs_same ?_ | refine obs_and ?_ | refine obs_by (by (simp [inB] <;> omega)) ?_)) ?_
      refine runS_saysBox 0 0 _ rfl rfl (says_nil0 (sz := 2) (r := nilD) (Nat.zero_le _)) rfl rfl ?_
      refine runS_ret (I := inf) 0 rfl (Nat.le_refl _) rfl .nil rfl ⟨?_, rfl⟩
      rw [hF, parL_bad hd]
      rfl
    | ok d q =>
      rw [hd] at hd1
      obtain ⟨b1, b2⟩ := dimF_ok hd
      have hpl := parL_ok (acc := []) hd
      rw [List.nil_append] at hpl
      refine runS_hole ?_
      refine runS_drawG (ch := []) (A2 := fun _ => []) 4 [2, 3] (fun b => rdP nilAc s (cond (b.getD 0 false) q 1) ++ [cond (b.getD 1 false) (.row 33 2 1 1 (chunk 2 [iv d.1, iv d.2])) .hole]) none (c := 9) jnfI.draw (by kernel_rfl) rfl (lexg_g (I := inf) (J := jnf) none ⟨⟨⟨_, rfl, (by repeat (first | exact obs_nil | refine obs_same ?_ | refine obs_and ?_ | refine obs_by (by (simp [inB] <;> omega)) ?_))⟩, (by first | exact .inl (by decide +kernel) | exact .inr ⟨_, rfl, (by repeat (first | exact obs_nil | refine obs_same ?_ | refine obs_and ?_ | refine obs_by (by (simp [inB] <;> omega)) ?_))⟩)⟩, (by first | exact .inl (by decide +kernel) | exact .inr ⟨⟨_, rfl, (by repeat (first | exact obs_nil | refine obs_same ?_ | refine obs_and ?_ | refine obs_by (by (simp [inB] <;> omega)) ?_))⟩, (by first | exact .inl (by decide +kernel) | exact .inr ⟨_, rfl, (by repeat (first | exact obs_nil | refine obs_same ?_ | refine obs_and ?_ | refine obs_by (by (simp [inB] <;> omega)) ?_))⟩)⟩)⟩ rfl rfl rfl rfl (lexg_g (I := inf) (J := jnf) none ⟨⟨⟨_, rfl, (by repeat (first | exact obs_nil | refine obs_same ?_ | refine obs_and ?_ | refine obs_by (by (simp [inB] <;> omega)) ?_))⟩, (by first | exact .inl (by decide +kernel) | exact .inr ⟨_, rfl, (by repeat (first | exact obs_nil | refine obs_same ?_ | refine obs_and ?_ | refine obs_by (by (simp [inB] <;> omega)) ?_))⟩)⟩, (by first | exact .inl (by decide +kernel) | exact .inr ⟨⟨_, rfl, (by repeat (first | exact obs_nil | refine obs_same ?_ | refine obs_and ?_ | refine obs_by (by (simp [inB] <;> omega)) ?_))⟩, (by first | exact .inl (by decide +kernel) | exact .inr ⟨_, rfl, (by repeat (first | exact obs_nil | refine obs_same ?_ | refine obs_and ?_ | refine obs_by (by (simp [inB] <;> omega)) ?_))⟩)⟩)⟩ rfl rfl rfl rfl (lexg_callF (rdP nilAc s 1) (rdP nilAc s q) ⟨⟨⟨_, rfl, rfl⟩, (by first | exact .inl (by decide +kernel) | exact .inr ⟨_, rfl, rfl⟩)⟩, .inl rfl⟩ rfl rfl rfl rfl rfl (show _ = rdArg from rfl) rfl (keptP 0 nilAc s 1) rfl rfl hd1 (lexg_g (I := inf) (J := jnf) (some (.hole 5)) ⟨⟨⟨_, rfl, (by repeat (first | exact obs_nil | refine obs_same ?_ | refine obs_and ?_ | refine obs_by (by (simp [inB] <;> omega)) ?_))⟩, .inl rfl⟩, (by first | exact .inl (by decide +kernel) | exact .inr ⟨⟨_, rfl, (by repeat (first | exact obs_nil | refine obs_same ?_ | refine obs_and ?_ | refine obs_by (by (simp [inB] <;> omega)) ?_))⟩, .inl rfl⟩)⟩ rfl rfl rfl rfl lexg_nil)))) rfl (fun _ => ?_) (fun h => by cases h)
      refine runS_x (I := inf) (J := jnf) ⟨false, false, [], 0, 0⟩ 9999 rfl (by repeat (first | exact obs_nil | refine obs_draw (by kernel_rfl) ?_ | refine obs_same ?_ | refine obs_and ?_ | refine obs_by (by (simp [inB] <;> omega)) ?_)) ?_
      refine runS_tell 4 (dimR [d]) rfl (m' := 1) rfl (dimR_snoc (acc := []) rfl) rfl ?_
      refine runS_drop 5 (Nat.zero_le _) rfl (by repeat (first | exact .nil | refine .row (fun j hj => rfl) ?_ | refine .box rfl ?_ | refine .fam (fun k j hk hj => rfl) ?_ | refine .loop (scrub_under _ _) ?_ | refine .dfr ?_ | refine .gone ?_ | refine .map (fun p hp => by (obtain ⟨k, _, rfl⟩ := List.mem_map.1 hp; rfl)) ?_)) rfl rfl rfl (by repeat (first | exact .nil | refine .cons rfl rfl rfl (scrub_under _ _) ?_)) ?_
      refine runS_while (fun (x : Nat × List Dim) τ ar => (τ 0 = sv s ∧ τ 2 = .ptr 0 0 0 ∧ τ 3 = .ptr 1 0 0 ∧ τ 4 = .ptr 2 0 0 ∧ τ 5 = .ptr 3 0 0) ∧ ar = rdP x.2 s x.1 ∧ x.1 ≤ s.length ∧ x.2.length ≤ x.1 ∧ parL s 1 [] = if isB s x.1 44 = true then parL s (x.1 + 1) x.2 else .fin x.2 x.1) (fun x => s.length - x.1) (q, [d])
        ⟨⟨rfl, rfl, rfl, rfl, rfl⟩, rfl, b2, by simp; omega, hpl⟩ ?_
      rintro ⟨p, acc⟩ τ' ar' ⟨⟨g0, g2, g3, g4, g5⟩, rfl, hp, hal, hpp⟩ ih
      dsimp only at hp hal hpp ih
      refine runS_says 0 (by exact g0) (Says.refl _) ?_; refine runS_says 2 (by exact g2) (Says.refl _) ?_; refine runS_says 3 (by exact g3) (Says.refl _) ?_; refine runS_says 4 (by exact g4) (Says.refl _) ?_; refine runS_says 5 (by exact g5) (Says.refl _) ?_
      refine runS_x (I := inf) (J := jnf) ⟨false, false, [], 0, 0⟩ 9999 rfl (by repeat (first | exact obs_nil | refine obs_draw (by kernel_rfl) ?_ | refine obs_same ?_ | refine obs_and ?_ | refine obs_by (by (simp [inB] <;> omega)) ?_)) ?_
      refine runS_callF (rdP acc s p) (rdP acc s (if isB s p 44 then p + 1 else p)) [] rfl rfl rfl rfl rfl (show _ = [.ptr 3 0 0, uv 44] from rfl) rfl (keptP acc.length acc s p) rfl rfl (rd_is (keptP acc.length acc) s p 44 (by omega) (by omega)) ?_
      refine runS_x (I := inf) (J := jnf) ⟨false, false, [], 0, 0⟩ 9999 rfl (by repeat (first | exact obs_nil | refine obs_draw (by kernel_rfl) ?_ | refine obs_same ?_ | refine obs_and ?_ | refine obs_by (by (simp [inB] <;> omega)) ?_)) ?_
      refine runS_cond rfl (fun hc => ?_) (fun hc => ?_)
      · have hb : isB s p 44 = true := hc
        have hbl := isB_lt hb
        rw [hb] at hpp ⊢
        rw [if_pos rfl] at hpp
        have hd2 := rd_dim (keptP acc.length acc) s (p + 1) hs (by omega)
        refine runS_x (I := inf) (J := jnf) ⟨false, false, [], 0, 0⟩ 9999 rfl (by repeat (first | exact obs_nil | refine obs_draw (by kernel_rfl) ?_ | refine obs_same ?_ | refine obs_and ?_ | refine obs_by (by (simp [inB] <;> omega)) ?_)) ?_
        cases hd' : dimF s (p + 1) with
        | bad q r =>
          rw [hd'] at hd2
          refine runS_drawG (A2 := (fun _ => rdP acc s r)) 4 [] (fun _ => rdP acc s (p + 1)) (some 2) (c := 9) jnfI.draw (by kernel_rfl) rfl (lexg_g (I := inf) (J := jnf) none ⟨_, rfl, (by repeat (first | exact obs_nil | refine obs_same ?_ | refine obs_and ?_ | refine obs_by (by (simp [inB] <;> omega)) ?_))⟩ rfl rfl rfl rfl (lexg_g (I := inf) (J := jnf) none ⟨_, rfl, (by repeat (first | exact obs_nil | refine obs_same ?_ | refine obs_and ?_ | refine obs_by (by (simp [inB] <;> omega)) ?_))⟩ rfl rfl rfl rfl (lexg_panF (rdP acc s (p + 1)) (rdP acc s r) ⟨_, rfl, rfl⟩ rfl rfl rfl rfl (show _ = rdArg from rfl) rfl (keptP acc.length acc s (p + 1)) rfl rfl rfl hd2 (lexg_late rfl (by kernel_rfl) lexg_nil)))) rfl (fun h => by cases h) (fun _ b tt => ?_)
          refine runS_x (I := inf) (J := jnf) ⟨true, false, [15], 0, 0⟩ 9999 rfl (by repeat (first | exact obs_nil | refine obs_draw (by kernel_rfl) ?_ | refine obs_same ?_ | refine obs_and ?_ | refine obs_by (by (simp [inB] <;> omega)) ?_)) ?_
          refine runS_drawG (ch := []) (A2 := fun _ => []) 3 [2] (fun b => [.box 22 [cond (b.getD 0 false) (.val (.slice none 0 0)) (.row 4 acc.length)], .box 3 [iv 0], .box 27 [iv 0], .box 41 [sv s, iv r], .row 33 2 acc.length acc.length (dimR acc), .box 38 [iv q]]) none (c := 9) jnfI.draw (by kernel_rfl) rfl (lexg_g (I := inf) (J := jnf) none ⟨⟨_, rfl, (by repeat (first | exact obs_nil | refine obs_same ?_ | refine obs_and ?_ | refine obs_by (by (simp [inB] <;> omega)) ?_))⟩, (by first | exact .inl (by decide +kernel) | exact .inr ⟨_, rfl, (by repeat (first | exact obs_nil | refine obs_same ?_ | refine obs_and ?_ | refine obs_by (by (simp [inB] <;> omega)) ?_))⟩)⟩ rfl rfl rfl rfl (lexg_g (I := inf) (J := jnf) none ⟨⟨_, rfl, (by repeat (first | exact obs_nil | refine obs_same ?_ | refine obs_and ?_ | refine obs_by (by (simp [inB] <;> omega)) ?_))⟩, (by first | exact .inl (by decide +kernel) | exact .inr ⟨_, rfl, (by repeat (first | exact obs_nil | refine obs_same ?_ | refine obs_and ?_ | refine obs_by (by (simp [inB] <;> omega)) ?_))⟩)⟩ rfl rfl rfl rfl (lexg_g (I := inf) (J := jnf) (some .store) ⟨⟨_, rfl, (by repeat (first | exact obs_nil | refine obs_same ?_ | refine obs_and ?_ | refine obs_by (by (simp [inB] <;> omega)) ?_))⟩, .inl rfl⟩ rfl rfl rfl rfl lexg_nil))) rfl (fun _ => ?_) (fun h => by cases h)
          refine runS_x (I := inf) (J := jnf) ⟨true, false, [15], 0, 0⟩ 9999 rfl (by repeat (first | exact obs_nil | refine obs_draw (by kernel_rfl) ?_ | refine obs_same ?_ | refine obs_and ?_ | refine obs_by (by (simp [inB] <;> omega)) ?_)) ?_
          refine runS_saysBox 0 0 _ rfl rfl (says_nil0 (sz := 2) (r := nilD) (Nat.zero_le _)) rfl rfl ?_
          refine runS_ret (I := inf) 0 rfl (Nat.le_refl _) rfl .nil rfl ⟨?_, rfl⟩
          rw [hF, hpp, parL_bad hd']
          rfl
        | ok d' q =>
          rw [hd'] at hd2
          obtain ⟨c1, c2⟩ := dimF_ok hd'
          have hpl := parL_ok (acc := acc) hd'
          refine runS_hole ?_
          refine runS_drawG (ch := []) (A2 := fun _ => []) 4 [2, 3] (fun b => rdP acc s (cond (b.getD 0 false) q (p + 1)) ++ [cond (b.getD 1 false) (.row 33 2 1 1 (chunk 2 [iv d'.1, iv d'.2])) .hole]) none (c := 9) jnfI.draw (by kernel_rfl) rfl (lexg_g (I := inf) (J := jnf) none ⟨⟨⟨_, rfl, (by repeat (first | exact obs_nil | refine obs_same ?_ | refine obs_and ?_ | refine obs_by (by (simp [inB] <;> omega)) ?_))⟩, (by first | exact .inl (by decide +kernel) | exact .inr ⟨_, rfl, (by repeat (first | exact obs_nil | refine obs_same ?_ | refine obs_and ?_ | refine obs_by (by (simp [inB] <;> omega)) ?_))⟩)⟩, (by first | exact .inl (by decide +kernel) | exact .inr ⟨⟨_, rfl, (by repeat (first | exact obs_nil | refine obs_same ?_ | refine obs_and ?_ | refine obs_by (by (simp [inB] <;> omega)) ?_))⟩, (by first | exact .inl (by decide +kernel) | exact .inr ⟨_, rfl, (by repeat (first | exact obs_nil | refine obs_same ?_ | refine obs_and ?_ | refine obs_by (by (simp [inB] <;> omega)) ?_))⟩)⟩)⟩ rfl rfl rfl rfl (lexg_g (I := inf) (J := jnf) none ⟨⟨⟨_, rfl, (by repeat (first | exact obs_nil | refine obs_same ?_ | refine obs_and ?_ | refine obs_by (by (simp [inB] <;> omega)) ?_))⟩, (by first | exact .inl (by decide +kernel) | exact .inr ⟨_, rfl, (by repeat (first | exact obs_nil | refine obs_same ?_ | refine obs_and ?_ | refine obs_by (by (simp [inB] <;> omega)) ?_))⟩)⟩, (by first | exact .inl (by decide +kernel) | exact .inr ⟨⟨_, rfl, (by repeat (first | exact obs_nil | refine obs_same ?_ | refine obs_and ?_ | refine obs_by (by (simp [inB] <;> omega)) ?_))⟩, (by first | exact .inl (by decide +kernel) | exact .inr ⟨_, rfl, (by repeat (first | exact obs_nil | refine obs_same ?_ | refine obs_and ?_ | refine obs_by (by (simp [inB] <;> omega)) ?_))⟩)⟩)⟩ rfl rfl rfl rfl (lexg_callF (rdP acc s (p + 1)) (rdP acc s q) ⟨⟨⟨_, rfl, rfl⟩, (by first | exact .inl (by decide +kernel) | exact .inr ⟨_, rfl, rfl⟩)⟩, .inl rfl⟩ rfl rfl rfl rfl rfl (show _ = rdArg from rfl) rfl (keptP acc.length acc s (p + 1)) rfl rfl hd2 (lexg_g (I := inf) (J := jnf) (some (.hole 5)) ⟨⟨⟨_, rfl, (by repeat (first | exact obs_nil | refine obs_same ?_ | refine obs_and ?_ | refine obs_by (by (simp [inB] <;> omega)) ?_))⟩, .inl rfl⟩, (by first | exact .inl (by decide +kernel) | exact .inr ⟨⟨_, rfl, (by repeat (first | exact obs_nil | refine obs_same ?_ | refine obs_and ?_ | refine obs_by (by (simp [inB] <;> omega)) ?_))⟩, .inl rfl⟩)⟩ rfl rfl rfl rfl lexg_nil)))) rfl (fun _ => ?_) (fun h => by cases h)
          refine runS_x (I := inf) (J := jnf) ⟨false, false, [], 0, 0⟩ 9999 rfl (by repeat (first | exact obs_nil | refine obs_draw (by kernel_rfl) ?_ | refine obs_same ?_ | refine obs_and ?_ | refine obs_by (by (simp [inB] <;> omega)) ?_)) ?_
          refine runS_tell 4 (dimR (acc ++ [d'])) rfl (m' := acc.length + 1) rfl (dimR_snoc rfl) rfl ?_
          refine runS_drop 5 (Nat.zero_le _) rfl (by repeat (first | exact .nil | refine .row (fun j hj => rfl) ?_ | refine .box rfl ?_ | refine .fam (fun k j hk hj => rfl) ?_ | refine .loop (scrub_under _ _) ?_ | refine .dfr ?_ | refine .gone ?_ | refine .map (fun p hp => by (obtain ⟨k, _, rfl⟩ := List.mem_map.1 hp; rfl)) ?_)) rfl rfl rfl (by repeat (first | exact .nil | refine .cons rfl rfl rfl (scrub_under _ _) ?_)) ?_
          have hl' : (acc ++ [d']).length = acc.length + 1 := by simp
          refine ih (q, acc ++ [d']) _ _ (by dsimp only; omega) ⟨⟨rfl, rfl, rfl, rfl, rfl⟩, ?_, c2, by dsimp only; omega, by rw [hpp, hpl]⟩
          unfold rdP pc4
          rw [hl']
          rfl
      · have hb : isB s p 44 = false := hc
        rw [hb] at hpp ⊢
        rw [if_neg (by decide)] at hpp
        have hF2 : parseF s = finF s (.fin acc p) := by rw [hF, hpp]
        refine runS_x (I := inf) (J := jnf) ⟨false, false, [], 0, 0⟩ 9999 rfl (by repeat (first | exact obs_nil | refine obs_draw (by kernel_rfl) ?_ | refine obs_same ?_ | refine obs_and ?_ | refine obs_by (by (simp [inB] <;> omega)) ?_)) ?_
        cases h41 : isB s p 41 with
        | false =>
          refine runS_callFP (rdP acc s p) (rdP acc s p) [] rfl rfl rfl rfl rfl (show _ = [.ptr 3 0 0, uv 41] from rfl) rfl (keptP acc.length acc s p) rfl rfl (rd_mustN (keptP acc.length acc) s p 41 (by omega) (by omega) h41) ?_
          refine runS_x (I := inf) (J := jnf) ⟨true, false, [15], 0, 0⟩ 9999 rfl (by repeat (first | exact obs_nil | refine obs_draw (by kernel_rfl) ?_ | refine obs_same ?_ | refine obs_and ?_ | refine obs_by (by (simp [inB] <;> omega)) ?_)) ?_
          refine runS_drawG (ch := []) (A2 := fun _ => []) 3 [2] (fun b => [.box 22 [cond (b.getD 0 false) (.val (.slice none 0 0)) (.row 4 acc.length)], .box 3 [iv 0], .box 27 [iv 0], .box 41 [sv s, iv p], .row 33 2 acc.length acc.length (dimR acc), .box 38 [iv p]]) none (c := 9) jnfI.draw (by kernel_rfl) rfl (lexg_g (I := inf) (J := jnf) none ⟨⟨_, rfl, (by repeat (first | exact obs_nil | refine obs_same ?_ | refine obs_and ?_ | refine obs_by (by (simp [inB] <;> omega)) ?_))⟩, (by first | exact .inl (by decide +kernel) | exact .inr ⟨_, rfl, (by repeat (first | exact obs_nil | refine obs_same ?_ | refine obs_and ?_ | refine obs_by (by (simp [inB] <;> omega)) ?_))⟩)⟩ rfl rfl rfl rfl (lexg_g (I := inf) (J := jnf) none ⟨⟨_, rfl, (by repeat (first | exact obs_nil | refine obs_same ?_ | refine obs_and ?_ | refine obs_by (by (simp [inB] <;> omega)) ?_))⟩, (by first | exact .inl (by decide +kernel) | exact .inr ⟨_, rfl, (by repeat (first | exact obs_nil | refine obs_same ?_ | refine obs_and ?_ | refine obs_by (by (simp [inB] <;> omega)) ?_))⟩)⟩ rfl rfl rfl rfl (lexg_g (I := inf) (J := jnf) (some .store) ⟨⟨_, rfl, (by repeat (first | exact obs_nil | refine obs_same ?_ | refine obs_and ?_ | refine obs_by (by (simp [inB] <;> omega)) ?_))⟩, .inl rfl⟩ rfl rfl rfl rfl lexg_nil))) rfl (fun _ => ?_) (fun h => by cases h)
          refine runS_x (I := inf) (J := jnf) ⟨true, false, [15], 0, 0⟩ 9999 rfl (by repeat (first | exact obs_nil | refine obs_draw (by kernel_rfl) ?_ | refine obs_same ?_ | refine obs_and ?_ | refine obs_by (by (simp [inB] <;> omega)) ?_)) ?_
          refine runS_saysBox 0 0 _ rfl rfl (says_nil0 (sz := 2) (r := nilD) (Nat.zero_le _)) rfl rfl ?_
          refine runS_ret (I := inf) 0 rfl (Nat.le_refl _) rfl .nil rfl ⟨?_, rfl⟩
          rw [hF2, finF, if_neg (by rw [h41]; decide)]
          rfl
        | true =>
          refine runS_callF (rdP acc s p) (rdP acc s (p + 1)) [] rfl rfl rfl rfl rfl (show _ = [.ptr 3 0 0, uv 41] from rfl) rfl (keptP acc.length acc s p) rfl rfl (rd_mustY (keptP acc.length acc) s p 41 (by omega) (by omega) h41) ?_
          refine runS_x (I := inf) (J := jnf) ⟨false, false, [], 0, 0⟩ 9999 rfl (by repeat (first | exact obs_nil | refine obs_draw (by kernel_rfl) ?_ | refine obs_same ?_ | refine obs_and ?_ | refine obs_by (by (simp [inB, blS] <;> omega)) ?_)) ?_
          refine runS_cond rfl (fun h5 => ?_) (fun h5 => ?_)
          · have h5' : p + 1 < s.length := by
              have : decide (((p + 1 : Nat) : Int) < (s.length : Int)) = true := h5
              simp only [decide_eq_true_eq] at this
              omega
            refine runS_x (I := inf) (J := jnf) ⟨false, false, [], 0, 0⟩ 9999 rfl (by repeat (first | exact obs_nil | refine obs_draw (by kernel_rfl) ?_ | refine obs_same ?_ | refine obs_and ?_ | refine obs_by (by (simp [inB] <;> omega)) ?_)) ?_
            refine runS_x (I := inf) (J := jnf) ⟨true, false, [15], 0, 0⟩ 9999 rfl (by repeat (first | exact obs_nil | refine obs_draw (by kernel_rfl) ?_ | refine obs_same ?_ | refine obs_and ?_ | refine obs_by (by (simp [inB] <;> omega)) ?_)) ?_
            refine runS_drawG (ch := []) (A2 := fun _ => []) 3 [2] (fun b => [.box 22 [cond (b.getD 0 false) (.val (.slice none 0 0)) (.row 4 acc.length)], .box 3 [iv 0], .box 27 [iv 0], .box 41 [sv s, iv ((p + 1 : Nat) : Int)], .row 33 2 acc.length acc.length (dimR acc), .box 38 [iv ((p + 1 : Nat) : Int)]]) none (c := 9) jnfI.draw (by kernel_rfl) rfl (lexg_g (I := inf) (J := jnf) none ⟨⟨_, rfl, (by repeat (first | exact obs_nil | refine obs_same ?_ | refine obs_and ?_ | refine obs_by (by (simp [inB] <;> omega)) ?_))⟩, (by first | exact .inl (by decide +kernel) | exact .inr ⟨_, rfl, (by repeat (first | exact obs_nil | refine obs_same ?_ | refine obs_and ?_ | refine obs_by (by (simp [inB] <;> omega)) ?_))⟩)⟩ rfl rfl rfl rfl (lexg_g (I := inf) (J := jnf) none ⟨⟨_, rfl, (by repeat (first | exact obs_nil | refine obs_same ?_ | refine obs_and ?_ | refine obs_by (by (simp [inB] <;> omega)) ?_))⟩, (by first | exact .inl (by decide +kernel) | exact .inr ⟨_, rfl, (by repeat (first | exact obs_nil | refine obs_same ?_ | refine obs_and ?_ | refine obs_by (by (simp [inB] <;> omega)) ?_))⟩)⟩ rfl rfl rfl rfl (lexg_g (I := inf) (J := jnf) (some .store) ⟨⟨_, rfl, (by repeat (first | exact obs_nil | refine obs_same ?_ | refine obs_and ?_ | refine obs_by (by (simp [inB] <;> omega)) ?_))⟩, .inl rfl⟩ rfl rfl rfl rfl lexg_nil))) rfl (fun _ => ?_) (fun h => by cases h)
            refine runS_x (I := inf) (J := jnf) ⟨true, false, [15], 0, 0⟩ 9999 rfl (by repeat (first | exact obs_nil | refine obs_draw (by kernel_rfl) ?_ | refine obs_same ?_ | refine obs_and ?_ | refine obs_by (by (simp [inB] <;> omega)) ?_)) ?_
            refine runS_saysBox 0 0 _ rfl rfl (says_nil0 (sz := 2) (r := nilD) (Nat.zero_le _)) rfl rfl ?_
            refine runS_ret (I := inf) 0 rfl (Nat.le_refl _) rfl .nil rfl ⟨?_, rfl⟩
            rw [hF2, finF, if_pos h41, if_pos h5']
            rfl
          · have h5' : ¬ p + 1 < s.length := by
              have : decide (((p + 1 : Nat) : Int) < (s.length : Int)) = false := h5
              simp only [decide_eq_false_iff_not] at this
              omega
            refine runS_freezeCell 0 0 rfl rfl rfl rfl (fun j hj => rfl) rfl rfl rfl ?_
            refine runS_x (I := inf) (J := jnf) ⟨false, false, [], 0, 0⟩ 9999 rfl (by repeat (first | exact obs_nil | refine obs_draw (by kernel_rfl) ?_ | refine obs_same ?_ | refine obs_and ?_ | refine obs_by (by (simp [inB] <;> omega)) ?_)) ?_
            refine runS_call rfl rfl rfl rfl rfl rfl rfl (a_Valid none acc) ?_
            refine runS_x (I := inf) (J := jnf) ⟨false, false, [], 0, 0⟩ 9999 rfl (by repeat (first | exact obs_nil | refine obs_draw (by kernel_rfl) ?_ | refine obs_same ?_ | refine obs_and ?_ | refine obs_by (by (simp [inB] <;> omega)) ?_)) ?_
            refine runS_cond rfl (fun h6 => ?_) (fun h6 => ?_)
            · have hv : validD acc = false := by simpa using h6
              refine runS_x (I := inf) (J := jnf) ⟨false, false, [], 0, 0⟩ 9999 rfl (by repeat (first | exact obs_nil | refine obs_draw (by kernel_rfl) ?_ | refine obs_same ?_ | refine obs_and ?_ | refine obs_by (by (simp [inB, blS] <;> omega)) ?_)) ?_
              refine runS_x (I := inf) (J := jnf) ⟨true, false, [15], 0, 0⟩ 9999 rfl (by repeat (first | exact obs_nil | refine obs_draw (by kernel_rfl) ?_ | refine obs_same ?_ | refine obs_and ?_ | refine obs_by (by (simp [inB] <;> omega)) ?_)) ?_
              refine runS_drawG (ch := []) (A2 := fun _ => []) 3 [2] (fun b => [.box 22 [cond (b.getD 0 false) (.val (.slice none 0 0)) (.slc 2 none acc.length (dimR acc))], .box 3 [iv 0], .box 27 [iv 0], .box 41 [sv s, iv ((p + 1 : Nat) : Int)], .gone, .box 38 [iv s.length]]) none (c := 9) jnfI.draw (by kernel_rfl) rfl (lexg_g (I := inf) (J := jnf) none ⟨⟨_, rfl, (by repeat (first | exact obs_nil | refine obs_same ?_ | refine obs_and ?_ | refine obs_by (by (simp [inB] <;> omega)) ?_))⟩, (by first | exact .inl (by decide +kernel) | exact .inr ⟨_, rfl, (by repeat (first | exact obs_nil | refine obs_same ?_ | refine obs_and ?_ | refine obs_by (by (simp [inB] <;> omega)) ?_))⟩)⟩ rfl rfl rfl rfl (lexg_g (I := inf) (J := jnf) none ⟨⟨_, rfl, (by repeat (first | exact obs_nil | refine obs_same ?_ | refine obs_and ?_ | refine obs_by (by (simp [inB] <;> omega)) ?_))⟩, (by first | exact .inl (by decide +kernel) | exact .inr ⟨_, rfl, (by repeat (first | exact obs_nil | refine obs_same ?_ | refine obs_and ?_ | refine obs_by (by (simp [inB] <;> omega)) ?_))⟩)⟩ rfl rfl rfl rfl (lexg_g (I := inf) (J := jnf) (some .store) ⟨⟨_, rfl, (by repeat (first | exact obs_nil | refine obs_same ?_ | refine obs_and ?_ | refine obs_by (by (simp [inB] <;> omega)) ?_))⟩, .inl rfl⟩ rfl rfl rfl rfl lexg_nil))) rfl (fun _ => ?_) (fun h => by cases h)
              refine runS_x (I := inf) (J := jnf) ⟨true, false, [15], 0, 0⟩ 9999 rfl (by repeat (first | exact obs_nil | refine obs_draw (by kernel_rfl) ?_ | refine obs_same ?_ | refine obs_and ?_ | refine obs_by (by (simp [inB] <;> omega)) ?_)) ?_
              refine runS_saysBox 0 0 _ rfl rfl (says_nil0 (sz := 2) (r := nilD) (Nat.zero_le _)) rfl rfl ?_
              refine runS_ret (I := inf) 0 rfl (Nat.le_refl _) rfl .nil rfl ⟨?_, rfl⟩
              rw [hF2, finF, if_pos h41, if_neg h5', if_neg (by rw [hv]; decide)]
              rfl
            · have hv : validD acc = true := by simpa using h6
              refine runS_x (I := inf) (J := jnf) ⟨true, false, [15], 0, 0⟩ 9999 rfl (by repeat (first | exact obs_nil | refine obs_draw (by kernel_rfl) ?_ | refine obs_same ?_ | refine obs_and ?_ | refine obs_by (by (simp [inB] <;> omega)) ?_)) ?_
              refine runS_ret (I := inf) 0 rfl (Nat.le_refl _) rfl .nil rfl ⟨?_, rfl⟩
              rw [hF2, finF, if_pos h41, if_neg h5', if_pos hv]
              rfl
end Go.Iron.Tryd

/- The seat of ArrayTexts: the reference's take. -/
namespace Go.Iron.Tryd
open Go.Proofs

theorem dgN_stop (s : Str) : ∀ k p, dgN s k p = k ∨ isDg s (p + dgN s k p) = false
  | 0, p => .inl rfl
  | k + 1, p => by
    unfold dgN
    split
    · rcases dgN_stop s k (p + 1) with h | h
      · exact .inl (by rw [h])
      · refine .inr ?_
        rwa [show p + 1 + dgN s k (p + 1) = p + (dgN s k (p + 1) + 1) by omega] at h
    · rename_i h
      exact .inr (by simpa using h)
theorem dgN_pos {s : Str} {p : Nat} : dgN s 5 p ≠ 0 ↔ isDg s p = true := by
  show (if isDg s p then dgN s 4 (p + 1) + 1 else 0) ≠ 0 ↔ _
  split <;> simp_all
def preV (s : Str) (p k : Nat) : Nat := decV ((s.drop p).take k)
theorem preV_succ {s : Str} {p k : Nat} (h : p + k < s.length) : preV s p (k + 1) = 10 * preV s p k + (byt s (p + k) - 48) := by
  have e : (s.drop p).take (k + 1) = (s.drop p).take k ++ [s.getD (p + k) 0] := by
    have hl : k < (s.drop p).length := by rw [List.length_drop]; omega
    rw [List.take_succ_eq_append_getElem hl]
    congr 2
    rw [List.getElem_drop, List.getD_eq_getElem?_getD, List.getElem?_eq_getElem h]
    rfl
  unfold preV decV
  rw [e, List.foldl_append]
  rfl
theorem preV_one {s : Str} {p : Nat} (h : p < s.length) : preV s p 1 = byt s p - 48 := by
  have := preV_succ (s := s) (p := p) (k := 0) h
  rw [this, show preV s p 0 = 0 from rfl]
  simp
theorem preV_pos {s : Str} {p : Nat} (hb : 48 < byt s p) : ∀ k, p + k < s.length → 1 ≤ preV s p (k + 1)
  | 0, h => by
    have h' : p < s.length := h
    rw [show (0 : Nat) + 1 = 1 from rfl, preV_one h']; omega
  | k + 1, h => by
    rw [preV_succ h]
    have := preV_pos hb k (by omega)
    omega
theorem preV_bound {s : Str} {p k : Nat} (hk : k ≤ 5) (hl : p + k ≤ s.length) (h : ∀ j, j < k → isDg s (p + j) = true) : preV s p k < 100000 := by
  have hb : ∀ b ∈ (s.drop p).take k, b.toNat ≤ 57 := fun b hb => by
    obtain ⟨j, hj⟩ := List.mem_iff_getElem?.1 hb
    have hjl := (List.getElem?_eq_some_iff.1 hj).1
    rw [List.length_take, List.length_drop] at hjl
    rw [part_get hl (by omega)] at hj
    have hd := h j (by omega)
    simp only [isDg, Bool.and_eq_true, decide_eq_true_eq] at hd
    have hbb : byt s (p + j) = b.toNat := congrArg UInt8.toNat (Option.some.inj hj)
    omega
  have := dec_bound ((s.drop p).take k) 0 hb
  have hlen : ((s.drop p).take k).length ≤ 5 := by rw [List.length_take]; omega
  have h10 : 10 ^ ((s.drop p).take k).length ≤ 10 ^ 5 := Nat.pow_le_pow_right (by decide) hlen
  have e : preV s p k = ((s.drop p).take k).foldl (fun a b => 10 * a + (b.toNat - 48)) 0 := rfl
  omega
def takeF (s : Str) (i : Nat) : Int × Int × Int := match numF s i with
  | .bad q _ => (0, 0, q)
  | .ok n q => (n, q, -1)
theorem ref_Digit (c : Int) : CallT Tryd.prog 27 [.val (.int .u8 c)] [] (fun o A => o = .ret (bv (decide (48 ≤ c) && decide (c ≤ 57))) ∧ A = []) := by
  refine callS_body (n := 9) rfl rfl fun w ρ X => ?_
  refine runS_x (I := inf) (J := jnf) ⟨false, false, [], 0, 0⟩ 9999 rfl (by repeat (first | exact obs_nil | refine obs_draw (by kernel_rfl) ?_ | refine obs_same ?_ | refine obs_and ?_ | refine obs_by (by (simp [inB] <;> omega)) ?_)) ?_
  refine runS_ret (I := inf) 0 rfl (Nat.le_refl _) rfl .nil rfl ⟨?_, rfl⟩
  refine congrArg (fun b => Out.ret (bv b)) ?_
  rw [Bool.eq_iff_iff]
  simp
theorem ref_take (s : Str) (i : Nat) (hs : s.length ≤ 900) (hi : i ≤ 950) : CallT Tryd.prog 20 [sv s, iv i] [] (fun o A => o = .ret (.tup [iv (takeF s i).1, iv (takeF s i).2.1, iv (takeF s i).2.2]) ∧ A = []) := by
  refine callS_body (n := 87) rfl rfl fun w ρ X => ?_
  refine runS_x (I := inf) (J := jnf) ⟨false, false, [], 0, 0⟩ 9999 rfl (by repeat (first | exact obs_nil | refine obs_draw (by kernel_rfl) ?_ | refine obs_same ?_ | refine obs_and ?_ | refine obs_by (by (simp [inB, blS] <;> omega)) ?_)) ?_
  have hw1 : IntKind.wrap .i64 ((i : Int) + 1) = ((i + 1 : Nat) : Int) := by rw [w64 (by omega) (by omega)]; rfl
  have hmi := isB_int s i 45
  refine runS_cut (fun τ ar => (τ 0 = sv s ∧ τ 1 = iv (minP s i) ∧ τ 7 = bv (isB s i 45)) ∧ ar = []) (fun rest => ?_) ?_
  · refine runS_cond rfl (fun h => ?_) (fun h => ?_)
    · have hb : isB s i 45 = true := hmi.symm.trans h
      refine runS_x (I := inf) (J := jnf) ⟨false, false, [], 2, 0⟩ 9999 rfl (by repeat (first | exact obs_nil | refine obs_draw (by kernel_rfl) ?_ | refine obs_same ?_ | refine obs_and ?_ | refine obs_by (by (simp [inB] <;> omega)) ?_)) ?_
      refine rest _ _ ⟨⟨rfl, ?_, ?_⟩, rfl⟩
      · have hmq : minP s i = i + 1 := by rw [minP, hb, if_pos rfl]
        rw [hmq]
        exact congrArg iv hw1
      · exact congrArg bv hmi
    · have hb : isB s i 45 = false := hmi.symm.trans h
      refine runS_x (I := inf) (J := jnf) ⟨false, false, [], 2, 0⟩ 9999 rfl (by repeat (first | exact obs_nil | refine obs_draw (by kernel_rfl) ?_ | refine obs_same ?_ | refine obs_and ?_ | refine obs_by (by (simp [inB] <;> omega)) ?_)) ?_
      refine rest _ _ ⟨⟨rfl, ?_, ?_⟩, rfl⟩
      · have hmq : minP s i = i := by rw [minP, hb, if_neg (by decide)]
        rw [hmq]
        rfl
      · exact congrArg bv hmi
  rintro τ1 ar1 ⟨⟨g0, g1, g7⟩, rfl⟩
  refine runS_says 0 (by exact g0) (Says.refl _) ?_; refine runS_says 1 (by exact g1) (Says.refl _) ?_; refine runS_says 7 (by exact g7) (Says.refl _) ?_
  have hmp : minP s i ≤ i + 1 := by unfold minP; split <;> omega
  generalize hq : minP s i = q at *
  refine runS_x (I := inf) (J := jnf) ⟨false, false, [], 0, 0⟩ 9999 rfl (by repeat (first | exact obs_nil | refine obs_draw (by kernel_rfl) ?_ | refine obs_same ?_ | refine obs_and ?_ | refine obs_by (by (simp [inB, blS] <;> omega)) ?_)) ?_
  refine runS_callU rfl rfl (by first | exact .v rfl rfl rfl rfl | exact .o rfl rfl rfl rfl) rfl rfl (by repeat (first | exact .nil | refine .cons (.n rfl) ?_ | refine .cons .o ?_ | refine .cons gok_and ?_)) rfl rfl rfl rfl rfl (fun _ => (ref_Digit _)) ?_
  refine runS_x (I := inf) (J := jnf) ⟨false, false, [], 0, 0⟩ 9999 rfl (by repeat (first | exact obs_nil | refine obs_draw (by kernel_rfl) ?_ | refine obs_same ?_ | refine obs_and ?_ | refine obs_by (by (simp [inB, blS] <;> omega)) ?_)) ?_
  have hcd : (if (if decide ((q : Int) ≥ (s.length : Int)) = true then true else !(decide (48 ≤ ((s.getD q 0).toNat : Int)) && decide (((s.getD q 0).toNat : Int) ≤ 57))) = true then true else (if isB s i 45 = true then (((s.getD q 0).toNat : Int) == 48) else false)) = (!isDg s q || (isB s i 45 && byt s q == 48)) := by
    unfold isDg byt
    rw [Bool.eq_iff_iff]
    cases isB s i 45 <;> simp [-List.getD_eq_getElem?_getD] <;> omega
  refine runS_cond rfl (fun h => ?_) (fun h => ?_)
  · have hb := hcd.symm.trans h
    refine runS_x (I := inf) (J := jnf) ⟨false, false, [], 0, 0⟩ 9999 rfl (by repeat (first | exact obs_nil | refine obs_draw (by kernel_rfl) ?_ | refine obs_same ?_ | refine obs_and ?_ | refine obs_by (by (simp [inB] <;> omega)) ?_)) ?_
    refine runS_ret (I := inf) 0 rfl (Nat.le_refl _) rfl .nil rfl ⟨?_, rfl⟩
    have hbad : numF s i = .bad q q := by
      rw [numF, hq, if_pos]
      rw [Bool.or_eq_true, Bool.and_eq_true, beq_iff_eq] at hb
      rcases hb with hb | hb
      · left
        by_cases h0 : dgN s 5 q = 0
        · exact h0
        · have h1 := dgN_pos.1 (show dgN s 5 q ≠ 0 from h0)
          rw [h1] at hb
          cases hb
      · exact .inr hb
    rw [takeF, hbad]
    rfl
  have hb : isDg s q = true ∧ ¬ (isB s i 45 = true ∧ byt s q = 48) := by
    have := hcd.symm.trans h
    rw [Bool.or_eq_false_iff, Bool.and_eq_false_iff, beq_eq_false_iff_ne] at this
    refine ⟨by simpa using this.1, fun ⟨x, y⟩ => ?_⟩
    rcases this.2 with z | z
    · rw [x] at z; cases z
    · exact z y
  have hdn : dgN s 5 q ≠ 0 := dgN_pos.2 hb.1
  have hql := isDg_lt hb.1
  obtain ⟨m1, m2, m3, m4⟩ := numL_bounds hdn
  have hok : numF s i = .ok (if isB s i 45 then -(numV s q : Int) else numV s q) (q + numL s q) := by
    rw [numF, hq, if_neg]
    rintro (h | h)
    · exact hdn h
    · exact hb.2 h
  have hu8 : ∀ {p : Nat}, isDg s p = true → IntKind.wrap .i64 (IntKind.wrap .u8 (((s.getD p 0).toNat : Int) - 48)) = ((byt s p - 48 : Nat) : Int) := fun {p} hp => by
    simp only [isDg, Bool.and_eq_true, decide_eq_true_eq] at hp
    unfold byt at hp ⊢
    rw [show IntKind.wrap .u8 (((s.getD p 0).toNat : Int) - 48) = ((s.getD p 0).toNat : Int) - 48 from IntWalk.u8_in _ (by omega), w64 (by omega) (by omega)]
    omega
  refine runS_x (I := inf) (J := jnf) ⟨false, false, [], 0, 0⟩ 9999 rfl (by repeat (first | exact obs_nil | refine obs_draw (by kernel_rfl) ?_ | refine obs_same ?_ | refine obs_and ?_ | refine obs_by (by (simp [inB, blS, hql] <;> omega)) ?_)) ?_
  refine runS_says 8 (show _ = iv (preV s q 1 : Nat) from by rw [preV_one hql]; exact congrArg iv (hu8 hb.1)) (Says.refl _) ?_
  have hwq : IntKind.wrap .i64 ((q : Int) + 1) = ((q + 1 : Nat) : Int) := by rw [w64 (by omega) (by omega)]; rfl
  refine runS_while (fun (p : Nat) τ ar => (τ 0 = sv s ∧ τ 1 = iv p ∧ τ 7 = bv (isB s i 45) ∧ τ 8 = iv (preV s q (p - q) : Nat) ∧ τ 9 = iv q) ∧ ar = [] ∧ q + 1 ≤ p ∧ p ≤ q + numL s q) (fun p => q + 5 - p) (q + 1) ⟨⟨rfl, congrArg iv hwq, rfl, by rw [show q + 1 - q = 1 by omega]; rfl, rfl⟩, rfl, Nat.le_refl _, by omega⟩ ?_
  rintro p τ' ar' ⟨⟨g0, g1, g7, g8, g9⟩, rfl, hk1, hk2⟩ ih
  refine runS_says 0 (by exact g0) (Says.refl _) ?_; refine runS_says 1 (by exact g1) (Says.refl _) ?_; refine runS_says 7 (by exact g7) (Says.refl _) ?_; refine runS_says 8 (by exact g8) (Says.refl _) ?_; refine runS_says 9 (by exact g9) (Says.refl _) ?_
  have hpb := preV_bound (s := s) (p := q) (k := p - q) (by omega) (by omega) (fun j hj => m4 j (by omega))
  have hsub : IntKind.wrap .i64 ((p : Int) - (q : Int)) = ((p - q : Nat) : Int) := by rw [w64 (by omega) (by omega)]; omega
  generalize hv : preV s q (p - q) = v at *
  refine runS_x (I := inf) (J := jnf) ⟨false, false, [], 0, 0⟩ 9999 rfl (by repeat (first | exact obs_nil | refine obs_draw (by kernel_rfl) ?_ | refine obs_same ?_ | refine obs_and ?_ | refine obs_by (by (simp [inB, blS] <;> omega)) ?_)) ?_
  refine runS_callU rfl rfl (by first | exact .v rfl rfl rfl rfl | exact .o rfl rfl rfl rfl) rfl rfl (by repeat (first | exact .nil | refine .cons (.n rfl) ?_ | refine .cons .o ?_ | refine .cons gok_and ?_)) rfl rfl rfl rfl rfl (fun _ => (ref_Digit _)) ?_
  refine runS_x (I := inf) (J := jnf) ⟨false, false, [], 0, 0⟩ 9999 rfl (by repeat (first | exact obs_nil | refine obs_draw (by kernel_rfl) ?_ | refine obs_same ?_ | refine obs_and ?_ | refine obs_by (by (simp [inB, blS] <;> omega)) ?_)) ?_
  have hcd2 : (if (if (if decide ((v : Int) > 0) = true then decide ((p : Int) < (s.length : Int)) else false) = true then (decide (48 ≤ ((s.getD p 0).toNat : Int)) && decide (((s.getD p 0).toNat : Int) ≤ 57)) else false) = true then decide (IntKind.wrap .i64 ((p : Int) - (q : Int)) < 5) else false) = (decide (0 < v) && isDg s p && decide (p - q < 5)) := by
    rw [hsub]
    unfold isDg byt
    rw [Bool.eq_iff_iff]
    simp [-List.getD_eq_getElem?_getD]
    omega
  have hqp : q + (p - q) = p := by omega
  refine runS_cond rfl (fun h => ?_) (fun h => ?_)
  · have hc := hcd2.symm.trans h
    simp only [Bool.and_eq_true, decide_eq_true_eq] at hc
    obtain ⟨⟨hv0, hdp⟩, hk5⟩ := hc
    have hpl := isDg_lt hdp
    have hne : ¬ byt s q = 48 := fun e => by
      have : numL s q = 1 := by rw [numL, if_pos e]
      have hp1 : p = q + 1 := by omega
      rw [hp1, show q + 1 - q = 1 by omega, preV_one hql, e] at hv
      omega
    have hnl : numL s q = dgN s 5 q := by rw [numL, if_neg hne]
    have hlt : p - q < numL s q := by
      rcases Nat.lt_or_ge (p - q) (numL s q) with h1 | h1
      · exact h1
      · have he : p - q = dgN s 5 q := by omega
        rcases dgN_stop s 5 q with h2 | h2
        · omega
        · rw [← he, hqp, hdp] at h2
          cases h2
    refine runS_x (I := inf) (J := jnf) ⟨false, false, [], 0, 0⟩ 9999 rfl (by repeat (first | exact obs_nil | refine obs_draw (by kernel_rfl) ?_ | refine obs_same ?_ | refine obs_and ?_ | refine obs_by (by (simp [inB, blS, hpl] <;> omega)) ?_)) ?_
    have hw2 : IntKind.wrap .i64 ((p : Int) + 1) = ((p + 1 : Nat) : Int) := by rw [w64 (by omega) (by omega)]; rfl
    refine ih (p + 1) _ _ (by omega) ⟨⟨rfl, congrArg iv hw2, rfl, ?_, rfl⟩, rfl, by omega, by omega⟩
    rw [show p + 1 - q = (p - q) + 1 by omega, preV_succ (by omega), hv, hqp]
    have hd := hu8 hdp
    have hdb : byt s p ≤ 57 := by simp only [isDg, Bool.and_eq_true, decide_eq_true_eq] at hdp; exact hdp.2
    show iv (IntKind.wrap .i64 (IntKind.wrap .i64 (10 * (v : Int)) + IntKind.wrap .i64 (IntKind.wrap .u8 (((s.getD p 0).toNat : Int) - 48)))) = _
    rw [hd, w64 (x := 10 * (v : Int)) (by omega) (by omega), w64 (by omega) (by omega)]
    rfl
  · have hc := hcd2.symm.trans h
    have hfin : p - q = numL s q := by
      rcases Nat.lt_or_ge (p - q) (numL s q) with h1 | h1
      · exfalso
        have hne : ¬ byt s q = 48 := fun e => by
          have : numL s q = 1 := by rw [numL, if_pos e]
          omega
        have hdq := hb.1
        simp only [isDg, Bool.and_eq_true, decide_eq_true_eq] at hdq
        have hdp : isDg s p = true := by have := m4 (p - q) h1; rwa [hqp] at this
        have hv0 : 1 ≤ v := by
          have := preV_pos (s := s) (p := q) (by omega) (p - q - 1) (by omega)
          rw [show p - q - 1 + 1 = p - q by omega, hv] at this
          exact this
        rw [hdp] at hc
        simp at hc
        omega
      · omega
    have hvv : numV s q = v := by rw [← hv, hfin]; rfl
    have hpq : p = q + numL s q := by omega
    refine runS_x (I := inf) (J := jnf) ⟨false, false, [], 0, 0⟩ 9999 rfl (by repeat (first | exact obs_nil | refine obs_draw (by kernel_rfl) ?_ | refine obs_same ?_ | refine obs_and ?_ | refine obs_by (by (simp [inB] <;> omega)) ?_)) ?_
    refine runS_cond rfl (fun h4 => ?_) (fun h4 => ?_)
    · have h4' : isB s i 45 = true := h4
      refine runS_x (I := inf) (J := jnf) ⟨false, false, [], 0, 0⟩ 9999 rfl (by repeat (first | exact obs_nil | refine obs_draw (by kernel_rfl) ?_ | refine obs_same ?_ | refine obs_and ?_ | refine obs_by (by (simp [inB] <;> omega)) ?_)) ?_
      refine runS_ret (I := inf) 0 rfl (Nat.le_refl _) rfl .nil rfl ⟨?_, rfl⟩
      have hw3 : IntKind.wrap .i64 (0 - (v : Int)) = -(v : Int) := by rw [w64 (by omega) (by omega)]; omega
      rw [takeF, hok]
      dsimp only
      rw [h4', if_pos rfl, hvv, ← hpq]
      exact congrArg (fun x => Out.ret (.tup [iv x, iv p, iv (-1)])) hw3
    · have h4' : isB s i 45 = false := h4
      refine runS_x (I := inf) (J := jnf) ⟨false, false, [], 0, 0⟩ 9999 rfl (by repeat (first | exact obs_nil | refine obs_draw (by kernel_rfl) ?_ | refine obs_same ?_ | refine obs_and ?_ | refine obs_by (by (simp [inB] <;> omega)) ?_)) ?_
      refine runS_ret (I := inf) 0 rfl (Nat.le_refl _) rfl .nil rfl ⟨?_, rfl⟩
      rw [takeF, hok]
      dsimp only
      rw [h4', if_neg (by decide), hvv, ← hpq]
      rfl
end Go.Iron.Tryd

/- The seat of ArrayTexts: the reference's Parse. -/
namespace Go.Iron.Tryd
open Go.Proofs

theorem emptyB (s : Str) : ((bs s).toList == ({ data := #[] } : ByteArray).toList) = decide (s.length = 0) := by
  show ((bs s).toList == (bs []).toList) = _
  rw [bs_toList, bs_toList]
  cases s <;> rfl
theorem finB {s : Str} {q : Nat} (h : isB s q 58 = true) : isB s q 41 = false ∧ isB s q 44 = false := by
  simp only [isB, Bool.and_eq_true, decide_eq_true_eq, beq_iff_eq] at h
  unfold isB
  rw [h.2]
  simp
theorem take_bad {s : Str} {p q r : Nat} (h : numF s p = .bad q r) : takeF s p = (0, 0, (q : Int)) := by rw [takeF, h]
theorem take_ok {s : Str} {p q : Nat} {n : Int} (h : numF s p = .ok n q) : takeF s p = (n, (q : Int), -1) := by rw [takeF, h]
theorem ref_Parse (s : Str) (hs : s.length ≤ 900) : CallT Tryd.prog 9 [sv s] [] (fun o A => o = .ret (parseA (parseF s)) ∧ A = []) := by
  by_cases hs0 : s.length = 0
  · have : s = [] := List.eq_nil_of_length_eq_zero hs0
    subst this
    have hE : ((bs []).toList == ({ data := #[] } : ByteArray).toList) = true := by rw [emptyB]; rfl
    refine callS_body (n := 100) rfl rfl fun w ρ X => ?_
    refine runS_x (I := inf) (J := jnf) ⟨false, false, [], 0, 0⟩ 9999 rfl (by repeat (first | exact obs_nil | refine obs_draw (by kernel_rfl) ?_ | refine obs_same ?_ | refine obs_and ?_ | refine obs_by (by (simp [inB, blS, bs_toList] <;> omega)) ?_)) ?_
    refine runS_cond rfl (fun h => ?_) (fun h => ?_)
    · refine runS_x (I := inf) (J := jnf) ⟨false, false, [], 0, 0⟩ 9999 rfl (by repeat (first | exact obs_nil | refine obs_draw (by kernel_rfl) ?_ | refine obs_same ?_ | refine obs_and ?_ | refine obs_by (by (simp [inB] <;> omega)) ?_)) ?_
      refine runS_says 2 rfl (says_nil0 (sz := 2) (r := nilD) (Nat.zero_le _)) ?_
      refine runS_ret (I := inf) 0 rfl (Nat.le_refl _) rfl .nil rfl ⟨?_, rfl⟩
      rfl
    · exfalso
      have h' : (if ((bs []).toList == ({ data := #[] } : ByteArray).toList) = true then true else ((([] : Str).getD 0 0).toNat : Int) != 40) = false := h
      rw [hE] at h'
      cases h'
  refine callS_body (n := 100) rfl rfl fun w ρ X => ?_
  refine runS_x (I := inf) (J := jnf) ⟨false, false, [], 0, 0⟩ 9999 rfl (by repeat (first | exact obs_nil | refine obs_draw (by kernel_rfl) ?_ | refine obs_same ?_ | refine obs_and ?_ | refine obs_by (by (simp [inB, blS] <;> omega)) ?_)) ?_
  have hc0 : (if ((bs s).toList == ({ data := #[] } : ByteArray).toList) = true then true else (((s.getD 0 0).toNat : Int) != 40)) = !isB s 0 40 := by
    rw [emptyB]
    unfold isB byt
    rw [Bool.eq_iff_iff]
    by_cases h0 : s.length = 0
    · simp [h0]
    · simp [h0, -List.getD_eq_getElem?_getD, -List.length_eq_zero_iff]; omega
  refine runS_cond rfl (fun h => ?_) (fun h => ?_)
  · have h40 : isB s 0 40 = false := by have := hc0.symm.trans h; simpa using this
    refine runS_x (I := inf) (J := jnf) ⟨false, false, [], 0, 0⟩ 9999 rfl (by repeat (first | exact obs_nil | refine obs_draw (by kernel_rfl) ?_ | refine obs_same ?_ | refine obs_and ?_ | refine obs_by (by (simp [inB] <;> omega)) ?_)) ?_
    refine runS_says 2 rfl (says_nil0 (sz := 2) (r := nilD) (Nat.zero_le _)) ?_
    refine runS_ret (I := inf) 0 rfl (Nat.le_refl _) rfl .nil rfl ⟨?_, rfl⟩
    rw [parseF, if_neg (by rw [h40]; decide)]
    rfl
  have h40 : isB s 0 40 = true := by have := hc0.symm.trans h; simpa using this
  have hF : parseF s = finF s (parL s 1 []) := by rw [parseF, if_pos h40]
  refine runS_x (I := inf) (J := jnf) ⟨false, false, [], 0, 0⟩ 9999 rfl (by repeat (first | exact obs_nil | refine obs_draw (by kernel_rfl) ?_ | refine obs_same ?_ | refine obs_and ?_ | refine obs_by (by (simp [inB] <;> omega)) ?_)) ?_
  refine runS_nilRow 5 33 2 nilD rfl rfl ?_
  refine runS_while (fun (x : Nat × List Dim) τ ar => (τ 0 = sv s ∧ τ 5 = .row 0 x.2.length ∧ τ 6 = iv x.1) ∧ ar = [.row 33 2 x.2.length x.2.length (dimR x.2)] ∧ x.1 ≤ s.length ∧ x.2.length ≤ x.1 ∧ parL s 1 [] = parL s x.1 x.2) (fun x => s.length + 1 - x.1) (1, [])
    ⟨⟨rfl, rfl, rfl⟩, rfl, by have := isB_lt h40; omega, Nat.zero_le _, rfl⟩ ?_
  rintro ⟨p, acc⟩ τ' ar' ⟨⟨g0, g5, g6⟩, rfl, hp, hal, hpp⟩ ih
  dsimp only at hp hal hpp ih
  refine runS_says 0 (by exact g0) (Says.refl _) ?_; refine runS_says 5 (by exact g5) (Says.refl _) ?_; refine runS_says 6 (by exact g6) (Says.refl _) ?_
  have hcall := ref_take s p hs (by omega)
  refine runS_x (I := inf) (J := jnf) ⟨false, false, [], 0, 0⟩ 9999 rfl (by repeat (first | exact obs_nil | refine obs_draw (by kernel_rfl) ?_ | refine obs_same ?_ | refine obs_and ?_ | refine obs_by (by (simp [inB] <;> omega)) ?_)) ?_
  cases hn : numF s p with
  | bad q r =>
    rw [take_bad hn] at hcall
    refine runS_call rfl rfl rfl rfl rfl rfl rfl hcall ?_
    refine runS_x (I := inf) (J := jnf) ⟨false, false, [], 0, 0⟩ 9999 rfl (by repeat (first | exact obs_nil | refine obs_draw (by kernel_rfl) ?_ | refine obs_same ?_ | refine obs_and ?_ | refine obs_by (by (simp [inB] <;> omega)) ?_)) ?_
    refine runS_cond rfl (fun h1 => ?_) (fun h1 => ?_)
    · refine runS_x (I := inf) (J := jnf) ⟨false, false, [], 0, 0⟩ 9999 rfl (by repeat (first | exact obs_nil | refine obs_draw (by kernel_rfl) ?_ | refine obs_same ?_ | refine obs_and ?_ | refine obs_by (by (simp [inB] <;> omega)) ?_)) ?_
      refine runS_says 2 rfl (says_nil0 (sz := 2) (r := nilD) (Nat.zero_le _)) ?_
      refine runS_ret (I := inf) 0 rfl (Nat.le_refl _) rfl .nil rfl ⟨?_, rfl⟩
      rw [hF, hpp, parL_bad (r := r) (by rw [dimF, hn])]
      rfl
    · exfalso
      simp at h1
  | ok n q =>
    obtain ⟨a1, a2, a3, a4⟩ := numF_ok hn
    rw [take_ok hn] at hcall
    refine runS_call rfl rfl rfl rfl rfl rfl rfl hcall ?_
    refine runS_x (I := inf) (J := jnf) ⟨false, false, [], 0, 0⟩ 9999 rfl (by repeat (first | exact obs_nil | refine obs_draw (by kernel_rfl) ?_ | refine obs_same ?_ | refine obs_and ?_ | refine obs_by (by (simp [inB] <;> omega)) ?_)) ?_
    refine runS_cond rfl (fun h1 => ?_) (fun h1 => ?_)
    · exfalso
      simp at h1
    refine runS_x (I := inf) (J := jnf) ⟨false, false, [], 0, 0⟩ 9999 rfl (by repeat (first | exact obs_nil | refine obs_draw (by kernel_rfl) ?_ | refine obs_same ?_ | refine obs_and ?_ | refine obs_by (by (simp [inB, blS] <;> omega)) ?_)) ?_
    have hq := isB_int s q 58
    have hcx : (if (if decide ((q : Int) < (s.length : Int)) = true then (((s.getD q 0).toNat : Int) == 58) else false) = true then n != 1 else false) = (isB s q 58 && n != 1) := by
      rw [show ((58 : Int)) = ((58 : Nat) : Int) from rfl, hq]
      cases isB s q 58 <;> rfl
    refine runS_cut (fun τ ar => ∃ (d : Dim) (r : Nat), (τ 0 = sv s ∧ τ 5 = .row 0 acc.length ∧ τ 6 = iv r ∧ τ 10 = .ptr 1 0 0) ∧ ar = [.row 33 2 acc.length acc.length (dimR acc), .box 33 [iv d.1, iv d.2]] ∧ p < r ∧ r ≤ s.length ∧ (dimF s p = .ok d r ∨ (dimF s p = .bad r (r + 1) ∧ isB s r 58 = true))) (fun rest => ?_) ?_
    · refine runS_cond rfl (fun h2 => ?_) (fun h2 => ?_)
      · have hb := hcx.symm.trans h2
        rw [Bool.and_eq_true] at hb
        obtain ⟨hb1, hb2⟩ := hb
        have hn1 : ¬ n = 1 := by simpa using hb2
        have hql := isB_lt hb1
        have hw1 : IntKind.wrap .i64 ((q : Int) + 1) = ((q + 1 : Nat) : Int) := by rw [w64 (by omega) (by omega)]; rfl
        have hcall2 := ref_take s (q + 1) hs (by omega)
        refine runS_x (I := inf) (J := jnf) ⟨false, false, [], 6, 0⟩ 9999 rfl (by repeat (first | exact obs_nil | refine obs_draw (by kernel_rfl) ?_ | refine obs_same ?_ | refine obs_and ?_ | refine obs_by (by (simp [inB] <;> omega)) ?_)) ?_
        refine runS_says 50 (show _ = iv (q + 1 : Nat) from congrArg iv hw1) (Says.refl _) ?_
        cases hn2 : numF s (q + 1) with
        | bad a b =>
          rw [take_bad hn2] at hcall2
          refine runS_call rfl rfl rfl rfl rfl rfl rfl hcall2 ?_
          refine runS_x (I := inf) (J := jnf) ⟨false, false, [], 0, 0⟩ 9999 rfl (by repeat (first | exact obs_nil | refine obs_draw (by kernel_rfl) ?_ | refine obs_same ?_ | refine obs_and ?_ | refine obs_by (by (simp [inB] <;> omega)) ?_)) ?_
          refine runS_cond rfl (fun h3 => ?_) (fun h3 => ?_)
          · refine runS_x (I := inf) (J := jnf) ⟨false, false, [], 0, 0⟩ 9999 rfl (by repeat (first | exact obs_nil | refine obs_draw (by kernel_rfl) ?_ | refine obs_same ?_ | refine obs_and ?_ | refine obs_by (by (simp [inB] <;> omega)) ?_)) ?_
            refine runS_says 2 rfl (says_nil0 (sz := 2) (r := nilD) (Nat.zero_le _)) ?_
            refine runS_ret (I := inf) 0 rfl (Nat.le_refl _) rfl .nil rfl ⟨?_, rfl⟩
            rw [hF, hpp, parL_bad (q := a) (r := b) (by rw [dimF, hn]; dsimp only; rw [if_pos hb1, if_neg hn1, hn2])]
            rfl
          · exfalso
            simp at h3
        | ok m r =>
          obtain ⟨c1, c2, c3, c4⟩ := numF_ok hn2
          rw [take_ok hn2] at hcall2
          refine runS_call rfl rfl rfl rfl rfl rfl rfl hcall2 ?_
          refine runS_x (I := inf) (J := jnf) ⟨false, false, [], 0, 0⟩ 9999 rfl (by repeat (first | exact obs_nil | refine obs_draw (by kernel_rfl) ?_ | refine obs_same ?_ | refine obs_and ?_ | refine obs_by (by (simp [inB] <;> omega)) ?_)) ?_
          refine runS_cond rfl (fun h3 => ?_) (fun h3 => ?_)
          · exfalso
            simp at h3
          · refine runS_x (I := inf) (J := jnf) ⟨false, false, [], 6, 0⟩ 9999 rfl (by repeat (first | exact obs_nil | refine obs_draw (by kernel_rfl) ?_ | refine obs_same ?_ | refine obs_and ?_ | refine obs_by (by (simp [inB] <;> omega)) ?_)) ?_
            refine rest _ _ ⟨(n, m), r, ⟨rfl, rfl, rfl, rfl⟩, rfl, by omega, c2, .inl (by rw [dimF, hn]; dsimp only; rw [if_pos hb1, if_neg hn1, hn2])⟩
      · have hb := hcx.symm.trans h2
        refine runS_x (I := inf) (J := jnf) ⟨false, false, [], 6, 0⟩ 9999 rfl (by repeat (first | exact obs_nil | refine obs_draw (by kernel_rfl) ?_ | refine obs_same ?_ | refine obs_and ?_ | refine obs_by (by (simp [inB] <;> omega)) ?_)) ?_
        refine rest _ _ ⟨(1, n), q, ⟨rfl, rfl, rfl, rfl⟩, rfl, a1, a2, ?_⟩
        rw [dimF, hn]
        dsimp only
        cases h58 : isB s q 58 with
        | false => exact .inl (by rw [if_neg (by decide)])
        | true =>
          rw [h58] at hb
          have hn1 : n = 1 := by simpa using hb
          exact .inr ⟨by rw [if_pos rfl, if_pos hn1], rfl⟩
    rintro τ2 ar2 ⟨d, r, ⟨g0, g5, g6, g10⟩, rfl, hr1, hr2, hdd⟩
    refine runS_says 0 (by exact g0) (Says.refl _) ?_; refine runS_says 5 (by exact g5) (Says.refl _) ?_; refine runS_says 6 (by exact g6) (Says.refl _) ?_; refine runS_says 10 (by exact g10) (Says.refl _) ?_
    refine runS_x (I := inf) (J := jnf) ⟨false, false, [], 0, 0⟩ 9999 rfl (by repeat (first | exact obs_nil | refine obs_draw (by kernel_rfl) ?_ | refine obs_same ?_ | refine obs_and ?_ | refine obs_by (by (simp [inB, blS] <;> omega)) ?_)) ?_
    have hl' : (acc ++ [d]).length = acc.length + 1 := by simp
    refine runS_tell 0 (dimR (acc ++ [d])) rfl (m' := acc.length + 1) rfl (dimR_snoc rfl) rfl ?_
    refine runS_drop 1 (Nat.zero_le _) rfl (by repeat (first | exact .nil | refine .row (fun j hj => rfl) ?_ | refine .box rfl ?_ | refine .fam (fun k j hk hj => rfl) ?_ | refine .loop (scrub_under _ _) ?_ | refine .dfr ?_ | refine .gone ?_ | refine .map (fun p hp => by (obtain ⟨k, _, rfl⟩ := List.mem_map.1 hp; rfl)) ?_)) rfl rfl rfl (by repeat (first | exact .nil | refine .cons rfl rfl rfl (scrub_under _ _) ?_)) ?_
    have hcy := isB_int s r 44
    have h58 : isB s r 44 = true → dimF s p = .ok d r := fun h => by
      rcases hdd with hd | ⟨_, hd⟩
      · exact hd
      · rw [(finB hd).2] at h; cases h
    have hFr : isB s r 44 = false → parseF s = if isB s r 41 = true then finF s (.fin (acc ++ [d]) r) else ([], r, 2) := fun h => by
      rcases hdd with hd | ⟨hd, hd2⟩
      · rw [hF, hpp, parL_ok hd, h, if_neg (by decide)]
        cases h41 : isB s r 41 with
        | true => rw [if_pos rfl]
        | false => rw [if_neg (by decide), finF, if_neg (by rw [h41]; decide)]
      · rw [hF, hpp, parL_bad hd, (finB hd2).1, if_neg (by decide)]
        rfl
    refine runS_cond rfl (fun h4 => ?_) (fun h4 => ?_)
    · have hb : isB s r 44 = true := hcy.symm.trans h4
      have hrl := isB_lt hb
      have hw1 : IntKind.wrap .i64 ((r : Int) + 1) = ((r + 1 : Nat) : Int) := by rw [w64 (by omega) (by omega)]; rfl
      refine runS_x (I := inf) (J := jnf) ⟨false, false, [], 0, 0⟩ 9999 rfl (by repeat (first | exact obs_nil | refine obs_draw (by kernel_rfl) ?_ | refine obs_same ?_ | refine obs_and ?_ | refine obs_by (by (simp [inB] <;> omega)) ?_)) ?_
      refine ih (r + 1, acc ++ [d]) _ _ (by dsimp only; omega) ⟨⟨rfl, ?_, congrArg iv hw1⟩, ?_, by dsimp only; omega, by dsimp only; omega, ?_⟩
      · rw [hl']; rfl
      · rw [hl']
      · rw [hpp, parL_ok (h58 hb), if_pos hb]
    have hb : isB s r 44 = false := hcy.symm.trans h4
    have hFq := hFr hb
    have hcz : (if decide ((r : Int) ≥ (s.length : Int)) = true then true else (((s.getD r 0).toNat : Int) != 41)) = !isB s r 41 := by
      unfold isB byt
      rw [Bool.eq_iff_iff]
      simp [-List.getD_eq_getElem?_getD]
      omega
    refine runS_x (I := inf) (J := jnf) ⟨false, false, [], 0, 0⟩ 9999 rfl (by repeat (first | exact obs_nil | refine obs_draw (by kernel_rfl) ?_ | refine obs_same ?_ | refine obs_and ?_ | refine obs_by (by (simp [inB, blS] <;> omega)) ?_)) ?_
    refine runS_cond rfl (fun h5 => ?_) (fun h5 => ?_)
    · have h41 : isB s r 41 = false := by have := hcz.symm.trans h5; simpa using this
      refine runS_x (I := inf) (J := jnf) ⟨false, false, [], 0, 0⟩ 9999 rfl (by repeat (first | exact obs_nil | refine obs_draw (by kernel_rfl) ?_ | refine obs_same ?_ | refine obs_and ?_ | refine obs_by (by (simp [inB] <;> omega)) ?_)) ?_
      refine runS_says 2 rfl (says_nil0 (sz := 2) (r := nilD) (Nat.zero_le _)) ?_
      refine runS_ret (I := inf) 0 rfl (Nat.le_refl _) rfl .nil rfl ⟨?_, rfl⟩
      rw [hFq, if_neg (by rw [h41]; decide)]
      rfl
    have h41 : isB s r 41 = true := by have := hcz.symm.trans h5; simpa using this
    rw [if_pos h41] at hFq
    have hrl := isB_lt h41
    have hw1 : IntKind.wrap .i64 ((r : Int) + 1) = ((r + 1 : Nat) : Int) := by rw [w64 (by omega) (by omega)]; rfl
    refine runS_x (I := inf) (J := jnf) ⟨false, false, [], 0, 0⟩ 9999 rfl (by repeat (first | exact obs_nil | refine obs_draw (by kernel_rfl) ?_ | refine obs_same ?_ | refine obs_and ?_ | refine obs_by (by (simp [inB, blS] <;> omega)) ?_)) ?_
    refine runS_cond rfl (fun h6 => ?_) (fun h6 => ?_)
    · have h6' : r + 1 < s.length := by
        have : decide (IntKind.wrap .i64 ((r : Int) + 1) < (s.length : Int)) = true := h6
        rw [hw1, decide_eq_true_eq] at this
        omega
      refine runS_x (I := inf) (J := jnf) ⟨false, false, [], 0, 0⟩ 9999 rfl (by repeat (first | exact obs_nil | refine obs_draw (by kernel_rfl) ?_ | refine obs_same ?_ | refine obs_and ?_ | refine obs_by (by (simp [inB] <;> omega)) ?_)) ?_
      refine runS_says 2 rfl (says_nil0 (sz := 2) (r := nilD) (Nat.zero_le _)) ?_
      refine runS_ret (I := inf) 0 rfl (Nat.le_refl _) rfl .nil rfl ⟨?_, rfl⟩
      rw [hFq, finF, if_pos h41, if_pos h6']
      exact congrArg (fun x => Out.ret (.tup [.slc 2 none 0 nilD, iv x, iv 2])) hw1
    have h6' : ¬ r + 1 < s.length := by
      have : decide (IntKind.wrap .i64 ((r : Int) + 1) < (s.length : Int)) = false := h6
      rw [hw1, decide_eq_false_iff_not] at this
      omega
    refine runS_freeze 5 rfl rfl rfl (fun j hj => rfl) ?_
    refine runS_says 5 (show _ = dimS none (acc ++ [d]) from ((rfl : _ = AV.slc 2 none (acc.length + 1) (dimR (acc ++ [d]))).trans (by rw [dimS, hl']))) (Says.refl _) ?_
    refine runS_x (I := inf) (J := jnf) ⟨false, false, [], 0, 0⟩ 9999 rfl (by repeat (first | exact obs_nil | refine obs_draw (by kernel_rfl) ?_ | refine obs_same ?_ | refine obs_and ?_ | refine obs_by (by (simp [inB] <;> omega)) ?_)) ?_
    refine runS_call rfl rfl rfl rfl rfl rfl rfl (r_Valid none (acc ++ [d])) ?_
    refine runS_x (I := inf) (J := jnf) ⟨false, false, [], 0, 0⟩ 9999 rfl (by repeat (first | exact obs_nil | refine obs_draw (by kernel_rfl) ?_ | refine obs_same ?_ | refine obs_and ?_ | refine obs_by (by (simp [inB] <;> omega)) ?_)) ?_
    refine runS_cond rfl (fun h7 => ?_) (fun h7 => ?_)
    · have hv : validD (acc ++ [d]) = false := by simpa using h7
      refine runS_x (I := inf) (J := jnf) ⟨false, false, [], 0, 0⟩ 9999 rfl (by repeat (first | exact obs_nil | refine obs_draw (by kernel_rfl) ?_ | refine obs_same ?_ | refine obs_and ?_ | refine obs_by (by (simp [inB, blS] <;> omega)) ?_)) ?_
      refine runS_says 2 rfl (says_nil0 (sz := 2) (r := nilD) (Nat.zero_le _)) ?_
      refine runS_ret (I := inf) 0 rfl (Nat.le_refl _) rfl .nil rfl ⟨?_, rfl⟩
      rw [hFq, finF, if_pos h41, if_neg h6', if_neg (by rw [hv]; decide)]
      rfl
    · have hv : validD (acc ++ [d]) = true := by simpa using h7
      refine runS_x (I := inf) (J := jnf) ⟨false, false, [], 0, 0⟩ 9999 rfl (by repeat (first | exact obs_nil | refine obs_draw (by kernel_rfl) ?_ | refine obs_same ?_ | refine obs_and ?_ | refine obs_by (by (simp [inB] <;> omega)) ?_)) ?_
      refine runS_ret (I := inf) 0 rfl (Nat.le_refl _) rfl .nil rfl ⟨?_, rfl⟩
      rw [hFq, finF, if_pos h41, if_neg h6', if_pos hv]
      rfl
end Go.Iron.Tryd

/- The seat of ArrayTexts: a text of bounds, read, gives the bounds. -/
namespace Go.Iron.Tryd
open Go.Proofs

theorem at_cons {s : Str} {p : Nat} {b : UInt8} {l : Str} (h : s.drop p = b :: l) : p < s.length ∧ byt s p = b.toNat ∧ s.drop (p + 1) = l := by
  have hl : p < s.length := by
    rcases Nat.lt_or_ge p s.length with h1 | h1
    · exact h1
    · rw [List.drop_eq_nil_of_le h1] at h; cases h
  rw [List.drop_eq_getElem_cons hl] at h
  injection h with h1 h2
  refine ⟨hl, ?_, h2⟩
  unfold byt
  rw [List.getD_eq_getElem?_getD, List.getElem?_eq_getElem hl, ← h1]
  rfl
theorem at_app {s : Str} {p : Nat} {a b : Str} (h : s.drop p = a ++ b) : s.drop (p + a.length) = b := by
  rw [← List.drop_drop, h, List.drop_left]
theorem at_isB {s : Str} {p c : Nat} {b : UInt8} {l : Str} (h : s.drop p = b :: l) : isB s p c = (b.toNat == c) := by
  obtain ⟨h1, h2, _⟩ := at_cons h
  rw [isB, decide_eq_true h1, h2, Bool.true_and]
def digB (b : UInt8) : Prop := 48 ≤ b.toNat ∧ b.toNat ≤ 57
theorem at_isDg {s : Str} {p : Nat} {b : UInt8} {l : Str} (h : s.drop p = b :: l) : isDg s p = true ↔ digB b := by
  obtain ⟨h1, h2, _⟩ := at_cons h
  simp only [isDg, Bool.and_eq_true, decide_eq_true_eq, h2, digB]
  exact ⟨fun h => ⟨h.1.2, h.2⟩, fun h => ⟨⟨h1, h.1⟩, h.2⟩⟩
theorem dg_at {s : Str} : ∀ {ds rest : Str} {k p : Nat}, s.drop p = ds ++ rest → (∀ b ∈ ds, digB b) → ds.length ≤ k → (∃ b t, rest = b :: t ∧ ¬ digB b) → dgN s k p = ds.length
  | [], rest, 0, p, h, _, _, _ => rfl
  | [], rest, k + 1, p, h, _, _, ⟨b, t, hb, hn⟩ => by
    subst hb
    unfold dgN
    rw [if_neg (fun hd => hn ((at_isDg h).1 hd))]
    rfl
  | d :: ds, rest, 0, p, h, _, hk, _ => by simp at hk
  | d :: ds, rest, k + 1, p, h, ha, hk, hr => by
    have h' : s.drop p = d :: (ds ++ rest) := h
    unfold dgN
    rw [if_pos ((at_isDg h').2 (ha d (.head _))), dg_at (at_cons h').2.2 (fun b hb => ha b (.tail _ hb)) (by simpa using hk) hr]
    rfl
theorem u8_dig (d : Nat) (h : d < 10) : (UInt8.ofNat (48 + d)).toNat = 48 + d := by
  rw [UInt8.toNat_ofNat']
  omega
theorem dd_digits : ∀ u : Nat, ∀ b ∈ Lib.decDigits u, digB b := by
  intro u
  induction u using Nat.strongRecOn with
  | ind u ih =>
    intro b hb
    rw [Lib.decDigits] at hb
    by_cases h : u < 10
    · rw [dif_pos h] at hb
      have : b = UInt8.ofNat (48 + u) := by simpa using hb
      rw [this, digB, u8_dig u h]
      omega
    · rw [dif_neg h] at hb
      rcases List.mem_append.1 hb with hb | hb
      · exact ih (u / 10) (by omega) b hb
      · have : b = UInt8.ofNat (48 + u % 10) := by simpa using hb
        have hm := Nat.mod_lt u (show 10 > 0 by decide)
        rw [this, digB, u8_dig _ hm]
        omega
theorem dd_len : ∀ k u : Nat, u < 10 ^ (k + 1) → (Lib.decDigits u).length ≤ k + 1
  | 0, u, h => by
    rw [Lib.decDigits, dif_pos (by simpa using h)]
    simp
  | k + 1, u, h => by
    rw [Lib.decDigits]
    by_cases h1 : u < 10
    · rw [dif_pos h1]; simp
    · rw [dif_neg h1, List.length_append]
      have := dd_len k (u / 10) (by
        rw [Nat.pow_succ] at h
        omega)
      simp
      omega
theorem dd_val : ∀ u : Nat, decV (Lib.decDigits u) = u := by
  intro u
  induction u using Nat.strongRecOn with
  | ind u ih =>
    rw [Lib.decDigits]
    by_cases h : u < 10
    · rw [dif_pos h]
      show 10 * 0 + ((UInt8.ofNat (48 + u)).toNat - 48) = u
      rw [u8_dig u h]
      omega
    · have hm := Nat.mod_lt u (show 10 > 0 by decide)
      rw [dif_neg h, decV, List.foldl_append]
      show 10 * decV (Lib.decDigits (u / 10)) + ((UInt8.ofNat (48 + u % 10)).toNat - 48) = u
      rw [ih (u / 10) (by omega), u8_dig _ hm]
      omega
theorem dd_head : ∀ u : Nat, ∃ b t, Lib.decDigits u = b :: t ∧ (0 < u → b.toNat ≠ 48) := by
  intro u
  induction u using Nat.strongRecOn with
  | ind u ih =>
    rw [Lib.decDigits]
    by_cases h : u < 10
    · rw [dif_pos h]
      exact ⟨_, _, rfl, fun h0 => by rw [u8_dig u h]; omega⟩
    · rw [dif_neg h]
      obtain ⟨b, t, e, hb⟩ := ih (u / 10) (by omega)
      rw [e]
      exact ⟨b, t ++ _, rfl, fun _ => hb (by omega)⟩
theorem num_at {s : Str} {p : Nat} {n : Int} {rest : Str} (h : s.drop p = Lib.itoa n ++ rest) (h1 : -32768 ≤ n) (h2 : n ≤ 32767) (hr : ∃ b t, rest = b :: t ∧ ¬ digB b) : numF s p = .ok n (p + (Lib.itoa n).length) := by
  by_cases hn : n < 0
  · obtain ⟨m, rfl⟩ : ∃ m : Nat, n = -(m : Int) := ⟨n.natAbs, by omega⟩
    have e : Lib.itoa (-(m : Int)) = 45 :: Lib.decDigits m := by rw [Lib.itoa, if_pos hn]; congr 2; omega
    rw [e] at h ⊢
    have hm : isB s p 45 = true := by rw [at_isB (l := Lib.decDigits m ++ rest) h]; rfl
    have hq : minP s p = p + 1 := by rw [minP, if_pos hm]
    have h' : s.drop (p + 1) = Lib.decDigits m ++ rest := (at_cons (l := Lib.decDigits m ++ rest) h).2.2
    have hl := dd_len 4 m (by omega)
    have hd := dg_at (k := 5) h' (dd_digits m) hl hr
    obtain ⟨b, t, eb, hb⟩ := dd_head m
    have hb48 : byt s (p + 1) ≠ 48 := by
      rw [eb] at h'
      rw [(at_cons (l := t ++ rest) h').2.1]
      exact hb (by omega)
    have hpos : (Lib.decDigits m).length ≠ 0 := by rw [eb]; simp
    have hnl : numL s (p + 1) = (Lib.decDigits m).length := by rw [numL, if_neg hb48, hd]
    have hnv : numV s (p + 1) = m := by rw [numV, hnl, h', List.take_left, dd_val]
    rw [numF, hq, if_neg (by rintro (h | h); · omega
                             · exact hb48 h.2), hm, if_pos rfl, hnv, hnl]
    congr 1
    rw [List.length_cons]
    omega
  · obtain ⟨m, rfl⟩ : ∃ m : Nat, n = (m : Int) := ⟨n.toNat, by omega⟩
    have e : Lib.itoa (m : Int) = Lib.decDigits m := by rw [Lib.itoa, if_neg hn, Int.toNat_natCast]
    rw [e] at h ⊢
    obtain ⟨b, t, eb, hb⟩ := dd_head m
    have hdb : digB b := dd_digits m b (by rw [eb]; exact .head _)
    have h0 : s.drop p = b :: (t ++ rest) := by rw [h, eb]; rfl
    have hm : isB s p 45 = false := by rw [at_isB h0, beq_eq_false_iff_ne]; have := hdb.1; omega
    have hq : minP s p = p := by rw [minP, hm, if_neg (by decide)]
    have hl := dd_len 4 m (by omega)
    have hd := dg_at (k := 5) h (dd_digits m) hl hr
    have hpos : (Lib.decDigits m).length ≠ 0 := by rw [eb]; simp
    have hnl : numL s p = (Lib.decDigits m).length := by
      rw [numL]
      by_cases h48 : byt s p = 48
      · have hm0 : m = 0 := by
          rcases Nat.eq_zero_or_pos m with hz | hz
          · exact hz
          · exact absurd ((at_cons h0).2.1 ▸ h48) (hb hz)
        rw [if_pos h48, hm0, Lib.decDigits]
        rfl
      · rw [if_neg h48, hd]
    have hnv : numV s p = m := by rw [numV, hnl, h, List.take_left, dd_val]
    rw [numF, hq, if_neg (by rintro (h | h); · omega
                             · rw [hm] at h; cases h.1), hm, if_neg (by decide), hnv, hnl]
theorem nd (b : UInt8) (t : Str) (h : ¬ digB b) : ∃ b' t', (b :: t : Str) = b' :: t' ∧ ¬ digB b' := ⟨b, t, rfl, h⟩
theorem dim_at {s : Str} {p : Nat} {d : Dim} {b : UInt8} {t : Str} (h : s.drop p = dimT d ++ (b :: t)) (h1 : -32768 ≤ d.1) (h2 : d.1 ≤ 32767) (h3 : -32768 ≤ d.2) (h4 : d.2 ≤ 32767) (hb : ¬ digB b) (hc : b.toNat ≠ 58) : dimF s p = .ok d (p + (dimT d).length) := by
  unfold dimT at h ⊢
  by_cases h1' : d.1 ≠ 1
  · rw [if_pos h1'] at h ⊢
    have e1 : s.drop p = Lib.itoa d.1 ++ (58 :: (Lib.itoa d.2 ++ b :: t)) := by rw [h]; simp
    have n1 := num_at e1 h1 h2 (nd 58 _ (by unfold digB; decide))
    have e2 := at_app e1
    have hB : isB s (p + (Lib.itoa d.1).length) 58 = true := by rw [at_isB e2]; rfl
    have n2 := num_at (at_cons e2).2.2 h3 h4 (nd b t hb)
    rw [dimF, n1]
    dsimp only
    rw [if_pos hB, if_neg h1', n2]
    dsimp only
    congr 1
    simp
    omega
  · rw [if_neg h1'] at h ⊢
    have n1 := num_at h h3 h4 (nd b t hb)
    have hB : isB s (p + (Lib.itoa d.2).length) 58 = false := by rw [at_isB (at_app h), beq_eq_false_iff_ne]; exact hc
    rw [dimF, n1]
    dsimp only
    rw [hB, if_neg (by decide)]
    have : d.1 = 1 := by omega
    rw [← this]
theorem body_cons (d : Dim) (ds : List Dim) : bodyT (d :: ds) = dimT d ++ (if ds = [] then [] else [44] ++ bodyT ds) := by
  unfold bodyT
  cases ds with
  | nil => simp [Lib.join_one]
  | cons e r =>
    rw [if_neg (by simp), List.map_cons, Lib.join_cons, List.map_cons, Lib.join_cons, Lib.joinTail, Lib.joinTail, List.map_cons, List.flatten_cons]
    simp
theorem par_at {s : Str} : ∀ {ds : List Dim} {p : Nat} {acc : List Dim}, ds ≠ [] → (∀ d ∈ ds, -32768 ≤ d.1 ∧ d.1 ≤ 32767 ∧ -32768 ≤ d.2 ∧ d.2 ≤ 32767) → s.drop p = bodyT ds ++ [41] → parL s p acc = .fin (acc ++ ds) (p + (bodyT ds).length)
  | [], p, acc, h0, _, _ => absurd rfl h0
  | d :: ds, p, acc, _, hb, h => by
    obtain ⟨b1, b2, b3, b4⟩ := hb d (.head _)
    rw [body_cons] at h ⊢
    cases ds with
    | nil =>
      rw [if_pos rfl, List.append_nil] at h ⊢
      have hd := dim_at (b := 41) (t := []) h b1 b2 b3 b4 (by unfold digB; decide) (by decide)
      rw [parL_ok hd, at_isB (at_app h)]
      rfl
    | cons e r =>
      rw [if_neg (by simp)] at h ⊢
      have h' : s.drop p = dimT d ++ (44 :: (bodyT (e :: r) ++ [41])) := by rw [h]; simp
      have hd := dim_at h' b1 b2 b3 b4 (by unfold digB; decide) (by decide)
      have e2 := at_app h'
      rw [parL_ok hd, if_pos (by rw [at_isB e2]; rfl), par_at (by simp) (fun x hx => hb x (.tail _ hx)) (at_cons e2).2.2]
      congr 1
      · simp
      · simp; omega
theorem parse_text {ds : List Dim} (hv : validD ds = true) : parseF (textF ds) = (ds, 0, 0) := by
  obtain ⟨hf, hl1, hl3⟩ := fit_valid hv
  have hbnd : ∀ d ∈ ds, -32768 ≤ d.1 ∧ d.1 ≤ 32767 ∧ -32768 ≤ d.2 ∧ d.2 ≤ 32767 := fun d hd => by
    obtain ⟨i, hi⟩ := List.mem_iff_getElem?.1 hd
    have hil := (List.getElem?_eq_some_iff.1 hi).1
    have := dim_in hf hil
    rw [List.getD_eq_getElem?_getD, hi] at this
    simp only [Option.getD_some] at this
    omega
  have ht : textF ds = 40 :: (bodyT ds ++ [41]) := by rw [textF, if_pos hv]; simp
  have hne : ds ≠ [] := fun e => by rw [e] at hl1; simp at hl1
  rw [ht]
  have h40 : isB (40 :: (bodyT ds ++ [41])) 0 40 = true := by rw [at_isB (s := 40 :: (bodyT ds ++ [41])) (p := 0) rfl]; rfl
  have hd : (40 :: (bodyT ds ++ [41]) : Str).drop 1 = bodyT ds ++ [41] := rfl
  have hp := par_at (acc := []) hne hbnd hd
  have h41 : isB (40 :: (bodyT ds ++ [41])) (1 + (bodyT ds).length) 41 = true := by rw [at_isB (at_app hd)]; rfl
  rw [parseF, if_pos h40, hp, List.nil_append, finF, if_pos h41, if_neg (by simp; omega), if_pos hv]
theorem itoa_len6 {n : Int} (h1 : -32768 ≤ n) (h2 : n ≤ 32767) : (Lib.itoa n).length ≤ 6 := by
  unfold Lib.itoa
  split
  · have := dd_len 4 n.natAbs (by omega)
    simp
    omega
  · have := dd_len 4 n.toNat (by omega)
    omega
theorem dim_len {d : Dim} (h1 : -32768 ≤ d.1) (h2 : d.1 ≤ 32767) (h3 : -32768 ≤ d.2) (h4 : d.2 ≤ 32767) : (dimT d).length ≤ 13 := by
  have a := itoa_len6 h1 h2
  have b := itoa_len6 h3 h4
  unfold dimT
  split
  · simp; omega
  · omega
theorem body_len : ∀ ds : List Dim, (∀ d ∈ ds, -32768 ≤ d.1 ∧ d.1 ≤ 32767 ∧ -32768 ≤ d.2 ∧ d.2 ≤ 32767) → (bodyT ds).length ≤ ds.length * 14
  | [], _ => by simp [bodyT, Lib.join_nil]
  | d :: ds, h => by
    obtain ⟨b1, b2, b3, b4⟩ := h d (.head _)
    have a := dim_len b1 b2 b3 b4
    have b := body_len ds fun x hx => h x (.tail _ hx)
    rw [body_cons]
    split <;> simp <;> omega
theorem valid_bnd {ds : List Dim} (hv : validD ds = true) : ∀ d ∈ ds, -32768 ≤ d.1 ∧ d.1 ≤ 32767 ∧ -32768 ≤ d.2 ∧ d.2 ≤ 32767 := fun d hd => by
  obtain ⟨i, hi⟩ := List.mem_iff_getElem?.1 hd
  have hil := (List.getElem?_eq_some_iff.1 hi).1
  have := dim_in (fit_valid hv).1 hil
  rw [List.getD_eq_getElem?_getD, hi] at this
  simp only [Option.getD_some] at this
  omega
theorem text_len (ds : List Dim) : (textF ds).length ≤ 60 := by
  unfold textF
  by_cases hv : validD ds = true
  · rw [if_pos hv]
    have := body_len ds (valid_bnd hv)
    have := (fit_valid hv).2.2
    simp
    omega
  · rw [if_neg hv]
    simp
end Go.Iron.Tryd

/- The seat of ArrayTexts: the law. -/
namespace Go.Iron.Tryd
open Go.Proofs

theorem parse_small {s : Str} : (parseF s).1.length < 1000000000 := by
  unfold parseF
  split
  · unfold finF
    split
    · (show (0 : Nat) < _; decide)
    · split
      · split
        · (show (0 : Nat) < _; decide)
        · split
          · rename_i hv
            have := (fit_valid hv).2.2
            dsimp only
            omega
          · (show (0 : Nat) < _; decide)
      · (show (0 : Nat) < _; decide)
  · (show (0 : Nat) < _; decide)
theorem law_arrayTexts (nl : Option Bool) (ds : List Dim) (s : Str) (hb : ds.length < 1000000000000000) (hb2 : s.length < 1000000000000000) : CallT Tryd.prog 5 [dimS nl ds, sv s] [] (fun o A => o = .ret (bv true) ∧ A = []) := by
  refine callS_body (n := 75) rfl rfl fun w ρ X => ?_
  refine runS_x (I := inf) (J := jnf) ⟨false, false, [], 0, 0⟩ 9999 rfl (by repeat (first | exact obs_nil | refine obs_draw (by kernel_rfl) ?_ | refine obs_same ?_ | refine obs_and ?_ | refine obs_by (by (simp [inB, blS] <;> omega)) ?_)) ?_
  refine runS_cond rfl (fun h => ?_) (fun h => ?_)
  · refine runS_x (I := inf) (J := jnf) ⟨false, false, [], 0, 0⟩ 9999 rfl (by repeat (first | exact obs_nil | refine obs_draw (by kernel_rfl) ?_ | refine obs_same ?_ | refine obs_and ?_ | refine obs_by (by (simp [inB] <;> omega)) ?_)) ?_
    refine runS_call rfl rfl rfl rfl rfl rfl rfl law_awake ?_
    refine runS_x (I := inf) (J := jnf) ⟨false, false, [], 0, 0⟩ 9999 rfl (by repeat (first | exact obs_nil | refine obs_draw (by kernel_rfl) ?_ | refine obs_same ?_ | refine obs_and ?_ | refine obs_by (by (simp [inB] <;> omega)) ?_)) ?_
    refine runS_ret (I := inf) 0 rfl (Nat.le_refl _) rfl .nil rfl ⟨?_, rfl⟩
    rfl
  have hlt : ds.length ≤ 20 ∧ s.length ≤ 300 := by
    have h' : (if decide ((ds.length : Int) > 20) = true then true else decide ((s.length : Int) > 300)) = false := h
    simp at h'
    omega
  have hsm := parse_small (s := s)
  have htl := text_len ds
  refine runS_x (I := inf) (J := jnf) ⟨false, false, [], 0, 0⟩ 9999 rfl (by repeat (first | exact obs_nil | refine obs_draw (by kernel_rfl) ?_ | refine obs_same ?_ | refine obs_and ?_ | refine obs_by (by (simp [inB] <;> omega)) ?_)) ?_
  refine runS_call rfl rfl rfl rfl rfl rfl rfl (a_Parse s (by omega)) ?_
  refine runS_x (I := inf) (J := jnf) ⟨false, false, [], 0, 0⟩ 9999 rfl (by repeat (first | exact obs_nil | refine obs_draw (by kernel_rfl) ?_ | refine obs_same ?_ | refine obs_and ?_ | refine obs_by (by (simp [inB] <;> omega)) ?_)) ?_
  refine runS_call rfl rfl rfl rfl rfl rfl rfl (ref_Parse s (by omega)) ?_
  refine runS_x (I := inf) (J := jnf) ⟨false, false, [], 0, 0⟩ 9999 rfl (by repeat (first | exact obs_nil | refine obs_draw (by kernel_rfl) ?_ | refine obs_same ?_ | refine obs_and ?_ | refine obs_by (by (simp [inB] <;> omega)) ?_)) ?_
  refine runS_call rfl rfl rfl rfl rfl rfl rfl (a_Text nl ds) ?_
  refine runS_x (I := inf) (J := jnf) ⟨false, false, [], 0, 0⟩ 9999 rfl (by repeat (first | exact obs_nil | refine obs_draw (by kernel_rfl) ?_ | refine obs_same ?_ | refine obs_and ?_ | refine obs_by (by (simp [inB] <;> omega)) ?_)) ?_
  refine runS_call rfl rfl rfl rfl rfl rfl rfl (r_Equal none none (parseF s).1 (parseF s).1 (by omega)) ?_
  refine runS_x (I := inf) (J := jnf) ⟨false, false, [], 0, 0⟩ 9999 rfl (by repeat (first | exact obs_nil | refine obs_draw (by kernel_rfl) ?_ | refine obs_same ?_ | refine obs_and ?_ | refine obs_by (by (simp [inB] <;> omega)) ?_)) ?_
  refine runS_callU rfl rfl (by first | exact .v rfl rfl rfl rfl | exact .o rfl rfl rfl rfl) rfl rfl (by repeat (first | exact .nil | refine .cons (.n rfl) ?_ | refine .cons .o ?_ | refine .cons gok_and ?_)) rfl rfl rfl rfl rfl (fun _ => (ref_Text nl ds)) ?_
  refine runS_x (I := inf) (J := jnf) ⟨false, false, [], 0, 0⟩ 9999 rfl (by repeat (first | exact obs_nil | refine obs_draw (by kernel_rfl) ?_ | refine obs_same ?_ | refine obs_and ?_ | refine obs_by (by (simp [inB] <;> omega)) ?_)) ?_
  refine runS_cond rfl (fun h => ?_) (fun h => ?_)
  · exfalso
    have h' : (if (if (if (!decide ((parseF s).1 = (parseF s).1)) = true then true else (parseF s).2.1 != (parseF s).2.1) = true then true else (parseF s).2.2 != (parseF s).2.2) = true then true else !((bs (textF ds)).toList == (bs (textF ds)).toList)) = true := h
    simp at h'
  refine runS_x (I := inf) (J := jnf) ⟨false, false, [], 0, 0⟩ 9999 rfl (by repeat (first | exact obs_nil | refine obs_draw (by kernel_rfl) ?_ | refine obs_same ?_ | refine obs_and ?_ | refine obs_by (by (simp [inB] <;> omega)) ?_)) ?_
  refine runS_call rfl rfl rfl rfl rfl rfl rfl (r_Valid nl ds) ?_
  refine runS_x (I := inf) (J := jnf) ⟨false, false, [], 0, 0⟩ 9999 rfl (by repeat (first | exact obs_nil | refine obs_draw (by kernel_rfl) ?_ | refine obs_same ?_ | refine obs_and ?_ | refine obs_by (by (simp [inB] <;> omega)) ?_)) ?_
  refine runS_cond rfl (fun h => ?_) (fun h => ?_)
  · refine runS_x (I := inf) (J := jnf) ⟨false, false, [], 0, 0⟩ 9999 rfl (by repeat (first | exact obs_nil | refine obs_draw (by kernel_rfl) ?_ | refine obs_same ?_ | refine obs_and ?_ | refine obs_by (by (simp [inB] <;> omega)) ?_)) ?_
    refine runS_call rfl rfl rfl rfl rfl rfl rfl law_awake ?_
    refine runS_x (I := inf) (J := jnf) ⟨false, false, [], 0, 0⟩ 9999 rfl (by repeat (first | exact obs_nil | refine obs_draw (by kernel_rfl) ?_ | refine obs_same ?_ | refine obs_and ?_ | refine obs_by (by (simp [inB] <;> omega)) ?_)) ?_
    refine runS_ret (I := inf) 0 rfl (Nat.le_refl _) rfl .nil rfl ⟨?_, rfl⟩
    rfl
  have hv : validD ds = true := by simpa using h
  have hcall := a_Parse (textF ds) (by omega)
  rw [parse_text hv] at hcall
  refine runS_x (I := inf) (J := jnf) ⟨false, false, [], 0, 0⟩ 9999 rfl (by repeat (first | exact obs_nil | refine obs_draw (by kernel_rfl) ?_ | refine obs_same ?_ | refine obs_and ?_ | refine obs_by (by (simp [inB] <;> omega)) ?_)) ?_
  refine runS_call rfl rfl rfl rfl rfl rfl rfl hcall ?_
  refine runS_x (I := inf) (J := jnf) ⟨false, false, [], 0, 0⟩ 9999 rfl (by repeat (first | exact obs_nil | refine obs_draw (by kernel_rfl) ?_ | refine obs_same ?_ | refine obs_and ?_ | refine obs_by (by (simp [inB] <;> omega)) ?_)) ?_
  refine runS_callU rfl rfl (by first | exact .v rfl rfl rfl rfl | exact .o rfl rfl rfl rfl) rfl rfl (by repeat (first | exact .nil | refine .cons (.n rfl) ?_ | refine .cons .o ?_ | refine .cons gok_and ?_)) rfl rfl rfl rfl rfl (fun _ => (r_Equal none nl ds ds (by omega))) ?_
  refine runS_x (I := inf) (J := jnf) ⟨false, false, [], 0, 0⟩ 9999 rfl (by repeat (first | exact obs_nil | refine obs_draw (by kernel_rfl) ?_ | refine obs_same ?_ | refine obs_and ?_ | refine obs_by (by (simp [inB] <;> omega)) ?_)) ?_
  refine runS_callU rfl rfl (by first | exact .v rfl rfl rfl rfl | exact .o rfl rfl rfl rfl) rfl rfl (by repeat (first | exact .nil | refine .cons (.n rfl) ?_ | refine .cons .o ?_ | refine .cons gok_and ?_)) rfl rfl rfl rfl rfl (fun _ => law_awake) ?_
  refine runS_x (I := inf) (J := jnf) ⟨false, false, [], 0, 0⟩ 9999 rfl (by repeat (first | exact obs_nil | refine obs_draw (by kernel_rfl) ?_ | refine obs_same ?_ | refine obs_and ?_ | refine obs_by (by (simp [inB] <;> omega)) ?_)) ?_
  refine runS_ret (I := inf) 0 rfl (Nat.le_refl _) rfl .nil rfl ⟨?_, rfl⟩
  show Out.ret (bv (if (if ((0 : Int) == 0) = true then decide (ds = ds) else false) = true then true else false)) = _
  simp
theorem law_ArrayTexts (nl : Option Bool) (ds : List Dim) (s : Str) (hb : ds.length * 16 ≤ 140737488351232) (hb2 : s.length ≤ 140737488351232) : CallT Tryd.prog 3 [dimS nl ds, sv s] [] (fun o A => o = .ret (bv true) ∧ A = []) := by
  refine callS_body (n := 16) rfl rfl fun w ρ X => ?_
  refine runS_x (I := inf) (J := jnf) ⟨false, false, [], 0, 0⟩ 9999 rfl (by repeat (first | exact obs_nil | refine obs_draw (by kernel_rfl) ?_ | refine obs_same ?_ | refine obs_and ?_ | refine obs_by (by (simp [inB] <;> omega)) ?_)) ?_
  refine runS_call rfl rfl rfl rfl rfl rfl rfl (stay_dims nl ds (by omega)) ?_
  refine runS_x (I := inf) (J := jnf) ⟨false, false, [], 0, 0⟩ 9999 rfl (by repeat (first | exact obs_nil | refine obs_draw (by kernel_rfl) ?_ | refine obs_same ?_ | refine obs_and ?_ | refine obs_by (by (simp [inB] <;> omega)) ?_)) ?_
  refine runS_call rfl rfl rfl rfl rfl rfl rfl (law_arrayTexts nl ds s (by omega) (by omega)) ?_
  refine runS_x (I := inf) (J := jnf) ⟨false, false, [], 0, 0⟩ 9999 rfl (by repeat (first | exact obs_nil | refine obs_draw (by kernel_rfl) ?_ | refine obs_same ?_ | refine obs_and ?_ | refine obs_by (by (simp [inB] <;> omega)) ?_)) ?_
  refine runS_callU rfl rfl (by first | exact .v rfl rfl rfl rfl | exact .o rfl rfl rfl rfl) rfl rfl (by repeat (first | exact .nil | refine .cons (.n rfl) ?_ | refine .cons .o ?_ | refine .cons gok_and ?_)) rfl rfl rfl rfl rfl (fun _ => (stay_sameDims _ _ ds ds (by omega))) ?_
  refine runS_x (I := inf) (J := jnf) ⟨false, false, [], 0, 0⟩ 9999 rfl (by repeat (first | exact obs_nil | refine obs_draw (by kernel_rfl) ?_ | refine obs_same ?_ | refine obs_and ?_ | refine obs_by (by (simp [inB] <;> omega)) ?_)) ?_
  refine runS_ret (I := inf) 0 rfl (Nat.le_refl _) rfl .nil rfl ⟨?_, rfl⟩
  show Out.ret (bv (if true = true then decide (ds = ds) else false)) = _
  simp
end Go.Iron.Tryd
