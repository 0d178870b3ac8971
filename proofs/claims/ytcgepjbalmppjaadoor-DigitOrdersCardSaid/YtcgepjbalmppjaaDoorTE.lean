/- Iron: this seat's types and functions, by program (mkinf.py). -/
import Derived.Test.YtcgepjbalmppjaaDoorTA
import Derived.Test.YtcgepjbalmppjaaDoorTB
import Derived.Test.YtcgepjbalmppjaaDoorTC
import Derived.Test.YtcgepjbalmppjaaDoorTD
import Derived.Test.YtcgepjbalmppjaaDoorProg
import Derived.Shelf.Strings.Builder1
import Derived.Shelf.Strings.Builder2
import Derived.Shelf.Strings.Trim
import Derived.Shelf.Strings.SlTrimAscii
import Derived.Shelf.Small.Utf8
import Derived.Shelf.Small.Strs
import Derived.Shelf.Strings.BuilderF
import Derived.Shelf.Strconv.Itoa0
import Derived.Shelf.Strconv.Itoa1
import Derived.Shelf.LaysM
import Derived.Shelf.Strconv.Itoa2
import Derived.Shelf.Strconv.Itoa3
import Derived.Shelf.Strings.Search1
import Derived.Shelf.Strings.Prefix
import Derived.Shelf.Unicode.Decode
import Derived.Shelf.Strings.Runes
import Derived.Shelf.Strings.AsciiSet
import Derived.Shelf.Bits.Mul64
import Derived.Shelf.Strings.Repeat
import Derived.Shelf.Unicode.DecodeSlow
import Derived.Shelf.Unicode.DecodeAny
import Derived.Shelf.Unicode.DecodeLast
set_option maxRecDepth 10000
namespace Go.Iron.Tryd
open Go.Proofs
instance globs : Globs := ⟨[]⟩
def inf : TI where
  ty := [(1, 1, false), (3, 1, false), (4, 1, false), (5, 1, false), (9, 1, false), (20, 1, false), (23, 4, true), (26, 1, false), (31, 1, false), (32, 1, false), (38, 6, true), (43, 3, true), (45, 1, false), (55, 0, true), (58, 1, false), (60, 2, true), (61, 1, false), (62, 1, false), (65, 1, false), (69, 1, false), (70, 1, false), (71, 1, false), (78, 1, false), (88, 1, false), (89, 1, false), (97, 1, false), (99, 1, false), (100, 1, false), (109, 1, false), (117, 1, false)]
  el := [(31, 5), (32, 5), (70, 23), (97, 71), (99, 3)]
  fld := [(23, [(0, 3), (1, 3), (2, 3), (3, 9)]), (38, [(0, 3), (1, 3), (2, 3), (3, 3), (4, 4), (5, 9)]), (43, [(0, 32), (1, 4), (2, 3)]), (55, []), (60, [(0, 58), (1, 31)])]
  zero := [(1, [.val (.nilFunc)], 8), (3, [.val (.int .i64 0)], 8), (4, [.val (.bool false)], 1), (5, [.val (.int .u8 0)], 1), (9, [.val (.string ⟨#[]⟩)], 16), (20, [.val (.nilIface)], 16), (23, [.val (.int .i64 0), .val (.int .i64 0), .val (.int .i64 0), .val (.string ⟨#[]⟩)], 40), (26, [.val (.int .i64 0)], 8), (31, [.val (.slice none 0 0)], 24), (32, [.val (.slice none 0 0)], 24), (38, [.val (.int .i64 0), .val (.int .i64 0), .val (.int .i64 0), .val (.int .i64 0), .val (.bool false), .val (.string ⟨#[]⟩)], 56), (43, [.val (.slice none 0 0), .val (.bool false), .val (.int .i64 0)], 40), (45, [.val (.nilFunc)], 8), (58, [.val (.pointer none)], 8), (60, [.val (.pointer none), .val (.slice none 0 0)], 32), (61, [.val (.nilFunc)], 8), (62, [.val (.nilFunc)], 8), (65, [.val (.nilIface)], 16), (69, [.val (.pointer none)], 8), (70, [.val (.slice none 0 0)], 24), (71, [.val (.nilFunc)], 8), (78, [.val (.nilFunc)], 8), (88, [.val (.pointer none)], 8), (89, [.val (.int .u64 0)], 8), (97, [.val (.slice none 0 0)], 24), (99, [.val (.slice none 0 0)], 24), (100, [.val (.nilFunc)], 8), (109, [.val (.pointer none)], 8), (117, [.val (.nilFunc)], 8)]
  bools := [(4, ())]
  conc := [(1, ()), (3, ()), (4, ()), (5, ()), (9, ()), (23, ()), (26, ()), (31, ()), (32, ()), (38, ()), (43, ()), (45, ()), (55, ()), (58, ()), (60, ()), (61, ()), (62, ()), (69, ()), (70, ()), (71, ()), (78, ()), (88, ()), (89, ()), (97, ()), (99, ()), (100, ()), (109, ()), (117, ())]
  pl := [(23, [(0, 1), (1, 1), (2, 1), (3, 1)]), (38, [(0, 1), (1, 1), (2, 1), (3, 1), (4, 1), (5, 1)]), (43, [(0, 1), (1, 1), (2, 1)]), (55, []), (60, [(0, 1), (1, 1)])]
  eqs := [(3, .int), (4, .bool), (5, .int), (9, .str), (26, .int), (38, .struct [(0, 3), (1, 3), (2, 3), (3, 3), (4, 4), (5, 9)])]
theorem inf_ty : AllL (fun p : Nat × Nat × Bool => Ty Tryd.prog p.1 p.2.1 p.2.2) inf.ty := .cons (⟨by kernel_rfl, by kernel_rfl⟩) <| .cons (⟨by kernel_rfl, by kernel_rfl⟩) <| .cons (⟨by kernel_rfl, by kernel_rfl⟩) <| .cons (⟨by kernel_rfl, by kernel_rfl⟩) <| .cons (⟨by kernel_rfl, by kernel_rfl⟩) <| .cons (⟨by kernel_rfl, by kernel_rfl⟩) <| .cons (⟨by kernel_rfl, by kernel_rfl⟩) <| .cons (⟨by kernel_rfl, by kernel_rfl⟩) <| .cons (⟨by kernel_rfl, by kernel_rfl⟩) <| .cons (⟨by kernel_rfl, by kernel_rfl⟩) <| .cons (⟨by kernel_rfl, by kernel_rfl⟩) <| .cons (⟨by kernel_rfl, by kernel_rfl⟩) <| .cons (⟨by kernel_rfl, by kernel_rfl⟩) <| .cons (⟨by kernel_rfl, by kernel_rfl⟩) <| .cons (⟨by kernel_rfl, by kernel_rfl⟩) <| .cons (⟨by kernel_rfl, by kernel_rfl⟩) <| .cons (⟨by kernel_rfl, by kernel_rfl⟩) <| .cons (⟨by kernel_rfl, by kernel_rfl⟩) <| .cons (⟨by kernel_rfl, by kernel_rfl⟩) <| .cons (⟨by kernel_rfl, by kernel_rfl⟩) <| .cons (⟨by kernel_rfl, by kernel_rfl⟩) <| .cons (⟨by kernel_rfl, by kernel_rfl⟩) <| .cons (⟨by kernel_rfl, by kernel_rfl⟩) <| .cons (⟨by kernel_rfl, by kernel_rfl⟩) <| .cons (⟨by kernel_rfl, by kernel_rfl⟩) <| .cons (⟨by kernel_rfl, by kernel_rfl⟩) <| .cons (⟨by kernel_rfl, by kernel_rfl⟩) <| .cons (⟨by kernel_rfl, by kernel_rfl⟩) <| .cons (⟨by kernel_rfl, by kernel_rfl⟩) <| .cons (⟨by kernel_rfl, by kernel_rfl⟩) <| .nil
theorem inf_el : AllL (fun p : Nat × Nat => ElT Tryd.prog p.1 p.2) inf.el := .cons (⟨Tryd.underlying31⟩) <| .cons (⟨Tryd.underlying32⟩) <| .cons (⟨Tryd.underlying70⟩) <| .cons (⟨Tryd.underlying97⟩) <| .cons (⟨Tryd.underlying99⟩) <| .nil
theorem inf_fld : AllL (fun p : Nat × List (Nat × Nat) => ∀ j off ft, nth p.2 j = some (off, ft) → FldT Tryd.prog p.1 j off ft) inf.fld := .cons (fldAll ⟨_, Tryd.underlying23, rfl⟩) <| .cons (fldAll ⟨_, Tryd.underlying38, rfl⟩) <| .cons (fldAll ⟨_, Tryd.underlying43, rfl⟩) <| .cons (fldAll ⟨_, Tryd.underlying55, rfl⟩) <| .cons (fldAll ⟨_, Tryd.underlying60, rfl⟩) <| .nil
theorem inf_zero : AllL (fun p : Nat × List AV × Nat => ZeroT Tryd.prog p.1 p.2.1 p.2.2) inf.zero := .cons (⟨⟨.nilFunc, by kernel_rfl, rfl, rfl, rfl, rfl⟩⟩) <| .cons (⟨⟨.int .i64 0, by kernel_rfl, rfl, rfl, rfl, rfl⟩⟩) <| .cons (⟨⟨.bool false, by kernel_rfl, rfl, rfl, rfl, rfl⟩⟩) <| .cons (⟨⟨.int .u8 0, by kernel_rfl, rfl, rfl, rfl, rfl⟩⟩) <| .cons (⟨⟨.string ⟨#[]⟩, by kernel_rfl, rfl, rfl, rfl, rfl⟩⟩) <| .cons (⟨⟨.nilIface, by kernel_rfl, rfl, rfl, rfl, rfl⟩⟩) <| .cons (⟨⟨.agg #[(.int .i64 0), (.int .i64 0), (.int .i64 0), (.string ⟨#[]⟩)], by kernel_rfl, rfl, rfl, rfl, rfl⟩⟩) <| .cons (⟨⟨.int .i64 0, by kernel_rfl, rfl, rfl, rfl, rfl⟩⟩) <| .cons (⟨⟨.slice none 0 0, by kernel_rfl, rfl, rfl, rfl, rfl⟩⟩) <| .cons (⟨⟨.slice none 0 0, by kernel_rfl, rfl, rfl, rfl, rfl⟩⟩) <| .cons (⟨⟨.agg #[(.int .i64 0), (.int .i64 0), (.int .i64 0), (.int .i64 0), (.bool false), (.string ⟨#[]⟩)], by kernel_rfl, rfl, rfl, rfl, rfl⟩⟩) <| .cons (⟨⟨.agg #[(.slice none 0 0), (.bool false), (.int .i64 0)], by kernel_rfl, rfl, rfl, rfl, rfl⟩⟩) <| .cons (⟨⟨.nilFunc, by kernel_rfl, rfl, rfl, rfl, rfl⟩⟩) <| .cons (⟨⟨.pointer none, by kernel_rfl, rfl, rfl, rfl, rfl⟩⟩) <| .cons (⟨⟨.agg #[(.pointer none), (.slice none 0 0)], by kernel_rfl, rfl, rfl, rfl, rfl⟩⟩) <| .cons (⟨⟨.nilFunc, by kernel_rfl, rfl, rfl, rfl, rfl⟩⟩) <| .cons (⟨⟨.nilFunc, by kernel_rfl, rfl, rfl, rfl, rfl⟩⟩) <| .cons (⟨⟨.nilIface, by kernel_rfl, rfl, rfl, rfl, rfl⟩⟩) <| .cons (⟨⟨.pointer none, by kernel_rfl, rfl, rfl, rfl, rfl⟩⟩) <| .cons (⟨⟨.slice none 0 0, by kernel_rfl, rfl, rfl, rfl, rfl⟩⟩) <| .cons (⟨⟨.nilFunc, by kernel_rfl, rfl, rfl, rfl, rfl⟩⟩) <| .cons (⟨⟨.nilFunc, by kernel_rfl, rfl, rfl, rfl, rfl⟩⟩) <| .cons (⟨⟨.pointer none, by kernel_rfl, rfl, rfl, rfl, rfl⟩⟩) <| .cons (⟨⟨.int .u64 0, by kernel_rfl, rfl, rfl, rfl, rfl⟩⟩) <| .cons (⟨⟨.slice none 0 0, by kernel_rfl, rfl, rfl, rfl, rfl⟩⟩) <| .cons (⟨⟨.slice none 0 0, by kernel_rfl, rfl, rfl, rfl, rfl⟩⟩) <| .cons (⟨⟨.nilFunc, by kernel_rfl, rfl, rfl, rfl, rfl⟩⟩) <| .cons (⟨⟨.pointer none, by kernel_rfl, rfl, rfl, rfl, rfl⟩⟩) <| .cons (⟨⟨.nilFunc, by kernel_rfl, rfl, rfl, rfl, rfl⟩⟩) <| .nil
theorem inf_bools : AllL (fun p : Nat × Unit => (Tryd.prog).underlying p.1 = some .bool) inf.bools := .cons (Tryd.underlying4) <| .nil
theorem inf_conc : AllL (fun p : Nat × Unit => ConT Tryd.prog p.1) inf.conc := .cons (⟨by kernel_rfl⟩) <| .cons (⟨by kernel_rfl⟩) <| .cons (⟨by kernel_rfl⟩) <| .cons (⟨by kernel_rfl⟩) <| .cons (⟨by kernel_rfl⟩) <| .cons (⟨by kernel_rfl⟩) <| .cons (⟨by kernel_rfl⟩) <| .cons (⟨by kernel_rfl⟩) <| .cons (⟨by kernel_rfl⟩) <| .cons (⟨by kernel_rfl⟩) <| .cons (⟨by kernel_rfl⟩) <| .cons (⟨by kernel_rfl⟩) <| .cons (⟨by kernel_rfl⟩) <| .cons (⟨by kernel_rfl⟩) <| .cons (⟨by kernel_rfl⟩) <| .cons (⟨by kernel_rfl⟩) <| .cons (⟨by kernel_rfl⟩) <| .cons (⟨by kernel_rfl⟩) <| .cons (⟨by kernel_rfl⟩) <| .cons (⟨by kernel_rfl⟩) <| .cons (⟨by kernel_rfl⟩) <| .cons (⟨by kernel_rfl⟩) <| .cons (⟨by kernel_rfl⟩) <| .cons (⟨by kernel_rfl⟩) <| .cons (⟨by kernel_rfl⟩) <| .cons (⟨by kernel_rfl⟩) <| .cons (⟨by kernel_rfl⟩) <| .cons (⟨by kernel_rfl⟩) <| .nil
theorem inf_pl : AllL (fun p : Nat × List (Nat × Nat) => StrT Tryd.prog p.1 p.2) inf.pl := .cons (⟨⟨_, Tryd.underlying23, by kernel_rfl⟩⟩) <| .cons (⟨⟨_, Tryd.underlying38, by kernel_rfl⟩⟩) <| .cons (⟨⟨_, Tryd.underlying43, by kernel_rfl⟩⟩) <| .cons (⟨⟨_, Tryd.underlying55, by kernel_rfl⟩⟩) <| .cons (⟨⟨_, Tryd.underlying60, by kernel_rfl⟩⟩) <| .nil
theorem inf_eqs : AllL (fun p : Nat × EK => EqK Tryd.prog p.1 p.2) inf.eqs := .cons (⟨_, Tryd.underlying3⟩) <| .cons (Tryd.underlying4) <| .cons (⟨_, Tryd.underlying5⟩) <| .cons (Tryd.underlying9) <| .cons (⟨_, Tryd.underlying26⟩) <| .cons (⟨⟨_, Tryd.underlying38, rfl, by kernel_rfl⟩, by kernel_rfl, by kernel_rfl⟩) <| .nil
instance infI : Inf Tryd.prog inf := ⟨inf_ty, inf_el, inf_fld, inf_zero, inf_bools, inf_conc, inf_pl, inf_eqs⟩
instance fun3 : Fun Tryd.prog 3 Tryd.f3 (bodyOf Tryd.f3) := ⟨Tryd.func3, rfl, by kernel_rfl⟩
instance fun4 : Fun Tryd.prog 4 Tryd.f4 (bodyOf Tryd.f4) := ⟨Tryd.func4, rfl, by kernel_rfl⟩
instance fun5 : Fun Tryd.prog 5 Tryd.f5 (bodyOf Tryd.f5) := ⟨Tryd.func5, rfl, by kernel_rfl⟩
instance fun6 : Fun Tryd.prog 6 Tryd.f6 (bodyOf Tryd.f6) := ⟨Tryd.func6, rfl, by kernel_rfl⟩
instance fun7 : Fun Tryd.prog 7 Tryd.f7 (bodyOf Tryd.f7) := ⟨Tryd.func7, rfl, by kernel_rfl⟩
instance fun8 : Fun Tryd.prog 8 Tryd.f8 (bodyOf Tryd.f8) := ⟨Tryd.func8, rfl, by kernel_rfl⟩
instance fun9 : Fun Tryd.prog 9 Tryd.f9 (bodyOf Tryd.f9) := ⟨Tryd.func9, rfl, by kernel_rfl⟩
instance fun10 : Fun Tryd.prog 10 Tryd.f10 (bodyOf Tryd.f10) := ⟨Tryd.func10, rfl, by kernel_rfl⟩
instance fun11 : Fun Tryd.prog 11 Tryd.f11 (bodyOf Tryd.f11) := ⟨Tryd.func11, rfl, by kernel_rfl⟩
instance fun12 : Fun Tryd.prog 12 Tryd.f12 (bodyOf Tryd.f12) := ⟨Tryd.func12, rfl, by kernel_rfl⟩
instance fun13 : Fun Tryd.prog 13 Tryd.f13 (bodyOf Tryd.f13) := ⟨Tryd.func13, rfl, by kernel_rfl⟩
instance fun14 : Fun Tryd.prog 14 Tryd.f14 (bodyOf Tryd.f14) := ⟨Tryd.func14, rfl, by kernel_rfl⟩
instance fun22 : Fun Tryd.prog 22 Tryd.f22 (bodyOf Tryd.f22) := ⟨Tryd.func22, rfl, by kernel_rfl⟩
instance fun23 : Fun Tryd.prog 23 Tryd.f23 (bodyOf Tryd.f23) := ⟨Tryd.func23, rfl, by kernel_rfl⟩
instance fun24 : Fun Tryd.prog 24 Tryd.f24 (bodyOf Tryd.f24) := ⟨Tryd.func24, rfl, by kernel_rfl⟩
instance fun25 : Fun Tryd.prog 25 Tryd.f25 (bodyOf Tryd.f25) := ⟨Tryd.func25, rfl, by kernel_rfl⟩
instance fun26 : Fun Tryd.prog 26 Tryd.f26 (bodyOf Tryd.f26) := ⟨Tryd.func26, rfl, by kernel_rfl⟩
instance fun27 : Fun Tryd.prog 27 Tryd.f27 (bodyOf Tryd.f27) := ⟨Tryd.func27, rfl, by kernel_rfl⟩
instance fun28 : Fun Tryd.prog 28 Tryd.f28 (bodyOf Tryd.f28) := ⟨Tryd.func28, rfl, by kernel_rfl⟩
instance fun29 : Fun Tryd.prog 29 Tryd.f29 (bodyOf Tryd.f29) := ⟨Tryd.func29, rfl, by kernel_rfl⟩
instance fun30 : Fun Tryd.prog 30 Tryd.f30 (bodyOf Tryd.f30) := ⟨Tryd.func30, rfl, by kernel_rfl⟩
instance fun31 : Fun Tryd.prog 31 Tryd.f31 (bodyOf Tryd.f31) := ⟨Tryd.func31, rfl, by kernel_rfl⟩
instance fun32 : Fun Tryd.prog 32 Tryd.f32 (bodyOf Tryd.f32) := ⟨Tryd.func32, rfl, by kernel_rfl⟩
instance fun33 : Fun Tryd.prog 33 Tryd.f33 (bodyOf Tryd.f33) := ⟨Tryd.func33, rfl, by kernel_rfl⟩
instance fun34 : Fun Tryd.prog 34 Tryd.f34 (bodyOf Tryd.f34) := ⟨Tryd.func34, rfl, by kernel_rfl⟩
instance fun35 : Fun Tryd.prog 35 Tryd.f35 (bodyOf Tryd.f35) := ⟨Tryd.func35, rfl, by kernel_rfl⟩
instance fun36 : Fun Tryd.prog 36 Tryd.f36 (bodyOf Tryd.f36) := ⟨Tryd.func36, rfl, by kernel_rfl⟩
instance fun37 : Fun Tryd.prog 37 Tryd.f37 (bodyOf Tryd.f37) := ⟨Tryd.func37, rfl, by kernel_rfl⟩
instance fun42 : Fun Tryd.prog 42 Tryd.f42 (bodyOf Tryd.f42) := ⟨Tryd.func42, rfl, by kernel_rfl⟩
instance fun43 : Fun Tryd.prog 43 Tryd.f43 (bodyOf Tryd.f43) := ⟨Tryd.func43, rfl, by kernel_rfl⟩
instance fun44 : Fun Tryd.prog 44 Tryd.f44 (bodyOf Tryd.f44) := ⟨Tryd.func44, rfl, by kernel_rfl⟩
instance fun45 : Fun Tryd.prog 45 Tryd.f45 (bodyOf Tryd.f45) := ⟨Tryd.func45, rfl, by kernel_rfl⟩
instance fun46 : Fun Tryd.prog 46 Tryd.f46 (bodyOf Tryd.f46) := ⟨Tryd.func46, rfl, by kernel_rfl⟩
instance fun47 : Fun Tryd.prog 47 Tryd.f47 (bodyOf Tryd.f47) := ⟨Tryd.func47, rfl, by kernel_rfl⟩
instance fun49 : Fun Tryd.prog 49 Tryd.f49 (bodyOf Tryd.f49) := ⟨Tryd.func49, rfl, by kernel_rfl⟩
instance fun50 : Fun Tryd.prog 50 Tryd.f50 (bodyOf Tryd.f50) := ⟨Tryd.func50, rfl, by kernel_rfl⟩
instance fun56 : Fun Tryd.prog 56 Tryd.f56 (bodyOf Tryd.f56) := ⟨Tryd.func56, rfl, by kernel_rfl⟩
instance fun57 : Fun Tryd.prog 57 Tryd.f57 (bodyOf Tryd.f57) := ⟨Tryd.func57, rfl, by kernel_rfl⟩
instance fun58 : Fun Tryd.prog 58 Tryd.f58 (bodyOf Tryd.f58) := ⟨Tryd.func58, rfl, by kernel_rfl⟩
instance fun62 : Fun Tryd.prog 62 Tryd.f62 (bodyOf Tryd.f62) := ⟨Tryd.func62, rfl, by kernel_rfl⟩
instance fun63 : Fun Tryd.prog 63 Tryd.f63 (bodyOf Tryd.f63) := ⟨Tryd.func63, rfl, by kernel_rfl⟩
instance fun64 : Fun Tryd.prog 64 Tryd.f64 (bodyOf Tryd.f64) := ⟨Tryd.func64, rfl, by kernel_rfl⟩
instance fun65 : Fun Tryd.prog 65 Tryd.f65 (bodyOf Tryd.f65) := ⟨Tryd.func65, rfl, by kernel_rfl⟩
instance fun72 : Fun Tryd.prog 72 Tryd.f72 (bodyOf Tryd.f72) := ⟨Tryd.func72, rfl, by kernel_rfl⟩
instance fun73 : Fun Tryd.prog 73 Tryd.f73 (bodyOf Tryd.f73) := ⟨Tryd.func73, rfl, by kernel_rfl⟩
instance fun74 : Fun Tryd.prog 74 Tryd.f74 (bodyOf Tryd.f74) := ⟨Tryd.func74, rfl, by kernel_rfl⟩
instance fun75 : Fun Tryd.prog 75 Tryd.f75 (bodyOf Tryd.f75) := ⟨Tryd.func75, rfl, by kernel_rfl⟩
instance fun76 : Fun Tryd.prog 76 Tryd.f76 (bodyOf Tryd.f76) := ⟨Tryd.func76, rfl, by kernel_rfl⟩
instance fun77 : Fun Tryd.prog 77 Tryd.f77 (bodyOf Tryd.f77) := ⟨Tryd.func77, rfl, by kernel_rfl⟩
instance fun82 : Fun Tryd.prog 82 Tryd.f82 (bodyOf Tryd.f82) := ⟨Tryd.func82, rfl, by kernel_rfl⟩
instance fun83 : Fun Tryd.prog 83 Tryd.f83 (bodyOf Tryd.f83) := ⟨Tryd.func83, rfl, by kernel_rfl⟩
end Go.Iron.Tryd

/- Iron: this seat's further tables, by program (mkinf2.py). -/
set_option maxRecDepth 10000
namespace Go.Iron.Tryd
open Go.Proofs
noncomputable def jnf : TJ where
  ifs := [(20, ()), (64, ()), (65, ())]
  zv := [(55, .agg [])]
  strs := [(9, ()), (10, ()), (11, ())]
  ints := [(2, .i64), (3, .i64), (5, .u8), (6, .u8), (12, .u64), (21, .i32), (26, .i64), (89, .u64), (111, .u32), (114, .u64), (143, .u8), (144, .u8), (146, .i32), (147, .i32)]
  fns := [(3, Tryd.f3), (4, Tryd.f4), (5, Tryd.f5), (6, Tryd.f6), (7, Tryd.f7), (8, Tryd.f8), (10, Tryd.f10), (11, Tryd.f11), (12, Tryd.f12), (13, Tryd.f13), (14, Tryd.f14), (22, Tryd.f22), (23, Tryd.f23), (24, Tryd.f24), (26, Tryd.f26), (27, Tryd.f27), (28, Tryd.f28), (29, Tryd.f29), (30, Tryd.f30), (31, Tryd.f31), (32, Tryd.f32), (33, Tryd.f33), (34, Tryd.f34), (35, Tryd.f35), (36, Tryd.f36), (37, Tryd.f37), (42, Tryd.f42), (43, Tryd.f43), (44, Tryd.f44), (45, Tryd.f45), (46, Tryd.f46), (47, Tryd.f47), (49, Tryd.f49), (50, Tryd.f50), (56, Tryd.f56), (57, Tryd.f57), (58, Tryd.f58), (62, Tryd.f62), (63, Tryd.f63), (64, Tryd.f64), (65, Tryd.f65), (72, Tryd.f72), (73, Tryd.f73), (74, Tryd.f74), (75, Tryd.f75), (76, Tryd.f76), (77, Tryd.f77), (82, Tryd.f82), (83, Tryd.f83)]
  dr := [(4, [(11, 15)]), (6, [(6, 5)]), (11, [(11, 5), (22, 15)]), (13, [(1, 12), (5, 11)]), (22, [(5, 12), (6, 3)]), (28, [(1, 10)]), (30, [(2, 13)]), (34, [(3, 5)]), (36, [(6, 8), (7, 10)]), (63, [(1, 5)]), (64, [(16, 9)]), (65, [(3, 14)])]
  maps := []
  arrs := [(47, 256, 4), (48, 256, 4), (118, 256, 5), (121, 16, 120), (125, 24, 5), (132, 20, 114), (133, 65, 5), (136, 32, 5), (137, 64, 5), (140, 0, 16)]
theorem jnf_ifs : AllL (fun p : Nat × Unit => ∃ ms, (Tryd.prog).underlying p.1 = some (.interface ms)) jnf.ifs := .cons (⟨_, Tryd.underlying20⟩) <| .cons (⟨_, Tryd.underlying64⟩) <| .cons (⟨_, Tryd.underlying65⟩) <| .nil
theorem jnf_zv : AllL (fun p : Nat × AV => ZV Tryd.prog p.1 p.2) jnf.zv := .cons (⟨by kernel_rfl, .agg #[], by kernel_rfl, rfl⟩) <| .nil
theorem jnf_strs : AllL (fun p : Nat × Unit => (Tryd.prog).underlying p.1 = some .string) jnf.strs := .cons (Tryd.underlying9) <| .cons (Tryd.underlying10) <| .cons (Tryd.underlying11) <| .nil
theorem jnf_ints : AllL (fun p : Nat × IntKind => (Tryd.prog).underlying p.1 = some (.int p.2)) jnf.ints := .cons (Tryd.underlying2) <| .cons (Tryd.underlying3) <| .cons (Tryd.underlying5) <| .cons (Tryd.underlying6) <| .cons (Tryd.underlying12) <| .cons (Tryd.underlying21) <| .cons (Tryd.underlying26) <| .cons (Tryd.underlying89) <| .cons (Tryd.underlying111) <| .cons (Tryd.underlying114) <| .cons (Tryd.underlying143) <| .cons (Tryd.underlying144) <| .cons (Tryd.underlying146) <| .cons (Tryd.underlying147) <| .nil
theorem jnf_fns : AllL (fun p : Nat × Func => (Tryd.prog).funcs[p.1]? = some p.2 ∧ p.2.body.isSome = true ∧ (p.2.name == "runtime.NumGoroutine") = false) jnf.fns := .cons (⟨Tryd.func3, rfl, by kernel_rfl⟩) <| .cons (⟨Tryd.func4, rfl, by kernel_rfl⟩) <| .cons (⟨Tryd.func5, rfl, by kernel_rfl⟩) <| .cons (⟨Tryd.func6, rfl, by kernel_rfl⟩) <| .cons (⟨Tryd.func7, rfl, by kernel_rfl⟩) <| .cons (⟨Tryd.func8, rfl, by kernel_rfl⟩) <| .cons (⟨Tryd.func10, rfl, by kernel_rfl⟩) <| .cons (⟨Tryd.func11, rfl, by kernel_rfl⟩) <| .cons (⟨Tryd.func12, rfl, by kernel_rfl⟩) <| .cons (⟨Tryd.func13, rfl, by kernel_rfl⟩) <| .cons (⟨Tryd.func14, rfl, by kernel_rfl⟩) <| .cons (⟨Tryd.func22, rfl, by kernel_rfl⟩) <| .cons (⟨Tryd.func23, rfl, by kernel_rfl⟩) <| .cons (⟨Tryd.func24, rfl, by kernel_rfl⟩) <| .cons (⟨Tryd.func26, rfl, by kernel_rfl⟩) <| .cons (⟨Tryd.func27, rfl, by kernel_rfl⟩) <| .cons (⟨Tryd.func28, rfl, by kernel_rfl⟩) <| .cons (⟨Tryd.func29, rfl, by kernel_rfl⟩) <| .cons (⟨Tryd.func30, rfl, by kernel_rfl⟩) <| .cons (⟨Tryd.func31, rfl, by kernel_rfl⟩) <| .cons (⟨Tryd.func32, rfl, by kernel_rfl⟩) <| .cons (⟨Tryd.func33, rfl, by kernel_rfl⟩) <| .cons (⟨Tryd.func34, rfl, by kernel_rfl⟩) <| .cons (⟨Tryd.func35, rfl, by kernel_rfl⟩) <| .cons (⟨Tryd.func36, rfl, by kernel_rfl⟩) <| .cons (⟨Tryd.func37, rfl, by kernel_rfl⟩) <| .cons (⟨Tryd.func42, rfl, by kernel_rfl⟩) <| .cons (⟨Tryd.func43, rfl, by kernel_rfl⟩) <| .cons (⟨Tryd.func44, rfl, by kernel_rfl⟩) <| .cons (⟨Tryd.func45, rfl, by kernel_rfl⟩) <| .cons (⟨Tryd.func46, rfl, by kernel_rfl⟩) <| .cons (⟨Tryd.func47, rfl, by kernel_rfl⟩) <| .cons (⟨Tryd.func49, rfl, by kernel_rfl⟩) <| .cons (⟨Tryd.func50, rfl, by kernel_rfl⟩) <| .cons (⟨Tryd.func56, rfl, by kernel_rfl⟩) <| .cons (⟨Tryd.func57, rfl, by kernel_rfl⟩) <| .cons (⟨Tryd.func58, rfl, by kernel_rfl⟩) <| .cons (⟨Tryd.func62, rfl, by kernel_rfl⟩) <| .cons (⟨Tryd.func63, rfl, by kernel_rfl⟩) <| .cons (⟨Tryd.func64, rfl, by kernel_rfl⟩) <| .cons (⟨Tryd.func65, rfl, by kernel_rfl⟩) <| .cons (⟨Tryd.func72, rfl, by kernel_rfl⟩) <| .cons (⟨Tryd.func73, rfl, by kernel_rfl⟩) <| .cons (⟨Tryd.func74, rfl, by kernel_rfl⟩) <| .cons (⟨Tryd.func75, rfl, by kernel_rfl⟩) <| .cons (⟨Tryd.func76, rfl, by kernel_rfl⟩) <| .cons (⟨Tryd.func77, rfl, by kernel_rfl⟩) <| .cons (⟨Tryd.func82, rfl, by kernel_rfl⟩) <| .cons (⟨Tryd.func83, rfl, by kernel_rfl⟩) <| .nil
theorem jnf_maps : AllL (fun p : Nat × Option IntKind × Nat => MapT Tryd.prog p.1 p.2.1 p.2.2) jnf.maps := .nil
theorem jnf_arrs : AllL (fun p : Nat × Nat × Nat => (Tryd.prog).underlying p.1 = some (.array p.2.1 p.2.2)) jnf.arrs := .cons (Tryd.underlying47) <| .cons (Tryd.underlying48) <| .cons (Tryd.underlying118) <| .cons (Tryd.underlying121) <| .cons (Tryd.underlying125) <| .cons (Tryd.underlying132) <| .cons (Tryd.underlying133) <| .cons (Tryd.underlying136) <| .cons (Tryd.underlying137) <| .cons (Tryd.underlying140) <| .nil
instance jnfI : Inf2 Tryd.prog jnf := ⟨jnf_ifs, jnf_zv, jnf_strs, jnf_ints, jnf_fns, by kernel_rfl, jnf_maps, jnf_arrs⟩
end Go.Iron.Tryd

/-
  DERIVED: THE SHELF's CONTRACTS AT THIS DUMP, IN PLAIN WORDS (tools/lay-plain.mjs out of 'DdShelf.lean', which tools/lay-shelf.mjs wrote): THE SAME DECLARATIONS UNDER THE SAME NAMES: 'import', 'namespace', 'open', 'def', 'theorem' AND NOTHING ELSE: no command of the shelf's: FOR A HAND-IN. Each laying: the table of numbers ('.._ren') and one theorem, a field a fact of the dump's own or the kernel's comparison; each contract: ONE APPLICATION.
-/
namespace Go.Proofs
open Go.Shelf
def Tryd.lays160_ren : Go.Shelf.Ren := ⟨fun | 160 => 9 | 232 => 16 | 231 => 15 | 227 => 17 | 234 => 19 | 233 => 18 | 236 => 21 | 235 => 20 | 228 => 38 | 271 => 41 | 151 => 40 | 197 => 39 | 120 => 61 | 152 => 60 | 260 => 59 | 137 => 78 | 119 => 79 | 224 => 80 | 225 => 81 | 217 => 89 | 266 => 95 | n => n, fun | 9 => 9 | 4 => 4 | 3 => 3 | 5 => 5 | 117 => 49 | 116 => 48 | 0 => 0 | 124 => 52 | 21 => 21 | 105 => 79 | 46 => 89 | 119 => 118 | 139 => 121 | 138 => 120 | n => n, fun | 3 => 0 | 4 => 1 | n => n⟩
theorem Tryd.lays160 : Go.Proofs.Lays.n160 Tryd.prog Tryd.lays160_ren := {
  mixed := by kernel_rfl
  f119 := Tryd.func79.trans (congrArg some (by kernel_rfl))
  f120 := Tryd.func61.trans (congrArg some (by kernel_rfl))
  f137 := Tryd.func78.trans (congrArg some (by kernel_rfl))
  f151 := Tryd.func40.trans (congrArg some (by kernel_rfl))
  f152 := Tryd.func60.trans (congrArg some (by kernel_rfl))
  f160 := Tryd.func9.trans (congrArg some (by kernel_rfl))
  f197 := Tryd.func39.trans (congrArg some (by kernel_rfl))
  f217 := Tryd.func89.trans (congrArg some (by kernel_rfl))
  f224 := Tryd.func80.trans (congrArg some (by kernel_rfl))
  f225 := Tryd.func81.trans (congrArg some (by kernel_rfl))
  f227 := Tryd.func17.trans (congrArg some (by kernel_rfl))
  f228 := Tryd.func38.trans (congrArg some (by kernel_rfl))
  f231 := Tryd.func15.trans (congrArg some (by kernel_rfl))
  f232 := Tryd.func16.trans (congrArg some (by kernel_rfl))
  f233 := Tryd.func18.trans (congrArg some (by kernel_rfl))
  f234 := Tryd.func19.trans (congrArg some (by kernel_rfl))
  f235 := Tryd.func20.trans (congrArg some (by kernel_rfl))
  f236 := Tryd.func21.trans (congrArg some (by kernel_rfl))
  f260 := Tryd.func59.trans (congrArg some (by kernel_rfl))
  f266 := Tryd.func95.trans (congrArg some (by kernel_rfl))
  f271 := Tryd.func41.trans (congrArg some (by kernel_rfl))
  t0 := Tryd.underlying0
  a0 := Tryd.isAgg0
  z0 := Tryd.sizeOf0
  v0 := Tryd.zeroValue0
  t3 := Tryd.underlying3
  a3 := Tryd.isAgg3
  z3 := Tryd.sizeOf3
  v3 := Tryd.zeroValue3
  t4 := Tryd.underlying4
  a4 := Tryd.isAgg4
  z4 := Tryd.sizeOf4
  v4 := Tryd.zeroValue4
  t5 := Tryd.underlying5
  a5 := Tryd.isAgg5
  z5 := Tryd.sizeOf5
  v5 := Tryd.zeroValue5
  t9 := Tryd.underlying9
  a9 := Tryd.isAgg9
  z9 := Tryd.sizeOf9
  v9 := Tryd.zeroValue9
  t21 := Tryd.underlying21
  a21 := Tryd.isAgg21
  z21 := Tryd.sizeOf21
  v21 := Tryd.zeroValue21
  t46 := Tryd.underlying89
  a46 := Tryd.isAgg89
  z46 := Tryd.sizeOf89
  v46 := Tryd.zeroValue89
  t105 := Tryd.underlying79
  a105 := Tryd.isAgg79
  z105 := Tryd.sizeOf79
  v105 := Tryd.zeroValue79
  t116 := Tryd.underlying48
  a116 := Tryd.isAgg48
  z116 := Tryd.sizeOf48
  t117 := Tryd.underlying49
  a117 := Tryd.isAgg49
  z117 := Tryd.sizeOf49
  v117 := Tryd.zeroValue49
  t119 := Tryd.underlying118
  a119 := Tryd.isAgg118
  z119 := Tryd.sizeOf118
  t124 := Tryd.underlying52
  a124 := Tryd.isAgg52
  z124 := Tryd.sizeOf52
  v124 := Tryd.zeroValue52
  t138 := Tryd.underlying120
  a138 := Tryd.isAgg120
  z138 := Tryd.sizeOf120
  v138 := Tryd.zeroValue120
  t139 := Tryd.underlying121
  a139 := Tryd.isAgg121
  z139 := Tryd.sizeOf121
  v139 := Tryd.zeroValue121
  g3 := by kernel_rfl
  g4 := by kernel_rfl }
open Go.RowKit in
/-- strings.Trim at an ASCII cutset. -/
theorem Tryd.strings_Trim_laid (s cutset : ByteArray) (w : World) (hs : s.size ≤ 9223372036854775807) (hcs : cutset.size < 4294967281) (hascii : ∀ (j : Nat) b, cutset.data.toList[j]? = some b → b.toNat < 128) :
    Calls Tryd.prog 9 #[.string s, .string cutset] w fun e w' => e = .returned (.string ⟨(Lib.trimS s.data.toList cutset.data.toList).toArray⟩) ∧ Below w.heap.size w w' := Any.strings_Trim_laid Tryd.lays160 (by kernel_rfl) s cutset w hs hcs hascii
def Tryd.lays105_ren : Go.Shelf.Ren := ⟨fun | 105 => 29 | 212 => 51 | 99 => 52 | 165 => 53 | 166 => 54 | 170 => 55 | 169 => 28 | 263 => 68 | 264 => 69 | 206 => 70 | 240 => 50 | 241 => 71 | 276 => 67 | 277 => 88 | n => n, fun | 9 => 9 | 3 => 3 | 4 => 4 | 20 => 20 | 0 => 0 | 46 => 89 | 109 => 90 | 5 => 5 | 72 => 60 | 76 => 94 | 51 => 111 | 146 => 112 | 53 => 114 | 148 => 115 | 70 => 58 | 37 => 31 | 75 => 65 | 127 => 88 | 164 => 109 | 80 => 67 | n => n, fun | n => n⟩
theorem Tryd.lays105 : Go.Proofs.Lays.n105 Tryd.prog Tryd.lays105_ren := {
  mixed := by kernel_rfl
  f99 := Tryd.func52.trans (congrArg some (by kernel_rfl))
  f105 := Tryd.func29.trans (congrArg some (by kernel_rfl))
  f165 := Tryd.func53.trans (congrArg some (by kernel_rfl))
  f166 := Tryd.func54.trans (congrArg some (by kernel_rfl))
  f169 := Tryd.func28.trans (congrArg some (by kernel_rfl))
  f170 := Tryd.func55.trans (congrArg some (by kernel_rfl))
  f206 := Tryd.func70.trans (congrArg some (by kernel_rfl))
  f212 := Tryd.func51.trans (congrArg some (by kernel_rfl))
  f240 := Tryd.func50.trans (congrArg some (by kernel_rfl))
  f241 := Tryd.func71.trans (congrArg some (by kernel_rfl))
  f263 := Tryd.func68.trans (congrArg some (by kernel_rfl))
  f264 := Tryd.func69.trans (congrArg some (by kernel_rfl))
  f276 := Tryd.func67.trans (congrArg some (by kernel_rfl))
  f277 := Tryd.func88.trans (congrArg some (by kernel_rfl))
  t0 := Tryd.underlying0
  a0 := Tryd.isAgg0
  z0 := Tryd.sizeOf0
  v0 := Tryd.zeroValue0
  t3 := Tryd.underlying3
  a3 := Tryd.isAgg3
  z3 := Tryd.sizeOf3
  v3 := Tryd.zeroValue3
  t4 := Tryd.underlying4
  a4 := Tryd.isAgg4
  z4 := Tryd.sizeOf4
  v4 := Tryd.zeroValue4
  t5 := Tryd.underlying5
  a5 := Tryd.isAgg5
  z5 := Tryd.sizeOf5
  v5 := Tryd.zeroValue5
  t9 := Tryd.underlying9
  a9 := Tryd.isAgg9
  z9 := Tryd.sizeOf9
  v9 := Tryd.zeroValue9
  t20 := Tryd.underlying20
  a20 := Tryd.isAgg20
  z20 := Tryd.sizeOf20
  v20 := Tryd.zeroValue20
  t37 := Tryd.underlying31
  a37 := Tryd.isAgg31
  z37 := Tryd.sizeOf31
  v37 := Tryd.zeroValue31
  t46 := Tryd.underlying89
  a46 := Tryd.isAgg89
  z46 := Tryd.sizeOf89
  v46 := Tryd.zeroValue89
  t51 := Tryd.underlying111
  a51 := Tryd.isAgg111
  z51 := Tryd.sizeOf111
  v51 := Tryd.zeroValue111
  t53 := Tryd.underlying114
  a53 := Tryd.isAgg114
  z53 := Tryd.sizeOf114
  v53 := Tryd.zeroValue114
  t70 := Tryd.underlying58
  a70 := Tryd.isAgg58
  z70 := Tryd.sizeOf58
  v70 := Tryd.zeroValue58
  t72 := Tryd.underlying60
  a72 := Tryd.isAgg60
  z72 := Tryd.sizeOf60
  v72 := Tryd.zeroValue60
  t75 := Tryd.underlying65
  a75 := Tryd.isAgg65
  z75 := Tryd.sizeOf65
  v75 := Tryd.zeroValue65
  t76 := Tryd.underlying94
  a76 := Tryd.isAgg94
  z76 := Tryd.sizeOf94
  v76 := Tryd.zeroValue94
  t109 := Tryd.underlying90
  a109 := Tryd.isAgg90
  z109 := Tryd.sizeOf90
  v109 := Tryd.zeroValue90
  t127 := Tryd.underlying88
  a127 := Tryd.isAgg88
  z127 := Tryd.sizeOf88
  v127 := Tryd.zeroValue88
  t146 := Tryd.underlying112
  a146 := Tryd.isAgg112
  z146 := Tryd.sizeOf112
  v146 := Tryd.zeroValue112
  t148 := Tryd.underlying115
  a148 := Tryd.isAgg115
  z148 := Tryd.sizeOf115
  v148 := Tryd.zeroValue115
  t164 := Tryd.underlying109
  a164 := Tryd.isAgg109
  z164 := Tryd.sizeOf109
  v164 := Tryd.zeroValue109 }
theorem Tryd.Builder_Extra_105 : Builder.Extra Tryd.prog Tryd.lays105_ren := {
  sizeBuilder := by kernel_rfl
  liesBuilder := by kernel_rfl
  t5 := Tryd.underlying5
  a5 := Tryd.isAgg5
  z5 := Tryd.sizeOf5
  v5 := Tryd.zeroValue5
  infoByte := by kernel_rfl
  cellsByte := by kernel_rfl
  sizeByte := by kernel_rfl
  neB5 := by decide }
open Go.RowKit Go.Lib in
/-- **strings.Repeat: count ≥ 0, the result within one allocation: count copies of s.** (LAID: no walk: one application.) -/
theorem Tryd.strings_Repeat (s : ByteArray) (c : Nat) (w : World) (hc : c ≤ 9223372036854775807) (hlen : s.size * c ≤ 140737488355328) :
    Calls Tryd.prog 29 #[.string s, .int .i64 c] w fun e w' => e = .returned (.string ⟨(Lib.repeatL s.data.toList c).toArray⟩) ∧ Below w.heap.size w w' := Any.strings_Repeat Tryd.lays105 Tryd.Builder_Extra_105 s c w hc hlen
end Go.Proofs

/- Tokens of a text, as plain functions (no program in sight). -/
namespace Go.Iron.Tok

abbrev Str := List UInt8
/-- The byte at a place; 0 behind the end. -/
def byt (s : Str) (p : Nat) : Nat := (s.getD p 0).toNat
def plP (c : Nat) : Bool := (decide (32 ≤ c) && decide (c ≤ 126)) || c == 10 || c == 9
def part (s : Str) (p q : Nat) : Str := (s.take q).drop p
structure Tk where
  kind : Nat
  text : Str
  at_ : Nat
deriving DecidableEq
/-- What is read at a place: a token or none, and the place behind it; or where the text is wrong. -/
inductive Rd
  | ok (t : Option Tk) (p : Nat)
  | bad (q : Nat)

/-- In quotes: what stands there and the place of the quote that ends it; or where it is wrong. -/
inductive Qt
  | fin (l : Str) (p : Nat)
  | bad (q : Nat)
def quoL (s : Str) (from_ : Nat) (p : Nat) (acc : Str) : Qt :=
  if h : p < s.length then
    if byt s p = 10 ∨ byt s p = 9 then .bad from_
    else if plP (byt s p) = false then .bad p
    else if byt s p ≠ 39 then quoL s from_ (p + 1) (acc ++ [s.getD p 0])
    else if byt s (p + 1) = 39 then quoL s from_ (p + 2) (acc ++ [39])
    else .fin acc p
  else .bad from_
termination_by s.length - p
decreasing_by all_goals omega
end Go.Iron.Tok

/- Tokens of a text: places go on. -/
namespace Go.Iron.Tok

end Go.Iron.Tok

/- Tokens of a text: great letters outside of quotes make no difference (P9.4), in plain Lean. -/
namespace Go.Iron.Tok

end Go.Iron.Tok

/- Tokens of a text: what the law makes of a text, and that it is read the same (P9.4), in plain Lean. -/
namespace Go.Iron.Tok

end Go.Iron.Tok

/- Naturals by their decimal digits, the least one first, as plain lists. -/
namespace Go.Iron.Dg

def frm (n : Nat) : List Nat := if h : n = 0 then [] else n % 10 :: frm (n / 10)
termination_by n
decreasing_by omega
def val : List Nat → Nat
  | [] => 0
  | d :: l => d + 10 * val l
theorem frm_zero : frm 0 = [] := by rw [frm, dif_pos rfl]
theorem frm_pos {n : Nat} (h : n ≠ 0) : frm n = n % 10 :: frm (n / 10) := by
  conv => lhs; rw [frm]
  rw [dif_neg h]
theorem val_frm (n : Nat) : val (frm n) = n := by
  by_cases h : n = 0
  · rw [h, frm_zero]; rfl
  · rw [frm_pos h, val, val_frm (n / 10)]
    omega
termination_by n
decreasing_by omega
/-- Digits, and no zero at the end. -/
def Canon : List Nat → Prop
  | [] => True
  | d :: l => d < 10 ∧ (l = [] → d ≠ 0) ∧ Canon l
theorem canon_frm (n : Nat) : Canon (frm n) := by
  by_cases h : n = 0
  · rw [h, frm_zero]; trivial
  · rw [frm_pos h]
    refine ⟨by omega, fun e => ?_, canon_frm (n / 10)⟩
    have := val_frm (n / 10)
    rw [e] at this
    have h2 : n / 10 = 0 := this.symm
    omega
termination_by n
decreasing_by omega
theorem val_pos : ∀ {l : List Nat}, Canon l → l ≠ [] → 0 < val l
  | [], _, h => absurd rfl h
  | d :: l, hc, _ => by
    obtain ⟨h1, h2, h3⟩ := hc
    by_cases hl : l = []
    · have := h2 hl
      rw [val]
      omega
    · have := val_pos h3 hl
      rw [val]
      omega
theorem canon_eq : ∀ {l : List Nat}, Canon l → l = frm (val l)
  | [], _ => by rw [val, frm_zero]
  | d :: l, hc => by
    obtain ⟨h1, h2, h3⟩ := hc
    have hp := val_pos (l := d :: l) ⟨h1, h2, h3⟩ (by simp)
    rw [frm_pos (by omega)]
    have e1 : val (d :: l) % 10 = d := by rw [val]; omega
    have e2 : val (d :: l) / 10 = val l := by rw [val]; omega
    rw [e1, e2, ← canon_eq h3]
theorem frm_digit {n d : Nat} (h : d ∈ frm n) : d < 10 := by
  have key : ∀ l : List Nat, Canon l → ∀ d ∈ l, d < 10 := by
    intro l
    induction l with
    | nil => intro _ d hd; cases hd
    | cons e l ih =>
      intro hc d hd
      rcases List.mem_cons.1 hd with rfl | hd
      · exact hc.1
      · exact ih hc.2.2 d hd
  exact key _ (canon_frm n) d h
theorem val_app : ∀ (a b : List Nat), val (a ++ b) = val a + 10 ^ a.length * val b
  | [], b => by rw [List.nil_append, val, List.length_nil, Nat.pow_zero]; omega
  | d :: a, b => by
    rw [List.cons_append, val, val, val_app a b, List.length_cons, Nat.pow_succ, Nat.mul_add, ← Nat.mul_assoc, Nat.mul_comm 10 (10 ^ a.length)]
    omega
theorem val_lt : ∀ {l : List Nat}, (∀ d ∈ l, d < 10) → val l < 10 ^ l.length
  | [], _ => by show 0 < 10 ^ 0; decide
  | d :: l, h => by
    have h1 := h d (by simp)
    have h2 := val_lt (l := l) fun e he => h e (by simp [he])
    rw [val, List.length_cons, Nat.pow_succ]
    omega
theorem val_ge : ∀ {l : List Nat}, Canon l → l ≠ [] → 10 ^ (l.length - 1) ≤ val l
  | [], _, h => absurd rfl h
  | d :: l, hc, _ => by
    obtain ⟨h1, h2, h3⟩ := hc
    by_cases hl : l = []
    · subst hl
      have := h2 rfl
      show 10 ^ 0 ≤ d + 10 * 0
      rw [Nat.pow_zero]
      omega
    · have ih := val_ge h3 hl
      have hp : 0 < l.length := List.length_pos_iff.2 hl
      rw [val, List.length_cons, Nat.add_sub_cancel]
      have e : 10 ^ l.length = 10 * 10 ^ (l.length - 1) := by
        obtain ⟨m, hm⟩ : ∃ m, l.length = m + 1 := ⟨l.length - 1, by omega⟩
        rw [hm, Nat.add_sub_cancel, Nat.pow_succ]
        omega
      omega
theorem frm_len_lt {n k : Nat} : (frm n).length ≤ k ↔ n < 10 ^ k := by
  constructor
  · intro h
    have h1 := val_lt (l := frm n) fun d hd => frm_digit hd
    rw [val_frm] at h1
    exact Nat.lt_of_lt_of_le h1 (Nat.pow_le_pow_right (by decide) h)
  · intro h
    rcases Nat.lt_or_ge k (frm n).length with h2 | h2
    · exfalso
      have hne : frm n ≠ [] := fun e => by rw [e] at h2; simp at h2
      have h1 := val_ge (canon_frm n) hne
      rw [val_frm] at h1
      have h3 : 10 ^ k ≤ 10 ^ ((frm n).length - 1) := Nat.pow_le_pow_right (by decide) (by omega)
      omega
    · exact h2
/-- Compared from the top. -/
def cmpN (a b : List Nat) : Nat → Int
  | 0 => 0
  | i + 1 => if a.getD i 0 < b.getD i 0 then -1 else if a.getD i 0 > b.getD i 0 then 1 else cmpN a b i
def cmpT (a b : List Nat) : Int := if a.length ≠ b.length then (if a.length < b.length then -1 else 1) else cmpN a b a.length
theorem val_take {l : List Nat} {i : Nat} (h : i < l.length) : val (l.take (i + 1)) = val (l.take i) + 10 ^ i * l.getD i 0 := by
  rw [List.take_succ_eq_append_getElem h, val_app, List.length_take, Nat.min_eq_left (by omega), List.getD_eq_getElem?_getD, List.getElem?_eq_getElem h]
  show _ + 10 ^ i * (l[i] + 10 * 0) = _
  rw [Nat.mul_zero, Nat.add_zero]
  rfl
theorem take_lt {l : List Nat} (h : ∀ d ∈ l, d < 10) {i : Nat} (hi : i ≤ l.length) : val (l.take i) < 10 ^ i := by
  have := val_lt (l := l.take i) fun d hd => h d (List.mem_of_mem_take hd)
  rwa [List.length_take, Nat.min_eq_left hi] at this
theorem cmpN_val {a b : List Nat} (ha : ∀ d ∈ a, d < 10) (hb : ∀ d ∈ b, d < 10) : ∀ i, i ≤ a.length → i ≤ b.length → cmpN a b i = if val (a.take i) < val (b.take i) then -1 else if val (a.take i) > val (b.take i) then 1 else 0
  | 0, _, _ => by rw [List.take_zero, List.take_zero]; rfl
  | i + 1, h1, h2 => by
    have ih := cmpN_val ha hb i (by omega) (by omega)
    have la := take_lt ha (i := i) (by omega)
    have lb := take_lt hb (i := i) (by omega)
    have ea := val_take (l := a) (i := i) h1
    have eb := val_take (l := b) (i := i) h2
    unfold cmpN
    generalize a.getD i 0 = x at *
    generalize b.getD i 0 = y at *
    generalize 10 ^ i = p at *
    by_cases hxy : x < y
    · have : p * (x + 1) ≤ p * y := Nat.mul_le_mul_left _ hxy
      rw [Nat.mul_add, Nat.mul_one] at this
      rw [if_pos hxy, if_pos (by omega)]
    · by_cases hyx : x > y
      · have : p * (y + 1) ≤ p * x := Nat.mul_le_mul_left _ hyx
        rw [Nat.mul_add, Nat.mul_one] at this
        rw [if_neg hxy, if_pos hyx, if_neg (by omega), if_pos (by omega)]
      · have : x = y := by omega
        subst this
        rw [if_neg hxy, if_neg hyx, ih]
        rcases Nat.lt_trichotomy (val (a.take i)) (val (b.take i)) with h | h | h
        · rw [if_pos h, if_pos (show val (a.take (i + 1)) < val (b.take (i + 1)) by omega)]
        · rw [if_neg (show ¬ val (a.take i) < val (b.take i) by omega), if_neg (show ¬ val (a.take i) > val (b.take i) by omega), if_neg (show ¬ val (a.take (i + 1)) < val (b.take (i + 1)) by omega), if_neg (show ¬ val (a.take (i + 1)) > val (b.take (i + 1)) by omega)]
        · rw [if_neg (show ¬ val (a.take i) < val (b.take i) by omega), if_pos (show val (a.take i) > val (b.take i) from h), if_neg (show ¬ val (a.take (i + 1)) < val (b.take (i + 1)) by omega), if_pos (show val (a.take (i + 1)) > val (b.take (i + 1)) by omega)]
theorem cmpT_frm (x y : Nat) : cmpT (frm x) (frm y) = if x < y then -1 else if x > y then 1 else 0 := by
  unfold cmpT
  by_cases hl : (frm x).length ≠ (frm y).length
  · rw [if_pos hl]
    by_cases h : (frm x).length < (frm y).length
    · have h1 : x < 10 ^ (frm x).length := frm_len_lt.1 (Nat.le_refl _)
      have h2 : ¬ y < 10 ^ (frm x).length := fun e => by have := frm_len_lt.2 e; omega
      rw [if_pos h, if_pos (by omega)]
    · have h1 : y < 10 ^ (frm y).length := frm_len_lt.1 (Nat.le_refl _)
      have h2 : ¬ x < 10 ^ (frm y).length := fun e => by have := frm_len_lt.2 e; omega
      rw [if_neg h, if_neg (by omega), if_pos (by omega)]
  · have hl' : (frm x).length = (frm y).length := Decidable.not_not.1 hl
    rw [if_neg hl, cmpN_val (fun d hd => frm_digit hd) (fun d hd => frm_digit hd) _ (Nat.le_refl _) (by omega), List.take_length, hl', List.take_length, val_frm, val_frm]
/-- Without zeros at the end. -/
def trim (l : List Nat) : List Nat := frm (val l)
theorem trim_zero {l : List Nat} : trim (l ++ [0]) = trim l := by
  unfold trim
  rw [val_app]
  show frm (val l + 10 ^ l.length * (0 + 10 * 0)) = _
  simp
theorem canon_app {l : List Nat} {d : Nat} (h : ∀ e ∈ l, e < 10) (hd : d < 10) (h0 : d ≠ 0) : Canon (l ++ [d]) := by
  induction l with
  | nil => exact ⟨hd, fun _ => h0, trivial⟩
  | cons e l ih => exact ⟨h e (by simp), fun e' => by simp at e', ih fun x hx => h x (by simp [hx])⟩
theorem trim_canon {l : List Nat} {d : Nat} (h : ∀ e ∈ l, e < 10) (hd : d < 10) (h0 : d ≠ 0) : trim (l ++ [d]) = l ++ [d] := (canon_eq (canon_app h hd h0)).symm
end Go.Iron.Dg

/- Digits: sums of places, by their values. -/
namespace Go.Iron.Dg

/-- The value of places that are told by a function. -/
def sumF (o : Nat → Nat) : Nat → Nat
  | 0 => 0
  | n + 1 => sumF o n + o n * 10 ^ n
def updF (o : Nat → Nat) (j v : Nat) : Nat → Nat := fun i => if i = j then v else o i
theorem sumF_congr {o p : Nat → Nat} : ∀ {n : Nat}, (∀ i, i < n → o i = p i) → sumF o n = sumF p n
  | 0, _ => rfl
  | n + 1, h => by rw [sumF, sumF, sumF_congr (fun i hi => h i (by omega)), h n (by omega)]
theorem sumF_upd {o : Nat → Nat} {j v : Nat} : ∀ {n : Nat}, j < n → sumF (updF o j v) n + o j * 10 ^ j = sumF o n + v * 10 ^ j
  | 0, h => by omega
  | n + 1, h => by
    rw [sumF, sumF]
    by_cases hj : j = n
    · subst hj
      rw [sumF_congr (o := updF o j v) (p := o) (fun i hi => by unfold updF; rw [if_neg (by omega)])]
      unfold updF
      rw [if_pos rfl]
      omega
    · have ih := sumF_upd (o := o) (v := v) (n := n) (by omega : j < n)
      have : updF o j v n = o n := by unfold updF; rw [if_neg (by omega)]
      rw [this]
      omega
def listF (o : Nat → Nat) (n : Nat) : List Nat := (List.range n).map o
theorem listF_len (o : Nat → Nat) (n : Nat) : (listF o n).length = n := by unfold listF; simp
theorem listF_succ (o : Nat → Nat) (n : Nat) : listF o (n + 1) = listF o n ++ [o n] := by unfold listF; rw [List.range_succ, List.map_append]; rfl
theorem listF_getD (o : Nat → Nat) {n i : Nat} (h : i < n) : (listF o n).getD i 0 = o i := by
  unfold listF
  rw [List.getD_eq_getElem?_getD, List.getElem?_map, List.getElem?_range h]
  rfl
theorem val_listF (o : Nat → Nat) : ∀ n, val (listF o n) = sumF o n
  | 0 => rfl
  | n + 1 => by rw [listF_succ, val_app, val_listF o n, listF_len, sumF, Nat.mul_comm (10 ^ n)]; rfl
theorem listF_lt {o : Nat → Nat} {n : Nat} (h : ∀ i, i < n → o i < 10) : ∀ d ∈ listF o n, d < 10 := by
  intro d hd
  unfold listF at hd
  obtain ⟨i, hi, rfl⟩ := List.mem_map.1 hd
  exact h i (List.mem_range.1 hi)
theorem sumF_lt {o : Nat → Nat} {n : Nat} (h : ∀ i, i < n → o i < 10) : sumF o n < 10 ^ n := by
  have := val_lt (listF_lt h)
  rw [val_listF, listF_len] at this
  exact this
theorem getD_lt {l : List Nat} (h : ∀ d ∈ l, d < 10) (i : Nat) : l.getD i 0 < 10 := by
  rw [List.getD_eq_getElem?_getD]
  by_cases hi : i < l.length
  · rw [List.getElem?_eq_getElem hi]
    exact h _ (List.getElem_mem hi)
  · rw [List.getElem?_eq_none (by omega)]
    decide
/-- Beyond the end of a list there are zeros. -/
theorem val_takeD (l : List Nat) (i : Nat) : val (l.take (i + 1)) = val (l.take i) + l.getD i 0 * 10 ^ i := by
  by_cases hi : i < l.length
  · rw [val_take hi, Nat.mul_comm]
  · rw [List.take_of_length_le (by omega), List.take_of_length_le (by omega), List.getD_eq_getElem?_getD, List.getElem?_eq_none (by omega)]
    simp
end Go.Iron.Dg

/- Digits: exact numbers as digits and an exponent; a quotient in a fixed type. -/
namespace Go.Iron.Dg

/-- A number: a natural one times 10 to the exponent, with a sign. -/
structure Lg where
  m : Nat
  neg : Bool
  exp : Int
def moreQ (a b : Lg) (bin : Nat) : Int := max (max 0 (60 + (bin : Int) + (frm b.m).length - (frm a.m).length)) (60 + (bin : Int) - (b.exp - a.exp))
def quoL (a b : Lg) (bin : Nat) : Lg :=
  if a.m = 0 then ⟨0, a.neg != b.neg, 0⟩
  else if (a.m * 10 ^ (moreQ a b bin).toNat) / b.m * b.m = a.m * 10 ^ (moreQ a b bin).toNat then ⟨(a.m * 10 ^ (moreQ a b bin).toNat) / b.m, a.neg != b.neg, a.exp - b.exp - moreQ a b bin⟩
  else ⟨1 + 10 * ((a.m * 10 ^ (moreQ a b bin).toNat) / b.m), a.neg != b.neg, a.exp - b.exp - moreQ a b bin - 1⟩
def mFix (kd : Int) (m Q : Nat) (exp : Int) : Nat :=
  if kd = 1 then (if exp < 0 then m * 2 ^ Q / 10 ^ (-exp).toNat else m * 2 ^ Q * 10 ^ exp.toNat)
  else (if exp + Q < 0 then m / 10 ^ (-(exp + Q)).toNat else m * 10 ^ (exp + Q).toNat)
def bsN (kd : Int) : Nat := if kd = 1 then 2 else 10
end Go.Iron.Dg

/- Digits: sums, and the order of numbers. -/
namespace Go.Iron.Dg

def upM (a : Lg) (e : Int) : Nat := a.m * 10 ^ (a.exp - e).toNat
def sumL (a b : Lg) : Lg :=
  if a.neg = b.neg then ⟨upM a (min a.exp b.exp) + upM b (min a.exp b.exp), a.neg, min a.exp b.exp⟩
  else if upM a (min a.exp b.exp) < upM b (min a.exp b.exp) then ⟨upM b (min a.exp b.exp) - upM a (min a.exp b.exp), b.neg, min a.exp b.exp⟩
  else ⟨upM a (min a.exp b.exp) - upM b (min a.exp b.exp), a.neg, min a.exp b.exp⟩
def sgn (neg : Bool) (m : Nat) : Int := if neg = true then -(m : Int) else m
def flipL (a : Lg) : Lg := ⟨a.m, !a.neg, a.exp⟩
theorem sum_sgn (a b : Lg) : sgn (sumL a b).neg (sumL a b).m = sgn a.neg (upM a (min a.exp b.exp)) + sgn b.neg (upM b (min a.exp b.exp)) := by
  unfold sumL
  generalize upM a (min a.exp b.exp) = x
  generalize upM b (min a.exp b.exp) = y
  cases ha : a.neg <;> cases hb : b.neg
  · rw [if_pos rfl]; simp only [sgn, if_neg (show ¬ (false = true) by decide)]; omega
  · rw [if_neg (by decide)]
    split
    · simp only [sgn, if_pos, if_neg (show ¬ (false = true) by decide)]; omega
    · simp only [sgn, if_pos, if_neg (show ¬ (false = true) by decide)]; omega
  · rw [if_neg (by decide)]
    split
    · simp only [sgn, if_pos, if_neg (show ¬ (false = true) by decide)]; omega
    · simp only [sgn, if_pos, if_neg (show ¬ (false = true) by decide)]; omega
  · rw [if_pos rfl]; simp only [sgn, if_pos]; simp; omega
def ordI (x y : Int) : Int := if x = y then 0 else if x < y then -1 else 1
def sigL (a : Lg) : Int := if a.m = 0 then 0 else if a.neg = true then -1 else 1
theorem sig_sgn (a : Lg) : sigL a = ordI (sgn a.neg a.m) 0 := by
  unfold sigL ordI sgn
  cases a.neg
  · rw [if_neg (show ¬ (false = true) by decide)]
    by_cases h : a.m = 0
    · rw [if_pos h, if_pos (by rw [if_neg (by decide)]; omega)]
    · rw [if_neg h, if_neg (by rw [if_neg (by decide)]; omega), if_neg (by rw [if_neg (by decide)]; omega)]
  · rw [if_pos rfl]
    by_cases h : a.m = 0
    · rw [if_pos h, if_pos (by rw [if_pos rfl]; omega)]
    · rw [if_neg h, if_neg (by rw [if_pos rfl]; omega), if_pos (by rw [if_pos rfl]; omega)]
/-- The order of two numbers, as it is told. -/
def cmpL (a b : Lg) : Int := sigL (sumL a (flipL b))
theorem sgn_mul (n : Bool) (m k : Nat) : sgn n (m * k) = sgn n m * (k : Int) := by
  unfold sgn
  cases n
  · rw [if_neg (by decide), if_neg (by decide), Int.natCast_mul]
  · rw [if_pos rfl, if_pos rfl, Int.natCast_mul, Int.neg_mul]
theorem sgn_flip (n : Bool) (m : Nat) : sgn (!n) m = -sgn n m := by
  unfold sgn
  cases n <;> simp
theorem upM_less (a : Lg) {e f : Int} (h1 : f ≤ e) (h2 : e ≤ a.exp) : upM a f = upM a e * 10 ^ (e - f).toNat := by
  unfold upM
  rw [Nat.mul_assoc, ← Nat.pow_add]
  congr 2
  omega
theorem ordI_mul {x y k : Int} (hk : 0 < k) : ordI (x * k) (y * k) = ordI x y := by
  unfold ordI
  by_cases h : x = y
  · subst h; simp
  · have h1 : x * k ≠ y * k := fun e => h (Int.eq_of_mul_eq_mul_right (by omega) e)
    rw [if_neg h, if_neg h1]
    by_cases h2 : x < y
    · rw [if_pos h2, if_pos (Int.mul_lt_mul_of_pos_right h2 hk)]
    · rw [if_neg h2, if_neg (fun h3 => h2 (Int.lt_of_mul_lt_mul_right h3 (by omega)))]
theorem cmp_at (a b : Lg) {e : Int} (ha : e ≤ a.exp) (hb : e ≤ b.exp) : cmpL a b = ordI (sgn a.neg (upM a e)) (sgn b.neg (upM b e)) := by
  have h0 : ordI (sgn a.neg (upM a (min a.exp b.exp)) - sgn b.neg (upM b (min a.exp b.exp))) 0 = ordI (sgn a.neg (upM a (min a.exp b.exp))) (sgn b.neg (upM b (min a.exp b.exp))) := by
    generalize sgn a.neg (upM a (min a.exp b.exp)) = x
    generalize sgn b.neg (upM b (min a.exp b.exp)) = y
    unfold ordI
    by_cases h : x = y
    · rw [if_pos h, if_pos (by omega)]
    · rw [if_neg h, if_neg (by omega)]
      by_cases h2 : x < y
      · rw [if_pos h2, if_pos (by omega)]
      · rw [if_neg h2, if_neg (by omega)]
  have h1 : cmpL a b = ordI (sgn a.neg (upM a (min a.exp b.exp))) (sgn b.neg (upM b (min a.exp b.exp))) := by
    unfold cmpL
    rw [sig_sgn, sum_sgn, ← h0]
    have : sgn (flipL b).neg (upM (flipL b) (min a.exp (flipL b).exp)) = -sgn b.neg (upM b (min a.exp b.exp)) := sgn_flip _ _
    rw [this]
    rfl
  rw [h1, upM_less a (e := min a.exp b.exp) (f := e) (by omega) (by omega), upM_less b (e := min a.exp b.exp) (f := e) (by omega) (by omega), sgn_mul, sgn_mul, ordI_mul]
  have : 0 < 10 ^ (min a.exp b.exp - e).toNat := Nat.pow_pos (by decide)
  omega
end Go.Iron.Dg

/- Digits: exact numbers by a numerator and a denominator. -/
namespace Go.Iron.Dg

end Go.Iron.Dg

/- Digits: what values are as exact numbers; the law of quotients. -/
namespace Go.Iron.Dg

def exactL (kd n q : Int) : Lg := ⟨n.natAbs * (if kd = 1 then 5 ^ q.toNat else 1), decide (n < 0), if kd = 1 ∨ kd = 2 then -q else q⟩
theorem exact_m0 {kd n q : Int} : (exactL kd n q).m = 0 ↔ n = 0 := by
  show n.natAbs * (if kd = 1 then 5 ^ q.toNat else 1) = 0 ↔ _
  have : (if kd = 1 then 5 ^ q.toNat else 1) ≠ 0 := by
    split
    · exact Nat.ne_of_gt (Nat.pow_pos (by decide))
    · decide
  rw [Nat.mul_eq_zero]
  omega
end Go.Iron.Dg

/- Digits: digits moved up and cut, and quotients digit by digit. -/
namespace Go.Iron.Dg

theorem frm_ten {x : Nat} (hx : x ≠ 0) : frm (10 * x) = 0 :: frm x := by
  rw [frm_pos (by omega), show 10 * x % 10 = 0 by omega, show 10 * x / 10 = x by omega]
theorem frm_up {x : Nat} (hx : x ≠ 0) : ∀ n, frm (x * 10 ^ n) = List.replicate n 0 ++ frm x
  | 0 => by rw [Nat.pow_zero, Nat.mul_one]; rfl
  | n + 1 => by
    have h : x * 10 ^ n ≠ 0 := Nat.mul_ne_zero hx (Nat.ne_of_gt (Nat.pow_pos (by decide)))
    rw [Nat.pow_succ, show x * (10 ^ n * 10) = 10 * (x * 10 ^ n) by ac_rfl, frm_ten h, frm_up hx n, List.replicate_succ, List.cons_append]
theorem frm_cut : ∀ (n x : Nat), (frm x).drop n = frm (x / 10 ^ n)
  | 0, x => by rw [List.drop_zero, Nat.pow_zero, Nat.div_one]
  | n + 1, x => by
    by_cases hx : x = 0
    · subst hx
      rw [Nat.zero_div, frm_zero, List.drop_nil]
    · rw [frm_pos hx, List.drop_succ_cons, frm_cut n, Nat.div_div_eq_div_mul, Nat.pow_succ, Nat.mul_comm 10]
theorem frm_low : ∀ (p x : Nat), val ((frm x).take p) = x % 10 ^ p
  | 0, x => by rw [List.take_zero, Nat.pow_zero, Nat.mod_one]; rfl
  | p + 1, x => by
    by_cases hx : x = 0
    · subst hx
      rw [Nat.zero_mod, frm_zero, List.take_nil]
      rfl
    · rw [frm_pos hx, List.take_succ_cons]
      show x % 10 + 10 * val ((frm (x / 10)).take p) = _
      rw [frm_low p, Nat.pow_succ, Nat.mul_comm (10 ^ p), Nat.mod_mul]
theorem val_rev_snoc (q : List Nat) (n : Nat) : val ((q ++ [n]).reverse) = n + 10 * val q.reverse := by
  rw [List.reverse_append]
  rfl
theorem frm_getD_lt (x i : Nat) : (frm x).getD i 0 < 10 := getD_lt (fun d hd => frm_digit hd) i
theorem frm_len_mono {x y : Nat} (h : x ≤ y) : (frm x).length ≤ (frm y).length := frm_len_lt.2 (Nat.lt_of_le_of_lt h (frm_len_lt.1 (Nat.le_refl _)))
theorem frm_lt_pow (x : Nat) : x < 10 ^ (frm x).length := frm_len_lt.1 (Nat.le_refl _)
theorem frm_len_mul (x y : Nat) : (frm (x * y)).length ≤ (frm x).length + (frm y).length := by
  refine frm_len_lt.2 ?_
  rw [Nat.pow_add]
  by_cases hy : y = 0
  · subst hy
    rw [Nat.mul_zero]
    exact Nat.mul_pos (Nat.pow_pos (by decide)) (Nat.pow_pos (by decide))
  · exact Nat.mul_lt_mul_of_lt_of_le (frm_lt_pow x) (Nat.le_of_lt (frm_lt_pow y)) (Nat.pow_pos (by decide))
theorem frm_len_up (x n : Nat) : (frm (x * 10 ^ n)).length ≤ (frm x).length + n := by
  by_cases hx : x = 0
  · subst hx
    rw [Nat.zero_mul, frm_zero]
    exact Nat.zero_le _
  · rw [frm_up hx, List.length_append, List.length_replicate]
    omega
theorem frm_nil {x : Nat} : frm x = [] ↔ x = 0 := by
  constructor
  · intro h
    have := val_frm x
    rw [h] at this
    exact this.symm
  · intro h
    rw [h, frm_zero]
theorem frm_len0 {x : Nat} : (frm x).length = 0 ↔ x = 0 := by rw [List.length_eq_zero_iff, frm_nil]
/-- The order of two numbers' digits, as compare tells it. -/
def cmpD (a b : List Nat) : Nat → Int
  | 0 => 0
  | i + 1 => if a.getD i 0 = b.getD i 0 then cmpD a b i else (a.getD i 0 : Int) - b.getD i 0
def cmpR (a b : List Nat) : Int := if a.length ≠ b.length then (a.length : Int) - b.length else cmpD a b a.length
theorem cmpD_sig (a b : List Nat) : ∀ i, (cmpD a b i < 0 ↔ cmpN a b i < 0) ∧ (cmpD a b i = 0 ↔ cmpN a b i = 0)
  | 0 => ⟨Iff.rfl, Iff.rfl⟩
  | i + 1 => by
    unfold cmpD cmpN
    by_cases h : a.getD i 0 = b.getD i 0
    · rw [if_pos h, if_neg (by omega), if_neg (by omega)]
      exact cmpD_sig a b i
    · rw [if_neg h]
      by_cases h2 : a.getD i 0 < b.getD i 0
      · rw [if_pos h2]
        omega
      · rw [if_neg h2, if_pos (by omega)]
        omega
theorem cmpR_sig (a b : List Nat) : (cmpR a b < 0 ↔ cmpT a b < 0) ∧ (cmpR a b = 0 ↔ cmpT a b = 0) := by
  unfold cmpR cmpT
  by_cases h : a.length ≠ b.length
  · rw [if_pos h, if_pos h]
    split <;> omega
  · rw [if_neg h, if_neg h]
    exact cmpD_sig a b a.length
theorem cmpR_frm (x y : Nat) : (cmpR (frm x) (frm y) < 0 ↔ x < y) ∧ (cmpR (frm x) (frm y) = 0 ↔ x = y) := by
  obtain ⟨h1, h2⟩ := cmpR_sig (frm x) (frm y)
  rw [h1, h2, cmpT_frm]
  by_cases h : x < y
  · rw [if_pos h]
    omega
  · rw [if_neg h]
    by_cases h3 : x > y
    · rw [if_pos h3]
      omega
    · rw [if_neg h3]
      omega
end Go.Iron.Dg

/- Digits: valid values and types, in plain Lean. -/
namespace Go.Iron.Dg

def isBit (b : UInt8) : Bool := b.toNat == 48 || b.toNat == 49
def rightB (kd n q : Int) (s : List UInt8) : Bool :=
  if kd = 1 then decide (s = []) && decide ((0 ≤ q ∧ q ≤ 31) ∧ -2147483648 < n ∧ n < 2147483648)
  else if kd = 2 then decide (s = []) && decide ((0 ≤ q ∧ q ≤ 31) ∧ -1000000000000000 < n ∧ n < 1000000000000000)
  else if kd = 3 then decide (s = []) && (if n = 0 then decide (q = 0) else decide ((-1000000000000000 < n ∧ n < 1000000000000000) ∧ n.natAbs % 10 ≠ 0 ∧ -1000 ≤ q ∧ q ≤ 1000) && decide (-75 ≤ ((frm n.natAbs).length : Int) + q - 1 ∧ ((frm n.natAbs).length : Int) + q - 1 ≤ 75))
  else if kd = 4 ∨ kd = 6 then decide (n = 0 ∧ q = 0 ∧ s.length ≤ 250)
  else if kd = 5 then decide (n = 0 ∧ q = 0 ∧ s.length ≤ 250) && s.all isBit
  else if kd = 7 then decide (s = []) && decide (q = 0 ∧ 0 ≤ n ∧ n ≤ 1000000000)
  else if kd = 8 ∨ kd = 9 then decide (s = []) && decide ((0 ≤ n ∧ n ≤ 1000000000) ∧ 0 ≤ q ∧ q ≤ 1000000000)
  else false
def numK (kd : Int) : Bool := decide (1 ≤ kd) && decide (kd ≤ 3)
/-- What a number's parts are within. -/
theorem right_num {kd n q : Int} {s : List UInt8} (h : rightB kd n q s = true) (hk : numK kd = true) : s = [] ∧ (kd = 1 ∨ kd = 2 ∨ kd = 3) ∧ (kd ≠ 3 → 0 ≤ q ∧ q ≤ 31) ∧ (kd = 3 → -90 ≤ q ∧ q ≤ 75) ∧ -1000000000000000 < n ∧ n < 1000000000000000 := by
  have hk3 : kd = 1 ∨ kd = 2 ∨ kd = 3 := by
    unfold numK at hk
    simp at hk
    omega
  unfold rightB at h
  rcases hk3 with rfl | rfl | rfl
  · rw [if_pos rfl] at h
    simp at h
    refine ⟨h.1, .inl rfl, fun _ => by omega, fun e => absurd e (by decide), by omega, by omega⟩
  · rw [if_neg (by decide), if_pos rfl] at h
    simp at h
    refine ⟨h.1, .inr (.inl rfl), fun _ => by omega, fun e => absurd e (by decide), by omega, by omega⟩
  · rw [if_neg (by decide), if_neg (by decide), if_pos rfl] at h
    by_cases hn : n = 0
    · rw [if_pos hn] at h
      simp at h
      refine ⟨h.1, .inr (.inr rfl), fun e => absurd rfl e, fun _ => by omega, by omega, by omega⟩
    · rw [if_neg hn] at h
      simp at h
      obtain ⟨h1, ⟨h2, h3, h4⟩, h5, h6⟩ := h
      have hl : (frm n.natAbs).length ≤ 15 := frm_len_lt.2 (by omega)
      have hl0 : (frm n.natAbs).length ≠ 0 := fun e => by have := frm_len0.1 e; omega
      refine ⟨h1, .inr (.inr rfl), fun e => absurd rfl e, fun _ => by omega, by omega, by omega⟩
structure Typ where
  kind : Int
  p : Int
  q : Int
  n : Int
  vary : Bool
  pic : List UInt8
def inR (n a b : Int) : Bool := decide (a ≤ n) && decide (n ≤ b)
def validT (t : Typ) : Bool :=
  if t.kind = 1 then inR t.p 1 31 && inR t.q 0 31 && t.n == 0 && !t.vary && t.pic.isEmpty
  else if t.kind = 2 then inR t.p 1 15 && inR t.q 0 31 && t.n == 0 && !t.vary && t.pic.isEmpty
  else if t.kind = 3 then inR t.p 1 15 && t.q == 0 && t.n == 0 && !t.vary && t.pic.isEmpty
  else if t.kind = 4 ∨ t.kind = 5 then t.p == 0 && t.q == 0 && inR t.n 0 250 && t.pic.isEmpty
  else if t.kind = 6 then t.p == 0 && t.q == 0 && t.n == 0 && !t.vary && decide (1 ≤ t.pic.length) && decide (t.pic.length ≤ 80)
  else if t.kind = 7 ∨ t.kind = 8 ∨ t.kind = 9 then t.p == 0 && t.q == 0 && t.n == 0 && !t.vary && t.pic.isEmpty
  else false
theorem valid_kind {t : Typ} (h : validT t = true) : 1 ≤ t.kind ∧ t.kind ≤ 9 := by
  unfold validT at h
  split at h; omega
  split at h; omega
  split at h; omega
  split at h; omega
  split at h; omega
  split at h; omega
  cases h

/-- A value. -/
structure Vl where
  kind : Int
  n : Int
  q : Int
  s : List UInt8
def Vl.right (v : Vl) : Bool := rightB v.kind v.n v.q v.s
/-- The error of values, and of a type. -/
def askL (t : Option Typ) (l : List Vl) : Int :=
  if l.all Vl.right = false then 1
  else if (t.any fun t => !validT t) = true then 13
  else if (l.all fun v => numK v.kind) = false then 10
  else if (t.any fun t => !numK t.kind) = true then 10
  else 0
end Go.Iron.Dg

/- Digits: numbers in types, fixed ones and floats, whatever they are told by. -/
namespace Go.Iron.Dg

def normD (n : Nat) (q : Int) : Nat × Int := if h : n ≠ 0 ∧ n % 10 = 0 then normD (n / 10) (q + 1) else (n, q)
termination_by n
decreasing_by omega
def rndD (D : Nat) : Nat := D / 10 + (if D % 10 ≥ 5 then 1 else 0)
def fltL (m : Nat) (e : Int) (p : Nat) : Nat × Int :=
  if (frm m).length > p then normD (rndD (m / 10 ^ ((frm m).length - p - 1))) (e + ((frm m).length - p : Nat)) else normD m e
theorem frm_ge {m : Nat} (hm : m ≠ 0) : 10 ^ ((frm m).length - 1) ≤ m := by
  have h := val_ge (canon_frm m) (fun e => hm (frm_nil.1 e))
  rw [val_frm] at h
  exact h
end Go.Iron.Dg

/- Digits: quotients as floats. -/
namespace Go.Iron.Dg

end Go.Iron.Dg

/- Digits: what fits a type, by a number's numerator and denominator. -/
namespace Go.Iron.Dg

/-- A float's parts, by its digits without zeros at the end. -/
def fltO (neg : Bool) (r : Nat × Int) : Int × Int × Int :=
  if r.1 = 0 then (0, 0, 0)
  else if ((frm r.1).length : Int) + r.2 - 1 > 75 then (0, 0, 3)
  else if ((frm r.1).length : Int) + r.2 - 1 < -75 then (0, 0, 8)
  else (sgn neg r.1, r.2, 0)
/-- The same, of digits and an exponent. -/
def fitL (kd : Int) (P Q : Nat) (L : Lg) (big : Int) : Int × Int × Int :=
  if kd = 3 then (if L.m = 0 then (0, 0, 0) else fltO L.neg (fltL L.m L.exp P))
  else (sgn L.neg (mFix kd L.m Q L.exp % bsN kd ^ P), Q, if mFix kd L.m Q L.exp ≥ bsN kd ^ P then big else 0)
end Go.Iron.Dg

/- Digits: the order goes on; sums of numbers of one scale; in plain Lean. -/
namespace Go.Iron.Dg

/-- The order of numbers goes on. -/
theorem orders_law (a b c : Lg) : ¬ ((cmpL a b ≤ 0 ∧ cmpL b c ≤ 0 ∧ cmpL a c > 0) ∨ (cmpL a b ≥ 0 ∧ cmpL b c ≥ 0 ∧ cmpL a c < 0) ∨ (cmpL a b = 0 ∧ cmpL b c = 0 ∧ cmpL a c ≠ 0)) := by
  rw [cmp_at a b (e := min (min a.exp b.exp) c.exp) (by omega) (by omega), cmp_at b c (e := min (min a.exp b.exp) c.exp) (by omega) (by omega), cmp_at a c (e := min (min a.exp b.exp) c.exp) (by omega) (by omega)]
  generalize sgn a.neg _ = x
  generalize sgn b.neg _ = y
  generalize sgn c.neg _ = z
  have key : ∀ u v : Int, (ordI u v ≤ 0 ↔ u ≤ v) ∧ (ordI u v ≥ 0 ↔ v ≤ u) := by
    intro u v
    unfold ordI
    by_cases h : u = v
    · rw [if_pos h]; omega
    · rw [if_neg h]
      by_cases h2 : u < v
      · rw [if_pos h2]; omega
      · rw [if_neg h2]; omega
  have k1 := key x y
  have k2 := key y z
  have k3 := key x z
  omega
end Go.Iron.Dg

/- Digits: sums, products, rests and quotients of exact numbers are the reference's, in plain Lean. -/
namespace Go.Iron.Dg

end Go.Iron.Dg

/- Digits: a quotient times the divisor, in the reference's own numbers. -/
namespace Go.Iron.Dg

end Go.Iron.Dg

/- Digits: rounding, and the text of a fixed number, in plain Lean. -/
namespace Go.Iron.Dg

theorem normD_zero (q : Int) : normD 0 q = (0, q) := by
  rw [normD, dif_neg (by simp)]
theorem normD_step {n : Nat} {q : Int} (h : n ≠ 0) (h0 : n % 10 = 0) : normD n q = normD (n / 10) (q + 1) := by
  conv => lhs; rw [normD]
  rw [dif_pos ⟨h, h0⟩]
theorem normD_end {n : Nat} {q : Int} (h0 : n % 10 ≠ 0) : normD n q = (n, q) := by
  rw [normD, dif_neg (fun h => h0 h.2)]

/-- A digit's byte. -/
def digB (d : Nat) : UInt8 := UInt8.ofNat (48 + d)
/-- The digits, the highest one first. -/
def digs (m : Nat) : List UInt8 := (frm m).reverse.map digB
/-- With zeros ahead and a point. -/
def padS (Q : Nat) (s : List UInt8) : List UInt8 := List.replicate (Q + 1 - s.length) 48 ++ s
def pointS (Q : Nat) (s : List UInt8) : List UInt8 := if 0 < Q then s.take (s.length - Q) ++ 46 :: s.drop (s.length - Q) else s
def textL (neg : Bool) (m Q : Nat) : List UInt8 := (if neg = true then [45] else []) ++ pointS Q (padS Q (digs m))
theorem padS_len (Q : Nat) (s : List UInt8) : Q + 1 ≤ (padS Q s).length := by unfold padS; simp; omega
theorem third_quo : quoL (exactL 2 1 0) (exactL 2 3 0) 14 = ⟨1 + 10 * ((1 * 10 ^ 74) / 3), false, -75⟩ := by
  have h1 : frm 1 = [1] := by rw [frm_pos (by decide)]; show 1 % 10 :: frm (1 / 10) = _; rw [show 1 / 10 = 0 from rfl, frm_zero]
  have h3 : frm 3 = [3] := by rw [frm_pos (by decide)]; show 3 % 10 :: frm (3 / 10) = _; rw [show 3 / 10 = 0 from rfl, frm_zero]
  have hx : exactL 2 1 0 = ⟨1, false, 0⟩ := rfl
  have hy : exactL 2 3 0 = ⟨3, false, 0⟩ := rfl
  have hm : moreQ ⟨1, false, 0⟩ ⟨3, false, 0⟩ 14 = 74 := by
    unfold moreQ
    rw [h1, h3]
    decide
  rw [hx, hy]
  unfold quoL
  rw [hm, if_neg (by decide), if_neg (by decide +kernel)]
  rfl
theorem third_fit : fitL 2 15 14 (quoL (exactL 2 1 0) (exactL 2 3 0) 14) 2 = (33333333333333, 14, 0) := by
  rw [third_quo]
  unfold fitL
  rw [if_neg (by decide)]
  decide +kernel
theorem third_text : textL false 33333333333333 14 = [48, 46, 51, 51, 51, 51, 51, 51, 51, 51, 51, 51, 51, 51, 51, 51] := by
  have h : digs 33333333333333 = [51, 51, 51, 51, 51, 51, 51, 51, 51, 51, 51, 51, 51, 51] := by
    have : frm 33333333333333 = [3,3,3,3,3,3,3,3,3,3,3,3,3,3] := by
      have hc : Canon [3,3,3,3,3,3,3,3,3,3,3,3,3,3] := by simp [Canon]
      have := canon_eq hc
      exact this.symm
    unfold digs
    rw [this]
    decide
  unfold textL
  rw [h]
  decide
end Go.Iron.Dg

/- The digits' seat: values as they stand in memory. -/
namespace Go.Iron.Tryd
open Go.Proofs Go.RowKit Go.Iron.Tok Go.Iron.Dg

abbrev iv (n : Int) : AV := .val (.int .i64 n)
abbrev bv (b : Bool) : AV := .val (.bool b)
abbrev uv (c : Nat) : AV := .val (.int .u8 (c : Int))
abbrev sv (s : Str) : AV := .val (.string (bs s))
theorem w64 {x : Int} (h1 : -9223372036854775808 ≤ x) (h2 : x ≤ 9223372036854775807) : IntKind.wrap .i64 x = x := IntWalk.i64_in x (by omega)
theorem w8 {x : Int} (h1 : 0 ≤ x) (h2 : x ≤ 255) : IntKind.wrap .u8 x = x := IntWalk.u8_in x (by omega)
theorem blS (s : Str) : (bl (bs s)).length = s.length := rfl
theorem bs_beq (a b : Str) : ((bs a).toList == (bs b).toList) = decide (a = b) := by
  rw [bs_toList, bs_toList, Bool.eq_iff_iff]
  simp
def limR (l : List Nat) : Nat → List AV := encR (fun n => [uv n]) 0 l
def limS (nl : Option Bool) (l : List Nat) : AV := .slc 1 nl l.length (limR l)
theorem limR_snoc {acc : List Nat} {v : Nat} {r2 : Nat → List AV} (h : r2 0 = [uv v]) : ∀ j, j < acc.length + 1 → limR (acc ++ [v]) j = appR acc.length (limR acc) r2 j := fun j hj => encR_snoc (enc := fun n : Nat => [uv n]) h j hj
abbrev nilL : Nat → List AV := limR []
/-- The first cells of a row are those of the list's beginning. -/
theorem limR_take {l : List Nat} {n i : Nat} (hi : i < n) : limR (l.take n) i = limR l i := by
  unfold limR encR
  rw [List.getD_eq_getElem?_getD, List.getElem?_take, if_pos hi, ← List.getD_eq_getElem?_getD]
theorem limR_drop (l : List Nat) (n i : Nat) : limR (l.drop n) i = limR l (n + i) := by
  unfold limR encR
  rw [List.getD_eq_getElem?_getD, List.getElem?_drop, ← List.getD_eq_getElem?_getD]
/-- An exact number of the program: digits, sign, exponent. -/
@[reducible] def lgE (L : Lg) : List AV := [limS none (frm L.m), bv L.neg, iv L.exp]
abbrev lgA (L : Lg) : AV := .agg (lgE L)
/-- Values and types. -/
@[reducible] def vaE (kd n q : Int) (s : Str) : List AV := [iv kd, iv n, iv q, sv s]
@[reducible] def tyE (kd p q n : Int) (vy : Bool) (pc : Str) : List AV := [iv kd, iv p, iv q, iv n, bv vy, sv pc]
theorem frm_one : frm 1 = [1] := by rw [frm_pos (by decide)]; show 1 % 10 :: frm (1 / 10) = _; rw [show 1 / 10 = 0 from rfl, frm_zero]
end Go.Iron.Tryd

/- The digits' seat: the reference's naturals by their digits. -/
namespace Go.Iron.Tryd
open Go.Proofs Go.RowKit Go.Iron.Tok Go.Iron.Dg

theorem trim_take {l : List Nat} {n : Nat} (hn : n < l.length) (h0 : l.getD n 0 = 0) : trim (l.take (n + 1)) = trim (l.take n) := by
  rw [List.take_succ_eq_append_getElem hn]
  have e : l[n] = 0 := by rw [List.getD_eq_getElem?_getD, List.getElem?_eq_getElem hn] at h0; exact h0
  rw [e, trim_zero]
theorem trim_last {l : List Nat} {n : Nat} (hn : n < l.length) (hd : ∀ d ∈ l, d < 10) (h0 : l.getD n 0 ≠ 0) : trim (l.take (n + 1)) = l.take (n + 1) := by
  rw [List.take_succ_eq_append_getElem hn]
  have e : l[n] = l.getD n 0 := by rw [List.getD_eq_getElem?_getD, List.getElem?_eq_getElem hn]; rfl
  exact trim_canon (fun e he => hd e (List.mem_of_mem_take he)) (hd _ (List.getElem_mem hn)) (by rw [e]; exact h0)
theorem val_drop (l : List Nat) (i : Nat) : val (l.drop i) = l.getD i 0 + 10 * val (l.drop (i + 1)) := by
  by_cases h : i < l.length
  · rw [List.drop_eq_getElem_cons h, val, List.getD_eq_getElem?_getD, List.getElem?_eq_getElem h]
    rfl
  · rw [List.drop_eq_nil_of_le (by omega), List.drop_eq_nil_of_le (by omega), List.getD_eq_getElem?_getD, List.getElem?_eq_none (by omega)]
    rfl
theorem getD_digit (n i : Nat) : (frm n).getD i 0 < 10 := by
  by_cases h : i < (frm n).length
  · rw [List.getD_eq_getElem?_getD, List.getElem?_eq_getElem h]
    exact frm_digit (List.getElem_mem h)
  · rw [List.getD_eq_getElem?_getD, List.getElem?_eq_none (by omega)]
    decide
structure PlX where
  i : Nat
  c : Nat
  acc : List Nat
end Go.Iron.Tryd

/- The digits' seat: limbs (of, trimmed, up, cut, compare, plus). -/
namespace Go.Iron.Tryd
open Go.Proofs Go.RowKit Go.Iron.Tok Go.Iron.Dg

theorem d_of (n : Nat) (hn : n < 4611686018427387904) : CallT Tryd.prog 8 [iv n] [] (fun o A => o = .ret (limS none (frm n)) ∧ A = []) := by
  refine callS_body (n := 15) rfl rfl fun w ρ X => ?_
  refine runS_x (I := inf) (J := jnf) ⟨false, false, [], 0, 0⟩ 9999 rfl (by repeat (first | exact obs_nil | refine obs_draw (by kernel_rfl) ?_ | refine obs_same ?_ | refine obs_and ?_ | refine obs_by (by (simp [inB] <;> omega)) ?_)) ?_
  refine runS_nilRow 3 5 1 nilL rfl rfl ?_
  refine runS_while (fun (x : Nat × List Nat) τ ar => (τ 0 = iv x.1 ∧ τ 3 = .row 0 x.2.length) ∧ ar = [.row 5 1 x.2.length x.2.length (limR x.2)] ∧ x.1 ≤ n ∧ frm n = x.2 ++ frm x.1) (fun x => x.1) (n, []) ⟨⟨rfl, rfl⟩, rfl, Nat.le_refl _, rfl⟩ ?_
  rintro ⟨m, acc⟩ τ' ar' ⟨⟨g0, g3⟩, rfl, hm, hq⟩ ih
  dsimp only at hm hq ih
  have ha : acc.length ≤ 19 := by
    have h1 : (frm n).length ≤ 19 := frm_len_lt.2 (Nat.lt_of_lt_of_le hn (by decide))
    rw [hq, List.length_append] at h1
    omega
  refine runS_says 0 (by exact g0) (Says.refl _) ?_; refine runS_says 3 (by exact g3) (Says.refl _) ?_
  refine runS_x (I := inf) (J := jnf) ⟨false, false, [], 0, 0⟩ 9999 rfl (by repeat (first | exact obs_nil | refine obs_draw (by kernel_rfl) ?_ | refine obs_same ?_ | refine obs_and ?_ | refine obs_by (by (simp [inB] <;> omega)) ?_)) ?_
  refine runS_cond rfl (fun h => ?_) (fun h => ?_)
  · have hm0 : m ≠ 0 := by
      have : decide ((m : Int) > 0) = true := h
      simp at this
      omega
    have e1 : IntKind.wrap .u8 (((m : Int)).tmod 10) = ((m % 10 : Nat) : Int) := by rw [Int.natCast_emod, Int.tmod_eq_emod_of_nonneg (by omega), w8 (by omega) (by omega)]; rfl
    have e2 : IntKind.wrap .i64 (((m : Int)).tdiv 10) = ((m / 10 : Nat) : Int) := by
      rw [Int.tdiv_eq_ediv_of_nonneg (by omega), w64 (by omega) (by omega), Int.natCast_ediv]; rfl
    refine runS_x (I := inf) (J := jnf) ⟨false, false, [], 0, 0⟩ 9999 rfl (by repeat (first | exact obs_nil | refine obs_draw (by kernel_rfl) ?_ | refine obs_same ?_ | refine obs_and ?_ | refine obs_by (by (simp [inB] <;> omega)) ?_)) ?_
    refine runS_tell 0 (limR (acc ++ [m % 10])) rfl (m' := acc.length + 1) rfl (limR_snoc (congrArg (fun z => [AV.val (.int .u8 z)]) e1)) rfl ?_
    have hl' : (acc ++ [m % 10]).length = acc.length + 1 := by simp
    refine runS_x (I := inf) (J := jnf) ⟨false, false, [], 0, 0⟩ 9999 rfl (by repeat (first | exact obs_nil | refine obs_draw (by kernel_rfl) ?_ | refine obs_same ?_ | refine obs_and ?_ | refine obs_by (by (simp [inB] <;> omega)) ?_)) ?_
    refine runS_drop 1 (Nat.zero_le _) rfl (by repeat (first | exact .nil | refine .row (fun j hj => rfl) ?_ | refine .box rfl ?_ | refine .fam (fun k j hk hj => rfl) ?_ | refine .loop (scrub_under _ _) ?_ | refine .dfr ?_ | refine .gone ?_ | refine .map (fun p hp => by (obtain ⟨k, _, rfl⟩ := List.mem_map.1 hp; rfl)) ?_)) rfl rfl rfl (by repeat (first | exact .nil | refine .cons rfl rfl rfl (scrub_under _ _) ?_)) ?_
    exact ih (m / 10, acc ++ [m % 10]) _ _ (by dsimp only; omega) ⟨⟨congrArg iv e2, by dsimp only; rw [hl']; rfl⟩, by dsimp only; rw [hl'], by dsimp only; omega, by rw [hq, frm_pos hm0, List.append_assoc]; rfl⟩
  · have hm0 : m = 0 := by
      have : decide ((m : Int) > 0) = false := h
      simp at this
      omega
    subst hm0
    rw [frm_zero, List.append_nil] at hq
    refine runS_x (I := inf) (J := jnf) ⟨false, false, [], 0, 0⟩ 9999 rfl (by repeat (first | exact obs_nil | refine obs_draw (by kernel_rfl) ?_ | refine obs_same ?_ | refine obs_and ?_ | refine obs_by (by (simp [inB] <;> omega)) ?_)) ?_
    refine runS_freeze 2 rfl rfl rfl (fun j hj => rfl) ?_
    refine runS_ret (I := inf) 0 rfl (Nat.le_refl _) rfl .nil rfl ⟨?_, rfl⟩
    rw [hq]
    rfl
theorem d_trimmed (n1 : Option Bool) (l : List Nat) (hl : l.length ≤ 100000) (hd : ∀ d ∈ l, d < 10) : CallT Tryd.prog 47 [limS n1 l] [] (fun o A => o = .ret (limS none (trim l)) ∧ A = []) := by
  refine callS_body (n := 21) rfl rfl fun w ρ X => ?_
  refine runS_says 0 (y := .slc 1 none l.length (limR l)) rfl says_nl ?_
  refine runS_x (I := inf) (J := jnf) ⟨false, false, [], 0, 0⟩ 9999 rfl (by repeat (first | exact obs_nil | refine obs_draw (by kernel_rfl) ?_ | refine obs_same ?_ | refine obs_and ?_ | refine obs_by (by (simp [inB] <;> omega)) ?_)) ?_
  refine runS_while (fun (n : Nat) τ ar => (τ 0 = .slc 1 none n (limR l)) ∧ ar = [] ∧ n ≤ l.length ∧ trim l = trim (l.take n)) (fun n => n) l.length ⟨rfl, rfl, Nat.le_refl _, by rw [List.take_length]⟩ ?_
  rintro n τ' ar' ⟨g0, rfl, hn, ht⟩ ih
  refine runS_says 0 (by exact g0) (Says.refl _) ?_
  have hwm : 0 < n → IntKind.wrap .i64 ((n : Int) - 1) = ((n - 1 : Nat) : Int) := fun h => by rw [w64 (by omega) (by omega)]; omega
  refine runS_x (I := inf) (J := jnf) ⟨false, false, [], 0, 0⟩ 9999 rfl (by repeat (first | exact obs_nil | refine obs_draw (by kernel_rfl) ?_ | refine obs_same ?_ | refine obs_and ?_ | refine obs_by (by (simp [inB] <;> omega)) ?_)) ?_
  have hcd : (if decide ((n : Int) > 0) = true then (((l.getD (IntKind.wrap .i64 ((n : Int) - 1)).toNat 0 : Nat) : Int) == 0) else false) = decide (0 < n ∧ l.getD (n - 1) 0 = 0) := by
    by_cases h : 0 < n
    · rw [hwm h, Int.toNat_natCast, decide_eq_true (show (n : Int) > 0 by omega), if_pos rfl, Bool.eq_iff_iff]
      simp [-List.getD_eq_getElem?_getD, h]
    · rw [decide_eq_false (show ¬ (n : Int) > 0 by omega), Bool.eq_iff_iff]
      simp [h]
  refine runS_cond rfl (fun h => ?_) (fun h => ?_)
  · obtain ⟨h0, hz⟩ := of_decide_eq_true (hcd.symm.trans h)
    obtain ⟨k, rfl⟩ : ∃ k, n = k + 1 := ⟨n - 1, by omega⟩
    have e1 := hwm h0
    rw [Nat.add_sub_cancel] at e1 hz
    have hwk : IntKind.wrap .i64 (k : Int) = (k : Int) := w64 (by omega) (by omega)
    refine runS_x (I := inf) (J := jnf) ⟨false, false, [], 0, 0⟩ 9999 rfl (by repeat (first | exact obs_nil | refine obs_draw (by kernel_rfl) ?_ | refine obs_same ?_ | refine obs_and ?_ | refine obs_by (by (simp [inB, hwk] <;> omega)) ?_)) ?_
    refine runS_says 0 (y := .slc 1 none k (limR l)) rfl (fun w O ρ v h => says_nl w O ρ v (says_slc (by rw [e1]; simp) (fun i hi => ?_) w O ρ v h)) ?_
    · show limR l i = limR l (0 + i)
      rw [Nat.zero_add]
    exact ih k _ _ (by omega) ⟨rfl, rfl, by omega, ht.trans (trim_take (by omega) hz)⟩
  · have hno := of_decide_eq_false (hcd.symm.trans h)
    have htk : trim l = l.take n := by
      rw [ht]
      by_cases h0 : n = 0
      · rw [h0, List.take_zero]; exact frm_zero
      · obtain ⟨k, rfl⟩ : ∃ k, n = k + 1 := ⟨n - 1, by omega⟩
        exact trim_last (by omega) hd (fun e => hno ⟨by omega, by rw [Nat.add_sub_cancel]; exact e⟩)
    refine runS_x (I := inf) (J := jnf) ⟨false, false, [], 0, 0⟩ 9999 rfl (by repeat (first | exact obs_nil | refine obs_draw (by kernel_rfl) ?_ | refine obs_same ?_ | refine obs_and ?_ | refine obs_by (by (simp [inB] <;> omega)) ?_)) ?_
    have hlt : (l.take n).length = n := by rw [List.length_take]; omega
    refine runS_says 2 (y := limS none (l.take n)) rfl (says_slc hlt (fun i hi => limR_take hi)) ?_
    refine runS_ret (I := inf) 0 rfl (Nat.le_refl _) rfl .nil rfl ⟨?_, rfl⟩
    rw [htk]
    rfl
theorem d_up (n1 : Option Bool) (x n : Nat) (hn : n ≤ 4000) (hl : (frm x).length ≤ 4000) : CallT Tryd.prog 45 [limS n1 (frm x), iv n] [] (fun o A => o = .ret (limS none (frm (x * 10 ^ n))) ∧ A = []) := by
  refine callS_body (n := 12) rfl rfl fun w ρ X => ?_
  refine runS_x (I := inf) (J := jnf) ⟨false, false, [], 0, 0⟩ 9999 rfl (by repeat (first | exact obs_nil | refine obs_draw (by kernel_rfl) ?_ | refine obs_same ?_ | refine obs_and ?_ | refine obs_by (by (simp [inB] <;> omega)) ?_)) ?_
  refine runS_cond rfl (fun h => ?_) (fun h => ?_)
  · have h0 : x = 0 := by
      have : (((frm x).length : Int) == 0) = true := h
      simp only [beq_iff_eq] at this
      exact frm_len0.1 (by omega)
    subst h0
    refine runS_x (I := inf) (J := jnf) ⟨false, false, [], 0, 0⟩ 9999 rfl (by repeat (first | exact obs_nil | refine obs_draw (by kernel_rfl) ?_ | refine obs_same ?_ | refine obs_and ?_ | refine obs_by (by (simp [inB] <;> omega)) ?_)) ?_
    refine runS_says 4 rfl (says_nil0 (sz := 1) (r := nilL) (Nat.zero_le _)) ?_
    refine runS_ret (I := inf) 0 rfl (Nat.le_refl _) rfl .nil rfl ⟨?_, rfl⟩
    rw [Nat.zero_mul, frm_zero]
    rfl
  · have h0 : x ≠ 0 := by
      have : (((frm x).length : Int) == 0) = false := h
      simp only [beq_eq_false_iff_ne] at this
      exact fun e => this (by rw [e, frm_zero]; rfl)
    have hl' : (List.replicate n 0 ++ frm x).length = n + (frm x).length := by simp
    refine runS_x (I := inf) (J := jnf) ⟨false, false, [], 0, 0⟩ 9999 rfl (by repeat (first | exact obs_nil | refine obs_draw (by kernel_rfl) ?_ | refine obs_same ?_ | refine obs_and ?_ | refine obs_by (by (simp [inB] <;> omega)) ?_)) ?_
    refine runS_tell 0 (limR (List.replicate n 0 ++ frm x)) rfl (m' := n + (frm x).length) rfl (fun i hi => ?_) rfl ?_
    · show limR (List.replicate n 0 ++ frm x) i = appR n _ _ i
      unfold limR encR
      by_cases h : i < n
      · rw [appR_lt h, List.getD_eq_getElem?_getD, List.getElem?_append_left (by simpa using h), List.getElem?_replicate, if_pos h]
        rfl
      · rw [appR_ge (by omega), List.getD_eq_getElem?_getD, List.getElem?_append_right (by simp; omega), List.length_replicate, ← List.getD_eq_getElem?_getD]
    refine runS_freeze 4 rfl rfl rfl (fun j hj => rfl) ?_
    refine runS_ret (I := inf) 0 rfl (Nat.le_refl _) rfl .nil rfl ⟨?_, rfl⟩
    rw [frm_up h0]
    unfold limS
    rw [hl']
    rfl
theorem d_cut (n1 : Option Bool) (x n : Nat) (hn : n ≤ 100000) (hl : (frm x).length ≤ 4000) : CallT Tryd.prog 82 [limS n1 (frm x), iv n] [] (fun o A => o = .ret (limS none (frm (x / 10 ^ n))) ∧ A = []) := by
  rw [← frm_cut]
  refine callS_body (n := 13) rfl rfl fun w ρ X => ?_
  refine runS_x (I := inf) (J := jnf) ⟨false, false, [], 0, 0⟩ 9999 rfl (by repeat (first | exact obs_nil | refine obs_draw (by kernel_rfl) ?_ | refine obs_same ?_ | refine obs_and ?_ | refine obs_by (by (simp [inB] <;> omega)) ?_)) ?_
  refine runS_cond rfl (fun h => ?_) (fun h => ?_)
  · have h0 : (frm x).length ≤ n := by
      have := of_decide_eq_true h
      omega
    refine runS_x (I := inf) (J := jnf) ⟨false, false, [], 0, 0⟩ 9999 rfl (by repeat (first | exact obs_nil | refine obs_draw (by kernel_rfl) ?_ | refine obs_same ?_ | refine obs_and ?_ | refine obs_by (by (simp [inB] <;> omega)) ?_)) ?_
    refine runS_says 4 rfl (says_nil0 (sz := 1) (r := nilL) (Nat.zero_le _)) ?_
    refine runS_ret (I := inf) 0 rfl (Nat.le_refl _) rfl .nil rfl ⟨?_, rfl⟩
    rw [List.drop_eq_nil_of_le h0]
    rfl
  · have h0 : n < (frm x).length := by
      have := of_decide_eq_false h
      omega
    have hdl : ((frm x).drop n).length = (frm x).length - n := List.length_drop
    refine runS_x (I := inf) (J := jnf) ⟨false, false, [], 0, 0⟩ 9999 rfl (by repeat (first | exact obs_nil | refine obs_draw (by kernel_rfl) ?_ | refine obs_same ?_ | refine obs_and ?_ | refine obs_by (by (simp [inB, h0] <;> omega)) ?_)) ?_
    refine runS_says 11 (y := .slc 1 (some false) ((frm x).drop n).length (limR ((frm x).drop n))) rfl (fun w O ρ v h => says_nn (by omega) w O ρ v (says_nl w O ρ v (says_slc (by rw [hdl]; simp) (fun i hi => limR_drop _ _ _) w O ρ v h))) ?_
    refine runS_x (I := inf) (J := jnf) ⟨true, false, [58], 0, 0⟩ 9999 rfl (by repeat (first | exact obs_nil | refine obs_draw (by kernel_rfl) ?_ | refine obs_same ?_ | refine obs_and ?_ | refine obs_by (by (simp [inB] <;> omega)) ?_)) ?_
    refine runS_tell 0 (limR ((frm x).drop n)) rfl (m' := ((frm x).drop n).length) (by simp) (fun i hi => ?_) rfl ?_
    · exact (appR_ge (Nat.zero_le _)).symm
    refine runS_freeze 4 rfl rfl rfl (fun j hj => rfl) ?_
    refine runS_ret (I := inf) 0 rfl (Nat.le_refl _) rfl .nil rfl ⟨?_, rfl⟩
    rfl
end Go.Iron.Tryd

/- The digits' seat: limbs (compare, plus, less). -/
namespace Go.Iron.Tryd
open Go.Proofs Go.RowKit Go.Iron.Tok Go.Iron.Dg

theorem d_compare (n1 n2 : Option Bool) (x y : Nat) (hx : (frm x).length ≤ 100000) (hy : (frm y).length ≤ 100000) : CallT Tryd.prog 36 [limS n1 (frm x), limS n2 (frm y)] [] (fun o A => o = .ret (iv (cmpR (frm x) (frm y))) ∧ A = []) := by
  have hda := fun d (hd : d ∈ frm x) => frm_digit hd
  have hdb := fun d (hd : d ∈ frm y) => frm_digit hd
  generalize frm x = a at *
  generalize frm y = b at *
  refine callS_body (n := 43) rfl rfl fun w ρ X => ?_
  refine runS_x (I := inf) (J := jnf) ⟨false, false, [], 0, 0⟩ 9999 rfl (by repeat (first | exact obs_nil | refine obs_draw (by kernel_rfl) ?_ | refine obs_same ?_ | refine obs_and ?_ | refine obs_by (by (simp [inB] <;> omega)) ?_)) ?_
  refine runS_cond rfl (fun h => ?_) (fun h => ?_)
  · have hne : a.length ≠ b.length := by simp at h; omega
    refine runS_x (I := inf) (J := jnf) ⟨false, false, [], 0, 0⟩ 9999 rfl (by repeat (first | exact obs_nil | refine obs_draw (by kernel_rfl) ?_ | refine obs_same ?_ | refine obs_and ?_ | refine obs_by (by (simp [inB] <;> omega)) ?_)) ?_
    refine runS_ret (I := inf) 0 rfl (Nat.le_refl _) rfl .nil rfl ⟨?_, rfl⟩
    unfold cmpR
    rw [if_pos hne]
    refine congrArg (fun x => Out.ret (iv x)) ?_
    show IntKind.wrap .i64 ((a.length : Int) - (b.length : Int)) = _
    rw [w64 (by omega) (by omega)]
  · have hle : a.length = b.length := by simp at h; omega
    have hcm : cmpR a b = cmpD a b a.length := by unfold cmpR; rw [if_neg (by omega)]
    have hw0 : IntKind.wrap .i64 ((a.length : Int) - 1) = (a.length : Int) - 1 := w64 (by omega) (by omega)
    refine runS_x (I := inf) (J := jnf) ⟨false, false, [], 0, 0⟩ 9999 rfl (by repeat (first | exact obs_nil | refine obs_draw (by kernel_rfl) ?_ | refine obs_same ?_ | refine obs_and ?_ | refine obs_by (by (simp [inB] <;> omega)) ?_)) ?_
    rw [hw0]
    refine runS_while (fun (i : Nat) τ ar => (τ 0 = limS n1 a ∧ τ 1 = limS n2 b ∧ τ 5 = iv ((i : Int) - 1)) ∧ ar = [] ∧ i ≤ a.length ∧ cmpR a b = cmpD a b i) (fun i => i) a.length ⟨⟨rfl, rfl, rfl⟩, rfl, Nat.le_refl _, hcm⟩ ?_
    rintro i τ' ar' ⟨⟨g0, g1, g5⟩, rfl, hi, hc⟩ ih
    refine runS_says 0 (by exact g0) (Says.refl _) ?_; refine runS_says 1 (by exact g1) (Says.refl _) ?_; refine runS_says 5 (by exact g5) (Says.refl _) ?_
    refine runS_x (I := inf) (J := jnf) ⟨false, false, [], 0, 0⟩ 9999 rfl (by repeat (first | exact obs_nil | refine obs_draw (by kernel_rfl) ?_ | refine obs_same ?_ | refine obs_and ?_ | refine obs_by (by (simp [inB] <;> omega)) ?_)) ?_
    refine runS_cond rfl (fun h1 => ?_) (fun h1 => ?_)
    · have hi0 : 0 < i := by
        have : decide ((i : Int) - 1 ≥ 0) = true := h1
        simp at this
        omega
      obtain ⟨k, rfl⟩ : ∃ k, i = k + 1 := ⟨i - 1, by omega⟩
      have hka : k < a.length := by omega
      have hkb : k < b.length := by omega
      have e1 : (((k + 1 : Nat) : Int) - 1) = (k : Int) := by omega
      rw [e1] at g5 ⊢
      have hcs : cmpD a b (k + 1) = if a.getD k 0 = b.getD k 0 then cmpD a b k else (a.getD k 0 : Int) - b.getD k 0 := rfl
      have hdx := getD_lt hda k
      have hdy := getD_lt hdb k
      refine runS_x (I := inf) (J := jnf) ⟨false, false, [], 0, 0⟩ 9999 rfl (by repeat (first | exact obs_nil | refine obs_draw (by kernel_rfl) ?_ | refine obs_same ?_ | refine obs_and ?_ | refine obs_by (by (simp [inB, hka, hkb] <;> omega)) ?_)) ?_
      refine runS_cond rfl (fun h2 => ?_) (fun h2 => ?_)
      · have hne : a.getD k 0 ≠ b.getD k 0 := by
          have : (!(((a.getD k 0 : Nat) : Int) == ((b.getD k 0 : Nat) : Int))) = true := h2
          intro e
          rw [e] at this
          simp at this
        have ew : IntKind.wrap .i64 (IntKind.wrap .i64 ((a.getD k 0 : Nat) : Int) - IntKind.wrap .i64 ((b.getD k 0 : Nat) : Int)) = (a.getD k 0 : Int) - b.getD k 0 := by
          rw [w64 (x := ((a.getD k 0 : Nat) : Int)) (by omega) (by omega), w64 (x := ((b.getD k 0 : Nat) : Int)) (by omega) (by omega), w64 (by omega) (by omega)]
        refine runS_x (I := inf) (J := jnf) ⟨false, false, [], 0, 0⟩ 9999 rfl (by repeat (first | exact obs_nil | refine obs_draw (by kernel_rfl) ?_ | refine obs_same ?_ | refine obs_and ?_ | refine obs_by (by (simp [inB, hka, hkb] <;> omega)) ?_)) ?_
        refine runS_ret (I := inf) 0 rfl (Nat.le_refl _) rfl .nil rfl ⟨?_, rfl⟩
        rw [hc, hcs, if_neg hne, ← ew]
        rfl
      · have heq : a.getD k 0 = b.getD k 0 := by
          have : (!(((a.getD k 0 : Nat) : Int) == ((b.getD k 0 : Nat) : Int))) = false := h2
          simp only [Bool.not_eq_false', beq_iff_eq] at this
          omega
        rw [if_pos heq] at hcs
        have hwk : IntKind.wrap .i64 ((k : Int) - 1) = (k : Int) - 1 := w64 (by omega) (by omega)
        refine runS_x (I := inf) (J := jnf) ⟨false, false, [], 0, 0⟩ 9999 rfl (by repeat (first | exact obs_nil | refine obs_draw (by kernel_rfl) ?_ | refine obs_same ?_ | refine obs_and ?_ | refine obs_by (by (simp [inB] <;> omega)) ?_)) ?_
        exact ih k _ _ (by omega) ⟨⟨rfl, rfl, congrArg iv hwk⟩, rfl, by omega, hc.trans hcs⟩
    · have hi0 : i = 0 := by
        have : decide ((i : Int) - 1 ≥ 0) = false := h1
        simp at this
        omega
      subst hi0
      refine runS_x (I := inf) (J := jnf) ⟨false, false, [], 0, 0⟩ 9999 rfl (by repeat (first | exact obs_nil | refine obs_draw (by kernel_rfl) ?_ | refine obs_same ?_ | refine obs_and ?_ | refine obs_by (by (simp [inB] <;> omega)) ?_)) ?_
      refine runS_ret (I := inf) 0 rfl (Nat.le_refl _) rfl .nil rfl ⟨?_, rfl⟩
      rw [hc]
      rfl
theorem d_plus (n1 n2 : Option Bool) (x y : Nat) (hlx : (frm x).length ≤ 4000) (hly : (frm y).length ≤ 4000) : CallT Tryd.prog 35 [limS n1 (frm x), limS n2 (frm y)] [] (fun o A => o = .ret (limS none (frm (x + y))) ∧ A = []) := by
  have hvx := val_frm x
  have hvy := val_frm y
  have hdx := getD_digit x
  have hdy := getD_digit y
  generalize frm x = A at *
  generalize frm y = B at *
  refine callS_body (n := 53) rfl rfl fun w ρ X => ?_
  refine runS_x (I := inf) (J := jnf) ⟨false, false, [], 0, 0⟩ 9999 rfl (by repeat (first | exact obs_nil | refine obs_draw (by kernel_rfl) ?_ | refine obs_same ?_ | refine obs_and ?_ | refine obs_by (by (simp [inB] <;> omega)) ?_)) ?_
  refine runS_nilRow 5 5 1 nilL rfl rfl ?_
  refine runS_while (fun (z : PlX) τ ar => (τ 0 = limS n1 A ∧ τ 1 = limS n2 B ∧ τ 5 = .row 0 z.acc.length ∧ τ 6 = uv z.c ∧ τ 7 = iv z.i) ∧ ar = [.row 5 1 z.acc.length z.acc.length (limR z.acc)] ∧ z.acc.length = z.i ∧ z.i ≤ 4001 ∧ (0 < z.c → z.i ≤ 4000) ∧ z.c ≤ 1 ∧ (∀ d ∈ z.acc, d < 10) ∧ val z.acc + 10 ^ z.i * (z.c + val (A.drop z.i) + val (B.drop z.i)) = x + y) (fun z => 8100 - z.i) ⟨0, 0, []⟩ ⟨⟨rfl, rfl, rfl, rfl, rfl⟩, rfl, rfl, Nat.zero_le _, fun _ => Nat.zero_le _, Nat.zero_le _, fun d hd => (by cases hd), by
      show 0 + 10 ^ 0 * (0 + val (A.drop 0) + val (B.drop 0)) = _
      rw [Nat.pow_zero, List.drop_zero, List.drop_zero]
      omega⟩ ?_
  rintro ⟨i, c, acc⟩ τ' ar' ⟨⟨g0, g1, g5, g6, g7⟩, rfl, hai, hi20, hc19, hc1, hdig, hval⟩ ih
  dsimp only at hai hi20 hc19 hc1 hdig hval ih
  refine runS_says 0 (by exact g0) (Says.refl _) ?_; refine runS_says 1 (by exact g1) (Says.refl _) ?_; refine runS_says 5 (by exact g5) (Says.refl _) ?_; refine runS_says 6 (by exact g6) (Says.refl _) ?_; refine runS_says 7 (by exact g7) (Says.refl _) ?_
  refine runS_x (I := inf) (J := jnf) ⟨false, false, [], 0, 0⟩ 9999 rfl (by repeat (first | exact obs_nil | refine obs_draw (by kernel_rfl) ?_ | refine obs_same ?_ | refine obs_and ?_ | refine obs_by (by (simp [inB] <;> omega)) ?_)) ?_
  have hcd : (if (if decide ((i : Int) < (A.length : Int)) = true then true else decide ((i : Int) < (B.length : Int))) = true then true else decide ((c : Int) > 0)) = decide (i < A.length ∨ i < B.length ∨ 0 < c) := by
    rw [Bool.eq_iff_iff]
    by_cases h1 : i < A.length <;> by_cases h2 : i < B.length <;> by_cases h3 : 0 < c <;> simp [h1, h2, h3] <;> omega
  refine runS_cond rfl (fun h => ?_) (fun h => ?_)
  · have hc := of_decide_eq_true (hcd.symm.trans h)
    have hi19 : i ≤ 4000 := by omega
    have hda := hdx i
    have hdb := hdy i
    have hda2 : ¬ i < A.length → A.getD i 0 = 0 := fun h => by rw [List.getD_eq_getElem?_getD, List.getElem?_eq_none (by omega)]; rfl
    have hdb2 : ¬ i < B.length → B.getD i 0 = 0 := fun h => by rw [List.getD_eq_getElem?_getD, List.getElem?_eq_none (by omega)]; rfl
    have hvA := val_drop A i
    have hvB := val_drop B i
    generalize hga : A.getD i 0 = p at *
    generalize hgb : B.getD i 0 = q at *
    refine runS_x (I := inf) (J := jnf) ⟨false, false, [], 0, 0⟩ 9999 rfl (by repeat (first | exact obs_nil | refine obs_draw (by kernel_rfl) ?_ | refine obs_same ?_ | refine obs_and ?_ | refine obs_by (by (simp [inB] <;> omega)) ?_)) ?_
    refine runS_cut (fun τ ar => (τ 0 = limS n1 A ∧ τ 1 = limS n2 B ∧ τ 5 = .row 0 acc.length ∧ τ 7 = iv i ∧ τ 6 = uv (c + p)) ∧ ar = [.row 5 1 acc.length acc.length (limR acc)]) (fun rest => ?_) ?_
    · refine runS_cond rfl (fun h1 => ?_) (fun h1 => ?_)
      · have hl : i < A.length := by
          have : decide ((i : Int) < (A.length : Int)) = true := h1
          simp at this
          omega
        have e : IntKind.wrap .u8 ((c : Int) + ((A.getD ((i : Int)).toNat 0 : Nat) : Int)) = ((c + p : Nat) : Int) := by rw [Int.toNat_natCast, hga, w8 (by omega) (by omega)]; rfl
        refine runS_x (I := inf) (J := jnf) ⟨false, false, [], 7, 0⟩ 9999 rfl (by repeat (first | exact obs_nil | refine obs_draw (by kernel_rfl) ?_ | refine obs_same ?_ | refine obs_and ?_ | refine obs_by (by (simp [inB, hl] <;> omega)) ?_)) ?_
        exact rest _ _ ⟨⟨rfl, rfl, rfl, rfl, congrArg (fun z => AV.val (.int .u8 z)) e⟩, rfl⟩
      · have hl : ¬ i < A.length := by
          have : decide ((i : Int) < (A.length : Int)) = false := h1
          simp at this
          omega
        have e : ((c : Int)) = ((c + p : Nat) : Int) := by rw [hda2 hl]; rfl
        refine runS_x (I := inf) (J := jnf) ⟨false, false, [], 7, 0⟩ 9999 rfl (by repeat (first | exact obs_nil | refine obs_draw (by kernel_rfl) ?_ | refine obs_same ?_ | refine obs_and ?_ | refine obs_by (by (simp [inB] <;> omega)) ?_)) ?_
        exact rest _ _ ⟨⟨rfl, rfl, rfl, rfl, congrArg (fun z => AV.val (.int .u8 z)) e⟩, rfl⟩
    rintro τ2 ar2 ⟨⟨g0, g1, g5, g7, g8⟩, rfl⟩
    refine runS_says 0 (by exact g0) (Says.refl _) ?_; refine runS_says 1 (by exact g1) (Says.refl _) ?_; refine runS_says 5 (by exact g5) (Says.refl _) ?_; refine runS_says 7 (by exact g7) (Says.refl _) ?_; refine runS_says 6 (by exact g8) (Says.refl _) ?_
    refine runS_x (I := inf) (J := jnf) ⟨false, false, [], 0, 0⟩ 9999 rfl (by repeat (first | exact obs_nil | refine obs_draw (by kernel_rfl) ?_ | refine obs_same ?_ | refine obs_and ?_ | refine obs_by (by (simp [inB] <;> omega)) ?_)) ?_
    refine runS_cut (fun τ ar => (τ 0 = limS n1 A ∧ τ 1 = limS n2 B ∧ τ 5 = .row 0 acc.length ∧ τ 7 = iv i ∧ τ 6 = uv (c + p + q)) ∧ ar = [.row 5 1 acc.length acc.length (limR acc)]) (fun rest => ?_) ?_
    · refine runS_cond rfl (fun h1 => ?_) (fun h1 => ?_)
      · have hl : i < B.length := by
          have : decide ((i : Int) < (B.length : Int)) = true := h1
          simp at this
          omega
        have e : IntKind.wrap .u8 (((c + p : Nat) : Int) + ((B.getD ((i : Int)).toNat 0 : Nat) : Int)) = ((c + p + q : Nat) : Int) := by rw [Int.toNat_natCast, hgb, w8 (by omega) (by omega)]; rfl
        refine runS_x (I := inf) (J := jnf) ⟨false, false, [], 7, 0⟩ 9999 rfl (by repeat (first | exact obs_nil | refine obs_draw (by kernel_rfl) ?_ | refine obs_same ?_ | refine obs_and ?_ | refine obs_by (by (simp [inB, hl] <;> omega)) ?_)) ?_
        exact rest _ _ ⟨⟨rfl, rfl, rfl, rfl, congrArg (fun z => AV.val (.int .u8 z)) e⟩, rfl⟩
      · have hl : ¬ i < B.length := by
          have : decide ((i : Int) < (B.length : Int)) = false := h1
          simp at this
          omega
        have e : (((c + p : Nat) : Int)) = ((c + p + q : Nat) : Int) := by rw [hdb2 hl]; rfl
        refine runS_x (I := inf) (J := jnf) ⟨false, false, [], 7, 0⟩ 9999 rfl (by repeat (first | exact obs_nil | refine obs_draw (by kernel_rfl) ?_ | refine obs_same ?_ | refine obs_and ?_ | refine obs_by (by (simp [inB] <;> omega)) ?_)) ?_
        exact rest _ _ ⟨⟨rfl, rfl, rfl, rfl, congrArg (fun z => AV.val (.int .u8 z)) e⟩, rfl⟩
    rintro τ2 ar2 ⟨⟨g0, g1, g5, g7, g8⟩, rfl⟩
    generalize hn : c + p + q = n at g8
    refine runS_says 0 (by exact g0) (Says.refl _) ?_; refine runS_says 1 (by exact g1) (Says.refl _) ?_; refine runS_says 5 (by exact g5) (Says.refl _) ?_; refine runS_says 7 (by exact g7) (Says.refl _) ?_; refine runS_says 6 (by exact g8) (Says.refl _) ?_
    have e1 : ((n : Int)).tmod 10 = ((n % 10 : Nat) : Int) := by rw [Int.natCast_emod, Int.tmod_eq_emod_of_nonneg (by omega)]; rfl
    have e2 : IntKind.wrap .u8 (((n : Int)).tdiv 10) = ((n / 10 : Nat) : Int) := by
      rw [Int.tdiv_eq_ediv_of_nonneg (by omega), w8 (by omega) (by omega), Int.natCast_ediv]; rfl
    have hw1 : IntKind.wrap .i64 ((i : Int) + 1) = ((i + 1 : Nat) : Int) := by rw [w64 (by omega) (by omega)]; rfl
    refine runS_x (I := inf) (J := jnf) ⟨false, false, [], 0, 0⟩ 9999 rfl (by repeat (first | exact obs_nil | refine obs_draw (by kernel_rfl) ?_ | refine obs_same ?_ | refine obs_and ?_ | refine obs_by (by (simp [inB] <;> omega)) ?_)) ?_
    refine runS_tell 0 (limR (acc ++ [n % 10])) rfl (m' := acc.length + 1) rfl (limR_snoc (congrArg (fun z => [AV.val (.int .u8 z)]) e1)) rfl ?_
    have hl' : (acc ++ [n % 10]).length = acc.length + 1 := by simp
    refine runS_x (I := inf) (J := jnf) ⟨false, false, [], 0, 0⟩ 9999 rfl (by repeat (first | exact obs_nil | refine obs_draw (by kernel_rfl) ?_ | refine obs_same ?_ | refine obs_and ?_ | refine obs_by (by (simp [inB] <;> omega)) ?_)) ?_
    refine runS_drop 1 (Nat.zero_le _) rfl (by repeat (first | exact .nil | refine .row (fun j hj => rfl) ?_ | refine .box rfl ?_ | refine .fam (fun k j hk hj => rfl) ?_ | refine .loop (scrub_under _ _) ?_ | refine .dfr ?_ | refine .gone ?_ | refine .map (fun p hp => by (obtain ⟨k, _, rfl⟩ := List.mem_map.1 hp; rfl)) ?_)) rfl rfl rfl (by repeat (first | exact .nil | refine .cons rfl rfl rfl (scrub_under _ _) ?_)) ?_
    refine ih ⟨i + 1, n / 10, acc ++ [n % 10]⟩ _ _ (by dsimp only; omega) ⟨⟨rfl, rfl, by dsimp only; rw [hl']; rfl, congrArg (fun z => AV.val (.int .u8 z)) e2, congrArg iv hw1⟩, by dsimp only; rw [hl'], by dsimp only; omega, by dsimp only; omega, ?_, by dsimp only; omega, ?_, ?_⟩
    · dsimp only
      intro h
      by_cases hA : i < A.length
      · omega
      · by_cases hB : i < B.length
        · omega
        · have h1 := hda2 hA
          have h2 := hdb2 hB
          omega
    · intro d hd
      rcases List.mem_append.1 hd with hd | hd
      · exact hdig d hd
      · have : d = n % 10 := by simpa using hd
        omega
    · dsimp only
      rw [val_app, hai]
      have e3 : val [n % 10] = n % 10 := by show n % 10 + 10 * 0 = _; omega
      have e4 : c + val (A.drop i) + val (B.drop i) = n % 10 + 10 * (n / 10 + val (A.drop (i + 1)) + val (B.drop (i + 1))) := by omega
      rw [e3, ← hval, e4, Nat.pow_succ, Nat.mul_add (10 ^ i), Nat.mul_assoc (10 ^ i) 10]
      omega
  · have hc := of_decide_eq_false (hcd.symm.trans h)
    have hxy : val acc = x + y := by
      rw [List.drop_eq_nil_of_le (by omega), List.drop_eq_nil_of_le (by omega)] at hval
      have hc0 : c = 0 := by omega
      rw [hc0] at hval
      simpa [val] using hval
    refine runS_x (I := inf) (J := jnf) ⟨false, false, [], 0, 0⟩ 9999 rfl (by repeat (first | exact obs_nil | refine obs_draw (by kernel_rfl) ?_ | refine obs_same ?_ | refine obs_and ?_ | refine obs_by (by (simp [inB] <;> omega)) ?_)) ?_
    refine runS_freeze 51 rfl rfl rfl (fun j hj => rfl) ?_
    refine runS_call rfl rfl rfl rfl rfl rfl rfl (d_trimmed none acc (by omega) hdig) ?_
    refine runS_x (I := inf) (J := jnf) ⟨false, false, [], 0, 0⟩ 9999 rfl (by repeat (first | exact obs_nil | refine obs_draw (by kernel_rfl) ?_ | refine obs_same ?_ | refine obs_and ?_ | refine obs_by (by (simp [inB] <;> omega)) ?_)) ?_
    refine runS_ret (I := inf) 0 rfl (Nat.le_refl _) rfl .nil rfl ⟨?_, rfl⟩
    unfold trim
    rw [hxy]
    rfl
end Go.Iron.Tryd

/- Digits: products, carries and differences place by place. -/
namespace Go.Iron.Dg

structure MulI (x y : List Nat) (n i k : Nat) (o : Nat → Nat) : Prop where
  sum : sumF o n = val (x.take i) * val y + x.getD i 0 * 10 ^ i * val (y.take k)
  le : ∀ j, o j ≤ 81 * i + (if i ≤ j ∧ j < i + k then 81 else 0)
theorem mulI_zero (x y : List Nat) (n : Nat) : MulI x y n 0 0 (fun _ => 0) := by
  refine ⟨?_, fun j => Nat.zero_le _⟩
  have : ∀ n, sumF (fun _ => 0) n = 0 := fun n => by
    induction n with
    | zero => rfl
    | succ n ih => rw [sumF, ih]; simp
  rw [this, List.take_zero, List.take_zero]
  show 0 = 0 * val y + x.getD 0 0 * 10 ^ 0 * 0
  simp
theorem mulI_step {x y : List Nat} {n i k : Nat} {o : Nat → Nat} (hx : ∀ d ∈ x, d < 10) (hy : ∀ d ∈ y, d < 10) (hk : k < y.length) (hn : i + k < n) (h : MulI x y n i k o) : MulI x y n i (k + 1) (updF o (i + k) (o (i + k) + x.getD i 0 * y.getD k 0)) := by
  obtain ⟨h1, h2⟩ := h
  have hx' := getD_lt hx i
  have hy' := getD_lt hy k
  have h81 : x.getD i 0 * y.getD k 0 ≤ 81 := Nat.mul_le_mul (show x.getD i 0 ≤ 9 by omega) (show y.getD k 0 ≤ 9 by omega)
  refine ⟨?_, fun j => ?_⟩
  · have h3 := sumF_upd (o := o) (v := o (i + k) + x.getD i 0 * y.getD k 0) hn
    rw [h1, Nat.add_mul] at h3
    rw [val_take hk, Nat.mul_add]
    have h4 : x.getD i 0 * 10 ^ i * (10 ^ k * y.getD k 0) = x.getD i 0 * y.getD k 0 * 10 ^ (i + k) := by rw [Nat.pow_add]; ac_rfl
    rw [h4]
    omega
  · unfold updF
    have h5 := h2 (i + k)
    rw [if_neg (by omega)] at h5
    by_cases hj : j = i + k
    · rw [if_pos hj, if_pos (by omega)]
      omega
    · rw [if_neg hj]
      have h6 := h2 j
      by_cases h7 : i ≤ j ∧ j < i + k
      · rw [if_pos h7] at h6
        rw [if_pos (by omega)]
        exact h6
      · rw [if_neg h7] at h6
        rw [if_neg (by omega)]
        exact h6
theorem mulI_row {x y : List Nat} {n i : Nat} {o : Nat → Nat} (hi : i < x.length) (h : MulI x y n i y.length o) : MulI x y n (i + 1) 0 o := by
  obtain ⟨h1, h2⟩ := h
  refine ⟨?_, fun j => ?_⟩
  · rw [h1, List.take_zero, List.take_length, val_take hi, Nat.add_mul]
    show _ = _ + x.getD (i + 1) 0 * 10 ^ (i + 1) * 0
    rw [Nat.mul_zero, Nat.add_zero, Nat.mul_comm (10 ^ i)]
  · have h3 := h2 j
    have : (if i ≤ j ∧ j < i + y.length then 81 else 0) ≤ 81 := by split <;> omega
    omega
/-- Carries, from one row of places into another. -/
structure CarJ (s : Nat → Nat) (M i c : Nat) (p : Nat → Nat) : Prop where
  sum : sumF p i + c * 10 ^ i = sumF s i
  lt : ∀ j, j < i → p j < 10
  cle : c ≤ M
theorem carJ_step {s : Nat → Nat} {M i c : Nat} {p : Nat → Nat} (hM : 10 ≤ M) (hs : s i ≤ M) (h : CarJ s M i c p) : CarJ s M (i + 1) ((c + s i) / 10) (updF p i ((c + s i) % 10)) := by
  obtain ⟨h1, h2, h4⟩ := h
  refine ⟨?_, fun j hj => ?_, by omega⟩
  · rw [sumF, sumF, sumF_congr (o := updF p i ((c + s i) % 10)) (p := p) (fun j hj => by unfold updF; rw [if_neg (by omega)])]
    have h7 : (c + s i) / 10 * 10 ^ (i + 1) = 10 * ((c + s i) / 10) * 10 ^ i := by rw [Nat.pow_succ]; ac_rfl
    have h8 : (c + s i) % 10 * 10 ^ i + 10 * ((c + s i) / 10) * 10 ^ i = c * 10 ^ i + s i * 10 ^ i := by
      rw [← Nat.add_mul, ← Nat.add_mul]
      congr 1
      omega
    have h9 : updF p i ((c + s i) % 10) i = (c + s i) % 10 := by unfold updF; rw [if_pos rfl]
    rw [h9]
    omega
  · unfold updF
    split
    · omega
    · exact h2 j (by omega)
theorem carJ_end {s : Nat → Nat} {n M c : Nat} {p : Nat → Nat} (ht : sumF s n < 10 ^ n) (h : CarJ s M n c p) : val (listF p n) = sumF s n ∧ ∀ d ∈ listF p n, d < 10 := by
  obtain ⟨h1, h2, h4⟩ := h
  have hc : c = 0 := by
    by_cases hc : c = 0
    · exact hc
    · exfalso
      have : 1 * 10 ^ n ≤ c * 10 ^ n := Nat.mul_le_mul_right _ (by omega)
      omega
  subst hc
  rw [val_listF]
  exact ⟨by omega, listF_lt h2⟩
/-- Differences. -/
structure LesI (a b : List Nat) (i w : Nat) (p : Nat → Nat) : Prop where
  sum : sumF p i + val (b.take i) = val (a.take i) + w * 10 ^ i
  lt : ∀ j, j < i → p j < 10
  eq : ∀ j, i ≤ j → p j = a.getD j 0
  wle : w ≤ 1
def lesD (a b : List Nat) (i w : Nat) : Nat := if a.getD i 0 < w + b.getD i 0 then a.getD i 0 + 10 - (w + b.getD i 0) else a.getD i 0 - (w + b.getD i 0)
def lesW (a b : List Nat) (i w : Nat) : Nat := if a.getD i 0 < w + b.getD i 0 then 1 else 0
theorem lesI_zero (a b : List Nat) : LesI a b 0 0 (fun j => a.getD j 0) := ⟨by rw [List.take_zero, List.take_zero]; rfl, fun j hj => by omega, fun j _ => rfl, by omega⟩
theorem lesI_step {a b : List Nat} {i w : Nat} {p : Nat → Nat} (ha : ∀ d ∈ a, d < 10) (hb : ∀ d ∈ b, d < 10) (h : LesI a b i w p) : LesI a b (i + 1) (lesW a b i w) (updF p i (lesD a b i w)) := by
  obtain ⟨h1, h2, h3, h4⟩ := h
  have ha' := getD_lt ha i
  have hb' := getD_lt hb i
  refine ⟨?_, fun j hj => ?_, fun j hj => ?_, by unfold lesW; split <;> omega⟩
  · rw [sumF, sumF_congr (o := updF p i (lesD a b i w)) (p := p) (fun j hj => by unfold updF; rw [if_neg (by omega)]), val_takeD, val_takeD]
    have h9 : updF p i (lesD a b i w) i = lesD a b i w := by unfold updF; rw [if_pos rfl]
    rw [h9]
    have h7 : lesW a b i w * 10 ^ (i + 1) = 10 * lesW a b i w * 10 ^ i := by rw [Nat.pow_succ]; ac_rfl
    have h8 : lesD a b i w * 10 ^ i + b.getD i 0 * 10 ^ i + w * 10 ^ i = a.getD i 0 * 10 ^ i + 10 * lesW a b i w * 10 ^ i := by
      rw [← Nat.add_mul, ← Nat.add_mul, ← Nat.add_mul]
      congr 1
      unfold lesD lesW
      split <;> omega
    omega
  · unfold updF
    split
    · unfold lesD
      split <;> omega
    · exact h2 j (by omega)
  · unfold updF
    rw [if_neg (by omega)]
    exact h3 j (by omega)
theorem lesI_end {a b : List Nat} {w : Nat} {p : Nat → Nat} (hb : b.length ≤ a.length) (hv : val b ≤ val a) (h : LesI a b a.length w p) : val (listF p a.length) = val a - val b ∧ ∀ d ∈ listF p a.length, d < 10 := by
  obtain ⟨h1, h2, h3, h4⟩ := h
  rw [List.take_length, List.take_of_length_le hb] at h1
  have h5 := sumF_lt h2
  have hc : w = 0 := by
    by_cases hc : w = 0
    · exact hc
    · exfalso
      have : w = 1 := by omega
      subst this
      omega
  subst hc
  rw [val_listF]
  exact ⟨by omega, listF_lt h2⟩
end Go.Iron.Dg

/- The digits' seat: limbs (less, times). -/
namespace Go.Iron.Tryd
open Go.Proofs Go.RowKit Go.Iron.Tok Go.Iron.Dg

/-- Rows told by functions. -/
def rowB (p : Nat → Nat) : Nat → List AV := fun j => [uv (p j)]
def rowN (p : Nat → Nat) : Nat → List AV := fun j => [iv (p j : Nat)]
theorem rowB_upd {p : Nat → Nat} {i v : Nat} {cs : List AV} (h : cs = [uv v]) (j : Nat) : rowB (updF p i v) j = setR (rowB p) i cs j := by
  by_cases e : j = i
  · subst e
    rw [setR_self, h]
    unfold rowB updF
    rw [if_pos rfl]
  · rw [setR_ne e]
    unfold rowB updF
    rw [if_neg e]
theorem rowN_upd {p : Nat → Nat} {i v : Nat} {cs : List AV} (h : cs = [iv (v : Nat)]) (j : Nat) : rowN (updF p i v) j = setR (rowN p) i cs j := by
  by_cases e : j = i
  · subst e
    rw [setR_self, h]
    unfold rowN updF
    rw [if_pos rfl]
  · rw [setR_ne e]
    unfold rowN updF
    rw [if_neg e]
theorem limR_listF (p : Nat → Nat) {n i : Nat} (h : i < n) : limR (listF p n) i = rowB p i := by
  unfold limR encR rowB
  rw [listF_getD p h]
theorem uvc {z : Int} {n : Nat} (h : z = (n : Int)) : AV.val (.int .u8 z) = uv n := by rw [h]
theorem d_less1 (n2 : Option Bool) (x y : Nat) (hyx : y ≤ x) (hl : (frm x).length ≤ 4000) : CallT Tryd.prog 37 [limS (some false) (frm x), limS n2 (frm y)] [] (fun o A => o = .ret (limS none (frm (x - y))) ∧ A = []) := by
  have hda := fun d (hd : d ∈ frm x) => frm_digit hd
  have hdb := fun d (hd : d ∈ frm y) => frm_digit hd
  have hvx := val_frm x
  have hvy := val_frm y
  have hll := frm_len_mono hyx
  generalize frm x = A at *
  generalize frm y = B at *
  refine callS_body (n := 49) rfl rfl fun w ρ X => ?_
  refine runS_x (I := inf) (J := jnf) ⟨true, false, [58], 0, 0⟩ 9999 rfl (by repeat (first | exact obs_nil | refine obs_draw (by kernel_rfl) ?_ | refine obs_same ?_ | refine obs_and ?_ | refine obs_by (by (simp [inB] <;> omega)) ?_)) ?_
  refine runS_tell 0 (rowB (fun j => A.getD j 0)) rfl (m' := A.length) (by simp) (fun j hj => (appR_ge (Nat.zero_le _)).symm) rfl ?_
  rw [show ((0 + A.length : Nat) : Int) = (A.length : Int) by rw [Nat.zero_add]]
  refine runS_while (fun (z : Nat × Nat × (Nat → Nat)) τ ar => (τ 1 = limS n2 B ∧ τ 5 = .row 0 1 ∧ τ 6 = uv z.2.1 ∧ τ 12 = iv A.length ∧ τ 13 = iv z.1) ∧ ar = [.row 5 1 1 A.length (rowB z.2.2)] ∧ z.1 ≤ A.length ∧ LesI A B z.1 z.2.1 z.2.2) (fun z => A.length - z.1) (0, 0, fun j => A.getD j 0) ⟨⟨rfl, rfl, rfl, rfl, rfl⟩, rfl, Nat.zero_le _, lesI_zero A B⟩ ?_
  rintro ⟨i, v, p⟩ τ' ar' ⟨⟨g1, g5, g6, g12, g13⟩, rfl, hi, hL⟩ ih
  dsimp only at g6 g13 hi hL ih ⊢
  refine runS_says 1 (by exact g1) (Says.refl _) ?_; refine runS_says 5 (by exact g5) (Says.refl _) ?_; refine runS_says 6 (by exact g6) (Says.refl _) ?_; refine runS_says 12 (by exact g12) (Says.refl _) ?_; refine runS_says 13 (by exact g13) (Says.refl _) ?_
  refine runS_x (I := inf) (J := jnf) ⟨false, false, [], 0, 0⟩ 9999 rfl (by repeat (first | exact obs_nil | refine obs_draw (by kernel_rfl) ?_ | refine obs_same ?_ | refine obs_and ?_ | refine obs_by (by (simp [inB] <;> omega)) ?_)) ?_
  refine runS_cond rfl (fun h => ?_) (fun h => ?_)
  · have hlt : i < A.length := by simp at h; omega
    have hw1 : IntKind.wrap .i64 ((i : Int) + 1) = ((i + 1 : Nat) : Int) := by rw [w64 (by omega) (by omega)]; rfl
    have hpi : p i = A.getD i 0 := hL.eq i (Nat.le_refl _)
    have hai := getD_lt hda i
    have hbi := getD_lt hdb i
    have hv1 := hL.wle
    have hst := lesI_step hda hdb hL
    unfold lesD lesW at hst
    rw [← hpi] at hst hai
    have hb0 : ¬ i < B.length → B.getD i 0 = 0 := fun h => by rw [List.getD_eq_getElem?_getD, List.getElem?_eq_none (by omega)]; rfl
    refine runS_x (I := inf) (J := jnf) ⟨false, false, [], 0, 0⟩ 9999 rfl (by repeat (first | exact obs_nil | refine obs_draw (by kernel_rfl) ?_ | refine obs_same ?_ | refine obs_and ?_ | refine obs_by (by (simp [inB] <;> omega)) ?_)) ?_
    refine runS_cut (fun τ ar => (τ 1 = limS n2 B ∧ τ 5 = .row 0 1 ∧ τ 7 = iv i ∧ τ 8 = uv (v + B.getD i 0) ∧ τ 12 = iv A.length ∧ τ 13 = iv i) ∧ ar = [.row 5 1 1 A.length (rowB p)]) (fun rest => ?_) ?_
    · refine runS_cond rfl (fun h1 => ?_) (fun h1 => ?_)
      · have hlb : i < B.length := by
          have : decide ((i : Int) < (B.length : Int)) = true := h1
          simp at this
          omega
        have e : IntKind.wrap .u8 ((v : Int) + ((B.getD ((i : Int)).toNat 0 : Nat) : Int)) = ((v + B.getD i 0 : Nat) : Int) := by rw [Int.toNat_natCast, w8 (by omega) (by omega)]; rfl
        refine runS_x (I := inf) (J := jnf) ⟨false, false, [], 7, 0⟩ 9999 rfl (by repeat (first | exact obs_nil | refine obs_draw (by kernel_rfl) ?_ | refine obs_same ?_ | refine obs_and ?_ | refine obs_by (by (simp [inB, hlb] <;> omega)) ?_)) ?_
        exact rest _ _ ⟨⟨rfl, rfl, rfl, uvc e, rfl, rfl⟩, rfl⟩
      · have hlb : ¬ i < B.length := by
          have : decide ((i : Int) < (B.length : Int)) = false := h1
          simp at this
          omega
        refine runS_x (I := inf) (J := jnf) ⟨false, false, [], 7, 0⟩ 9999 rfl (by repeat (first | exact obs_nil | refine obs_draw (by kernel_rfl) ?_ | refine obs_same ?_ | refine obs_and ?_ | refine obs_by (by (simp [inB] <;> omega)) ?_)) ?_
        exact rest _ _ ⟨⟨rfl, rfl, rfl, uvc (by rw [hb0 hlb]; rfl), rfl, rfl⟩, rfl⟩
    rintro τ2 ar2 ⟨⟨g1, g5, g7, g8, g12, g13⟩, rfl⟩
    generalize hD : v + B.getD i 0 = D at g8 hst
    refine runS_says 1 (by exact g1) (Says.refl _) ?_; refine runS_says 5 (by exact g5) (Says.refl _) ?_; refine runS_says 7 (by exact g7) (Says.refl _) ?_; refine runS_says 8 (by exact g8) (Says.refl _) ?_; refine runS_says 12 (by exact g12) (Says.refl _) ?_; refine runS_says 13 (by exact g13) (Says.refl _) ?_
    refine runS_x (I := inf) (J := jnf) ⟨false, false, [], 0, 0⟩ 9999 rfl (by repeat (first | exact obs_nil | refine obs_draw (by kernel_rfl) ?_ | refine obs_same ?_ | refine obs_and ?_ | refine obs_by (by (simp [inB, hlt] <;> omega)) ?_)) ?_
    refine runS_cond rfl (fun h2 => ?_) (fun h2 => ?_)
    · have hlt2 : p i < D := by
        have := of_decide_eq_true (show decide (((p i : Nat) : Int) < (D : Int)) = true from h2)
        omega
      rw [if_pos hlt2, if_pos hlt2] at hst
      have e1 : IntKind.wrap .u8 (((p i : Nat) : Int) + 10) = ((p i + 10 : Nat) : Int) := by rw [w8 (by omega) (by omega)]; rfl
      refine runS_x (I := inf) (J := jnf) ⟨false, false, [], 0, 0⟩ 10 rfl (by repeat (first | exact obs_nil | refine obs_draw (by kernel_rfl) ?_ | refine obs_same ?_ | refine obs_and ?_ | refine obs_by (by (simp [inB, hlt] <;> omega)) ?_)) ?_
      refine runS_tell 0 (rowB (updF p i (p i + 10))) rfl (m' := A.length) rfl (fun j hj => rowB_upd (congrArg (fun z => [AV.val (.int .u8 z)]) e1) j) rfl ?_
      have hu : updF p i (p i + 10) i = p i + 10 := by unfold updF; rw [if_pos rfl]
      have e2 : IntKind.wrap .u8 (((updF p i (p i + 10) i : Nat) : Int) - (D : Int)) = ((p i + 10 - D : Nat) : Int) := by rw [hu, w8 (by omega) (by omega)]; omega
      refine runS_x (I := inf) (J := jnf) ⟨false, false, [], 0, 0⟩ 9999 rfl (by repeat (first | exact obs_nil | refine obs_draw (by kernel_rfl) ?_ | refine obs_same ?_ | refine obs_and ?_ | refine obs_by (by (simp [inB, hlt] <;> omega)) ?_)) ?_
      refine runS_tell 0 (rowB (updF p i (p i + 10 - D))) rfl (m' := A.length) rfl (fun j hj => ?_) rfl ?_
      · refine Eq.trans ?_ (rowB_upd (p := updF p i (p i + 10)) (congrArg (fun z => [AV.val (.int .u8 z)]) e2) j)
        unfold rowB updF
        by_cases e : j = i
        · simp [e]
        · simp [e]
      refine ih (i + 1, 1, updF p i (p i + 10 - D)) _ _ (by dsimp only; omega) ⟨⟨rfl, rfl, rfl, rfl, congrArg iv hw1⟩, rfl, by dsimp only; omega, hst⟩
    · have hlt2 : ¬ p i < D := by
        have := of_decide_eq_false (show decide (((p i : Nat) : Int) < (D : Int)) = false from h2)
        omega
      rw [if_neg hlt2, if_neg hlt2] at hst
      have e2 : IntKind.wrap .u8 (((p i : Nat) : Int) - (D : Int)) = ((p i - D : Nat) : Int) := by rw [w8 (by omega) (by omega)]; omega
      refine runS_x (I := inf) (J := jnf) ⟨false, false, [], 0, 0⟩ 9999 rfl (by repeat (first | exact obs_nil | refine obs_draw (by kernel_rfl) ?_ | refine obs_same ?_ | refine obs_and ?_ | refine obs_by (by (simp [inB, hlt] <;> omega)) ?_)) ?_
      refine runS_tell 0 (rowB (updF p i (p i - D))) rfl (m' := A.length) rfl (fun j hj => rowB_upd (congrArg (fun z => [AV.val (.int .u8 z)]) e2) j) rfl ?_
      refine ih (i + 1, 0, updF p i (p i - D)) _ _ (by dsimp only; omega) ⟨⟨rfl, rfl, rfl, rfl, congrArg iv hw1⟩, rfl, by dsimp only; omega, hst⟩
  · have hie : i = A.length := by
      have : decide ((i : Int) < (A.length : Int)) = false := h
      simp at this
      omega
    subst hie
    obtain ⟨hv, hdg⟩ := lesI_end hll (by omega) hL
    refine runS_x (I := inf) (J := jnf) ⟨false, false, [], 0, 0⟩ 9999 rfl (by repeat (first | exact obs_nil | refine obs_draw (by kernel_rfl) ?_ | refine obs_same ?_ | refine obs_and ?_ | refine obs_by (by (simp [inB] <;> omega)) ?_)) ?_
    refine runS_tell 0 (limR (listF p A.length)) rfl (m' := A.length) rfl (fun j hj => limR_listF p hj) rfl ?_
    refine runS_freeze 47 rfl rfl rfl (fun j hj => rfl) ?_
    have hc := d_trimmed none (listF p A.length) (by rw [listF_len]; omega) hdg
    unfold limS at hc
    rw [listF_len] at hc
    refine runS_call rfl rfl rfl rfl rfl rfl rfl hc ?_
    refine runS_x (I := inf) (J := jnf) ⟨false, false, [], 0, 0⟩ 9999 rfl (by repeat (first | exact obs_nil | refine obs_draw (by kernel_rfl) ?_ | refine obs_same ?_ | refine obs_and ?_ | refine obs_by (by (simp [inB] <;> omega)) ?_)) ?_
    refine runS_ret (I := inf) 0 rfl (Nat.le_refl _) rfl .nil rfl ⟨?_, rfl⟩
    unfold trim
    rw [hv, hvx, hvy]
    rfl
theorem d_less0 (b : Bool) (n2 : Option Bool) : CallT Tryd.prog 37 [limS (some b) (frm 0), limS n2 (frm 0)] [] (fun o A => o = .ret (limS none (frm 0)) ∧ A = []) := by
  cases b
  · exact d_less1 n2 0 0 (Nat.le_refl _) (by rw [frm_zero]; decide)
  · rw [frm_zero]
    refine callS_body (n := 49) rfl rfl fun w ρ X => ?_
    refine runS_x (I := inf) (J := jnf) ⟨true, false, [58], 0, 0⟩ 9999 rfl (by repeat (first | exact obs_nil | refine obs_draw (by kernel_rfl) ?_ | refine obs_same ?_ | refine obs_and ?_ | refine obs_by (by (simp [inB] <;> omega)) ?_)) ?_
    refine runS_while (fun (z : Nat) τ ar => (τ 5 = .val (.slice none 0 0) ∧ τ 12 = iv 0 ∧ τ 13 = iv 0) ∧ ar = []) (fun z => 0) 0 ⟨⟨rfl, rfl, rfl⟩, rfl⟩ ?_
    rintro i τ' ar' ⟨⟨g5, g12, g13⟩, rfl⟩ ih
    refine runS_says 5 (by exact g5) (Says.refl _) ?_; refine runS_says 12 (by exact g12) (Says.refl _) ?_; refine runS_says 13 (by exact g13) (Says.refl _) ?_
    refine runS_x (I := inf) (J := jnf) ⟨true, false, [], 0, 0⟩ 9999 rfl (by repeat (first | exact obs_nil | refine obs_draw (by kernel_rfl) ?_ | refine obs_same ?_ | refine obs_and ?_ | refine obs_by (by (simp [inB] <;> omega)) ?_)) ?_
    refine runS_says 47 rfl (says_nil0 (sz := 1) (r := nilL) (Nat.zero_le _)) ?_
    have hc := d_trimmed none [] (by decide) (fun d hd => by cases hd)
    refine runS_call rfl rfl rfl rfl rfl rfl rfl hc ?_
    refine runS_x (I := inf) (J := jnf) ⟨false, false, [], 0, 0⟩ 9999 rfl (by repeat (first | exact obs_nil | refine obs_draw (by kernel_rfl) ?_ | refine obs_same ?_ | refine obs_and ?_ | refine obs_by (by (simp [inB] <;> omega)) ?_)) ?_
    refine runS_ret (I := inf) 0 rfl (Nat.le_refl _) rfl .nil rfl ⟨?_, rfl⟩
    unfold trim
    rw [show frm (val []) = [] from frm_zero]
    rfl
theorem d_less (n1 n2 : Option Bool) (x y : Nat) (hyx : y ≤ x) (hl : (frm x).length ≤ 4000) : CallT Tryd.prog 37 [limS n1 (frm x), limS n2 (frm y)] [] (fun o A => o = .ret (limS none (frm (x - y))) ∧ A = []) := by
  refine callT_says (.cons says_nl (.cons (Says.refl _) .nil)) ?_
  by_cases h0 : x = 0
  · obtain rfl : y = 0 := by omega
    subst h0
    exact callT_nl fun b => d_less0 b n2
  · refine callT_says (.cons (says_nn (Nat.pos_of_ne_zero fun e => h0 (frm_len0.1 e))) (.cons (Says.refl _) .nil)) ?_
    exact d_less1 n2 x y hyx hl
end Go.Iron.Tryd

/- The digits' seat: products of limbs. -/
namespace Go.Iron.Tryd
open Go.Proofs Go.RowKit Go.Iron.Tok Go.Iron.Dg

theorem mul_lt_pow (x y : Nat) {n : Nat} (hn : (frm x).length + (frm y).length ≤ n) : x * y < 10 ^ n :=
  frm_len_lt.1 (Nat.le_trans (frm_len_mul x y) hn)
theorem d_times (n1 n2 : Option Bool) (x y : Nat) (hx : (frm x).length ≤ 4000) (hy : (frm y).length ≤ 4000) : CallT Tryd.prog 32 [limS n1 (frm x), limS n2 (frm y)] [] (fun o A => o = .ret (limS none (frm (x * y))) ∧ A = []) := by
  have hda := fun d (hd : d ∈ frm x) => frm_digit hd
  have hdb := fun d (hd : d ∈ frm y) => frm_digit hd
  have hvx := val_frm x
  have hvy := val_frm y
  have hlp := mul_lt_pow x y (n := (frm x).length + (frm y).length + 1) (by omega)
  generalize frm x = A at *
  generalize frm y = B at *
  have hn0 : IntKind.wrap .i64 (IntKind.wrap .i64 ((A.length : Int) + (B.length : Int)) + 1) = ((A.length + B.length + 1 : Nat) : Int) := by
    rw [w64 (x := (A.length : Int) + (B.length : Int)) (by omega) (by omega), w64 (by omega) (by omega)]; rfl
  refine callS_body (n := 74) rfl rfl fun w ρ X => ?_
  refine runS_x (I := inf) (J := jnf) ⟨false, false, [], 0, 0⟩ 9999 rfl (by repeat (first | exact obs_nil | refine obs_draw (by kernel_rfl) ?_ | refine obs_same ?_ | refine obs_and ?_ | refine obs_by (by (simp [inB, hn0] <;> omega)) ?_)) ?_
  obtain ⟨N, hN⟩ : ∃ N, A.length + B.length + 1 = N := ⟨_, rfl⟩
  rw [hN] at hlp
  refine runS_tell 0 (rowN (fun _ => 0)) rfl (m' := N) (by rw [hn0, hN]; rfl) (fun j hj => rfl) rfl ?_
  refine runS_while (fun (z : Nat × (Nat → Nat)) τ ar => (τ 0 = limS n1 A ∧ τ 1 = limS n2 B ∧ τ 5 = .row 0 0 ∧ τ 21 = limS n1 A ∧ τ 22 = iv A.length ∧ τ 23 = iv z.1) ∧ ar = [.row 3 1 0 N (rowN z.2)] ∧ z.1 ≤ A.length ∧ MulI A B N z.1 0 z.2) (fun z => A.length - z.1) (0, fun _ => 0) ⟨⟨rfl, rfl, rfl, rfl, rfl, rfl⟩, rfl, Nat.zero_le _, mulI_zero A B _⟩ ?_
  rintro ⟨i, s⟩ τ' ar' ⟨⟨g0, g1, g5, g21, g22, g23⟩, rfl, hi, hL⟩ ih
  dsimp only at g23 hi hL ih ⊢
  refine runS_says 0 (by exact g0) (Says.refl _) ?_; refine runS_says 1 (by exact g1) (Says.refl _) ?_; refine runS_says 5 (by exact g5) (Says.refl _) ?_; refine runS_says 21 (by exact g21) (Says.refl _) ?_; refine runS_says 22 (by exact g22) (Says.refl _) ?_; refine runS_says 23 (by exact g23) (Says.refl _) ?_
  refine runS_x (I := inf) (J := jnf) ⟨false, false, [], 0, 0⟩ 9999 rfl (by repeat (first | exact obs_nil | refine obs_draw (by kernel_rfl) ?_ | refine obs_same ?_ | refine obs_and ?_ | refine obs_by (by (simp [inB] <;> omega)) ?_)) ?_
  refine runS_cond rfl (fun h => ?_) (fun h => ?_)
  · have hlt : i < A.length := by simp at h; omega
    have hw1 : IntKind.wrap .i64 ((i : Int) + 1) = ((i + 1 : Nat) : Int) := by rw [w64 (by omega) (by omega)]; rfl
    have hai := getD_lt hda i
    refine runS_x (I := inf) (J := jnf) ⟨false, false, [], 0, 0⟩ 9999 rfl (by repeat (first | exact obs_nil | refine obs_draw (by kernel_rfl) ?_ | refine obs_same ?_ | refine obs_and ?_ | refine obs_by (by (simp [inB, hlt] <;> omega)) ?_)) ?_
    refine runS_while (fun (z : Nat × (Nat → Nat)) τ ar => (τ 0 = limS n1 A ∧ τ 1 = limS n2 B ∧ τ 5 = .row 0 0 ∧ τ 6 = iv i ∧ τ 7 = uv (A.getD i 0) ∧ τ 21 = limS n1 A ∧ τ 22 = iv A.length ∧ τ 23 = iv i ∧ τ 28 = limS n2 B ∧ τ 29 = iv B.length ∧ τ 30 = iv z.1) ∧ ar = [.row 3 1 0 N (rowN z.2)] ∧ z.1 ≤ B.length ∧ MulI A B N i z.1 z.2) (fun z => B.length - z.1) (0, s) ⟨⟨rfl, rfl, rfl, rfl, rfl, rfl, rfl, rfl, rfl, rfl, rfl⟩, rfl, Nat.zero_le _, hL⟩ ?_
    rintro ⟨k, s2⟩ τ2 ar2 ⟨⟨g0, g1, g5, g6, g7, g21, g22, g23, g28, g29, g30⟩, rfl, hk, hK⟩ ih2
    dsimp only at g30 hk hK ih2 ⊢
    refine runS_says 0 (by exact g0) (Says.refl _) ?_; refine runS_says 1 (by exact g1) (Says.refl _) ?_; refine runS_says 5 (by exact g5) (Says.refl _) ?_; refine runS_says 6 (by exact g6) (Says.refl _) ?_; refine runS_says 7 (by exact g7) (Says.refl _) ?_; refine runS_says 21 (by exact g21) (Says.refl _) ?_; refine runS_says 22 (by exact g22) (Says.refl _) ?_; refine runS_says 23 (by exact g23) (Says.refl _) ?_; refine runS_says 28 (by exact g28) (Says.refl _) ?_; refine runS_says 29 (by exact g29) (Says.refl _) ?_; refine runS_says 30 (by exact g30) (Says.refl _) ?_
    refine runS_x (I := inf) (J := jnf) ⟨false, false, [], 0, 0⟩ 9999 rfl (by repeat (first | exact obs_nil | refine obs_draw (by kernel_rfl) ?_ | refine obs_same ?_ | refine obs_and ?_ | refine obs_by (by (simp [inB] <;> omega)) ?_)) ?_
    refine runS_cond rfl (fun h2 => ?_) (fun h2 => ?_)
    · have hkt : k < B.length := by simp at h2; omega
      have hbk := getD_lt hdb k
      have hw2 : IntKind.wrap .i64 ((k : Int) + 1) = ((k + 1 : Nat) : Int) := by rw [w64 (by omega) (by omega)]; rfl
      have hwi : IntKind.wrap .i64 ((i : Int) + (k : Int)) = ((i + k : Nat) : Int) := by rw [w64 (by omega) (by omega)]; rfl
      have hle := hK.le (i + k)
      have hsm : (if i ≤ i + k ∧ i + k < i + k then 81 else 0) ≤ 81 := by split <;> omega
      have hm81 : A.getD i 0 * B.getD k 0 ≤ 81 := Nat.mul_le_mul (show A.getD i 0 ≤ 9 by omega) (show B.getD k 0 ≤ 9 by omega)
      have hev : IntKind.wrap .i64 (((s2 (i + k) : Nat) : Int) + IntKind.wrap .i64 (IntKind.wrap .i64 ((A.getD i 0 : Nat) : Int) * IntKind.wrap .i64 ((B.getD k 0 : Nat) : Int))) = ((s2 (i + k) + A.getD i 0 * B.getD k 0 : Nat) : Int) := by
        rw [w64 (x := ((A.getD i 0 : Nat) : Int)) (by omega) (by omega), w64 (x := ((B.getD k 0 : Nat) : Int)) (by omega) (by omega), ← Int.natCast_mul, w64 (x := ((A.getD i 0 * B.getD k 0 : Nat) : Int)) (by omega) (by omega), w64 (by omega) (by omega)]
        rfl
      have hst := mulI_step hda hdb hkt (by omega) hK
      refine runS_x (I := inf) (J := jnf) ⟨false, false, [], 0, 0⟩ 9999 rfl (by repeat (first | exact obs_nil | refine obs_draw (by kernel_rfl) ?_ | refine obs_same ?_ | refine obs_and ?_ | refine obs_by (by (simp [inB, hkt, hwi] <;> omega)) ?_)) ?_
      rw [hwi]
      refine runS_tell 0 (rowN (updF s2 (i + k) (s2 (i + k) + A.getD i 0 * B.getD k 0))) rfl (m' := N) rfl (fun j hj => rowN_upd (congrArg (fun z => [iv z]) hev) j) rfl ?_
      exact ih2 (k + 1, updF s2 (i + k) (s2 (i + k) + A.getD i 0 * B.getD k 0)) _ _ (by dsimp only; omega) ⟨⟨rfl, rfl, rfl, rfl, rfl, rfl, rfl, rfl, rfl, rfl, congrArg iv hw2⟩, rfl, by dsimp only; omega, hst⟩
    · have hke : k = B.length := by simp at h2; omega
      subst hke
      refine runS_x (I := inf) (J := jnf) ⟨false, false, [], 0, 0⟩ 9999 rfl (by repeat (first | exact obs_nil | refine obs_draw (by kernel_rfl) ?_ | refine obs_same ?_ | refine obs_and ?_ | refine obs_by (by (simp [inB] <;> omega)) ?_)) ?_
      exact ih (i + 1, s2) _ _ (by dsimp only; omega) ⟨⟨rfl, rfl, rfl, rfl, rfl, congrArg iv hw1⟩, rfl, by dsimp only; omega, mulI_row hlt hK⟩
  · have hie : i = A.length := by simp at h; omega
    subst hie
    refine runS_x (I := inf) (J := jnf) ⟨false, false, [], 0, 0⟩ 9999 rfl (by repeat (first | exact obs_nil | refine obs_draw (by kernel_rfl) ?_ | refine obs_same ?_ | refine obs_and ?_ | refine obs_by (by (simp [inB] <;> omega)) ?_)) ?_
    have hM : ∀ j, s j ≤ 81 * A.length := fun j => by
      have := hL.le j
      rw [if_neg (by omega)] at this
      exact this
    have hsum : sumF s N = x * y := by
      have := hL.sum
      rw [List.take_length, List.take_zero, hvx, hvy] at this
      rw [this]
      show x * y + _ * 0 = _
      rw [Nat.mul_zero, Nat.add_zero]
    refine runS_tell 1 (rowB (fun _ => 0)) rfl (m' := N) rfl (fun j hj => rfl) rfl ?_
    refine runS_while (fun (z : Nat × Nat × (Nat → Nat)) τ ar => (τ 10 = .row 1 0 ∧ τ 11 = iv z.2.1 ∧ τ 53 = .row 0 0 ∧ τ 54 = iv (N : Int) ∧ τ 55 = iv z.1) ∧ ar = [.row 3 1 0 N (rowN s), .row 5 1 0 N (rowB z.2.2)] ∧ z.1 ≤ N ∧ CarJ s 400000 z.1 z.2.1 z.2.2) (fun z => N - z.1) (0, 0, fun _ => 0) ⟨⟨rfl, rfl, rfl, rfl, rfl⟩, rfl, Nat.zero_le _, ⟨rfl, fun j hj => by omega, by dsimp only; omega⟩⟩ ?_
    rintro ⟨j, c, p⟩ τ3 ar3 ⟨⟨g10, g11, g53, g54, g55⟩, rfl, hj, hC⟩ ih3
    dsimp only at g11 g55 hj hC ih3 ⊢
    refine runS_says 10 (by exact g10) (Says.refl _) ?_; refine runS_says 11 (by exact g11) (Says.refl _) ?_; refine runS_says 53 (by exact g53) (Says.refl _) ?_; refine runS_says 54 (by exact g54) (Says.refl _) ?_; refine runS_says 55 (by exact g55) (Says.refl _) ?_
    refine runS_x (I := inf) (J := jnf) ⟨false, false, [], 0, 0⟩ 9999 rfl (by repeat (first | exact obs_nil | refine obs_draw (by kernel_rfl) ?_ | refine obs_same ?_ | refine obs_and ?_ | refine obs_by (by (simp [inB] <;> omega)) ?_)) ?_
    refine runS_cond rfl (fun h3 => ?_) (fun h3 => ?_)
    · have hjt : j < N := by
        have := of_decide_eq_true (show decide ((j : Int) < (N : Int)) = true from h3)
        omega
      have hw3 : IntKind.wrap .i64 ((j : Int) + 1) = ((j + 1 : Nat) : Int) := by rw [w64 (by omega) (by omega)]; rfl
      have hsj := hM j
      have hcl := hC.cle
      have hst := carJ_step (by omega) (by omega) hC
      have hcs : IntKind.wrap .i64 ((c : Int) + ((s j : Nat) : Int)) = ((c + s j : Nat) : Int) := by rw [w64 (by omega) (by omega)]; rfl
      have e1 : IntKind.wrap .u8 ((IntKind.wrap .i64 ((c : Int) + ((s j : Nat) : Int))).tmod 10) = (((c + s j) % 10 : Nat) : Int) := by
        rw [hcs, Int.natCast_emod, Int.tmod_eq_emod_of_nonneg (by omega), w8 (by omega) (by omega)]; rfl
      have e2 : IntKind.wrap .i64 ((IntKind.wrap .i64 ((c : Int) + ((s j : Nat) : Int))).tdiv 10) = (((c + s j) / 10 : Nat) : Int) := by
        rw [hcs, Int.tdiv_eq_ediv_of_nonneg (by omega), w64 (by omega) (by omega), Int.natCast_ediv]; rfl
      refine runS_x (I := inf) (J := jnf) ⟨false, false, [], 0, 0⟩ 9999 rfl (by repeat (first | exact obs_nil | refine obs_draw (by kernel_rfl) ?_ | refine obs_same ?_ | refine obs_and ?_ | refine obs_by (by (simp [inB, hjt] <;> omega)) ?_)) ?_
      refine runS_tell 1 (rowB (updF p j ((c + s j) % 10))) rfl (m' := N) rfl (fun k hk => rowB_upd (congrArg (fun z => [AV.val (.int .u8 z)]) e1) k) rfl ?_
      exact ih3 (j + 1, (c + s j) / 10, updF p j ((c + s j) % 10)) _ _ (by dsimp only; omega) ⟨⟨rfl, congrArg iv e2, rfl, rfl, congrArg iv hw3⟩, rfl, by dsimp only; omega, hst⟩
    · have hje : j = N := by
        have := of_decide_eq_false (show decide ((j : Int) < (N : Int)) = false from h3)
        omega
      subst hje
      obtain ⟨hv, hdg⟩ := carJ_end (by rw [hsum]; exact hlp) hC
      refine runS_x (I := inf) (J := jnf) ⟨false, false, [], 0, 0⟩ 9999 rfl (by repeat (first | exact obs_nil | refine obs_draw (by kernel_rfl) ?_ | refine obs_same ?_ | refine obs_and ?_ | refine obs_by (by (simp [inB] <;> omega)) ?_)) ?_
      refine runS_tell 1 (limR (listF p j)) rfl (m' := j) rfl (fun k hk => limR_listF p hk) rfl ?_
      refine runS_freeze 72 rfl rfl rfl (fun k hk => rfl) ?_
      have hc := d_trimmed none (listF p j) (by rw [listF_len]; omega) hdg
      unfold limS at hc
      rw [listF_len] at hc
      refine runS_drop 0 (Nat.zero_le _) rfl (by repeat (first | exact .nil | refine .row (fun j hj => rfl) ?_ | refine .box rfl ?_ | refine .fam (fun k j hk hj => rfl) ?_ | refine .loop (scrub_under _ _) ?_ | refine .dfr ?_ | refine .gone ?_ | refine .map (fun p hp => by (obtain ⟨k, _, rfl⟩ := List.mem_map.1 hp; rfl)) ?_)) rfl rfl rfl (by repeat (first | exact .nil | refine .cons rfl rfl rfl (scrub_under _ _) ?_)) ?_
      refine runS_call rfl rfl rfl rfl rfl rfl rfl hc ?_
      refine runS_x (I := inf) (J := jnf) ⟨false, false, [], 0, 0⟩ 9999 rfl (by repeat (first | exact obs_nil | refine obs_draw (by kernel_rfl) ?_ | refine obs_same ?_ | refine obs_and ?_ | refine obs_by (by (simp [inB] <;> omega)) ?_)) ?_
      refine runS_ret (I := inf) 0 rfl (Nat.le_refl _) rfl .nil rfl ⟨?_, rfl⟩
      unfold trim
      rw [hv, hsum]
      rfl
end Go.Iron.Tryd

/- The digits' seat: powers, whole numbers, what is right of values. -/
namespace Go.Iron.Tryd
open Go.Proofs Go.RowKit Go.Iron.Tok Go.Iron.Dg

end Go.Iron.Tryd

/- The digits' seat: powers, numbers of limbs. -/
namespace Go.Iron.Tryd
open Go.Proofs Go.RowKit Go.Iron.Tok Go.Iron.Dg

theorem d_power (b n : Nat) (hb : b ≤ 10) (hn : n ≤ 1000) : CallT Tryd.prog 33 [iv b, iv n] [] (fun o A => o = .ret (limS none (frm (b ^ n))) ∧ A = []) := by
  have hlen : ∀ i, i ≤ n → (frm (b ^ i)).length ≤ 4000 := fun i hi => by
    have h1 : b ^ i ≤ 10 ^ i := Nat.pow_le_pow_left hb i
    have h2 : b ^ i < 10 ^ (n + 1) := Nat.lt_of_le_of_lt h1 (Nat.pow_lt_pow_right (by decide) (by omega))
    have := frm_len_lt.2 h2
    omega
  refine callS_body (n := 16) rfl rfl fun w ρ X => ?_
  refine runS_x (I := inf) (J := jnf) ⟨false, false, [], 0, 0⟩ 9999 rfl (by repeat (first | exact obs_nil | refine obs_draw (by kernel_rfl) ?_ | refine obs_same ?_ | refine obs_and ?_ | refine obs_by (by (simp [inB] <;> omega)) ?_)) ?_
  refine runS_call rfl rfl rfl rfl rfl rfl rfl (d_of 1 (by decide)) ?_
  refine runS_x (I := inf) (J := jnf) ⟨false, false, [], 0, 0⟩ 9999 rfl (by repeat (first | exact obs_nil | refine obs_draw (by kernel_rfl) ?_ | refine obs_same ?_ | refine obs_and ?_ | refine obs_by (by (simp [inB] <;> omega)) ?_)) ?_
  refine runS_while (fun (i : Nat) τ ar => (τ 0 = iv b ∧ τ 5 = limS none (frm (b ^ i)) ∧ τ 7 = iv n ∧ τ 8 = iv i) ∧ ar = [] ∧ i ≤ n) (fun i => n - i) 0 ⟨⟨rfl, by rw [Nat.pow_zero]; rfl, rfl, rfl⟩, rfl, Nat.zero_le _⟩ ?_
  rintro i τ' ar' ⟨⟨g0, g5, g7, g8⟩, rfl, hi⟩ ih
  refine runS_says 0 (by exact g0) (Says.refl _) ?_; refine runS_says 5 (by exact g5) (Says.refl _) ?_; refine runS_says 7 (by exact g7) (Says.refl _) ?_; refine runS_says 8 (by exact g8) (Says.refl _) ?_
  refine runS_x (I := inf) (J := jnf) ⟨false, false, [], 0, 0⟩ 9999 rfl (by repeat (first | exact obs_nil | refine obs_draw (by kernel_rfl) ?_ | refine obs_same ?_ | refine obs_and ?_ | refine obs_by (by (simp [inB] <;> omega)) ?_)) ?_
  refine runS_cond rfl (fun h => ?_) (fun h => ?_)
  · have hlt : i < n := by simp at h; omega
    have hw : IntKind.wrap .i64 ((i : Int) + 1) = ((i + 1 : Nat) : Int) := by rw [w64 (by omega) (by omega)]; rfl
    have h1 := d_of b (by omega)
    have h2 := d_times none none (b ^ i) b (hlen i (by omega)) (Nat.le_trans (frm_len_lt.2 (show b < 10 ^ 2 by omega)) (by decide))
    rw [← Nat.pow_succ] at h2
    refine runS_x (I := inf) (J := jnf) ⟨false, false, [], 0, 0⟩ 9999 rfl (by repeat (first | exact obs_nil | refine obs_draw (by kernel_rfl) ?_ | refine obs_same ?_ | refine obs_and ?_ | refine obs_by (by (simp [inB] <;> omega)) ?_)) ?_
    refine runS_call rfl rfl rfl rfl rfl rfl rfl h1 ?_
    refine runS_x (I := inf) (J := jnf) ⟨false, false, [], 0, 0⟩ 9999 rfl (by repeat (first | exact obs_nil | refine obs_draw (by kernel_rfl) ?_ | refine obs_same ?_ | refine obs_and ?_ | refine obs_by (by (simp [inB] <;> omega)) ?_)) ?_
    refine runS_call rfl rfl rfl rfl rfl rfl rfl h2 ?_
    refine runS_x (I := inf) (J := jnf) ⟨false, false, [], 0, 0⟩ 9999 rfl (by repeat (first | exact obs_nil | refine obs_draw (by kernel_rfl) ?_ | refine obs_same ?_ | refine obs_and ?_ | refine obs_by (by (simp [inB] <;> omega)) ?_)) ?_
    exact ih (i + 1) _ _ (by omega) ⟨⟨rfl, rfl, rfl, congrArg iv hw⟩, rfl, hlt⟩
  · have hlt : i = n := by simp at h; omega
    subst hlt
    refine runS_x (I := inf) (J := jnf) ⟨false, false, [], 0, 0⟩ 9999 rfl (by repeat (first | exact obs_nil | refine obs_draw (by kernel_rfl) ?_ | refine obs_same ?_ | refine obs_and ?_ | refine obs_by (by (simp [inB] <;> omega)) ?_)) ?_
    refine runS_ret (I := inf) 0 rfl (Nat.le_refl _) rfl .nil rfl ⟨?_, rfl⟩
    rfl
theorem val_drop_le (l : List Nat) (k : Nat) : val (l.drop k) ≤ val l := by
  have h := val_app (l.take k) (l.drop k)
  rw [List.take_append_drop] at h
  have : 1 * val (l.drop k) ≤ 10 ^ (l.take k).length * val (l.drop k) := Nat.mul_le_mul_right _ (Nat.pow_pos (by decide))
  omega
theorem d_numL (n1 : Option Bool) (A : List Nat) (hll : A.length ≤ 18) (hda : ∀ d ∈ A, d < 10) : CallT Tryd.prog 83 [limS n1 A] [] (fun o A' => o = .ret (iv (val A : Nat)) ∧ A' = []) := by
  have hx : val A < 1000000000000000000 := Nat.lt_of_lt_of_le (val_lt hda) (Nat.pow_le_pow_right (by decide) hll)
  have hw0 : IntKind.wrap .i64 ((A.length : Int) - 1) = (A.length : Int) - 1 := w64 (by omega) (by omega)
  refine callS_body (n := 14) rfl rfl fun w ρ X => ?_
  refine runS_x (I := inf) (J := jnf) ⟨false, false, [26, 49], 0, 0⟩ 9999 rfl (by repeat (first | exact obs_nil | refine obs_draw (by kernel_rfl) ?_ | refine obs_same ?_ | refine obs_and ?_ | refine obs_by (by (simp [inB] <;> omega)) ?_)) ?_
  refine runS_forget 4 rfl ?_; refine runS_forgetLoop 4 3 rfl rfl ?_
  refine runS_name 3 rfl (fun L => rfl) (fun L hL => ?_)
  refine runS_while (fun (i : Nat) τ ar => (τ 0 = .yld 3 ∧ τ 1 = .ptr 1 0 0 ∧ τ 3 = iv ((i : Int) - 1)) ∧ ar = [.box 3 [iv (val (A.drop i) : Nat)], .box 32 [limS n1 A], .dfr true, L] ∧ i ≤ A.length) (fun i => i) A.length ⟨⟨rfl, rfl, congrArg iv hw0⟩, by rw [List.drop_length]; rfl, Nat.le_refl _⟩ ?_
  rintro i τ' ar' ⟨⟨g0, g1, g3⟩, rfl, hi⟩ ih
  subst hL
  refine runS_says 0 (by exact g0) (Says.refl _) ?_; refine runS_says 1 (by exact g1) (Says.refl _) ?_; refine runS_says 3 (by exact g3) (Says.refl _) ?_
  refine runS_x (I := inf) (J := jnf) ⟨false, false, [], 0, 0⟩ 9999 rfl (by repeat (first | exact obs_nil | refine obs_draw (by kernel_rfl) ?_ | refine obs_same ?_ | refine obs_and ?_ | refine obs_by (by (simp [inB] <;> omega)) ?_)) ?_
  refine runS_cond rfl (fun h => ?_) (fun h => ?_)
  · have hi0 : 0 < i := by
      have : decide ((i : Int) - 1 ≥ 0) = true := h
      simp at this
      omega
    obtain ⟨k, rfl⟩ : ∃ k, i = k + 1 := ⟨i - 1, by omega⟩
    have hk : k < A.length := by omega
    have e1 : (((k + 1 : Nat) : Int) - 1) = (k : Int) := by omega
    rw [e1] at g3 ⊢
    have hwk : IntKind.wrap .i64 ((k : Int) - 1) = (k : Int) - 1 := w64 (by omega) (by omega)
    have hv := val_drop A k
    have hle := val_drop_le A k
    have hd9 := getD_lt hda k
    have hev : IntKind.wrap .i64 (IntKind.wrap .i64 (((val (A.drop (k + 1)) : Nat) : Int) * 10) + IntKind.wrap .i64 ((A.getD k 0 : Nat) : Int)) = ((val (A.drop k) : Nat) : Int) := by
      rw [w64 (x := ((val (A.drop (k + 1)) : Nat) : Int) * 10) (by omega) (by omega), w64 (x := ((A.getD k 0 : Nat) : Int)) (by omega) (by omega), w64 (by omega) (by omega)]
      omega
    refine runS_x (I := inf) (J := jnf) ⟨true, false, [], 0, 0⟩ 9999 rfl (by repeat (first | exact obs_nil | refine obs_draw (by kernel_rfl) ?_ | refine obs_same ?_ | refine obs_and ?_ | refine obs_by (by (simp [inB, hk] <;> omega)) ?_)) ?_
    refine runS_drop 4 (Nat.zero_le _) rfl (by repeat (first | exact .nil | refine .row (fun j hj => rfl) ?_ | refine .box rfl ?_ | refine .fam (fun k j hk hj => rfl) ?_ | refine .loop (scrub_under _ _) ?_ | refine .dfr ?_ | refine .gone ?_ | refine .map (fun p hp => by (obtain ⟨k, _, rfl⟩ := List.mem_map.1 hp; rfl)) ?_)) rfl rfl rfl (by repeat (first | exact .nil | refine .cons rfl rfl rfl (scrub_under _ _) ?_)) ?_
    exact ih k _ _ (by omega) ⟨⟨rfl, rfl, congrArg iv hwk⟩, by rw [← hev]; rfl, by omega⟩
  · have hi0 : i = 0 := by
      have : decide ((i : Int) - 1 ≥ 0) = false := h
      simp at this
      omega
    subst hi0
    refine runS_x (I := inf) (J := jnf) ⟨true, false, [], 0, 0⟩ 9999 rfl (by repeat (first | exact obs_nil | refine obs_draw (by kernel_rfl) ?_ | refine obs_same ?_ | refine obs_and ?_ | refine obs_by (by (simp [inB] <;> omega)) ?_)) ?_
    refine runS_ret (I := inf) 0 rfl (Nat.le_refl _) rfl .nil rfl ⟨?_, rfl⟩
    rw [List.drop_zero]
    rfl
theorem d_number (n1 : Option Bool) (x : Nat) (hx : x < 1000000000000000000) : CallT Tryd.prog 83 [limS n1 (frm x)] [] (fun o A => o = .ret (iv (x : Nat)) ∧ A = []) := by
  have h := d_numL n1 (frm x) (frm_len_lt.2 hx) (fun d hd => frm_digit hd)
  rw [val_frm] at h
  exact h
end Go.Iron.Tryd

/- The digits' seat: a row of digits turned round. -/
namespace Go.Iron.Tryd
open Go.Proofs Go.RowKit Go.Iron.Tok Go.Iron.Dg

/-- The first i and the last i have changed places. -/
def revV (xs : List Nat) (i k : Nat) : Nat := if k < i ∨ xs.length - 1 - k < i then xs.getD (xs.length - 1 - k) 0 else xs.getD k 0
def revR (xs : List Nat) (i : Nat) : Nat → List AV := fun k => [uv (revV xs i k)]
theorem slices_reverse (o0 o1 o2 o3 o4 o5 : AO) (hk0 : ∀ l, Kept 7 l → Kept 7 (o0 :: o1 :: o2 :: o3 :: o4 :: o5 :: l)) (v : Nat) (xs : List Nat) (hb : xs.length < 1000000000) : CallT Tryd.prog 65 [.row 6 v] [o0, o1, o2, o3, o4, o5, .row 5 1 v xs.length (limR xs)] (fun o A => o = .ret (.tup []) ∧ A = [o0, o1, o2, o3, o4, o5, .row 5 1 v xs.length (limR xs.reverse)]) := by
  refine callS_body (n := 28) rfl rfl fun w ρ X => ?_
  refine runS_x (I := inf) (J := jnf) ⟨false, false, [], 0, 0⟩ 9999 rfl (by repeat (first | exact obs_nil | refine obs_draw (by kernel_rfl) ?_ | refine obs_same ?_ | refine obs_and ?_ | refine obs_by (by (simp [inB] <;> omega)) ?_)) ?_
  refine runS_tell 6 (revR xs 0) rfl rfl (fun k hk => ?_) rfl ?_
  · simp [revR, revV, limR, encR]
  refine runS_while (fun (i : Nat) τ ar => (τ 0 = .row 6 v ∧ τ 2 = iv i ∧ τ 3 = iv ((xs.length : Int) - 1 - i)) ∧ ar = [o0, o1, o2, o3, o4, o5, .row 5 1 v xs.length (revR xs i)] ∧ 2 * i ≤ xs.length + 1) (fun i => xs.length - i) 0 ⟨⟨rfl, rfl, ?_⟩, rfl, by omega⟩ ?_
  · show iv (IntKind.wrap .i64 ((xs.length : Int) - 1)) = _
    rw [w64 (by omega) (by omega)]; simp
  rintro i τ' ar' ⟨⟨h0, h2, h3⟩, rfl, hi⟩ ih
  refine runS_says 0 (by exact h0) (Says.refl _) ?_; refine runS_says 2 (by exact h2) (Says.refl _) ?_; refine runS_says 3 (by exact h3) (Says.refl _) ?_
  refine runS_x (I := inf) (J := jnf) ⟨false, false, [], 0, 0⟩ 9999 rfl (by repeat (first | exact obs_nil | refine obs_draw (by kernel_rfl) ?_ | refine obs_same ?_ | refine obs_and ?_ | refine obs_by (by (simp [inB] <;> omega)) ?_)) ?_
  refine runS_cond rfl (fun hlt => ?_) (fun hlt => ?_)
  · have hlt' : (i : Int) < (xs.length : Int) - 1 - i := by simpa using hlt
    obtain ⟨j, hj⟩ : ∃ j : Nat, (xs.length : Int) - 1 - i = j := ⟨xs.length - 1 - i, by omega⟩
    rw [hj]
    have hi1 : i < xs.length := by omega
    have hj1 : j < xs.length := by omega
    refine runS_x (I := inf) (J := jnf) ⟨false, false, [], 0, 0⟩ 9999 rfl (by repeat (first | exact obs_nil | refine obs_draw (by kernel_rfl) ?_ | refine obs_same ?_ | refine obs_and ?_ | refine obs_by (by (simp [inB] <;> omega)) ?_)) ?_
    refine runS_drawG (ch := []) (A2 := fun _ => []) 14 [13] (fun b => cond (b.getD 0 false) [o0, o1, o2, o3, o4, o5, .row 5 1 v xs.length (setR (revR xs i) i [uv (revV xs i j)])] [o0, o1, o2, o3, o4, o5, .row 5 1 v xs.length (revR xs i)]) none (c := 9) jnfI.draw (by kernel_rfl) rfl (lexg_g (I := inf) (J := jnf) none ⟨⟨_, rfl, (by repeat (first | exact obs_nil | refine obs_same ?_ | refine obs_and ?_ | refine obs_by (by (simp [inB, hi1, hj1] <;> omega)) ?_))⟩, (by first | exact .inl (by decide +kernel) | exact .inr ⟨_, rfl, (by repeat (first | exact obs_nil | refine obs_same ?_ | refine obs_and ?_ | refine obs_by (by (simp [inB, hi1, hj1] <;> omega)) ?_))⟩)⟩ rfl rfl rfl rfl (lexg_g (I := inf) (J := jnf) none ⟨⟨_, rfl, (by repeat (first | exact obs_nil | refine obs_same ?_ | refine obs_and ?_ | refine obs_by (by (simp [inB, hi1, hj1] <;> omega)) ?_))⟩, (by first | exact .inl (by decide +kernel) | exact .inr ⟨_, rfl, (by repeat (first | exact obs_nil | refine obs_same ?_ | refine obs_and ?_ | refine obs_by (by (simp [inB, hi1, hj1] <;> omega)) ?_))⟩)⟩ rfl rfl rfl rfl (lexg_g (I := inf) (J := jnf) none ⟨⟨_, rfl, (by repeat (first | exact obs_nil | refine obs_same ?_ | refine obs_and ?_ | refine obs_by (by (simp [inB, hi1, hj1] <;> omega)) ?_))⟩, (by first | exact .inl (by decide +kernel) | exact .inr ⟨_, rfl, (by repeat (first | exact obs_nil | refine obs_same ?_ | refine obs_and ?_ | refine obs_by (by (simp [inB, hi1, hj1] <;> omega)) ?_))⟩)⟩ rfl rfl rfl rfl (lexg_g (I := inf) (J := jnf) none ⟨⟨_, rfl, (by repeat (first | exact obs_nil | refine obs_same ?_ | refine obs_and ?_ | refine obs_by (by (simp [inB, hi1, hj1] <;> omega)) ?_))⟩, (by first | exact .inl (by decide +kernel) | exact .inr ⟨_, rfl, (by repeat (first | exact obs_nil | refine obs_same ?_ | refine obs_and ?_ | refine obs_by (by (simp [inB, hi1, hj1] <;> omega)) ?_))⟩)⟩ rfl rfl rfl rfl (lexg_g (I := inf) (J := jnf) none ⟨⟨_, rfl, (by repeat (first | exact obs_nil | refine obs_same ?_ | refine obs_and ?_ | refine obs_by (by (simp [inB, hi1, hj1] <;> omega)) ?_))⟩, (by first | exact .inl (by decide +kernel) | exact .inr ⟨_, rfl, (by repeat (first | exact obs_nil | refine obs_same ?_ | refine obs_and ?_ | refine obs_by (by (simp [inB, hi1, hj1] <;> omega)) ?_))⟩)⟩ rfl rfl rfl rfl (lexg_g (I := inf) (J := jnf) none ⟨⟨_, rfl, (by repeat (first | exact obs_nil | refine obs_same ?_ | refine obs_and ?_ | refine obs_by (by (simp [inB, hi1, hj1] <;> omega)) ?_))⟩, (by first | exact .inl (by decide +kernel) | exact .inr ⟨_, rfl, (by repeat (first | exact obs_nil | refine obs_same ?_ | refine obs_and ?_ | refine obs_by (by (simp [inB, hi1, hj1] <;> omega)) ?_))⟩)⟩ rfl rfl rfl rfl (lexg_g (I := inf) (J := jnf) none ⟨⟨_, rfl, (by repeat (first | exact obs_nil | refine obs_same ?_ | refine obs_and ?_ | refine obs_by (by (simp [inB, hi1, hj1] <;> omega)) ?_))⟩, (by first | exact .inl (by decide +kernel) | exact .inr ⟨_, rfl, (by repeat (first | exact obs_nil | refine obs_same ?_ | refine obs_and ?_ | refine obs_by (by (simp [inB, hi1, hj1] <;> omega)) ?_))⟩)⟩ rfl rfl rfl rfl (lexg_g (I := inf) (J := jnf) none ⟨⟨_, rfl, (by repeat (first | exact obs_nil | refine obs_same ?_ | refine obs_and ?_ | refine obs_by (by (simp [inB, hi1, hj1] <;> omega)) ?_))⟩, (by first | exact .inl (by decide +kernel) | exact .inr ⟨_, rfl, (by repeat (first | exact obs_nil | refine obs_same ?_ | refine obs_and ?_ | refine obs_by (by (simp [inB, hi1, hj1] <;> omega)) ?_))⟩)⟩ rfl rfl rfl rfl (lexg_g (I := inf) (J := jnf) none ⟨⟨_, rfl, (by repeat (first | exact obs_nil | refine obs_same ?_ | refine obs_and ?_ | refine obs_by (by (simp [inB, hi1, hj1] <;> omega)) ?_))⟩, (by first | exact .inl (by decide +kernel) | exact .inr ⟨_, rfl, (by repeat (first | exact obs_nil | refine obs_same ?_ | refine obs_and ?_ | refine obs_by (by (simp [inB, hi1, hj1] <;> omega)) ?_))⟩)⟩ rfl rfl rfl rfl (lexg_g (I := inf) (J := jnf) none ⟨⟨_, rfl, (by repeat (first | exact obs_nil | refine obs_same ?_ | refine obs_and ?_ | refine obs_by (by (simp [inB, hi1, hj1] <;> omega)) ?_))⟩, (by first | exact .inl (by decide +kernel) | exact .inr ⟨_, rfl, (by repeat (first | exact obs_nil | refine obs_same ?_ | refine obs_and ?_ | refine obs_by (by (simp [inB, hi1, hj1] <;> omega)) ?_))⟩)⟩ rfl rfl rfl rfl (lexg_g (I := inf) (J := jnf) none ⟨⟨_, rfl, (by repeat (first | exact obs_nil | refine obs_same ?_ | refine obs_and ?_ | refine obs_by (by (simp [inB, hi1, hj1] <;> omega)) ?_))⟩, (by first | exact .inl (by decide +kernel) | exact .inr ⟨_, rfl, (by repeat (first | exact obs_nil | refine obs_same ?_ | refine obs_and ?_ | refine obs_by (by (simp [inB, hi1, hj1] <;> omega)) ?_))⟩)⟩ rfl rfl rfl rfl (lexg_g (I := inf) (J := jnf) none ⟨⟨_, rfl, (by repeat (first | exact obs_nil | refine obs_same ?_ | refine obs_and ?_ | refine obs_by (by (simp [inB, hi1, hj1] <;> omega)) ?_))⟩, (by first | exact .inl (by decide +kernel) | exact .inr ⟨_, rfl, (by repeat (first | exact obs_nil | refine obs_same ?_ | refine obs_and ?_ | refine obs_by (by (simp [inB, hi1, hj1] <;> omega)) ?_))⟩)⟩ rfl rfl rfl rfl (lexg_g (I := inf) (J := jnf) none ⟨⟨_, rfl, (by repeat (first | exact obs_nil | refine obs_same ?_ | refine obs_and ?_ | refine obs_by (by (simp [inB, hi1, hj1] <;> omega)) ?_))⟩, (by first | exact .inl (by decide +kernel) | exact .inr ⟨_, rfl, (by repeat (first | exact obs_nil | refine obs_same ?_ | refine obs_and ?_ | refine obs_by (by (simp [inB, hi1, hj1] <;> omega)) ?_))⟩)⟩ rfl rfl rfl rfl (lexg_g (I := inf) (J := jnf) (some .store) ⟨⟨_, rfl, (by repeat (first | exact obs_nil | refine obs_same ?_ | refine obs_and ?_ | refine obs_by (by (simp [inB, hi1, hj1] <;> omega)) ?_))⟩, .inl rfl⟩ rfl rfl rfl rfl lexg_nil)))))))))))))) rfl (fun _ => ?_) (fun h => by cases h)
    refine runS_tell 6 (fun k => [uv (if k = i then revV xs i j else revV xs i k)]) rfl rfl (fun k hk => ?_) rfl ?_
    · by_cases hki : k = i
      · subst hki
        rw [setR_self, if_pos rfl]
      · rw [setR_ne hki, if_neg hki]; rfl
    refine runS_x (I := inf) (J := jnf) ⟨false, false, [], 0, 0⟩ 9999 rfl (by repeat (first | exact obs_nil | refine obs_draw (by kernel_rfl) ?_ | refine obs_same ?_ | refine obs_and ?_ | refine obs_by (by (simp [inB, hi1, hj1] <;> omega)) ?_)) ?_
    refine runS_tell 6 (revR xs (i + 1)) rfl rfl (fun k hk => ?_) rfl ?_
    · show [uv (revV xs (i + 1) k)] = setR (fun k => [uv (if k = i then revV xs i j else revV xs i k)]) j [uv (revV xs i i)] k
      have e1 : revV xs i j = xs.getD j 0 := by rw [revV, if_neg (by omega)]
      have e2 : revV xs i i = xs.getD i 0 := by rw [revV, if_neg (by omega)]
      by_cases hkj : k = j
      · subst hkj
        rw [setR_self, e2, revV, if_pos (by omega), show xs.length - 1 - k = i by omega]
      · rw [setR_ne hkj]
        show _ = [uv (if k = i then revV xs i j else revV xs i k)]
        by_cases hki : k = i
        · subst hki
          rw [if_pos rfl, e1, revV, if_pos (by omega), show xs.length - 1 - k = j by omega]
        · rw [if_neg hki]
          unfold revV
          by_cases hc : k < i ∨ xs.length - 1 - k < i
          · rw [if_pos hc, if_pos (by omega)]
          · rw [if_neg hc, if_neg (by omega)]
    refine ih (i + 1) _ _ (by omega) ⟨⟨rfl, ?_, ?_⟩, rfl, by omega⟩
    · show iv (IntKind.wrap .i64 ((i : Int) + 1)) = _
      rw [w64 (by omega) (by omega)]; rfl
    · show iv (IntKind.wrap .i64 ((j : Int) - 1)) = _
      rw [w64 (by omega) (by omega)]
      exact congrArg (fun x : Int => iv x) (by omega)
  · have hge : ¬ (i : Int) < (xs.length : Int) - 1 - i := by simpa using hlt
    refine runS_x (I := inf) (J := jnf) ⟨false, false, [], 0, 0⟩ 9999 rfl (by repeat (first | exact obs_nil | refine obs_draw (by kernel_rfl) ?_ | refine obs_same ?_ | refine obs_and ?_ | refine obs_by (by (simp [inB] <;> omega)) ?_)) ?_
    refine runS_tell 6 (limR xs.reverse) rfl (m' := xs.length) rfl (fun k hk => ?_) rfl ?_
    · show [uv (xs.reverse.getD k 0)] = [uv (revV xs i k)]
      have e : xs.reverse.getD k 0 = xs.getD (xs.length - 1 - k) 0 := by
        simp [List.getD_eq_getElem?_getD, List.getElem?_reverse hk]
      rw [e]
      unfold revV
      by_cases hc : k < i ∨ xs.length - 1 - k < i
      · rw [if_pos hc]
      · rw [if_neg hc, show xs.length - 1 - k = k by omega]
    refine runS_ret (I := inf) 7 rfl (Nat.le_refl _) rfl (hk0 _ (.row (fun j hj => rfl) .nil)) rfl ⟨rfl, rfl⟩
end Go.Iron.Tryd

/- The digits' seat: quotients of limbs. -/
namespace Go.Iron.Tryd
open Go.Proofs Go.RowKit Go.Iron.Tok Go.Iron.Dg

theorem d_over (n1 n2 : Option Bool) (x y : Nat) (hx : (frm x).length ≤ 4000) (hy : (frm y).length ≤ 3000) (hy0 : 0 < y) : CallT Tryd.prog 46 [limS n1 (frm x), limS n2 (frm y)] [] (fun o A => o = .ret (limS none (frm (x / y))) ∧ A = []) := by
  have hvx := val_frm x
  have hda := fun d (hd : d ∈ frm x) => frm_digit hd
  generalize frm x = A at *
  have hw0 : IntKind.wrap .i64 ((A.length : Int) - 1) = (A.length : Int) - 1 := w64 (by omega) (by omega)
  refine callS_body (n := 34) rfl rfl fun w ρ X => ?_
  refine runS_x (I := inf) (J := jnf) ⟨false, false, [26, 49], 0, 0⟩ 9999 rfl (by repeat (first | exact obs_nil | refine obs_draw (by kernel_rfl) ?_ | refine obs_same ?_ | refine obs_and ?_ | refine obs_by (by (simp [inB] <;> omega)) ?_)) ?_
  refine runS_nilRowBox 1 0 5 1 nilL rfl rfl rfl rfl rfl ?_
  refine runS_saysBox 2 0 _ rfl rfl (says_nil0 (sz := 1) (r := nilL) (Nat.zero_le _)) rfl rfl ?_
  refine runS_forget 7 rfl ?_; refine runS_forgetLoop 7 5 rfl rfl ?_
  refine runS_name 5 rfl (fun L => rfl) (fun L hL => ?_)
  refine runS_while (fun (z : Nat × List Nat × Nat) τ ar => (τ 0 = .yld 5 ∧ τ 1 = .ptr 3 0 0 ∧ τ 3 = iv ((z.1 : Int) - 1)) ∧ ar = [.box 32 [limS n2 (frm y)], .box 32 [.row 6 z.2.1.length], .box 32 [limS none (frm z.2.2)], .box 32 [limS n1 A], .dfr true, L, .row 5 1 z.2.1.length z.2.1.length (limR z.2.1)] ∧ z.1 ≤ A.length ∧ z.2.1.length + z.1 = A.length ∧ (∀ d ∈ z.2.1, d < 10) ∧ z.2.2 < y ∧ val (A.drop z.1) = val z.2.1.reverse * y + z.2.2) (fun z => z.1) (A.length, [], 0) ⟨⟨rfl, rfl, congrArg iv hw0⟩, by rw [frm_zero]; rfl, Nat.le_refl _, by simp, (fun d hd => by cases hd), hy0, by rw [List.drop_length]; show 0 = 0 * y + 0; omega⟩ ?_
  rintro ⟨i, q, R⟩ τ' ar' ⟨⟨g0, g1, g3⟩, rfl, hi, hql, hqd, hR, hval⟩ ih
  dsimp only at g3 hi hql hqd hR hval ih ⊢
  subst hL
  refine runS_says 0 (by exact g0) (Says.refl _) ?_; refine runS_says 1 (by exact g1) (Says.refl _) ?_; refine runS_says 3 (by exact g3) (Says.refl _) ?_
  refine runS_x (I := inf) (J := jnf) ⟨false, false, [], 0, 0⟩ 9999 rfl (by repeat (first | exact obs_nil | refine obs_draw (by kernel_rfl) ?_ | refine obs_same ?_ | refine obs_and ?_ | refine obs_by (by (simp [inB] <;> omega)) ?_)) ?_
  refine runS_cond rfl (fun h => ?_) (fun h => ?_)
  · have hi0 : 0 < i := by
      have : decide ((i : Int) - 1 ≥ 0) = true := h
      simp at this
      omega
    obtain ⟨k, rfl⟩ : ∃ k, i = k + 1 := ⟨i - 1, by omega⟩
    have hk : k < A.length := by omega
    have e1 : (((k + 1 : Nat) : Int) - 1) = (k : Int) := by omega
    rw [e1] at g3 ⊢
    have hwk : IntKind.wrap .i64 ((k : Int) - 1) = (k : Int) - 1 := w64 (by omega) (by omega)
    have hv := val_drop A k
    have hd9 := getD_lt hda k
    have hRl : (frm R).length ≤ (frm y).length := frm_len_mono (Nat.le_of_lt hR)
    refine runS_x (I := inf) (J := jnf) ⟨false, false, [], 0, 0⟩ 9999 rfl (by repeat (first | exact obs_nil | refine obs_draw (by kernel_rfl) ?_ | refine obs_same ?_ | refine obs_and ?_ | refine obs_by (by (simp [inB, hk] <;> omega)) ?_)) ?_
    refine runS_tell 7 (limR (A.getD k 0 :: frm R)) rfl (m' := (A.getD k 0 :: frm R).length) (by simp; omega) (fun j hj => ?_) rfl ?_
    · cases j with
      | zero => rfl
      | succ j =>
        refine Eq.trans ?_ (appR_ge (m := 1) (i := j + 1) (Nat.succ_le_succ (Nat.zero_le j))).symm
        rfl
    refine runS_freeze 15 rfl rfl rfl (fun j hj => rfl) ?_
    refine runS_call rfl rfl rfl rfl rfl rfl rfl (d_trimmed none (A.getD k 0 :: frm R) (by simp; omega) (fun d hd => by rcases List.mem_cons.1 hd with rfl | hd; exact hd9; exact frm_digit hd)) ?_
    have hD : trim (A.getD k 0 :: frm R) = frm (A.getD k 0 + 10 * R) := by
      unfold trim
      rw [val, val_frm]
    rw [hD]
    generalize hDe : A.getD k 0 + 10 * R = D at *
    have hD10 : D < 10 * y := by omega
    refine runS_x (I := inf) (J := jnf) ⟨false, false, [], 0, 0⟩ 9999 rfl (by repeat (first | exact obs_nil | refine obs_draw (by kernel_rfl) ?_ | refine obs_same ?_ | refine obs_and ?_ | refine obs_by (by (simp [inB] <;> omega)) ?_)) ?_
    refine runS_name 5 rfl (fun L => rfl) (fun L hL => ?_)
    refine runS_while (fun (n : Nat) τ ar => (τ 3 = .ptr 0 0 0 ∧ τ 5 = .ptr 1 0 0 ∧ τ 6 = .ptr 2 0 0 ∧ τ 8 = uv n) ∧ ar = [.box 32 [limS n2 (frm y)], .box 32 [.row 6 q.length], .box 32 [limS none (frm (D - n * y))], .box 32 [limS n1 A], .dfr true, L, .row 5 1 q.length q.length (limR q), .gone] ∧ n * y ≤ D) (fun n => D - n * y) 0 ⟨⟨rfl, rfl, rfl, rfl⟩, by rw [Nat.zero_mul, Nat.sub_zero]; rfl, by omega⟩ ?_
    rintro n τ2 ar2 ⟨⟨j3, j5, j6, j8⟩, rfl, hn⟩ ih2
    have hn9 : n ≤ 9 := by
      refine Nat.le_of_lt_succ (Nat.lt_of_mul_lt_mul_right (a := y) (Nat.lt_of_le_of_lt hn ?_))
      exact hD10
    have hDl : (frm (D - n * y)).length ≤ (frm y).length + 1 := by
      refine frm_len_lt.2 ?_
      have h1 := frm_lt_pow y
      rw [Nat.pow_succ]
      omega
    subst hL
    refine runS_says 3 (by exact j3) (Says.refl _) ?_; refine runS_says 5 (by exact j5) (Says.refl _) ?_; refine runS_says 6 (by exact j6) (Says.refl _) ?_; refine runS_says 8 (by exact j8) (Says.refl _) ?_
    refine runS_x (I := inf) (J := jnf) ⟨false, false, [], 0, 0⟩ 9999 rfl (by repeat (first | exact obs_nil | refine obs_draw (by kernel_rfl) ?_ | refine obs_same ?_ | refine obs_and ?_ | refine obs_by (by (simp [inB] <;> omega)) ?_)) ?_
    refine runS_call rfl rfl rfl rfl rfl rfl rfl (d_compare none n2 (D - n * y) y (by omega) (by omega)) ?_
    refine runS_x (I := inf) (J := jnf) ⟨false, false, [], 0, 0⟩ 9999 rfl (by repeat (first | exact obs_nil | refine obs_draw (by kernel_rfl) ?_ | refine obs_same ?_ | refine obs_and ?_ | refine obs_by (by (simp [inB] <;> omega)) ?_)) ?_
    have hcm := cmpR_frm (D - n * y) y
    refine runS_cond rfl (fun h2 => ?_) (fun h2 => ?_)
    · have hge : y ≤ D - n * y := by
        have := of_decide_eq_true (show decide (cmpR (frm (D - n * y)) (frm y) ≥ 0) = true from h2)
        omega
      have hn1 : (n + 1) * y = n * y + y := by rw [Nat.add_mul, Nat.one_mul]
      have hls := d_less none n2 (D - n * y) y hge (by omega)
      rw [show D - n * y - y = D - (n + 1) * y by omega] at hls
      have hwn : IntKind.wrap .u8 ((n : Int) + 1) = ((n + 1 : Nat) : Int) := by rw [w8 (by omega) (by omega)]; rfl
      refine runS_x (I := inf) (J := jnf) ⟨false, false, [], 0, 0⟩ 9999 rfl (by repeat (first | exact obs_nil | refine obs_draw (by kernel_rfl) ?_ | refine obs_same ?_ | refine obs_and ?_ | refine obs_by (by (simp [inB] <;> omega)) ?_)) ?_
      refine runS_call rfl rfl rfl rfl rfl rfl rfl hls ?_
      refine runS_x (I := inf) (J := jnf) ⟨false, false, [], 0, 0⟩ 9999 rfl (by repeat (first | exact obs_nil | refine obs_draw (by kernel_rfl) ?_ | refine obs_same ?_ | refine obs_and ?_ | refine obs_by (by (simp [inB] <;> omega)) ?_)) ?_
      exact ih2 (n + 1) _ _ (by omega) ⟨⟨rfl, rfl, rfl, uvc hwn⟩, rfl, by omega⟩
    · have hlt : D - n * y < y := by
        have := of_decide_eq_false (show decide (cmpR (frm (D - n * y)) (frm y) ≥ 0) = false from h2)
        omega
      refine runS_x (I := inf) (J := jnf) ⟨true, false, [], 0, 0⟩ 9999 rfl (by repeat (first | exact obs_nil | refine obs_draw (by kernel_rfl) ?_ | refine obs_same ?_ | refine obs_and ?_ | refine obs_by (by (simp [inB] <;> omega)) ?_)) ?_
      refine runS_tell 6 (limR (q ++ [n])) rfl (m' := q.length + 1) rfl (limR_snoc rfl) rfl ?_
      have hl' : (q ++ [n]).length = q.length + 1 := by simp
      refine runS_drop 7 (Nat.zero_le _) rfl (by repeat (first | exact .nil | refine .row (fun j hj => rfl) ?_ | refine .box rfl ?_ | refine .fam (fun k j hk hj => rfl) ?_ | refine .loop (scrub_under _ _) ?_ | refine .dfr ?_ | refine .gone ?_ | refine .map (fun p hp => by (obtain ⟨k, _, rfl⟩ := List.mem_map.1 hp; rfl)) ?_)) rfl rfl rfl (by repeat (first | exact .nil | refine .cons rfl rfl rfl (scrub_under _ _) ?_)) ?_
      refine ih (k, q ++ [n], D - n * y) _ _ (by dsimp only; omega) ⟨⟨rfl, rfl, congrArg iv hwk⟩, by dsimp only; rw [hl']; rfl, by dsimp only; omega, by dsimp only; omega, ?_, hlt, ?_⟩
      · intro d hd
        rcases List.mem_append.1 hd with hd | hd
        · exact hqd d hd
        · have : d = n := by simpa using hd
          omega
      · dsimp only
        rw [hv, hval, val_rev_snoc, Nat.add_mul, Nat.mul_add]
        have : 10 * (val q.reverse * y) = 10 * val q.reverse * y := by rw [Nat.mul_assoc]
        omega
  · have hi0 : i = 0 := by
      have : decide ((i : Int) - 1 ≥ 0) = false := h
      simp at this
      omega
    subst hi0
    rw [List.drop_zero, hvx] at hval
    have hdiv : x / y = val q.reverse := by
      rw [hval, Nat.mul_comm, Nat.mul_add_div hy0, Nat.div_eq_of_lt hR, Nat.add_zero]
    refine runS_x (I := inf) (J := jnf) ⟨true, false, [], 0, 0⟩ 9999 rfl (by repeat (first | exact obs_nil | refine obs_draw (by kernel_rfl) ?_ | refine obs_same ?_ | refine obs_and ?_ | refine obs_by (by (simp [inB] <;> omega)) ?_)) ?_
    refine runS_callF [.box 32 [limS n2 (frm y)], .box 32 [.row 6 q.length], .box 32 [limS none (frm R)], .box 32 [limS n1 A], .dfr true, _, .row 5 1 q.length q.length (limR q)] [.box 32 [limS n2 (frm y)], .box 32 [.row 6 q.length], .box 32 [limS none (frm R)], .box 32 [limS n1 A], .dfr true, _, .row 5 1 q.length q.length (limR q.reverse)] [] rfl rfl rfl rfl rfl (show _ = [.row 6 q.length] from rfl) rfl (.box rfl (.box rfl (.box rfl (.box rfl (.dfr (.loop (scrub_under _ _) (.row (fun j hj => rfl) .nil))))))) rfl rfl (slices_reverse _ _ _ _ _ _ (fun l hl => .box rfl (.box rfl (.box rfl (.box rfl (.dfr (.loop (scrub_under _ _) hl)))))) q.length q (by omega)) ?_
    refine runS_x (I := inf) (J := jnf) ⟨false, false, [], 0, 0⟩ 9999 rfl (by repeat (first | exact obs_nil | refine obs_draw (by kernel_rfl) ?_ | refine obs_same ?_ | refine obs_and ?_ | refine obs_by (by (simp [inB] <;> omega)) ?_)) ?_
    have hrl : q.reverse.length = q.length := List.length_reverse
    refine runS_freeze 32 rfl rfl rfl (fun j hj => rfl) ?_
    have hc := d_trimmed none q.reverse (by omega) (fun d hd => hqd d (List.mem_reverse.1 hd))
    unfold limS at hc
    rw [hrl] at hc
    refine runS_call rfl rfl rfl rfl rfl rfl rfl hc ?_
    refine runS_x (I := inf) (J := jnf) ⟨false, false, [], 0, 0⟩ 9999 rfl (by repeat (first | exact obs_nil | refine obs_draw (by kernel_rfl) ?_ | refine obs_same ?_ | refine obs_and ?_ | refine obs_by (by (simp [inB] <;> omega)) ?_)) ?_
    refine runS_ret (I := inf) 0 rfl (Nat.le_refl _) rfl .nil rfl ⟨?_, rfl⟩
    unfold trim
    rw [hdiv]
    rfl
end Go.Iron.Tryd

/- The digits' seat: exact numbers (exact, level, sum, product). -/
namespace Go.Iron.Tryd
open Go.Proofs Go.RowKit Go.Iron.Tok Go.Iron.Dg

theorem d_exact (kd n q : Int) (s : Str) (hn1 : -1000000000000000 < n) (hn2 : n < 1000000000000000) (hq : kd = 1 ∨ kd = 2 → 0 ≤ q ∧ q ≤ 31) : CallT Tryd.prog 13 [.agg (vaE kd n q s)] [] (fun o A => o = .ret (lgA (exactL kd n q)) ∧ A = []) := by
  have hab : (if IntKind.wrap .i64 (0 - n) > n then IntKind.wrap .i64 (0 - n) else n) = ((n.natAbs : Nat) : Int) := by
    rw [w64 (by omega) (by omega)]
    split <;> omega
  have hof := d_of n.natAbs (by omega)
  refine callS_body (n := 40) rfl rfl fun w ρ X => ?_
  refine runS_x (I := inf) (J := jnf) ⟨false, false, [], 0, 0⟩ 9999 rfl (by repeat (first | exact obs_nil | refine obs_draw (by kernel_rfl) ?_ | refine obs_same ?_ | refine obs_and ?_ | refine obs_by (by (simp [inB] <;> omega)) ?_)) ?_
  have hof' : CallT Tryd.prog 8 [.val (.int .i64 (if IntKind.wrap .i64 (0 - n) > n then IntKind.wrap .i64 (0 - n) else n))] [] (fun o A => o = .ret (limS none (frm n.natAbs)) ∧ A = []) := by rw [hab]; exact hof
  refine runS_drawG (ch := []) (A2 := fun _ => []) 12 [11] (fun b => [.box 23 (vaE kd n q s), .box 43 [.val (.slice none 0 0), bv false, iv 0]] ++ cond (b.getD 0 false) [.box 43 [.val (.slice none 0 0), bv false, iv 0]] []) none (c := 9) jnfI.draw (by kernel_rfl) rfl (lexg_g (I := inf) (J := jnf) none ⟨⟨_, rfl, (by repeat (first | exact obs_nil | refine obs_same ?_ | refine obs_and ?_ | refine obs_by (by (simp [inB] <;> omega)) ?_))⟩, (by first | exact .inl (by decide +kernel) | exact .inr ⟨_, rfl, (by repeat (first | exact obs_nil | refine obs_same ?_ | refine obs_and ?_ | refine obs_by (by (simp [inB] <;> omega)) ?_))⟩)⟩ rfl rfl rfl rfl (lexg_g (I := inf) (J := jnf) none ⟨⟨_, rfl, (by repeat (first | exact obs_nil | refine obs_same ?_ | refine obs_and ?_ | refine obs_by (by (simp [inB] <;> omega)) ?_))⟩, (by first | exact .inl (by decide +kernel) | exact .inr ⟨_, rfl, (by repeat (first | exact obs_nil | refine obs_same ?_ | refine obs_and ?_ | refine obs_by (by (simp [inB] <;> omega)) ?_))⟩)⟩ rfl rfl rfl rfl (lexg_g (I := inf) (J := jnf) none ⟨⟨_, rfl, (by repeat (first | exact obs_nil | refine obs_same ?_ | refine obs_and ?_ | refine obs_by (by (simp [inB] <;> omega)) ?_))⟩, (by first | exact .inl (by decide +kernel) | exact .inr ⟨_, rfl, (by repeat (first | exact obs_nil | refine obs_same ?_ | refine obs_and ?_ | refine obs_by (by (simp [inB] <;> omega)) ?_))⟩)⟩ rfl rfl rfl rfl (lexg_g (I := inf) (J := jnf) none ⟨⟨_, rfl, (by repeat (first | exact obs_nil | refine obs_same ?_ | refine obs_and ?_ | refine obs_by (by (simp [inB] <;> omega)) ?_))⟩, (by first | exact .inl (by decide +kernel) | exact .inr ⟨_, rfl, (by repeat (first | exact obs_nil | refine obs_same ?_ | refine obs_and ?_ | refine obs_by (by (simp [inB] <;> omega)) ?_))⟩)⟩ rfl rfl rfl rfl (lexg_g (I := inf) (J := jnf) none ⟨⟨_, rfl, (by repeat (first | exact obs_nil | refine obs_same ?_ | refine obs_and ?_ | refine obs_by (by (simp [inB] <;> omega)) ?_))⟩, (by first | exact .inl (by decide +kernel) | exact .inr ⟨_, rfl, (by repeat (first | exact obs_nil | refine obs_same ?_ | refine obs_and ?_ | refine obs_by (by (simp [inB] <;> omega)) ?_))⟩)⟩ rfl rfl rfl rfl (lexg_g (I := inf) (J := jnf) none ⟨⟨_, rfl, (by repeat (first | exact obs_nil | refine obs_same ?_ | refine obs_and ?_ | refine obs_by (by (simp [inB] <;> omega)) ?_))⟩, (by first | exact .inl (by decide +kernel) | exact .inr ⟨_, rfl, (by repeat (first | exact obs_nil | refine obs_same ?_ | refine obs_and ?_ | refine obs_by (by (simp [inB] <;> omega)) ?_))⟩)⟩ rfl rfl rfl rfl (lexg_call rfl rfl rfl rfl rfl rfl rfl rfl rfl hof' (lexg_g (I := inf) (J := jnf) none ⟨⟨_, rfl, (by repeat (first | exact obs_nil | refine obs_same ?_ | refine obs_and ?_ | refine obs_by (by (simp [inB] <;> omega)) ?_))⟩, (by first | exact .inl (by decide +kernel) | exact .inr ⟨_, rfl, (by repeat (first | exact obs_nil | refine obs_same ?_ | refine obs_and ?_ | refine obs_by (by (simp [inB] <;> omega)) ?_))⟩)⟩ rfl rfl rfl rfl (lexg_g (I := inf) (J := jnf) none ⟨⟨_, rfl, (by repeat (first | exact obs_nil | refine obs_same ?_ | refine obs_and ?_ | refine obs_by (by (simp [inB] <;> omega)) ?_))⟩, (by first | exact .inl (by decide +kernel) | exact .inr ⟨_, rfl, (by repeat (first | exact obs_nil | refine obs_same ?_ | refine obs_and ?_ | refine obs_by (by (simp [inB] <;> omega)) ?_))⟩)⟩ rfl rfl rfl rfl (lexg_g (I := inf) (J := jnf) none ⟨⟨_, rfl, (by repeat (first | exact obs_nil | refine obs_same ?_ | refine obs_and ?_ | refine obs_by (by (simp [inB] <;> omega)) ?_))⟩, (by first | exact .inl (by decide +kernel) | exact .inr ⟨_, rfl, (by repeat (first | exact obs_nil | refine obs_same ?_ | refine obs_and ?_ | refine obs_by (by (simp [inB] <;> omega)) ?_))⟩)⟩ rfl rfl rfl rfl (lexg_g (I := inf) (J := jnf) none ⟨⟨_, rfl, (by repeat (first | exact obs_nil | refine obs_same ?_ | refine obs_and ?_ | refine obs_by (by (simp [inB] <;> omega)) ?_))⟩, (by first | exact .inl (by decide +kernel) | exact .inr ⟨_, rfl, (by repeat (first | exact obs_nil | refine obs_same ?_ | refine obs_and ?_ | refine obs_by (by (simp [inB] <;> omega)) ?_))⟩)⟩ rfl rfl rfl rfl (lexg_a rfl rfl ⟨(show _ = _ from rfl), .inl rfl⟩ rfl rfl rfl rfl lexg_nil)))))))))))) rfl (fun _ => ?_) (fun h => by cases h)
  refine runS_x (I := inf) (J := jnf) ⟨false, false, [], 0, 0⟩ 9999 rfl (by repeat (first | exact obs_nil | refine obs_draw (by kernel_rfl) ?_ | refine obs_same ?_ | refine obs_and ?_ | refine obs_by (by (simp [inB] <;> omega)) ?_)) ?_
  refine runS_cond rfl (fun h => ?_) (fun h => ?_)
  · have hk : kd = 1 := by simpa using (show (kd == 1) = true from h)
    subst hk
    obtain ⟨hq1, hq2⟩ := hq (.inl rfl)
    obtain ⟨Q, rfl⟩ : ∃ Q : Nat, q = (Q : Int) := ⟨q.toNat, by omega⟩
    have hl1 : (frm n.natAbs).length ≤ 15 := frm_len_lt.2 (by omega)
    have hl2 : (frm (5 ^ Q)).length ≤ 32 := frm_len_lt.2 (Nat.lt_of_le_of_lt (Nat.pow_le_pow_left (by decide : 5 ≤ 10) Q) (Nat.pow_lt_pow_right (by decide) (by omega)))
    have hp := d_power 5 Q (by decide) (by omega)
    have ht := d_times none none n.natAbs (5 ^ Q) (by omega) (by omega)
    have hwq : IntKind.wrap .i64 (0 - (Q : Int)) = -(Q : Int) := by rw [w64 (by omega) (by omega)]; omega
    refine runS_x (I := inf) (J := jnf) ⟨false, false, [], 0, 0⟩ 9999 rfl (by repeat (first | exact obs_nil | refine obs_draw (by kernel_rfl) ?_ | refine obs_same ?_ | refine obs_and ?_ | refine obs_by (by (simp [inB] <;> omega)) ?_)) ?_
    refine runS_drawG (ch := []) (A2 := fun _ => []) 11 [10] (fun b => [.box 23 (vaE 1 n Q s), .box 43 [.val (.slice none 0 0), bv false, iv 0], .box 43 [cond (b.getD 0 false) (limS none (frm (n.natAbs * 5 ^ Q))) (limS none (frm n.natAbs)), bv (decide (n < 0)), iv 0]]) none (c := 9) jnfI.draw (by kernel_rfl) rfl (lexg_g (I := inf) (J := jnf) none ⟨⟨_, rfl, (by repeat (first | exact obs_nil | refine obs_same ?_ | refine obs_and ?_ | refine obs_by (by (simp [inB] <;> omega)) ?_))⟩, (by first | exact .inl (by decide +kernel) | exact .inr ⟨_, rfl, (by repeat (first | exact obs_nil | refine obs_same ?_ | refine obs_and ?_ | refine obs_by (by (simp [inB] <;> omega)) ?_))⟩)⟩ rfl rfl rfl rfl (lexg_g (I := inf) (J := jnf) none ⟨⟨_, rfl, (by repeat (first | exact obs_nil | refine obs_same ?_ | refine obs_and ?_ | refine obs_by (by (simp [inB] <;> omega)) ?_))⟩, (by first | exact .inl (by decide +kernel) | exact .inr ⟨_, rfl, (by repeat (first | exact obs_nil | refine obs_same ?_ | refine obs_and ?_ | refine obs_by (by (simp [inB] <;> omega)) ?_))⟩)⟩ rfl rfl rfl rfl (lexg_g (I := inf) (J := jnf) none ⟨⟨_, rfl, (by repeat (first | exact obs_nil | refine obs_same ?_ | refine obs_and ?_ | refine obs_by (by (simp [inB] <;> omega)) ?_))⟩, (by first | exact .inl (by decide +kernel) | exact .inr ⟨_, rfl, (by repeat (first | exact obs_nil | refine obs_same ?_ | refine obs_and ?_ | refine obs_by (by (simp [inB] <;> omega)) ?_))⟩)⟩ rfl rfl rfl rfl (lexg_g (I := inf) (J := jnf) none ⟨⟨_, rfl, (by repeat (first | exact obs_nil | refine obs_same ?_ | refine obs_and ?_ | refine obs_by (by (simp [inB] <;> omega)) ?_))⟩, (by first | exact .inl (by decide +kernel) | exact .inr ⟨_, rfl, (by repeat (first | exact obs_nil | refine obs_same ?_ | refine obs_and ?_ | refine obs_by (by (simp [inB] <;> omega)) ?_))⟩)⟩ rfl rfl rfl rfl (lexg_call rfl rfl rfl rfl rfl rfl rfl rfl rfl hp (lexg_call rfl rfl rfl rfl rfl rfl rfl rfl rfl ht (lexg_g (I := inf) (J := jnf) none ⟨⟨_, rfl, (by repeat (first | exact obs_nil | refine obs_same ?_ | refine obs_and ?_ | refine obs_by (by (simp [inB] <;> omega)) ?_))⟩, (by first | exact .inl (by decide +kernel) | exact .inr ⟨_, rfl, (by repeat (first | exact obs_nil | refine obs_same ?_ | refine obs_and ?_ | refine obs_by (by (simp [inB] <;> omega)) ?_))⟩)⟩ rfl rfl rfl rfl (lexg_g (I := inf) (J := jnf) none ⟨⟨_, rfl, (by repeat (first | exact obs_nil | refine obs_same ?_ | refine obs_and ?_ | refine obs_by (by (simp [inB] <;> omega)) ?_))⟩, (by first | exact .inl (by decide +kernel) | exact .inr ⟨_, rfl, (by repeat (first | exact obs_nil | refine obs_same ?_ | refine obs_and ?_ | refine obs_by (by (simp [inB] <;> omega)) ?_))⟩)⟩ rfl rfl rfl rfl (lexg_g (I := inf) (J := jnf) none ⟨⟨_, rfl, (by repeat (first | exact obs_nil | refine obs_same ?_ | refine obs_and ?_ | refine obs_by (by (simp [inB] <;> omega)) ?_))⟩, (by first | exact .inl (by decide +kernel) | exact .inr ⟨_, rfl, (by repeat (first | exact obs_nil | refine obs_same ?_ | refine obs_and ?_ | refine obs_by (by (simp [inB] <;> omega)) ?_))⟩)⟩ rfl rfl rfl rfl (lexg_g (I := inf) (J := jnf) none ⟨⟨_, rfl, (by repeat (first | exact obs_nil | refine obs_same ?_ | refine obs_and ?_ | refine obs_by (by (simp [inB] <;> omega)) ?_))⟩, (by first | exact .inl (by decide +kernel) | exact .inr ⟨_, rfl, (by repeat (first | exact obs_nil | refine obs_same ?_ | refine obs_and ?_ | refine obs_by (by (simp [inB] <;> omega)) ?_))⟩)⟩ rfl rfl rfl rfl (lexg_g (I := inf) (J := jnf) (some .store) ⟨⟨_, rfl, (by repeat (first | exact obs_nil | refine obs_same ?_ | refine obs_and ?_ | refine obs_by (by (simp [inB] <;> omega)) ?_))⟩, .inl rfl⟩ rfl rfl rfl rfl lexg_nil))))))))))) rfl (fun _ => ?_) (fun h => by cases h)
    refine runS_x (I := inf) (J := jnf) ⟨false, false, [], 0, 0⟩ 9999 rfl (by repeat (first | exact obs_nil | refine obs_draw (by kernel_rfl) ?_ | refine obs_same ?_ | refine obs_and ?_ | refine obs_by (by (simp [inB] <;> omega)) ?_)) ?_
    refine runS_ret (I := inf) 0 rfl (Nat.le_refl _) rfl .nil rfl ⟨?_, rfl⟩
    refine congrArg (fun z => Out.ret (AV.agg [limS none (frm (n.natAbs * 5 ^ Q)), bv (decide (n < 0)), iv z])) ?_
    exact hwq
  · have hk1 : ¬ kd = 1 := by simpa using (show (kd == 1) = false from h)
    refine runS_x (I := inf) (J := jnf) ⟨false, false, [], 0, 0⟩ 9999 rfl (by repeat (first | exact obs_nil | refine obs_draw (by kernel_rfl) ?_ | refine obs_same ?_ | refine obs_and ?_ | refine obs_by (by (simp [inB] <;> omega)) ?_)) ?_
    refine runS_cond rfl (fun h2 => ?_) (fun h2 => ?_)
    · have hk : kd = 2 := by simpa using (show (kd == 2) = true from h2)
      subst hk
      obtain ⟨hq1, hq2⟩ := hq (.inr rfl)
      have hwq : IntKind.wrap .i64 (0 - q) = -q := by rw [w64 (by omega) (by omega)]; omega
      refine runS_x (I := inf) (J := jnf) ⟨false, false, [], 0, 0⟩ 9999 rfl (by repeat (first | exact obs_nil | refine obs_draw (by kernel_rfl) ?_ | refine obs_same ?_ | refine obs_and ?_ | refine obs_by (by (simp [inB] <;> omega)) ?_)) ?_
      refine runS_ret (I := inf) 0 rfl (Nat.le_refl _) rfl .nil rfl ⟨?_, rfl⟩
      have hE : exactL 2 n q = ⟨n.natAbs, decide (n < 0), IntKind.wrap .i64 (0 - q)⟩ := by rw [hwq]; simp [exactL]
      rw [hE]
      rfl
    · have hk2 : ¬ kd = 2 := by simpa using (show (kd == 2) = false from h2)
      refine runS_x (I := inf) (J := jnf) ⟨false, false, [], 0, 0⟩ 9999 rfl (by repeat (first | exact obs_nil | refine obs_draw (by kernel_rfl) ?_ | refine obs_same ?_ | refine obs_and ?_ | refine obs_by (by (simp [inB] <;> omega)) ?_)) ?_
      refine runS_ret (I := inf) 0 rfl (Nat.le_refl _) rfl .nil rfl ⟨?_, rfl⟩
      have hE : exactL kd n q = ⟨n.natAbs, decide (n < 0), q⟩ := by simp [exactL, hk1, hk2]
      rw [hE]
      rfl
/-- Brought to a lower exponent. -/
theorem d_down (L : Lg) (e : Int) (h1 : e ≤ L.exp) (h2 : L.exp - e ≤ 4000) (h3 : -1000000 ≤ e) (h4 : L.exp ≤ 1000000) (hl : (frm L.m).length ≤ 4000) : CallT Tryd.prog 57 [lgA L, .loc [iv e] 0] [] (fun o A => o = .ret (lgA ⟨upM L e, L.neg, e⟩) ∧ A = []) := by
  have hu := d_up none L.m (L.exp - e).toNat (by omega) hl
  rw [show (((L.exp - e).toNat : Nat) : Int) = IntKind.wrap .i64 (L.exp - e) by rw [w64 (by omega) (by omega)]; omega] at hu
  refine callS_body (n := 15) rfl rfl fun w ρ X => ?_
  refine runS_x (I := inf) (J := jnf) ⟨false, false, [], 0, 0⟩ 9999 rfl (by repeat (first | exact obs_nil | refine obs_draw (by kernel_rfl) ?_ | refine obs_same ?_ | refine obs_and ?_ | refine obs_by (by (simp [inB] <;> omega)) ?_)) ?_
  refine runS_call rfl rfl rfl rfl rfl rfl rfl hu ?_
  refine runS_x (I := inf) (J := jnf) ⟨false, false, [], 0, 0⟩ 9999 rfl (by repeat (first | exact obs_nil | refine obs_draw (by kernel_rfl) ?_ | refine obs_same ?_ | refine obs_and ?_ | refine obs_by (by (simp [inB] <;> omega)) ?_)) ?_
  refine runS_ret (I := inf) 0 rfl (Nat.le_refl _) rfl .nil rfl ⟨?_, rfl⟩
  rfl
theorem d_level (a b : Lg) (ha1 : -5000 ≤ a.exp) (ha2 : a.exp ≤ 5000) (hb1 : -5000 ≤ b.exp) (hb2 : b.exp ≤ 5000) (hd1 : a.exp - b.exp ≤ 4000) (hd2 : b.exp - a.exp ≤ 4000) (hla : (frm a.m).length ≤ 4000) (hlb : (frm b.m).length ≤ 4000) : CallT Tryd.prog 34 [lgA a, lgA b] [] (fun o A => o = .ret (.tup [lgA ⟨upM a (min a.exp b.exp), a.neg, min a.exp b.exp⟩, lgA ⟨upM b (min a.exp b.exp), b.neg, min a.exp b.exp⟩]) ∧ A = []) := by
  have hm : (if b.exp < a.exp then b.exp else a.exp) = min a.exp b.exp := by split <;> omega
  have h1 := d_down a (min a.exp b.exp) (by omega) (by omega) (by omega) (by omega) hla
  have h2 := d_down b (min a.exp b.exp) (by omega) (by omega) (by omega) (by omega) hlb
  rw [← hm] at h1 h2 ⊢
  refine callS_body (n := 20) rfl rfl fun w ρ X => ?_
  refine runS_x (I := inf) (J := jnf) ⟨false, false, [], 0, 0⟩ 9999 rfl (by repeat (first | exact obs_nil | refine obs_draw (by kernel_rfl) ?_ | refine obs_same ?_ | refine obs_and ?_ | refine obs_by (by (simp [inB] <;> omega)) ?_)) ?_
  refine runS_freezeBox 4 rfl rfl rfl ?_
  refine runS_x (I := inf) (J := jnf) ⟨false, false, [], 0, 0⟩ 9999 rfl (by repeat (first | exact obs_nil | refine obs_draw (by kernel_rfl) ?_ | refine obs_same ?_ | refine obs_and ?_ | refine obs_by (by (simp [inB] <;> omega)) ?_)) ?_
  refine runS_draw 5 (by kernel_rfl) (lexj_x (I := inf) (J := jnf) 99 rfl rfl (by repeat (first | exact obs_nil | refine obs_same ?_ | refine obs_and ?_ | refine obs_by (by (simp [inB] <;> omega)) ?_)) (lexj_call rfl rfl rfl rfl rfl rfl rfl rfl h1 (lexj_x (I := inf) (J := jnf) 99 rfl rfl (by repeat (first | exact obs_nil | refine obs_same ?_ | refine obs_and ?_ | refine obs_by (by (simp [inB] <;> omega)) ?_)) lexj_nil))) ?_
  refine runS_x (I := inf) (J := jnf) ⟨false, false, [], 0, 0⟩ 9999 rfl (by repeat (first | exact obs_nil | refine obs_draw (by kernel_rfl) ?_ | refine obs_same ?_ | refine obs_and ?_ | refine obs_by (by (simp [inB] <;> omega)) ?_)) ?_
  refine runS_call rfl rfl rfl rfl rfl rfl rfl h2 ?_
  refine runS_x (I := inf) (J := jnf) ⟨false, false, [], 0, 0⟩ 9999 rfl (by repeat (first | exact obs_nil | refine obs_draw (by kernel_rfl) ?_ | refine obs_same ?_ | refine obs_and ?_ | refine obs_by (by (simp [inB] <;> omega)) ?_)) ?_
  refine runS_ret (I := inf) 0 rfl (Nat.le_refl _) rfl .nil rfl ⟨?_, rfl⟩
  rfl
theorem upM_len (a : Lg) (e : Int) : (frm (upM a e)).length ≤ (frm a.m).length + (a.exp - e).toNat := frm_len_up _ _
/-- Numbers that are small enough to be reckoned with. -/
structure Fits (a : Lg) (l : Nat) (x : Int) : Prop where
  len : (frm a.m).length ≤ l
  lo : -x ≤ a.exp
  hi : a.exp ≤ x
theorem d_sum (a b : Lg) (ha : Fits a 1500 1000) (hb : Fits b 1500 1000) : CallT Tryd.prog 14 [lgA a, lgA b] [] (fun o A => o = .ret (lgA (sumL a b)) ∧ A = []) := by
  obtain ⟨ha1, ha2, ha3⟩ := ha
  obtain ⟨hb1, hb2, hb3⟩ := hb
  have hlv := d_level a b (by omega) (by omega) (by omega) (by omega) (by omega) (by omega) (by omega) (by omega)
  have hlx := upM_len a (min a.exp b.exp)
  have hly := upM_len b (min a.exp b.exp)
  have he : -1000 ≤ min a.exp b.exp := by omega
  unfold sumL
  generalize upM a (min a.exp b.exp) = x at *
  generalize upM b (min a.exp b.exp) = y at *
  generalize min a.exp b.exp = e at *
  refine callS_body (n := 38) rfl rfl fun w ρ X => ?_
  refine runS_x (I := inf) (J := jnf) ⟨false, false, [], 0, 0⟩ 9999 rfl (by repeat (first | exact obs_nil | refine obs_draw (by kernel_rfl) ?_ | refine obs_same ?_ | refine obs_and ?_ | refine obs_by (by (simp [inB] <;> omega)) ?_)) ?_
  refine runS_call rfl rfl rfl rfl rfl rfl rfl hlv ?_
  refine runS_x (I := inf) (J := jnf) ⟨false, false, [], 0, 0⟩ 9999 rfl (by repeat (first | exact obs_nil | refine obs_draw (by kernel_rfl) ?_ | refine obs_same ?_ | refine obs_and ?_ | refine obs_by (by (simp [inB] <;> omega)) ?_)) ?_
  refine runS_cond rfl (fun h => ?_) (fun h => ?_)
  · have hs : a.neg = b.neg := by simpa using h
    rw [if_pos hs]
    refine runS_x (I := inf) (J := jnf) ⟨false, false, [], 0, 0⟩ 9999 rfl (by repeat (first | exact obs_nil | refine obs_draw (by kernel_rfl) ?_ | refine obs_same ?_ | refine obs_and ?_ | refine obs_by (by (simp [inB] <;> omega)) ?_)) ?_
    refine runS_call rfl rfl rfl rfl rfl rfl rfl (d_plus none none x y (by omega) (by omega)) ?_
    refine runS_x (I := inf) (J := jnf) ⟨false, false, [], 0, 0⟩ 9999 rfl (by repeat (first | exact obs_nil | refine obs_draw (by kernel_rfl) ?_ | refine obs_same ?_ | refine obs_and ?_ | refine obs_by (by (simp [inB] <;> omega)) ?_)) ?_
    refine runS_ret (I := inf) 0 rfl (Nat.le_refl _) rfl .nil rfl ⟨?_, rfl⟩
    rfl
  · have hs : ¬ a.neg = b.neg := by simpa using h
    rw [if_neg hs]
    have hcm := cmpR_frm x y
    refine runS_x (I := inf) (J := jnf) ⟨false, false, [], 0, 0⟩ 9999 rfl (by repeat (first | exact obs_nil | refine obs_draw (by kernel_rfl) ?_ | refine obs_same ?_ | refine obs_and ?_ | refine obs_by (by (simp [inB] <;> omega)) ?_)) ?_
    refine runS_call rfl rfl rfl rfl rfl rfl rfl (d_compare none none x y (by omega) (by omega)) ?_
    refine runS_x (I := inf) (J := jnf) ⟨false, false, [], 0, 0⟩ 9999 rfl (by repeat (first | exact obs_nil | refine obs_draw (by kernel_rfl) ?_ | refine obs_same ?_ | refine obs_and ?_ | refine obs_by (by (simp [inB] <;> omega)) ?_)) ?_
    refine runS_cond rfl (fun h2 => ?_) (fun h2 => ?_)
    · have hlt : x < y := hcm.1.1 (of_decide_eq_true h2)
      rw [if_pos hlt]
      refine runS_x (I := inf) (J := jnf) ⟨false, false, [], 0, 0⟩ 9999 rfl (by repeat (first | exact obs_nil | refine obs_draw (by kernel_rfl) ?_ | refine obs_same ?_ | refine obs_and ?_ | refine obs_by (by (simp [inB] <;> omega)) ?_)) ?_
      refine runS_call rfl rfl rfl rfl rfl rfl rfl (d_less none none y x (by omega) (by omega)) ?_
      refine runS_x (I := inf) (J := jnf) ⟨false, false, [], 0, 0⟩ 9999 rfl (by repeat (first | exact obs_nil | refine obs_draw (by kernel_rfl) ?_ | refine obs_same ?_ | refine obs_and ?_ | refine obs_by (by (simp [inB] <;> omega)) ?_)) ?_
      refine runS_ret (I := inf) 0 rfl (Nat.le_refl _) rfl .nil rfl ⟨?_, rfl⟩
      rfl
    · have hlt : ¬ x < y := fun hh => absurd (hcm.1.2 hh) (of_decide_eq_false h2)
      rw [if_neg hlt]
      refine runS_x (I := inf) (J := jnf) ⟨false, false, [], 0, 0⟩ 9999 rfl (by repeat (first | exact obs_nil | refine obs_draw (by kernel_rfl) ?_ | refine obs_same ?_ | refine obs_and ?_ | refine obs_by (by (simp [inB] <;> omega)) ?_)) ?_
      refine runS_call rfl rfl rfl rfl rfl rfl rfl (d_less none none x y (by omega) (by omega)) ?_
      refine runS_x (I := inf) (J := jnf) ⟨false, false, [], 0, 0⟩ 9999 rfl (by repeat (first | exact obs_nil | refine obs_draw (by kernel_rfl) ?_ | refine obs_same ?_ | refine obs_and ?_ | refine obs_by (by (simp [inB] <;> omega)) ?_)) ?_
      refine runS_ret (I := inf) 0 rfl (Nat.le_refl _) rfl .nil rfl ⟨?_, rfl⟩
      rfl
theorem d_quotient (a b : Lg) (Q : Nat) (ha : Fits a 200 200) (hb : Fits b 200 200) (hQ : Q ≤ 31) (hb0 : b.m ≠ 0) : CallT Tryd.prog 24 [lgA a, lgA b, iv Q] [] (fun o A => o = .ret (lgA (Dg.quoL a b Q)) ∧ A = []) := by
  obtain ⟨ha1, ha2, ha3⟩ := ha
  obtain ⟨hb1, hb2, hb3⟩ := hb
  have hmo : moreQ a b Q ≤ 700 := by unfold moreQ; omega
  have hmo0 : 0 ≤ moreQ a b Q := by unfold moreQ; omega
  have hm1 : IntKind.wrap .i64 (60 + (Q : Int)) = 60 + (Q : Int) := w64 (by omega) (by omega)
  have hmx : (if IntKind.wrap .i64 (IntKind.wrap .i64 (60 + (Q : Int)) - IntKind.wrap .i64 (b.exp - a.exp)) > (if IntKind.wrap .i64 (IntKind.wrap .i64 (IntKind.wrap .i64 (60 + (Q : Int)) + ((frm b.m).length : Int)) - ((frm a.m).length : Int)) > 0 then IntKind.wrap .i64 (IntKind.wrap .i64 (IntKind.wrap .i64 (60 + (Q : Int)) + ((frm b.m).length : Int)) - ((frm a.m).length : Int)) else 0) then IntKind.wrap .i64 (IntKind.wrap .i64 (60 + (Q : Int)) - IntKind.wrap .i64 (b.exp - a.exp)) else (if IntKind.wrap .i64 (IntKind.wrap .i64 (IntKind.wrap .i64 (60 + (Q : Int)) + ((frm b.m).length : Int)) - ((frm a.m).length : Int)) > 0 then IntKind.wrap .i64 (IntKind.wrap .i64 (IntKind.wrap .i64 (60 + (Q : Int)) + ((frm b.m).length : Int)) - ((frm a.m).length : Int)) else 0)) = (((moreQ a b Q).toNat : Nat) : Int) := by
    rw [hm1, w64 (x := b.exp - a.exp) (by omega) (by omega), w64 (x := 60 + (Q : Int) + ((frm b.m).length : Int)) (by omega) (by omega), w64 (x := 60 + (Q : Int) - (b.exp - a.exp)) (by omega) (by omega), w64 (x := 60 + (Q : Int) + ((frm b.m).length : Int) - ((frm a.m).length : Int)) (by omega) (by omega)]
    unfold moreQ
    split <;> split <;> omega
  have hup := d_up none a.m (moreQ a b Q).toNat (by omega) (by omega)
  have hul := frm_len_up a.m (moreQ a b Q).toNat
  have hov := d_over none none (a.m * 10 ^ (moreQ a b Q).toNat) b.m (by omega) (by omega) (Nat.pos_of_ne_zero hb0)
  have hol := frm_len_mono (Nat.div_le_self (a.m * 10 ^ (moreQ a b Q).toNat) b.m)
  have hti := d_times none none (a.m * 10 ^ (moreQ a b Q).toNat / b.m) b.m (by omega) (by omega)
  have htl := frm_len_mul (a.m * 10 ^ (moreQ a b Q).toNat / b.m) b.m
  have hcp := d_compare none none (a.m * 10 ^ (moreQ a b Q).toNat / b.m * b.m) (a.m * 10 ^ (moreQ a b Q).toNat) (by omega) (by omega)
  have hcm := cmpR_frm (a.m * 10 ^ (moreQ a b Q).toNat / b.m * b.m) (a.m * 10 ^ (moreQ a b Q).toNat)
  refine callS_body (n := 76) rfl rfl fun w ρ X => ?_
  refine runS_x (I := inf) (J := jnf) ⟨false, false, [], 0, 0⟩ 9999 rfl (by repeat (first | exact obs_nil | refine obs_draw (by kernel_rfl) ?_ | refine obs_same ?_ | refine obs_and ?_ | refine obs_by (by (simp [inB] <;> omega)) ?_)) ?_
  refine runS_cond rfl (fun h => ?_) (fun h => ?_)
  · have h0 : a.m = 0 := by
      have : (((frm a.m).length : Int) == 0) = true := h
      simp only [beq_iff_eq] at this
      exact frm_len0.1 (by omega)
    have hE : Dg.quoL a b Q = ⟨0, a.neg != b.neg, 0⟩ := by unfold Dg.quoL; rw [if_pos h0]
    rw [hE]
    refine runS_x (I := inf) (J := jnf) ⟨false, false, [], 0, 0⟩ 9999 rfl (by repeat (first | exact obs_nil | refine obs_draw (by kernel_rfl) ?_ | refine obs_same ?_ | refine obs_and ?_ | refine obs_by (by (simp [inB] <;> omega)) ?_)) ?_
    refine runS_saysBox 2 0 _ rfl rfl (says_nil0 (sz := 1) (r := nilL) (Nat.zero_le _)) rfl rfl ?_
    refine runS_ret (I := inf) 0 rfl (Nat.le_refl _) rfl .nil rfl ⟨?_, rfl⟩
    rw [show lgA ⟨0, a.neg != b.neg, 0⟩ = AV.agg [limS none [], bv (a.neg != b.neg), iv 0] by rw [← frm_zero]]
    rfl
  · have h0 : a.m ≠ 0 := by
      have : (((frm a.m).length : Int) == 0) = false := h
      simp only [beq_eq_false_iff_ne] at this
      exact fun e => this (by rw [e, frm_zero]; rfl)
    have hw1 : IntKind.wrap .i64 (IntKind.wrap .i64 (a.exp - b.exp) - (((moreQ a b Q).toNat : Nat) : Int)) = a.exp - b.exp - moreQ a b Q := by
      rw [w64 (x := a.exp - b.exp) (by omega) (by omega), w64 (by omega) (by omega)]; omega
    have hE : Dg.quoL a b Q = if (a.m * 10 ^ (moreQ a b Q).toNat) / b.m * b.m = a.m * 10 ^ (moreQ a b Q).toNat then ⟨(a.m * 10 ^ (moreQ a b Q).toNat) / b.m, a.neg != b.neg, a.exp - b.exp - moreQ a b Q⟩
      else ⟨1 + 10 * ((a.m * 10 ^ (moreQ a b Q).toNat) / b.m), a.neg != b.neg, a.exp - b.exp - moreQ a b Q - 1⟩ := by unfold Dg.quoL; rw [if_neg h0]
    rw [hE]
    clear hE
    rw [← hmx] at hup hw1
    have hex : -2000 ≤ a.exp - b.exp - moreQ a b Q ∧ a.exp - b.exp - moreQ a b Q ≤ 2000 := by omega
    generalize a.exp - b.exp - moreQ a b Q = ex at hw1 hex ⊢
    refine runS_x (I := inf) (J := jnf) ⟨false, false, [], 0, 0⟩ 9999 rfl (by repeat (first | exact obs_nil | refine obs_draw (by kernel_rfl) ?_ | refine obs_same ?_ | refine obs_and ?_ | refine obs_by (by (simp [inB] <;> omega)) ?_)) ?_
    refine runS_call rfl rfl rfl rfl rfl rfl rfl hup ?_
    generalize a.m * 10 ^ (moreQ a b Q).toNat = u at *
    refine runS_x (I := inf) (J := jnf) ⟨false, false, [], 0, 0⟩ 9999 rfl (by repeat (first | exact obs_nil | refine obs_draw (by kernel_rfl) ?_ | refine obs_same ?_ | refine obs_and ?_ | refine obs_by (by (simp [inB] <;> omega)) ?_)) ?_
    refine runS_call rfl rfl rfl rfl rfl rfl rfl hov ?_
    generalize hq : u / b.m = q at *
    refine runS_x (I := inf) (J := jnf) ⟨false, false, [], 0, 0⟩ 9999 rfl (by repeat (first | exact obs_nil | refine obs_draw (by kernel_rfl) ?_ | refine obs_same ?_ | refine obs_and ?_ | refine obs_by (by (simp [inB] <;> omega)) ?_)) ?_
    refine runS_call rfl rfl rfl rfl rfl rfl rfl hti ?_
    refine runS_x (I := inf) (J := jnf) ⟨false, false, [], 0, 0⟩ 9999 rfl (by repeat (first | exact obs_nil | refine obs_draw (by kernel_rfl) ?_ | refine obs_same ?_ | refine obs_and ?_ | refine obs_by (by (simp [inB] <;> omega)) ?_)) ?_
    refine runS_call rfl rfl rfl rfl rfl rfl rfl hcp ?_
    refine runS_x (I := inf) (J := jnf) ⟨false, false, [], 0, 0⟩ 9999 rfl (by repeat (first | exact obs_nil | refine obs_draw (by kernel_rfl) ?_ | refine obs_same ?_ | refine obs_and ?_ | refine obs_by (by (simp [inB] <;> omega)) ?_)) ?_
    refine runS_cond rfl (fun h2 => ?_) (fun h2 => ?_)
    · have hne : ¬ q * b.m = u := by
        have : (!(cmpR (frm (q * b.m)) (frm u) == 0)) = true := h2
        intro e
        rw [hcm.2.2 e] at this
        cases this
      rw [if_neg hne]
      have hw2 : IntKind.wrap .i64 (ex - 1) = ex - 1 := w64 (by omega) (by omega)
      have hfr : frm (1 + 10 * q) = 1 :: frm q := by rw [frm_pos (by omega), show (1 + 10 * q) % 10 = 1 by omega, show (1 + 10 * q) / 10 = q by omega]
      have htr : trim (1 :: frm q) = frm (1 + 10 * q) := by rw [← hfr]; unfold trim; rw [val_frm]
      have hct := d_trimmed none (1 :: frm q) (by simp; omega) (fun d hd => by rcases List.mem_cons.1 hd with rfl | hd; exact (by decide); exact frm_digit hd)
      rw [htr] at hct
      refine runS_x (I := inf) (J := jnf) ⟨false, false, [], 0, 0⟩ 9999 rfl (by repeat (first | exact obs_nil | refine obs_draw (by kernel_rfl) ?_ | refine obs_same ?_ | refine obs_and ?_ | refine obs_by (by (simp [inB] <;> omega)) ?_)) ?_
      refine runS_tell 4 (limR (1 :: frm q)) rfl (m' := (1 :: frm q).length) (by simp; omega) (fun j hj => ?_) rfl ?_
      · cases j with
        | zero => rfl
        | succ j =>
          refine Eq.trans ?_ (appR_ge (m := 1) (i := j + 1) (Nat.succ_le_succ (Nat.zero_le j))).symm
          rfl
      refine runS_freeze 68 rfl rfl rfl (fun j hj => rfl) ?_
      refine runS_call rfl rfl rfl rfl rfl rfl rfl hct ?_
      refine runS_x (I := inf) (J := jnf) ⟨false, false, [], 0, 0⟩ 9999 rfl (by repeat (first | exact obs_nil | refine obs_draw (by kernel_rfl) ?_ | refine obs_same ?_ | refine obs_and ?_ | refine obs_by (by (simp [inB] <;> omega)) ?_)) ?_
      refine runS_ret (I := inf) 0 rfl (Nat.le_refl _) rfl .nil rfl ⟨?_, rfl⟩
      show Out.ret (AV.agg [limS none (frm (1 + 10 * q)), bv (a.neg != b.neg), iv (IntKind.wrap .i64 (_ - 1))]) = _
      rw [hw1, hw2]
    · have heq : q * b.m = u := by
        have : (!(cmpR (frm (q * b.m)) (frm u) == 0)) = false := h2
        simp only [Bool.not_eq_false', beq_iff_eq] at this
        exact hcm.2.1 this
      rw [if_pos heq]
      refine runS_x (I := inf) (J := jnf) ⟨false, false, [], 0, 0⟩ 9999 rfl (by repeat (first | exact obs_nil | refine obs_draw (by kernel_rfl) ?_ | refine obs_same ?_ | refine obs_and ?_ | refine obs_by (by (simp [inB] <;> omega)) ?_)) ?_
      refine runS_ret (I := inf) 0 rfl (Nat.le_refl _) rfl .nil rfl ⟨?_, rfl⟩
      show Out.ret (AV.agg [limS none (frm q), bv (a.neg != b.neg), iv _]) = _
      rw [hw1]
end Go.Iron.Tryd

/- The digits' seat: the reference's Right, for any value. -/
namespace Go.Iron.Tryd
open Go.Proofs Go.RowKit Go.Iron.Tok Go.Iron.Dg

theorem nz10 : nz (10 : Int) = true := rfl
section
variable (n q : Int) (s : Str)
theorem tmod10 (n : Int) : (n.tmod 10 == 0) = decide (n.natAbs % 10 = 0) := by
  have h : (n.tmod 10).natAbs = n.natAbs % 10 := Int.natAbs_tmod n 10
  rw [Bool.eq_iff_iff]
  simp
  omega
end
end Go.Iron.Tryd

/- The digits' seat: valid types, by the reference and by the program. -/
namespace Go.Iron.Tryd
open Go.Proofs Go.RowKit Go.Iron.Tok Go.Iron.Dg

@[reducible] def typE (t : Typ) : List AV := [iv t.kind, iv t.p, iv t.q, iv t.n, bv t.vary, sv t.pic]
theorem d_within (n a b : Int) : CallT Tryd.prog 7 [iv n, iv a, iv b] [] (fun o A => o = .ret (bv (decide (a ≤ n) && decide (n ≤ b))) ∧ A = []) := by
  refine callS_body (n := 15) rfl rfl fun w ρ X => ?_
  refine runS_x (I := inf) (J := jnf) ⟨false, false, [], 0, 0⟩ 9999 rfl (by repeat (first | exact obs_nil | refine obs_draw (by kernel_rfl) ?_ | refine obs_same ?_ | refine obs_and ?_ | refine obs_by (by (simp [inB] <;> omega)) ?_)) ?_
  refine runS_ret (I := inf) 0 rfl (Nat.le_refl _) rfl .nil rfl ⟨?_, rfl⟩
  show Out.ret (bv (if decide (n ≥ a) = true then decide (n ≤ b) else false)) = _
  by_cases h : a ≤ n <;> simp [h]
theorem emptyB (s : Str) : ((bs s).toList == ({ data := #[] } : ByteArray).toList) = decide (s.length = 0) := by
  show ((bs s).toList == (bs []).toList) = _
  rw [bs_toList, bs_toList]
  cases s <;> rfl
theorem isEmptyB (s : Str) : s.isEmpty = decide (s.length = 0) := by cases s <;> rfl
theorem blL (s : Str) : (bl (bs s)).length = s.length := rfl
/-- The kinds' rules. -/
theorem rules_1 (a b : Int) (t : Typ) : CallT Tryd.prog 73 [.agg (typE t), .loc [iv a] 0, .loc [iv b] 0] [] (fun o A => o = .ret (bv (inR t.p 1 a && inR t.q 0 b && t.n == 0 && !t.vary && t.pic.isEmpty)) ∧ A = []) := by
  obtain ⟨k, p, q, n, v, pic⟩ := t
  refine callS_body (n := 30) rfl rfl fun w ρ X => ?_
  refine runS_x (I := inf) (J := jnf) ⟨false, false, [], 0, 0⟩ 9999 rfl (by repeat (first | exact obs_nil | refine obs_draw (by kernel_rfl) ?_ | refine obs_same ?_ | refine obs_and ?_ | refine obs_by (by (simp [inB] <;> omega)) ?_)) ?_
  refine runS_call rfl rfl rfl rfl rfl rfl rfl (d_within _ _ _) ?_
  refine runS_x (I := inf) (J := jnf) ⟨false, false, [], 0, 0⟩ 9999 rfl (by repeat (first | exact obs_nil | refine obs_draw (by kernel_rfl) ?_ | refine obs_same ?_ | refine obs_and ?_ | refine obs_by (by (simp [inB] <;> omega)) ?_)) ?_
  refine runS_callU rfl rfl (by first | exact .v rfl rfl rfl rfl | exact .o rfl rfl rfl rfl) rfl rfl (by repeat (first | exact .nil | refine .cons (.n rfl) ?_ | refine .cons .o ?_ | refine .cons gok_and ?_)) rfl rfl rfl rfl rfl (fun _ => (d_within _ _ _)) ?_
  refine runS_x (I := inf) (J := jnf) ⟨false, false, [], 0, 0⟩ 9999 rfl (by repeat (first | exact obs_nil | refine obs_draw (by kernel_rfl) ?_ | refine obs_same ?_ | refine obs_and ?_ | refine obs_by (by (simp [inB] <;> omega)) ?_)) ?_
  refine runS_ret (I := inf) 0 rfl (Nat.le_refl _) rfl .nil rfl ⟨?_, rfl⟩
  refine congrArg (fun b => Out.ret (bv b)) ?_
  simp only [inR, isEmptyB, emptyB, blL]
  rw [Bool.eq_iff_iff]
  cases v <;> (simp [-List.length_eq_zero_iff] <;> first | omega | (simp only [decide_eq_true_eq]; omega) | (rw [decide_eq_true_iff]; omega) | (erw [decide_eq_true_iff]; omega) | (erw [decide_eq_true_iff, decide_eq_true_iff]; omega))
theorem rules_2 (t : Typ) : CallT Tryd.prog 74 [.agg (typE t)] [] (fun o A => o = .ret (bv (t.p == 0 && t.q == 0 && inR t.n 0 250 && t.pic.isEmpty)) ∧ A = []) := by
  obtain ⟨k, p, q, n, v, pic⟩ := t
  refine callS_body (n := 21) rfl rfl fun w ρ X => ?_
  refine runS_x (I := inf) (J := jnf) ⟨false, false, [], 0, 0⟩ 9999 rfl (by repeat (first | exact obs_nil | refine obs_draw (by kernel_rfl) ?_ | refine obs_same ?_ | refine obs_and ?_ | refine obs_by (by (simp [inB] <;> omega)) ?_)) ?_
  refine runS_callU rfl rfl (by first | exact .v rfl rfl rfl rfl | exact .o rfl rfl rfl rfl) rfl rfl (by repeat (first | exact .nil | refine .cons (.n rfl) ?_ | refine .cons .o ?_ | refine .cons gok_and ?_)) rfl rfl rfl rfl rfl (fun _ => (d_within _ _ _)) ?_
  refine runS_x (I := inf) (J := jnf) ⟨false, false, [], 0, 0⟩ 9999 rfl (by repeat (first | exact obs_nil | refine obs_draw (by kernel_rfl) ?_ | refine obs_same ?_ | refine obs_and ?_ | refine obs_by (by (simp [inB] <;> omega)) ?_)) ?_
  refine runS_ret (I := inf) 0 rfl (Nat.le_refl _) rfl .nil rfl ⟨?_, rfl⟩
  refine congrArg (fun b => Out.ret (bv b)) ?_
  simp only [inR, isEmptyB, emptyB, blL]
  rw [Bool.eq_iff_iff]
  simp [-List.length_eq_zero_iff] <;> first | omega | (simp only [decide_eq_true_eq]; omega) | (rw [decide_eq_true_iff]; omega) | (erw [decide_eq_true_iff]; omega) | (erw [decide_eq_true_iff, decide_eq_true_iff]; omega)
theorem rules_3 (t : Typ) : CallT Tryd.prog 75 [.agg (typE t)] [] (fun o A => o = .ret (bv (t.p == 0 && t.q == 0 && t.n == 0 && !t.vary && t.pic.isEmpty)) ∧ A = []) := by
  obtain ⟨k, p, q, n, v, pic⟩ := t
  refine callS_body (n := 8) rfl rfl fun w ρ X => ?_
  refine runS_x (I := inf) (J := jnf) ⟨false, false, [], 0, 0⟩ 9999 rfl (by repeat (first | exact obs_nil | refine obs_draw (by kernel_rfl) ?_ | refine obs_same ?_ | refine obs_and ?_ | refine obs_by (by (simp [inB] <;> omega)) ?_)) ?_
  refine runS_ret (I := inf) 0 rfl (Nat.le_refl _) rfl .nil rfl ⟨?_, rfl⟩
  refine congrArg (fun b => Out.ret (bv b)) ?_
  simp only [inR, isEmptyB, emptyB, blL]
  rw [Bool.eq_iff_iff]
  cases v <;> (simp [-List.length_eq_zero_iff] <;> first | omega | (simp only [decide_eq_true_eq]; omega) | (rw [decide_eq_true_iff]; omega) | (erw [decide_eq_true_iff]; omega) | (erw [decide_eq_true_iff, decide_eq_true_iff]; omega))
theorem rules_4 (t : Typ) : CallT Tryd.prog 76 [.agg (typE t)] [] (fun o A => o = .ret (bv (t.p == 0 && t.q == 0 && t.n == 0 && !t.vary && decide (1 ≤ t.pic.length) && decide (t.pic.length ≤ 80))) ∧ A = []) := by
  obtain ⟨k, p, q, n, v, pic⟩ := t
  refine callS_body (n := 16) rfl rfl fun w ρ X => ?_
  refine runS_x (I := inf) (J := jnf) ⟨false, false, [], 0, 0⟩ 9999 rfl (by repeat (first | exact obs_nil | refine obs_draw (by kernel_rfl) ?_ | refine obs_same ?_ | refine obs_and ?_ | refine obs_by (by (simp [inB] <;> omega)) ?_)) ?_
  refine runS_call rfl rfl rfl rfl rfl rfl rfl (d_within _ _ _) ?_
  refine runS_x (I := inf) (J := jnf) ⟨false, false, [], 0, 0⟩ 9999 rfl (by repeat (first | exact obs_nil | refine obs_draw (by kernel_rfl) ?_ | refine obs_same ?_ | refine obs_and ?_ | refine obs_by (by (simp [inB] <;> omega)) ?_)) ?_
  refine runS_ret (I := inf) 0 rfl (Nat.le_refl _) rfl .nil rfl ⟨?_, rfl⟩
  refine congrArg (fun b => Out.ret (bv b)) ?_
  simp only [inR, isEmptyB, emptyB, blL]
  rw [Bool.eq_iff_iff]
  cases v <;> (simp [-List.length_eq_zero_iff] <;> first | omega | (simp only [decide_eq_true_eq]; omega) | (rw [decide_eq_true_iff]; omega) | (erw [decide_eq_true_iff]; omega) | (erw [decide_eq_true_iff, decide_eq_true_iff]; omega))
theorem rules_5 (t : Typ) : CallT Tryd.prog 77 [.agg (typE t)] [] (fun o A => o = .ret (bv false) ∧ A = []) := by
  refine callS_body (n := 3) rfl rfl fun w ρ X => ?_
  refine runS_x (I := inf) (J := jnf) ⟨false, false, [], 0, 0⟩ 9999 rfl (by repeat (first | exact obs_nil | refine obs_draw (by kernel_rfl) ?_ | refine obs_same ?_ | refine obs_and ?_ | refine obs_by (by (simp [inB] <;> omega)) ?_)) ?_
  refine runS_ret (I := inf) 0 rfl (Nat.le_refl _) rfl .nil rfl ⟨?_, rfl⟩
  rfl
abbrev fnA (g : Nat) (caps : List AV) : AV := .fn (.func g) caps
abbrev cel (n : Int) : AV := .loc [iv n] 0
theorem rules_mk (a b : Int) : CallT Tryd.prog 72 [iv a, iv b] [] (fun o A => o = .ret (fnA 73 [cel a, cel b]) ∧ A = []) := by
  refine callS_body (n := 6) rfl rfl fun w ρ X => ?_
  refine runS_x (I := inf) (J := jnf) ⟨false, false, [], 0, 0⟩ 9999 rfl (by repeat (first | exact obs_nil | refine obs_draw (by kernel_rfl) ?_ | refine obs_same ?_ | refine obs_and ?_ | refine obs_by (by (simp [inB] <;> omega)) ?_)) ?_
  refine runS_freezeBox 0 rfl rfl rfl ?_
  refine runS_freezeBox 1 rfl rfl rfl ?_
  refine runS_drop 0 (Nat.zero_le _) rfl (by repeat (first | exact .nil | refine .row (fun j hj => rfl) ?_ | refine .box rfl ?_ | refine .fam (fun k j hk hj => rfl) ?_ | refine .loop (scrub_under _ _) ?_ | refine .dfr ?_ | refine .gone ?_ | refine .map (fun p hp => by (obtain ⟨k, _, rfl⟩ := List.mem_map.1 hp; rfl)) ?_)) rfl rfl rfl (by repeat (first | exact .nil | refine .cons rfl rfl rfl (scrub_under _ _) ?_)) ?_
  refine runS_ret (I := inf) 0 rfl (Nat.le_refl _) rfl .nil rfl ⟨?_, rfl⟩
  rfl
def ruleA : Nat → AV
  | 0 => fnA 77 []
  | 1 => fnA 73 [cel 31, cel 31]
  | 2 => fnA 73 [cel 15, cel 31]
  | 3 => fnA 73 [cel 15, cel 0]
  | 4 => fnA 74 []
  | 5 => fnA 74 []
  | 6 => fnA 76 []
  | _ => fnA 75 []
def ruleR : Nat → List AV := fun i => [ruleA i]
def rulesS : AV := .slc 1 none 10 ruleR
theorem d_rules : CallT Tryd.prog 56 [] [] (fun o A => o = .ret rulesS ∧ A = []) := by
  refine callS_body (n := 20) rfl rfl fun w ρ X => ?_
  refine runS_x (I := inf) (J := jnf) ⟨false, false, [], 0, 0⟩ 9999 rfl (by repeat (first | exact obs_nil | refine obs_draw (by kernel_rfl) ?_ | refine obs_same ?_ | refine obs_and ?_ | refine obs_by (by (simp [inB] <;> omega)) ?_)) ?_
  refine runS_call rfl rfl rfl rfl rfl rfl rfl (rules_mk 31 31) ?_
  refine runS_x (I := inf) (J := jnf) ⟨false, false, [], 0, 0⟩ 9999 rfl (by repeat (first | exact obs_nil | refine obs_draw (by kernel_rfl) ?_ | refine obs_same ?_ | refine obs_and ?_ | refine obs_by (by (simp [inB] <;> omega)) ?_)) ?_
  refine runS_call rfl rfl rfl rfl rfl rfl rfl (rules_mk 15 31) ?_
  refine runS_x (I := inf) (J := jnf) ⟨false, false, [], 0, 0⟩ 9999 rfl (by repeat (first | exact obs_nil | refine obs_draw (by kernel_rfl) ?_ | refine obs_same ?_ | refine obs_and ?_ | refine obs_by (by (simp [inB] <;> omega)) ?_)) ?_
  refine runS_call rfl rfl rfl rfl rfl rfl rfl (rules_mk 15 0) ?_
  refine runS_x (I := inf) (J := jnf) ⟨false, false, [], 0, 0⟩ 9999 rfl (by repeat (first | exact obs_nil | refine obs_draw (by kernel_rfl) ?_ | refine obs_same ?_ | refine obs_and ?_ | refine obs_by (by (simp [inB] <;> omega)) ?_)) ?_
  refine runS_tell 0 ruleR rfl (m' := 10) rfl ?_ rfl ?_
  · intro i hi
    rcases i with _ | _ | _ | _ | _ | _ | _ | _ | _ | _ | i <;> first | rfl | omega
  refine runS_freeze 0 rfl rfl rfl (fun i hi => ?_) ?_
  · rcases i with _ | _ | _ | _ | _ | _ | _ | _ | _ | _ | i <;> first | rfl | omega
  refine runS_drop 0 (Nat.zero_le _) rfl (by repeat (first | exact .nil | refine .row (fun j hj => rfl) ?_ | refine .box rfl ?_ | refine .fam (fun k j hk hj => rfl) ?_ | refine .loop (scrub_under _ _) ?_ | refine .dfr ?_ | refine .gone ?_ | refine .map (fun p hp => by (obtain ⟨k, _, rfl⟩ := List.mem_map.1 hp; rfl)) ?_)) rfl rfl rfl (by repeat (first | exact .nil | refine .cons rfl rfl rfl (scrub_under _ _) ?_)) ?_
  refine runS_ret (I := inf) 0 rfl (Nat.le_refl _) rfl .nil rfl ⟨?_, rfl⟩
  rfl
theorem d_valid (t : Typ) : CallT Tryd.prog 30 [.agg (typE t)] [] (fun o A => o = .ret (bv (validT t)) ∧ A = []) := by
  by_cases hk : 0 ≤ t.kind ∧ t.kind ≤ 9
  · obtain ⟨k, p, q, n, v, pic⟩ := t
    dsimp only at hk
    have : k = 0 ∨ k = 1 ∨ k = 2 ∨ k = 3 ∨ k = 4 ∨ k = 5 ∨ k = 6 ∨ k = 7 ∨ k = 8 ∨ k = 9 := by omega
    rcases this with rfl | rfl | rfl | rfl | rfl | rfl | rfl | rfl | rfl | rfl
    · refine callS_body (n := 20) rfl rfl fun w ρ X => ?_
      refine runS_x (I := inf) (J := jnf) ⟨false, false, [], 0, 0⟩ 9999 rfl (by repeat (first | exact obs_nil | refine obs_draw (by kernel_rfl) ?_ | refine obs_same ?_ | refine obs_and ?_ | refine obs_by (by (simp [inB] <;> omega)) ?_)) ?_
      refine runS_call rfl rfl rfl rfl rfl rfl rfl d_rules ?_
      refine runS_x (I := inf) (J := jnf) ⟨false, false, [], 0, 0⟩ 9999 rfl (by repeat (first | exact obs_nil | refine obs_draw (by kernel_rfl) ?_ | refine obs_same ?_ | refine obs_and ?_ | refine obs_by (by (simp [inB] <;> omega)) ?_)) ?_
      refine runS_draw 15 (by kernel_rfl) (lexj_x (I := inf) (J := jnf) 99 rfl rfl (by repeat (first | exact obs_nil | refine obs_same ?_ | refine obs_and ?_ | refine obs_by (by (simp [inB] <;> omega)) ?_)) (lexj_call rfl rfl rfl rfl rfl rfl rfl rfl (d_within _ _ _) (lexj_x (I := inf) (J := jnf) 99 rfl rfl (by repeat (first | exact obs_nil | refine obs_same ?_ | refine obs_and ?_ | refine obs_by (by (simp [inB] <;> omega)) ?_)) (lexj_callU rfl rfl (by first | exact .v rfl rfl rfl rfl | exact .o rfl rfl rfl rfl) rfl rfl (by repeat (first | exact .nil | refine .cons (.n rfl) ?_ | refine .cons .o ?_ | refine .cons gok_and ?_)) rfl rfl rfl rfl rfl (fun hcond => (rules_5 _)) (lexj_x (I := inf) (J := jnf) 99 rfl rfl (by repeat (first | exact obs_nil | refine obs_same ?_ | refine obs_and ?_ | refine obs_by (by (simp [inB] <;> omega)) ?_)) lexj_nil))))) ?_
      refine runS_x (I := inf) (J := jnf) ⟨false, false, [], 0, 0⟩ 9999 rfl (by repeat (first | exact obs_nil | refine obs_draw (by kernel_rfl) ?_ | refine obs_same ?_ | refine obs_and ?_ | refine obs_by (by (simp [inB] <;> omega)) ?_)) ?_
      refine runS_ret (I := inf) 0 rfl (Nat.le_refl _) rfl .nil rfl ⟨?_, rfl⟩
      rfl
    · refine callS_body (n := 20) rfl rfl fun w ρ X => ?_
      refine runS_x (I := inf) (J := jnf) ⟨false, false, [], 0, 0⟩ 9999 rfl (by repeat (first | exact obs_nil | refine obs_draw (by kernel_rfl) ?_ | refine obs_same ?_ | refine obs_and ?_ | refine obs_by (by (simp [inB] <;> omega)) ?_)) ?_
      refine runS_call rfl rfl rfl rfl rfl rfl rfl d_rules ?_
      refine runS_x (I := inf) (J := jnf) ⟨false, false, [], 0, 0⟩ 9999 rfl (by repeat (first | exact obs_nil | refine obs_draw (by kernel_rfl) ?_ | refine obs_same ?_ | refine obs_and ?_ | refine obs_by (by (simp [inB] <;> omega)) ?_)) ?_
      refine runS_draw 15 (by kernel_rfl) (lexj_x (I := inf) (J := jnf) 99 rfl rfl (by repeat (first | exact obs_nil | refine obs_same ?_ | refine obs_and ?_ | refine obs_by (by (simp [inB] <;> omega)) ?_)) (lexj_call rfl rfl rfl rfl rfl rfl rfl rfl (d_within _ _ _) (lexj_x (I := inf) (J := jnf) 99 rfl rfl (by repeat (first | exact obs_nil | refine obs_same ?_ | refine obs_and ?_ | refine obs_by (by (simp [inB] <;> omega)) ?_)) (lexj_callU rfl rfl (by first | exact .v rfl rfl rfl rfl | exact .o rfl rfl rfl rfl) rfl rfl (by repeat (first | exact .nil | refine .cons (.n rfl) ?_ | refine .cons .o ?_ | refine .cons gok_and ?_)) rfl rfl rfl rfl rfl (fun hcond => (rules_1 31 31 _)) (lexj_x (I := inf) (J := jnf) 99 rfl rfl (by repeat (first | exact obs_nil | refine obs_same ?_ | refine obs_and ?_ | refine obs_by (by (simp [inB] <;> omega)) ?_)) lexj_nil))))) ?_
      refine runS_x (I := inf) (J := jnf) ⟨false, false, [], 0, 0⟩ 9999 rfl (by repeat (first | exact obs_nil | refine obs_draw (by kernel_rfl) ?_ | refine obs_same ?_ | refine obs_and ?_ | refine obs_by (by (simp [inB] <;> omega)) ?_)) ?_
      refine runS_ret (I := inf) 0 rfl (Nat.le_refl _) rfl .nil rfl ⟨?_, rfl⟩
      rfl
    · refine callS_body (n := 20) rfl rfl fun w ρ X => ?_
      refine runS_x (I := inf) (J := jnf) ⟨false, false, [], 0, 0⟩ 9999 rfl (by repeat (first | exact obs_nil | refine obs_draw (by kernel_rfl) ?_ | refine obs_same ?_ | refine obs_and ?_ | refine obs_by (by (simp [inB] <;> omega)) ?_)) ?_
      refine runS_call rfl rfl rfl rfl rfl rfl rfl d_rules ?_
      refine runS_x (I := inf) (J := jnf) ⟨false, false, [], 0, 0⟩ 9999 rfl (by repeat (first | exact obs_nil | refine obs_draw (by kernel_rfl) ?_ | refine obs_same ?_ | refine obs_and ?_ | refine obs_by (by (simp [inB] <;> omega)) ?_)) ?_
      refine runS_draw 15 (by kernel_rfl) (lexj_x (I := inf) (J := jnf) 99 rfl rfl (by repeat (first | exact obs_nil | refine obs_same ?_ | refine obs_and ?_ | refine obs_by (by (simp [inB] <;> omega)) ?_)) (lexj_call rfl rfl rfl rfl rfl rfl rfl rfl (d_within _ _ _) (lexj_x (I := inf) (J := jnf) 99 rfl rfl (by repeat (first | exact obs_nil | refine obs_same ?_ | refine obs_and ?_ | refine obs_by (by (simp [inB] <;> omega)) ?_)) (lexj_callU rfl rfl (by first | exact .v rfl rfl rfl rfl | exact .o rfl rfl rfl rfl) rfl rfl (by repeat (first | exact .nil | refine .cons (.n rfl) ?_ | refine .cons .o ?_ | refine .cons gok_and ?_)) rfl rfl rfl rfl rfl (fun hcond => (rules_1 15 31 _)) (lexj_x (I := inf) (J := jnf) 99 rfl rfl (by repeat (first | exact obs_nil | refine obs_same ?_ | refine obs_and ?_ | refine obs_by (by (simp [inB] <;> omega)) ?_)) lexj_nil))))) ?_
      refine runS_x (I := inf) (J := jnf) ⟨false, false, [], 0, 0⟩ 9999 rfl (by repeat (first | exact obs_nil | refine obs_draw (by kernel_rfl) ?_ | refine obs_same ?_ | refine obs_and ?_ | refine obs_by (by (simp [inB] <;> omega)) ?_)) ?_
      refine runS_ret (I := inf) 0 rfl (Nat.le_refl _) rfl .nil rfl ⟨?_, rfl⟩
      rfl
    · refine callS_body (n := 20) rfl rfl fun w ρ X => ?_
      refine runS_x (I := inf) (J := jnf) ⟨false, false, [], 0, 0⟩ 9999 rfl (by repeat (first | exact obs_nil | refine obs_draw (by kernel_rfl) ?_ | refine obs_same ?_ | refine obs_and ?_ | refine obs_by (by (simp [inB] <;> omega)) ?_)) ?_
      refine runS_call rfl rfl rfl rfl rfl rfl rfl d_rules ?_
      refine runS_x (I := inf) (J := jnf) ⟨false, false, [], 0, 0⟩ 9999 rfl (by repeat (first | exact obs_nil | refine obs_draw (by kernel_rfl) ?_ | refine obs_same ?_ | refine obs_and ?_ | refine obs_by (by (simp [inB] <;> omega)) ?_)) ?_
      refine runS_draw 15 (by kernel_rfl) (lexj_x (I := inf) (J := jnf) 99 rfl rfl (by repeat (first | exact obs_nil | refine obs_same ?_ | refine obs_and ?_ | refine obs_by (by (simp [inB] <;> omega)) ?_)) (lexj_call rfl rfl rfl rfl rfl rfl rfl rfl (d_within _ _ _) (lexj_x (I := inf) (J := jnf) 99 rfl rfl (by repeat (first | exact obs_nil | refine obs_same ?_ | refine obs_and ?_ | refine obs_by (by (simp [inB] <;> omega)) ?_)) (lexj_callU rfl rfl (by first | exact .v rfl rfl rfl rfl | exact .o rfl rfl rfl rfl) rfl rfl (by repeat (first | exact .nil | refine .cons (.n rfl) ?_ | refine .cons .o ?_ | refine .cons gok_and ?_)) rfl rfl rfl rfl rfl (fun hcond => (rules_1 15 0 _)) (lexj_x (I := inf) (J := jnf) 99 rfl rfl (by repeat (first | exact obs_nil | refine obs_same ?_ | refine obs_and ?_ | refine obs_by (by (simp [inB] <;> omega)) ?_)) lexj_nil))))) ?_
      refine runS_x (I := inf) (J := jnf) ⟨false, false, [], 0, 0⟩ 9999 rfl (by repeat (first | exact obs_nil | refine obs_draw (by kernel_rfl) ?_ | refine obs_same ?_ | refine obs_and ?_ | refine obs_by (by (simp [inB] <;> omega)) ?_)) ?_
      refine runS_ret (I := inf) 0 rfl (Nat.le_refl _) rfl .nil rfl ⟨?_, rfl⟩
      refine congrArg (fun b => Out.ret (bv b)) ?_
      show (if true = true then _ else false) = _
      rw [if_pos rfl]
      simp only [validT, inR]
      rw [Bool.eq_iff_iff]
      simp
      omega
    · refine callS_body (n := 20) rfl rfl fun w ρ X => ?_
      refine runS_x (I := inf) (J := jnf) ⟨false, false, [], 0, 0⟩ 9999 rfl (by repeat (first | exact obs_nil | refine obs_draw (by kernel_rfl) ?_ | refine obs_same ?_ | refine obs_and ?_ | refine obs_by (by (simp [inB] <;> omega)) ?_)) ?_
      refine runS_call rfl rfl rfl rfl rfl rfl rfl d_rules ?_
      refine runS_x (I := inf) (J := jnf) ⟨false, false, [], 0, 0⟩ 9999 rfl (by repeat (first | exact obs_nil | refine obs_draw (by kernel_rfl) ?_ | refine obs_same ?_ | refine obs_and ?_ | refine obs_by (by (simp [inB] <;> omega)) ?_)) ?_
      refine runS_draw 15 (by kernel_rfl) (lexj_x (I := inf) (J := jnf) 99 rfl rfl (by repeat (first | exact obs_nil | refine obs_same ?_ | refine obs_and ?_ | refine obs_by (by (simp [inB] <;> omega)) ?_)) (lexj_call rfl rfl rfl rfl rfl rfl rfl rfl (d_within _ _ _) (lexj_x (I := inf) (J := jnf) 99 rfl rfl (by repeat (first | exact obs_nil | refine obs_same ?_ | refine obs_and ?_ | refine obs_by (by (simp [inB] <;> omega)) ?_)) (lexj_callU rfl rfl (by first | exact .v rfl rfl rfl rfl | exact .o rfl rfl rfl rfl) rfl rfl (by repeat (first | exact .nil | refine .cons (.n rfl) ?_ | refine .cons .o ?_ | refine .cons gok_and ?_)) rfl rfl rfl rfl rfl (fun hcond => (rules_2 _)) (lexj_x (I := inf) (J := jnf) 99 rfl rfl (by repeat (first | exact obs_nil | refine obs_same ?_ | refine obs_and ?_ | refine obs_by (by (simp [inB] <;> omega)) ?_)) lexj_nil))))) ?_
      refine runS_x (I := inf) (J := jnf) ⟨false, false, [], 0, 0⟩ 9999 rfl (by repeat (first | exact obs_nil | refine obs_draw (by kernel_rfl) ?_ | refine obs_same ?_ | refine obs_and ?_ | refine obs_by (by (simp [inB] <;> omega)) ?_)) ?_
      refine runS_ret (I := inf) 0 rfl (Nat.le_refl _) rfl .nil rfl ⟨?_, rfl⟩
      rfl
    · refine callS_body (n := 20) rfl rfl fun w ρ X => ?_
      refine runS_x (I := inf) (J := jnf) ⟨false, false, [], 0, 0⟩ 9999 rfl (by repeat (first | exact obs_nil | refine obs_draw (by kernel_rfl) ?_ | refine obs_same ?_ | refine obs_and ?_ | refine obs_by (by (simp [inB] <;> omega)) ?_)) ?_
      refine runS_call rfl rfl rfl rfl rfl rfl rfl d_rules ?_
      refine runS_x (I := inf) (J := jnf) ⟨false, false, [], 0, 0⟩ 9999 rfl (by repeat (first | exact obs_nil | refine obs_draw (by kernel_rfl) ?_ | refine obs_same ?_ | refine obs_and ?_ | refine obs_by (by (simp [inB] <;> omega)) ?_)) ?_
      refine runS_draw 15 (by kernel_rfl) (lexj_x (I := inf) (J := jnf) 99 rfl rfl (by repeat (first | exact obs_nil | refine obs_same ?_ | refine obs_and ?_ | refine obs_by (by (simp [inB] <;> omega)) ?_)) (lexj_call rfl rfl rfl rfl rfl rfl rfl rfl (d_within _ _ _) (lexj_x (I := inf) (J := jnf) 99 rfl rfl (by repeat (first | exact obs_nil | refine obs_same ?_ | refine obs_and ?_ | refine obs_by (by (simp [inB] <;> omega)) ?_)) (lexj_callU rfl rfl (by first | exact .v rfl rfl rfl rfl | exact .o rfl rfl rfl rfl) rfl rfl (by repeat (first | exact .nil | refine .cons (.n rfl) ?_ | refine .cons .o ?_ | refine .cons gok_and ?_)) rfl rfl rfl rfl rfl (fun hcond => (rules_2 _)) (lexj_x (I := inf) (J := jnf) 99 rfl rfl (by repeat (first | exact obs_nil | refine obs_same ?_ | refine obs_and ?_ | refine obs_by (by (simp [inB] <;> omega)) ?_)) lexj_nil))))) ?_
      refine runS_x (I := inf) (J := jnf) ⟨false, false, [], 0, 0⟩ 9999 rfl (by repeat (first | exact obs_nil | refine obs_draw (by kernel_rfl) ?_ | refine obs_same ?_ | refine obs_and ?_ | refine obs_by (by (simp [inB] <;> omega)) ?_)) ?_
      refine runS_ret (I := inf) 0 rfl (Nat.le_refl _) rfl .nil rfl ⟨?_, rfl⟩
      rfl
    · refine callS_body (n := 20) rfl rfl fun w ρ X => ?_
      refine runS_x (I := inf) (J := jnf) ⟨false, false, [], 0, 0⟩ 9999 rfl (by repeat (first | exact obs_nil | refine obs_draw (by kernel_rfl) ?_ | refine obs_same ?_ | refine obs_and ?_ | refine obs_by (by (simp [inB] <;> omega)) ?_)) ?_
      refine runS_call rfl rfl rfl rfl rfl rfl rfl d_rules ?_
      refine runS_x (I := inf) (J := jnf) ⟨false, false, [], 0, 0⟩ 9999 rfl (by repeat (first | exact obs_nil | refine obs_draw (by kernel_rfl) ?_ | refine obs_same ?_ | refine obs_and ?_ | refine obs_by (by (simp [inB] <;> omega)) ?_)) ?_
      refine runS_draw 15 (by kernel_rfl) (lexj_x (I := inf) (J := jnf) 99 rfl rfl (by repeat (first | exact obs_nil | refine obs_same ?_ | refine obs_and ?_ | refine obs_by (by (simp [inB] <;> omega)) ?_)) (lexj_call rfl rfl rfl rfl rfl rfl rfl rfl (d_within _ _ _) (lexj_x (I := inf) (J := jnf) 99 rfl rfl (by repeat (first | exact obs_nil | refine obs_same ?_ | refine obs_and ?_ | refine obs_by (by (simp [inB] <;> omega)) ?_)) (lexj_callU rfl rfl (by first | exact .v rfl rfl rfl rfl | exact .o rfl rfl rfl rfl) rfl rfl (by repeat (first | exact .nil | refine .cons (.n rfl) ?_ | refine .cons .o ?_ | refine .cons gok_and ?_)) rfl rfl rfl rfl rfl (fun hcond => (rules_4 _)) (lexj_x (I := inf) (J := jnf) 99 rfl rfl (by repeat (first | exact obs_nil | refine obs_same ?_ | refine obs_and ?_ | refine obs_by (by (simp [inB] <;> omega)) ?_)) lexj_nil))))) ?_
      refine runS_x (I := inf) (J := jnf) ⟨false, false, [], 0, 0⟩ 9999 rfl (by repeat (first | exact obs_nil | refine obs_draw (by kernel_rfl) ?_ | refine obs_same ?_ | refine obs_and ?_ | refine obs_by (by (simp [inB] <;> omega)) ?_)) ?_
      refine runS_ret (I := inf) 0 rfl (Nat.le_refl _) rfl .nil rfl ⟨?_, rfl⟩
      rfl
    · refine callS_body (n := 20) rfl rfl fun w ρ X => ?_
      refine runS_x (I := inf) (J := jnf) ⟨false, false, [], 0, 0⟩ 9999 rfl (by repeat (first | exact obs_nil | refine obs_draw (by kernel_rfl) ?_ | refine obs_same ?_ | refine obs_and ?_ | refine obs_by (by (simp [inB] <;> omega)) ?_)) ?_
      refine runS_call rfl rfl rfl rfl rfl rfl rfl d_rules ?_
      refine runS_x (I := inf) (J := jnf) ⟨false, false, [], 0, 0⟩ 9999 rfl (by repeat (first | exact obs_nil | refine obs_draw (by kernel_rfl) ?_ | refine obs_same ?_ | refine obs_and ?_ | refine obs_by (by (simp [inB] <;> omega)) ?_)) ?_
      refine runS_draw 15 (by kernel_rfl) (lexj_x (I := inf) (J := jnf) 99 rfl rfl (by repeat (first | exact obs_nil | refine obs_same ?_ | refine obs_and ?_ | refine obs_by (by (simp [inB] <;> omega)) ?_)) (lexj_call rfl rfl rfl rfl rfl rfl rfl rfl (d_within _ _ _) (lexj_x (I := inf) (J := jnf) 99 rfl rfl (by repeat (first | exact obs_nil | refine obs_same ?_ | refine obs_and ?_ | refine obs_by (by (simp [inB] <;> omega)) ?_)) (lexj_callU rfl rfl (by first | exact .v rfl rfl rfl rfl | exact .o rfl rfl rfl rfl) rfl rfl (by repeat (first | exact .nil | refine .cons (.n rfl) ?_ | refine .cons .o ?_ | refine .cons gok_and ?_)) rfl rfl rfl rfl rfl (fun hcond => (rules_3 _)) (lexj_x (I := inf) (J := jnf) 99 rfl rfl (by repeat (first | exact obs_nil | refine obs_same ?_ | refine obs_and ?_ | refine obs_by (by (simp [inB] <;> omega)) ?_)) lexj_nil))))) ?_
      refine runS_x (I := inf) (J := jnf) ⟨false, false, [], 0, 0⟩ 9999 rfl (by repeat (first | exact obs_nil | refine obs_draw (by kernel_rfl) ?_ | refine obs_same ?_ | refine obs_and ?_ | refine obs_by (by (simp [inB] <;> omega)) ?_)) ?_
      refine runS_ret (I := inf) 0 rfl (Nat.le_refl _) rfl .nil rfl ⟨?_, rfl⟩
      rfl
    · refine callS_body (n := 20) rfl rfl fun w ρ X => ?_
      refine runS_x (I := inf) (J := jnf) ⟨false, false, [], 0, 0⟩ 9999 rfl (by repeat (first | exact obs_nil | refine obs_draw (by kernel_rfl) ?_ | refine obs_same ?_ | refine obs_and ?_ | refine obs_by (by (simp [inB] <;> omega)) ?_)) ?_
      refine runS_call rfl rfl rfl rfl rfl rfl rfl d_rules ?_
      refine runS_x (I := inf) (J := jnf) ⟨false, false, [], 0, 0⟩ 9999 rfl (by repeat (first | exact obs_nil | refine obs_draw (by kernel_rfl) ?_ | refine obs_same ?_ | refine obs_and ?_ | refine obs_by (by (simp [inB] <;> omega)) ?_)) ?_
      refine runS_draw 15 (by kernel_rfl) (lexj_x (I := inf) (J := jnf) 99 rfl rfl (by repeat (first | exact obs_nil | refine obs_same ?_ | refine obs_and ?_ | refine obs_by (by (simp [inB] <;> omega)) ?_)) (lexj_call rfl rfl rfl rfl rfl rfl rfl rfl (d_within _ _ _) (lexj_x (I := inf) (J := jnf) 99 rfl rfl (by repeat (first | exact obs_nil | refine obs_same ?_ | refine obs_and ?_ | refine obs_by (by (simp [inB] <;> omega)) ?_)) (lexj_callU rfl rfl (by first | exact .v rfl rfl rfl rfl | exact .o rfl rfl rfl rfl) rfl rfl (by repeat (first | exact .nil | refine .cons (.n rfl) ?_ | refine .cons .o ?_ | refine .cons gok_and ?_)) rfl rfl rfl rfl rfl (fun hcond => (rules_3 _)) (lexj_x (I := inf) (J := jnf) 99 rfl rfl (by repeat (first | exact obs_nil | refine obs_same ?_ | refine obs_and ?_ | refine obs_by (by (simp [inB] <;> omega)) ?_)) lexj_nil))))) ?_
      refine runS_x (I := inf) (J := jnf) ⟨false, false, [], 0, 0⟩ 9999 rfl (by repeat (first | exact obs_nil | refine obs_draw (by kernel_rfl) ?_ | refine obs_same ?_ | refine obs_and ?_ | refine obs_by (by (simp [inB] <;> omega)) ?_)) ?_
      refine runS_ret (I := inf) 0 rfl (Nat.le_refl _) rfl .nil rfl ⟨?_, rfl⟩
      rfl
    · refine callS_body (n := 20) rfl rfl fun w ρ X => ?_
      refine runS_x (I := inf) (J := jnf) ⟨false, false, [], 0, 0⟩ 9999 rfl (by repeat (first | exact obs_nil | refine obs_draw (by kernel_rfl) ?_ | refine obs_same ?_ | refine obs_and ?_ | refine obs_by (by (simp [inB] <;> omega)) ?_)) ?_
      refine runS_call rfl rfl rfl rfl rfl rfl rfl d_rules ?_
      refine runS_x (I := inf) (J := jnf) ⟨false, false, [], 0, 0⟩ 9999 rfl (by repeat (first | exact obs_nil | refine obs_draw (by kernel_rfl) ?_ | refine obs_same ?_ | refine obs_and ?_ | refine obs_by (by (simp [inB] <;> omega)) ?_)) ?_
      refine runS_draw 15 (by kernel_rfl) (lexj_x (I := inf) (J := jnf) 99 rfl rfl (by repeat (first | exact obs_nil | refine obs_same ?_ | refine obs_and ?_ | refine obs_by (by (simp [inB] <;> omega)) ?_)) (lexj_call rfl rfl rfl rfl rfl rfl rfl rfl (d_within _ _ _) (lexj_x (I := inf) (J := jnf) 99 rfl rfl (by repeat (first | exact obs_nil | refine obs_same ?_ | refine obs_and ?_ | refine obs_by (by (simp [inB] <;> omega)) ?_)) (lexj_callU rfl rfl (by first | exact .v rfl rfl rfl rfl | exact .o rfl rfl rfl rfl) rfl rfl (by repeat (first | exact .nil | refine .cons (.n rfl) ?_ | refine .cons .o ?_ | refine .cons gok_and ?_)) rfl rfl rfl rfl rfl (fun hcond => (rules_3 _)) (lexj_x (I := inf) (J := jnf) 99 rfl rfl (by repeat (first | exact obs_nil | refine obs_same ?_ | refine obs_and ?_ | refine obs_by (by (simp [inB] <;> omega)) ?_)) lexj_nil))))) ?_
      refine runS_x (I := inf) (J := jnf) ⟨false, false, [], 0, 0⟩ 9999 rfl (by repeat (first | exact obs_nil | refine obs_draw (by kernel_rfl) ?_ | refine obs_same ?_ | refine obs_and ?_ | refine obs_by (by (simp [inB] <;> omega)) ?_)) ?_
      refine runS_ret (I := inf) 0 rfl (Nat.le_refl _) rfl .nil rfl ⟨?_, rfl⟩
      rfl
  · have h0 : validT t = false := by
      cases hv : validT t with
      | false => rfl
      | true => have := valid_kind hv; omega
    rw [h0]
    obtain ⟨k, p, q, n, v, pic⟩ := t
    dsimp only at hk
    have hf : (decide (0 ≤ k) && decide (k ≤ 9)) = false := by
      cases hh : (decide (0 ≤ k) && decide (k ≤ 9)) with
      | false => rfl
      | true => simp at hh; omega
    have habs : ∀ {g : FuncId} {xs : List AV}, condOf none (decide (0 ≤ k) && decide (k ≤ 9)) true = true → CallT Tryd.prog g xs [] (fun o A => o = .ret (bv false) ∧ A = []) := fun h => by rw [hf] at h; cases h
    rcases Int.lt_or_le k 0 with h | h
    · obtain ⟨m, rfl⟩ : ∃ m, k = Int.negSucc m := ⟨(-k - 1).toNat, by omega⟩
      refine callS_body (n := 20) rfl rfl fun w ρ X => ?_
      refine runS_x (I := inf) (J := jnf) ⟨false, false, [], 0, 0⟩ 9999 rfl (by repeat (first | exact obs_nil | refine obs_draw (by kernel_rfl) ?_ | refine obs_same ?_ | refine obs_and ?_ | refine obs_by (by (simp [inB] <;> omega)) ?_)) ?_
      refine runS_call rfl rfl rfl rfl rfl rfl rfl d_rules ?_
      refine runS_x (I := inf) (J := jnf) ⟨false, false, [], 0, 0⟩ 9999 rfl (by repeat (first | exact obs_nil | refine obs_draw (by kernel_rfl) ?_ | refine obs_same ?_ | refine obs_and ?_ | refine obs_by (by (simp [inB] <;> omega)) ?_)) ?_
      refine runS_draw 15 (by kernel_rfl) (lexj_x (I := inf) (J := jnf) 99 rfl rfl (by repeat (first | exact obs_nil | refine obs_same ?_ | refine obs_and ?_ | refine obs_by (by (simp [inB] <;> omega)) ?_)) (lexj_call rfl rfl rfl rfl rfl rfl rfl rfl (d_within _ _ _) (lexj_x (I := inf) (J := jnf) 99 rfl rfl (by repeat (first | exact obs_nil | refine obs_same ?_ | refine obs_and ?_ | refine obs_by (by (simp [inB] <;> omega)) ?_)) (lexj_callU rfl rfl (by first | exact .v rfl rfl rfl rfl | exact .o rfl rfl rfl rfl) rfl rfl (by repeat (first | exact .nil | refine .cons (.n rfl) ?_ | refine .cons .o ?_ | refine .cons gok_and ?_)) rfl rfl rfl rfl rfl (fun hcond => (habs hcond)) (lexj_x (I := inf) (J := jnf) 99 rfl rfl (by repeat (first | exact obs_nil | refine obs_same ?_ | refine obs_and ?_ | refine obs_by (by (simp [inB] <;> omega)) ?_)) lexj_nil))))) ?_
      refine runS_x (I := inf) (J := jnf) ⟨false, false, [], 0, 0⟩ 9999 rfl (by repeat (first | exact obs_nil | refine obs_draw (by kernel_rfl) ?_ | refine obs_same ?_ | refine obs_and ?_ | refine obs_by (by (simp [inB] <;> omega)) ?_)) ?_
      refine runS_ret (I := inf) 0 rfl (Nat.le_refl _) rfl .nil rfl ⟨?_, rfl⟩
      show Out.ret (bv (if _ = true then false else false)) = _
      split <;> rfl
    · obtain ⟨m, rfl⟩ : ∃ m : Nat, k = ((m + 10 : Nat) : Int) := ⟨(k - 10).toNat, by omega⟩
      refine callS_body (n := 20) rfl rfl fun w ρ X => ?_
      refine runS_x (I := inf) (J := jnf) ⟨false, false, [], 0, 0⟩ 9999 rfl (by repeat (first | exact obs_nil | refine obs_draw (by kernel_rfl) ?_ | refine obs_same ?_ | refine obs_and ?_ | refine obs_by (by (simp [inB] <;> omega)) ?_)) ?_
      refine runS_call rfl rfl rfl rfl rfl rfl rfl d_rules ?_
      refine runS_x (I := inf) (J := jnf) ⟨false, false, [], 0, 0⟩ 9999 rfl (by repeat (first | exact obs_nil | refine obs_draw (by kernel_rfl) ?_ | refine obs_same ?_ | refine obs_and ?_ | refine obs_by (by (simp [inB] <;> omega)) ?_)) ?_
      refine runS_draw 15 (by kernel_rfl) (lexj_x (I := inf) (J := jnf) 99 rfl rfl (by repeat (first | exact obs_nil | refine obs_same ?_ | refine obs_and ?_ | refine obs_by (by (simp [inB] <;> omega)) ?_)) (lexj_call rfl rfl rfl rfl rfl rfl rfl rfl (d_within _ _ _) (lexj_x (I := inf) (J := jnf) 99 rfl rfl (by repeat (first | exact obs_nil | refine obs_same ?_ | refine obs_and ?_ | refine obs_by (by (simp [inB] <;> omega)) ?_)) (lexj_callU rfl rfl (by first | exact .v rfl rfl rfl rfl | exact .o rfl rfl rfl rfl) rfl rfl (by repeat (first | exact .nil | refine .cons (.n rfl) ?_ | refine .cons .o ?_ | refine .cons gok_and ?_)) rfl rfl rfl rfl rfl (fun hcond => (habs hcond)) (lexj_x (I := inf) (J := jnf) 99 rfl rfl (by repeat (first | exact obs_nil | refine obs_same ?_ | refine obs_and ?_ | refine obs_by (by (simp [inB] <;> omega)) ?_)) lexj_nil))))) ?_
      refine runS_x (I := inf) (J := jnf) ⟨false, false, [], 0, 0⟩ 9999 rfl (by repeat (first | exact obs_nil | refine obs_draw (by kernel_rfl) ?_ | refine obs_same ?_ | refine obs_and ?_ | refine obs_by (by (simp [inB] <;> omega)) ?_)) ?_
      refine runS_ret (I := inf) 0 rfl (Nat.le_refl _) rfl .nil rfl ⟨?_, rfl⟩
      show Out.ret (bv (if _ = true then false else false)) = _
      split <;> rfl
end Go.Iron.Tryd
