/- Iron: this seat's types and functions, by program (mkinf.py). -/
import Derived.Test.YtmohlahmfkkggaaGreatDoorTA
import Derived.Test.YtmohlahmfkkggaaGreatDoorTB
import Derived.Test.YtmohlahmfkkggaaGreatDoorTC
import Derived.Test.YtmohlahmfkkggaaGreatDoorTD
import Derived.Test.YtmohlahmfkkggaaGreatDoorProg
import Derived.Lib.ItoaNum
import Derived.Shelf.Strings.Builder1
import Derived.Shelf.Strings.Builder2
import Derived.Shelf.Strings.OnBuilder
import Derived.Shelf.Strings.Trim
import Derived.Shelf.Strings.SlTrimAscii
import Derived.Shelf.Small.Utf8
import Derived.Shelf.Small.Strs
import Derived.Shelf.Small.Wraps
import Derived.Shelf.Utf8.RuneCount
import Derived.Shelf.Strconv.Atoi
import Derived.Shelf.Strconv.Itoa0
import Derived.Shelf.Strconv.Itoa1
import Derived.Shelf.LaysM
import Derived.Shelf.Strconv.Itoa2
import Derived.Shelf.Strconv.Itoa3
import Derived.Shelf.Strconv.AtoiErrFast
import Derived.Shelf.Strconv.ParseIntEmpty
import Derived.Shelf.Strconv.AtoiFail
import Derived.Shelf.Strconv.Clone
import Derived.Shelf.Strconv.SyntaxError
import Derived.Shelf.LaysC
import Derived.Shelf.Strconv.ToError
import Derived.Shelf.Strconv.Lower
import Derived.Shelf.Strconv.ParseUint10
import Derived.Shelf.Strconv.ParseUint10Empty
import Derived.Shelf.Strconv.ParseUint10Any
import Derived.Shelf.Strconv.ParseInt10
import Derived.Shelf.Strconv.AtoiLong
import Derived.Shelf.Strconv.AtoiInnerAll
import Derived.Shelf.Strconv.RangeError
import Derived.Shelf.Strconv.ToErrorRange
import Derived.Shelf.Strconv.AtoiAll
import Derived.Shelf.Strings.Search1
import Derived.Shelf.Strings.Search2
import Derived.Shelf.Strings.Search3
import Derived.Shelf.Strings.Cut
import Derived.Shelf.Strings.Count
import Derived.Shelf.Strings.Shaped
import Derived.Shelf.Strings.LastIndex
import Derived.Shelf.Strings.Prefix
import Derived.Shelf.Strings.Split
import Derived.Shelf.Strings.Replace
import Derived.Shelf.Strings.SplitShaped
import Derived.Shelf.Unicode.Latin
import Derived.Shelf.Unicode.Decode
import Derived.Shelf.Strings.Runes
import Derived.Shelf.Strings.RuneCount
import Derived.Shelf.Strings.AsciiSet
import Derived.Shelf.Unicode.DecodeSlow
import Derived.Shelf.Unicode.DecodeAny
import Derived.Shelf.Unicode.DecodeLast
import Derived.Shelf.Unicode.CaseLookup
import Derived.Shelf.Unicode.CaseConvert
import Derived.Shelf.Unicode.CaseTo
import Derived.Shelf.Unicode.CaseLaid
set_option maxRecDepth 10000
namespace Go.Iron.Tryz
open Go.Proofs
instance globs : Globs := ⟨[(0, fun cs => ∃ m : Int, cs = #[.int .i64 m]), (3, fun cs => cs = (Lib.pow10Tab.map fun z => Value.int .u64 z).toArray)]⟩
def inf : TI where
  ty := [(1, 1, false), (3, 1, false), (4, 1, false), (5, 1, false), (9, 1, false), (20, 1, false), (21, 1, false), (23, 1, false), (29, 3, true), (31, 6, true), (33, 4, true), (37, 1, false), (39, 1, false), (47, 1, false), (52, 3, true), (55, 1, false), (57, 3, true), (59, 1, true), (61, 1, true), (62, 128, true), (73, 1, false), (81, 1, false), (95, 1, false), (97, 1, false), (112, 1, false), (114, 2, true), (144, 1, false), (157, 1, false)]
  el := [(39, 29), (47, 3), (95, 5), (97, 9)]
  fld := [(29, [(0, 3), (1, 9), (2, 3)]), (31, [(0, 3), (1, 3), (2, 3), (3, 3), (4, 4), (5, 9)]), (33, [(0, 3), (1, 3), (2, 3), (3, 9)]), (52, [(0, 4), (1, 47), (2, 47)]), (57, [(0, 9), (1, 3), (2, 39)]), (59, [(0, 3)]), (61, [(0, 1)]), (114, [(0, 112), (1, 95)])]
  zero := [(1, [.val (.nilFunc)], 8), (3, [.val (.int .i64 0)], 8), (4, [.val (.bool false)], 1), (5, [.val (.int .u8 0)], 1), (9, [.val (.string ⟨#[]⟩)], 16), (20, [.val (.nilIface)], 16), (21, [.val (.int .i32 0)], 4), (23, [.val (.int .i64 0)], 8), (29, [.val (.int .i64 0), .val (.string ⟨#[]⟩), .val (.int .i64 0)], 32), (31, [.val (.int .i64 0), .val (.int .i64 0), .val (.int .i64 0), .val (.int .i64 0), .val (.bool false), .val (.string ⟨#[]⟩)], 56), (33, [.val (.int .i64 0), .val (.int .i64 0), .val (.int .i64 0), .val (.string ⟨#[]⟩)], 40), (37, [.val (.nilFunc)], 8), (39, [.val (.slice none 0 0)], 24), (47, [.val (.slice none 0 0)], 24), (52, [.val (.bool false), .val (.slice none 0 0), .val (.slice none 0 0)], 56), (55, [.val (.pointer none)], 8), (57, [.val (.string ⟨#[]⟩), .val (.int .i64 0), .val (.slice none 0 0)], 48), (59, [.val (.int .i64 0)], 8), (61, [.val (.nilFunc)], 8), (62, [.val (.nilFunc), .val (.nilFunc), .val (.nilFunc), .val (.nilFunc), .val (.nilFunc), .val (.nilFunc), .val (.nilFunc), .val (.nilFunc), .val (.nilFunc), .val (.nilFunc), .val (.nilFunc), .val (.nilFunc), .val (.nilFunc), .val (.nilFunc), .val (.nilFunc), .val (.nilFunc), .val (.nilFunc), .val (.nilFunc), .val (.nilFunc), .val (.nilFunc), .val (.nilFunc), .val (.nilFunc), .val (.nilFunc), .val (.nilFunc), .val (.nilFunc), .val (.nilFunc), .val (.nilFunc), .val (.nilFunc), .val (.nilFunc), .val (.nilFunc), .val (.nilFunc), .val (.nilFunc), .val (.nilFunc), .val (.nilFunc), .val (.nilFunc), .val (.nilFunc), .val (.nilFunc), .val (.nilFunc), .val (.nilFunc), .val (.nilFunc), .val (.nilFunc), .val (.nilFunc), .val (.nilFunc), .val (.nilFunc), .val (.nilFunc), .val (.nilFunc), .val (.nilFunc), .val (.nilFunc), .val (.nilFunc), .val (.nilFunc), .val (.nilFunc), .val (.nilFunc), .val (.nilFunc), .val (.nilFunc), .val (.nilFunc), .val (.nilFunc), .val (.nilFunc), .val (.nilFunc), .val (.nilFunc), .val (.nilFunc), .val (.nilFunc), .val (.nilFunc), .val (.nilFunc), .val (.nilFunc), .val (.nilFunc), .val (.nilFunc), .val (.nilFunc), .val (.nilFunc), .val (.nilFunc), .val (.nilFunc), .val (.nilFunc), .val (.nilFunc), .val (.nilFunc), .val (.nilFunc), .val (.nilFunc), .val (.nilFunc), .val (.nilFunc), .val (.nilFunc), .val (.nilFunc), .val (.nilFunc), .val (.nilFunc), .val (.nilFunc), .val (.nilFunc), .val (.nilFunc), .val (.nilFunc), .val (.nilFunc), .val (.nilFunc), .val (.nilFunc), .val (.nilFunc), .val (.nilFunc), .val (.nilFunc), .val (.nilFunc), .val (.nilFunc), .val (.nilFunc), .val (.nilFunc), .val (.nilFunc), .val (.nilFunc), .val (.nilFunc), .val (.nilFunc), .val (.nilFunc), .val (.nilFunc), .val (.nilFunc), .val (.nilFunc), .val (.nilFunc), .val (.nilFunc), .val (.nilFunc), .val (.nilFunc), .val (.nilFunc), .val (.nilFunc), .val (.nilFunc), .val (.nilFunc), .val (.nilFunc), .val (.nilFunc), .val (.nilFunc), .val (.nilFunc), .val (.nilFunc), .val (.nilFunc), .val (.nilFunc), .val (.nilFunc), .val (.nilFunc), .val (.nilFunc), .val (.nilFunc), .val (.nilFunc), .val (.nilFunc), .val (.nilFunc), .val (.nilFunc), .val (.nilFunc), .val (.nilFunc)], 1024), (73, [.val (.nilIface)], 16), (81, [.val (.nilFunc)], 8), (95, [.val (.slice none 0 0)], 24), (97, [.val (.slice none 0 0)], 24), (112, [.val (.pointer none)], 8), (114, [.val (.pointer none), .val (.slice none 0 0)], 32), (144, [.val (.pointer none)], 8), (157, [.val (.pointer none)], 8)]
  bools := [(4, ())]
  conc := [(1, ()), (3, ()), (4, ()), (5, ()), (9, ()), (21, ()), (23, ()), (29, ()), (31, ()), (33, ()), (37, ()), (39, ()), (47, ()), (52, ()), (55, ()), (57, ()), (59, ()), (61, ()), (62, ()), (81, ()), (95, ()), (97, ()), (112, ()), (114, ()), (144, ()), (157, ())]
  pl := [(29, [(0, 1), (1, 1), (2, 1)]), (31, [(0, 1), (1, 1), (2, 1), (3, 1), (4, 1), (5, 1)]), (33, [(0, 1), (1, 1), (2, 1), (3, 1)]), (52, [(0, 1), (1, 1), (2, 1)]), (57, [(0, 1), (1, 1), (2, 1)]), (59, [(0, 1)]), (61, [(0, 1)]), (114, [(0, 1), (1, 1)])]
  eqs := [(3, .int), (4, .bool), (5, .int), (9, .str), (23, .int), (31, .struct [(0, 3), (1, 3), (2, 3), (3, 3), (4, 4), (5, 9)]), (33, .struct [(0, 3), (1, 3), (2, 3), (3, 9)])]
theorem inf_ty : AllL (fun p : Nat × Nat × Bool => Ty Tryz.prog p.1 p.2.1 p.2.2) inf.ty := .cons (⟨by kernel_rfl, by kernel_rfl⟩) <| .cons (⟨by kernel_rfl, by kernel_rfl⟩) <| .cons (⟨by kernel_rfl, by kernel_rfl⟩) <| .cons (⟨by kernel_rfl, by kernel_rfl⟩) <| .cons (⟨by kernel_rfl, by kernel_rfl⟩) <| .cons (⟨by kernel_rfl, by kernel_rfl⟩) <| .cons (⟨by kernel_rfl, by kernel_rfl⟩) <| .cons (⟨by kernel_rfl, by kernel_rfl⟩) <| .cons (⟨by kernel_rfl, by kernel_rfl⟩) <| .cons (⟨by kernel_rfl, by kernel_rfl⟩) <| .cons (⟨by kernel_rfl, by kernel_rfl⟩) <| .cons (⟨by kernel_rfl, by kernel_rfl⟩) <| .cons (⟨by kernel_rfl, by kernel_rfl⟩) <| .cons (⟨by kernel_rfl, by kernel_rfl⟩) <| .cons (⟨by kernel_rfl, by kernel_rfl⟩) <| .cons (⟨by kernel_rfl, by kernel_rfl⟩) <| .cons (⟨by kernel_rfl, by kernel_rfl⟩) <| .cons (⟨by kernel_rfl, by kernel_rfl⟩) <| .cons (⟨by kernel_rfl, by kernel_rfl⟩) <| .cons (⟨by kernel_rfl, by kernel_rfl⟩) <| .cons (⟨by kernel_rfl, by kernel_rfl⟩) <| .cons (⟨by kernel_rfl, by kernel_rfl⟩) <| .cons (⟨by kernel_rfl, by kernel_rfl⟩) <| .cons (⟨by kernel_rfl, by kernel_rfl⟩) <| .cons (⟨by kernel_rfl, by kernel_rfl⟩) <| .cons (⟨by kernel_rfl, by kernel_rfl⟩) <| .cons (⟨by kernel_rfl, by kernel_rfl⟩) <| .cons (⟨by kernel_rfl, by kernel_rfl⟩) <| .nil
theorem inf_el : AllL (fun p : Nat × Nat => ElT Tryz.prog p.1 p.2) inf.el := .cons (⟨Tryz.underlying39⟩) <| .cons (⟨Tryz.underlying47⟩) <| .cons (⟨Tryz.underlying95⟩) <| .cons (⟨Tryz.underlying97⟩) <| .nil
theorem inf_fld : AllL (fun p : Nat × List (Nat × Nat) => ∀ j off ft, nth p.2 j = some (off, ft) → FldT Tryz.prog p.1 j off ft) inf.fld := .cons (fldAll ⟨_, Tryz.underlying29, rfl⟩) <| .cons (fldAll ⟨_, Tryz.underlying31, rfl⟩) <| .cons (fldAll ⟨_, Tryz.underlying33, rfl⟩) <| .cons (fldAll ⟨_, Tryz.underlying52, rfl⟩) <| .cons (fldAll ⟨_, Tryz.underlying57, rfl⟩) <| .cons (fldAll ⟨_, Tryz.underlying59, rfl⟩) <| .cons (fldAll ⟨_, Tryz.underlying61, rfl⟩) <| .cons (fldAll ⟨_, Tryz.underlying114, rfl⟩) <| .nil
theorem inf_zero : AllL (fun p : Nat × List AV × Nat => ZeroT Tryz.prog p.1 p.2.1 p.2.2) inf.zero := .cons (⟨⟨.nilFunc, by kernel_rfl, rfl, rfl, rfl, rfl⟩⟩) <| .cons (⟨⟨.int .i64 0, by kernel_rfl, rfl, rfl, rfl, rfl⟩⟩) <| .cons (⟨⟨.bool false, by kernel_rfl, rfl, rfl, rfl, rfl⟩⟩) <| .cons (⟨⟨.int .u8 0, by kernel_rfl, rfl, rfl, rfl, rfl⟩⟩) <| .cons (⟨⟨.string ⟨#[]⟩, by kernel_rfl, rfl, rfl, rfl, rfl⟩⟩) <| .cons (⟨⟨.nilIface, by kernel_rfl, rfl, rfl, rfl, rfl⟩⟩) <| .cons (⟨⟨.int .i32 0, by kernel_rfl, rfl, rfl, rfl, rfl⟩⟩) <| .cons (⟨⟨.int .i64 0, by kernel_rfl, rfl, rfl, rfl, rfl⟩⟩) <| .cons (⟨⟨.agg #[(.int .i64 0), (.string ⟨#[]⟩), (.int .i64 0)], by kernel_rfl, rfl, rfl, rfl, rfl⟩⟩) <| .cons (⟨⟨.agg #[(.int .i64 0), (.int .i64 0), (.int .i64 0), (.int .i64 0), (.bool false), (.string ⟨#[]⟩)], by kernel_rfl, rfl, rfl, rfl, rfl⟩⟩) <| .cons (⟨⟨.agg #[(.int .i64 0), (.int .i64 0), (.int .i64 0), (.string ⟨#[]⟩)], by kernel_rfl, rfl, rfl, rfl, rfl⟩⟩) <| .cons (⟨⟨.nilFunc, by kernel_rfl, rfl, rfl, rfl, rfl⟩⟩) <| .cons (⟨⟨.slice none 0 0, by kernel_rfl, rfl, rfl, rfl, rfl⟩⟩) <| .cons (⟨⟨.slice none 0 0, by kernel_rfl, rfl, rfl, rfl, rfl⟩⟩) <| .cons (⟨⟨.agg #[(.bool false), (.slice none 0 0), (.slice none 0 0)], by kernel_rfl, rfl, rfl, rfl, rfl⟩⟩) <| .cons (⟨⟨.pointer none, by kernel_rfl, rfl, rfl, rfl, rfl⟩⟩) <| .cons (⟨⟨.agg #[(.string ⟨#[]⟩), (.int .i64 0), (.slice none 0 0)], by kernel_rfl, rfl, rfl, rfl, rfl⟩⟩) <| .cons (⟨⟨.agg #[(.int .i64 0)], by kernel_rfl, rfl, rfl, rfl, rfl⟩⟩) <| .cons (⟨⟨.agg #[(.nilFunc)], by kernel_rfl, rfl, rfl, rfl, rfl⟩⟩) <| .cons (⟨⟨.agg #[(.nilFunc), (.nilFunc), (.nilFunc), (.nilFunc), (.nilFunc), (.nilFunc), (.nilFunc), (.nilFunc), (.nilFunc), (.nilFunc), (.nilFunc), (.nilFunc), (.nilFunc), (.nilFunc), (.nilFunc), (.nilFunc), (.nilFunc), (.nilFunc), (.nilFunc), (.nilFunc), (.nilFunc), (.nilFunc), (.nilFunc), (.nilFunc), (.nilFunc), (.nilFunc), (.nilFunc), (.nilFunc), (.nilFunc), (.nilFunc), (.nilFunc), (.nilFunc), (.nilFunc), (.nilFunc), (.nilFunc), (.nilFunc), (.nilFunc), (.nilFunc), (.nilFunc), (.nilFunc), (.nilFunc), (.nilFunc), (.nilFunc), (.nilFunc), (.nilFunc), (.nilFunc), (.nilFunc), (.nilFunc), (.nilFunc), (.nilFunc), (.nilFunc), (.nilFunc), (.nilFunc), (.nilFunc), (.nilFunc), (.nilFunc), (.nilFunc), (.nilFunc), (.nilFunc), (.nilFunc), (.nilFunc), (.nilFunc), (.nilFunc), (.nilFunc), (.nilFunc), (.nilFunc), (.nilFunc), (.nilFunc), (.nilFunc), (.nilFunc), (.nilFunc), (.nilFunc), (.nilFunc), (.nilFunc), (.nilFunc), (.nilFunc), (.nilFunc), (.nilFunc), (.nilFunc), (.nilFunc), (.nilFunc), (.nilFunc), (.nilFunc), (.nilFunc), (.nilFunc), (.nilFunc), (.nilFunc), (.nilFunc), (.nilFunc), (.nilFunc), (.nilFunc), (.nilFunc), (.nilFunc), (.nilFunc), (.nilFunc), (.nilFunc), (.nilFunc), (.nilFunc), (.nilFunc), (.nilFunc), (.nilFunc), (.nilFunc), (.nilFunc), (.nilFunc), (.nilFunc), (.nilFunc), (.nilFunc), (.nilFunc), (.nilFunc), (.nilFunc), (.nilFunc), (.nilFunc), (.nilFunc), (.nilFunc), (.nilFunc), (.nilFunc), (.nilFunc), (.nilFunc), (.nilFunc), (.nilFunc), (.nilFunc), (.nilFunc), (.nilFunc), (.nilFunc), (.nilFunc), (.nilFunc), (.nilFunc), (.nilFunc)], by kernel_rfl, rfl, rfl, rfl, rfl⟩⟩) <| .cons (⟨⟨.nilIface, by kernel_rfl, rfl, rfl, rfl, rfl⟩⟩) <| .cons (⟨⟨.nilFunc, by kernel_rfl, rfl, rfl, rfl, rfl⟩⟩) <| .cons (⟨⟨.slice none 0 0, by kernel_rfl, rfl, rfl, rfl, rfl⟩⟩) <| .cons (⟨⟨.slice none 0 0, by kernel_rfl, rfl, rfl, rfl, rfl⟩⟩) <| .cons (⟨⟨.pointer none, by kernel_rfl, rfl, rfl, rfl, rfl⟩⟩) <| .cons (⟨⟨.agg #[(.pointer none), (.slice none 0 0)], by kernel_rfl, rfl, rfl, rfl, rfl⟩⟩) <| .cons (⟨⟨.pointer none, by kernel_rfl, rfl, rfl, rfl, rfl⟩⟩) <| .cons (⟨⟨.pointer none, by kernel_rfl, rfl, rfl, rfl, rfl⟩⟩) <| .nil
theorem inf_bools : AllL (fun p : Nat × Unit => (Tryz.prog).underlying p.1 = some .bool) inf.bools := .cons (Tryz.underlying4) <| .nil
theorem inf_conc : AllL (fun p : Nat × Unit => ConT Tryz.prog p.1) inf.conc := .cons (⟨by kernel_rfl⟩) <| .cons (⟨by kernel_rfl⟩) <| .cons (⟨by kernel_rfl⟩) <| .cons (⟨by kernel_rfl⟩) <| .cons (⟨by kernel_rfl⟩) <| .cons (⟨by kernel_rfl⟩) <| .cons (⟨by kernel_rfl⟩) <| .cons (⟨by kernel_rfl⟩) <| .cons (⟨by kernel_rfl⟩) <| .cons (⟨by kernel_rfl⟩) <| .cons (⟨by kernel_rfl⟩) <| .cons (⟨by kernel_rfl⟩) <| .cons (⟨by kernel_rfl⟩) <| .cons (⟨by kernel_rfl⟩) <| .cons (⟨by kernel_rfl⟩) <| .cons (⟨by kernel_rfl⟩) <| .cons (⟨by kernel_rfl⟩) <| .cons (⟨by kernel_rfl⟩) <| .cons (⟨by kernel_rfl⟩) <| .cons (⟨by kernel_rfl⟩) <| .cons (⟨by kernel_rfl⟩) <| .cons (⟨by kernel_rfl⟩) <| .cons (⟨by kernel_rfl⟩) <| .cons (⟨by kernel_rfl⟩) <| .cons (⟨by kernel_rfl⟩) <| .cons (⟨by kernel_rfl⟩) <| .nil
theorem inf_pl : AllL (fun p : Nat × List (Nat × Nat) => StrT Tryz.prog p.1 p.2) inf.pl := .cons (⟨⟨_, Tryz.underlying29, by kernel_rfl⟩⟩) <| .cons (⟨⟨_, Tryz.underlying31, by kernel_rfl⟩⟩) <| .cons (⟨⟨_, Tryz.underlying33, by kernel_rfl⟩⟩) <| .cons (⟨⟨_, Tryz.underlying52, by kernel_rfl⟩⟩) <| .cons (⟨⟨_, Tryz.underlying57, by kernel_rfl⟩⟩) <| .cons (⟨⟨_, Tryz.underlying59, by kernel_rfl⟩⟩) <| .cons (⟨⟨_, Tryz.underlying61, by kernel_rfl⟩⟩) <| .cons (⟨⟨_, Tryz.underlying114, by kernel_rfl⟩⟩) <| .nil
theorem inf_eqs : AllL (fun p : Nat × EK => EqK Tryz.prog p.1 p.2) inf.eqs := .cons (⟨_, Tryz.underlying3⟩) <| .cons (Tryz.underlying4) <| .cons (⟨_, Tryz.underlying5⟩) <| .cons (Tryz.underlying9) <| .cons (⟨_, Tryz.underlying23⟩) <| .cons (⟨⟨_, Tryz.underlying31, rfl, by kernel_rfl⟩, by kernel_rfl, by kernel_rfl⟩) <| .cons (⟨⟨_, Tryz.underlying33, rfl, by kernel_rfl⟩, by kernel_rfl, by kernel_rfl⟩) <| .nil
instance infI : Inf Tryz.prog inf := ⟨inf_ty, inf_el, inf_fld, inf_zero, inf_bools, inf_conc, inf_pl, inf_eqs⟩
instance fun3 : Fun Tryz.prog 3 Tryz.f3 (bodyOf Tryz.f3) := ⟨Tryz.func3, rfl, by kernel_rfl⟩
instance fun4 : Fun Tryz.prog 4 Tryz.f4 (bodyOf Tryz.f4) := ⟨Tryz.func4, rfl, by kernel_rfl⟩
instance fun5 : Fun Tryz.prog 5 Tryz.f5 (bodyOf Tryz.f5) := ⟨Tryz.func5, rfl, by kernel_rfl⟩
instance fun6 : Fun Tryz.prog 6 Tryz.f6 (bodyOf Tryz.f6) := ⟨Tryz.func6, rfl, by kernel_rfl⟩
instance fun7 : Fun Tryz.prog 7 Tryz.f7 (bodyOf Tryz.f7) := ⟨Tryz.func7, rfl, by kernel_rfl⟩
instance fun8 : Fun Tryz.prog 8 Tryz.f8 (bodyOf Tryz.f8) := ⟨Tryz.func8, rfl, by kernel_rfl⟩
instance fun9 : Fun Tryz.prog 9 Tryz.f9 (bodyOf Tryz.f9) := ⟨Tryz.func9, rfl, by kernel_rfl⟩
instance fun10 : Fun Tryz.prog 10 Tryz.f10 (bodyOf Tryz.f10) := ⟨Tryz.func10, rfl, by kernel_rfl⟩
instance fun11 : Fun Tryz.prog 11 Tryz.f11 (bodyOf Tryz.f11) := ⟨Tryz.func11, rfl, by kernel_rfl⟩
instance fun12 : Fun Tryz.prog 12 Tryz.f12 (bodyOf Tryz.f12) := ⟨Tryz.func12, rfl, by kernel_rfl⟩
instance fun13 : Fun Tryz.prog 13 Tryz.f13 (bodyOf Tryz.f13) := ⟨Tryz.func13, rfl, by kernel_rfl⟩
instance fun14 : Fun Tryz.prog 14 Tryz.f14 (bodyOf Tryz.f14) := ⟨Tryz.func14, rfl, by kernel_rfl⟩
instance fun15 : Fun Tryz.prog 15 Tryz.f15 (bodyOf Tryz.f15) := ⟨Tryz.func15, rfl, by kernel_rfl⟩
instance fun16 : Fun Tryz.prog 16 Tryz.f16 (bodyOf Tryz.f16) := ⟨Tryz.func16, rfl, by kernel_rfl⟩
instance fun17 : Fun Tryz.prog 17 Tryz.f17 (bodyOf Tryz.f17) := ⟨Tryz.func17, rfl, by kernel_rfl⟩
instance fun18 : Fun Tryz.prog 18 Tryz.f18 (bodyOf Tryz.f18) := ⟨Tryz.func18, rfl, by kernel_rfl⟩
instance fun19 : Fun Tryz.prog 19 Tryz.f19 (bodyOf Tryz.f19) := ⟨Tryz.func19, rfl, by kernel_rfl⟩
instance fun20 : Fun Tryz.prog 20 Tryz.f20 (bodyOf Tryz.f20) := ⟨Tryz.func20, rfl, by kernel_rfl⟩
instance fun21 : Fun Tryz.prog 21 Tryz.f21 (bodyOf Tryz.f21) := ⟨Tryz.func21, rfl, by kernel_rfl⟩
instance fun22 : Fun Tryz.prog 22 Tryz.f22 (bodyOf Tryz.f22) := ⟨Tryz.func22, rfl, by kernel_rfl⟩
instance fun23 : Fun Tryz.prog 23 Tryz.f23 (bodyOf Tryz.f23) := ⟨Tryz.func23, rfl, by kernel_rfl⟩
instance fun24 : Fun Tryz.prog 24 Tryz.f24 (bodyOf Tryz.f24) := ⟨Tryz.func24, rfl, by kernel_rfl⟩
instance fun25 : Fun Tryz.prog 25 Tryz.f25 (bodyOf Tryz.f25) := ⟨Tryz.func25, rfl, by kernel_rfl⟩
instance fun26 : Fun Tryz.prog 26 Tryz.f26 (bodyOf Tryz.f26) := ⟨Tryz.func26, rfl, by kernel_rfl⟩
instance fun27 : Fun Tryz.prog 27 Tryz.f27 (bodyOf Tryz.f27) := ⟨Tryz.func27, rfl, by kernel_rfl⟩
instance fun28 : Fun Tryz.prog 28 Tryz.f28 (bodyOf Tryz.f28) := ⟨Tryz.func28, rfl, by kernel_rfl⟩
instance fun33 : Fun Tryz.prog 33 Tryz.f33 (bodyOf Tryz.f33) := ⟨Tryz.func33, rfl, by kernel_rfl⟩
instance fun34 : Fun Tryz.prog 34 Tryz.f34 (bodyOf Tryz.f34) := ⟨Tryz.func34, rfl, by kernel_rfl⟩
instance fun35 : Fun Tryz.prog 35 Tryz.f35 (bodyOf Tryz.f35) := ⟨Tryz.func35, rfl, by kernel_rfl⟩
instance fun36 : Fun Tryz.prog 36 Tryz.f36 (bodyOf Tryz.f36) := ⟨Tryz.func36, rfl, by kernel_rfl⟩
instance fun37 : Fun Tryz.prog 37 Tryz.f37 (bodyOf Tryz.f37) := ⟨Tryz.func37, rfl, by kernel_rfl⟩
instance fun38 : Fun Tryz.prog 38 Tryz.f38 (bodyOf Tryz.f38) := ⟨Tryz.func38, rfl, by kernel_rfl⟩
instance fun39 : Fun Tryz.prog 39 Tryz.f39 (bodyOf Tryz.f39) := ⟨Tryz.func39, rfl, by kernel_rfl⟩
instance fun40 : Fun Tryz.prog 40 Tryz.f40 (bodyOf Tryz.f40) := ⟨Tryz.func40, rfl, by kernel_rfl⟩
instance fun41 : Fun Tryz.prog 41 Tryz.f41 (bodyOf Tryz.f41) := ⟨Tryz.func41, rfl, by kernel_rfl⟩
instance fun42 : Fun Tryz.prog 42 Tryz.f42 (bodyOf Tryz.f42) := ⟨Tryz.func42, rfl, by kernel_rfl⟩
instance fun43 : Fun Tryz.prog 43 Tryz.f43 (bodyOf Tryz.f43) := ⟨Tryz.func43, rfl, by kernel_rfl⟩
instance fun44 : Fun Tryz.prog 44 Tryz.f44 (bodyOf Tryz.f44) := ⟨Tryz.func44, rfl, by kernel_rfl⟩
instance fun45 : Fun Tryz.prog 45 Tryz.f45 (bodyOf Tryz.f45) := ⟨Tryz.func45, rfl, by kernel_rfl⟩
instance fun46 : Fun Tryz.prog 46 Tryz.f46 (bodyOf Tryz.f46) := ⟨Tryz.func46, rfl, by kernel_rfl⟩
instance fun47 : Fun Tryz.prog 47 Tryz.f47 (bodyOf Tryz.f47) := ⟨Tryz.func47, rfl, by kernel_rfl⟩
instance fun48 : Fun Tryz.prog 48 Tryz.f48 (bodyOf Tryz.f48) := ⟨Tryz.func48, rfl, by kernel_rfl⟩
instance fun49 : Fun Tryz.prog 49 Tryz.f49 (bodyOf Tryz.f49) := ⟨Tryz.func49, rfl, by kernel_rfl⟩
instance fun50 : Fun Tryz.prog 50 Tryz.f50 (bodyOf Tryz.f50) := ⟨Tryz.func50, rfl, by kernel_rfl⟩
instance fun51 : Fun Tryz.prog 51 Tryz.f51 (bodyOf Tryz.f51) := ⟨Tryz.func51, rfl, by kernel_rfl⟩
instance fun52 : Fun Tryz.prog 52 Tryz.f52 (bodyOf Tryz.f52) := ⟨Tryz.func52, rfl, by kernel_rfl⟩
instance fun54 : Fun Tryz.prog 54 Tryz.f54 (bodyOf Tryz.f54) := ⟨Tryz.func54, rfl, by kernel_rfl⟩
instance fun55 : Fun Tryz.prog 55 Tryz.f55 (bodyOf Tryz.f55) := ⟨Tryz.func55, rfl, by kernel_rfl⟩
instance fun56 : Fun Tryz.prog 56 Tryz.f56 (bodyOf Tryz.f56) := ⟨Tryz.func56, rfl, by kernel_rfl⟩
instance fun57 : Fun Tryz.prog 57 Tryz.f57 (bodyOf Tryz.f57) := ⟨Tryz.func57, rfl, by kernel_rfl⟩
instance fun58 : Fun Tryz.prog 58 Tryz.f58 (bodyOf Tryz.f58) := ⟨Tryz.func58, rfl, by kernel_rfl⟩
instance fun64 : Fun Tryz.prog 64 Tryz.f64 (bodyOf Tryz.f64) := ⟨Tryz.func64, rfl, by kernel_rfl⟩
instance fun65 : Fun Tryz.prog 65 Tryz.f65 (bodyOf Tryz.f65) := ⟨Tryz.func65, rfl, by kernel_rfl⟩
instance fun66 : Fun Tryz.prog 66 Tryz.f66 (bodyOf Tryz.f66) := ⟨Tryz.func66, rfl, by kernel_rfl⟩
instance fun67 : Fun Tryz.prog 67 Tryz.f67 (bodyOf Tryz.f67) := ⟨Tryz.func67, rfl, by kernel_rfl⟩
instance fun68 : Fun Tryz.prog 68 Tryz.f68 (bodyOf Tryz.f68) := ⟨Tryz.func68, rfl, by kernel_rfl⟩
instance fun69 : Fun Tryz.prog 69 Tryz.f69 (bodyOf Tryz.f69) := ⟨Tryz.func69, rfl, by kernel_rfl⟩
instance fun70 : Fun Tryz.prog 70 Tryz.f70 (bodyOf Tryz.f70) := ⟨Tryz.func70, rfl, by kernel_rfl⟩
instance fun71 : Fun Tryz.prog 71 Tryz.f71 (bodyOf Tryz.f71) := ⟨Tryz.func71, rfl, by kernel_rfl⟩
instance fun72 : Fun Tryz.prog 72 Tryz.f72 (bodyOf Tryz.f72) := ⟨Tryz.func72, rfl, by kernel_rfl⟩
instance fun73 : Fun Tryz.prog 73 Tryz.f73 (bodyOf Tryz.f73) := ⟨Tryz.func73, rfl, by kernel_rfl⟩
instance fun74 : Fun Tryz.prog 74 Tryz.f74 (bodyOf Tryz.f74) := ⟨Tryz.func74, rfl, by kernel_rfl⟩
instance fun75 : Fun Tryz.prog 75 Tryz.f75 (bodyOf Tryz.f75) := ⟨Tryz.func75, rfl, by kernel_rfl⟩
instance fun81 : Fun Tryz.prog 81 Tryz.f81 (bodyOf Tryz.f81) := ⟨Tryz.func81, rfl, by kernel_rfl⟩
instance fun82 : Fun Tryz.prog 82 Tryz.f82 (bodyOf Tryz.f82) := ⟨Tryz.func82, rfl, by kernel_rfl⟩
instance fun83 : Fun Tryz.prog 83 Tryz.f83 (bodyOf Tryz.f83) := ⟨Tryz.func83, rfl, by kernel_rfl⟩
instance fun84 : Fun Tryz.prog 84 Tryz.f84 (bodyOf Tryz.f84) := ⟨Tryz.func84, rfl, by kernel_rfl⟩
instance fun85 : Fun Tryz.prog 85 Tryz.f85 (bodyOf Tryz.f85) := ⟨Tryz.func85, rfl, by kernel_rfl⟩
instance fun86 : Fun Tryz.prog 86 Tryz.f86 (bodyOf Tryz.f86) := ⟨Tryz.func86, rfl, by kernel_rfl⟩
instance fun87 : Fun Tryz.prog 87 Tryz.f87 (bodyOf Tryz.f87) := ⟨Tryz.func87, rfl, by kernel_rfl⟩
instance fun88 : Fun Tryz.prog 88 Tryz.f88 (bodyOf Tryz.f88) := ⟨Tryz.func88, rfl, by kernel_rfl⟩
instance fun89 : Fun Tryz.prog 89 Tryz.f89 (bodyOf Tryz.f89) := ⟨Tryz.func89, rfl, by kernel_rfl⟩
instance fun90 : Fun Tryz.prog 90 Tryz.f90 (bodyOf Tryz.f90) := ⟨Tryz.func90, rfl, by kernel_rfl⟩
instance fun98 : Fun Tryz.prog 98 Tryz.f98 (bodyOf Tryz.f98) := ⟨Tryz.func98, rfl, by kernel_rfl⟩
instance fun99 : Fun Tryz.prog 99 Tryz.f99 (bodyOf Tryz.f99) := ⟨Tryz.func99, rfl, by kernel_rfl⟩
instance fun100 : Fun Tryz.prog 100 Tryz.f100 (bodyOf Tryz.f100) := ⟨Tryz.func100, rfl, by kernel_rfl⟩
instance fun101 : Fun Tryz.prog 101 Tryz.f101 (bodyOf Tryz.f101) := ⟨Tryz.func101, rfl, by kernel_rfl⟩
instance fun111 : Fun Tryz.prog 111 Tryz.f111 (bodyOf Tryz.f111) := ⟨Tryz.func111, rfl, by kernel_rfl⟩
instance fun116 : Fun Tryz.prog 116 Tryz.f116 (bodyOf Tryz.f116) := ⟨Tryz.func116, rfl, by kernel_rfl⟩
instance fun124 : Fun Tryz.prog 124 Tryz.f124 (bodyOf Tryz.f124) := ⟨Tryz.func124, rfl, by kernel_rfl⟩
end Go.Iron.Tryz

/- Iron: this seat's further tables, by program (mkinf2.py). -/
set_option maxRecDepth 10000
namespace Go.Iron.Tryz
open Go.Proofs
noncomputable def jnf : TJ where
  ifs := [(20, ()), (72, ()), (73, ())]
  zv := [(59, .agg [.val (.int .i64 0)])]
  strs := [(9, ()), (10, ()), (11, ())]
  ints := [(2, .i64), (3, .i64), (5, .u8), (6, .u8), (12, .u64), (21, .i32), (23, .i64), (100, .u64), (105, .i64), (127, .u32), (133, .u64), (185, .u8), (186, .u8), (188, .i32), (189, .i32)]
  fns := [(3, Tryz.f3), (4, Tryz.f4), (5, Tryz.f5), (6, Tryz.f6), (7, Tryz.f7), (8, Tryz.f8), (9, Tryz.f9), (10, Tryz.f10), (11, Tryz.f11), (12, Tryz.f12), (13, Tryz.f13), (14, Tryz.f14), (17, Tryz.f17), (18, Tryz.f18), (19, Tryz.f19), (20, Tryz.f20), (21, Tryz.f21), (22, Tryz.f22), (23, Tryz.f23), (24, Tryz.f24), (25, Tryz.f25), (26, Tryz.f26), (27, Tryz.f27), (28, Tryz.f28), (33, Tryz.f33), (34, Tryz.f34), (35, Tryz.f35), (37, Tryz.f37), (41, Tryz.f41), (42, Tryz.f42), (43, Tryz.f43), (44, Tryz.f44), (45, Tryz.f45), (46, Tryz.f46), (47, Tryz.f47), (48, Tryz.f48), (49, Tryz.f49), (50, Tryz.f50), (51, Tryz.f51), (52, Tryz.f52), (54, Tryz.f54), (55, Tryz.f55), (57, Tryz.f57), (58, Tryz.f58), (64, Tryz.f64), (65, Tryz.f65), (66, Tryz.f66), (67, Tryz.f67), (68, Tryz.f68), (70, Tryz.f70), (72, Tryz.f72), (73, Tryz.f73), (74, Tryz.f74), (81, Tryz.f81), (82, Tryz.f82), (83, Tryz.f83), (84, Tryz.f84), (85, Tryz.f85), (86, Tryz.f86), (87, Tryz.f87), (88, Tryz.f88), (89, Tryz.f89), (90, Tryz.f90), (98, Tryz.f98), (99, Tryz.f99), (100, Tryz.f100), (101, Tryz.f101), (116, Tryz.f116), (124, Tryz.f124)]
  dr := [(10, [(5, 8), (7, 8)]), (11, [(4, 8), (6, 8), (40, 9), (45, 3), (46, 6), (54, 3)]), (12, [(6, 4), (9, 5)]), (17, [(1, 8)]), (18, [(13, 40)]), (19, [(15, 3), (18, 6), (21, 3)]), (20, [(14, 5)]), (24, [(8, 8), (10, 8)]), (27, [(7, 3)]), (37, [(10, 7)]), (46, [(4, 13)]), (48, [(5, 9), (23, 13)]), (49, [(5, 9), (20, 7)]), (52, [(7, 10)]), (58, [(24, 6), (25, 9)]), (66, [(0, 23)]), (70, [(1, 11), (2, 10)]), (73, [(2, 9)]), (89, [(8, 7), (29, 7), (33, 11)]), (98, [(3, 12)]), (101, [(1, 10)])]
  maps := []
  arrs := [(62, 128, 61), (121, 256, 4), (122, 256, 4), (139, 24, 5), (154, 20, 133), (155, 65, 5), (165, 256, 5), (168, 16, 167), (174, 32, 5), (175, 64, 5), (176, 3, 21), (177, 3, 21), (182, 0, 16)]
theorem jnf_ifs : AllL (fun p : Nat × Unit => ∃ ms, (Tryz.prog).underlying p.1 = some (.interface ms)) jnf.ifs := .cons (⟨_, Tryz.underlying20⟩) <| .cons (⟨_, Tryz.underlying72⟩) <| .cons (⟨_, Tryz.underlying73⟩) <| .nil
theorem jnf_zv : AllL (fun p : Nat × AV => ZV Tryz.prog p.1 p.2) jnf.zv := .cons (⟨by kernel_rfl, .agg #[(.int .i64 0)], by kernel_rfl, rfl⟩) <| .nil
theorem jnf_strs : AllL (fun p : Nat × Unit => (Tryz.prog).underlying p.1 = some .string) jnf.strs := .cons (Tryz.underlying9) <| .cons (Tryz.underlying10) <| .cons (Tryz.underlying11) <| .nil
theorem jnf_ints : AllL (fun p : Nat × IntKind => (Tryz.prog).underlying p.1 = some (.int p.2)) jnf.ints := .cons (Tryz.underlying2) <| .cons (Tryz.underlying3) <| .cons (Tryz.underlying5) <| .cons (Tryz.underlying6) <| .cons (Tryz.underlying12) <| .cons (Tryz.underlying21) <| .cons (Tryz.underlying23) <| .cons (Tryz.underlying100) <| .cons (Tryz.underlying105) <| .cons (Tryz.underlying127) <| .cons (Tryz.underlying133) <| .cons (Tryz.underlying185) <| .cons (Tryz.underlying186) <| .cons (Tryz.underlying188) <| .cons (Tryz.underlying189) <| .nil
theorem jnf_fns : AllL (fun p : Nat × Func => (Tryz.prog).funcs[p.1]? = some p.2 ∧ p.2.body.isSome = true ∧ (p.2.name == "runtime.NumGoroutine") = false) jnf.fns := .cons (⟨Tryz.func3, rfl, by kernel_rfl⟩) <| .cons (⟨Tryz.func4, rfl, by kernel_rfl⟩) <| .cons (⟨Tryz.func5, rfl, by kernel_rfl⟩) <| .cons (⟨Tryz.func6, rfl, by kernel_rfl⟩) <| .cons (⟨Tryz.func7, rfl, by kernel_rfl⟩) <| .cons (⟨Tryz.func8, rfl, by kernel_rfl⟩) <| .cons (⟨Tryz.func9, rfl, by kernel_rfl⟩) <| .cons (⟨Tryz.func10, rfl, by kernel_rfl⟩) <| .cons (⟨Tryz.func11, rfl, by kernel_rfl⟩) <| .cons (⟨Tryz.func12, rfl, by kernel_rfl⟩) <| .cons (⟨Tryz.func13, rfl, by kernel_rfl⟩) <| .cons (⟨Tryz.func14, rfl, by kernel_rfl⟩) <| .cons (⟨Tryz.func17, rfl, by kernel_rfl⟩) <| .cons (⟨Tryz.func18, rfl, by kernel_rfl⟩) <| .cons (⟨Tryz.func19, rfl, by kernel_rfl⟩) <| .cons (⟨Tryz.func20, rfl, by kernel_rfl⟩) <| .cons (⟨Tryz.func21, rfl, by kernel_rfl⟩) <| .cons (⟨Tryz.func22, rfl, by kernel_rfl⟩) <| .cons (⟨Tryz.func23, rfl, by kernel_rfl⟩) <| .cons (⟨Tryz.func24, rfl, by kernel_rfl⟩) <| .cons (⟨Tryz.func25, rfl, by kernel_rfl⟩) <| .cons (⟨Tryz.func26, rfl, by kernel_rfl⟩) <| .cons (⟨Tryz.func27, rfl, by kernel_rfl⟩) <| .cons (⟨Tryz.func28, rfl, by kernel_rfl⟩) <| .cons (⟨Tryz.func33, rfl, by kernel_rfl⟩) <| .cons (⟨Tryz.func34, rfl, by kernel_rfl⟩) <| .cons (⟨Tryz.func35, rfl, by kernel_rfl⟩) <| .cons (⟨Tryz.func37, rfl, by kernel_rfl⟩) <| .cons (⟨Tryz.func41, rfl, by kernel_rfl⟩) <| .cons (⟨Tryz.func42, rfl, by kernel_rfl⟩) <| .cons (⟨Tryz.func43, rfl, by kernel_rfl⟩) <| .cons (⟨Tryz.func44, rfl, by kernel_rfl⟩) <| .cons (⟨Tryz.func45, rfl, by kernel_rfl⟩) <| .cons (⟨Tryz.func46, rfl, by kernel_rfl⟩) <| .cons (⟨Tryz.func47, rfl, by kernel_rfl⟩) <| .cons (⟨Tryz.func48, rfl, by kernel_rfl⟩) <| .cons (⟨Tryz.func49, rfl, by kernel_rfl⟩) <| .cons (⟨Tryz.func50, rfl, by kernel_rfl⟩) <| .cons (⟨Tryz.func51, rfl, by kernel_rfl⟩) <| .cons (⟨Tryz.func52, rfl, by kernel_rfl⟩) <| .cons (⟨Tryz.func54, rfl, by kernel_rfl⟩) <| .cons (⟨Tryz.func55, rfl, by kernel_rfl⟩) <| .cons (⟨Tryz.func57, rfl, by kernel_rfl⟩) <| .cons (⟨Tryz.func58, rfl, by kernel_rfl⟩) <| .cons (⟨Tryz.func64, rfl, by kernel_rfl⟩) <| .cons (⟨Tryz.func65, rfl, by kernel_rfl⟩) <| .cons (⟨Tryz.func66, rfl, by kernel_rfl⟩) <| .cons (⟨Tryz.func67, rfl, by kernel_rfl⟩) <| .cons (⟨Tryz.func68, rfl, by kernel_rfl⟩) <| .cons (⟨Tryz.func70, rfl, by kernel_rfl⟩) <| .cons (⟨Tryz.func72, rfl, by kernel_rfl⟩) <| .cons (⟨Tryz.func73, rfl, by kernel_rfl⟩) <| .cons (⟨Tryz.func74, rfl, by kernel_rfl⟩) <| .cons (⟨Tryz.func81, rfl, by kernel_rfl⟩) <| .cons (⟨Tryz.func82, rfl, by kernel_rfl⟩) <| .cons (⟨Tryz.func83, rfl, by kernel_rfl⟩) <| .cons (⟨Tryz.func84, rfl, by kernel_rfl⟩) <| .cons (⟨Tryz.func85, rfl, by kernel_rfl⟩) <| .cons (⟨Tryz.func86, rfl, by kernel_rfl⟩) <| .cons (⟨Tryz.func87, rfl, by kernel_rfl⟩) <| .cons (⟨Tryz.func88, rfl, by kernel_rfl⟩) <| .cons (⟨Tryz.func89, rfl, by kernel_rfl⟩) <| .cons (⟨Tryz.func90, rfl, by kernel_rfl⟩) <| .cons (⟨Tryz.func98, rfl, by kernel_rfl⟩) <| .cons (⟨Tryz.func99, rfl, by kernel_rfl⟩) <| .cons (⟨Tryz.func100, rfl, by kernel_rfl⟩) <| .cons (⟨Tryz.func101, rfl, by kernel_rfl⟩) <| .cons (⟨Tryz.func116, rfl, by kernel_rfl⟩) <| .cons (⟨Tryz.func124, rfl, by kernel_rfl⟩) <| .nil
theorem jnf_maps : AllL (fun p : Nat × Option IntKind × Nat => MapT Tryz.prog p.1 p.2.1 p.2.2) jnf.maps := .nil
theorem jnf_arrs : AllL (fun p : Nat × Nat × Nat => (Tryz.prog).underlying p.1 = some (.array p.2.1 p.2.2)) jnf.arrs := .cons (Tryz.underlying62) <| .cons (Tryz.underlying121) <| .cons (Tryz.underlying122) <| .cons (Tryz.underlying139) <| .cons (Tryz.underlying154) <| .cons (Tryz.underlying155) <| .cons (Tryz.underlying165) <| .cons (Tryz.underlying168) <| .cons (Tryz.underlying174) <| .cons (Tryz.underlying175) <| .cons (Tryz.underlying176) <| .cons (Tryz.underlying177) <| .cons (Tryz.underlying182) <| .nil
instance jnfI : Inf2 Tryz.prog jnf := ⟨jnf_ifs, jnf_zv, jnf_strs, jnf_ints, jnf_fns, by kernel_rfl, jnf_maps, jnf_arrs⟩
end Go.Iron.Tryz

/-
  DERIVED: THE SHELF's CONTRACTS AT THIS DUMP, IN PLAIN WORDS (tools/lay-plain.mjs out of 'YtmohlahmfkkggaaGreatDoorShelf.lean', which tools/lay-shelf.mjs wrote): THE SAME DECLARATIONS UNDER THE SAME NAMES: 'import', 'namespace', 'open', 'def', 'theorem' AND NOTHING ELSE: no command of the shelf's: FOR A HAND-IN. Each laying: the table of numbers ('.._ren') and one theorem, a field a fact of the dump's own or the kernel's comparison; each contract: ONE APPLICATION.
-/
namespace Go.Proofs
open Go.Shelf
def Tryz.lays158_ren : Go.Shelf.Ren := ⟨fun | 158 => 69 | 165 => 98 | 166 => 99 | 167 => 100 | 169 => 101 | 230 => 102 | 203 => 103 | 240 => 124 | 241 => 125 | 197 => 115 | 118 => 126 | 168 => 127 | 270 => 128 | 262 => 129 | 276 => 141 | 277 => 142 | 260 => 133 | 242 => 143 | 313 => 144 | 278 => 149 | 274 => 150 | 275 => 151 | n => n, fun | 9 => 9 | 4 => 4 | 3 => 3 | 5 => 5 | 72 => 114 | 0 => 0 | 76 => 74 | 75 => 73 | 107 => 119 | 70 => 112 | 20 => 20 | 37 => 95 | 127 => 144 | 21 => 21 | 105 => 130 | 164 => 157 | 162 => 163 | 203 => 161 | 119 => 165 | 46 => 100 | 139 => 168 | 138 => 167 | 51 => 127 | 160 => 170 | 208 => 179 | 206 => 177 | 80 => 117 | n => n, fun | 13 => 4 | 3 => 5 | 4 => 6 | n => n⟩
theorem Tryz.lays158 : Go.Proofs.Lays.n158 Tryz.prog Tryz.lays158_ren := {
  mixed := by kernel_rfl
  f118 := Tryz.func126.trans (congrArg some (by kernel_rfl))
  f158 := Tryz.func69.trans (congrArg some (by kernel_rfl))
  f165 := Tryz.func98.trans (congrArg some (by kernel_rfl))
  f166 := Tryz.func99.trans (congrArg some (by kernel_rfl))
  f167 := Tryz.func100.trans (congrArg some (by kernel_rfl))
  f168 := Tryz.func127.trans (congrArg some (by kernel_rfl))
  f169 := Tryz.func101.trans (congrArg some (by kernel_rfl))
  f197 := Tryz.func115.trans (congrArg some (by kernel_rfl))
  f203 := Tryz.func103.trans (congrArg some (by kernel_rfl))
  f230 := Tryz.func102.trans (congrArg some (by kernel_rfl))
  f240 := Tryz.func124.trans (congrArg some (by kernel_rfl))
  f241 := Tryz.func125.trans (congrArg some (by kernel_rfl))
  f242 := Tryz.func143.trans (congrArg some (by kernel_rfl))
  f260 := Tryz.func133.trans (congrArg some (by kernel_rfl))
  f262 := Tryz.func129.trans (congrArg some (by kernel_rfl))
  f270 := Tryz.func128.trans (congrArg some (by kernel_rfl))
  f274 := Tryz.func150.trans (congrArg some (by kernel_rfl))
  f275 := Tryz.func151.trans (congrArg some (by kernel_rfl))
  f276 := Tryz.func141.trans (congrArg some (by kernel_rfl))
  f277 := Tryz.func142.trans (congrArg some (by kernel_rfl))
  f278 := Tryz.func149.trans (congrArg some (by kernel_rfl))
  f313 := Tryz.func144.trans (congrArg some (by kernel_rfl))
  t0 := Tryz.underlying0
  a0 := Tryz.isAgg0
  z0 := Tryz.sizeOf0
  v0 := Tryz.zeroValue0
  t3 := Tryz.underlying3
  a3 := Tryz.isAgg3
  z3 := Tryz.sizeOf3
  v3 := Tryz.zeroValue3
  t4 := Tryz.underlying4
  a4 := Tryz.isAgg4
  z4 := Tryz.sizeOf4
  v4 := Tryz.zeroValue4
  t5 := Tryz.underlying5
  a5 := Tryz.isAgg5
  z5 := Tryz.sizeOf5
  v5 := Tryz.zeroValue5
  t9 := Tryz.underlying9
  a9 := Tryz.isAgg9
  z9 := Tryz.sizeOf9
  v9 := Tryz.zeroValue9
  t20 := Tryz.underlying20
  a20 := Tryz.isAgg20
  z20 := Tryz.sizeOf20
  v20 := Tryz.zeroValue20
  t21 := Tryz.underlying21
  a21 := Tryz.isAgg21
  z21 := Tryz.sizeOf21
  v21 := Tryz.zeroValue21
  t37 := Tryz.underlying95
  a37 := Tryz.isAgg95
  z37 := Tryz.sizeOf95
  v37 := Tryz.zeroValue95
  t46 := Tryz.underlying100
  a46 := Tryz.isAgg100
  z46 := Tryz.sizeOf100
  v46 := Tryz.zeroValue100
  t51 := Tryz.underlying127
  a51 := Tryz.isAgg127
  z51 := Tryz.sizeOf127
  v51 := Tryz.zeroValue127
  t70 := Tryz.underlying112
  a70 := Tryz.isAgg112
  z70 := Tryz.sizeOf112
  v70 := Tryz.zeroValue112
  t72 := Tryz.underlying114
  a72 := Tryz.isAgg114
  z72 := Tryz.sizeOf114
  v72 := Tryz.zeroValue114
  t75 := Tryz.underlying73
  a75 := Tryz.isAgg73
  z75 := Tryz.sizeOf73
  v75 := Tryz.zeroValue73
  t76 := Tryz.underlying74
  a76 := Tryz.isAgg74
  z76 := Tryz.sizeOf74
  v76 := Tryz.zeroValue74
  t105 := Tryz.underlying130
  a105 := Tryz.isAgg130
  z105 := Tryz.sizeOf130
  v105 := Tryz.zeroValue130
  t107 := Tryz.underlying119
  a107 := Tryz.isAgg119
  z107 := Tryz.sizeOf119
  v107 := Tryz.zeroValue119
  t119 := Tryz.underlying165
  a119 := Tryz.isAgg165
  z119 := Tryz.sizeOf165
  t127 := Tryz.underlying144
  a127 := Tryz.isAgg144
  z127 := Tryz.sizeOf144
  v127 := Tryz.zeroValue144
  t138 := Tryz.underlying167
  a138 := Tryz.isAgg167
  z138 := Tryz.sizeOf167
  v138 := Tryz.zeroValue167
  t139 := Tryz.underlying168
  a139 := Tryz.isAgg168
  z139 := Tryz.sizeOf168
  v139 := Tryz.zeroValue168
  t160 := Tryz.underlying170
  a160 := Tryz.isAgg170
  z160 := Tryz.sizeOf170
  v160 := Tryz.zeroValue170
  t162 := Tryz.underlying163
  a162 := Tryz.isAgg163
  z162 := Tryz.sizeOf163
  v162 := Tryz.zeroValue163
  t164 := Tryz.underlying157
  a164 := Tryz.isAgg157
  z164 := Tryz.sizeOf157
  v164 := Tryz.zeroValue157
  t203 := Tryz.underlying161
  a203 := Tryz.isAgg161
  z203 := Tryz.sizeOf161
  v203 := Tryz.zeroValue161
  t206 := Tryz.underlying177
  a206 := Tryz.isAgg177
  z206 := Tryz.sizeOf177
  v206 := Tryz.zeroValue177
  t208 := Tryz.underlying179
  a208 := Tryz.isAgg179
  z208 := Tryz.sizeOf179
  v208 := Tryz.zeroValue179
  g3 := by kernel_rfl
  g4 := by kernel_rfl
  g13 := by kernel_rfl }
theorem Tryz.Builder_Extra_158 : Builder.Extra Tryz.prog Tryz.lays158_ren := {
  sizeBuilder := by kernel_rfl
  liesBuilder := by kernel_rfl
  t5 := Tryz.underlying5
  a5 := Tryz.isAgg5
  z5 := Tryz.sizeOf5
  v5 := Tryz.zeroValue5
  infoByte := by kernel_rfl
  cellsByte := by kernel_rfl
  sizeByte := by kernel_rfl
  neB5 := by decide }
open Go.RowKit in
/-- strings.ToUpper: "ToUpper returns s with all Unicode letters mapped to their upper case.": ON ASCII TEXT OF AT MOST 2^47 BYTES. Below the heap's end the world is as it was: where a letter turns, the call makes a builder and its buffer. (LAID: no walk: one application.) -/
theorem Tryz.strings_ToUpper_ascii (s : ByteArray) (w : World) (hs : s.size ≤ 140737488355328) (hascii : ∀ (j : Nat) (b : UInt8), s.data.toList[j]? = some b → b.toNat < 128) :
    Calls Tryz.prog 69 #[.string s] w fun e w' => e = .returned (.string ⟨(Lib.toUpperA s.data.toList).toArray⟩) ∧ Below w.heap.size w w' := Any.strings_ToUpper_ascii Tryz.lays158 Tryz.Builder_Extra_158 s w hs hascii
def Tryz.lays160_ren : Go.Shelf.Ren := ⟨fun | 160 => 71 | 232 => 105 | 231 => 104 | 227 => 106 | 234 => 108 | 233 => 107 | 236 => 110 | 235 => 109 | 228 => 130 | 271 => 132 | 151 => 131 | 197 => 115 | 120 => 146 | 152 => 145 | 260 => 133 | 137 => 111 | 119 => 152 | 224 => 78 | 225 => 77 | 217 => 76 | 266 => 113 | n => n, fun | 9 => 9 | 4 => 4 | 3 => 3 | 5 => 5 | 117 => 123 | 116 => 122 | 0 => 0 | 124 => 126 | 21 => 21 | 105 => 130 | 46 => 100 | 119 => 165 | 139 => 168 | 138 => 167 | n => n, fun | 3 => 5 | 4 => 6 | n => n⟩
theorem Tryz.lays160 : Go.Proofs.Lays.n160 Tryz.prog Tryz.lays160_ren := {
  mixed := by kernel_rfl
  f119 := Tryz.func152.trans (congrArg some (by kernel_rfl))
  f120 := Tryz.func146.trans (congrArg some (by kernel_rfl))
  f137 := Tryz.func111.trans (congrArg some (by kernel_rfl))
  f151 := Tryz.func131.trans (congrArg some (by kernel_rfl))
  f152 := Tryz.func145.trans (congrArg some (by kernel_rfl))
  f160 := Tryz.func71.trans (congrArg some (by kernel_rfl))
  f197 := Tryz.func115.trans (congrArg some (by kernel_rfl))
  f217 := Tryz.func76.trans (congrArg some (by kernel_rfl))
  f224 := Tryz.func78.trans (congrArg some (by kernel_rfl))
  f225 := Tryz.func77.trans (congrArg some (by kernel_rfl))
  f227 := Tryz.func106.trans (congrArg some (by kernel_rfl))
  f228 := Tryz.func130.trans (congrArg some (by kernel_rfl))
  f231 := Tryz.func104.trans (congrArg some (by kernel_rfl))
  f232 := Tryz.func105.trans (congrArg some (by kernel_rfl))
  f233 := Tryz.func107.trans (congrArg some (by kernel_rfl))
  f234 := Tryz.func108.trans (congrArg some (by kernel_rfl))
  f235 := Tryz.func109.trans (congrArg some (by kernel_rfl))
  f236 := Tryz.func110.trans (congrArg some (by kernel_rfl))
  f260 := Tryz.func133.trans (congrArg some (by kernel_rfl))
  f266 := Tryz.func113.trans (congrArg some (by kernel_rfl))
  f271 := Tryz.func132.trans (congrArg some (by kernel_rfl))
  t0 := Tryz.underlying0
  a0 := Tryz.isAgg0
  z0 := Tryz.sizeOf0
  v0 := Tryz.zeroValue0
  t3 := Tryz.underlying3
  a3 := Tryz.isAgg3
  z3 := Tryz.sizeOf3
  v3 := Tryz.zeroValue3
  t4 := Tryz.underlying4
  a4 := Tryz.isAgg4
  z4 := Tryz.sizeOf4
  v4 := Tryz.zeroValue4
  t5 := Tryz.underlying5
  a5 := Tryz.isAgg5
  z5 := Tryz.sizeOf5
  v5 := Tryz.zeroValue5
  t9 := Tryz.underlying9
  a9 := Tryz.isAgg9
  z9 := Tryz.sizeOf9
  v9 := Tryz.zeroValue9
  t21 := Tryz.underlying21
  a21 := Tryz.isAgg21
  z21 := Tryz.sizeOf21
  v21 := Tryz.zeroValue21
  t46 := Tryz.underlying100
  a46 := Tryz.isAgg100
  z46 := Tryz.sizeOf100
  v46 := Tryz.zeroValue100
  t105 := Tryz.underlying130
  a105 := Tryz.isAgg130
  z105 := Tryz.sizeOf130
  v105 := Tryz.zeroValue130
  t116 := Tryz.underlying122
  a116 := Tryz.isAgg122
  z116 := Tryz.sizeOf122
  t117 := Tryz.underlying123
  a117 := Tryz.isAgg123
  z117 := Tryz.sizeOf123
  v117 := Tryz.zeroValue123
  t119 := Tryz.underlying165
  a119 := Tryz.isAgg165
  z119 := Tryz.sizeOf165
  t124 := Tryz.underlying126
  a124 := Tryz.isAgg126
  z124 := Tryz.sizeOf126
  v124 := Tryz.zeroValue126
  t138 := Tryz.underlying167
  a138 := Tryz.isAgg167
  z138 := Tryz.sizeOf167
  v138 := Tryz.zeroValue167
  t139 := Tryz.underlying168
  a139 := Tryz.isAgg168
  z139 := Tryz.sizeOf168
  v139 := Tryz.zeroValue168
  g3 := by kernel_rfl
  g4 := by kernel_rfl }
open Go.RowKit in
/-- strings.Trim at an ASCII cutset. -/
theorem Tryz.strings_Trim_laid (s cutset : ByteArray) (w : World) (hs : s.size ≤ 9223372036854775807) (hcs : cutset.size < 4294967281) (hascii : ∀ (j : Nat) b, cutset.data.toList[j]? = some b → b.toNat < 128) :
    Calls Tryz.prog 71 #[.string s, .string cutset] w fun e w' => e = .returned (.string ⟨(Lib.trimS s.data.toList cutset.data.toList).toArray⟩) ∧ Below w.heap.size w w' := Any.strings_Trim_laid Tryz.lays160 (by kernel_rfl) s cutset w hs hcs hascii
def Tryz.lays137_ren : Go.Shelf.Ren := ⟨fun | 137 => 111 | 217 => 76 | 266 => 113 | n => n, fun | 9 => 9 | 5 => 5 | 3 => 3 | n => n, fun | n => n⟩
theorem Tryz.lays137 : Go.Proofs.Lays.n137 Tryz.prog Tryz.lays137_ren := {
  mixed := by kernel_rfl
  f137 := Tryz.func111.trans (congrArg some (by kernel_rfl))
  f217 := Tryz.func76.trans (congrArg some (by kernel_rfl))
  f266 := Tryz.func113.trans (congrArg some (by kernel_rfl))
  t3 := Tryz.underlying3
  a3 := Tryz.isAgg3
  z3 := Tryz.sizeOf3
  v3 := Tryz.zeroValue3
  t5 := Tryz.underlying5
  a5 := Tryz.isAgg5
  z5 := Tryz.sizeOf5
  v5 := Tryz.zeroValue5
  t9 := Tryz.underlying9
  a9 := Tryz.isAgg9
  z9 := Tryz.sizeOf9
  v9 := Tryz.zeroValue9 }
open Go.RowKit in
/-- strings.IndexByte: "IndexByte returns the index of the first instance of c in s, or -1 if c is not present in s.": IT RETURNS 'Lib.indexByte s c'; the world is as it was. (LAID: no walk: one application.) -/
theorem Tryz.strings_IndexByte (s : ByteArray) (c : Int) (w : World) :
    Calls Tryz.prog 111 #[.string s, .int .u8 c] w fun e w' => e = .returned (.int .i64 (Lib.indexByte s.data.toList c.toNat.toUInt8)) ∧ w' = w := Any.strings_IndexByte Tryz.lays137 s c w
def Tryz.lays104_ren : Go.Shelf.Ren := ⟨fun | 104 => 36 | 211 => 59 | 207 => 91 | n => n, fun | 9 => 9 | 4 => 4 | 24 => 67 | 3 => 3 | n => n, fun | n => n⟩
theorem Tryz.lays104 : Go.Proofs.Lays.n104 Tryz.prog Tryz.lays104_ren := {
  mixed := by kernel_rfl
  f104 := Tryz.func36.trans (congrArg some (by kernel_rfl))
  f207 := Tryz.func91.trans (congrArg some (by kernel_rfl))
  f211 := Tryz.func59.trans (congrArg some (by kernel_rfl))
  t3 := Tryz.underlying3
  a3 := Tryz.isAgg3
  z3 := Tryz.sizeOf3
  v3 := Tryz.zeroValue3
  t4 := Tryz.underlying4
  a4 := Tryz.isAgg4
  z4 := Tryz.sizeOf4
  v4 := Tryz.zeroValue4
  t9 := Tryz.underlying9
  a9 := Tryz.isAgg9
  z9 := Tryz.sizeOf9
  v9 := Tryz.zeroValue9
  t24 := Tryz.underlying67
  a24 := Tryz.isAgg67
  z24 := Tryz.sizeOf67
  v24 := Tryz.zeroValue67 }
open Go.RowKit in
/-- strings.CutSuffix: "CutSuffix returns s without the provided ending suffix string and reports whether it found the suffix. If s doesn't end with suffix, CutSuffix returns s, false. If suffix is the empty string, CutSuffix returns s, true.": IT RETURNS '(Lib.trimSuffix s p, Lib.hasSuffix s p)'; the world is as it was. (LAID: no walk: one application.) -/
theorem Tryz.strings_CutSuffix (s p : ByteArray) (w : World) (hs : s.size ≤ 9223372036854775807) :
    Calls Tryz.prog 36 #[.string s, .string p] w fun e w' => e = .returned (.tuple #[.string ⟨(Lib.trimSuffix s.data.toList p.data.toList).toArray⟩, .bool (Lib.hasSuffix s.data.toList p.data.toList)]) ∧ w' = w := Any.strings_CutSuffix Tryz.lays104 s p w hs
def Tryz.lays172_ren : Go.Shelf.Ren := ⟨fun | 172 => 39 | 244 => 61 | 245 => 62 | 247 => 92 | 279 => 93 | 280 => 94 | 281 => 95 | 282 => 96 | 287 => 117 | 316 => 118 | 171 => 40 | 205 => 119 | 321 => 134 | 322 => 135 | 243 => 63 | 246 => 97 | 283 => 120 | 284 => 121 | 285 => 122 | 286 => 123 | 129 => 137 | 317 => 136 | 318 => 138 | 319 => 139 | 320 => 140 | 337 => 147 | 338 => 148 | n => n, fun | 9 => 9 | 3 => 3 | 75 => 73 | 76 => 74 | 4 => 4 | 5 => 5 | 167 => 105 | 37 => 95 | 0 => 0 | 85 => 106 | 2 => 2 | 168 => 108 | 53 => 133 | 175 => 134 | 46 => 100 | 210 => 137 | 127 => 144 | 145 => 152 | 143 => 150 | 21 => 21 | 171 => 139 | 173 => 142 | 212 => 154 | 51 => 127 | 20 => 20 | 213 => 155 | 232 => 174 | 233 => 175 | 80 => 117 | n => n, fun | 15 => 1 | 16 => 2 | 17 => 3 | 18 => 7 | 19 => 8 | n => n⟩
theorem Tryz.lays172 : Go.Proofs.Lays.n172 Tryz.prog Tryz.lays172_ren := {
  mixed := by kernel_rfl
  f129 := Tryz.func137.trans (congrArg some (by kernel_rfl))
  f171 := Tryz.func40.trans (congrArg some (by kernel_rfl))
  f172 := Tryz.func39.trans (congrArg some (by kernel_rfl))
  f205 := Tryz.func119.trans (congrArg some (by kernel_rfl))
  f243 := Tryz.func63.trans (congrArg some (by kernel_rfl))
  f244 := Tryz.func61.trans (congrArg some (by kernel_rfl))
  f245 := Tryz.func62.trans (congrArg some (by kernel_rfl))
  f246 := Tryz.func97.trans (congrArg some (by kernel_rfl))
  f247 := Tryz.func92.trans (congrArg some (by kernel_rfl))
  f279 := Tryz.func93.trans (congrArg some (by kernel_rfl))
  f280 := Tryz.func94.trans (congrArg some (by kernel_rfl))
  f281 := Tryz.func95.trans (congrArg some (by kernel_rfl))
  f282 := Tryz.func96.trans (congrArg some (by kernel_rfl))
  f283 := Tryz.func120.trans (congrArg some (by kernel_rfl))
  f284 := Tryz.func121.trans (congrArg some (by kernel_rfl))
  f285 := Tryz.func122.trans (congrArg some (by kernel_rfl))
  f286 := Tryz.func123.trans (congrArg some (by kernel_rfl))
  f287 := Tryz.func117.trans (congrArg some (by kernel_rfl))
  f316 := Tryz.func118.trans (congrArg some (by kernel_rfl))
  f317 := Tryz.func136.trans (congrArg some (by kernel_rfl))
  f318 := Tryz.func138.trans (congrArg some (by kernel_rfl))
  f319 := Tryz.func139.trans (congrArg some (by kernel_rfl))
  f320 := Tryz.func140.trans (congrArg some (by kernel_rfl))
  f321 := Tryz.func134.trans (congrArg some (by kernel_rfl))
  f322 := Tryz.func135.trans (congrArg some (by kernel_rfl))
  f337 := Tryz.func147.trans (congrArg some (by kernel_rfl))
  f338 := Tryz.func148.trans (congrArg some (by kernel_rfl))
  t0 := Tryz.underlying0
  a0 := Tryz.isAgg0
  z0 := Tryz.sizeOf0
  v0 := Tryz.zeroValue0
  t2 := Tryz.underlying2
  a2 := Tryz.isAgg2
  z2 := Tryz.sizeOf2
  v2 := Tryz.zeroValue2
  t3 := Tryz.underlying3
  a3 := Tryz.isAgg3
  z3 := Tryz.sizeOf3
  v3 := Tryz.zeroValue3
  t4 := Tryz.underlying4
  a4 := Tryz.isAgg4
  z4 := Tryz.sizeOf4
  v4 := Tryz.zeroValue4
  t5 := Tryz.underlying5
  a5 := Tryz.isAgg5
  z5 := Tryz.sizeOf5
  v5 := Tryz.zeroValue5
  t9 := Tryz.underlying9
  a9 := Tryz.isAgg9
  z9 := Tryz.sizeOf9
  v9 := Tryz.zeroValue9
  t20 := Tryz.underlying20
  a20 := Tryz.isAgg20
  z20 := Tryz.sizeOf20
  v20 := Tryz.zeroValue20
  t21 := Tryz.underlying21
  a21 := Tryz.isAgg21
  z21 := Tryz.sizeOf21
  v21 := Tryz.zeroValue21
  t37 := Tryz.underlying95
  a37 := Tryz.isAgg95
  z37 := Tryz.sizeOf95
  v37 := Tryz.zeroValue95
  t46 := Tryz.underlying100
  a46 := Tryz.isAgg100
  z46 := Tryz.sizeOf100
  v46 := Tryz.zeroValue100
  t51 := Tryz.underlying127
  a51 := Tryz.isAgg127
  z51 := Tryz.sizeOf127
  v51 := Tryz.zeroValue127
  t53 := Tryz.underlying133
  a53 := Tryz.isAgg133
  z53 := Tryz.sizeOf133
  v53 := Tryz.zeroValue133
  t75 := Tryz.underlying73
  a75 := Tryz.isAgg73
  z75 := Tryz.sizeOf73
  v75 := Tryz.zeroValue73
  t76 := Tryz.underlying74
  a76 := Tryz.isAgg74
  z76 := Tryz.sizeOf74
  v76 := Tryz.zeroValue74
  t85 := Tryz.underlying106
  a85 := Tryz.isAgg106
  z85 := Tryz.sizeOf106
  v85 := Tryz.zeroValue106
  t127 := Tryz.underlying144
  a127 := Tryz.isAgg144
  z127 := Tryz.sizeOf144
  v127 := Tryz.zeroValue144
  t143 := Tryz.underlying150
  a143 := Tryz.isAgg150
  z143 := Tryz.sizeOf150
  v143 := Tryz.zeroValue150
  t145 := Tryz.underlying152
  a145 := Tryz.isAgg152
  z145 := Tryz.sizeOf152
  v145 := Tryz.zeroValue152
  t167 := Tryz.underlying105
  a167 := Tryz.isAgg105
  z167 := Tryz.sizeOf105
  v167 := Tryz.zeroValue105
  t168 := Tryz.underlying108
  a168 := Tryz.isAgg108
  z168 := Tryz.sizeOf108
  v168 := Tryz.zeroValue108
  t171 := Tryz.underlying139
  a171 := Tryz.isAgg139
  z171 := Tryz.sizeOf139
  v171 := Tryz.zeroValue139
  t173 := Tryz.underlying142
  a173 := Tryz.isAgg142
  z173 := Tryz.sizeOf142
  v173 := Tryz.zeroValue142
  t175 := Tryz.underlying134
  a175 := Tryz.isAgg134
  z175 := Tryz.sizeOf134
  v175 := Tryz.zeroValue134
  t210 := Tryz.underlying137
  a210 := Tryz.isAgg137
  z210 := Tryz.sizeOf137
  v210 := Tryz.zeroValue137
  t212 := Tryz.underlying154
  a212 := Tryz.isAgg154
  z212 := Tryz.sizeOf154
  v212 := Tryz.zeroValue154
  t213 := Tryz.underlying155
  a213 := Tryz.isAgg155
  z213 := Tryz.sizeOf155
  t232 := Tryz.underlying174
  a232 := Tryz.isAgg174
  z232 := Tryz.sizeOf174
  v232 := Tryz.zeroValue174
  t233 := Tryz.underlying175
  a233 := Tryz.isAgg175
  z233 := Tryz.sizeOf175
  v233 := Tryz.zeroValue175
  g15 := by kernel_rfl
  g16 := by kernel_rfl
  g17 := by kernel_rfl
  g18 := by kernel_rfl
  g19 := by kernel_rfl }
open Go.RowKit in
/-- strconv.Atoi: "Atoi is equivalent to ParseInt(s, 10, 0), converted to type int.": AT A DECIMAL NUMERAL OF AT MOST 18 BYTES: its value, and a nil error. The world behind the call: the one new row that the library's '[]byte(s)' lays. (LAID: no walk: one application.) -/
theorem Tryz.strconv_Atoi (s : ByteArray) (n : Int) (hl : s.size ≤ 18) (h : Lib.atoi s.data.toList = some n) (w : World) :
    Calls Tryz.prog 39 #[.string s] w fun e w' => e = .returned (.tuple #[.int .i64 n, .nilIface]) ∧ ∃ t, w' = Lib.bytesWorld w 5 t := Any.strconv_Atoi Tryz.lays172 s n hl h w
def Tryz.laysM171_ren : Go.Shelf.Ren := ⟨fun | 171 => 40 | 243 => 63 | 246 => 97 | 283 => 120 | 284 => 121 | 285 => 122 | 286 => 123 | 129 => 137 | 317 => 136 | 318 => 138 | 319 => 139 | 320 => 140 | 337 => 147 | 338 => 148 | n => n, fun | 3 => 3 | 9 => 9 | 2 => 2 | 4 => 4 | 171 => 139 | 0 => 0 | 53 => 133 | 37 => 95 | 5 => 5 | 173 => 142 | 212 => 154 | 51 => 127 | 20 => 20 | 213 => 155 | 46 => 100 | 232 => 174 | 233 => 175 | n => n, fun | 17 => 3 | 18 => 7 | 19 => 8 | n => n⟩
theorem Tryz.laysM171 : Go.Proofs.LaysM.n171 Tryz.prog Tryz.laysM171_ren := {
  mixed := by kernel_rfl
  f129 := Tryz.func137.trans (congrArg some (by kernel_rfl))
  f171 := Tryz.func40.trans (congrArg some (by kernel_rfl))
  f243 := Tryz.func63.trans (congrArg some (by kernel_rfl))
  f246 := Tryz.func97.trans (congrArg some (by kernel_rfl))
  f283 := Tryz.func120.trans (congrArg some (by kernel_rfl))
  f284 := Tryz.func121.trans (congrArg some (by kernel_rfl))
  f285 := Tryz.func122.trans (congrArg some (by kernel_rfl))
  f286 := Tryz.func123.trans (congrArg some (by kernel_rfl))
  f317 := Tryz.func136.trans (congrArg some (by kernel_rfl))
  f318 := Tryz.func138.trans (congrArg some (by kernel_rfl))
  f319 := Tryz.func139.trans (congrArg some (by kernel_rfl))
  f320 := Tryz.func140.trans (congrArg some (by kernel_rfl))
  f337 := Tryz.func147.trans (congrArg some (by kernel_rfl))
  f338 := Tryz.func148.trans (congrArg some (by kernel_rfl))
  t0 := Tryz.underlying0
  a0 := Tryz.isAgg0
  z0 := Tryz.sizeOf0
  v0 := Tryz.zeroValue0
  t2 := Tryz.underlying2
  a2 := Tryz.isAgg2
  z2 := Tryz.sizeOf2
  v2 := Tryz.zeroValue2
  t3 := Tryz.underlying3
  a3 := Tryz.isAgg3
  z3 := Tryz.sizeOf3
  v3 := Tryz.zeroValue3
  t4 := Tryz.underlying4
  a4 := Tryz.isAgg4
  z4 := Tryz.sizeOf4
  v4 := Tryz.zeroValue4
  t5 := Tryz.underlying5
  a5 := Tryz.isAgg5
  z5 := Tryz.sizeOf5
  v5 := Tryz.zeroValue5
  t9 := Tryz.underlying9
  a9 := Tryz.isAgg9
  z9 := Tryz.sizeOf9
  v9 := Tryz.zeroValue9
  t20 := Tryz.underlying20
  a20 := Tryz.isAgg20
  z20 := Tryz.sizeOf20
  v20 := Tryz.zeroValue20
  t37 := Tryz.underlying95
  a37 := Tryz.isAgg95
  z37 := Tryz.sizeOf95
  v37 := Tryz.zeroValue95
  t46 := Tryz.underlying100
  a46 := Tryz.isAgg100
  z46 := Tryz.sizeOf100
  v46 := Tryz.zeroValue100
  t51 := Tryz.underlying127
  a51 := Tryz.isAgg127
  z51 := Tryz.sizeOf127
  v51 := Tryz.zeroValue127
  t53 := Tryz.underlying133
  a53 := Tryz.isAgg133
  z53 := Tryz.sizeOf133
  v53 := Tryz.zeroValue133
  t171 := Tryz.underlying139
  a171 := Tryz.isAgg139
  z171 := Tryz.sizeOf139
  v171 := Tryz.zeroValue139
  t173 := Tryz.underlying142
  a173 := Tryz.isAgg142
  z173 := Tryz.sizeOf142
  v173 := Tryz.zeroValue142
  t212 := Tryz.underlying154
  a212 := Tryz.isAgg154
  z212 := Tryz.sizeOf154
  v212 := Tryz.zeroValue154
  t213 := Tryz.underlying155
  a213 := Tryz.isAgg155
  z213 := Tryz.sizeOf155
  t232 := Tryz.underlying174
  a232 := Tryz.isAgg174
  z232 := Tryz.sizeOf174
  v232 := Tryz.zeroValue174
  t233 := Tryz.underlying175
  a233 := Tryz.isAgg175
  z233 := Tryz.sizeOf175
  v233 := Tryz.zeroValue175
  g17 := by kernel_rfl
  g18 := by kernel_rfl
  g19 := by kernel_rfl
  i0 := by kernel_rfl
  i2 := by kernel_rfl
  i3 := by kernel_rfl
  i4 := by kernel_rfl
  i5 := by kernel_rfl
  i9 := by kernel_rfl
  i20 := by kernel_rfl
  i37 := by kernel_rfl
  i46 := by kernel_rfl
  i51 := by kernel_rfl
  i53 := by kernel_rfl
  i171 := by kernel_rfl
  i173 := by kernel_rfl
  i212 := by kernel_rfl
  i232 := by kernel_rfl
  i233 := by kernel_rfl
  m17 := by kernel_rfl
  m18 := by kernel_rfl
  m19 := by kernel_rfl }
open Go.RowKit Go.Sort Go.Lib in
/-- strconv.Itoa: "Itoa is equivalent to FormatInt(int64(i), 10).": i's DECIMAL NUMERAL ('Lib.itoa': a '-' where i is negative, then the digits), FOR EVERY int. The world behind the call: the world before it, new blocks behind the heap (the library's 'var a [24]byte'), draws. (LAID: no walk: one application.) -/
theorem Tryz.strconv_Itoa (n : Int) (h0 : -9223372036854775808 ≤ n) (h1 : n ≤ 9223372036854775807) (w : World) (htab : Lib.TabIs Tryz.prog w "internal/strconv.uint64pow10" .u64 Lib.pow10Tab) :
    Calls Tryz.prog 40 #[.int .i64 n] w fun e w' => e = .returned (.string ⟨(Lib.itoa n).toArray⟩) ∧ ∃ k os, w' = grow (w.drewN k) os := Any.strconv_Itoa Tryz.laysM171 n h0 h1 w htab
def Tryz.lays145_ren : Go.Shelf.Ren := ⟨fun | 145 => 38 | 220 => 60 | 219 => 53 | 217 => 76 | 225 => 77 | 224 => 78 | 267 => 79 | 266 => 113 | 314 => 114 | n => n, fun | 9 => 9 | 4 => 4 | 59 => 70 | 3 => 3 | 5 => 5 | 46 => 100 | 146 => 128 | 51 => 127 | n => n, fun | 1 => 0 | n => n⟩
theorem Tryz.lays145 : Go.Proofs.Lays.n145 Tryz.prog Tryz.lays145_ren := {
  mixed := by kernel_rfl
  f145 := Tryz.func38.trans (congrArg some (by kernel_rfl))
  f217 := Tryz.func76.trans (congrArg some (by kernel_rfl))
  f219 := Tryz.func53.trans (congrArg some (by kernel_rfl))
  f220 := Tryz.func60.trans (congrArg some (by kernel_rfl))
  f224 := Tryz.func78.trans (congrArg some (by kernel_rfl))
  f225 := Tryz.func77.trans (congrArg some (by kernel_rfl))
  f266 := Tryz.func113.trans (congrArg some (by kernel_rfl))
  f267 := Tryz.func79.trans (congrArg some (by kernel_rfl))
  f314 := Tryz.func114.trans (congrArg some (by kernel_rfl))
  t3 := Tryz.underlying3
  a3 := Tryz.isAgg3
  z3 := Tryz.sizeOf3
  v3 := Tryz.zeroValue3
  t4 := Tryz.underlying4
  a4 := Tryz.isAgg4
  z4 := Tryz.sizeOf4
  v4 := Tryz.zeroValue4
  t5 := Tryz.underlying5
  a5 := Tryz.isAgg5
  z5 := Tryz.sizeOf5
  v5 := Tryz.zeroValue5
  t9 := Tryz.underlying9
  a9 := Tryz.isAgg9
  z9 := Tryz.sizeOf9
  v9 := Tryz.zeroValue9
  t46 := Tryz.underlying100
  a46 := Tryz.isAgg100
  z46 := Tryz.sizeOf100
  v46 := Tryz.zeroValue100
  t51 := Tryz.underlying127
  a51 := Tryz.isAgg127
  z51 := Tryz.sizeOf127
  v51 := Tryz.zeroValue127
  t59 := Tryz.underlying70
  a59 := Tryz.isAgg70
  z59 := Tryz.sizeOf70
  v59 := Tryz.zeroValue70
  t146 := Tryz.underlying128
  a146 := Tryz.isAgg128
  z146 := Tryz.sizeOf128
  v146 := Tryz.zeroValue128
  g1 := by kernel_rfl }
open Go.RowKit Go.Lib in
/-- strings.Cut: "Cut slices s around the first instance of sep, returning the text before and after sep. The found result reports whether sep appears in s. If sep does not appear in s, cut returns s, "", false.": IT RETURNS 'Lib.cut s sep'; the world is as it was but for the count of draws. (LAID: no walk: one application.) -/
theorem Tryz.strings_Cut (s sep : ByteArray) (m : Int) (w : World) (hs : s.size < 4294967281) (hm : w.cell? ⟨0, 0, none⟩ = some (.int .i64 m)) :
    Calls Tryz.prog 38 #[.string s, .string sep] w fun e w' => e = .returned (.tuple #[.string ⟨(Lib.cut s.data.toList sep.data.toList).1.toArray⟩, .string ⟨(Lib.cut s.data.toList sep.data.toList).2.1.toArray⟩, .bool (Lib.cut s.data.toList sep.data.toList).2.2]) ∧ ∃ n, w' = w.drewN n := Any.strings_Cut Tryz.lays145 s sep m w hs hm
def Tryz.lays99_ren : Go.Shelf.Ren := ⟨fun | 99 => 75 | 206 => 112 | n => n, fun | 9 => 9 | 4 => 4 | 3 => 3 | n => n, fun | n => n⟩
theorem Tryz.lays99 : Go.Proofs.Lays.n99 Tryz.prog Tryz.lays99_ren := {
  mixed := by kernel_rfl
  f99 := Tryz.func75.trans (congrArg some (by kernel_rfl))
  f206 := Tryz.func112.trans (congrArg some (by kernel_rfl))
  t3 := Tryz.underlying3
  a3 := Tryz.isAgg3
  z3 := Tryz.sizeOf3
  v3 := Tryz.zeroValue3
  t4 := Tryz.underlying4
  a4 := Tryz.isAgg4
  z4 := Tryz.sizeOf4
  v4 := Tryz.zeroValue4
  t9 := Tryz.underlying9
  a9 := Tryz.isAgg9
  z9 := Tryz.sizeOf9
  v9 := Tryz.zeroValue9 }
open Go.RowKit Go.Lib in
/-- strings.HasPrefix: "HasPrefix reports whether the string s begins with prefix.": IT RETURNS 'Lib.hasPrefix s prefix'; the world is as it was. (LAID: no walk: one application.) -/
theorem Tryz.strings_HasPrefix (s p : ByteArray) (w : World) :
    Calls Tryz.prog 75 #[.string s, .string p] w fun e w' => e = .returned (.bool (Lib.hasPrefix s.data.toList p.data.toList)) ∧ w' = w := Any.strings_HasPrefix Tryz.lays99 s p w
def Tryz.lays155_ren : Go.Shelf.Ren := ⟨fun | 155 => 56 | 154 => 80 | 138 => 15 | 165 => 98 | 143 => 31 | 166 => 99 | 197 => 115 | 169 => 101 | 195 => 29 | 218 => 30 | 240 => 124 | 241 => 125 | 219 => 53 | 260 => 133 | 276 => 141 | 277 => 142 | 217 => 76 | 225 => 77 | 224 => 78 | 267 => 79 | 266 => 113 | 314 => 114 | n => n, fun | 9 => 9 | 3 => 3 | 4 => 4 | 72 => 114 | 0 => 0 | 76 => 74 | 105 => 130 | 21 => 21 | 5 => 5 | 70 => 112 | 20 => 20 | 37 => 95 | 75 => 73 | 127 => 144 | 164 => 157 | 46 => 100 | 119 => 165 | 139 => 168 | 138 => 167 | 146 => 128 | 51 => 127 | 80 => 117 | n => n, fun | 1 => 0 | 3 => 5 | 4 => 6 | n => n⟩
theorem Tryz.lays155 : Go.Proofs.Lays.n155 Tryz.prog Tryz.lays155_ren := {
  mixed := by kernel_rfl
  f138 := Tryz.func15.trans (congrArg some (by kernel_rfl))
  f143 := Tryz.func31.trans (congrArg some (by kernel_rfl))
  f154 := Tryz.func80.trans (congrArg some (by kernel_rfl))
  f155 := Tryz.func56.trans (congrArg some (by kernel_rfl))
  f165 := Tryz.func98.trans (congrArg some (by kernel_rfl))
  f166 := Tryz.func99.trans (congrArg some (by kernel_rfl))
  f169 := Tryz.func101.trans (congrArg some (by kernel_rfl))
  f195 := Tryz.func29.trans (congrArg some (by kernel_rfl))
  f197 := Tryz.func115.trans (congrArg some (by kernel_rfl))
  f217 := Tryz.func76.trans (congrArg some (by kernel_rfl))
  f218 := Tryz.func30.trans (congrArg some (by kernel_rfl))
  f219 := Tryz.func53.trans (congrArg some (by kernel_rfl))
  f224 := Tryz.func78.trans (congrArg some (by kernel_rfl))
  f225 := Tryz.func77.trans (congrArg some (by kernel_rfl))
  f240 := Tryz.func124.trans (congrArg some (by kernel_rfl))
  f241 := Tryz.func125.trans (congrArg some (by kernel_rfl))
  f260 := Tryz.func133.trans (congrArg some (by kernel_rfl))
  f266 := Tryz.func113.trans (congrArg some (by kernel_rfl))
  f267 := Tryz.func79.trans (congrArg some (by kernel_rfl))
  f276 := Tryz.func141.trans (congrArg some (by kernel_rfl))
  f277 := Tryz.func142.trans (congrArg some (by kernel_rfl))
  f314 := Tryz.func114.trans (congrArg some (by kernel_rfl))
  t0 := Tryz.underlying0
  a0 := Tryz.isAgg0
  z0 := Tryz.sizeOf0
  v0 := Tryz.zeroValue0
  t3 := Tryz.underlying3
  a3 := Tryz.isAgg3
  z3 := Tryz.sizeOf3
  v3 := Tryz.zeroValue3
  t4 := Tryz.underlying4
  a4 := Tryz.isAgg4
  z4 := Tryz.sizeOf4
  v4 := Tryz.zeroValue4
  t5 := Tryz.underlying5
  a5 := Tryz.isAgg5
  z5 := Tryz.sizeOf5
  v5 := Tryz.zeroValue5
  t9 := Tryz.underlying9
  a9 := Tryz.isAgg9
  z9 := Tryz.sizeOf9
  v9 := Tryz.zeroValue9
  t20 := Tryz.underlying20
  a20 := Tryz.isAgg20
  z20 := Tryz.sizeOf20
  v20 := Tryz.zeroValue20
  t21 := Tryz.underlying21
  a21 := Tryz.isAgg21
  z21 := Tryz.sizeOf21
  v21 := Tryz.zeroValue21
  t37 := Tryz.underlying95
  a37 := Tryz.isAgg95
  z37 := Tryz.sizeOf95
  v37 := Tryz.zeroValue95
  t46 := Tryz.underlying100
  a46 := Tryz.isAgg100
  z46 := Tryz.sizeOf100
  v46 := Tryz.zeroValue100
  t51 := Tryz.underlying127
  a51 := Tryz.isAgg127
  z51 := Tryz.sizeOf127
  v51 := Tryz.zeroValue127
  t70 := Tryz.underlying112
  a70 := Tryz.isAgg112
  z70 := Tryz.sizeOf112
  v70 := Tryz.zeroValue112
  t72 := Tryz.underlying114
  a72 := Tryz.isAgg114
  z72 := Tryz.sizeOf114
  v72 := Tryz.zeroValue114
  t75 := Tryz.underlying73
  a75 := Tryz.isAgg73
  z75 := Tryz.sizeOf73
  v75 := Tryz.zeroValue73
  t76 := Tryz.underlying74
  a76 := Tryz.isAgg74
  z76 := Tryz.sizeOf74
  v76 := Tryz.zeroValue74
  t105 := Tryz.underlying130
  a105 := Tryz.isAgg130
  z105 := Tryz.sizeOf130
  v105 := Tryz.zeroValue130
  t119 := Tryz.underlying165
  a119 := Tryz.isAgg165
  z119 := Tryz.sizeOf165
  t127 := Tryz.underlying144
  a127 := Tryz.isAgg144
  z127 := Tryz.sizeOf144
  v127 := Tryz.zeroValue144
  t138 := Tryz.underlying167
  a138 := Tryz.isAgg167
  z138 := Tryz.sizeOf167
  v138 := Tryz.zeroValue167
  t139 := Tryz.underlying168
  a139 := Tryz.isAgg168
  z139 := Tryz.sizeOf168
  v139 := Tryz.zeroValue168
  t146 := Tryz.underlying128
  a146 := Tryz.isAgg128
  z146 := Tryz.sizeOf128
  v146 := Tryz.zeroValue128
  t164 := Tryz.underlying157
  a164 := Tryz.isAgg157
  z164 := Tryz.sizeOf157
  v164 := Tryz.zeroValue157
  g1 := by kernel_rfl
  g3 := by kernel_rfl
  g4 := by kernel_rfl }
theorem Tryz.Builder_Extra_155 : Builder.Extra Tryz.prog Tryz.lays155_ren := {
  sizeBuilder := by kernel_rfl
  liesBuilder := by kernel_rfl
  t5 := Tryz.underlying5
  a5 := Tryz.isAgg5
  z5 := Tryz.sizeOf5
  v5 := Tryz.zeroValue5
  infoByte := by kernel_rfl
  cellsByte := by kernel_rfl
  sizeByte := by kernel_rfl
  neB5 := by decide }
open Go.RowKit Go.Lib in
/-- strings.ReplaceAll: "ReplaceAll returns a copy of the string s with all non-overlapping instances of old replaced by new.": AT AN old THAT IS NOT EMPTY: 'Lib.replaceAll s old new'. (LAID: no walk: one application.) -/
theorem Tryz.strings_ReplaceAll (s old new : ByteArray) (m : Int) (w : World) (hs : s.size < 4294967281) (hm : w.cell? ⟨0, 0, none⟩ = some (.int .i64 m)) (h1 : 1 ≤ old.size) (hlen : s.size + Lib.countB s old * new.size ≤ 140737488355328) :
    Calls Tryz.prog 56 #[.string s, .string old, .string new] w fun e w' =>
      e = .returned (.string ⟨(Lib.replaceAll s.data.toList old.data.toList new.data.toList).toArray⟩) ∧ Below w.heap.size w w' := Any.strings_ReplaceAll Tryz.lays155 Tryz.Builder_Extra_155 s old new m w hs hm h1 hlen
end Go.Proofs

/- Tokens of a text, as plain functions (no program in sight). -/
namespace Go.Iron.Tok

abbrev Str := List UInt8
/-- The byte at a place; 0 behind the end. -/
def byt (s : Str) (p : Nat) : Nat := (s.getD p 0).toNat
theorem byt_end {s : Str} {p : Nat} (h : s.length ≤ p) : byt s p = 0 := by
  unfold byt
  rw [List.getD_eq_getElem?_getD, List.getElem?_eq_none h]
  rfl
theorem byt_lt {s : Str} {p : Nat} (h : byt s p ≠ 0) : p < s.length := by
  rcases Nat.lt_or_ge p s.length with h1 | h1
  · exact h1
  · exact absurd (byt_end h1) h
theorem byt_le (s : Str) (p : Nat) : byt s p ≤ 255 := by
  have := (s.getD p 0).toNat_lt
  unfold byt
  omega
def upN (c : Nat) : Nat := if 97 ≤ c ∧ c ≤ 122 then c - 32 else c
def digP (c : Nat) : Bool := decide (48 ≤ c) && decide (c ≤ 57)
def begP (c : Nat) : Bool := (decide (65 ≤ upN c) && decide (upN c ≤ 90)) || upN c == 36 || upN c == 35 || upN c == 64
def goP (c : Nat) : Bool := begP c || digP c || c == 95
def plP (c : Nat) : Bool := (decide (32 ≤ c) && decide (c ≤ 126)) || c == 10 || c == 9
def upB (b : UInt8) : UInt8 := UInt8.ofNat (upN b.toNat)
def upS (s : Str) : Str := s.map upB
def part (s : Str) (p q : Nat) : Str := (s.take q).drop p
/-- The first place from p on that is behind the text or not such. -/
def spanN (s : Str) (f : Nat → Bool) (p : Nat) : Nat := if h : p < s.length ∧ f (byt s p) = true then spanN s f (p + 1) else p
termination_by s.length - p
decreasing_by omega
theorem spanN_go {s : Str} {f : Nat → Bool} {p : Nat} (h1 : p < s.length) (h2 : f (byt s p) = true) : spanN s f p = spanN s f (p + 1) := by
  rw [spanN, dif_pos ⟨h1, h2⟩]
theorem spanN_end {s : Str} {f : Nat → Bool} {p : Nat} (h : ¬ (p < s.length ∧ f (byt s p) = true)) : spanN s f p = p := by
  rw [spanN, dif_neg h]
theorem spanN_le (s : Str) (f : Nat → Bool) (p : Nat) : p ≤ spanN s f p ∧ (p ≤ s.length → spanN s f p ≤ s.length) := by
  unfold spanN
  by_cases h : p < s.length ∧ f (byt s p) = true
  · rw [dif_pos h]
    have := spanN_le s f (p + 1)
    omega
  · rw [dif_neg h]
    omega
termination_by s.length - p
decreasing_by omega
theorem spanN_in (s : Str) (f : Nat → Bool) (p : Nat) : ∀ j, p ≤ j → j < spanN s f p → f (byt s j) = true := by
  intro j h1 h2
  by_cases h : p < s.length ∧ f (byt s p) = true
  · by_cases hj : j = p
    · subst hj; exact h.2
    · rw [spanN_go h.1 h.2] at h2
      exact spanN_in s f (p + 1) j (by omega) h2
  · rw [spanN_end h] at h2
    omega
termination_by s.length - p
decreasing_by omega
theorem spanN_stop (s : Str) (f : Nat → Bool) (p : Nat) : ¬ (spanN s f p < s.length ∧ f (byt s (spanN s f p)) = true) := by
  by_cases h : p < s.length ∧ f (byt s p) = true
  · rw [spanN_go h.1 h.2]
    exact spanN_stop s f (p + 1)
  · rw [spanN_end h]
    exact h
termination_by s.length - p
decreasing_by omega
theorem spanN_eq {s : Str} {f : Nat → Bool} {p q : Nat} (h1 : p ≤ q) (h2 : ∀ j, p ≤ j → j < q → j < s.length ∧ f (byt s j) = true) (h3 : ¬ (q < s.length ∧ f (byt s q) = true)) : spanN s f p = q := by
  by_cases hpq : p = q
  · subst hpq; exact spanN_end h3
  · obtain ⟨a, b⟩ := h2 p (Nat.le_refl _) (by omega)
    rw [spanN_go a b]
    exact spanN_eq (by omega) (fun j c d => h2 j (by omega) d) h3
termination_by q - p
decreasing_by omega

structure Tk where
  kind : Nat
  text : Str
  at_ : Nat
deriving DecidableEq
/-- What is read at a place: a token or none, and the place behind it; or where the text is wrong. -/
inductive Rd
  | ok (t : Option Tk) (p : Nat)
  | bad (q : Nat)

def readName (s : Str) (p : Nat) : Rd :=
  let q := spanN s goP p
  if q - p > 31 then .bad p else .ok (some ⟨1, upS (part s p q), p⟩) q

/-- The places of a number: behind its digits; behind it all, and whether it is one. -/
def numD (s : Str) (p : Nat) : Nat := let q := spanN s digP p; if byt s q = 46 then spanN s digP (q + 1) else q
def signE (s : Str) (k : Nat) : Nat := if byt s k = 43 ∨ byt s k = 45 then k + 1 else k
def bits01 (l : Str) : Bool := l.all fun b => b.toNat == 48 || b.toNat == 49 || b.toNat == 46
def numE (s : Str) (p : Nat) : Nat × Bool :=
  let q := numD s p
  if upN (byt s q) = 69 then
    let k := signE s (q + 1)
    let r := spanN s digP k
    (r, decide (1 ≤ r - k) && decide (r - k ≤ 2))
  else if upN (byt s q) = 66 then (q + 1, bits01 (part s p q))
  else (q, true)
def readNum (s : Str) (p : Nat) : Rd :=
  if (numE s p).2 = true ∧ goP (byt s (numE s p).1) = false then .ok (some ⟨2, upS (part s p (numE s p).1), p⟩) (numE s p).1 else .bad p

/-- In quotes: what stands there and the place of the quote that ends it; or where it is wrong. -/
inductive Qt
  | fin (l : Str) (p : Nat)
  | bad (q : Nat)
def quoL (s : Str) (from_ : Nat) (p : Nat) (acc : Str) : Qt :=
  if h : p < s.length then
    if byt s p = 10 ∨ byt s p = 9 then .bad from_
    else if plP (byt s p) = false then .bad p
    else if byt s p ≠ 39 then quoL s from_ (p + 1) (acc ++ [s.getD p 0])
    else if byt s (p + 1) = 39 then quoL s from_ (p + 2) (acc ++ [39])
    else .fin acc p
  else .bad from_
termination_by s.length - p
decreasing_by all_goals omega
def hexN (c : Nat) : Option Nat := if 48 ≤ c ∧ c ≤ 57 then some (c - 48) else if 65 ≤ upN c ∧ upN c ≤ 70 then some (upN c - 55) else none
def bit4 (n : Nat) : Str := [UInt8.ofNat (48 + n / 8 % 2), UInt8.ofNat (48 + n / 4 % 2), UInt8.ofNat (48 + n / 2 % 2), UInt8.ofNat (48 + n % 2)]
def hexL : Str → Option Str
  | [] => some []
  | b :: l => match hexN b.toNat, hexL l with
    | some n, some r => some (bit4 n ++ r)
    | _, _ => none
def readQuo (s : Str) (p : Nat) : Rd := match quoL s p (p + 1) [] with
  | .bad q => .bad q
  | .fin l k =>
    if upN (byt s (k + 1)) ≠ 66 then (if l.length > 250 then .bad p else .ok (some ⟨3, l, p⟩) (k + 1))
    else if byt s (k + 2) = 52 then match hexL l with
      | some b => if b.length > 250 ∨ goP (byt s (k + 3)) = true then .bad p else .ok (some ⟨4, b, p⟩) (k + 3)
      | none => .bad p
    else if (l.all fun b => b.toNat == 48 || b.toNat == 49) = true ∧ ¬ l.length > 250 ∧ goP (byt s (k + 2)) = false then .ok (some ⟨4, l, p⟩) (k + 2) else .bad p

/-- Behind a comment that begins at p; or where it is wrong. -/
def comL (s : Str) (from_ : Nat) (p : Nat) : Rd :=
  if h : p < s.length then
    if plP (byt s p) = false then .bad p
    else if byt s p = 42 ∧ byt s (p + 1) = 47 then .ok none (p + 2)
    else comL s from_ (p + 1)
  else .bad from_
termination_by s.length - p
decreasing_by omega
def opers : List Str := [[42, 42], [124, 124], [94, 61], [94, 60], [94, 62], [60, 61], [62, 61], [45, 62], [43], [45], [42], [47], [61], [60], [62], [38], [124], [94], [40], [41], [44], [59], [58], [46], [37]]
def readOp (s : Str) (p : Nat) : Rd :=
  if byt s p = 46 ∧ digP (byt s (p + 1)) = true then readNum s p
  else if byt s p = 47 ∧ byt s (p + 1) = 42 then comL s p (p + 2)
  else match opers.find? fun o => o.isPrefixOf (s.drop p) with
    | some o => .ok (some ⟨5, o, p⟩) (p + o.length)
    | none => .bad p
def readAt (s : Str) (p : Nat) : Rd :=
  if begP (byt s p) = true then readName s p
  else if digP (byt s p) = true then readNum s p
  else if byt s p = 39 then readQuo s p
  else if byt s p = 32 ∨ byt s p = 10 ∨ byt s p = 9 then .ok none (p + 1)
  else if plP (byt s p) = true then readOp s p
  else .bad p
/-- The tokens from a place on (fuel: how many may be read). -/
def scanL (s : Str) : Nat → Nat → List Tk → List Tk × Nat × Nat
  | 0, p, acc => (acc, 0, 0)
  | n + 1, p, acc => if p < s.length then match readAt s p with
      | .bad q => ([], q, 2)
      | .ok none q => scanL s n q acc
      | .ok (some t) q => scanL s n q (acc ++ [t])
    else (acc, 0, 0)
def scanF (s : Str) : List Tk × Nat × Nat := if s.length > 20000 then ([], 0, 3) else scanL s (s.length + 1) 0 []
end Go.Iron.Tok

/- Tokens of a text: places go on. -/
namespace Go.Iron.Tok

theorem readName_prog {s : Str} {p q : Nat} {t : Option Tk} (hp : p < s.length) (hb : begP (byt s p) = true) (h : readName s p = .ok t q) : p < q ∧ q ≤ s.length := by
  unfold readName at h
  dsimp only at h
  split at h
  · cases h
  · injection h with h1 h2
    subst h2
    have hg : goP (byt s p) = true := by unfold goP; rw [hb]; rfl
    have h3 := spanN_le s goP (p + 1)
    rw [spanN_go hp hg]
    omega
theorem numD_le {s : Str} {p : Nat} (hp : p ≤ s.length) : p ≤ numD s p ∧ numD s p ≤ s.length := by
  unfold numD
  dsimp only
  have h1 := spanN_le s digP p
  split
  · rename_i h
    have h2 := byt_lt (s := s) (p := spanN s digP p) (by omega)
    have h3 := spanN_le s digP (spanN s digP p + 1)
    omega
  · omega
theorem signE_le {s : Str} {k : Nat} (hk : k ≤ s.length) : k ≤ signE s k ∧ signE s k ≤ s.length := by
  unfold signE
  split
  · rename_i h
    have := byt_lt (s := s) (p := k) (by omega)
    omega
  · omega
theorem upN_ne {c : Nat} (h : upN c ≠ 0) : c ≠ 0 := fun e => h (by rw [e]; rfl)
theorem numE_le {s : Str} {p : Nat} (hp : p ≤ s.length) : numD s p ≤ (numE s p).1 ∧ (numE s p).1 ≤ s.length := by
  have hd := numD_le hp
  unfold numE
  dsimp only
  split
  · rename_i h
    have h1 := byt_lt (s := s) (p := numD s p) (upN_ne (by omega))
    have h2 := signE_le (s := s) (k := numD s p + 1) (by omega)
    have h3 := spanN_le s digP (signE s (numD s p + 1))
    dsimp only
    omega
  · split
    · rename_i h
      have h1 := byt_lt (s := s) (p := numD s p) (upN_ne (by omega))
      dsimp only
      omega
    · dsimp only
      omega
theorem readNum_prog {s : Str} {p q : Nat} {t : Option Tk} (hp : p < s.length) (hd : p < numD s p) (h : readNum s p = .ok t q) : p < q ∧ q ≤ s.length := by
  unfold readNum at h
  split at h
  · injection h with h1 h2
    subst h2
    have := numE_le (s := s) (p := p) (by omega)
    omega
  · cases h
theorem numD_dig {s : Str} {p : Nat} (hp : p < s.length) (hd : digP (byt s p) = true) : p < numD s p := by
  have h1 := spanN_le s digP (p + 1)
  have h2 := spanN_go (s := s) (f := digP) hp hd
  unfold numD
  dsimp only
  have h3 := spanN_le s digP (spanN s digP p + 1)
  split <;> omega
theorem numD_dot {s : Str} {p : Nat} (hb : byt s p = 46) : p < numD s p := by
  have h2 : spanN s digP p = p := spanN_end (by rw [hb]; simp [digP])
  have h3 := spanN_le s digP (p + 1)
  unfold numD
  dsimp only
  rw [h2, if_pos hb]
  omega
theorem quoL_le {s : Str} {f : Nat} : ∀ {p : Nat} {acc l : Str} {k : Nat}, quoL s f p acc = .fin l k → p ≤ k ∧ k < s.length ∧ byt s k = 39
  | p, acc, l, k, h => by
    unfold quoL at h
    split at h
    · rename_i hp
      split at h
      · cases h
      · split at h
        · cases h
        · split at h
          · have := quoL_le h
            omega
          · split at h
            · have := quoL_le h
              omega
            · rename_i h39 _
              injection h with h1 h2
              subst h2
              exact ⟨Nat.le_refl _, hp, by omega⟩
    · cases h
termination_by p => s.length - p
decreasing_by all_goals omega
theorem comL_le {s : Str} {f : Nat} : ∀ {p q : Nat} {t : Option Tk}, comL s f p = .ok t q → p < q ∧ q ≤ s.length
  | p, q, t, h => by
    unfold comL at h
    split at h
    · split at h
      · cases h
      · split at h
        · rename_i h2
          injection h with h3 h4
          subst h4
          have := byt_lt (s := s) (p := p + 1) (by omega)
          omega
        · have := comL_le h
          omega
    · cases h
termination_by p => s.length - p
decreasing_by omega
theorem readQuo_prog {s : Str} {p q : Nat} {t : Option Tk} (h : readQuo s p = .ok t q) : p < q ∧ q ≤ s.length := by
  unfold readQuo at h
  split at h
  · cases h
  · rename_i l k hk
    obtain ⟨h1, h2, _⟩ := quoL_le hk
    split at h
    · split at h
      · cases h
      · injection h with h3 h4
        omega
    · rename_i hB
      have hB' := byt_lt (s := s) (p := k + 1) (upN_ne (by omega))
      split at h
      · rename_i h4
        have h4' := byt_lt (s := s) (p := k + 2) (by omega)
        split at h
        · split at h
          · cases h
          · injection h with h5 h6
            omega
        · cases h
      · split at h
        · injection h with h5 h6
          omega
        · cases h
theorem opers_pos {s : Str} {o : Str} (h : opers.find? (fun o => o.isPrefixOf s) = some o) : 1 ≤ o.length ∧ o.length ≤ s.length := by
  have h1 := List.find?_some h
  have h2 := List.mem_of_find?_eq_some h
  have hp : o <+: s := by simpa [List.isPrefixOf_iff_prefix] using h1
  refine ⟨?_, hp.length_le⟩
  simp only [opers, List.mem_cons, List.not_mem_nil, or_false] at h2
  rcases h2 with rfl | rfl | rfl | rfl | rfl | rfl | rfl | rfl | rfl | rfl | rfl | rfl | rfl | rfl | rfl | rfl | rfl | rfl | rfl | rfl | rfl | rfl | rfl | rfl | rfl <;> simp
theorem readOp_prog {s : Str} {p q : Nat} {t : Option Tk} (hp : p < s.length) (h : readOp s p = .ok t q) : p < q ∧ q ≤ s.length := by
  unfold readOp at h
  split at h
  · rename_i hd
    exact readNum_prog hp (numD_dot hd.1) h
  · split at h
    · have := comL_le h
      omega
    · split at h
      · rename_i o ho
        injection h with h1 h2
        have := opers_pos ho
        rw [List.length_drop] at this
        omega
      · cases h
theorem readAt_prog {s : Str} {p q : Nat} {t : Option Tk} (hp : p < s.length) (h : readAt s p = .ok t q) : p < q ∧ q ≤ s.length := by
  unfold readAt at h
  split at h
  · exact readName_prog hp (by assumption) h
  · split at h
    · exact readNum_prog hp (numD_dig hp (by assumption)) h
    · split at h
      · exact readQuo_prog h
      · split at h
        · injection h with h1 h2
          omega
        · split at h
          · exact readOp_prog hp h
          · cases h
/-- Fuel makes no difference. -/
theorem scanL_fuel {s : Str} : ∀ (n m p : Nat) (acc : List Tk), s.length + 1 - p ≤ n → s.length + 1 - p ≤ m → p ≤ s.length → scanL s n p acc = scanL s m p acc
  | 0, m, p, acc, h1, h2, h3 => by omega
  | n + 1, 0, p, acc, h1, h2, h3 => by omega
  | n + 1, m + 1, p, acc, h1, h2, h3 => by
    rw [scanL, scanL]
    by_cases hp : p < s.length
    · rw [if_pos hp, if_pos hp]
      cases h : readAt s p with
      | bad q => rfl
      | ok t q =>
        obtain ⟨a, b⟩ := readAt_prog hp h
        cases t with
        | none => exact scanL_fuel n m q acc (by omega) (by omega) b
        | some t => exact scanL_fuel n m q _ (by omega) (by omega) b
    · rw [if_neg hp, if_neg hp]
def scanP (s : Str) (p : Nat) (acc : List Tk) : List Tk × Nat × Nat := scanL s (s.length + 1 - p) p acc
theorem scanP_end {s : Str} {acc : List Tk} : scanP s s.length acc = (acc, 0, 0) := by
  rw [scanP, show s.length + 1 - s.length = 1 by omega, scanL, if_neg (Nat.lt_irrefl _)]
theorem scanP_bad {s : Str} {p q : Nat} {acc : List Tk} (hp : p < s.length) (h : readAt s p = .bad q) : scanP s p acc = ([], q, 2) := by
  rw [scanP, show s.length + 1 - p = (s.length - p) + 1 by omega, scanL, if_pos hp, h]
theorem scanP_none {s : Str} {p q : Nat} {acc : List Tk} (hp : p < s.length) (h : readAt s p = .ok none q) : scanP s p acc = scanP s q acc := by
  obtain ⟨a, b⟩ := readAt_prog hp h
  rw [scanP, show s.length + 1 - p = (s.length - p) + 1 by omega, scanL, if_pos hp, h]
  exact scanL_fuel _ _ _ _ (by omega) (by omega) b
theorem scanP_some {s : Str} {p q : Nat} {t : Tk} {acc : List Tk} (hp : p < s.length) (h : readAt s p = .ok (some t) q) : scanP s p acc = scanP s q (acc ++ [t]) := by
  obtain ⟨a, b⟩ := readAt_prog hp h
  rw [scanP, show s.length + 1 - p = (s.length - p) + 1 by omega, scanL, if_pos hp, h]
  exact scanL_fuel _ _ _ _ (by omega) (by omega) b
end Go.Iron.Tok

/- Tokens of a text: great letters outside of quotes make no difference (P9.4), in plain Lean. -/
namespace Go.Iron.Tok

/-- A byte, or its great letter. -/
def Cap (a b : Nat) : Prop := b = a ∨ b = upN a
theorem up_up (c : Nat) : upN (upN c) = upN c := by
  unfold upN
  by_cases h : 97 ≤ c ∧ c ≤ 122
  · rw [if_pos h, if_neg (by omega)]
  · rw [if_neg h, if_neg h]
theorem cap_up {a b : Nat} (h : Cap a b) : upN b = upN a := by
  rcases h with h | h
  · rw [h]
  · rw [h, up_up]
theorem up_eq {a : Nat} (h : upN a ≠ a) : 97 ≤ a ∧ a ≤ 122 ∧ upN a = a - 32 := by
  unfold upN at h ⊢
  split at h
  · rename_i h2
    rw [if_pos h2]
    omega
  · exact absurd rfl h
/-- What is no small letter, and what a small letter may become is none of these. -/
theorem cap_same {a b c : Nat} (h : Cap a b) (h1 : c < 65 ∨ 90 < c) (h2 : c < 97 ∨ 122 < c) : b = c ↔ a = c := by
  rcases h with h | h
  · rw [h]
  · by_cases he : upN a = a
    · rw [h, he]
    · obtain ⟨x, y, z⟩ := up_eq he
      omega
theorem cap_dig {a b : Nat} (h : Cap a b) : digP b = digP a := by
  rcases h with h | h
  · rw [h]
  · by_cases he : upN a = a
    · rw [h, he]
    · obtain ⟨x, y, z⟩ := up_eq he
      rw [Bool.eq_iff_iff]
      simp only [digP, Bool.and_eq_true, decide_eq_true_eq]
      omega
theorem cap_beg {a b : Nat} (h : Cap a b) : begP b = begP a := by
  unfold begP
  rw [cap_up h]
theorem cap_go {a b : Nat} (h : Cap a b) : goP b = goP a := by
  unfold goP
  rw [cap_beg h, cap_dig h]
  have : (b == 95) = (a == 95) := by
    rw [Bool.eq_iff_iff, beq_iff_eq, beq_iff_eq]
    exact cap_same h (.inr (by decide)) (.inl (by decide))
  rw [this]
end Go.Iron.Tok

/- Tokens of a text: what the law makes of a text, and that it is read the same (P9.4), in plain Lean. -/
namespace Go.Iron.Tok

end Go.Iron.Tok

/- The token seat: bytes, the scanner's small methods. -/
namespace Go.Iron.Tryz
open Go.Proofs Go.RowKit Go.Iron.Tok

abbrev iv (n : Int) : AV := .val (.int .i64 n)
abbrev bv (b : Bool) : AV := .val (.bool b)
abbrev uv (c : Nat) : AV := .val (.int .u8 (c : Int))
abbrev sv (s : Str) : AV := .val (.string (bs s))
theorem w64 {x : Int} (h1 : -9223372036854775808 ≤ x) (h2 : x ≤ 9223372036854775807) : IntKind.wrap .i64 x = x := IntWalk.i64_in x (by omega)
theorem blS (s : Str) : (bl (bs s)).length = s.length := rfl
@[reducible] def tkE (t : Tk) : List AV := [iv t.kind, sv t.text, iv t.at_]
def tkR (l : List Tk) : Nat → List AV := encR tkE ⟨0, [], 0⟩ l
def tkS (nl : Option Bool) (l : List Tk) : AV := .slc 3 nl l.length (tkR l)
abbrev scL (o0 o1 o2 : AO) (s : Str) (p : Nat) (acc : List Tk) : List AO := [o0, o1, o2, .box 57 [sv s, iv p, .row 4 acc.length], .row 29 3 acc.length acc.length (tkR acc)]
/-- The objects beside the scanner are sound by themselves. -/
def KeptS (o0 o1 o2 : AO) : Prop := ∀ m L, Kept m L → Kept m (o0 :: o1 :: o2 :: L)
theorem kS {o0 o1 o2 : AO} (hk : KeptS o0 o1 o2) (s : Str) (p : Nat) (acc : List Tk) : Kept 5 (scL o0 o1 o2 s p acc) := hk _ _ (.box rfl (.row (fun j hj => rfl) .nil))
/-- The scanner is lost. -/
abbrev lostS (o0 o1 o2 : AO) : List AO := [o0, o1, o2, .gone, .gone]
theorem kLost {o0 o1 o2 : AO} (hk : KeptS o0 o1 o2) : Kept 5 (lostS o0 o1 o2) := hk _ _ (.gone (.gone .nil))
/-- What a method of the scanner does. -/
def rdS (o0 o1 o2 : AO) (s : Str) (acc : List Tk) : Tok.Rd → Out → List AO → Prop
  | .ok none q => fun o A => o = .ret (.tup []) ∧ A = scL o0 o1 o2 s q acc
  | .ok (some t) q => fun o A => o = .ret (.tup []) ∧ A = scL o0 o1 o2 s q (acc ++ [t])
  | .bad q => fun o A => o = .pan (.ifc 59 (.agg [iv q])) ∧ A = lostS o0 o1 o2

theorem k_upper (c : Nat) : CallT Tryz.prog 65 [uv c] [] (fun o A => o = .ret (uv (upN c)) ∧ A = []) := by
  refine callS_body (n := 13) rfl rfl fun w ρ X => ?_
  refine runS_x (I := inf) (J := jnf) ⟨false, false, [], 0, 0⟩ 9999 rfl (by repeat (first | exact obs_nil | refine obs_draw (by kernel_rfl) ?_ | refine obs_same ?_ | refine obs_and ?_ | refine obs_by (by (simp [inB] <;> omega)) ?_)) ?_
  refine runS_cond rfl (fun h => ?_) (fun h => ?_)
  · have hb : 97 ≤ c ∧ c ≤ 122 := by simp at h; omega
    refine runS_x (I := inf) (J := jnf) ⟨false, false, [], 0, 0⟩ 9999 rfl (by repeat (first | exact obs_nil | refine obs_draw (by kernel_rfl) ?_ | refine obs_same ?_ | refine obs_and ?_ | refine obs_by (by (simp [inB] <;> omega)) ?_)) ?_
    refine runS_ret (I := inf) 0 rfl (Nat.le_refl _) rfl .nil rfl ⟨?_, rfl⟩
    have h1 : IntKind.wrap .u8 ((c : Int) - 97) = (c : Int) - 97 := IntWalk.u8_in _ (by omega)
    have h2 : IntKind.wrap .u8 (IntKind.wrap .u8 ((c : Int) - 97) + 65) = ((upN c : Nat) : Int) := by
      rw [h1, IntWalk.u8_in _ (by omega), upN, if_pos hb]
      omega
    exact congrArg (fun x => Out.ret (.val (.int .u8 x))) h2
  · have hb : ¬ (97 ≤ c ∧ c ≤ 122) := by simp at h; omega
    refine runS_x (I := inf) (J := jnf) ⟨false, false, [], 0, 0⟩ 9999 rfl (by repeat (first | exact obs_nil | refine obs_draw (by kernel_rfl) ?_ | refine obs_same ?_ | refine obs_and ?_ | refine obs_by (by (simp [inB] <;> omega)) ?_)) ?_
    refine runS_ret (I := inf) 0 rfl (Nat.le_refl _) rfl .nil rfl ⟨?_, rfl⟩
    rw [upN, if_neg hb]
    rfl
theorem up_le {c : Nat} (h : c ≤ 255) : upN c ≤ 255 := by unfold upN; split <;> omega
theorem k_digit (c : Nat) : CallT Tryz.prog 47 [uv c] [] (fun o A => o = .ret (bv (digP c)) ∧ A = []) := by
  refine callS_body (n := 9) rfl rfl fun w ρ X => ?_
  refine runS_x (I := inf) (J := jnf) ⟨false, false, [], 0, 0⟩ 9999 rfl (by repeat (first | exact obs_nil | refine obs_draw (by kernel_rfl) ?_ | refine obs_same ?_ | refine obs_and ?_ | refine obs_by (by (simp [inB] <;> omega)) ?_)) ?_
  refine runS_ret (I := inf) 0 rfl (Nat.le_refl _) rfl .nil rfl ⟨?_, rfl⟩
  refine congrArg (fun x => Out.ret (bv x)) ?_
  unfold digP
  rw [Bool.eq_iff_iff]
  simp
  omega
theorem k_plain (c : Nat) : CallT Tryz.prog 51 [uv c] [] (fun o A => o = .ret (bv (plP c)) ∧ A = []) := by
  refine callS_body (n := 17) rfl rfl fun w ρ X => ?_
  refine runS_x (I := inf) (J := jnf) ⟨false, false, [], 0, 0⟩ 9999 rfl (by repeat (first | exact obs_nil | refine obs_draw (by kernel_rfl) ?_ | refine obs_same ?_ | refine obs_and ?_ | refine obs_by (by (simp [inB] <;> omega)) ?_)) ?_
  refine runS_ret (I := inf) 0 rfl (Nat.le_refl _) rfl .nil rfl ⟨?_, rfl⟩
  refine congrArg (fun x => Out.ret (bv x)) ?_
  unfold plP
  rw [Bool.eq_iff_iff]
  simp
  omega
theorem k_begins (c : Nat) : CallT Tryz.prog 45 [uv c] [] (fun o A => o = .ret (bv (begP c)) ∧ A = []) := by
  refine callS_body (n := 23) rfl rfl fun w ρ X => ?_
  refine runS_x (I := inf) (J := jnf) ⟨false, false, [], 0, 0⟩ 9999 rfl (by repeat (first | exact obs_nil | refine obs_draw (by kernel_rfl) ?_ | refine obs_same ?_ | refine obs_and ?_ | refine obs_by (by (simp [inB] <;> omega)) ?_)) ?_
  refine runS_call rfl rfl rfl rfl rfl rfl rfl (k_upper c) ?_
  refine runS_x (I := inf) (J := jnf) ⟨false, false, [], 0, 0⟩ 9999 rfl (by repeat (first | exact obs_nil | refine obs_draw (by kernel_rfl) ?_ | refine obs_same ?_ | refine obs_and ?_ | refine obs_by (by (simp [inB] <;> omega)) ?_)) ?_
  refine runS_ret (I := inf) 0 rfl (Nat.le_refl _) rfl .nil rfl ⟨?_, rfl⟩
  refine congrArg (fun x => Out.ret (bv x)) ?_
  unfold begP
  generalize upN c = d
  rw [Bool.eq_iff_iff]
  simp
  omega
theorem k_goes (c : Nat) : CallT Tryz.prog 67 [uv c] [] (fun o A => o = .ret (bv (goP c)) ∧ A = []) := by
  refine callS_body (n := 13) rfl rfl fun w ρ X => ?_
  refine runS_x (I := inf) (J := jnf) ⟨false, false, [], 0, 0⟩ 9999 rfl (by repeat (first | exact obs_nil | refine obs_draw (by kernel_rfl) ?_ | refine obs_same ?_ | refine obs_and ?_ | refine obs_by (by (simp [inB] <;> omega)) ?_)) ?_
  refine runS_call rfl rfl rfl rfl rfl rfl rfl (k_begins c) ?_
  refine runS_x (I := inf) (J := jnf) ⟨false, false, [], 0, 0⟩ 9999 rfl (by repeat (first | exact obs_nil | refine obs_draw (by kernel_rfl) ?_ | refine obs_same ?_ | refine obs_and ?_ | refine obs_by (by (simp [inB] <;> omega)) ?_)) ?_
  refine runS_callU rfl rfl (by first | exact .v rfl rfl rfl rfl | exact .o rfl rfl rfl rfl) rfl rfl (by repeat (first | exact .nil | refine .cons (.n rfl) ?_ | refine .cons .o ?_ | refine .cons gok_and ?_)) rfl rfl rfl rfl rfl (fun _ => (k_digit c)) ?_
  refine runS_x (I := inf) (J := jnf) ⟨false, false, [], 0, 0⟩ 9999 rfl (by repeat (first | exact obs_nil | refine obs_draw (by kernel_rfl) ?_ | refine obs_same ?_ | refine obs_and ?_ | refine obs_by (by (simp [inB] <;> omega)) ?_)) ?_
  refine runS_ret (I := inf) 0 rfl (Nat.le_refl _) rfl .nil rfl ⟨?_, rfl⟩
  refine congrArg (fun x => Out.ret (bv x)) ?_
  unfold goP
  generalize begP c = x
  generalize digP c = y
  rw [Bool.eq_iff_iff]
  cases x <;> cases y <;> simp <;> omega
theorem k_peek {o0 o1 o2 : AO} (hk : KeptS o0 o1 o2) (s : Str) (p n : Nat) (acc : List Tk) (hs : s.length ≤ 30000) (hp : p ≤ 30000) (hn : n ≤ 10) : CallT Tryz.prog 70 [.ptr 3 0 0, iv n] (scL o0 o1 o2 s p acc) (fun o A => o = .ret (uv (byt s (p + n))) ∧ A = scL o0 o1 o2 s p acc) := by
  have hw1 : IntKind.wrap .i64 ((p : Int) + (n : Int)) = ((p + n : Nat) : Int) := by rw [w64 (by omega) (by omega)]; rfl
  refine callS_body (n := 28) rfl rfl fun w ρ X => ?_
  refine runS_x (I := inf) (J := jnf) ⟨false, false, [], 0, 0⟩ 9999 rfl (by repeat (first | exact obs_nil | refine obs_draw (by kernel_rfl) ?_ | refine obs_same ?_ | refine obs_and ?_ | refine obs_by (by (simp [inB, blS, hw1] <;> omega)) ?_)) ?_
  refine runS_cond rfl (fun h => ?_) (fun h => ?_)
  · have hb : p + n < s.length := by
      have : decide (IntKind.wrap .i64 ((p : Int) + (n : Int)) < (s.length : Int)) = true := h
      rw [hw1] at this
      simp at this
      omega
    refine runS_x (I := inf) (J := jnf) ⟨false, false, [], 0, 0⟩ 9999 rfl (by repeat (first | exact obs_nil | refine obs_draw (by kernel_rfl) ?_ | refine obs_same ?_ | refine obs_and ?_ | refine obs_by (by (simp [inB, blS, hw1, hb] <;> omega)) ?_)) ?_
    refine runS_ret (I := inf) 5 rfl (Nat.le_refl _) rfl (kS hk s p acc) rfl ⟨?_, rfl⟩
    rw [hw1]
    rfl
  · have hb : ¬ p + n < s.length := by
      have : decide (IntKind.wrap .i64 ((p : Int) + (n : Int)) < (s.length : Int)) = false := h
      rw [hw1] at this
      simp at this
      omega
    refine runS_x (I := inf) (J := jnf) ⟨false, false, [], 0, 0⟩ 9999 rfl (by repeat (first | exact obs_nil | refine obs_draw (by kernel_rfl) ?_ | refine obs_same ?_ | refine obs_and ?_ | refine obs_by (by (simp [inB] <;> omega)) ?_)) ?_
    refine runS_ret (I := inf) 5 rfl (Nat.le_refl _) rfl (kS hk s p acc) rfl ⟨?_, rfl⟩
    rw [byt_end (by omega)]
    rfl
theorem k_blank {o0 o1 o2 : AO} (hk : KeptS o0 o1 o2) (s : Str) (p : Nat) (acc : List Tk) (hp : p ≤ 30000) : CallT Tryz.prog 50 [.ptr 3 0 0] (scL o0 o1 o2 s p acc) (fun o A => o = .ret (.tup []) ∧ A = scL o0 o1 o2 s (p + 1) acc) := by
  have hw2 : IntKind.wrap .i64 ((p : Int) + 1) = ((p + 1 : Nat) : Int) := by rw [w64 (by omega) (by omega)]; rfl
  refine callS_body (n := 9) rfl rfl fun w ρ X => ?_
  refine runS_x (I := inf) (J := jnf) ⟨false, false, [], 0, 0⟩ 9999 rfl (by repeat (first | exact obs_nil | refine obs_draw (by kernel_rfl) ?_ | refine obs_same ?_ | refine obs_and ?_ | refine obs_by (by (simp [inB] <;> omega)) ?_)) ?_
  refine runS_ret (I := inf) 5 rfl (Nat.le_refl _) rfl (by rw [hw2]; exact kS hk s (p + 1) acc) rfl ⟨rfl, by rw [hw2]⟩
theorem tkR_snoc {acc : List Tk} {v : Tk} {r2 : Nat → List AV} (h : r2 0 = tkE v) : ∀ j, j < acc.length + 1 → tkR (acc ++ [v]) j = appR acc.length (tkR acc) r2 j := fun j hj => encR_snoc h j hj
theorem k_put {o0 o1 o2 : AO} (hk : KeptS o0 o1 o2) (s : Str) (p : Nat) (acc : List Tk) (t : Tk) (ha : acc.length ≤ 30000) : CallT Tryz.prog 68 [.ptr 3 0 0, iv t.kind, iv t.at_, sv t.text] (scL o0 o1 o2 s p acc) (fun o A => o = .ret (.tup []) ∧ A = scL o0 o1 o2 s p (acc ++ [t])) := by
  refine callS_body (n := 21) rfl rfl fun w ρ X => ?_
  refine runS_x (I := inf) (J := jnf) ⟨false, false, [], 0, 0⟩ 9999 rfl (by repeat (first | exact obs_nil | refine obs_draw (by kernel_rfl) ?_ | refine obs_same ?_ | refine obs_and ?_ | refine obs_by (by (simp [inB] <;> omega)) ?_)) ?_
  refine runS_tell 4 (tkR (acc ++ [t])) rfl (m' := acc.length + 1) rfl (tkR_snoc rfl) rfl ?_
  have hl' : (acc ++ [t]).length = acc.length + 1 := by simp
  have hkk := kS hk s p (acc ++ [t])
  unfold scL at hkk ⊢
  rw [hl'] at hkk ⊢
  exact runS_ret (I := inf) 5 rfl (Nat.le_refl _) rfl hkk rfl ⟨rfl, rfl⟩
theorem k_while {o0 o1 o2 : AO} (hk : KeptS o0 o1 o2) (g : Nat) {gn : Func} {gc : Code} [Fun Tryz.prog g gn gc] (f : Nat → Bool) (hg : ∀ c, CallT Tryz.prog g [uv c] [] (fun o A => o = .ret (bv (f c)) ∧ A = [])) (s : Str) (p : Nat) (acc : List Tk) (hs : s.length ≤ 30000) (hp : p ≤ 30000) : CallT Tryz.prog 66 [.ptr 3 0 0, .fn (.func g) []] (scL o0 o1 o2 s p acc) (fun o A => o = .ret (.tup []) ∧ A = scL o0 o1 o2 s (spanN s f p) acc) := by
  refine callS_body (n := 34) rfl rfl fun w ρ X => ?_
  refine runS_x (I := inf) (J := jnf) ⟨false, false, [], 0, 0⟩ 9999 rfl (by repeat (first | exact obs_nil | refine obs_draw (by kernel_rfl) ?_ | refine obs_same ?_ | refine obs_and ?_ | refine obs_by (by (simp [inB] <;> omega)) ?_)) ?_
  refine runS_while (fun (q : Nat) τ ar => (τ 0 = .ptr 3 0 0 ∧ τ 1 = .fn (.func g) []) ∧ ar = scL o0 o1 o2 s q acc ∧ q ≤ 30000 ∧ spanN s f p = spanN s f q) (fun q => s.length - q) p ⟨⟨rfl, rfl⟩, rfl, hp, rfl⟩ ?_
  rintro q τ' ar' ⟨⟨g0, g1⟩, rfl, hq, he⟩ ih
  refine runS_says 0 (by exact g0) (Says.refl _) ?_; refine runS_says 1 (by exact g1) (Says.refl _) ?_
  refine runS_x (I := inf) (J := jnf) ⟨false, false, [], 0, 0⟩ 9999 rfl (by repeat (first | exact obs_nil | refine obs_draw (by kernel_rfl) ?_ | refine obs_same ?_ | refine obs_and ?_ | refine obs_by (by (simp [inB] <;> omega)) ?_)) ?_
  refine runS_draw 23 (by kernel_rfl) (lexj_x (I := inf) (J := jnf) 99 rfl rfl (by repeat (first | exact obs_nil | refine obs_same ?_ | refine obs_and ?_ | refine obs_by (by (simp [inB, blS] <;> omega)) ?_)) (lexj_callU rfl rfl (by first | exact .v rfl rfl rfl rfl | exact .o rfl rfl rfl rfl) rfl rfl (by repeat (first | exact .nil | refine .cons (.n rfl) ?_ | refine .cons .o ?_ | refine .cons gok_and ?_)) rfl rfl rfl rfl rfl (fun hcond => (hg (byt s q))) (lexj_x (I := inf) (J := jnf) 99 rfl rfl (by repeat (first | exact obs_nil | refine obs_same ?_ | refine obs_and ?_ | refine obs_by (by (simp [inB, blS] <;> omega)) ?_)) lexj_nil))) ?_
  refine runS_x (I := inf) (J := jnf) ⟨false, false, [], 0, 0⟩ 9999 rfl (by repeat (first | exact obs_nil | refine obs_draw (by kernel_rfl) ?_ | refine obs_same ?_ | refine obs_and ?_ | refine obs_by (by (simp [inB] <;> omega)) ?_)) ?_
  have hcd : (if decide ((q : Int) < (s.length : Int)) = true then f (byt s q) else false) = (decide (q < s.length) && f (byt s q)) := by
    by_cases h : q < s.length
    · simp [h]
    · simp [h]
  refine runS_cond rfl (fun h => ?_) (fun h => ?_)
  · have hb : q < s.length ∧ f (byt s q) = true := by have := hcd.symm.trans h; simpa using this
    have hw2 : IntKind.wrap .i64 ((q : Int) + 1) = ((q + 1 : Nat) : Int) := by rw [w64 (by omega) (by omega)]; rfl
    refine runS_x (I := inf) (J := jnf) ⟨false, false, [], 0, 0⟩ 9999 rfl (by repeat (first | exact obs_nil | refine obs_draw (by kernel_rfl) ?_ | refine obs_same ?_ | refine obs_and ?_ | refine obs_by (by (simp [inB] <;> omega)) ?_)) ?_
    refine ih (q + 1) _ _ (by omega) ⟨⟨rfl, rfl⟩, by rw [hw2], by omega, by rw [he, spanN_go hb.1 hb.2]⟩
  · have hb : ¬ (q < s.length ∧ f (byt s q) = true) := by
      have := hcd.symm.trans h
      intro hh
      simp [hh.1, hh.2] at this
    refine runS_x (I := inf) (J := jnf) ⟨false, false, [], 0, 0⟩ 9999 rfl (by repeat (first | exact obs_nil | refine obs_draw (by kernel_rfl) ?_ | refine obs_same ?_ | refine obs_and ?_ | refine obs_by (by (simp [inB] <;> omega)) ?_)) ?_
    rw [he, spanN_end hb]
    exact runS_ret (I := inf) 5 rfl (Nat.le_refl _) rfl (kS hk s q acc) rfl ⟨rfl, rfl⟩
end Go.Iron.Tryz

/- The token seat: the library's functions. -/
namespace Go.Iron.Tryz
open Go.Proofs Go.RowKit Go.Iron.Tok

theorem upperB_eq (b : UInt8) : Lib.upperB b = upB b := by
  have h : ∀ n : _root_.Fin 256, Lib.upperB (UInt8.ofNat n.val) = upB (UInt8.ofNat n.val) := by decide +kernel
  have := h ⟨b.toNat, b.toNat_lt⟩
  simpa using this
theorem lib_upper (s : Str) (hs : s.length ≤ 100000) (ha : ∀ b ∈ s, b.toNat < 128) : CallT Tryz.prog 69 [sv s] [] (fun o A => o = .ret (sv (upS s)) ∧ A = []) :=
  callT_lib fun w O vs hst hl hv => by
    obtain ⟨v, rfl⟩ : ∃ v, vs = #[v] := by
      obtain ⟨l⟩ := vs
      match l, hl with
      | [v], _ => exact ⟨v, rfl⟩
    have hv0 := rv_val (hv 0 _ v rfl rfl)
    subst hv0
    refine (Tryz.strings_ToUpper_ascii (bs s) w (show s.length ≤ _ by omega) (fun j b hb => ha b (List.mem_of_getElem? hb))).mono fun e w' hh => ?_
    obtain ⟨rfl, hB⟩ := hh
    refine ⟨_, rfl, hB, fun w'' O' => ?_⟩
    have : Lib.toUpperA (bs s).data.toList = upS s := by
      unfold Lib.toUpperA upS
      exact List.map_congr_left fun b _ => upperB_eq b
    rw [this]
    exact .val
theorem lib_trim (s cs : Str) (hs : s.length ≤ 100000) (hc : cs.length ≤ 100) (ha : ∀ b ∈ cs, b.toNat < 128) : CallT Tryz.prog 71 [sv s, sv cs] [] (fun o A => o = .ret (sv (Lib.trimS s cs)) ∧ A = []) :=
  callT_lib fun w O vs hst hl hv => by
    obtain ⟨v, v2, rfl⟩ : ∃ v v2, vs = #[v, v2] := by
      obtain ⟨l⟩ := vs
      match l, hl with
      | [v, v2], _ => exact ⟨v, v2, rfl⟩
    have hv0 := rv_val (hv 0 _ v rfl rfl)
    have hv1 := rv_val (hv 1 _ v2 rfl rfl)
    subst hv0
    subst hv1
    refine (Tryz.strings_Trim_laid (bs s) (bs cs) w (show s.length ≤ _ by omega) (show cs.length < _ by omega) (fun j b hb => ha b (List.mem_of_getElem? hb))).mono fun e w' hh => ?_
    obtain ⟨rfl, hB⟩ := hh
    exact ⟨_, rfl, hB, fun w'' O' => .val⟩
theorem lib_prefix (s p : Str) : CallT Tryz.prog 75 [sv s, sv p] [] (fun o A => o = .ret (bv (p.isPrefixOf s)) ∧ A = []) :=
  callT_lib fun w O vs hst hl hv => by
    obtain ⟨v, v2, rfl⟩ : ∃ v v2, vs = #[v, v2] := by
      obtain ⟨l⟩ := vs
      match l, hl with
      | [v, v2], _ => exact ⟨v, v2, rfl⟩
    have hv0 := rv_val (hv 0 _ v rfl rfl)
    have hv1 := rv_val (hv 1 _ v2 rfl rfl)
    subst hv0
    subst hv1
    refine (Tryz.strings_HasPrefix (bs s) (bs p) w).mono fun e w' hh => ?_
    obtain ⟨rfl, rfl⟩ := hh
    exact ⟨_, rfl, Below.refl _ _, fun w'' O' => .val⟩
theorem lib_indexByte (s : Str) (c : Nat) (hc : c ≤ 255) : CallT Tryz.prog 111 [sv s, uv c] [] (fun o A => o = .ret (iv (Lib.indexByte s (UInt8.ofNat c))) ∧ A = []) :=
  callT_lib fun w O vs hst hl hv => by
    obtain ⟨v, v2, rfl⟩ : ∃ v v2, vs = #[v, v2] := by
      obtain ⟨l⟩ := vs
      match l, hl with
      | [v, v2], _ => exact ⟨v, v2, rfl⟩
    have hv0 := rv_val (hv 0 _ v rfl rfl)
    have hv1 := rv_val (hv 1 _ v2 rfl rfl)
    subst hv0
    subst hv1
    refine (Tryz.strings_IndexByte (bs s) (c : Int) w).mono fun e w' hh => ?_
    obtain ⟨rfl, rfl⟩ := hh
    exact ⟨_, rfl, Below.refl _ _, fun w'' O' => .val⟩
theorem dropWhile_nil {α : Type} {p : α → Bool} : ∀ {l : List α}, l.dropWhile p = [] ↔ ∀ x ∈ l, p x = true
  | [] => by simp
  | a :: l => by
    rw [List.dropWhile_cons]
    split
    · rename_i h
      rw [dropWhile_nil]
      simp [h]
    · rename_i h
      simp [h]
theorem trim_nil (s cs : Str) : Lib.trimS s cs = [] ↔ ∀ b ∈ s, cs.contains b = true := by
  unfold Lib.trimS Lib.trimLeftS Lib.trimRightS
  rw [dropWhile_nil]
  constructor
  · intro h
    have h2 : s.reverse.dropWhile (cs.contains ·) = [] := by
      cases hd : s.reverse.dropWhile (cs.contains ·) with
      | nil => rfl
      | cons a l =>
        exfalso
        have h3 : cs.contains a = true := h a (by rw [hd]; simp)
        have h4 := List.head?_dropWhile_not (cs.contains ·) s.reverse
        rw [hd] at h4
        simp [h3] at h4
        simp [h4] at h3
    rw [dropWhile_nil] at h2
    exact fun b hb => h2 b (by simpa using hb)
  · intro h
    have h2 : s.reverse.dropWhile (cs.contains ·) = [] := dropWhile_nil.2 fun b hb => h b (by simpa using hb)
    rw [h2]
    simp
theorem trim_all (s : Str) : (Lib.trimS s [48, 49] = []) ↔ (s.all fun b => b.toNat == 48 || b.toNat == 49) = true := by
  rw [trim_nil, List.all_eq_true]
  refine forall_congr' fun b => forall_congr' fun _ => ?_
  simp [← UInt8.toNat_inj]
theorem trim_bits (s : Str) : (Lib.trimS s [48, 49, 46] = []) ↔ bits01 s = true := by
  unfold bits01
  rw [trim_nil, List.all_eq_true]
  refine forall_congr' fun b => forall_congr' fun _ => ?_
  simp [← UInt8.toNat_inj, or_assoc]
theorem part_mem {s : Str} {p q : Nat} {b : UInt8} (h : b ∈ Tok.part s p q) : ∃ j, p ≤ j ∧ j < q ∧ j < s.length ∧ b.toNat = byt s j := by
  obtain ⟨i, hi⟩ := List.mem_iff_getElem?.1 h
  unfold Tok.part at hi
  rw [List.getElem?_drop, List.getElem?_take] at hi
  split at hi
  · rename_i hq
    have hl := (List.getElem?_eq_some_iff.1 hi).1
    refine ⟨p + i, by omega, hq, hl, ?_⟩
    unfold byt
    rw [List.getD_eq_getElem?_getD, hi]
    rfl
  · cases hi
end Go.Iron.Tryz

/- The token seat: names, comments. -/
namespace Go.Iron.Tryz
open Go.Proofs Go.RowKit Go.Iron.Tok

abbrev sPtr : AV := .ptr 3 0 0
theorem upS_part_ascii {s : Str} {f : Nat → Bool} {p q : Nat} (h : ∀ j, p ≤ j → j < q → f (byt s j) = true) (hf : ∀ c, f c = true → c < 128) : ∀ b ∈ Tok.part s p q, b.toNat < 128 := fun b hb => by
  obtain ⟨j, h1, h2, _, h3⟩ := part_mem hb
  rw [h3]
  exact hf _ (h j h1 h2)
theorem go_ascii {c : Nat} (h : goP c = true) : c < 128 := by
  rcases Nat.lt_or_ge c 128 with h1 | h1
  · exact h1
  · exfalso
    have h2 : upN c = c := by unfold upN; rw [if_neg (by omega)]
    simp only [goP, begP, digP, h2, Bool.or_eq_true, Bool.and_eq_true, decide_eq_true_eq, beq_iff_eq] at h
    omega
theorem dig_go {c : Nat} (h : digP c = true) : goP c = true := by unfold goP; rw [h]; simp
theorem part_le (s : Str) (p q : Nat) : (Tok.part s p q).length ≤ s.length := by unfold Tok.part; rw [List.length_drop, List.length_take]; omega
theorem k_name {o0 o1 o2 : AO} (hk : KeptS o0 o1 o2) (s : Str) (p : Nat) (acc : List Tk) (hs : s.length ≤ 30000) (hp : p ≤ s.length) (ha : acc.length ≤ 30000) : CallT Tryz.prog 46 [sPtr] (scL o0 o1 o2 s p acc) (rdS o0 o1 o2 s acc (readName s p)) := by
  refine callS_body (n := 33) rfl rfl fun w ρ X => ?_
  refine runS_x (I := inf) (J := jnf) ⟨false, false, [], 0, 0⟩ 9999 rfl (by repeat (first | exact obs_nil | refine obs_draw (by kernel_rfl) ?_ | refine obs_same ?_ | refine obs_and ?_ | refine obs_by (by (simp [inB] <;> omega)) ?_)) ?_
  refine runS_callF (scL o0 o1 o2 s p acc) (scL o0 o1 o2 s (spanN s goP p) acc) [] rfl rfl rfl rfl rfl (show _ = [sPtr, .fn (.func 67) []] from rfl) rfl (kS hk s p acc) rfl rfl (k_while hk 67 goP k_goes s p acc hs (by omega)) ?_
  have h1 := spanN_le s goP p
  have h2 := spanN_in s goP p
  have hrn : readName s p = if spanN s goP p - p > 31 then .bad p else .ok (some ⟨1, upS (Tok.part s p (spanN s goP p)), p⟩) (spanN s goP p) := rfl
  generalize spanN s goP p = q at h1 h2 hrn ⊢
  have hw : IntKind.wrap .i64 ((q : Int) - (p : Int)) = ((q - p : Nat) : Int) := by rw [w64 (by omega) (by omega)]; omega
  refine runS_x (I := inf) (J := jnf) ⟨false, false, [], 0, 0⟩ 9999 rfl (by repeat (first | exact obs_nil | refine obs_draw (by kernel_rfl) ?_ | refine obs_same ?_ | refine obs_and ?_ | refine obs_by (by (simp [inB] <;> omega)) ?_)) ?_
  refine runS_cond rfl (fun h => ?_) (fun h => ?_)
  · have hb : q - p > 31 := by
      have : decide (IntKind.wrap .i64 ((q : Int) - (p : Int)) > 31) = true := h
      rw [hw] at this
      simp at this
      omega
    refine runS_x (I := inf) (J := jnf) ⟨false, false, [], 0, 0⟩ 9999 rfl (by repeat (first | exact obs_nil | refine obs_draw (by kernel_rfl) ?_ | refine obs_same ?_ | refine obs_and ?_ | refine obs_by (by (simp [inB] <;> omega)) ?_)) ?_
    refine runS_lose 3 rfl ?_
    refine runS_lose 4 rfl ?_
    rw [hrn, if_pos hb]
    exact runS_pan 5 rfl (Nat.le_refl _) rfl (kLost hk) ⟨rfl, rfl⟩
  · have hb : ¬ q - p > 31 := by
      have : decide (IntKind.wrap .i64 ((q : Int) - (p : Int)) > 31) = false := h
      rw [hw] at this
      simp at this
      omega
    have hup := lib_upper (Tok.part s p q) (by have := part_le s p q; omega) (upS_part_ascii h2 fun c => go_ascii)
    refine runS_x (I := inf) (J := jnf) ⟨false, false, [], 0, 0⟩ 9999 rfl (by repeat (first | exact obs_nil | refine obs_draw (by kernel_rfl) ?_ | refine obs_same ?_ | refine obs_and ?_ | refine obs_by (by (simp [inB] <;> omega)) ?_)) ?_
    refine runS_draw 13 (by kernel_rfl) (lexj_x (I := inf) (J := jnf) 99 rfl rfl (by repeat (first | exact obs_nil | refine obs_same ?_ | refine obs_and ?_ | refine obs_by (by (simp [inB, blS, h1] <;> omega)) ?_)) (lexj_call rfl rfl rfl rfl rfl rfl rfl rfl hup (lexj_x (I := inf) (J := jnf) 99 rfl rfl (by repeat (first | exact obs_nil | refine obs_same ?_ | refine obs_and ?_ | refine obs_by (by (simp [inB, blS, h1] <;> omega)) ?_)) lexj_nil))) ?_
    refine runS_x (I := inf) (J := jnf) ⟨false, false, [], 0, 0⟩ 9999 rfl (by repeat (first | exact obs_nil | refine obs_draw (by kernel_rfl) ?_ | refine obs_same ?_ | refine obs_and ?_ | refine obs_by (by (simp [inB] <;> omega)) ?_)) ?_
    rw [hrn, if_neg hb]
    refine runS_callF (scL o0 o1 o2 s q acc) (scL o0 o1 o2 s q (acc ++ [⟨1, upS (Tok.part s p q), p⟩])) [] rfl rfl rfl rfl rfl (show _ = [sPtr, iv 1, iv p, sv (upS (Tok.part s p q))] from rfl) rfl (kS hk s q acc) rfl rfl (k_put hk s q acc ⟨1, upS (Tok.part s p q), p⟩ ha) ?_
    refine runS_x (I := inf) (J := jnf) ⟨false, false, [], 0, 0⟩ 9999 rfl (by repeat (first | exact obs_nil | refine obs_draw (by kernel_rfl) ?_ | refine obs_same ?_ | refine obs_and ?_ | refine obs_by (by (simp [inB] <;> omega)) ?_)) ?_
    exact runS_ret (I := inf) 5 rfl (Nat.le_refl _) rfl (kS hk _ _ _) rfl ⟨rfl, rfl⟩
theorem comL_go {s : Str} {f p : Nat} (hp : p < s.length) (h1 : plP (byt s p) = true) (h2 : ¬ (byt s p = 42 ∧ byt s (p + 1) = 47)) : comL s f p = comL s f (p + 1) := by
  conv => lhs; rw [comL]
  rw [dif_pos hp, if_neg (by rw [h1]; decide), if_neg h2]
theorem k_comment {o0 o1 o2 : AO} (hk : KeptS o0 o1 o2) (s : Str) (p : Nat) (acc : List Tk) (hs : s.length ≤ 29000) (hp : p ≤ s.length) : CallT Tryz.prog 73 [sPtr] (scL o0 o1 o2 s p acc) (rdS o0 o1 o2 s acc (comL s p (p + 2))) := by
  have hw1 : IntKind.wrap .i64 ((p : Int) + 2) = ((p + 2 : Nat) : Int) := by rw [w64 (by omega) (by omega)]; rfl
  refine callS_body (n := 59) rfl rfl fun w ρ X => ?_
  refine runS_x (I := inf) (J := jnf) ⟨false, false, [], 0, 0⟩ 9999 rfl (by repeat (first | exact obs_nil | refine obs_draw (by kernel_rfl) ?_ | refine obs_same ?_ | refine obs_and ?_ | refine obs_by (by (simp [inB] <;> omega)) ?_)) ?_
  refine runS_while (fun (q : Nat) τ ar => (τ 0 = sPtr ∧ τ 2 = iv p) ∧ ar = scL o0 o1 o2 s q acc ∧ q ≤ s.length + 2 ∧ comL s p (p + 2) = comL s p q) (fun q => s.length - q) (p + 2) ⟨⟨rfl, rfl⟩, by rw [hw1], by omega, rfl⟩ ?_
  rintro q τ' ar' ⟨⟨g0, g2⟩, rfl, hq, he⟩ ih
  refine runS_says 0 (by exact g0) (Says.refl _) ?_; refine runS_says 2 (by exact g2) (Says.refl _) ?_
  refine runS_x (I := inf) (J := jnf) ⟨false, false, [], 0, 0⟩ 9999 rfl (by repeat (first | exact obs_nil | refine obs_draw (by kernel_rfl) ?_ | refine obs_same ?_ | refine obs_and ?_ | refine obs_by (by (simp [inB, blS] <;> omega)) ?_)) ?_
  have hw2 : IntKind.wrap .i64 ((q : Int) + 1) = ((q + 1 : Nat) : Int) := by rw [w64 (by omega) (by omega)]; rfl
  have hw3 : IntKind.wrap .i64 ((q : Int) + 2) = ((q + 2 : Nat) : Int) := by rw [w64 (by omega) (by omega)]; rfl
  refine runS_cond rfl (fun h => ?_) (fun h => ?_)
  · have hql : q < s.length := by
      have : decide ((q : Int) < (s.length : Int)) = true := h
      simp at this
      omega
    refine runS_x (I := inf) (J := jnf) ⟨false, false, [], 0, 0⟩ 9999 rfl (by repeat (first | exact obs_nil | refine obs_draw (by kernel_rfl) ?_ | refine obs_same ?_ | refine obs_and ?_ | refine obs_by (by (simp [inB] <;> omega)) ?_)) ?_
    refine runS_callF (scL o0 o1 o2 s q acc) (scL o0 o1 o2 s q acc) [] rfl rfl rfl rfl rfl (show _ = [sPtr, iv (0 : Nat)] from rfl) rfl (kS hk s q acc) rfl rfl (k_peek hk s q 0 acc (by omega) (by omega) (by omega)) ?_
    rw [Nat.add_zero]
    refine runS_x (I := inf) (J := jnf) ⟨false, false, [], 0, 0⟩ 9999 rfl (by repeat (first | exact obs_nil | refine obs_draw (by kernel_rfl) ?_ | refine obs_same ?_ | refine obs_and ?_ | refine obs_by (by (simp [inB] <;> omega)) ?_)) ?_
    refine runS_call rfl rfl rfl rfl rfl rfl rfl (k_plain (byt s q)) ?_
    refine runS_x (I := inf) (J := jnf) ⟨false, false, [], 0, 0⟩ 9999 rfl (by repeat (first | exact obs_nil | refine obs_draw (by kernel_rfl) ?_ | refine obs_same ?_ | refine obs_and ?_ | refine obs_by (by (simp [inB] <;> omega)) ?_)) ?_
    refine runS_cond rfl (fun h1 => ?_) (fun h1 => ?_)
    · have hb : plP (byt s q) = false := by simpa using h1
      refine runS_x (I := inf) (J := jnf) ⟨false, false, [], 0, 0⟩ 9999 rfl (by repeat (first | exact obs_nil | refine obs_draw (by kernel_rfl) ?_ | refine obs_same ?_ | refine obs_and ?_ | refine obs_by (by (simp [inB] <;> omega)) ?_)) ?_
      refine runS_lose 3 rfl ?_
      refine runS_lose 4 rfl ?_
      rw [he, comL, dif_pos hql, if_pos hb]
      exact runS_pan 5 rfl (Nat.le_refl _) rfl (kLost hk) ⟨rfl, rfl⟩
    · have hb : plP (byt s q) = true := by simpa using h1
      refine runS_x (I := inf) (J := jnf) ⟨false, false, [], 0, 0⟩ 9999 rfl (by repeat (first | exact obs_nil | refine obs_draw (by kernel_rfl) ?_ | refine obs_same ?_ | refine obs_and ?_ | refine obs_by (by (simp [inB] <;> omega)) ?_)) ?_
      refine runS_callF (scL o0 o1 o2 s q acc) (scL o0 o1 o2 s q acc) [] rfl rfl rfl rfl rfl (show _ = [sPtr, iv (0 : Nat)] from rfl) rfl (kS hk s q acc) rfl rfl (k_peek hk s q 0 acc (by omega) (by omega) (by omega)) ?_
      rw [Nat.add_zero]
      refine runS_x (I := inf) (J := jnf) ⟨false, false, [], 0, 0⟩ 9999 rfl (by repeat (first | exact obs_nil | refine obs_draw (by kernel_rfl) ?_ | refine obs_same ?_ | refine obs_and ?_ | refine obs_by (by (simp [inB] <;> omega)) ?_)) ?_
      refine runS_callUF (scL o0 o1 o2 s q acc) [] rfl rfl rfl (by first | exact .v rfl rfl rfl rfl | exact .o rfl rfl rfl rfl) rfl rfl (by repeat (first | exact .nil | refine .cons (.n rfl) ?_ | refine .cons .o ?_ | refine .cons gok_and ?_)) rfl rfl rfl (show _ = [sPtr, iv (1 : Nat)] from rfl) rfl (kS hk s q acc) (fun hcond => (k_peek hk s q 1 acc (by omega) (by omega) (by omega))) ?_
      refine runS_x (I := inf) (J := jnf) ⟨false, false, [], 0, 0⟩ 9999 rfl (by repeat (first | exact obs_nil | refine obs_draw (by kernel_rfl) ?_ | refine obs_same ?_ | refine obs_and ?_ | refine obs_by (by (simp [inB] <;> omega)) ?_)) ?_
      have hcd : (if (((byt s q : Nat) : Int) == 42) = true then (((byt s (q + 1) : Nat) : Int) == 47) else false) = decide (byt s q = 42 ∧ byt s (q + 1) = 47) := by
        rw [Bool.eq_iff_iff]
        by_cases h : byt s q = 42
        · simp [h]; omega
        · simp [h]; omega
      refine runS_cond rfl (fun h2 => ?_) (fun h2 => ?_)
      · have hc := of_decide_eq_true (hcd.symm.trans h2)
        refine runS_x (I := inf) (J := jnf) ⟨false, false, [], 0, 0⟩ 9999 rfl (by repeat (first | exact obs_nil | refine obs_draw (by kernel_rfl) ?_ | refine obs_same ?_ | refine obs_and ?_ | refine obs_by (by (simp [inB] <;> omega)) ?_)) ?_
        have e : comL s p q = .ok none (q + 2) := by rw [comL, dif_pos hql, if_neg (by rw [hb]; decide), if_pos hc]
        rw [he, e]
        exact runS_ret (I := inf) 5 rfl (Nat.le_refl _) rfl (by rw [hw3]; exact kS hk s (q + 2) acc) rfl ⟨rfl, by rw [hw3]⟩
      · have hc := of_decide_eq_false (hcd.symm.trans h2)
        refine runS_x (I := inf) (J := jnf) ⟨false, false, [], 0, 0⟩ 9999 rfl (by repeat (first | exact obs_nil | refine obs_draw (by kernel_rfl) ?_ | refine obs_same ?_ | refine obs_and ?_ | refine obs_by (by (simp [inB] <;> omega)) ?_)) ?_
        have e := comL_go (f := p) hql hb hc
        refine ih (q + 1) _ _ (by omega) ⟨⟨rfl, rfl⟩, by rw [hw2]; rfl, by omega, he.trans e⟩
  · have hql : ¬ q < s.length := by
      have : decide ((q : Int) < (s.length : Int)) = false := h
      simp at this
      omega
    refine runS_x (I := inf) (J := jnf) ⟨false, false, [], 0, 0⟩ 9999 rfl (by repeat (first | exact obs_nil | refine obs_draw (by kernel_rfl) ?_ | refine obs_same ?_ | refine obs_and ?_ | refine obs_by (by (simp [inB] <;> omega)) ?_)) ?_
    refine runS_lose 3 rfl ?_
    refine runS_lose 4 rfl ?_
    rw [he, comL, dif_neg hql]
    exact runS_pan 5 rfl (Nat.le_refl _) rfl (kLost hk) ⟨rfl, rfl⟩
end Go.Iron.Tryz

/- The token seat: numbers. -/
namespace Go.Iron.Tryz
open Go.Proofs Go.RowKit Go.Iron.Tok

def AscQ (s : Str) (p q : Nat) : Prop := ∀ j, p ≤ j → j < q → byt s j < 128
theorem ascQ_join {s : Str} {p q r : Nat} (h : AscQ s p q) (h2 : AscQ s q r) : AscQ s p r := fun j a b => by
  rcases Nat.lt_or_ge j q with c | c
  · exact h j a c
  · exact h2 j c b
theorem ascQ_one {s : Str} {p : Nat} (h : byt s p < 128) : AscQ s p (p + 1) := fun j a b => by rw [show j = p by omega]; exact h
theorem dig_lt {c : Nat} (h : digP c = true) : c < 128 := by simp [digP] at h; omega
theorem ascQ_span {s : Str} {p : Nat} : AscQ s p (spanN s digP p) := fun j a b => dig_lt (spanN_in s digP p j a b)
theorem up_lt {c v : Nat} (h : upN c = v) (h2 : v < 91) : c < 128 := by unfold upN at h; split at h <;> omega
theorem numD_asc {s : Str} {p : Nat} : AscQ s p (numD s p) := by
  unfold numD
  dsimp only
  split
  · rename_i h
    exact ascQ_join ascQ_span (ascQ_join (ascQ_one (by omega)) ascQ_span)
  · exact ascQ_span
theorem numE_asc {s : Str} {p : Nat} : AscQ s p (numE s p).1 := by
  unfold numE
  dsimp only
  split
  · rename_i h
    refine ascQ_join numD_asc (ascQ_join (ascQ_one (up_lt h (by decide))) ?_)
    refine ascQ_join (q := signE s (numD s p + 1)) ?_ ascQ_span
    unfold signE
    split
    · rename_i h2
      exact ascQ_one (by omega)
    · exact fun j a b => by omega
  · split
    · rename_i h
      exact ascQ_join numD_asc (ascQ_one (up_lt h (by decide)))
    · exact numD_asc
theorem asc_part {s : Str} {p q : Nat} (h : AscQ s p q) : ∀ b ∈ Tok.part s p q, b.toNat < 128 := fun b hb => by
  obtain ⟨j, h1, h2, _, h3⟩ := part_mem hb
  rw [h3]
  exact h j h1 h2
theorem readNum_bad {s : Str} {p : Nat} (h : (numE s p).2 = false) : readNum s p = .bad p := by
  unfold readNum
  rw [h]
  simp
theorem k_number {o0 o1 o2 : AO} (hk : KeptS o0 o1 o2) (s : Str) (p : Nat) (acc : List Tk) (hs : s.length ≤ 29000) (hp : p ≤ s.length) (ha : acc.length ≤ 30000) : CallT Tryz.prog 48 [sPtr] (scL o0 o1 o2 s p acc) (rdS o0 o1 o2 s acc (readNum s p)) := by
  refine callS_body (n := 118) rfl rfl fun w ρ X => ?_
  refine runS_x (I := inf) (J := jnf) ⟨false, false, [], 0, 0⟩ 9999 rfl (by repeat (first | exact obs_nil | refine obs_draw (by kernel_rfl) ?_ | refine obs_same ?_ | refine obs_and ?_ | refine obs_by (by (simp [inB] <;> omega)) ?_)) ?_
  refine runS_callF (scL o0 o1 o2 s p acc) (scL o0 o1 o2 s (spanN s digP p) acc) [] rfl rfl rfl rfl rfl (show _ = [sPtr, .fn (.func 47) []] from rfl) rfl (kS hk s p acc) rfl rfl (k_while hk 47 digP k_digit s p acc (by omega) (by omega)) ?_
  have hs1 := spanN_le s digP p
  have hnD : numD s p = if byt s (spanN s digP p) = 46 then spanN s digP (spanN s digP p + 1) else spanN s digP p := rfl
  generalize spanN s digP p = q1 at hs1 hnD ⊢
  refine runS_x (I := inf) (J := jnf) ⟨false, false, [], 0, 0⟩ 9999 rfl (by repeat (first | exact obs_nil | refine obs_draw (by kernel_rfl) ?_ | refine obs_same ?_ | refine obs_and ?_ | refine obs_by (by (simp [inB] <;> omega)) ?_)) ?_
  refine runS_callF (scL o0 o1 o2 s q1 acc) (scL o0 o1 o2 s q1 acc) [] rfl rfl rfl rfl rfl (show _ = [sPtr, iv (0 : Nat)] from rfl) rfl (kS hk s q1 acc) rfl rfl (k_peek hk s q1 0 acc (by omega) (by omega) (by omega)) ?_
  rw [Nat.add_zero]
  refine runS_x (I := inf) (J := jnf) ⟨false, false, [], 0, 0⟩ 9999 rfl (by repeat (first | exact obs_nil | refine obs_draw (by kernel_rfl) ?_ | refine obs_same ?_ | refine obs_and ?_ | refine obs_by (by (simp [inB] <;> omega)) ?_)) ?_
  refine runS_cut (fun τ ar => (τ 0 = sPtr ∧ τ 2 = iv p) ∧ ar = scL o0 o1 o2 s (numD s p) acc) (fun rest => ?_) ?_
  · refine runS_cond rfl (fun h => ?_) (fun h => ?_)
    · have hb : byt s q1 = 46 := by
        have : (((byt s q1 : Nat) : Int) == 46) = true := h
        simp at this
        omega
      have hql := byt_lt (s := s) (p := q1) (by omega)
      have hw2 : IntKind.wrap .i64 ((q1 : Int) + 1) = ((q1 + 1 : Nat) : Int) := by rw [w64 (by omega) (by omega)]; rfl
      refine runS_x (I := inf) (J := jnf) ⟨false, false, [], 2, 0⟩ 9999 rfl (by repeat (first | exact obs_nil | refine obs_draw (by kernel_rfl) ?_ | refine obs_same ?_ | refine obs_and ?_ | refine obs_by (by (simp [inB] <;> omega)) ?_)) ?_
      rw [hw2]
      refine runS_callF (scL o0 o1 o2 s (q1 + 1) acc) (scL o0 o1 o2 s (spanN s digP (q1 + 1)) acc) [] rfl rfl rfl rfl rfl (show _ = [sPtr, .fn (.func 47) []] from rfl) rfl (kS hk s (q1 + 1) acc) rfl rfl (k_while hk 47 digP k_digit s (q1 + 1) acc (by omega) (by omega)) ?_
      refine runS_x (I := inf) (J := jnf) ⟨false, false, [], 2, 0⟩ 9999 rfl (by repeat (first | exact obs_nil | refine obs_draw (by kernel_rfl) ?_ | refine obs_same ?_ | refine obs_and ?_ | refine obs_by (by (simp [inB] <;> omega)) ?_)) ?_
      exact rest _ _ ⟨⟨rfl, rfl⟩, by rw [hnD, if_pos hb]; rfl⟩
    · have hb : ¬ byt s q1 = 46 := by
        have : (((byt s q1 : Nat) : Int) == 46) = false := h
        simp at this
        omega
      refine runS_x (I := inf) (J := jnf) ⟨false, false, [], 2, 0⟩ 9999 rfl (by repeat (first | exact obs_nil | refine obs_draw (by kernel_rfl) ?_ | refine obs_same ?_ | refine obs_and ?_ | refine obs_by (by (simp [inB] <;> omega)) ?_)) ?_
      exact rest _ _ ⟨⟨rfl, rfl⟩, by rw [hnD, if_neg hb]; rfl⟩
  rintro τ2 ar2 ⟨⟨g0, g2⟩, rfl⟩
  refine runS_says 0 (by exact g0) (Says.refl _) ?_; refine runS_says 2 (by exact g2) (Says.refl _) ?_
  have hdl := numD_le (s := s) (p := p) hp
  have hnE : numE s p = if upN (byt s (numD s p)) = 69 then (spanN s digP (signE s (numD s p + 1)), decide (1 ≤ spanN s digP (signE s (numD s p + 1)) - signE s (numD s p + 1)) && decide (spanN s digP (signE s (numD s p + 1)) - signE s (numD s p + 1) ≤ 2)) else if upN (byt s (numD s p)) = 66 then (numD s p + 1, bits01 (Tok.part s p (numD s p))) else (numD s p, true) := rfl
  have hEl := numE_le (s := s) (p := p) hp
  generalize numD s p = q at hdl hnE hEl ⊢
  refine runS_x (I := inf) (J := jnf) ⟨false, false, [], 0, 0⟩ 9999 rfl (by repeat (first | exact obs_nil | refine obs_draw (by kernel_rfl) ?_ | refine obs_same ?_ | refine obs_and ?_ | refine obs_by (by (simp [inB, blS, hdl] <;> omega)) ?_)) ?_
  refine runS_callF (scL o0 o1 o2 s q acc) (scL o0 o1 o2 s q acc) [] rfl rfl rfl rfl rfl (show _ = [sPtr, iv (0 : Nat)] from rfl) rfl (kS hk s q acc) rfl rfl (k_peek hk s q 0 acc (by omega) (by omega) (by omega)) ?_
  rw [Nat.add_zero]
  refine runS_x (I := inf) (J := jnf) ⟨false, false, [], 0, 0⟩ 9999 rfl (by repeat (first | exact obs_nil | refine obs_draw (by kernel_rfl) ?_ | refine obs_same ?_ | refine obs_and ?_ | refine obs_by (by (simp [inB] <;> omega)) ?_)) ?_
  refine runS_call rfl rfl rfl rfl rfl rfl rfl (k_upper (byt s q)) ?_
  refine runS_x (I := inf) (J := jnf) ⟨false, false, [], 0, 0⟩ 9999 rfl (by repeat (first | exact obs_nil | refine obs_draw (by kernel_rfl) ?_ | refine obs_same ?_ | refine obs_and ?_ | refine obs_by (by (simp [inB] <;> omega)) ?_)) ?_
  refine runS_cut (fun τ ar => (τ 0 = sPtr ∧ τ 2 = iv p) ∧ ar = scL o0 o1 o2 s (numE s p).1 acc ∧ (numE s p).2 = true) (fun rest => ?_) ?_
  · refine runS_cond rfl (fun h => ?_) (fun h => ?_)
    · have hb : upN (byt s q) = 69 := by
        have : (((upN (byt s q) : Nat) : Int) == 69) = true := h
        simp at this
        omega
      rw [if_pos hb] at hnE
      have hql := byt_lt (s := s) (p := q) (upN_ne (by omega))
      have hw2 : IntKind.wrap .i64 ((q : Int) + 1) = ((q + 1 : Nat) : Int) := by rw [w64 (by omega) (by omega)]; rfl
      refine runS_x (I := inf) (J := jnf) ⟨false, false, [], 3, 0⟩ 9999 rfl (by repeat (first | exact obs_nil | refine obs_draw (by kernel_rfl) ?_ | refine obs_same ?_ | refine obs_and ?_ | refine obs_by (by (simp [inB] <;> omega)) ?_)) ?_
      rw [hw2]
      refine runS_callF (scL o0 o1 o2 s (q + 1) acc) (scL o0 o1 o2 s (q + 1) acc) [] rfl rfl rfl rfl rfl (show _ = [sPtr, iv (0 : Nat)] from rfl) rfl (kS hk s (q + 1) acc) rfl rfl (k_peek hk s (q + 1) 0 acc (by omega) (by omega) (by omega)) ?_
      rw [Nat.add_zero]
      refine runS_x (I := inf) (J := jnf) ⟨false, false, [], 3, 0⟩ 9999 rfl (by repeat (first | exact obs_nil | refine obs_draw (by kernel_rfl) ?_ | refine obs_same ?_ | refine obs_and ?_ | refine obs_by (by (simp [inB] <;> omega)) ?_)) ?_
      have hsl := signE_le (s := s) (k := q + 1) (by omega)
      have hsE : signE s (q + 1) = if byt s (q + 1) = 43 ∨ byt s (q + 1) = 45 then q + 1 + 1 else q + 1 := rfl
      refine runS_cut (fun τ ar => (τ 0 = sPtr ∧ τ 2 = iv p) ∧ ar = scL o0 o1 o2 s (signE s (q + 1)) acc) (fun rest => ?_) ?_
      · have hcd : (if (((byt s (q + 1) : Nat) : Int) == 43) = true then true else (((byt s (q + 1) : Nat) : Int) == 45)) = decide (byt s (q + 1) = 43 ∨ byt s (q + 1) = 45) := by
          rw [Bool.eq_iff_iff]
          simp
          omega
        refine runS_cond rfl (fun h1 => ?_) (fun h1 => ?_)
        · have hc := of_decide_eq_true (hcd.symm.trans h1)
          have hw3 : IntKind.wrap .i64 (((q + 1 : Nat) : Int) + 1) = ((q + 1 + 1 : Nat) : Int) := by rw [w64 (by omega) (by omega)]; rfl
          refine runS_x (I := inf) (J := jnf) ⟨false, false, [], 4, 0⟩ 9999 rfl (by repeat (first | exact obs_nil | refine obs_draw (by kernel_rfl) ?_ | refine obs_same ?_ | refine obs_and ?_ | refine obs_by (by (simp [inB] <;> omega)) ?_)) ?_
          exact rest _ _ ⟨⟨rfl, rfl⟩, by rw [hsE, if_pos hc, hw3]; rfl⟩
        · have hc := of_decide_eq_false (hcd.symm.trans h1)
          refine runS_x (I := inf) (J := jnf) ⟨false, false, [], 4, 0⟩ 9999 rfl (by repeat (first | exact obs_nil | refine obs_draw (by kernel_rfl) ?_ | refine obs_same ?_ | refine obs_and ?_ | refine obs_by (by (simp [inB] <;> omega)) ?_)) ?_
          exact rest _ _ ⟨⟨rfl, rfl⟩, by rw [hsE, if_neg hc]; rfl⟩
      rintro τ3 ar3 ⟨⟨g0, g2⟩, rfl⟩
      refine runS_says 0 (by exact g0) (Says.refl _) ?_; refine runS_says 2 (by exact g2) (Says.refl _) ?_
      generalize signE s (q + 1) = k at hnE hsl ⊢
      refine runS_x (I := inf) (J := jnf) ⟨false, false, [], 3, 0⟩ 9999 rfl (by repeat (first | exact obs_nil | refine obs_draw (by kernel_rfl) ?_ | refine obs_same ?_ | refine obs_and ?_ | refine obs_by (by (simp [inB] <;> omega)) ?_)) ?_
      refine runS_callF (scL o0 o1 o2 s k acc) (scL o0 o1 o2 s (spanN s digP k) acc) [] rfl rfl rfl rfl rfl (show _ = [sPtr, .fn (.func 47) []] from rfl) rfl (kS hk s k acc) rfl rfl (k_while hk 47 digP k_digit s k acc (by omega) (by omega)) ?_
      have hs1 := spanN_le s digP k
      generalize spanN s digP k = r at hs1 hnE ⊢
      have hw : IntKind.wrap .i64 ((r : Int) - (k : Int)) = ((r - k : Nat) : Int) := by rw [w64 (by omega) (by omega)]; omega
      refine runS_x (I := inf) (J := jnf) ⟨false, false, [], 3, 0⟩ 9999 rfl (by repeat (first | exact obs_nil | refine obs_draw (by kernel_rfl) ?_ | refine obs_same ?_ | refine obs_and ?_ | refine obs_by (by (simp [inB] <;> omega)) ?_)) ?_
      have hcd : (if decide (IntKind.wrap .i64 ((r : Int) - (k : Int)) < 1) = true then true else decide (IntKind.wrap .i64 ((r : Int) - (k : Int)) > 2)) = !(decide (1 ≤ r - k) && decide (r - k ≤ 2)) := by
        rw [hw, Bool.eq_iff_iff]
        simp
        omega
      refine runS_cond rfl (fun h1 => ?_) (fun h1 => ?_)
      · have hc := hcd.symm.trans h1
        refine runS_x (I := inf) (J := jnf) ⟨false, false, [], 3, 0⟩ 9999 rfl (by repeat (first | exact obs_nil | refine obs_draw (by kernel_rfl) ?_ | refine obs_same ?_ | refine obs_and ?_ | refine obs_by (by (simp [inB] <;> omega)) ?_)) ?_
        refine runS_lose 3 rfl ?_
        refine runS_lose 4 rfl ?_
        rw [readNum_bad (by rw [hnE]; simp at hc ⊢; omega)]
        exact runS_pan 5 rfl (Nat.le_refl _) rfl (kLost hk) ⟨rfl, rfl⟩
      · have hc := hcd.symm.trans h1
        refine runS_x (I := inf) (J := jnf) ⟨false, false, [], 3, 0⟩ 9999 rfl (by repeat (first | exact obs_nil | refine obs_draw (by kernel_rfl) ?_ | refine obs_same ?_ | refine obs_and ?_ | refine obs_by (by (simp [inB] <;> omega)) ?_)) ?_
        exact rest _ _ ⟨⟨rfl, rfl⟩, by rw [hnE]; rfl, by rw [hnE]; simp at hc ⊢; omega⟩
    · have hb : ¬ upN (byt s q) = 69 := by
        have : (((upN (byt s q) : Nat) : Int) == 69) = false := h
        simp at this
        omega
      rw [if_neg hb] at hnE
      refine runS_x (I := inf) (J := jnf) ⟨false, false, [], 3, 0⟩ 9999 rfl (by repeat (first | exact obs_nil | refine obs_draw (by kernel_rfl) ?_ | refine obs_same ?_ | refine obs_and ?_ | refine obs_by (by (simp [inB] <;> omega)) ?_)) ?_
      refine runS_cond rfl (fun h1 => ?_) (fun h1 => ?_)
      · have hb1 : upN (byt s q) = 66 := by
          have : (((upN (byt s q) : Nat) : Int) == 66) = true := h1
          simp at this
          omega
        rw [if_pos hb1] at hnE
        have hql := byt_lt (s := s) (p := q) (upN_ne (by omega))
        have hw2 : IntKind.wrap .i64 ((q : Int) + 1) = ((q + 1 : Nat) : Int) := by rw [w64 (by omega) (by omega)]; rfl
        refine runS_x (I := inf) (J := jnf) ⟨false, false, [], 3, 0⟩ 9999 rfl (by repeat (first | exact obs_nil | refine obs_draw (by kernel_rfl) ?_ | refine obs_same ?_ | refine obs_and ?_ | refine obs_by (by (simp [inB] <;> omega)) ?_)) ?_
        refine runS_call rfl rfl rfl rfl rfl rfl rfl (lib_trim (Tok.part s p q) [48, 49, 46] (by have := part_le s p q; omega) (by decide) (by decide)) ?_
        refine runS_x (I := inf) (J := jnf) ⟨false, false, [], 3, 0⟩ 9999 rfl (by repeat (first | exact obs_nil | refine obs_draw (by kernel_rfl) ?_ | refine obs_same ?_ | refine obs_and ?_ | refine obs_by (by (simp [inB] <;> omega)) ?_)) ?_
        have hcd : (!((bs (Lib.trimS (Tok.part s p q) [48, 49, 46])).toList == (ByteArray.mk #[]).toList)) = !bits01 (Tok.part s p q) := by
          rw [bs_toList, show (ByteArray.mk #[]).toList = [] from bs_toList [], Bool.eq_iff_iff]
          have := trim_bits (Tok.part s p q)
          cases hb : bits01 (Tok.part s p q) <;> simp [hb] at this ⊢ <;> exact this
        refine runS_cond rfl (fun h2 => ?_) (fun h2 => ?_)
        · have hc := hcd.symm.trans h2
          refine runS_x (I := inf) (J := jnf) ⟨false, false, [], 3, 0⟩ 9999 rfl (by repeat (first | exact obs_nil | refine obs_draw (by kernel_rfl) ?_ | refine obs_same ?_ | refine obs_and ?_ | refine obs_by (by (simp [inB] <;> omega)) ?_)) ?_
          refine runS_lose 3 rfl ?_
          refine runS_lose 4 rfl ?_
          rw [readNum_bad (by rw [hnE]; simpa using hc)]
          exact runS_pan 5 rfl (Nat.le_refl _) rfl (kLost hk) ⟨rfl, rfl⟩
        · have hc := hcd.symm.trans h2
          refine runS_x (I := inf) (J := jnf) ⟨false, false, [], 3, 0⟩ 9999 rfl (by repeat (first | exact obs_nil | refine obs_draw (by kernel_rfl) ?_ | refine obs_same ?_ | refine obs_and ?_ | refine obs_by (by (simp [inB] <;> omega)) ?_)) ?_
          exact rest _ _ ⟨⟨rfl, rfl⟩, by rw [hnE, hw2]; rfl, by rw [hnE]; simpa using hc⟩
      · have hb1 : ¬ upN (byt s q) = 66 := by
          have : (((upN (byt s q) : Nat) : Int) == 66) = false := h1
          simp at this
          omega
        rw [if_neg hb1] at hnE
        refine runS_x (I := inf) (J := jnf) ⟨false, false, [], 3, 0⟩ 9999 rfl (by repeat (first | exact obs_nil | refine obs_draw (by kernel_rfl) ?_ | refine obs_same ?_ | refine obs_and ?_ | refine obs_by (by (simp [inB] <;> omega)) ?_)) ?_
        exact rest _ _ ⟨⟨rfl, rfl⟩, by rw [hnE]; rfl, by rw [hnE]⟩
  rintro τ2 ar2 ⟨⟨g0, g2⟩, rfl, hok⟩
  refine runS_says 0 (by exact g0) (Says.refl _) ?_; refine runS_says 2 (by exact g2) (Says.refl _) ?_
  generalize hen : (numE s p).1 = e at hEl ⊢
  have hrn : readNum s p = if goP (byt s e) = false then .ok (some ⟨2, upS (Tok.part s p e), p⟩) e else .bad p := by
    unfold readNum
    rw [hok, hen]
    simp
  have hup := lib_upper (Tok.part s p e) (by have := part_le s p e; omega) (asc_part (by rw [← hen]; exact numE_asc))
  refine runS_x (I := inf) (J := jnf) ⟨false, false, [], 0, 0⟩ 9999 rfl (by repeat (first | exact obs_nil | refine obs_draw (by kernel_rfl) ?_ | refine obs_same ?_ | refine obs_and ?_ | refine obs_by (by (simp [inB] <;> omega)) ?_)) ?_
  refine runS_callF (scL o0 o1 o2 s e acc) (scL o0 o1 o2 s e acc) [] rfl rfl rfl rfl rfl (show _ = [sPtr, iv (0 : Nat)] from rfl) rfl (kS hk s e acc) rfl rfl (k_peek hk s e 0 acc (by omega) (by omega) (by omega)) ?_
  rw [Nat.add_zero]
  refine runS_x (I := inf) (J := jnf) ⟨false, false, [], 0, 0⟩ 9999 rfl (by repeat (first | exact obs_nil | refine obs_draw (by kernel_rfl) ?_ | refine obs_same ?_ | refine obs_and ?_ | refine obs_by (by (simp [inB] <;> omega)) ?_)) ?_
  refine runS_call rfl rfl rfl rfl rfl rfl rfl (k_goes (byt s e)) ?_
  refine runS_x (I := inf) (J := jnf) ⟨false, false, [], 0, 0⟩ 9999 rfl (by repeat (first | exact obs_nil | refine obs_draw (by kernel_rfl) ?_ | refine obs_same ?_ | refine obs_and ?_ | refine obs_by (by (simp [inB] <;> omega)) ?_)) ?_
  refine runS_cond rfl (fun h1 => ?_) (fun h1 => ?_)
  · have hc : goP (byt s e) = true := h1
    refine runS_x (I := inf) (J := jnf) ⟨false, false, [], 0, 0⟩ 9999 rfl (by repeat (first | exact obs_nil | refine obs_draw (by kernel_rfl) ?_ | refine obs_same ?_ | refine obs_and ?_ | refine obs_by (by (simp [inB] <;> omega)) ?_)) ?_
    refine runS_lose 3 rfl ?_
    refine runS_lose 4 rfl ?_
    rw [hrn, if_neg (by rw [hc]; decide)]
    exact runS_pan 5 rfl (Nat.le_refl _) rfl (kLost hk) ⟨rfl, rfl⟩
  · have hc : goP (byt s e) = false := h1
    refine runS_x (I := inf) (J := jnf) ⟨false, false, [], 0, 0⟩ 9999 rfl (by repeat (first | exact obs_nil | refine obs_draw (by kernel_rfl) ?_ | refine obs_same ?_ | refine obs_and ?_ | refine obs_by (by (simp [inB] <;> omega)) ?_)) ?_
    refine runS_draw 13 (by kernel_rfl) (lexj_x (I := inf) (J := jnf) 99 rfl rfl (by repeat (first | exact obs_nil | refine obs_same ?_ | refine obs_and ?_ | refine obs_by (by (simp [inB, blS, hEl] <;> omega)) ?_)) (lexj_call rfl rfl rfl rfl rfl rfl rfl rfl hup (lexj_x (I := inf) (J := jnf) 99 rfl rfl (by repeat (first | exact obs_nil | refine obs_same ?_ | refine obs_and ?_ | refine obs_by (by (simp [inB, blS, hEl] <;> omega)) ?_)) lexj_nil))) ?_
    refine runS_x (I := inf) (J := jnf) ⟨false, false, [], 0, 0⟩ 9999 rfl (by repeat (first | exact obs_nil | refine obs_draw (by kernel_rfl) ?_ | refine obs_same ?_ | refine obs_and ?_ | refine obs_by (by (simp [inB] <;> omega)) ?_)) ?_
    rw [hrn, if_pos hc]
    refine runS_callF (scL o0 o1 o2 s e acc) (scL o0 o1 o2 s e (acc ++ [⟨2, upS (Tok.part s p e), p⟩])) [] rfl rfl rfl rfl rfl (show _ = [sPtr, iv 2, iv p, sv (upS (Tok.part s p e))] from rfl) rfl (kS hk s e acc) rfl rfl (k_put hk s e acc ⟨2, upS (Tok.part s p e), p⟩ ha) ?_
    refine runS_x (I := inf) (J := jnf) ⟨false, false, [], 0, 0⟩ 9999 rfl (by repeat (first | exact obs_nil | refine obs_draw (by kernel_rfl) ?_ | refine obs_same ?_ | refine obs_and ?_ | refine obs_by (by (simp [inB] <;> omega)) ?_)) ?_
    exact runS_ret (I := inf) 5 rfl (Nat.le_refl _) rfl (kS hk _ _ _) rfl ⟨rfl, rfl⟩
end Go.Iron.Tryz

/- The token seat: operators. -/
namespace Go.Iron.Tryz
open Go.Proofs Go.RowKit Go.Iron.Tok

def txtR (xs : List Str) : Nat → List AV := encR (fun s => [sv s]) [] xs
def txtS (nl : Option Bool) (l : List Str) : AV := .slc 1 nl l.length (txtR l)
theorem txt_chunk (l : List Str) (i : Nat) (hi : i < l.length) : txtR l i = chunk 1 (l.map sv) i := by
  unfold txtR encR chunk
  rw [show i.mul 1 = i from Nat.mul_one i, List.drop_eq_getElem_cons (by simpa using hi), List.take_succ_cons, List.take_zero, List.getElem_map, List.getD_eq_getElem?_getD, List.getElem?_eq_getElem hi]
  rfl
theorem k_opers : CallT Tryz.prog 74 [] [] (fun o A => o = .ret (txtS none opers) ∧ A = []) := by
  refine callS_body (n := 2) rfl rfl fun w ρ X => ?_
  refine runS_x (I := inf) (J := jnf) ⟨false, false, [], 0, 0⟩ 9999 rfl (by repeat (first | exact obs_nil | refine obs_draw (by kernel_rfl) ?_ | refine obs_same ?_ | refine obs_and ?_ | refine obs_by (by (simp [inB] <;> omega)) ?_)) ?_
  refine runS_tell 0 (txtR opers) rfl (m' := 25) rfl (fun i hi => txt_chunk opers i hi) rfl ?_
  refine runS_freeze 0 rfl rfl rfl (fun j hj => rfl) ?_
  refine runS_ret (I := inf) 0 rfl (Nat.le_refl _) rfl .nil rfl ⟨?_, rfl⟩
  rfl
theorem find_at {α : Type} {f : α → Bool} {l : List α} {d : α} {i : Nat} (hi : i < l.length) (h : f (l.getD i d) = true) (hn : ∀ j, j < i → f (l.getD j d) = false) : l.find? f = some (l.getD i d) := by
  rw [List.find?_eq_some_iff_getElem]
  have e : ∀ j (hj : j < l.length), l.getD j d = l[j] := fun j hj => by rw [List.getD_eq_getElem?_getD, List.getElem?_eq_getElem hj]; rfl
  exact ⟨h, i, hi, (e i hi).symm, fun j hj => by rw [← e j (by omega), hn j hj]; rfl⟩
theorem find_no {α : Type} {f : α → Bool} {l : List α} {d : α} (hn : ∀ j, j < l.length → f (l.getD j d) = false) : l.find? f = none := by
  rw [List.find?_eq_none]
  intro x hx
  obtain ⟨i, hi, rfl⟩ := List.mem_iff_getElem.1 hx
  have := hn i hi
  rw [List.getD_eq_getElem?_getD, List.getElem?_eq_getElem hi] at this
  rw [show f l[i] = false from this]
  decide
theorem rd_same (s : Str) (p : Nat) (h : p ≤ s.length) : part2 (p : Int) (s.length : Int) s = s.drop p := by
  unfold part2
  simp
theorem opers_len : ∀ i, i < 25 → 1 ≤ (opers.getD i []).length ∧ (opers.getD i []).length ≤ 2 := by decide
theorem k_operator {o0 o1 o2 : AO} (hk : KeptS o0 o1 o2) (s : Str) (p : Nat) (acc : List Tk) (hs : s.length ≤ 29000) (hp : p < s.length) (ha : acc.length ≤ 30000) : CallT Tryz.prog 52 [sPtr] (scL o0 o1 o2 s p acc) (rdS o0 o1 o2 s acc (readOp s p)) := by
  refine callS_body (n := 66) rfl rfl fun w ρ X => ?_
  refine runS_x (I := inf) (J := jnf) ⟨false, false, [], 0, 0⟩ 9999 rfl (by repeat (first | exact obs_nil | refine obs_draw (by kernel_rfl) ?_ | refine obs_same ?_ | refine obs_and ?_ | refine obs_by (by (simp [inB] <;> omega)) ?_)) ?_
  refine runS_callF (scL o0 o1 o2 s p acc) (scL o0 o1 o2 s p acc) [] rfl rfl rfl rfl rfl (show _ = [sPtr, iv (0 : Nat)] from rfl) rfl (kS hk s p acc) rfl rfl (k_peek hk s p 0 acc (by omega) (by omega) (by omega)) ?_
  rw [Nat.add_zero]
  refine runS_x (I := inf) (J := jnf) ⟨false, false, [], 0, 0⟩ 9999 rfl (by repeat (first | exact obs_nil | refine obs_draw (by kernel_rfl) ?_ | refine obs_same ?_ | refine obs_and ?_ | refine obs_by (by (simp [inB] <;> omega)) ?_)) ?_
  refine runS_callUF (scL o0 o1 o2 s p acc) [] rfl rfl rfl (by first | exact .v rfl rfl rfl rfl | exact .o rfl rfl rfl rfl) rfl rfl (by repeat (first | exact .nil | refine .cons (.n rfl) ?_ | refine .cons .o ?_ | refine .cons gok_and ?_)) rfl rfl rfl (show _ = [sPtr, iv (1 : Nat)] from rfl) rfl (kS hk s p acc) (fun hcond => (k_peek hk s p 1 acc (by omega) (by omega) (by omega))) ?_
  refine runS_x (I := inf) (J := jnf) ⟨false, false, [], 0, 0⟩ 9999 rfl (by repeat (first | exact obs_nil | refine obs_draw (by kernel_rfl) ?_ | refine obs_same ?_ | refine obs_and ?_ | refine obs_by (by (simp [inB] <;> omega)) ?_)) ?_
  refine runS_callU rfl rfl (by first | exact .v rfl rfl rfl rfl | exact .o rfl rfl rfl rfl) rfl rfl (by repeat (first | exact .nil | refine .cons (.n rfl) ?_ | refine .cons .o ?_ | refine .cons gok_and ?_)) rfl rfl rfl rfl rfl (fun _ => (k_digit (byt s (p + 1)))) ?_
  refine runS_x (I := inf) (J := jnf) ⟨false, false, [], 0, 0⟩ 9999 rfl (by repeat (first | exact obs_nil | refine obs_draw (by kernel_rfl) ?_ | refine obs_same ?_ | refine obs_and ?_ | refine obs_by (by (simp [inB] <;> omega)) ?_)) ?_
  have hcd : (if (((byt s p : Nat) : Int) == 46) = true then digP (byt s (p + 1)) else false) = decide (byt s p = 46 ∧ digP (byt s (p + 1)) = true) := by
    rw [Bool.eq_iff_iff]
    by_cases h : byt s p = 46
    · simp [h]
    · simp [h]; omega
  refine runS_cond rfl (fun h => ?_) (fun h => ?_)
  · have hc := of_decide_eq_true (hcd.symm.trans h)
    have hro : readOp s p = readNum s p := by unfold readOp; rw [if_pos hc]
    have hcall := k_number hk s p acc hs (by omega) ha
    rw [hro]
    refine runS_x (I := inf) (J := jnf) ⟨false, false, [], 0, 0⟩ 9999 rfl (by repeat (first | exact obs_nil | refine obs_draw (by kernel_rfl) ?_ | refine obs_same ?_ | refine obs_and ?_ | refine obs_by (by (simp [inB] <;> omega)) ?_)) ?_
    cases hr : readNum s p with
    | bad q =>
      rw [hr] at hcall
      refine runS_callFP (scL o0 o1 o2 s p acc) (lostS o0 o1 o2) [] rfl rfl rfl rfl rfl (show _ = [sPtr] from rfl) rfl (kS hk s p acc) rfl rfl hcall ?_
      exact runS_pan 5 rfl (Nat.le_refl _) rfl (kLost hk) ⟨rfl, rfl⟩
    | ok t q =>
      rw [hr] at hcall
      cases t with
      | none =>
        refine runS_callF (scL o0 o1 o2 s p acc) (scL o0 o1 o2 s q acc) [] rfl rfl rfl rfl rfl (show _ = [sPtr] from rfl) rfl (kS hk s p acc) rfl rfl hcall ?_
        refine runS_x (I := inf) (J := jnf) ⟨false, false, [], 0, 0⟩ 9999 rfl (by repeat (first | exact obs_nil | refine obs_draw (by kernel_rfl) ?_ | refine obs_same ?_ | refine obs_and ?_ | refine obs_by (by (simp [inB] <;> omega)) ?_)) ?_
        exact runS_ret (I := inf) 5 rfl (Nat.le_refl _) rfl (kS hk _ _ _) rfl ⟨rfl, rfl⟩
      | some t =>
        refine runS_callF (scL o0 o1 o2 s p acc) (scL o0 o1 o2 s q (acc ++ [t])) [] rfl rfl rfl rfl rfl (show _ = [sPtr] from rfl) rfl (kS hk s p acc) rfl rfl hcall ?_
        refine runS_x (I := inf) (J := jnf) ⟨false, false, [], 0, 0⟩ 9999 rfl (by repeat (first | exact obs_nil | refine obs_draw (by kernel_rfl) ?_ | refine obs_same ?_ | refine obs_and ?_ | refine obs_by (by (simp [inB] <;> omega)) ?_)) ?_
        exact runS_ret (I := inf) 5 rfl (Nat.le_refl _) rfl (kS hk _ _ _) rfl ⟨rfl, rfl⟩
  · have hc := of_decide_eq_false (hcd.symm.trans h)
    refine runS_x (I := inf) (J := jnf) ⟨false, false, [], 0, 0⟩ 9999 rfl (by repeat (first | exact obs_nil | refine obs_draw (by kernel_rfl) ?_ | refine obs_same ?_ | refine obs_and ?_ | refine obs_by (by (simp [inB] <;> omega)) ?_)) ?_
    refine runS_callF (scL o0 o1 o2 s p acc) (scL o0 o1 o2 s p acc) [] rfl rfl rfl rfl rfl (show _ = [sPtr, iv (0 : Nat)] from rfl) rfl (kS hk s p acc) rfl rfl (k_peek hk s p 0 acc (by omega) (by omega) (by omega)) ?_
    rw [Nat.add_zero]
    refine runS_x (I := inf) (J := jnf) ⟨false, false, [], 0, 0⟩ 9999 rfl (by repeat (first | exact obs_nil | refine obs_draw (by kernel_rfl) ?_ | refine obs_same ?_ | refine obs_and ?_ | refine obs_by (by (simp [inB] <;> omega)) ?_)) ?_
    refine runS_callUF (scL o0 o1 o2 s p acc) [] rfl rfl rfl (by first | exact .v rfl rfl rfl rfl | exact .o rfl rfl rfl rfl) rfl rfl (by repeat (first | exact .nil | refine .cons (.n rfl) ?_ | refine .cons .o ?_ | refine .cons gok_and ?_)) rfl rfl rfl (show _ = [sPtr, iv (1 : Nat)] from rfl) rfl (kS hk s p acc) (fun hcond => (k_peek hk s p 1 acc (by omega) (by omega) (by omega))) ?_
    refine runS_x (I := inf) (J := jnf) ⟨false, false, [], 0, 0⟩ 9999 rfl (by repeat (first | exact obs_nil | refine obs_draw (by kernel_rfl) ?_ | refine obs_same ?_ | refine obs_and ?_ | refine obs_by (by (simp [inB] <;> omega)) ?_)) ?_
    have hcd2 : (if (((byt s p : Nat) : Int) == 47) = true then (((byt s (p + 1) : Nat) : Int) == 42) else false) = decide (byt s p = 47 ∧ byt s (p + 1) = 42) := by
      rw [Bool.eq_iff_iff]
      by_cases h : byt s p = 47
      · simp [h]; omega
      · simp [h]; omega
    refine runS_cond rfl (fun h2 => ?_) (fun h2 => ?_)
    · have hc2 := of_decide_eq_true (hcd2.symm.trans h2)
      have hro : readOp s p = comL s p (p + 2) := by unfold readOp; rw [if_neg hc, if_pos hc2]
      have hcall := k_comment hk s p acc hs (by omega)
      rw [hro]
      refine runS_x (I := inf) (J := jnf) ⟨false, false, [], 0, 0⟩ 9999 rfl (by repeat (first | exact obs_nil | refine obs_draw (by kernel_rfl) ?_ | refine obs_same ?_ | refine obs_and ?_ | refine obs_by (by (simp [inB] <;> omega)) ?_)) ?_
      cases hr : comL s p (p + 2) with
      | bad q =>
        rw [hr] at hcall
        refine runS_callFP (scL o0 o1 o2 s p acc) (lostS o0 o1 o2) [] rfl rfl rfl rfl rfl (show _ = [sPtr] from rfl) rfl (kS hk s p acc) rfl rfl hcall ?_
        exact runS_pan 5 rfl (Nat.le_refl _) rfl (kLost hk) ⟨rfl, rfl⟩
      | ok t q =>
        rw [hr] at hcall
        cases t with
        | none =>
          refine runS_callF (scL o0 o1 o2 s p acc) (scL o0 o1 o2 s q acc) [] rfl rfl rfl rfl rfl (show _ = [sPtr] from rfl) rfl (kS hk s p acc) rfl rfl hcall ?_
          refine runS_x (I := inf) (J := jnf) ⟨false, false, [], 0, 0⟩ 9999 rfl (by repeat (first | exact obs_nil | refine obs_draw (by kernel_rfl) ?_ | refine obs_same ?_ | refine obs_and ?_ | refine obs_by (by (simp [inB] <;> omega)) ?_)) ?_
          exact runS_ret (I := inf) 5 rfl (Nat.le_refl _) rfl (kS hk _ _ _) rfl ⟨rfl, rfl⟩
        | some t =>
          refine runS_callF (scL o0 o1 o2 s p acc) (scL o0 o1 o2 s q (acc ++ [t])) [] rfl rfl rfl rfl rfl (show _ = [sPtr] from rfl) rfl (kS hk s p acc) rfl rfl hcall ?_
          refine runS_x (I := inf) (J := jnf) ⟨false, false, [], 0, 0⟩ 9999 rfl (by repeat (first | exact obs_nil | refine obs_draw (by kernel_rfl) ?_ | refine obs_same ?_ | refine obs_and ?_ | refine obs_by (by (simp [inB] <;> omega)) ?_)) ?_
          exact runS_ret (I := inf) 5 rfl (Nat.le_refl _) rfl (kS hk _ _ _) rfl ⟨rfl, rfl⟩
    · have hc2 := of_decide_eq_false (hcd2.symm.trans h2)
      have hro : readOp s p = match opers.find? fun o => o.isPrefixOf (s.drop p) with
        | some o => .ok (some ⟨5, o, p⟩) (p + o.length)
        | none => .bad p := by unfold readOp; rw [if_neg hc, if_neg hc2] <;> rfl
      refine runS_x (I := inf) (J := jnf) ⟨false, false, [], 0, 0⟩ 9999 rfl (by repeat (first | exact obs_nil | refine obs_draw (by kernel_rfl) ?_ | refine obs_same ?_ | refine obs_and ?_ | refine obs_by (by (simp [inB] <;> omega)) ?_)) ?_
      refine runS_call rfl rfl rfl rfl rfl rfl rfl k_opers ?_
      refine runS_x (I := inf) (J := jnf) ⟨false, false, [], 0, 0⟩ 9999 rfl (by repeat (first | exact obs_nil | refine obs_draw (by kernel_rfl) ?_ | refine obs_same ?_ | refine obs_and ?_ | refine obs_by (by (simp [inB] <;> omega)) ?_)) ?_
      refine runS_while (fun (i : Nat) τ ar => (τ 0 = sPtr ∧ τ 26 = txtS none opers ∧ τ 27 = iv 25 ∧ τ 28 = iv i) ∧ ar = scL o0 o1 o2 s p acc ∧ i ≤ 25 ∧ ∀ j, j < i → (opers.getD j []).isPrefixOf (s.drop p) = false) (fun i => 25 - i) 0 ⟨⟨rfl, rfl, rfl, rfl⟩, rfl, by omega, fun j hj => by omega⟩ ?_
      rintro i τ' ar' ⟨⟨g0, g26, g27, g28⟩, rfl, hi, hn⟩ ih
      refine runS_says 0 (by exact g0) (Says.refl _) ?_; refine runS_says 26 (by exact g26) (Says.refl _) ?_; refine runS_says 27 (by exact g27) (Says.refl _) ?_; refine runS_says 28 (by exact g28) (Says.refl _) ?_
      refine runS_x (I := inf) (J := jnf) ⟨false, false, [], 0, 0⟩ 9999 rfl (by repeat (first | exact obs_nil | refine obs_draw (by kernel_rfl) ?_ | refine obs_same ?_ | refine obs_and ?_ | refine obs_by (by (simp [inB] <;> omega)) ?_)) ?_
      refine runS_cond rfl (fun h3 => ?_) (fun h3 => ?_)
      · have hi' : i < 25 := by simp at h3; omega
        have hol := opers_len i hi'
        have hpre := lib_prefix (s.drop p) (opers.getD i [])
        rw [← rd_same s p (by omega)] at hpre
        have hol2 : opers.length = 25 := rfl
        refine runS_x (I := inf) (J := jnf) ⟨false, false, [], 0, 0⟩ 9999 rfl (by repeat (first | exact obs_nil | refine obs_draw (by kernel_rfl) ?_ | refine obs_same ?_ | refine obs_and ?_ | refine obs_by (by (simp [inB, blS, hi', hol2] <;> omega)) ?_)) ?_
        refine runS_call rfl rfl rfl rfl rfl rfl rfl hpre ?_
        rw [rd_same s p (by omega)]
        refine runS_x (I := inf) (J := jnf) ⟨false, false, [], 0, 0⟩ 9999 rfl (by repeat (first | exact obs_nil | refine obs_draw (by kernel_rfl) ?_ | refine obs_same ?_ | refine obs_and ?_ | refine obs_by (by (simp [inB] <;> omega)) ?_)) ?_
        refine runS_cond rfl (fun h4 => ?_) (fun h4 => ?_)
        · have h4' : (opers.getD i []).isPrefixOf (s.drop p) = true := h4
          have hfd := find_at (f := fun o : Str => o.isPrefixOf (s.drop p)) (l := opers) (d := []) hi' h4' hn
          rw [hro, hfd]
          refine runS_x (I := inf) (J := jnf) ⟨false, false, [], 0, 0⟩ 9999 rfl (by repeat (first | exact obs_nil | refine obs_draw (by kernel_rfl) ?_ | refine obs_same ?_ | refine obs_and ?_ | refine obs_by (by (simp [inB] <;> omega)) ?_)) ?_
          refine runS_callF (scL o0 o1 o2 s p acc) (scL o0 o1 o2 s p (acc ++ [⟨5, opers.getD i [], p⟩])) [] rfl rfl rfl rfl rfl (show _ = [sPtr, iv 5, iv p, sv (opers.getD i [])] from rfl) rfl (kS hk s p acc) rfl rfl (k_put hk s p acc ⟨5, opers.getD i [], p⟩ ha) ?_
          refine runS_x (I := inf) (J := jnf) ⟨false, false, [], 0, 0⟩ 9999 rfl (by repeat (first | exact obs_nil | refine obs_draw (by kernel_rfl) ?_ | refine obs_same ?_ | refine obs_and ?_ | refine obs_by (by (simp [inB] <;> omega)) ?_)) ?_
          have hw : IntKind.wrap .i64 ((p : Int) + ((bl (bs (opers.getD ((i : Int)).toNat []))).length : Int)) = ((p + (opers.getD i []).length : Nat) : Int) := by
            rw [Int.toNat_natCast, blS, w64 (by omega) (by omega)]; rfl
          exact runS_ret (I := inf) 5 rfl (Nat.le_refl _) rfl (by rw [hw]; exact kS hk s (p + (opers.getD i []).length) (acc ++ [⟨5, opers.getD i [], p⟩])) rfl ⟨rfl, by rw [hw]⟩
        · have h4' : (opers.getD i []).isPrefixOf (s.drop p) = false := h4
          have hw : IntKind.wrap .i64 ((i : Int) + 1) = ((i + 1 : Nat) : Int) := by rw [w64 (by omega) (by omega)]; rfl
          refine runS_x (I := inf) (J := jnf) ⟨false, false, [], 0, 0⟩ 9999 rfl (by repeat (first | exact obs_nil | refine obs_draw (by kernel_rfl) ?_ | refine obs_same ?_ | refine obs_and ?_ | refine obs_by (by (simp [inB] <;> omega)) ?_)) ?_
          refine ih (i + 1) _ _ (by omega) ⟨⟨rfl, rfl, rfl, congrArg iv hw⟩, rfl, by omega, fun j hj => ?_⟩
          by_cases hji : j = i
          · subst hji; exact h4'
          · exact hn j (by omega)
      · have hi' : i = 25 := by simp at h3; omega
        subst hi'
        have hfd := find_no (f := fun o : Str => o.isPrefixOf (s.drop p)) (l := opers) (d := []) hn
        rw [hro, hfd]
        refine runS_x (I := inf) (J := jnf) ⟨false, false, [], 0, 0⟩ 9999 rfl (by repeat (first | exact obs_nil | refine obs_draw (by kernel_rfl) ?_ | refine obs_same ?_ | refine obs_and ?_ | refine obs_by (by (simp [inB] <;> omega)) ?_)) ?_
        refine runS_lose 3 rfl ?_
        refine runS_lose 4 rfl ?_
        exact runS_pan 5 rfl (Nat.le_refl _) rfl (kLost hk) ⟨rfl, rfl⟩
end Go.Iron.Tryz

/- The token seat: builders. -/
namespace Go.Iron.Tryz
open Go.Proofs Go.RowKit Go.Iron.Tok

def byR (l : Str) : Nat → List AV := encR (fun b => [uv b.toNat]) 0 l
abbrev bPtr : AV := .ptr 0 0 0
abbrev blV (a : AV) (v : Nat) (l : Str) : List AO := [.box 114 [a, .row 1 v], .row 5 1 v l.length (byR l)]
abbrev blL (a : AV) (l : Str) : List AO := blV a l.length l
abbrev nilP : AV := .val (.pointer none)
theorem kB0V (v : Nat) (l : Str) : Kept 2 (blV nilP v l) := .box rfl (.row (fun j hj => rfl) .nil)
theorem kB1V (v : Nat) (l : Str) : Kept 2 (blV bPtr v l) := .box rfl (.row (fun j hj => rfl) .nil)
theorem kB0 (l : Str) : Kept 2 (blL nilP l) := kB0V _ l
theorem kB1 (l : Str) : Kept 2 (blL bPtr l) := kB1V _ l
theorem infoB : ∃ j, Tryz.prog.info? 114 = some j ∧ j.size ≠ 0 := by
  obtain ⟨j, hj, hs⟩ := Option.map_eq_some_iff.1 (show (Tryz.prog.info? 114).map (·.size) = some 2 from by kernel_rfl)
  exact ⟨j, hj, by rw [hs]; decide⟩
theorem b_check0V (v : Nat) (l : Str) : CallT Tryz.prog 124 [bPtr] (blV nilP v l) (fun o A => o = .ret (.tup []) ∧ A = blV bPtr v l) := by
  obtain ⟨j, hj, hz⟩ := infoB
  refine callS_body (n := 20) rfl rfl fun w ρ X => ?_
  refine runS_x (I := inf) (J := jnf) ⟨false, false, [], 0, 0⟩ 9999 rfl (by repeat (first | exact obs_nil | refine obs_draw (by kernel_rfl) ?_ | refine obs_same ?_ | refine obs_and ?_ | refine obs_by (by (simp [inB] <;> omega)) ?_)) ?_
  refine runS_op (.val (.bool true)) rfl rfl rfl (op_pnilNil Tryz.underlying112 rfl rfl rfl) ?_
  refine runS_x (I := inf) (J := jnf) ⟨false, false, [], 0, 0⟩ 9999 rfl (by repeat (first | exact obs_nil | refine obs_draw (by kernel_rfl) ?_ | refine obs_same ?_ | refine obs_and ?_ | refine obs_by (by (simp [inB] <;> omega)) ?_)) ?_
  refine runS_cond rfl (fun h => ?_) (fun h => by cases h)
  refine runS_x (I := inf) (J := jnf) ⟨false, false, [], 0, 0⟩ 9999 rfl (by repeat (first | exact obs_nil | refine obs_draw (by kernel_rfl) ?_ | refine obs_same ?_ | refine obs_and ?_ | refine obs_by (by (simp [inB] <;> omega)) ?_)) ?_
  refine runS_op bPtr rfl rfl rfl (op_toUnsafe Tryz.underlying112 Tryz.underlying157 hj hz rfl rfl rfl rfl) ?_
  refine runS_x (I := inf) (J := jnf) ⟨false, false, [], 0, 0⟩ 9999 rfl (by repeat (first | exact obs_nil | refine obs_draw (by kernel_rfl) ?_ | refine obs_same ?_ | refine obs_and ?_ | refine obs_by (by (simp [inB] <;> omega)) ?_)) ?_
  refine runS_op bPtr rfl rfl rfl (op_noEscape Tryz.func141 (by kernel_rfl) (by kernel_rfl) (by kernel_rfl) (by kernel_rfl) rfl rfl) ?_
  refine runS_x (I := inf) (J := jnf) ⟨false, false, [], 0, 0⟩ 9999 rfl (by repeat (first | exact obs_nil | refine obs_draw (by kernel_rfl) ?_ | refine obs_same ?_ | refine obs_and ?_ | refine obs_by (by (simp [inB] <;> omega)) ?_)) ?_
  refine runS_op bPtr rfl rfl rfl (op_fromUnsafe Tryz.underlying157 Tryz.underlying112 hj (by kernel_rfl) rfl rfl rfl) ?_
  refine runS_x (I := inf) (J := jnf) ⟨false, false, [], 0, 0⟩ 9999 rfl (by repeat (first | exact obs_nil | refine obs_draw (by kernel_rfl) ?_ | refine obs_same ?_ | refine obs_and ?_ | refine obs_by (by (simp [inB] <;> omega)) ?_)) ?_
  exact runS_ret (I := inf) 2 rfl (Nat.le_refl _) rfl (kB1V v l) rfl ⟨rfl, rfl⟩
theorem b_check1V (v : Nat) (l : Str) : CallT Tryz.prog 124 [bPtr] (blV bPtr v l) (fun o A => o = .ret (.tup []) ∧ A = blV bPtr v l) := by
  obtain ⟨j, hj, hz⟩ := infoB
  refine callS_body (n := 20) rfl rfl fun w ρ X => ?_
  refine runS_x (I := inf) (J := jnf) ⟨false, false, [], 0, 0⟩ 9999 rfl (by repeat (first | exact obs_nil | refine obs_draw (by kernel_rfl) ?_ | refine obs_same ?_ | refine obs_and ?_ | refine obs_by (by (simp [inB] <;> omega)) ?_)) ?_
  refine runS_op (.val (.bool false)) rfl rfl rfl (op_ptrNil Tryz.underlying112 rfl rfl rfl rfl) ?_
  refine runS_x (I := inf) (J := jnf) ⟨false, false, [], 0, 0⟩ 9999 rfl (by repeat (first | exact obs_nil | refine obs_draw (by kernel_rfl) ?_ | refine obs_same ?_ | refine obs_and ?_ | refine obs_by (by (simp [inB] <;> omega)) ?_)) ?_
  refine runS_cond rfl (fun h => by cases h) (fun h => ?_)
  refine runS_x (I := inf) (J := jnf) ⟨false, false, [], 0, 0⟩ 9999 rfl (by repeat (first | exact obs_nil | refine obs_draw (by kernel_rfl) ?_ | refine obs_same ?_ | refine obs_and ?_ | refine obs_by (by (simp [inB] <;> omega)) ?_)) ?_
  refine runS_op (.val (.bool false)) rfl rfl rfl (op_neqSame Tryz.underlying112 hj rfl rfl rfl rfl) ?_
  refine runS_x (I := inf) (J := jnf) ⟨false, false, [], 0, 0⟩ 9999 rfl (by repeat (first | exact obs_nil | refine obs_draw (by kernel_rfl) ?_ | refine obs_same ?_ | refine obs_and ?_ | refine obs_by (by (simp [inB] <;> omega)) ?_)) ?_
  refine runS_cond rfl (fun h => by cases h) (fun h => ?_)
  refine runS_x (I := inf) (J := jnf) ⟨false, false, [], 0, 0⟩ 9999 rfl (by repeat (first | exact obs_nil | refine obs_draw (by kernel_rfl) ?_ | refine obs_same ?_ | refine obs_and ?_ | refine obs_by (by (simp [inB] <;> omega)) ?_)) ?_
  exact runS_ret (I := inf) 2 rfl (Nat.le_refl _) rfl (kB1V v l) rfl ⟨rfl, rfl⟩
theorem byR_snoc {acc : Str} {v : UInt8} {r2 : Nat → List AV} (h : r2 0 = [uv v.toNat]) : ∀ j, j < acc.length + 1 → byR (acc ++ [v]) j = appR acc.length (byR acc) r2 j := fun j hj => encR_snoc (enc := fun b : UInt8 => [uv b.toNat]) h j hj
theorem b_check0 (l : Str) : CallT Tryz.prog 124 [bPtr] (blL nilP l) (fun o A => o = .ret (.tup []) ∧ A = blL bPtr l) := b_check0V _ l
theorem b_check1 (l : Str) : CallT Tryz.prog 124 [bPtr] (blL bPtr l) (fun o A => o = .ret (.tup []) ∧ A = blL bPtr l) := b_check1V _ l
theorem b_byteV {a : AV} {v : Nat} {l : Str} (ha : Kept 2 (blV a v l)) (hc : CallT Tryz.prog 124 [bPtr] (blV a v l) (fun o A => o = .ret (.tup []) ∧ A = blV bPtr v l)) (c : UInt8) (hl : l.length ≤ 100000000) : CallT Tryz.prog 100 [bPtr, uv c.toNat] (blV a v l) (fun o A => o = .ret (.val .nilIface) ∧ A = blV bPtr (v + 1) (l ++ [c])) := by
  refine callS_body (n := 17) rfl rfl fun w ρ X => ?_
  refine runS_x (I := inf) (J := jnf) ⟨false, false, [], 0, 0⟩ 9999 rfl (by repeat (first | exact obs_nil | refine obs_draw (by kernel_rfl) ?_ | refine obs_same ?_ | refine obs_and ?_ | refine obs_by (by (simp [inB] <;> omega)) ?_)) ?_
  refine runS_callF (blV a v l) (blV bPtr v l) [] rfl rfl rfl rfl rfl (show _ = [bPtr] from rfl) rfl ha rfl rfl hc ?_
  refine runS_x (I := inf) (J := jnf) ⟨false, false, [], 0, 0⟩ 9999 rfl (by repeat (first | exact obs_nil | refine obs_draw (by kernel_rfl) ?_ | refine obs_same ?_ | refine obs_and ?_ | refine obs_by (by (simp [inB] <;> omega)) ?_)) ?_
  refine runS_tell 1 (byR (l ++ [c])) rfl (m' := l.length + 1) rfl (byR_snoc rfl) rfl ?_
  have hl' : (l ++ [c]).length = l.length + 1 := by simp
  have hkk := kB1V (v + 1) (l ++ [c])
  unfold blV at hkk ⊢
  rw [hl'] at hkk ⊢
  exact runS_ret (I := inf) 2 rfl (Nat.le_refl _) rfl hkk rfl ⟨rfl, rfl⟩
theorem b_byte {a : AV} {l : Str} (ha : Kept 2 (blL a l)) (hc : CallT Tryz.prog 124 [bPtr] (blL a l) (fun o A => o = .ret (.tup []) ∧ A = blL bPtr l)) (c : UInt8) (hl : l.length ≤ 100000000) : CallT Tryz.prog 100 [bPtr, uv c.toNat] (blL a l) (fun o A => o = .ret (.val .nilIface) ∧ A = blL bPtr (l ++ [c])) := by
  have h := b_byteV ha hc c hl
  have e : (l ++ [c]).length = l.length + 1 := by simp
  rw [← e] at h
  exact h
theorem b_byte0 (l : Str) (c : UInt8) (hl : l.length ≤ 100000000) : CallT Tryz.prog 100 [bPtr, uv c.toNat] (blL nilP l) (fun o A => o = .ret (.val .nilIface) ∧ A = blL bPtr (l ++ [c])) := b_byte (kB0 l) (b_check0 l) c hl
theorem b_byte1 (l : Str) (c : UInt8) (hl : l.length ≤ 100000000) : CallT Tryz.prog 100 [bPtr, uv c.toNat] (blL bPtr l) (fun o A => o = .ret (.val .nilIface) ∧ A = blL bPtr (l ++ [c])) := b_byte (kB1 l) (b_check1 l) c hl
theorem b_textV (v : Nat) (l : Str) (hl : l.length ≤ 100000000) (h0 : 0 < l.length) : CallT Tryz.prog 101 [bPtr] (blV bPtr v l) (fun o A => o = .ret (sv l) ∧ A = [.box 114 [bPtr, .row 1 v], .gone]) := by
  refine callS_body (n := 14) rfl rfl fun w ρ X => ?_
  refine runS_x (I := inf) (J := jnf) ⟨false, false, [], 0, 0⟩ 9999 rfl (by repeat (first | exact obs_nil | refine obs_draw (by kernel_rfl) ?_ | refine obs_same ?_ | refine obs_and ?_ | refine obs_by (by (simp [inB] <;> omega)) ?_)) ?_
  refine runS_draw 10 (by kernel_rfl) (lexj_x (I := inf) (J := jnf) 99 rfl rfl (by repeat (first | exact obs_nil | refine obs_same ?_ | refine obs_and ?_ | refine obs_by (by simp) ?_)) (lexj_sliceData rfl rfl rfl rfl rfl rfl rfl h0 (lexj_x (I := inf) (J := jnf) 99 rfl rfl (by repeat (first | exact obs_nil | refine obs_same ?_ | refine obs_and ?_ | refine obs_by (by simp) ?_)) lexj_nil))) ?_
  refine runS_x (I := inf) (J := jnf) ⟨false, false, [], 0, 0⟩ 9999 rfl (by repeat (first | exact obs_nil | refine obs_draw (by kernel_rfl) ?_ | refine obs_same ?_ | refine obs_and ?_ | refine obs_by (by (simp [inB] <;> omega)) ?_)) ?_
  refine runS_opA (.val (.string (bs l))) rfl rfl rfl (op_unsafeString Tryz.underlying144 (by kernel_rfl) rfl rfl rfl rfl h0 l rfl (fun i b hi => ?_) rfl) ?_
  · show [uv (l.getD i 0).toNat] = _
    rw [List.getD_eq_getElem?_getD, hi]
    rfl
  refine runS_x (I := inf) (J := jnf) ⟨false, false, [], 0, 0⟩ 9999 rfl (by repeat (first | exact obs_nil | refine obs_draw (by kernel_rfl) ?_ | refine obs_same ?_ | refine obs_and ?_ | refine obs_by (by (simp [inB] <;> omega)) ?_)) ?_
  exact runS_ret (I := inf) 2 rfl (Nat.le_refl _) rfl (.box rfl (.gone .nil)) rfl ⟨rfl, rfl⟩
theorem b_text (l : Str) (hl : l.length ≤ 100000000) (h0 : 0 < l.length) : CallT Tryz.prog 101 [bPtr] (blL bPtr l) (fun o A => o = .ret (sv l) ∧ A = [.box 114 [bPtr, .row 1 l.length], .gone]) := b_textV _ l hl h0
end Go.Iron.Tryz

/- The token seat: hexadecimal digits. -/
namespace Go.Iron.Tryz
open Go.Proofs Go.RowKit Go.Iron.Tok

def bytS (nl : Option Bool) (l : Str) : AV := .slc 1 nl l.length (byR l)
theorem b_text0 : CallT Tryz.prog 101 [bPtr] [.box 114 [nilP, .val (.slice none 0 0)]] (fun o A => o = .ret (sv []) ∧ A = [.box 114 [nilP, .val (.slice none 0 0)]]) := by
  refine callS_body (n := 14) rfl rfl fun w ρ X => ?_
  refine runS_x (I := inf) (J := jnf) ⟨false, false, [], 0, 0⟩ 9999 rfl (by repeat (first | exact obs_nil | refine obs_draw (by kernel_rfl) ?_ | refine obs_same ?_ | refine obs_and ?_ | refine obs_by (by (simp [inB] <;> omega)) ?_)) ?_
  refine runS_draw 10 (by kernel_rfl) (lexj_x (I := inf) (J := jnf) 99 rfl rfl (by repeat (first | exact obs_nil | refine obs_same ?_ | refine obs_and ?_ | refine obs_by (by simp) ?_)) (lexj_sliceDataNil rfl rfl rfl rfl rfl rfl (lexj_x (I := inf) (J := jnf) 99 rfl rfl (by repeat (first | exact obs_nil | refine obs_same ?_ | refine obs_and ?_ | refine obs_by (by simp) ?_)) lexj_nil))) ?_
  refine runS_x (I := inf) (J := jnf) ⟨false, false, [], 0, 0⟩ 9999 rfl (by repeat (first | exact obs_nil | refine obs_draw (by kernel_rfl) ?_ | refine obs_same ?_ | refine obs_and ?_ | refine obs_by (by (simp [inB] <;> omega)) ?_)) ?_
  refine runS_op (.val (.string ⟨#[]⟩)) rfl rfl rfl (op_unsafeString0 rfl rfl rfl) ?_
  refine runS_x (I := inf) (J := jnf) ⟨false, false, [], 0, 0⟩ 9999 rfl (by repeat (first | exact obs_nil | refine obs_draw (by kernel_rfl) ?_ | refine obs_same ?_ | refine obs_and ?_ | refine obs_by (by (simp [inB] <;> omega)) ?_)) ?_
  exact runS_ret (I := inf) 1 rfl (Nat.le_refl _) rfl (.box rfl .nil) rfl ⟨rfl, rfl⟩
theorem hexL_app : ∀ (a b : Str), hexL (a ++ b) = match hexL a, hexL b with
    | some x, some y => some (x ++ y)
    | _, _ => none
  | [], b => by
    rw [List.nil_append, hexL]
    cases hexL b <;> rfl
  | c :: a, b => by
    rw [List.cons_append, hexL, hexL, hexL_app a b]
    cases hexN c.toNat <;> cases hexL a <;> cases hexL b <;> simp
theorem hexL_one (c : UInt8) : hexL [c] = match hexN c.toNat with
    | some n => some (bit4 n)
    | none => none := by
  rw [hexL, hexL]
  cases hexN c.toNat <;> simp
theorem hex_index (c : Nat) (hc : c ≤ 255) : Lib.indexByte [48, 49, 50, 51, 52, 53, 54, 55, 56, 57, 65, 66, 67, 68, 69, 70] (UInt8.ofNat (upN c)) = match hexN c with
    | some n => (n : Int)
    | none => -1 := by
  have h : ∀ n : _root_.Fin 256, Lib.indexByte [48, 49, 50, 51, 52, 53, 54, 55, 56, 57, 65, 66, 67, 68, 69, 70] (UInt8.ofNat (upN n.val)) = match hexN n.val with
    | some n => (n : Int)
    | none => -1 := by decide +kernel
  exact h ⟨c, by omega⟩
theorem hexN_le {c n : Nat} (h : hexN c = some n) : n ≤ 15 := by
  unfold hexN at h
  split at h
  · injection h; omega
  · split at h
    · injection h; omega
    · cases h
def aOf : Nat → AV
  | 0 => nilP
  | _ + 1 => bPtr
theorem kA (i : Nat) (l : Str) : Kept 2 (blL (aOf i) l) := by cases i; exact kB0 l; exact kB1 l
theorem b_byteA (i : Nat) (l : Str) (c : UInt8) (hl : l.length ≤ 100000000) : CallT Tryz.prog 100 [bPtr, uv c.toNat] (blL (aOf i) l) (fun o A => o = .ret (.val .nilIface) ∧ A = blL bPtr (l ++ [c])) := by
  cases i
  · exact b_byte0 l c hl
  · exact b_byte1 l c hl
def hbit (n k : Nat) : UInt8 := UInt8.ofNat (48 + n / 2 ^ k % 2)
theorem hex_bit3 (n : Nat) (hn : n ≤ 15) : IntKind.wrap .u8 (48 + IntKind.wrap .u8 (IntKind.wrap .i64 ((((((n : Int).fdiv (2 ^ min (3 : Int).toNat IntKind.i64.bits)) % 2 ^ IntKind.i64.bits).toNat &&& ((1 : Int) % 2 ^ IntKind.i64.bits).toNat : Nat)) : Int))) = ((hbit n 3).toNat : Int) := by
  have h : ∀ n : _root_.Fin 16, IntKind.wrap .u8 (48 + IntKind.wrap .u8 (IntKind.wrap .i64 ((((((n.val : Int).fdiv (2 ^ min (3 : Int).toNat IntKind.i64.bits)) % 2 ^ IntKind.i64.bits).toNat &&& ((1 : Int) % 2 ^ IntKind.i64.bits).toNat : Nat)) : Int))) = ((hbit n.val 3).toNat : Int) := by decide +kernel
  exact h ⟨n, by omega⟩
theorem hex_bit2 (n : Nat) (hn : n ≤ 15) : IntKind.wrap .u8 (48 + IntKind.wrap .u8 (IntKind.wrap .i64 ((((((n : Int).fdiv (2 ^ min (2 : Int).toNat IntKind.i64.bits)) % 2 ^ IntKind.i64.bits).toNat &&& ((1 : Int) % 2 ^ IntKind.i64.bits).toNat : Nat)) : Int))) = ((hbit n 2).toNat : Int) := by
  have h : ∀ n : _root_.Fin 16, IntKind.wrap .u8 (48 + IntKind.wrap .u8 (IntKind.wrap .i64 ((((((n.val : Int).fdiv (2 ^ min (2 : Int).toNat IntKind.i64.bits)) % 2 ^ IntKind.i64.bits).toNat &&& ((1 : Int) % 2 ^ IntKind.i64.bits).toNat : Nat)) : Int))) = ((hbit n.val 2).toNat : Int) := by decide +kernel
  exact h ⟨n, by omega⟩
theorem hex_bit1 (n : Nat) (hn : n ≤ 15) : IntKind.wrap .u8 (48 + IntKind.wrap .u8 (IntKind.wrap .i64 ((((((n : Int).fdiv (2 ^ min (1 : Int).toNat IntKind.i64.bits)) % 2 ^ IntKind.i64.bits).toNat &&& ((1 : Int) % 2 ^ IntKind.i64.bits).toNat : Nat)) : Int))) = ((hbit n 1).toNat : Int) := by
  have h : ∀ n : _root_.Fin 16, IntKind.wrap .u8 (48 + IntKind.wrap .u8 (IntKind.wrap .i64 ((((((n.val : Int).fdiv (2 ^ min (1 : Int).toNat IntKind.i64.bits)) % 2 ^ IntKind.i64.bits).toNat &&& ((1 : Int) % 2 ^ IntKind.i64.bits).toNat : Nat)) : Int))) = ((hbit n.val 1).toNat : Int) := by decide +kernel
  exact h ⟨n, by omega⟩
theorem hex_bit0 (n : Nat) (hn : n ≤ 15) : IntKind.wrap .u8 (48 + IntKind.wrap .u8 (IntKind.wrap .i64 ((((((n : Int).fdiv (2 ^ min (0 : Int).toNat IntKind.i64.bits)) % 2 ^ IntKind.i64.bits).toNat &&& ((1 : Int) % 2 ^ IntKind.i64.bits).toNat : Nat)) : Int))) = ((hbit n 0).toNat : Int) := by
  have h : ∀ n : _root_.Fin 16, IntKind.wrap .u8 (48 + IntKind.wrap .u8 (IntKind.wrap .i64 ((((((n.val : Int).fdiv (2 ^ min (0 : Int).toNat IntKind.i64.bits)) % 2 ^ IntKind.i64.bits).toNat &&& ((1 : Int) % 2 ^ IntKind.i64.bits).toNat : Nat)) : Int))) = ((hbit n.val 0).toNat : Int) := by decide +kernel
  exact h ⟨n, by omega⟩
theorem k_hex (nl : Option Bool) (l : Str) (hl : l.length ≤ 24000) : CallT Tryz.prog 72 [bytS nl l] [] (fun o A => o = .ret (match hexL l with | some r => .tup [sv r, bv true] | none => .tup [sv [], bv false]) ∧ A = []) := by
  refine callS_body (n := 33) rfl rfl fun w ρ X => ?_
  by_cases h0 : l = []
  · subst h0
    refine runS_x (I := inf) (J := jnf) ⟨true, true, [], 0, 0⟩ 9999 rfl (by repeat (first | exact obs_nil | refine obs_draw (by kernel_rfl) ?_ | refine obs_same ?_ | refine obs_and ?_ | refine obs_by (by (simp [inB] <;> omega)) ?_)) ?_
    refine runS_callF [.box 114 [nilP, .val (.slice none 0 0)]] [.box 114 [nilP, .val (.slice none 0 0)]] [] rfl rfl rfl rfl rfl (show _ = [bPtr] from rfl) rfl (.box rfl .nil) rfl rfl b_text0 ?_
    refine runS_x (I := inf) (J := jnf) ⟨false, false, [], 0, 0⟩ 9999 rfl (by repeat (first | exact obs_nil | refine obs_draw (by kernel_rfl) ?_ | refine obs_same ?_ | refine obs_and ?_ | refine obs_by (by (simp [inB] <;> omega)) ?_)) ?_
    exact runS_ret (I := inf) 0 rfl (Nat.le_refl _) rfl .nil rfl ⟨rfl, rfl⟩
  · refine runS_x (I := inf) (J := jnf) ⟨false, false, [], 0, 0⟩ 9999 rfl (by repeat (first | exact obs_nil | refine obs_draw (by kernel_rfl) ?_ | refine obs_same ?_ | refine obs_and ?_ | refine obs_by (by (simp [inB] <;> omega)) ?_)) ?_
    refine runS_nilRowBox 0 1 5 1 (byR []) rfl rfl rfl rfl rfl ?_
    refine runS_while (fun (x : Nat × Str) τ ar => (τ 4 = bPtr ∧ τ 9 = bytS nl l ∧ τ 10 = iv l.length ∧ τ 11 = iv x.1) ∧ ar = blL (aOf x.1) x.2 ∧ x.1 ≤ l.length ∧ x.2.length = 4 * x.1 ∧ hexL (l.take x.1) = some x.2) (fun x => l.length - x.1) (0, []) ⟨⟨rfl, rfl, rfl, rfl⟩, rfl, Nat.zero_le _, rfl, by rw [List.take_zero]; rfl⟩ ?_
    rintro ⟨i, acc⟩ τ' ar' ⟨⟨g4, g9, g10, g11⟩, rfl, hi, ha, hx⟩ ih
    dsimp only at hi ha hx ih
    refine runS_says 4 (by exact g4) (Says.refl _) ?_; refine runS_says 9 (by exact g9) (Says.refl _) ?_; refine runS_says 10 (by exact g10) (Says.refl _) ?_; refine runS_says 11 (by exact g11) (Says.refl _) ?_
    refine runS_x (I := inf) (J := jnf) ⟨false, false, [], 0, 0⟩ 9999 rfl (by repeat (first | exact obs_nil | refine obs_draw (by kernel_rfl) ?_ | refine obs_same ?_ | refine obs_and ?_ | refine obs_by (by (simp [inB] <;> omega)) ?_)) ?_
    refine runS_cond rfl (fun h => ?_) (fun h => ?_)
    · have hi' : i < l.length := by simp at h; omega
      have hb255 := (l.getD i 0).toNat_lt
      have htk : l.take (i + 1) = l.take i ++ [l.getD i 0] := by
        rw [List.take_succ_eq_append_getElem hi', List.getD_eq_getElem?_getD, List.getElem?_eq_getElem hi']
        rfl
      have hdr : l = l.take (i + 1) ++ l.drop (i + 1) := (List.take_append_drop _ _).symm
      have hone := hexL_one (l.getD i 0)
      have hix := hex_index (l.getD i 0).toNat (by omega)
      have htk2 := hexL_app (l.take i) [l.getD i 0]
      rw [← htk, hx, hone] at htk2
      refine runS_x (I := inf) (J := jnf) ⟨false, false, [], 0, 0⟩ 9999 rfl (by repeat (first | exact obs_nil | refine obs_draw (by kernel_rfl) ?_ | refine obs_same ?_ | refine obs_and ?_ | refine obs_by (by (simp [inB, hi'] <;> omega)) ?_)) ?_
      refine runS_call rfl rfl rfl rfl rfl rfl rfl (k_upper (l.getD i 0).toNat) ?_
      refine runS_x (I := inf) (J := jnf) ⟨false, false, [], 0, 0⟩ 9999 rfl (by repeat (first | exact obs_nil | refine obs_draw (by kernel_rfl) ?_ | refine obs_same ?_ | refine obs_and ?_ | refine obs_by (by (simp [inB] <;> omega)) ?_)) ?_
      refine runS_call rfl rfl rfl rfl rfl rfl rfl (lib_indexByte [48, 49, 50, 51, 52, 53, 54, 55, 56, 57, 65, 66, 67, 68, 69, 70] (upN (l.getD i 0).toNat) (by have := up_le (c := (l.getD i 0).toNat) (by omega); omega)) ?_
      rw [hix]
      cases hn : hexN (l.getD i 0).toNat with
      | none =>
        rw [hn] at htk2
        dsimp only at htk2
        have hno : hexL l = none := by
          rw [hdr, hexL_app, htk2]
        refine runS_x (I := inf) (J := jnf) ⟨false, false, [], 0, 0⟩ 9999 rfl (by repeat (first | exact obs_nil | refine obs_draw (by kernel_rfl) ?_ | refine obs_same ?_ | refine obs_and ?_ | refine obs_by (by (simp [inB] <;> omega)) ?_)) ?_
        refine runS_cond rfl (fun h1 => ?_) (fun h1 => by simp at h1)
        refine runS_x (I := inf) (J := jnf) ⟨false, false, [], 0, 0⟩ 9999 rfl (by repeat (first | exact obs_nil | refine obs_draw (by kernel_rfl) ?_ | refine obs_same ?_ | refine obs_and ?_ | refine obs_by (by (simp [inB] <;> omega)) ?_)) ?_
        rw [hno]
        exact runS_ret (I := inf) 0 rfl (Nat.le_refl _) rfl .nil rfl ⟨rfl, rfl⟩
      | some n =>
        rw [hn] at htk2
        dsimp only at htk2
        have hn15 := hexN_le hn
        refine runS_x (I := inf) (J := jnf) ⟨false, false, [], 0, 0⟩ 9999 rfl (by repeat (first | exact obs_nil | refine obs_draw (by kernel_rfl) ?_ | refine obs_same ?_ | refine obs_and ?_ | refine obs_by (by (simp [inB] <;> omega)) ?_)) ?_
        refine runS_cond rfl (fun h1 => by simp at h1; omega) (fun h1 => ?_)
        refine runS_x (I := inf) (J := jnf) ⟨true, true, [], 0, 0⟩ 9999 rfl (by repeat (first | exact obs_nil | refine obs_draw (by kernel_rfl) ?_ | refine obs_same ?_ | refine obs_and ?_ | refine obs_by (by (simp [inB] <;> omega)) ?_)) ?_
        refine runS_callF (blL (aOf i) acc) (blL bPtr (acc ++ [hbit n 3])) [] rfl rfl rfl rfl rfl (show _ = [bPtr, uv (hbit n 3).toNat] from congrArg (fun z => [bPtr, AV.val (.int .u8 z)]) (hex_bit3 n hn15)) rfl (kA i acc) rfl rfl (b_byteA i acc (hbit n 3) (by omega)) ?_
        refine runS_x (I := inf) (J := jnf) ⟨true, true, [], 0, 0⟩ 9999 rfl (by repeat (first | exact obs_nil | refine obs_draw (by kernel_rfl) ?_ | refine obs_same ?_ | refine obs_and ?_ | refine obs_by (by (simp [inB] <;> omega)) ?_)) ?_
        refine runS_callF (blL bPtr (acc ++ [hbit n 3])) (blL bPtr (acc ++ [hbit n 3] ++ [hbit n 2])) [] rfl rfl rfl rfl rfl (show _ = [bPtr, uv (hbit n 2).toNat] from congrArg (fun z => [bPtr, AV.val (.int .u8 z)]) (hex_bit2 n hn15)) rfl (kB1 _) rfl rfl (b_byte1 _ (hbit n 2) (by simp; omega)) ?_
        refine runS_x (I := inf) (J := jnf) ⟨true, true, [], 0, 0⟩ 9999 rfl (by repeat (first | exact obs_nil | refine obs_draw (by kernel_rfl) ?_ | refine obs_same ?_ | refine obs_and ?_ | refine obs_by (by (simp [inB] <;> omega)) ?_)) ?_
        refine runS_callF (blL bPtr (acc ++ [hbit n 3] ++ [hbit n 2])) (blL bPtr (acc ++ [hbit n 3] ++ [hbit n 2] ++ [hbit n 1])) [] rfl rfl rfl rfl rfl (show _ = [bPtr, uv (hbit n 1).toNat] from congrArg (fun z => [bPtr, AV.val (.int .u8 z)]) (hex_bit1 n hn15)) rfl (kB1 _) rfl rfl (b_byte1 _ (hbit n 1) (by simp; omega)) ?_
        refine runS_x (I := inf) (J := jnf) ⟨true, true, [], 0, 0⟩ 9999 rfl (by repeat (first | exact obs_nil | refine obs_draw (by kernel_rfl) ?_ | refine obs_same ?_ | refine obs_and ?_ | refine obs_by (by (simp [inB] <;> omega)) ?_)) ?_
        refine runS_callF (blL bPtr (acc ++ [hbit n 3] ++ [hbit n 2] ++ [hbit n 1])) (blL bPtr (acc ++ [hbit n 3] ++ [hbit n 2] ++ [hbit n 1] ++ [hbit n 0])) [] rfl rfl rfl rfl rfl (show _ = [bPtr, uv (hbit n 0).toNat] from congrArg (fun z => [bPtr, AV.val (.int .u8 z)]) (hex_bit0 n hn15)) rfl (kB1 _) rfl rfl (b_byte1 _ (hbit n 0) (by simp; omega)) ?_
        refine runS_x (I := inf) (J := jnf) ⟨true, true, [], 5, 0⟩ 9999 rfl (by repeat (first | exact obs_nil | refine obs_draw (by kernel_rfl) ?_ | refine obs_same ?_ | refine obs_and ?_ | refine obs_by (by (simp [inB] <;> omega)) ?_)) ?_
        have hw : IntKind.wrap .i64 ((i : Int) + 1) = ((i + 1 : Nat) : Int) := by rw [w64 (by omega) (by omega)]; rfl
        have hacc : acc ++ [hbit n 3] ++ [hbit n 2] ++ [hbit n 1] ++ [hbit n 0] = acc ++ bit4 n := by
          rw [List.append_assoc, List.append_assoc, List.append_assoc]
          unfold bit4 hbit
          rw [Nat.pow_zero, Nat.div_one]
          rfl
        rw [hacc]
        refine runS_x (I := inf) (J := jnf) ⟨false, false, [], 0, 0⟩ 9999 rfl (by repeat (first | exact obs_nil | refine obs_draw (by kernel_rfl) ?_ | refine obs_same ?_ | refine obs_and ?_ | refine obs_by (by (simp [inB] <;> omega)) ?_)) ?_
        refine ih (i + 1, acc ++ bit4 n) _ _ (by dsimp only; omega) ⟨⟨rfl, rfl, rfl, congrArg iv hw⟩, rfl, hi', ?_, htk2⟩
        show (acc ++ bit4 n).length = 4 * (i + 1)
        rw [List.length_append, ha]
        show 4 * i + 4 = _
        omega
    · have hi' : i = l.length := by simp at h; omega
      obtain ⟨i', rfl⟩ : ∃ i', i = i' + 1 := ⟨i - 1, by have : l.length ≠ 0 := fun e => h0 (List.length_eq_zero_iff.1 e); omega⟩
      rw [hi', List.take_length] at hx
      rw [hx]
      refine runS_x (I := inf) (J := jnf) ⟨false, false, [], 0, 0⟩ 9999 rfl (by repeat (first | exact obs_nil | refine obs_draw (by kernel_rfl) ?_ | refine obs_same ?_ | refine obs_and ?_ | refine obs_by (by (simp [inB] <;> omega)) ?_)) ?_
      refine runS_callF (blL bPtr acc) [.box 114 [bPtr, .row 1 acc.length], .gone] [] rfl rfl rfl rfl rfl (show _ = [bPtr] from rfl) rfl (kB1 acc) rfl rfl (b_text acc (by omega) (by omega)) ?_
      refine runS_x (I := inf) (J := jnf) ⟨false, false, [], 0, 0⟩ 9999 rfl (by repeat (first | exact obs_nil | refine obs_draw (by kernel_rfl) ?_ | refine obs_same ?_ | refine obs_and ?_ | refine obs_by (by (simp [inB] <;> omega)) ?_)) ?_
      exact runS_ret (I := inf) 0 rfl (Nat.le_refl _) rfl .nil rfl ⟨rfl, rfl⟩
end Go.Iron.Tryz

/- The token seat: constants in quotes. -/
namespace Go.Iron.Tryz
open Go.Proofs Go.RowKit Go.Iron.Tok

theorem quoL_end {s : Str} {f k : Nat} {a : Str} (h : ¬ k < s.length ∨ byt s k = 10 ∨ byt s k = 9) : quoL s f k a = .bad f := by
  rw [quoL]
  split
  · rename_i hk
    rw [if_pos (h.resolve_left (fun e => e hk))]
  · rfl
theorem quoL_bad {s : Str} {f k : Nat} {a : Str} (hk : k < s.length) (h : ¬ (byt s k = 10 ∨ byt s k = 9)) (h2 : plP (byt s k) = false) : quoL s f k a = .bad k := by
  rw [quoL, dif_pos hk, if_neg h, if_pos h2]
theorem quoL_one {s : Str} {f k : Nat} {a : Str} (hk : k < s.length) (h : ¬ (byt s k = 10 ∨ byt s k = 9)) (h2 : plP (byt s k) = true) (h3 : byt s k ≠ 39) : quoL s f k a = quoL s f (k + 1) (a ++ [s.getD k 0]) := by
  conv => lhs; rw [quoL]
  rw [dif_pos hk, if_neg h, if_neg (by rw [h2]; decide), if_pos h3]
theorem quoL_two {s : Str} {f k : Nat} {a : Str} (hk : k < s.length) (h3 : byt s k = 39) (h4 : byt s (k + 1) = 39) : quoL s f k a = quoL s f (k + 2) (a ++ [39]) := by
  conv => lhs; rw [quoL]
  have n3 : ¬ (byt s k ≠ 39) := fun e => e h3
  rw [dif_pos hk, if_neg (by omega), if_neg (by rw [h3]; decide), if_neg n3, if_pos h4]
theorem quoL_fin {s : Str} {f k : Nat} {a : Str} (hk : k < s.length) (h3 : byt s k = 39) (h4 : ¬ byt s (k + 1) = 39) : quoL s f k a = .fin a k := by
  rw [quoL]
  have n3 : ¬ (byt s k ≠ 39) := fun e => e h3
  rw [dif_pos hk, if_neg (by omega), if_neg (by rw [h3]; decide), if_neg n3, if_neg h4]
abbrev scB (o0 o1 o2 : AO) (s : Str) (p : Nat) (acc : List Tk) (b : Str) : List AO := [o0, o1, o2, .box 57 [sv s, iv p, .row 4 acc.length], .row 29 3 acc.length acc.length (tkR acc), .row 5 1 b.length b.length (byR b)]
theorem kSB {o0 o1 o2 : AO} (hk : KeptS o0 o1 o2) (s : Str) (p : Nat) (acc : List Tk) (b : Str) : Kept 6 (scB o0 o1 o2 s p acc b) := hk _ _ (.box rfl (.row (fun j hj => rfl) (.row (fun j hj => rfl) .nil)))
/-- The rest of a constant, behind its last quote. -/
def quoT (s : Str) (p : Nat) (l : Str) (k : Nat) : Tok.Rd :=
    if upN (byt s (k + 1)) ≠ 66 then (if l.length > 250 then .bad p else .ok (some ⟨3, l, p⟩) (k + 1))
    else if byt s (k + 2) = 52 then match hexL l with
      | some b => if b.length > 250 ∨ goP (byt s (k + 3)) = true then .bad p else .ok (some ⟨4, b, p⟩) (k + 3)
      | none => .bad p
    else if (l.all fun b => b.toNat == 48 || b.toNat == 49) = true ∧ ¬ l.length > 250 ∧ goP (byt s (k + 2)) = false then .ok (some ⟨4, l, p⟩) (k + 2) else .bad p
def bitsQ (s : Str) (l : Str) (k : Nat) : Str := if byt s (k + 2) = 52 then (hexL l).getD [] else l
def okQ (s : Str) (l : Str) (k : Nat) : Bool := if byt s (k + 2) = 52 then (hexL l).isSome else l.all fun b => b.toNat == 48 || b.toNat == 49
def endQ (s : Str) (k : Nat) : Nat := if byt s (k + 2) = 52 then k + 3 else k + 2
theorem quoT_bits {s : Str} {p : Nat} {l : Str} {k : Nat} (h : upN (byt s (k + 1)) = 66) : quoT s p l k = if okQ s l k = true ∧ ¬ (bitsQ s l k).length > 250 ∧ goP (byt s (endQ s k)) = false then .ok (some ⟨4, bitsQ s l k, p⟩) (endQ s k) else .bad p := by
  unfold quoT okQ bitsQ endQ
  rw [if_neg (by rw [h]; decide)]
  by_cases h4 : byt s (k + 2) = 52
  · rw [if_pos h4, if_pos h4, if_pos h4, if_pos h4]
    cases hexL l with
    | none => simp
    | some b =>
      dsimp only [Option.getD, Option.isSome]
      cases goP (byt s (k + 3))
      · by_cases hb : b.length > 250 <;> simp [hb]
      · simp
  · rw [if_neg h4, if_neg h4, if_neg h4, if_neg h4]
theorem readQuo_bad {s : Str} {p q : Nat} (h : quoL s p (p + 1) [] = .bad q) : readQuo s p = .bad q := by unfold readQuo; rw [h]
theorem readQuo_fin {s : Str} {p k : Nat} {l : Str} (h : quoL s p (p + 1) [] = .fin l k) : readQuo s p = quoT s p l k := by unfold readQuo quoT; rw [h] <;> rfl
theorem k_quoted {o0 o1 o2 : AO} (hk : KeptS o0 o1 o2) (s : Str) (p : Nat) (acc : List Tk) (hs : s.length ≤ 24000) (hp : p < s.length) (ha : acc.length ≤ 30000) : CallT Tryz.prog 49 [sPtr] (scL o0 o1 o2 s p acc) (rdS o0 o1 o2 s acc (readQuo s p)) := by
  have hw1 : IntKind.wrap .i64 ((p : Int) + 1) = ((p + 1 : Nat) : Int) := by rw [w64 (by omega) (by omega)]; rfl
  refine callS_body (n := 150) rfl rfl fun w ρ X => ?_
  refine runS_x (I := inf) (J := jnf) ⟨false, false, [], 0, 0⟩ 9999 rfl (by repeat (first | exact obs_nil | refine obs_draw (by kernel_rfl) ?_ | refine obs_same ?_ | refine obs_and ?_ | refine obs_by (by (simp [inB] <;> omega)) ?_)) ?_
  refine runS_nilRow 3 5 1 (byR []) rfl rfl ?_
  rw [hw1]
  refine runS_while (fun (x : Nat × Str) τ ar => (τ 0 = sPtr ∧ τ 2 = iv p ∧ τ 3 = .row 5 x.2.length) ∧ ar = scB o0 o1 o2 s x.1 acc x.2 ∧ x.1 ≤ s.length + 1 ∧ p < x.1 ∧ x.2.length ≤ x.1 ∧ quoL s p (p + 1) [] = quoL s p x.1 x.2) (fun x => s.length + 1 - x.1) (p + 1, []) ⟨⟨rfl, rfl, rfl⟩, rfl, by dsimp only; omega, by dsimp only; omega, Nat.zero_le _, rfl⟩ ?_
  rintro ⟨k, b⟩ τ' ar' ⟨⟨g0, g2, g3⟩, rfl, hkl, hpk, hb, hq⟩ ih
  dsimp only at hkl hpk hb hq ih
  refine runS_says 0 (by exact g0) (Says.refl _) ?_; refine runS_says 2 (by exact g2) (Says.refl _) ?_; refine runS_says 3 (by exact g3) (Says.refl _) ?_
  refine runS_x (I := inf) (J := jnf) ⟨false, false, [], 0, 0⟩ 9999 rfl (by repeat (first | exact obs_nil | refine obs_draw (by kernel_rfl) ?_ | refine obs_same ?_ | refine obs_and ?_ | refine obs_by (by (simp [inB] <;> omega)) ?_)) ?_
  refine runS_callF (scL o0 o1 o2 s k acc) (scL o0 o1 o2 s k acc) [.row 5 1 b.length b.length (byR b)] rfl rfl rfl rfl rfl (show _ = [sPtr, iv (0 : Nat)] from rfl) rfl (kS hk s k acc) rfl rfl (k_peek hk s k 0 acc (by omega) (by omega) (by omega)) ?_
  rw [Nat.add_zero]
  refine runS_x (I := inf) (J := jnf) ⟨false, false, [], 0, 0⟩ 9999 rfl (by repeat (first | exact obs_nil | refine obs_draw (by kernel_rfl) ?_ | refine obs_same ?_ | refine obs_and ?_ | refine obs_by (by (simp [inB, blS] <;> omega)) ?_)) ?_
  have hcd : (if (if decide ((k : Int) ≥ (s.length : Int)) = true then true else (((byt s k : Nat) : Int) == 10)) = true then true else (((byt s k : Nat) : Int) == 9)) = decide (¬ k < s.length ∨ byt s k = 10 ∨ byt s k = 9) := by
    rw [Bool.eq_iff_iff]
    simp
    omega
  refine runS_cond rfl (fun h => ?_) (fun h => ?_)
  · have hc := of_decide_eq_true (hcd.symm.trans h)
    refine runS_x (I := inf) (J := jnf) ⟨false, false, [], 0, 0⟩ 9999 rfl (by repeat (first | exact obs_nil | refine obs_draw (by kernel_rfl) ?_ | refine obs_same ?_ | refine obs_and ?_ | refine obs_by (by (simp [inB] <;> omega)) ?_)) ?_
    refine runS_lose 3 rfl ?_
    refine runS_lose 4 rfl ?_
    rw [readQuo_bad (hq.trans (quoL_end hc))]
    exact runS_pan 5 rfl (Nat.le_refl _) rfl (kLost hk) ⟨rfl, rfl⟩
  · have hc := of_decide_eq_false (hcd.symm.trans h)
    have hkl' : k < s.length := by
      rcases Nat.lt_or_ge k s.length with h1 | h1
      · exact h1
      · exact absurd (.inl (by omega)) hc
    have hc2 : ¬ (byt s k = 10 ∨ byt s k = 9) := fun e => hc (.inr e)
    have hwk1 : IntKind.wrap .i64 ((k : Int) + 1) = ((k + 1 : Nat) : Int) := by rw [w64 (by omega) (by omega)]; rfl
    have hwk2 : IntKind.wrap .i64 (((k + 1 : Nat) : Int) + 1) = ((k + 1 + 1 : Nat) : Int) := by rw [w64 (by omega) (by omega)]; rfl
    refine runS_x (I := inf) (J := jnf) ⟨false, false, [], 0, 0⟩ 9999 rfl (by repeat (first | exact obs_nil | refine obs_draw (by kernel_rfl) ?_ | refine obs_same ?_ | refine obs_and ?_ | refine obs_by (by (simp [inB] <;> omega)) ?_)) ?_
    refine runS_call rfl rfl rfl rfl rfl rfl rfl (k_plain (byt s k)) ?_
    refine runS_x (I := inf) (J := jnf) ⟨false, false, [], 0, 0⟩ 9999 rfl (by repeat (first | exact obs_nil | refine obs_draw (by kernel_rfl) ?_ | refine obs_same ?_ | refine obs_and ?_ | refine obs_by (by (simp [inB] <;> omega)) ?_)) ?_
    refine runS_cond rfl (fun h1 => ?_) (fun h1 => ?_)
    · have hpl : plP (byt s k) = false := by simpa using h1
      refine runS_x (I := inf) (J := jnf) ⟨false, false, [], 0, 0⟩ 9999 rfl (by repeat (first | exact obs_nil | refine obs_draw (by kernel_rfl) ?_ | refine obs_same ?_ | refine obs_and ?_ | refine obs_by (by (simp [inB] <;> omega)) ?_)) ?_
      refine runS_lose 3 rfl ?_
      refine runS_lose 4 rfl ?_
      rw [readQuo_bad (hq.trans (quoL_bad hkl' hc2 hpl))]
      exact runS_pan 5 rfl (Nat.le_refl _) rfl (kLost hk) ⟨rfl, rfl⟩
    · have hpl : plP (byt s k) = true := by simpa using h1
      refine runS_x (I := inf) (J := jnf) ⟨false, false, [], 0, 0⟩ 9999 rfl (by repeat (first | exact obs_nil | refine obs_draw (by kernel_rfl) ?_ | refine obs_same ?_ | refine obs_and ?_ | refine obs_by (by (simp [inB] <;> omega)) ?_)) ?_
      refine runS_cond rfl (fun h2 => ?_) (fun h2 => ?_)
      · have h39 : byt s k ≠ 39 := by simp at h2; omega
        have e := quoL_one (f := p) (a := b) hkl' hc2 hpl h39
        refine runS_x (I := inf) (J := jnf) ⟨false, false, [], 0, 0⟩ 9999 rfl (by repeat (first | exact obs_nil | refine obs_draw (by kernel_rfl) ?_ | refine obs_same ?_ | refine obs_and ?_ | refine obs_by (by (simp [inB] <;> omega)) ?_)) ?_
        refine runS_tell 5 (byR (b ++ [s.getD k 0])) rfl (m' := b.length + 1) rfl (byR_snoc rfl) rfl ?_
        have hl' : (b ++ [s.getD k 0]).length = b.length + 1 := by simp
        have hkk := kSB hk s (k + 1) acc (b ++ [s.getD k 0])
        unfold scB at hkk ih
        rw [hl'] at hkk
        rw [hwk1]
        refine runS_drop 6 (by simp) rfl hkk rfl rfl rfl .nil ?_
        refine ih (k + 1, b ++ [s.getD k 0]) _ _ (by dsimp only; omega) ⟨⟨rfl, rfl, ?_⟩, ?_, by dsimp only; omega, by dsimp only; omega, by dsimp only; omega, hq.trans e⟩
        · dsimp only; rw [hl']; rfl
        · dsimp only; rw [hl']
      · have h39 : byt s k = 39 := by simp at h2; omega
        refine runS_x (I := inf) (J := jnf) ⟨false, false, [], 0, 0⟩ 9999 rfl (by repeat (first | exact obs_nil | refine obs_draw (by kernel_rfl) ?_ | refine obs_same ?_ | refine obs_and ?_ | refine obs_by (by (simp [inB] <;> omega)) ?_)) ?_
        refine runS_callF (scL o0 o1 o2 s k acc) (scL o0 o1 o2 s k acc) [.row 5 1 b.length b.length (byR b)] rfl rfl rfl rfl rfl (show _ = [sPtr, iv (1 : Nat)] from rfl) rfl (kS hk s k acc) rfl rfl (k_peek hk s k 1 acc (by omega) (by omega) (by omega)) ?_
        refine runS_x (I := inf) (J := jnf) ⟨false, false, [], 0, 0⟩ 9999 rfl (by repeat (first | exact obs_nil | refine obs_draw (by kernel_rfl) ?_ | refine obs_same ?_ | refine obs_and ?_ | refine obs_by (by (simp [inB] <;> omega)) ?_)) ?_
        refine runS_cond rfl (fun h3 => ?_) (fun h3 => ?_)
        · have h39' : byt s (k + 1) = 39 := by simp at h3; omega
          have e := quoL_two (f := p) (a := b) hkl' h39 h39'
          have hk1 := byt_lt (s := s) (p := k + 1) (by omega)
          refine runS_x (I := inf) (J := jnf) ⟨false, false, [], 0, 0⟩ 9999 rfl (by repeat (first | exact obs_nil | refine obs_draw (by kernel_rfl) ?_ | refine obs_same ?_ | refine obs_and ?_ | refine obs_by (by (simp [inB] <;> omega)) ?_)) ?_
          refine runS_tell 5 (byR (b ++ [39])) rfl (m' := b.length + 1) rfl (byR_snoc (by show [AV.val (.int .u8 ((byt s k : Nat) : Int))] = _; rw [h39]; rfl)) rfl ?_
          have hl' : (b ++ [(39 : UInt8)]).length = b.length + 1 := by simp
          have hkk := kSB hk s (k + 2) acc (b ++ [39])
          unfold scB at hkk ih
          rw [hl'] at hkk
          rw [hwk1, hwk2]
          refine runS_drop 6 (by simp) rfl hkk rfl rfl rfl .nil ?_
          refine ih (k + 2, b ++ [39]) _ _ (by dsimp only; omega) ⟨⟨rfl, rfl, ?_⟩, ?_, by dsimp only; omega, by dsimp only; omega, by dsimp only; omega, hq.trans e⟩
          · dsimp only; rw [hl']; rfl
          · dsimp only; rw [hl']
        · have h39' : ¬ byt s (k + 1) = 39 := by simp at h3; omega
          rw [readQuo_fin (hq.trans (quoL_fin hkl' h39 h39'))]
          clear ih hcd
          refine runS_freeze 3 rfl rfl rfl (fun j hj => rfl) ?_
          refine runS_x (I := inf) (J := jnf) ⟨false, false, [], 0, 0⟩ 9999 rfl (by repeat (first | exact obs_nil | refine obs_draw (by kernel_rfl) ?_ | refine obs_same ?_ | refine obs_and ?_ | refine obs_by (by (simp [inB] <;> omega)) ?_)) ?_
          rw [hwk1]
          refine runS_callF (scL o0 o1 o2 s (k + 1) acc) (scL o0 o1 o2 s (k + 1) acc) [.gone] rfl rfl rfl rfl rfl (show _ = [sPtr, iv (0 : Nat)] from rfl) rfl (kS hk s (k + 1) acc) rfl rfl (k_peek hk s (k + 1) 0 acc (by omega) (by omega) (by omega)) ?_
          rw [Nat.add_zero]
          have hbr : ∀ (i : Nat) (c : UInt8), b[i]? = some c → byR b i = [.val (.int .u8 c.toNat)] := fun i c hi => by
            show [uv (b.getD i 0).toNat] = _
            rw [List.getD_eq_getElem?_getD, hi]
            rfl
          refine runS_x (I := inf) (J := jnf) ⟨false, false, [], 0, 0⟩ 9999 rfl (by repeat (first | exact obs_nil | refine obs_draw (by kernel_rfl) ?_ | refine obs_same ?_ | refine obs_and ?_ | refine obs_by (by (simp [inB] <;> omega)) ?_)) ?_
          refine runS_call rfl rfl rfl rfl rfl rfl rfl (k_upper (byt s (k + 1))) ?_
          refine runS_x (I := inf) (J := jnf) ⟨false, false, [], 0, 0⟩ 9999 rfl (by repeat (first | exact obs_nil | refine obs_draw (by kernel_rfl) ?_ | refine obs_same ?_ | refine obs_and ?_ | refine obs_by (by (simp [inB] <;> omega)) ?_)) ?_
          refine runS_cond rfl (fun h4 => ?_) (fun h4 => ?_)
          · have hB : upN (byt s (k + 1)) ≠ 66 := by simp at h4; omega
            have hqt : quoT s p b k = if b.length > 250 then .bad p else .ok (some ⟨3, b, p⟩) (k + 1) := by unfold quoT; rw [if_pos hB]
            rw [hqt]
            refine runS_x (I := inf) (J := jnf) ⟨false, false, [], 0, 0⟩ 9999 rfl (by repeat (first | exact obs_nil | refine obs_draw (by kernel_rfl) ?_ | refine obs_same ?_ | refine obs_and ?_ | refine obs_by (by (simp [inB] <;> omega)) ?_)) ?_
            refine runS_cond rfl (fun h5 => ?_) (fun h5 => ?_)
            · have hb5 : b.length > 250 := by simp at h5; omega
              refine runS_x (I := inf) (J := jnf) ⟨false, false, [], 0, 0⟩ 9999 rfl (by repeat (first | exact obs_nil | refine obs_draw (by kernel_rfl) ?_ | refine obs_same ?_ | refine obs_and ?_ | refine obs_by (by (simp [inB] <;> omega)) ?_)) ?_
              refine runS_lose 3 rfl ?_
              refine runS_lose 4 rfl ?_
              rw [if_pos hb5]
              exact runS_pan 5 rfl (Nat.le_refl _) rfl (kLost hk) ⟨rfl, rfl⟩
            · have hb5 : ¬ b.length > 250 := by simp at h5; omega
              refine runS_x (I := inf) (J := jnf) ⟨false, false, [], 0, 0⟩ 9999 rfl (by repeat (first | exact obs_nil | refine obs_draw (by kernel_rfl) ?_ | refine obs_same ?_ | refine obs_and ?_ | refine obs_by (by (simp [inB] <;> omega)) ?_)) ?_
              refine runS_op (sv b) rfl rfl rfl (op_slcText b Tryz.underlying95 Tryz.underlying5 Tryz.underlying9 rfl rfl hbr) ?_
              refine runS_x (I := inf) (J := jnf) ⟨false, false, [], 0, 0⟩ 9999 rfl (by repeat (first | exact obs_nil | refine obs_draw (by kernel_rfl) ?_ | refine obs_same ?_ | refine obs_and ?_ | refine obs_by (by (simp [inB] <;> omega)) ?_)) ?_
              refine runS_callF (scL o0 o1 o2 s (k + 1) acc) (scL o0 o1 o2 s (k + 1) (acc ++ [⟨3, b, p⟩])) [.gone] rfl rfl rfl rfl rfl (show _ = [sPtr, iv 3, iv p, sv b] from rfl) rfl (kS hk s (k + 1) acc) rfl rfl (k_put hk s (k + 1) acc ⟨3, b, p⟩ ha) ?_
              refine runS_x (I := inf) (J := jnf) ⟨false, false, [], 0, 0⟩ 9999 rfl (by repeat (first | exact obs_nil | refine obs_draw (by kernel_rfl) ?_ | refine obs_same ?_ | refine obs_and ?_ | refine obs_by (by (simp [inB] <;> omega)) ?_)) ?_
              rw [if_neg hb5]
              exact runS_ret (I := inf) 5 rfl (Nat.le_refl _) rfl (kS hk _ _ _) rfl ⟨rfl, rfl⟩
          · have hB : upN (byt s (k + 1)) = 66 := by simp at h4; omega
            have hk1 := byt_lt (s := s) (p := k + 1) (upN_ne (by omega))
            rw [quoT_bits hB]
            refine runS_x (I := inf) (J := jnf) ⟨false, false, [], 0, 0⟩ 9999 rfl (by repeat (first | exact obs_nil | refine obs_draw (by kernel_rfl) ?_ | refine obs_same ?_ | refine obs_and ?_ | refine obs_by (by (simp [inB] <;> omega)) ?_)) ?_
            rw [hwk2]
            refine runS_draw 7 (by kernel_rfl) (lexj_x (I := inf) (J := jnf) 99 rfl rfl (by repeat (first | exact obs_nil | refine obs_same ?_ | refine obs_and ?_ | refine obs_by (by simp) ?_)) (lexj_slcText b Tryz.underlying95 Tryz.underlying5 Tryz.underlying9 rfl rfl rfl rfl hbr rfl rfl (lexj_x (I := inf) (J := jnf) 99 rfl rfl (by repeat (first | exact obs_nil | refine obs_same ?_ | refine obs_and ?_ | refine obs_by (by simp) ?_)) (lexj_slcText b Tryz.underlying95 Tryz.underlying5 Tryz.underlying9 rfl rfl rfl rfl hbr rfl rfl (lexj_x (I := inf) (J := jnf) 99 rfl rfl (by repeat (first | exact obs_nil | refine obs_same ?_ | refine obs_and ?_ | refine obs_by (by simp) ?_)) (lexj_call rfl rfl rfl rfl rfl rfl rfl rfl (lib_trim b [48, 49] (by omega) (by decide) (by decide)) (lexj_x (I := inf) (J := jnf) 99 rfl rfl (by repeat (first | exact obs_nil | refine obs_same ?_ | refine obs_and ?_ | refine obs_by (by simp) ?_)) lexj_nil))))))) ?_
            refine runS_x (I := inf) (J := jnf) ⟨false, false, [], 0, 0⟩ 9999 rfl (by repeat (first | exact obs_nil | refine obs_draw (by kernel_rfl) ?_ | refine obs_same ?_ | refine obs_and ?_ | refine obs_by (by (simp [inB] <;> omega)) ?_)) ?_
            refine runS_callF (scL o0 o1 o2 s (k + 2) acc) (scL o0 o1 o2 s (k + 2) acc) [.gone] rfl rfl rfl rfl rfl (show _ = [sPtr, iv (0 : Nat)] from rfl) rfl (kS hk s (k + 2) acc) rfl rfl (k_peek hk s (k + 2) 0 acc (by omega) (by omega) (by omega)) ?_
            rw [Nat.add_zero]
            refine runS_x (I := inf) (J := jnf) ⟨false, false, [], 0, 0⟩ 9999 rfl (by repeat (first | exact obs_nil | refine obs_draw (by kernel_rfl) ?_ | refine obs_same ?_ | refine obs_and ?_ | refine obs_by (by (simp [inB] <;> omega)) ?_)) ?_
            have hwk3 : IntKind.wrap .i64 (((k + 2 : Nat) : Int) + 1) = ((k + 3 : Nat) : Int) := by rw [w64 (by omega) (by omega)]; rfl
            have htr : ((bs (Lib.trimS b [48, 49])).toList == (ByteArray.mk #[]).toList) = b.all fun b => b.toNat == 48 || b.toNat == 49 := by
              rw [bs_toList, show (ByteArray.mk #[]).toList = [] from bs_toList [], Bool.eq_iff_iff]
              have := trim_all b
              cases hb : (b.all fun b => b.toNat == 48 || b.toNat == 49) <;> simp [hb] at this ⊢ <;> exact this
            have hend : endQ s k ≤ s.length + 1 := by
              unfold endQ
              split
              · rename_i h52
                have := byt_lt (s := s) (p := k + 2) (by omega)
                omega
              · omega
            refine runS_cut (fun τ ar => (τ 0 = sPtr ∧ τ 2 = iv p ∧ τ 5 = sv (bitsQ s b k) ∧ τ 6 = bv (okQ s b k)) ∧ ar = scL o0 o1 o2 s (endQ s k) acc ++ [.gone]) (fun rest => ?_) ?_
            · refine runS_cond rfl (fun h5 => ?_) (fun h5 => ?_)
              · have h52 : byt s (k + 2) = 52 := by simp at h5; omega
                have hkh := k_hex none b (by omega)
                cases hx : hexL b with
                | none =>
                  rw [hx] at hkh
                  refine runS_x (I := inf) (J := jnf) ⟨false, false, [], 2, 0⟩ 9999 rfl (by repeat (first | exact obs_nil | refine obs_draw (by kernel_rfl) ?_ | refine obs_same ?_ | refine obs_and ?_ | refine obs_by (by (simp [inB] <;> omega)) ?_)) ?_
                  refine runS_call rfl rfl rfl rfl rfl rfl rfl hkh ?_
                  refine runS_x (I := inf) (J := jnf) ⟨false, false, [], 2, 0⟩ 9999 rfl (by repeat (first | exact obs_nil | refine obs_draw (by kernel_rfl) ?_ | refine obs_same ?_ | refine obs_and ?_ | refine obs_by (by (simp [inB] <;> omega)) ?_)) ?_
                  refine rest _ _ ⟨⟨rfl, rfl, ?_, ?_⟩, ?_⟩
                  · unfold bitsQ; rw [if_pos h52, hx]; rfl
                  · unfold okQ; rw [if_pos h52, hx]; rfl
                  · unfold endQ; rw [if_pos h52, hwk3]; rfl
                | some r =>
                  rw [hx] at hkh
                  refine runS_x (I := inf) (J := jnf) ⟨false, false, [], 2, 0⟩ 9999 rfl (by repeat (first | exact obs_nil | refine obs_draw (by kernel_rfl) ?_ | refine obs_same ?_ | refine obs_and ?_ | refine obs_by (by (simp [inB] <;> omega)) ?_)) ?_
                  refine runS_call rfl rfl rfl rfl rfl rfl rfl hkh ?_
                  refine runS_x (I := inf) (J := jnf) ⟨false, false, [], 2, 0⟩ 9999 rfl (by repeat (first | exact obs_nil | refine obs_draw (by kernel_rfl) ?_ | refine obs_same ?_ | refine obs_and ?_ | refine obs_by (by (simp [inB] <;> omega)) ?_)) ?_
                  refine rest _ _ ⟨⟨rfl, rfl, ?_, ?_⟩, ?_⟩
                  · unfold bitsQ; rw [if_pos h52, hx]; rfl
                  · unfold okQ; rw [if_pos h52, hx]; rfl
                  · unfold endQ; rw [if_pos h52, hwk3]; rfl
              · have h52 : ¬ byt s (k + 2) = 52 := by simp at h5; omega
                refine runS_x (I := inf) (J := jnf) ⟨false, false, [], 2, 0⟩ 9999 rfl (by repeat (first | exact obs_nil | refine obs_draw (by kernel_rfl) ?_ | refine obs_same ?_ | refine obs_and ?_ | refine obs_by (by (simp [inB] <;> omega)) ?_)) ?_
                refine rest _ _ ⟨⟨rfl, rfl, ?_, ?_⟩, ?_⟩
                · unfold bitsQ; rw [if_neg h52]; rfl
                · have e7 : okQ s b k = (b.all fun b => b.toNat == 48 || b.toNat == 49) := by unfold okQ; exact if_neg h52
                  exact congrArg bv (htr.trans e7.symm)
                · unfold endQ; rw [if_neg h52]
            rintro τ2 ar2 ⟨⟨g0, g2, g5, g6⟩, rfl⟩
            refine runS_says 0 (by exact g0) (Says.refl _) ?_; refine runS_says 2 (by exact g2) (Says.refl _) ?_; refine runS_says 5 (by exact g5) (Says.refl _) ?_; refine runS_says 6 (by exact g6) (Says.refl _) ?_
            generalize endQ s k = q at hend ⊢
            generalize bitsQ s b k = bits
            generalize okQ s b k = ok
            refine runS_x (I := inf) (J := jnf) ⟨false, false, [], 0, 0⟩ 9999 rfl (by repeat (first | exact obs_nil | refine obs_draw (by kernel_rfl) ?_ | refine obs_same ?_ | refine obs_and ?_ | refine obs_by (by (simp [inB] <;> omega)) ?_)) ?_
            refine runS_callUF (scL o0 o1 o2 s q acc) [.gone] rfl rfl rfl (by first | exact .v rfl rfl rfl rfl | exact .o rfl rfl rfl rfl) rfl rfl (by repeat (first | exact .nil | refine .cons (.n rfl) ?_ | refine .cons .o ?_ | refine .cons gok_and ?_)) rfl rfl rfl (show _ = [sPtr, iv (0 : Nat)] from rfl) rfl (kS hk s q acc) (fun hcond => (k_peek hk s q 0 acc (by omega) (by omega) (by omega))) ?_
            rw [Nat.add_zero]
            refine runS_x (I := inf) (J := jnf) ⟨false, false, [], 0, 0⟩ 9999 rfl (by repeat (first | exact obs_nil | refine obs_draw (by kernel_rfl) ?_ | refine obs_same ?_ | refine obs_and ?_ | refine obs_by (by (simp [inB] <;> omega)) ?_)) ?_
            refine runS_callU rfl rfl (by first | exact .v rfl rfl rfl rfl | exact .o rfl rfl rfl rfl) rfl rfl (by repeat (first | exact .nil | refine .cons (.n rfl) ?_ | refine .cons .o ?_ | refine .cons gok_and ?_)) rfl rfl rfl rfl rfl (fun _ => (k_goes (byt s q))) ?_
            refine runS_x (I := inf) (J := jnf) ⟨false, false, [], 0, 0⟩ 9999 rfl (by repeat (first | exact obs_nil | refine obs_draw (by kernel_rfl) ?_ | refine obs_same ?_ | refine obs_and ?_ | refine obs_by (by (simp [inB] <;> omega)) ?_)) ?_
            have hcd5 : (if (if (!ok) = true then true else decide ((((bl (bs bits)).length : Nat) : Int) > 250)) = true then true else goP (byt s q)) = !decide (ok = true ∧ ¬ bits.length > 250 ∧ goP (byt s q) = false) := by
              rw [blS, Bool.eq_iff_iff]
              cases ok <;> cases goP (byt s q) <;> simp <;> omega
            refine runS_cond rfl (fun h6 => ?_) (fun h6 => ?_)
            · have hc6 := hcd5.symm.trans h6
              refine runS_x (I := inf) (J := jnf) ⟨false, false, [], 0, 0⟩ 9999 rfl (by repeat (first | exact obs_nil | refine obs_draw (by kernel_rfl) ?_ | refine obs_same ?_ | refine obs_and ?_ | refine obs_by (by (simp [inB] <;> omega)) ?_)) ?_
              refine runS_lose 3 rfl ?_
              refine runS_lose 4 rfl ?_
              have hn6 : ¬ (ok = true ∧ ¬ bits.length > 250 ∧ goP (byt s q) = false) := by
                intro hh
                rw [decide_eq_true hh] at hc6
                cases hc6
              have e6 : (if ok = true ∧ ¬ bits.length > 250 ∧ goP (byt s q) = false then Tok.Rd.ok (some ⟨4, bits, p⟩) q else .bad p) = .bad p := if_neg hn6
              rw [e6]
              exact runS_pan 5 rfl (Nat.le_refl _) rfl (kLost hk) ⟨rfl, rfl⟩
            · have hc6 : ok = true ∧ ¬ bits.length > 250 ∧ goP (byt s q) = false := by
                have := hcd5.symm.trans h6
                exact of_decide_eq_true (by simpa using this)
              refine runS_x (I := inf) (J := jnf) ⟨false, false, [], 0, 0⟩ 9999 rfl (by repeat (first | exact obs_nil | refine obs_draw (by kernel_rfl) ?_ | refine obs_same ?_ | refine obs_and ?_ | refine obs_by (by (simp [inB] <;> omega)) ?_)) ?_
              refine runS_callF (scL o0 o1 o2 s q acc) (scL o0 o1 o2 s q (acc ++ [⟨4, bits, p⟩])) [.gone] rfl rfl rfl rfl rfl (show _ = [sPtr, iv 4, iv p, sv bits] from rfl) rfl (kS hk s q acc) rfl rfl (k_put hk s q acc ⟨4, bits, p⟩ ha) ?_
              refine runS_x (I := inf) (J := jnf) ⟨false, false, [], 0, 0⟩ 9999 rfl (by repeat (first | exact obs_nil | refine obs_draw (by kernel_rfl) ?_ | refine obs_same ?_ | refine obs_and ?_ | refine obs_by (by (simp [inB] <;> omega)) ?_)) ?_
              have e6 : (if ok = true ∧ ¬ bits.length > 250 ∧ goP (byt s q) = false then Tok.Rd.ok (some ⟨4, bits, p⟩) q else .bad p) = .ok (some ⟨4, bits, p⟩) q := if_pos hc6
              rw [e6]
              exact runS_ret (I := inf) 5 rfl (Nat.le_refl _) rfl (kS hk _ _ _) rfl ⟨rfl, rfl⟩
end Go.Iron.Tryz

/- The token seat: the table of the first bytes. -/
namespace Go.Iron.Tryz
open Go.Proofs Go.RowKit Go.Iron.Tok

abbrev nilF : AV := .val .nilFunc
abbrev fnS (g : Nat) : AV := .bnd (.func g) [sPtr]
/-- How a token with a first byte is read. -/
def tabF (c : Nat) : AV := if begP c = true then fnS 46 else if digP c = true then fnS 48 else if c = 39 then fnS 49 else if c = 32 ∨ c = 10 ∨ c = 9 then fnS 50 else if plP c = true then fnS 52 else nilF
def tabUp (c : Nat) : List AV := (List.range 128).map fun k => if k < c then tabF k else nilF
theorem tabUp_len (c : Nat) : (tabUp c).length = 128 := by unfold tabUp; rw [List.length_map, List.length_range]
theorem tabUp_get {c k : Nat} (hk : k < 128) : (tabUp c)[k]? = some (if k < c then tabF k else nilF) := by
  unfold tabUp
  rw [List.getElem?_map, List.getElem?_range hk]
  rfl
theorem tabUp_set {c : Nat} (hc : c < 128) : (tabUp c).set c (tabF c) = tabUp (c + 1) := by
  apply List.ext_getElem?
  intro k
  rw [List.getElem?_set]
  by_cases hk : k < 128
  · rw [tabUp_get hk, tabUp_get hk, tabUp_len]
    by_cases h : c = k
    · subst h
      rw [if_pos rfl, if_pos hc, if_pos (by omega)]
    · rw [if_neg h]
      by_cases h2 : k < c
      · rw [if_pos h2, if_pos (by omega)]
      · rw [if_neg h2, if_neg (by omega)]
  · rw [if_neg (by omega), List.getElem?_eq_none (by rw [tabUp_len]; omega), List.getElem?_eq_none (by rw [tabUp_len]; omega)]
theorem tabUp_same {c : Nat} (hc : c < 128) (h : tabF c = nilF) : tabUp (c + 1) = tabUp c := by
  rw [← tabUp_set hc, h]
  apply List.ext_getElem?
  intro k
  rw [List.getElem?_set]
  split
  · rename_i e
    subst e
    rw [if_pos (by rw [tabUp_len]; exact hc), tabUp_get hc, if_neg (by omega)]
  · rfl
theorem splice_one {α : Type} : ∀ (l : List α) (i : Nat) (y : α), i < l.length → splice l i [y] = some (l.set i y)
  | [], i, y, h => absurd h (Nat.not_lt_zero _)
  | x :: l, 0, y, _ => by
    cases l <;> simp [splice]
  | x :: l, i + 1, y, h => by
    rw [splice, splice_one l i y (by simpa using h)]
    rfl
theorem tab_splice {c : Nat} (hc : c < 128) {y : AV} (hy : tabF c = y) : splice (tabUp c) (Nat.add (Nat.add 0 (Nat.mul ((c : Int)).toNat 1)) 0) [y] = some (tabUp (c + 1)) := by
  have e : Nat.add (Nat.add 0 (Nat.mul ((c : Int)).toNat 1)) 0 = c := by
    show 0 + (c : Int).toNat * 1 + 0 = c
    rw [Int.toNat_natCast]
    omega
  rw [e, splice_one _ _ _ (by rw [tabUp_len]; exact hc), ← hy, tabUp_set hc]
instance ty1 : Ty Tryz.prog 1 1 false := ⟨by kernel_rfl, by kernel_rfl⟩
set_option maxRecDepth 20000 in
theorem k_table {o0 o1 o2 : AO} (hk : KeptS o0 o1 o2) (s : Str) (p : Nat) (acc : List Tk) : CallT Tryz.prog 28 [sPtr] (scL o0 o1 o2 s p acc) (fun o A => o = .ret (.agg (tabUp 128)) ∧ A = scL o0 o1 o2 s p acc) := by
  refine callS_body (n := 58) rfl rfl fun w ρ X => ?_
  refine runS_x (I := inf) (J := jnf) ⟨false, false, [], 0, 0⟩ 9999 rfl (by repeat (first | exact obs_nil | refine obs_draw (by kernel_rfl) ?_ | refine obs_same ?_ | refine obs_and ?_ | refine obs_by (by (simp [inB] <;> omega)) ?_)) ?_
  refine runS_while (fun (c : Nat) τ ar => (τ 0 = sPtr ∧ τ 2 = .ptr 5 0 0 ∧ τ 3 = .ptr 6 0 0 ∧ τ 5 = uv c) ∧ ar = scL o0 o1 o2 s p acc ++ [.box 62 (tabUp 0), .box 62 (tabUp c)] ∧ c ≤ 128) (fun c => 128 - c) 0 ⟨⟨rfl, rfl, rfl, rfl⟩, rfl, by omega⟩ ?_
  rintro c τ' ar' ⟨⟨g0, g2, g3, g5⟩, rfl, hc⟩ ih
  refine runS_says 0 (by exact g0) (Says.refl _) ?_; refine runS_says 2 (by exact g2) (Says.refl _) ?_; refine runS_says 3 (by exact g3) (Says.refl _) ?_; refine runS_says 5 (by exact g5) (Says.refl _) ?_
  refine runS_x (I := inf) (J := jnf) ⟨false, false, [], 0, 0⟩ 9999 rfl (by repeat (first | exact obs_nil | refine obs_draw (by kernel_rfl) ?_ | refine obs_same ?_ | refine obs_and ?_ | refine obs_by (by (simp [inB] <;> omega)) ?_)) ?_
  refine runS_cond rfl (fun h => ?_) (fun h => ?_)
  · have hc' : c < 128 := by simp at h; omega
    have hw : IntKind.wrap .u8 ((c : Int) + 1) = ((c + 1 : Nat) : Int) := by rw [IntWalk.u8_in _ (by omega)]; rfl
    refine runS_x (I := inf) (J := jnf) ⟨false, false, [], 0, 0⟩ 9999 rfl (by repeat (first | exact obs_nil | refine obs_draw (by kernel_rfl) ?_ | refine obs_same ?_ | refine obs_and ?_ | refine obs_by (by (simp [inB] <;> omega)) ?_)) ?_
    refine runS_call rfl rfl rfl rfl rfl rfl rfl (k_begins c) ?_
    refine runS_x (I := inf) (J := jnf) ⟨false, false, [], 0, 0⟩ 9999 rfl (by repeat (first | exact obs_nil | refine obs_draw (by kernel_rfl) ?_ | refine obs_same ?_ | refine obs_and ?_ | refine obs_by (by (simp [inB] <;> omega)) ?_)) ?_
    refine runS_cond rfl (fun h1 => ?_) (fun h1 => ?_)
    · have h1' : begP c = true := h1
      have hf : tabF c = fnS 46 := by unfold tabF; rw [if_pos h1']
      refine runS_x (I := inf) (J := jnf) ⟨false, false, [], 0, 0⟩ 9999 rfl (by repeat (first | exact obs_nil | refine obs_draw (by kernel_rfl) ?_ | refine obs_same ?_ | refine obs_and ?_ | refine obs_by (by (simp [inB] <;> omega)) ?_)) ?_
      refine runS_op (fnS 46) rfl rfl rfl (op_makeBound rfl rfl) ?_
      refine runS_x (I := inf) (J := jnf) ⟨false, false, [], 0, 0⟩ 2 rfl (by repeat (first | exact obs_nil | refine obs_draw (by kernel_rfl) ?_ | refine obs_same ?_ | refine obs_and ?_ | refine obs_by (by (simp [inB, hc'] <;> omega)) ?_)) ?_
      refine runS_opA (.val undef) rfl rfl rfl (op_store (t := 1) (sz := 1) (ag := false) (id := 6) (ver := 0) (ob := .box 62 (tabUp c)) (cs := tabUp c) (ys := [fnS 46]) rfl rfl rfl rfl rfl rfl (tab_splice hc' hf) rfl) ?_
      refine runS_x (I := inf) (J := jnf) ⟨false, false, [], 0, 0⟩ 9999 rfl (by repeat (first | exact obs_nil | refine obs_draw (by kernel_rfl) ?_ | refine obs_same ?_ | refine obs_and ?_ | refine obs_by (by (simp [inB] <;> omega)) ?_)) ?_
      exact ih (c + 1) _ _ (by omega) ⟨⟨rfl, rfl, rfl, congrArg (fun x => AV.val (.int .u8 x)) hw⟩, rfl, by omega⟩
    · have h1' : ¬ begP c = true := by rw [show begP c = false from h1]; decide
      refine runS_x (I := inf) (J := jnf) ⟨false, false, [], 0, 0⟩ 9999 rfl (by repeat (first | exact obs_nil | refine obs_draw (by kernel_rfl) ?_ | refine obs_same ?_ | refine obs_and ?_ | refine obs_by (by (simp [inB] <;> omega)) ?_)) ?_
      refine runS_call rfl rfl rfl rfl rfl rfl rfl (k_digit c) ?_
      refine runS_x (I := inf) (J := jnf) ⟨false, false, [], 0, 0⟩ 9999 rfl (by repeat (first | exact obs_nil | refine obs_draw (by kernel_rfl) ?_ | refine obs_same ?_ | refine obs_and ?_ | refine obs_by (by (simp [inB] <;> omega)) ?_)) ?_
      refine runS_cond rfl (fun h2 => ?_) (fun h2 => ?_)
      · have h2' : digP c = true := h2
        have hf : tabF c = fnS 48 := by unfold tabF; rw [if_neg h1', if_pos h2']
        refine runS_x (I := inf) (J := jnf) ⟨false, false, [], 0, 0⟩ 9999 rfl (by repeat (first | exact obs_nil | refine obs_draw (by kernel_rfl) ?_ | refine obs_same ?_ | refine obs_and ?_ | refine obs_by (by (simp [inB] <;> omega)) ?_)) ?_
        refine runS_op (fnS 48) rfl rfl rfl (op_makeBound rfl rfl) ?_
        refine runS_x (I := inf) (J := jnf) ⟨false, false, [], 0, 0⟩ 2 rfl (by repeat (first | exact obs_nil | refine obs_draw (by kernel_rfl) ?_ | refine obs_same ?_ | refine obs_and ?_ | refine obs_by (by (simp [inB, hc'] <;> omega)) ?_)) ?_
        refine runS_opA (.val undef) rfl rfl rfl (op_store (t := 1) (sz := 1) (ag := false) (id := 6) (ver := 0) (ob := .box 62 (tabUp c)) (cs := tabUp c) (ys := [fnS 48]) rfl rfl rfl rfl rfl rfl (tab_splice hc' hf) rfl) ?_
        refine runS_x (I := inf) (J := jnf) ⟨false, false, [], 0, 0⟩ 9999 rfl (by repeat (first | exact obs_nil | refine obs_draw (by kernel_rfl) ?_ | refine obs_same ?_ | refine obs_and ?_ | refine obs_by (by (simp [inB] <;> omega)) ?_)) ?_
        exact ih (c + 1) _ _ (by omega) ⟨⟨rfl, rfl, rfl, congrArg (fun x => AV.val (.int .u8 x)) hw⟩, rfl, by omega⟩
      · have h2' : ¬ digP c = true := by rw [show digP c = false from h2]; decide
        refine runS_x (I := inf) (J := jnf) ⟨false, false, [], 0, 0⟩ 9999 rfl (by repeat (first | exact obs_nil | refine obs_draw (by kernel_rfl) ?_ | refine obs_same ?_ | refine obs_and ?_ | refine obs_by (by (simp [inB] <;> omega)) ?_)) ?_
        refine runS_cond rfl (fun h3 => ?_) (fun h3 => ?_)
        · have h3' : c = 39 := by simp at h3; omega
          have hf : tabF c = fnS 49 := by unfold tabF; rw [if_neg h1', if_neg h2', if_pos h3']
          refine runS_x (I := inf) (J := jnf) ⟨false, false, [], 0, 0⟩ 9999 rfl (by repeat (first | exact obs_nil | refine obs_draw (by kernel_rfl) ?_ | refine obs_same ?_ | refine obs_and ?_ | refine obs_by (by (simp [inB] <;> omega)) ?_)) ?_
          refine runS_op (fnS 49) rfl rfl rfl (op_makeBound rfl rfl) ?_
          refine runS_x (I := inf) (J := jnf) ⟨false, false, [], 0, 0⟩ 2 rfl (by repeat (first | exact obs_nil | refine obs_draw (by kernel_rfl) ?_ | refine obs_same ?_ | refine obs_and ?_ | refine obs_by (by (simp [inB, hc'] <;> omega)) ?_)) ?_
          refine runS_opA (.val undef) rfl rfl rfl (op_store (t := 1) (sz := 1) (ag := false) (id := 6) (ver := 0) (ob := .box 62 (tabUp c)) (cs := tabUp c) (ys := [fnS 49]) rfl rfl rfl rfl rfl rfl (tab_splice hc' hf) rfl) ?_
          refine runS_x (I := inf) (J := jnf) ⟨false, false, [], 0, 0⟩ 9999 rfl (by repeat (first | exact obs_nil | refine obs_draw (by kernel_rfl) ?_ | refine obs_same ?_ | refine obs_and ?_ | refine obs_by (by (simp [inB] <;> omega)) ?_)) ?_
          exact ih (c + 1) _ _ (by omega) ⟨⟨rfl, rfl, rfl, congrArg (fun x => AV.val (.int .u8 x)) hw⟩, rfl, by omega⟩
        · have h3' : ¬ c = 39 := by simp at h3; omega
          refine runS_x (I := inf) (J := jnf) ⟨false, false, [], 0, 0⟩ 9999 rfl (by repeat (first | exact obs_nil | refine obs_draw (by kernel_rfl) ?_ | refine obs_same ?_ | refine obs_and ?_ | refine obs_by (by (simp [inB] <;> omega)) ?_)) ?_
          refine runS_cond rfl (fun h4 => ?_) (fun h4 => ?_)
          · have h4' : c = 32 ∨ c = 10 ∨ c = 9 := by simp at h4; omega
            have hf : tabF c = fnS 50 := by unfold tabF; rw [if_neg h1', if_neg h2', if_neg h3', if_pos h4']
            refine runS_x (I := inf) (J := jnf) ⟨false, false, [], 0, 0⟩ 9999 rfl (by repeat (first | exact obs_nil | refine obs_draw (by kernel_rfl) ?_ | refine obs_same ?_ | refine obs_and ?_ | refine obs_by (by (simp [inB] <;> omega)) ?_)) ?_
            refine runS_op (fnS 50) rfl rfl rfl (op_makeBound rfl rfl) ?_
            refine runS_x (I := inf) (J := jnf) ⟨false, false, [], 0, 0⟩ 2 rfl (by repeat (first | exact obs_nil | refine obs_draw (by kernel_rfl) ?_ | refine obs_same ?_ | refine obs_and ?_ | refine obs_by (by (simp [inB, hc'] <;> omega)) ?_)) ?_
            refine runS_opA (.val undef) rfl rfl rfl (op_store (t := 1) (sz := 1) (ag := false) (id := 6) (ver := 0) (ob := .box 62 (tabUp c)) (cs := tabUp c) (ys := [fnS 50]) rfl rfl rfl rfl rfl rfl (tab_splice hc' hf) rfl) ?_
            refine runS_x (I := inf) (J := jnf) ⟨false, false, [], 0, 0⟩ 9999 rfl (by repeat (first | exact obs_nil | refine obs_draw (by kernel_rfl) ?_ | refine obs_same ?_ | refine obs_and ?_ | refine obs_by (by (simp [inB] <;> omega)) ?_)) ?_
            exact ih (c + 1) _ _ (by omega) ⟨⟨rfl, rfl, rfl, congrArg (fun x => AV.val (.int .u8 x)) hw⟩, rfl, by omega⟩
          · have h4' : ¬ (c = 32 ∨ c = 10 ∨ c = 9) := by simp at h4; omega
            refine runS_x (I := inf) (J := jnf) ⟨false, false, [], 0, 0⟩ 9999 rfl (by repeat (first | exact obs_nil | refine obs_draw (by kernel_rfl) ?_ | refine obs_same ?_ | refine obs_and ?_ | refine obs_by (by (simp [inB] <;> omega)) ?_)) ?_
            refine runS_call rfl rfl rfl rfl rfl rfl rfl (k_plain c) ?_
            refine runS_x (I := inf) (J := jnf) ⟨false, false, [], 0, 0⟩ 9999 rfl (by repeat (first | exact obs_nil | refine obs_draw (by kernel_rfl) ?_ | refine obs_same ?_ | refine obs_and ?_ | refine obs_by (by (simp [inB] <;> omega)) ?_)) ?_
            refine runS_cond rfl (fun h5 => ?_) (fun h5 => ?_)
            · have h5' : plP c = true := h5
              have hf : tabF c = fnS 52 := by unfold tabF; rw [if_neg h1', if_neg h2', if_neg h3', if_neg h4', if_pos h5']
              refine runS_x (I := inf) (J := jnf) ⟨false, false, [], 0, 0⟩ 9999 rfl (by repeat (first | exact obs_nil | refine obs_draw (by kernel_rfl) ?_ | refine obs_same ?_ | refine obs_and ?_ | refine obs_by (by (simp [inB] <;> omega)) ?_)) ?_
              refine runS_op (fnS 52) rfl rfl rfl (op_makeBound rfl rfl) ?_
              refine runS_x (I := inf) (J := jnf) ⟨false, false, [], 0, 0⟩ 2 rfl (by repeat (first | exact obs_nil | refine obs_draw (by kernel_rfl) ?_ | refine obs_same ?_ | refine obs_and ?_ | refine obs_by (by (simp [inB, hc'] <;> omega)) ?_)) ?_
              refine runS_opA (.val undef) rfl rfl rfl (op_store (t := 1) (sz := 1) (ag := false) (id := 6) (ver := 0) (ob := .box 62 (tabUp c)) (cs := tabUp c) (ys := [fnS 52]) rfl rfl rfl rfl rfl rfl (tab_splice hc' hf) rfl) ?_
              refine runS_x (I := inf) (J := jnf) ⟨false, false, [], 0, 0⟩ 9999 rfl (by repeat (first | exact obs_nil | refine obs_draw (by kernel_rfl) ?_ | refine obs_same ?_ | refine obs_and ?_ | refine obs_by (by (simp [inB] <;> omega)) ?_)) ?_
              exact ih (c + 1) _ _ (by omega) ⟨⟨rfl, rfl, rfl, congrArg (fun x => AV.val (.int .u8 x)) hw⟩, rfl, by omega⟩
            · have h5' : ¬ plP c = true := by rw [show plP c = false from h5]; decide
              have hf : tabF c = nilF := by unfold tabF; rw [if_neg h1', if_neg h2', if_neg h3', if_neg h4', if_neg h5']
              refine runS_x (I := inf) (J := jnf) ⟨false, false, [], 0, 0⟩ 9999 rfl (by repeat (first | exact obs_nil | refine obs_draw (by kernel_rfl) ?_ | refine obs_same ?_ | refine obs_and ?_ | refine obs_by (by (simp [inB] <;> omega)) ?_)) ?_
              exact ih (c + 1) _ _ (by omega) ⟨⟨rfl, rfl, rfl, congrArg (fun x => AV.val (.int .u8 x)) hw⟩, by rw [tabUp_same hc' hf], by omega⟩
  · have hc' : c = 128 := by simp at h; omega
    subst hc'
    refine runS_x (I := inf) (J := jnf) ⟨false, false, [], 0, 0⟩ 9999 rfl (by repeat (first | exact obs_nil | refine obs_draw (by kernel_rfl) ?_ | refine obs_same ?_ | refine obs_and ?_ | refine obs_by (by (simp [inB] <;> omega)) ?_)) ?_
    exact runS_ret (I := inf) 5 rfl (Nat.le_refl _) rfl (kS hk s p acc) rfl ⟨rfl, rfl⟩
end Go.Iron.Tryz

/- The token seat: Scan. -/
namespace Go.Iron.Tryz
open Go.Proofs Go.RowKit Go.Iron.Tok

abbrev sc0 : AO := .box 39 [.val (.slice none 0 0)]
abbrev sc1 : AO := .box 3 [iv 0]
abbrev sc2 : AO := .box 23 [iv 0]
theorem keptSc : KeptS sc0 sc1 sc2 := fun m L h => .box rfl (.box rfl (.box rfl h))
def scanA (x : List Tk × Nat × Nat) : AV := .tup [tkS none x.1, iv x.2.1, iv x.2.2]
abbrev nilT : Nat → List AV := tkR []
abbrev tabB : AO := .box 62 (tabUp 128)
theorem readAt_hi {s : Str} {p : Nat} (h : tabF (byt s p) = nilF ∨ 127 < byt s p) : readAt s p = .bad p := by
  have hf : begP (byt s p) = false ∧ digP (byt s p) = false ∧ byt s p ≠ 39 ∧ ¬ (byt s p = 32 ∨ byt s p = 10 ∨ byt s p = 9) ∧ plP (byt s p) = false := by
    rcases h with h | h
    · unfold tabF at h
      split at h
      · cases h
      · rename_i h1
        split at h
        · cases h
        · rename_i h2
          split at h
          · cases h
          · rename_i h3
            split at h
            · cases h
            · rename_i h4
              split at h
              · cases h
              · rename_i h5
                exact ⟨by simpa using h1, by simpa using h2, h3, h4, by simpa using h5⟩
    · have h2 : upN (byt s p) = byt s p := by unfold upN; rw [if_neg (by omega)]
      refine ⟨?_, ?_, by omega, by omega, ?_⟩
      · simp [begP, h2]; omega
      · simp [digP]; omega
      · simp [plP]; omega
  obtain ⟨a, b, c, d, e⟩ := hf
  unfold readAt
  rw [a, b, e, if_neg (by decide), if_neg (by decide), if_neg c, if_neg d, if_neg (by decide)]
theorem tab_load {c : Nat} (hc : c < 128) {y : AV} (hy : tabF c = y) : loadA false 1 (tabUp 128) (Nat.add (Nat.add 0 (Nat.mul ((c : Int)).toNat 1)) 0) = some y := by
  have e : Nat.add (Nat.add 0 (Nat.mul ((c : Int)).toNat 1)) 0 = c := by
    show 0 + (c : Int).toNat * 1 + 0 = c
    rw [Int.toNat_natCast]
    omega
  rw [e]
  show nth (tabUp 128) c = _
  rw [nth_eq, tabUp_get hc, if_pos hc, hy]
theorem tab_under : AV.unders 5 (tabUp 128) = true := by kernel_rfl
/-- What the table has for a byte does what is to be done there. -/
theorem tab_reads {o0 o1 o2 : AO} (hk : KeptS o0 o1 o2) (s : Str) (p : Nat) (acc : List Tk) (hs : s.length ≤ 24000) (hp : p < s.length) (ha : acc.length ≤ 30000) : tabF (byt s p) = nilF ∨ ∃ (g : Nat) (gn : Func) (gc : Code) (_ : Fun Tryz.prog g gn gc), tabF (byt s p) = fnS g ∧ CallT Tryz.prog g [sPtr] (scL o0 o1 o2 s p acc) (rdS o0 o1 o2 s acc (readAt s p)) := by
  by_cases h1 : begP (byt s p) = true
  · refine .inr ⟨46, _, _, inferInstance, by unfold tabF; rw [if_pos h1], ?_⟩
    rw [show readAt s p = readName s p by unfold readAt; rw [if_pos h1]]
    exact k_name hk s p acc (by omega) (by omega) ha
  by_cases h2 : digP (byt s p) = true
  · refine .inr ⟨48, _, _, inferInstance, by unfold tabF; rw [if_neg h1, if_pos h2], ?_⟩
    rw [show readAt s p = readNum s p by unfold readAt; rw [if_neg h1, if_pos h2]]
    exact k_number hk s p acc (by omega) (by omega) ha
  by_cases h3 : byt s p = 39
  · refine .inr ⟨49, _, _, inferInstance, by unfold tabF; rw [if_neg h1, if_neg h2, if_pos h3], ?_⟩
    rw [show readAt s p = readQuo s p by unfold readAt; rw [if_neg h1, if_neg h2, if_pos h3]]
    exact k_quoted hk s p acc hs hp ha
  by_cases h4 : byt s p = 32 ∨ byt s p = 10 ∨ byt s p = 9
  · refine .inr ⟨50, _, _, inferInstance, by unfold tabF; rw [if_neg h1, if_neg h2, if_neg h3, if_pos h4], ?_⟩
    rw [show readAt s p = .ok none (p + 1) by unfold readAt; rw [if_neg h1, if_neg h2, if_neg h3, if_pos h4]]
    exact k_blank hk s p acc (by omega)
  by_cases h5 : plP (byt s p) = true
  · refine .inr ⟨52, _, _, inferInstance, by unfold tabF; rw [if_neg h1, if_neg h2, if_neg h3, if_neg h4, if_pos h5], ?_⟩
    rw [show readAt s p = readOp s p by unfold readAt; rw [if_neg h1, if_neg h2, if_neg h3, if_neg h4, if_pos h5]]
    exact k_operator hk s p acc (by omega) hp ha
  · exact .inl (by unfold tabF; rw [if_neg h1, if_neg h2, if_neg h3, if_neg h4, if_neg h5])
set_option maxRecDepth 20000 in
theorem k_scan (s : Str) (hs0 : s.length ≤ 100000) : CallT Tryz.prog 14 [sv s] [] (fun o A => o = .ret (scanA (scanF s)) ∧ A = []) := by
  refine callS_body (n := 55) rfl rfl fun w ρ X => ?_
  refine runS_x (I := inf) (J := jnf) ⟨false, false, [], 0, 0⟩ 9999 rfl (by repeat (first | exact obs_nil | refine obs_draw (by kernel_rfl) ?_ | refine obs_same ?_ | refine obs_and ?_ | refine obs_by (by (simp [inB, blS] <;> omega)) ?_)) ?_
  refine runS_cond rfl (fun h => ?_) (fun h => ?_)
  · have hb : s.length > 20000 := by
      have : decide ((s.length : Int) > 20000) = true := h
      simp at this
      omega
    refine runS_x (I := inf) (J := jnf) ⟨false, false, [], 0, 0⟩ 9999 rfl (by repeat (first | exact obs_nil | refine obs_draw (by kernel_rfl) ?_ | refine obs_same ?_ | refine obs_and ?_ | refine obs_by (by (simp [inB] <;> omega)) ?_)) ?_
    refine runS_saysBox 0 0 _ rfl rfl (says_nil0 (sz := 3) (r := nilT) (Nat.zero_le _)) rfl rfl ?_
    refine runS_ret (I := inf) 0 rfl (Nat.le_refl _) rfl .nil rfl ⟨?_, rfl⟩
    rw [scanF, if_pos hb]
    rfl
  · have hb : ¬ s.length > 20000 := by
      have : decide ((s.length : Int) > 20000) = false := h
      simp at this
      omega
    have hs : s.length ≤ 24000 := by omega
    refine runS_x (I := inf) (J := jnf) ⟨false, false, [], 0, 0⟩ 9999 rfl (by repeat (first | exact obs_nil | refine obs_draw (by kernel_rfl) ?_ | refine obs_same ?_ | refine obs_and ?_ | refine obs_by (by (simp [inB] <;> omega)) ?_)) ?_
    refine runS_nilRowBox 3 2 29 3 nilT rfl rfl rfl rfl rfl ?_
    refine runS_callF (scL sc0 sc1 sc2 s 0 []) (scL sc0 sc1 sc2 s 0 []) [] rfl rfl rfl rfl rfl (show _ = [sPtr] from rfl) rfl (kS keptSc s 0 []) rfl rfl (k_table keptSc s 0 []) ?_
    refine runS_x (I := inf) (J := jnf) ⟨false, false, [], 0, 0⟩ 9999 rfl (by repeat (first | exact obs_nil | refine obs_draw (by kernel_rfl) ?_ | refine obs_same ?_ | refine obs_and ?_ | refine obs_by (by (simp [inB] <;> omega)) ?_)) ?_
    refine runS_while (fun (x : Nat × List Tk) τ ar => (τ 0 = sv s ∧ τ 2 = .ptr 0 0 0 ∧ τ 3 = .ptr 1 0 0 ∧ τ 4 = .ptr 2 0 0 ∧ τ 5 = sPtr ∧ τ 6 = .ptr 5 0 0) ∧ ar = scL sc0 sc1 sc2 s x.1 x.2 ++ [tabB] ∧ x.1 ≤ s.length ∧ x.2.length ≤ x.1 ∧ scanP s 0 [] = scanP s x.1 x.2) (fun x => s.length - x.1) (0, []) ⟨⟨rfl, rfl, rfl, rfl, rfl, rfl⟩, rfl, Nat.zero_le _, Nat.le_refl _, rfl⟩ ?_
    rintro ⟨p, acc⟩ τ' ar' ⟨⟨g0, g2, g3, g4, g5, g6⟩, rfl, hp, ha, hq⟩ ih
    dsimp only at hp ha hq ih
    refine runS_says 0 (by exact g0) (Says.refl _) ?_; refine runS_says 2 (by exact g2) (Says.refl _) ?_; refine runS_says 3 (by exact g3) (Says.refl _) ?_; refine runS_says 4 (by exact g4) (Says.refl _) ?_; refine runS_says 5 (by exact g5) (Says.refl _) ?_; refine runS_says 6 (by exact g6) (Says.refl _) ?_
    refine runS_x (I := inf) (J := jnf) ⟨false, false, [], 0, 0⟩ 9999 rfl (by repeat (first | exact obs_nil | refine obs_draw (by kernel_rfl) ?_ | refine obs_same ?_ | refine obs_and ?_ | refine obs_by (by (simp [inB, blS] <;> omega)) ?_)) ?_
    refine runS_cond rfl (fun h1 => ?_) (fun h1 => ?_)
    · have hpl : p < s.length := by
        have : decide ((p : Int) < (s.length : Int)) = true := h1
        simp at this
        omega
      have hfin : ∀ q, readAt s p = .bad q → scanF s = ([], q, 2) := fun q hr => by
        have : scanF s = scanP s 0 [] := by rw [scanF, if_neg hb]; rfl
        rw [this, hq, scanP_bad hpl hr]
      by_cases hlow : byt s p ≤ 127
      · have hgt : decide (((byt s p : Nat) : Int) > 127) = false := by simp; omega
        rcases tab_reads keptSc s p acc hs hpl (by omega) with hz | ⟨g, gn, gc, hF, hz, hcall⟩
        · have hr := readAt_hi (s := s) (p := p) (.inl hz)
          refine runS_x (I := inf) (J := jnf) ⟨false, false, [], 0, 0⟩ 22 rfl (by repeat (first | exact obs_nil | refine obs_draw (by kernel_rfl) ?_ | refine obs_same ?_ | refine obs_and ?_ | refine obs_by (by (simp [inB, blS, hpl] <;> omega)) ?_)) ?_
          refine runS_opV nilF rfl rfl (.v rfl rfl rfl rfl) rfl rfl [] (l := [35]) (.cons .o .nil) (fun hc => op_load_ptr (t := 1) (sz := 1) (ag := false) (id := 5) (ver := 0) (ob := tabB) (cs := tabUp 128) rfl rfl rfl rfl (tab_load (c := byt s p) (by omega) hz)) ?_
          refine runS_opV (bv true) rfl rfl (.v rfl rfl rfl rfl) rfl rfl [] (l := [36]) (.cons .o .nil) (fun hc => op_fnilNil Tryz.underlying1 rfl rfl rfl) ?_
          refine runS_x (I := inf) (J := jnf) ⟨false, false, [], 0, 0⟩ 9999 rfl (by repeat (first | exact obs_nil | refine obs_draw (by kernel_rfl) ?_ | refine obs_same ?_ | refine obs_and ?_ | refine obs_by (by (simp [inB] <;> omega)) ?_)) ?_
          refine runS_cond rfl (fun h2 => ?_) (fun h2 => ?_)
          · refine runS_x (I := inf) (J := jnf) ⟨false, false, [], 0, 0⟩ 9999 rfl (by repeat (first | exact obs_nil | refine obs_draw (by kernel_rfl) ?_ | refine obs_same ?_ | refine obs_and ?_ | refine obs_by (by (simp [inB] <;> omega)) ?_)) ?_
            refine runS_x (I := inf) (J := jnf) ⟨true, false, [27], 0, 0⟩ 9999 rfl (by repeat (first | exact obs_nil | refine obs_draw (by kernel_rfl) ?_ | refine obs_same ?_ | refine obs_and ?_ | refine obs_by (by (simp [inB] <;> omega)) ?_)) ?_
            refine runS_lose 3 rfl ?_
            refine runS_lose 4 rfl ?_
            refine runS_lose 5 rfl ?_
            refine runS_drawG (ch := []) (A2 := fun _ => []) 3 [2] (fun b => [sc0, sc1, sc2, .gone, .gone, .gone, .box 59 [iv p]]) none (c := 9) jnfI.draw (by kernel_rfl) rfl (lexg_g (I := inf) (J := jnf) none ⟨⟨_, rfl, (by repeat (first | exact obs_nil | refine obs_same ?_ | refine obs_and ?_ | refine obs_by (by (simp [inB] <;> omega)) ?_))⟩, (by first | exact .inl (by decide +kernel) | exact .inr ⟨_, rfl, (by repeat (first | exact obs_nil | refine obs_same ?_ | refine obs_and ?_ | refine obs_by (by (simp [inB] <;> omega)) ?_))⟩)⟩ rfl rfl rfl rfl (lexg_g (I := inf) (J := jnf) none ⟨⟨_, rfl, (by repeat (first | exact obs_nil | refine obs_same ?_ | refine obs_and ?_ | refine obs_by (by (simp [inB] <;> omega)) ?_))⟩, (by first | exact .inl (by decide +kernel) | exact .inr ⟨_, rfl, (by repeat (first | exact obs_nil | refine obs_same ?_ | refine obs_and ?_ | refine obs_by (by (simp [inB] <;> omega)) ?_))⟩)⟩ rfl rfl rfl rfl (lexg_g (I := inf) (J := jnf) (some .store) ⟨⟨_, rfl, (by repeat (first | exact obs_nil | refine obs_same ?_ | refine obs_and ?_ | refine obs_by (by (simp [inB] <;> omega)) ?_))⟩, .inl rfl⟩ rfl rfl rfl rfl lexg_nil))) rfl (fun _ => ?_) (fun h => by cases h)
            refine runS_x (I := inf) (J := jnf) ⟨true, false, [27], 0, 0⟩ 9999 rfl (by repeat (first | exact obs_nil | refine obs_draw (by kernel_rfl) ?_ | refine obs_same ?_ | refine obs_and ?_ | refine obs_by (by (simp [inB] <;> omega)) ?_)) ?_
            refine runS_saysBox 0 0 _ rfl rfl (says_nil0 (sz := 3) (r := nilT) (Nat.zero_le _)) rfl rfl ?_
            refine runS_ret (I := inf) 0 rfl (Nat.le_refl _) rfl .nil rfl ⟨?_, rfl⟩
            rw [hfin _ hr]
            rfl
          · exfalso
            have h2' : (if decide (((byt s p : Nat) : Int) > 127) = true then true else true) = false := h2
            rw [hgt] at h2'
            cases h2'
        · refine runS_x (I := inf) (J := jnf) ⟨false, false, [], 0, 0⟩ 22 rfl (by repeat (first | exact obs_nil | refine obs_draw (by kernel_rfl) ?_ | refine obs_same ?_ | refine obs_and ?_ | refine obs_by (by (simp [inB, blS, hpl] <;> omega)) ?_)) ?_
          refine runS_opV (fnS g) rfl rfl (.v rfl rfl rfl rfl) rfl rfl [] (l := [35]) (.cons .o .nil) (fun hc => op_load_ptr (t := 1) (sz := 1) (ag := false) (id := 5) (ver := 0) (ob := tabB) (cs := tabUp 128) rfl rfl rfl rfl (tab_load (c := byt s p) (by omega) hz)) ?_
          refine runS_opV (bv false) rfl rfl (.v rfl rfl rfl rfl) rfl rfl [] (l := [36]) (.cons .o .nil) (fun hc => op_bndNil Tryz.underlying1 rfl rfl rfl) ?_
          refine runS_x (I := inf) (J := jnf) ⟨false, false, [], 0, 0⟩ 9999 rfl (by repeat (first | exact obs_nil | refine obs_draw (by kernel_rfl) ?_ | refine obs_same ?_ | refine obs_and ?_ | refine obs_by (by (simp [inB] <;> omega)) ?_)) ?_
          refine runS_cond rfl (fun h2 => ?_) (fun h2 => ?_)
          · exfalso
            have h2' : (if decide (((byt s p : Nat) : Int) > 127) = true then true else false) = true := h2
            rw [hgt] at h2'
            cases h2'
          · have hin : inB ((byt s p : Nat) : Int) 128 = true := by simp [inB]; omega
            refine runS_x (I := inf) (J := jnf) ⟨false, false, [], 0, 0⟩ 5 rfl (by repeat (first | exact obs_nil | refine obs_draw (by kernel_rfl) ?_ | refine obs_same ?_ | refine obs_and ?_ | refine obs_by (by first | exact (fun _ => hin) | (simp [inB] <;> omega)) ?_)) ?_
            refine runS_op (fnS g) rfl rfl rfl (op_load_ptr (t := 1) (sz := 1) (ag := false) (id := 5) (ver := 0) (ob := tabB) (cs := tabUp 128) rfl rfl rfl rfl (tab_load (c := byt s p) (by omega) hz)) ?_
            cases hr : readAt s p with
            | bad q =>
              rw [hr] at hcall
              refine runS_callBP (scL sc0 sc1 sc2 s p acc) (lostS sc0 sc1 sc2) [tabB] rfl rfl rfl rfl rfl rfl (kS keptSc s p acc) rfl rfl hcall ?_
              refine runS_x (I := inf) (J := jnf) ⟨true, false, [27], 0, 0⟩ 9999 rfl (by repeat (first | exact obs_nil | refine obs_draw (by kernel_rfl) ?_ | refine obs_same ?_ | refine obs_and ?_ | refine obs_by (by (simp [inB] <;> omega)) ?_)) ?_
              refine runS_lose 5 rfl ?_
              refine runS_drawG (ch := []) (A2 := fun _ => []) 3 [2] (fun b => [sc0, sc1, sc2, .gone, .gone, .gone, .box 59 [iv q]]) none (c := 9) jnfI.draw (by kernel_rfl) rfl (lexg_g (I := inf) (J := jnf) none ⟨⟨_, rfl, (by repeat (first | exact obs_nil | refine obs_same ?_ | refine obs_and ?_ | refine obs_by (by (simp [inB] <;> omega)) ?_))⟩, (by first | exact .inl (by decide +kernel) | exact .inr ⟨_, rfl, (by repeat (first | exact obs_nil | refine obs_same ?_ | refine obs_and ?_ | refine obs_by (by (simp [inB] <;> omega)) ?_))⟩)⟩ rfl rfl rfl rfl (lexg_g (I := inf) (J := jnf) none ⟨⟨_, rfl, (by repeat (first | exact obs_nil | refine obs_same ?_ | refine obs_and ?_ | refine obs_by (by (simp [inB] <;> omega)) ?_))⟩, (by first | exact .inl (by decide +kernel) | exact .inr ⟨_, rfl, (by repeat (first | exact obs_nil | refine obs_same ?_ | refine obs_and ?_ | refine obs_by (by (simp [inB] <;> omega)) ?_))⟩)⟩ rfl rfl rfl rfl (lexg_g (I := inf) (J := jnf) (some .store) ⟨⟨_, rfl, (by repeat (first | exact obs_nil | refine obs_same ?_ | refine obs_and ?_ | refine obs_by (by (simp [inB] <;> omega)) ?_))⟩, .inl rfl⟩ rfl rfl rfl rfl lexg_nil))) rfl (fun _ => ?_) (fun h => by cases h)
              refine runS_x (I := inf) (J := jnf) ⟨true, false, [27], 0, 0⟩ 9999 rfl (by repeat (first | exact obs_nil | refine obs_draw (by kernel_rfl) ?_ | refine obs_same ?_ | refine obs_and ?_ | refine obs_by (by (simp [inB] <;> omega)) ?_)) ?_
              refine runS_saysBox 0 0 _ rfl rfl (says_nil0 (sz := 3) (r := nilT) (Nat.zero_le _)) rfl rfl ?_
              refine runS_ret (I := inf) 0 rfl (Nat.le_refl _) rfl .nil rfl ⟨?_, rfl⟩
              rw [hfin _ hr]
              rfl
            | ok t q =>
              rw [hr] at hcall
              obtain ⟨b1, b2⟩ := readAt_prog hpl hr
              cases t with
              | none =>
                refine runS_callB (scL sc0 sc1 sc2 s p acc) (scL sc0 sc1 sc2 s q acc) [tabB] rfl rfl rfl rfl rfl rfl (kS keptSc s p acc) rfl rfl hcall ?_
                refine runS_x (I := inf) (J := jnf) ⟨false, false, [], 0, 0⟩ 9999 rfl (by repeat (first | exact obs_nil | refine obs_draw (by kernel_rfl) ?_ | refine obs_same ?_ | refine obs_and ?_ | refine obs_by (by (simp [inB] <;> omega)) ?_)) ?_
                refine runS_keep 5 6 6 (e := 62) (cs := tabUp 128) (ar' := scL sc0 sc1 sc2 s q acc ++ [tabB]) rfl rfl rfl (Nat.zero_le _) rfl (kS keptSc s q acc) tab_under rfl rfl rfl .nil rfl ?_
                exact ih (q, acc) _ _ (by dsimp only; omega) ⟨⟨rfl, rfl, rfl, rfl, rfl, rfl⟩, rfl, b2, by dsimp only; omega, by rw [hq, scanP_none hpl hr]⟩
              | some t =>
                refine runS_callB (scL sc0 sc1 sc2 s p acc) (scL sc0 sc1 sc2 s q (acc ++ [t])) [tabB] rfl rfl rfl rfl rfl rfl (kS keptSc s p acc) rfl rfl hcall ?_
                refine runS_x (I := inf) (J := jnf) ⟨false, false, [], 0, 0⟩ 9999 rfl (by repeat (first | exact obs_nil | refine obs_draw (by kernel_rfl) ?_ | refine obs_same ?_ | refine obs_and ?_ | refine obs_by (by (simp [inB] <;> omega)) ?_)) ?_
                refine runS_keep 5 6 6 (e := 62) (cs := tabUp 128) (ar' := scL sc0 sc1 sc2 s q (acc ++ [t]) ++ [tabB]) rfl rfl rfl (Nat.zero_le _) rfl (kS keptSc s q (acc ++ [t])) tab_under rfl rfl rfl .nil rfl ?_
                exact ih (q, acc ++ [t]) _ _ (by dsimp only; omega) ⟨⟨rfl, rfl, rfl, rfl, rfl, rfl⟩, rfl, b2, by dsimp only; rw [List.length_append]; show acc.length + 1 ≤ q; omega, by rw [hq, scanP_some hpl hr]⟩
      · have hr := readAt_hi (s := s) (p := p) (.inr (by omega))
        have hgt : decide (((byt s p : Nat) : Int) > 127) = true := by simp; omega
        have hno : condOf none (decide (((byt s p : Nat) : Int) > 127)) false = true → False := by rw [hgt]; decide
        refine runS_x (I := inf) (J := jnf) ⟨false, false, [], 0, 0⟩ 22 rfl (by repeat (first | exact obs_nil | refine obs_draw (by kernel_rfl) ?_ | refine obs_same ?_ | refine obs_and ?_ | refine obs_by (by (simp [inB, blS, hpl] <;> omega)) ?_)) ?_
        refine runS_opV nilF rfl rfl (.v rfl rfl rfl rfl) rfl rfl [] (l := []) .nil (fun hc => (hno hc).elim) ?_
        refine runS_opV (bv true) rfl rfl (.v rfl rfl rfl rfl) rfl rfl [] (l := []) .nil (fun hc => (hno hc).elim) ?_
        refine runS_x (I := inf) (J := jnf) ⟨false, false, [], 0, 0⟩ 9999 rfl (by repeat (first | exact obs_nil | refine obs_draw (by kernel_rfl) ?_ | refine obs_same ?_ | refine obs_and ?_ | refine obs_by (by (simp [inB] <;> omega)) ?_)) ?_
        refine runS_cond rfl (fun h2 => ?_) (fun h2 => ?_)
        · refine runS_x (I := inf) (J := jnf) ⟨false, false, [], 0, 0⟩ 9999 rfl (by repeat (first | exact obs_nil | refine obs_draw (by kernel_rfl) ?_ | refine obs_same ?_ | refine obs_and ?_ | refine obs_by (by (simp [inB] <;> omega)) ?_)) ?_
          refine runS_x (I := inf) (J := jnf) ⟨true, false, [27], 0, 0⟩ 9999 rfl (by repeat (first | exact obs_nil | refine obs_draw (by kernel_rfl) ?_ | refine obs_same ?_ | refine obs_and ?_ | refine obs_by (by (simp [inB] <;> omega)) ?_)) ?_
          refine runS_lose 3 rfl ?_
          refine runS_lose 4 rfl ?_
          refine runS_lose 5 rfl ?_
          refine runS_drawG (ch := []) (A2 := fun _ => []) 3 [2] (fun b => [sc0, sc1, sc2, .gone, .gone, .gone, .box 59 [iv p]]) none (c := 9) jnfI.draw (by kernel_rfl) rfl (lexg_g (I := inf) (J := jnf) none ⟨⟨_, rfl, (by repeat (first | exact obs_nil | refine obs_same ?_ | refine obs_and ?_ | refine obs_by (by (simp [inB] <;> omega)) ?_))⟩, (by first | exact .inl (by decide +kernel) | exact .inr ⟨_, rfl, (by repeat (first | exact obs_nil | refine obs_same ?_ | refine obs_and ?_ | refine obs_by (by (simp [inB] <;> omega)) ?_))⟩)⟩ rfl rfl rfl rfl (lexg_g (I := inf) (J := jnf) none ⟨⟨_, rfl, (by repeat (first | exact obs_nil | refine obs_same ?_ | refine obs_and ?_ | refine obs_by (by (simp [inB] <;> omega)) ?_))⟩, (by first | exact .inl (by decide +kernel) | exact .inr ⟨_, rfl, (by repeat (first | exact obs_nil | refine obs_same ?_ | refine obs_and ?_ | refine obs_by (by (simp [inB] <;> omega)) ?_))⟩)⟩ rfl rfl rfl rfl (lexg_g (I := inf) (J := jnf) (some .store) ⟨⟨_, rfl, (by repeat (first | exact obs_nil | refine obs_same ?_ | refine obs_and ?_ | refine obs_by (by (simp [inB] <;> omega)) ?_))⟩, .inl rfl⟩ rfl rfl rfl rfl lexg_nil))) rfl (fun _ => ?_) (fun h => by cases h)
          refine runS_x (I := inf) (J := jnf) ⟨true, false, [27], 0, 0⟩ 9999 rfl (by repeat (first | exact obs_nil | refine obs_draw (by kernel_rfl) ?_ | refine obs_same ?_ | refine obs_and ?_ | refine obs_by (by (simp [inB] <;> omega)) ?_)) ?_
          refine runS_saysBox 0 0 _ rfl rfl (says_nil0 (sz := 3) (r := nilT) (Nat.zero_le _)) rfl rfl ?_
          refine runS_ret (I := inf) 0 rfl (Nat.le_refl _) rfl .nil rfl ⟨?_, rfl⟩
          rw [hfin _ hr]
          rfl
        · exfalso
          have h2' : (if decide (((byt s p : Nat) : Int) > 127) = true then true else true) = false := h2
          rw [hgt] at h2'
          cases h2'
    · have hpe : p = s.length := by
        have : decide ((p : Int) < (s.length : Int)) = false := h1
        simp at this
        omega
      subst hpe
      have hfs : scanF s = (acc, 0, 0) := by
        have : scanF s = scanP s 0 [] := by rw [scanF, if_neg hb]; rfl
        rw [this, hq, scanP_end]
      refine runS_x (I := inf) (J := jnf) ⟨false, false, [], 0, 0⟩ 9999 rfl (by repeat (first | exact obs_nil | refine obs_draw (by kernel_rfl) ?_ | refine obs_same ?_ | refine obs_and ?_ | refine obs_by (by (simp [inB] <;> omega)) ?_)) ?_
      refine runS_lose 3 rfl ?_
      refine runS_freezeCell 0 0 rfl rfl rfl rfl (fun j hj => rfl) rfl rfl rfl ?_
      refine runS_x (I := inf) (J := jnf) ⟨true, false, [27], 0, 0⟩ 9999 rfl (by repeat (first | exact obs_nil | refine obs_draw (by kernel_rfl) ?_ | refine obs_same ?_ | refine obs_and ?_ | refine obs_by (by (simp [inB] <;> omega)) ?_)) ?_
      refine runS_ret (I := inf) 0 rfl (Nat.le_refl _) rfl .nil rfl ⟨?_, rfl⟩
      rw [hfs]
      rfl
end Go.Iron.Tryz
