/- Iron: this seat's types and functions, by program (mkinf.py). -/
import Derived.Test.YtcgepjbalmppjaaGreatDoorTA
import Derived.Test.YtcgepjbalmppjaaGreatDoorTB
import Derived.Test.YtcgepjbalmppjaaGreatDoorTC
import Derived.Test.YtcgepjbalmppjaaGreatDoorTD
import Derived.Test.YtcgepjbalmppjaaGreatDoorProg
import Derived.Shelf.Strings.Builder1
import Derived.Shelf.Strings.Builder2
import Derived.Shelf.Strings.Trim
import Derived.Shelf.Strings.SlTrimAscii
import Derived.Shelf.Small.Utf8
import Derived.Shelf.Small.Strs
import Derived.Shelf.Strings.BuilderF
import Derived.Shelf.Strings.Search1
import Derived.Shelf.Strings.Search2
import Derived.Shelf.Strings.Search3
import Derived.Shelf.LaysM
import Derived.Shelf.Strings.Shaped
import Derived.Shelf.Strings.Prefix
import Derived.Shelf.Strings.Runes
import Derived.Shelf.Strings.AsciiSet
import Derived.Shelf.Bits.Mul64
import Derived.Shelf.Strings.Repeat
import Derived.Shelf.Unicode.DecodeSlow
set_option maxRecDepth 10000
namespace Go.Iron.Tryz
open Go.Proofs
instance globs : Globs := ⟨[]⟩
def inf : TI where
  ty := [(1, 1, false), (3, 1, false), (4, 1, false), (5, 1, false), (9, 1, false), (20, 1, false), (23, 4, true), (25, 6, true), (26, 1, false), (27, 1, false), (30, 1, false), (33, 1, false), (35, 3, true), (41, 8, true), (71, 1, false), (72, 1, false), (74, 3, true), (76, 0, true), (78, 1, false), (84, 1, false), (86, 1, false), (87, 1, false), (89, 1, false), (95, 14, true), (98, 1, false), (99, 1, false), (101, 7, true), (103, 1, false), (107, 1, false), (112, 1, false), (121, 1, true), (122, 1, false), (123, 8, true), (130, 1, false), (138, 1, true), (141, 1, false), (143, 1, true), (144, 1, false), (146, 1, false), (148, 2, true), (149, 1, false), (150, 1, false), (153, 1, false), (161, 2, true), (163, 1, false), (164, 1, false), (166, 1, false), (173, 1, false), (174, 1, false), (175, 5, true), (177, 1, false), (186, 1, false), (194, 1, false), (203, 1, false), (215, 1, false), (218, 1, true), (221, 5, true), (234, 1, false)]
  el := [(33, 3), (71, 5), (72, 5), (84, 25), (86, 41), (107, 23), (112, 27)]
  fld := [(23, [(0, 3), (1, 3), (2, 3), (3, 9)]), (25, [(0, 3), (1, 3), (2, 3), (3, 3), (4, 4), (5, 9)]), (35, [(0, 4), (1, 33), (2, 33)]), (41, [(0, 23), (4, 23)]), (74, [(0, 72), (1, 4), (2, 3)]), (76, []), (95, [(0, 41), (8, 25)]), (101, [(0, 25), (6, 3)]), (121, [(0, 3)]), (138, [(0, 30)]), (143, [(0, 9)]), (148, [(0, 146), (1, 71)]), (218, [(0, 30)])]
  zero := [(1, [.val (.nilFunc)], 8), (3, [.val (.int .i64 0)], 8), (4, [.val (.bool false)], 1), (5, [.val (.int .u8 0)], 1), (9, [.val (.string ⟨#[]⟩)], 16), (20, [.val (.nilIface)], 16), (23, [.val (.int .i64 0), .val (.int .i64 0), .val (.int .i64 0), .val (.string ⟨#[]⟩)], 40), (25, [.val (.int .i64 0), .val (.int .i64 0), .val (.int .i64 0), .val (.int .i64 0), .val (.bool false), .val (.string ⟨#[]⟩)], 56), (26, [.val (.nilFunc)], 8), (27, [.val (.nilFunc)], 8), (30, [.val (.int .i64 0)], 8), (33, [.val (.slice none 0 0)], 24), (35, [.val (.bool false), .val (.slice none 0 0), .val (.slice none 0 0)], 56), (41, [.val (.int .i64 0), .val (.int .i64 0), .val (.int .i64 0), .val (.string ⟨#[]⟩), .val (.int .i64 0), .val (.int .i64 0), .val (.int .i64 0), .val (.string ⟨#[]⟩)], 80), (71, [.val (.slice none 0 0)], 24), (72, [.val (.slice none 0 0)], 24), (74, [.val (.slice none 0 0), .val (.bool false), .val (.int .i64 0)], 40), (78, [.val (.nilFunc)], 8), (84, [.val (.slice none 0 0)], 24), (86, [.val (.slice none 0 0)], 24), (87, [.val (.nilFunc)], 8), (89, [.val (.map none)], 8), (95, [.val (.int .i64 0), .val (.int .i64 0), .val (.int .i64 0), .val (.string ⟨#[]⟩), .val (.int .i64 0), .val (.int .i64 0), .val (.int .i64 0), .val (.string ⟨#[]⟩), .val (.int .i64 0), .val (.int .i64 0), .val (.int .i64 0), .val (.int .i64 0), .val (.bool false), .val (.string ⟨#[]⟩)], 136), (98, [.val (.nilFunc)], 8), (99, [.val (.pointer none)], 8), (101, [.val (.int .i64 0), .val (.int .i64 0), .val (.int .i64 0), .val (.int .i64 0), .val (.bool false), .val (.string ⟨#[]⟩), .val (.int .i64 0)], 64), (103, [.val (.nilFunc)], 8), (107, [.val (.slice none 0 0)], 24), (112, [.val (.slice none 0 0)], 24), (121, [.val (.int .i64 0)], 8), (122, [.val (.nilFunc)], 8), (123, [.val (.int .i64 0), .val (.int .i64 0), .val (.int .i64 0), .val (.string ⟨#[]⟩), .val (.int .i64 0), .val (.int .i64 0), .val (.int .i64 0), .val (.string ⟨#[]⟩)], 80), (130, [.val (.pointer none)], 8), (138, [.val (.int .i64 0)], 8), (141, [.val (.pointer none)], 8), (143, [.val (.string ⟨#[]⟩)], 16), (144, [.val (.nilFunc)], 8), (146, [.val (.pointer none)], 8), (148, [.val (.pointer none), .val (.slice none 0 0)], 32), (149, [.val (.nilFunc)], 8), (150, [.val (.nilFunc)], 8), (153, [.val (.nilIface)], 16), (161, [.val (.bool false), .val (.bool false)], 2), (163, [.val (.nilFunc)], 8), (164, [.val (.nilFunc)], 8), (166, [.val (.nilFunc)], 8), (173, [.val (.nilFunc)], 8), (174, [.val (.nilFunc)], 8), (175, [.val (.nilFunc), .val (.nilFunc), .val (.nilFunc), .val (.nilFunc), .val (.nilFunc)], 40), (177, [.val (.nilFunc)], 8), (186, [.val (.int .u64 0)], 8), (194, [.val (.nilFunc)], 8), (203, [.val (.nilFunc)], 8), (215, [.val (.pointer none)], 8), (218, [.val (.int .i64 0)], 8), (221, [.val (.string ⟨#[]⟩), .val (.string ⟨#[]⟩), .val (.string ⟨#[]⟩), .val (.string ⟨#[]⟩), .val (.string ⟨#[]⟩)], 80), (234, [.val (.pointer none)], 8)]
  bools := [(4, ())]
  conc := [(1, ()), (3, ()), (4, ()), (5, ()), (9, ()), (23, ()), (25, ()), (26, ()), (27, ()), (30, ()), (33, ()), (35, ()), (41, ()), (71, ()), (72, ()), (74, ()), (76, ()), (78, ()), (84, ()), (86, ()), (87, ()), (89, ()), (95, ()), (98, ()), (99, ()), (101, ()), (103, ()), (107, ()), (112, ()), (121, ()), (122, ()), (123, ()), (130, ()), (138, ()), (141, ()), (143, ()), (144, ()), (146, ()), (148, ()), (149, ()), (150, ()), (161, ()), (163, ()), (164, ()), (166, ()), (173, ()), (174, ()), (175, ()), (177, ()), (186, ()), (194, ()), (203, ()), (215, ()), (218, ()), (221, ()), (234, ())]
  pl := [(23, [(0, 1), (1, 1), (2, 1), (3, 1)]), (25, [(0, 1), (1, 1), (2, 1), (3, 1), (4, 1), (5, 1)]), (35, [(0, 1), (1, 1), (2, 1)]), (41, [(0, 4), (4, 4)]), (74, [(0, 1), (1, 1), (2, 1)]), (76, []), (95, [(0, 8), (8, 6)]), (101, [(0, 6), (6, 1)]), (121, [(0, 1)]), (138, [(0, 1)]), (143, [(0, 1)]), (148, [(0, 1), (1, 1)]), (218, [(0, 1)])]
  eqs := [(3, .int), (4, .bool), (5, .int), (9, .str), (23, .struct [(0, 3), (1, 3), (2, 3), (3, 9)]), (25, .struct [(0, 3), (1, 3), (2, 3), (3, 3), (4, 4), (5, 9)]), (30, .int), (41, .struct [(0, 23), (4, 23)]), (161, .arr 2 4 [(0, 4), (1, 4)])]
theorem inf_ty : AllL (fun p : Nat × Nat × Bool => Ty Tryz.prog p.1 p.2.1 p.2.2) inf.ty := .cons (⟨by kernel_rfl, by kernel_rfl⟩) <| .cons (⟨by kernel_rfl, by kernel_rfl⟩) <| .cons (⟨by kernel_rfl, by kernel_rfl⟩) <| .cons (⟨by kernel_rfl, by kernel_rfl⟩) <| .cons (⟨by kernel_rfl, by kernel_rfl⟩) <| .cons (⟨by kernel_rfl, by kernel_rfl⟩) <| .cons (⟨by kernel_rfl, by kernel_rfl⟩) <| .cons (⟨by kernel_rfl, by kernel_rfl⟩) <| .cons (⟨by kernel_rfl, by kernel_rfl⟩) <| .cons (⟨by kernel_rfl, by kernel_rfl⟩) <| .cons (⟨by kernel_rfl, by kernel_rfl⟩) <| .cons (⟨by kernel_rfl, by kernel_rfl⟩) <| .cons (⟨by kernel_rfl, by kernel_rfl⟩) <| .cons (⟨by kernel_rfl, by kernel_rfl⟩) <| .cons (⟨by kernel_rfl, by kernel_rfl⟩) <| .cons (⟨by kernel_rfl, by kernel_rfl⟩) <| .cons (⟨by kernel_rfl, by kernel_rfl⟩) <| .cons (⟨by kernel_rfl, by kernel_rfl⟩) <| .cons (⟨by kernel_rfl, by kernel_rfl⟩) <| .cons (⟨by kernel_rfl, by kernel_rfl⟩) <| .cons (⟨by kernel_rfl, by kernel_rfl⟩) <| .cons (⟨by kernel_rfl, by kernel_rfl⟩) <| .cons (⟨by kernel_rfl, by kernel_rfl⟩) <| .cons (⟨by kernel_rfl, by kernel_rfl⟩) <| .cons (⟨by kernel_rfl, by kernel_rfl⟩) <| .cons (⟨by kernel_rfl, by kernel_rfl⟩) <| .cons (⟨by kernel_rfl, by kernel_rfl⟩) <| .cons (⟨by kernel_rfl, by kernel_rfl⟩) <| .cons (⟨by kernel_rfl, by kernel_rfl⟩) <| .cons (⟨by kernel_rfl, by kernel_rfl⟩) <| .cons (⟨by kernel_rfl, by kernel_rfl⟩) <| .cons (⟨by kernel_rfl, by kernel_rfl⟩) <| .cons (⟨by kernel_rfl, by kernel_rfl⟩) <| .cons (⟨by kernel_rfl, by kernel_rfl⟩) <| .cons (⟨by kernel_rfl, by kernel_rfl⟩) <| .cons (⟨by kernel_rfl, by kernel_rfl⟩) <| .cons (⟨by kernel_rfl, by kernel_rfl⟩) <| .cons (⟨by kernel_rfl, by kernel_rfl⟩) <| .cons (⟨by kernel_rfl, by kernel_rfl⟩) <| .cons (⟨by kernel_rfl, by kernel_rfl⟩) <| .cons (⟨by kernel_rfl, by kernel_rfl⟩) <| .cons (⟨by kernel_rfl, by kernel_rfl⟩) <| .cons (⟨by kernel_rfl, by kernel_rfl⟩) <| .cons (⟨by kernel_rfl, by kernel_rfl⟩) <| .cons (⟨by kernel_rfl, by kernel_rfl⟩) <| .cons (⟨by kernel_rfl, by kernel_rfl⟩) <| .cons (⟨by kernel_rfl, by kernel_rfl⟩) <| .cons (⟨by kernel_rfl, by kernel_rfl⟩) <| .cons (⟨by kernel_rfl, by kernel_rfl⟩) <| .cons (⟨by kernel_rfl, by kernel_rfl⟩) <| .cons (⟨by kernel_rfl, by kernel_rfl⟩) <| .cons (⟨by kernel_rfl, by kernel_rfl⟩) <| .cons (⟨by kernel_rfl, by kernel_rfl⟩) <| .cons (⟨by kernel_rfl, by kernel_rfl⟩) <| .cons (⟨by kernel_rfl, by kernel_rfl⟩) <| .cons (⟨by kernel_rfl, by kernel_rfl⟩) <| .cons (⟨by kernel_rfl, by kernel_rfl⟩) <| .cons (⟨by kernel_rfl, by kernel_rfl⟩) <| .nil
theorem inf_el : AllL (fun p : Nat × Nat => ElT Tryz.prog p.1 p.2) inf.el := .cons (⟨Tryz.underlying33⟩) <| .cons (⟨Tryz.underlying71⟩) <| .cons (⟨Tryz.underlying72⟩) <| .cons (⟨Tryz.underlying84⟩) <| .cons (⟨Tryz.underlying86⟩) <| .cons (⟨Tryz.underlying107⟩) <| .cons (⟨Tryz.underlying112⟩) <| .nil
theorem inf_fld : AllL (fun p : Nat × List (Nat × Nat) => ∀ j off ft, nth p.2 j = some (off, ft) → FldT Tryz.prog p.1 j off ft) inf.fld := .cons (fldAll ⟨_, Tryz.underlying23, rfl⟩) <| .cons (fldAll ⟨_, Tryz.underlying25, rfl⟩) <| .cons (fldAll ⟨_, Tryz.underlying35, rfl⟩) <| .cons (fldAll ⟨_, Tryz.underlying41, rfl⟩) <| .cons (fldAll ⟨_, Tryz.underlying74, rfl⟩) <| .cons (fldAll ⟨_, Tryz.underlying76, rfl⟩) <| .cons (fldAll ⟨_, Tryz.underlying95, rfl⟩) <| .cons (fldAll ⟨_, Tryz.underlying101, rfl⟩) <| .cons (fldAll ⟨_, Tryz.underlying121, rfl⟩) <| .cons (fldAll ⟨_, Tryz.underlying138, rfl⟩) <| .cons (fldAll ⟨_, Tryz.underlying143, rfl⟩) <| .cons (fldAll ⟨_, Tryz.underlying148, rfl⟩) <| .cons (fldAll ⟨_, Tryz.underlying218, rfl⟩) <| .nil
theorem inf_zero : AllL (fun p : Nat × List AV × Nat => ZeroT Tryz.prog p.1 p.2.1 p.2.2) inf.zero := .cons (⟨⟨.nilFunc, by kernel_rfl, rfl, rfl, rfl, rfl⟩⟩) <| .cons (⟨⟨.int .i64 0, by kernel_rfl, rfl, rfl, rfl, rfl⟩⟩) <| .cons (⟨⟨.bool false, by kernel_rfl, rfl, rfl, rfl, rfl⟩⟩) <| .cons (⟨⟨.int .u8 0, by kernel_rfl, rfl, rfl, rfl, rfl⟩⟩) <| .cons (⟨⟨.string ⟨#[]⟩, by kernel_rfl, rfl, rfl, rfl, rfl⟩⟩) <| .cons (⟨⟨.nilIface, by kernel_rfl, rfl, rfl, rfl, rfl⟩⟩) <| .cons (⟨⟨.agg #[(.int .i64 0), (.int .i64 0), (.int .i64 0), (.string ⟨#[]⟩)], by kernel_rfl, rfl, rfl, rfl, rfl⟩⟩) <| .cons (⟨⟨.agg #[(.int .i64 0), (.int .i64 0), (.int .i64 0), (.int .i64 0), (.bool false), (.string ⟨#[]⟩)], by kernel_rfl, rfl, rfl, rfl, rfl⟩⟩) <| .cons (⟨⟨.nilFunc, by kernel_rfl, rfl, rfl, rfl, rfl⟩⟩) <| .cons (⟨⟨.nilFunc, by kernel_rfl, rfl, rfl, rfl, rfl⟩⟩) <| .cons (⟨⟨.int .i64 0, by kernel_rfl, rfl, rfl, rfl, rfl⟩⟩) <| .cons (⟨⟨.slice none 0 0, by kernel_rfl, rfl, rfl, rfl, rfl⟩⟩) <| .cons (⟨⟨.agg #[(.bool false), (.slice none 0 0), (.slice none 0 0)], by kernel_rfl, rfl, rfl, rfl, rfl⟩⟩) <| .cons (⟨⟨.agg #[(.int .i64 0), (.int .i64 0), (.int .i64 0), (.string ⟨#[]⟩), (.int .i64 0), (.int .i64 0), (.int .i64 0), (.string ⟨#[]⟩)], by kernel_rfl, rfl, rfl, rfl, rfl⟩⟩) <| .cons (⟨⟨.slice none 0 0, by kernel_rfl, rfl, rfl, rfl, rfl⟩⟩) <| .cons (⟨⟨.slice none 0 0, by kernel_rfl, rfl, rfl, rfl, rfl⟩⟩) <| .cons (⟨⟨.agg #[(.slice none 0 0), (.bool false), (.int .i64 0)], by kernel_rfl, rfl, rfl, rfl, rfl⟩⟩) <| .cons (⟨⟨.nilFunc, by kernel_rfl, rfl, rfl, rfl, rfl⟩⟩) <| .cons (⟨⟨.slice none 0 0, by kernel_rfl, rfl, rfl, rfl, rfl⟩⟩) <| .cons (⟨⟨.slice none 0 0, by kernel_rfl, rfl, rfl, rfl, rfl⟩⟩) <| .cons (⟨⟨.nilFunc, by kernel_rfl, rfl, rfl, rfl, rfl⟩⟩) <| .cons (⟨⟨.map none, by kernel_rfl, rfl, rfl, rfl, rfl⟩⟩) <| .cons (⟨⟨.agg #[(.int .i64 0), (.int .i64 0), (.int .i64 0), (.string ⟨#[]⟩), (.int .i64 0), (.int .i64 0), (.int .i64 0), (.string ⟨#[]⟩), (.int .i64 0), (.int .i64 0), (.int .i64 0), (.int .i64 0), (.bool false), (.string ⟨#[]⟩)], by kernel_rfl, rfl, rfl, rfl, rfl⟩⟩) <| .cons (⟨⟨.nilFunc, by kernel_rfl, rfl, rfl, rfl, rfl⟩⟩) <| .cons (⟨⟨.pointer none, by kernel_rfl, rfl, rfl, rfl, rfl⟩⟩) <| .cons (⟨⟨.agg #[(.int .i64 0), (.int .i64 0), (.int .i64 0), (.int .i64 0), (.bool false), (.string ⟨#[]⟩), (.int .i64 0)], by kernel_rfl, rfl, rfl, rfl, rfl⟩⟩) <| .cons (⟨⟨.nilFunc, by kernel_rfl, rfl, rfl, rfl, rfl⟩⟩) <| .cons (⟨⟨.slice none 0 0, by kernel_rfl, rfl, rfl, rfl, rfl⟩⟩) <| .cons (⟨⟨.slice none 0 0, by kernel_rfl, rfl, rfl, rfl, rfl⟩⟩) <| .cons (⟨⟨.agg #[(.int .i64 0)], by kernel_rfl, rfl, rfl, rfl, rfl⟩⟩) <| .cons (⟨⟨.nilFunc, by kernel_rfl, rfl, rfl, rfl, rfl⟩⟩) <| .cons (⟨⟨.agg #[(.int .i64 0), (.int .i64 0), (.int .i64 0), (.string ⟨#[]⟩), (.int .i64 0), (.int .i64 0), (.int .i64 0), (.string ⟨#[]⟩)], by kernel_rfl, rfl, rfl, rfl, rfl⟩⟩) <| .cons (⟨⟨.pointer none, by kernel_rfl, rfl, rfl, rfl, rfl⟩⟩) <| .cons (⟨⟨.agg #[(.int .i64 0)], by kernel_rfl, rfl, rfl, rfl, rfl⟩⟩) <| .cons (⟨⟨.pointer none, by kernel_rfl, rfl, rfl, rfl, rfl⟩⟩) <| .cons (⟨⟨.agg #[(.string ⟨#[]⟩)], by kernel_rfl, rfl, rfl, rfl, rfl⟩⟩) <| .cons (⟨⟨.nilFunc, by kernel_rfl, rfl, rfl, rfl, rfl⟩⟩) <| .cons (⟨⟨.pointer none, by kernel_rfl, rfl, rfl, rfl, rfl⟩⟩) <| .cons (⟨⟨.agg #[(.pointer none), (.slice none 0 0)], by kernel_rfl, rfl, rfl, rfl, rfl⟩⟩) <| .cons (⟨⟨.nilFunc, by kernel_rfl, rfl, rfl, rfl, rfl⟩⟩) <| .cons (⟨⟨.nilFunc, by kernel_rfl, rfl, rfl, rfl, rfl⟩⟩) <| .cons (⟨⟨.nilIface, by kernel_rfl, rfl, rfl, rfl, rfl⟩⟩) <| .cons (⟨⟨.agg #[(.bool false), (.bool false)], by kernel_rfl, rfl, rfl, rfl, rfl⟩⟩) <| .cons (⟨⟨.nilFunc, by kernel_rfl, rfl, rfl, rfl, rfl⟩⟩) <| .cons (⟨⟨.nilFunc, by kernel_rfl, rfl, rfl, rfl, rfl⟩⟩) <| .cons (⟨⟨.nilFunc, by kernel_rfl, rfl, rfl, rfl, rfl⟩⟩) <| .cons (⟨⟨.nilFunc, by kernel_rfl, rfl, rfl, rfl, rfl⟩⟩) <| .cons (⟨⟨.nilFunc, by kernel_rfl, rfl, rfl, rfl, rfl⟩⟩) <| .cons (⟨⟨.agg #[(.nilFunc), (.nilFunc), (.nilFunc), (.nilFunc), (.nilFunc)], by kernel_rfl, rfl, rfl, rfl, rfl⟩⟩) <| .cons (⟨⟨.nilFunc, by kernel_rfl, rfl, rfl, rfl, rfl⟩⟩) <| .cons (⟨⟨.int .u64 0, by kernel_rfl, rfl, rfl, rfl, rfl⟩⟩) <| .cons (⟨⟨.nilFunc, by kernel_rfl, rfl, rfl, rfl, rfl⟩⟩) <| .cons (⟨⟨.nilFunc, by kernel_rfl, rfl, rfl, rfl, rfl⟩⟩) <| .cons (⟨⟨.pointer none, by kernel_rfl, rfl, rfl, rfl, rfl⟩⟩) <| .cons (⟨⟨.agg #[(.int .i64 0)], by kernel_rfl, rfl, rfl, rfl, rfl⟩⟩) <| .cons (⟨⟨.agg #[(.string ⟨#[]⟩), (.string ⟨#[]⟩), (.string ⟨#[]⟩), (.string ⟨#[]⟩), (.string ⟨#[]⟩)], by kernel_rfl, rfl, rfl, rfl, rfl⟩⟩) <| .cons (⟨⟨.pointer none, by kernel_rfl, rfl, rfl, rfl, rfl⟩⟩) <| .nil
theorem inf_bools : AllL (fun p : Nat × Unit => (Tryz.prog).underlying p.1 = some .bool) inf.bools := .cons (Tryz.underlying4) <| .nil
theorem inf_conc : AllL (fun p : Nat × Unit => ConT Tryz.prog p.1) inf.conc := .cons (⟨by kernel_rfl⟩) <| .cons (⟨by kernel_rfl⟩) <| .cons (⟨by kernel_rfl⟩) <| .cons (⟨by kernel_rfl⟩) <| .cons (⟨by kernel_rfl⟩) <| .cons (⟨by kernel_rfl⟩) <| .cons (⟨by kernel_rfl⟩) <| .cons (⟨by kernel_rfl⟩) <| .cons (⟨by kernel_rfl⟩) <| .cons (⟨by kernel_rfl⟩) <| .cons (⟨by kernel_rfl⟩) <| .cons (⟨by kernel_rfl⟩) <| .cons (⟨by kernel_rfl⟩) <| .cons (⟨by kernel_rfl⟩) <| .cons (⟨by kernel_rfl⟩) <| .cons (⟨by kernel_rfl⟩) <| .cons (⟨by kernel_rfl⟩) <| .cons (⟨by kernel_rfl⟩) <| .cons (⟨by kernel_rfl⟩) <| .cons (⟨by kernel_rfl⟩) <| .cons (⟨by kernel_rfl⟩) <| .cons (⟨by kernel_rfl⟩) <| .cons (⟨by kernel_rfl⟩) <| .cons (⟨by kernel_rfl⟩) <| .cons (⟨by kernel_rfl⟩) <| .cons (⟨by kernel_rfl⟩) <| .cons (⟨by kernel_rfl⟩) <| .cons (⟨by kernel_rfl⟩) <| .cons (⟨by kernel_rfl⟩) <| .cons (⟨by kernel_rfl⟩) <| .cons (⟨by kernel_rfl⟩) <| .cons (⟨by kernel_rfl⟩) <| .cons (⟨by kernel_rfl⟩) <| .cons (⟨by kernel_rfl⟩) <| .cons (⟨by kernel_rfl⟩) <| .cons (⟨by kernel_rfl⟩) <| .cons (⟨by kernel_rfl⟩) <| .cons (⟨by kernel_rfl⟩) <| .cons (⟨by kernel_rfl⟩) <| .cons (⟨by kernel_rfl⟩) <| .cons (⟨by kernel_rfl⟩) <| .cons (⟨by kernel_rfl⟩) <| .cons (⟨by kernel_rfl⟩) <| .cons (⟨by kernel_rfl⟩) <| .cons (⟨by kernel_rfl⟩) <| .cons (⟨by kernel_rfl⟩) <| .cons (⟨by kernel_rfl⟩) <| .cons (⟨by kernel_rfl⟩) <| .cons (⟨by kernel_rfl⟩) <| .cons (⟨by kernel_rfl⟩) <| .cons (⟨by kernel_rfl⟩) <| .cons (⟨by kernel_rfl⟩) <| .cons (⟨by kernel_rfl⟩) <| .cons (⟨by kernel_rfl⟩) <| .cons (⟨by kernel_rfl⟩) <| .cons (⟨by kernel_rfl⟩) <| .nil
theorem inf_pl : AllL (fun p : Nat × List (Nat × Nat) => StrT Tryz.prog p.1 p.2) inf.pl := .cons (⟨⟨_, Tryz.underlying23, by kernel_rfl⟩⟩) <| .cons (⟨⟨_, Tryz.underlying25, by kernel_rfl⟩⟩) <| .cons (⟨⟨_, Tryz.underlying35, by kernel_rfl⟩⟩) <| .cons (⟨⟨_, Tryz.underlying41, by kernel_rfl⟩⟩) <| .cons (⟨⟨_, Tryz.underlying74, by kernel_rfl⟩⟩) <| .cons (⟨⟨_, Tryz.underlying76, by kernel_rfl⟩⟩) <| .cons (⟨⟨_, Tryz.underlying95, by kernel_rfl⟩⟩) <| .cons (⟨⟨_, Tryz.underlying101, by kernel_rfl⟩⟩) <| .cons (⟨⟨_, Tryz.underlying121, by kernel_rfl⟩⟩) <| .cons (⟨⟨_, Tryz.underlying138, by kernel_rfl⟩⟩) <| .cons (⟨⟨_, Tryz.underlying143, by kernel_rfl⟩⟩) <| .cons (⟨⟨_, Tryz.underlying148, by kernel_rfl⟩⟩) <| .cons (⟨⟨_, Tryz.underlying218, by kernel_rfl⟩⟩) <| .nil
theorem inf_eqs : AllL (fun p : Nat × EK => EqK Tryz.prog p.1 p.2) inf.eqs := .cons (⟨_, Tryz.underlying3⟩) <| .cons (Tryz.underlying4) <| .cons (⟨_, Tryz.underlying5⟩) <| .cons (Tryz.underlying9) <| .cons (⟨⟨_, Tryz.underlying23, rfl, by kernel_rfl⟩, by kernel_rfl, by kernel_rfl⟩) <| .cons (⟨⟨_, Tryz.underlying25, rfl, by kernel_rfl⟩, by kernel_rfl, by kernel_rfl⟩) <| .cons (⟨_, Tryz.underlying30⟩) <| .cons (⟨⟨_, Tryz.underlying41, rfl, by kernel_rfl⟩, by kernel_rfl, by kernel_rfl⟩) <| .cons (⟨Tryz.underlying161, by kernel_rfl, by kernel_rfl, by kernel_rfl⟩) <| .nil
instance infI : Inf Tryz.prog inf := ⟨inf_ty, inf_el, inf_fld, inf_zero, inf_bools, inf_conc, inf_pl, inf_eqs⟩
instance fun3 : Fun Tryz.prog 3 Tryz.f3 (bodyOf Tryz.f3) := ⟨Tryz.func3, rfl, by kernel_rfl⟩
instance fun4 : Fun Tryz.prog 4 Tryz.f4 (bodyOf Tryz.f4) := ⟨Tryz.func4, rfl, by kernel_rfl⟩
instance fun5 : Fun Tryz.prog 5 Tryz.f5 (bodyOf Tryz.f5) := ⟨Tryz.func5, rfl, by kernel_rfl⟩
instance fun6 : Fun Tryz.prog 6 Tryz.f6 (bodyOf Tryz.f6) := ⟨Tryz.func6, rfl, by kernel_rfl⟩
instance fun7 : Fun Tryz.prog 7 Tryz.f7 (bodyOf Tryz.f7) := ⟨Tryz.func7, rfl, by kernel_rfl⟩
instance fun8 : Fun Tryz.prog 8 Tryz.f8 (bodyOf Tryz.f8) := ⟨Tryz.func8, rfl, by kernel_rfl⟩
instance fun9 : Fun Tryz.prog 9 Tryz.f9 (bodyOf Tryz.f9) := ⟨Tryz.func9, rfl, by kernel_rfl⟩
instance fun10 : Fun Tryz.prog 10 Tryz.f10 (bodyOf Tryz.f10) := ⟨Tryz.func10, rfl, by kernel_rfl⟩
instance fun11 : Fun Tryz.prog 11 Tryz.f11 (bodyOf Tryz.f11) := ⟨Tryz.func11, rfl, by kernel_rfl⟩
instance fun12 : Fun Tryz.prog 12 Tryz.f12 (bodyOf Tryz.f12) := ⟨Tryz.func12, rfl, by kernel_rfl⟩
instance fun13 : Fun Tryz.prog 13 Tryz.f13 (bodyOf Tryz.f13) := ⟨Tryz.func13, rfl, by kernel_rfl⟩
instance fun14 : Fun Tryz.prog 14 Tryz.f14 (bodyOf Tryz.f14) := ⟨Tryz.func14, rfl, by kernel_rfl⟩
instance fun15 : Fun Tryz.prog 15 Tryz.f15 (bodyOf Tryz.f15) := ⟨Tryz.func15, rfl, by kernel_rfl⟩
instance fun16 : Fun Tryz.prog 16 Tryz.f16 (bodyOf Tryz.f16) := ⟨Tryz.func16, rfl, by kernel_rfl⟩
instance fun17 : Fun Tryz.prog 17 Tryz.f17 (bodyOf Tryz.f17) := ⟨Tryz.func17, rfl, by kernel_rfl⟩
instance fun18 : Fun Tryz.prog 18 Tryz.f18 (bodyOf Tryz.f18) := ⟨Tryz.func18, rfl, by kernel_rfl⟩
instance fun19 : Fun Tryz.prog 19 Tryz.f19 (bodyOf Tryz.f19) := ⟨Tryz.func19, rfl, by kernel_rfl⟩
instance fun20 : Fun Tryz.prog 20 Tryz.f20 (bodyOf Tryz.f20) := ⟨Tryz.func20, rfl, by kernel_rfl⟩
instance fun21 : Fun Tryz.prog 21 Tryz.f21 (bodyOf Tryz.f21) := ⟨Tryz.func21, rfl, by kernel_rfl⟩
instance fun22 : Fun Tryz.prog 22 Tryz.f22 (bodyOf Tryz.f22) := ⟨Tryz.func22, rfl, by kernel_rfl⟩
instance fun23 : Fun Tryz.prog 23 Tryz.f23 (bodyOf Tryz.f23) := ⟨Tryz.func23, rfl, by kernel_rfl⟩
instance fun24 : Fun Tryz.prog 24 Tryz.f24 (bodyOf Tryz.f24) := ⟨Tryz.func24, rfl, by kernel_rfl⟩
instance fun25 : Fun Tryz.prog 25 Tryz.f25 (bodyOf Tryz.f25) := ⟨Tryz.func25, rfl, by kernel_rfl⟩
instance fun26 : Fun Tryz.prog 26 Tryz.f26 (bodyOf Tryz.f26) := ⟨Tryz.func26, rfl, by kernel_rfl⟩
instance fun27 : Fun Tryz.prog 27 Tryz.f27 (bodyOf Tryz.f27) := ⟨Tryz.func27, rfl, by kernel_rfl⟩
instance fun28 : Fun Tryz.prog 28 Tryz.f28 (bodyOf Tryz.f28) := ⟨Tryz.func28, rfl, by kernel_rfl⟩
instance fun29 : Fun Tryz.prog 29 Tryz.f29 (bodyOf Tryz.f29) := ⟨Tryz.func29, rfl, by kernel_rfl⟩
instance fun30 : Fun Tryz.prog 30 Tryz.f30 (bodyOf Tryz.f30) := ⟨Tryz.func30, rfl, by kernel_rfl⟩
instance fun31 : Fun Tryz.prog 31 Tryz.f31 (bodyOf Tryz.f31) := ⟨Tryz.func31, rfl, by kernel_rfl⟩
instance fun32 : Fun Tryz.prog 32 Tryz.f32 (bodyOf Tryz.f32) := ⟨Tryz.func32, rfl, by kernel_rfl⟩
instance fun33 : Fun Tryz.prog 33 Tryz.f33 (bodyOf Tryz.f33) := ⟨Tryz.func33, rfl, by kernel_rfl⟩
instance fun34 : Fun Tryz.prog 34 Tryz.f34 (bodyOf Tryz.f34) := ⟨Tryz.func34, rfl, by kernel_rfl⟩
instance fun35 : Fun Tryz.prog 35 Tryz.f35 (bodyOf Tryz.f35) := ⟨Tryz.func35, rfl, by kernel_rfl⟩
instance fun36 : Fun Tryz.prog 36 Tryz.f36 (bodyOf Tryz.f36) := ⟨Tryz.func36, rfl, by kernel_rfl⟩
instance fun37 : Fun Tryz.prog 37 Tryz.f37 (bodyOf Tryz.f37) := ⟨Tryz.func37, rfl, by kernel_rfl⟩
instance fun38 : Fun Tryz.prog 38 Tryz.f38 (bodyOf Tryz.f38) := ⟨Tryz.func38, rfl, by kernel_rfl⟩
instance fun39 : Fun Tryz.prog 39 Tryz.f39 (bodyOf Tryz.f39) := ⟨Tryz.func39, rfl, by kernel_rfl⟩
instance fun40 : Fun Tryz.prog 40 Tryz.f40 (bodyOf Tryz.f40) := ⟨Tryz.func40, rfl, by kernel_rfl⟩
instance fun41 : Fun Tryz.prog 41 Tryz.f41 (bodyOf Tryz.f41) := ⟨Tryz.func41, rfl, by kernel_rfl⟩
instance fun42 : Fun Tryz.prog 42 Tryz.f42 (bodyOf Tryz.f42) := ⟨Tryz.func42, rfl, by kernel_rfl⟩
instance fun43 : Fun Tryz.prog 43 Tryz.f43 (bodyOf Tryz.f43) := ⟨Tryz.func43, rfl, by kernel_rfl⟩
instance fun44 : Fun Tryz.prog 44 Tryz.f44 (bodyOf Tryz.f44) := ⟨Tryz.func44, rfl, by kernel_rfl⟩
instance fun45 : Fun Tryz.prog 45 Tryz.f45 (bodyOf Tryz.f45) := ⟨Tryz.func45, rfl, by kernel_rfl⟩
instance fun46 : Fun Tryz.prog 46 Tryz.f46 (bodyOf Tryz.f46) := ⟨Tryz.func46, rfl, by kernel_rfl⟩
instance fun47 : Fun Tryz.prog 47 Tryz.f47 (bodyOf Tryz.f47) := ⟨Tryz.func47, rfl, by kernel_rfl⟩
instance fun48 : Fun Tryz.prog 48 Tryz.f48 (bodyOf Tryz.f48) := ⟨Tryz.func48, rfl, by kernel_rfl⟩
instance fun49 : Fun Tryz.prog 49 Tryz.f49 (bodyOf Tryz.f49) := ⟨Tryz.func49, rfl, by kernel_rfl⟩
instance fun50 : Fun Tryz.prog 50 Tryz.f50 (bodyOf Tryz.f50) := ⟨Tryz.func50, rfl, by kernel_rfl⟩
instance fun51 : Fun Tryz.prog 51 Tryz.f51 (bodyOf Tryz.f51) := ⟨Tryz.func51, rfl, by kernel_rfl⟩
instance fun52 : Fun Tryz.prog 52 Tryz.f52 (bodyOf Tryz.f52) := ⟨Tryz.func52, rfl, by kernel_rfl⟩
instance fun53 : Fun Tryz.prog 53 Tryz.f53 (bodyOf Tryz.f53) := ⟨Tryz.func53, rfl, by kernel_rfl⟩
instance fun54 : Fun Tryz.prog 54 Tryz.f54 (bodyOf Tryz.f54) := ⟨Tryz.func54, rfl, by kernel_rfl⟩
instance fun55 : Fun Tryz.prog 55 Tryz.f55 (bodyOf Tryz.f55) := ⟨Tryz.func55, rfl, by kernel_rfl⟩
instance fun56 : Fun Tryz.prog 56 Tryz.f56 (bodyOf Tryz.f56) := ⟨Tryz.func56, rfl, by kernel_rfl⟩
instance fun57 : Fun Tryz.prog 57 Tryz.f57 (bodyOf Tryz.f57) := ⟨Tryz.func57, rfl, by kernel_rfl⟩
instance fun58 : Fun Tryz.prog 58 Tryz.f58 (bodyOf Tryz.f58) := ⟨Tryz.func58, rfl, by kernel_rfl⟩
instance fun59 : Fun Tryz.prog 59 Tryz.f59 (bodyOf Tryz.f59) := ⟨Tryz.func59, rfl, by kernel_rfl⟩
instance fun60 : Fun Tryz.prog 60 Tryz.f60 (bodyOf Tryz.f60) := ⟨Tryz.func60, rfl, by kernel_rfl⟩
instance fun61 : Fun Tryz.prog 61 Tryz.f61 (bodyOf Tryz.f61) := ⟨Tryz.func61, rfl, by kernel_rfl⟩
instance fun62 : Fun Tryz.prog 62 Tryz.f62 (bodyOf Tryz.f62) := ⟨Tryz.func62, rfl, by kernel_rfl⟩
instance fun63 : Fun Tryz.prog 63 Tryz.f63 (bodyOf Tryz.f63) := ⟨Tryz.func63, rfl, by kernel_rfl⟩
instance fun64 : Fun Tryz.prog 64 Tryz.f64 (bodyOf Tryz.f64) := ⟨Tryz.func64, rfl, by kernel_rfl⟩
instance fun65 : Fun Tryz.prog 65 Tryz.f65 (bodyOf Tryz.f65) := ⟨Tryz.func65, rfl, by kernel_rfl⟩
instance fun66 : Fun Tryz.prog 66 Tryz.f66 (bodyOf Tryz.f66) := ⟨Tryz.func66, rfl, by kernel_rfl⟩
instance fun67 : Fun Tryz.prog 67 Tryz.f67 (bodyOf Tryz.f67) := ⟨Tryz.func67, rfl, by kernel_rfl⟩
instance fun68 : Fun Tryz.prog 68 Tryz.f68 (bodyOf Tryz.f68) := ⟨Tryz.func68, rfl, by kernel_rfl⟩
instance fun69 : Fun Tryz.prog 69 Tryz.f69 (bodyOf Tryz.f69) := ⟨Tryz.func69, rfl, by kernel_rfl⟩
instance fun70 : Fun Tryz.prog 70 Tryz.f70 (bodyOf Tryz.f70) := ⟨Tryz.func70, rfl, by kernel_rfl⟩
instance fun71 : Fun Tryz.prog 71 Tryz.f71 (bodyOf Tryz.f71) := ⟨Tryz.func71, rfl, by kernel_rfl⟩
instance fun72 : Fun Tryz.prog 72 Tryz.f72 (bodyOf Tryz.f72) := ⟨Tryz.func72, rfl, by kernel_rfl⟩
instance fun73 : Fun Tryz.prog 73 Tryz.f73 (bodyOf Tryz.f73) := ⟨Tryz.func73, rfl, by kernel_rfl⟩
instance fun74 : Fun Tryz.prog 74 Tryz.f74 (bodyOf Tryz.f74) := ⟨Tryz.func74, rfl, by kernel_rfl⟩
instance fun75 : Fun Tryz.prog 75 Tryz.f75 (bodyOf Tryz.f75) := ⟨Tryz.func75, rfl, by kernel_rfl⟩
instance fun76 : Fun Tryz.prog 76 Tryz.f76 (bodyOf Tryz.f76) := ⟨Tryz.func76, rfl, by kernel_rfl⟩
instance fun77 : Fun Tryz.prog 77 Tryz.f77 (bodyOf Tryz.f77) := ⟨Tryz.func77, rfl, by kernel_rfl⟩
instance fun78 : Fun Tryz.prog 78 Tryz.f78 (bodyOf Tryz.f78) := ⟨Tryz.func78, rfl, by kernel_rfl⟩
instance fun79 : Fun Tryz.prog 79 Tryz.f79 (bodyOf Tryz.f79) := ⟨Tryz.func79, rfl, by kernel_rfl⟩
instance fun80 : Fun Tryz.prog 80 Tryz.f80 (bodyOf Tryz.f80) := ⟨Tryz.func80, rfl, by kernel_rfl⟩
instance fun81 : Fun Tryz.prog 81 Tryz.f81 (bodyOf Tryz.f81) := ⟨Tryz.func81, rfl, by kernel_rfl⟩
instance fun82 : Fun Tryz.prog 82 Tryz.f82 (bodyOf Tryz.f82) := ⟨Tryz.func82, rfl, by kernel_rfl⟩
instance fun83 : Fun Tryz.prog 83 Tryz.f83 (bodyOf Tryz.f83) := ⟨Tryz.func83, rfl, by kernel_rfl⟩
instance fun84 : Fun Tryz.prog 84 Tryz.f84 (bodyOf Tryz.f84) := ⟨Tryz.func84, rfl, by kernel_rfl⟩
instance fun85 : Fun Tryz.prog 85 Tryz.f85 (bodyOf Tryz.f85) := ⟨Tryz.func85, rfl, by kernel_rfl⟩
instance fun86 : Fun Tryz.prog 86 Tryz.f86 (bodyOf Tryz.f86) := ⟨Tryz.func86, rfl, by kernel_rfl⟩
instance fun87 : Fun Tryz.prog 87 Tryz.f87 (bodyOf Tryz.f87) := ⟨Tryz.func87, rfl, by kernel_rfl⟩
instance fun88 : Fun Tryz.prog 88 Tryz.f88 (bodyOf Tryz.f88) := ⟨Tryz.func88, rfl, by kernel_rfl⟩
instance fun89 : Fun Tryz.prog 89 Tryz.f89 (bodyOf Tryz.f89) := ⟨Tryz.func89, rfl, by kernel_rfl⟩
instance fun90 : Fun Tryz.prog 90 Tryz.f90 (bodyOf Tryz.f90) := ⟨Tryz.func90, rfl, by kernel_rfl⟩
instance fun91 : Fun Tryz.prog 91 Tryz.f91 (bodyOf Tryz.f91) := ⟨Tryz.func91, rfl, by kernel_rfl⟩
instance fun92 : Fun Tryz.prog 92 Tryz.f92 (bodyOf Tryz.f92) := ⟨Tryz.func92, rfl, by kernel_rfl⟩
instance fun93 : Fun Tryz.prog 93 Tryz.f93 (bodyOf Tryz.f93) := ⟨Tryz.func93, rfl, by kernel_rfl⟩
instance fun94 : Fun Tryz.prog 94 Tryz.f94 (bodyOf Tryz.f94) := ⟨Tryz.func94, rfl, by kernel_rfl⟩
instance fun95 : Fun Tryz.prog 95 Tryz.f95 (bodyOf Tryz.f95) := ⟨Tryz.func95, rfl, by kernel_rfl⟩
instance fun96 : Fun Tryz.prog 96 Tryz.f96 (bodyOf Tryz.f96) := ⟨Tryz.func96, rfl, by kernel_rfl⟩
instance fun97 : Fun Tryz.prog 97 Tryz.f97 (bodyOf Tryz.f97) := ⟨Tryz.func97, rfl, by kernel_rfl⟩
instance fun98 : Fun Tryz.prog 98 Tryz.f98 (bodyOf Tryz.f98) := ⟨Tryz.func98, rfl, by kernel_rfl⟩
instance fun99 : Fun Tryz.prog 99 Tryz.f99 (bodyOf Tryz.f99) := ⟨Tryz.func99, rfl, by kernel_rfl⟩
instance fun100 : Fun Tryz.prog 100 Tryz.f100 (bodyOf Tryz.f100) := ⟨Tryz.func100, rfl, by kernel_rfl⟩
instance fun101 : Fun Tryz.prog 101 Tryz.f101 (bodyOf Tryz.f101) := ⟨Tryz.func101, rfl, by kernel_rfl⟩
instance fun102 : Fun Tryz.prog 102 Tryz.f102 (bodyOf Tryz.f102) := ⟨Tryz.func102, rfl, by kernel_rfl⟩
instance fun103 : Fun Tryz.prog 103 Tryz.f103 (bodyOf Tryz.f103) := ⟨Tryz.func103, rfl, by kernel_rfl⟩
instance fun104 : Fun Tryz.prog 104 Tryz.f104 (bodyOf Tryz.f104) := ⟨Tryz.func104, rfl, by kernel_rfl⟩
instance fun105 : Fun Tryz.prog 105 Tryz.f105 (bodyOf Tryz.f105) := ⟨Tryz.func105, rfl, by kernel_rfl⟩
instance fun106 : Fun Tryz.prog 106 Tryz.f106 (bodyOf Tryz.f106) := ⟨Tryz.func106, rfl, by kernel_rfl⟩
instance fun107 : Fun Tryz.prog 107 Tryz.f107 (bodyOf Tryz.f107) := ⟨Tryz.func107, rfl, by kernel_rfl⟩
instance fun108 : Fun Tryz.prog 108 Tryz.f108 (bodyOf Tryz.f108) := ⟨Tryz.func108, rfl, by kernel_rfl⟩
instance fun109 : Fun Tryz.prog 109 Tryz.f109 (bodyOf Tryz.f109) := ⟨Tryz.func109, rfl, by kernel_rfl⟩
instance fun110 : Fun Tryz.prog 110 Tryz.f110 (bodyOf Tryz.f110) := ⟨Tryz.func110, rfl, by kernel_rfl⟩
instance fun111 : Fun Tryz.prog 111 Tryz.f111 (bodyOf Tryz.f111) := ⟨Tryz.func111, rfl, by kernel_rfl⟩
instance fun112 : Fun Tryz.prog 112 Tryz.f112 (bodyOf Tryz.f112) := ⟨Tryz.func112, rfl, by kernel_rfl⟩
instance fun113 : Fun Tryz.prog 113 Tryz.f113 (bodyOf Tryz.f113) := ⟨Tryz.func113, rfl, by kernel_rfl⟩
instance fun114 : Fun Tryz.prog 114 Tryz.f114 (bodyOf Tryz.f114) := ⟨Tryz.func114, rfl, by kernel_rfl⟩
instance fun115 : Fun Tryz.prog 115 Tryz.f115 (bodyOf Tryz.f115) := ⟨Tryz.func115, rfl, by kernel_rfl⟩
instance fun116 : Fun Tryz.prog 116 Tryz.f116 (bodyOf Tryz.f116) := ⟨Tryz.func116, rfl, by kernel_rfl⟩
instance fun117 : Fun Tryz.prog 117 Tryz.f117 (bodyOf Tryz.f117) := ⟨Tryz.func117, rfl, by kernel_rfl⟩
instance fun118 : Fun Tryz.prog 118 Tryz.f118 (bodyOf Tryz.f118) := ⟨Tryz.func118, rfl, by kernel_rfl⟩
instance fun119 : Fun Tryz.prog 119 Tryz.f119 (bodyOf Tryz.f119) := ⟨Tryz.func119, rfl, by kernel_rfl⟩
instance fun120 : Fun Tryz.prog 120 Tryz.f120 (bodyOf Tryz.f120) := ⟨Tryz.func120, rfl, by kernel_rfl⟩
instance fun121 : Fun Tryz.prog 121 Tryz.f121 (bodyOf Tryz.f121) := ⟨Tryz.func121, rfl, by kernel_rfl⟩
instance fun122 : Fun Tryz.prog 122 Tryz.f122 (bodyOf Tryz.f122) := ⟨Tryz.func122, rfl, by kernel_rfl⟩
instance fun123 : Fun Tryz.prog 123 Tryz.f123 (bodyOf Tryz.f123) := ⟨Tryz.func123, rfl, by kernel_rfl⟩
instance fun124 : Fun Tryz.prog 124 Tryz.f124 (bodyOf Tryz.f124) := ⟨Tryz.func124, rfl, by kernel_rfl⟩
instance fun125 : Fun Tryz.prog 125 Tryz.f125 (bodyOf Tryz.f125) := ⟨Tryz.func125, rfl, by kernel_rfl⟩
instance fun126 : Fun Tryz.prog 126 Tryz.f126 (bodyOf Tryz.f126) := ⟨Tryz.func126, rfl, by kernel_rfl⟩
instance fun127 : Fun Tryz.prog 127 Tryz.f127 (bodyOf Tryz.f127) := ⟨Tryz.func127, rfl, by kernel_rfl⟩
instance fun128 : Fun Tryz.prog 128 Tryz.f128 (bodyOf Tryz.f128) := ⟨Tryz.func128, rfl, by kernel_rfl⟩
instance fun129 : Fun Tryz.prog 129 Tryz.f129 (bodyOf Tryz.f129) := ⟨Tryz.func129, rfl, by kernel_rfl⟩
instance fun130 : Fun Tryz.prog 130 Tryz.f130 (bodyOf Tryz.f130) := ⟨Tryz.func130, rfl, by kernel_rfl⟩
instance fun131 : Fun Tryz.prog 131 Tryz.f131 (bodyOf Tryz.f131) := ⟨Tryz.func131, rfl, by kernel_rfl⟩
instance fun132 : Fun Tryz.prog 132 Tryz.f132 (bodyOf Tryz.f132) := ⟨Tryz.func132, rfl, by kernel_rfl⟩
instance fun133 : Fun Tryz.prog 133 Tryz.f133 (bodyOf Tryz.f133) := ⟨Tryz.func133, rfl, by kernel_rfl⟩
instance fun134 : Fun Tryz.prog 134 Tryz.f134 (bodyOf Tryz.f134) := ⟨Tryz.func134, rfl, by kernel_rfl⟩
instance fun135 : Fun Tryz.prog 135 Tryz.f135 (bodyOf Tryz.f135) := ⟨Tryz.func135, rfl, by kernel_rfl⟩
instance fun136 : Fun Tryz.prog 136 Tryz.f136 (bodyOf Tryz.f136) := ⟨Tryz.func136, rfl, by kernel_rfl⟩
instance fun137 : Fun Tryz.prog 137 Tryz.f137 (bodyOf Tryz.f137) := ⟨Tryz.func137, rfl, by kernel_rfl⟩
instance fun138 : Fun Tryz.prog 138 Tryz.f138 (bodyOf Tryz.f138) := ⟨Tryz.func138, rfl, by kernel_rfl⟩
instance fun139 : Fun Tryz.prog 139 Tryz.f139 (bodyOf Tryz.f139) := ⟨Tryz.func139, rfl, by kernel_rfl⟩
instance fun140 : Fun Tryz.prog 140 Tryz.f140 (bodyOf Tryz.f140) := ⟨Tryz.func140, rfl, by kernel_rfl⟩
instance fun141 : Fun Tryz.prog 141 Tryz.f141 (bodyOf Tryz.f141) := ⟨Tryz.func141, rfl, by kernel_rfl⟩
instance fun142 : Fun Tryz.prog 142 Tryz.f142 (bodyOf Tryz.f142) := ⟨Tryz.func142, rfl, by kernel_rfl⟩
instance fun143 : Fun Tryz.prog 143 Tryz.f143 (bodyOf Tryz.f143) := ⟨Tryz.func143, rfl, by kernel_rfl⟩
instance fun144 : Fun Tryz.prog 144 Tryz.f144 (bodyOf Tryz.f144) := ⟨Tryz.func144, rfl, by kernel_rfl⟩
instance fun145 : Fun Tryz.prog 145 Tryz.f145 (bodyOf Tryz.f145) := ⟨Tryz.func145, rfl, by kernel_rfl⟩
instance fun146 : Fun Tryz.prog 146 Tryz.f146 (bodyOf Tryz.f146) := ⟨Tryz.func146, rfl, by kernel_rfl⟩
instance fun147 : Fun Tryz.prog 147 Tryz.f147 (bodyOf Tryz.f147) := ⟨Tryz.func147, rfl, by kernel_rfl⟩
instance fun148 : Fun Tryz.prog 148 Tryz.f148 (bodyOf Tryz.f148) := ⟨Tryz.func148, rfl, by kernel_rfl⟩
instance fun149 : Fun Tryz.prog 149 Tryz.f149 (bodyOf Tryz.f149) := ⟨Tryz.func149, rfl, by kernel_rfl⟩
instance fun155 : Fun Tryz.prog 155 Tryz.f155 (bodyOf Tryz.f155) := ⟨Tryz.func155, rfl, by kernel_rfl⟩
instance fun156 : Fun Tryz.prog 156 Tryz.f156 (bodyOf Tryz.f156) := ⟨Tryz.func156, rfl, by kernel_rfl⟩
instance fun157 : Fun Tryz.prog 157 Tryz.f157 (bodyOf Tryz.f157) := ⟨Tryz.func157, rfl, by kernel_rfl⟩
instance fun158 : Fun Tryz.prog 158 Tryz.f158 (bodyOf Tryz.f158) := ⟨Tryz.func158, rfl, by kernel_rfl⟩
instance fun159 : Fun Tryz.prog 159 Tryz.f159 (bodyOf Tryz.f159) := ⟨Tryz.func159, rfl, by kernel_rfl⟩
instance fun160 : Fun Tryz.prog 160 Tryz.f160 (bodyOf Tryz.f160) := ⟨Tryz.func160, rfl, by kernel_rfl⟩
instance fun168 : Fun Tryz.prog 168 Tryz.f168 (bodyOf Tryz.f168) := ⟨Tryz.func168, rfl, by kernel_rfl⟩
instance fun169 : Fun Tryz.prog 169 Tryz.f169 (bodyOf Tryz.f169) := ⟨Tryz.func169, rfl, by kernel_rfl⟩
instance fun170 : Fun Tryz.prog 170 Tryz.f170 (bodyOf Tryz.f170) := ⟨Tryz.func170, rfl, by kernel_rfl⟩
instance fun171 : Fun Tryz.prog 171 Tryz.f171 (bodyOf Tryz.f171) := ⟨Tryz.func171, rfl, by kernel_rfl⟩
instance fun172 : Fun Tryz.prog 172 Tryz.f172 (bodyOf Tryz.f172) := ⟨Tryz.func172, rfl, by kernel_rfl⟩
instance fun173 : Fun Tryz.prog 173 Tryz.f173 (bodyOf Tryz.f173) := ⟨Tryz.func173, rfl, by kernel_rfl⟩
instance fun174 : Fun Tryz.prog 174 Tryz.f174 (bodyOf Tryz.f174) := ⟨Tryz.func174, rfl, by kernel_rfl⟩
instance fun175 : Fun Tryz.prog 175 Tryz.f175 (bodyOf Tryz.f175) := ⟨Tryz.func175, rfl, by kernel_rfl⟩
instance fun176 : Fun Tryz.prog 176 Tryz.f176 (bodyOf Tryz.f176) := ⟨Tryz.func176, rfl, by kernel_rfl⟩
instance fun177 : Fun Tryz.prog 177 Tryz.f177 (bodyOf Tryz.f177) := ⟨Tryz.func177, rfl, by kernel_rfl⟩
instance fun178 : Fun Tryz.prog 178 Tryz.f178 (bodyOf Tryz.f178) := ⟨Tryz.func178, rfl, by kernel_rfl⟩
instance fun179 : Fun Tryz.prog 179 Tryz.f179 (bodyOf Tryz.f179) := ⟨Tryz.func179, rfl, by kernel_rfl⟩
instance fun180 : Fun Tryz.prog 180 Tryz.f180 (bodyOf Tryz.f180) := ⟨Tryz.func180, rfl, by kernel_rfl⟩
instance fun181 : Fun Tryz.prog 181 Tryz.f181 (bodyOf Tryz.f181) := ⟨Tryz.func181, rfl, by kernel_rfl⟩
instance fun182 : Fun Tryz.prog 182 Tryz.f182 (bodyOf Tryz.f182) := ⟨Tryz.func182, rfl, by kernel_rfl⟩
instance fun183 : Fun Tryz.prog 183 Tryz.f183 (bodyOf Tryz.f183) := ⟨Tryz.func183, rfl, by kernel_rfl⟩
instance fun184 : Fun Tryz.prog 184 Tryz.f184 (bodyOf Tryz.f184) := ⟨Tryz.func184, rfl, by kernel_rfl⟩
instance fun186 : Fun Tryz.prog 186 Tryz.f186 (bodyOf Tryz.f186) := ⟨Tryz.func186, rfl, by kernel_rfl⟩
instance fun187 : Fun Tryz.prog 187 Tryz.f187 (bodyOf Tryz.f187) := ⟨Tryz.func187, rfl, by kernel_rfl⟩
instance fun188 : Fun Tryz.prog 188 Tryz.f188 (bodyOf Tryz.f188) := ⟨Tryz.func188, rfl, by kernel_rfl⟩
instance fun189 : Fun Tryz.prog 189 Tryz.f189 (bodyOf Tryz.f189) := ⟨Tryz.func189, rfl, by kernel_rfl⟩
instance fun190 : Fun Tryz.prog 190 Tryz.f190 (bodyOf Tryz.f190) := ⟨Tryz.func190, rfl, by kernel_rfl⟩
instance fun191 : Fun Tryz.prog 191 Tryz.f191 (bodyOf Tryz.f191) := ⟨Tryz.func191, rfl, by kernel_rfl⟩
instance fun192 : Fun Tryz.prog 192 Tryz.f192 (bodyOf Tryz.f192) := ⟨Tryz.func192, rfl, by kernel_rfl⟩
instance fun193 : Fun Tryz.prog 193 Tryz.f193 (bodyOf Tryz.f193) := ⟨Tryz.func193, rfl, by kernel_rfl⟩
instance fun194 : Fun Tryz.prog 194 Tryz.f194 (bodyOf Tryz.f194) := ⟨Tryz.func194, rfl, by kernel_rfl⟩
instance fun195 : Fun Tryz.prog 195 Tryz.f195 (bodyOf Tryz.f195) := ⟨Tryz.func195, rfl, by kernel_rfl⟩
instance fun196 : Fun Tryz.prog 196 Tryz.f196 (bodyOf Tryz.f196) := ⟨Tryz.func196, rfl, by kernel_rfl⟩
instance fun205 : Fun Tryz.prog 205 Tryz.f205 (bodyOf Tryz.f205) := ⟨Tryz.func205, rfl, by kernel_rfl⟩
instance fun206 : Fun Tryz.prog 206 Tryz.f206 (bodyOf Tryz.f206) := ⟨Tryz.func206, rfl, by kernel_rfl⟩
instance fun207 : Fun Tryz.prog 207 Tryz.f207 (bodyOf Tryz.f207) := ⟨Tryz.func207, rfl, by kernel_rfl⟩
instance fun208 : Fun Tryz.prog 208 Tryz.f208 (bodyOf Tryz.f208) := ⟨Tryz.func208, rfl, by kernel_rfl⟩
end Go.Iron.Tryz

/- Iron: this seat's further tables, by program (mkinf2.py). -/
set_option maxRecDepth 10000
namespace Go.Iron.Tryz
open Go.Proofs
noncomputable def jnf : TJ where
  ifs := [(20, ()), (152, ()), (153, ())]
  zv := [(76, .agg []), (87, .val (.nilFunc)), (121, .agg [.val (.int .i64 0)]), (138, .agg [.val (.int .i64 0)]), (218, .agg [.val (.int .i64 0)])]
  strs := [(9, ()), (10, ()), (11, ())]
  ints := [(2, .i64), (3, .i64), (5, .u8), (6, .u8), (12, .u64), (21, .i32), (30, .i64), (186, .u64), (222, .u32), (225, .u64), (239, .i64), (279, .u8), (280, .u8), (282, .i32), (283, .i32)]
  fns := [(3, Tryz.f3), (4, Tryz.f4), (5, Tryz.f5), (6, Tryz.f6), (7, Tryz.f7), (8, Tryz.f8), (9, Tryz.f9), (10, Tryz.f10), (11, Tryz.f11), (12, Tryz.f12), (13, Tryz.f13), (14, Tryz.f14), (15, Tryz.f15), (16, Tryz.f16), (17, Tryz.f17), (18, Tryz.f18), (19, Tryz.f19), (20, Tryz.f20), (21, Tryz.f21), (22, Tryz.f22), (23, Tryz.f23), (24, Tryz.f24), (25, Tryz.f25), (26, Tryz.f26), (27, Tryz.f27), (28, Tryz.f28), (29, Tryz.f29), (30, Tryz.f30), (31, Tryz.f31), (32, Tryz.f32), (33, Tryz.f33), (34, Tryz.f34), (35, Tryz.f35), (36, Tryz.f36), (37, Tryz.f37), (38, Tryz.f38), (39, Tryz.f39), (40, Tryz.f40), (41, Tryz.f41), (42, Tryz.f42), (43, Tryz.f43), (44, Tryz.f44), (45, Tryz.f45), (46, Tryz.f46), (47, Tryz.f47), (48, Tryz.f48), (49, Tryz.f49), (50, Tryz.f50), (51, Tryz.f51), (52, Tryz.f52), (53, Tryz.f53), (54, Tryz.f54), (55, Tryz.f55), (56, Tryz.f56), (57, Tryz.f57), (58, Tryz.f58), (59, Tryz.f59), (60, Tryz.f60), (61, Tryz.f61), (62, Tryz.f62), (63, Tryz.f63), (64, Tryz.f64), (65, Tryz.f65), (66, Tryz.f66), (67, Tryz.f67), (68, Tryz.f68), (69, Tryz.f69), (70, Tryz.f70), (71, Tryz.f71), (72, Tryz.f72), (73, Tryz.f73), (74, Tryz.f74), (75, Tryz.f75), (76, Tryz.f76), (77, Tryz.f77), (78, Tryz.f78), (79, Tryz.f79), (80, Tryz.f80), (81, Tryz.f81), (82, Tryz.f82), (83, Tryz.f83), (84, Tryz.f84), (85, Tryz.f85), (86, Tryz.f86), (87, Tryz.f87), (89, Tryz.f89), (90, Tryz.f90), (91, Tryz.f91), (92, Tryz.f92), (93, Tryz.f93), (94, Tryz.f94), (95, Tryz.f95), (96, Tryz.f96), (97, Tryz.f97), (98, Tryz.f98), (99, Tryz.f99), (100, Tryz.f100), (101, Tryz.f101), (102, Tryz.f102), (103, Tryz.f103), (104, Tryz.f104), (105, Tryz.f105), (106, Tryz.f106), (107, Tryz.f107), (108, Tryz.f108), (109, Tryz.f109), (110, Tryz.f110), (111, Tryz.f111), (112, Tryz.f112), (113, Tryz.f113), (114, Tryz.f114), (115, Tryz.f115), (117, Tryz.f117), (118, Tryz.f118), (119, Tryz.f119), (120, Tryz.f120), (121, Tryz.f121), (122, Tryz.f122), (123, Tryz.f123), (124, Tryz.f124), (125, Tryz.f125), (126, Tryz.f126), (127, Tryz.f127), (128, Tryz.f128), (129, Tryz.f129), (130, Tryz.f130), (131, Tryz.f131), (132, Tryz.f132), (133, Tryz.f133), (134, Tryz.f134), (135, Tryz.f135), (136, Tryz.f136), (137, Tryz.f137), (138, Tryz.f138), (139, Tryz.f139), (140, Tryz.f140), (141, Tryz.f141), (142, Tryz.f142), (143, Tryz.f143), (144, Tryz.f144), (145, Tryz.f145), (146, Tryz.f146), (147, Tryz.f147), (148, Tryz.f148), (149, Tryz.f149), (155, Tryz.f155), (156, Tryz.f156), (157, Tryz.f157), (158, Tryz.f158), (159, Tryz.f159), (160, Tryz.f160), (168, Tryz.f168), (169, Tryz.f169), (170, Tryz.f170), (171, Tryz.f171), (172, Tryz.f172), (173, Tryz.f173), (174, Tryz.f174), (175, Tryz.f175), (176, Tryz.f176), (177, Tryz.f177), (178, Tryz.f178), (179, Tryz.f179), (180, Tryz.f180), (181, Tryz.f181), (186, Tryz.f186), (187, Tryz.f187), (188, Tryz.f188), (189, Tryz.f189), (190, Tryz.f190), (191, Tryz.f191), (192, Tryz.f192), (193, Tryz.f193), (194, Tryz.f194), (195, Tryz.f195), (196, Tryz.f196), (205, Tryz.f205), (206, Tryz.f206), (207, Tryz.f207)]
  dr := [(3, [(8, 9), (11, 13)]), (6, [(5, 31)]), (12, [(14, 5)]), (17, [(9, 5)]), (18, [(1, 5)]), (20, [(1, 9), (5, 6), (7, 6), (3, 6)]), (22, [(2, 15), (3, 14)]), (23, [(13, 5)]), (24, [(33, 9), (34, 3)]), (26, [(6, 4), (9, 5)]), (28, [(9, 5), (11, 5)]), (31, [(2, 13)]), (32, [(11, 15)]), (33, [(8, 11), (10, 5)]), (38, [(7, 6)]), (39, [(9, 5)]), (40, [(19, 9), (20, 3)]), (41, [(10, 10), (11, 3)]), (42, [(6, 5)]), (43, [(4, 3)]), (49, [(7, 11), (8, 11), (9, 9)]), (50, [(4, 6), (8, 16)]), (52, [(43, 9), (51, 7)]), (53, [(11, 5), (22, 15)]), (54, [(4, 3), (13, 5), (32, 15)]), (57, [(5, 12), (6, 3)]), (62, [(8, 15)]), (65, [(8, 8), (10, 8)]), (73, [(14, 21)]), (75, [(10, 3), (17, 17), (18, 18)]), (76, [(3, 15)]), (80, [(14, 8)]), (81, [(24, 10)]), (82, [(4, 6), (13, 3)]), (92, [(1, 14)]), (96, [(4, 9)]), (97, [(1, 7)]), (99, [(1, 14), (2, 14), (4, 5)]), (102, [(1, 12), (5, 11)]), (104, [(1, 15)]), (105, [(3, 5)]), (110, [(3, 15), (4, 11), (5, 10), (6, 6)]), (113, [(2, 4)]), (119, [(1, 10)]), (124, [(6, 8), (7, 10)]), (128, [(1, 7)]), (129, [(1, 5)]), (131, [(2, 8)]), (132, [(1, 14), (6, 14)]), (136, [(4, 3), (8, 11)]), (139, [(2, 3), (4, 3), (5, 3)]), (141, [(2, 5)]), (144, [(2, 3), (4, 3), (5, 3)]), (145, [(5, 23)]), (148, [(4, 9)]), (173, [(3, 14)]), (175, [(1, 5)]), (176, [(16, 9)]), (177, [(5, 5), (18, 6)]), (188, [(1, 14), (2, 7)]), (190, [(6, 4)]), (194, [(1, 15)]), (195, [(1, 14)])]
  maps := [(89, none, 87)]
  arrs := [(123, 2, 23), (161, 2, 4), (175, 5, 174), (196, 256, 4), (197, 256, 4), (221, 5, 9), (245, 24, 5), (250, 256, 5), (253, 16, 252), (263, 20, 225), (264, 65, 5), (272, 32, 5), (273, 64, 5), (276, 0, 16)]
theorem jnf_ifs : AllL (fun p : Nat × Unit => ∃ ms, (Tryz.prog).underlying p.1 = some (.interface ms)) jnf.ifs := .cons (⟨_, Tryz.underlying20⟩) <| .cons (⟨_, Tryz.underlying152⟩) <| .cons (⟨_, Tryz.underlying153⟩) <| .nil
theorem jnf_zv : AllL (fun p : Nat × AV => ZV Tryz.prog p.1 p.2) jnf.zv := .cons (⟨by kernel_rfl, .agg #[], by kernel_rfl, rfl⟩) <| .cons (⟨by kernel_rfl, .nilFunc, by kernel_rfl, rfl⟩) <| .cons (⟨by kernel_rfl, .agg #[(.int .i64 0)], by kernel_rfl, rfl⟩) <| .cons (⟨by kernel_rfl, .agg #[(.int .i64 0)], by kernel_rfl, rfl⟩) <| .cons (⟨by kernel_rfl, .agg #[(.int .i64 0)], by kernel_rfl, rfl⟩) <| .nil
theorem jnf_strs : AllL (fun p : Nat × Unit => (Tryz.prog).underlying p.1 = some .string) jnf.strs := .cons (Tryz.underlying9) <| .cons (Tryz.underlying10) <| .cons (Tryz.underlying11) <| .nil
theorem jnf_ints : AllL (fun p : Nat × IntKind => (Tryz.prog).underlying p.1 = some (.int p.2)) jnf.ints := .cons (Tryz.underlying2) <| .cons (Tryz.underlying3) <| .cons (Tryz.underlying5) <| .cons (Tryz.underlying6) <| .cons (Tryz.underlying12) <| .cons (Tryz.underlying21) <| .cons (Tryz.underlying30) <| .cons (Tryz.underlying186) <| .cons (Tryz.underlying222) <| .cons (Tryz.underlying225) <| .cons (Tryz.underlying239) <| .cons (Tryz.underlying279) <| .cons (Tryz.underlying280) <| .cons (Tryz.underlying282) <| .cons (Tryz.underlying283) <| .nil
theorem jnf_fns : AllL (fun p : Nat × Func => (Tryz.prog).funcs[p.1]? = some p.2 ∧ p.2.body.isSome = true ∧ (p.2.name == "runtime.NumGoroutine") = false) jnf.fns := .cons (⟨Tryz.func3, rfl, by kernel_rfl⟩) <| .cons (⟨Tryz.func4, rfl, by kernel_rfl⟩) <| .cons (⟨Tryz.func5, rfl, by kernel_rfl⟩) <| .cons (⟨Tryz.func6, rfl, by kernel_rfl⟩) <| .cons (⟨Tryz.func7, rfl, by kernel_rfl⟩) <| .cons (⟨Tryz.func8, rfl, by kernel_rfl⟩) <| .cons (⟨Tryz.func9, rfl, by kernel_rfl⟩) <| .cons (⟨Tryz.func10, rfl, by kernel_rfl⟩) <| .cons (⟨Tryz.func11, rfl, by kernel_rfl⟩) <| .cons (⟨Tryz.func12, rfl, by kernel_rfl⟩) <| .cons (⟨Tryz.func13, rfl, by kernel_rfl⟩) <| .cons (⟨Tryz.func14, rfl, by kernel_rfl⟩) <| .cons (⟨Tryz.func15, rfl, by kernel_rfl⟩) <| .cons (⟨Tryz.func16, rfl, by kernel_rfl⟩) <| .cons (⟨Tryz.func17, rfl, by kernel_rfl⟩) <| .cons (⟨Tryz.func18, rfl, by kernel_rfl⟩) <| .cons (⟨Tryz.func19, rfl, by kernel_rfl⟩) <| .cons (⟨Tryz.func20, rfl, by kernel_rfl⟩) <| .cons (⟨Tryz.func21, rfl, by kernel_rfl⟩) <| .cons (⟨Tryz.func22, rfl, by kernel_rfl⟩) <| .cons (⟨Tryz.func23, rfl, by kernel_rfl⟩) <| .cons (⟨Tryz.func24, rfl, by kernel_rfl⟩) <| .cons (⟨Tryz.func25, rfl, by kernel_rfl⟩) <| .cons (⟨Tryz.func26, rfl, by kernel_rfl⟩) <| .cons (⟨Tryz.func27, rfl, by kernel_rfl⟩) <| .cons (⟨Tryz.func28, rfl, by kernel_rfl⟩) <| .cons (⟨Tryz.func29, rfl, by kernel_rfl⟩) <| .cons (⟨Tryz.func30, rfl, by kernel_rfl⟩) <| .cons (⟨Tryz.func31, rfl, by kernel_rfl⟩) <| .cons (⟨Tryz.func32, rfl, by kernel_rfl⟩) <| .cons (⟨Tryz.func33, rfl, by kernel_rfl⟩) <| .cons (⟨Tryz.func34, rfl, by kernel_rfl⟩) <| .cons (⟨Tryz.func35, rfl, by kernel_rfl⟩) <| .cons (⟨Tryz.func36, rfl, by kernel_rfl⟩) <| .cons (⟨Tryz.func37, rfl, by kernel_rfl⟩) <| .cons (⟨Tryz.func38, rfl, by kernel_rfl⟩) <| .cons (⟨Tryz.func39, rfl, by kernel_rfl⟩) <| .cons (⟨Tryz.func40, rfl, by kernel_rfl⟩) <| .cons (⟨Tryz.func41, rfl, by kernel_rfl⟩) <| .cons (⟨Tryz.func42, rfl, by kernel_rfl⟩) <| .cons (⟨Tryz.func43, rfl, by kernel_rfl⟩) <| .cons (⟨Tryz.func44, rfl, by kernel_rfl⟩) <| .cons (⟨Tryz.func45, rfl, by kernel_rfl⟩) <| .cons (⟨Tryz.func46, rfl, by kernel_rfl⟩) <| .cons (⟨Tryz.func47, rfl, by kernel_rfl⟩) <| .cons (⟨Tryz.func48, rfl, by kernel_rfl⟩) <| .cons (⟨Tryz.func49, rfl, by kernel_rfl⟩) <| .cons (⟨Tryz.func50, rfl, by kernel_rfl⟩) <| .cons (⟨Tryz.func51, rfl, by kernel_rfl⟩) <| .cons (⟨Tryz.func52, rfl, by kernel_rfl⟩) <| .cons (⟨Tryz.func53, rfl, by kernel_rfl⟩) <| .cons (⟨Tryz.func54, rfl, by kernel_rfl⟩) <| .cons (⟨Tryz.func55, rfl, by kernel_rfl⟩) <| .cons (⟨Tryz.func56, rfl, by kernel_rfl⟩) <| .cons (⟨Tryz.func57, rfl, by kernel_rfl⟩) <| .cons (⟨Tryz.func58, rfl, by kernel_rfl⟩) <| .cons (⟨Tryz.func59, rfl, by kernel_rfl⟩) <| .cons (⟨Tryz.func60, rfl, by kernel_rfl⟩) <| .cons (⟨Tryz.func61, rfl, by kernel_rfl⟩) <| .cons (⟨Tryz.func62, rfl, by kernel_rfl⟩) <| .cons (⟨Tryz.func63, rfl, by kernel_rfl⟩) <| .cons (⟨Tryz.func64, rfl, by kernel_rfl⟩) <| .cons (⟨Tryz.func65, rfl, by kernel_rfl⟩) <| .cons (⟨Tryz.func66, rfl, by kernel_rfl⟩) <| .cons (⟨Tryz.func67, rfl, by kernel_rfl⟩) <| .cons (⟨Tryz.func68, rfl, by kernel_rfl⟩) <| .cons (⟨Tryz.func69, rfl, by kernel_rfl⟩) <| .cons (⟨Tryz.func70, rfl, by kernel_rfl⟩) <| .cons (⟨Tryz.func71, rfl, by kernel_rfl⟩) <| .cons (⟨Tryz.func72, rfl, by kernel_rfl⟩) <| .cons (⟨Tryz.func73, rfl, by kernel_rfl⟩) <| .cons (⟨Tryz.func74, rfl, by kernel_rfl⟩) <| .cons (⟨Tryz.func75, rfl, by kernel_rfl⟩) <| .cons (⟨Tryz.func76, rfl, by kernel_rfl⟩) <| .cons (⟨Tryz.func77, rfl, by kernel_rfl⟩) <| .cons (⟨Tryz.func78, rfl, by kernel_rfl⟩) <| .cons (⟨Tryz.func79, rfl, by kernel_rfl⟩) <| .cons (⟨Tryz.func80, rfl, by kernel_rfl⟩) <| .cons (⟨Tryz.func81, rfl, by kernel_rfl⟩) <| .cons (⟨Tryz.func82, rfl, by kernel_rfl⟩) <| .cons (⟨Tryz.func83, rfl, by kernel_rfl⟩) <| .cons (⟨Tryz.func84, rfl, by kernel_rfl⟩) <| .cons (⟨Tryz.func85, rfl, by kernel_rfl⟩) <| .cons (⟨Tryz.func86, rfl, by kernel_rfl⟩) <| .cons (⟨Tryz.func87, rfl, by kernel_rfl⟩) <| .cons (⟨Tryz.func89, rfl, by kernel_rfl⟩) <| .cons (⟨Tryz.func90, rfl, by kernel_rfl⟩) <| .cons (⟨Tryz.func91, rfl, by kernel_rfl⟩) <| .cons (⟨Tryz.func92, rfl, by kernel_rfl⟩) <| .cons (⟨Tryz.func93, rfl, by kernel_rfl⟩) <| .cons (⟨Tryz.func94, rfl, by kernel_rfl⟩) <| .cons (⟨Tryz.func95, rfl, by kernel_rfl⟩) <| .cons (⟨Tryz.func96, rfl, by kernel_rfl⟩) <| .cons (⟨Tryz.func97, rfl, by kernel_rfl⟩) <| .cons (⟨Tryz.func98, rfl, by kernel_rfl⟩) <| .cons (⟨Tryz.func99, rfl, by kernel_rfl⟩) <| .cons (⟨Tryz.func100, rfl, by kernel_rfl⟩) <| .cons (⟨Tryz.func101, rfl, by kernel_rfl⟩) <| .cons (⟨Tryz.func102, rfl, by kernel_rfl⟩) <| .cons (⟨Tryz.func103, rfl, by kernel_rfl⟩) <| .cons (⟨Tryz.func104, rfl, by kernel_rfl⟩) <| .cons (⟨Tryz.func105, rfl, by kernel_rfl⟩) <| .cons (⟨Tryz.func106, rfl, by kernel_rfl⟩) <| .cons (⟨Tryz.func107, rfl, by kernel_rfl⟩) <| .cons (⟨Tryz.func108, rfl, by kernel_rfl⟩) <| .cons (⟨Tryz.func109, rfl, by kernel_rfl⟩) <| .cons (⟨Tryz.func110, rfl, by kernel_rfl⟩) <| .cons (⟨Tryz.func111, rfl, by kernel_rfl⟩) <| .cons (⟨Tryz.func112, rfl, by kernel_rfl⟩) <| .cons (⟨Tryz.func113, rfl, by kernel_rfl⟩) <| .cons (⟨Tryz.func114, rfl, by kernel_rfl⟩) <| .cons (⟨Tryz.func115, rfl, by kernel_rfl⟩) <| .cons (⟨Tryz.func117, rfl, by kernel_rfl⟩) <| .cons (⟨Tryz.func118, rfl, by kernel_rfl⟩) <| .cons (⟨Tryz.func119, rfl, by kernel_rfl⟩) <| .cons (⟨Tryz.func120, rfl, by kernel_rfl⟩) <| .cons (⟨Tryz.func121, rfl, by kernel_rfl⟩) <| .cons (⟨Tryz.func122, rfl, by kernel_rfl⟩) <| .cons (⟨Tryz.func123, rfl, by kernel_rfl⟩) <| .cons (⟨Tryz.func124, rfl, by kernel_rfl⟩) <| .cons (⟨Tryz.func125, rfl, by kernel_rfl⟩) <| .cons (⟨Tryz.func126, rfl, by kernel_rfl⟩) <| .cons (⟨Tryz.func127, rfl, by kernel_rfl⟩) <| .cons (⟨Tryz.func128, rfl, by kernel_rfl⟩) <| .cons (⟨Tryz.func129, rfl, by kernel_rfl⟩) <| .cons (⟨Tryz.func130, rfl, by kernel_rfl⟩) <| .cons (⟨Tryz.func131, rfl, by kernel_rfl⟩) <| .cons (⟨Tryz.func132, rfl, by kernel_rfl⟩) <| .cons (⟨Tryz.func133, rfl, by kernel_rfl⟩) <| .cons (⟨Tryz.func134, rfl, by kernel_rfl⟩) <| .cons (⟨Tryz.func135, rfl, by kernel_rfl⟩) <| .cons (⟨Tryz.func136, rfl, by kernel_rfl⟩) <| .cons (⟨Tryz.func137, rfl, by kernel_rfl⟩) <| .cons (⟨Tryz.func138, rfl, by kernel_rfl⟩) <| .cons (⟨Tryz.func139, rfl, by kernel_rfl⟩) <| .cons (⟨Tryz.func140, rfl, by kernel_rfl⟩) <| .cons (⟨Tryz.func141, rfl, by kernel_rfl⟩) <| .cons (⟨Tryz.func142, rfl, by kernel_rfl⟩) <| .cons (⟨Tryz.func143, rfl, by kernel_rfl⟩) <| .cons (⟨Tryz.func144, rfl, by kernel_rfl⟩) <| .cons (⟨Tryz.func145, rfl, by kernel_rfl⟩) <| .cons (⟨Tryz.func146, rfl, by kernel_rfl⟩) <| .cons (⟨Tryz.func147, rfl, by kernel_rfl⟩) <| .cons (⟨Tryz.func148, rfl, by kernel_rfl⟩) <| .cons (⟨Tryz.func149, rfl, by kernel_rfl⟩) <| .cons (⟨Tryz.func155, rfl, by kernel_rfl⟩) <| .cons (⟨Tryz.func156, rfl, by kernel_rfl⟩) <| .cons (⟨Tryz.func157, rfl, by kernel_rfl⟩) <| .cons (⟨Tryz.func158, rfl, by kernel_rfl⟩) <| .cons (⟨Tryz.func159, rfl, by kernel_rfl⟩) <| .cons (⟨Tryz.func160, rfl, by kernel_rfl⟩) <| .cons (⟨Tryz.func168, rfl, by kernel_rfl⟩) <| .cons (⟨Tryz.func169, rfl, by kernel_rfl⟩) <| .cons (⟨Tryz.func170, rfl, by kernel_rfl⟩) <| .cons (⟨Tryz.func171, rfl, by kernel_rfl⟩) <| .cons (⟨Tryz.func172, rfl, by kernel_rfl⟩) <| .cons (⟨Tryz.func173, rfl, by kernel_rfl⟩) <| .cons (⟨Tryz.func174, rfl, by kernel_rfl⟩) <| .cons (⟨Tryz.func175, rfl, by kernel_rfl⟩) <| .cons (⟨Tryz.func176, rfl, by kernel_rfl⟩) <| .cons (⟨Tryz.func177, rfl, by kernel_rfl⟩) <| .cons (⟨Tryz.func178, rfl, by kernel_rfl⟩) <| .cons (⟨Tryz.func179, rfl, by kernel_rfl⟩) <| .cons (⟨Tryz.func180, rfl, by kernel_rfl⟩) <| .cons (⟨Tryz.func181, rfl, by kernel_rfl⟩) <| .cons (⟨Tryz.func186, rfl, by kernel_rfl⟩) <| .cons (⟨Tryz.func187, rfl, by kernel_rfl⟩) <| .cons (⟨Tryz.func188, rfl, by kernel_rfl⟩) <| .cons (⟨Tryz.func189, rfl, by kernel_rfl⟩) <| .cons (⟨Tryz.func190, rfl, by kernel_rfl⟩) <| .cons (⟨Tryz.func191, rfl, by kernel_rfl⟩) <| .cons (⟨Tryz.func192, rfl, by kernel_rfl⟩) <| .cons (⟨Tryz.func193, rfl, by kernel_rfl⟩) <| .cons (⟨Tryz.func194, rfl, by kernel_rfl⟩) <| .cons (⟨Tryz.func195, rfl, by kernel_rfl⟩) <| .cons (⟨Tryz.func196, rfl, by kernel_rfl⟩) <| .cons (⟨Tryz.func205, rfl, by kernel_rfl⟩) <| .cons (⟨Tryz.func206, rfl, by kernel_rfl⟩) <| .cons (⟨Tryz.func207, rfl, by kernel_rfl⟩) <| .nil
theorem jnf_maps : AllL (fun p : Nat × Option IntKind × Nat => MapT Tryz.prog p.1 p.2.1 p.2.2) jnf.maps := .cons (⟨_, Tryz.underlying89, Tryz.underlying9⟩) <| .nil
theorem jnf_arrs : AllL (fun p : Nat × Nat × Nat => (Tryz.prog).underlying p.1 = some (.array p.2.1 p.2.2)) jnf.arrs := .cons (Tryz.underlying123) <| .cons (Tryz.underlying161) <| .cons (Tryz.underlying175) <| .cons (Tryz.underlying196) <| .cons (Tryz.underlying197) <| .cons (Tryz.underlying221) <| .cons (Tryz.underlying245) <| .cons (Tryz.underlying250) <| .cons (Tryz.underlying253) <| .cons (Tryz.underlying263) <| .cons (Tryz.underlying264) <| .cons (Tryz.underlying272) <| .cons (Tryz.underlying273) <| .cons (Tryz.underlying276) <| .nil
instance jnfI : Inf2 Tryz.prog jnf := ⟨jnf_ifs, jnf_zv, jnf_strs, jnf_ints, jnf_fns, by kernel_rfl, jnf_maps, jnf_arrs⟩
theorem rX {f0 : FuncId} {C : Cx} {S S' : List AF} {ar ar' : List AO} {Q : Out → List AO → Prop} {ob : Ob} (h : iterS inf jnf ⟨false, false, [], 0, 0⟩ 9999 S ar [] = (S', ar', ob)) (hr : RunS Tryz.prog f0 C S' ar' Q) (ho : Obs ob := by repeat (first | exact obs_nil | refine obs_draw (by kernel_rfl) ?_ | refine obs_same ?_ | refine obs_and ?_ | refine obs_by (by (simp [inB] <;> omega)) ?_)) : RunS Tryz.prog f0 C S ar Q := runS_x (I := inf) (J := jnf) _ _ h ho hr
end Go.Iron.Tryz

/-
  DERIVED: THE SHELF's CONTRACTS AT THIS DUMP, IN PLAIN WORDS (tools/lay-plain.mjs out of 'DqShelf.lean', which tools/lay-shelf.mjs wrote): THE SAME DECLARATIONS UNDER THE SAME NAMES: 'import', 'namespace', 'open', 'def', 'theorem' AND NOTHING ELSE: no command of the shelf's: FOR A HAND-IN. Each laying: the table of numbers ('.._ren') and one theorem, a field a fact of the dump's own or the kernel's comparison; each contract: ONE APPLICATION.
-/
namespace Go.Proofs
open Go.Shelf
def Tryz.lays160_ren : Go.Shelf.Ren := ⟨fun | 160 => 88 | 232 => 162 | 231 => 161 | 227 => 163 | 234 => 165 | 233 => 164 | 236 => 167 | 235 => 166 | 228 => 201 | 271 => 204 | 151 => 203 | 197 => 202 | 120 => 216 | 152 => 215 | 260 => 214 | 137 => 227 | 119 => 228 | 224 => 229 | 225 => 230 | 217 => 240 | 266 => 246 | n => n, fun | 9 => 9 | 4 => 4 | 3 => 3 | 5 => 5 | 117 => 198 | 116 => 197 | 0 => 0 | 124 => 201 | 21 => 21 | 105 => 228 | 46 => 186 | 119 => 250 | 139 => 253 | 138 => 252 | n => n, fun | 3 => 1 | 4 => 2 | n => n⟩
theorem Tryz.lays160 : Go.Proofs.Lays.n160 Tryz.prog Tryz.lays160_ren := {
  mixed := by kernel_rfl
  f119 := Tryz.func228.trans (congrArg some (by kernel_rfl))
  f120 := Tryz.func216.trans (congrArg some (by kernel_rfl))
  f137 := Tryz.func227.trans (congrArg some (by kernel_rfl))
  f151 := Tryz.func203.trans (congrArg some (by kernel_rfl))
  f152 := Tryz.func215.trans (congrArg some (by kernel_rfl))
  f160 := Tryz.func88.trans (congrArg some (by kernel_rfl))
  f197 := Tryz.func202.trans (congrArg some (by kernel_rfl))
  f217 := Tryz.func240.trans (congrArg some (by kernel_rfl))
  f224 := Tryz.func229.trans (congrArg some (by kernel_rfl))
  f225 := Tryz.func230.trans (congrArg some (by kernel_rfl))
  f227 := Tryz.func163.trans (congrArg some (by kernel_rfl))
  f228 := Tryz.func201.trans (congrArg some (by kernel_rfl))
  f231 := Tryz.func161.trans (congrArg some (by kernel_rfl))
  f232 := Tryz.func162.trans (congrArg some (by kernel_rfl))
  f233 := Tryz.func164.trans (congrArg some (by kernel_rfl))
  f234 := Tryz.func165.trans (congrArg some (by kernel_rfl))
  f235 := Tryz.func166.trans (congrArg some (by kernel_rfl))
  f236 := Tryz.func167.trans (congrArg some (by kernel_rfl))
  f260 := Tryz.func214.trans (congrArg some (by kernel_rfl))
  f266 := Tryz.func246.trans (congrArg some (by kernel_rfl))
  f271 := Tryz.func204.trans (congrArg some (by kernel_rfl))
  t0 := Tryz.underlying0
  a0 := Tryz.isAgg0
  z0 := Tryz.sizeOf0
  v0 := Tryz.zeroValue0
  t3 := Tryz.underlying3
  a3 := Tryz.isAgg3
  z3 := Tryz.sizeOf3
  v3 := Tryz.zeroValue3
  t4 := Tryz.underlying4
  a4 := Tryz.isAgg4
  z4 := Tryz.sizeOf4
  v4 := Tryz.zeroValue4
  t5 := Tryz.underlying5
  a5 := Tryz.isAgg5
  z5 := Tryz.sizeOf5
  v5 := Tryz.zeroValue5
  t9 := Tryz.underlying9
  a9 := Tryz.isAgg9
  z9 := Tryz.sizeOf9
  v9 := Tryz.zeroValue9
  t21 := Tryz.underlying21
  a21 := Tryz.isAgg21
  z21 := Tryz.sizeOf21
  v21 := Tryz.zeroValue21
  t46 := Tryz.underlying186
  a46 := Tryz.isAgg186
  z46 := Tryz.sizeOf186
  v46 := Tryz.zeroValue186
  t105 := Tryz.underlying228
  a105 := Tryz.isAgg228
  z105 := Tryz.sizeOf228
  v105 := Tryz.zeroValue228
  t116 := Tryz.underlying197
  a116 := Tryz.isAgg197
  z116 := Tryz.sizeOf197
  t117 := Tryz.underlying198
  a117 := Tryz.isAgg198
  z117 := Tryz.sizeOf198
  v117 := Tryz.zeroValue198
  t119 := Tryz.underlying250
  a119 := Tryz.isAgg250
  z119 := Tryz.sizeOf250
  t124 := Tryz.underlying201
  a124 := Tryz.isAgg201
  z124 := Tryz.sizeOf201
  v124 := Tryz.zeroValue201
  t138 := Tryz.underlying252
  a138 := Tryz.isAgg252
  z138 := Tryz.sizeOf252
  v138 := Tryz.zeroValue252
  t139 := Tryz.underlying253
  a139 := Tryz.isAgg253
  z139 := Tryz.sizeOf253
  v139 := Tryz.zeroValue253
  g3 := by kernel_rfl
  g4 := by kernel_rfl }
open Go.RowKit in
theorem Tryz.strings_Trim_laid (s cutset : ByteArray) (w : World) (hs : s.size ≤ 9223372036854775807) (hcs : cutset.size < 4294967281) (hascii : ∀ (j : Nat) b, cutset.data.toList[j]? = some b → b.toNat < 128) :
    Calls Tryz.prog 88 #[.string s, .string cutset] w fun e w' => e = .returned (.string ⟨(Lib.trimS s.data.toList cutset.data.toList).toArray⟩) ∧ Below w.heap.size w w' := Any.strings_Trim_laid Tryz.lays160 (by kernel_rfl) s cutset w hs hcs hascii
def Tryz.lays105_ren : Go.Shelf.Ren := ⟨fun | 105 => 84 | 212 => 150 | 99 => 151 | 165 => 152 | 166 => 153 | 170 => 154 | 169 => 119 | 263 => 197 | 264 => 198 | 206 => 199 | 240 => 187 | 241 => 200 | 276 => 212 | 277 => 213 | n => n, fun | 9 => 9 | 3 => 3 | 4 => 4 | 20 => 20 | 0 => 0 | 46 => 186 | 109 => 187 | 5 => 5 | 72 => 148 | 76 => 191 | 51 => 222 | 146 => 223 | 53 => 225 | 148 => 226 | 70 => 146 | 37 => 71 | 75 => 153 | 127 => 215 | 164 => 234 | 80 => 155 | n => n, fun | n => n⟩
theorem Tryz.lays105 : Go.Proofs.Lays.n105 Tryz.prog Tryz.lays105_ren := {
  mixed := by kernel_rfl
  f99 := Tryz.func151.trans (congrArg some (by kernel_rfl))
  f105 := Tryz.func84.trans (congrArg some (by kernel_rfl))
  f165 := Tryz.func152.trans (congrArg some (by kernel_rfl))
  f166 := Tryz.func153.trans (congrArg some (by kernel_rfl))
  f169 := Tryz.func119.trans (congrArg some (by kernel_rfl))
  f170 := Tryz.func154.trans (congrArg some (by kernel_rfl))
  f206 := Tryz.func199.trans (congrArg some (by kernel_rfl))
  f212 := Tryz.func150.trans (congrArg some (by kernel_rfl))
  f240 := Tryz.func187.trans (congrArg some (by kernel_rfl))
  f241 := Tryz.func200.trans (congrArg some (by kernel_rfl))
  f263 := Tryz.func197.trans (congrArg some (by kernel_rfl))
  f264 := Tryz.func198.trans (congrArg some (by kernel_rfl))
  f276 := Tryz.func212.trans (congrArg some (by kernel_rfl))
  f277 := Tryz.func213.trans (congrArg some (by kernel_rfl))
  t0 := Tryz.underlying0
  a0 := Tryz.isAgg0
  z0 := Tryz.sizeOf0
  v0 := Tryz.zeroValue0
  t3 := Tryz.underlying3
  a3 := Tryz.isAgg3
  z3 := Tryz.sizeOf3
  v3 := Tryz.zeroValue3
  t4 := Tryz.underlying4
  a4 := Tryz.isAgg4
  z4 := Tryz.sizeOf4
  v4 := Tryz.zeroValue4
  t5 := Tryz.underlying5
  a5 := Tryz.isAgg5
  z5 := Tryz.sizeOf5
  v5 := Tryz.zeroValue5
  t9 := Tryz.underlying9
  a9 := Tryz.isAgg9
  z9 := Tryz.sizeOf9
  v9 := Tryz.zeroValue9
  t20 := Tryz.underlying20
  a20 := Tryz.isAgg20
  z20 := Tryz.sizeOf20
  v20 := Tryz.zeroValue20
  t37 := Tryz.underlying71
  a37 := Tryz.isAgg71
  z37 := Tryz.sizeOf71
  v37 := Tryz.zeroValue71
  t46 := Tryz.underlying186
  a46 := Tryz.isAgg186
  z46 := Tryz.sizeOf186
  v46 := Tryz.zeroValue186
  t51 := Tryz.underlying222
  a51 := Tryz.isAgg222
  z51 := Tryz.sizeOf222
  v51 := Tryz.zeroValue222
  t53 := Tryz.underlying225
  a53 := Tryz.isAgg225
  z53 := Tryz.sizeOf225
  v53 := Tryz.zeroValue225
  t70 := Tryz.underlying146
  a70 := Tryz.isAgg146
  z70 := Tryz.sizeOf146
  v70 := Tryz.zeroValue146
  t72 := Tryz.underlying148
  a72 := Tryz.isAgg148
  z72 := Tryz.sizeOf148
  v72 := Tryz.zeroValue148
  t75 := Tryz.underlying153
  a75 := Tryz.isAgg153
  z75 := Tryz.sizeOf153
  v75 := Tryz.zeroValue153
  t76 := Tryz.underlying191
  a76 := Tryz.isAgg191
  z76 := Tryz.sizeOf191
  v76 := Tryz.zeroValue191
  t109 := Tryz.underlying187
  a109 := Tryz.isAgg187
  z109 := Tryz.sizeOf187
  v109 := Tryz.zeroValue187
  t127 := Tryz.underlying215
  a127 := Tryz.isAgg215
  z127 := Tryz.sizeOf215
  v127 := Tryz.zeroValue215
  t146 := Tryz.underlying223
  a146 := Tryz.isAgg223
  z146 := Tryz.sizeOf223
  v146 := Tryz.zeroValue223
  t148 := Tryz.underlying226
  a148 := Tryz.isAgg226
  z148 := Tryz.sizeOf226
  v148 := Tryz.zeroValue226
  t164 := Tryz.underlying234
  a164 := Tryz.isAgg234
  z164 := Tryz.sizeOf234
  v164 := Tryz.zeroValue234 }
theorem Tryz.Builder_Extra_105 : Builder.Extra Tryz.prog Tryz.lays105_ren := {
  sizeBuilder := by kernel_rfl
  liesBuilder := by kernel_rfl
  t5 := Tryz.underlying5
  a5 := Tryz.isAgg5
  z5 := Tryz.sizeOf5
  v5 := Tryz.zeroValue5
  infoByte := by kernel_rfl
  cellsByte := by kernel_rfl
  sizeByte := by kernel_rfl
  neB5 := by decide }
open Go.RowKit Go.Lib in
theorem Tryz.strings_Repeat (s : ByteArray) (c : Nat) (w : World) (hc : c ≤ 9223372036854775807) (hlen : s.size * c ≤ 140737488355328) :
    Calls Tryz.prog 84 #[.string s, .int .i64 c] w fun e w' => e = .returned (.string ⟨(Lib.repeatL s.data.toList c).toArray⟩) ∧ Below w.heap.size w w' := Any.strings_Repeat Tryz.lays105 Tryz.Builder_Extra_105 s c w hc hlen
end Go.Proofs

/- Tokens of a text, as plain functions (no program in sight). -/
namespace Go.Iron.Tok

abbrev Str := List UInt8
def byt (s : Str) (p : Nat) : Nat := (s.getD p 0).toNat
def part (s : Str) (p q : Nat) : Str := (s.take q).drop p
structure Tk where
  kind : Nat
  text : Str
  at_ : Nat
deriving DecidableEq
inductive Rd
  | ok (t : Option Tk) (p : Nat)
  | bad (q : Nat)

inductive Qt
  | fin (l : Str) (p : Nat)
  | bad (q : Nat)
end Go.Iron.Tok

/- Tokens of a text: places go on. -/
namespace Go.Iron.Tok

end Go.Iron.Tok

/- Tokens of a text: great letters outside of quotes make no difference (P9.4), in plain Lean. -/
namespace Go.Iron.Tok

end Go.Iron.Tok

/- Tokens of a text: what the law makes of a text, and that it is read the same (P9.4), in plain Lean. -/
namespace Go.Iron.Tok

end Go.Iron.Tok

/- Naturals by their decimal digits, the least one first, as plain lists. -/
namespace Go.Iron.Dg

def frm (n : Nat) : List Nat := if h : n = 0 then [] else n % 10 :: frm (n / 10)
termination_by n
decreasing_by omega
def val : List Nat → Nat
  | [] => 0
  | d :: l => d + 10 * val l
theorem frm_zero : frm 0 = [] := by rw [frm, dif_pos rfl]
theorem frm_pos {n : Nat} (h : n ≠ 0) : frm n = n % 10 :: frm (n / 10) := by
  conv => lhs; rw [frm]
  rw [dif_neg h]
theorem val_frm (n : Nat) : val (frm n) = n := by
  by_cases h : n = 0
  · rw [h, frm_zero]; rfl
  · rw [frm_pos h, val, val_frm (n / 10)]
    omega
termination_by n
decreasing_by omega
def Canon : List Nat → Prop
  | [] => True
  | d :: l => d < 10 ∧ (l = [] → d ≠ 0) ∧ Canon l
theorem canon_frm (n : Nat) : Canon (frm n) := by
  by_cases h : n = 0
  · rw [h, frm_zero]; trivial
  · rw [frm_pos h]
    refine ⟨by omega, fun e => ?_, canon_frm (n / 10)⟩
    have := val_frm (n / 10)
    rw [e] at this
    have h2 : n / 10 = 0 := this.symm
    omega
termination_by n
decreasing_by omega
theorem val_pos : ∀ {l : List Nat}, Canon l → l ≠ [] → 0 < val l
  | [], _, h => absurd rfl h
  | d :: l, hc, _ => by
    obtain ⟨h1, h2, h3⟩ := hc
    by_cases hl : l = []
    · have := h2 hl
      rw [val]
      omega
    · have := val_pos h3 hl
      rw [val]
      omega
theorem canon_eq : ∀ {l : List Nat}, Canon l → l = frm (val l)
  | [], _ => by rw [val, frm_zero]
  | d :: l, hc => by
    obtain ⟨h1, h2, h3⟩ := hc
    have hp := val_pos (l := d :: l) ⟨h1, h2, h3⟩ (by simp)
    rw [frm_pos (by omega)]
    have e1 : val (d :: l) % 10 = d := by rw [val]; omega
    have e2 : val (d :: l) / 10 = val l := by rw [val]; omega
    rw [e1, e2, ← canon_eq h3]
theorem frm_digit {n d : Nat} (h : d ∈ frm n) : d < 10 := by
  have key : ∀ l : List Nat, Canon l → ∀ d ∈ l, d < 10 := by
    intro l
    induction l with
    | nil => intro _ d hd; cases hd
    | cons e l ih =>
      intro hc d hd
      rcases List.mem_cons.1 hd with rfl | hd
      · exact hc.1
      · exact ih hc.2.2 d hd
  exact key _ (canon_frm n) d h
theorem val_app : ∀ (a b : List Nat), val (a ++ b) = val a + 10 ^ a.length * val b
  | [], b => by rw [List.nil_append, val, List.length_nil, Nat.pow_zero]; omega
  | d :: a, b => by
    rw [List.cons_append, val, val, val_app a b, List.length_cons, Nat.pow_succ, Nat.mul_add, ← Nat.mul_assoc, Nat.mul_comm 10 (10 ^ a.length)]
    omega
theorem val_lt : ∀ {l : List Nat}, (∀ d ∈ l, d < 10) → val l < 10 ^ l.length
  | [], _ => by show 0 < 10 ^ 0; decide
  | d :: l, h => by
    have h1 := h d (by simp)
    have h2 := val_lt (l := l) fun e he => h e (by simp [he])
    rw [val, List.length_cons, Nat.pow_succ]
    omega
theorem val_ge : ∀ {l : List Nat}, Canon l → l ≠ [] → 10 ^ (l.length - 1) ≤ val l
  | [], _, h => absurd rfl h
  | d :: l, hc, _ => by
    obtain ⟨h1, h2, h3⟩ := hc
    by_cases hl : l = []
    · subst hl
      have := h2 rfl
      show 10 ^ 0 ≤ d + 10 * 0
      rw [Nat.pow_zero]
      omega
    · have ih := val_ge h3 hl
      have hp : 0 < l.length := List.length_pos_iff.2 hl
      rw [val, List.length_cons, Nat.add_sub_cancel]
      have e : 10 ^ l.length = 10 * 10 ^ (l.length - 1) := by
        obtain ⟨m, hm⟩ : ∃ m, l.length = m + 1 := ⟨l.length - 1, by omega⟩
        rw [hm, Nat.add_sub_cancel, Nat.pow_succ]
        omega
      omega
theorem frm_len_lt {n k : Nat} : (frm n).length ≤ k ↔ n < 10 ^ k := by
  constructor
  · intro h
    have h1 := val_lt (l := frm n) fun d hd => frm_digit hd
    rw [val_frm] at h1
    exact Nat.lt_of_lt_of_le h1 (Nat.pow_le_pow_right (by decide) h)
  · intro h
    rcases Nat.lt_or_ge k (frm n).length with h2 | h2
    · exfalso
      have hne : frm n ≠ [] := fun e => by rw [e] at h2; simp at h2
      have h1 := val_ge (canon_frm n) hne
      rw [val_frm] at h1
      have h3 : 10 ^ k ≤ 10 ^ ((frm n).length - 1) := Nat.pow_le_pow_right (by decide) (by omega)
      omega
    · exact h2
def cmpN (a b : List Nat) : Nat → Int
  | 0 => 0
  | i + 1 => if a.getD i 0 < b.getD i 0 then -1 else if a.getD i 0 > b.getD i 0 then 1 else cmpN a b i
def cmpT (a b : List Nat) : Int := if a.length ≠ b.length then (if a.length < b.length then -1 else 1) else cmpN a b a.length
theorem val_take {l : List Nat} {i : Nat} (h : i < l.length) : val (l.take (i + 1)) = val (l.take i) + 10 ^ i * l.getD i 0 := by
  rw [List.take_succ_eq_append_getElem h, val_app, List.length_take, Nat.min_eq_left (by omega), List.getD_eq_getElem?_getD, List.getElem?_eq_getElem h]
  show _ + 10 ^ i * (l[i] + 10 * 0) = _
  rw [Nat.mul_zero, Nat.add_zero]
  rfl
theorem take_lt {l : List Nat} (h : ∀ d ∈ l, d < 10) {i : Nat} (hi : i ≤ l.length) : val (l.take i) < 10 ^ i := by
  have := val_lt (l := l.take i) fun d hd => h d (List.mem_of_mem_take hd)
  rwa [List.length_take, Nat.min_eq_left hi] at this
theorem cmpN_val {a b : List Nat} (ha : ∀ d ∈ a, d < 10) (hb : ∀ d ∈ b, d < 10) : ∀ i, i ≤ a.length → i ≤ b.length → cmpN a b i = if val (a.take i) < val (b.take i) then -1 else if val (a.take i) > val (b.take i) then 1 else 0
  | 0, _, _ => by rw [List.take_zero, List.take_zero]; rfl
  | i + 1, h1, h2 => by
    have ih := cmpN_val ha hb i (by omega) (by omega)
    have la := take_lt ha (i := i) (by omega)
    have lb := take_lt hb (i := i) (by omega)
    have ea := val_take (l := a) (i := i) h1
    have eb := val_take (l := b) (i := i) h2
    unfold cmpN
    generalize a.getD i 0 = x at *
    generalize b.getD i 0 = y at *
    generalize 10 ^ i = p at *
    by_cases hxy : x < y
    · have : p * (x + 1) ≤ p * y := Nat.mul_le_mul_left _ hxy
      rw [Nat.mul_add, Nat.mul_one] at this
      rw [if_pos hxy, if_pos (by omega)]
    · by_cases hyx : x > y
      · have : p * (y + 1) ≤ p * x := Nat.mul_le_mul_left _ hyx
        rw [Nat.mul_add, Nat.mul_one] at this
        rw [if_neg hxy, if_pos hyx, if_neg (by omega), if_pos (by omega)]
      · have : x = y := by omega
        subst this
        rw [if_neg hxy, if_neg hyx, ih]
        rcases Nat.lt_trichotomy (val (a.take i)) (val (b.take i)) with h | h | h
        · rw [if_pos h, if_pos (show val (a.take (i + 1)) < val (b.take (i + 1)) by omega)]
        · rw [if_neg (show ¬ val (a.take i) < val (b.take i) by omega), if_neg (show ¬ val (a.take i) > val (b.take i) by omega), if_neg (show ¬ val (a.take (i + 1)) < val (b.take (i + 1)) by omega), if_neg (show ¬ val (a.take (i + 1)) > val (b.take (i + 1)) by omega)]
        · rw [if_neg (show ¬ val (a.take i) < val (b.take i) by omega), if_pos (show val (a.take i) > val (b.take i) from h), if_neg (show ¬ val (a.take (i + 1)) < val (b.take (i + 1)) by omega), if_pos (show val (a.take (i + 1)) > val (b.take (i + 1)) by omega)]
theorem cmpT_frm (x y : Nat) : cmpT (frm x) (frm y) = if x < y then -1 else if x > y then 1 else 0 := by
  unfold cmpT
  by_cases hl : (frm x).length ≠ (frm y).length
  · rw [if_pos hl]
    by_cases h : (frm x).length < (frm y).length
    · have h1 : x < 10 ^ (frm x).length := frm_len_lt.1 (Nat.le_refl _)
      have h2 : ¬ y < 10 ^ (frm x).length := fun e => by have := frm_len_lt.2 e; omega
      rw [if_pos h, if_pos (by omega)]
    · have h1 : y < 10 ^ (frm y).length := frm_len_lt.1 (Nat.le_refl _)
      have h2 : ¬ x < 10 ^ (frm y).length := fun e => by have := frm_len_lt.2 e; omega
      rw [if_neg h, if_neg (by omega), if_pos (by omega)]
  · have hl' : (frm x).length = (frm y).length := Decidable.not_not.1 hl
    rw [if_neg hl, cmpN_val (fun d hd => frm_digit hd) (fun d hd => frm_digit hd) _ (Nat.le_refl _) (by omega), List.take_length, hl', List.take_length, val_frm, val_frm]
theorem cmpT_lt (x y : Nat) : (cmpT (frm x) (frm y) < 0) ↔ x < y := by
  rw [cmpT_frm]
  split
  · simp; assumption
  · split
    · simp; omega
    · simp; omega
theorem frm_pow (k : Nat) : frm (10 ^ k) = List.replicate k 0 ++ [1] := by
  have hv : ∀ k : Nat, val (List.replicate k 0 ++ [1]) = 10 ^ k := by
    intro k
    induction k with
    | zero => rfl
    | succ k ih =>
      rw [List.replicate_succ, List.cons_append, val, ih, Nat.pow_succ]
      omega
  have hc : ∀ k : Nat, Canon (List.replicate k 0 ++ [1]) := by
    intro k
    induction k with
    | zero => exact ⟨by decide, fun _ => by decide, trivial⟩
    | succ k ih =>
      rw [List.replicate_succ, List.cons_append]
      exact ⟨by decide, fun e => by simp at e, ih⟩
  have := canon_eq (hc k)
  rw [hv] at this
  exact this.symm
def trim (l : List Nat) : List Nat := frm (val l)
theorem trim_zero {l : List Nat} : trim (l ++ [0]) = trim l := by
  unfold trim
  rw [val_app]
  show frm (val l + 10 ^ l.length * (0 + 10 * 0)) = _
  simp
theorem canon_app {l : List Nat} {d : Nat} (h : ∀ e ∈ l, e < 10) (hd : d < 10) (h0 : d ≠ 0) : Canon (l ++ [d]) := by
  induction l with
  | nil => exact ⟨hd, fun _ => h0, trivial⟩
  | cons e l ih => exact ⟨h e (by simp), fun e' => by simp at e', ih fun x hx => h x (by simp [hx])⟩
theorem trim_canon {l : List Nat} {d : Nat} (h : ∀ e ∈ l, e < 10) (hd : d < 10) (h0 : d ≠ 0) : trim (l ++ [d]) = l ++ [d] := (canon_eq (canon_app h hd h0)).symm
end Go.Iron.Dg

/- Digits: sums of places, by their values. -/
namespace Go.Iron.Dg

def sumF (o : Nat → Nat) : Nat → Nat
  | 0 => 0
  | n + 1 => sumF o n + o n * 10 ^ n
def updF (o : Nat → Nat) (j v : Nat) : Nat → Nat := fun i => if i = j then v else o i
theorem sumF_congr {o p : Nat → Nat} : ∀ {n : Nat}, (∀ i, i < n → o i = p i) → sumF o n = sumF p n
  | 0, _ => rfl
  | n + 1, h => by rw [sumF, sumF, sumF_congr (fun i hi => h i (by omega)), h n (by omega)]
theorem sumF_upd {o : Nat → Nat} {j v : Nat} : ∀ {n : Nat}, j < n → sumF (updF o j v) n + o j * 10 ^ j = sumF o n + v * 10 ^ j
  | 0, h => by omega
  | n + 1, h => by
    rw [sumF, sumF]
    by_cases hj : j = n
    · subst hj
      rw [sumF_congr (o := updF o j v) (p := o) (fun i hi => by unfold updF; rw [if_neg (by omega)])]
      unfold updF
      rw [if_pos rfl]
      omega
    · have ih := sumF_upd (o := o) (v := v) (n := n) (by omega : j < n)
      have : updF o j v n = o n := by unfold updF; rw [if_neg (by omega)]
      rw [this]
      omega
def listF (o : Nat → Nat) (n : Nat) : List Nat := (List.range n).map o
theorem listF_len (o : Nat → Nat) (n : Nat) : (listF o n).length = n := by unfold listF; simp
theorem listF_succ (o : Nat → Nat) (n : Nat) : listF o (n + 1) = listF o n ++ [o n] := by unfold listF; rw [List.range_succ, List.map_append]; rfl
theorem listF_getD (o : Nat → Nat) {n i : Nat} (h : i < n) : (listF o n).getD i 0 = o i := by
  unfold listF
  rw [List.getD_eq_getElem?_getD, List.getElem?_map, List.getElem?_range h]
  rfl
theorem val_listF (o : Nat → Nat) : ∀ n, val (listF o n) = sumF o n
  | 0 => rfl
  | n + 1 => by rw [listF_succ, val_app, val_listF o n, listF_len, sumF, Nat.mul_comm (10 ^ n)]; rfl
theorem listF_lt {o : Nat → Nat} {n : Nat} (h : ∀ i, i < n → o i < 10) : ∀ d ∈ listF o n, d < 10 := by
  intro d hd
  unfold listF at hd
  obtain ⟨i, hi, rfl⟩ := List.mem_map.1 hd
  exact h i (List.mem_range.1 hi)
theorem sumF_lt {o : Nat → Nat} {n : Nat} (h : ∀ i, i < n → o i < 10) : sumF o n < 10 ^ n := by
  have := val_lt (listF_lt h)
  rw [val_listF, listF_len] at this
  exact this
theorem getD_lt {l : List Nat} (h : ∀ d ∈ l, d < 10) (i : Nat) : l.getD i 0 < 10 := by
  rw [List.getD_eq_getElem?_getD]
  by_cases hi : i < l.length
  · rw [List.getElem?_eq_getElem hi]
    exact h _ (List.getElem_mem hi)
  · rw [List.getElem?_eq_none (by omega)]
    decide
theorem val_takeD (l : List Nat) (i : Nat) : val (l.take (i + 1)) = val (l.take i) + l.getD i 0 * 10 ^ i := by
  by_cases hi : i < l.length
  · rw [val_take hi, Nat.mul_comm]
  · rw [List.take_of_length_le (by omega), List.take_of_length_le (by omega), List.getD_eq_getElem?_getD, List.getElem?_eq_none (by omega)]
    simp
end Go.Iron.Dg

/- Digits: exact numbers as digits and an exponent; a quotient in a fixed type. -/
namespace Go.Iron.Dg

structure Lg where
  m : Nat
  neg : Bool
  exp : Int
def mFix (kd : Int) (m Q : Nat) (exp : Int) : Nat :=
  if kd = 1 then (if exp < 0 then m * 2 ^ Q / 10 ^ (-exp).toNat else m * 2 ^ Q * 10 ^ exp.toNat)
  else (if exp + Q < 0 then m / 10 ^ (-(exp + Q)).toNat else m * 10 ^ (exp + Q).toNat)
def bsN (kd : Int) : Nat := if kd = 1 then 2 else 10
def e10 (e : Int) : Nat := 10 ^ e.toNat
theorem e10_pos (e : Int) : 0 < e10 e := Nat.pow_pos (by decide)
def Rep (L : Lg) (num den : Nat) : Prop := L.m * den * e10 L.exp = num * e10 (-L.exp)
end Go.Iron.Dg

/- Digits: sums, and the order of numbers. -/
namespace Go.Iron.Dg

def upM (a : Lg) (e : Int) : Nat := a.m * 10 ^ (a.exp - e).toNat
def sumL (a b : Lg) : Lg :=
  if a.neg = b.neg then ⟨upM a (min a.exp b.exp) + upM b (min a.exp b.exp), a.neg, min a.exp b.exp⟩
  else if upM a (min a.exp b.exp) < upM b (min a.exp b.exp) then ⟨upM b (min a.exp b.exp) - upM a (min a.exp b.exp), b.neg, min a.exp b.exp⟩
  else ⟨upM a (min a.exp b.exp) - upM b (min a.exp b.exp), a.neg, min a.exp b.exp⟩
def sgn (neg : Bool) (m : Nat) : Int := if neg = true then -(m : Int) else m
def flipL (a : Lg) : Lg := ⟨a.m, !a.neg, a.exp⟩
theorem sum_sgn (a b : Lg) : sgn (sumL a b).neg (sumL a b).m = sgn a.neg (upM a (min a.exp b.exp)) + sgn b.neg (upM b (min a.exp b.exp)) := by
  unfold sumL
  generalize upM a (min a.exp b.exp) = x
  generalize upM b (min a.exp b.exp) = y
  cases ha : a.neg <;> cases hb : b.neg
  · rw [if_pos rfl]; simp only [sgn, if_neg (show ¬ (false = true) by decide)]; omega
  · rw [if_neg (by decide)]
    split
    · simp only [sgn, if_pos, if_neg (show ¬ (false = true) by decide)]; omega
    · simp only [sgn, if_pos, if_neg (show ¬ (false = true) by decide)]; omega
  · rw [if_neg (by decide)]
    split
    · simp only [sgn, if_pos, if_neg (show ¬ (false = true) by decide)]; omega
    · simp only [sgn, if_pos, if_neg (show ¬ (false = true) by decide)]; omega
  · rw [if_pos rfl]; simp only [sgn, if_pos]; simp; omega
theorem sgn_mul (n : Bool) (m k : Nat) : sgn n (m * k) = sgn n m * (k : Int) := by
  unfold sgn
  cases n
  · rw [if_neg (by decide), if_neg (by decide), Int.natCast_mul]
  · rw [if_pos rfl, if_pos rfl, Int.natCast_mul, Int.neg_mul]
theorem sgn_flip (n : Bool) (m : Nat) : sgn (!n) m = -sgn n m := by
  unfold sgn
  cases n <;> simp
end Go.Iron.Dg

/- Digits: exact numbers by a numerator and a denominator. -/
namespace Go.Iron.Dg

structure Ex where
  neg : Bool
  num : Nat
  den : Nat
def bothE (x y : Ex) : Ex :=
  if x.neg = y.neg then ⟨x.neg && decide (x.num * y.den + y.num * x.den ≠ 0), x.num * y.den + y.num * x.den, x.den * y.den⟩
  else if y.num * x.den ≤ x.num * y.den then ⟨x.neg && decide (x.num * y.den - y.num * x.den ≠ 0), x.num * y.den - y.num * x.den, x.den * y.den⟩
  else ⟨y.neg && decide (y.num * x.den - x.num * y.den ≠ 0), y.num * x.den - x.num * y.den, x.den * y.den⟩
def turnE (x : Ex) : Ex := ⟨!x.neg && decide (x.num ≠ 0), x.num, x.den⟩
def timesE (x y : Ex) : Ex := ⟨(x.neg != y.neg) && decide (x.num * y.num ≠ 0), x.num * y.num, x.den * y.den⟩
def overE (x y : Ex) : Ex := ⟨(x.neg != y.neg) && decide (x.num * y.den ≠ 0), x.num * y.den, x.den * y.num⟩
theorem sgn_and (n : Bool) (m : Nat) : sgn (n && decide (m ≠ 0)) m = sgn n m := by
  unfold sgn
  by_cases h : m = 0
  · subst h
    cases n <;> rfl
  · rw [decide_eq_true h, Bool.and_true]
theorem both_sgn (x y : Ex) : sgn (bothE x y).neg (bothE x y).num = sgn x.neg (x.num * y.den) + sgn y.neg (y.num * x.den) := by
  unfold bothE
  generalize x.num * y.den = p
  generalize y.num * x.den = q
  cases hx : x.neg <;> cases hy : y.neg
  · rw [if_pos rfl]; dsimp only; rw [sgn_and]; simp only [sgn, if_neg (show ¬ (false = true) by decide)]; omega
  · rw [if_neg (by decide)]
    split
    · dsimp only; rw [sgn_and]; simp only [sgn, if_pos, if_neg (show ¬ (false = true) by decide)]; omega
    · dsimp only; rw [sgn_and]; simp only [sgn, if_pos, if_neg (show ¬ (false = true) by decide)]; omega
  · rw [if_neg (by decide)]
    split
    · dsimp only; rw [sgn_and]; simp only [sgn, if_pos, if_neg (show ¬ (false = true) by decide)]; omega
    · dsimp only; rw [sgn_and]; simp only [sgn, if_pos, if_neg (show ¬ (false = true) by decide)]; omega
  · rw [if_pos rfl]; dsimp only; rw [sgn_and]; simp only [sgn, if_pos]; omega
end Go.Iron.Dg

/- Digits: what values are as exact numbers; the law of quotients. -/
namespace Go.Iron.Dg

def exactL (kd n q : Int) : Lg := ⟨n.natAbs * (if kd = 1 then 5 ^ q.toNat else 1), decide (n < 0), if kd = 1 ∨ kd = 2 then -q else q⟩
def ofE (kd n q : Int) : Ex := ⟨decide (n < 0), n.natAbs * (if kd = 3 then 10 ^ q.toNat else 1), if kd = 1 then 2 ^ q.toNat else if kd = 2 then 10 ^ q.toNat else 10 ^ (-q).toNat⟩
theorem ofE_den (kd n q : Int) : 0 < (ofE kd n q).den := by
  show 0 < if kd = 1 then 2 ^ q.toNat else if kd = 2 then 10 ^ q.toNat else 10 ^ (-q).toNat
  split
  · exact Nat.pow_pos (by decide)
  · split <;> exact Nat.pow_pos (by decide)
theorem exact_rep {kd n q : Int} (hk : kd = 1 ∨ kd = 2 ∨ kd = 3) (hq : kd ≠ 3 → 0 ≤ q) : Rep (exactL kd n q) (ofE kd n q).num (ofE kd n q).den := by
  unfold Rep
  rcases hk with rfl | rfl | rfl
  · have h0 := hq (by decide)
    show n.natAbs * 5 ^ q.toNat * 2 ^ q.toNat * e10 (-q) = n.natAbs * 1 * e10 (- -q)
    unfold e10
    rw [show (-q).toNat = 0 by omega, show (- -q).toNat = q.toNat by omega, Nat.mul_assoc n.natAbs, ← Nat.mul_pow]
    simp
  · have h0 := hq (by decide)
    show n.natAbs * 1 * 10 ^ q.toNat * e10 (-q) = n.natAbs * 1 * e10 (- -q)
    unfold e10
    rw [show (-q).toNat = 0 by omega, show (- -q).toNat = q.toNat by omega]
    simp
  · show n.natAbs * 1 * 10 ^ (-q).toNat * e10 q = n.natAbs * 10 ^ q.toNat * e10 (-q)
    unfold e10
    rw [Nat.mul_one]
    ac_rfl
end Go.Iron.Dg

/- Digits: digits moved up and cut, and quotients digit by digit. -/
namespace Go.Iron.Dg

theorem frm_ten {x : Nat} (hx : x ≠ 0) : frm (10 * x) = 0 :: frm x := by
  rw [frm_pos (by omega), show 10 * x % 10 = 0 by omega, show 10 * x / 10 = x by omega]
theorem frm_up {x : Nat} (hx : x ≠ 0) : ∀ n, frm (x * 10 ^ n) = List.replicate n 0 ++ frm x
  | 0 => by rw [Nat.pow_zero, Nat.mul_one]; rfl
  | n + 1 => by
    have h : x * 10 ^ n ≠ 0 := Nat.mul_ne_zero hx (Nat.ne_of_gt (Nat.pow_pos (by decide)))
    rw [Nat.pow_succ, show x * (10 ^ n * 10) = 10 * (x * 10 ^ n) by ac_rfl, frm_ten h, frm_up hx n, List.replicate_succ, List.cons_append]
theorem frm_cut : ∀ (n x : Nat), (frm x).drop n = frm (x / 10 ^ n)
  | 0, x => by rw [List.drop_zero, Nat.pow_zero, Nat.div_one]
  | n + 1, x => by
    by_cases hx : x = 0
    · subst hx
      rw [Nat.zero_div, frm_zero, List.drop_nil]
    · rw [frm_pos hx, List.drop_succ_cons, frm_cut n, Nat.div_div_eq_div_mul, Nat.pow_succ, Nat.mul_comm 10]
theorem frm_low : ∀ (p x : Nat), val ((frm x).take p) = x % 10 ^ p
  | 0, x => by rw [List.take_zero, Nat.pow_zero, Nat.mod_one]; rfl
  | p + 1, x => by
    by_cases hx : x = 0
    · subst hx
      rw [Nat.zero_mod, frm_zero, List.take_nil]
      rfl
    · rw [frm_pos hx, List.take_succ_cons]
      show x % 10 + 10 * val ((frm (x / 10)).take p) = _
      rw [frm_low p, Nat.pow_succ, Nat.mul_comm (10 ^ p), Nat.mod_mul]
theorem frm_getD_lt (x i : Nat) : (frm x).getD i 0 < 10 := getD_lt (fun d hd => frm_digit hd) i
theorem frm_len_mono {x y : Nat} (h : x ≤ y) : (frm x).length ≤ (frm y).length := frm_len_lt.2 (Nat.lt_of_le_of_lt h (frm_len_lt.1 (Nat.le_refl _)))
theorem frm_lt_pow (x : Nat) : x < 10 ^ (frm x).length := frm_len_lt.1 (Nat.le_refl _)
theorem frm_len_mul (x y : Nat) : (frm (x * y)).length ≤ (frm x).length + (frm y).length := by
  refine frm_len_lt.2 ?_
  rw [Nat.pow_add]
  by_cases hy : y = 0
  · subst hy
    rw [Nat.mul_zero]
    exact Nat.mul_pos (Nat.pow_pos (by decide)) (Nat.pow_pos (by decide))
  · exact Nat.mul_lt_mul_of_lt_of_le (frm_lt_pow x) (Nat.le_of_lt (frm_lt_pow y)) (Nat.pow_pos (by decide))
theorem frm_len_up (x n : Nat) : (frm (x * 10 ^ n)).length ≤ (frm x).length + n := by
  by_cases hx : x = 0
  · subst hx
    rw [Nat.zero_mul, frm_zero]
    exact Nat.zero_le _
  · rw [frm_up hx, List.length_append, List.length_replicate]
    omega
theorem frm_nil {x : Nat} : frm x = [] ↔ x = 0 := by
  constructor
  · intro h
    have := val_frm x
    rw [h] at this
    exact this.symm
  · intro h
    rw [h, frm_zero]
theorem frm_len0 {x : Nat} : (frm x).length = 0 ↔ x = 0 := by rw [List.length_eq_zero_iff, frm_nil]
def cmpD (a b : List Nat) : Nat → Int
  | 0 => 0
  | i + 1 => if a.getD i 0 = b.getD i 0 then cmpD a b i else (a.getD i 0 : Int) - b.getD i 0
def cmpR (a b : List Nat) : Int := if a.length ≠ b.length then (a.length : Int) - b.length else cmpD a b a.length
theorem cmpD_sig (a b : List Nat) : ∀ i, (cmpD a b i < 0 ↔ cmpN a b i < 0) ∧ (cmpD a b i = 0 ↔ cmpN a b i = 0)
  | 0 => ⟨Iff.rfl, Iff.rfl⟩
  | i + 1 => by
    unfold cmpD cmpN
    by_cases h : a.getD i 0 = b.getD i 0
    · rw [if_pos h, if_neg (by omega), if_neg (by omega)]
      exact cmpD_sig a b i
    · rw [if_neg h]
      by_cases h2 : a.getD i 0 < b.getD i 0
      · rw [if_pos h2]
        omega
      · rw [if_neg h2, if_pos (by omega)]
        omega
theorem cmpR_sig (a b : List Nat) : (cmpR a b < 0 ↔ cmpT a b < 0) ∧ (cmpR a b = 0 ↔ cmpT a b = 0) := by
  unfold cmpR cmpT
  by_cases h : a.length ≠ b.length
  · rw [if_pos h, if_pos h]
    split <;> omega
  · rw [if_neg h, if_neg h]
    exact cmpD_sig a b a.length
theorem cmpR_frm (x y : Nat) : (cmpR (frm x) (frm y) < 0 ↔ x < y) ∧ (cmpR (frm x) (frm y) = 0 ↔ x = y) := by
  obtain ⟨h1, h2⟩ := cmpR_sig (frm x) (frm y)
  rw [h1, h2, cmpT_frm]
  by_cases h : x < y
  · rw [if_pos h]
    omega
  · rw [if_neg h]
    by_cases h3 : x > y
    · rw [if_pos h3]
      omega
    · rw [if_neg h3]
      omega
end Go.Iron.Dg

/- Digits: valid values and types, in plain Lean. -/
namespace Go.Iron.Dg

def isBit (b : UInt8) : Bool := b.toNat == 48 || b.toNat == 49
def rightB (kd n q : Int) (s : List UInt8) : Bool :=
  if kd = 1 then decide (s = []) && decide ((0 ≤ q ∧ q ≤ 31) ∧ -2147483648 < n ∧ n < 2147483648)
  else if kd = 2 then decide (s = []) && decide ((0 ≤ q ∧ q ≤ 31) ∧ -1000000000000000 < n ∧ n < 1000000000000000)
  else if kd = 3 then decide (s = []) && (if n = 0 then decide (q = 0) else decide ((-1000000000000000 < n ∧ n < 1000000000000000) ∧ n.natAbs % 10 ≠ 0 ∧ -1000 ≤ q ∧ q ≤ 1000) && decide (-75 ≤ ((frm n.natAbs).length : Int) + q - 1 ∧ ((frm n.natAbs).length : Int) + q - 1 ≤ 75))
  else if kd = 4 ∨ kd = 6 then decide (n = 0 ∧ q = 0 ∧ s.length ≤ 250)
  else if kd = 5 then decide (n = 0 ∧ q = 0 ∧ s.length ≤ 250) && s.all isBit
  else if kd = 7 then decide (s = []) && decide (q = 0 ∧ 0 ≤ n ∧ n ≤ 1000000000)
  else if kd = 8 ∨ kd = 9 then decide (s = []) && decide ((0 ≤ n ∧ n ≤ 1000000000) ∧ 0 ≤ q ∧ q ≤ 1000000000)
  else false
def numK (kd : Int) : Bool := decide (1 ≤ kd) && decide (kd ≤ 3)
theorem right_num {kd n q : Int} {s : List UInt8} (h : rightB kd n q s = true) (hk : numK kd = true) : s = [] ∧ (kd = 1 ∨ kd = 2 ∨ kd = 3) ∧ (kd ≠ 3 → 0 ≤ q ∧ q ≤ 31) ∧ (kd = 3 → -90 ≤ q ∧ q ≤ 75) ∧ -1000000000000000 < n ∧ n < 1000000000000000 := by
  have hk3 : kd = 1 ∨ kd = 2 ∨ kd = 3 := by
    unfold numK at hk
    simp at hk
    omega
  unfold rightB at h
  rcases hk3 with rfl | rfl | rfl
  · rw [if_pos rfl] at h
    simp at h
    refine ⟨h.1, .inl rfl, fun _ => by omega, fun e => absurd e (by decide), by omega, by omega⟩
  · rw [if_neg (by decide), if_pos rfl] at h
    simp at h
    refine ⟨h.1, .inr (.inl rfl), fun _ => by omega, fun e => absurd e (by decide), by omega, by omega⟩
  · rw [if_neg (by decide), if_neg (by decide), if_pos rfl] at h
    by_cases hn : n = 0
    · rw [if_pos hn] at h
      simp at h
      refine ⟨h.1, .inr (.inr rfl), fun e => absurd rfl e, fun _ => by omega, by omega, by omega⟩
    · rw [if_neg hn] at h
      simp at h
      obtain ⟨h1, ⟨h2, h3, h4⟩, h5, h6⟩ := h
      have hl : (frm n.natAbs).length ≤ 15 := frm_len_lt.2 (by omega)
      have hl0 : (frm n.natAbs).length ≠ 0 := fun e => by have := frm_len0.1 e; omega
      refine ⟨h1, .inr (.inr rfl), fun e => absurd rfl e, fun _ => by omega, by omega, by omega⟩
structure Typ where
  kind : Int
  p : Int
  q : Int
  n : Int
  vary : Bool
  pic : List UInt8
def inR (n a b : Int) : Bool := decide (a ≤ n) && decide (n ≤ b)
def validT (t : Typ) : Bool :=
  if t.kind = 1 then inR t.p 1 31 && inR t.q 0 31 && t.n == 0 && !t.vary && t.pic.isEmpty
  else if t.kind = 2 then inR t.p 1 15 && inR t.q 0 31 && t.n == 0 && !t.vary && t.pic.isEmpty
  else if t.kind = 3 then inR t.p 1 15 && t.q == 0 && t.n == 0 && !t.vary && t.pic.isEmpty
  else if t.kind = 4 ∨ t.kind = 5 then t.p == 0 && t.q == 0 && inR t.n 0 250 && t.pic.isEmpty
  else if t.kind = 6 then t.p == 0 && t.q == 0 && t.n == 0 && !t.vary && decide (1 ≤ t.pic.length) && decide (t.pic.length ≤ 80)
  else if t.kind = 7 ∨ t.kind = 8 ∨ t.kind = 9 then t.p == 0 && t.q == 0 && t.n == 0 && !t.vary && t.pic.isEmpty
  else false
theorem valid_kind {t : Typ} (h : validT t = true) : 1 ≤ t.kind ∧ t.kind ≤ 9 := by
  unfold validT at h
  split at h; omega
  split at h; omega
  split at h; omega
  split at h; omega
  split at h; omega
  split at h; omega
  cases h

structure Vl where
  kind : Int
  n : Int
  q : Int
  s : List UInt8
def Vl.right (v : Vl) : Bool := rightB v.kind v.n v.q v.s
def askL (t : Option Typ) (l : List Vl) : Int :=
  if l.all Vl.right = false then 1
  else if (t.any fun t => !validT t) = true then 13
  else if (l.all fun v => numK v.kind) = false then 10
  else if (t.any fun t => !numK t.kind) = true then 10
  else 0
end Go.Iron.Dg

/- Digits: numbers in types, fixed ones and floats, whatever they are told by. -/
namespace Go.Iron.Dg

theorem div_rep {m num den c d a b : Nat} (h : m * den * d = num * c) (hden : 0 < den) (hc : 0 < c) (hb : 0 < b) : num * a / (den * b) = m * (d * a) / (c * b) := by
  have h1 : num * a / (den * b) = (num * a * c) / (den * b * c) := (Nat.mul_div_mul_right _ _ hc).symm
  rw [h1, show num * a * c = den * (m * (d * a)) by rw [show num * a * c = num * c * a by ac_rfl, ← h]; ac_rfl, show den * b * c = den * (c * b) by ac_rfl, Nat.mul_div_mul_left _ _ hden]
theorem div_pow (m x y : Nat) : m * 10 ^ x / 10 ^ y = if y ≤ x then m * 10 ^ (x - y) else m / 10 ^ (y - x) := by
  by_cases h : y ≤ x
  · rw [if_pos h, show 10 ^ x = 10 ^ (x - y) * 10 ^ y by rw [← Nat.pow_add]; congr 1; omega, ← Nat.mul_assoc, Nat.mul_div_cancel _ (Nat.pow_pos (by decide))]
  · rw [if_neg h, show 10 ^ y = 10 ^ (y - x) * 10 ^ x by rw [← Nat.pow_add]; congr 1; omega, Nat.mul_div_mul_right _ _ (Nat.pow_pos (by decide))]
theorem fix_rep {L : Lg} {num den : Nat} {kd : Int} {Q : Nat} (h : Rep L num den) (hd : 0 < den) (hk : kd = 1 ∨ kd = 2) : mFix kd L.m Q L.exp = num * bsN kd ^ Q / den := by
  have h1 := div_rep (a := bsN kd ^ Q) (b := 1) h hd (e10_pos _) (by decide)
  rw [Nat.mul_one, Nat.mul_one] at h1
  rw [h1]
  unfold mFix e10
  rcases hk with rfl | rfl
  · rw [if_pos rfl, show bsN 1 = 2 from rfl]
    by_cases he : L.exp < 0
    · rw [if_pos he, show L.exp.toNat = 0 by omega, Nat.pow_zero, Nat.one_mul]
    · rw [if_neg he, show (-L.exp).toNat = 0 by omega, Nat.pow_zero, Nat.div_one]
      ac_rfl
  · rw [if_neg (by decide), show bsN 2 = 10 from rfl, ← Nat.pow_add, div_pow]
    by_cases he : L.exp + Q < 0
    · rw [if_pos he, if_neg (by omega)]
      congr 2
      omega
    · rw [if_neg he, if_pos (by omega)]
      congr 2
      omega
def normD (n : Nat) (q : Int) : Nat × Int := if h : n ≠ 0 ∧ n % 10 = 0 then normD (n / 10) (q + 1) else (n, q)
termination_by n
decreasing_by omega
theorem normD_pow {n : Nat} (hn : n ≠ 0) (q : Int) : ∀ j : Nat, normD (n * 10 ^ j) q = normD n (q + j)
  | 0 => by simp
  | j + 1 => by
    have h0 : n * 10 ^ j ≠ 0 := Nat.mul_ne_zero hn (Nat.ne_of_gt (Nat.pow_pos (by decide)))
    have h1 : n * 10 ^ (j + 1) = 10 * (n * 10 ^ j) := by rw [Nat.pow_succ]; ac_rfl
    rw [h1, normD, dif_pos ⟨by omega, by omega⟩, show 10 * (n * 10 ^ j) / 10 = n * 10 ^ j by omega]
    have ih := normD_pow hn (q + 1) j
    rw [ih]
    congr 1
    omega
def IsK (num den P : Nat) (k : Int) : Prop := 10 ^ (P - 1) * (den * e10 (-k)) ≤ num * e10 k ∧ num * e10 k < 10 ^ P * (den * e10 (-k))
def rndD (D : Nat) : Nat := D / 10 + (if D % 10 ≥ 5 then 1 else 0)
def fltR (num den : Nat) (k : Int) : Nat × Int := normD (rndD (num * (10 * e10 k) / (den * e10 (-k)))) (-k)
def fltL (m : Nat) (e : Int) (p : Nat) : Nat × Int :=
  if (frm m).length > p then normD (rndD (m / 10 ^ ((frm m).length - p - 1))) (e + ((frm m).length - p : Nat)) else normD m e
theorem e10_mul {a b : Int} : e10 a * e10 b = 10 ^ (a.toNat + b.toNat) := by unfold e10; rw [Nat.pow_add]
theorem frm_ge {m : Nat} (hm : m ≠ 0) : 10 ^ ((frm m).length - 1) ≤ m := by
  have h := val_ge (canon_frm m) (fun e => hm (frm_nil.1 e))
  rw [val_frm] at h
  exact h
theorem isK_len {num den m P : Nat} {e k : Int} (hm : m ≠ 0) (hP : 1 ≤ P) (hr : Rep ⟨m, false, e⟩ num den) (hk : IsK num den P k) (hd : 0 < den) : e + k = (P : Int) - (frm m).length := by
  obtain ⟨h1, h2⟩ := hk
  have hr : m * den * e10 e = num * e10 (-e) := hr
  have hl := frm_lt_pow m
  have hg := frm_ge hm
  have hlen : (frm m).length ≠ 0 := fun e => hm (frm_len0.1 e)
  have b1 : 10 ^ (P - 1) * (e10 (-k) * e10 (-e)) ≤ m * (e10 e * e10 k) := by
    have := Nat.mul_le_mul_right (e10 (-e)) h1
    rw [show num * e10 k * e10 (-e) = num * e10 (-e) * e10 k by ac_rfl, ← hr, show 10 ^ (P - 1) * (den * e10 (-k)) * e10 (-e) = 10 ^ (P - 1) * (e10 (-k) * e10 (-e)) * den by ac_rfl, show m * den * e10 e * e10 k = m * (e10 e * e10 k) * den by ac_rfl] at this
    exact Nat.le_of_mul_le_mul_right this hd
  have b2 : m * (e10 e * e10 k) < 10 ^ P * (e10 (-k) * e10 (-e)) := by
    have := Nat.mul_lt_mul_of_pos_right h2 (e10_pos (-e))
    rw [show num * e10 k * e10 (-e) = num * e10 (-e) * e10 k by ac_rfl, ← hr, show 10 ^ P * (den * e10 (-k)) * e10 (-e) = 10 ^ P * (e10 (-k) * e10 (-e)) * den by ac_rfl, show m * den * e10 e * e10 k = m * (e10 e * e10 k) * den by ac_rfl] at this
    exact Nat.lt_of_mul_lt_mul_right this
  rw [e10_mul, e10_mul] at b1 b2
  rw [← Nat.pow_add] at b1 b2
  have c1 : 10 ^ (P - 1 + ((-k).toNat + (-e).toNat)) < 10 ^ ((frm m).length + (e.toNat + k.toNat)) := by
    rw [Nat.pow_add 10 (frm m).length]
    exact Nat.lt_of_le_of_lt b1 (Nat.mul_lt_mul_of_pos_right hl (Nat.pow_pos (by decide)))
  have c2 : 10 ^ ((frm m).length - 1 + (e.toNat + k.toNat)) < 10 ^ (P + ((-k).toNat + (-e).toNat)) := by
    rw [Nat.pow_add 10 ((frm m).length - 1)]
    exact Nat.lt_of_le_of_lt (Nat.mul_le_mul_right _ hg) b2
  have d1 := (Nat.pow_lt_pow_iff_right (by decide)).1 c1
  have d2 := (Nat.pow_lt_pow_iff_right (by decide)).1 c2
  omega
theorem flt_rep {num den m P : Nat} {e k : Int} (hm : m ≠ 0) (hP : 1 ≤ P) (hr : Rep ⟨m, false, e⟩ num den) (hk : IsK num den P k) (hd : 0 < den) : fltL m e P = fltR num den k := by
  have hl := isK_len hm hP hr hk hd
  have hD := div_rep (a := 10 * e10 k) (b := e10 (-k)) hr hd (e10_pos _) (e10_pos _)
  have hD2 : num * (10 * e10 k) / (den * e10 (-k)) = m * 10 ^ (e.toNat + k.toNat + 1) / 10 ^ ((-e).toNat + (-k).toNat) := by
    rw [hD, e10_mul]
    congr 2
    show e10 e * (10 * e10 k) = _
    rw [Nat.pow_succ, ← e10_mul]
    ac_rfl
  unfold fltR fltL
  rw [hD2, div_pow]
  by_cases h : (frm m).length > P
  · rw [if_pos h]
    have e1 : (if (-e).toNat + (-k).toNat ≤ e.toNat + k.toNat + 1 then m * 10 ^ (e.toNat + k.toNat + 1 - ((-e).toNat + (-k).toNat)) else m / 10 ^ ((-e).toNat + (-k).toNat - (e.toNat + k.toNat + 1))) = m / 10 ^ ((frm m).length - P - 1) := by
      split
      · rw [show e.toNat + k.toNat + 1 - ((-e).toNat + (-k).toNat) = 0 by omega, show (frm m).length - P - 1 = 0 by omega]
        simp
      · congr 2
        omega
    rw [e1]
    congr 1
    omega
  · rw [if_neg h, if_pos (by omega)]
    have e1 : rndD (m * 10 ^ (e.toNat + k.toNat + 1 - ((-e).toNat + (-k).toNat))) = m * 10 ^ (P - (frm m).length) := by
      rw [show e.toNat + k.toNat + 1 - ((-e).toNat + (-k).toNat) = P - (frm m).length + 1 by omega, Nat.pow_succ, ← Nat.mul_assoc]
      unfold rndD
      generalize m * 10 ^ (P - (frm m).length) = z
      rw [if_neg (by omega)]
      omega
    rw [e1, normD_pow hm]
    congr 1
    omega
end Go.Iron.Dg

/- Digits: quotients as floats. -/
namespace Go.Iron.Dg

end Go.Iron.Dg

/- Digits: what fits a type, by a number's numerator and denominator. -/
namespace Go.Iron.Dg

def fltO (neg : Bool) (r : Nat × Int) : Int × Int × Int :=
  if r.1 = 0 then (0, 0, 0)
  else if ((frm r.1).length : Int) + r.2 - 1 > 75 then (0, 0, 3)
  else if ((frm r.1).length : Int) + r.2 - 1 < -75 then (0, 0, 8)
  else (sgn neg r.1, r.2, 0)
def fitS (kd : Int) (P Q : Nat) (neg : Bool) (num den : Nat) (k : Int) (big : Int) : Int × Int × Int :=
  if kd = 3 then (if num = 0 then (0, 0, 0) else fltO neg (fltR num den k))
  else (sgn neg (num * bsN kd ^ Q / den % bsN kd ^ P), Q, if num * bsN kd ^ Q / den ≥ bsN kd ^ P then big else 0)
def fitL (kd : Int) (P Q : Nat) (L : Lg) (big : Int) : Int × Int × Int :=
  if kd = 3 then (if L.m = 0 then (0, 0, 0) else fltO L.neg (fltL L.m L.exp P))
  else (sgn L.neg (mFix kd L.m Q L.exp % bsN kd ^ P), Q, if mFix kd L.m Q L.exp ≥ bsN kd ^ P then big else 0)
theorem sgn_zero (n : Bool) : sgn n 0 = 0 := by cases n <;> rfl
theorem fit_rep {kd : Int} {P Q : Nat} {L : Lg} {neg : Bool} {num den : Nat} {k big : Int} (hkd : kd = 1 ∨ kd = 2 ∨ kd = 3) (hP : 1 ≤ P) (hr : Rep L num den) (hd : 0 < den) (hn : num ≠ 0 → L.neg = neg) (hk : num ≠ 0 → kd = 3 → IsK num den P k) : fitL kd P Q L big = fitS kd P Q neg num den k big := by
  have h0 : L.m = 0 ↔ num = 0 := by
    have hr : L.m * den * e10 L.exp = num * e10 (-L.exp) := hr
    constructor
    · intro h
      rw [h, Nat.zero_mul, Nat.zero_mul] at hr
      rcases Nat.mul_eq_zero.1 hr.symm with h | h
      · exact h
      · exact absurd h (Nat.ne_of_gt (e10_pos _))
    · intro h
      rw [h, Nat.zero_mul] at hr
      rcases Nat.mul_eq_zero.1 hr with h | h
      · rcases Nat.mul_eq_zero.1 h with h | h
        · exact h
        · omega
      · exact absurd h (Nat.ne_of_gt (e10_pos _))
  unfold fitL fitS
  by_cases h3 : kd = 3
  · rw [if_pos h3, if_pos h3]
    by_cases hz : num = 0
    · rw [if_pos hz, if_pos (h0.2 hz)]
    · rw [if_neg hz, if_neg (fun e => hz (h0.1 e)), flt_rep (fun e => hz (h0.1 e)) hP (show Rep ⟨L.m, false, L.exp⟩ num den from hr) (hk hz h3) hd, hn hz]
  · rw [if_neg h3, if_neg h3, fix_rep hr hd (by omega)]
    by_cases hz : num = 0
    · subst hz
      rw [Nat.zero_mul, Nat.zero_div, Nat.zero_mod, sgn_zero, sgn_zero]
    · rw [hn hz]
end Go.Iron.Dg

/- Digits: the order goes on; sums of numbers of one scale; in plain Lean. -/
namespace Go.Iron.Dg

theorem sumL_exp (a b : Lg) : (sumL a b).exp = min a.exp b.exp := by
  unfold sumL
  split
  · rfl
  · split <;> rfl
theorem sgn_natAbs (b : Bool) (m : Nat) : (sgn b m).natAbs = m := by
  cases b
  · rfl
  · show (-(m : Int)).natAbs = m
    omega
end Go.Iron.Dg

/- Digits: sums, products, rests and quotients of exact numbers are the reference's, in plain Lean. -/
namespace Go.Iron.Dg

theorem sgn_inj {n1 n2 : Bool} {m k : Nat} (h : sgn n1 m = sgn n2 k) : m = k ∧ (k ≠ 0 → n1 = n2) := by
  have hmk : m = k := by
    have := congrArg Int.natAbs h
    rwa [sgn_natAbs, sgn_natAbs] at this
  refine ⟨hmk, fun hk => ?_⟩
  subst hmk
  unfold sgn at h
  cases n1 <;> cases n2 <;> simp at h <;> first | rfl | omega
theorem rep_sgn {L : Lg} {x : Ex} (h : sgn L.neg L.m * ((x.den * e10 L.exp : Nat) : Int) = sgn x.neg x.num * ((e10 (-L.exp) : Nat) : Int)) : Rep L x.num x.den ∧ (x.num ≠ 0 → L.neg = x.neg) := by
  rw [← sgn_mul, ← sgn_mul] at h
  obtain ⟨h1, h2⟩ := sgn_inj h
  refine ⟨by unfold Rep; rw [Nat.mul_assoc]; exact h1, fun hn => h2 (Nat.mul_ne_zero hn (Nat.ne_of_gt (e10_pos _)))⟩
theorem sgn_rep {L : Lg} {x : Ex} (h : Rep L x.num x.den) (hn : L.neg = x.neg) : sgn L.neg L.m * ((x.den * e10 L.exp : Nat) : Int) = sgn x.neg x.num * ((e10 (-L.exp) : Nat) : Int) := by
  rw [← sgn_mul, ← sgn_mul, hn, ← Nat.mul_assoc]
  rw [show L.m * x.den * e10 L.exp = x.num * e10 (-L.exp) from h]
theorem rep_up {a : Lg} {num den : Nat} {e : Int} (h : Rep a num den) (he : e ≤ a.exp) : Rep ⟨upM a e, a.neg, e⟩ num den := by
  unfold Rep at h ⊢
  show upM a e * den * e10 e = num * e10 (-e)
  refine Nat.eq_of_mul_eq_mul_right (e10_pos (-a.exp)) ?_
  have h1 : upM a e * den * e10 e * e10 (-a.exp) = a.m * den * e10 a.exp * e10 (-e) := by
    unfold upM e10
    rw [show a.m * 10 ^ (a.exp - e).toNat * den * 10 ^ e.toNat * 10 ^ (-a.exp).toNat = a.m * den * (10 ^ (a.exp - e).toNat * 10 ^ e.toNat * 10 ^ (-a.exp).toNat) by ac_rfl, Nat.mul_assoc (a.m * den), ← Nat.pow_add, ← Nat.pow_add, ← Nat.pow_add]
    congr 2
    omega
  rw [h1, h]
  ac_rfl
theorem sum_rep {a b : Lg} {x y : Ex} (ha : Rep a x.num x.den) (hb : Rep b y.num y.den) (hna : a.neg = x.neg) (hnb : b.neg = y.neg) : Rep (sumL a b) (bothE x y).num (bothE x y).den ∧ ((bothE x y).num ≠ 0 → (sumL a b).neg = (bothE x y).neg) := by
  have hd : (bothE x y).den = x.den * y.den := by
    unfold bothE
    split
    · rfl
    · split <;> rfl
  refine rep_sgn ?_
  have h1 := sgn_rep (L := ⟨upM a (min a.exp b.exp), a.neg, min a.exp b.exp⟩) (rep_up ha (Int.min_le_left _ _)) hna
  have h2 := sgn_rep (L := ⟨upM b (min a.exp b.exp), b.neg, min a.exp b.exp⟩) (rep_up hb (Int.min_le_right _ _)) hnb
  dsimp only at h1 h2
  rw [sum_sgn, both_sgn, sumL_exp, hd, sgn_mul x.neg, sgn_mul y.neg]
  generalize sgn a.neg _ = A at *
  generalize sgn b.neg _ = B at *
  generalize sgn x.neg _ = X at *
  generalize sgn y.neg _ = Y at *
  generalize e10 (min a.exp b.exp) = E at *
  generalize e10 (-min a.exp b.exp) = F at *
  rw [Int.add_mul, Int.add_mul]
  have e1 : A * ((x.den * y.den * E : Nat) : Int) = A * ((x.den * E : Nat) : Int) * (y.den : Int) := by
    rw [Int.mul_assoc, ← Int.natCast_mul]; congr 2; ac_rfl
  have e2 : B * ((x.den * y.den * E : Nat) : Int) = B * ((y.den * E : Nat) : Int) * (x.den : Int) := by
    rw [Int.mul_assoc, ← Int.natCast_mul]; congr 2; ac_rfl
  rw [e1, e2, h1, h2]
  congr 1 <;> ac_rfl
def prodL (a b : Lg) : Lg := ⟨a.m * b.m, a.neg != b.neg, a.exp + b.exp⟩
theorem sgn_times (n1 n2 : Bool) (m k : Nat) : sgn (n1 != n2) (m * k) = sgn n1 m * sgn n2 k := by
  unfold sgn
  cases n1 <;> cases n2 <;> simp [Int.mul_neg, Int.neg_mul]
theorem prod_rep {a b : Lg} {x y : Ex} (ha : Rep a x.num x.den) (hb : Rep b y.num y.den) (hna : a.neg = x.neg) (hnb : b.neg = y.neg) : Rep (prodL a b) (timesE x y).num (timesE x y).den ∧ ((timesE x y).num ≠ 0 → (prodL a b).neg = (timesE x y).neg) := by
  constructor
  · unfold Rep at ha hb ⊢
    show a.m * b.m * (x.den * y.den) * e10 (a.exp + b.exp) = x.num * y.num * e10 (-(a.exp + b.exp))
    refine Nat.eq_of_mul_eq_mul_right (Nat.mul_pos (e10_pos (-a.exp)) (e10_pos (-b.exp))) ?_
    have h1 : e10 (a.exp + b.exp) * (e10 (-a.exp) * e10 (-b.exp)) = e10 (-(a.exp + b.exp)) * (e10 a.exp * e10 b.exp) := by
      unfold e10
      rw [← Nat.pow_add, ← Nat.pow_add, ← Nat.pow_add, ← Nat.pow_add]
      congr 1
      omega
    rw [Nat.mul_assoc (a.m * b.m * (x.den * y.den)), h1, show a.m * b.m * (x.den * y.den) * (e10 (-(a.exp + b.exp)) * (e10 a.exp * e10 b.exp)) = (a.m * x.den * e10 a.exp) * (b.m * y.den * e10 b.exp) * e10 (-(a.exp + b.exp)) by ac_rfl, ha, hb]
    ac_rfl
  · intro hn
    show (a.neg != b.neg) = ((x.neg != y.neg) && decide (x.num * y.num ≠ 0))
    rw [decide_eq_true (show x.num * y.num ≠ 0 from hn), hna, hnb, Bool.and_true]
theorem both_den (x y : Ex) : (bothE x y).den = x.den * y.den := by
  unfold bothE
  split
  · rfl
  · split <;> rfl
theorem turn_sgn (x : Ex) : sgn (turnE x).neg (turnE x).num = -sgn x.neg x.num := by
  show sgn (!x.neg && decide (x.num ≠ 0)) x.num = _
  rw [sgn_and, sgn_flip]
end Go.Iron.Dg

/- Digits: a quotient times the divisor, in the reference's own numbers. -/
namespace Go.Iron.Dg

theorem bsN_pos (kd : Int) (Q : Nat) : 0 < bsN kd ^ Q := Nat.pow_pos (by unfold bsN; split <;> decide)
end Go.Iron.Dg

/- Digits: rounding, and the text of a fixed number, in plain Lean. -/
namespace Go.Iron.Dg

theorem rnd_half {num den : Nat} (hd : 0 < den) : rndD (num * 10 / den) = num / den + (if num % den + num % den ≥ den then 1 else 0) := by
  have h1 := Nat.div_add_mod num den
  have h2 := Nat.mod_lt num hd
  generalize hq : num / den = q at *
  generalize hr : num % den = r at *
  have h3 : num * 10 / den = 10 * q + r * 10 / den := by
    rw [← h1, Nat.add_mul, Nat.mul_assoc, Nat.mul_add_div hd, Nat.mul_comm q 10]
  have h4 : r * 10 / den < 10 := (Nat.div_lt_iff_lt_mul hd).2 (by omega)
  have h5 : r * 10 / den ≥ 5 ↔ r + r ≥ den := by
    rw [ge_iff_le, Nat.le_div_iff_mul_le hd]
    omega
  unfold rndD
  rw [h3]
  generalize r * 10 / den = z at *
  by_cases h : r + r ≥ den
  · rw [if_pos h, if_pos (by omega)]; omega
  · rw [if_neg h, if_neg (by omega)]; omega
theorem normD_zero (q : Int) : normD 0 q = (0, q) := by
  rw [normD, dif_neg (by simp)]
theorem normD_step {n : Nat} {q : Int} (h : n ≠ 0) (h0 : n % 10 = 0) : normD n q = normD (n / 10) (q + 1) := by
  conv => lhs; rw [normD]
  rw [dif_pos ⟨h, h0⟩]
theorem normD_end {n : Nat} {q : Int} (h0 : n % 10 ≠ 0) : normD n q = (n, q) := by
  rw [normD, dif_neg (fun h => h0 h.2)]

end Go.Iron.Dg

/- The digits' seat: values as they stand in memory. -/
namespace Go.Iron.Tryz
open Go.Proofs Go.RowKit Go.Iron.Tok Go.Iron.Dg

abbrev iv (n : Int) : AV := .val (.int .i64 n)
abbrev bv (b : Bool) : AV := .val (.bool b)
abbrev uv (c : Nat) : AV := .val (.int .u8 (c : Int))
abbrev sv (s : Str) : AV := .val (.string (bs s))
theorem w64 {x : Int} (h1 : -9223372036854775808 ≤ x) (h2 : x ≤ 9223372036854775807) : IntKind.wrap .i64 x = x := IntWalk.i64_in x (by omega)
theorem w8 {x : Int} (h1 : 0 ≤ x) (h2 : x ≤ 255) : IntKind.wrap .u8 x = x := IntWalk.u8_in x (by omega)
theorem blS (s : Str) : (bl (bs s)).length = s.length := rfl
theorem bs_beq (a b : Str) : ((bs a).toList == (bs b).toList) = decide (a = b) := by
  rw [bs_toList, bs_toList, Bool.eq_iff_iff]
  simp
def natR (l : List Nat) : Nat → List AV := encR (fun n => [iv (n : Nat)]) 0 l
def natS (nl : Option Bool) (l : List Nat) : AV := .slc 1 nl l.length (natR l)
def limR (l : List Nat) : Nat → List AV := encR (fun n => [uv n]) 0 l
def limS (nl : Option Bool) (l : List Nat) : AV := .slc 1 nl l.length (limR l)
theorem natR_snoc {acc : List Nat} {v : Nat} {r2 : Nat → List AV} (h : r2 0 = [iv (v : Nat)]) : ∀ j, j < acc.length + 1 → natR (acc ++ [v]) j = appR acc.length (natR acc) r2 j := fun j hj => encR_snoc (enc := fun n : Nat => [iv (n : Nat)]) h j hj
theorem limR_snoc {acc : List Nat} {v : Nat} {r2 : Nat → List AV} (h : r2 0 = [uv v]) : ∀ j, j < acc.length + 1 → limR (acc ++ [v]) j = appR acc.length (limR acc) r2 j := fun j hj => encR_snoc (enc := fun n : Nat => [uv n]) h j hj
abbrev nilN : Nat → List AV := natR []
abbrev nilL : Nat → List AV := limR []
theorem limR_take {l : List Nat} {n i : Nat} (hi : i < n) : limR (l.take n) i = limR l i := by
  unfold limR encR
  rw [List.getD_eq_getElem?_getD, List.getElem?_take, if_pos hi, ← List.getD_eq_getElem?_getD]
theorem limR_drop (l : List Nat) (n i : Nat) : limR (l.drop n) i = limR l (n + i) := by
  unfold limR encR
  rw [List.getD_eq_getElem?_getD, List.getElem?_drop, ← List.getD_eq_getElem?_getD]
@[reducible] def lgE (L : Lg) : List AV := [limS none (frm L.m), bv L.neg, iv L.exp]
abbrev lgA (L : Lg) : AV := .agg (lgE L)
abbrev exA (x : Ex) : AV := .agg [bv x.neg, natS none (frm x.num), natS none (frm x.den)]
@[reducible] def vaE (kd n q : Int) (s : Str) : List AV := [iv kd, iv n, iv q, sv s]
@[reducible] def tyE (kd p q n : Int) (vy : Bool) (pc : Str) : List AV := [iv kd, iv p, iv q, iv n, bv vy, sv pc]
theorem byt_get {s : Str} {j : Nat} (h : j < s.length) : byt s j = (s[j]).toNat := by
  unfold byt
  rw [List.getD_eq_getElem?_getD, List.getElem?_eq_getElem h]
  rfl
theorem frm_one : frm 1 = [1] := by rw [frm_pos (by decide)]; show 1 % 10 :: frm (1 / 10) = _; rw [show 1 / 10 = 0 from rfl, frm_zero]
end Go.Iron.Tryz

/- The digits' seat: the reference's naturals by their digits. -/
namespace Go.Iron.Tryz
open Go.Proofs Go.RowKit Go.Iron.Tok Go.Iron.Dg

theorem r_numeric (kd : Int) : CallT Tryz.prog 14 [iv kd] [] (fun o A => o = .ret (bv (decide (1 ≤ kd) && decide (kd ≤ 3))) ∧ A = []) := by
  refine callS_body (n := 9) rfl rfl fun w ρ X => ?_
  refine rX rfl ?_
  refine runS_ret (I := inf) 0 rfl (Nat.le_refl _) rfl .nil rfl ⟨?_, rfl⟩
  refine congrArg (fun x => Out.ret (bv x)) ?_
  show (if decide (kd ≥ 1) = true then decide (kd ≤ 3) else false) = _
  by_cases h : 1 ≤ kd
  · rw [decide_eq_true h]; rfl
  · rw [decide_eq_false h]; rfl
theorem r_from (n : Nat) (hn : n < 4611686018427387904) : CallT Tryz.prog 121 [iv n] [] (fun o A => o = .ret (natS none (frm n)) ∧ A = []) := by
  refine callS_body (n := 14) rfl rfl fun w ρ X => ?_
  refine rX rfl ?_
  refine runS_nilRow 3 3 1 nilN rfl rfl ?_
  refine runS_while (fun (x : Nat × List Nat) τ ar => (τ 0 = iv x.1 ∧ τ 3 = .row 0 x.2.length) ∧ ar = [.row 3 1 x.2.length x.2.length (natR x.2)] ∧ x.1 ≤ n ∧ frm n = x.2 ++ frm x.1) (fun x => x.1) (n, []) ⟨⟨rfl, rfl⟩, rfl, Nat.le_refl _, rfl⟩ ?_
  rintro ⟨m, acc⟩ τ' ar' ⟨⟨g0, g3⟩, rfl, hm, hq⟩ ih
  dsimp only at hm hq ih
  have ha : acc.length ≤ 19 := by
    have h1 : (frm n).length ≤ 19 := frm_len_lt.2 (Nat.lt_of_lt_of_le hn (by decide))
    rw [hq, List.length_append] at h1
    omega
  refine runS_says 0 (by exact g0) (Says.refl _) ?_; refine runS_says 3 (by exact g3) (Says.refl _) ?_
  refine rX rfl ?_
  refine runS_cond rfl (fun h => ?_) (fun h => ?_)
  · have hm0 : m ≠ 0 := by
      have : decide ((m : Int) > 0) = true := h
      simp at this
      omega
    have e1 : ((m : Int)).tmod 10 = ((m % 10 : Nat) : Int) := by rw [Int.natCast_emod, Int.tmod_eq_emod_of_nonneg (by omega)]; rfl
    have e2 : IntKind.wrap .i64 (((m : Int)).tdiv 10) = ((m / 10 : Nat) : Int) := by
      rw [Int.tdiv_eq_ediv_of_nonneg (by omega), w64 (by omega) (by omega), Int.natCast_ediv]; rfl
    refine rX rfl ?_
    refine runS_tell 0 (natR (acc ++ [m % 10])) rfl (m' := acc.length + 1) rfl (natR_snoc (congrArg (fun z => [iv z]) e1)) rfl ?_
    have hl' : (acc ++ [m % 10]).length = acc.length + 1 := by simp
    refine rX rfl ?_
    refine runS_drop 1 (Nat.zero_le _) rfl (by repeat (first | exact .nil | refine .row (fun j hj => rfl) ?_ | refine .box rfl ?_ | refine .fam (fun k j hk hj => rfl) ?_ | refine .loop (scrub_under _ _) ?_ | refine .dfr ?_ | refine .gone ?_ | refine .map (fun p hp => by (obtain ⟨k, _, rfl⟩ := List.mem_map.1 hp; rfl)) ?_)) rfl rfl rfl (by repeat (first | exact .nil | refine .cons rfl rfl rfl (scrub_under _ _) ?_)) ?_
    exact ih (m / 10, acc ++ [m % 10]) _ _ (by dsimp only; omega) ⟨⟨congrArg iv e2, by dsimp only; rw [hl']; rfl⟩, by dsimp only; rw [hl'], by dsimp only; omega, by rw [hq, frm_pos hm0, List.append_assoc]; rfl⟩
  · have hm0 : m = 0 := by
      have : decide ((m : Int) > 0) = false := h
      simp at this
      omega
    subst hm0
    rw [frm_zero, List.append_nil] at hq
    refine rX rfl ?_
    refine runS_freeze 2 rfl rfl rfl (fun j hj => rfl) ?_
    refine runS_ret (I := inf) 0 rfl (Nat.le_refl _) rfl .nil rfl ⟨?_, rfl⟩
    rw [hq]
    rfl
theorem r_size (n : Int) (hn : n.natAbs < 4611686018427387904) : CallT Tryz.prog 55 [iv n] [] (fun o A => o = .ret (iv ((frm n.natAbs).length : Nat)) ∧ A = []) := by
  refine callS_body (n := 10) rfl rfl fun w ρ X => ?_
  refine rX rfl ?_
  refine runS_cut (fun τ ar => τ 0 = iv (n.natAbs : Nat) ∧ ar = []) (fun rest => ?_) ?_
  · refine runS_cond rfl (fun h => ?_) (fun h => ?_)
    · have h0 : n < 0 := of_decide_eq_true h
      have e : IntKind.wrap .i64 (0 - n) = ((n.natAbs : Nat) : Int) := by rw [w64 (by omega) (by omega)]; omega
      refine runS_x (I := inf) (J := jnf) ⟨false, false, [], 2, 0⟩ 9999 rfl ob1 ?_
      exact rest _ _ ⟨congrArg iv e, rfl⟩
    · have h0 : ¬ n < 0 := of_decide_eq_false h
      have e : n = ((n.natAbs : Nat) : Int) := by omega
      refine runS_x (I := inf) (J := jnf) ⟨false, false, [], 2, 0⟩ 9999 rfl ob1 ?_
      exact rest _ _ ⟨congrArg iv e, rfl⟩
  rintro τ2 ar2 ⟨g0, rfl⟩
  refine runS_says 0 (by exact g0) (Says.refl _) ?_
  refine rX rfl ?_
  refine runS_call rfl rfl rfl rfl rfl rfl rfl (r_from n.natAbs hn) ?_
  refine rX rfl ?_
  refine runS_ret (I := inf) 0 rfl (Nat.le_refl _) rfl .nil rfl ⟨?_, rfl⟩
  rfl
theorem r_cmp (n1 n2 : Option Bool) (a b : List Nat) (ha : a.length ≤ 100000) (hb : b.length ≤ 100000) : CallT Tryz.prog 65 [natS n1 a, natS n2 b] [] (fun o A => o = .ret (iv (cmpT a b)) ∧ A = []) := by
  refine callS_body (n := 41) rfl rfl fun w ρ X => ?_
  refine rX rfl ?_
  refine runS_cond rfl (fun h => ?_) (fun h => ?_)
  · have hne : a.length ≠ b.length := by simp at h; omega
    refine rX rfl ?_
    refine runS_cond rfl (fun h1 => ?_) (fun h1 => ?_)
    · have hlt : a.length < b.length := by simp at h1; omega
      refine rX rfl ?_
      refine runS_ret (I := inf) 0 rfl (Nat.le_refl _) rfl .nil rfl ⟨?_, rfl⟩
      unfold cmpT
      rw [if_pos hne, if_pos hlt]
      rfl
    · have hlt : ¬ a.length < b.length := by simp at h1; omega
      refine rX rfl ?_
      refine runS_ret (I := inf) 0 rfl (Nat.le_refl _) rfl .nil rfl ⟨?_, rfl⟩
      unfold cmpT
      rw [if_pos hne, if_neg hlt]
      rfl
  · have hle : a.length = b.length := by simp at h; omega
    have hcm : cmpT a b = cmpN a b a.length := by unfold cmpT; rw [if_neg (by omega)]
    have hw0 : IntKind.wrap .i64 ((a.length : Int) - 1) = (a.length : Int) - 1 := w64 (by omega) (by omega)
    refine rX rfl ?_
    rw [hw0]
    refine runS_while (fun (i : Nat) τ ar => (τ 0 = natS n1 a ∧ τ 1 = natS n2 b ∧ τ 5 = iv ((i : Int) - 1)) ∧ ar = [] ∧ i ≤ a.length ∧ cmpT a b = cmpN a b i) (fun i => i) a.length ⟨⟨rfl, rfl, rfl⟩, rfl, Nat.le_refl _, hcm⟩ ?_
    rintro i τ' ar' ⟨⟨g0, g1, g5⟩, rfl, hi, hc⟩ ih
    refine runS_says 0 (by exact g0) (Says.refl _) ?_; refine runS_says 1 (by exact g1) (Says.refl _) ?_; refine runS_says 5 (by exact g5) (Says.refl _) ?_
    refine rX rfl ?_
    refine runS_cond rfl (fun h1 => ?_) (fun h1 => ?_)
    · have hi0 : 0 < i := by
        have : decide ((i : Int) - 1 ≥ 0) = true := h1
        simp at this
        omega
      obtain ⟨k, rfl⟩ : ∃ k, i = k + 1 := ⟨i - 1, by omega⟩
      have hka : k < a.length := by omega
      have hkb : k < b.length := by omega
      have e1 : (((k + 1 : Nat) : Int) - 1) = (k : Int) := by omega
      rw [e1] at g5 ⊢
      have hcs : cmpN a b (k + 1) = if a.getD k 0 < b.getD k 0 then -1 else if a.getD k 0 > b.getD k 0 then 1 else cmpN a b k := rfl
      refine runS_x (I := inf) (J := jnf) ⟨false, false, [], 0, 0⟩ 9999 rfl (by repeat (first | exact obs_nil | refine obs_draw (by kernel_rfl) ?_ | refine obs_same ?_ | refine obs_and ?_ | refine obs_by (by (simp [inB, hka, hkb] <;> omega)) ?_)) ?_
      refine runS_cond rfl (fun h2 => ?_) (fun h2 => ?_)
      · have hlt : a.getD k 0 < b.getD k 0 := by
          have : decide (((a.getD k 0 : Nat) : Int) < ((b.getD k 0 : Nat) : Int)) = true := h2
          rw [decide_eq_true_eq] at this
          omega
        refine rX rfl ?_
        refine runS_ret (I := inf) 0 rfl (Nat.le_refl _) rfl .nil rfl ⟨?_, rfl⟩
        rw [hc, hcs, if_pos hlt]
        rfl
      · have hlt : ¬ a.getD k 0 < b.getD k 0 := by
          have : decide (((a.getD k 0 : Nat) : Int) < ((b.getD k 0 : Nat) : Int)) = false := h2
          rw [decide_eq_false_iff_not] at this
          omega
        rw [if_neg hlt] at hcs
        refine runS_x (I := inf) (J := jnf) ⟨false, false, [], 0, 0⟩ 9999 rfl (by repeat (first | exact obs_nil | refine obs_draw (by kernel_rfl) ?_ | refine obs_same ?_ | refine obs_and ?_ | refine obs_by (by (simp [inB, hka, hkb] <;> omega)) ?_)) ?_
        refine runS_cond rfl (fun h3 => ?_) (fun h3 => ?_)
        · have hgt : a.getD k 0 > b.getD k 0 := by
            have : decide (((a.getD k 0 : Nat) : Int) > ((b.getD k 0 : Nat) : Int)) = true := h3
            rw [decide_eq_true_eq] at this
            omega
          refine rX rfl ?_
          refine runS_ret (I := inf) 0 rfl (Nat.le_refl _) rfl .nil rfl ⟨?_, rfl⟩
          rw [hc, hcs, if_pos hgt]
          rfl
        · have hgt : ¬ a.getD k 0 > b.getD k 0 := by
            have : decide (((a.getD k 0 : Nat) : Int) > ((b.getD k 0 : Nat) : Int)) = false := h3
            rw [decide_eq_false_iff_not] at this
            omega
          rw [if_neg hgt] at hcs
          have hwk : IntKind.wrap .i64 ((k : Int) - 1) = (k : Int) - 1 := w64 (by omega) (by omega)
          refine rX rfl ?_
          exact ih k _ _ (by omega) ⟨⟨rfl, rfl, congrArg iv hwk⟩, rfl, by omega, hc.trans hcs⟩
    · have hi0 : i = 0 := by
        have : decide ((i : Int) - 1 ≥ 0) = false := h1
        simp at this
        omega
      subst hi0
      refine rX rfl ?_
      refine runS_ret (I := inf) 0 rfl (Nat.le_refl _) rfl .nil rfl ⟨?_, rfl⟩
      rw [hc]
      rfl
theorem trim_take {l : List Nat} {n : Nat} (hn : n < l.length) (h0 : l.getD n 0 = 0) : trim (l.take (n + 1)) = trim (l.take n) := by
  rw [List.take_succ_eq_append_getElem hn]
  have e : l[n] = 0 := by rw [List.getD_eq_getElem?_getD, List.getElem?_eq_getElem hn] at h0; exact h0
  rw [e, trim_zero]
theorem trim_last {l : List Nat} {n : Nat} (hn : n < l.length) (hd : ∀ d ∈ l, d < 10) (h0 : l.getD n 0 ≠ 0) : trim (l.take (n + 1)) = l.take (n + 1) := by
  rw [List.take_succ_eq_append_getElem hn]
  have e : l[n] = l.getD n 0 := by rw [List.getD_eq_getElem?_getD, List.getElem?_eq_getElem hn]; rfl
  exact trim_canon (fun e he => hd e (List.mem_of_mem_take he)) (hd _ (List.getElem_mem hn)) (by rw [e]; exact h0)
theorem r_trim (n1 : Option Bool) (l : List Nat) (hl : l.length ≤ 100000) (hd : ∀ d ∈ l, d < 10) : CallT Tryz.prog 127 [natS n1 l] [] (fun o A => o = .ret (natS none (trim l)) ∧ A = []) := by
  refine callS_body (n := 21) rfl rfl fun w ρ X => ?_
  refine rX rfl ?_
  refine runS_while (fun (n : Nat) τ ar => (τ 0 = natS n1 l ∧ τ 3 = iv n) ∧ ar = [] ∧ n ≤ l.length ∧ trim l = trim (l.take n)) (fun n => n) l.length ⟨⟨rfl, rfl⟩, rfl, Nat.le_refl _, by rw [List.take_length]⟩ ?_
  rintro n τ' ar' ⟨⟨g0, g3⟩, rfl, hn, ht⟩ ih
  refine runS_says 0 (by exact g0) (Says.refl _) ?_; refine runS_says 3 (by exact g3) (Says.refl _) ?_
  have hwm : 0 < n → IntKind.wrap .i64 ((n : Int) - 1) = ((n - 1 : Nat) : Int) := fun h => by rw [w64 (by omega) (by omega)]; omega
  refine rX rfl ?_
  have hcd : (if decide ((n : Int) > 0) = true then (((l.getD (IntKind.wrap .i64 ((n : Int) - 1)).toNat 0 : Nat) : Int) == 0) else false) = decide (0 < n ∧ l.getD (n - 1) 0 = 0) := by
    by_cases h : 0 < n
    · rw [hwm h, Int.toNat_natCast, decide_eq_true (show (n : Int) > 0 by omega), if_pos rfl, Bool.eq_iff_iff]
      simp [-List.getD_eq_getElem?_getD, h]
    · rw [decide_eq_false (show ¬ (n : Int) > 0 by omega), Bool.eq_iff_iff]
      simp [h]
  refine runS_cond rfl (fun h => ?_) (fun h => ?_)
  · obtain ⟨h0, hz⟩ := of_decide_eq_true (hcd.symm.trans h)
    obtain ⟨k, rfl⟩ : ∃ k, n = k + 1 := ⟨n - 1, by omega⟩
    have e1 := hwm h0
    rw [Nat.add_sub_cancel] at e1 hz
    refine rX rfl ?_
    exact ih k _ _ (by omega) ⟨⟨rfl, congrArg iv e1⟩, rfl, by omega, ht.trans (trim_take (by omega) hz)⟩
  · have hno := of_decide_eq_false (hcd.symm.trans h)
    have htk : trim l = l.take n := by
      rw [ht]
      by_cases h0 : n = 0
      · rw [h0, List.take_zero]; exact frm_zero
      · obtain ⟨k, rfl⟩ : ∃ k, n = k + 1 := ⟨n - 1, by omega⟩
        exact trim_last (by omega) hd (fun e => hno ⟨by omega, by rw [Nat.add_sub_cancel]; exact e⟩)
    refine runS_x (I := inf) (J := jnf) ⟨false, false, [], 0, 0⟩ 9999 rfl (by repeat (first | exact obs_nil | refine obs_draw (by kernel_rfl) ?_ | refine obs_same ?_ | refine obs_and ?_ | refine obs_by (by (simp [inB, hn] <;> omega)) ?_)) ?_
    have hlt : (l.take n).length = n := by rw [List.length_take]; omega
    refine runS_says 2 (y := natS none (l.take n)) rfl (fun w O ρ v h => says_nl w O ρ v (says_slc (by rw [hlt]; simp) (fun i hi => ?_) w O ρ v h)) ?_
    · show natR (l.take n) i = natR l (0 + i)
      rw [Nat.zero_add]
      unfold natR encR
      rw [List.getD_eq_getElem?_getD, List.getElem?_take, if_pos (by simpa using hi), ← List.getD_eq_getElem?_getD]
    refine runS_ret (I := inf) 0 rfl (Nat.le_refl _) rfl .nil rfl ⟨?_, rfl⟩
    rw [htk]
    rfl
theorem val_drop (l : List Nat) (i : Nat) : val (l.drop i) = l.getD i 0 + 10 * val (l.drop (i + 1)) := by
  by_cases h : i < l.length
  · rw [List.drop_eq_getElem_cons h, val, List.getD_eq_getElem?_getD, List.getElem?_eq_getElem h]
    rfl
  · rw [List.drop_eq_nil_of_le (by omega), List.drop_eq_nil_of_le (by omega), List.getD_eq_getElem?_getD, List.getElem?_eq_none (by omega)]
    rfl
theorem getD_digit (n i : Nat) : (frm n).getD i 0 < 10 := by
  by_cases h : i < (frm n).length
  · rw [List.getD_eq_getElem?_getD, List.getElem?_eq_getElem h]
    exact frm_digit (List.getElem_mem h)
  · rw [List.getD_eq_getElem?_getD, List.getElem?_eq_none (by omega)]
    decide
structure PlX where
  i : Nat
  c : Nat
  acc : List Nat
theorem r_plus (n1 n2 : Option Bool) (x y : Nat) (hlx : (frm x).length ≤ 4000) (hly : (frm y).length ≤ 4000) : CallT Tryz.prog 64 [natS n1 (frm x), natS n2 (frm y)] [] (fun o A => o = .ret (natS none (frm (x + y))) ∧ A = []) := by
  have hvx := val_frm x
  have hvy := val_frm y
  have hdx := getD_digit x
  have hdy := getD_digit y
  generalize frm x = A at *
  generalize frm y = B at *
  refine callS_body (n := 55) rfl rfl fun w ρ X => ?_
  refine rX rfl ?_
  refine runS_nilRow 5 3 1 nilN rfl rfl ?_
  refine runS_while (fun (z : PlX) τ ar => (τ 0 = natS n1 A ∧ τ 1 = natS n2 B ∧ τ 5 = .row 0 z.acc.length ∧ τ 6 = iv z.c ∧ τ 7 = iv z.i) ∧ ar = [.row 3 1 z.acc.length z.acc.length (natR z.acc)] ∧ z.acc.length = z.i ∧ z.i ≤ 4001 ∧ (0 < z.c → z.i ≤ 4000) ∧ z.c ≤ 1 ∧ (∀ d ∈ z.acc, d < 10) ∧ val z.acc + 10 ^ z.i * (z.c + val (A.drop z.i) + val (B.drop z.i)) = x + y) (fun z => 8100 - z.i) ⟨0, 0, []⟩ ⟨⟨rfl, rfl, rfl, rfl, rfl⟩, rfl, rfl, Nat.zero_le _, fun _ => Nat.zero_le _, Nat.zero_le _, fun d hd => (by cases hd), by
      show 0 + 10 ^ 0 * (0 + val (A.drop 0) + val (B.drop 0)) = _
      rw [Nat.pow_zero, List.drop_zero, List.drop_zero]
      omega⟩ ?_
  rintro ⟨i, c, acc⟩ τ' ar' ⟨⟨g0, g1, g5, g6, g7⟩, rfl, hai, hi20, hc19, hc1, hdig, hval⟩ ih
  dsimp only at hai hi20 hc19 hc1 hdig hval ih
  refine runS_says 0 (by exact g0) (Says.refl _) ?_; refine runS_says 1 (by exact g1) (Says.refl _) ?_; refine runS_says 5 (by exact g5) (Says.refl _) ?_; refine runS_says 6 (by exact g6) (Says.refl _) ?_; refine runS_says 7 (by exact g7) (Says.refl _) ?_
  refine rX rfl ?_
  have hcd : (if (if decide ((i : Int) < (A.length : Int)) = true then true else decide ((i : Int) < (B.length : Int))) = true then true else decide ((c : Int) > 0)) = decide (i < A.length ∨ i < B.length ∨ 0 < c) := by
    rw [Bool.eq_iff_iff]
    by_cases h1 : i < A.length <;> by_cases h2 : i < B.length <;> by_cases h3 : 0 < c <;> simp [h1, h2, h3] <;> omega
  refine runS_cond rfl (fun h => ?_) (fun h => ?_)
  · have hc := of_decide_eq_true (hcd.symm.trans h)
    have hi19 : i ≤ 4000 := by omega
    have hda := hdx i
    have hdb := hdy i
    have hda2 : ¬ i < A.length → A.getD i 0 = 0 := fun h => by rw [List.getD_eq_getElem?_getD, List.getElem?_eq_none (by omega)]; rfl
    have hdb2 : ¬ i < B.length → B.getD i 0 = 0 := fun h => by rw [List.getD_eq_getElem?_getD, List.getElem?_eq_none (by omega)]; rfl
    have hvA := val_drop A i
    have hvB := val_drop B i
    generalize hga : A.getD i 0 = p at *
    generalize hgb : B.getD i 0 = q at *
    refine rX rfl ?_
    refine runS_cut (fun τ ar => (τ 0 = natS n1 A ∧ τ 1 = natS n2 B ∧ τ 5 = .row 0 acc.length ∧ τ 7 = iv i ∧ τ 8 = iv ((c + p : Nat) : Int)) ∧ ar = [.row 3 1 acc.length acc.length (natR acc)]) (fun rest => ?_) ?_
    · refine runS_cond rfl (fun h1 => ?_) (fun h1 => ?_)
      · have hl : i < A.length := by
          have : decide ((i : Int) < (A.length : Int)) = true := h1
          simp at this
          omega
        have e : IntKind.wrap .i64 ((c : Int) + ((A.getD ((i : Int)).toNat 0 : Nat) : Int)) = ((c + p : Nat) : Int) := by rw [Int.toNat_natCast, hga, w64 (by omega) (by omega)]; rfl
        refine runS_x (I := inf) (J := jnf) ⟨false, false, [], 7, 0⟩ 9999 rfl (by repeat (first | exact obs_nil | refine obs_draw (by kernel_rfl) ?_ | refine obs_same ?_ | refine obs_and ?_ | refine obs_by (by (simp [inB, hl] <;> omega)) ?_)) ?_
        exact rest _ _ ⟨⟨rfl, rfl, rfl, rfl, congrArg iv e⟩, rfl⟩
      · have hl : ¬ i < A.length := by
          have : decide ((i : Int) < (A.length : Int)) = false := h1
          simp at this
          omega
        have e : ((c : Int)) = ((c + p : Nat) : Int) := by rw [hda2 hl]; rfl
        refine runS_x (I := inf) (J := jnf) ⟨false, false, [], 7, 0⟩ 9999 rfl ob1 ?_
        exact rest _ _ ⟨⟨rfl, rfl, rfl, rfl, congrArg iv e⟩, rfl⟩
    rintro τ2 ar2 ⟨⟨g0, g1, g5, g7, g8⟩, rfl⟩
    refine runS_says 0 (by exact g0) (Says.refl _) ?_; refine runS_says 1 (by exact g1) (Says.refl _) ?_; refine runS_says 5 (by exact g5) (Says.refl _) ?_; refine runS_says 7 (by exact g7) (Says.refl _) ?_; refine runS_says 8 (by exact g8) (Says.refl _) ?_
    refine rX rfl ?_
    refine runS_cut (fun τ ar => (τ 0 = natS n1 A ∧ τ 1 = natS n2 B ∧ τ 5 = .row 0 acc.length ∧ τ 7 = iv i ∧ τ 8 = iv ((c + p + q : Nat) : Int)) ∧ ar = [.row 3 1 acc.length acc.length (natR acc)]) (fun rest => ?_) ?_
    · refine runS_cond rfl (fun h1 => ?_) (fun h1 => ?_)
      · have hl : i < B.length := by
          have : decide ((i : Int) < (B.length : Int)) = true := h1
          simp at this
          omega
        have e : IntKind.wrap .i64 (((c + p : Nat) : Int) + ((B.getD ((i : Int)).toNat 0 : Nat) : Int)) = ((c + p + q : Nat) : Int) := by rw [Int.toNat_natCast, hgb, w64 (by omega) (by omega)]; rfl
        refine runS_x (I := inf) (J := jnf) ⟨false, false, [], 7, 0⟩ 9999 rfl (by repeat (first | exact obs_nil | refine obs_draw (by kernel_rfl) ?_ | refine obs_same ?_ | refine obs_and ?_ | refine obs_by (by (simp [inB, hl] <;> omega)) ?_)) ?_
        exact rest _ _ ⟨⟨rfl, rfl, rfl, rfl, congrArg iv e⟩, rfl⟩
      · have hl : ¬ i < B.length := by
          have : decide ((i : Int) < (B.length : Int)) = false := h1
          simp at this
          omega
        have e : (((c + p : Nat) : Int)) = ((c + p + q : Nat) : Int) := by rw [hdb2 hl]; rfl
        refine runS_x (I := inf) (J := jnf) ⟨false, false, [], 7, 0⟩ 9999 rfl ob1 ?_
        exact rest _ _ ⟨⟨rfl, rfl, rfl, rfl, congrArg iv e⟩, rfl⟩
    rintro τ2 ar2 ⟨⟨g0, g1, g5, g7, g8⟩, rfl⟩
    generalize hn : c + p + q = n at g8
    refine runS_says 0 (by exact g0) (Says.refl _) ?_; refine runS_says 1 (by exact g1) (Says.refl _) ?_; refine runS_says 5 (by exact g5) (Says.refl _) ?_; refine runS_says 7 (by exact g7) (Says.refl _) ?_; refine runS_says 8 (by exact g8) (Says.refl _) ?_
    have e1 : ((n : Int)).tmod 10 = ((n % 10 : Nat) : Int) := by rw [Int.natCast_emod, Int.tmod_eq_emod_of_nonneg (by omega)]; rfl
    have e2 : IntKind.wrap .i64 (((n : Int)).tdiv 10) = ((n / 10 : Nat) : Int) := by
      rw [Int.tdiv_eq_ediv_of_nonneg (by omega), w64 (by omega) (by omega), Int.natCast_ediv]; rfl
    have hw1 : IntKind.wrap .i64 ((i : Int) + 1) = ((i + 1 : Nat) : Int) := by rw [w64 (by omega) (by omega)]; rfl
    refine rX rfl ?_
    refine runS_tell 0 (natR (acc ++ [n % 10])) rfl (m' := acc.length + 1) rfl (natR_snoc (congrArg (fun z => [iv z]) e1)) rfl ?_
    have hl' : (acc ++ [n % 10]).length = acc.length + 1 := by simp
    refine rX rfl ?_
    refine runS_drop 1 (Nat.zero_le _) rfl (by repeat (first | exact .nil | refine .row (fun j hj => rfl) ?_ | refine .box rfl ?_ | refine .fam (fun k j hk hj => rfl) ?_ | refine .loop (scrub_under _ _) ?_ | refine .dfr ?_ | refine .gone ?_ | refine .map (fun p hp => by (obtain ⟨k, _, rfl⟩ := List.mem_map.1 hp; rfl)) ?_)) rfl rfl rfl (by repeat (first | exact .nil | refine .cons rfl rfl rfl (scrub_under _ _) ?_)) ?_
    refine ih ⟨i + 1, n / 10, acc ++ [n % 10]⟩ _ _ (by dsimp only; omega) ⟨⟨rfl, rfl, by dsimp only; rw [hl']; rfl, congrArg iv e2, congrArg iv hw1⟩, by dsimp only; rw [hl'], by dsimp only; omega, by dsimp only; omega, ?_, by dsimp only; omega, ?_, ?_⟩
    · dsimp only
      intro h
      by_cases hA : i < A.length
      · omega
      · by_cases hB : i < B.length
        · omega
        · have h1 := hda2 hA
          have h2 := hdb2 hB
          omega
    · intro d hd
      rcases List.mem_append.1 hd with hd | hd
      · exact hdig d hd
      · have : d = n % 10 := by simpa using hd
        omega
    · dsimp only
      rw [val_app, hai]
      have e3 : val [n % 10] = n % 10 := by show n % 10 + 10 * 0 = _; omega
      have e4 : c + val (A.drop i) + val (B.drop i) = n % 10 + 10 * (n / 10 + val (A.drop (i + 1)) + val (B.drop (i + 1))) := by omega
      rw [e3, ← hval, e4, Nat.pow_succ, Nat.mul_add (10 ^ i), Nat.mul_assoc (10 ^ i) 10]
      omega
  · have hc := of_decide_eq_false (hcd.symm.trans h)
    have hxy : val acc = x + y := by
      rw [List.drop_eq_nil_of_le (by omega), List.drop_eq_nil_of_le (by omega)] at hval
      have hc0 : c = 0 := by omega
      rw [hc0] at hval
      simpa [val] using hval
    refine rX rfl ?_
    refine runS_freeze 53 rfl rfl rfl (fun j hj => rfl) ?_
    refine runS_call rfl rfl rfl rfl rfl rfl rfl (r_trim none acc (by omega) hdig) ?_
    refine rX rfl ?_
    refine runS_ret (I := inf) 0 rfl (Nat.le_refl _) rfl .nil rfl ⟨?_, rfl⟩
    unfold trim
    rw [hxy]
    rfl
end Go.Iron.Tryz

/- The digits' seat: limbs (of, trimmed, up, cut, compare, plus). -/
namespace Go.Iron.Tryz
open Go.Proofs Go.RowKit Go.Iron.Tok Go.Iron.Dg

theorem d_of (n : Nat) (hn : n < 4611686018427387904) : CallT Tryz.prog 87 [iv n] [] (fun o A => o = .ret (limS none (frm n)) ∧ A = []) := by
  refine callS_body (n := 15) rfl rfl fun w ρ X => ?_
  refine rX rfl ?_
  refine runS_nilRow 3 5 1 nilL rfl rfl ?_
  refine runS_while (fun (x : Nat × List Nat) τ ar => (τ 0 = iv x.1 ∧ τ 3 = .row 0 x.2.length) ∧ ar = [.row 5 1 x.2.length x.2.length (limR x.2)] ∧ x.1 ≤ n ∧ frm n = x.2 ++ frm x.1) (fun x => x.1) (n, []) ⟨⟨rfl, rfl⟩, rfl, Nat.le_refl _, rfl⟩ ?_
  rintro ⟨m, acc⟩ τ' ar' ⟨⟨g0, g3⟩, rfl, hm, hq⟩ ih
  dsimp only at hm hq ih
  have ha : acc.length ≤ 19 := by
    have h1 : (frm n).length ≤ 19 := frm_len_lt.2 (Nat.lt_of_lt_of_le hn (by decide))
    rw [hq, List.length_append] at h1
    omega
  refine runS_says 0 (by exact g0) (Says.refl _) ?_; refine runS_says 3 (by exact g3) (Says.refl _) ?_
  refine rX rfl ?_
  refine runS_cond rfl (fun h => ?_) (fun h => ?_)
  · have hm0 : m ≠ 0 := by
      have : decide ((m : Int) > 0) = true := h
      simp at this
      omega
    have e1 : IntKind.wrap .u8 (((m : Int)).tmod 10) = ((m % 10 : Nat) : Int) := by rw [Int.natCast_emod, Int.tmod_eq_emod_of_nonneg (by omega), w8 (by omega) (by omega)]; rfl
    have e2 : IntKind.wrap .i64 (((m : Int)).tdiv 10) = ((m / 10 : Nat) : Int) := by
      rw [Int.tdiv_eq_ediv_of_nonneg (by omega), w64 (by omega) (by omega), Int.natCast_ediv]; rfl
    refine rX rfl ?_
    refine runS_tell 0 (limR (acc ++ [m % 10])) rfl (m' := acc.length + 1) rfl (limR_snoc (congrArg (fun z => [AV.val (.int .u8 z)]) e1)) rfl ?_
    have hl' : (acc ++ [m % 10]).length = acc.length + 1 := by simp
    refine rX rfl ?_
    refine runS_drop 1 (Nat.zero_le _) rfl (by repeat (first | exact .nil | refine .row (fun j hj => rfl) ?_ | refine .box rfl ?_ | refine .fam (fun k j hk hj => rfl) ?_ | refine .loop (scrub_under _ _) ?_ | refine .dfr ?_ | refine .gone ?_ | refine .map (fun p hp => by (obtain ⟨k, _, rfl⟩ := List.mem_map.1 hp; rfl)) ?_)) rfl rfl rfl (by repeat (first | exact .nil | refine .cons rfl rfl rfl (scrub_under _ _) ?_)) ?_
    exact ih (m / 10, acc ++ [m % 10]) _ _ (by dsimp only; omega) ⟨⟨congrArg iv e2, by dsimp only; rw [hl']; rfl⟩, by dsimp only; rw [hl'], by dsimp only; omega, by rw [hq, frm_pos hm0, List.append_assoc]; rfl⟩
  · have hm0 : m = 0 := by
      have : decide ((m : Int) > 0) = false := h
      simp at this
      omega
    subst hm0
    rw [frm_zero, List.append_nil] at hq
    refine rX rfl ?_
    refine runS_freeze 2 rfl rfl rfl (fun j hj => rfl) ?_
    refine runS_ret (I := inf) 0 rfl (Nat.le_refl _) rfl .nil rfl ⟨?_, rfl⟩
    rw [hq]
    rfl
theorem d_trimmed (n1 : Option Bool) (l : List Nat) (hl : l.length ≤ 100000) (hd : ∀ d ∈ l, d < 10) : CallT Tryz.prog 126 [limS n1 l] [] (fun o A => o = .ret (limS none (trim l)) ∧ A = []) := by
  refine callS_body (n := 21) rfl rfl fun w ρ X => ?_
  refine runS_says 0 (y := .slc 1 none l.length (limR l)) rfl says_nl ?_
  refine rX rfl ?_
  refine runS_while (fun (n : Nat) τ ar => (τ 0 = .slc 1 none n (limR l)) ∧ ar = [] ∧ n ≤ l.length ∧ trim l = trim (l.take n)) (fun n => n) l.length ⟨rfl, rfl, Nat.le_refl _, by rw [List.take_length]⟩ ?_
  rintro n τ' ar' ⟨g0, rfl, hn, ht⟩ ih
  refine runS_says 0 (by exact g0) (Says.refl _) ?_
  have hwm : 0 < n → IntKind.wrap .i64 ((n : Int) - 1) = ((n - 1 : Nat) : Int) := fun h => by rw [w64 (by omega) (by omega)]; omega
  refine rX rfl ?_
  have hcd : (if decide ((n : Int) > 0) = true then (((l.getD (IntKind.wrap .i64 ((n : Int) - 1)).toNat 0 : Nat) : Int) == 0) else false) = decide (0 < n ∧ l.getD (n - 1) 0 = 0) := by
    by_cases h : 0 < n
    · rw [hwm h, Int.toNat_natCast, decide_eq_true (show (n : Int) > 0 by omega), if_pos rfl, Bool.eq_iff_iff]
      simp [-List.getD_eq_getElem?_getD, h]
    · rw [decide_eq_false (show ¬ (n : Int) > 0 by omega), Bool.eq_iff_iff]
      simp [h]
  refine runS_cond rfl (fun h => ?_) (fun h => ?_)
  · obtain ⟨h0, hz⟩ := of_decide_eq_true (hcd.symm.trans h)
    obtain ⟨k, rfl⟩ : ∃ k, n = k + 1 := ⟨n - 1, by omega⟩
    have e1 := hwm h0
    rw [Nat.add_sub_cancel] at e1 hz
    have hwk : IntKind.wrap .i64 (k : Int) = (k : Int) := w64 (by omega) (by omega)
    refine runS_x (I := inf) (J := jnf) ⟨false, false, [], 0, 0⟩ 9999 rfl (by repeat (first | exact obs_nil | refine obs_draw (by kernel_rfl) ?_ | refine obs_same ?_ | refine obs_and ?_ | refine obs_by (by (simp [inB, hwk] <;> omega)) ?_)) ?_
    refine runS_says 0 (y := .slc 1 none k (limR l)) rfl (fun w O ρ v h => says_nl w O ρ v (says_slc (by rw [e1]; simp) (fun i hi => ?_) w O ρ v h)) ?_
    · show limR l i = limR l (0 + i)
      rw [Nat.zero_add]
    exact ih k _ _ (by omega) ⟨rfl, rfl, by omega, ht.trans (trim_take (by omega) hz)⟩
  · have hno := of_decide_eq_false (hcd.symm.trans h)
    have htk : trim l = l.take n := by
      rw [ht]
      by_cases h0 : n = 0
      · rw [h0, List.take_zero]; exact frm_zero
      · obtain ⟨k, rfl⟩ : ∃ k, n = k + 1 := ⟨n - 1, by omega⟩
        exact trim_last (by omega) hd (fun e => hno ⟨by omega, by rw [Nat.add_sub_cancel]; exact e⟩)
    refine rX rfl ?_
    have hlt : (l.take n).length = n := by rw [List.length_take]; omega
    refine runS_says 2 (y := limS none (l.take n)) rfl (says_slc hlt (fun i hi => limR_take hi)) ?_
    refine runS_ret (I := inf) 0 rfl (Nat.le_refl _) rfl .nil rfl ⟨?_, rfl⟩
    rw [htk]
    rfl
theorem d_up (n1 : Option Bool) (x n : Nat) (hn : n ≤ 4000) (hl : (frm x).length ≤ 4000) : CallT Tryz.prog 123 [limS n1 (frm x), iv n] [] (fun o A => o = .ret (limS none (frm (x * 10 ^ n))) ∧ A = []) := by
  refine callS_body (n := 12) rfl rfl fun w ρ X => ?_
  refine rX rfl ?_
  refine runS_cond rfl (fun h => ?_) (fun h => ?_)
  · have h0 : x = 0 := by
      have : (((frm x).length : Int) == 0) = true := h
      simp only [beq_iff_eq] at this
      exact frm_len0.1 (by omega)
    subst h0
    refine rX rfl ?_
    refine runS_says 4 rfl (says_nil0 (sz := 1) (r := nilL) (Nat.zero_le _)) ?_
    refine runS_ret (I := inf) 0 rfl (Nat.le_refl _) rfl .nil rfl ⟨?_, rfl⟩
    rw [Nat.zero_mul, frm_zero]
    rfl
  · have h0 : x ≠ 0 := by
      have : (((frm x).length : Int) == 0) = false := h
      simp only [beq_eq_false_iff_ne] at this
      exact fun e => this (by rw [e, frm_zero]; rfl)
    have hl' : (List.replicate n 0 ++ frm x).length = n + (frm x).length := by simp
    refine rX rfl ?_
    refine runS_tell 0 (limR (List.replicate n 0 ++ frm x)) rfl (m' := n + (frm x).length) rfl (fun i hi => ?_) rfl ?_
    · show limR (List.replicate n 0 ++ frm x) i = appR n _ _ i
      unfold limR encR
      by_cases h : i < n
      · rw [appR_lt h, List.getD_eq_getElem?_getD, List.getElem?_append_left (by simpa using h), List.getElem?_replicate, if_pos h]
        rfl
      · rw [appR_ge (by omega), List.getD_eq_getElem?_getD, List.getElem?_append_right (by simp; omega), List.length_replicate, ← List.getD_eq_getElem?_getD]
    refine runS_freeze 4 rfl rfl rfl (fun j hj => rfl) ?_
    refine runS_ret (I := inf) 0 rfl (Nat.le_refl _) rfl .nil rfl ⟨?_, rfl⟩
    rw [frm_up h0]
    unfold limS
    rw [hl']
    rfl
theorem d_cut (n1 : Option Bool) (x n : Nat) (hn : n ≤ 100000) (hl : (frm x).length ≤ 4000) : CallT Tryz.prog 205 [limS n1 (frm x), iv n] [] (fun o A => o = .ret (limS none (frm (x / 10 ^ n))) ∧ A = []) := by
  rw [← frm_cut]
  refine callS_body (n := 13) rfl rfl fun w ρ X => ?_
  refine rX rfl ?_
  refine runS_cond rfl (fun h => ?_) (fun h => ?_)
  · have h0 : (frm x).length ≤ n := by
      have := of_decide_eq_true h
      omega
    refine rX rfl ?_
    refine runS_says 4 rfl (says_nil0 (sz := 1) (r := nilL) (Nat.zero_le _)) ?_
    refine runS_ret (I := inf) 0 rfl (Nat.le_refl _) rfl .nil rfl ⟨?_, rfl⟩
    rw [List.drop_eq_nil_of_le h0]
    rfl
  · have h0 : n < (frm x).length := by
      have := of_decide_eq_false h
      omega
    have hdl : ((frm x).drop n).length = (frm x).length - n := List.length_drop
    refine runS_x (I := inf) (J := jnf) ⟨false, false, [], 0, 0⟩ 9999 rfl (by repeat (first | exact obs_nil | refine obs_draw (by kernel_rfl) ?_ | refine obs_same ?_ | refine obs_and ?_ | refine obs_by (by (simp [inB, h0] <;> omega)) ?_)) ?_
    refine runS_says 11 (y := .slc 1 (some false) ((frm x).drop n).length (limR ((frm x).drop n))) rfl (fun w O ρ v h => says_nn (by omega) w O ρ v (says_nl w O ρ v (says_slc (by rw [hdl]; simp) (fun i hi => limR_drop _ _ _) w O ρ v h))) ?_
    refine runS_x (I := inf) (J := jnf) ⟨true, false, [174], 0, 0⟩ 9999 rfl ob1 ?_
    refine runS_tell 0 (limR ((frm x).drop n)) rfl (m' := ((frm x).drop n).length) (by simp) (fun i hi => ?_) rfl ?_
    · exact (appR_ge (Nat.zero_le _)).symm
    refine runS_freeze 4 rfl rfl rfl (fun j hj => rfl) ?_
    refine runS_ret (I := inf) 0 rfl (Nat.le_refl _) rfl .nil rfl ⟨?_, rfl⟩
    rfl
end Go.Iron.Tryz

/- The digits' seat: limbs (compare, plus, less). -/
namespace Go.Iron.Tryz
open Go.Proofs Go.RowKit Go.Iron.Tok Go.Iron.Dg

theorem d_compare (n1 n2 : Option Bool) (x y : Nat) (hx : (frm x).length ≤ 100000) (hy : (frm y).length ≤ 100000) : CallT Tryz.prog 124 [limS n1 (frm x), limS n2 (frm y)] [] (fun o A => o = .ret (iv (cmpR (frm x) (frm y))) ∧ A = []) := by
  have hda := fun d (hd : d ∈ frm x) => frm_digit hd
  have hdb := fun d (hd : d ∈ frm y) => frm_digit hd
  generalize frm x = a at *
  generalize frm y = b at *
  refine callS_body (n := 43) rfl rfl fun w ρ X => ?_
  refine rX rfl ?_
  refine runS_cond rfl (fun h => ?_) (fun h => ?_)
  · have hne : a.length ≠ b.length := by simp at h; omega
    refine rX rfl ?_
    refine runS_ret (I := inf) 0 rfl (Nat.le_refl _) rfl .nil rfl ⟨?_, rfl⟩
    unfold cmpR
    rw [if_pos hne]
    refine congrArg (fun x => Out.ret (iv x)) ?_
    show IntKind.wrap .i64 ((a.length : Int) - (b.length : Int)) = _
    rw [w64 (by omega) (by omega)]
  · have hle : a.length = b.length := by simp at h; omega
    have hcm : cmpR a b = cmpD a b a.length := by unfold cmpR; rw [if_neg (by omega)]
    have hw0 : IntKind.wrap .i64 ((a.length : Int) - 1) = (a.length : Int) - 1 := w64 (by omega) (by omega)
    refine rX rfl ?_
    rw [hw0]
    refine runS_while (fun (i : Nat) τ ar => (τ 0 = limS n1 a ∧ τ 1 = limS n2 b ∧ τ 5 = iv ((i : Int) - 1)) ∧ ar = [] ∧ i ≤ a.length ∧ cmpR a b = cmpD a b i) (fun i => i) a.length ⟨⟨rfl, rfl, rfl⟩, rfl, Nat.le_refl _, hcm⟩ ?_
    rintro i τ' ar' ⟨⟨g0, g1, g5⟩, rfl, hi, hc⟩ ih
    refine runS_says 0 (by exact g0) (Says.refl _) ?_; refine runS_says 1 (by exact g1) (Says.refl _) ?_; refine runS_says 5 (by exact g5) (Says.refl _) ?_
    refine rX rfl ?_
    refine runS_cond rfl (fun h1 => ?_) (fun h1 => ?_)
    · have hi0 : 0 < i := by
        have : decide ((i : Int) - 1 ≥ 0) = true := h1
        simp at this
        omega
      obtain ⟨k, rfl⟩ : ∃ k, i = k + 1 := ⟨i - 1, by omega⟩
      have hka : k < a.length := by omega
      have hkb : k < b.length := by omega
      have e1 : (((k + 1 : Nat) : Int) - 1) = (k : Int) := by omega
      rw [e1] at g5 ⊢
      have hcs : cmpD a b (k + 1) = if a.getD k 0 = b.getD k 0 then cmpD a b k else (a.getD k 0 : Int) - b.getD k 0 := rfl
      have hdx := getD_lt hda k
      have hdy := getD_lt hdb k
      refine runS_x (I := inf) (J := jnf) ⟨false, false, [], 0, 0⟩ 9999 rfl (by repeat (first | exact obs_nil | refine obs_draw (by kernel_rfl) ?_ | refine obs_same ?_ | refine obs_and ?_ | refine obs_by (by (simp [inB, hka, hkb] <;> omega)) ?_)) ?_
      refine runS_cond rfl (fun h2 => ?_) (fun h2 => ?_)
      · have hne : a.getD k 0 ≠ b.getD k 0 := by
          have : (!(((a.getD k 0 : Nat) : Int) == ((b.getD k 0 : Nat) : Int))) = true := h2
          intro e
          rw [e] at this
          simp at this
        have ew : IntKind.wrap .i64 (IntKind.wrap .i64 ((a.getD k 0 : Nat) : Int) - IntKind.wrap .i64 ((b.getD k 0 : Nat) : Int)) = (a.getD k 0 : Int) - b.getD k 0 := by
          rw [w64 (x := ((a.getD k 0 : Nat) : Int)) (by omega) (by omega), w64 (x := ((b.getD k 0 : Nat) : Int)) (by omega) (by omega), w64 (by omega) (by omega)]
        refine runS_x (I := inf) (J := jnf) ⟨false, false, [], 0, 0⟩ 9999 rfl (by repeat (first | exact obs_nil | refine obs_draw (by kernel_rfl) ?_ | refine obs_same ?_ | refine obs_and ?_ | refine obs_by (by (simp [inB, hka, hkb] <;> omega)) ?_)) ?_
        refine runS_ret (I := inf) 0 rfl (Nat.le_refl _) rfl .nil rfl ⟨?_, rfl⟩
        rw [hc, hcs, if_neg hne, ← ew]
        rfl
      · have heq : a.getD k 0 = b.getD k 0 := by
          have : (!(((a.getD k 0 : Nat) : Int) == ((b.getD k 0 : Nat) : Int))) = false := h2
          simp only [Bool.not_eq_false', beq_iff_eq] at this
          omega
        rw [if_pos heq] at hcs
        have hwk : IntKind.wrap .i64 ((k : Int) - 1) = (k : Int) - 1 := w64 (by omega) (by omega)
        refine rX rfl ?_
        exact ih k _ _ (by omega) ⟨⟨rfl, rfl, congrArg iv hwk⟩, rfl, by omega, hc.trans hcs⟩
    · have hi0 : i = 0 := by
        have : decide ((i : Int) - 1 ≥ 0) = false := h1
        simp at this
        omega
      subst hi0
      refine rX rfl ?_
      refine runS_ret (I := inf) 0 rfl (Nat.le_refl _) rfl .nil rfl ⟨?_, rfl⟩
      rw [hc]
      rfl
theorem d_plus (n1 n2 : Option Bool) (x y : Nat) (hlx : (frm x).length ≤ 4000) (hly : (frm y).length ≤ 4000) : CallT Tryz.prog 168 [limS n1 (frm x), limS n2 (frm y)] [] (fun o A => o = .ret (limS none (frm (x + y))) ∧ A = []) := by
  have hvx := val_frm x
  have hvy := val_frm y
  have hdx := getD_digit x
  have hdy := getD_digit y
  generalize frm x = A at *
  generalize frm y = B at *
  refine callS_body (n := 53) rfl rfl fun w ρ X => ?_
  refine rX rfl ?_
  refine runS_nilRow 5 5 1 nilL rfl rfl ?_
  refine runS_while (fun (z : PlX) τ ar => (τ 0 = limS n1 A ∧ τ 1 = limS n2 B ∧ τ 5 = .row 0 z.acc.length ∧ τ 6 = uv z.c ∧ τ 7 = iv z.i) ∧ ar = [.row 5 1 z.acc.length z.acc.length (limR z.acc)] ∧ z.acc.length = z.i ∧ z.i ≤ 4001 ∧ (0 < z.c → z.i ≤ 4000) ∧ z.c ≤ 1 ∧ (∀ d ∈ z.acc, d < 10) ∧ val z.acc + 10 ^ z.i * (z.c + val (A.drop z.i) + val (B.drop z.i)) = x + y) (fun z => 8100 - z.i) ⟨0, 0, []⟩ ⟨⟨rfl, rfl, rfl, rfl, rfl⟩, rfl, rfl, Nat.zero_le _, fun _ => Nat.zero_le _, Nat.zero_le _, fun d hd => (by cases hd), by
      show 0 + 10 ^ 0 * (0 + val (A.drop 0) + val (B.drop 0)) = _
      rw [Nat.pow_zero, List.drop_zero, List.drop_zero]
      omega⟩ ?_
  rintro ⟨i, c, acc⟩ τ' ar' ⟨⟨g0, g1, g5, g6, g7⟩, rfl, hai, hi20, hc19, hc1, hdig, hval⟩ ih
  dsimp only at hai hi20 hc19 hc1 hdig hval ih
  refine runS_says 0 (by exact g0) (Says.refl _) ?_; refine runS_says 1 (by exact g1) (Says.refl _) ?_; refine runS_says 5 (by exact g5) (Says.refl _) ?_; refine runS_says 6 (by exact g6) (Says.refl _) ?_; refine runS_says 7 (by exact g7) (Says.refl _) ?_
  refine rX rfl ?_
  have hcd : (if (if decide ((i : Int) < (A.length : Int)) = true then true else decide ((i : Int) < (B.length : Int))) = true then true else decide ((c : Int) > 0)) = decide (i < A.length ∨ i < B.length ∨ 0 < c) := by
    rw [Bool.eq_iff_iff]
    by_cases h1 : i < A.length <;> by_cases h2 : i < B.length <;> by_cases h3 : 0 < c <;> simp [h1, h2, h3] <;> omega
  refine runS_cond rfl (fun h => ?_) (fun h => ?_)
  · have hc := of_decide_eq_true (hcd.symm.trans h)
    have hi19 : i ≤ 4000 := by omega
    have hda := hdx i
    have hdb := hdy i
    have hda2 : ¬ i < A.length → A.getD i 0 = 0 := fun h => by rw [List.getD_eq_getElem?_getD, List.getElem?_eq_none (by omega)]; rfl
    have hdb2 : ¬ i < B.length → B.getD i 0 = 0 := fun h => by rw [List.getD_eq_getElem?_getD, List.getElem?_eq_none (by omega)]; rfl
    have hvA := val_drop A i
    have hvB := val_drop B i
    generalize hga : A.getD i 0 = p at *
    generalize hgb : B.getD i 0 = q at *
    refine rX rfl ?_
    refine runS_cut (fun τ ar => (τ 0 = limS n1 A ∧ τ 1 = limS n2 B ∧ τ 5 = .row 0 acc.length ∧ τ 7 = iv i ∧ τ 6 = uv (c + p)) ∧ ar = [.row 5 1 acc.length acc.length (limR acc)]) (fun rest => ?_) ?_
    · refine runS_cond rfl (fun h1 => ?_) (fun h1 => ?_)
      · have hl : i < A.length := by
          have : decide ((i : Int) < (A.length : Int)) = true := h1
          simp at this
          omega
        have e : IntKind.wrap .u8 ((c : Int) + ((A.getD ((i : Int)).toNat 0 : Nat) : Int)) = ((c + p : Nat) : Int) := by rw [Int.toNat_natCast, hga, w8 (by omega) (by omega)]; rfl
        refine runS_x (I := inf) (J := jnf) ⟨false, false, [], 7, 0⟩ 9999 rfl (by repeat (first | exact obs_nil | refine obs_draw (by kernel_rfl) ?_ | refine obs_same ?_ | refine obs_and ?_ | refine obs_by (by (simp [inB, hl] <;> omega)) ?_)) ?_
        exact rest _ _ ⟨⟨rfl, rfl, rfl, rfl, congrArg (fun z => AV.val (.int .u8 z)) e⟩, rfl⟩
      · have hl : ¬ i < A.length := by
          have : decide ((i : Int) < (A.length : Int)) = false := h1
          simp at this
          omega
        have e : ((c : Int)) = ((c + p : Nat) : Int) := by rw [hda2 hl]; rfl
        refine runS_x (I := inf) (J := jnf) ⟨false, false, [], 7, 0⟩ 9999 rfl ob1 ?_
        exact rest _ _ ⟨⟨rfl, rfl, rfl, rfl, congrArg (fun z => AV.val (.int .u8 z)) e⟩, rfl⟩
    rintro τ2 ar2 ⟨⟨g0, g1, g5, g7, g8⟩, rfl⟩
    refine runS_says 0 (by exact g0) (Says.refl _) ?_; refine runS_says 1 (by exact g1) (Says.refl _) ?_; refine runS_says 5 (by exact g5) (Says.refl _) ?_; refine runS_says 7 (by exact g7) (Says.refl _) ?_; refine runS_says 6 (by exact g8) (Says.refl _) ?_
    refine rX rfl ?_
    refine runS_cut (fun τ ar => (τ 0 = limS n1 A ∧ τ 1 = limS n2 B ∧ τ 5 = .row 0 acc.length ∧ τ 7 = iv i ∧ τ 6 = uv (c + p + q)) ∧ ar = [.row 5 1 acc.length acc.length (limR acc)]) (fun rest => ?_) ?_
    · refine runS_cond rfl (fun h1 => ?_) (fun h1 => ?_)
      · have hl : i < B.length := by
          have : decide ((i : Int) < (B.length : Int)) = true := h1
          simp at this
          omega
        have e : IntKind.wrap .u8 (((c + p : Nat) : Int) + ((B.getD ((i : Int)).toNat 0 : Nat) : Int)) = ((c + p + q : Nat) : Int) := by rw [Int.toNat_natCast, hgb, w8 (by omega) (by omega)]; rfl
        refine runS_x (I := inf) (J := jnf) ⟨false, false, [], 7, 0⟩ 9999 rfl (by repeat (first | exact obs_nil | refine obs_draw (by kernel_rfl) ?_ | refine obs_same ?_ | refine obs_and ?_ | refine obs_by (by (simp [inB, hl] <;> omega)) ?_)) ?_
        exact rest _ _ ⟨⟨rfl, rfl, rfl, rfl, congrArg (fun z => AV.val (.int .u8 z)) e⟩, rfl⟩
      · have hl : ¬ i < B.length := by
          have : decide ((i : Int) < (B.length : Int)) = false := h1
          simp at this
          omega
        have e : (((c + p : Nat) : Int)) = ((c + p + q : Nat) : Int) := by rw [hdb2 hl]; rfl
        refine runS_x (I := inf) (J := jnf) ⟨false, false, [], 7, 0⟩ 9999 rfl ob1 ?_
        exact rest _ _ ⟨⟨rfl, rfl, rfl, rfl, congrArg (fun z => AV.val (.int .u8 z)) e⟩, rfl⟩
    rintro τ2 ar2 ⟨⟨g0, g1, g5, g7, g8⟩, rfl⟩
    generalize hn : c + p + q = n at g8
    refine runS_says 0 (by exact g0) (Says.refl _) ?_; refine runS_says 1 (by exact g1) (Says.refl _) ?_; refine runS_says 5 (by exact g5) (Says.refl _) ?_; refine runS_says 7 (by exact g7) (Says.refl _) ?_; refine runS_says 6 (by exact g8) (Says.refl _) ?_
    have e1 : ((n : Int)).tmod 10 = ((n % 10 : Nat) : Int) := by rw [Int.natCast_emod, Int.tmod_eq_emod_of_nonneg (by omega)]; rfl
    have e2 : IntKind.wrap .u8 (((n : Int)).tdiv 10) = ((n / 10 : Nat) : Int) := by
      rw [Int.tdiv_eq_ediv_of_nonneg (by omega), w8 (by omega) (by omega), Int.natCast_ediv]; rfl
    have hw1 : IntKind.wrap .i64 ((i : Int) + 1) = ((i + 1 : Nat) : Int) := by rw [w64 (by omega) (by omega)]; rfl
    refine rX rfl ?_
    refine runS_tell 0 (limR (acc ++ [n % 10])) rfl (m' := acc.length + 1) rfl (limR_snoc (congrArg (fun z => [AV.val (.int .u8 z)]) e1)) rfl ?_
    have hl' : (acc ++ [n % 10]).length = acc.length + 1 := by simp
    refine rX rfl ?_
    refine runS_drop 1 (Nat.zero_le _) rfl (by repeat (first | exact .nil | refine .row (fun j hj => rfl) ?_ | refine .box rfl ?_ | refine .fam (fun k j hk hj => rfl) ?_ | refine .loop (scrub_under _ _) ?_ | refine .dfr ?_ | refine .gone ?_ | refine .map (fun p hp => by (obtain ⟨k, _, rfl⟩ := List.mem_map.1 hp; rfl)) ?_)) rfl rfl rfl (by repeat (first | exact .nil | refine .cons rfl rfl rfl (scrub_under _ _) ?_)) ?_
    refine ih ⟨i + 1, n / 10, acc ++ [n % 10]⟩ _ _ (by dsimp only; omega) ⟨⟨rfl, rfl, by dsimp only; rw [hl']; rfl, congrArg (fun z => AV.val (.int .u8 z)) e2, congrArg iv hw1⟩, by dsimp only; rw [hl'], by dsimp only; omega, by dsimp only; omega, ?_, by dsimp only; omega, ?_, ?_⟩
    · dsimp only
      intro h
      by_cases hA : i < A.length
      · omega
      · by_cases hB : i < B.length
        · omega
        · have h1 := hda2 hA
          have h2 := hdb2 hB
          omega
    · intro d hd
      rcases List.mem_append.1 hd with hd | hd
      · exact hdig d hd
      · have : d = n % 10 := by simpa using hd
        omega
    · dsimp only
      rw [val_app, hai]
      have e3 : val [n % 10] = n % 10 := by show n % 10 + 10 * 0 = _; omega
      have e4 : c + val (A.drop i) + val (B.drop i) = n % 10 + 10 * (n / 10 + val (A.drop (i + 1)) + val (B.drop (i + 1))) := by omega
      rw [e3, ← hval, e4, Nat.pow_succ, Nat.mul_add (10 ^ i), Nat.mul_assoc (10 ^ i) 10]
      omega
  · have hc := of_decide_eq_false (hcd.symm.trans h)
    have hxy : val acc = x + y := by
      rw [List.drop_eq_nil_of_le (by omega), List.drop_eq_nil_of_le (by omega)] at hval
      have hc0 : c = 0 := by omega
      rw [hc0] at hval
      simpa [val] using hval
    refine rX rfl ?_
    refine runS_freeze 51 rfl rfl rfl (fun j hj => rfl) ?_
    refine runS_call rfl rfl rfl rfl rfl rfl rfl (d_trimmed none acc (by omega) hdig) ?_
    refine rX rfl ?_
    refine runS_ret (I := inf) 0 rfl (Nat.le_refl _) rfl .nil rfl ⟨?_, rfl⟩
    unfold trim
    rw [hxy]
    rfl
end Go.Iron.Tryz

/- Digits: products, carries and differences place by place. -/
namespace Go.Iron.Dg

structure MulI (x y : List Nat) (n i k : Nat) (o : Nat → Nat) : Prop where
  sum : sumF o n = val (x.take i) * val y + x.getD i 0 * 10 ^ i * val (y.take k)
  le : ∀ j, o j ≤ 81 * i + (if i ≤ j ∧ j < i + k then 81 else 0)
theorem mulI_zero (x y : List Nat) (n : Nat) : MulI x y n 0 0 (fun _ => 0) := by
  refine ⟨?_, fun j => Nat.zero_le _⟩
  have : ∀ n, sumF (fun _ => 0) n = 0 := fun n => by
    induction n with
    | zero => rfl
    | succ n ih => rw [sumF, ih]; simp
  rw [this, List.take_zero, List.take_zero]
  show 0 = 0 * val y + x.getD 0 0 * 10 ^ 0 * 0
  simp
theorem mulI_step {x y : List Nat} {n i k : Nat} {o : Nat → Nat} (hx : ∀ d ∈ x, d < 10) (hy : ∀ d ∈ y, d < 10) (hk : k < y.length) (hn : i + k < n) (h : MulI x y n i k o) : MulI x y n i (k + 1) (updF o (i + k) (o (i + k) + x.getD i 0 * y.getD k 0)) := by
  obtain ⟨h1, h2⟩ := h
  have hx' := getD_lt hx i
  have hy' := getD_lt hy k
  have h81 : x.getD i 0 * y.getD k 0 ≤ 81 := Nat.mul_le_mul (show x.getD i 0 ≤ 9 by omega) (show y.getD k 0 ≤ 9 by omega)
  refine ⟨?_, fun j => ?_⟩
  · have h3 := sumF_upd (o := o) (v := o (i + k) + x.getD i 0 * y.getD k 0) hn
    rw [h1, Nat.add_mul] at h3
    rw [val_take hk, Nat.mul_add]
    have h4 : x.getD i 0 * 10 ^ i * (10 ^ k * y.getD k 0) = x.getD i 0 * y.getD k 0 * 10 ^ (i + k) := by rw [Nat.pow_add]; ac_rfl
    rw [h4]
    omega
  · unfold updF
    have h5 := h2 (i + k)
    rw [if_neg (by omega)] at h5
    by_cases hj : j = i + k
    · rw [if_pos hj, if_pos (by omega)]
      omega
    · rw [if_neg hj]
      have h6 := h2 j
      by_cases h7 : i ≤ j ∧ j < i + k
      · rw [if_pos h7] at h6
        rw [if_pos (by omega)]
        exact h6
      · rw [if_neg h7] at h6
        rw [if_neg (by omega)]
        exact h6
theorem mulI_row {x y : List Nat} {n i : Nat} {o : Nat → Nat} (hi : i < x.length) (h : MulI x y n i y.length o) : MulI x y n (i + 1) 0 o := by
  obtain ⟨h1, h2⟩ := h
  refine ⟨?_, fun j => ?_⟩
  · rw [h1, List.take_zero, List.take_length, val_take hi, Nat.add_mul]
    show _ = _ + x.getD (i + 1) 0 * 10 ^ (i + 1) * 0
    rw [Nat.mul_zero, Nat.add_zero, Nat.mul_comm (10 ^ i)]
  · have h3 := h2 j
    have : (if i ≤ j ∧ j < i + y.length then 81 else 0) ≤ 81 := by split <;> omega
    omega
structure CarI (n tot M i c : Nat) (p : Nat → Nat) : Prop where
  sum : sumF p n + c * 10 ^ i = tot
  lt : ∀ j, j < i → p j < 10
  le : ∀ j, p j ≤ M
  cle : c ≤ M
theorem carI_step {n tot M i c : Nat} {p : Nat → Nat} (hM : 10 ≤ M) (hi : i < n) (h : CarI n tot M i c p) : CarI n tot M (i + 1) ((p i + c) / 10) (updF p i ((p i + c) % 10)) := by
  obtain ⟨h1, h2, h3, h4⟩ := h
  have h5 := h3 i
  refine ⟨?_, fun j hj => ?_, fun j => ?_, by omega⟩
  · have h6 := sumF_upd (o := p) (v := (p i + c) % 10) hi
    have h7 : (p i + c) / 10 * 10 ^ (i + 1) = 10 * ((p i + c) / 10) * 10 ^ i := by rw [Nat.pow_succ]; ac_rfl
    have h8 : (p i + c) % 10 * 10 ^ i + 10 * ((p i + c) / 10) * 10 ^ i = p i * 10 ^ i + c * 10 ^ i := by
      rw [← Nat.add_mul, ← Nat.add_mul]
      congr 1
      omega
    omega
  · unfold updF
    split
    · omega
    · exact h2 j (by omega)
  · unfold updF
    split
    · omega
    · exact h3 j
theorem carI_end {n tot M c : Nat} {p : Nat → Nat} (ht : tot < 10 ^ n) (h : CarI n tot M n c p) : val (listF p n) = tot ∧ ∀ d ∈ listF p n, d < 10 := by
  obtain ⟨h1, h2, h3, h4⟩ := h
  have hc : c = 0 := by
    by_cases hc : c = 0
    · exact hc
    · exfalso
      have : 1 * 10 ^ n ≤ c * 10 ^ n := Nat.mul_le_mul_right _ (by omega)
      omega
  subst hc
  rw [val_listF]
  exact ⟨by omega, listF_lt h2⟩
structure CarJ (s : Nat → Nat) (M i c : Nat) (p : Nat → Nat) : Prop where
  sum : sumF p i + c * 10 ^ i = sumF s i
  lt : ∀ j, j < i → p j < 10
  cle : c ≤ M
theorem carJ_step {s : Nat → Nat} {M i c : Nat} {p : Nat → Nat} (hM : 10 ≤ M) (hs : s i ≤ M) (h : CarJ s M i c p) : CarJ s M (i + 1) ((c + s i) / 10) (updF p i ((c + s i) % 10)) := by
  obtain ⟨h1, h2, h4⟩ := h
  refine ⟨?_, fun j hj => ?_, by omega⟩
  · rw [sumF, sumF, sumF_congr (o := updF p i ((c + s i) % 10)) (p := p) (fun j hj => by unfold updF; rw [if_neg (by omega)])]
    have h7 : (c + s i) / 10 * 10 ^ (i + 1) = 10 * ((c + s i) / 10) * 10 ^ i := by rw [Nat.pow_succ]; ac_rfl
    have h8 : (c + s i) % 10 * 10 ^ i + 10 * ((c + s i) / 10) * 10 ^ i = c * 10 ^ i + s i * 10 ^ i := by
      rw [← Nat.add_mul, ← Nat.add_mul]
      congr 1
      omega
    have h9 : updF p i ((c + s i) % 10) i = (c + s i) % 10 := by unfold updF; rw [if_pos rfl]
    rw [h9]
    omega
  · unfold updF
    split
    · omega
    · exact h2 j (by omega)
theorem carJ_end {s : Nat → Nat} {n M c : Nat} {p : Nat → Nat} (ht : sumF s n < 10 ^ n) (h : CarJ s M n c p) : val (listF p n) = sumF s n ∧ ∀ d ∈ listF p n, d < 10 := by
  obtain ⟨h1, h2, h4⟩ := h
  have hc : c = 0 := by
    by_cases hc : c = 0
    · exact hc
    · exfalso
      have : 1 * 10 ^ n ≤ c * 10 ^ n := Nat.mul_le_mul_right _ (by omega)
      omega
  subst hc
  rw [val_listF]
  exact ⟨by omega, listF_lt h2⟩
structure LesI (a b : List Nat) (i w : Nat) (p : Nat → Nat) : Prop where
  sum : sumF p i + val (b.take i) = val (a.take i) + w * 10 ^ i
  lt : ∀ j, j < i → p j < 10
  eq : ∀ j, i ≤ j → p j = a.getD j 0
  wle : w ≤ 1
def lesD (a b : List Nat) (i w : Nat) : Nat := if a.getD i 0 < w + b.getD i 0 then a.getD i 0 + 10 - (w + b.getD i 0) else a.getD i 0 - (w + b.getD i 0)
def lesW (a b : List Nat) (i w : Nat) : Nat := if a.getD i 0 < w + b.getD i 0 then 1 else 0
theorem lesI_zero (a b : List Nat) : LesI a b 0 0 (fun j => a.getD j 0) := ⟨by rw [List.take_zero, List.take_zero]; rfl, fun j hj => by omega, fun j _ => rfl, by omega⟩
theorem lesI_step {a b : List Nat} {i w : Nat} {p : Nat → Nat} (ha : ∀ d ∈ a, d < 10) (hb : ∀ d ∈ b, d < 10) (h : LesI a b i w p) : LesI a b (i + 1) (lesW a b i w) (updF p i (lesD a b i w)) := by
  obtain ⟨h1, h2, h3, h4⟩ := h
  have ha' := getD_lt ha i
  have hb' := getD_lt hb i
  refine ⟨?_, fun j hj => ?_, fun j hj => ?_, by unfold lesW; split <;> omega⟩
  · rw [sumF, sumF_congr (o := updF p i (lesD a b i w)) (p := p) (fun j hj => by unfold updF; rw [if_neg (by omega)]), val_takeD, val_takeD]
    have h9 : updF p i (lesD a b i w) i = lesD a b i w := by unfold updF; rw [if_pos rfl]
    rw [h9]
    have h7 : lesW a b i w * 10 ^ (i + 1) = 10 * lesW a b i w * 10 ^ i := by rw [Nat.pow_succ]; ac_rfl
    have h8 : lesD a b i w * 10 ^ i + b.getD i 0 * 10 ^ i + w * 10 ^ i = a.getD i 0 * 10 ^ i + 10 * lesW a b i w * 10 ^ i := by
      rw [← Nat.add_mul, ← Nat.add_mul, ← Nat.add_mul]
      congr 1
      unfold lesD lesW
      split <;> omega
    omega
  · unfold updF
    split
    · unfold lesD
      split <;> omega
    · exact h2 j (by omega)
  · unfold updF
    rw [if_neg (by omega)]
    exact h3 j (by omega)
theorem lesI_end {a b : List Nat} {w : Nat} {p : Nat → Nat} (hb : b.length ≤ a.length) (hv : val b ≤ val a) (h : LesI a b a.length w p) : val (listF p a.length) = val a - val b ∧ ∀ d ∈ listF p a.length, d < 10 := by
  obtain ⟨h1, h2, h3, h4⟩ := h
  rw [List.take_length, List.take_of_length_le hb] at h1
  have h5 := sumF_lt h2
  have hc : w = 0 := by
    by_cases hc : w = 0
    · exact hc
    · exfalso
      have : w = 1 := by omega
      subst this
      omega
  subst hc
  rw [val_listF]
  exact ⟨by omega, listF_lt h2⟩
end Go.Iron.Dg

/- The digits' seat: limbs (less, times). -/
namespace Go.Iron.Tryz
open Go.Proofs Go.RowKit Go.Iron.Tok Go.Iron.Dg

def rowB (p : Nat → Nat) : Nat → List AV := fun j => [uv (p j)]
def rowN (p : Nat → Nat) : Nat → List AV := fun j => [iv (p j : Nat)]
theorem rowB_upd {p : Nat → Nat} {i v : Nat} {cs : List AV} (h : cs = [uv v]) (j : Nat) : rowB (updF p i v) j = setR (rowB p) i cs j := by
  by_cases e : j = i
  · subst e
    rw [setR_self, h]
    unfold rowB updF
    rw [if_pos rfl]
  · rw [setR_ne e]
    unfold rowB updF
    rw [if_neg e]
theorem rowN_upd {p : Nat → Nat} {i v : Nat} {cs : List AV} (h : cs = [iv (v : Nat)]) (j : Nat) : rowN (updF p i v) j = setR (rowN p) i cs j := by
  by_cases e : j = i
  · subst e
    rw [setR_self, h]
    unfold rowN updF
    rw [if_pos rfl]
  · rw [setR_ne e]
    unfold rowN updF
    rw [if_neg e]
theorem limR_listF (p : Nat → Nat) {n i : Nat} (h : i < n) : limR (listF p n) i = rowB p i := by
  unfold limR encR rowB
  rw [listF_getD p h]
theorem natR_listF (p : Nat → Nat) {n i : Nat} (h : i < n) : natR (listF p n) i = rowN p i := by
  unfold natR encR rowN
  rw [listF_getD p h]
theorem uvc {z : Int} {n : Nat} (h : z = (n : Int)) : AV.val (.int .u8 z) = uv n := by rw [h]
theorem d_less1 (n2 : Option Bool) (x y : Nat) (hyx : y ≤ x) (hl : (frm x).length ≤ 4000) : CallT Tryz.prog 107 [limS (some false) (frm x), limS n2 (frm y)] [] (fun o A => o = .ret (limS none (frm (x - y))) ∧ A = []) := by
  have hda := fun d (hd : d ∈ frm x) => frm_digit hd
  have hdb := fun d (hd : d ∈ frm y) => frm_digit hd
  have hvx := val_frm x
  have hvy := val_frm y
  have hll := frm_len_mono hyx
  generalize frm x = A at *
  generalize frm y = B at *
  refine callS_body (n := 49) rfl rfl fun w ρ X => ?_
  refine runS_x (I := inf) (J := jnf) ⟨true, false, [174], 0, 0⟩ 9999 rfl ob1 ?_
  refine runS_tell 0 (rowB (fun j => A.getD j 0)) rfl (m' := A.length) (by simp) (fun j hj => (appR_ge (Nat.zero_le _)).symm) rfl ?_
  rw [show ((0 + A.length : Nat) : Int) = (A.length : Int) by rw [Nat.zero_add]]
  refine runS_while (fun (z : Nat × Nat × (Nat → Nat)) τ ar => (τ 1 = limS n2 B ∧ τ 5 = .row 0 1 ∧ τ 6 = uv z.2.1 ∧ τ 12 = iv A.length ∧ τ 13 = iv z.1) ∧ ar = [.row 5 1 1 A.length (rowB z.2.2)] ∧ z.1 ≤ A.length ∧ LesI A B z.1 z.2.1 z.2.2) (fun z => A.length - z.1) (0, 0, fun j => A.getD j 0) ⟨⟨rfl, rfl, rfl, rfl, rfl⟩, rfl, Nat.zero_le _, lesI_zero A B⟩ ?_
  rintro ⟨i, v, p⟩ τ' ar' ⟨⟨g1, g5, g6, g12, g13⟩, rfl, hi, hL⟩ ih
  dsimp only at g6 g13 hi hL ih ⊢
  refine runS_says 1 (by exact g1) (Says.refl _) ?_; refine runS_says 5 (by exact g5) (Says.refl _) ?_; refine runS_says 6 (by exact g6) (Says.refl _) ?_; refine runS_says 12 (by exact g12) (Says.refl _) ?_; refine runS_says 13 (by exact g13) (Says.refl _) ?_
  refine rX rfl ?_
  refine runS_cond rfl (fun h => ?_) (fun h => ?_)
  · have hlt : i < A.length := by simp at h; omega
    have hw1 : IntKind.wrap .i64 ((i : Int) + 1) = ((i + 1 : Nat) : Int) := by rw [w64 (by omega) (by omega)]; rfl
    have hpi : p i = A.getD i 0 := hL.eq i (Nat.le_refl _)
    have hai := getD_lt hda i
    have hbi := getD_lt hdb i
    have hv1 := hL.wle
    have hst := lesI_step hda hdb hL
    unfold lesD lesW at hst
    rw [← hpi] at hst hai
    have hb0 : ¬ i < B.length → B.getD i 0 = 0 := fun h => by rw [List.getD_eq_getElem?_getD, List.getElem?_eq_none (by omega)]; rfl
    refine rX rfl ?_
    refine runS_cut (fun τ ar => (τ 1 = limS n2 B ∧ τ 5 = .row 0 1 ∧ τ 7 = iv i ∧ τ 8 = uv (v + B.getD i 0) ∧ τ 12 = iv A.length ∧ τ 13 = iv i) ∧ ar = [.row 5 1 1 A.length (rowB p)]) (fun rest => ?_) ?_
    · refine runS_cond rfl (fun h1 => ?_) (fun h1 => ?_)
      · have hlb : i < B.length := by
          have : decide ((i : Int) < (B.length : Int)) = true := h1
          simp at this
          omega
        have e : IntKind.wrap .u8 ((v : Int) + ((B.getD ((i : Int)).toNat 0 : Nat) : Int)) = ((v + B.getD i 0 : Nat) : Int) := by rw [Int.toNat_natCast, w8 (by omega) (by omega)]; rfl
        refine runS_x (I := inf) (J := jnf) ⟨false, false, [], 7, 0⟩ 9999 rfl (by repeat (first | exact obs_nil | refine obs_draw (by kernel_rfl) ?_ | refine obs_same ?_ | refine obs_and ?_ | refine obs_by (by (simp [inB, hlb] <;> omega)) ?_)) ?_
        exact rest _ _ ⟨⟨rfl, rfl, rfl, uvc e, rfl, rfl⟩, rfl⟩
      · have hlb : ¬ i < B.length := by
          have : decide ((i : Int) < (B.length : Int)) = false := h1
          simp at this
          omega
        refine runS_x (I := inf) (J := jnf) ⟨false, false, [], 7, 0⟩ 9999 rfl ob1 ?_
        exact rest _ _ ⟨⟨rfl, rfl, rfl, uvc (by rw [hb0 hlb]; rfl), rfl, rfl⟩, rfl⟩
    rintro τ2 ar2 ⟨⟨g1, g5, g7, g8, g12, g13⟩, rfl⟩
    generalize hD : v + B.getD i 0 = D at g8 hst
    refine runS_says 1 (by exact g1) (Says.refl _) ?_; refine runS_says 5 (by exact g5) (Says.refl _) ?_; refine runS_says 7 (by exact g7) (Says.refl _) ?_; refine runS_says 8 (by exact g8) (Says.refl _) ?_; refine runS_says 12 (by exact g12) (Says.refl _) ?_; refine runS_says 13 (by exact g13) (Says.refl _) ?_
    refine runS_x (I := inf) (J := jnf) ⟨false, false, [], 0, 0⟩ 9999 rfl (by repeat (first | exact obs_nil | refine obs_draw (by kernel_rfl) ?_ | refine obs_same ?_ | refine obs_and ?_ | refine obs_by (by (simp [inB, hlt] <;> omega)) ?_)) ?_
    refine runS_cond rfl (fun h2 => ?_) (fun h2 => ?_)
    · have hlt2 : p i < D := by
        have := of_decide_eq_true (show decide (((p i : Nat) : Int) < (D : Int)) = true from h2)
        omega
      rw [if_pos hlt2, if_pos hlt2] at hst
      have e1 : IntKind.wrap .u8 (((p i : Nat) : Int) + 10) = ((p i + 10 : Nat) : Int) := by rw [w8 (by omega) (by omega)]; rfl
      refine runS_x (I := inf) (J := jnf) ⟨false, false, [], 0, 0⟩ 10 rfl (by repeat (first | exact obs_nil | refine obs_draw (by kernel_rfl) ?_ | refine obs_same ?_ | refine obs_and ?_ | refine obs_by (by (simp [inB, hlt] <;> omega)) ?_)) ?_
      refine runS_tell 0 (rowB (updF p i (p i + 10))) rfl (m' := A.length) rfl (fun j hj => rowB_upd (congrArg (fun z => [AV.val (.int .u8 z)]) e1) j) rfl ?_
      have hu : updF p i (p i + 10) i = p i + 10 := by unfold updF; rw [if_pos rfl]
      have e2 : IntKind.wrap .u8 (((updF p i (p i + 10) i : Nat) : Int) - (D : Int)) = ((p i + 10 - D : Nat) : Int) := by rw [hu, w8 (by omega) (by omega)]; omega
      refine runS_x (I := inf) (J := jnf) ⟨false, false, [], 0, 0⟩ 9999 rfl (by repeat (first | exact obs_nil | refine obs_draw (by kernel_rfl) ?_ | refine obs_same ?_ | refine obs_and ?_ | refine obs_by (by (simp [inB, hlt] <;> omega)) ?_)) ?_
      refine runS_tell 0 (rowB (updF p i (p i + 10 - D))) rfl (m' := A.length) rfl (fun j hj => ?_) rfl ?_
      · refine Eq.trans ?_ (rowB_upd (p := updF p i (p i + 10)) (congrArg (fun z => [AV.val (.int .u8 z)]) e2) j)
        unfold rowB updF
        by_cases e : j = i
        · simp [e]
        · simp [e]
      refine ih (i + 1, 1, updF p i (p i + 10 - D)) _ _ (by dsimp only; omega) ⟨⟨rfl, rfl, rfl, rfl, congrArg iv hw1⟩, rfl, by dsimp only; omega, hst⟩
    · have hlt2 : ¬ p i < D := by
        have := of_decide_eq_false (show decide (((p i : Nat) : Int) < (D : Int)) = false from h2)
        omega
      rw [if_neg hlt2, if_neg hlt2] at hst
      have e2 : IntKind.wrap .u8 (((p i : Nat) : Int) - (D : Int)) = ((p i - D : Nat) : Int) := by rw [w8 (by omega) (by omega)]; omega
      refine runS_x (I := inf) (J := jnf) ⟨false, false, [], 0, 0⟩ 9999 rfl (by repeat (first | exact obs_nil | refine obs_draw (by kernel_rfl) ?_ | refine obs_same ?_ | refine obs_and ?_ | refine obs_by (by (simp [inB, hlt] <;> omega)) ?_)) ?_
      refine runS_tell 0 (rowB (updF p i (p i - D))) rfl (m' := A.length) rfl (fun j hj => rowB_upd (congrArg (fun z => [AV.val (.int .u8 z)]) e2) j) rfl ?_
      refine ih (i + 1, 0, updF p i (p i - D)) _ _ (by dsimp only; omega) ⟨⟨rfl, rfl, rfl, rfl, congrArg iv hw1⟩, rfl, by dsimp only; omega, hst⟩
  · have hie : i = A.length := by
      have : decide ((i : Int) < (A.length : Int)) = false := h
      simp at this
      omega
    subst hie
    obtain ⟨hv, hdg⟩ := lesI_end hll (by omega) hL
    refine rX rfl ?_
    refine runS_tell 0 (limR (listF p A.length)) rfl (m' := A.length) rfl (fun j hj => limR_listF p hj) rfl ?_
    refine runS_freeze 47 rfl rfl rfl (fun j hj => rfl) ?_
    have hc := d_trimmed none (listF p A.length) (by rw [listF_len]; omega) hdg
    unfold limS at hc
    rw [listF_len] at hc
    refine runS_call rfl rfl rfl rfl rfl rfl rfl hc ?_
    refine rX rfl ?_
    refine runS_ret (I := inf) 0 rfl (Nat.le_refl _) rfl .nil rfl ⟨?_, rfl⟩
    unfold trim
    rw [hv, hvx, hvy]
    rfl
theorem d_less0 (b : Bool) (n2 : Option Bool) : CallT Tryz.prog 107 [limS (some b) (frm 0), limS n2 (frm 0)] [] (fun o A => o = .ret (limS none (frm 0)) ∧ A = []) := by
  cases b
  · exact d_less1 n2 0 0 (Nat.le_refl _) (by rw [frm_zero]; decide)
  · rw [frm_zero]
    refine callS_body (n := 49) rfl rfl fun w ρ X => ?_
    refine runS_x (I := inf) (J := jnf) ⟨true, false, [174], 0, 0⟩ 9999 rfl ob1 ?_
    refine runS_while (fun (z : Nat) τ ar => (τ 5 = .val (.slice none 0 0) ∧ τ 12 = iv 0 ∧ τ 13 = iv 0) ∧ ar = []) (fun z => 0) 0 ⟨⟨rfl, rfl, rfl⟩, rfl⟩ ?_
    rintro i τ' ar' ⟨⟨g5, g12, g13⟩, rfl⟩ ih
    refine runS_says 5 (by exact g5) (Says.refl _) ?_; refine runS_says 12 (by exact g12) (Says.refl _) ?_; refine runS_says 13 (by exact g13) (Says.refl _) ?_
    refine runS_x (I := inf) (J := jnf) ⟨true, false, [], 0, 0⟩ 9999 rfl ob1 ?_
    refine runS_says 47 rfl (says_nil0 (sz := 1) (r := nilL) (Nat.zero_le _)) ?_
    have hc := d_trimmed none [] (by decide) (fun d hd => by cases hd)
    refine runS_call rfl rfl rfl rfl rfl rfl rfl hc ?_
    refine rX rfl ?_
    refine runS_ret (I := inf) 0 rfl (Nat.le_refl _) rfl .nil rfl ⟨?_, rfl⟩
    unfold trim
    rw [show frm (val []) = [] from frm_zero]
    rfl
theorem d_less (n1 n2 : Option Bool) (x y : Nat) (hyx : y ≤ x) (hl : (frm x).length ≤ 4000) : CallT Tryz.prog 107 [limS n1 (frm x), limS n2 (frm y)] [] (fun o A => o = .ret (limS none (frm (x - y))) ∧ A = []) := by
  refine callT_says (.cons says_nl (.cons (Says.refl _) .nil)) ?_
  by_cases h0 : x = 0
  · obtain rfl : y = 0 := by omega
    subst h0
    exact callT_nl fun b => d_less0 b n2
  · refine callT_says (.cons (says_nn (Nat.pos_of_ne_zero fun e => h0 (frm_len0.1 e))) (.cons (Says.refl _) .nil)) ?_
    exact d_less1 n2 x y hyx hl
end Go.Iron.Tryz

/- The digits' seat: products of limbs. -/
namespace Go.Iron.Tryz
open Go.Proofs Go.RowKit Go.Iron.Tok Go.Iron.Dg

theorem mul_lt_pow (x y : Nat) {n : Nat} (hn : (frm x).length + (frm y).length ≤ n) : x * y < 10 ^ n :=
  frm_len_lt.1 (Nat.le_trans (frm_len_mul x y) hn)
theorem d_times (n1 n2 : Option Bool) (x y : Nat) (hx : (frm x).length ≤ 4000) (hy : (frm y).length ≤ 4000) : CallT Tryz.prog 125 [limS n1 (frm x), limS n2 (frm y)] [] (fun o A => o = .ret (limS none (frm (x * y))) ∧ A = []) := by
  have hda := fun d (hd : d ∈ frm x) => frm_digit hd
  have hdb := fun d (hd : d ∈ frm y) => frm_digit hd
  have hvx := val_frm x
  have hvy := val_frm y
  have hlp := mul_lt_pow x y (n := (frm x).length + (frm y).length + 1) (by omega)
  generalize frm x = A at *
  generalize frm y = B at *
  have hn0 : IntKind.wrap .i64 (IntKind.wrap .i64 ((A.length : Int) + (B.length : Int)) + 1) = ((A.length + B.length + 1 : Nat) : Int) := by
    rw [w64 (x := (A.length : Int) + (B.length : Int)) (by omega) (by omega), w64 (by omega) (by omega)]; rfl
  refine callS_body (n := 74) rfl rfl fun w ρ X => ?_
  refine runS_x (I := inf) (J := jnf) ⟨false, false, [], 0, 0⟩ 9999 rfl (by repeat (first | exact obs_nil | refine obs_draw (by kernel_rfl) ?_ | refine obs_same ?_ | refine obs_and ?_ | refine obs_by (by (simp [inB, hn0] <;> omega)) ?_)) ?_
  obtain ⟨N, hN⟩ : ∃ N, A.length + B.length + 1 = N := ⟨_, rfl⟩
  rw [hN] at hlp
  refine runS_tell 0 (rowN (fun _ => 0)) rfl (m' := N) (by rw [hn0, hN]; rfl) (fun j hj => rfl) rfl ?_
  refine runS_while (fun (z : Nat × (Nat → Nat)) τ ar => (τ 0 = limS n1 A ∧ τ 1 = limS n2 B ∧ τ 5 = .row 0 0 ∧ τ 21 = limS n1 A ∧ τ 22 = iv A.length ∧ τ 23 = iv z.1) ∧ ar = [.row 3 1 0 N (rowN z.2)] ∧ z.1 ≤ A.length ∧ MulI A B N z.1 0 z.2) (fun z => A.length - z.1) (0, fun _ => 0) ⟨⟨rfl, rfl, rfl, rfl, rfl, rfl⟩, rfl, Nat.zero_le _, mulI_zero A B _⟩ ?_
  rintro ⟨i, s⟩ τ' ar' ⟨⟨g0, g1, g5, g21, g22, g23⟩, rfl, hi, hL⟩ ih
  dsimp only at g23 hi hL ih ⊢
  refine runS_says 0 (by exact g0) (Says.refl _) ?_; refine runS_says 1 (by exact g1) (Says.refl _) ?_; refine runS_says 5 (by exact g5) (Says.refl _) ?_; refine runS_says 21 (by exact g21) (Says.refl _) ?_; refine runS_says 22 (by exact g22) (Says.refl _) ?_; refine runS_says 23 (by exact g23) (Says.refl _) ?_
  refine rX rfl ?_
  refine runS_cond rfl (fun h => ?_) (fun h => ?_)
  · have hlt : i < A.length := by simp at h; omega
    have hw1 : IntKind.wrap .i64 ((i : Int) + 1) = ((i + 1 : Nat) : Int) := by rw [w64 (by omega) (by omega)]; rfl
    have hai := getD_lt hda i
    refine runS_x (I := inf) (J := jnf) ⟨false, false, [], 0, 0⟩ 9999 rfl (by repeat (first | exact obs_nil | refine obs_draw (by kernel_rfl) ?_ | refine obs_same ?_ | refine obs_and ?_ | refine obs_by (by (simp [inB, hlt] <;> omega)) ?_)) ?_
    refine runS_while (fun (z : Nat × (Nat → Nat)) τ ar => (τ 0 = limS n1 A ∧ τ 1 = limS n2 B ∧ τ 5 = .row 0 0 ∧ τ 6 = iv i ∧ τ 7 = uv (A.getD i 0) ∧ τ 21 = limS n1 A ∧ τ 22 = iv A.length ∧ τ 23 = iv i ∧ τ 28 = limS n2 B ∧ τ 29 = iv B.length ∧ τ 30 = iv z.1) ∧ ar = [.row 3 1 0 N (rowN z.2)] ∧ z.1 ≤ B.length ∧ MulI A B N i z.1 z.2) (fun z => B.length - z.1) (0, s) ⟨⟨rfl, rfl, rfl, rfl, rfl, rfl, rfl, rfl, rfl, rfl, rfl⟩, rfl, Nat.zero_le _, hL⟩ ?_
    rintro ⟨k, s2⟩ τ2 ar2 ⟨⟨g0, g1, g5, g6, g7, g21, g22, g23, g28, g29, g30⟩, rfl, hk, hK⟩ ih2
    dsimp only at g30 hk hK ih2 ⊢
    refine runS_says 0 (by exact g0) (Says.refl _) ?_; refine runS_says 1 (by exact g1) (Says.refl _) ?_; refine runS_says 5 (by exact g5) (Says.refl _) ?_; refine runS_says 6 (by exact g6) (Says.refl _) ?_; refine runS_says 7 (by exact g7) (Says.refl _) ?_; refine runS_says 21 (by exact g21) (Says.refl _) ?_; refine runS_says 22 (by exact g22) (Says.refl _) ?_; refine runS_says 23 (by exact g23) (Says.refl _) ?_; refine runS_says 28 (by exact g28) (Says.refl _) ?_; refine runS_says 29 (by exact g29) (Says.refl _) ?_; refine runS_says 30 (by exact g30) (Says.refl _) ?_
    refine rX rfl ?_
    refine runS_cond rfl (fun h2 => ?_) (fun h2 => ?_)
    · have hkt : k < B.length := by simp at h2; omega
      have hbk := getD_lt hdb k
      have hw2 : IntKind.wrap .i64 ((k : Int) + 1) = ((k + 1 : Nat) : Int) := by rw [w64 (by omega) (by omega)]; rfl
      have hwi : IntKind.wrap .i64 ((i : Int) + (k : Int)) = ((i + k : Nat) : Int) := by rw [w64 (by omega) (by omega)]; rfl
      have hle := hK.le (i + k)
      have hsm : (if i ≤ i + k ∧ i + k < i + k then 81 else 0) ≤ 81 := by split <;> omega
      have hm81 : A.getD i 0 * B.getD k 0 ≤ 81 := Nat.mul_le_mul (show A.getD i 0 ≤ 9 by omega) (show B.getD k 0 ≤ 9 by omega)
      have hev : IntKind.wrap .i64 (((s2 (i + k) : Nat) : Int) + IntKind.wrap .i64 (IntKind.wrap .i64 ((A.getD i 0 : Nat) : Int) * IntKind.wrap .i64 ((B.getD k 0 : Nat) : Int))) = ((s2 (i + k) + A.getD i 0 * B.getD k 0 : Nat) : Int) := by
        rw [w64 (x := ((A.getD i 0 : Nat) : Int)) (by omega) (by omega), w64 (x := ((B.getD k 0 : Nat) : Int)) (by omega) (by omega), ← Int.natCast_mul, w64 (x := ((A.getD i 0 * B.getD k 0 : Nat) : Int)) (by omega) (by omega), w64 (by omega) (by omega)]
        rfl
      have hst := mulI_step hda hdb hkt (by omega) hK
      refine runS_x (I := inf) (J := jnf) ⟨false, false, [], 0, 0⟩ 9999 rfl (by repeat (first | exact obs_nil | refine obs_draw (by kernel_rfl) ?_ | refine obs_same ?_ | refine obs_and ?_ | refine obs_by (by (simp [inB, hkt, hwi] <;> omega)) ?_)) ?_
      rw [hwi]
      refine runS_tell 0 (rowN (updF s2 (i + k) (s2 (i + k) + A.getD i 0 * B.getD k 0))) rfl (m' := N) rfl (fun j hj => rowN_upd (congrArg (fun z => [iv z]) hev) j) rfl ?_
      exact ih2 (k + 1, updF s2 (i + k) (s2 (i + k) + A.getD i 0 * B.getD k 0)) _ _ (by dsimp only; omega) ⟨⟨rfl, rfl, rfl, rfl, rfl, rfl, rfl, rfl, rfl, rfl, congrArg iv hw2⟩, rfl, by dsimp only; omega, hst⟩
    · have hke : k = B.length := by simp at h2; omega
      subst hke
      refine rX rfl ?_
      exact ih (i + 1, s2) _ _ (by dsimp only; omega) ⟨⟨rfl, rfl, rfl, rfl, rfl, congrArg iv hw1⟩, rfl, by dsimp only; omega, mulI_row hlt hK⟩
  · have hie : i = A.length := by simp at h; omega
    subst hie
    refine rX rfl ?_
    have hM : ∀ j, s j ≤ 81 * A.length := fun j => by
      have := hL.le j
      rw [if_neg (by omega)] at this
      exact this
    have hsum : sumF s N = x * y := by
      have := hL.sum
      rw [List.take_length, List.take_zero, hvx, hvy] at this
      rw [this]
      show x * y + _ * 0 = _
      rw [Nat.mul_zero, Nat.add_zero]
    refine runS_tell 1 (rowB (fun _ => 0)) rfl (m' := N) rfl (fun j hj => rfl) rfl ?_
    refine runS_while (fun (z : Nat × Nat × (Nat → Nat)) τ ar => (τ 10 = .row 1 0 ∧ τ 11 = iv z.2.1 ∧ τ 53 = .row 0 0 ∧ τ 54 = iv (N : Int) ∧ τ 55 = iv z.1) ∧ ar = [.row 3 1 0 N (rowN s), .row 5 1 0 N (rowB z.2.2)] ∧ z.1 ≤ N ∧ CarJ s 400000 z.1 z.2.1 z.2.2) (fun z => N - z.1) (0, 0, fun _ => 0) ⟨⟨rfl, rfl, rfl, rfl, rfl⟩, rfl, Nat.zero_le _, ⟨rfl, fun j hj => by omega, by dsimp only; omega⟩⟩ ?_
    rintro ⟨j, c, p⟩ τ3 ar3 ⟨⟨g10, g11, g53, g54, g55⟩, rfl, hj, hC⟩ ih3
    dsimp only at g11 g55 hj hC ih3 ⊢
    refine runS_says 10 (by exact g10) (Says.refl _) ?_; refine runS_says 11 (by exact g11) (Says.refl _) ?_; refine runS_says 53 (by exact g53) (Says.refl _) ?_; refine runS_says 54 (by exact g54) (Says.refl _) ?_; refine runS_says 55 (by exact g55) (Says.refl _) ?_
    refine rX rfl ?_
    refine runS_cond rfl (fun h3 => ?_) (fun h3 => ?_)
    · have hjt : j < N := by
        have := of_decide_eq_true (show decide ((j : Int) < (N : Int)) = true from h3)
        omega
      have hw3 : IntKind.wrap .i64 ((j : Int) + 1) = ((j + 1 : Nat) : Int) := by rw [w64 (by omega) (by omega)]; rfl
      have hsj := hM j
      have hcl := hC.cle
      have hst := carJ_step (by omega) (by omega) hC
      have hcs : IntKind.wrap .i64 ((c : Int) + ((s j : Nat) : Int)) = ((c + s j : Nat) : Int) := by rw [w64 (by omega) (by omega)]; rfl
      have e1 : IntKind.wrap .u8 ((IntKind.wrap .i64 ((c : Int) + ((s j : Nat) : Int))).tmod 10) = (((c + s j) % 10 : Nat) : Int) := by
        rw [hcs, Int.natCast_emod, Int.tmod_eq_emod_of_nonneg (by omega), w8 (by omega) (by omega)]; rfl
      have e2 : IntKind.wrap .i64 ((IntKind.wrap .i64 ((c : Int) + ((s j : Nat) : Int))).tdiv 10) = (((c + s j) / 10 : Nat) : Int) := by
        rw [hcs, Int.tdiv_eq_ediv_of_nonneg (by omega), w64 (by omega) (by omega), Int.natCast_ediv]; rfl
      refine runS_x (I := inf) (J := jnf) ⟨false, false, [], 0, 0⟩ 9999 rfl (by repeat (first | exact obs_nil | refine obs_draw (by kernel_rfl) ?_ | refine obs_same ?_ | refine obs_and ?_ | refine obs_by (by (simp [inB, hjt] <;> omega)) ?_)) ?_
      refine runS_tell 1 (rowB (updF p j ((c + s j) % 10))) rfl (m' := N) rfl (fun k hk => rowB_upd (congrArg (fun z => [AV.val (.int .u8 z)]) e1) k) rfl ?_
      exact ih3 (j + 1, (c + s j) / 10, updF p j ((c + s j) % 10)) _ _ (by dsimp only; omega) ⟨⟨rfl, congrArg iv e2, rfl, rfl, congrArg iv hw3⟩, rfl, by dsimp only; omega, hst⟩
    · have hje : j = N := by
        have := of_decide_eq_false (show decide ((j : Int) < (N : Int)) = false from h3)
        omega
      subst hje
      obtain ⟨hv, hdg⟩ := carJ_end (by rw [hsum]; exact hlp) hC
      refine rX rfl ?_
      refine runS_tell 1 (limR (listF p j)) rfl (m' := j) rfl (fun k hk => limR_listF p hk) rfl ?_
      refine runS_freeze 72 rfl rfl rfl (fun k hk => rfl) ?_
      have hc := d_trimmed none (listF p j) (by rw [listF_len]; omega) hdg
      unfold limS at hc
      rw [listF_len] at hc
      refine runS_drop 0 (Nat.zero_le _) rfl (by repeat (first | exact .nil | refine .row (fun j hj => rfl) ?_ | refine .box rfl ?_ | refine .fam (fun k j hk hj => rfl) ?_ | refine .loop (scrub_under _ _) ?_ | refine .dfr ?_ | refine .gone ?_ | refine .map (fun p hp => by (obtain ⟨k, _, rfl⟩ := List.mem_map.1 hp; rfl)) ?_)) rfl rfl rfl (by repeat (first | exact .nil | refine .cons rfl rfl rfl (scrub_under _ _) ?_)) ?_
      refine runS_call rfl rfl rfl rfl rfl rfl rfl hc ?_
      refine rX rfl ?_
      refine runS_ret (I := inf) 0 rfl (Nat.le_refl _) rfl .nil rfl ⟨?_, rfl⟩
      unfold trim
      rw [hv, hsum]
      rfl
end Go.Iron.Tryz

/- The digits' seat: powers, whole numbers, what is right of values. -/
namespace Go.Iron.Tryz
open Go.Proofs Go.RowKit Go.Iron.Tok Go.Iron.Dg

theorem r_base (kd p q n : Int) (vy : Bool) (pc : Str) : CallT Tryz.prog 79 [.agg [iv kd, iv p, iv q, iv n, bv vy, sv pc]] [] (fun o A => o = .ret (iv (if kd = 1 then 2 else 10)) ∧ A = []) := by
  refine callS_body (n := 6) rfl rfl fun w ρ X => ?_
  refine rX rfl ?_
  refine runS_cond rfl (fun h => ?_) (fun h => ?_)
  · have hk : kd = 1 := by simpa using (show (kd == 1) = true from h)
    refine rX rfl ?_
    refine runS_ret (I := inf) 0 rfl (Nat.le_refl _) rfl .nil rfl ⟨?_, rfl⟩
    rw [if_pos hk]
    rfl
  · have hk : ¬ kd = 1 := by simpa using (show (kd == 1) = false from h)
    refine rX rfl ?_
    refine runS_ret (I := inf) 0 rfl (Nat.le_refl _) rfl .nil rfl ⟨?_, rfl⟩
    rw [if_neg hk]
    rfl
theorem r_pow10 (n : Nat) (hn : n ≤ 1000) : CallT Tryz.prog 61 [iv 10, iv n] [] (fun o A => o = .ret (natS none (frm (10 ^ n))) ∧ A = []) := by
  refine callS_body (n := 23) rfl rfl fun w ρ X => ?_
  refine rX rfl ?_
  refine runS_cond rfl (fun h => ?_) (fun h => by cases h)
  have hl' : (List.replicate n 0 ++ [1]).length = n + 1 := by simp
  refine rX rfl ?_
  refine runS_tell 0 (natR (List.replicate n 0 ++ [1])) rfl (m' := n + 1) rfl (fun i hi => ?_) rfl ?_
  · show natR (List.replicate n 0 ++ [1]) i = appR n _ _ i
    unfold natR encR
    by_cases h : i < n
    · rw [appR_lt h, List.getD_eq_getElem?_getD, List.getElem?_append_left (by simpa using h), List.getElem?_replicate, if_pos h]
      rfl
    · have hie : i = n := by omega
      subst hie
      rw [appR_ge (Nat.le_refl _), List.getD_eq_getElem?_getD, List.getElem?_append_right (by simp), List.length_replicate, Nat.sub_self]
      rfl
  refine runS_freeze 4 rfl rfl rfl (fun j hj => rfl) ?_
  refine runS_ret (I := inf) 0 rfl (Nat.le_refl _) rfl .nil rfl ⟨?_, rfl⟩
  rw [frm_pow]
  unfold natS
  rw [hl']
  rfl
theorem r_pow2 (n : Nat) (hn : n ≤ 60) : CallT Tryz.prog 61 [iv 2, iv n] [] (fun o A => o = .ret (natS none (frm (2 ^ n))) ∧ A = []) := by
  refine callS_body (n := 23) rfl rfl fun w ρ X => ?_
  refine rX rfl ?_
  refine runS_cond rfl (fun h => by cases h) (fun h => ?_)
  refine rX rfl ?_
  refine runS_tell 0 (natR (frm 1)) rfl (m' := 1) rfl (fun i hi => by
    have : i = 0 := by omega
    subst this
    rw [frm_one]
    rfl) rfl ?_
  refine runS_freeze 5 rfl rfl rfl (fun j hj => rfl) ?_
  refine runS_drop 0 (Nat.zero_le _) rfl (by repeat (first | exact .nil | refine .row (fun j hj => rfl) ?_ | refine .box rfl ?_ | refine .fam (fun k j hk hj => rfl) ?_ | refine .loop (scrub_under _ _) ?_ | refine .dfr ?_ | refine .gone ?_ | refine .map (fun p hp => by (obtain ⟨k, _, rfl⟩ := List.mem_map.1 hp; rfl)) ?_)) rfl rfl rfl (by repeat (first | exact .nil | refine .cons rfl rfl rfl (scrub_under _ _) ?_)) ?_
  refine runS_while (fun (i : Nat) τ ar => (τ 1 = iv n ∧ τ 5 = natS none (frm (2 ^ i)) ∧ τ 6 = iv i) ∧ ar = [] ∧ i ≤ n) (fun i => n - i) 0 ⟨⟨rfl, by rw [Nat.pow_zero]; unfold natS; rw [show (frm 1).length = 1 by rw [frm_one]; rfl]; rfl, rfl⟩, rfl, Nat.zero_le _⟩ ?_
  rintro i τ' ar' ⟨⟨g1, g5, g6⟩, rfl, hi⟩ ih
  refine runS_says 1 (by exact g1) (Says.refl _) ?_; refine runS_says 5 (by exact g5) (Says.refl _) ?_; refine runS_says 6 (by exact g6) (Says.refl _) ?_
  refine rX rfl ?_
  refine runS_cond rfl (fun h => ?_) (fun h => ?_)
  · have hlt : i < n := by simp at h; omega
    have hw : IntKind.wrap .i64 ((i : Int) + 1) = ((i + 1 : Nat) : Int) := by rw [w64 (by omega) (by omega)]; rfl
    have hb : (frm (2 ^ i)).length ≤ 4000 := Nat.le_trans (frm_len_lt.2 (Nat.lt_of_lt_of_le (Nat.pow_lt_pow_right (by decide) (show i < 62 by omega)) (show 2 ^ 62 ≤ 10 ^ 19 by decide))) (by decide)
    have hpl := r_plus none none (2 ^ i) (2 ^ i) hb hb
    rw [show 2 ^ i + 2 ^ i = 2 ^ (i + 1) by rw [Nat.pow_succ]; omega] at hpl
    refine rX rfl ?_
    refine runS_call rfl rfl rfl rfl rfl rfl rfl hpl ?_
    refine rX rfl ?_
    exact ih (i + 1) _ _ (by omega) ⟨⟨rfl, rfl, congrArg iv hw⟩, rfl, hlt⟩
  · have hlt : i = n := by simp at h; omega
    subst hlt
    refine rX rfl ?_
    refine runS_ret (I := inf) 0 rfl (Nat.le_refl _) rfl .nil rfl ⟨?_, rfl⟩
    rfl
theorem r_bits (s : Str) (hs : s.length ≤ 4611686018427387904) : CallT Tryz.prog 56 [sv s] [] (fun o A => o = .ret (bv (s.all fun b => b.toNat == 48 || b.toNat == 49)) ∧ A = []) := by
  refine callS_body (n := 20) rfl rfl fun w ρ X => ?_
  refine rX rfl ?_
  refine runS_while (fun (i : Nat) τ ar => (τ 0 = sv s ∧ τ 3 = iv i) ∧ ar = [] ∧ i ≤ s.length ∧ ∀ j, j < i → byt s j = 48 ∨ byt s j = 49) (fun i => s.length - i) 0 ⟨⟨rfl, rfl⟩, rfl, Nat.zero_le _, fun j hj => by omega⟩ ?_
  rintro i τ' ar' ⟨⟨g0, g3⟩, rfl, hi, hall⟩ ih
  refine runS_says 0 (by exact g0) (Says.refl _) ?_; refine runS_says 3 (by exact g3) (Says.refl _) ?_
  refine runS_x (I := inf) (J := jnf) ⟨false, false, [], 0, 0⟩ 9999 rfl (by repeat (first | exact obs_nil | refine obs_draw (by kernel_rfl) ?_ | refine obs_same ?_ | refine obs_and ?_ | refine obs_by (by (simp [inB, blS] <;> omega)) ?_)) ?_
  refine runS_cond rfl (fun h1 => ?_) (fun h1 => ?_)
  · have hil : i < s.length := by
      have : decide ((i : Int) < (s.length : Int)) = true := h1
      simp at this
      omega
    have hw1 : IntKind.wrap .i64 ((i : Int) + 1) = ((i + 1 : Nat) : Int) := by rw [w64 (by omega) (by omega)]; rfl
    refine runS_x (I := inf) (J := jnf) ⟨false, false, [], 0, 0⟩ 9999 rfl (by repeat (first | exact obs_nil | refine obs_draw (by kernel_rfl) ?_ | refine obs_same ?_ | refine obs_and ?_ | refine obs_by (by (simp [inB, blS, hil] <;> omega)) ?_)) ?_
    have hcd : (if (!(((byt s i : Nat) : Int) == 48)) = true then (!(((byt s i : Nat) : Int) == 49)) else false) = !decide (byt s i = 48 ∨ byt s i = 49) := by
      rw [Bool.eq_iff_iff]
      by_cases h1 : byt s i = 48 <;> by_cases h2 : byt s i = 49 <;> simp [h1, h2] <;> omega
    refine runS_cond rfl (fun h2 => ?_) (fun h2 => ?_)
    · have hno : ¬ (byt s i = 48 ∨ byt s i = 49) := by
        have := hcd.symm.trans h2
        simpa using this
      refine rX rfl ?_
      refine runS_ret (I := inf) 0 rfl (Nat.le_refl _) rfl .nil rfl ⟨?_, rfl⟩
      refine congrArg (fun x => Out.ret (bv x)) ?_
      symm
      rw [← Bool.not_eq_true, List.all_eq_true]
      intro hh
      have := hh _ (List.getElem_mem hil)
      rw [← byt_get hil] at this
      exact hno (by simpa using this)
    · have hyes : byt s i = 48 ∨ byt s i = 49 := by
        have := hcd.symm.trans h2
        have h3 : decide (byt s i = 48 ∨ byt s i = 49) = true := by
          cases h : decide (byt s i = 48 ∨ byt s i = 49) with
          | true => rfl
          | false => rw [h] at this; cases this
        exact of_decide_eq_true h3
      refine rX rfl ?_
      refine ih (i + 1) _ _ (by omega) ⟨⟨rfl, congrArg iv hw1⟩, rfl, hil, fun j hj => ?_⟩
      by_cases hji : j = i
      · subst hji; exact hyes
      · exact hall j (by omega)
  · have hie : i = s.length := by
      have : decide ((i : Int) < (s.length : Int)) = false := h1
      simp at this
      omega
    subst hie
    refine rX rfl ?_
    refine runS_ret (I := inf) 0 rfl (Nat.le_refl _) rfl .nil rfl ⟨?_, rfl⟩
    refine congrArg (fun x => Out.ret (bv x)) ?_
    symm
    rw [List.all_eq_true]
    intro b hb
    obtain ⟨j, hj, rfl⟩ := List.mem_iff_getElem.1 hb
    have := hall j hj
    rw [byt_get hj] at this
    simpa using this
end Go.Iron.Tryz

/- The digits' seat: powers, numbers of limbs. -/
namespace Go.Iron.Tryz
open Go.Proofs Go.RowKit Go.Iron.Tok Go.Iron.Dg

theorem d_power (b n : Nat) (hb : b ≤ 10) (hn : n ≤ 1000) : CallT Tryz.prog 171 [iv b, iv n] [] (fun o A => o = .ret (limS none (frm (b ^ n))) ∧ A = []) := by
  have hlen : ∀ i, i ≤ n → (frm (b ^ i)).length ≤ 4000 := fun i hi => by
    have h1 : b ^ i ≤ 10 ^ i := Nat.pow_le_pow_left hb i
    have h2 : b ^ i < 10 ^ (n + 1) := Nat.lt_of_le_of_lt h1 (Nat.pow_lt_pow_right (by decide) (by omega))
    have := frm_len_lt.2 h2
    omega
  refine callS_body (n := 16) rfl rfl fun w ρ X => ?_
  refine rX rfl ?_
  refine runS_call rfl rfl rfl rfl rfl rfl rfl (d_of 1 (by decide)) ?_
  refine rX rfl ?_
  refine runS_while (fun (i : Nat) τ ar => (τ 0 = iv b ∧ τ 5 = limS none (frm (b ^ i)) ∧ τ 7 = iv n ∧ τ 8 = iv i) ∧ ar = [] ∧ i ≤ n) (fun i => n - i) 0 ⟨⟨rfl, by rw [Nat.pow_zero]; rfl, rfl, rfl⟩, rfl, Nat.zero_le _⟩ ?_
  rintro i τ' ar' ⟨⟨g0, g5, g7, g8⟩, rfl, hi⟩ ih
  refine runS_says 0 (by exact g0) (Says.refl _) ?_; refine runS_says 5 (by exact g5) (Says.refl _) ?_; refine runS_says 7 (by exact g7) (Says.refl _) ?_; refine runS_says 8 (by exact g8) (Says.refl _) ?_
  refine rX rfl ?_
  refine runS_cond rfl (fun h => ?_) (fun h => ?_)
  · have hlt : i < n := by simp at h; omega
    have hw : IntKind.wrap .i64 ((i : Int) + 1) = ((i + 1 : Nat) : Int) := by rw [w64 (by omega) (by omega)]; rfl
    have h1 := d_of b (by omega)
    have h2 := d_times none none (b ^ i) b (hlen i (by omega)) (Nat.le_trans (frm_len_lt.2 (show b < 10 ^ 2 by omega)) (by decide))
    rw [← Nat.pow_succ] at h2
    refine rX rfl ?_
    refine runS_call rfl rfl rfl rfl rfl rfl rfl h1 ?_
    refine rX rfl ?_
    refine runS_call rfl rfl rfl rfl rfl rfl rfl h2 ?_
    refine rX rfl ?_
    exact ih (i + 1) _ _ (by omega) ⟨⟨rfl, rfl, rfl, congrArg iv hw⟩, rfl, hlt⟩
  · have hlt : i = n := by simp at h; omega
    subst hlt
    refine rX rfl ?_
    refine runS_ret (I := inf) 0 rfl (Nat.le_refl _) rfl .nil rfl ⟨?_, rfl⟩
    rfl
theorem val_drop_le (l : List Nat) (k : Nat) : val (l.drop k) ≤ val l := by
  have h := val_app (l.take k) (l.drop k)
  rw [List.take_append_drop] at h
  have : 1 * val (l.drop k) ≤ 10 ^ (l.take k).length * val (l.drop k) := Nat.mul_le_mul_right _ (Nat.pow_pos (by decide))
  omega
theorem d_numL (n1 : Option Bool) (A : List Nat) (hll : A.length ≤ 18) (hda : ∀ d ∈ A, d < 10) : CallT Tryz.prog 206 [limS n1 A] [] (fun o A' => o = .ret (iv (val A : Nat)) ∧ A' = []) := by
  have hx : val A < 1000000000000000000 := Nat.lt_of_lt_of_le (val_lt hda) (Nat.pow_le_pow_right (by decide) hll)
  have hw0 : IntKind.wrap .i64 ((A.length : Int) - 1) = (A.length : Int) - 1 := w64 (by omega) (by omega)
  refine callS_body (n := 14) rfl rfl fun w ρ X => ?_
  refine runS_x (I := inf) (J := jnf) ⟨false, false, [117, 186], 0, 0⟩ 9999 rfl ob1 ?_
  refine runS_forget 4 rfl ?_; refine runS_forgetLoop 4 3 rfl rfl ?_
  refine runS_name 3 rfl (fun L => rfl) (fun L hL => ?_)
  refine runS_while (fun (i : Nat) τ ar => (τ 0 = .yld 3 ∧ τ 1 = .ptr 1 0 0 ∧ τ 3 = iv ((i : Int) - 1)) ∧ ar = [.box 3 [iv (val (A.drop i) : Nat)], .box 72 [limS n1 A], .dfr true, L] ∧ i ≤ A.length) (fun i => i) A.length ⟨⟨rfl, rfl, congrArg iv hw0⟩, by rw [List.drop_length]; rfl, Nat.le_refl _⟩ ?_
  rintro i τ' ar' ⟨⟨g0, g1, g3⟩, rfl, hi⟩ ih
  subst hL
  refine runS_says 0 (by exact g0) (Says.refl _) ?_; refine runS_says 1 (by exact g1) (Says.refl _) ?_; refine runS_says 3 (by exact g3) (Says.refl _) ?_
  refine rX rfl ?_
  refine runS_cond rfl (fun h => ?_) (fun h => ?_)
  · have hi0 : 0 < i := by
      have : decide ((i : Int) - 1 ≥ 0) = true := h
      simp at this
      omega
    obtain ⟨k, rfl⟩ : ∃ k, i = k + 1 := ⟨i - 1, by omega⟩
    have hk : k < A.length := by omega
    have e1 : (((k + 1 : Nat) : Int) - 1) = (k : Int) := by omega
    rw [e1] at g3 ⊢
    have hwk : IntKind.wrap .i64 ((k : Int) - 1) = (k : Int) - 1 := w64 (by omega) (by omega)
    have hv := val_drop A k
    have hle := val_drop_le A k
    have hd9 := getD_lt hda k
    have hev : IntKind.wrap .i64 (IntKind.wrap .i64 (((val (A.drop (k + 1)) : Nat) : Int) * 10) + IntKind.wrap .i64 ((A.getD k 0 : Nat) : Int)) = ((val (A.drop k) : Nat) : Int) := by
      rw [w64 (x := ((val (A.drop (k + 1)) : Nat) : Int) * 10) (by omega) (by omega), w64 (x := ((A.getD k 0 : Nat) : Int)) (by omega) (by omega), w64 (by omega) (by omega)]
      omega
    refine runS_x (I := inf) (J := jnf) ⟨true, false, [], 0, 0⟩ 9999 rfl (by repeat (first | exact obs_nil | refine obs_draw (by kernel_rfl) ?_ | refine obs_same ?_ | refine obs_and ?_ | refine obs_by (by (simp [inB, hk] <;> omega)) ?_)) ?_
    refine runS_drop 4 (Nat.zero_le _) rfl (by repeat (first | exact .nil | refine .row (fun j hj => rfl) ?_ | refine .box rfl ?_ | refine .fam (fun k j hk hj => rfl) ?_ | refine .loop (scrub_under _ _) ?_ | refine .dfr ?_ | refine .gone ?_ | refine .map (fun p hp => by (obtain ⟨k, _, rfl⟩ := List.mem_map.1 hp; rfl)) ?_)) rfl rfl rfl (by repeat (first | exact .nil | refine .cons rfl rfl rfl (scrub_under _ _) ?_)) ?_
    exact ih k _ _ (by omega) ⟨⟨rfl, rfl, congrArg iv hwk⟩, by rw [← hev]; rfl, by omega⟩
  · have hi0 : i = 0 := by
      have : decide ((i : Int) - 1 ≥ 0) = false := h
      simp at this
      omega
    subst hi0
    refine runS_x (I := inf) (J := jnf) ⟨true, false, [], 0, 0⟩ 9999 rfl ob1 ?_
    refine runS_ret (I := inf) 0 rfl (Nat.le_refl _) rfl .nil rfl ⟨?_, rfl⟩
    rw [List.drop_zero]
    rfl
theorem d_number (n1 : Option Bool) (x : Nat) (hx : x < 1000000000000000000) : CallT Tryz.prog 206 [limS n1 (frm x)] [] (fun o A => o = .ret (iv (x : Nat)) ∧ A = []) := by
  have h := d_numL n1 (frm x) (frm_len_lt.2 hx) (fun d hd => frm_digit hd)
  rw [val_frm] at h
  exact h
end Go.Iron.Tryz

/- The digits' seat: a row of digits turned round. -/
namespace Go.Iron.Tryz
open Go.Proofs Go.RowKit Go.Iron.Tok Go.Iron.Dg

end Go.Iron.Tryz

/- The digits' seat: quotients of limbs. -/
namespace Go.Iron.Tryz
open Go.Proofs Go.RowKit Go.Iron.Tok Go.Iron.Dg

end Go.Iron.Tryz

/- The digits' seat: exact numbers (exact, level, sum, product). -/
namespace Go.Iron.Tryz
open Go.Proofs Go.RowKit Go.Iron.Tok Go.Iron.Dg

theorem d_exact (kd n q : Int) (s : Str) (hn1 : -1000000000000000 < n) (hn2 : n < 1000000000000000) (hq : kd = 1 ∨ kd = 2 → 0 ≤ q ∧ q ≤ 31) : CallT Tryz.prog 102 [.agg (vaE kd n q s)] [] (fun o A => o = .ret (lgA (exactL kd n q)) ∧ A = []) := by
  have hab : (if IntKind.wrap .i64 (0 - n) > n then IntKind.wrap .i64 (0 - n) else n) = ((n.natAbs : Nat) : Int) := by
    rw [w64 (by omega) (by omega)]
    split <;> omega
  have hof := d_of n.natAbs (by omega)
  refine callS_body (n := 40) rfl rfl fun w ρ X => ?_
  refine rX rfl ?_
  have hof' : CallT Tryz.prog 87 [.val (.int .i64 (if IntKind.wrap .i64 (0 - n) > n then IntKind.wrap .i64 (0 - n) else n))] [] (fun o A => o = .ret (limS none (frm n.natAbs)) ∧ A = []) := by rw [hab]; exact hof
  refine runS_drawG (ch := []) (A2 := fun _ => []) 12 [11] (fun b => [.box 23 (vaE kd n q s), .box 74 [.val (.slice none 0 0), bv false, iv 0]] ++ cond (b.getD 0 false) [.box 74 [.val (.slice none 0 0), bv false, iv 0]] []) none (c := 9) jnfI.draw (by kernel_rfl) rfl (lexg_g (I := inf) (J := jnf) none ⟨⟨_, rfl, ob0⟩, oi⟩ rfl rfl rfl rfl (lexg_g (I := inf) (J := jnf) none ⟨⟨_, rfl, ob0⟩, oi⟩ rfl rfl rfl rfl (lexg_g (I := inf) (J := jnf) none ⟨⟨_, rfl, ob0⟩, oi⟩ rfl rfl rfl rfl (lexg_g (I := inf) (J := jnf) none ⟨⟨_, rfl, ob0⟩, oi⟩ rfl rfl rfl rfl (lexg_g (I := inf) (J := jnf) none ⟨⟨_, rfl, ob0⟩, oi⟩ rfl rfl rfl rfl (lexg_g (I := inf) (J := jnf) none ⟨⟨_, rfl, ob0⟩, oi⟩ rfl rfl rfl rfl (lexg_call rfl rfl rfl rfl rfl rfl rfl rfl rfl hof' (lexg_g (I := inf) (J := jnf) none ⟨⟨_, rfl, ob0⟩, oi⟩ rfl rfl rfl rfl (lexg_g (I := inf) (J := jnf) none ⟨⟨_, rfl, ob0⟩, oi⟩ rfl rfl rfl rfl (lexg_g (I := inf) (J := jnf) none ⟨⟨_, rfl, ob0⟩, oi⟩ rfl rfl rfl rfl (lexg_g (I := inf) (J := jnf) none ⟨⟨_, rfl, ob0⟩, oi⟩ rfl rfl rfl rfl (lexg_a rfl rfl ⟨(show _ = _ from rfl), .inl rfl⟩ rfl rfl rfl rfl lexg_nil)))))))))))) rfl (fun _ => ?_) (fun h => by cases h)
  refine rX rfl ?_
  refine runS_cond rfl (fun h => ?_) (fun h => ?_)
  · have hk : kd = 1 := by simpa using (show (kd == 1) = true from h)
    subst hk
    obtain ⟨hq1, hq2⟩ := hq (.inl rfl)
    obtain ⟨Q, rfl⟩ : ∃ Q : Nat, q = (Q : Int) := ⟨q.toNat, by omega⟩
    have hl1 : (frm n.natAbs).length ≤ 15 := frm_len_lt.2 (by omega)
    have hl2 : (frm (5 ^ Q)).length ≤ 32 := frm_len_lt.2 (Nat.lt_of_le_of_lt (Nat.pow_le_pow_left (by decide : 5 ≤ 10) Q) (Nat.pow_lt_pow_right (by decide) (by omega)))
    have hp := d_power 5 Q (by decide) (by omega)
    have ht := d_times none none n.natAbs (5 ^ Q) (by omega) (by omega)
    have hwq : IntKind.wrap .i64 (0 - (Q : Int)) = -(Q : Int) := by rw [w64 (by omega) (by omega)]; omega
    refine rX rfl ?_
    refine runS_drawG (ch := []) (A2 := fun _ => []) 11 [10] (fun b => [.box 23 (vaE 1 n Q s), .box 74 [.val (.slice none 0 0), bv false, iv 0], .box 74 [cond (b.getD 0 false) (limS none (frm (n.natAbs * 5 ^ Q))) (limS none (frm n.natAbs)), bv (decide (n < 0)), iv 0]]) none (c := 9) jnfI.draw (by kernel_rfl) rfl (lexg_g (I := inf) (J := jnf) none ⟨⟨_, rfl, ob0⟩, oi⟩ rfl rfl rfl rfl (lexg_g (I := inf) (J := jnf) none ⟨⟨_, rfl, ob0⟩, oi⟩ rfl rfl rfl rfl (lexg_g (I := inf) (J := jnf) none ⟨⟨_, rfl, ob0⟩, oi⟩ rfl rfl rfl rfl (lexg_g (I := inf) (J := jnf) none ⟨⟨_, rfl, ob0⟩, oi⟩ rfl rfl rfl rfl (lexg_call rfl rfl rfl rfl rfl rfl rfl rfl rfl hp (lexg_call rfl rfl rfl rfl rfl rfl rfl rfl rfl ht (lexg_g (I := inf) (J := jnf) none ⟨⟨_, rfl, ob0⟩, oi⟩ rfl rfl rfl rfl (lexg_g (I := inf) (J := jnf) none ⟨⟨_, rfl, ob0⟩, oi⟩ rfl rfl rfl rfl (lexg_g (I := inf) (J := jnf) none ⟨⟨_, rfl, ob0⟩, oi⟩ rfl rfl rfl rfl (lexg_g (I := inf) (J := jnf) none ⟨⟨_, rfl, ob0⟩, oi⟩ rfl rfl rfl rfl (lexg_g (I := inf) (J := jnf) (some .store) ⟨⟨_, rfl, ob0⟩, .inl rfl⟩ rfl rfl rfl rfl lexg_nil))))))))))) rfl (fun _ => ?_) (fun h => by cases h)
    refine rX rfl ?_
    refine runS_ret (I := inf) 0 rfl (Nat.le_refl _) rfl .nil rfl ⟨?_, rfl⟩
    refine congrArg (fun z => Out.ret (AV.agg [limS none (frm (n.natAbs * 5 ^ Q)), bv (decide (n < 0)), iv z])) ?_
    exact hwq
  · have hk1 : ¬ kd = 1 := by simpa using (show (kd == 1) = false from h)
    refine rX rfl ?_
    refine runS_cond rfl (fun h2 => ?_) (fun h2 => ?_)
    · have hk : kd = 2 := by simpa using (show (kd == 2) = true from h2)
      subst hk
      obtain ⟨hq1, hq2⟩ := hq (.inr rfl)
      have hwq : IntKind.wrap .i64 (0 - q) = -q := by rw [w64 (by omega) (by omega)]; omega
      refine rX rfl ?_
      refine runS_ret (I := inf) 0 rfl (Nat.le_refl _) rfl .nil rfl ⟨?_, rfl⟩
      have hE : exactL 2 n q = ⟨n.natAbs, decide (n < 0), IntKind.wrap .i64 (0 - q)⟩ := by rw [hwq]; simp [exactL]
      rw [hE]
      rfl
    · have hk2 : ¬ kd = 2 := by simpa using (show (kd == 2) = false from h2)
      refine rX rfl ?_
      refine runS_ret (I := inf) 0 rfl (Nat.le_refl _) rfl .nil rfl ⟨?_, rfl⟩
      have hE : exactL kd n q = ⟨n.natAbs, decide (n < 0), q⟩ := by simp [exactL, hk1, hk2]
      rw [hE]
      rfl
theorem d_down (L : Lg) (e : Int) (h1 : e ≤ L.exp) (h2 : L.exp - e ≤ 4000) (h3 : -1000000 ≤ e) (h4 : L.exp ≤ 1000000) (hl : (frm L.m).length ≤ 4000) : CallT Tryz.prog 172 [lgA L, .loc [iv e] 0] [] (fun o A => o = .ret (lgA ⟨upM L e, L.neg, e⟩) ∧ A = []) := by
  have hu := d_up none L.m (L.exp - e).toNat (by omega) hl
  rw [show (((L.exp - e).toNat : Nat) : Int) = IntKind.wrap .i64 (L.exp - e) by rw [w64 (by omega) (by omega)]; omega] at hu
  refine callS_body (n := 15) rfl rfl fun w ρ X => ?_
  refine rX rfl ?_
  refine runS_call rfl rfl rfl rfl rfl rfl rfl hu ?_
  refine rX rfl ?_
  refine runS_ret (I := inf) 0 rfl (Nat.le_refl _) rfl .nil rfl ⟨?_, rfl⟩
  rfl
theorem d_level (a b : Lg) (ha1 : -5000 ≤ a.exp) (ha2 : a.exp ≤ 5000) (hb1 : -5000 ≤ b.exp) (hb2 : b.exp ≤ 5000) (hd1 : a.exp - b.exp ≤ 4000) (hd2 : b.exp - a.exp ≤ 4000) (hla : (frm a.m).length ≤ 4000) (hlb : (frm b.m).length ≤ 4000) : CallT Tryz.prog 105 [lgA a, lgA b] [] (fun o A => o = .ret (.tup [lgA ⟨upM a (min a.exp b.exp), a.neg, min a.exp b.exp⟩, lgA ⟨upM b (min a.exp b.exp), b.neg, min a.exp b.exp⟩]) ∧ A = []) := by
  have hm : (if b.exp < a.exp then b.exp else a.exp) = min a.exp b.exp := by split <;> omega
  have h1 := d_down a (min a.exp b.exp) (by omega) (by omega) (by omega) (by omega) hla
  have h2 := d_down b (min a.exp b.exp) (by omega) (by omega) (by omega) (by omega) hlb
  rw [← hm] at h1 h2 ⊢
  refine callS_body (n := 20) rfl rfl fun w ρ X => ?_
  refine rX rfl ?_
  refine runS_freezeBox 4 rfl rfl rfl ?_
  refine rX rfl ?_
  refine runS_draw 5 (by kernel_rfl) (lexj_x (I := inf) (J := jnf) 99 rfl rfl ob0 (lexj_call rfl rfl rfl rfl rfl rfl rfl rfl h1 (lexj_x (I := inf) (J := jnf) 99 rfl rfl ob0 lexj_nil))) ?_
  refine rX rfl ?_
  refine runS_call rfl rfl rfl rfl rfl rfl rfl h2 ?_
  refine rX rfl ?_
  refine runS_ret (I := inf) 0 rfl (Nat.le_refl _) rfl .nil rfl ⟨?_, rfl⟩
  rfl
theorem upM_len (a : Lg) (e : Int) : (frm (upM a e)).length ≤ (frm a.m).length + (a.exp - e).toNat := frm_len_up _ _
structure Fits (a : Lg) (l : Nat) (x : Int) : Prop where
  len : (frm a.m).length ≤ l
  lo : -x ≤ a.exp
  hi : a.exp ≤ x
theorem d_sum (a b : Lg) (ha : Fits a 1500 1000) (hb : Fits b 1500 1000) : CallT Tryz.prog 89 [lgA a, lgA b] [] (fun o A => o = .ret (lgA (sumL a b)) ∧ A = []) := by
  obtain ⟨ha1, ha2, ha3⟩ := ha
  obtain ⟨hb1, hb2, hb3⟩ := hb
  have hlv := d_level a b (by omega) (by omega) (by omega) (by omega) (by omega) (by omega) (by omega) (by omega)
  have hlx := upM_len a (min a.exp b.exp)
  have hly := upM_len b (min a.exp b.exp)
  have he : -1000 ≤ min a.exp b.exp := by omega
  unfold sumL
  generalize upM a (min a.exp b.exp) = x at *
  generalize upM b (min a.exp b.exp) = y at *
  generalize min a.exp b.exp = e at *
  refine callS_body (n := 38) rfl rfl fun w ρ X => ?_
  refine rX rfl ?_
  refine runS_call rfl rfl rfl rfl rfl rfl rfl hlv ?_
  refine rX rfl ?_
  refine runS_cond rfl (fun h => ?_) (fun h => ?_)
  · have hs : a.neg = b.neg := by simpa using h
    rw [if_pos hs]
    refine rX rfl ?_
    refine runS_call rfl rfl rfl rfl rfl rfl rfl (d_plus none none x y (by omega) (by omega)) ?_
    refine rX rfl ?_
    refine runS_ret (I := inf) 0 rfl (Nat.le_refl _) rfl .nil rfl ⟨?_, rfl⟩
    rfl
  · have hs : ¬ a.neg = b.neg := by simpa using h
    rw [if_neg hs]
    have hcm := cmpR_frm x y
    refine rX rfl ?_
    refine runS_call rfl rfl rfl rfl rfl rfl rfl (d_compare none none x y (by omega) (by omega)) ?_
    refine rX rfl ?_
    refine runS_cond rfl (fun h2 => ?_) (fun h2 => ?_)
    · have hlt : x < y := hcm.1.1 (of_decide_eq_true h2)
      rw [if_pos hlt]
      refine rX rfl ?_
      refine runS_call rfl rfl rfl rfl rfl rfl rfl (d_less none none y x (by omega) (by omega)) ?_
      refine rX rfl ?_
      refine runS_ret (I := inf) 0 rfl (Nat.le_refl _) rfl .nil rfl ⟨?_, rfl⟩
      rfl
    · have hlt : ¬ x < y := fun hh => absurd (hcm.1.2 hh) (of_decide_eq_false h2)
      rw [if_neg hlt]
      refine rX rfl ?_
      refine runS_call rfl rfl rfl rfl rfl rfl rfl (d_less none none x y (by omega) (by omega)) ?_
      refine rX rfl ?_
      refine runS_ret (I := inf) 0 rfl (Nat.le_refl _) rfl .nil rfl ⟨?_, rfl⟩
      rfl
theorem d_product (a b : Lg) (ha : Fits a 1500 100000) (hb : Fits b 1500 100000) : CallT Tryz.prog 104 [lgA a, lgA b] [] (fun o A => o = .ret (lgA (prodL a b)) ∧ A = []) := by
  obtain ⟨ha1, ha2, ha3⟩ := ha
  obtain ⟨hb1, hb2, hb3⟩ := hb
  have ht := d_times none none a.m b.m (by omega) (by omega)
  have hw : IntKind.wrap .i64 (a.exp + b.exp) = a.exp + b.exp := w64 (by omega) (by omega)
  refine callS_body (n := 21) rfl rfl fun w ρ X => ?_
  refine rX rfl ?_
  refine runS_draw 16 (by kernel_rfl) (lexj_x (I := inf) (J := jnf) 99 rfl rfl ob0 (lexj_call rfl rfl rfl rfl rfl rfl rfl rfl ht (lexj_x (I := inf) (J := jnf) 99 rfl rfl ob0 lexj_nil))) ?_
  refine rX rfl ?_
  refine runS_ret (I := inf) 0 rfl (Nat.le_refl _) rfl .nil rfl ⟨?_, rfl⟩
  show Out.ret (AV.agg [limS none (frm (a.m * b.m)), bv (a.neg != b.neg), iv (IntKind.wrap .i64 (a.exp + b.exp))]) = _
  rw [hw]
  rfl
end Go.Iron.Tryz

/- The digits' seat: the reference's Right, for any value. -/
namespace Go.Iron.Tryz
open Go.Proofs Go.RowKit Go.Iron.Tok Go.Iron.Dg

theorem nz10 : nz (10 : Int) = true := rfl
section
variable (n q : Int) (s : Str)
theorem r_right_1 : CallT Tryz.prog 12 [.agg (vaE 1 n q s)] [] (fun o A => o = .ret (bv (rightB 1 n q s)) ∧ A = []) := by
  refine callS_body (n := 176) rfl rfl fun w ρ X => ?_
  refine rX rfl ?_
  refine runS_call rfl rfl rfl rfl rfl rfl rfl (r_numeric 1) ?_
  refine rX rfl ?_
  refine runS_cond rfl (fun h => ?_) (fun h => by cases h)
  refine rX rfl ?_
  refine runS_cond rfl (fun h => ?_) (fun h => ?_)
  · have hs0 : s ≠ [] := fun e => by subst e; exact absurd h (by simp [show (bs []).toList = [] from bs_toList [], show (ByteArray.mk #[]).toList = [] from bs_toList []])
    refine rX rfl ?_
    refine runS_ret (I := inf) 0 rfl (Nat.le_refl _) rfl .nil rfl ⟨?_, rfl⟩
    refine congrArg (fun x => Out.ret (bv x)) ?_
    simp [rightB, hs0]
  have hs0 : s = [] := by simpa [bs_toList, show (ByteArray.mk #[]).toList = [] from bs_toList []] using h
  subst hs0
  refine rX rfl ?_
  refine runS_cond rfl (fun h => ?_) (fun h => by cases h)
  refine rX rfl ?_
  refine runS_ret (I := inf) 0 rfl (Nat.le_refl _) rfl .nil rfl ⟨?_, rfl⟩
  refine congrArg (fun x => Out.ret (bv x)) ?_
  rw [Bool.eq_iff_iff]
  simp [rightB, blS]
  first | omega | (erw [decide_eq_true_iff]; omega)
theorem r_right_2 : CallT Tryz.prog 12 [.agg (vaE 2 n q s)] [] (fun o A => o = .ret (bv (rightB 2 n q s)) ∧ A = []) := by
  refine callS_body (n := 176) rfl rfl fun w ρ X => ?_
  refine rX rfl ?_
  refine runS_call rfl rfl rfl rfl rfl rfl rfl (r_numeric 2) ?_
  refine rX rfl ?_
  refine runS_cond rfl (fun h => ?_) (fun h => by cases h)
  refine rX rfl ?_
  refine runS_cond rfl (fun h => ?_) (fun h => ?_)
  · have hs0 : s ≠ [] := fun e => by subst e; exact absurd h (by simp [show (bs []).toList = [] from bs_toList [], show (ByteArray.mk #[]).toList = [] from bs_toList []])
    refine rX rfl ?_
    refine runS_ret (I := inf) 0 rfl (Nat.le_refl _) rfl .nil rfl ⟨?_, rfl⟩
    refine congrArg (fun x => Out.ret (bv x)) ?_
    simp [rightB, hs0]
  have hs0 : s = [] := by simpa [bs_toList, show (ByteArray.mk #[]).toList = [] from bs_toList []] using h
  subst hs0
  refine rX rfl ?_
  refine runS_cond rfl (fun h => by cases h) (fun h => ?_)
  refine rX rfl ?_
  refine runS_cond rfl (fun h => ?_) (fun h => by cases h)
  refine rX rfl ?_
  refine runS_ret (I := inf) 0 rfl (Nat.le_refl _) rfl .nil rfl ⟨?_, rfl⟩
  refine congrArg (fun x => Out.ret (bv x)) ?_
  rw [Bool.eq_iff_iff]
  simp [rightB, blS]
  first | omega | (erw [decide_eq_true_iff]; omega)
theorem r_right_7 : CallT Tryz.prog 12 [.agg (vaE 7 n q s)] [] (fun o A => o = .ret (bv (rightB 7 n q s)) ∧ A = []) := by
  refine callS_body (n := 176) rfl rfl fun w ρ X => ?_
  refine rX rfl ?_
  refine runS_call rfl rfl rfl rfl rfl rfl rfl (r_numeric 7) ?_
  refine rX rfl ?_
  refine runS_cond rfl (fun h => ?_) (fun h => by cases h)
  refine rX rfl ?_
  refine runS_cond rfl (fun h => ?_) (fun h => ?_)
  · have hs0 : s ≠ [] := fun e => by subst e; exact absurd h (by simp [show (bs []).toList = [] from bs_toList [], show (ByteArray.mk #[]).toList = [] from bs_toList []])
    refine rX rfl ?_
    refine runS_ret (I := inf) 0 rfl (Nat.le_refl _) rfl .nil rfl ⟨?_, rfl⟩
    refine congrArg (fun x => Out.ret (bv x)) ?_
    simp [rightB, hs0]
  have hs0 : s = [] := by simpa [bs_toList, show (ByteArray.mk #[]).toList = [] from bs_toList []] using h
  subst hs0
  refine rX rfl ?_
  refine runS_cond rfl (fun h => by cases h) (fun h => ?_)
  refine rX rfl ?_
  refine runS_cond rfl (fun h => by cases h) (fun h => ?_)
  refine rX rfl ?_
  refine runS_cond rfl (fun h => by cases h) (fun h => ?_)
  refine rX rfl ?_
  refine runS_cond rfl (fun h => by cases h) (fun h => ?_)
  refine rX rfl ?_
  refine runS_cond rfl (fun h => by cases h) (fun h => ?_)
  refine rX rfl ?_
  refine runS_cond rfl (fun h => by cases h) (fun h => ?_)
  refine rX rfl ?_
  refine runS_cond rfl (fun h => ?_) (fun h => by cases h)
  refine rX rfl ?_
  refine runS_ret (I := inf) 0 rfl (Nat.le_refl _) rfl .nil rfl ⟨?_, rfl⟩
  refine congrArg (fun x => Out.ret (bv x)) ?_
  rw [Bool.eq_iff_iff]
  simp [rightB, blS]
  first | omega | (erw [decide_eq_true_iff]; omega)
theorem r_right_8 : CallT Tryz.prog 12 [.agg (vaE 8 n q s)] [] (fun o A => o = .ret (bv (rightB 8 n q s)) ∧ A = []) := by
  refine callS_body (n := 176) rfl rfl fun w ρ X => ?_
  refine rX rfl ?_
  refine runS_call rfl rfl rfl rfl rfl rfl rfl (r_numeric 8) ?_
  refine rX rfl ?_
  refine runS_cond rfl (fun h => ?_) (fun h => by cases h)
  refine rX rfl ?_
  refine runS_cond rfl (fun h => ?_) (fun h => ?_)
  · have hs0 : s ≠ [] := fun e => by subst e; exact absurd h (by simp [show (bs []).toList = [] from bs_toList [], show (ByteArray.mk #[]).toList = [] from bs_toList []])
    refine rX rfl ?_
    refine runS_ret (I := inf) 0 rfl (Nat.le_refl _) rfl .nil rfl ⟨?_, rfl⟩
    refine congrArg (fun x => Out.ret (bv x)) ?_
    simp [rightB, hs0]
  have hs0 : s = [] := by simpa [bs_toList, show (ByteArray.mk #[]).toList = [] from bs_toList []] using h
  subst hs0
  refine rX rfl ?_
  refine runS_cond rfl (fun h => by cases h) (fun h => ?_)
  refine rX rfl ?_
  refine runS_cond rfl (fun h => by cases h) (fun h => ?_)
  refine rX rfl ?_
  refine runS_cond rfl (fun h => by cases h) (fun h => ?_)
  refine rX rfl ?_
  refine runS_cond rfl (fun h => by cases h) (fun h => ?_)
  refine rX rfl ?_
  refine runS_cond rfl (fun h => by cases h) (fun h => ?_)
  refine rX rfl ?_
  refine runS_cond rfl (fun h => by cases h) (fun h => ?_)
  refine rX rfl ?_
  refine runS_cond rfl (fun h => by cases h) (fun h => ?_)
  refine rX rfl ?_
  refine runS_cond rfl (fun h => ?_) (fun h => by cases h)
  refine rX rfl ?_
  refine runS_cond rfl (fun h => ?_) (fun h => by cases h)
  refine rX rfl ?_
  refine runS_ret (I := inf) 0 rfl (Nat.le_refl _) rfl .nil rfl ⟨?_, rfl⟩
  refine congrArg (fun x => Out.ret (bv x)) ?_
  rw [Bool.eq_iff_iff]
  simp [rightB, blS]
  first | omega | (erw [decide_eq_true_iff]; omega)
theorem r_right_9 : CallT Tryz.prog 12 [.agg (vaE 9 n q s)] [] (fun o A => o = .ret (bv (rightB 9 n q s)) ∧ A = []) := by
  refine callS_body (n := 176) rfl rfl fun w ρ X => ?_
  refine rX rfl ?_
  refine runS_call rfl rfl rfl rfl rfl rfl rfl (r_numeric 9) ?_
  refine rX rfl ?_
  refine runS_cond rfl (fun h => ?_) (fun h => by cases h)
  refine rX rfl ?_
  refine runS_cond rfl (fun h => ?_) (fun h => ?_)
  · have hs0 : s ≠ [] := fun e => by subst e; exact absurd h (by simp [show (bs []).toList = [] from bs_toList [], show (ByteArray.mk #[]).toList = [] from bs_toList []])
    refine rX rfl ?_
    refine runS_ret (I := inf) 0 rfl (Nat.le_refl _) rfl .nil rfl ⟨?_, rfl⟩
    refine congrArg (fun x => Out.ret (bv x)) ?_
    simp [rightB, hs0]
  have hs0 : s = [] := by simpa [bs_toList, show (ByteArray.mk #[]).toList = [] from bs_toList []] using h
  subst hs0
  refine rX rfl ?_
  refine runS_cond rfl (fun h => by cases h) (fun h => ?_)
  refine rX rfl ?_
  refine runS_cond rfl (fun h => by cases h) (fun h => ?_)
  refine rX rfl ?_
  refine runS_cond rfl (fun h => by cases h) (fun h => ?_)
  refine rX rfl ?_
  refine runS_cond rfl (fun h => by cases h) (fun h => ?_)
  refine rX rfl ?_
  refine runS_cond rfl (fun h => by cases h) (fun h => ?_)
  refine rX rfl ?_
  refine runS_cond rfl (fun h => by cases h) (fun h => ?_)
  refine rX rfl ?_
  refine runS_cond rfl (fun h => by cases h) (fun h => ?_)
  refine rX rfl ?_
  refine runS_cond rfl (fun h => by cases h) (fun h => ?_)
  refine rX rfl ?_
  refine runS_cond rfl (fun h => ?_) (fun h => by cases h)
  refine rX rfl ?_
  refine runS_ret (I := inf) 0 rfl (Nat.le_refl _) rfl .nil rfl ⟨?_, rfl⟩
  refine congrArg (fun x => Out.ret (bv x)) ?_
  rw [Bool.eq_iff_iff]
  simp [rightB, blS]
  first | omega | (erw [decide_eq_true_iff]; omega)
theorem r_right_4 : CallT Tryz.prog 12 [.agg (vaE 4 n q s)] [] (fun o A => o = .ret (bv (rightB 4 n q s)) ∧ A = []) := by
  refine callS_body (n := 176) rfl rfl fun w ρ X => ?_
  refine rX rfl ?_
  refine runS_call rfl rfl rfl rfl rfl rfl rfl (r_numeric 4) ?_
  refine rX rfl ?_
  refine runS_cond rfl (fun h => by cases h) (fun h => ?_)
  refine rX rfl ?_
  refine runS_cond rfl (fun h => by cases h) (fun h => ?_)
  refine rX rfl ?_
  refine runS_cond rfl (fun h => by cases h) (fun h => ?_)
  refine rX rfl ?_
  refine runS_cond rfl (fun h => by cases h) (fun h => ?_)
  refine rX rfl ?_
  refine runS_cond rfl (fun h => ?_) (fun h => by cases h)
  refine rX rfl ?_
  refine runS_cond rfl (fun h => ?_) (fun h => by cases h)
  refine runS_x (I := inf) (J := jnf) ⟨false, false, [], 0, 0⟩ 9999 rfl (by repeat (first | exact obs_nil | refine obs_draw (by kernel_rfl) ?_ | refine obs_same ?_ | refine obs_and ?_ | refine obs_by (by (simp [inB, blS] <;> omega)) ?_)) ?_
  refine runS_ret (I := inf) 0 rfl (Nat.le_refl _) rfl .nil rfl ⟨?_, rfl⟩
  refine congrArg (fun x => Out.ret (bv x)) ?_
  rw [Bool.eq_iff_iff]
  simp [rightB, blS]
  first | omega | (erw [decide_eq_true_iff]; omega)
theorem r_right_6 : CallT Tryz.prog 12 [.agg (vaE 6 n q s)] [] (fun o A => o = .ret (bv (rightB 6 n q s)) ∧ A = []) := by
  refine callS_body (n := 176) rfl rfl fun w ρ X => ?_
  refine rX rfl ?_
  refine runS_call rfl rfl rfl rfl rfl rfl rfl (r_numeric 6) ?_
  refine rX rfl ?_
  refine runS_cond rfl (fun h => by cases h) (fun h => ?_)
  refine rX rfl ?_
  refine runS_cond rfl (fun h => by cases h) (fun h => ?_)
  refine rX rfl ?_
  refine runS_cond rfl (fun h => by cases h) (fun h => ?_)
  refine rX rfl ?_
  refine runS_cond rfl (fun h => by cases h) (fun h => ?_)
  refine rX rfl ?_
  refine runS_cond rfl (fun h => by cases h) (fun h => ?_)
  refine rX rfl ?_
  refine runS_cond rfl (fun h => ?_) (fun h => by cases h)
  refine runS_x (I := inf) (J := jnf) ⟨false, false, [], 0, 0⟩ 9999 rfl (by repeat (first | exact obs_nil | refine obs_draw (by kernel_rfl) ?_ | refine obs_same ?_ | refine obs_and ?_ | refine obs_by (by (simp [inB, blS] <;> omega)) ?_)) ?_
  refine runS_ret (I := inf) 0 rfl (Nat.le_refl _) rfl .nil rfl ⟨?_, rfl⟩
  refine congrArg (fun x => Out.ret (bv x)) ?_
  rw [Bool.eq_iff_iff]
  simp [rightB, blS]
  first | omega | (erw [decide_eq_true_iff]; omega)
theorem r_right_5 : CallT Tryz.prog 12 [.agg (vaE 5 n q s)] [] (fun o A => o = .ret (bv (rightB 5 n q s)) ∧ A = []) := by
  refine callS_body (n := 176) rfl rfl fun w ρ X => ?_
  refine rX rfl ?_
  refine runS_call rfl rfl rfl rfl rfl rfl rfl (r_numeric 5) ?_
  refine rX rfl ?_
  refine runS_cond rfl (fun h => by cases h) (fun h => ?_)
  refine rX rfl ?_
  refine runS_cond rfl (fun h => by cases h) (fun h => ?_)
  refine rX rfl ?_
  refine runS_cond rfl (fun h => by cases h) (fun h => ?_)
  refine rX rfl ?_
  refine runS_cond rfl (fun h => by cases h) (fun h => ?_)
  refine rX rfl ?_
  refine runS_cond rfl (fun h => by cases h) (fun h => ?_)
  refine rX rfl ?_
  refine runS_cond rfl (fun h => by cases h) (fun h => ?_)
  refine rX rfl ?_
  refine runS_cond rfl (fun h => ?_) (fun h => by cases h)
  refine runS_x (I := inf) (J := jnf) ⟨false, false, [], 0, 0⟩ 9999 rfl (by repeat (first | exact obs_nil | refine obs_draw (by kernel_rfl) ?_ | refine obs_same ?_ | refine obs_and ?_ | refine obs_by (by (simp [inB, blS] <;> omega)) ?_)) ?_
  have hb250 : condOf none (if (if (n == 0) = true then (q == 0) else false) = true then decide (((bl (bs s)).length : Int) ≤ 250) else false) true = true → s.length ≤ 250 := fun h => by
    by_cases hl : s.length ≤ 250
    · exact hl
    · exfalso
      rw [show decide (((bl (bs s)).length : Int) ≤ 250) = false from decide_eq_false (by rw [blS]; omega)] at h
      revert h
      cases n == 0 <;> cases q == 0 <;> decide
  refine runS_callU rfl rfl (by first | exact .v rfl rfl rfl rfl | exact .o rfl rfl rfl rfl) rfl rfl (by repeat (first | exact .nil | refine .cons (.n rfl) ?_ | refine .cons .o ?_ | refine .cons gok_and ?_)) rfl rfl rfl rfl rfl (fun h => r_bits s (by have := hb250 h; omega)) ?_
  refine rX rfl ?_
  refine runS_ret (I := inf) 0 rfl (Nat.le_refl _) rfl .nil rfl ⟨?_, rfl⟩
  refine congrArg (fun x => Out.ret (bv x)) ?_
  have e : decide (((bl (bs s)).length : Int) ≤ 250) = decide (s.length ≤ 250) := by
    rw [blS, Bool.eq_iff_iff, decide_eq_true_iff, decide_eq_true_iff]
    omega
  rw [e]
  have e2 : rightB 5 n q s = (decide (n = 0 ∧ q = 0 ∧ s.length ≤ 250) && s.all isBit) := rfl
  rw [e2]
  by_cases h1 : n = 0 <;> by_cases h2 : q = 0 <;> by_cases h3 : s.length ≤ 250 <;> (simp [h1, h2, h3] <;> rfl)
theorem tmod10 (n : Int) : (n.tmod 10 == 0) = decide (n.natAbs % 10 = 0) := by
  have h : (n.tmod 10).natAbs = n.natAbs % 10 := Int.natAbs_tmod n 10
  rw [Bool.eq_iff_iff]
  simp
  omega
theorem r_right_3 : CallT Tryz.prog 12 [.agg (vaE 3 n q s)] [] (fun o A => o = .ret (bv (rightB 3 n q s)) ∧ A = []) := by
  refine callS_body (n := 176) rfl rfl fun w ρ X => ?_
  refine rX rfl ?_
  refine runS_call rfl rfl rfl rfl rfl rfl rfl (r_numeric 3) ?_
  refine rX rfl ?_
  refine runS_cond rfl (fun h => ?_) (fun h => by cases h)
  refine rX rfl ?_
  refine runS_cond rfl (fun h => ?_) (fun h => ?_)
  · have hs0 : s ≠ [] := fun e => by subst e; exact absurd h (by simp [show (bs []).toList = [] from bs_toList [], show (ByteArray.mk #[]).toList = [] from bs_toList []])
    refine rX rfl ?_
    refine runS_ret (I := inf) 0 rfl (Nat.le_refl _) rfl .nil rfl ⟨?_, rfl⟩
    refine congrArg (fun x => Out.ret (bv x)) ?_
    simp [rightB, hs0]
  have hs0 : s = [] := by simpa [bs_toList, show (ByteArray.mk #[]).toList = [] from bs_toList []] using h
  subst hs0
  refine rX rfl ?_
  refine runS_cond rfl (fun h => by cases h) (fun h => ?_)
  refine rX rfl ?_
  refine runS_cond rfl (fun h => by cases h) (fun h => ?_)
  refine rX rfl ?_
  refine runS_cond rfl (fun h => ?_) (fun h => by cases h)
  refine rX rfl ?_
  refine runS_cond rfl (fun h => ?_) (fun h => ?_)
  · have h0 : n = 0 := by simpa using (show (n == 0) = true from h)
    subst h0
    refine rX rfl ?_
    refine runS_ret (I := inf) 0 rfl (Nat.le_refl _) rfl .nil rfl ⟨?_, rfl⟩
    refine congrArg (fun x => Out.ret (bv x)) ?_
    rw [Bool.eq_iff_iff]
    simp [rightB]
  · have h0 : ¬ n = 0 := by simpa using (show (n == 0) = false from h)
    refine runS_x (I := inf) (J := jnf) ⟨false, false, [], 0, 0⟩ 9999 rfl (by repeat (first | exact obs_nil | refine obs_draw (by kernel_rfl) ?_ | refine obs_same ?_ | refine obs_and ?_ | refine obs_by (by first | exact (fun _ => nz10) | (simp [inB] <;> omega)) ?_)) ?_
    have hcd : (if (if (if (if decide (n ≤ -1000000000000000) = true then true else decide (n ≥ 1000000000000000)) = true then true else (n.tmod 10 == 0)) = true then true else decide (q < -1000)) = true then true else decide (q > 1000)) = decide (n ≤ -1000000000000000 ∨ n ≥ 1000000000000000 ∨ n.natAbs % 10 = 0 ∨ q < -1000 ∨ q > 1000) := by
      rw [tmod10, Bool.eq_iff_iff]
      simp
      omega
    refine runS_cond rfl (fun h2 => ?_) (fun h2 => ?_)
    · have hc := of_decide_eq_true (hcd.symm.trans h2)
      refine rX rfl ?_
      refine runS_ret (I := inf) 0 rfl (Nat.le_refl _) rfl .nil rfl ⟨?_, rfl⟩
      refine congrArg (fun x => Out.ret (bv x)) ?_
      symm
      rw [← Bool.not_eq_true]
      simp [rightB, h0]
      omega
    · have hc := of_decide_eq_false (hcd.symm.trans h2)
      have hsz := r_size n (by omega)
      have hl : (frm n.natAbs).length ≤ 19 := frm_len_lt.2 (by omega)
      have hwr : IntKind.wrap .i64 (IntKind.wrap .i64 (((frm n.natAbs).length : Int) + q) - 1) = ((frm n.natAbs).length : Int) + q - 1 := by rw [w64 (x := ((frm n.natAbs).length : Int) + q) (by omega) (by omega), w64 (by omega) (by omega)]
      refine rX rfl ?_
      refine runS_draw 7 (by kernel_rfl) (lexj_x (I := inf) (J := jnf) 99 rfl rfl ob0 (lexj_call rfl rfl rfl rfl rfl rfl rfl rfl hsz (lexj_x (I := inf) (J := jnf) 99 rfl rfl ob0 lexj_nil))) ?_
      refine rX rfl ?_
      refine runS_ret (I := inf) 0 rfl (Nat.le_refl _) rfl .nil rfl ⟨?_, rfl⟩
      refine congrArg (fun x => Out.ret (bv x)) ?_
      rw [hwr, Bool.eq_iff_iff]
      simp [rightB, h0]
      omega
theorem r_right_o {kd : Int} (hk : kd ≤ 0 ∨ 10 ≤ kd) : CallT Tryz.prog 12 [.agg (vaE kd n q s)] [] (fun o A => o = .ret (bv (rightB kd n q s)) ∧ A = []) := by
  have hr : rightB kd n q s = false := by
    unfold rightB
    rw [if_neg (by omega), if_neg (by omega), if_neg (by omega), if_neg (by omega), if_neg (by omega), if_neg (by omega), if_neg (by omega)]
  rw [hr]
  refine callS_body (n := 176) rfl rfl fun w ρ X => ?_
  refine rX rfl ?_
  refine runS_call rfl rfl rfl rfl rfl rfl rfl (r_numeric kd) ?_
  refine rX rfl ?_
  refine runS_cond rfl (fun h => ?_) (fun h => ?_)
  · refine rX rfl ?_
    refine runS_cond rfl (fun h => ?_) (fun h => ?_)
    · refine rX rfl ?_
      refine runS_ret (I := inf) 0 rfl (Nat.le_refl _) rfl .nil rfl ⟨?_, rfl⟩
      rfl
    · refine rX rfl ?_
      refine runS_cond rfl (fun h => by simp at h; omega) (fun h => ?_)
      refine rX rfl ?_
      refine runS_cond rfl (fun h => by simp at h; omega) (fun h => ?_)
      refine rX rfl ?_
      refine runS_cond rfl (fun h => by simp at h; omega) (fun h => ?_)
      refine rX rfl ?_
      refine runS_cond rfl (fun h => by simp at h; omega) (fun h => ?_)
      refine rX rfl ?_
      refine runS_cond rfl (fun h => by simp at h; omega) (fun h => ?_)
      refine rX rfl ?_
      refine runS_cond rfl (fun h => by simp at h; omega) (fun h => ?_)
      refine rX rfl ?_
      refine runS_cond rfl (fun h => by simp at h; omega) (fun h => ?_)
      refine rX rfl ?_
      refine runS_cond rfl (fun h => by simp at h; omega) (fun h => ?_)
      refine rX rfl ?_
      refine runS_cond rfl (fun h => by simp at h; omega) (fun h => ?_)
      refine rX rfl ?_
      refine runS_ret (I := inf) 0 rfl (Nat.le_refl _) rfl .nil rfl ⟨?_, rfl⟩
      rfl
  · refine rX rfl ?_
    refine runS_cond rfl (fun h => by simp at h; omega) (fun h => ?_)
    refine rX rfl ?_
    refine runS_cond rfl (fun h => by simp at h; omega) (fun h => ?_)
    refine rX rfl ?_
    refine runS_cond rfl (fun h => by simp at h; omega) (fun h => ?_)
    refine rX rfl ?_
    refine runS_cond rfl (fun h => by simp at h; omega) (fun h => ?_)
    refine rX rfl ?_
    refine runS_cond rfl (fun h => by simp at h; omega) (fun h => ?_)
    refine rX rfl ?_
    refine runS_cond rfl (fun h => by simp at h; omega) (fun h => ?_)
    refine rX rfl ?_
    refine runS_cond rfl (fun h => by simp at h; omega) (fun h => ?_)
    refine rX rfl ?_
    refine runS_cond rfl (fun h => by simp at h; omega) (fun h => ?_)
    refine rX rfl ?_
    refine runS_cond rfl (fun h => by simp at h; omega) (fun h => ?_)
    refine rX rfl ?_
    refine runS_ret (I := inf) 0 rfl (Nat.le_refl _) rfl .nil rfl ⟨?_, rfl⟩
    rfl
end
theorem r_right (kd n q : Int) (s : Str) : CallT Tryz.prog 12 [.agg (vaE kd n q s)] [] (fun o A => o = .ret (bv (rightB kd n q s)) ∧ A = []) := by
  by_cases h : kd ≤ 0 ∨ 10 ≤ kd
  · exact r_right_o n q s h
  · have : kd = 1 ∨ kd = 2 ∨ kd = 3 ∨ kd = 4 ∨ kd = 5 ∨ kd = 6 ∨ kd = 7 ∨ kd = 8 ∨ kd = 9 := by omega
    rcases this with rfl | rfl | rfl | rfl | rfl | rfl | rfl | rfl | rfl
    · exact r_right_1 n q s
    · exact r_right_2 n q s
    · exact r_right_3 n q s
    · exact r_right_4 n q s
    · exact r_right_5 n q s
    · exact r_right_6 n q s
    · exact r_right_7 n q s
    · exact r_right_8 n q s
    · exact r_right_9 n q s
end Go.Iron.Tryz
