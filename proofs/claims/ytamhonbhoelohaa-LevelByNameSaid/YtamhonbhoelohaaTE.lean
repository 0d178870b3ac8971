/- Iron: this seat's types and functions, by program (mkinf.py). -/
import Derived.Test.YtamhonbhoelohaaTA
import Derived.Test.YtamhonbhoelohaaTB
import Derived.Test.YtamhonbhoelohaaTC
import Derived.Test.YtamhonbhoelohaaProg
set_option maxRecDepth 10000
namespace Go.Iron.Try
open Go.Proofs
def inf : TI where
  ty := [(1, 1, false), (3, 1, false), (4, 1, false), (5, 1, false), (9, 1, false), (20, 1, false), (22, 1, false), (23, 1, false), (29, 1, false), (33, 1, false), (37, 1, false), (41, 1, false), (46, 1, false), (50, 1, false), (51, 1, false), (63, 2, true), (66, 1, false), (69, 2, true), (75, 3, true), (81, 1, false), (86, 3, true), (88, 6, true), (90, 11, true), (98, 1, false), (103, 2, true), (104, 1, false), (105, 1, false), (107, 1, false), (115, 1, false), (116, 1, false), (117, 1, false), (118, 1, false), (126, 1, false), (127, 1, false), (129, 1, false), (131, 3, true), (135, 1, false), (140, 1, false), (144, 15, true), (146, 1, false), (147, 1, false), (153, 1, false), (159, 1, false), (161, 1, false), (164, 1, false), (166, 1, false), (167, 1, false), (170, 1, true), (172, 1, false), (173, 1, false), (174, 10, true), (177, 1, false), (179, 1, false), (180, 1, false), (181, 1, false), (185, 1, false), (186, 1, false), (187, 1, false), (188, 1, false), (190, 1, false), (192, 1, false), (193, 1, false)]
  el := [(22, 63), (23, 3), (29, 69), (33, 75), (37, 22), (41, 90), (46, 9), (66, 4), (81, 86), (98, 103), (104, 63), (127, 144), (188, 153), (192, 5)]
  fld := [(63, [(0, 3), (1, 3)]), (69, [(0, 3), (1, 4)]), (75, [(0, 3), (1, 3), (2, 3)]), (86, [(0, 3), (1, 3), (2, 3)]), (88, [(0, 3), (1, 3), (2, 3), (3, 3), (4, 4), (5, 9)]), (90, [(0, 3), (1, 9), (2, 3), (3, 88), (9, 4), (10, 3)]), (131, [(0, 127), (1, 129), (2, 81)]), (144, [(0, 90), (11, 3), (12, 3), (13, 3), (14, 23)]), (170, [(0, 51)])]
  zero := [(1, [.val (.nilFunc)], 8), (3, [.val (.int .i64 0)], 8), (4, [.val (.bool false)], 1), (5, [.val (.int .u8 0)], 1), (9, [.val (.string ⟨#[]⟩)], 16), (20, [.val (.nilIface)], 16), (22, [.val (.slice none 0 0)], 24), (23, [.val (.slice none 0 0)], 24), (29, [.val (.slice none 0 0)], 24), (33, [.val (.slice none 0 0)], 24), (37, [.val (.slice none 0 0)], 24), (41, [.val (.slice none 0 0)], 24), (46, [.val (.slice none 0 0)], 24), (50, [.val (.nilFunc)], 8), (51, [.val (.int .i64 0)], 8), (63, [.val (.int .i64 0), .val (.int .i64 0)], 16), (66, [.val (.slice none 0 0)], 24), (69, [.val (.int .i64 0), .val (.bool false)], 16), (75, [.val (.int .i64 0), .val (.int .i64 0), .val (.int .i64 0)], 24), (81, [.val (.slice none 0 0)], 24), (86, [.val (.int .i64 0), .val (.int .i64 0), .val (.int .i64 0)], 24), (88, [.val (.int .i64 0), .val (.int .i64 0), .val (.int .i64 0), .val (.int .i64 0), .val (.bool false), .val (.string ⟨#[]⟩)], 56), (90, [.val (.int .i64 0), .val (.string ⟨#[]⟩), .val (.int .i64 0), .val (.int .i64 0), .val (.int .i64 0), .val (.int .i64 0), .val (.int .i64 0), .val (.bool false), .val (.string ⟨#[]⟩), .val (.bool false), .val (.int .i64 0)], 104), (98, [.val (.slice none 0 0)], 24), (103, [.val (.int .i64 0), .val (.int .i64 0)], 16), (104, [.val (.slice none 0 0)], 24), (105, [.val (.nilFunc)], 8), (107, [.val (.nilFunc)], 8), (115, [.val (.nilFunc)], 8), (116, [.val (.nilFunc)], 8), (117, [.val (.nilFunc)], 8), (118, [.val (.nilFunc)], 8), (126, [.val (.pointer none)], 8), (127, [.val (.slice none 0 0)], 24), (129, [.val (.map none)], 8), (131, [.val (.slice none 0 0), .val (.map none), .val (.slice none 0 0)], 56), (135, [.val (.nilFunc)], 8), (140, [.val (.nilFunc)], 8), (144, [.val (.int .i64 0), .val (.string ⟨#[]⟩), .val (.int .i64 0), .val (.int .i64 0), .val (.int .i64 0), .val (.int .i64 0), .val (.int .i64 0), .val (.bool false), .val (.string ⟨#[]⟩), .val (.bool false), .val (.int .i64 0), .val (.int .i64 0), .val (.int .i64 0), .val (.int .i64 0), .val (.slice none 0 0)], 152), (146, [.val (.nilFunc)], 8), (147, [.val (.nilFunc)], 8), (153, [.val (.nilFunc)], 8), (159, [.val (.nilFunc)], 8), (161, [.val (.nilFunc)], 8), (164, [.val (.nilFunc)], 8), (166, [.val (.nilFunc)], 8), (167, [.val (.nilFunc)], 8), (170, [.val (.int .i64 0)], 8), (172, [.val (.nilFunc)], 8), (173, [.val (.nilFunc)], 8), (174, [.val (.nilFunc), .val (.nilFunc), .val (.nilFunc), .val (.nilFunc), .val (.nilFunc), .val (.nilFunc), .val (.nilFunc), .val (.nilFunc), .val (.nilFunc), .val (.nilFunc)], 80), (177, [.val (.pointer none)], 8), (179, [.val (.map none)], 8), (180, [.val (.nilFunc)], 8), (181, [.val (.nilFunc)], 8), (185, [.val (.nilFunc)], 8), (186, [.val (.nilFunc)], 8), (187, [.val (.nilFunc)], 8), (188, [.val (.slice none 0 0)], 24), (190, [.val (.nilFunc)], 8), (192, [.val (.slice none 0 0)], 24), (193, [.val (.nilFunc)], 8)]
  bools := [(4, ())]
  conc := [(1, ()), (3, ()), (4, ()), (5, ()), (9, ()), (22, ()), (23, ()), (29, ()), (33, ()), (37, ()), (41, ()), (46, ()), (50, ()), (51, ()), (63, ()), (66, ()), (69, ()), (75, ()), (81, ()), (86, ()), (88, ()), (90, ()), (98, ()), (103, ()), (104, ()), (105, ()), (107, ()), (115, ()), (116, ()), (117, ()), (118, ()), (126, ()), (127, ()), (129, ()), (131, ()), (135, ()), (140, ()), (144, ()), (146, ()), (147, ()), (153, ()), (159, ()), (161, ()), (164, ()), (166, ()), (167, ()), (170, ()), (172, ()), (173, ()), (174, ()), (177, ()), (179, ()), (180, ()), (181, ()), (185, ()), (186, ()), (187, ()), (188, ()), (190, ()), (192, ()), (193, ())]
  pl := [(63, [(0, 1), (1, 1)]), (69, [(0, 1), (1, 1)]), (75, [(0, 1), (1, 1), (2, 1)]), (86, [(0, 1), (1, 1), (2, 1)]), (88, [(0, 1), (1, 1), (2, 1), (3, 1), (4, 1), (5, 1)]), (90, [(0, 1), (1, 1), (2, 1), (3, 6), (9, 1), (10, 1)]), (131, [(0, 1), (1, 1), (2, 1)]), (144, [(0, 11), (11, 1), (12, 1), (13, 1), (14, 1)]), (170, [(0, 1)])]
  eqs := [(3, .int), (4, .bool), (5, .int), (9, .str), (51, .int), (63, .struct [(0, 3), (1, 3)]), (69, .struct [(0, 3), (1, 4)]), (75, .struct [(0, 3), (1, 3), (2, 3)]), (86, .struct [(0, 3), (1, 3), (2, 3)]), (88, .struct [(0, 3), (1, 3), (2, 3), (3, 3), (4, 4), (5, 9)]), (90, .struct [(0, 3), (1, 9), (2, 3), (3, 88), (9, 4), (10, 3)]), (103, .arr 2 3 [(0, 3), (1, 3)])]
theorem inf_ty : AllL (fun p : Nat × Nat × Bool => Ty Try.prog p.1 p.2.1 p.2.2) inf.ty := .cons (⟨by kernel_rfl, by kernel_rfl⟩) <| .cons (⟨by kernel_rfl, by kernel_rfl⟩) <| .cons (⟨by kernel_rfl, by kernel_rfl⟩) <| .cons (⟨by kernel_rfl, by kernel_rfl⟩) <| .cons (⟨by kernel_rfl, by kernel_rfl⟩) <| .cons (⟨by kernel_rfl, by kernel_rfl⟩) <| .cons (⟨by kernel_rfl, by kernel_rfl⟩) <| .cons (⟨by kernel_rfl, by kernel_rfl⟩) <| .cons (⟨by kernel_rfl, by kernel_rfl⟩) <| .cons (⟨by kernel_rfl, by kernel_rfl⟩) <| .cons (⟨by kernel_rfl, by kernel_rfl⟩) <| .cons (⟨by kernel_rfl, by kernel_rfl⟩) <| .cons (⟨by kernel_rfl, by kernel_rfl⟩) <| .cons (⟨by kernel_rfl, by kernel_rfl⟩) <| .cons (⟨by kernel_rfl, by kernel_rfl⟩) <| .cons (⟨by kernel_rfl, by kernel_rfl⟩) <| .cons (⟨by kernel_rfl, by kernel_rfl⟩) <| .cons (⟨by kernel_rfl, by kernel_rfl⟩) <| .cons (⟨by kernel_rfl, by kernel_rfl⟩) <| .cons (⟨by kernel_rfl, by kernel_rfl⟩) <| .cons (⟨by kernel_rfl, by kernel_rfl⟩) <| .cons (⟨by kernel_rfl, by kernel_rfl⟩) <| .cons (⟨by kernel_rfl, by kernel_rfl⟩) <| .cons (⟨by kernel_rfl, by kernel_rfl⟩) <| .cons (⟨by kernel_rfl, by kernel_rfl⟩) <| .cons (⟨by kernel_rfl, by kernel_rfl⟩) <| .cons (⟨by kernel_rfl, by kernel_rfl⟩) <| .cons (⟨by kernel_rfl, by kernel_rfl⟩) <| .cons (⟨by kernel_rfl, by kernel_rfl⟩) <| .cons (⟨by kernel_rfl, by kernel_rfl⟩) <| .cons (⟨by kernel_rfl, by kernel_rfl⟩) <| .cons (⟨by kernel_rfl, by kernel_rfl⟩) <| .cons (⟨by kernel_rfl, by kernel_rfl⟩) <| .cons (⟨by kernel_rfl, by kernel_rfl⟩) <| .cons (⟨by kernel_rfl, by kernel_rfl⟩) <| .cons (⟨by kernel_rfl, by kernel_rfl⟩) <| .cons (⟨by kernel_rfl, by kernel_rfl⟩) <| .cons (⟨by kernel_rfl, by kernel_rfl⟩) <| .cons (⟨by kernel_rfl, by kernel_rfl⟩) <| .cons (⟨by kernel_rfl, by kernel_rfl⟩) <| .cons (⟨by kernel_rfl, by kernel_rfl⟩) <| .cons (⟨by kernel_rfl, by kernel_rfl⟩) <| .cons (⟨by kernel_rfl, by kernel_rfl⟩) <| .cons (⟨by kernel_rfl, by kernel_rfl⟩) <| .cons (⟨by kernel_rfl, by kernel_rfl⟩) <| .cons (⟨by kernel_rfl, by kernel_rfl⟩) <| .cons (⟨by kernel_rfl, by kernel_rfl⟩) <| .cons (⟨by kernel_rfl, by kernel_rfl⟩) <| .cons (⟨by kernel_rfl, by kernel_rfl⟩) <| .cons (⟨by kernel_rfl, by kernel_rfl⟩) <| .cons (⟨by kernel_rfl, by kernel_rfl⟩) <| .cons (⟨by kernel_rfl, by kernel_rfl⟩) <| .cons (⟨by kernel_rfl, by kernel_rfl⟩) <| .cons (⟨by kernel_rfl, by kernel_rfl⟩) <| .cons (⟨by kernel_rfl, by kernel_rfl⟩) <| .cons (⟨by kernel_rfl, by kernel_rfl⟩) <| .cons (⟨by kernel_rfl, by kernel_rfl⟩) <| .cons (⟨by kernel_rfl, by kernel_rfl⟩) <| .cons (⟨by kernel_rfl, by kernel_rfl⟩) <| .cons (⟨by kernel_rfl, by kernel_rfl⟩) <| .cons (⟨by kernel_rfl, by kernel_rfl⟩) <| .cons (⟨by kernel_rfl, by kernel_rfl⟩) <| .nil
theorem inf_el : AllL (fun p : Nat × Nat => ElT Try.prog p.1 p.2) inf.el := .cons (⟨Try.underlying22⟩) <| .cons (⟨Try.underlying23⟩) <| .cons (⟨Try.underlying29⟩) <| .cons (⟨Try.underlying33⟩) <| .cons (⟨Try.underlying37⟩) <| .cons (⟨Try.underlying41⟩) <| .cons (⟨Try.underlying46⟩) <| .cons (⟨Try.underlying66⟩) <| .cons (⟨Try.underlying81⟩) <| .cons (⟨Try.underlying98⟩) <| .cons (⟨Try.underlying104⟩) <| .cons (⟨Try.underlying127⟩) <| .cons (⟨Try.underlying188⟩) <| .cons (⟨Try.underlying192⟩) <| .nil
theorem inf_fld : AllL (fun p : Nat × List (Nat × Nat) => ∀ j off ft, nth p.2 j = some (off, ft) → FldT Try.prog p.1 j off ft) inf.fld := .cons (fldAll ⟨_, Try.underlying63, rfl⟩) <| .cons (fldAll ⟨_, Try.underlying69, rfl⟩) <| .cons (fldAll ⟨_, Try.underlying75, rfl⟩) <| .cons (fldAll ⟨_, Try.underlying86, rfl⟩) <| .cons (fldAll ⟨_, Try.underlying88, rfl⟩) <| .cons (fldAll ⟨_, Try.underlying90, rfl⟩) <| .cons (fldAll ⟨_, Try.underlying131, rfl⟩) <| .cons (fldAll ⟨_, Try.underlying144, rfl⟩) <| .cons (fldAll ⟨_, Try.underlying170, rfl⟩) <| .nil
theorem inf_zero : AllL (fun p : Nat × List AV × Nat => ZeroT Try.prog p.1 p.2.1 p.2.2) inf.zero := .cons (⟨⟨.nilFunc, by kernel_rfl, rfl, rfl, rfl, rfl⟩⟩) <| .cons (⟨⟨.int .i64 0, by kernel_rfl, rfl, rfl, rfl, rfl⟩⟩) <| .cons (⟨⟨.bool false, by kernel_rfl, rfl, rfl, rfl, rfl⟩⟩) <| .cons (⟨⟨.int .u8 0, by kernel_rfl, rfl, rfl, rfl, rfl⟩⟩) <| .cons (⟨⟨.string ⟨#[]⟩, by kernel_rfl, rfl, rfl, rfl, rfl⟩⟩) <| .cons (⟨⟨.nilIface, by kernel_rfl, rfl, rfl, rfl, rfl⟩⟩) <| .cons (⟨⟨.slice none 0 0, by kernel_rfl, rfl, rfl, rfl, rfl⟩⟩) <| .cons (⟨⟨.slice none 0 0, by kernel_rfl, rfl, rfl, rfl, rfl⟩⟩) <| .cons (⟨⟨.slice none 0 0, by kernel_rfl, rfl, rfl, rfl, rfl⟩⟩) <| .cons (⟨⟨.slice none 0 0, by kernel_rfl, rfl, rfl, rfl, rfl⟩⟩) <| .cons (⟨⟨.slice none 0 0, by kernel_rfl, rfl, rfl, rfl, rfl⟩⟩) <| .cons (⟨⟨.slice none 0 0, by kernel_rfl, rfl, rfl, rfl, rfl⟩⟩) <| .cons (⟨⟨.slice none 0 0, by kernel_rfl, rfl, rfl, rfl, rfl⟩⟩) <| .cons (⟨⟨.nilFunc, by kernel_rfl, rfl, rfl, rfl, rfl⟩⟩) <| .cons (⟨⟨.int .i64 0, by kernel_rfl, rfl, rfl, rfl, rfl⟩⟩) <| .cons (⟨⟨.agg #[(.int .i64 0), (.int .i64 0)], by kernel_rfl, rfl, rfl, rfl, rfl⟩⟩) <| .cons (⟨⟨.slice none 0 0, by kernel_rfl, rfl, rfl, rfl, rfl⟩⟩) <| .cons (⟨⟨.agg #[(.int .i64 0), (.bool false)], by kernel_rfl, rfl, rfl, rfl, rfl⟩⟩) <| .cons (⟨⟨.agg #[(.int .i64 0), (.int .i64 0), (.int .i64 0)], by kernel_rfl, rfl, rfl, rfl, rfl⟩⟩) <| .cons (⟨⟨.slice none 0 0, by kernel_rfl, rfl, rfl, rfl, rfl⟩⟩) <| .cons (⟨⟨.agg #[(.int .i64 0), (.int .i64 0), (.int .i64 0)], by kernel_rfl, rfl, rfl, rfl, rfl⟩⟩) <| .cons (⟨⟨.agg #[(.int .i64 0), (.int .i64 0), (.int .i64 0), (.int .i64 0), (.bool false), (.string ⟨#[]⟩)], by kernel_rfl, rfl, rfl, rfl, rfl⟩⟩) <| .cons (⟨⟨.agg #[(.int .i64 0), (.string ⟨#[]⟩), (.int .i64 0), (.int .i64 0), (.int .i64 0), (.int .i64 0), (.int .i64 0), (.bool false), (.string ⟨#[]⟩), (.bool false), (.int .i64 0)], by kernel_rfl, rfl, rfl, rfl, rfl⟩⟩) <| .cons (⟨⟨.slice none 0 0, by kernel_rfl, rfl, rfl, rfl, rfl⟩⟩) <| .cons (⟨⟨.agg #[(.int .i64 0), (.int .i64 0)], by kernel_rfl, rfl, rfl, rfl, rfl⟩⟩) <| .cons (⟨⟨.slice none 0 0, by kernel_rfl, rfl, rfl, rfl, rfl⟩⟩) <| .cons (⟨⟨.nilFunc, by kernel_rfl, rfl, rfl, rfl, rfl⟩⟩) <| .cons (⟨⟨.nilFunc, by kernel_rfl, rfl, rfl, rfl, rfl⟩⟩) <| .cons (⟨⟨.nilFunc, by kernel_rfl, rfl, rfl, rfl, rfl⟩⟩) <| .cons (⟨⟨.nilFunc, by kernel_rfl, rfl, rfl, rfl, rfl⟩⟩) <| .cons (⟨⟨.nilFunc, by kernel_rfl, rfl, rfl, rfl, rfl⟩⟩) <| .cons (⟨⟨.nilFunc, by kernel_rfl, rfl, rfl, rfl, rfl⟩⟩) <| .cons (⟨⟨.pointer none, by kernel_rfl, rfl, rfl, rfl, rfl⟩⟩) <| .cons (⟨⟨.slice none 0 0, by kernel_rfl, rfl, rfl, rfl, rfl⟩⟩) <| .cons (⟨⟨.map none, by kernel_rfl, rfl, rfl, rfl, rfl⟩⟩) <| .cons (⟨⟨.agg #[(.slice none 0 0), (.map none), (.slice none 0 0)], by kernel_rfl, rfl, rfl, rfl, rfl⟩⟩) <| .cons (⟨⟨.nilFunc, by kernel_rfl, rfl, rfl, rfl, rfl⟩⟩) <| .cons (⟨⟨.nilFunc, by kernel_rfl, rfl, rfl, rfl, rfl⟩⟩) <| .cons (⟨⟨.agg #[(.int .i64 0), (.string ⟨#[]⟩), (.int .i64 0), (.int .i64 0), (.int .i64 0), (.int .i64 0), (.int .i64 0), (.bool false), (.string ⟨#[]⟩), (.bool false), (.int .i64 0), (.int .i64 0), (.int .i64 0), (.int .i64 0), (.slice none 0 0)], by kernel_rfl, rfl, rfl, rfl, rfl⟩⟩) <| .cons (⟨⟨.nilFunc, by kernel_rfl, rfl, rfl, rfl, rfl⟩⟩) <| .cons (⟨⟨.nilFunc, by kernel_rfl, rfl, rfl, rfl, rfl⟩⟩) <| .cons (⟨⟨.nilFunc, by kernel_rfl, rfl, rfl, rfl, rfl⟩⟩) <| .cons (⟨⟨.nilFunc, by kernel_rfl, rfl, rfl, rfl, rfl⟩⟩) <| .cons (⟨⟨.nilFunc, by kernel_rfl, rfl, rfl, rfl, rfl⟩⟩) <| .cons (⟨⟨.nilFunc, by kernel_rfl, rfl, rfl, rfl, rfl⟩⟩) <| .cons (⟨⟨.nilFunc, by kernel_rfl, rfl, rfl, rfl, rfl⟩⟩) <| .cons (⟨⟨.nilFunc, by kernel_rfl, rfl, rfl, rfl, rfl⟩⟩) <| .cons (⟨⟨.agg #[(.int .i64 0)], by kernel_rfl, rfl, rfl, rfl, rfl⟩⟩) <| .cons (⟨⟨.nilFunc, by kernel_rfl, rfl, rfl, rfl, rfl⟩⟩) <| .cons (⟨⟨.nilFunc, by kernel_rfl, rfl, rfl, rfl, rfl⟩⟩) <| .cons (⟨⟨.agg #[(.nilFunc), (.nilFunc), (.nilFunc), (.nilFunc), (.nilFunc), (.nilFunc), (.nilFunc), (.nilFunc), (.nilFunc), (.nilFunc)], by kernel_rfl, rfl, rfl, rfl, rfl⟩⟩) <| .cons (⟨⟨.pointer none, by kernel_rfl, rfl, rfl, rfl, rfl⟩⟩) <| .cons (⟨⟨.map none, by kernel_rfl, rfl, rfl, rfl, rfl⟩⟩) <| .cons (⟨⟨.nilFunc, by kernel_rfl, rfl, rfl, rfl, rfl⟩⟩) <| .cons (⟨⟨.nilFunc, by kernel_rfl, rfl, rfl, rfl, rfl⟩⟩) <| .cons (⟨⟨.nilFunc, by kernel_rfl, rfl, rfl, rfl, rfl⟩⟩) <| .cons (⟨⟨.nilFunc, by kernel_rfl, rfl, rfl, rfl, rfl⟩⟩) <| .cons (⟨⟨.nilFunc, by kernel_rfl, rfl, rfl, rfl, rfl⟩⟩) <| .cons (⟨⟨.slice none 0 0, by kernel_rfl, rfl, rfl, rfl, rfl⟩⟩) <| .cons (⟨⟨.nilFunc, by kernel_rfl, rfl, rfl, rfl, rfl⟩⟩) <| .cons (⟨⟨.slice none 0 0, by kernel_rfl, rfl, rfl, rfl, rfl⟩⟩) <| .cons (⟨⟨.nilFunc, by kernel_rfl, rfl, rfl, rfl, rfl⟩⟩) <| .nil
theorem inf_bools : AllL (fun p : Nat × Unit => (Try.prog).underlying p.1 = some .bool) inf.bools := .cons (Try.underlying4) <| .nil
theorem inf_conc : AllL (fun p : Nat × Unit => ConT Try.prog p.1) inf.conc := .cons (⟨by kernel_rfl⟩) <| .cons (⟨by kernel_rfl⟩) <| .cons (⟨by kernel_rfl⟩) <| .cons (⟨by kernel_rfl⟩) <| .cons (⟨by kernel_rfl⟩) <| .cons (⟨by kernel_rfl⟩) <| .cons (⟨by kernel_rfl⟩) <| .cons (⟨by kernel_rfl⟩) <| .cons (⟨by kernel_rfl⟩) <| .cons (⟨by kernel_rfl⟩) <| .cons (⟨by kernel_rfl⟩) <| .cons (⟨by kernel_rfl⟩) <| .cons (⟨by kernel_rfl⟩) <| .cons (⟨by kernel_rfl⟩) <| .cons (⟨by kernel_rfl⟩) <| .cons (⟨by kernel_rfl⟩) <| .cons (⟨by kernel_rfl⟩) <| .cons (⟨by kernel_rfl⟩) <| .cons (⟨by kernel_rfl⟩) <| .cons (⟨by kernel_rfl⟩) <| .cons (⟨by kernel_rfl⟩) <| .cons (⟨by kernel_rfl⟩) <| .cons (⟨by kernel_rfl⟩) <| .cons (⟨by kernel_rfl⟩) <| .cons (⟨by kernel_rfl⟩) <| .cons (⟨by kernel_rfl⟩) <| .cons (⟨by kernel_rfl⟩) <| .cons (⟨by kernel_rfl⟩) <| .cons (⟨by kernel_rfl⟩) <| .cons (⟨by kernel_rfl⟩) <| .cons (⟨by kernel_rfl⟩) <| .cons (⟨by kernel_rfl⟩) <| .cons (⟨by kernel_rfl⟩) <| .cons (⟨by kernel_rfl⟩) <| .cons (⟨by kernel_rfl⟩) <| .cons (⟨by kernel_rfl⟩) <| .cons (⟨by kernel_rfl⟩) <| .cons (⟨by kernel_rfl⟩) <| .cons (⟨by kernel_rfl⟩) <| .cons (⟨by kernel_rfl⟩) <| .cons (⟨by kernel_rfl⟩) <| .cons (⟨by kernel_rfl⟩) <| .cons (⟨by kernel_rfl⟩) <| .cons (⟨by kernel_rfl⟩) <| .cons (⟨by kernel_rfl⟩) <| .cons (⟨by kernel_rfl⟩) <| .cons (⟨by kernel_rfl⟩) <| .cons (⟨by kernel_rfl⟩) <| .cons (⟨by kernel_rfl⟩) <| .cons (⟨by kernel_rfl⟩) <| .cons (⟨by kernel_rfl⟩) <| .cons (⟨by kernel_rfl⟩) <| .cons (⟨by kernel_rfl⟩) <| .cons (⟨by kernel_rfl⟩) <| .cons (⟨by kernel_rfl⟩) <| .cons (⟨by kernel_rfl⟩) <| .cons (⟨by kernel_rfl⟩) <| .cons (⟨by kernel_rfl⟩) <| .cons (⟨by kernel_rfl⟩) <| .cons (⟨by kernel_rfl⟩) <| .cons (⟨by kernel_rfl⟩) <| .nil
theorem inf_pl : AllL (fun p : Nat × List (Nat × Nat) => StrT Try.prog p.1 p.2) inf.pl := .cons (⟨⟨_, Try.underlying63, by kernel_rfl⟩⟩) <| .cons (⟨⟨_, Try.underlying69, by kernel_rfl⟩⟩) <| .cons (⟨⟨_, Try.underlying75, by kernel_rfl⟩⟩) <| .cons (⟨⟨_, Try.underlying86, by kernel_rfl⟩⟩) <| .cons (⟨⟨_, Try.underlying88, by kernel_rfl⟩⟩) <| .cons (⟨⟨_, Try.underlying90, by kernel_rfl⟩⟩) <| .cons (⟨⟨_, Try.underlying131, by kernel_rfl⟩⟩) <| .cons (⟨⟨_, Try.underlying144, by kernel_rfl⟩⟩) <| .cons (⟨⟨_, Try.underlying170, by kernel_rfl⟩⟩) <| .nil
theorem inf_eqs : AllL (fun p : Nat × EK => EqK Try.prog p.1 p.2) inf.eqs := .cons (⟨_, Try.underlying3⟩) <| .cons (Try.underlying4) <| .cons (⟨_, Try.underlying5⟩) <| .cons (Try.underlying9) <| .cons (⟨_, Try.underlying51⟩) <| .cons (⟨⟨_, Try.underlying63, rfl, by kernel_rfl⟩, by kernel_rfl, by kernel_rfl⟩) <| .cons (⟨⟨_, Try.underlying69, rfl, by kernel_rfl⟩, by kernel_rfl, by kernel_rfl⟩) <| .cons (⟨⟨_, Try.underlying75, rfl, by kernel_rfl⟩, by kernel_rfl, by kernel_rfl⟩) <| .cons (⟨⟨_, Try.underlying86, rfl, by kernel_rfl⟩, by kernel_rfl, by kernel_rfl⟩) <| .cons (⟨⟨_, Try.underlying88, rfl, by kernel_rfl⟩, by kernel_rfl, by kernel_rfl⟩) <| .cons (⟨⟨_, Try.underlying90, rfl, by kernel_rfl⟩, by kernel_rfl, by kernel_rfl⟩) <| .cons (⟨Try.underlying103, by kernel_rfl, by kernel_rfl, by kernel_rfl⟩) <| .nil
instance infI : Inf Try.prog inf := ⟨inf_ty, inf_el, inf_fld, inf_zero, inf_bools, inf_conc, inf_pl, inf_eqs⟩
instance fun3 : Fun Try.prog 3 Try.f3 (bodyOf Try.f3) := ⟨Try.func3, rfl, by kernel_rfl⟩
instance fun4 : Fun Try.prog 4 Try.f4 (bodyOf Try.f4) := ⟨Try.func4, rfl, by kernel_rfl⟩
instance fun5 : Fun Try.prog 5 Try.f5 (bodyOf Try.f5) := ⟨Try.func5, rfl, by kernel_rfl⟩
instance fun6 : Fun Try.prog 6 Try.f6 (bodyOf Try.f6) := ⟨Try.func6, rfl, by kernel_rfl⟩
instance fun7 : Fun Try.prog 7 Try.f7 (bodyOf Try.f7) := ⟨Try.func7, rfl, by kernel_rfl⟩
instance fun8 : Fun Try.prog 8 Try.f8 (bodyOf Try.f8) := ⟨Try.func8, rfl, by kernel_rfl⟩
instance fun9 : Fun Try.prog 9 Try.f9 (bodyOf Try.f9) := ⟨Try.func9, rfl, by kernel_rfl⟩
instance fun10 : Fun Try.prog 10 Try.f10 (bodyOf Try.f10) := ⟨Try.func10, rfl, by kernel_rfl⟩
instance fun11 : Fun Try.prog 11 Try.f11 (bodyOf Try.f11) := ⟨Try.func11, rfl, by kernel_rfl⟩
instance fun12 : Fun Try.prog 12 Try.f12 (bodyOf Try.f12) := ⟨Try.func12, rfl, by kernel_rfl⟩
instance fun13 : Fun Try.prog 13 Try.f13 (bodyOf Try.f13) := ⟨Try.func13, rfl, by kernel_rfl⟩
instance fun14 : Fun Try.prog 14 Try.f14 (bodyOf Try.f14) := ⟨Try.func14, rfl, by kernel_rfl⟩
instance fun15 : Fun Try.prog 15 Try.f15 (bodyOf Try.f15) := ⟨Try.func15, rfl, by kernel_rfl⟩
instance fun16 : Fun Try.prog 16 Try.f16 (bodyOf Try.f16) := ⟨Try.func16, rfl, by kernel_rfl⟩
instance fun17 : Fun Try.prog 17 Try.f17 (bodyOf Try.f17) := ⟨Try.func17, rfl, by kernel_rfl⟩
instance fun18 : Fun Try.prog 18 Try.f18 (bodyOf Try.f18) := ⟨Try.func18, rfl, by kernel_rfl⟩
instance fun19 : Fun Try.prog 19 Try.f19 (bodyOf Try.f19) := ⟨Try.func19, rfl, by kernel_rfl⟩
instance fun20 : Fun Try.prog 20 Try.f20 (bodyOf Try.f20) := ⟨Try.func20, rfl, by kernel_rfl⟩
instance fun21 : Fun Try.prog 21 Try.f21 (bodyOf Try.f21) := ⟨Try.func21, rfl, by kernel_rfl⟩
instance fun22 : Fun Try.prog 22 Try.f22 (bodyOf Try.f22) := ⟨Try.func22, rfl, by kernel_rfl⟩
instance fun23 : Fun Try.prog 23 Try.f23 (bodyOf Try.f23) := ⟨Try.func23, rfl, by kernel_rfl⟩
instance fun24 : Fun Try.prog 24 Try.f24 (bodyOf Try.f24) := ⟨Try.func24, rfl, by kernel_rfl⟩
instance fun25 : Fun Try.prog 25 Try.f25 (bodyOf Try.f25) := ⟨Try.func25, rfl, by kernel_rfl⟩
instance fun26 : Fun Try.prog 26 Try.f26 (bodyOf Try.f26) := ⟨Try.func26, rfl, by kernel_rfl⟩
instance fun27 : Fun Try.prog 27 Try.f27 (bodyOf Try.f27) := ⟨Try.func27, rfl, by kernel_rfl⟩
instance fun28 : Fun Try.prog 28 Try.f28 (bodyOf Try.f28) := ⟨Try.func28, rfl, by kernel_rfl⟩
instance fun29 : Fun Try.prog 29 Try.f29 (bodyOf Try.f29) := ⟨Try.func29, rfl, by kernel_rfl⟩
instance fun30 : Fun Try.prog 30 Try.f30 (bodyOf Try.f30) := ⟨Try.func30, rfl, by kernel_rfl⟩
instance fun31 : Fun Try.prog 31 Try.f31 (bodyOf Try.f31) := ⟨Try.func31, rfl, by kernel_rfl⟩
instance fun32 : Fun Try.prog 32 Try.f32 (bodyOf Try.f32) := ⟨Try.func32, rfl, by kernel_rfl⟩
instance fun33 : Fun Try.prog 33 Try.f33 (bodyOf Try.f33) := ⟨Try.func33, rfl, by kernel_rfl⟩
instance fun34 : Fun Try.prog 34 Try.f34 (bodyOf Try.f34) := ⟨Try.func34, rfl, by kernel_rfl⟩
instance fun35 : Fun Try.prog 35 Try.f35 (bodyOf Try.f35) := ⟨Try.func35, rfl, by kernel_rfl⟩
instance fun36 : Fun Try.prog 36 Try.f36 (bodyOf Try.f36) := ⟨Try.func36, rfl, by kernel_rfl⟩
instance fun37 : Fun Try.prog 37 Try.f37 (bodyOf Try.f37) := ⟨Try.func37, rfl, by kernel_rfl⟩
instance fun38 : Fun Try.prog 38 Try.f38 (bodyOf Try.f38) := ⟨Try.func38, rfl, by kernel_rfl⟩
instance fun39 : Fun Try.prog 39 Try.f39 (bodyOf Try.f39) := ⟨Try.func39, rfl, by kernel_rfl⟩
instance fun40 : Fun Try.prog 40 Try.f40 (bodyOf Try.f40) := ⟨Try.func40, rfl, by kernel_rfl⟩
instance fun41 : Fun Try.prog 41 Try.f41 (bodyOf Try.f41) := ⟨Try.func41, rfl, by kernel_rfl⟩
instance fun42 : Fun Try.prog 42 Try.f42 (bodyOf Try.f42) := ⟨Try.func42, rfl, by kernel_rfl⟩
instance fun43 : Fun Try.prog 43 Try.f43 (bodyOf Try.f43) := ⟨Try.func43, rfl, by kernel_rfl⟩
instance fun44 : Fun Try.prog 44 Try.f44 (bodyOf Try.f44) := ⟨Try.func44, rfl, by kernel_rfl⟩
instance fun45 : Fun Try.prog 45 Try.f45 (bodyOf Try.f45) := ⟨Try.func45, rfl, by kernel_rfl⟩
instance fun46 : Fun Try.prog 46 Try.f46 (bodyOf Try.f46) := ⟨Try.func46, rfl, by kernel_rfl⟩
instance fun47 : Fun Try.prog 47 Try.f47 (bodyOf Try.f47) := ⟨Try.func47, rfl, by kernel_rfl⟩
instance fun48 : Fun Try.prog 48 Try.f48 (bodyOf Try.f48) := ⟨Try.func48, rfl, by kernel_rfl⟩
instance fun49 : Fun Try.prog 49 Try.f49 (bodyOf Try.f49) := ⟨Try.func49, rfl, by kernel_rfl⟩
instance fun50 : Fun Try.prog 50 Try.f50 (bodyOf Try.f50) := ⟨Try.func50, rfl, by kernel_rfl⟩
instance fun51 : Fun Try.prog 51 Try.f51 (bodyOf Try.f51) := ⟨Try.func51, rfl, by kernel_rfl⟩
instance fun52 : Fun Try.prog 52 Try.f52 (bodyOf Try.f52) := ⟨Try.func52, rfl, by kernel_rfl⟩
instance fun53 : Fun Try.prog 53 Try.f53 (bodyOf Try.f53) := ⟨Try.func53, rfl, by kernel_rfl⟩
instance fun54 : Fun Try.prog 54 Try.f54 (bodyOf Try.f54) := ⟨Try.func54, rfl, by kernel_rfl⟩
instance fun55 : Fun Try.prog 55 Try.f55 (bodyOf Try.f55) := ⟨Try.func55, rfl, by kernel_rfl⟩
instance fun56 : Fun Try.prog 56 Try.f56 (bodyOf Try.f56) := ⟨Try.func56, rfl, by kernel_rfl⟩
instance fun57 : Fun Try.prog 57 Try.f57 (bodyOf Try.f57) := ⟨Try.func57, rfl, by kernel_rfl⟩
instance fun58 : Fun Try.prog 58 Try.f58 (bodyOf Try.f58) := ⟨Try.func58, rfl, by kernel_rfl⟩
instance fun59 : Fun Try.prog 59 Try.f59 (bodyOf Try.f59) := ⟨Try.func59, rfl, by kernel_rfl⟩
instance fun60 : Fun Try.prog 60 Try.f60 (bodyOf Try.f60) := ⟨Try.func60, rfl, by kernel_rfl⟩
instance fun61 : Fun Try.prog 61 Try.f61 (bodyOf Try.f61) := ⟨Try.func61, rfl, by kernel_rfl⟩
instance fun62 : Fun Try.prog 62 Try.f62 (bodyOf Try.f62) := ⟨Try.func62, rfl, by kernel_rfl⟩
instance fun63 : Fun Try.prog 63 Try.f63 (bodyOf Try.f63) := ⟨Try.func63, rfl, by kernel_rfl⟩
instance fun64 : Fun Try.prog 64 Try.f64 (bodyOf Try.f64) := ⟨Try.func64, rfl, by kernel_rfl⟩
instance fun65 : Fun Try.prog 65 Try.f65 (bodyOf Try.f65) := ⟨Try.func65, rfl, by kernel_rfl⟩
instance fun66 : Fun Try.prog 66 Try.f66 (bodyOf Try.f66) := ⟨Try.func66, rfl, by kernel_rfl⟩
instance fun67 : Fun Try.prog 67 Try.f67 (bodyOf Try.f67) := ⟨Try.func67, rfl, by kernel_rfl⟩
instance fun68 : Fun Try.prog 68 Try.f68 (bodyOf Try.f68) := ⟨Try.func68, rfl, by kernel_rfl⟩
instance fun69 : Fun Try.prog 69 Try.f69 (bodyOf Try.f69) := ⟨Try.func69, rfl, by kernel_rfl⟩
instance fun70 : Fun Try.prog 70 Try.f70 (bodyOf Try.f70) := ⟨Try.func70, rfl, by kernel_rfl⟩
instance fun71 : Fun Try.prog 71 Try.f71 (bodyOf Try.f71) := ⟨Try.func71, rfl, by kernel_rfl⟩
instance fun72 : Fun Try.prog 72 Try.f72 (bodyOf Try.f72) := ⟨Try.func72, rfl, by kernel_rfl⟩
instance fun73 : Fun Try.prog 73 Try.f73 (bodyOf Try.f73) := ⟨Try.func73, rfl, by kernel_rfl⟩
instance fun74 : Fun Try.prog 74 Try.f74 (bodyOf Try.f74) := ⟨Try.func74, rfl, by kernel_rfl⟩
instance fun75 : Fun Try.prog 75 Try.f75 (bodyOf Try.f75) := ⟨Try.func75, rfl, by kernel_rfl⟩
instance fun76 : Fun Try.prog 76 Try.f76 (bodyOf Try.f76) := ⟨Try.func76, rfl, by kernel_rfl⟩
instance fun77 : Fun Try.prog 77 Try.f77 (bodyOf Try.f77) := ⟨Try.func77, rfl, by kernel_rfl⟩
instance fun78 : Fun Try.prog 78 Try.f78 (bodyOf Try.f78) := ⟨Try.func78, rfl, by kernel_rfl⟩
instance fun79 : Fun Try.prog 79 Try.f79 (bodyOf Try.f79) := ⟨Try.func79, rfl, by kernel_rfl⟩
instance fun80 : Fun Try.prog 80 Try.f80 (bodyOf Try.f80) := ⟨Try.func80, rfl, by kernel_rfl⟩
instance fun81 : Fun Try.prog 81 Try.f81 (bodyOf Try.f81) := ⟨Try.func81, rfl, by kernel_rfl⟩
instance fun82 : Fun Try.prog 82 Try.f82 (bodyOf Try.f82) := ⟨Try.func82, rfl, by kernel_rfl⟩
instance fun83 : Fun Try.prog 83 Try.f83 (bodyOf Try.f83) := ⟨Try.func83, rfl, by kernel_rfl⟩
instance fun84 : Fun Try.prog 84 Try.f84 (bodyOf Try.f84) := ⟨Try.func84, rfl, by kernel_rfl⟩
instance fun85 : Fun Try.prog 85 Try.f85 (bodyOf Try.f85) := ⟨Try.func85, rfl, by kernel_rfl⟩
instance fun86 : Fun Try.prog 86 Try.f86 (bodyOf Try.f86) := ⟨Try.func86, rfl, by kernel_rfl⟩
instance fun87 : Fun Try.prog 87 Try.f87 (bodyOf Try.f87) := ⟨Try.func87, rfl, by kernel_rfl⟩
instance fun88 : Fun Try.prog 88 Try.f88 (bodyOf Try.f88) := ⟨Try.func88, rfl, by kernel_rfl⟩
instance fun89 : Fun Try.prog 89 Try.f89 (bodyOf Try.f89) := ⟨Try.func89, rfl, by kernel_rfl⟩
instance fun90 : Fun Try.prog 90 Try.f90 (bodyOf Try.f90) := ⟨Try.func90, rfl, by kernel_rfl⟩
instance fun91 : Fun Try.prog 91 Try.f91 (bodyOf Try.f91) := ⟨Try.func91, rfl, by kernel_rfl⟩
instance fun92 : Fun Try.prog 92 Try.f92 (bodyOf Try.f92) := ⟨Try.func92, rfl, by kernel_rfl⟩
instance fun93 : Fun Try.prog 93 Try.f93 (bodyOf Try.f93) := ⟨Try.func93, rfl, by kernel_rfl⟩
instance fun94 : Fun Try.prog 94 Try.f94 (bodyOf Try.f94) := ⟨Try.func94, rfl, by kernel_rfl⟩
instance fun95 : Fun Try.prog 95 Try.f95 (bodyOf Try.f95) := ⟨Try.func95, rfl, by kernel_rfl⟩
instance fun96 : Fun Try.prog 96 Try.f96 (bodyOf Try.f96) := ⟨Try.func96, rfl, by kernel_rfl⟩
instance fun97 : Fun Try.prog 97 Try.f97 (bodyOf Try.f97) := ⟨Try.func97, rfl, by kernel_rfl⟩
instance fun98 : Fun Try.prog 98 Try.f98 (bodyOf Try.f98) := ⟨Try.func98, rfl, by kernel_rfl⟩
instance fun99 : Fun Try.prog 99 Try.f99 (bodyOf Try.f99) := ⟨Try.func99, rfl, by kernel_rfl⟩
instance fun100 : Fun Try.prog 100 Try.f100 (bodyOf Try.f100) := ⟨Try.func100, rfl, by kernel_rfl⟩
instance fun101 : Fun Try.prog 101 Try.f101 (bodyOf Try.f101) := ⟨Try.func101, rfl, by kernel_rfl⟩
instance fun102 : Fun Try.prog 102 Try.f102 (bodyOf Try.f102) := ⟨Try.func102, rfl, by kernel_rfl⟩
instance fun103 : Fun Try.prog 103 Try.f103 (bodyOf Try.f103) := ⟨Try.func103, rfl, by kernel_rfl⟩
instance fun104 : Fun Try.prog 104 Try.f104 (bodyOf Try.f104) := ⟨Try.func104, rfl, by kernel_rfl⟩
instance fun105 : Fun Try.prog 105 Try.f105 (bodyOf Try.f105) := ⟨Try.func105, rfl, by kernel_rfl⟩
instance fun106 : Fun Try.prog 106 Try.f106 (bodyOf Try.f106) := ⟨Try.func106, rfl, by kernel_rfl⟩
instance fun107 : Fun Try.prog 107 Try.f107 (bodyOf Try.f107) := ⟨Try.func107, rfl, by kernel_rfl⟩
instance fun108 : Fun Try.prog 108 Try.f108 (bodyOf Try.f108) := ⟨Try.func108, rfl, by kernel_rfl⟩
instance fun109 : Fun Try.prog 109 Try.f109 (bodyOf Try.f109) := ⟨Try.func109, rfl, by kernel_rfl⟩
instance fun110 : Fun Try.prog 110 Try.f110 (bodyOf Try.f110) := ⟨Try.func110, rfl, by kernel_rfl⟩
instance fun111 : Fun Try.prog 111 Try.f111 (bodyOf Try.f111) := ⟨Try.func111, rfl, by kernel_rfl⟩
instance fun112 : Fun Try.prog 112 Try.f112 (bodyOf Try.f112) := ⟨Try.func112, rfl, by kernel_rfl⟩
instance fun113 : Fun Try.prog 113 Try.f113 (bodyOf Try.f113) := ⟨Try.func113, rfl, by kernel_rfl⟩
instance fun114 : Fun Try.prog 114 Try.f114 (bodyOf Try.f114) := ⟨Try.func114, rfl, by kernel_rfl⟩
instance fun115 : Fun Try.prog 115 Try.f115 (bodyOf Try.f115) := ⟨Try.func115, rfl, by kernel_rfl⟩
instance fun116 : Fun Try.prog 116 Try.f116 (bodyOf Try.f116) := ⟨Try.func116, rfl, by kernel_rfl⟩
instance fun117 : Fun Try.prog 117 Try.f117 (bodyOf Try.f117) := ⟨Try.func117, rfl, by kernel_rfl⟩
instance fun118 : Fun Try.prog 118 Try.f118 (bodyOf Try.f118) := ⟨Try.func118, rfl, by kernel_rfl⟩
instance fun119 : Fun Try.prog 119 Try.f119 (bodyOf Try.f119) := ⟨Try.func119, rfl, by kernel_rfl⟩
instance fun120 : Fun Try.prog 120 Try.f120 (bodyOf Try.f120) := ⟨Try.func120, rfl, by kernel_rfl⟩
instance fun121 : Fun Try.prog 121 Try.f121 (bodyOf Try.f121) := ⟨Try.func121, rfl, by kernel_rfl⟩
instance fun122 : Fun Try.prog 122 Try.f122 (bodyOf Try.f122) := ⟨Try.func122, rfl, by kernel_rfl⟩
instance fun123 : Fun Try.prog 123 Try.f123 (bodyOf Try.f123) := ⟨Try.func123, rfl, by kernel_rfl⟩
instance fun124 : Fun Try.prog 124 Try.f124 (bodyOf Try.f124) := ⟨Try.func124, rfl, by kernel_rfl⟩
instance fun125 : Fun Try.prog 125 Try.f125 (bodyOf Try.f125) := ⟨Try.func125, rfl, by kernel_rfl⟩
instance fun126 : Fun Try.prog 126 Try.f126 (bodyOf Try.f126) := ⟨Try.func126, rfl, by kernel_rfl⟩
instance fun127 : Fun Try.prog 127 Try.f127 (bodyOf Try.f127) := ⟨Try.func127, rfl, by kernel_rfl⟩
instance fun128 : Fun Try.prog 128 Try.f128 (bodyOf Try.f128) := ⟨Try.func128, rfl, by kernel_rfl⟩
instance fun129 : Fun Try.prog 129 Try.f129 (bodyOf Try.f129) := ⟨Try.func129, rfl, by kernel_rfl⟩
instance fun130 : Fun Try.prog 130 Try.f130 (bodyOf Try.f130) := ⟨Try.func130, rfl, by kernel_rfl⟩
instance fun131 : Fun Try.prog 131 Try.f131 (bodyOf Try.f131) := ⟨Try.func131, rfl, by kernel_rfl⟩
instance fun132 : Fun Try.prog 132 Try.f132 (bodyOf Try.f132) := ⟨Try.func132, rfl, by kernel_rfl⟩
instance fun133 : Fun Try.prog 133 Try.f133 (bodyOf Try.f133) := ⟨Try.func133, rfl, by kernel_rfl⟩
instance fun134 : Fun Try.prog 134 Try.f134 (bodyOf Try.f134) := ⟨Try.func134, rfl, by kernel_rfl⟩
instance fun135 : Fun Try.prog 135 Try.f135 (bodyOf Try.f135) := ⟨Try.func135, rfl, by kernel_rfl⟩
instance fun136 : Fun Try.prog 136 Try.f136 (bodyOf Try.f136) := ⟨Try.func136, rfl, by kernel_rfl⟩
instance fun137 : Fun Try.prog 137 Try.f137 (bodyOf Try.f137) := ⟨Try.func137, rfl, by kernel_rfl⟩
instance fun138 : Fun Try.prog 138 Try.f138 (bodyOf Try.f138) := ⟨Try.func138, rfl, by kernel_rfl⟩
instance fun139 : Fun Try.prog 139 Try.f139 (bodyOf Try.f139) := ⟨Try.func139, rfl, by kernel_rfl⟩
instance fun140 : Fun Try.prog 140 Try.f140 (bodyOf Try.f140) := ⟨Try.func140, rfl, by kernel_rfl⟩
instance fun141 : Fun Try.prog 141 Try.f141 (bodyOf Try.f141) := ⟨Try.func141, rfl, by kernel_rfl⟩
instance fun142 : Fun Try.prog 142 Try.f142 (bodyOf Try.f142) := ⟨Try.func142, rfl, by kernel_rfl⟩
instance fun143 : Fun Try.prog 143 Try.f143 (bodyOf Try.f143) := ⟨Try.func143, rfl, by kernel_rfl⟩
instance fun144 : Fun Try.prog 144 Try.f144 (bodyOf Try.f144) := ⟨Try.func144, rfl, by kernel_rfl⟩
instance fun145 : Fun Try.prog 145 Try.f145 (bodyOf Try.f145) := ⟨Try.func145, rfl, by kernel_rfl⟩
instance fun146 : Fun Try.prog 146 Try.f146 (bodyOf Try.f146) := ⟨Try.func146, rfl, by kernel_rfl⟩
instance fun147 : Fun Try.prog 147 Try.f147 (bodyOf Try.f147) := ⟨Try.func147, rfl, by kernel_rfl⟩
instance fun148 : Fun Try.prog 148 Try.f148 (bodyOf Try.f148) := ⟨Try.func148, rfl, by kernel_rfl⟩
instance fun149 : Fun Try.prog 149 Try.f149 (bodyOf Try.f149) := ⟨Try.func149, rfl, by kernel_rfl⟩
instance fun150 : Fun Try.prog 150 Try.f150 (bodyOf Try.f150) := ⟨Try.func150, rfl, by kernel_rfl⟩
instance fun151 : Fun Try.prog 151 Try.f151 (bodyOf Try.f151) := ⟨Try.func151, rfl, by kernel_rfl⟩
instance fun152 : Fun Try.prog 152 Try.f152 (bodyOf Try.f152) := ⟨Try.func152, rfl, by kernel_rfl⟩
instance fun153 : Fun Try.prog 153 Try.f153 (bodyOf Try.f153) := ⟨Try.func153, rfl, by kernel_rfl⟩
instance fun154 : Fun Try.prog 154 Try.f154 (bodyOf Try.f154) := ⟨Try.func154, rfl, by kernel_rfl⟩
instance fun155 : Fun Try.prog 155 Try.f155 (bodyOf Try.f155) := ⟨Try.func155, rfl, by kernel_rfl⟩
instance fun156 : Fun Try.prog 156 Try.f156 (bodyOf Try.f156) := ⟨Try.func156, rfl, by kernel_rfl⟩
instance fun157 : Fun Try.prog 157 Try.f157 (bodyOf Try.f157) := ⟨Try.func157, rfl, by kernel_rfl⟩
instance fun158 : Fun Try.prog 158 Try.f158 (bodyOf Try.f158) := ⟨Try.func158, rfl, by kernel_rfl⟩
instance fun159 : Fun Try.prog 159 Try.f159 (bodyOf Try.f159) := ⟨Try.func159, rfl, by kernel_rfl⟩
instance fun160 : Fun Try.prog 160 Try.f160 (bodyOf Try.f160) := ⟨Try.func160, rfl, by kernel_rfl⟩
instance fun161 : Fun Try.prog 161 Try.f161 (bodyOf Try.f161) := ⟨Try.func161, rfl, by kernel_rfl⟩
instance fun162 : Fun Try.prog 162 Try.f162 (bodyOf Try.f162) := ⟨Try.func162, rfl, by kernel_rfl⟩
instance fun163 : Fun Try.prog 163 Try.f163 (bodyOf Try.f163) := ⟨Try.func163, rfl, by kernel_rfl⟩
instance fun164 : Fun Try.prog 164 Try.f164 (bodyOf Try.f164) := ⟨Try.func164, rfl, by kernel_rfl⟩
instance fun165 : Fun Try.prog 165 Try.f165 (bodyOf Try.f165) := ⟨Try.func165, rfl, by kernel_rfl⟩
instance fun166 : Fun Try.prog 166 Try.f166 (bodyOf Try.f166) := ⟨Try.func166, rfl, by kernel_rfl⟩
instance fun167 : Fun Try.prog 167 Try.f167 (bodyOf Try.f167) := ⟨Try.func167, rfl, by kernel_rfl⟩
instance fun168 : Fun Try.prog 168 Try.f168 (bodyOf Try.f168) := ⟨Try.func168, rfl, by kernel_rfl⟩
instance fun169 : Fun Try.prog 169 Try.f169 (bodyOf Try.f169) := ⟨Try.func169, rfl, by kernel_rfl⟩
instance fun170 : Fun Try.prog 170 Try.f170 (bodyOf Try.f170) := ⟨Try.func170, rfl, by kernel_rfl⟩
instance fun171 : Fun Try.prog 171 Try.f171 (bodyOf Try.f171) := ⟨Try.func171, rfl, by kernel_rfl⟩
instance fun172 : Fun Try.prog 172 Try.f172 (bodyOf Try.f172) := ⟨Try.func172, rfl, by kernel_rfl⟩
instance fun173 : Fun Try.prog 173 Try.f173 (bodyOf Try.f173) := ⟨Try.func173, rfl, by kernel_rfl⟩
instance fun174 : Fun Try.prog 174 Try.f174 (bodyOf Try.f174) := ⟨Try.func174, rfl, by kernel_rfl⟩
instance fun175 : Fun Try.prog 175 Try.f175 (bodyOf Try.f175) := ⟨Try.func175, rfl, by kernel_rfl⟩
instance fun176 : Fun Try.prog 176 Try.f176 (bodyOf Try.f176) := ⟨Try.func176, rfl, by kernel_rfl⟩
instance fun177 : Fun Try.prog 177 Try.f177 (bodyOf Try.f177) := ⟨Try.func177, rfl, by kernel_rfl⟩
instance fun178 : Fun Try.prog 178 Try.f178 (bodyOf Try.f178) := ⟨Try.func178, rfl, by kernel_rfl⟩
instance fun179 : Fun Try.prog 179 Try.f179 (bodyOf Try.f179) := ⟨Try.func179, rfl, by kernel_rfl⟩
instance fun180 : Fun Try.prog 180 Try.f180 (bodyOf Try.f180) := ⟨Try.func180, rfl, by kernel_rfl⟩
instance fun181 : Fun Try.prog 181 Try.f181 (bodyOf Try.f181) := ⟨Try.func181, rfl, by kernel_rfl⟩
instance fun182 : Fun Try.prog 182 Try.f182 (bodyOf Try.f182) := ⟨Try.func182, rfl, by kernel_rfl⟩
instance fun183 : Fun Try.prog 183 Try.f183 (bodyOf Try.f183) := ⟨Try.func183, rfl, by kernel_rfl⟩
instance fun184 : Fun Try.prog 184 Try.f184 (bodyOf Try.f184) := ⟨Try.func184, rfl, by kernel_rfl⟩
instance fun185 : Fun Try.prog 185 Try.f185 (bodyOf Try.f185) := ⟨Try.func185, rfl, by kernel_rfl⟩
instance fun186 : Fun Try.prog 186 Try.f186 (bodyOf Try.f186) := ⟨Try.func186, rfl, by kernel_rfl⟩
instance fun187 : Fun Try.prog 187 Try.f187 (bodyOf Try.f187) := ⟨Try.func187, rfl, by kernel_rfl⟩
instance fun188 : Fun Try.prog 188 Try.f188 (bodyOf Try.f188) := ⟨Try.func188, rfl, by kernel_rfl⟩
instance fun189 : Fun Try.prog 189 Try.f189 (bodyOf Try.f189) := ⟨Try.func189, rfl, by kernel_rfl⟩
instance fun190 : Fun Try.prog 190 Try.f190 (bodyOf Try.f190) := ⟨Try.func190, rfl, by kernel_rfl⟩
instance fun191 : Fun Try.prog 191 Try.f191 (bodyOf Try.f191) := ⟨Try.func191, rfl, by kernel_rfl⟩
instance fun192 : Fun Try.prog 192 Try.f192 (bodyOf Try.f192) := ⟨Try.func192, rfl, by kernel_rfl⟩
instance fun193 : Fun Try.prog 193 Try.f193 (bodyOf Try.f193) := ⟨Try.func193, rfl, by kernel_rfl⟩
instance fun194 : Fun Try.prog 194 Try.f194 (bodyOf Try.f194) := ⟨Try.func194, rfl, by kernel_rfl⟩
instance fun195 : Fun Try.prog 195 Try.f195 (bodyOf Try.f195) := ⟨Try.func195, rfl, by kernel_rfl⟩
instance fun196 : Fun Try.prog 196 Try.f196 (bodyOf Try.f196) := ⟨Try.func196, rfl, by kernel_rfl⟩
end Go.Iron.Try

/- The array package's functions (seat Ytamhonbhoelohaa): copies and comparisons. -/
namespace Go.Iron.Try
open Go.Proofs
abbrev iv (n : Int) : AV := .val (.int .i64 n)
abbrev bv (b : Bool) : AV := .val (.bool b)
abbrev Dim := Int × Int
def intR (xs : List Int) : Nat → List AV := fun i => [iv (xs.getD i 0)]
def intS (nl : Option Bool) (xs : List Int) : AV := .slc 1 nl xs.length (intR xs)
theorem w64 {x : Int} (h1 : -9223372036854775808 ≤ x) (h2 : x ≤ 9223372036854775807) : IntKind.wrap .i64 x = x := IntWalk.i64_in x (by omega)
theorem obs_cons {c d : Bool} {l : Ob} : Obs ((c, d) :: l) ↔ (c = true → d = true) ∧ Obs l :=
  ⟨fun h => ⟨fun hc => h (c, d) (by simp) hc, fun p hp => h p (List.mem_cons_of_mem _ hp)⟩, fun h => obs_by h.1 h.2⟩
theorem obs_nil' : Obs [] ↔ True := ⟨fun _ => trivial, fun _ => obs_nil⟩
theorem ieq {a b : Nat} (h : (a : Int) = b) : a = b := by omega
theorem appR_zero (r r2 : Nat → List AV) : appR 0 r r2 = r2 := by funext i; exact appR_ge (Nat.zero_le i)

theorem take_next {α : Type} {d : α} {xs ys : List α} {i : Nat} (hl : xs.length = ys.length) (hi : i < xs.length) (hp : xs.take i = ys.take i) (h : xs.getD i d = ys.getD i d) : xs.take (i + 1) = ys.take (i + 1) := by
  rw [List.take_succ_eq_append_getElem hi, List.take_succ_eq_append_getElem (hl ▸ hi), hp]
  simp only [List.getD_eq_getElem?_getD, List.getElem?_eq_getElem hi, List.getElem?_eq_getElem (hl ▸ hi : i < ys.length), Option.getD_some] at h
  rw [h]

end Go.Iron.Try

/- The array package's functions (seat Ytamhonbhoelohaa): bounds, their number. -/
namespace Go.Iron.Try
open Go.Proofs

/-- How many subscripts a dimension has. -/
def ext (d : Dim) : Int := d.2 - d.1 + 1
end Go.Iron.Try

/- The array package's functions (seat Ytamhonbhoelohaa): dimensions. -/
namespace Go.Iron.Try
open Go.Proofs

end Go.Iron.Try

/- The array package's functions (seat Ytamhonbhoelohaa): offsets. -/
namespace Go.Iron.Try
open Go.Proofs

/-- The first subscript that is out, from i + 1 on; 0: none. -/
def outL : Int → List Dim → List Int → Int
  | i, d :: l, s :: t => if decide (s < d.1) || decide (s > d.2) then i + 1 else outL (i + 1) l t
  | _, _, _ => 0
def placeL : Int → List Dim → List Int → Int
  | n, d :: l, s :: t => placeL (n * ext d + s - d.1) l t
  | n, _, _ => n
def out (ds : List Dim) (ss : List Int) : Int := outL 0 ds ss
def place (ds : List Dim) (ss : List Int) : Int := placeL 0 ds ss

end Go.Iron.Try

/- The array package's functions (seat Ytamhonbhoelohaa): subscripts of an offset. -/
namespace Go.Iron.Try
open Go.Proofs

end Go.Iron.Try

/- The array package's functions (seat Ytamhonbhoelohaa): Subs, Next. -/
namespace Go.Iron.Try
open Go.Proofs

end Go.Iron.Try

/- The array package's functions (seat Ytamhonbhoelohaa): crosses and own places, copied and compared. -/
namespace Go.Iron.Try
open Go.Proofs

end Go.Iron.Try

/- Iron: this seat's further tables, by program (mkinf2.py). -/
set_option maxRecDepth 10000
namespace Go.Iron.Try
open Go.Proofs
noncomputable def jnf : TJ where
  ifs := [(20, ())]
  zv := [(3, .val (.int .i64 0)), (4, .val (.bool false)), (170, .agg [.val (.int .i64 0)])]
  strs := [(9, ()), (10, ()), (11, ())]
  ints := [(2, .i64), (3, .i64), (5, .u8), (6, .u8), (12, .u64), (21, .i32), (51, .i64), (200, .u32), (201, .u8), (202, .u8), (205, .i32), (206, .i32)]
  fns := [(2, Try.f2), (3, Try.f3), (4, Try.f4), (5, Try.f5), (6, Try.f6), (7, Try.f7), (8, Try.f8), (9, Try.f9), (10, Try.f10), (11, Try.f11), (12, Try.f12), (13, Try.f13), (14, Try.f14), (15, Try.f15), (16, Try.f16), (17, Try.f17), (18, Try.f18), (19, Try.f19), (20, Try.f20), (21, Try.f21), (22, Try.f22), (23, Try.f23), (24, Try.f24), (25, Try.f25), (26, Try.f26), (27, Try.f27), (28, Try.f28), (29, Try.f29), (30, Try.f30), (31, Try.f31), (32, Try.f32), (33, Try.f33), (34, Try.f34), (35, Try.f35), (36, Try.f36), (37, Try.f37), (38, Try.f38), (39, Try.f39), (40, Try.f40), (41, Try.f41), (42, Try.f42), (43, Try.f43), (44, Try.f44), (45, Try.f45), (46, Try.f46), (47, Try.f47), (48, Try.f48), (49, Try.f49), (50, Try.f50), (51, Try.f51), (52, Try.f52), (53, Try.f53), (54, Try.f54), (55, Try.f55), (56, Try.f56), (57, Try.f57), (58, Try.f58), (59, Try.f59), (60, Try.f60), (61, Try.f61), (62, Try.f62), (63, Try.f63), (64, Try.f64), (65, Try.f65), (66, Try.f66), (67, Try.f67), (68, Try.f68), (69, Try.f69), (70, Try.f70), (71, Try.f71), (72, Try.f72), (73, Try.f73), (74, Try.f74), (75, Try.f75), (76, Try.f76), (77, Try.f77), (78, Try.f78), (79, Try.f79), (80, Try.f80), (81, Try.f81), (82, Try.f82), (83, Try.f83), (84, Try.f84), (85, Try.f85), (86, Try.f86), (87, Try.f87), (88, Try.f88), (89, Try.f89), (90, Try.f90), (91, Try.f91), (92, Try.f92), (93, Try.f93), (94, Try.f94), (95, Try.f95), (96, Try.f96), (97, Try.f97), (98, Try.f98), (99, Try.f99), (100, Try.f100), (101, Try.f101), (102, Try.f102), (103, Try.f103), (104, Try.f104), (105, Try.f105), (106, Try.f106), (107, Try.f107), (108, Try.f108), (109, Try.f109), (110, Try.f110), (111, Try.f111), (112, Try.f112), (113, Try.f113), (114, Try.f114), (115, Try.f115), (116, Try.f116), (117, Try.f117), (118, Try.f118), (119, Try.f119), (120, Try.f120), (121, Try.f121), (122, Try.f122), (123, Try.f123), (124, Try.f124), (125, Try.f125), (126, Try.f126), (127, Try.f127), (128, Try.f128), (129, Try.f129), (130, Try.f130), (131, Try.f131), (132, Try.f132), (133, Try.f133), (134, Try.f134), (135, Try.f135), (136, Try.f136), (137, Try.f137), (138, Try.f138), (139, Try.f139), (140, Try.f140), (141, Try.f141), (142, Try.f142), (143, Try.f143), (144, Try.f144), (145, Try.f145), (146, Try.f146), (147, Try.f147), (148, Try.f148), (149, Try.f149), (150, Try.f150), (151, Try.f151), (152, Try.f152), (153, Try.f153), (154, Try.f154), (155, Try.f155), (156, Try.f156), (157, Try.f157), (158, Try.f158), (159, Try.f159), (160, Try.f160), (161, Try.f161), (162, Try.f162), (163, Try.f163), (164, Try.f164), (165, Try.f165), (166, Try.f166), (167, Try.f167), (168, Try.f168), (169, Try.f169), (170, Try.f170), (171, Try.f171), (172, Try.f172), (173, Try.f173), (174, Try.f174), (175, Try.f175), (176, Try.f176), (177, Try.f177), (178, Try.f178), (179, Try.f179), (180, Try.f180), (181, Try.f181), (182, Try.f182), (183, Try.f183), (184, Try.f184), (185, Try.f185), (186, Try.f186), (187, Try.f187), (188, Try.f188), (189, Try.f189), (190, Try.f190), (191, Try.f191), (192, Try.f192), (193, Try.f193), (194, Try.f194), (195, Try.f195), (196, Try.f196)]
  dr := [(14, [(6, 9)]), (15, [(6, 9)]), (18, [(6, 9)]), (21, [(6, 9)]), (23, [(8, 13)]), (24, [(6, 10)]), (26, [(12, 9), (17, 9), (40, 11), (42, 16), (43, 20)]), (27, [(6, 9)]), (28, [(18, 28)]), (31, [(6, 9)]), (32, [(12, 9), (24, 27)]), (37, [(5, 27), (7, 14)]), (48, [(6, 9)]), (51, [(10, 18), (19, 3)]), (52, [(16, 24), (27, 20)]), (53, [(6, 9)]), (54, [(5, 14)]), (59, [(5, 12), (6, 11)]), (64, [(22, 3)]), (65, [(14, 9), (26, 10)]), (69, [(10, 23), (21, 7)]), (74, [(19, 7), (25, 9)]), (75, [(6, 9)]), (79, [(26, 29)]), (85, [(6, 9)]), (87, [(10, 21)]), (89, [(8, 46)]), (97, [(4, 16), (6, 12)]), (98, [(4, 22)]), (99, [(5, 25)]), (100, [(5, 15)]), (103, [(4, 12)]), (106, [(7, 14)]), (109, [(7, 20)]), (110, [(6, 9)]), (114, [(1, 8), (7, 14), (8, 9)]), (118, [(4, 14), (10, 8)]), (119, [(6, 17)]), (124, [(1, 19)]), (126, [(1, 7)]), (128, [(5, 10), (15, 7)]), (132, [(9, 8), (10, 9)]), (133, [(10, 26)]), (139, [(4, 11)]), (140, [(9, 31)]), (142, [(6, 9)]), (144, [(1, 23), (7, 9)]), (147, [(1, 5)]), (149, [(2, 5), (10, 9)]), (150, [(6, 9)]), (152, [(2, 5)]), (160, [(6, 4)]), (166, [(6, 4)]), (167, [(6, 4)]), (168, [(6, 4)]), (169, [(2, 15)]), (174, [(3, 14)]), (175, [(6, 4)]), (176, [(6, 4)]), (177, [(6, 4)]), (179, [(1, 3)]), (182, [(3, 3), (4, 5)])]
  maps := [(129, some .i64, 3), (179, none, 4)]
  arrs := [(103, 2, 3), (174, 10, 173), (197, 0, 16)]
theorem jnf_ifs : AllL (fun p : Nat × Unit => ∃ ms, (Try.prog).underlying p.1 = some (.interface ms)) jnf.ifs := .cons (⟨_, Try.underlying20⟩) <| .nil
theorem jnf_zv : AllL (fun p : Nat × AV => ZV Try.prog p.1 p.2) jnf.zv := .cons (⟨by kernel_rfl, .int .i64 0, by kernel_rfl, rfl⟩) <| .cons (⟨by kernel_rfl, .bool false, by kernel_rfl, rfl⟩) <| .cons (⟨by kernel_rfl, .agg #[(.int .i64 0)], by kernel_rfl, rfl⟩) <| .nil
theorem jnf_strs : AllL (fun p : Nat × Unit => (Try.prog).underlying p.1 = some .string) jnf.strs := .cons (Try.underlying9) <| .cons (Try.underlying10) <| .cons (Try.underlying11) <| .nil
theorem jnf_ints : AllL (fun p : Nat × IntKind => (Try.prog).underlying p.1 = some (.int p.2)) jnf.ints := .cons (Try.underlying2) <| .cons (Try.underlying3) <| .cons (Try.underlying5) <| .cons (Try.underlying6) <| .cons (Try.underlying12) <| .cons (Try.underlying21) <| .cons (Try.underlying51) <| .cons (Try.underlying200) <| .cons (Try.underlying201) <| .cons (Try.underlying202) <| .cons (Try.underlying205) <| .cons (Try.underlying206) <| .nil
theorem jnf_fns : AllL (fun p : Nat × Func => (Try.prog).funcs[p.1]? = some p.2 ∧ p.2.body.isSome = true ∧ (p.2.name == "runtime.NumGoroutine") = false) jnf.fns := .cons (⟨Try.func2, rfl, by kernel_rfl⟩) <| .cons (⟨Try.func3, rfl, by kernel_rfl⟩) <| .cons (⟨Try.func4, rfl, by kernel_rfl⟩) <| .cons (⟨Try.func5, rfl, by kernel_rfl⟩) <| .cons (⟨Try.func6, rfl, by kernel_rfl⟩) <| .cons (⟨Try.func7, rfl, by kernel_rfl⟩) <| .cons (⟨Try.func8, rfl, by kernel_rfl⟩) <| .cons (⟨Try.func9, rfl, by kernel_rfl⟩) <| .cons (⟨Try.func10, rfl, by kernel_rfl⟩) <| .cons (⟨Try.func11, rfl, by kernel_rfl⟩) <| .cons (⟨Try.func12, rfl, by kernel_rfl⟩) <| .cons (⟨Try.func13, rfl, by kernel_rfl⟩) <| .cons (⟨Try.func14, rfl, by kernel_rfl⟩) <| .cons (⟨Try.func15, rfl, by kernel_rfl⟩) <| .cons (⟨Try.func16, rfl, by kernel_rfl⟩) <| .cons (⟨Try.func17, rfl, by kernel_rfl⟩) <| .cons (⟨Try.func18, rfl, by kernel_rfl⟩) <| .cons (⟨Try.func19, rfl, by kernel_rfl⟩) <| .cons (⟨Try.func20, rfl, by kernel_rfl⟩) <| .cons (⟨Try.func21, rfl, by kernel_rfl⟩) <| .cons (⟨Try.func22, rfl, by kernel_rfl⟩) <| .cons (⟨Try.func23, rfl, by kernel_rfl⟩) <| .cons (⟨Try.func24, rfl, by kernel_rfl⟩) <| .cons (⟨Try.func25, rfl, by kernel_rfl⟩) <| .cons (⟨Try.func26, rfl, by kernel_rfl⟩) <| .cons (⟨Try.func27, rfl, by kernel_rfl⟩) <| .cons (⟨Try.func28, rfl, by kernel_rfl⟩) <| .cons (⟨Try.func29, rfl, by kernel_rfl⟩) <| .cons (⟨Try.func30, rfl, by kernel_rfl⟩) <| .cons (⟨Try.func31, rfl, by kernel_rfl⟩) <| .cons (⟨Try.func32, rfl, by kernel_rfl⟩) <| .cons (⟨Try.func33, rfl, by kernel_rfl⟩) <| .cons (⟨Try.func34, rfl, by kernel_rfl⟩) <| .cons (⟨Try.func35, rfl, by kernel_rfl⟩) <| .cons (⟨Try.func36, rfl, by kernel_rfl⟩) <| .cons (⟨Try.func37, rfl, by kernel_rfl⟩) <| .cons (⟨Try.func38, rfl, by kernel_rfl⟩) <| .cons (⟨Try.func39, rfl, by kernel_rfl⟩) <| .cons (⟨Try.func40, rfl, by kernel_rfl⟩) <| .cons (⟨Try.func41, rfl, by kernel_rfl⟩) <| .cons (⟨Try.func42, rfl, by kernel_rfl⟩) <| .cons (⟨Try.func43, rfl, by kernel_rfl⟩) <| .cons (⟨Try.func44, rfl, by kernel_rfl⟩) <| .cons (⟨Try.func45, rfl, by kernel_rfl⟩) <| .cons (⟨Try.func46, rfl, by kernel_rfl⟩) <| .cons (⟨Try.func47, rfl, by kernel_rfl⟩) <| .cons (⟨Try.func48, rfl, by kernel_rfl⟩) <| .cons (⟨Try.func49, rfl, by kernel_rfl⟩) <| .cons (⟨Try.func50, rfl, by kernel_rfl⟩) <| .cons (⟨Try.func51, rfl, by kernel_rfl⟩) <| .cons (⟨Try.func52, rfl, by kernel_rfl⟩) <| .cons (⟨Try.func53, rfl, by kernel_rfl⟩) <| .cons (⟨Try.func54, rfl, by kernel_rfl⟩) <| .cons (⟨Try.func55, rfl, by kernel_rfl⟩) <| .cons (⟨Try.func56, rfl, by kernel_rfl⟩) <| .cons (⟨Try.func57, rfl, by kernel_rfl⟩) <| .cons (⟨Try.func58, rfl, by kernel_rfl⟩) <| .cons (⟨Try.func59, rfl, by kernel_rfl⟩) <| .cons (⟨Try.func60, rfl, by kernel_rfl⟩) <| .cons (⟨Try.func61, rfl, by kernel_rfl⟩) <| .cons (⟨Try.func62, rfl, by kernel_rfl⟩) <| .cons (⟨Try.func63, rfl, by kernel_rfl⟩) <| .cons (⟨Try.func64, rfl, by kernel_rfl⟩) <| .cons (⟨Try.func65, rfl, by kernel_rfl⟩) <| .cons (⟨Try.func66, rfl, by kernel_rfl⟩) <| .cons (⟨Try.func67, rfl, by kernel_rfl⟩) <| .cons (⟨Try.func68, rfl, by kernel_rfl⟩) <| .cons (⟨Try.func69, rfl, by kernel_rfl⟩) <| .cons (⟨Try.func70, rfl, by kernel_rfl⟩) <| .cons (⟨Try.func71, rfl, by kernel_rfl⟩) <| .cons (⟨Try.func72, rfl, by kernel_rfl⟩) <| .cons (⟨Try.func73, rfl, by kernel_rfl⟩) <| .cons (⟨Try.func74, rfl, by kernel_rfl⟩) <| .cons (⟨Try.func75, rfl, by kernel_rfl⟩) <| .cons (⟨Try.func76, rfl, by kernel_rfl⟩) <| .cons (⟨Try.func77, rfl, by kernel_rfl⟩) <| .cons (⟨Try.func78, rfl, by kernel_rfl⟩) <| .cons (⟨Try.func79, rfl, by kernel_rfl⟩) <| .cons (⟨Try.func80, rfl, by kernel_rfl⟩) <| .cons (⟨Try.func81, rfl, by kernel_rfl⟩) <| .cons (⟨Try.func82, rfl, by kernel_rfl⟩) <| .cons (⟨Try.func83, rfl, by kernel_rfl⟩) <| .cons (⟨Try.func84, rfl, by kernel_rfl⟩) <| .cons (⟨Try.func85, rfl, by kernel_rfl⟩) <| .cons (⟨Try.func86, rfl, by kernel_rfl⟩) <| .cons (⟨Try.func87, rfl, by kernel_rfl⟩) <| .cons (⟨Try.func88, rfl, by kernel_rfl⟩) <| .cons (⟨Try.func89, rfl, by kernel_rfl⟩) <| .cons (⟨Try.func90, rfl, by kernel_rfl⟩) <| .cons (⟨Try.func91, rfl, by kernel_rfl⟩) <| .cons (⟨Try.func92, rfl, by kernel_rfl⟩) <| .cons (⟨Try.func93, rfl, by kernel_rfl⟩) <| .cons (⟨Try.func94, rfl, by kernel_rfl⟩) <| .cons (⟨Try.func95, rfl, by kernel_rfl⟩) <| .cons (⟨Try.func96, rfl, by kernel_rfl⟩) <| .cons (⟨Try.func97, rfl, by kernel_rfl⟩) <| .cons (⟨Try.func98, rfl, by kernel_rfl⟩) <| .cons (⟨Try.func99, rfl, by kernel_rfl⟩) <| .cons (⟨Try.func100, rfl, by kernel_rfl⟩) <| .cons (⟨Try.func101, rfl, by kernel_rfl⟩) <| .cons (⟨Try.func102, rfl, by kernel_rfl⟩) <| .cons (⟨Try.func103, rfl, by kernel_rfl⟩) <| .cons (⟨Try.func104, rfl, by kernel_rfl⟩) <| .cons (⟨Try.func105, rfl, by kernel_rfl⟩) <| .cons (⟨Try.func106, rfl, by kernel_rfl⟩) <| .cons (⟨Try.func107, rfl, by kernel_rfl⟩) <| .cons (⟨Try.func108, rfl, by kernel_rfl⟩) <| .cons (⟨Try.func109, rfl, by kernel_rfl⟩) <| .cons (⟨Try.func110, rfl, by kernel_rfl⟩) <| .cons (⟨Try.func111, rfl, by kernel_rfl⟩) <| .cons (⟨Try.func112, rfl, by kernel_rfl⟩) <| .cons (⟨Try.func113, rfl, by kernel_rfl⟩) <| .cons (⟨Try.func114, rfl, by kernel_rfl⟩) <| .cons (⟨Try.func115, rfl, by kernel_rfl⟩) <| .cons (⟨Try.func116, rfl, by kernel_rfl⟩) <| .cons (⟨Try.func117, rfl, by kernel_rfl⟩) <| .cons (⟨Try.func118, rfl, by kernel_rfl⟩) <| .cons (⟨Try.func119, rfl, by kernel_rfl⟩) <| .cons (⟨Try.func120, rfl, by kernel_rfl⟩) <| .cons (⟨Try.func121, rfl, by kernel_rfl⟩) <| .cons (⟨Try.func122, rfl, by kernel_rfl⟩) <| .cons (⟨Try.func123, rfl, by kernel_rfl⟩) <| .cons (⟨Try.func124, rfl, by kernel_rfl⟩) <| .cons (⟨Try.func125, rfl, by kernel_rfl⟩) <| .cons (⟨Try.func126, rfl, by kernel_rfl⟩) <| .cons (⟨Try.func127, rfl, by kernel_rfl⟩) <| .cons (⟨Try.func128, rfl, by kernel_rfl⟩) <| .cons (⟨Try.func129, rfl, by kernel_rfl⟩) <| .cons (⟨Try.func130, rfl, by kernel_rfl⟩) <| .cons (⟨Try.func131, rfl, by kernel_rfl⟩) <| .cons (⟨Try.func132, rfl, by kernel_rfl⟩) <| .cons (⟨Try.func133, rfl, by kernel_rfl⟩) <| .cons (⟨Try.func134, rfl, by kernel_rfl⟩) <| .cons (⟨Try.func135, rfl, by kernel_rfl⟩) <| .cons (⟨Try.func136, rfl, by kernel_rfl⟩) <| .cons (⟨Try.func137, rfl, by kernel_rfl⟩) <| .cons (⟨Try.func138, rfl, by kernel_rfl⟩) <| .cons (⟨Try.func139, rfl, by kernel_rfl⟩) <| .cons (⟨Try.func140, rfl, by kernel_rfl⟩) <| .cons (⟨Try.func141, rfl, by kernel_rfl⟩) <| .cons (⟨Try.func142, rfl, by kernel_rfl⟩) <| .cons (⟨Try.func143, rfl, by kernel_rfl⟩) <| .cons (⟨Try.func144, rfl, by kernel_rfl⟩) <| .cons (⟨Try.func145, rfl, by kernel_rfl⟩) <| .cons (⟨Try.func146, rfl, by kernel_rfl⟩) <| .cons (⟨Try.func147, rfl, by kernel_rfl⟩) <| .cons (⟨Try.func148, rfl, by kernel_rfl⟩) <| .cons (⟨Try.func149, rfl, by kernel_rfl⟩) <| .cons (⟨Try.func150, rfl, by kernel_rfl⟩) <| .cons (⟨Try.func151, rfl, by kernel_rfl⟩) <| .cons (⟨Try.func152, rfl, by kernel_rfl⟩) <| .cons (⟨Try.func153, rfl, by kernel_rfl⟩) <| .cons (⟨Try.func154, rfl, by kernel_rfl⟩) <| .cons (⟨Try.func155, rfl, by kernel_rfl⟩) <| .cons (⟨Try.func156, rfl, by kernel_rfl⟩) <| .cons (⟨Try.func157, rfl, by kernel_rfl⟩) <| .cons (⟨Try.func158, rfl, by kernel_rfl⟩) <| .cons (⟨Try.func159, rfl, by kernel_rfl⟩) <| .cons (⟨Try.func160, rfl, by kernel_rfl⟩) <| .cons (⟨Try.func161, rfl, by kernel_rfl⟩) <| .cons (⟨Try.func162, rfl, by kernel_rfl⟩) <| .cons (⟨Try.func163, rfl, by kernel_rfl⟩) <| .cons (⟨Try.func164, rfl, by kernel_rfl⟩) <| .cons (⟨Try.func165, rfl, by kernel_rfl⟩) <| .cons (⟨Try.func166, rfl, by kernel_rfl⟩) <| .cons (⟨Try.func167, rfl, by kernel_rfl⟩) <| .cons (⟨Try.func168, rfl, by kernel_rfl⟩) <| .cons (⟨Try.func169, rfl, by kernel_rfl⟩) <| .cons (⟨Try.func170, rfl, by kernel_rfl⟩) <| .cons (⟨Try.func171, rfl, by kernel_rfl⟩) <| .cons (⟨Try.func172, rfl, by kernel_rfl⟩) <| .cons (⟨Try.func173, rfl, by kernel_rfl⟩) <| .cons (⟨Try.func174, rfl, by kernel_rfl⟩) <| .cons (⟨Try.func175, rfl, by kernel_rfl⟩) <| .cons (⟨Try.func176, rfl, by kernel_rfl⟩) <| .cons (⟨Try.func177, rfl, by kernel_rfl⟩) <| .cons (⟨Try.func178, rfl, by kernel_rfl⟩) <| .cons (⟨Try.func179, rfl, by kernel_rfl⟩) <| .cons (⟨Try.func180, rfl, by kernel_rfl⟩) <| .cons (⟨Try.func181, rfl, by kernel_rfl⟩) <| .cons (⟨Try.func182, rfl, by kernel_rfl⟩) <| .cons (⟨Try.func183, rfl, by kernel_rfl⟩) <| .cons (⟨Try.func184, rfl, by kernel_rfl⟩) <| .cons (⟨Try.func185, rfl, by kernel_rfl⟩) <| .cons (⟨Try.func186, rfl, by kernel_rfl⟩) <| .cons (⟨Try.func187, rfl, by kernel_rfl⟩) <| .cons (⟨Try.func188, rfl, by kernel_rfl⟩) <| .cons (⟨Try.func189, rfl, by kernel_rfl⟩) <| .cons (⟨Try.func190, rfl, by kernel_rfl⟩) <| .cons (⟨Try.func191, rfl, by kernel_rfl⟩) <| .cons (⟨Try.func192, rfl, by kernel_rfl⟩) <| .cons (⟨Try.func193, rfl, by kernel_rfl⟩) <| .cons (⟨Try.func194, rfl, by kernel_rfl⟩) <| .cons (⟨Try.func195, rfl, by kernel_rfl⟩) <| .cons (⟨Try.func196, rfl, by kernel_rfl⟩) <| .nil
theorem jnf_maps : AllL (fun p : Nat × Option IntKind × Nat => MapT Try.prog p.1 p.2.1 p.2.2) jnf.maps := .cons (⟨_, Try.underlying129, Try.underlying3⟩) <| .cons (⟨_, Try.underlying179, Try.underlying9⟩) <| .nil
theorem jnf_arrs : AllL (fun p : Nat × Nat × Nat => (Try.prog).underlying p.1 = some (.array p.2.1 p.2.2)) jnf.arrs := .cons (Try.underlying103) <| .cons (Try.underlying174) <| .cons (Try.underlying197) <| .nil
instance jnfI : Inf2 Try.prog jnf := ⟨jnf_ifs, jnf_zv, jnf_strs, jnf_ints, jnf_fns, by kernel_rfl, jnf_maps, jnf_arrs⟩
end Go.Iron.Try

/- The level package's functions (seat Ytamhonbhoelohaa): fields, names; copies and comparisons. -/
namespace Go.Iron.Try
open Go.Proofs

abbrev Str := List UInt8
abbrev sv (s : Str) : AV := .val (.string (bs s))
structure Typ where
  kind : Int
  p : Int
  q : Int
  n : Int
  vary : Bool
  pic : Str
deriving DecidableEq
structure Fld where
  level : Int
  name : Str
  count : Int
  typ : Typ
  union : Bool
  refer : Int
deriving DecidableEq
def typ0 : Typ := ⟨0, 0, 0, 0, false, []⟩
def fld0 : Fld := ⟨0, [], 0, typ0, false, 0⟩
@[reducible] def typE (t : Typ) : List AV := [iv t.kind, iv t.p, iv t.q, iv t.n, bv t.vary, sv t.pic]
@[reducible] def fldE (f : Fld) : List AV := [iv f.level, sv f.name, iv f.count, iv f.typ.kind, iv f.typ.p, iv f.typ.q, iv f.typ.n, bv f.typ.vary, sv f.typ.pic, bv f.union, iv f.refer]
def fldS (nl : Option Bool) (l : List Fld) : AV := .slc 11 nl l.length (encR fldE fld0 l)
def txtS (nl : Option Bool) (l : List Str) : AV := .slc 1 nl l.length (encR (fun s => [sv s]) [] l)

theorem stay_fields (nl : Option Bool) (ds : List Fld) (hb : ds.length * 104 ≤ 140737488355328) : CallT Try.prog 25 [fldS nl ds] [] (fun out A => out = .ret (fldS none ds) ∧ A = []) := by
  refine callS_body (n := 6) rfl rfl fun w ρ X => ?_
  refine runS_x (I := inf) (J := jnf) ⟨false, false, [], 0, 0⟩ 9999 rfl (by repeat (first | exact obs_nil | refine obs_draw (by kernel_rfl) ?_ | refine obs_same ?_ | refine obs_and ?_ | refine obs_by (by (simp [inB] <;> omega)) ?_)) ?_
  refine runS_freeze 2 rfl rfl rfl (fun i hi => by rw [appR_zero]; rfl) ?_
  refine runS_drop 0 (Nat.zero_le _) rfl (by repeat (first | exact .nil | refine .row (fun j hj => rfl) ?_ | refine .box rfl ?_ | refine .fam (fun k j hk hj => rfl) ?_ | refine .loop (scrub_under _ _) ?_ | refine .dfr ?_ | refine .gone ?_ | refine .map (fun p hp => by (obtain ⟨k, _, rfl⟩ := List.mem_map.1 hp; rfl)) ?_)) rfl rfl rfl (by repeat (first | exact .nil | refine .cons rfl rfl rfl (scrub_under _ _) ?_)) ?_
  refine runS_ret (I := inf) 0 rfl (Nat.le_refl _) rfl .nil rfl ⟨?_, rfl⟩
  show Out.ret (AV.slc 11 none (0 + ds.length) _) = _
  rw [appR_zero, Nat.zero_add]
  rfl
theorem fld_ext {a b : Fld} (h : a.level = b.level ∧ a.name = b.name ∧ a.count = b.count ∧ (a.typ.kind = b.typ.kind ∧ a.typ.p = b.typ.p ∧ a.typ.q = b.typ.q ∧ a.typ.n = b.typ.n ∧ a.typ.vary = b.typ.vary ∧ a.typ.pic = b.typ.pic) ∧ a.union = b.union ∧ a.refer = b.refer) : a = b := by
  obtain ⟨a1, a2, a3, ⟨t1, t2, t3, t4, t5, t6⟩, a5, a6⟩ := a
  obtain ⟨b1, b2, b3, ⟨u1, u2, u3, u4, u5, u6⟩, b5, b6⟩ := b
  obtain ⟨h1, h2, h3, ⟨h4, h5, h6, h7, h8, h9⟩, h10, h11⟩ := h
  dsimp only at *
  subst h1 h2 h3 h4 h5 h6 h7 h8 h9 h10 h11
  rfl
theorem stay_sameFields (n1 n2 : Option Bool) (xs ys : List Fld) (hb : xs.length < 9223372036854775807) : CallT Try.prog 27 [fldS n1 xs, fldS n2 ys] [] (fun out A => out = .ret (bv (decide (xs = ys))) ∧ A = []) := by
  refine callS_body (n := 26) rfl rfl fun w ρ X => ?_
  refine runS_x (I := inf) (J := jnf) ⟨false, false, [], 0, 0⟩ 9999 rfl (by repeat (first | exact obs_nil | refine obs_draw (by kernel_rfl) ?_ | refine obs_same ?_ | refine obs_and ?_ | refine obs_by (by (simp [inB] <;> omega)) ?_)) ?_
  refine runS_cond rfl (fun h => ?_) (fun h => ?_)
  · refine runS_x (I := inf) (J := jnf) ⟨false, false, [], 0, 0⟩ 9999 rfl (by repeat (first | exact obs_nil | refine obs_draw (by kernel_rfl) ?_ | refine obs_same ?_ | refine obs_and ?_ | refine obs_by (by (simp [inB] <;> omega)) ?_)) ?_
    refine runS_ret (I := inf) 0 rfl (Nat.le_refl _) rfl .nil rfl ⟨?_, rfl⟩
    have : xs ≠ ys := fun e => by subst e; simp at h
    show Out.ret (bv false) = _
    simp [this]
  have hl : xs.length = ys.length := ieq (by simpa using h)
  refine runS_x (I := inf) (J := jnf) ⟨false, false, [], 0, 0⟩ 9999 rfl (by repeat (first | exact obs_nil | refine obs_draw (by kernel_rfl) ?_ | refine obs_same ?_ | refine obs_and ?_ | refine obs_by (by (simp [inB] <;> omega)) ?_)) ?_
  refine runS_while (fun (i : Nat) τ ar => (τ 0 = fldS n1 xs ∧ τ 1 = fldS n2 ys ∧ τ 5 = iv i) ∧ ar = [] ∧ i ≤ xs.length ∧ xs.take i = ys.take i) (fun i => xs.length - i) 0 ⟨⟨rfl, rfl, rfl⟩, rfl, Nat.zero_le _, rfl⟩ ?_
  rintro i τ' ar' ⟨⟨h0, h1, h5⟩, rfl, hi, hp⟩ ih
  refine runS_says 0 (by exact h0) (Says.refl _) ?_; refine runS_says 1 (by exact h1) (Says.refl _) ?_; refine runS_says 5 (by exact h5) (Says.refl _) ?_
  refine runS_x (I := inf) (J := jnf) ⟨false, false, [], 0, 0⟩ 9999 rfl (by repeat (first | exact obs_nil | refine obs_draw (by kernel_rfl) ?_ | refine obs_same ?_ | refine obs_and ?_ | refine obs_by (by (simp [inB] <;> omega)) ?_)) ?_
  refine runS_cond rfl (fun hlt => ?_) (fun hlt => ?_)
  · have hlt' : i < xs.length := by simpa using hlt
    refine runS_x (I := inf) (J := jnf) ⟨false, false, [], 0, 0⟩ 9999 rfl (by repeat (first | exact obs_nil | refine obs_draw (by kernel_rfl) ?_ | refine obs_same ?_ | refine obs_and ?_ | refine obs_by (by (simp [inB, hlt', ← hl] <;> omega)) ?_)) ?_
    refine runS_cond rfl (fun hne => ?_) (fun hne => ?_)
    · refine runS_x (I := inf) (J := jnf) ⟨false, false, [], 0, 0⟩ 9999 rfl (by repeat (first | exact obs_nil | refine obs_draw (by kernel_rfl) ?_ | refine obs_same ?_ | refine obs_and ?_ | refine obs_by (by (simp [inB] <;> omega)) ?_)) ?_
      refine runS_ret (I := inf) 0 rfl (Nat.le_refl _) rfl .nil rfl ⟨?_, rfl⟩
      have : xs ≠ ys := fun e => by subst e; simp at hne
      show Out.ret (bv false) = _
      simp [this]
    · refine runS_x (I := inf) (J := jnf) ⟨false, false, [], 0, 0⟩ 9999 rfl (by repeat (first | exact obs_nil | refine obs_draw (by kernel_rfl) ?_ | refine obs_same ?_ | refine obs_and ?_ | refine obs_by (by (simp [inB] <;> omega)) ?_)) ?_
      have hs : IntKind.wrap .i64 ((i : Int) + 1) = ((i + 1 : Nat) : Int) := by rw [w64] <;> omega
      refine ih (i + 1) _ _ (by omega) ⟨⟨rfl, rfl, ?_⟩, rfl, by omega, ?_⟩
      · show iv (IntKind.wrap .i64 ((i : Int) + 1)) = _
        rw [hs]
      · refine take_next (d := fld0) hl hlt' hp ?_
        simp [bs_toList] at hne; rw [List.getD_eq_getElem?_getD, List.getD_eq_getElem?_getD]; exact fld_ext hne
  · refine runS_x (I := inf) (J := jnf) ⟨false, false, [], 0, 0⟩ 9999 rfl (by repeat (first | exact obs_nil | refine obs_draw (by kernel_rfl) ?_ | refine obs_same ?_ | refine obs_and ?_ | refine obs_by (by (simp [inB] <;> omega)) ?_)) ?_
    refine runS_ret (I := inf) 0 rfl (Nat.le_refl _) rfl .nil rfl ⟨?_, rfl⟩
    have hi' : i = xs.length := by simp at hlt; omega
    subst hi'
    have : xs = ys := by rw [List.take_length] at hp; rw [hp, hl, List.take_length]
    show Out.ret (bv true) = _
    simp [this]
theorem ref_same (n1 n2 : Option Bool) (xs ys : List Str) (hb : xs.length < 9223372036854775807) : CallT Try.prog 150 [txtS n1 xs, txtS n2 ys] [] (fun out A => out = .ret (bv (decide (xs = ys))) ∧ A = []) := by
  refine callS_body (n := 26) rfl rfl fun w ρ X => ?_
  refine runS_x (I := inf) (J := jnf) ⟨false, false, [], 0, 0⟩ 9999 rfl (by repeat (first | exact obs_nil | refine obs_draw (by kernel_rfl) ?_ | refine obs_same ?_ | refine obs_and ?_ | refine obs_by (by (simp [inB] <;> omega)) ?_)) ?_
  refine runS_cond rfl (fun h => ?_) (fun h => ?_)
  · refine runS_x (I := inf) (J := jnf) ⟨false, false, [], 0, 0⟩ 9999 rfl (by repeat (first | exact obs_nil | refine obs_draw (by kernel_rfl) ?_ | refine obs_same ?_ | refine obs_and ?_ | refine obs_by (by (simp [inB] <;> omega)) ?_)) ?_
    refine runS_ret (I := inf) 0 rfl (Nat.le_refl _) rfl .nil rfl ⟨?_, rfl⟩
    have : xs ≠ ys := fun e => by subst e; simp at h
    show Out.ret (bv false) = _
    simp [this]
  have hl : xs.length = ys.length := ieq (by simpa using h)
  refine runS_x (I := inf) (J := jnf) ⟨false, false, [], 0, 0⟩ 9999 rfl (by repeat (first | exact obs_nil | refine obs_draw (by kernel_rfl) ?_ | refine obs_same ?_ | refine obs_and ?_ | refine obs_by (by (simp [inB] <;> omega)) ?_)) ?_
  refine runS_while (fun (i : Nat) τ ar => (τ 0 = txtS n1 xs ∧ τ 1 = txtS n2 ys ∧ τ 5 = iv i) ∧ ar = [] ∧ i ≤ xs.length ∧ xs.take i = ys.take i) (fun i => xs.length - i) 0 ⟨⟨rfl, rfl, rfl⟩, rfl, Nat.zero_le _, rfl⟩ ?_
  rintro i τ' ar' ⟨⟨h0, h1, h5⟩, rfl, hi, hp⟩ ih
  refine runS_says 0 (by exact h0) (Says.refl _) ?_; refine runS_says 1 (by exact h1) (Says.refl _) ?_; refine runS_says 5 (by exact h5) (Says.refl _) ?_
  refine runS_x (I := inf) (J := jnf) ⟨false, false, [], 0, 0⟩ 9999 rfl (by repeat (first | exact obs_nil | refine obs_draw (by kernel_rfl) ?_ | refine obs_same ?_ | refine obs_and ?_ | refine obs_by (by (simp [inB] <;> omega)) ?_)) ?_
  refine runS_cond rfl (fun hlt => ?_) (fun hlt => ?_)
  · have hlt' : i < xs.length := by simpa using hlt
    refine runS_x (I := inf) (J := jnf) ⟨false, false, [], 0, 0⟩ 9999 rfl (by repeat (first | exact obs_nil | refine obs_draw (by kernel_rfl) ?_ | refine obs_same ?_ | refine obs_and ?_ | refine obs_by (by (simp [inB, hlt', ← hl] <;> omega)) ?_)) ?_
    refine runS_cond rfl (fun hne => ?_) (fun hne => ?_)
    · refine runS_x (I := inf) (J := jnf) ⟨false, false, [], 0, 0⟩ 9999 rfl (by repeat (first | exact obs_nil | refine obs_draw (by kernel_rfl) ?_ | refine obs_same ?_ | refine obs_and ?_ | refine obs_by (by (simp [inB] <;> omega)) ?_)) ?_
      refine runS_ret (I := inf) 0 rfl (Nat.le_refl _) rfl .nil rfl ⟨?_, rfl⟩
      have : xs ≠ ys := fun e => by subst e; simp at hne
      show Out.ret (bv false) = _
      simp [this]
    · refine runS_x (I := inf) (J := jnf) ⟨false, false, [], 0, 0⟩ 9999 rfl (by repeat (first | exact obs_nil | refine obs_draw (by kernel_rfl) ?_ | refine obs_same ?_ | refine obs_and ?_ | refine obs_by (by (simp [inB] <;> omega)) ?_)) ?_
      have hs : IntKind.wrap .i64 ((i : Int) + 1) = ((i + 1 : Nat) : Int) := by rw [w64] <;> omega
      refine ih (i + 1) _ _ (by omega) ⟨⟨rfl, rfl, ?_⟩, rfl, by omega, ?_⟩
      · show iv (IntKind.wrap .i64 ((i : Int) + 1)) = _
        rw [hs]
      · refine take_next (d := []) hl hlt' hp ?_
        simp [bs_toList] at hne; rw [List.getD_eq_getElem?_getD, List.getD_eq_getElem?_getD]; exact hne
  · refine runS_x (I := inf) (J := jnf) ⟨false, false, [], 0, 0⟩ 9999 rfl (by repeat (first | exact obs_nil | refine obs_draw (by kernel_rfl) ?_ | refine obs_same ?_ | refine obs_and ?_ | refine obs_by (by (simp [inB] <;> omega)) ?_)) ?_
    refine runS_ret (I := inf) 0 rfl (Nat.le_refl _) rfl .nil rfl ⟨?_, rfl⟩
    have hi' : i = xs.length := by simp at hlt; omega
    subst hi'
    have : xs = ys := by rw [List.take_length] at hp; rw [hp, hl, List.take_length]
    show Out.ret (bv true) = _
    simp [this]
theorem slices_equalTexts (n1 n2 : Option Bool) (xs ys : List Str) (hb : xs.length < 9223372036854775807) : CallT Try.prog 142 [txtS n1 xs, txtS n2 ys] [] (fun out A => out = .ret (bv (decide (xs = ys))) ∧ A = []) := by
  refine callS_body (n := 26) rfl rfl fun w ρ X => ?_
  refine runS_x (I := inf) (J := jnf) ⟨false, false, [], 0, 0⟩ 9999 rfl (by repeat (first | exact obs_nil | refine obs_draw (by kernel_rfl) ?_ | refine obs_same ?_ | refine obs_and ?_ | refine obs_by (by (simp [inB] <;> omega)) ?_)) ?_
  refine runS_cond rfl (fun h => ?_) (fun h => ?_)
  · refine runS_x (I := inf) (J := jnf) ⟨false, false, [], 0, 0⟩ 9999 rfl (by repeat (first | exact obs_nil | refine obs_draw (by kernel_rfl) ?_ | refine obs_same ?_ | refine obs_and ?_ | refine obs_by (by (simp [inB] <;> omega)) ?_)) ?_
    refine runS_ret (I := inf) 0 rfl (Nat.le_refl _) rfl .nil rfl ⟨?_, rfl⟩
    have : xs ≠ ys := fun e => by subst e; simp at h
    show Out.ret (bv false) = _
    simp [this]
  have hl : xs.length = ys.length := ieq (by simpa using h)
  refine runS_x (I := inf) (J := jnf) ⟨false, false, [], 0, 0⟩ 9999 rfl (by repeat (first | exact obs_nil | refine obs_draw (by kernel_rfl) ?_ | refine obs_same ?_ | refine obs_and ?_ | refine obs_by (by (simp [inB] <;> omega)) ?_)) ?_
  refine runS_while (fun (i : Nat) τ ar => (τ 0 = txtS n1 xs ∧ τ 1 = txtS n2 ys ∧ τ 12 = iv xs.length ∧ τ 13 = iv i) ∧ ar = [] ∧ i ≤ xs.length ∧ xs.take i = ys.take i) (fun i => xs.length - i) 0 ⟨⟨rfl, rfl, rfl, rfl⟩, rfl, Nat.zero_le _, rfl⟩ ?_
  rintro i τ' ar' ⟨⟨h0, h1, h12, h5⟩, rfl, hi, hp⟩ ih
  refine runS_says 0 (by exact h0) (Says.refl _) ?_; refine runS_says 1 (by exact h1) (Says.refl _) ?_; refine runS_says 12 (by exact h12) (Says.refl _) ?_; refine runS_says 13 (by exact h5) (Says.refl _) ?_
  refine runS_x (I := inf) (J := jnf) ⟨false, false, [], 0, 0⟩ 9999 rfl (by repeat (first | exact obs_nil | refine obs_draw (by kernel_rfl) ?_ | refine obs_same ?_ | refine obs_and ?_ | refine obs_by (by (simp [inB] <;> omega)) ?_)) ?_
  refine runS_cond rfl (fun hlt => ?_) (fun hlt => ?_)
  · have hlt' : i < xs.length := by simpa using hlt
    refine runS_x (I := inf) (J := jnf) ⟨false, false, [], 0, 0⟩ 9999 rfl (by repeat (first | exact obs_nil | refine obs_draw (by kernel_rfl) ?_ | refine obs_same ?_ | refine obs_and ?_ | refine obs_by (by (simp [inB, hlt', ← hl] <;> omega)) ?_)) ?_
    refine runS_cond rfl (fun hne => ?_) (fun hne => ?_)
    · refine runS_x (I := inf) (J := jnf) ⟨false, false, [], 0, 0⟩ 9999 rfl (by repeat (first | exact obs_nil | refine obs_draw (by kernel_rfl) ?_ | refine obs_same ?_ | refine obs_and ?_ | refine obs_by (by (simp [inB] <;> omega)) ?_)) ?_
      refine runS_ret (I := inf) 0 rfl (Nat.le_refl _) rfl .nil rfl ⟨?_, rfl⟩
      have : xs ≠ ys := fun e => by subst e; simp at hne
      show Out.ret (bv false) = _
      simp [this]
    · refine runS_x (I := inf) (J := jnf) ⟨false, false, [], 0, 0⟩ 9999 rfl (by repeat (first | exact obs_nil | refine obs_draw (by kernel_rfl) ?_ | refine obs_same ?_ | refine obs_and ?_ | refine obs_by (by (simp [inB] <;> omega)) ?_)) ?_
      have hs : IntKind.wrap .i64 ((i : Int) + 1) = ((i + 1 : Nat) : Int) := by rw [w64] <;> omega
      refine ih (i + 1) _ _ (by omega) ⟨⟨rfl, rfl, rfl, ?_⟩, rfl, by omega, ?_⟩
      · show iv (IntKind.wrap .i64 ((i : Int) + 1)) = _
        rw [hs]
      · refine take_next (d := []) hl hlt' hp ?_
        simp [bs_toList] at hne; rw [List.getD_eq_getElem?_getD, List.getD_eq_getElem?_getD]; exact hne
  · refine runS_x (I := inf) (J := jnf) ⟨false, false, [], 0, 0⟩ 9999 rfl (by repeat (first | exact obs_nil | refine obs_draw (by kernel_rfl) ?_ | refine obs_same ?_ | refine obs_and ?_ | refine obs_by (by (simp [inB] <;> omega)) ?_)) ?_
    refine runS_ret (I := inf) 0 rfl (Nat.le_refl _) rfl .nil rfl ⟨?_, rfl⟩
    have hi' : i = xs.length := by simp at hlt; omega
    subst hi'
    have : xs = ys := by rw [List.take_length] at hp; rw [hp, hl, List.take_length]
    show Out.ret (bv true) = _
    simp [this]
end Go.Iron.Try

/- The level package's functions (seat Ytamhonbhoelohaa): parents, and what hangs on them, of the reference. -/
namespace Go.Iron.Try
open Go.Proofs

abbrev fat (l : List Fld) (i : Nat) : Fld := l.getD i fld0
/-- The nearest of the first k of a lesser level. -/
def upN (l : List Fld) (v : Int) : Nat → Option Nat
  | 0 => none
  | k + 1 => if (fat l k).level < v then some k else upN l v k
theorem upN_lt {l : List Fld} {v : Int} : ∀ {k j : Nat}, upN l v k = some j → j < k
  | 0, j, h => by cases h
  | k + 1, j, h => by
    unfold upN at h
    split at h
    · cases h; omega
    · have := upN_lt h; omega
def par (l : List Fld) (i : Nat) : Option Nat := upN l (fat l i).level i
theorem par_lt {l : List Fld} {i j : Nat} (h : par l i = some j) : j < i := upN_lt h
def opI : Option Nat → Int
  | some k => k
  | none => -1
/-- A member and those that it stands in, from the inside. -/
def anc (l : List Fld) (i : Nat) : List Nat := i :: match h : par l i with
  | some k => have := par_lt h; anc l k
  | none => []
termination_by i
def ancO (l : List Fld) : Option Nat → List Nat
  | some k => anc l k
  | none => []
theorem anc_eq (l : List Fld) (i : Nat) : anc l i = i :: ancO l (par l i) := by
  rw [anc]
  split <;> rename_i h <;> simp [h, ancO]
theorem anc_len (l : List Fld) (i : Nat) : (anc l i).length ≤ i + 1 := by
  induction i using Nat.strongRecOn with
  | ind i ih =>
    rw [anc_eq]
    cases h : par l i with
    | none => simp [ancO]
    | some k => have := par_lt h; have := ih k this; simp [ancO]; omega

theorem ref_parent (nl : Option Bool) (l : List Fld) (i : Nat) (hi : i < l.length) (hb : l.length < 9223372036854775807) : CallT Try.prog 139 [fldS nl l, iv i] [] (fun o A => o = .ret (iv (opI (par l i))) ∧ A = []) := by
  refine callS_body (n := 24) rfl rfl fun w ρ X => ?_
  refine runS_x (I := inf) (J := jnf) ⟨false, false, [], 0, 0⟩ 9999 rfl (by repeat (first | exact obs_nil | refine obs_draw (by kernel_rfl) ?_ | refine obs_same ?_ | refine obs_and ?_ | refine obs_by (by (simp [inB] <;> omega)) ?_)) ?_
  refine runS_while (fun (k : Nat) τ ar => (τ 0 = fldS nl l ∧ τ 1 = iv i ∧ τ 5 = iv ((k : Int) - 1)) ∧ ar = [] ∧ k ≤ i ∧ upN l (fat l i).level k = par l i) (fun k => k) i ⟨⟨rfl, rfl, ?_⟩, rfl, Nat.le_refl _, rfl⟩ ?_
  · show iv (IntKind.wrap .i64 ((i : Int) - 1)) = _
    rw [w64] <;> omega
  rintro k τ' ar' ⟨⟨h0, h1, h5⟩, rfl, hk, hp⟩ ih
  refine runS_says 0 (by exact h0) (Says.refl _) ?_; refine runS_says 1 (by exact h1) (Says.refl _) ?_; refine runS_says 5 (by exact h5) (Says.refl _) ?_
  refine runS_x (I := inf) (J := jnf) ⟨false, false, [], 0, 0⟩ 9999 rfl (by repeat (first | exact obs_nil | refine obs_draw (by kernel_rfl) ?_ | refine obs_same ?_ | refine obs_and ?_ | refine obs_by (by (simp [inB] <;> omega)) ?_)) ?_
  refine runS_cond rfl (fun hlt => ?_) (fun hlt => ?_)
  · obtain ⟨j, rfl⟩ : ∃ j, k = j + 1 := ⟨k - 1, by simp at hlt; omega⟩
    have e : ((j + 1 : Nat) : Int) - 1 = (j : Nat) := by omega
    rw [upN] at hp
    rw [e]
    have h1 : j < l.length := by omega
    refine runS_x (I := inf) (J := jnf) ⟨false, false, [], 0, 0⟩ 9999 rfl (by repeat (first | exact obs_nil | refine obs_draw (by kernel_rfl) ?_ | refine obs_same ?_ | refine obs_and ?_ | refine obs_by (by (simp [inB, h1, hi] <;> omega)) ?_)) ?_
    refine runS_cond rfl (fun hl => ?_) (fun hl => ?_)
    · refine runS_x (I := inf) (J := jnf) ⟨false, false, [], 0, 0⟩ 9999 rfl (by repeat (first | exact obs_nil | refine obs_draw (by kernel_rfl) ?_ | refine obs_same ?_ | refine obs_and ?_ | refine obs_by (by (simp [inB] <;> omega)) ?_)) ?_
      refine runS_ret (I := inf) 0 rfl (Nat.le_refl _) rfl .nil rfl ⟨?_, rfl⟩
      have hl' : (fat l j).level < (fat l i).level := by simpa using hl
      rw [if_pos hl'] at hp
      rw [← hp]
      rfl
    · refine runS_x (I := inf) (J := jnf) ⟨false, false, [], 0, 0⟩ 9999 rfl (by repeat (first | exact obs_nil | refine obs_draw (by kernel_rfl) ?_ | refine obs_same ?_ | refine obs_and ?_ | refine obs_by (by (simp [inB] <;> omega)) ?_)) ?_
      have hl' : ¬ (fat l j).level < (fat l i).level := by simpa using hl
      rw [if_neg hl'] at hp
      refine ih j _ _ (by omega) ⟨⟨rfl, rfl, ?_⟩, rfl, by omega, hp⟩
      show iv (IntKind.wrap .i64 ((j : Int) - 1)) = _
      rw [w64] <;> omega
  · have : k = 0 := by simp at hlt; omega
    subst this
    refine runS_x (I := inf) (J := jnf) ⟨false, false, [], 0, 0⟩ 9999 rfl (by repeat (first | exact obs_nil | refine obs_draw (by kernel_rfl) ?_ | refine obs_same ?_ | refine obs_and ?_ | refine obs_by (by (simp [inB] <;> omega)) ?_)) ?_
    refine runS_ret (I := inf) 0 rfl (Nat.le_refl _) rfl .nil rfl ⟨?_, rfl⟩
    rw [← hp]
    rfl

def innerB (l : List Fld) (i : Nat) : Bool := decide (i + 1 < l.length) && decide ((fat l (i + 1)).level > (fat l i).level)
theorem ref_inner (nl : Option Bool) (l : List Fld) (i : Nat) (hi : i < l.length) (hb : l.length < 9223372036854775807) : CallT Try.prog 124 [fldS nl l, iv i] [] (fun o A => o = .ret (bv (innerB l i)) ∧ A = []) := by
  have hw : IntKind.wrap .i64 ((i : Int) + 1) = ((i + 1 : Nat) : Int) := by rw [w64] <;> omega
  refine callS_body (n := 24) rfl rfl fun w ρ X => ?_
  refine runS_x (I := inf) (J := jnf) ⟨false, false, [], 0, 0⟩ 9999 rfl (by repeat (first | exact obs_nil | refine obs_draw (by kernel_rfl) ?_ | refine obs_same ?_ | refine obs_and ?_ | refine obs_by (by (simp [inB, hw, hi] <;> omega)) ?_)) ?_
  refine runS_ret (I := inf) 0 rfl (Nat.le_refl _) rfl .nil rfl ⟨?_, rfl⟩
  rw [hw]
  show Out.ret (bv (if decide (((i + 1 : Nat) : Int) < (l.length : Int)) = true then decide ((fat l (i + 1)).level > (fat l i).level) else false)) = _
  unfold innerB
  by_cases h : i + 1 < l.length <;> simp [h]
  · intro h'; omega
  · intro h'; omega

def isArr (l : List Fld) (i : Nat) : Bool := decide ((fat l i).count > 0)
def arrs (l : List Fld) (i : Nat) : Nat := (anc l i).countP (isArr l)

theorem ref_arrays (nl : Option Bool) (l : List Fld) (i : Nat) (hi : i < l.length) (hb : l.length < 9223372036854775807) : CallT Try.prog 130 [fldS nl l, iv i] [] (fun o A => o = .ret (iv (arrs l i)) ∧ A = []) := by
  refine callS_body (n := 20) rfl rfl fun w ρ X => ?_
  refine runS_x (I := inf) (J := jnf) ⟨false, false, [], 0, 0⟩ 9999 rfl (by repeat (first | exact obs_nil | refine obs_draw (by kernel_rfl) ?_ | refine obs_same ?_ | refine obs_and ?_ | refine obs_by (by (simp [inB] <;> omega)) ?_)) ?_
  refine runS_while (fun (x : Option Nat × Nat) τ ar => (τ 0 = fldS nl l ∧ τ 1 = iv (opI x.1) ∧ τ 5 = iv x.2) ∧ ar = [] ∧ (∀ k, x.1 = some k → k ≤ i) ∧ x.2 + (ancO l x.1).countP (isArr l) = arrs l i) (fun x => match x.1 with | some k => k + 1 | none => 0) (some i, 0) ⟨⟨rfl, rfl, rfl⟩, rfl, by simp, by simp [ancO, arrs]⟩ ?_
  rintro ⟨o, n⟩ τ' ar' ⟨⟨h0, h1, h5⟩, rfl, hk, hp⟩ ih
  dsimp only at h1 h5 hk hp
  have hle : arrs l i ≤ i + 1 := Nat.le_trans List.countP_le_length (anc_len l i)
  cases o with
  | none =>
    have h1 : τ' 1 = iv (-1) := h1
    refine runS_says 0 (by exact h0) (Says.refl _) ?_; refine runS_says 1 (by exact h1) (Says.refl _) ?_; refine runS_says 5 (by exact h5) (Says.refl _) ?_
    refine runS_x (I := inf) (J := jnf) ⟨true, false, [], 0, 0⟩ 9999 rfl (by repeat (first | exact obs_nil | refine obs_draw (by kernel_rfl) ?_ | refine obs_same ?_ | refine obs_and ?_ | refine obs_by (by (simp [inB] <;> omega)) ?_)) ?_
    refine runS_ret (I := inf) 0 rfl (Nat.le_refl _) rfl .nil rfl ⟨?_, rfl⟩
    simp [ancO] at hp
    rw [← hp]
    rfl
  | some k =>
    have hk := hk k rfl
    have h1 : τ' 1 = iv (k : Int) := h1
    refine runS_says 0 (by exact h0) (Says.refl _) ?_; refine runS_says 1 (by exact h1) (Says.refl _) ?_; refine runS_says 5 (by exact h5) (Says.refl _) ?_
    have h1 : k < l.length := by omega
    rw [ancO, anc_eq, List.countP_cons] at hp
    refine runS_x (I := inf) (J := jnf) ⟨false, false, [], 0, 0⟩ 9999 rfl (by repeat (first | exact obs_nil | refine obs_draw (by kernel_rfl) ?_ | refine obs_same ?_ | refine obs_and ?_ | refine obs_by (by (simp [inB] <;> omega)) ?_)) ?_
    refine runS_cond rfl (fun h => ?_) (fun h => absurd h (by simp))
    refine runS_x (I := inf) (J := jnf) ⟨false, false, [], 0, 0⟩ 9999 rfl (by repeat (first | exact obs_nil | refine obs_draw (by kernel_rfl) ?_ | refine obs_same ?_ | refine obs_and ?_ | refine obs_by (by (simp [inB, h1] <;> omega)) ?_)) ?_
    refine runS_cond rfl (fun hc => ?_) (fun hc => ?_)
    · refine runS_x (I := inf) (J := jnf) ⟨false, false, [], 0, 0⟩ 9999 rfl (by repeat (first | exact obs_nil | refine obs_draw (by kernel_rfl) ?_ | refine obs_same ?_ | refine obs_and ?_ | refine obs_by (by (simp [inB] <;> omega)) ?_)) ?_
      refine runS_call rfl rfl rfl rfl rfl rfl rfl (ref_parent nl l k h1 hb) ?_
      refine runS_x (I := inf) (J := jnf) ⟨false, false, [], 0, 0⟩ 9999 rfl (by repeat (first | exact obs_nil | refine obs_draw (by kernel_rfl) ?_ | refine obs_same ?_ | refine obs_and ?_ | refine obs_by (by (simp [inB] <;> omega)) ?_)) ?_
      rw [if_pos (by simpa [isArr] using hc)] at hp
      refine ih (par l k, n + 1) _ _ ?_ ⟨⟨rfl, rfl, ?_⟩, rfl, fun j hj => by have := par_lt hj; omega, by dsimp only; omega⟩
      · dsimp only
        cases hpk : par l k with
        | none => simp
        | some j => have := par_lt hpk; simp; omega
      · have hs : IntKind.wrap .i64 ((n : Int) + 1) = ((n + 1 : Nat) : Int) := by rw [w64] <;> omega
        show iv (IntKind.wrap .i64 ((n : Int) + 1)) = _
        rw [hs]
    · refine runS_x (I := inf) (J := jnf) ⟨false, false, [], 0, 0⟩ 9999 rfl (by repeat (first | exact obs_nil | refine obs_draw (by kernel_rfl) ?_ | refine obs_same ?_ | refine obs_and ?_ | refine obs_by (by (simp [inB] <;> omega)) ?_)) ?_
      refine runS_call rfl rfl rfl rfl rfl rfl rfl (ref_parent nl l k h1 hb) ?_
      refine runS_x (I := inf) (J := jnf) ⟨false, false, [], 0, 0⟩ 9999 rfl (by repeat (first | exact obs_nil | refine obs_draw (by kernel_rfl) ?_ | refine obs_same ?_ | refine obs_and ?_ | refine obs_by (by (simp [inB] <;> omega)) ?_)) ?_
      rw [if_neg (by simpa [isArr] using hc)] at hp
      have hp' : n + (ancO l (par l k)).countP (isArr l) = arrs l i := by omega
      refine ih (par l k, n) _ _ ?_ ⟨⟨rfl, rfl, rfl⟩, rfl, fun j hj => by have := par_lt hj; omega, hp'⟩
      dsimp only
      cases hpk : par l k with
      | none => simp
      | some j => have := par_lt hpk; simp; omega

abbrev nilT : Nat → List AV := encR (fun s => [sv s]) [] []
def dep (l : List Fld) (i : Nat) : Nat := (anc l i).length
theorem ref_depth (nl : Option Bool) (l : List Fld) (i : Nat) (hi : i < l.length) (hb : l.length < 9223372036854775807) : CallT Try.prog 155 [fldS nl l, iv i] [] (fun o A => o = .ret (iv (dep l i)) ∧ A = []) := by
  refine callS_body (n := 14) rfl rfl fun w ρ X => ?_
  refine runS_x (I := inf) (J := jnf) ⟨false, false, [], 0, 0⟩ 9999 rfl (by repeat (first | exact obs_nil | refine obs_draw (by kernel_rfl) ?_ | refine obs_same ?_ | refine obs_and ?_ | refine obs_by (by (simp [inB] <;> omega)) ?_)) ?_
  refine runS_while (fun (x : Option Nat × Nat) τ ar => (τ 0 = fldS nl l ∧ τ 1 = iv (opI x.1) ∧ τ 5 = iv x.2) ∧ ar = [] ∧ (∀ k, x.1 = some k → k ≤ i) ∧ x.2 + (ancO l x.1).length = dep l i) (fun x => match x.1 with | some k => k + 1 | none => 0) (some i, 0) ⟨⟨rfl, rfl, rfl⟩, rfl, by simp, by simp [ancO, dep]⟩ ?_
  rintro ⟨o, n⟩ τ' ar' ⟨⟨h0, h1, h5⟩, rfl, hk, hp⟩ ih
  dsimp only at h1 h5 hk hp
  have hle : dep l i ≤ i + 1 := anc_len l i
  cases o with
  | none =>
    have h1 : τ' 1 = iv (-1) := h1
    refine runS_says 0 (by exact h0) (Says.refl _) ?_; refine runS_says 1 (by exact h1) (Says.refl _) ?_; refine runS_says 5 (by exact h5) (Says.refl _) ?_
    refine runS_x (I := inf) (J := jnf) ⟨true, false, [], 0, 0⟩ 9999 rfl (by repeat (first | exact obs_nil | refine obs_draw (by kernel_rfl) ?_ | refine obs_same ?_ | refine obs_and ?_ | refine obs_by (by (simp [inB] <;> omega)) ?_)) ?_
    refine runS_ret (I := inf) 0 rfl (Nat.le_refl _) rfl .nil rfl ⟨?_, rfl⟩
    simp [ancO] at hp
    rw [← hp]
    rfl
  | some k =>
    have hk := hk k rfl
    have h1 : τ' 1 = iv (k : Int) := h1
    refine runS_says 0 (by exact h0) (Says.refl _) ?_; refine runS_says 1 (by exact h1) (Says.refl _) ?_; refine runS_says 5 (by exact h5) (Says.refl _) ?_
    have h1 : k < l.length := by omega
    rw [ancO, anc_eq, List.length_cons] at hp
    refine runS_x (I := inf) (J := jnf) ⟨false, false, [], 0, 0⟩ 9999 rfl (by repeat (first | exact obs_nil | refine obs_draw (by kernel_rfl) ?_ | refine obs_same ?_ | refine obs_and ?_ | refine obs_by (by (simp [inB] <;> omega)) ?_)) ?_
    refine runS_cond rfl (fun h => ?_) (fun h => absurd h (by simp))
    refine runS_x (I := inf) (J := jnf) ⟨false, false, [], 0, 0⟩ 9999 rfl (by repeat (first | exact obs_nil | refine obs_draw (by kernel_rfl) ?_ | refine obs_same ?_ | refine obs_and ?_ | refine obs_by (by (simp [inB] <;> omega)) ?_)) ?_
    refine runS_call rfl rfl rfl rfl rfl rfl rfl (ref_parent nl l k h1 hb) ?_
    refine runS_x (I := inf) (J := jnf) ⟨false, false, [], 0, 0⟩ 9999 rfl (by repeat (first | exact obs_nil | refine obs_draw (by kernel_rfl) ?_ | refine obs_same ?_ | refine obs_and ?_ | refine obs_by (by (simp [inB] <;> omega)) ?_)) ?_
    have hs : IntKind.wrap .i64 ((n : Int) + 1) = ((n + 1 : Nat) : Int) := by rw [w64] <;> omega
    refine ih (par l k, n + 1) _ _ ?_ ⟨⟨rfl, rfl, ?_⟩, rfl, fun j hj => by have := par_lt hj; omega, by dsimp only; omega⟩
    · dsimp only
      cases hpk : par l k with
      | none => simp
      | some j => have := par_lt hpk; simp; omega
    · show iv (IntKind.wrap .i64 ((n : Int) + 1)) = _
      rw [hs]

theorem encR_cons {α : Type} {enc : α → List AV} {d : α} {acc : List α} {v : α} {r1 : Nat → List AV} (h : r1 0 = enc v) : ∀ j, j < 1 + acc.length → encR enc d (v :: acc) j = appR 1 r1 (encR enc d acc) j := by
  intro j hj
  cases j with
  | zero => exact h.symm
  | succ j => rfl
/-- The names down to a member. -/
def pth (l : List Fld) (i : Nat) : List Str := (anc l i).reverse.map fun k => (fat l k).name
theorem pth_len (l : List Fld) (i : Nat) : (pth l i).length ≤ i + 1 := by simp [pth]; exact anc_len l i

theorem ref_path (nl : Option Bool) (l : List Fld) (i : Nat) (hi : i < l.length) (hb : l.length < 1000000000) : CallT Try.prog 145 [fldS nl l, iv i] [] (fun o A => o = .ret (txtS none (pth l i)) ∧ A = []) := by
  refine callS_body (n := 20) rfl rfl fun w ρ X => ?_
  refine runS_x (I := inf) (J := jnf) ⟨false, false, [], 0, 0⟩ 9999 rfl (by repeat (first | exact obs_nil | refine obs_draw (by kernel_rfl) ?_ | refine obs_same ?_ | refine obs_and ?_ | refine obs_by (by (simp [inB] <;> omega)) ?_)) ?_
  refine runS_says 5 rfl (says_nil0 (sz := 1) (r := nilT) (Nat.zero_le _)) ?_
  refine runS_while (fun (x : Option Nat × List Str) τ ar => (τ 0 = fldS nl l ∧ τ 1 = iv (opI x.1) ∧ τ 5 = txtS none x.2) ∧ ar = [] ∧ (∀ k, x.1 = some k → k ≤ i) ∧ ((ancO l x.1).reverse.map fun k => (fat l k).name) ++ x.2 = pth l i) (fun x => match x.1 with | some k => k + 1 | none => 0) (some i, []) ⟨⟨rfl, rfl, rfl⟩, rfl, by simp, by simp [ancO, pth]⟩ ?_
  rintro ⟨o, acc⟩ τ' ar' ⟨⟨h0, h1, h5⟩, rfl, hk, hp⟩ ih
  dsimp only at h1 h5 hk hp
  have hle := pth_len l i
  cases o with
  | none =>
    have h1 : τ' 1 = iv (-1) := h1
    refine runS_says 0 (by exact h0) (Says.refl _) ?_; refine runS_says 1 (by exact h1) (Says.refl _) ?_; refine runS_says 5 (by exact h5) (Says.refl _) ?_
    refine runS_x (I := inf) (J := jnf) ⟨true, false, [], 0, 0⟩ 9999 rfl (by repeat (first | exact obs_nil | refine obs_draw (by kernel_rfl) ?_ | refine obs_same ?_ | refine obs_and ?_ | refine obs_by (by (simp [inB] <;> omega)) ?_)) ?_
    refine runS_ret (I := inf) 0 rfl (Nat.le_refl _) rfl .nil rfl ⟨?_, rfl⟩
    simp [ancO] at hp
    rw [← hp]
    rfl
  | some k =>
    have hk := hk k rfl
    have h1 : τ' 1 = iv (k : Int) := h1
    refine runS_says 0 (by exact h0) (Says.refl _) ?_; refine runS_says 1 (by exact h1) (Says.refl _) ?_; refine runS_says 5 (by exact h5) (Says.refl _) ?_
    have h1 : k < l.length := by omega
    rw [ancO, anc_eq] at hp
    simp only [List.reverse_cons, List.map_append, List.map_cons, List.map_nil, List.append_assoc, List.cons_append, List.nil_append] at hp
    have hlen : acc.length + 1 ≤ i + 1 := by rw [← hp] at hle; simp at hle; omega
    refine runS_x (I := inf) (J := jnf) ⟨false, false, [], 0, 0⟩ 9999 rfl (by repeat (first | exact obs_nil | refine obs_draw (by kernel_rfl) ?_ | refine obs_same ?_ | refine obs_and ?_ | refine obs_by (by (simp [inB] <;> omega)) ?_)) ?_
    refine runS_cond rfl (fun h => ?_) (fun h => absurd h (by simp))
    refine runS_x (I := inf) (J := jnf) ⟨false, false, [], 0, 0⟩ 9999 rfl (by repeat (first | exact obs_nil | refine obs_draw (by kernel_rfl) ?_ | refine obs_same ?_ | refine obs_and ?_ | refine obs_by (by (simp [inB, h1] <;> omega)) ?_)) ?_
    refine runS_tell 0 (encR (fun s => [sv s]) [] ((fat l k).name :: acc)) rfl (m' := acc.length + 1) (by omega) (encR_cons rfl) rfl ?_
    refine runS_freeze 5 rfl rfl rfl (fun i hi => rfl) ?_
    refine runS_drop 0 (Nat.zero_le _) rfl (by repeat (first | exact .nil | refine .row (fun j hj => rfl) ?_ | refine .box rfl ?_ | refine .fam (fun k j hk hj => rfl) ?_ | refine .loop (scrub_under _ _) ?_ | refine .dfr ?_ | refine .gone ?_ | refine .map (fun p hp => by (obtain ⟨k, _, rfl⟩ := List.mem_map.1 hp; rfl)) ?_)) rfl rfl rfl (by repeat (first | exact .nil | refine .cons rfl rfl rfl (scrub_under _ _) ?_)) ?_
    refine runS_call rfl rfl rfl rfl rfl rfl rfl (ref_parent nl l k h1 (by omega)) ?_
    refine runS_x (I := inf) (J := jnf) ⟨false, false, [], 0, 0⟩ 9999 rfl (by repeat (first | exact obs_nil | refine obs_draw (by kernel_rfl) ?_ | refine obs_same ?_ | refine obs_and ?_ | refine obs_by (by (simp [inB] <;> omega)) ?_)) ?_
    refine ih (par l k, (fat l k).name :: acc) _ _ ?_ ⟨⟨rfl, rfl, rfl⟩, rfl, fun j hj => by have := par_lt hj; omega, hp⟩
    dsimp only
    cases hpk : par l k with
    | none => simp
    | some j => have := par_lt hpk; simp; omega
end Go.Iron.Try

/- The level package's functions (seat Ytamhonbhoelohaa): the tree. -/
namespace Go.Iron.Try
open Go.Proofs

/-- The members among the first n that belong to one. -/
def kidsL (l : List Fld) (n i : Nat) : List Nat := (List.range n).filter fun k => par l k == some i
def kidsN (l : List Fld) (n i : Nat) : Nat := (kidsL l n i).length
def natR (xs : List Nat) : Nat → List AV := encR (fun k : Nat => [iv k]) 0 xs
def kidsR (l : List Fld) (n i : Nat) : Nat → List AV := natR (kidsL l n i)
def nodE (l : List Fld) (i : Nat) (x : AV) : List AV := [iv (fat l i).level, sv (fat l i).name, iv (fat l i).count, iv (fat l i).typ.kind, iv (fat l i).typ.p, iv (fat l i).typ.q, iv (fat l i).typ.n, bv (fat l i).typ.vary, sv (fat l i).typ.pic, bv (fat l i).union, iv (fat l i).refer, iv i, iv (opI (par l i)), iv (dep l i), x]
def nodR (l : List Fld) (x : Nat → AV) : Nat → List AV := fun i => nodE l i (x i)
theorem kidsL_succ (l : List Fld) (n i : Nat) : kidsL l (n + 1) i = if par l n = some i then kidsL l n i ++ [n] else kidsL l n i := by
  unfold kidsL
  rw [List.range_succ, List.filter_append]
  by_cases h : par l n = some i <;> simp [h]
theorem kidsL_out (l : List Fld) (n i : Nat) (h : n ≤ i + 1) : kidsL l n i = [] := by
  unfold kidsL
  rw [List.filter_eq_nil_iff]
  intro k hk
  simp at hk ⊢
  intro h'
  have := par_lt h'
  omega
theorem kidsN_le (l : List Fld) (n i : Nat) : kidsN l n i ≤ n := by
  have := List.length_filter_le (fun k => par l k == some i) (List.range n)
  rw [List.length_range] at this
  exact this
theorem dep_le (l : List Fld) (i : Nat) : dep l i ≤ i + 1 := anc_len l i
theorem dep_some {l : List Fld} {i j : Nat} (h : par l i = some j) : dep l i = dep l j + 1 := by
  rw [dep, anc_eq, h]
  rfl
theorem dep_none {l : List Fld} {i : Nat} (h : par l i = none) : dep l i = 1 := by
  rw [dep, anc_eq, h]
  rfl
/-- The tree, told. -/
def kidC (l : List Fld) (i : Nat) : AV := .slc 1 none (kidsN l l.length i) (kidsR l l.length i)
def treeS (nl : Option Bool) (l : List Fld) : AV := .slc 15 nl l.length (nodR l (kidC l))

theorem level_tree (nl : Option Bool) (l : List Fld) (hb : l.length < 1000000000) : CallT Try.prog 132 [fldS nl l] [] (fun o A => o = .ret (treeS none l) ∧ A = []) := by
  refine callS_body (n := 59) rfl rfl fun w ρ X => ?_
  refine runS_x (I := inf) (J := jnf) ⟨false, false, [], 0, 0⟩ 9999 rfl (by repeat (first | exact obs_nil | refine obs_draw (by kernel_rfl) ?_ | refine obs_same ?_ | refine obs_and ?_ | refine obs_by (by (simp [inB] <;> omega)) ?_)) ?_
  refine runS_nilRow 3 144 15 (nodR l (fun k => .mem 1 0 k)) rfl rfl ?_
  refine runS_famNew 3 1 (kidsN l 0) (kidsR l 0) rfl ?_
  refine runS_while (fun (x : Nat × Nat) τ ar => (τ 0 = fldS nl l ∧ τ 3 = .row 0 x.1 ∧ τ 8 = fldS nl l ∧ τ 9 = iv l.length ∧ τ 10 = iv x.1) ∧
    ar = [.row 144 15 x.1 x.1 (nodR l (fun k => .mem 1 x.2 k)), .fam 3 1 x.2 x.1 (kidsN l x.1) (kidsR l x.1)] ∧ x.1 ≤ l.length) (fun x => l.length - x.1) (0, 0) ⟨⟨rfl, rfl, rfl, rfl, rfl⟩, rfl, Nat.zero_le _⟩ ?_
  rintro ⟨i, fv⟩ τ' ar' ⟨⟨h0, h3, h8, h9, h10⟩, rfl, hi⟩ ih
  dsimp only at h3 h10 hi ⊢
  refine runS_says 0 (by exact h0) (Says.refl _) ?_; refine runS_says 3 (by exact h3) (Says.refl _) ?_; refine runS_says 8 (by exact h8) (Says.refl _) ?_; refine runS_says 9 (by exact h9) (Says.refl _) ?_; refine runS_says 10 (by exact h10) (Says.refl _) ?_
  refine runS_x (I := inf) (J := jnf) ⟨false, false, [], 0, 0⟩ 9999 rfl (by repeat (first | exact obs_nil | refine obs_draw (by kernel_rfl) ?_ | refine obs_same ?_ | refine obs_and ?_ | refine obs_by (by (simp [inB] <;> omega)) ?_)) ?_
  refine runS_cond rfl (fun hlt => ?_) (fun hlt => ?_)
  · have hlt' : i < l.length := by simpa using hlt
    refine runS_x (I := inf) (J := jnf) ⟨false, false, [], 0, 0⟩ 9999 rfl (by repeat (first | exact obs_nil | refine obs_draw (by kernel_rfl) ?_ | refine obs_same ?_ | refine obs_and ?_ | refine obs_by (by (simp [inB, hlt'] <;> omega)) ?_)) ?_
    refine runS_while (fun (k : Nat) τ ar => (τ 0 = fldS nl l ∧ τ 3 = .row 0 i ∧ τ 4 = iv i ∧ τ 5 = .ptr 2 0 0 ∧ τ 6 = .ptr 3 0 0 ∧ τ 7 = iv ((k : Int) - 1) ∧ τ 8 = fldS nl l ∧ τ 9 = iv l.length ∧ τ 10 = iv i) ∧
      ar = [.row 144 15 i i (nodR l (fun k => .mem 1 fv k)), .fam 3 1 fv i (kidsN l i) (kidsR l i), .box 90 (fldE (fat l i)), .box 144 (fldE (fat l i) ++ [iv i, iv (-1), iv 1, .val (.slice none 0 0)])] ∧ k ≤ i ∧ upN l (fat l i).level k = par l i) (fun k => k) i ⟨⟨rfl, rfl, rfl, rfl, rfl, ?_, rfl, rfl, rfl⟩, rfl, Nat.le_refl _, rfl⟩ ?_
    · show iv (IntKind.wrap .i64 ((i : Int) - 1)) = _
      rw [w64] <;> omega
    rintro k τ2 ar2 ⟨⟨g0, g3, g4, g5, g6, g7, g8, g9, g10⟩, rfl, hk, hp⟩ ih2
    refine runS_says 0 (by exact g0) (Says.refl _) ?_; refine runS_says 3 (by exact g3) (Says.refl _) ?_; refine runS_says 4 (by exact g4) (Says.refl _) ?_; refine runS_says 5 (by exact g5) (Says.refl _) ?_; refine runS_says 6 (by exact g6) (Says.refl _) ?_; refine runS_says 7 (by exact g7) (Says.refl _) ?_; refine runS_says 8 (by exact g8) (Says.refl _) ?_; refine runS_says 9 (by exact g9) (Says.refl _) ?_; refine runS_says 10 (by exact g10) (Says.refl _) ?_
    refine runS_x (I := inf) (J := jnf) ⟨false, false, [], 0, 0⟩ 9999 rfl (by repeat (first | exact obs_nil | refine obs_draw (by kernel_rfl) ?_ | refine obs_same ?_ | refine obs_and ?_ | refine obs_by (by (simp [inB] <;> omega)) ?_)) ?_
    refine runS_cond rfl (fun hge => ?_) (fun hge => ?_)
    · obtain ⟨j, rfl⟩ : ∃ j, k = j + 1 := ⟨k - 1, by simp at hge; omega⟩
      have e : ((j + 1 : Nat) : Int) - 1 = (j : Nat) := by omega
      rw [upN] at hp
      rw [e]
      have hj : j < l.length := by omega
      refine runS_x (I := inf) (J := jnf) ⟨false, false, [], 0, 0⟩ 9999 rfl (by repeat (first | exact obs_nil | refine obs_draw (by kernel_rfl) ?_ | refine obs_same ?_ | refine obs_and ?_ | refine obs_by (by (simp [inB, hj, hlt'] <;> omega)) ?_)) ?_
      refine runS_cond rfl (fun hl => ?_) (fun hl => ?_)
      · have hl' : (fat l j).level < (fat l i).level := by simpa using hl
        rw [if_pos hl'] at hp
        refine runS_focus 0 1 14 j (r' := nodR l (fun k => if k = j then .row 4 0 else .mem 1 (fv + 1) k)) (ms' := fun k => if k = j then 0 else kidsN l i k) (by decide) rfl rfl (by omega) (fun _ _ => rfl) (fun _ _ => rfl) (fun k hk => by rw [if_neg hk]) (by rw [if_pos rfl]) rfl ?_
        refine runS_x (I := inf) (J := jnf) ⟨false, false, [], 0, 0⟩ 9999 rfl (by repeat (first | exact obs_nil | refine obs_draw (by kernel_rfl) ?_ | refine obs_same ?_ | refine obs_and ?_ | refine obs_by (by (simp [inB] <;> omega)) ?_)) ?_
        refine runS_drawK (I := inf) (J := jnf) 9 8 (by kernel_rfl) rfl rfl (by repeat (first | exact obs_nil | refine obs_same ?_ | refine obs_and ?_ | refine obs_by (by (simp [inB, hj, hlt'] <;> omega)) ?_)) (by repeat (first | exact obs_nil | refine obs_same ?_ | refine obs_and ?_ | refine obs_by (by (simp [inB, hj, hlt'] <;> omega)) ?_)) ?_
        refine runS_x (I := inf) (J := jnf) ⟨false, false, [], 0, 0⟩ 11 rfl (by repeat (first | exact obs_nil | refine obs_draw (by kernel_rfl) ?_ | refine obs_same ?_ | refine obs_and ?_ | refine obs_by (by (simp [inB, hj, hlt'] <;> omega)) ?_)) ?_
        refine runS_loadElt (I := inf) (J := jnf) (nodE l j (.row 4 0)) rfl rfl rfl rfl rfl rfl rfl rfl (congrArg (nodE l j) (if_pos rfl)) rfl rfl (by simp [obs_cons, obs_nil', inB]; omega) ?_
        have hkn := kidsN_le l i j
        refine runS_x (I := inf) (J := jnf) ⟨false, false, [], 0, 0⟩ 6 rfl (by repeat (first | exact obs_nil | refine obs_draw (by kernel_rfl) ?_ | refine obs_same ?_ | refine obs_and ?_ | refine obs_by (by (simp [inB, hj, hlt'] <;> omega)) ?_)) ?_
        have hpi : par l i = some j := hp.symm
        refine runS_unfocus 0 1 4 14 j (r' := nodR l (fun k => .mem 1 (fv + 2) k)) (ms' := kidsN l (i + 1)) (rs' := kidsR l (i + 1)) (by decide) (by decide) (by decide) rfl rfl rfl (by omega) ?_ ?_ ?_ ?_ ?_ ?_ rfl ?_
        · intro q hq
          by_cases hqj : q = j
          · subst hqj
            rw [if_pos rfl]
            show (setR _ q _ q)[14]? = _
            rw [setR_self]
            rfl
          · rw [if_neg hqj]
            show (setR _ j _ q)[14]? = _
            rw [setR_ne hqj]
            exact congrArg some (if_neg hqj)
        · intro q hq
          by_cases hqj : q = j
          · subst hqj
            show _ = (setR _ q _ q).set 14 _
            rw [setR_self]
            rfl
          · show _ = (setR _ j _ q).set 14 _
            rw [setR_ne hqj]
            rfl
        · intro q hq
          show kidsN l (i + 1) q = if q = j then 0 else kidsN l i q
          rw [if_neg hq, kidsN, kidsL_succ, if_neg (by rw [hpi]; simpa using Ne.symm hq)]
          rfl
        · rw [kidsN, kidsL_succ, if_pos hpi, List.length_append]
          rfl
        · intro q x hq hx
          rw [kidsR, kidsL_succ, if_neg (by rw [hpi]; simpa using Ne.symm hq)]
          rfl
        · intro x hx
          rw [kidsR, kidsL_succ, if_pos hpi]
          refine encR_snoc (enc := fun k : Nat => [iv k]) (d := 0) (acc := kidsL l i j) (v := i) ?_ x hx
          rfl
        refine runS_x (I := inf) (J := jnf) ⟨false, false, [], 0, 0⟩ 9999 rfl (by repeat (first | exact obs_nil | refine obs_draw (by kernel_rfl) ?_ | refine obs_same ?_ | refine obs_and ?_ | refine obs_by (by (simp [inB] <;> omega)) ?_)) ?_
        refine runS_famAdd 0 1 14 (r' := nodR l (fun k => .mem 1 (fv + 3) k)) (ms' := kidsN l (i + 1)) (rs' := kidsR l (i + 1)) (by decide) rfl rfl ?_ ?_ ?_ (fun _ _ => rfl) ?_ (fun _ _ _ _ => rfl) rfl ?_
        · intro q hq
          rw [appR_lt hq]
          rfl
        · rw [appR_ge (Nat.le_refl _), Nat.sub_self]
          rfl
        · intro q hq
          by_cases hqi : q < i
          · rw [appR_lt hqi]
            rfl
          · have : q = i := by omega
            subst this
            rw [appR_ge (Nat.le_refl _), Nat.sub_self]
            have hd : (dep l q : Int) = IntKind.wrap .i64 ((dep l j : Int) + 1) := by
              have := dep_le l j
              rw [w64, dep_some hpi] <;> omega
            simp only [nodR, nodE, hpi, hd]
            rfl
        · rw [kidsN, kidsL_out l _ _ (Nat.le_refl _)]
          rfl
        refine runS_drop 2 (Nat.zero_le _) rfl (by repeat (first | exact .nil | refine .row (fun j hj => rfl) ?_ | refine .box rfl ?_ | refine .fam (fun k j hk hj => rfl) ?_ | refine .loop (scrub_under _ _) ?_ | refine .dfr ?_ | refine .gone ?_ | refine .map (fun p hp => by (obtain ⟨k, _, rfl⟩ := List.mem_map.1 hp; rfl)) ?_)) rfl rfl rfl (by repeat (first | exact .nil | refine .cons rfl rfl rfl (scrub_under _ _) ?_)) ?_
        refine ih (i + 1, fv + 3) _ _ (by dsimp only; omega) ⟨⟨rfl, rfl, rfl, rfl, ?_⟩, rfl, by dsimp only; omega⟩
        have hs : IntKind.wrap .i64 ((i : Int) + 1) = ((i + 1 : Nat) : Int) := by rw [w64] <;> omega
        show iv (IntKind.wrap .i64 ((i : Int) + 1)) = _
        rw [hs]
      · refine runS_x (I := inf) (J := jnf) ⟨false, false, [], 0, 0⟩ 9999 rfl (by repeat (first | exact obs_nil | refine obs_draw (by kernel_rfl) ?_ | refine obs_same ?_ | refine obs_and ?_ | refine obs_by (by (simp [inB] <;> omega)) ?_)) ?_
        have hl' : ¬ (fat l j).level < (fat l i).level := by simpa using hl
        rw [if_neg hl'] at hp
        refine ih2 j _ _ (by omega) ⟨⟨rfl, rfl, rfl, rfl, rfl, ?_, rfl, rfl, rfl⟩, rfl, by omega, hp⟩
        show iv (IntKind.wrap .i64 ((j : Int) - 1)) = _
        rw [w64] <;> omega
    · have : k = 0 := by simp at hge; omega
      subst this
      have hpn : par l i = none := hp.symm
      refine runS_x (I := inf) (J := jnf) ⟨false, false, [], 0, 0⟩ 9999 rfl (by repeat (first | exact obs_nil | refine obs_draw (by kernel_rfl) ?_ | refine obs_same ?_ | refine obs_and ?_ | refine obs_by (by (simp [inB] <;> omega)) ?_)) ?_
      have hk0 : ∀ q, kidsL l (i + 1) q = kidsL l i q := fun q => by rw [kidsL_succ, if_neg (by rw [hpn]; simp)]
      refine runS_famAdd 0 1 14 (r' := nodR l (fun k => .mem 1 (fv + 1) k)) (ms' := kidsN l (i + 1)) (rs' := kidsR l (i + 1)) (by decide) rfl rfl ?_ ?_ ?_ (fun q _ => by rw [kidsN, hk0]; rfl) ?_ (fun q _ _ _ => by rw [kidsR, hk0]; rfl) rfl ?_
      · intro q hq
        rw [appR_lt hq]
        rfl
      · rw [appR_ge (Nat.le_refl _), Nat.sub_self]
        rfl
      · intro q hq
        by_cases hqi : q < i
        · rw [appR_lt hqi]
          rfl
        · have : q = i := by omega
          subst this
          rw [appR_ge (Nat.le_refl _), Nat.sub_self]
          simp only [nodR, nodE, hpn, dep_none hpn]
          rfl
      · rw [kidsN, kidsL_out l _ _ (Nat.le_refl _)]
        rfl
      refine runS_drop 2 (Nat.zero_le _) rfl (by repeat (first | exact .nil | refine .row (fun j hj => rfl) ?_ | refine .box rfl ?_ | refine .fam (fun k j hk hj => rfl) ?_ | refine .loop (scrub_under _ _) ?_ | refine .dfr ?_ | refine .gone ?_ | refine .map (fun p hp => by (obtain ⟨k, _, rfl⟩ := List.mem_map.1 hp; rfl)) ?_)) rfl rfl rfl (by repeat (first | exact .nil | refine .cons rfl rfl rfl (scrub_under _ _) ?_)) ?_
      refine ih (i + 1, fv + 1) _ _ (by dsimp only; omega) ⟨⟨rfl, rfl, rfl, rfl, ?_⟩, rfl, by dsimp only; omega⟩
      have hs : IntKind.wrap .i64 ((i : Int) + 1) = ((i + 1 : Nat) : Int) := by rw [w64] <;> omega
      show iv (IntKind.wrap .i64 ((i : Int) + 1)) = _
      rw [hs]
  · have : i = l.length := by simp at hlt; omega
    subst this
    refine runS_x (I := inf) (J := jnf) ⟨false, false, [], 0, 0⟩ 9999 rfl (by repeat (first | exact obs_nil | refine obs_draw (by kernel_rfl) ?_ | refine obs_same ?_ | refine obs_and ?_ | refine obs_by (by (simp [inB] <;> omega)) ?_)) ?_
    refine runS_famFreeze 0 1 14 (r' := nodR l (kidC l)) (by decide) rfl rfl (fun _ _ => rfl) (fun _ _ _ _ => rfl) (fun _ _ => rfl) rfl ?_
    refine runS_freeze 2 rfl rfl rfl (fun _ _ => rfl) ?_
    refine runS_drop 0 (Nat.zero_le _) rfl (by repeat (first | exact .nil | refine .row (fun j hj => rfl) ?_ | refine .box rfl ?_ | refine .fam (fun k j hk hj => rfl) ?_ | refine .loop (scrub_under _ _) ?_ | refine .dfr ?_ | refine .gone ?_ | refine .map (fun p hp => by (obtain ⟨k, _, rfl⟩ := List.mem_map.1 hp; rfl)) ?_)) rfl rfl rfl (by repeat (first | exact .nil | refine .cons rfl rfl rfl (scrub_under _ _) ?_)) ?_
    refine runS_ret (I := inf) 0 rfl (Nat.le_refl _) rfl .nil rfl ⟨?_, rfl⟩
    rfl
end Go.Iron.Try

/- The level package's functions (seat Ytamhonbhoelohaa): names and types. -/
namespace Go.Iron.Try
open Go.Proofs

theorem level_within (n a b : Int) : CallT Try.prog 117 [iv n, iv a, iv b] [] (fun o A => o = .ret (bv (decide (a ≤ n) && decide (n ≤ b))) ∧ A = []) := by
  refine callS_body (n := 15) rfl rfl fun w ρ X => ?_
  refine runS_x (I := inf) (J := jnf) ⟨false, false, [], 0, 0⟩ 9999 rfl (by repeat (first | exact obs_nil | refine obs_draw (by kernel_rfl) ?_ | refine obs_same ?_ | refine obs_and ?_ | refine obs_by (by (simp [inB] <;> omega)) ?_)) ?_
  refine runS_ret (I := inf) 0 rfl (Nat.le_refl _) rfl .nil rfl ⟨?_, rfl⟩
  show Out.ret (bv (if decide (n ≥ a) = true then decide (n ≤ b) else false)) = _
  by_cases h : a ≤ n <;> simp [h]
theorem digit_within (n a b : Int) : CallT Try.prog 188 [iv n, iv a, iv b] [] (fun o A => o = .ret (bv (decide (a ≤ n) && decide (n ≤ b))) ∧ A = []) := by
  refine callS_body (n := 15) rfl rfl fun w ρ X => ?_
  refine runS_x (I := inf) (J := jnf) ⟨false, false, [], 0, 0⟩ 9999 rfl (by repeat (first | exact obs_nil | refine obs_draw (by kernel_rfl) ?_ | refine obs_same ?_ | refine obs_and ?_ | refine obs_by (by (simp [inB] <;> omega)) ?_)) ?_
  refine runS_ret (I := inf) 0 rfl (Nat.le_refl _) rfl .nil rfl ⟨?_, rfl⟩
  show Out.ret (bv (if decide (n ≥ a) = true then decide (n ≤ b) else false)) = _
  by_cases h : a ≤ n <;> simp [h]
theorem ref_digit (c : Int) : CallT Try.prog 190 [.val (.int .u8 c)] [] (fun o A => o = .ret (bv (decide (48 ≤ c) && decide (c ≤ 57))) ∧ A = []) := by
  refine callS_body (n := 9) rfl rfl fun w ρ X => ?_
  refine runS_x (I := inf) (J := jnf) ⟨false, false, [], 0, 0⟩ 9999 rfl (by repeat (first | exact obs_nil | refine obs_draw (by kernel_rfl) ?_ | refine obs_same ?_ | refine obs_and ?_ | refine obs_by (by (simp [inB] <;> omega)) ?_)) ?_
  refine runS_ret (I := inf) 0 rfl (Nat.le_refl _) rfl .nil rfl ⟨?_, rfl⟩
  show Out.ret (bv (if decide (c ≥ 48) = true then decide (c ≤ 57) else false)) = _
  by_cases h : 48 ≤ c <;> simp [h]

/-- A byte of a text, as a number. -/
def byt (s : Str) (i : Nat) : Int := (s.getD i 0).toNat
/-- A byte that may stand at a place of a name. -/
def nameC (i : Nat) (c : Int) : Bool := (decide (65 ≤ c) && decide (c ≤ 90) || c == 36 || c == 35 || c == 64) || (!(i == 0) && (c == 95 || decide (48 ≤ c) && decide (c ≤ 57)))
def namePre (s : Str) (k : Nat) : Bool := (List.range k).all fun i => nameC i (byt s i)
theorem namePre_succ (s : Str) (k : Nat) : namePre s (k + 1) = (namePre s k && nameC k (byt s k)) := by simp [namePre, List.range_succ]
theorem namePre_false {s : Str} {k : Nat} : ∀ {m : Nat}, k ≤ m → namePre s k = false → namePre s m = false
  | 0, h, e => by have : k = 0 := by omega
                  subst this; exact e
  | m + 1, h, e => by
    by_cases hk : k = m + 1
    · subst hk; exact e
    · rw [namePre_succ, namePre_false (by omega) e]; rfl
def nameB (s : Str) : Bool := namePre s s.length && decide (1 ≤ s.length) && decide (s.length ≤ 31)

theorem level_named (s : Str) (hb : s.length < 9223372036854775807) : CallT Try.prog 131 [sv s] [] (fun o A => o = .ret (bv (nameB s)) ∧ A = []) := by
  refine callS_body (n := 55) rfl rfl fun w ρ X => ?_
  refine runS_x (I := inf) (J := jnf) ⟨false, false, [], 0, 0⟩ 9999 rfl (by repeat (first | exact obs_nil | refine obs_draw (by kernel_rfl) ?_ | refine obs_same ?_ | refine obs_and ?_ | refine obs_by (by (simp [inB] <;> omega)) ?_)) ?_
  refine runS_while (fun (i : Nat) τ ar => (τ 0 = sv s ∧ τ 7 = iv s.length ∧ τ 8 = iv i) ∧ ar = [] ∧ i ≤ s.length ∧ namePre s i = true) (fun i => s.length - i) 0 ⟨⟨rfl, rfl, rfl⟩, rfl, Nat.zero_le _, rfl⟩ ?_
  rintro i τ' ar' ⟨⟨h0, h7, h8⟩, rfl, hi, hp⟩ ih
  refine runS_says 0 (by exact h0) (Says.refl _) ?_; refine runS_says 7 (by exact h7) (Says.refl _) ?_; refine runS_says 8 (by exact h8) (Says.refl _) ?_
  refine runS_x (I := inf) (J := jnf) ⟨false, false, [], 0, 0⟩ 9999 rfl (by repeat (first | exact obs_nil | refine obs_draw (by kernel_rfl) ?_ | refine obs_same ?_ | refine obs_and ?_ | refine obs_by (by (simp [inB] <;> omega)) ?_)) ?_
  refine runS_cond rfl (fun hlt => ?_) (fun hlt => ?_)
  · have hlt' : i < s.length := by simpa using hlt
    have hbs : (((bl (bs s)).getD ((i : Int)).toNat 0).toNat : Int) = byt s i := rfl
    refine runS_x (I := inf) (J := jnf) ⟨false, false, [], 0, 0⟩ 9999 rfl (by repeat (first | exact obs_nil | refine obs_draw (by kernel_rfl) ?_ | refine obs_same ?_ | refine obs_and ?_ | refine obs_by (by (simp [inB, hlt'] <;> omega)) ?_)) ?_
    refine runS_cond rfl (fun hne => ?_) (fun hne => ?_)
    · refine runS_x (I := inf) (J := jnf) ⟨false, false, [], 0, 0⟩ 9999 rfl (by repeat (first | exact obs_nil | refine obs_draw (by kernel_rfl) ?_ | refine obs_same ?_ | refine obs_and ?_ | refine obs_by (by (simp [inB] <;> omega)) ?_)) ?_
      refine runS_ret (I := inf) 0 rfl (Nat.le_refl _) rfl .nil rfl ⟨?_, rfl⟩
      have hc : nameC i (byt s i) = false := by
        rw [hbs] at hne
        revert hne; unfold nameC; generalize byt s i = c; intro hne
        simp at hne ⊢; omega
      have : nameB s = false := by rw [nameB, namePre_false (m := s.length) (k := i + 1) (by omega) (by rw [namePre_succ, hc, Bool.and_false])]; rfl
      rw [this]
      rfl
    · refine runS_x (I := inf) (J := jnf) ⟨false, false, [], 0, 0⟩ 9999 rfl (by repeat (first | exact obs_nil | refine obs_draw (by kernel_rfl) ?_ | refine obs_same ?_ | refine obs_and ?_ | refine obs_by (by (simp [inB] <;> omega)) ?_)) ?_
      have hc : nameC i (byt s i) = true := by
        rw [hbs] at hne
        revert hne; unfold nameC; generalize byt s i = c; intro hne
        simp at hne ⊢; omega
      refine ih (i + 1) _ _ (by omega) ⟨⟨rfl, rfl, ?_⟩, rfl, by omega, by rw [namePre_succ, hp, hc]; rfl⟩
      show iv (IntKind.wrap .i64 ((i : Int) + 1)) = _
      rw [w64 (by omega) (by omega)]; rfl
  · refine runS_x (I := inf) (J := jnf) ⟨false, false, [], 0, 0⟩ 9999 rfl (by repeat (first | exact obs_nil | refine obs_draw (by kernel_rfl) ?_ | refine obs_same ?_ | refine obs_and ?_ | refine obs_by (by (simp [inB] <;> omega)) ?_)) ?_
    refine runS_call rfl rfl rfl rfl rfl rfl rfl (level_within s.length 1 31) ?_
    refine runS_x (I := inf) (J := jnf) ⟨false, false, [], 0, 0⟩ 9999 rfl (by repeat (first | exact obs_nil | refine obs_draw (by kernel_rfl) ?_ | refine obs_same ?_ | refine obs_and ?_ | refine obs_by (by (simp [inB] <;> omega)) ?_)) ?_
    refine runS_ret (I := inf) 0 rfl (Nat.le_refl _) rfl .nil rfl ⟨?_, rfl⟩
    have hi' : i = s.length := by simp at hlt; omega
    subst hi'
    show Out.ret (bv _) = _
    rw [nameB, hp, Bool.true_and]
    refine congrArg (fun b => Out.ret (bv b)) ?_
    rw [Bool.eq_iff_iff]; simp; omega
theorem ref_name (s : Str) (hb : s.length < 9223372036854775807) : CallT Try.prog 171 [sv s] [] (fun o A => o = .ret (bv (nameB s)) ∧ A = []) := by
  refine callS_body (n := 55) rfl rfl fun w ρ X => ?_
  refine runS_x (I := inf) (J := jnf) ⟨false, false, [], 0, 0⟩ 9999 rfl (by repeat (first | exact obs_nil | refine obs_draw (by kernel_rfl) ?_ | refine obs_same ?_ | refine obs_and ?_ | refine obs_by (by (simp [inB] <;> omega)) ?_)) ?_
  refine runS_while (fun (i : Nat) τ ar => (τ 0 = sv s ∧ τ 3 = iv i) ∧ ar = [] ∧ i ≤ s.length ∧ namePre s i = true) (fun i => s.length - i) 0 ⟨⟨rfl, rfl⟩, rfl, Nat.zero_le _, rfl⟩ ?_
  rintro i τ' ar' ⟨⟨h0, h3⟩, rfl, hi, hp⟩ ih
  refine runS_says 0 (by exact h0) (Says.refl _) ?_; refine runS_says 3 (by exact h3) (Says.refl _) ?_
  refine runS_x (I := inf) (J := jnf) ⟨false, false, [], 0, 0⟩ 9999 rfl (by repeat (first | exact obs_nil | refine obs_draw (by kernel_rfl) ?_ | refine obs_same ?_ | refine obs_and ?_ | refine obs_by (by (simp [inB] <;> omega)) ?_)) ?_
  refine runS_cond rfl (fun hlt => ?_) (fun hlt => ?_)
  · have hlt' : i < s.length := by simpa using hlt
    have hbs : (((bl (bs s)).getD ((i : Int)).toNat 0).toNat : Int) = byt s i := rfl
    refine runS_x (I := inf) (J := jnf) ⟨false, false, [], 0, 0⟩ 9999 rfl (by repeat (first | exact obs_nil | refine obs_draw (by kernel_rfl) ?_ | refine obs_same ?_ | refine obs_and ?_ | refine obs_by (by (simp [inB, hlt'] <;> omega)) ?_)) ?_
    refine runS_callU rfl rfl (by first | exact .v rfl rfl rfl rfl | exact .o rfl rfl rfl rfl) rfl rfl (by repeat (first | exact .nil | refine .cons (.n rfl) ?_ | refine .cons .o ?_ | refine .cons gok_and ?_)) rfl rfl rfl rfl rfl (fun _ => (ref_digit (((bl (bs s)).getD ((i : Int)).toNat 0).toNat : Int))) ?_
    refine runS_x (I := inf) (J := jnf) ⟨false, false, [], 0, 0⟩ 9999 rfl (by repeat (first | exact obs_nil | refine obs_draw (by kernel_rfl) ?_ | refine obs_same ?_ | refine obs_and ?_ | refine obs_by (by (simp [inB] <;> omega)) ?_)) ?_
    refine runS_cond rfl (fun hne => ?_) (fun hne => ?_)
    · refine runS_x (I := inf) (J := jnf) ⟨false, false, [], 0, 0⟩ 9999 rfl (by repeat (first | exact obs_nil | refine obs_draw (by kernel_rfl) ?_ | refine obs_same ?_ | refine obs_and ?_ | refine obs_by (by (simp [inB] <;> omega)) ?_)) ?_
      refine runS_ret (I := inf) 0 rfl (Nat.le_refl _) rfl .nil rfl ⟨?_, rfl⟩
      have hc : nameC i (byt s i) = false := by
        rw [hbs] at hne
        revert hne; unfold nameC; generalize byt s i = c; intro hne
        simp at hne ⊢; omega
      have : nameB s = false := by rw [nameB, namePre_false (m := s.length) (k := i + 1) (by omega) (by rw [namePre_succ, hc, Bool.and_false])]; rfl
      rw [this]
      rfl
    · refine runS_x (I := inf) (J := jnf) ⟨false, false, [], 0, 0⟩ 9999 rfl (by repeat (first | exact obs_nil | refine obs_draw (by kernel_rfl) ?_ | refine obs_same ?_ | refine obs_and ?_ | refine obs_by (by (simp [inB] <;> omega)) ?_)) ?_
      have hc : nameC i (byt s i) = true := by
        rw [hbs] at hne
        revert hne; unfold nameC; generalize byt s i = c; intro hne
        simp at hne ⊢; omega
      refine ih (i + 1) _ _ (by omega) ⟨⟨rfl, ?_⟩, rfl, by omega, by rw [namePre_succ, hp, hc]; rfl⟩
      show iv (IntKind.wrap .i64 ((i : Int) + 1)) = _
      rw [w64 (by omega) (by omega)]; rfl
  · refine runS_x (I := inf) (J := jnf) ⟨false, false, [], 0, 0⟩ 9999 rfl (by repeat (first | exact obs_nil | refine obs_draw (by kernel_rfl) ?_ | refine obs_same ?_ | refine obs_and ?_ | refine obs_by (by (simp [inB] <;> omega)) ?_)) ?_
    refine runS_ret (I := inf) 0 rfl (Nat.le_refl _) rfl .nil rfl ⟨?_, rfl⟩
    have hi' : i = s.length := by simp at hlt; omega
    subst hi'
    show Out.ret (bv _) = _
    rw [nameB, hp, Bool.true_and]
    refine congrArg (fun b => Out.ret (bv b)) ?_
    show (if (!((bs s).toList == (bs []).toList)) = true then decide (((bl (bs s)).length : Int) ≤ 31) else false) = _
    rw [bs_toList, bs_toList, bl_bs]
    cases s with
    | nil => rfl
    | cons c s => rw [Bool.eq_iff_iff]; simp; omega

theorem name_small {s : Str} (h : namePre s s.length = true) {i : Nat} (hi : i < s.length) : ¬ (97 ≤ byt s i ∧ byt s i ≤ 122) := by
  have : nameC i (byt s i) = true := by
    rw [namePre, List.all_eq_true] at h
    exact h i (List.mem_range.2 hi)
  revert this; unfold nameC; generalize byt s i = c; intro h
  simp at h; omega
theorem textR_self (s : Str) : textR s.length (bytR (bs s)) = bs s := by
  unfold textR bs
  congr 2
  apply List.ext_getElem
  · simp
  · intro i h1 h2
    have : i < s.length := by simpa using h1
    simp [bytR, bl', List.getD, this]
theorem ref_great (s : Str) (hn : nameB s = true) : CallT Try.prog 172 [sv s] [] (fun o A => o = .ret (sv s) ∧ A = []) := by
  have hn2 := hn
  simp only [nameB, Bool.and_eq_true, decide_eq_true_eq] at hn2
  obtain ⟨⟨hp, h1⟩, h2⟩ := hn2
  have hm : Nat.ble (bl' (bs s)).length maxLen = true := by
    show Nat.ble s.length maxLen = true
    rw [Nat.ble_eq]; unfold maxLen; omega
  refine callS_body (n := 33) rfl rfl fun w ρ X => ?_
  refine runS_x (I := inf) (J := jnf) ⟨false, false, [], 0, 0⟩ 9999 rfl (by repeat (first | exact obs_nil | refine obs_draw (by kernel_rfl) ?_ | refine obs_same ?_ | refine obs_and ?_ | refine obs_by (by first | exact fun _ => hm | (simp [inB] <;> omega)) ?_)) ?_
  refine runS_while (fun (i : Nat) τ ar => (τ 3 = .row 0 0 ∧ τ 4 = iv i) ∧ ar = [.byt s.length (bytR (bs s))] ∧ i ≤ s.length) (fun i => s.length - i) 0 ⟨⟨rfl, rfl⟩, rfl, Nat.zero_le _⟩ ?_
  rintro i τ' ar' ⟨⟨h3, h4⟩, rfl, hi⟩ ih
  refine runS_says 3 (by exact h3) (Says.refl _) ?_; refine runS_says 4 (by exact h4) (Says.refl _) ?_
  refine runS_x (I := inf) (J := jnf) ⟨false, false, [], 0, 0⟩ 9999 rfl (by repeat (first | exact obs_nil | refine obs_draw (by kernel_rfl) ?_ | refine obs_same ?_ | refine obs_and ?_ | refine obs_by (by (simp [inB] <;> omega)) ?_)) ?_
  refine runS_cond rfl (fun hlt => ?_) (fun hlt => ?_)
  · have hlt' : i < s.length := by simpa using hlt
    refine runS_x (I := inf) (J := jnf) ⟨false, false, [], 0, 0⟩ 9999 rfl (by repeat (first | exact obs_nil | refine obs_draw (by kernel_rfl) ?_ | refine obs_same ?_ | refine obs_and ?_ | refine obs_by (by (simp [inB, hlt'] <;> omega)) ?_)) ?_
    refine runS_cond rfl (fun hne => ?_) (fun hne => ?_)
    · exfalso
      have hbs : bytR (bs s) ((i : Int).toNat) = byt s i := rfl
      rw [hbs] at hne
      refine name_small hp hlt' ?_
      simp at hne; omega
    · refine runS_x (I := inf) (J := jnf) ⟨false, false, [], 0, 0⟩ 9999 rfl (by repeat (first | exact obs_nil | refine obs_draw (by kernel_rfl) ?_ | refine obs_same ?_ | refine obs_and ?_ | refine obs_by (by (simp [inB] <;> omega)) ?_)) ?_
      refine ih (i + 1) _ _ (by omega) ⟨⟨rfl, ?_⟩, rfl, by omega⟩
      show iv (IntKind.wrap .i64 ((i : Int) + 1)) = _
      rw [w64 (by omega) (by omega)]; rfl
  · refine runS_x (I := inf) (J := jnf) ⟨false, false, [], 0, 0⟩ 9999 rfl (by repeat (first | exact obs_nil | refine obs_draw (by kernel_rfl) ?_ | refine obs_same ?_ | refine obs_and ?_ | refine obs_by (by (simp [inB] <;> omega)) ?_)) ?_
    refine runS_drop 0 (Nat.zero_le _) rfl (by repeat (first | exact .nil | refine .row (fun j hj => rfl) ?_ | refine .box rfl ?_ | refine .fam (fun k j hk hj => rfl) ?_ | refine .loop (scrub_under _ _) ?_ | refine .dfr ?_ | refine .gone ?_ | refine .map (fun p hp => by (obtain ⟨k, _, rfl⟩ := List.mem_map.1 hp; rfl)) ?_)) rfl rfl rfl (by repeat (first | exact .nil | refine .cons rfl rfl rfl (scrub_under _ _) ?_)) ?_
    refine runS_ret (I := inf) 0 rfl (Nat.le_refl _) rfl .nil rfl ⟨?_, rfl⟩
    rw [textR_self]
    rfl
theorem ref_capital (s : Str) (hb : s.length < 9223372036854775807) : CallT Try.prog 137 [sv s] [] (fun o A => o = .ret (bv (nameB s)) ∧ A = []) := by
  refine callS_body (n := 11) rfl rfl fun w ρ X => ?_
  refine runS_x (I := inf) (J := jnf) ⟨false, false, [], 0, 0⟩ 9999 rfl (by repeat (first | exact obs_nil | refine obs_draw (by kernel_rfl) ?_ | refine obs_same ?_ | refine obs_and ?_ | refine obs_by (by (simp [inB] <;> omega)) ?_)) ?_
  refine runS_call rfl rfl rfl rfl rfl rfl rfl (ref_name s hb) ?_
  refine runS_x (I := inf) (J := jnf) ⟨false, false, [], 0, 0⟩ 9999 rfl (by repeat (first | exact obs_nil | refine obs_draw (by kernel_rfl) ?_ | refine obs_same ?_ | refine obs_and ?_ | refine obs_by (by (simp [inB] <;> omega)) ?_)) ?_
  refine runS_callU rfl rfl (by first | exact .v rfl rfl rfl rfl | exact .o rfl rfl rfl rfl) rfl rfl (by repeat (first | exact .nil | refine .cons (.n rfl) ?_ | refine .cons .o ?_ | refine .cons gok_and ?_)) rfl rfl rfl rfl rfl (fun h => ref_great s (by simpa [condOf] using h)) ?_
  refine runS_x (I := inf) (J := jnf) ⟨false, false, [], 0, 0⟩ 9999 rfl (by repeat (first | exact obs_nil | refine obs_draw (by kernel_rfl) ?_ | refine obs_same ?_ | refine obs_and ?_ | refine obs_by (by (simp [inB] <;> omega)) ?_)) ?_
  refine runS_ret (I := inf) 0 rfl (Nat.le_refl _) rfl .nil rfl ⟨?_, rfl⟩
  show Out.ret (bv _) = _
  simp
end Go.Iron.Try

/- The level package's functions (seat Ytamhonbhoelohaa): types' validity. -/
namespace Go.Iron.Try
open Go.Proofs

def inR (n a b : Int) : Bool := decide (a ≤ n) && decide (n ≤ b)
def validT (t : Typ) : Bool :=
  if t.kind = 1 then inR t.p 1 31 && inR t.q 0 31 && t.n == 0 && !t.vary && t.pic.isEmpty
  else if t.kind = 2 then inR t.p 1 15 && inR t.q 0 31 && t.n == 0 && !t.vary && t.pic.isEmpty
  else if t.kind = 3 then inR t.p 1 15 && t.q == 0 && t.n == 0 && !t.vary && t.pic.isEmpty
  else if t.kind = 4 ∨ t.kind = 5 then t.p == 0 && t.q == 0 && inR t.n 0 250 && t.pic.isEmpty
  else if t.kind = 6 then t.p == 0 && t.q == 0 && t.n == 0 && !t.vary && decide (1 ≤ t.pic.length) && decide (t.pic.length ≤ 80)
  else if t.kind = 7 ∨ t.kind = 8 ∨ t.kind = 9 then t.p == 0 && t.q == 0 && t.n == 0 && !t.vary && t.pic.isEmpty
  else false
theorem valid_kind {t : Typ} (h : validT t = true) : 1 ≤ t.kind ∧ t.kind ≤ 9 := by
  unfold validT at h
  split at h; omega
  split at h; omega
  split at h; omega
  split at h; omega
  split at h; omega
  split at h; omega
  cases h

theorem ref_numeric (c : Int) : CallT Try.prog 173 [iv c] [] (fun o A => o = .ret (bv (inR c 1 3)) ∧ A = []) := by
  refine callS_body (n := 9) rfl rfl fun w ρ X => ?_
  refine runS_x (I := inf) (J := jnf) ⟨false, false, [], 0, 0⟩ 9999 rfl (by repeat (first | exact obs_nil | refine obs_draw (by kernel_rfl) ?_ | refine obs_same ?_ | refine obs_and ?_ | refine obs_by (by (simp [inB] <;> omega)) ?_)) ?_
  refine runS_ret (I := inf) 0 rfl (Nat.le_refl _) rfl .nil rfl ⟨?_, rfl⟩
  show Out.ret (bv (if decide (c ≥ 1) = true then decide (c ≤ 3) else false)) = _
  unfold inR
  by_cases h : 1 ≤ c <;> simp [h]
theorem nine {k : Int} (h : 1 ≤ k ∧ k ≤ 9) : k = 1 ∨ k = 2 ∨ k = 3 ∨ k = 4 ∨ k = 5 ∨ k = 6 ∨ k = 7 ∨ k = 8 ∨ k = 9 := by omega
theorem emptyB (s : Str) : ((bs s).toList == ({ data := #[] } : ByteArray).toList) = decide (s.length = 0) := by
  show ((bs s).toList == (bs []).toList) = _
  rw [bs_toList, bs_toList]
  cases s <;> rfl
theorem isEmptyB (s : Str) : s.isEmpty = decide (s.length = 0) := by cases s <;> rfl
theorem blL (s : Str) : (bl (bs s)).length = s.length := rfl
theorem ref01_valid (t : Typ) (hb : t.pic.length < 9223372036854775807) : CallT Try.prog 138 [.agg (typE t)] [] (fun o A => o = .ret (bv (validT t)) ∧ A = []) := by
  obtain ⟨k, p, q, n, v, pic⟩ := t
  dsimp only at hb
  by_cases hk : 1 ≤ k ∧ k ≤ 9
  · rcases nine hk with rfl | rfl | rfl | rfl | rfl | rfl | rfl | rfl | rfl
    all_goals
      refine callS_body (n := 134) rfl rfl fun w ρ X => ?_
      refine runS_x (I := inf) (J := jnf) ⟨false, false, [], 0, 0⟩ 9999 rfl (by repeat (first | exact obs_nil | refine obs_draw (by kernel_rfl) ?_ | refine obs_same ?_ | refine obs_and ?_ | refine obs_by (by (simp [inB] <;> omega)) ?_)) ?_
      refine runS_callU rfl rfl (by first | exact .v rfl rfl rfl rfl | exact .o rfl rfl rfl rfl) rfl rfl (by repeat (first | exact .nil | refine .cons (.n rfl) ?_ | refine .cons .o ?_ | refine .cons gok_and ?_)) rfl rfl rfl rfl rfl (fun _ => (ref_numeric _)) ?_
      refine runS_x (I := inf) (J := jnf) ⟨false, false, [], 0, 0⟩ 9999 rfl (by repeat (first | exact obs_nil | refine obs_draw (by kernel_rfl) ?_ | refine obs_same ?_ | refine obs_and ?_ | refine obs_by (by (simp [inB] <;> omega)) ?_)) ?_
      refine runS_cond rfl (fun h => ?_) (fun h => ?_)
      · refine runS_x (I := inf) (J := jnf) ⟨true, false, [], 0, 0⟩ 9999 rfl (by repeat (first | exact obs_nil | refine obs_draw (by kernel_rfl) ?_ | refine obs_same ?_ | refine obs_and ?_ | refine obs_by (by (simp [inB] <;> omega)) ?_)) ?_
        refine runS_ret (I := inf) 0 rfl (Nat.le_refl _) rfl .nil rfl ⟨?_, rfl⟩
        refine congrArg (fun b => Out.ret (bv b)) ?_
        simp only [validT, inR, isEmptyB, emptyB, blL] at h ⊢
        rw [Bool.eq_iff_iff]
        cases v <;> (simp [-List.length_eq_zero_iff] at h ⊢ <;> first | omega | (simp only [decide_eq_true_eq]; omega) | (rw [decide_eq_true_iff]; omega) | (erw [decide_eq_true_iff]; omega))
      · refine runS_x (I := inf) (J := jnf) ⟨true, false, [], 0, 0⟩ 9999 rfl (by repeat (first | exact obs_nil | refine obs_draw (by kernel_rfl) ?_ | refine obs_same ?_ | refine obs_and ?_ | refine obs_by (by (simp [inB] <;> omega)) ?_)) ?_
        refine runS_ret (I := inf) 0 rfl (Nat.le_refl _) rfl .nil rfl ⟨?_, rfl⟩
        refine congrArg (fun b => Out.ret (bv b)) ?_
        simp only [validT, inR, isEmptyB, emptyB, blL] at h ⊢
        rw [Bool.eq_iff_iff]
        cases v <;> (simp [-List.length_eq_zero_iff] at h ⊢ <;> first | omega | (simp only [decide_eq_true_eq]; omega) | (rw [decide_eq_true_iff]; omega) | (erw [decide_eq_true_iff]; omega))
  · have h0 : validT ⟨k, p, q, n, v, pic⟩ = false := by
      cases hv : validT ⟨k, p, q, n, v, pic⟩ with
      | false => rfl
      | true => exact absurd (valid_kind hv) hk
    rw [h0]
    have nk : ∀ j : Int, 1 ≤ j → j ≤ 9 → (k == j) = false := fun j h1 h2 => by simp; omega
    refine callS_body (n := 134) rfl rfl fun w ρ X => ?_
    refine runS_x (I := inf) (J := jnf) ⟨false, false, [], 0, 0⟩ 9999 rfl (by repeat (first | exact obs_nil | refine obs_draw (by kernel_rfl) ?_ | refine obs_same ?_ | refine obs_and ?_ | refine obs_by (by (simp [inB] <;> omega)) ?_)) ?_
    refine runS_callU rfl rfl (by first | exact .v rfl rfl rfl rfl | exact .o rfl rfl rfl rfl) rfl rfl (by repeat (first | exact .nil | refine .cons (.n rfl) ?_ | refine .cons .o ?_ | refine .cons gok_and ?_)) rfl rfl rfl rfl rfl (fun _ => (ref_numeric _)) ?_
    refine runS_x (I := inf) (J := jnf) ⟨false, false, [], 0, 0⟩ 9999 rfl (by repeat (first | exact obs_nil | refine obs_draw (by kernel_rfl) ?_ | refine obs_same ?_ | refine obs_and ?_ | refine obs_by (by (simp [inB] <;> omega)) ?_)) ?_
    refine runS_cond rfl (fun h => ?_) (fun h => ?_)
    · refine runS_x (I := inf) (J := jnf) ⟨false, false, [], 0, 0⟩ 9999 rfl (by repeat (first | exact obs_nil | refine obs_draw (by kernel_rfl) ?_ | refine obs_same ?_ | refine obs_and ?_ | refine obs_by (by (simp [inB] <;> omega)) ?_)) ?_
      refine runS_ret (I := inf) 0 rfl (Nat.le_refl _) rfl .nil rfl ⟨?_, rfl⟩
      rfl
    · refine runS_x (I := inf) (J := jnf) ⟨false, false, [], 0, 0⟩ 9999 rfl (by repeat (first | exact obs_nil | refine obs_draw (by kernel_rfl) ?_ | refine obs_same ?_ | refine obs_and ?_ | refine obs_by (by (simp [inB] <;> omega)) ?_)) ?_
      refine runS_cond rfl (fun h => ?_) (fun _ => ?_)
      · rw [nk _ (by decide) (by decide)] at h; cases h
      refine runS_x (I := inf) (J := jnf) ⟨false, false, [], 0, 0⟩ 9999 rfl (by repeat (first | exact obs_nil | refine obs_draw (by kernel_rfl) ?_ | refine obs_same ?_ | refine obs_and ?_ | refine obs_by (by (simp [inB] <;> omega)) ?_)) ?_
      refine runS_cond rfl (fun h => ?_) (fun _ => ?_)
      · rw [nk _ (by decide) (by decide)] at h; cases h
      refine runS_x (I := inf) (J := jnf) ⟨false, false, [], 0, 0⟩ 9999 rfl (by repeat (first | exact obs_nil | refine obs_draw (by kernel_rfl) ?_ | refine obs_same ?_ | refine obs_and ?_ | refine obs_by (by (simp [inB] <;> omega)) ?_)) ?_
      refine runS_cond rfl (fun h => ?_) (fun _ => ?_)
      · rw [nk _ (by decide) (by decide)] at h; cases h
      refine runS_x (I := inf) (J := jnf) ⟨false, false, [], 0, 0⟩ 9999 rfl (by repeat (first | exact obs_nil | refine obs_draw (by kernel_rfl) ?_ | refine obs_same ?_ | refine obs_and ?_ | refine obs_by (by (simp [inB] <;> omega)) ?_)) ?_
      refine runS_cond rfl (fun h => ?_) (fun _ => ?_)
      · rw [nk _ (by decide) (by decide)] at h; cases h
      refine runS_x (I := inf) (J := jnf) ⟨false, false, [], 0, 0⟩ 9999 rfl (by repeat (first | exact obs_nil | refine obs_draw (by kernel_rfl) ?_ | refine obs_same ?_ | refine obs_and ?_ | refine obs_by (by (simp [inB] <;> omega)) ?_)) ?_
      refine runS_cond rfl (fun h => ?_) (fun _ => ?_)
      · rw [nk _ (by decide) (by decide)] at h; cases h
      refine runS_x (I := inf) (J := jnf) ⟨false, false, [], 0, 0⟩ 9999 rfl (by repeat (first | exact obs_nil | refine obs_draw (by kernel_rfl) ?_ | refine obs_same ?_ | refine obs_and ?_ | refine obs_by (by (simp [inB] <;> omega)) ?_)) ?_
      refine runS_cond rfl (fun h => ?_) (fun _ => ?_)
      · rw [nk _ (by decide) (by decide)] at h; cases h
      refine runS_x (I := inf) (J := jnf) ⟨false, false, [], 0, 0⟩ 9999 rfl (by repeat (first | exact obs_nil | refine obs_draw (by kernel_rfl) ?_ | refine obs_same ?_ | refine obs_and ?_ | refine obs_by (by (simp [inB] <;> omega)) ?_)) ?_
      refine runS_ret (I := inf) 0 rfl (Nat.le_refl _) rfl .nil rfl ⟨?_, rfl⟩
      refine congrArg (fun b => Out.ret (bv b)) ?_
      simp
      omega

/-- The kinds' rules. -/
theorem rules_1 (a b : Int) (t : Typ) : CallT Try.prog 192 [.agg (typE t), .loc [iv a] 0, .loc [iv b] 0] [] (fun o A => o = .ret (bv (inR t.p 1 a && inR t.q 0 b && t.n == 0 && !t.vary && t.pic.isEmpty)) ∧ A = []) := by
  obtain ⟨k, p, q, n, v, pic⟩ := t
  refine callS_body (n := 30) rfl rfl fun w ρ X => ?_
  refine runS_x (I := inf) (J := jnf) ⟨false, false, [], 0, 0⟩ 9999 rfl (by repeat (first | exact obs_nil | refine obs_draw (by kernel_rfl) ?_ | refine obs_same ?_ | refine obs_and ?_ | refine obs_by (by (simp [inB] <;> omega)) ?_)) ?_
  refine runS_call rfl rfl rfl rfl rfl rfl rfl (digit_within _ _ _) ?_
  refine runS_x (I := inf) (J := jnf) ⟨false, false, [], 0, 0⟩ 9999 rfl (by repeat (first | exact obs_nil | refine obs_draw (by kernel_rfl) ?_ | refine obs_same ?_ | refine obs_and ?_ | refine obs_by (by (simp [inB] <;> omega)) ?_)) ?_
  refine runS_callU rfl rfl (by first | exact .v rfl rfl rfl rfl | exact .o rfl rfl rfl rfl) rfl rfl (by repeat (first | exact .nil | refine .cons (.n rfl) ?_ | refine .cons .o ?_ | refine .cons gok_and ?_)) rfl rfl rfl rfl rfl (fun _ => (digit_within _ _ _)) ?_
  refine runS_x (I := inf) (J := jnf) ⟨false, false, [], 0, 0⟩ 9999 rfl (by repeat (first | exact obs_nil | refine obs_draw (by kernel_rfl) ?_ | refine obs_same ?_ | refine obs_and ?_ | refine obs_by (by (simp [inB] <;> omega)) ?_)) ?_
  refine runS_ret (I := inf) 0 rfl (Nat.le_refl _) rfl .nil rfl ⟨?_, rfl⟩
  refine congrArg (fun b => Out.ret (bv b)) ?_
  simp only [inR, isEmptyB, emptyB, blL]
  rw [Bool.eq_iff_iff]
  cases v <;> (simp [-List.length_eq_zero_iff] <;> first | omega | (simp only [decide_eq_true_eq]; omega) | (rw [decide_eq_true_iff]; omega) | (erw [decide_eq_true_iff]; omega) | (erw [decide_eq_true_iff, decide_eq_true_iff]; omega))
theorem rules_2 (t : Typ) : CallT Try.prog 193 [.agg (typE t)] [] (fun o A => o = .ret (bv (t.p == 0 && t.q == 0 && inR t.n 0 250 && t.pic.isEmpty)) ∧ A = []) := by
  obtain ⟨k, p, q, n, v, pic⟩ := t
  refine callS_body (n := 21) rfl rfl fun w ρ X => ?_
  refine runS_x (I := inf) (J := jnf) ⟨false, false, [], 0, 0⟩ 9999 rfl (by repeat (first | exact obs_nil | refine obs_draw (by kernel_rfl) ?_ | refine obs_same ?_ | refine obs_and ?_ | refine obs_by (by (simp [inB] <;> omega)) ?_)) ?_
  refine runS_callU rfl rfl (by first | exact .v rfl rfl rfl rfl | exact .o rfl rfl rfl rfl) rfl rfl (by repeat (first | exact .nil | refine .cons (.n rfl) ?_ | refine .cons .o ?_ | refine .cons gok_and ?_)) rfl rfl rfl rfl rfl (fun _ => (digit_within _ _ _)) ?_
  refine runS_x (I := inf) (J := jnf) ⟨false, false, [], 0, 0⟩ 9999 rfl (by repeat (first | exact obs_nil | refine obs_draw (by kernel_rfl) ?_ | refine obs_same ?_ | refine obs_and ?_ | refine obs_by (by (simp [inB] <;> omega)) ?_)) ?_
  refine runS_ret (I := inf) 0 rfl (Nat.le_refl _) rfl .nil rfl ⟨?_, rfl⟩
  refine congrArg (fun b => Out.ret (bv b)) ?_
  simp only [inR, isEmptyB, emptyB, blL]
  rw [Bool.eq_iff_iff]
  simp [-List.length_eq_zero_iff] <;> first | omega | (simp only [decide_eq_true_eq]; omega) | (rw [decide_eq_true_iff]; omega) | (erw [decide_eq_true_iff]; omega) | (erw [decide_eq_true_iff, decide_eq_true_iff]; omega)
theorem rules_3 (t : Typ) : CallT Try.prog 194 [.agg (typE t)] [] (fun o A => o = .ret (bv (t.p == 0 && t.q == 0 && t.n == 0 && !t.vary && t.pic.isEmpty)) ∧ A = []) := by
  obtain ⟨k, p, q, n, v, pic⟩ := t
  refine callS_body (n := 8) rfl rfl fun w ρ X => ?_
  refine runS_x (I := inf) (J := jnf) ⟨false, false, [], 0, 0⟩ 9999 rfl (by repeat (first | exact obs_nil | refine obs_draw (by kernel_rfl) ?_ | refine obs_same ?_ | refine obs_and ?_ | refine obs_by (by (simp [inB] <;> omega)) ?_)) ?_
  refine runS_ret (I := inf) 0 rfl (Nat.le_refl _) rfl .nil rfl ⟨?_, rfl⟩
  refine congrArg (fun b => Out.ret (bv b)) ?_
  simp only [inR, isEmptyB, emptyB, blL]
  rw [Bool.eq_iff_iff]
  cases v <;> (simp [-List.length_eq_zero_iff] <;> first | omega | (simp only [decide_eq_true_eq]; omega) | (rw [decide_eq_true_iff]; omega) | (erw [decide_eq_true_iff]; omega) | (erw [decide_eq_true_iff, decide_eq_true_iff]; omega))
theorem rules_4 (t : Typ) (hb : t.pic.length < 9223372036854775807) : CallT Try.prog 195 [.agg (typE t)] [] (fun o A => o = .ret (bv (t.p == 0 && t.q == 0 && t.n == 0 && !t.vary && decide (1 ≤ t.pic.length) && decide (t.pic.length ≤ 80))) ∧ A = []) := by
  obtain ⟨k, p, q, n, v, pic⟩ := t
  refine callS_body (n := 16) rfl rfl fun w ρ X => ?_
  refine runS_x (I := inf) (J := jnf) ⟨false, false, [], 0, 0⟩ 9999 rfl (by repeat (first | exact obs_nil | refine obs_draw (by kernel_rfl) ?_ | refine obs_same ?_ | refine obs_and ?_ | refine obs_by (by (simp [inB] <;> omega)) ?_)) ?_
  refine runS_call rfl rfl rfl rfl rfl rfl rfl (digit_within _ _ _) ?_
  refine runS_x (I := inf) (J := jnf) ⟨false, false, [], 0, 0⟩ 9999 rfl (by repeat (first | exact obs_nil | refine obs_draw (by kernel_rfl) ?_ | refine obs_same ?_ | refine obs_and ?_ | refine obs_by (by (simp [inB] <;> omega)) ?_)) ?_
  refine runS_ret (I := inf) 0 rfl (Nat.le_refl _) rfl .nil rfl ⟨?_, rfl⟩
  refine congrArg (fun b => Out.ret (bv b)) ?_
  simp only [inR, isEmptyB, emptyB, blL]
  rw [Bool.eq_iff_iff]
  cases v <;> (simp [-List.length_eq_zero_iff] <;> first | omega | (simp only [decide_eq_true_eq]; omega) | (rw [decide_eq_true_iff]; omega) | (erw [decide_eq_true_iff]; omega) | (erw [decide_eq_true_iff, decide_eq_true_iff]; omega))
theorem rules_5 (t : Typ) : CallT Try.prog 196 [.agg (typE t)] [] (fun o A => o = .ret (bv false) ∧ A = []) := by
  refine callS_body (n := 3) rfl rfl fun w ρ X => ?_
  refine runS_x (I := inf) (J := jnf) ⟨false, false, [], 0, 0⟩ 9999 rfl (by repeat (first | exact obs_nil | refine obs_draw (by kernel_rfl) ?_ | refine obs_same ?_ | refine obs_and ?_ | refine obs_by (by (simp [inB] <;> omega)) ?_)) ?_
  refine runS_ret (I := inf) 0 rfl (Nat.le_refl _) rfl .nil rfl ⟨?_, rfl⟩
  rfl
end Go.Iron.Try

/- The level package's functions (seat Ytamhonbhoelohaa): digit.Valid; sizes of types. -/
namespace Go.Iron.Try
open Go.Proofs

abbrev fnA (g : Nat) (caps : List AV) : AV := .fn (.func g) caps
abbrev cel (n : Int) : AV := .loc [iv n] 0
theorem rules_mk (a b : Int) : CallT Try.prog 191 [iv a, iv b] [] (fun o A => o = .ret (fnA 192 [cel a, cel b]) ∧ A = []) := by
  refine callS_body (n := 6) rfl rfl fun w ρ X => ?_
  refine runS_x (I := inf) (J := jnf) ⟨false, false, [], 0, 0⟩ 9999 rfl (by repeat (first | exact obs_nil | refine obs_draw (by kernel_rfl) ?_ | refine obs_same ?_ | refine obs_and ?_ | refine obs_by (by (simp [inB] <;> omega)) ?_)) ?_
  refine runS_freezeBox 0 rfl rfl rfl ?_
  refine runS_freezeBox 1 rfl rfl rfl ?_
  refine runS_drop 0 (Nat.zero_le _) rfl (by repeat (first | exact .nil | refine .row (fun j hj => rfl) ?_ | refine .box rfl ?_ | refine .fam (fun k j hk hj => rfl) ?_ | refine .loop (scrub_under _ _) ?_ | refine .dfr ?_ | refine .gone ?_ | refine .map (fun p hp => by (obtain ⟨k, _, rfl⟩ := List.mem_map.1 hp; rfl)) ?_)) rfl rfl rfl (by repeat (first | exact .nil | refine .cons rfl rfl rfl (scrub_under _ _) ?_)) ?_
  refine runS_ret (I := inf) 0 rfl (Nat.le_refl _) rfl .nil rfl ⟨?_, rfl⟩
  rfl
def ruleA : Nat → AV
  | 0 => fnA 196 []
  | 1 => fnA 192 [cel 31, cel 31]
  | 2 => fnA 192 [cel 15, cel 31]
  | 3 => fnA 192 [cel 15, cel 0]
  | 4 => fnA 193 []
  | 5 => fnA 193 []
  | 6 => fnA 195 []
  | _ => fnA 194 []
def ruleR : Nat → List AV := fun i => [ruleA i]
def rulesS : AV := .slc 1 none 10 ruleR
theorem digit_rules : CallT Try.prog 187 [] [] (fun o A => o = .ret rulesS ∧ A = []) := by
  refine callS_body (n := 20) rfl rfl fun w ρ X => ?_
  refine runS_x (I := inf) (J := jnf) ⟨false, false, [], 0, 0⟩ 9999 rfl (by repeat (first | exact obs_nil | refine obs_draw (by kernel_rfl) ?_ | refine obs_same ?_ | refine obs_and ?_ | refine obs_by (by (simp [inB] <;> omega)) ?_)) ?_
  refine runS_call rfl rfl rfl rfl rfl rfl rfl (rules_mk 31 31) ?_
  refine runS_x (I := inf) (J := jnf) ⟨false, false, [], 0, 0⟩ 9999 rfl (by repeat (first | exact obs_nil | refine obs_draw (by kernel_rfl) ?_ | refine obs_same ?_ | refine obs_and ?_ | refine obs_by (by (simp [inB] <;> omega)) ?_)) ?_
  refine runS_call rfl rfl rfl rfl rfl rfl rfl (rules_mk 15 31) ?_
  refine runS_x (I := inf) (J := jnf) ⟨false, false, [], 0, 0⟩ 9999 rfl (by repeat (first | exact obs_nil | refine obs_draw (by kernel_rfl) ?_ | refine obs_same ?_ | refine obs_and ?_ | refine obs_by (by (simp [inB] <;> omega)) ?_)) ?_
  refine runS_call rfl rfl rfl rfl rfl rfl rfl (rules_mk 15 0) ?_
  refine runS_x (I := inf) (J := jnf) ⟨false, false, [], 0, 0⟩ 9999 rfl (by repeat (first | exact obs_nil | refine obs_draw (by kernel_rfl) ?_ | refine obs_same ?_ | refine obs_and ?_ | refine obs_by (by (simp [inB] <;> omega)) ?_)) ?_
  refine runS_tell 0 ruleR rfl (m' := 10) rfl ?_ rfl ?_
  · intro i hi
    rcases i with _ | _ | _ | _ | _ | _ | _ | _ | _ | _ | i <;> first | rfl | omega
  refine runS_freeze 0 rfl rfl rfl (fun i hi => ?_) ?_
  · rcases i with _ | _ | _ | _ | _ | _ | _ | _ | _ | _ | i <;> first | rfl | omega
  refine runS_drop 0 (Nat.zero_le _) rfl (by repeat (first | exact .nil | refine .row (fun j hj => rfl) ?_ | refine .box rfl ?_ | refine .fam (fun k j hk hj => rfl) ?_ | refine .loop (scrub_under _ _) ?_ | refine .dfr ?_ | refine .gone ?_ | refine .map (fun p hp => by (obtain ⟨k, _, rfl⟩ := List.mem_map.1 hp; rfl)) ?_)) rfl rfl rfl (by repeat (first | exact .nil | refine .cons rfl rfl rfl (scrub_under _ _) ?_)) ?_
  refine runS_ret (I := inf) 0 rfl (Nat.le_refl _) rfl .nil rfl ⟨?_, rfl⟩
  rfl
theorem digit_valid (t : Typ) (hb : t.pic.length < 9223372036854775807) : CallT Try.prog 169 [.agg (typE t)] [] (fun o A => o = .ret (bv (validT t)) ∧ A = []) := by
  by_cases hk : 0 ≤ t.kind ∧ t.kind ≤ 9
  · obtain ⟨k, p, q, n, v, pic⟩ := t
    dsimp only at hb hk
    have : k = 0 ∨ k = 1 ∨ k = 2 ∨ k = 3 ∨ k = 4 ∨ k = 5 ∨ k = 6 ∨ k = 7 ∨ k = 8 ∨ k = 9 := by omega
    rcases this with rfl | rfl | rfl | rfl | rfl | rfl | rfl | rfl | rfl | rfl
    · refine callS_body (n := 20) rfl rfl fun w ρ X => ?_
      refine runS_x (I := inf) (J := jnf) ⟨false, false, [], 0, 0⟩ 9999 rfl (by repeat (first | exact obs_nil | refine obs_draw (by kernel_rfl) ?_ | refine obs_same ?_ | refine obs_and ?_ | refine obs_by (by (simp [inB] <;> omega)) ?_)) ?_
      refine runS_call rfl rfl rfl rfl rfl rfl rfl digit_rules ?_
      refine runS_x (I := inf) (J := jnf) ⟨false, false, [], 0, 0⟩ 9999 rfl (by repeat (first | exact obs_nil | refine obs_draw (by kernel_rfl) ?_ | refine obs_same ?_ | refine obs_and ?_ | refine obs_by (by (simp [inB] <;> omega)) ?_)) ?_
      refine runS_draw 15 (by kernel_rfl) (lexj_x (I := inf) (J := jnf) 99 rfl rfl (by repeat (first | exact obs_nil | refine obs_same ?_ | refine obs_and ?_ | refine obs_by (by (simp [inB] <;> omega)) ?_)) (lexj_call rfl rfl rfl rfl rfl rfl rfl rfl (digit_within _ _ _) (lexj_x (I := inf) (J := jnf) 99 rfl rfl (by repeat (first | exact obs_nil | refine obs_same ?_ | refine obs_and ?_ | refine obs_by (by (simp [inB] <;> omega)) ?_)) (lexj_callU rfl rfl (by first | exact .v rfl rfl rfl rfl | exact .o rfl rfl rfl rfl) rfl rfl (by repeat (first | exact .nil | refine .cons (.n rfl) ?_ | refine .cons .o ?_ | refine .cons gok_and ?_)) rfl rfl rfl rfl rfl (fun hcond => (rules_5 _)) (lexj_x (I := inf) (J := jnf) 99 rfl rfl (by repeat (first | exact obs_nil | refine obs_same ?_ | refine obs_and ?_ | refine obs_by (by (simp [inB] <;> omega)) ?_)) lexj_nil))))) ?_
      refine runS_x (I := inf) (J := jnf) ⟨false, false, [], 0, 0⟩ 9999 rfl (by repeat (first | exact obs_nil | refine obs_draw (by kernel_rfl) ?_ | refine obs_same ?_ | refine obs_and ?_ | refine obs_by (by (simp [inB] <;> omega)) ?_)) ?_
      refine runS_ret (I := inf) 0 rfl (Nat.le_refl _) rfl .nil rfl ⟨?_, rfl⟩
      rfl
    · refine callS_body (n := 20) rfl rfl fun w ρ X => ?_
      refine runS_x (I := inf) (J := jnf) ⟨false, false, [], 0, 0⟩ 9999 rfl (by repeat (first | exact obs_nil | refine obs_draw (by kernel_rfl) ?_ | refine obs_same ?_ | refine obs_and ?_ | refine obs_by (by (simp [inB] <;> omega)) ?_)) ?_
      refine runS_call rfl rfl rfl rfl rfl rfl rfl digit_rules ?_
      refine runS_x (I := inf) (J := jnf) ⟨false, false, [], 0, 0⟩ 9999 rfl (by repeat (first | exact obs_nil | refine obs_draw (by kernel_rfl) ?_ | refine obs_same ?_ | refine obs_and ?_ | refine obs_by (by (simp [inB] <;> omega)) ?_)) ?_
      refine runS_draw 15 (by kernel_rfl) (lexj_x (I := inf) (J := jnf) 99 rfl rfl (by repeat (first | exact obs_nil | refine obs_same ?_ | refine obs_and ?_ | refine obs_by (by (simp [inB] <;> omega)) ?_)) (lexj_call rfl rfl rfl rfl rfl rfl rfl rfl (digit_within _ _ _) (lexj_x (I := inf) (J := jnf) 99 rfl rfl (by repeat (first | exact obs_nil | refine obs_same ?_ | refine obs_and ?_ | refine obs_by (by (simp [inB] <;> omega)) ?_)) (lexj_callU rfl rfl (by first | exact .v rfl rfl rfl rfl | exact .o rfl rfl rfl rfl) rfl rfl (by repeat (first | exact .nil | refine .cons (.n rfl) ?_ | refine .cons .o ?_ | refine .cons gok_and ?_)) rfl rfl rfl rfl rfl (fun hcond => (rules_1 31 31 _)) (lexj_x (I := inf) (J := jnf) 99 rfl rfl (by repeat (first | exact obs_nil | refine obs_same ?_ | refine obs_and ?_ | refine obs_by (by (simp [inB] <;> omega)) ?_)) lexj_nil))))) ?_
      refine runS_x (I := inf) (J := jnf) ⟨false, false, [], 0, 0⟩ 9999 rfl (by repeat (first | exact obs_nil | refine obs_draw (by kernel_rfl) ?_ | refine obs_same ?_ | refine obs_and ?_ | refine obs_by (by (simp [inB] <;> omega)) ?_)) ?_
      refine runS_ret (I := inf) 0 rfl (Nat.le_refl _) rfl .nil rfl ⟨?_, rfl⟩
      rfl
    · refine callS_body (n := 20) rfl rfl fun w ρ X => ?_
      refine runS_x (I := inf) (J := jnf) ⟨false, false, [], 0, 0⟩ 9999 rfl (by repeat (first | exact obs_nil | refine obs_draw (by kernel_rfl) ?_ | refine obs_same ?_ | refine obs_and ?_ | refine obs_by (by (simp [inB] <;> omega)) ?_)) ?_
      refine runS_call rfl rfl rfl rfl rfl rfl rfl digit_rules ?_
      refine runS_x (I := inf) (J := jnf) ⟨false, false, [], 0, 0⟩ 9999 rfl (by repeat (first | exact obs_nil | refine obs_draw (by kernel_rfl) ?_ | refine obs_same ?_ | refine obs_and ?_ | refine obs_by (by (simp [inB] <;> omega)) ?_)) ?_
      refine runS_draw 15 (by kernel_rfl) (lexj_x (I := inf) (J := jnf) 99 rfl rfl (by repeat (first | exact obs_nil | refine obs_same ?_ | refine obs_and ?_ | refine obs_by (by (simp [inB] <;> omega)) ?_)) (lexj_call rfl rfl rfl rfl rfl rfl rfl rfl (digit_within _ _ _) (lexj_x (I := inf) (J := jnf) 99 rfl rfl (by repeat (first | exact obs_nil | refine obs_same ?_ | refine obs_and ?_ | refine obs_by (by (simp [inB] <;> omega)) ?_)) (lexj_callU rfl rfl (by first | exact .v rfl rfl rfl rfl | exact .o rfl rfl rfl rfl) rfl rfl (by repeat (first | exact .nil | refine .cons (.n rfl) ?_ | refine .cons .o ?_ | refine .cons gok_and ?_)) rfl rfl rfl rfl rfl (fun hcond => (rules_1 15 31 _)) (lexj_x (I := inf) (J := jnf) 99 rfl rfl (by repeat (first | exact obs_nil | refine obs_same ?_ | refine obs_and ?_ | refine obs_by (by (simp [inB] <;> omega)) ?_)) lexj_nil))))) ?_
      refine runS_x (I := inf) (J := jnf) ⟨false, false, [], 0, 0⟩ 9999 rfl (by repeat (first | exact obs_nil | refine obs_draw (by kernel_rfl) ?_ | refine obs_same ?_ | refine obs_and ?_ | refine obs_by (by (simp [inB] <;> omega)) ?_)) ?_
      refine runS_ret (I := inf) 0 rfl (Nat.le_refl _) rfl .nil rfl ⟨?_, rfl⟩
      rfl
    · refine callS_body (n := 20) rfl rfl fun w ρ X => ?_
      refine runS_x (I := inf) (J := jnf) ⟨false, false, [], 0, 0⟩ 9999 rfl (by repeat (first | exact obs_nil | refine obs_draw (by kernel_rfl) ?_ | refine obs_same ?_ | refine obs_and ?_ | refine obs_by (by (simp [inB] <;> omega)) ?_)) ?_
      refine runS_call rfl rfl rfl rfl rfl rfl rfl digit_rules ?_
      refine runS_x (I := inf) (J := jnf) ⟨false, false, [], 0, 0⟩ 9999 rfl (by repeat (first | exact obs_nil | refine obs_draw (by kernel_rfl) ?_ | refine obs_same ?_ | refine obs_and ?_ | refine obs_by (by (simp [inB] <;> omega)) ?_)) ?_
      refine runS_draw 15 (by kernel_rfl) (lexj_x (I := inf) (J := jnf) 99 rfl rfl (by repeat (first | exact obs_nil | refine obs_same ?_ | refine obs_and ?_ | refine obs_by (by (simp [inB] <;> omega)) ?_)) (lexj_call rfl rfl rfl rfl rfl rfl rfl rfl (digit_within _ _ _) (lexj_x (I := inf) (J := jnf) 99 rfl rfl (by repeat (first | exact obs_nil | refine obs_same ?_ | refine obs_and ?_ | refine obs_by (by (simp [inB] <;> omega)) ?_)) (lexj_callU rfl rfl (by first | exact .v rfl rfl rfl rfl | exact .o rfl rfl rfl rfl) rfl rfl (by repeat (first | exact .nil | refine .cons (.n rfl) ?_ | refine .cons .o ?_ | refine .cons gok_and ?_)) rfl rfl rfl rfl rfl (fun hcond => (rules_1 15 0 _)) (lexj_x (I := inf) (J := jnf) 99 rfl rfl (by repeat (first | exact obs_nil | refine obs_same ?_ | refine obs_and ?_ | refine obs_by (by (simp [inB] <;> omega)) ?_)) lexj_nil))))) ?_
      refine runS_x (I := inf) (J := jnf) ⟨false, false, [], 0, 0⟩ 9999 rfl (by repeat (first | exact obs_nil | refine obs_draw (by kernel_rfl) ?_ | refine obs_same ?_ | refine obs_and ?_ | refine obs_by (by (simp [inB] <;> omega)) ?_)) ?_
      refine runS_ret (I := inf) 0 rfl (Nat.le_refl _) rfl .nil rfl ⟨?_, rfl⟩
      refine congrArg (fun b => Out.ret (bv b)) ?_
      show (if true = true then _ else false) = _
      rw [if_pos rfl]
      simp only [validT, inR]
      rw [Bool.eq_iff_iff]
      simp
      omega
    · refine callS_body (n := 20) rfl rfl fun w ρ X => ?_
      refine runS_x (I := inf) (J := jnf) ⟨false, false, [], 0, 0⟩ 9999 rfl (by repeat (first | exact obs_nil | refine obs_draw (by kernel_rfl) ?_ | refine obs_same ?_ | refine obs_and ?_ | refine obs_by (by (simp [inB] <;> omega)) ?_)) ?_
      refine runS_call rfl rfl rfl rfl rfl rfl rfl digit_rules ?_
      refine runS_x (I := inf) (J := jnf) ⟨false, false, [], 0, 0⟩ 9999 rfl (by repeat (first | exact obs_nil | refine obs_draw (by kernel_rfl) ?_ | refine obs_same ?_ | refine obs_and ?_ | refine obs_by (by (simp [inB] <;> omega)) ?_)) ?_
      refine runS_draw 15 (by kernel_rfl) (lexj_x (I := inf) (J := jnf) 99 rfl rfl (by repeat (first | exact obs_nil | refine obs_same ?_ | refine obs_and ?_ | refine obs_by (by (simp [inB] <;> omega)) ?_)) (lexj_call rfl rfl rfl rfl rfl rfl rfl rfl (digit_within _ _ _) (lexj_x (I := inf) (J := jnf) 99 rfl rfl (by repeat (first | exact obs_nil | refine obs_same ?_ | refine obs_and ?_ | refine obs_by (by (simp [inB] <;> omega)) ?_)) (lexj_callU rfl rfl (by first | exact .v rfl rfl rfl rfl | exact .o rfl rfl rfl rfl) rfl rfl (by repeat (first | exact .nil | refine .cons (.n rfl) ?_ | refine .cons .o ?_ | refine .cons gok_and ?_)) rfl rfl rfl rfl rfl (fun hcond => (rules_2 _)) (lexj_x (I := inf) (J := jnf) 99 rfl rfl (by repeat (first | exact obs_nil | refine obs_same ?_ | refine obs_and ?_ | refine obs_by (by (simp [inB] <;> omega)) ?_)) lexj_nil))))) ?_
      refine runS_x (I := inf) (J := jnf) ⟨false, false, [], 0, 0⟩ 9999 rfl (by repeat (first | exact obs_nil | refine obs_draw (by kernel_rfl) ?_ | refine obs_same ?_ | refine obs_and ?_ | refine obs_by (by (simp [inB] <;> omega)) ?_)) ?_
      refine runS_ret (I := inf) 0 rfl (Nat.le_refl _) rfl .nil rfl ⟨?_, rfl⟩
      rfl
    · refine callS_body (n := 20) rfl rfl fun w ρ X => ?_
      refine runS_x (I := inf) (J := jnf) ⟨false, false, [], 0, 0⟩ 9999 rfl (by repeat (first | exact obs_nil | refine obs_draw (by kernel_rfl) ?_ | refine obs_same ?_ | refine obs_and ?_ | refine obs_by (by (simp [inB] <;> omega)) ?_)) ?_
      refine runS_call rfl rfl rfl rfl rfl rfl rfl digit_rules ?_
      refine runS_x (I := inf) (J := jnf) ⟨false, false, [], 0, 0⟩ 9999 rfl (by repeat (first | exact obs_nil | refine obs_draw (by kernel_rfl) ?_ | refine obs_same ?_ | refine obs_and ?_ | refine obs_by (by (simp [inB] <;> omega)) ?_)) ?_
      refine runS_draw 15 (by kernel_rfl) (lexj_x (I := inf) (J := jnf) 99 rfl rfl (by repeat (first | exact obs_nil | refine obs_same ?_ | refine obs_and ?_ | refine obs_by (by (simp [inB] <;> omega)) ?_)) (lexj_call rfl rfl rfl rfl rfl rfl rfl rfl (digit_within _ _ _) (lexj_x (I := inf) (J := jnf) 99 rfl rfl (by repeat (first | exact obs_nil | refine obs_same ?_ | refine obs_and ?_ | refine obs_by (by (simp [inB] <;> omega)) ?_)) (lexj_callU rfl rfl (by first | exact .v rfl rfl rfl rfl | exact .o rfl rfl rfl rfl) rfl rfl (by repeat (first | exact .nil | refine .cons (.n rfl) ?_ | refine .cons .o ?_ | refine .cons gok_and ?_)) rfl rfl rfl rfl rfl (fun hcond => (rules_2 _)) (lexj_x (I := inf) (J := jnf) 99 rfl rfl (by repeat (first | exact obs_nil | refine obs_same ?_ | refine obs_and ?_ | refine obs_by (by (simp [inB] <;> omega)) ?_)) lexj_nil))))) ?_
      refine runS_x (I := inf) (J := jnf) ⟨false, false, [], 0, 0⟩ 9999 rfl (by repeat (first | exact obs_nil | refine obs_draw (by kernel_rfl) ?_ | refine obs_same ?_ | refine obs_and ?_ | refine obs_by (by (simp [inB] <;> omega)) ?_)) ?_
      refine runS_ret (I := inf) 0 rfl (Nat.le_refl _) rfl .nil rfl ⟨?_, rfl⟩
      rfl
    · refine callS_body (n := 20) rfl rfl fun w ρ X => ?_
      refine runS_x (I := inf) (J := jnf) ⟨false, false, [], 0, 0⟩ 9999 rfl (by repeat (first | exact obs_nil | refine obs_draw (by kernel_rfl) ?_ | refine obs_same ?_ | refine obs_and ?_ | refine obs_by (by (simp [inB] <;> omega)) ?_)) ?_
      refine runS_call rfl rfl rfl rfl rfl rfl rfl digit_rules ?_
      refine runS_x (I := inf) (J := jnf) ⟨false, false, [], 0, 0⟩ 9999 rfl (by repeat (first | exact obs_nil | refine obs_draw (by kernel_rfl) ?_ | refine obs_same ?_ | refine obs_and ?_ | refine obs_by (by (simp [inB] <;> omega)) ?_)) ?_
      refine runS_draw 15 (by kernel_rfl) (lexj_x (I := inf) (J := jnf) 99 rfl rfl (by repeat (first | exact obs_nil | refine obs_same ?_ | refine obs_and ?_ | refine obs_by (by (simp [inB] <;> omega)) ?_)) (lexj_call rfl rfl rfl rfl rfl rfl rfl rfl (digit_within _ _ _) (lexj_x (I := inf) (J := jnf) 99 rfl rfl (by repeat (first | exact obs_nil | refine obs_same ?_ | refine obs_and ?_ | refine obs_by (by (simp [inB] <;> omega)) ?_)) (lexj_callU rfl rfl (by first | exact .v rfl rfl rfl rfl | exact .o rfl rfl rfl rfl) rfl rfl (by repeat (first | exact .nil | refine .cons (.n rfl) ?_ | refine .cons .o ?_ | refine .cons gok_and ?_)) rfl rfl rfl rfl rfl (fun hcond => (rules_4 _ hb)) (lexj_x (I := inf) (J := jnf) 99 rfl rfl (by repeat (first | exact obs_nil | refine obs_same ?_ | refine obs_and ?_ | refine obs_by (by (simp [inB] <;> omega)) ?_)) lexj_nil))))) ?_
      refine runS_x (I := inf) (J := jnf) ⟨false, false, [], 0, 0⟩ 9999 rfl (by repeat (first | exact obs_nil | refine obs_draw (by kernel_rfl) ?_ | refine obs_same ?_ | refine obs_and ?_ | refine obs_by (by (simp [inB] <;> omega)) ?_)) ?_
      refine runS_ret (I := inf) 0 rfl (Nat.le_refl _) rfl .nil rfl ⟨?_, rfl⟩
      rfl
    · refine callS_body (n := 20) rfl rfl fun w ρ X => ?_
      refine runS_x (I := inf) (J := jnf) ⟨false, false, [], 0, 0⟩ 9999 rfl (by repeat (first | exact obs_nil | refine obs_draw (by kernel_rfl) ?_ | refine obs_same ?_ | refine obs_and ?_ | refine obs_by (by (simp [inB] <;> omega)) ?_)) ?_
      refine runS_call rfl rfl rfl rfl rfl rfl rfl digit_rules ?_
      refine runS_x (I := inf) (J := jnf) ⟨false, false, [], 0, 0⟩ 9999 rfl (by repeat (first | exact obs_nil | refine obs_draw (by kernel_rfl) ?_ | refine obs_same ?_ | refine obs_and ?_ | refine obs_by (by (simp [inB] <;> omega)) ?_)) ?_
      refine runS_draw 15 (by kernel_rfl) (lexj_x (I := inf) (J := jnf) 99 rfl rfl (by repeat (first | exact obs_nil | refine obs_same ?_ | refine obs_and ?_ | refine obs_by (by (simp [inB] <;> omega)) ?_)) (lexj_call rfl rfl rfl rfl rfl rfl rfl rfl (digit_within _ _ _) (lexj_x (I := inf) (J := jnf) 99 rfl rfl (by repeat (first | exact obs_nil | refine obs_same ?_ | refine obs_and ?_ | refine obs_by (by (simp [inB] <;> omega)) ?_)) (lexj_callU rfl rfl (by first | exact .v rfl rfl rfl rfl | exact .o rfl rfl rfl rfl) rfl rfl (by repeat (first | exact .nil | refine .cons (.n rfl) ?_ | refine .cons .o ?_ | refine .cons gok_and ?_)) rfl rfl rfl rfl rfl (fun hcond => (rules_3 _)) (lexj_x (I := inf) (J := jnf) 99 rfl rfl (by repeat (first | exact obs_nil | refine obs_same ?_ | refine obs_and ?_ | refine obs_by (by (simp [inB] <;> omega)) ?_)) lexj_nil))))) ?_
      refine runS_x (I := inf) (J := jnf) ⟨false, false, [], 0, 0⟩ 9999 rfl (by repeat (first | exact obs_nil | refine obs_draw (by kernel_rfl) ?_ | refine obs_same ?_ | refine obs_and ?_ | refine obs_by (by (simp [inB] <;> omega)) ?_)) ?_
      refine runS_ret (I := inf) 0 rfl (Nat.le_refl _) rfl .nil rfl ⟨?_, rfl⟩
      rfl
    · refine callS_body (n := 20) rfl rfl fun w ρ X => ?_
      refine runS_x (I := inf) (J := jnf) ⟨false, false, [], 0, 0⟩ 9999 rfl (by repeat (first | exact obs_nil | refine obs_draw (by kernel_rfl) ?_ | refine obs_same ?_ | refine obs_and ?_ | refine obs_by (by (simp [inB] <;> omega)) ?_)) ?_
      refine runS_call rfl rfl rfl rfl rfl rfl rfl digit_rules ?_
      refine runS_x (I := inf) (J := jnf) ⟨false, false, [], 0, 0⟩ 9999 rfl (by repeat (first | exact obs_nil | refine obs_draw (by kernel_rfl) ?_ | refine obs_same ?_ | refine obs_and ?_ | refine obs_by (by (simp [inB] <;> omega)) ?_)) ?_
      refine runS_draw 15 (by kernel_rfl) (lexj_x (I := inf) (J := jnf) 99 rfl rfl (by repeat (first | exact obs_nil | refine obs_same ?_ | refine obs_and ?_ | refine obs_by (by (simp [inB] <;> omega)) ?_)) (lexj_call rfl rfl rfl rfl rfl rfl rfl rfl (digit_within _ _ _) (lexj_x (I := inf) (J := jnf) 99 rfl rfl (by repeat (first | exact obs_nil | refine obs_same ?_ | refine obs_and ?_ | refine obs_by (by (simp [inB] <;> omega)) ?_)) (lexj_callU rfl rfl (by first | exact .v rfl rfl rfl rfl | exact .o rfl rfl rfl rfl) rfl rfl (by repeat (first | exact .nil | refine .cons (.n rfl) ?_ | refine .cons .o ?_ | refine .cons gok_and ?_)) rfl rfl rfl rfl rfl (fun hcond => (rules_3 _)) (lexj_x (I := inf) (J := jnf) 99 rfl rfl (by repeat (first | exact obs_nil | refine obs_same ?_ | refine obs_and ?_ | refine obs_by (by (simp [inB] <;> omega)) ?_)) lexj_nil))))) ?_
      refine runS_x (I := inf) (J := jnf) ⟨false, false, [], 0, 0⟩ 9999 rfl (by repeat (first | exact obs_nil | refine obs_draw (by kernel_rfl) ?_ | refine obs_same ?_ | refine obs_and ?_ | refine obs_by (by (simp [inB] <;> omega)) ?_)) ?_
      refine runS_ret (I := inf) 0 rfl (Nat.le_refl _) rfl .nil rfl ⟨?_, rfl⟩
      rfl
    · refine callS_body (n := 20) rfl rfl fun w ρ X => ?_
      refine runS_x (I := inf) (J := jnf) ⟨false, false, [], 0, 0⟩ 9999 rfl (by repeat (first | exact obs_nil | refine obs_draw (by kernel_rfl) ?_ | refine obs_same ?_ | refine obs_and ?_ | refine obs_by (by (simp [inB] <;> omega)) ?_)) ?_
      refine runS_call rfl rfl rfl rfl rfl rfl rfl digit_rules ?_
      refine runS_x (I := inf) (J := jnf) ⟨false, false, [], 0, 0⟩ 9999 rfl (by repeat (first | exact obs_nil | refine obs_draw (by kernel_rfl) ?_ | refine obs_same ?_ | refine obs_and ?_ | refine obs_by (by (simp [inB] <;> omega)) ?_)) ?_
      refine runS_draw 15 (by kernel_rfl) (lexj_x (I := inf) (J := jnf) 99 rfl rfl (by repeat (first | exact obs_nil | refine obs_same ?_ | refine obs_and ?_ | refine obs_by (by (simp [inB] <;> omega)) ?_)) (lexj_call rfl rfl rfl rfl rfl rfl rfl rfl (digit_within _ _ _) (lexj_x (I := inf) (J := jnf) 99 rfl rfl (by repeat (first | exact obs_nil | refine obs_same ?_ | refine obs_and ?_ | refine obs_by (by (simp [inB] <;> omega)) ?_)) (lexj_callU rfl rfl (by first | exact .v rfl rfl rfl rfl | exact .o rfl rfl rfl rfl) rfl rfl (by repeat (first | exact .nil | refine .cons (.n rfl) ?_ | refine .cons .o ?_ | refine .cons gok_and ?_)) rfl rfl rfl rfl rfl (fun hcond => (rules_3 _)) (lexj_x (I := inf) (J := jnf) 99 rfl rfl (by repeat (first | exact obs_nil | refine obs_same ?_ | refine obs_and ?_ | refine obs_by (by (simp [inB] <;> omega)) ?_)) lexj_nil))))) ?_
      refine runS_x (I := inf) (J := jnf) ⟨false, false, [], 0, 0⟩ 9999 rfl (by repeat (first | exact obs_nil | refine obs_draw (by kernel_rfl) ?_ | refine obs_same ?_ | refine obs_and ?_ | refine obs_by (by (simp [inB] <;> omega)) ?_)) ?_
      refine runS_ret (I := inf) 0 rfl (Nat.le_refl _) rfl .nil rfl ⟨?_, rfl⟩
      rfl
  · have h0 : validT t = false := by
      cases hv : validT t with
      | false => rfl
      | true => have := valid_kind hv; omega
    rw [h0]
    obtain ⟨k, p, q, n, v, pic⟩ := t
    dsimp only at hb hk
    have hf : (decide (0 ≤ k) && decide (k ≤ 9)) = false := by
      cases hh : (decide (0 ≤ k) && decide (k ≤ 9)) with
      | false => rfl
      | true => simp at hh; omega
    have habs : ∀ {g : FuncId} {xs : List AV}, condOf none (decide (0 ≤ k) && decide (k ≤ 9)) true = true → CallT Try.prog g xs [] (fun o A => o = .ret (bv false) ∧ A = []) := fun h => by rw [hf] at h; cases h
    rcases Int.lt_or_le k 0 with h | h
    · obtain ⟨m, rfl⟩ : ∃ m, k = Int.negSucc m := ⟨(-k - 1).toNat, by omega⟩
      refine callS_body (n := 20) rfl rfl fun w ρ X => ?_
      refine runS_x (I := inf) (J := jnf) ⟨false, false, [], 0, 0⟩ 9999 rfl (by repeat (first | exact obs_nil | refine obs_draw (by kernel_rfl) ?_ | refine obs_same ?_ | refine obs_and ?_ | refine obs_by (by (simp [inB] <;> omega)) ?_)) ?_
      refine runS_call rfl rfl rfl rfl rfl rfl rfl digit_rules ?_
      refine runS_x (I := inf) (J := jnf) ⟨false, false, [], 0, 0⟩ 9999 rfl (by repeat (first | exact obs_nil | refine obs_draw (by kernel_rfl) ?_ | refine obs_same ?_ | refine obs_and ?_ | refine obs_by (by (simp [inB] <;> omega)) ?_)) ?_
      refine runS_draw 15 (by kernel_rfl) (lexj_x (I := inf) (J := jnf) 99 rfl rfl (by repeat (first | exact obs_nil | refine obs_same ?_ | refine obs_and ?_ | refine obs_by (by (simp [inB] <;> omega)) ?_)) (lexj_call rfl rfl rfl rfl rfl rfl rfl rfl (digit_within _ _ _) (lexj_x (I := inf) (J := jnf) 99 rfl rfl (by repeat (first | exact obs_nil | refine obs_same ?_ | refine obs_and ?_ | refine obs_by (by (simp [inB] <;> omega)) ?_)) (lexj_callU rfl rfl (by first | exact .v rfl rfl rfl rfl | exact .o rfl rfl rfl rfl) rfl rfl (by repeat (first | exact .nil | refine .cons (.n rfl) ?_ | refine .cons .o ?_ | refine .cons gok_and ?_)) rfl rfl rfl rfl rfl (fun hcond => (habs hcond)) (lexj_x (I := inf) (J := jnf) 99 rfl rfl (by repeat (first | exact obs_nil | refine obs_same ?_ | refine obs_and ?_ | refine obs_by (by (simp [inB] <;> omega)) ?_)) lexj_nil))))) ?_
      refine runS_x (I := inf) (J := jnf) ⟨false, false, [], 0, 0⟩ 9999 rfl (by repeat (first | exact obs_nil | refine obs_draw (by kernel_rfl) ?_ | refine obs_same ?_ | refine obs_and ?_ | refine obs_by (by (simp [inB] <;> omega)) ?_)) ?_
      refine runS_ret (I := inf) 0 rfl (Nat.le_refl _) rfl .nil rfl ⟨?_, rfl⟩
      show Out.ret (bv (if _ = true then false else false)) = _
      split <;> rfl
    · obtain ⟨m, rfl⟩ : ∃ m : Nat, k = ((m + 10 : Nat) : Int) := ⟨(k - 10).toNat, by omega⟩
      refine callS_body (n := 20) rfl rfl fun w ρ X => ?_
      refine runS_x (I := inf) (J := jnf) ⟨false, false, [], 0, 0⟩ 9999 rfl (by repeat (first | exact obs_nil | refine obs_draw (by kernel_rfl) ?_ | refine obs_same ?_ | refine obs_and ?_ | refine obs_by (by (simp [inB] <;> omega)) ?_)) ?_
      refine runS_call rfl rfl rfl rfl rfl rfl rfl digit_rules ?_
      refine runS_x (I := inf) (J := jnf) ⟨false, false, [], 0, 0⟩ 9999 rfl (by repeat (first | exact obs_nil | refine obs_draw (by kernel_rfl) ?_ | refine obs_same ?_ | refine obs_and ?_ | refine obs_by (by (simp [inB] <;> omega)) ?_)) ?_
      refine runS_draw 15 (by kernel_rfl) (lexj_x (I := inf) (J := jnf) 99 rfl rfl (by repeat (first | exact obs_nil | refine obs_same ?_ | refine obs_and ?_ | refine obs_by (by (simp [inB] <;> omega)) ?_)) (lexj_call rfl rfl rfl rfl rfl rfl rfl rfl (digit_within _ _ _) (lexj_x (I := inf) (J := jnf) 99 rfl rfl (by repeat (first | exact obs_nil | refine obs_same ?_ | refine obs_and ?_ | refine obs_by (by (simp [inB] <;> omega)) ?_)) (lexj_callU rfl rfl (by first | exact .v rfl rfl rfl rfl | exact .o rfl rfl rfl rfl) rfl rfl (by repeat (first | exact .nil | refine .cons (.n rfl) ?_ | refine .cons .o ?_ | refine .cons gok_and ?_)) rfl rfl rfl rfl rfl (fun hcond => (habs hcond)) (lexj_x (I := inf) (J := jnf) 99 rfl rfl (by repeat (first | exact obs_nil | refine obs_same ?_ | refine obs_and ?_ | refine obs_by (by (simp [inB] <;> omega)) ?_)) lexj_nil))))) ?_
      refine runS_x (I := inf) (J := jnf) ⟨false, false, [], 0, 0⟩ 9999 rfl (by repeat (first | exact obs_nil | refine obs_draw (by kernel_rfl) ?_ | refine obs_same ?_ | refine obs_and ?_ | refine obs_by (by (simp [inB] <;> omega)) ?_)) ?_
      refine runS_ret (I := inf) 0 rfl (Nat.le_refl _) rfl .nil rfl ⟨?_, rfl⟩
      show Out.ret (bv (if _ = true then false else false)) = _
      split <;> rfl
end Go.Iron.Try

/- The level package's functions (seat Ytamhonbhoelohaa): the reference's Valid. -/
namespace Go.Iron.Try
open Go.Proofs

def baseOK (l : List Fld) (i : Nat) : Bool := inR (fat l i).level 1 255 && !(decide (0 < i) && decide ((fat l i).level < 2)) && nameB (fat l i).name && inR (fat l i).count 0 200
def kindOK (l : List Fld) (i : Nat) : Bool := if innerB l i then decide ((fat l i).typ = typ0) else validT (fat l i).typ && !(fat l i).union
def refOK (l : List Fld) (i : Nat) : Bool := decide (-1 ≤ (fat l i).refer) && decide ((fat l i).refer < i) &&
  (decide ((fat l i).refer < 0) || (!innerB l (fat l i).refer.toNat && ((fat l (fat l i).refer.toNat).typ.kind == 1 || (fat l (fat l i).refer.toNat).typ.kind == 2) && arrs l (fat l i).refer.toNat == 0 && decide (1 ≤ (fat l i).count)))
def sibC (l : List Fld) (i k : Nat) : Bool := !((par l i).isSome && par l k == par l i && ((fat l k).name == (fat l i).name || !((fat l k).level == (fat l i).level)))
def sibPre (l : List Fld) (i k : Nat) : Bool := (List.range k).all (sibC l i)
def okA (l : List Fld) (i : Nat) : Bool := baseOK l i && kindOK l i && refOK l i && decide (arrs l i ≤ 3) && sibPre l i i
def okPre (l : List Fld) (k : Nat) : Bool := (List.range k).all (okA l)
def validF (l : List Fld) : Bool := decide (1 ≤ l.length) && decide (l.length ≤ 200) && (fat l 0).level == 1 && okPre l l.length
theorem allPre_false {g : Nat → Bool} {i m : Nat} (h : i < m) (e : g i = false) : (List.range m).all g = false := by
  rw [List.all_eq_false]
  exact ⟨i, List.mem_range.2 h, by simp [e]⟩
theorem allPre_succ {g : Nat → Bool} {m : Nat} : (List.range (m + 1)).all g = ((List.range m).all g && g m) := by simp [List.range_succ]
theorem validF_false {l : List Fld} {i : Nat} (h : i < l.length) (e : okA l i = false) : validF l = false := by
  rw [validF, okPre, allPre_false h e, Bool.and_false]

/-- Sizes of all texts. -/
def smallF (l : List Fld) : Prop := l.length < 1000000000 ∧ ∀ i, i < l.length → (fat l i).name.length < 9223372036854775807 ∧ (fat l i).typ.pic.length < 9223372036854775807

theorem typ0B (t : Typ) : (t.kind == 0 && (t.p == 0 && (t.q == 0 && (t.n == 0 && (t.vary == false && ((bs t.pic).toList == ({ data := #[] } : ByteArray).toList && true)))))) = decide (t = typ0) := by
  rw [emptyB]
  obtain ⟨k, p, q, n, v, pic⟩ := t
  rw [Bool.eq_iff_iff]
  simp [typ0]
theorem ref_innerI (nl : Option Bool) (l : List Fld) (x : Int) (h0 : 0 ≤ x) (h1 : x < l.length) (hb : l.length < 9223372036854775807) : CallT Try.prog 124 [fldS nl l, iv x] [] (fun o A => o = .ret (bv (innerB l x.toNat)) ∧ A = []) := by
  obtain ⟨k, rfl⟩ : ∃ k : Nat, x = k := ⟨x.toNat, by omega⟩
  exact ref_inner nl l k (by omega) hb
theorem ref_arraysI (nl : Option Bool) (l : List Fld) (x : Int) (h0 : 0 ≤ x) (h1 : x < l.length) (hb : l.length < 9223372036854775807) : CallT Try.prog 130 [fldS nl l, iv x] [] (fun o A => o = .ret (iv (arrs l x.toNat)) ∧ A = []) := by
  obtain ⟨k, rfl⟩ : ∃ k : Nat, x = k := ⟨x.toNat, by omega⟩
  exact ref_arrays nl l k (by omega) hb
theorem opI_ge (o : Option Nat) : decide (opI o ≥ 0) = o.isSome := by cases o <;> simp [opI]
theorem opI_eq (a b : Option Nat) : (opI a == opI b) = (a == b) := by
  cases a <;> cases b <;> (rw [Bool.eq_iff_iff]; simp [opI]) <;> omega
theorem sibB (l : List Fld) (i k : Nat) : (if (if decide (opI (par l i) ≥ 0) = true then opI (par l k) == opI (par l i) else false) = true then
      (if ((bs (fat l k).name).toList == (bs (fat l i).name).toList) = true then true else (fat l k).level != (fat l i).level) else false) = !sibC l i k := by
  rw [opI_ge, opI_eq, bs_toList, bs_toList, sibC, Bool.not_not]
  cases (par l i).isSome <;> cases (par l k == par l i) <;> cases ((fat l k).name == (fat l i).name) <;> simp [bne]
theorem refB (l : List Fld) (i : Nat) (h : 0 ≤ (fat l i).refer) (h2 : (fat l i).refer < i) : (if (if (if innerB l (fat l i).refer.toNat = true then true else (if ((fat l (fat l i).refer.toNat).typ.kind != 1) = true then (fat l (fat l i).refer.toNat).typ.kind != 2 else false)) = true then true
    else decide ((arrs l (fat l i).refer.toNat : Int) > 0)) = true then true else decide ((fat l i).count < 1)) = !refOK l i := by
  unfold refOK
  generalize (fat l i).refer = r at *
  generalize innerB l r.toNat = b
  generalize (fat l r.toNat).typ.kind = kd
  generalize arrs l r.toNat = a
  rw [Bool.eq_iff_iff]
  cases b <;> simp <;> omega
theorem ref_valid (nl : Option Bool) (l : List Fld) (hs : smallF l) : CallT Try.prog 79 [fldS nl l] [] (fun o A => o = .ret (bv (validF l)) ∧ A = []) := by
  obtain ⟨hb, hsm⟩ := hs
  refine callS_body (n := 167) rfl rfl fun w ρ X => ?_
  by_cases h0 : l.length = 0
  · have : l = [] := List.eq_nil_of_length_eq_zero h0
    subst this
    refine runS_x (I := inf) (J := jnf) ⟨true, false, [], 0, 0⟩ 9999 rfl (by repeat (first | exact obs_nil | refine obs_draw (by kernel_rfl) ?_ | refine obs_same ?_ | refine obs_and ?_ | refine obs_by (by (simp [inB] <;> omega)) ?_)) ?_
    refine runS_ret (I := inf) 0 rfl (Nat.le_refl _) rfl .nil rfl ⟨?_, rfl⟩
    rfl
  have hpos : 0 < l.length := by omega
  refine runS_x (I := inf) (J := jnf) ⟨false, false, [], 0, 0⟩ 9999 rfl (by repeat (first | exact obs_nil | refine obs_draw (by kernel_rfl) ?_ | refine obs_same ?_ | refine obs_and ?_ | refine obs_by (by (simp [inB, hpos] <;> omega)) ?_)) ?_
  refine runS_cond rfl (fun h => ?_) (fun h => ?_)
  · refine runS_x (I := inf) (J := jnf) ⟨false, false, [], 0, 0⟩ 9999 rfl (by repeat (first | exact obs_nil | refine obs_draw (by kernel_rfl) ?_ | refine obs_same ?_ | refine obs_and ?_ | refine obs_by (by (simp [inB] <;> omega)) ?_)) ?_
    refine runS_ret (I := inf) 0 rfl (Nat.le_refl _) rfl .nil rfl ⟨?_, rfl⟩
    have : validF l = false := by
      cases hv : validF l with
      | false => rfl
      | true =>
        exfalso
        simp [-List.getD_eq_getElem?_getD, -List.length_eq_zero_iff, fat, validF] at hv
        simp [-List.getD_eq_getElem?_getD, -List.length_eq_zero_iff, fat] at h
        omega
    rw [this]
    rfl
  have h1 : 1 ≤ l.length ∧ l.length ≤ 200 ∧ (fat l 0).level = 1 := by
    simp [-List.getD_eq_getElem?_getD, -List.length_eq_zero_iff, fat] at h ⊢
    omega
  refine runS_x (I := inf) (J := jnf) ⟨false, false, [], 0, 0⟩ 9999 rfl (by repeat (first | exact obs_nil | refine obs_draw (by kernel_rfl) ?_ | refine obs_same ?_ | refine obs_and ?_ | refine obs_by (by (simp [inB] <;> omega)) ?_)) ?_
  refine runS_while (fun (i : Nat) τ ar => (τ 0 = fldS nl l ∧ τ 3 = iv i) ∧ ar = [] ∧ i ≤ l.length ∧ okPre l i = true) (fun i => l.length - i) 0 ⟨⟨rfl, rfl⟩, rfl, Nat.zero_le _, rfl⟩ ?_
  rintro i τ' ar' ⟨⟨h0, h3⟩, rfl, hi, hp⟩ ih
  refine runS_says 0 (by exact h0) (Says.refl _) ?_; refine runS_says 3 (by exact h3) (Says.refl _) ?_
  refine runS_x (I := inf) (J := jnf) ⟨false, false, [], 0, 0⟩ 9999 rfl (by repeat (first | exact obs_nil | refine obs_draw (by kernel_rfl) ?_ | refine obs_same ?_ | refine obs_and ?_ | refine obs_by (by (simp [inB] <;> omega)) ?_)) ?_
  refine runS_cond rfl (fun hlt => ?_) (fun hlt => ?_)
  · have hlt' : i < l.length := by simpa using hlt
    refine runS_x (I := inf) (J := jnf) ⟨false, false, [], 0, 0⟩ 9999 rfl (by repeat (first | exact obs_nil | refine obs_draw (by kernel_rfl) ?_ | refine obs_same ?_ | refine obs_and ?_ | refine obs_by (by (simp [inB, hlt'] <;> omega)) ?_)) ?_
    refine runS_callU rfl rfl (by first | exact .v rfl rfl rfl rfl | exact .o rfl rfl rfl rfl) rfl rfl (by repeat (first | exact .nil | refine .cons (.n rfl) ?_ | refine .cons .o ?_ | refine .cons gok_and ?_)) rfl rfl rfl rfl rfl (fun _ => (ref_capital (fat l i).name (hsm i hlt').1)) ?_
    refine runS_x (I := inf) (J := jnf) ⟨false, false, [], 0, 0⟩ 9999 rfl (by repeat (first | exact obs_nil | refine obs_draw (by kernel_rfl) ?_ | refine obs_same ?_ | refine obs_and ?_ | refine obs_by (by (simp [inB] <;> omega)) ?_)) ?_
    refine runS_cond rfl (fun hbase => ?_) (fun hbase => ?_)
    · refine runS_x (I := inf) (J := jnf) ⟨false, false, [], 0, 0⟩ 9999 rfl (by repeat (first | exact obs_nil | refine obs_draw (by kernel_rfl) ?_ | refine obs_same ?_ | refine obs_and ?_ | refine obs_by (by (simp [inB] <;> omega)) ?_)) ?_
      refine runS_drop 0 (Nat.zero_le _) rfl (by repeat (first | exact .nil | refine .row (fun j hj => rfl) ?_ | refine .box rfl ?_ | refine .fam (fun k j hk hj => rfl) ?_ | refine .loop (scrub_under _ _) ?_ | refine .dfr ?_ | refine .gone ?_ | refine .map (fun p hp => by (obtain ⟨k, _, rfl⟩ := List.mem_map.1 hp; rfl)) ?_)) rfl rfl rfl (by repeat (first | exact .nil | refine .cons rfl rfl rfl (scrub_under _ _) ?_)) ?_
      refine runS_ret (I := inf) 0 rfl (Nat.le_refl _) rfl .nil rfl ⟨?_, rfl⟩
      have : baseOK l i = false := by
        unfold baseOK inR
        revert hbase
        generalize nameB (fat l i).name = nb
        intro hbase
        cases nb <;> (simp [-List.getD_eq_getElem?_getD, -List.length_eq_zero_iff, fat] at hbase ⊢ <;> omega)
      rw [validF_false hlt' (by rw [okA, this]; rfl)]
      rfl
    have hbase' : baseOK l i = true := by
      unfold baseOK inR
      revert hbase
      generalize nameB (fat l i).name = nb
      intro hbase
      cases nb <;> (simp [-List.getD_eq_getElem?_getD, -List.length_eq_zero_iff, fat] at hbase ⊢ <;> omega)
    refine runS_x (I := inf) (J := jnf) ⟨false, false, [], 0, 0⟩ 9999 rfl (by repeat (first | exact obs_nil | refine obs_draw (by kernel_rfl) ?_ | refine obs_same ?_ | refine obs_and ?_ | refine obs_by (by (simp [inB] <;> omega)) ?_)) ?_
    refine runS_call rfl rfl rfl rfl rfl rfl rfl (ref_inner nl l i hlt' (by omega)) ?_
    refine runS_x (I := inf) (J := jnf) ⟨false, false, [], 0, 0⟩ 9999 rfl (by repeat (first | exact obs_nil | refine obs_draw (by kernel_rfl) ?_ | refine obs_same ?_ | refine obs_and ?_ | refine obs_by (by (simp [inB] <;> omega)) ?_)) ?_
    refine runS_cut (fun τ ar => (τ 0 = fldS nl l ∧ τ 3 = iv i ∧ τ 4 = .ptr 0 0 0) ∧ ar = [.box 90 (fldE (fat l i))] ∧ kindOK l i = true) (fun rest => ?_) ?_
    · refine runS_cond rfl (fun hin => ?_) (fun hin => ?_)
      · refine runS_x (I := inf) (J := jnf) ⟨false, false, [], 7, 0⟩ 9999 rfl (by repeat (first | exact obs_nil | refine obs_draw (by kernel_rfl) ?_ | refine obs_same ?_ | refine obs_and ?_ | refine obs_by (by (simp [inB] <;> omega)) ?_)) ?_
        refine runS_cond rfl (fun hz => ?_) (fun hz => ?_)
        · refine runS_x (I := inf) (J := jnf) ⟨false, false, [], 7, 0⟩ 9999 rfl (by repeat (first | exact obs_nil | refine obs_draw (by kernel_rfl) ?_ | refine obs_same ?_ | refine obs_and ?_ | refine obs_by (by (simp [inB] <;> omega)) ?_)) ?_
          refine runS_ret (I := inf) 0 rfl (Nat.le_refl _) rfl .nil rfl ⟨?_, rfl⟩
          have : kindOK l i = false := by
            rw [kindOK, if_pos hin]
            have hz' : (!decide ((fat l i).typ = typ0)) = true := by rw [← typ0B]; exact hz
            simpa using hz'
          rw [validF_false hlt' (by rw [okA, this]; simp)]
          rfl
        · refine runS_x (I := inf) (J := jnf) ⟨false, false, [], 7, 0⟩ 9999 rfl (by repeat (first | exact obs_nil | refine obs_draw (by kernel_rfl) ?_ | refine obs_same ?_ | refine obs_and ?_ | refine obs_by (by (simp [inB] <;> omega)) ?_)) ?_
          refine rest _ _ ⟨⟨rfl, rfl, rfl⟩, rfl, ?_⟩
          rw [kindOK, if_pos hin]
          have hz' : (!decide ((fat l i).typ = typ0)) = false := by rw [← typ0B]; exact hz
          simpa using hz'
      · refine runS_x (I := inf) (J := jnf) ⟨false, false, [], 7, 0⟩ 9999 rfl (by repeat (first | exact obs_nil | refine obs_draw (by kernel_rfl) ?_ | refine obs_same ?_ | refine obs_and ?_ | refine obs_by (by (simp [inB] <;> omega)) ?_)) ?_
        refine runS_call rfl rfl rfl rfl rfl rfl rfl (ref01_valid (fat l i).typ (hsm i hlt').2) ?_
        refine runS_x (I := inf) (J := jnf) ⟨false, false, [], 7, 0⟩ 9999 rfl (by repeat (first | exact obs_nil | refine obs_draw (by kernel_rfl) ?_ | refine obs_same ?_ | refine obs_and ?_ | refine obs_by (by (simp [inB] <;> omega)) ?_)) ?_
        refine runS_cond rfl (fun hz => ?_) (fun hz => ?_)
        · refine runS_x (I := inf) (J := jnf) ⟨false, false, [], 7, 0⟩ 9999 rfl (by repeat (first | exact obs_nil | refine obs_draw (by kernel_rfl) ?_ | refine obs_same ?_ | refine obs_and ?_ | refine obs_by (by (simp [inB] <;> omega)) ?_)) ?_
          refine runS_ret (I := inf) 0 rfl (Nat.le_refl _) rfl .nil rfl ⟨?_, rfl⟩
          have : kindOK l i = false := by
            rw [kindOK, hin]
            revert hz
            generalize validT (fat l i).typ = nb
            intro hz
            cases nb <;> (simp [-List.getD_eq_getElem?_getD, -List.length_eq_zero_iff, fat] at hz ⊢ <;> first | exact hz | omega)
          rw [validF_false hlt' (by rw [okA, this]; simp)]
          rfl
        · refine runS_x (I := inf) (J := jnf) ⟨false, false, [], 7, 0⟩ 9999 rfl (by repeat (first | exact obs_nil | refine obs_draw (by kernel_rfl) ?_ | refine obs_same ?_ | refine obs_and ?_ | refine obs_by (by (simp [inB] <;> omega)) ?_)) ?_
          refine rest _ _ ⟨⟨rfl, rfl, rfl⟩, rfl, ?_⟩
          rw [kindOK, hin]
          revert hz
          generalize validT (fat l i).typ = nb
          intro hz
          cases nb <;> (simp [-List.getD_eq_getElem?_getD, -List.length_eq_zero_iff, fat] at hz ⊢ <;> first | exact hz | omega)
    rintro τ2 ar2 ⟨⟨g0, g3, g4⟩, rfl, hkind⟩
    refine runS_says 0 (by exact g0) (Says.refl _) ?_; refine runS_says 3 (by exact g3) (Says.refl _) ?_; refine runS_says 4 (by exact g4) (Says.refl _) ?_
    refine runS_x (I := inf) (J := jnf) ⟨false, false, [], 0, 0⟩ 9999 rfl (by repeat (first | exact obs_nil | refine obs_draw (by kernel_rfl) ?_ | refine obs_same ?_ | refine obs_and ?_ | refine obs_by (by (simp [inB] <;> omega)) ?_)) ?_
    refine runS_cond rfl (fun hr => ?_) (fun hr => ?_)
    · refine runS_x (I := inf) (J := jnf) ⟨false, false, [], 0, 0⟩ 9999 rfl (by repeat (first | exact obs_nil | refine obs_draw (by kernel_rfl) ?_ | refine obs_same ?_ | refine obs_and ?_ | refine obs_by (by (simp [inB] <;> omega)) ?_)) ?_
      refine runS_ret (I := inf) 0 rfl (Nat.le_refl _) rfl .nil rfl ⟨?_, rfl⟩
      have : refOK l i = false := by
        unfold refOK
        simp [-List.getD_eq_getElem?_getD, -List.length_eq_zero_iff, fat] at hr ⊢
        omega
      rw [validF_false hlt' (by rw [okA, this]; simp)]
      rfl
    have hr' : -1 ≤ (fat l i).refer ∧ (fat l i).refer < i := by
      simp [-List.getD_eq_getElem?_getD, -List.length_eq_zero_iff, fat] at hr ⊢
      omega
    refine runS_x (I := inf) (J := jnf) ⟨false, false, [], 0, 0⟩ 9999 rfl (by repeat (first | exact obs_nil | refine obs_draw (by kernel_rfl) ?_ | refine obs_same ?_ | refine obs_and ?_ | refine obs_by (by (simp [inB] <;> omega)) ?_)) ?_
    refine runS_cut (fun τ ar => (τ 0 = fldS nl l ∧ τ 3 = iv i ∧ τ 4 = .ptr 0 0 0) ∧ ar = [.box 90 (fldE (fat l i))] ∧ refOK l i = true) (fun rest => ?_) ?_
    · refine runS_cond rfl (fun hge => ?_) (fun hge => ?_)
      · have hge' : 0 ≤ (fat l i).refer := by simpa using hge
        have hrl : (fat l i).refer < l.length := by omega
        have hin : inB (l.getD (Int.toNat i) fld0).refer l.length = true := by
          rw [inB_iff]
          exact ⟨hge', hrl⟩
        refine runS_x (I := inf) (J := jnf) ⟨false, false, [], 7, 0⟩ 9999 rfl (by repeat (first | exact obs_nil | refine obs_draw (by kernel_rfl) ?_ | refine obs_same ?_ | refine obs_and ?_ | refine obs_by (by first | exact fun _ => hin | (simp [inB] <;> omega)) ?_)) ?_
        refine runS_call rfl rfl rfl rfl rfl rfl rfl (ref_innerI nl l _ hge' hrl (by omega)) ?_
        refine runS_x (I := inf) (J := jnf) ⟨false, false, [], 7, 0⟩ 9999 rfl (by repeat (first | exact obs_nil | refine obs_draw (by kernel_rfl) ?_ | refine obs_same ?_ | refine obs_and ?_ | refine obs_by (by (simp [inB] <;> omega)) ?_)) ?_
        refine runS_callU rfl rfl (by first | exact .v rfl rfl rfl rfl | exact .o rfl rfl rfl rfl) rfl rfl (by repeat (first | exact .nil | refine .cons (.n rfl) ?_ | refine .cons .o ?_ | refine .cons gok_and ?_)) rfl rfl rfl rfl rfl (fun _ => (ref_arraysI nl l _ hge' hrl (by omega))) ?_
        refine runS_x (I := inf) (J := jnf) ⟨false, false, [], 7, 0⟩ 9999 rfl (by repeat (first | exact obs_nil | refine obs_draw (by kernel_rfl) ?_ | refine obs_same ?_ | refine obs_and ?_ | refine obs_by (by (simp [inB] <;> omega)) ?_)) ?_
        refine runS_cond rfl (fun hz => ?_) (fun hz => ?_)
        · refine runS_x (I := inf) (J := jnf) ⟨false, false, [], 7, 0⟩ 9999 rfl (by repeat (first | exact obs_nil | refine obs_draw (by kernel_rfl) ?_ | refine obs_same ?_ | refine obs_and ?_ | refine obs_by (by (simp [inB] <;> omega)) ?_)) ?_
          refine runS_ret (I := inf) 0 rfl (Nat.le_refl _) rfl .nil rfl ⟨?_, rfl⟩
          have : refOK l i = false := by
            have := (refB l i hge' hr'.2).symm.trans hz
            simpa using this
          rw [validF_false hlt' (by rw [okA, this]; simp)]
          rfl
        · refine runS_x (I := inf) (J := jnf) ⟨false, false, [], 7, 0⟩ 9999 rfl (by repeat (first | exact obs_nil | refine obs_draw (by kernel_rfl) ?_ | refine obs_same ?_ | refine obs_and ?_ | refine obs_by (by (simp [inB] <;> omega)) ?_)) ?_
          refine runS_drop 1 (Nat.zero_le _) rfl (by repeat (first | exact .nil | refine .row (fun j hj => rfl) ?_ | refine .box rfl ?_ | refine .fam (fun k j hk hj => rfl) ?_ | refine .loop (scrub_under _ _) ?_ | refine .dfr ?_ | refine .gone ?_ | refine .map (fun p hp => by (obtain ⟨k, _, rfl⟩ := List.mem_map.1 hp; rfl)) ?_)) rfl rfl rfl (by repeat (first | exact .nil | refine .cons rfl rfl rfl (scrub_under _ _) ?_)) ?_
          refine rest _ _ ⟨⟨rfl, rfl, rfl⟩, rfl, ?_⟩
          have := (refB l i hge' hr'.2).symm.trans hz
          simpa using this
      · refine runS_x (I := inf) (J := jnf) ⟨false, false, [], 7, 0⟩ 9999 rfl (by repeat (first | exact obs_nil | refine obs_draw (by kernel_rfl) ?_ | refine obs_same ?_ | refine obs_and ?_ | refine obs_by (by (simp [inB] <;> omega)) ?_)) ?_
        refine rest _ _ ⟨⟨rfl, rfl, rfl⟩, rfl, ?_⟩
        unfold refOK
        simp [-List.getD_eq_getElem?_getD, -List.length_eq_zero_iff, fat] at hge hr' ⊢
        omega
    rintro τ3 ar3 ⟨⟨g0, g3, g4⟩, rfl, hrefer⟩
    refine runS_says 0 (by exact g0) (Says.refl _) ?_; refine runS_says 3 (by exact g3) (Says.refl _) ?_; refine runS_says 4 (by exact g4) (Says.refl _) ?_
    refine runS_x (I := inf) (J := jnf) ⟨false, false, [], 0, 0⟩ 9999 rfl (by repeat (first | exact obs_nil | refine obs_draw (by kernel_rfl) ?_ | refine obs_same ?_ | refine obs_and ?_ | refine obs_by (by (simp [inB] <;> omega)) ?_)) ?_
    refine runS_call rfl rfl rfl rfl rfl rfl rfl (ref_arrays nl l i hlt' (by omega)) ?_
    refine runS_x (I := inf) (J := jnf) ⟨false, false, [], 0, 0⟩ 9999 rfl (by repeat (first | exact obs_nil | refine obs_draw (by kernel_rfl) ?_ | refine obs_same ?_ | refine obs_and ?_ | refine obs_by (by (simp [inB] <;> omega)) ?_)) ?_
    refine runS_cond rfl (fun ha => ?_) (fun ha => ?_)
    · refine runS_x (I := inf) (J := jnf) ⟨false, false, [], 0, 0⟩ 9999 rfl (by repeat (first | exact obs_nil | refine obs_draw (by kernel_rfl) ?_ | refine obs_same ?_ | refine obs_and ?_ | refine obs_by (by (simp [inB] <;> omega)) ?_)) ?_
      refine runS_ret (I := inf) 0 rfl (Nat.le_refl _) rfl .nil rfl ⟨?_, rfl⟩
      have : ¬ arrs l i ≤ 3 := by
        simp [-List.getD_eq_getElem?_getD, -List.length_eq_zero_iff, fat] at ha
        omega
      rw [validF_false hlt' (by rw [okA, decide_eq_false this]; simp)]
      rfl
    have ha' : arrs l i ≤ 3 := by
      simp [-List.getD_eq_getElem?_getD, -List.length_eq_zero_iff, fat] at ha
      omega
    refine runS_x (I := inf) (J := jnf) ⟨false, false, [], 0, 0⟩ 9999 rfl (by repeat (first | exact obs_nil | refine obs_draw (by kernel_rfl) ?_ | refine obs_same ?_ | refine obs_and ?_ | refine obs_by (by (simp [inB] <;> omega)) ?_)) ?_
    refine runS_call rfl rfl rfl rfl rfl rfl rfl (ref_parent nl l i hlt' (by omega)) ?_
    refine runS_x (I := inf) (J := jnf) ⟨false, false, [], 0, 0⟩ 9999 rfl (by repeat (first | exact obs_nil | refine obs_draw (by kernel_rfl) ?_ | refine obs_same ?_ | refine obs_and ?_ | refine obs_by (by (simp [inB] <;> omega)) ?_)) ?_
    refine runS_while (fun (k : Nat) τ ar => (τ 0 = fldS nl l ∧ τ 3 = iv i ∧ τ 4 = .ptr 0 0 0 ∧ τ 6 = iv (opI (par l i)) ∧ τ 7 = iv k) ∧ ar = [.box 90 (fldE (fat l i))] ∧ k ≤ i ∧ sibPre l i k = true) (fun k => i - k) 0 ⟨⟨rfl, rfl, rfl, rfl, rfl⟩, rfl, Nat.zero_le _, rfl⟩ ?_
    rintro k τ4 ar4 ⟨⟨g0, g3, g4, g6, g7⟩, rfl, hk, hsib⟩ ih2
    refine runS_says 0 (by exact g0) (Says.refl _) ?_; refine runS_says 3 (by exact g3) (Says.refl _) ?_; refine runS_says 4 (by exact g4) (Says.refl _) ?_; refine runS_says 6 (by exact g6) (Says.refl _) ?_; refine runS_says 7 (by exact g7) (Says.refl _) ?_
    refine runS_x (I := inf) (J := jnf) ⟨false, false, [], 0, 0⟩ 9999 rfl (by repeat (first | exact obs_nil | refine obs_draw (by kernel_rfl) ?_ | refine obs_same ?_ | refine obs_and ?_ | refine obs_by (by (simp [inB] <;> omega)) ?_)) ?_
    refine runS_cond rfl (fun hlk => ?_) (fun hlk => ?_)
    · have hlk' : k < i := by simpa using hlk
      have hkl : k < l.length := by omega
      refine runS_x (I := inf) (J := jnf) ⟨false, false, [], 0, 0⟩ 9999 rfl (by repeat (first | exact obs_nil | refine obs_draw (by kernel_rfl) ?_ | refine obs_same ?_ | refine obs_and ?_ | refine obs_by (by (simp [inB] <;> omega)) ?_)) ?_
      refine runS_draw 29 (by kernel_rfl) (lexj_x (I := inf) (J := jnf) 99 rfl rfl (by repeat (first | exact obs_nil | refine obs_same ?_ | refine obs_and ?_ | refine obs_by (by (simp [inB, hkl] <;> omega)) ?_)) (lexj_callU rfl rfl (by first | exact .v rfl rfl rfl rfl | exact .o rfl rfl rfl rfl) rfl rfl (by repeat (first | exact .nil | refine .cons (.n rfl) ?_ | refine .cons .o ?_ | refine .cons gok_and ?_)) rfl rfl rfl rfl rfl (fun hcond => (ref_parent nl l k hkl (by omega))) (lexj_x (I := inf) (J := jnf) 99 rfl rfl (by repeat (first | exact obs_nil | refine obs_same ?_ | refine obs_and ?_ | refine obs_by (by (simp [inB, hkl] <;> omega)) ?_)) lexj_nil))) ?_
      refine runS_x (I := inf) (J := jnf) ⟨false, false, [], 0, 0⟩ 9999 rfl (by repeat (first | exact obs_nil | refine obs_draw (by kernel_rfl) ?_ | refine obs_same ?_ | refine obs_and ?_ | refine obs_by (by (simp [inB] <;> omega)) ?_)) ?_
      refine runS_cond rfl (fun hz => ?_) (fun hz => ?_)
      · refine runS_x (I := inf) (J := jnf) ⟨false, false, [], 0, 0⟩ 9999 rfl (by repeat (first | exact obs_nil | refine obs_draw (by kernel_rfl) ?_ | refine obs_same ?_ | refine obs_and ?_ | refine obs_by (by (simp [inB] <;> omega)) ?_)) ?_
        refine runS_ret (I := inf) 0 rfl (Nat.le_refl _) rfl .nil rfl ⟨?_, rfl⟩
        have : sibC l i k = false := by
          have := (sibB l i k).symm.trans hz
          simpa using this
        rw [validF_false hlt' (by rw [okA, sibPre, allPre_false hlk' this]; simp)]
        rfl
      · refine runS_x (I := inf) (J := jnf) ⟨false, false, [], 0, 0⟩ 9999 rfl (by repeat (first | exact obs_nil | refine obs_draw (by kernel_rfl) ?_ | refine obs_same ?_ | refine obs_and ?_ | refine obs_by (by (simp [inB] <;> omega)) ?_)) ?_
        refine ih2 (k + 1) _ _ (by omega) ⟨⟨rfl, rfl, rfl, rfl, ?_⟩, rfl, by omega, ?_⟩
        · show iv (IntKind.wrap .i64 ((k : Int) + 1)) = _
          rw [w64 (by omega) (by omega)]; rfl
        · rw [sibPre, allPre_succ, ← sibPre, hsib, Bool.true_and]
          have := (sibB l i k).symm.trans hz
          simpa using this
    · have : k = i := by simp at hlk; omega
      subst this
      refine runS_x (I := inf) (J := jnf) ⟨false, false, [], 0, 0⟩ 9999 rfl (by repeat (first | exact obs_nil | refine obs_draw (by kernel_rfl) ?_ | refine obs_same ?_ | refine obs_and ?_ | refine obs_by (by (simp [inB] <;> omega)) ?_)) ?_
      refine runS_drop 0 (Nat.zero_le _) rfl (by repeat (first | exact .nil | refine .row (fun j hj => rfl) ?_ | refine .box rfl ?_ | refine .fam (fun k j hk hj => rfl) ?_ | refine .loop (scrub_under _ _) ?_ | refine .dfr ?_ | refine .gone ?_ | refine .map (fun p hp => by (obtain ⟨k, _, rfl⟩ := List.mem_map.1 hp; rfl)) ?_)) rfl rfl rfl (by repeat (first | exact .nil | refine .cons rfl rfl rfl (scrub_under _ _) ?_)) ?_
      refine ih (k + 1) _ _ (by omega) ⟨⟨rfl, ?_⟩, rfl, by omega, ?_⟩
      · show iv (IntKind.wrap .i64 ((k : Int) + 1)) = _
        rw [w64 (by omega) (by omega)]; rfl
      · rw [okPre, allPre_succ, ← okPre, hp, okA, hbase', hkind, hrefer, decide_eq_true ha', hsib]
        rfl
  · have : i = l.length := by simp at hlt; omega
    subst this
    refine runS_x (I := inf) (J := jnf) ⟨false, false, [], 0, 0⟩ 9999 rfl (by repeat (first | exact obs_nil | refine obs_draw (by kernel_rfl) ?_ | refine obs_same ?_ | refine obs_and ?_ | refine obs_by (by (simp [inB] <;> omega)) ?_)) ?_
    refine runS_ret (I := inf) 0 rfl (Nat.le_refl _) rfl .nil rfl ⟨?_, rfl⟩
    rw [validF, hp, decide_eq_true h1.1, decide_eq_true h1.2.1, h1.2.2]
    rfl
end Go.Iron.Try

/- The level package's functions (seat Ytamhonbhoelohaa): arrays, path: ranges over what is above. -/
namespace Go.Iron.Try
open Go.Proofs

theorem level_arrays (nl : Option Bool) (l : List Fld) (i : Nat) (hi : i < l.length) (hb : l.length < 1000000000) : CallT Try.prog 134 [treeS nl l, iv i] [] (fun o A => o = .ret (iv (arrs l i)) ∧ A = []) := by
  refine callS_body (n := 18) rfl rfl fun w ρ X => ?_
  refine runS_x (I := inf) (J := jnf) ⟨false, false, [170, 189], 0, 0⟩ 9999 rfl (by repeat (first | exact obs_nil | refine obs_draw (by kernel_rfl) ?_ | refine obs_same ?_ | refine obs_and ?_ | refine obs_by (by (simp [inB] <;> omega)) ?_)) ?_
  refine runS_forget 5 rfl ?_; refine runS_forgetLoop 5 4 rfl rfl ?_
  refine runS_name 4 rfl (fun L => rfl) (fun L hL => ?_)
  refine runS_while (fun (x : Option Nat × Nat) τ ar => (τ 0 = .yld 4 ∧ τ 1 = .ptr 2 0 0 ∧ τ 2 = .ptr 1 0 0) ∧
    ar = [.box 3 [iv x.2], .box 127 [treeS nl l], .box 3 [iv (opI x.1)], .dfr true, L] ∧ (∀ k, x.1 = some k → k ≤ i) ∧ x.2 + (ancO l x.1).countP (isArr l) = arrs l i) (fun x => match x.1 with | some k => k + 1 | none => 0)
    (some i, 0) ⟨⟨rfl, rfl, rfl⟩, rfl, by simp, by simp [ancO, arrs]⟩ ?_
  rintro ⟨o, m⟩ τ' ar' ⟨⟨g0, g1, g2⟩, rfl, hk, hp⟩ ih
  dsimp only at hk hp ih ⊢
  have hle : arrs l i ≤ i + 1 := Nat.le_trans List.countP_le_length (anc_len l i)
  subst hL
  refine runS_says 0 (by exact g0) (Says.refl _) ?_; refine runS_says 1 (by exact g1) (Says.refl _) ?_; refine runS_says 2 (by exact g2) (Says.refl _) ?_
  cases o with
  | none =>
    refine runS_x (I := inf) (J := jnf) ⟨true, false, [], 0, 0⟩ 9999 rfl (by repeat (first | exact obs_nil | refine obs_draw (by kernel_rfl) ?_ | refine obs_same ?_ | refine obs_and ?_ | refine obs_by (by (simp [inB] <;> omega)) ?_)) ?_
    refine runS_ret (I := inf) 0 rfl (Nat.le_refl _) rfl .nil rfl ⟨?_, rfl⟩
    simp [ancO] at hp
    rw [← hp]
    rfl
  | some k =>
    have hk := hk k rfl
    have h1 : k < l.length := by omega
    rw [ancO, anc_eq, List.countP_cons] at hp
    rw [show opI (some k) = (k : Int) from rfl]
    refine runS_x (I := inf) (J := jnf) ⟨false, false, [], 0, 0⟩ 9999 rfl (by repeat (first | exact obs_nil | refine obs_draw (by kernel_rfl) ?_ | refine obs_same ?_ | refine obs_and ?_ | refine obs_by (by (simp [inB] <;> omega)) ?_)) ?_
    refine runS_cond rfl (fun h => ?_) (fun h => absurd h (by simp))
    refine runS_x (I := inf) (J := jnf) ⟨false, false, [], 0, 0⟩ 9999 rfl (by repeat (first | exact obs_nil | refine obs_draw (by kernel_rfl) ?_ | refine obs_same ?_ | refine obs_and ?_ | refine obs_by (by (simp [inB, h1] <;> omega)) ?_)) ?_
    refine runS_cond rfl (fun hc => ?_) (fun hc => ?_)
    · refine runS_x (I := inf) (J := jnf) ⟨true, false, [], 0, 0⟩ 9999 rfl (by repeat (first | exact obs_nil | refine obs_draw (by kernel_rfl) ?_ | refine obs_same ?_ | refine obs_and ?_ | refine obs_by (by (simp [inB] <;> omega)) ?_)) ?_
      refine runS_drop 5 (Nat.zero_le _) rfl (by repeat (first | exact .nil | refine .row (fun j hj => rfl) ?_ | refine .box rfl ?_ | refine .fam (fun k j hk hj => rfl) ?_ | refine .loop (scrub_under _ _) ?_ | refine .dfr ?_ | refine .gone ?_ | refine .map (fun p hp => by (obtain ⟨k, _, rfl⟩ := List.mem_map.1 hp; rfl)) ?_)) rfl rfl rfl (by repeat (first | exact .nil | refine .cons rfl rfl rfl (scrub_under _ _) ?_)) ?_
      rw [if_pos (by simpa [isArr] using hc)] at hp
      refine ih (par l k, m + 1) _ _ ?_ ⟨⟨rfl, rfl, rfl⟩, ?_, fun j hj => by have := par_lt hj; omega, by dsimp only; omega⟩
      · dsimp only
        cases hpk : par l k with
        | none => simp
        | some j => have := par_lt hpk; simp; omega
      · have hs : IntKind.wrap .i64 ((m : Int) + 1) = ((m + 1 : Nat) : Int) := by rw [w64] <;> omega
        show [AO.box 3 [iv (IntKind.wrap .i64 ((m : Int) + 1))], _, _, _, _] = _
        rw [hs]
        rfl
    · refine runS_x (I := inf) (J := jnf) ⟨true, false, [], 0, 0⟩ 9999 rfl (by repeat (first | exact obs_nil | refine obs_draw (by kernel_rfl) ?_ | refine obs_same ?_ | refine obs_and ?_ | refine obs_by (by (simp [inB] <;> omega)) ?_)) ?_
      refine runS_drop 5 (Nat.zero_le _) rfl (by repeat (first | exact .nil | refine .row (fun j hj => rfl) ?_ | refine .box rfl ?_ | refine .fam (fun k j hk hj => rfl) ?_ | refine .loop (scrub_under _ _) ?_ | refine .dfr ?_ | refine .gone ?_ | refine .map (fun p hp => by (obtain ⟨k, _, rfl⟩ := List.mem_map.1 hp; rfl)) ?_)) rfl rfl rfl (by repeat (first | exact .nil | refine .cons rfl rfl rfl (scrub_under _ _) ?_)) ?_
      rw [if_neg (by simpa [isArr] using hc)] at hp
      refine ih (par l k, m) _ _ ?_ ⟨⟨rfl, rfl, rfl⟩, rfl, fun j hj => by have := par_lt hj; omega, by dsimp only; omega⟩
      dsimp only
      cases hpk : par l k with
      | none => simp
      | some j => have := par_lt hpk; simp; omega

def txtR (xs : List Str) : Nat → List AV := encR (fun s => [sv s]) [] xs
/-- The first i and the last i have changed places. -/
def revV (xs : List Str) (i k : Nat) : Str := if k < i ∨ xs.length - 1 - k < i then xs.getD (xs.length - 1 - k) [] else xs.getD k []
def revR (xs : List Str) (i : Nat) : Nat → List AV := fun k => [sv (revV xs i k)]
theorem slices_reverse (o0 : AO) (hk0 : ∀ l, Kept 2 l → Kept 2 (o0 :: l)) (v : Nat) (xs : List Str) (hb : xs.length < 1000000000) : CallT Try.prog 174 [.row 1 v] [o0, .row 9 1 v xs.length (txtR xs)] (fun o A => o = .ret (.tup []) ∧ A = [o0, .row 9 1 v xs.length (txtR xs.reverse)]) := by
  refine callS_body (n := 28) rfl rfl fun w ρ X => ?_
  refine runS_x (I := inf) (J := jnf) ⟨false, false, [], 0, 0⟩ 9999 rfl (by repeat (first | exact obs_nil | refine obs_draw (by kernel_rfl) ?_ | refine obs_same ?_ | refine obs_and ?_ | refine obs_by (by (simp [inB] <;> omega)) ?_)) ?_
  refine runS_tell 1 (revR xs 0) rfl rfl (fun k hk => ?_) rfl ?_
  · simp [revR, revV, txtR, encR]
  refine runS_while (fun (i : Nat) τ ar => (τ 0 = .row 1 v ∧ τ 2 = iv i ∧ τ 3 = iv ((xs.length : Int) - 1 - i)) ∧ ar = [o0, .row 9 1 v xs.length (revR xs i)] ∧ 2 * i ≤ xs.length + 1) (fun i => xs.length - i) 0 ⟨⟨rfl, rfl, ?_⟩, rfl, by omega⟩ ?_
  · show iv (IntKind.wrap .i64 ((xs.length : Int) - 1)) = _
    rw [w64 (by omega) (by omega)]; simp
  rintro i τ' ar' ⟨⟨h0, h2, h3⟩, rfl, hi⟩ ih
  refine runS_says 0 (by exact h0) (Says.refl _) ?_; refine runS_says 2 (by exact h2) (Says.refl _) ?_; refine runS_says 3 (by exact h3) (Says.refl _) ?_
  refine runS_x (I := inf) (J := jnf) ⟨false, false, [], 0, 0⟩ 9999 rfl (by repeat (first | exact obs_nil | refine obs_draw (by kernel_rfl) ?_ | refine obs_same ?_ | refine obs_and ?_ | refine obs_by (by (simp [inB] <;> omega)) ?_)) ?_
  refine runS_cond rfl (fun hlt => ?_) (fun hlt => ?_)
  · have hlt' : (i : Int) < (xs.length : Int) - 1 - i := by simpa using hlt
    obtain ⟨j, hj⟩ : ∃ j : Nat, (xs.length : Int) - 1 - i = j := ⟨xs.length - 1 - i, by omega⟩
    rw [hj]
    have hi1 : i < xs.length := by omega
    have hj1 : j < xs.length := by omega
    refine runS_x (I := inf) (J := jnf) ⟨false, false, [], 0, 0⟩ 9999 rfl (by repeat (first | exact obs_nil | refine obs_draw (by kernel_rfl) ?_ | refine obs_same ?_ | refine obs_and ?_ | refine obs_by (by (simp [inB] <;> omega)) ?_)) ?_
    refine runS_drawG (ch := []) 14 [13] (fun b => cond (b.getD 0 false) [o0, .row 9 1 v xs.length (setR (revR xs i) i [sv (revV xs i j)])] [o0, .row 9 1 v xs.length (revR xs i)]) none (c := 9) jnfI.draw (by kernel_rfl) rfl (lexg_g (I := inf) (J := jnf) none ⟨⟨_, rfl, (by repeat (first | exact obs_nil | refine obs_same ?_ | refine obs_and ?_ | refine obs_by (by (simp [inB, hi1, hj1] <;> omega)) ?_))⟩, (by first | exact .inl (by decide +kernel) | exact .inr ⟨_, rfl, (by repeat (first | exact obs_nil | refine obs_same ?_ | refine obs_and ?_ | refine obs_by (by (simp [inB, hi1, hj1] <;> omega)) ?_))⟩)⟩ rfl rfl rfl rfl (lexg_g (I := inf) (J := jnf) none ⟨⟨_, rfl, (by repeat (first | exact obs_nil | refine obs_same ?_ | refine obs_and ?_ | refine obs_by (by (simp [inB, hi1, hj1] <;> omega)) ?_))⟩, (by first | exact .inl (by decide +kernel) | exact .inr ⟨_, rfl, (by repeat (first | exact obs_nil | refine obs_same ?_ | refine obs_and ?_ | refine obs_by (by (simp [inB, hi1, hj1] <;> omega)) ?_))⟩)⟩ rfl rfl rfl rfl (lexg_g (I := inf) (J := jnf) none ⟨⟨_, rfl, (by repeat (first | exact obs_nil | refine obs_same ?_ | refine obs_and ?_ | refine obs_by (by (simp [inB, hi1, hj1] <;> omega)) ?_))⟩, (by first | exact .inl (by decide +kernel) | exact .inr ⟨_, rfl, (by repeat (first | exact obs_nil | refine obs_same ?_ | refine obs_and ?_ | refine obs_by (by (simp [inB, hi1, hj1] <;> omega)) ?_))⟩)⟩ rfl rfl rfl rfl (lexg_g (I := inf) (J := jnf) none ⟨⟨_, rfl, (by repeat (first | exact obs_nil | refine obs_same ?_ | refine obs_and ?_ | refine obs_by (by (simp [inB, hi1, hj1] <;> omega)) ?_))⟩, (by first | exact .inl (by decide +kernel) | exact .inr ⟨_, rfl, (by repeat (first | exact obs_nil | refine obs_same ?_ | refine obs_and ?_ | refine obs_by (by (simp [inB, hi1, hj1] <;> omega)) ?_))⟩)⟩ rfl rfl rfl rfl (lexg_g (I := inf) (J := jnf) none ⟨⟨_, rfl, (by repeat (first | exact obs_nil | refine obs_same ?_ | refine obs_and ?_ | refine obs_by (by (simp [inB, hi1, hj1] <;> omega)) ?_))⟩, (by first | exact .inl (by decide +kernel) | exact .inr ⟨_, rfl, (by repeat (first | exact obs_nil | refine obs_same ?_ | refine obs_and ?_ | refine obs_by (by (simp [inB, hi1, hj1] <;> omega)) ?_))⟩)⟩ rfl rfl rfl rfl (lexg_g (I := inf) (J := jnf) none ⟨⟨_, rfl, (by repeat (first | exact obs_nil | refine obs_same ?_ | refine obs_and ?_ | refine obs_by (by (simp [inB, hi1, hj1] <;> omega)) ?_))⟩, (by first | exact .inl (by decide +kernel) | exact .inr ⟨_, rfl, (by repeat (first | exact obs_nil | refine obs_same ?_ | refine obs_and ?_ | refine obs_by (by (simp [inB, hi1, hj1] <;> omega)) ?_))⟩)⟩ rfl rfl rfl rfl (lexg_g (I := inf) (J := jnf) none ⟨⟨_, rfl, (by repeat (first | exact obs_nil | refine obs_same ?_ | refine obs_and ?_ | refine obs_by (by (simp [inB, hi1, hj1] <;> omega)) ?_))⟩, (by first | exact .inl (by decide +kernel) | exact .inr ⟨_, rfl, (by repeat (first | exact obs_nil | refine obs_same ?_ | refine obs_and ?_ | refine obs_by (by (simp [inB, hi1, hj1] <;> omega)) ?_))⟩)⟩ rfl rfl rfl rfl (lexg_g (I := inf) (J := jnf) none ⟨⟨_, rfl, (by repeat (first | exact obs_nil | refine obs_same ?_ | refine obs_and ?_ | refine obs_by (by (simp [inB, hi1, hj1] <;> omega)) ?_))⟩, (by first | exact .inl (by decide +kernel) | exact .inr ⟨_, rfl, (by repeat (first | exact obs_nil | refine obs_same ?_ | refine obs_and ?_ | refine obs_by (by (simp [inB, hi1, hj1] <;> omega)) ?_))⟩)⟩ rfl rfl rfl rfl (lexg_g (I := inf) (J := jnf) none ⟨⟨_, rfl, (by repeat (first | exact obs_nil | refine obs_same ?_ | refine obs_and ?_ | refine obs_by (by (simp [inB, hi1, hj1] <;> omega)) ?_))⟩, (by first | exact .inl (by decide +kernel) | exact .inr ⟨_, rfl, (by repeat (first | exact obs_nil | refine obs_same ?_ | refine obs_and ?_ | refine obs_by (by (simp [inB, hi1, hj1] <;> omega)) ?_))⟩)⟩ rfl rfl rfl rfl (lexg_g (I := inf) (J := jnf) none ⟨⟨_, rfl, (by repeat (first | exact obs_nil | refine obs_same ?_ | refine obs_and ?_ | refine obs_by (by (simp [inB, hi1, hj1] <;> omega)) ?_))⟩, (by first | exact .inl (by decide +kernel) | exact .inr ⟨_, rfl, (by repeat (first | exact obs_nil | refine obs_same ?_ | refine obs_and ?_ | refine obs_by (by (simp [inB, hi1, hj1] <;> omega)) ?_))⟩)⟩ rfl rfl rfl rfl (lexg_g (I := inf) (J := jnf) none ⟨⟨_, rfl, (by repeat (first | exact obs_nil | refine obs_same ?_ | refine obs_and ?_ | refine obs_by (by (simp [inB, hi1, hj1] <;> omega)) ?_))⟩, (by first | exact .inl (by decide +kernel) | exact .inr ⟨_, rfl, (by repeat (first | exact obs_nil | refine obs_same ?_ | refine obs_and ?_ | refine obs_by (by (simp [inB, hi1, hj1] <;> omega)) ?_))⟩)⟩ rfl rfl rfl rfl (lexg_g (I := inf) (J := jnf) none ⟨⟨_, rfl, (by repeat (first | exact obs_nil | refine obs_same ?_ | refine obs_and ?_ | refine obs_by (by (simp [inB, hi1, hj1] <;> omega)) ?_))⟩, (by first | exact .inl (by decide +kernel) | exact .inr ⟨_, rfl, (by repeat (first | exact obs_nil | refine obs_same ?_ | refine obs_and ?_ | refine obs_by (by (simp [inB, hi1, hj1] <;> omega)) ?_))⟩)⟩ rfl rfl rfl rfl (lexg_g (I := inf) (J := jnf) none ⟨⟨_, rfl, (by repeat (first | exact obs_nil | refine obs_same ?_ | refine obs_and ?_ | refine obs_by (by (simp [inB, hi1, hj1] <;> omega)) ?_))⟩, (by first | exact .inl (by decide +kernel) | exact .inr ⟨_, rfl, (by repeat (first | exact obs_nil | refine obs_same ?_ | refine obs_and ?_ | refine obs_by (by (simp [inB, hi1, hj1] <;> omega)) ?_))⟩)⟩ rfl rfl rfl rfl (lexg_g (I := inf) (J := jnf) (some .store) ⟨⟨_, rfl, (by repeat (first | exact obs_nil | refine obs_same ?_ | refine obs_and ?_ | refine obs_by (by (simp [inB, hi1, hj1] <;> omega)) ?_))⟩, .inl rfl⟩ rfl rfl rfl rfl lexg_nil)))))))))))))) rfl (fun _ => ?_) (fun h => by cases h)
    refine runS_tell 1 (fun k => [sv (if k = i then revV xs i j else revV xs i k)]) rfl rfl (fun k hk => ?_) rfl ?_
    · by_cases hki : k = i
      · subst hki
        rw [setR_self, if_pos rfl]
      · rw [setR_ne hki, if_neg hki]; rfl
    refine runS_x (I := inf) (J := jnf) ⟨false, false, [], 0, 0⟩ 9999 rfl (by repeat (first | exact obs_nil | refine obs_draw (by kernel_rfl) ?_ | refine obs_same ?_ | refine obs_and ?_ | refine obs_by (by (simp [inB, hi1, hj1] <;> omega)) ?_)) ?_
    refine runS_tell 1 (revR xs (i + 1)) rfl rfl (fun k hk => ?_) rfl ?_
    · show [sv (revV xs (i + 1) k)] = setR (fun k => [sv (if k = i then revV xs i j else revV xs i k)]) j [sv (revV xs i i)] k
      have e1 : revV xs i j = xs.getD j [] := by rw [revV, if_neg (by omega)]
      have e2 : revV xs i i = xs.getD i [] := by rw [revV, if_neg (by omega)]
      by_cases hkj : k = j
      · subst hkj
        rw [setR_self, e2, revV, if_pos (by omega), show xs.length - 1 - k = i by omega]
      · rw [setR_ne hkj]
        show _ = [sv (if k = i then revV xs i j else revV xs i k)]
        by_cases hki : k = i
        · subst hki
          rw [if_pos rfl, e1, revV, if_pos (by omega), show xs.length - 1 - k = j by omega]
        · rw [if_neg hki]
          unfold revV
          by_cases hc : k < i ∨ xs.length - 1 - k < i
          · rw [if_pos hc, if_pos (by omega)]
          · rw [if_neg hc, if_neg (by omega)]
    refine ih (i + 1) _ _ (by omega) ⟨⟨rfl, ?_, ?_⟩, rfl, by omega⟩
    · show iv (IntKind.wrap .i64 ((i : Int) + 1)) = _
      rw [w64 (by omega) (by omega)]; rfl
    · show iv (IntKind.wrap .i64 ((j : Int) - 1)) = _
      rw [w64 (by omega) (by omega)]
      exact congrArg (fun x : Int => iv x) (by omega)
  · have hge : ¬ (i : Int) < (xs.length : Int) - 1 - i := by simpa using hlt
    refine runS_x (I := inf) (J := jnf) ⟨false, false, [], 0, 0⟩ 9999 rfl (by repeat (first | exact obs_nil | refine obs_draw (by kernel_rfl) ?_ | refine obs_same ?_ | refine obs_and ?_ | refine obs_by (by (simp [inB] <;> omega)) ?_)) ?_
    refine runS_tell 1 (txtR xs.reverse) rfl (m' := xs.length) rfl (fun k hk => ?_) rfl ?_
    · show [sv (xs.reverse.getD k [])] = [sv (revV xs i k)]
      have e : xs.reverse.getD k [] = xs.getD (xs.length - 1 - k) [] := by
        simp [List.getD_eq_getElem?_getD, List.getElem?_reverse hk]
      rw [e]
      unfold revV
      by_cases hc : k < i ∨ xs.length - 1 - k < i
      · rw [if_pos hc]
      · rw [if_neg hc, show xs.length - 1 - k = k by omega]
    refine runS_ret (I := inf) 2 rfl (Nat.le_refl _) rfl (hk0 _ (.row (fun j hj => rfl) .nil)) rfl ⟨rfl, rfl⟩
end Go.Iron.Try

/- The level package's functions (seat Ytamhonbhoelohaa): paths. -/
namespace Go.Iron.Try
open Go.Proofs

def namesU (l : List Fld) (o : Option Nat) : List Str := (ancO l o).map fun k => (fat l k).name
theorem namesU_some (l : List Fld) (k : Nat) : namesU l (some k) = (fat l k).name :: namesU l (par l k) := by
  rw [namesU, ancO, anc_eq]; rfl
theorem namesU_len (l : List Fld) (i : Nat) : (namesU l (some i)).length ≤ i + 1 := by simp [namesU, ancO]; exact anc_len l i
theorem txtR_snoc {acc : List Str} {v : Str} {r2 : Nat → List AV} (h : r2 0 = [sv v]) : ∀ j, j < acc.length + 1 → txtR (acc ++ [v]) j = appR acc.length (txtR acc) r2 j := fun j hj =>
  encR_snoc (enc := fun s => [sv s]) (d := []) h j hj
theorem level_path (nl : Option Bool) (l : List Fld) (i : Nat) (hi : i < l.length) (hb : l.length < 1000000000) : CallT Try.prog 141 [treeS nl l, iv i] [] (fun o A => o = .ret (txtS none (pth l i)) ∧ A = []) := by
  refine callS_body (n := 20) rfl rfl fun w ρ X => ?_
  refine runS_x (I := inf) (J := jnf) ⟨false, false, [], 0, 0⟩ 8 rfl (by repeat (first | exact obs_nil | refine obs_draw (by kernel_rfl) ?_ | refine obs_same ?_ | refine obs_and ?_ | refine obs_by (by (simp [inB] <;> omega)) ?_)) ?_
  refine runS_nilRowBox 0 0 9 1 (txtR []) rfl rfl rfl rfl rfl ?_
  refine runS_x (I := inf) (J := jnf) ⟨false, false, [170, 189], 0, 0⟩ 9999 rfl (by repeat (first | exact obs_nil | refine obs_draw (by kernel_rfl) ?_ | refine obs_same ?_ | refine obs_and ?_ | refine obs_by (by (simp [inB] <;> omega)) ?_)) ?_
  refine runS_forget 6 rfl ?_; refine runS_forgetLoop 6 5 rfl rfl ?_
  refine runS_name 5 rfl (fun L => rfl) (fun L hL => ?_)
  have hle := namesU_len l i
  refine runS_while (fun (x : Option Nat × List Str) τ ar => (τ 0 = .yld 5 ∧ τ 1 = .ptr 3 0 0 ∧ τ 2 = .ptr 2 0 0) ∧
    ar = [.box 46 [.row 1 x.2.length], .row 9 1 x.2.length x.2.length (txtR x.2), .box 127 [treeS nl l], .box 3 [iv (opI x.1)], .dfr true, L] ∧ (∀ k, x.1 = some k → k ≤ i) ∧ x.2 ++ namesU l x.1 = namesU l (some i)) (fun x => match x.1 with | some k => k + 1 | none => 0)
    (some i, []) ⟨⟨rfl, rfl, rfl⟩, rfl, by simp, by simp⟩ ?_
  rintro ⟨o, acc⟩ τ' ar' ⟨⟨g0, g1, g2⟩, rfl, hk, hp⟩ ih
  dsimp only at hk hp ih ⊢
  subst hL
  refine runS_says 0 (by exact g0) (Says.refl _) ?_; refine runS_says 1 (by exact g1) (Says.refl _) ?_; refine runS_says 2 (by exact g2) (Says.refl _) ?_
  cases o with
  | none =>
    have hacc : acc = namesU l (some i) := by simpa [namesU, ancO] using hp
    refine runS_x (I := inf) (J := jnf) ⟨true, false, [], 0, 0⟩ 9999 rfl (by repeat (first | exact obs_nil | refine obs_draw (by kernel_rfl) ?_ | refine obs_same ?_ | refine obs_and ?_ | refine obs_by (by (simp [inB] <;> omega)) ?_)) ?_
    refine runS_callF [.box 46 [.row 1 acc.length], .row 9 1 acc.length acc.length (txtR acc)] [.box 46 [.row 1 acc.length], .row 9 1 acc.length acc.length (txtR acc.reverse)] _ rfl rfl rfl rfl rfl (show _ = [AV.row 1 acc.length] from rfl) rfl ?_ rfl rfl (slices_reverse _ ?_ acc.length acc (by rw [hacc]; omega)) ?_
    · exact .box rfl (.row (fun j hj => rfl) .nil)
    · exact fun l h => .box rfl h
    refine runS_freezeCell 0 0 rfl rfl rfl rfl (fun j hj => rfl) rfl rfl rfl ?_
    refine runS_x (I := inf) (J := jnf) ⟨false, false, [], 0, 0⟩ 9999 rfl (by repeat (first | exact obs_nil | refine obs_draw (by kernel_rfl) ?_ | refine obs_same ?_ | refine obs_and ?_ | refine obs_by (by (simp [inB] <;> omega)) ?_)) ?_
    refine runS_ret (I := inf) 0 rfl (Nat.le_refl _) rfl .nil rfl ⟨?_, rfl⟩
    have hpl : pth l i = acc.reverse := by rw [hacc, pth, namesU, ancO, List.map_reverse]
    rw [hpl]
    show Out.ret (AV.slc 1 none acc.length (txtR acc.reverse)) = Out.ret (AV.slc 1 none acc.reverse.length (txtR acc.reverse))
    rw [List.length_reverse]
  | some k =>
    have hk := hk k rfl
    have h1 : k < l.length := by omega
    have hlen : acc.length + 1 ≤ i + 1 := by
      rw [← hp, namesU_some] at hle
      simp at hle
      omega
    rw [namesU_some] at hp
    rw [show opI (some k) = (k : Int) from rfl]
    refine runS_x (I := inf) (J := jnf) ⟨false, false, [], 0, 0⟩ 9999 rfl (by repeat (first | exact obs_nil | refine obs_draw (by kernel_rfl) ?_ | refine obs_same ?_ | refine obs_and ?_ | refine obs_by (by (simp [inB] <;> omega)) ?_)) ?_
    refine runS_cond rfl (fun h => ?_) (fun h => absurd h (by simp))
    refine runS_x (I := inf) (J := jnf) ⟨true, false, [], 0, 0⟩ 9999 rfl (by repeat (first | exact obs_nil | refine obs_draw (by kernel_rfl) ?_ | refine obs_same ?_ | refine obs_and ?_ | refine obs_by (by (simp [inB, h1] <;> omega)) ?_)) ?_
    refine runS_tell 1 (txtR (acc ++ [(fat l k).name])) rfl (m' := acc.length + 1) rfl (txtR_snoc rfl) rfl ?_
    refine runS_drop 6 (Nat.zero_le _) rfl (by repeat (first | exact .nil | refine .row (fun j hj => rfl) ?_ | refine .box rfl ?_ | refine .fam (fun k j hk hj => rfl) ?_ | refine .loop (scrub_under _ _) ?_ | refine .dfr ?_ | refine .gone ?_ | refine .map (fun p hp => by (obtain ⟨k, _, rfl⟩ := List.mem_map.1 hp; rfl)) ?_)) rfl rfl rfl (by repeat (first | exact .nil | refine .cons rfl rfl rfl (scrub_under _ _) ?_)) ?_
    have hl : (acc ++ [(fat l k).name]).length = acc.length + 1 := by simp
    refine ih (par l k, acc ++ [(fat l k).name]) _ _ ?_ ⟨⟨rfl, rfl, rfl⟩, ?_, fun j hj => by have := par_lt hj; omega, by simpa using hp⟩
    · dsimp only
      cases hpk : par l k with
      | none => simp
      | some j => have := par_lt hpk; simp; omega
    · dsimp only
      rw [hl]
      rfl
end Go.Iron.Try

/- The level package's functions (seat Ytamhonbhoelohaa): what concerns one member. -/
namespace Go.Iron.Try
open Go.Proofs

def nodA (l : List Fld) (i : Nat) : AV := .agg (nodE l i (kidC l i))
/-- A set of texts, as a map. -/
def mapOf (ns : List Str) : List (Value × AV) := ns.map fun s => (.string (bs s), .val (.bool true))
theorem keyEq_str (a b : Str) : keyEq (.string (bs a)) (.string (bs b)) = (a == b) := by
  show bytesEq a b = _
  rw [Bool.eq_iff_iff, bytesEq_iff]
  simp
theorem mapFind_of (ns : List Str) (s : Str) : mapFind (mapOf ns) (.string (bs s)) = if s ∈ ns then some (.val (.bool true)) else none := by
  induction ns with
  | nil => rfl
  | cons n ns ih =>
    show (match keyEq (.string (bs n)) (.string (bs s)) with | true => some (AV.val (.bool true)) | false => mapFind (mapOf ns) (.string (bs s))) = _
    rw [keyEq_str, ih]
    by_cases h : n = s
    · subst h; simp
    · have : (n == s) = false := by simpa using h
      rw [this]
      simp [Ne.symm h]
theorem getB_of (ns : List Str) (s : Str) : getB (mapOf ns) (.string (bs s)) = decide (s ∈ ns) := by
  rw [getB, mapFind_of]
  by_cases h : s ∈ ns <;> simp [h]
theorem okB_of (ns : List Str) (s : Str) : okB (mapOf ns) (.string (bs s)) = true := by
  rw [okB, mapFind_of]
  by_cases h : s ∈ ns <;> simp [h]
theorem mapPut_of (ns : List Str) (s : Str) (h : s ∉ ns) : mapPut (mapOf ns) (.string (bs s)) (.val (.bool true)) = mapOf (ns ++ [s]) := by
  induction ns with
  | nil => rfl
  | cons n ns ih =>
    have h1 : n ≠ s := fun e => h (by simp [e])
    have h2 : s ∉ ns := fun e => h (by simp [e])
    show (match keyEq (.string (bs n)) (.string (bs s)) with | true => (Value.string (bs n), AV.val (.bool true)) :: mapOf ns | false => (Value.string (bs n), AV.val (.bool true)) :: mapPut (mapOf ns) (.string (bs s)) (.val (.bool true))) = _
    rw [keyEq_str, ih h2]
    have : (n == s) = false := by simpa using h1
    rw [this]
    rfl

abbrev kidsA (l : List Fld) (i : Nat) : List Nat := kidsL l l.length i
def nameOf (l : List Fld) (k : Nat) : Str := (fat l k).name
def kidC1 (l : List Fld) (i p : Nat) : Bool := !decide (nameOf l ((kidsA l i).getD p 0) ∈ ((kidsA l i).take p).map (nameOf l)) && (fat l ((kidsA l i).getD p 0)).level == (fat l ((kidsA l i).getD 0 0)).level
def kidPre (l : List Fld) (i p : Nat) : Bool := (List.range p).all (kidC1 l i)
def kindP (l : List Fld) (i : Nat) : Bool := if 0 < (kidsA l i).length then decide ((fat l i).typ = typ0) else validT (fat l i).typ && !(fat l i).union
def refP (l : List Fld) (i : Nat) : Bool := (fat l i).refer == -1 || (decide (0 ≤ (fat l i).refer) && decide ((fat l i).refer < i) && decide (1 ≤ (fat l i).count) &&
  ((fat l (fat l i).refer.toNat).typ.kind == 1 || (fat l (fat l i).refer.toNat).typ.kind == 2) && arrs l (fat l i).refer.toNat == 0)
def rightP (l : List Fld) (i : Nat) : Bool := kindP l i && kidPre l i (kidsA l i).length && refP l i
theorem kids_lt {l : List Fld} {i p : Nat} (h : p < (kidsA l i).length) : (kidsA l i).getD p 0 < l.length := by
  have : (kidsA l i).getD p 0 ∈ kidsA l i := by
    rw [List.getD_eq_getElem?_getD, List.getElem?_eq_getElem h]
    exact List.getElem_mem h
  have := List.mem_filter.1 this
  exact List.mem_range.1 this.1
theorem level_arraysI (nl : Option Bool) (l : List Fld) (x : Int) (h0 : 0 ≤ x) (h1 : x < l.length) (hb : l.length < 1000000000) : CallT Try.prog 134 [treeS nl l, iv x] [] (fun o A => o = .ret (iv (arrs l x.toNat)) ∧ A = []) := by
  obtain ⟨k, rfl⟩ : ∃ k : Nat, x = k := ⟨x.toNat, by omega⟩
  exact level_arrays nl l k (by omega) hb

theorem rightP_kind {l : List Fld} {i : Nat} (h : kindP l i = false) : rightP l i = false := by rw [rightP, h]; rfl
theorem rightP_kid {l : List Fld} {i p : Nat} (hp : p < (kidsA l i).length) (h : kidC1 l i p = false) : rightP l i = false := by rw [rightP, kidPre, allPre_false hp h]; simp
theorem rightP_ref {l : List Fld} {i : Nat} (h : refP l i = false) : rightP l i = false := by rw [rightP, h, Bool.and_false]
theorem inB_nat {k m : Nat} (h : k < m) : inB (k : Int) m = true := inB_iff.2 ⟨by omega, by omega⟩
theorem kidB (l : List Fld) (i p : Nat) : (if getB (mapOf (((kidsA l i).take p).map (nameOf l))) (.string (bs (nameOf l ((kidsA l i).getD p 0)))) = true then true
    else (fat l ((kidsA l i).getD p 0)).level != (fat l ((kidsA l i).getD 0 0)).level) = !kidC1 l i p := by
  rw [getB_of, kidC1]
  cases decide (nameOf l ((kidsA l i).getD p 0) ∈ ((kidsA l i).take p).map (nameOf l)) <;> simp [bne]
theorem take_nextN {xs : List Nat} {p : Nat} (h : p < xs.length) : xs.take (p + 1) = xs.take p ++ [xs.getD p 0] := by
  rw [List.take_succ_eq_append_getElem h, List.getD_eq_getElem?_getD, List.getElem?_eq_getElem h]
  rfl

theorem level_right (nl : Option Bool) (l : List Fld) (i : Nat) (hi : i < l.length) (hs : smallF l) : CallT Try.prog 133 [nodA l i, treeS nl l] [] (fun o A => o = .ret (bv (rightP l i)) ∧ A = []) := by
  obtain ⟨hb, hsm⟩ := hs
  have hkn : kidsN l l.length i = (kidsA l i).length := rfl
  have hkl : (kidsA l i).length ≤ l.length := kidsN_le l l.length i
  refine callS_body (n := 114) rfl rfl fun w ρ X => ?_
  refine runS_x (I := inf) (J := jnf) ⟨false, false, [], 0, 0⟩ 9999 rfl (by repeat (first | exact obs_nil | refine obs_draw (by kernel_rfl) ?_ | refine obs_same ?_ | refine obs_and ?_ | refine obs_by (by (simp [inB] <;> omega)) ?_)) ?_
  refine runS_cut (fun τ ar => (τ 1 = treeS nl l ∧ τ 2 = .ptr 0 0 0) ∧ ar = [.box 144 (nodE l i (kidC l i))] ∧ kindP l i = true) (fun rest => ?_) ?_
  · refine runS_cond rfl (fun hin => ?_) (fun hin => ?_)
    · have hin' : 0 < (kidsA l i).length := by rw [← hkn]; simpa using hin
      refine runS_x (I := inf) (J := jnf) ⟨false, false, [], 2, 0⟩ 9999 rfl (by repeat (first | exact obs_nil | refine obs_draw (by kernel_rfl) ?_ | refine obs_same ?_ | refine obs_and ?_ | refine obs_by (by (simp [inB] <;> omega)) ?_)) ?_
      refine runS_cond rfl (fun hz => ?_) (fun hz => ?_)
      · refine runS_x (I := inf) (J := jnf) ⟨false, false, [], 2, 0⟩ 9999 rfl (by repeat (first | exact obs_nil | refine obs_draw (by kernel_rfl) ?_ | refine obs_same ?_ | refine obs_and ?_ | refine obs_by (by (simp [inB] <;> omega)) ?_)) ?_
        refine runS_ret (I := inf) 0 rfl (Nat.le_refl _) rfl .nil rfl ⟨?_, rfl⟩
        have hz' : (!decide ((fat l i).typ = typ0)) = true := by rw [← typ0B]; exact hz
        rw [rightP_kind (by rw [kindP, if_pos hin']; simpa using hz')]
        rfl
      · refine runS_x (I := inf) (J := jnf) ⟨false, false, [], 2, 0⟩ 9999 rfl (by repeat (first | exact obs_nil | refine obs_draw (by kernel_rfl) ?_ | refine obs_same ?_ | refine obs_and ?_ | refine obs_by (by (simp [inB] <;> omega)) ?_)) ?_
        refine rest _ _ ⟨⟨rfl, rfl⟩, rfl, ?_⟩
        have hz' : (!decide ((fat l i).typ = typ0)) = false := by rw [← typ0B]; exact hz
        rw [kindP, if_pos hin']
        simpa using hz'
    · have hin' : ¬ 0 < (kidsA l i).length := by
        intro h'
        have : decide ((0 : Int) < ((kidsA l i).length : Int)) = false := hin
        have := of_decide_eq_false this
        omega
      refine runS_x (I := inf) (J := jnf) ⟨false, false, [], 2, 0⟩ 9999 rfl (by repeat (first | exact obs_nil | refine obs_draw (by kernel_rfl) ?_ | refine obs_same ?_ | refine obs_and ?_ | refine obs_by (by (simp [inB] <;> omega)) ?_)) ?_
      refine runS_call rfl rfl rfl rfl rfl rfl rfl (digit_valid (fat l i).typ (hsm i hi).2) ?_
      refine runS_x (I := inf) (J := jnf) ⟨false, false, [], 2, 0⟩ 9999 rfl (by repeat (first | exact obs_nil | refine obs_draw (by kernel_rfl) ?_ | refine obs_same ?_ | refine obs_and ?_ | refine obs_by (by (simp [inB] <;> omega)) ?_)) ?_
      refine runS_cond rfl (fun hz => ?_) (fun hz => ?_)
      · refine runS_x (I := inf) (J := jnf) ⟨false, false, [], 2, 0⟩ 9999 rfl (by repeat (first | exact obs_nil | refine obs_draw (by kernel_rfl) ?_ | refine obs_same ?_ | refine obs_and ?_ | refine obs_by (by (simp [inB] <;> omega)) ?_)) ?_
        refine runS_ret (I := inf) 0 rfl (Nat.le_refl _) rfl .nil rfl ⟨?_, rfl⟩
        have : kindP l i = false := by
          rw [kindP, if_neg hin']
          revert hz
          generalize validT (fat l i).typ = nb
          intro hz
          cases nb <;> (simp [-List.getD_eq_getElem?_getD, -List.length_eq_zero_iff, fat] at hz ⊢ <;> first | exact hz | omega)
        rw [rightP_kind this]
        rfl
      · refine runS_x (I := inf) (J := jnf) ⟨false, false, [], 2, 0⟩ 9999 rfl (by repeat (first | exact obs_nil | refine obs_draw (by kernel_rfl) ?_ | refine obs_same ?_ | refine obs_and ?_ | refine obs_by (by (simp [inB] <;> omega)) ?_)) ?_
        refine rest _ _ ⟨⟨rfl, rfl⟩, rfl, ?_⟩
        rw [kindP, if_neg hin']
        revert hz
        generalize validT (fat l i).typ = nb
        intro hz
        cases nb <;> (simp [-List.getD_eq_getElem?_getD, -List.length_eq_zero_iff, fat] at hz ⊢ <;> first | exact hz | omega)
  rintro τ2 ar2 ⟨⟨g1, g2⟩, rfl, hkind⟩
  refine runS_says 1 (by exact g1) (Says.refl _) ?_; refine runS_says 2 (by exact g2) (Says.refl _) ?_
  refine runS_x (I := inf) (J := jnf) ⟨false, false, [], 0, 0⟩ 9999 rfl (by repeat (first | exact obs_nil | refine obs_draw (by kernel_rfl) ?_ | refine obs_same ?_ | refine obs_and ?_ | refine obs_by (by (simp [inB] <;> omega)) ?_)) ?_
  refine runS_while (fun (p : Nat) τ ar => (τ 1 = treeS nl l ∧ τ 2 = .ptr 0 0 0 ∧ τ 5 = .row 1 0 ∧ τ 30 = kidC l i ∧ τ 31 = iv (kidsA l i).length ∧ τ 32 = iv p) ∧
    ar = [.box 144 (nodE l i (kidC l i)), .map 0 none (mapOf (((kidsA l i).take p).map (nameOf l)))] ∧ p ≤ (kidsA l i).length ∧ kidPre l i p = true) (fun p => (kidsA l i).length - p) 0 ⟨⟨rfl, rfl, rfl, rfl, rfl, rfl⟩, rfl, Nat.zero_le _, rfl⟩ ?_
  rintro p τ3 ar3 ⟨⟨g1, g2, g5, g30, g31, g32⟩, rfl, hp, hpre⟩ ih
  refine runS_says 1 (by exact g1) (Says.refl _) ?_; refine runS_says 2 (by exact g2) (Says.refl _) ?_; refine runS_says 5 (by exact g5) (Says.refl _) ?_; refine runS_says 30 (by exact g30) (Says.refl _) ?_; refine runS_says 31 (by exact g31) (Says.refl _) ?_; refine runS_says 32 (by exact g32) (Says.refl _) ?_
  refine runS_x (I := inf) (J := jnf) ⟨false, false, [], 0, 0⟩ 9999 rfl (by repeat (first | exact obs_nil | refine obs_draw (by kernel_rfl) ?_ | refine obs_same ?_ | refine obs_and ?_ | refine obs_by (by (simp [inB] <;> omega)) ?_)) ?_
  refine runS_cond rfl (fun hlt => ?_) (fun hlt => ?_)
  · have hlt' : p < (kidsA l i).length := by simpa using hlt
    have k1 : inB (p : Int) (kidsN l l.length i) = true := inB_nat hlt'
    have k2 : inB (((kidsA l i).getD p 0 : Nat) : Int) l.length = true := inB_nat (kids_lt hlt')
    have k3 : inB (((kidsA l i).getD 0 0 : Nat) : Int) l.length = true := inB_nat (kids_lt (by omega))
    have k4 : inB (0 : Int) (kidsN l l.length i) = true := inB_nat (k := 0) (by omega)
    have k5 := okB_of (((kidsA l i).take p).map (nameOf l)) (nameOf l ((kidsA l i).getD p 0))
    refine runS_x (I := inf) (J := jnf) ⟨false, false, [], 0, 0⟩ 9999 rfl (by repeat (first | exact obs_nil | refine obs_draw (by kernel_rfl) ?_ | refine obs_same ?_ | refine obs_and ?_ | refine obs_by (by first | exact fun _ => k1 | exact fun _ => k2 | exact fun _ => k3 | exact fun _ => k4 | exact fun _ => k5 | (simp [inB] <;> omega)) ?_)) ?_
    refine runS_cond rfl (fun hz => ?_) (fun hz => ?_)
    · refine runS_x (I := inf) (J := jnf) ⟨false, false, [], 0, 0⟩ 9999 rfl (by repeat (first | exact obs_nil | refine obs_draw (by kernel_rfl) ?_ | refine obs_same ?_ | refine obs_and ?_ | refine obs_by (by (simp [inB] <;> omega)) ?_)) ?_
      refine runS_ret (I := inf) 0 rfl (Nat.le_refl _) rfl .nil rfl ⟨?_, rfl⟩
      have := (kidB l i p).symm.trans hz
      rw [rightP_kid hlt' (by simpa using this)]
      rfl
    · have hz' := (kidB l i p).symm.trans hz
      have hc : kidC1 l i p = true := by simpa using hz'
      refine runS_x (I := inf) (J := jnf) ⟨false, false, [], 0, 0⟩ 9999 rfl (by repeat (first | exact obs_nil | refine obs_draw (by kernel_rfl) ?_ | refine obs_same ?_ | refine obs_and ?_ | refine obs_by (by first | exact fun _ => k1 | exact fun _ => k2 | exact fun _ => k3 | exact fun _ => k4 | exact fun _ => k5 | (simp [inB] <;> omega)) ?_)) ?_
      refine ih (p + 1) _ _ (by omega) ⟨⟨rfl, rfl, rfl, rfl, rfl, ?_⟩, ?_, by omega, by rw [kidPre, allPre_succ, ← kidPre, hpre, hc]; rfl⟩
      · show iv (IntKind.wrap .i64 ((p : Int) + 1)) = _
        rw [w64 (by omega) (by omega)]; rfl
      · have hn : nameOf l ((kidsA l i).getD p 0) ∉ ((kidsA l i).take p).map (nameOf l) := by
          intro hm
          rw [kidC1, decide_eq_true hm] at hc
          simp at hc
        rw [take_nextN hlt', List.map_append, List.map_cons, List.map_nil, ← mapPut_of _ _ hn]
        rfl
  · have hpe : p = (kidsA l i).length := by simp at hlt; omega
    subst hpe
    refine runS_x (I := inf) (J := jnf) ⟨false, false, [], 0, 0⟩ 9999 rfl (by repeat (first | exact obs_nil | refine obs_draw (by kernel_rfl) ?_ | refine obs_same ?_ | refine obs_and ?_ | refine obs_by (by (simp [inB] <;> omega)) ?_)) ?_
    refine runS_cond rfl (fun hm => ?_) (fun hm => ?_)
    · refine runS_x (I := inf) (J := jnf) ⟨false, false, [], 0, 0⟩ 9999 rfl (by repeat (first | exact obs_nil | refine obs_draw (by kernel_rfl) ?_ | refine obs_same ?_ | refine obs_and ?_ | refine obs_by (by (simp [inB] <;> omega)) ?_)) ?_
      refine runS_ret (I := inf) 0 rfl (Nat.le_refl _) rfl .nil rfl ⟨?_, rfl⟩
      have hm' : (fat l i).refer = -1 := by simpa using hm
      rw [rightP, hkind, hpre, refP, hm']
      rfl
    have hm' : ¬ (fat l i).refer = -1 := by simpa using hm
    refine runS_x (I := inf) (J := jnf) ⟨false, false, [], 0, 0⟩ 9999 rfl (by repeat (first | exact obs_nil | refine obs_draw (by kernel_rfl) ?_ | refine obs_same ?_ | refine obs_and ?_ | refine obs_by (by (simp [inB] <;> omega)) ?_)) ?_
    refine runS_call rfl rfl rfl rfl rfl rfl rfl (level_within _ _ _) ?_
    refine runS_x (I := inf) (J := jnf) ⟨false, false, [], 0, 0⟩ 9999 rfl (by repeat (first | exact obs_nil | refine obs_draw (by kernel_rfl) ?_ | refine obs_same ?_ | refine obs_and ?_ | refine obs_by (by (simp [inB] <;> omega)) ?_)) ?_
    have hw : (0 : Int) ≤ (fat l i).refer → IntKind.wrap .i64 ((i : Int) - 1) = (i : Int) - 1 := fun _ => by rw [w64 (by omega) (by omega)]
    have hw2 : IntKind.wrap .i64 ((i : Int) - 1) = (i : Int) - 1 := by rw [w64 (by omega) (by omega)]
    refine runS_cond rfl (fun hz => ?_) (fun hz => ?_)
    · refine runS_x (I := inf) (J := jnf) ⟨false, false, [], 0, 0⟩ 9999 rfl (by repeat (first | exact obs_nil | refine obs_draw (by kernel_rfl) ?_ | refine obs_same ?_ | refine obs_and ?_ | refine obs_by (by (simp [inB] <;> omega)) ?_)) ?_
      refine runS_ret (I := inf) 0 rfl (Nat.le_refl _) rfl .nil rfl ⟨?_, rfl⟩
      have hz' : (if (!(decide (0 ≤ (fat l i).refer) && decide ((fat l i).refer ≤ IntKind.wrap .i64 ((i : Int) - 1)))) = true then true else decide ((fat l i).count < 1)) = true := hz
      rw [hw2] at hz'
      rw [rightP_ref]
      · rfl
      unfold refP
      revert hz' hm'
      generalize (fat l i).refer = r
      intro hm' hz'
      simp at hz' ⊢
      omega
    have hz' : (if (!(decide (0 ≤ (fat l i).refer) && decide ((fat l i).refer ≤ IntKind.wrap .i64 ((i : Int) - 1)))) = true then true else decide ((fat l i).count < 1)) = false := hz
    rw [hw2] at hz'
    have hr : 0 ≤ (fat l i).refer ∧ (fat l i).refer < i ∧ 1 ≤ (fat l i).count := by
      clear hz hm
      simp [-List.getD_eq_getElem?_getD, -List.length_eq_zero_iff, fat] at hz' ⊢
      omega
    have k1 : inB (fat l i).refer l.length = true := inB_iff.2 ⟨hr.1, by omega⟩
    refine runS_x (I := inf) (J := jnf) ⟨false, false, [], 0, 0⟩ 9999 rfl (by repeat (first | exact obs_nil | refine obs_draw (by kernel_rfl) ?_ | refine obs_same ?_ | refine obs_and ?_ | refine obs_by (by first | exact fun _ => k1 | (simp [inB] <;> omega)) ?_)) ?_
    refine runS_callU rfl rfl (by first | exact .v rfl rfl rfl rfl | exact .o rfl rfl rfl rfl) rfl rfl (by repeat (first | exact .nil | refine .cons (.n rfl) ?_ | refine .cons .o ?_ | refine .cons gok_and ?_)) rfl rfl rfl rfl rfl (fun _ => (level_arraysI nl l (fat l i).refer hr.1 (by omega) hb)) ?_
    refine runS_x (I := inf) (J := jnf) ⟨false, false, [], 0, 0⟩ 9999 rfl (by repeat (first | exact obs_nil | refine obs_draw (by kernel_rfl) ?_ | refine obs_same ?_ | refine obs_and ?_ | refine obs_by (by (simp [inB] <;> omega)) ?_)) ?_
    refine runS_ret (I := inf) 0 rfl (Nat.le_refl _) rfl .nil rfl ⟨?_, rfl⟩
    refine congrArg (fun b => Out.ret (bv b)) ?_
    show (if (if ((fat l (fat l i).refer.toNat).typ.kind == 1) = true then true else (fat l (fat l i).refer.toNat).typ.kind == 2) = true then ((arrs l (fat l i).refer.toNat : Int) == 0) else false) = _
    rw [rightP, hkind, hpre, refP]
    revert hr hm'
    generalize (fat l i).refer = r
    generalize (fat l i).count = c
    intro hm' hr
    rw [Bool.eq_iff_iff]
    simp
    omega
end Go.Iron.Try
