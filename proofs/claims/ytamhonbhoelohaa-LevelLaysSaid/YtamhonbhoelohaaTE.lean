/- Iron: this seat's types and functions, by program (mkinf.py). -/
import Derived.Test.YtamhonbhoelohaaTB
import Derived.Test.YtamhonbhoelohaaTC
import Derived.Test.YtamhonbhoelohaaProg
set_option maxRecDepth 10000
namespace Go.Iron.Try
open Go.Proofs
def inf : TI where
  ty := [(1, 1, false), (3, 1, false), (4, 1, false), (5, 1, false), (9, 1, false), (20, 1, false), (22, 1, false), (23, 1, false), (29, 1, false), (33, 1, false), (37, 1, false), (41, 1, false), (46, 1, false), (50, 1, false), (51, 1, false), (63, 2, true), (66, 1, false), (69, 2, true), (75, 3, true), (81, 1, false), (86, 3, true), (88, 6, true), (90, 11, true), (98, 1, false), (103, 2, true), (104, 1, false), (105, 1, false), (107, 1, false), (115, 1, false), (116, 1, false), (117, 1, false), (118, 1, false), (126, 1, false), (127, 1, false), (129, 1, false), (131, 3, true), (135, 1, false), (140, 1, false), (144, 15, true), (146, 1, false), (147, 1, false), (153, 1, false), (159, 1, false), (161, 1, false), (164, 1, false), (166, 1, false), (167, 1, false), (170, 1, true), (172, 1, false), (173, 1, false), (174, 10, true), (177, 1, false), (179, 1, false), (180, 1, false), (181, 1, false), (185, 1, false), (186, 1, false), (187, 1, false), (188, 1, false), (190, 1, false), (192, 1, false), (193, 1, false)]
  el := [(22, 63), (23, 3), (29, 69), (33, 75), (37, 22), (41, 90), (46, 9), (66, 4), (81, 86), (98, 103), (104, 63), (127, 144), (188, 153), (192, 5)]
  fld := [(63, [(0, 3), (1, 3)]), (69, [(0, 3), (1, 4)]), (75, [(0, 3), (1, 3), (2, 3)]), (86, [(0, 3), (1, 3), (2, 3)]), (88, [(0, 3), (1, 3), (2, 3), (3, 3), (4, 4), (5, 9)]), (90, [(0, 3), (1, 9), (2, 3), (3, 88), (9, 4), (10, 3)]), (131, [(0, 127), (1, 129), (2, 81)]), (144, [(0, 90), (11, 3), (12, 3), (13, 3), (14, 23)]), (170, [(0, 51)])]
  zero := [(1, [.val (.nilFunc)], 8), (3, [.val (.int .i64 0)], 8), (4, [.val (.bool false)], 1), (5, [.val (.int .u8 0)], 1), (9, [.val (.string ⟨#[]⟩)], 16), (20, [.val (.nilIface)], 16), (22, [.val (.slice none 0 0)], 24), (23, [.val (.slice none 0 0)], 24), (29, [.val (.slice none 0 0)], 24), (33, [.val (.slice none 0 0)], 24), (37, [.val (.slice none 0 0)], 24), (41, [.val (.slice none 0 0)], 24), (46, [.val (.slice none 0 0)], 24), (50, [.val (.nilFunc)], 8), (51, [.val (.int .i64 0)], 8), (63, [.val (.int .i64 0), .val (.int .i64 0)], 16), (66, [.val (.slice none 0 0)], 24), (69, [.val (.int .i64 0), .val (.bool false)], 16), (75, [.val (.int .i64 0), .val (.int .i64 0), .val (.int .i64 0)], 24), (81, [.val (.slice none 0 0)], 24), (86, [.val (.int .i64 0), .val (.int .i64 0), .val (.int .i64 0)], 24), (88, [.val (.int .i64 0), .val (.int .i64 0), .val (.int .i64 0), .val (.int .i64 0), .val (.bool false), .val (.string ⟨#[]⟩)], 56), (90, [.val (.int .i64 0), .val (.string ⟨#[]⟩), .val (.int .i64 0), .val (.int .i64 0), .val (.int .i64 0), .val (.int .i64 0), .val (.int .i64 0), .val (.bool false), .val (.string ⟨#[]⟩), .val (.bool false), .val (.int .i64 0)], 104), (98, [.val (.slice none 0 0)], 24), (103, [.val (.int .i64 0), .val (.int .i64 0)], 16), (104, [.val (.slice none 0 0)], 24), (105, [.val (.nilFunc)], 8), (107, [.val (.nilFunc)], 8), (115, [.val (.nilFunc)], 8), (116, [.val (.nilFunc)], 8), (117, [.val (.nilFunc)], 8), (118, [.val (.nilFunc)], 8), (126, [.val (.pointer none)], 8), (127, [.val (.slice none 0 0)], 24), (129, [.val (.map none)], 8), (131, [.val (.slice none 0 0), .val (.map none), .val (.slice none 0 0)], 56), (135, [.val (.nilFunc)], 8), (140, [.val (.nilFunc)], 8), (144, [.val (.int .i64 0), .val (.string ⟨#[]⟩), .val (.int .i64 0), .val (.int .i64 0), .val (.int .i64 0), .val (.int .i64 0), .val (.int .i64 0), .val (.bool false), .val (.string ⟨#[]⟩), .val (.bool false), .val (.int .i64 0), .val (.int .i64 0), .val (.int .i64 0), .val (.int .i64 0), .val (.slice none 0 0)], 152), (146, [.val (.nilFunc)], 8), (147, [.val (.nilFunc)], 8), (153, [.val (.nilFunc)], 8), (159, [.val (.nilFunc)], 8), (161, [.val (.nilFunc)], 8), (164, [.val (.nilFunc)], 8), (166, [.val (.nilFunc)], 8), (167, [.val (.nilFunc)], 8), (170, [.val (.int .i64 0)], 8), (172, [.val (.nilFunc)], 8), (173, [.val (.nilFunc)], 8), (174, [.val (.nilFunc), .val (.nilFunc), .val (.nilFunc), .val (.nilFunc), .val (.nilFunc), .val (.nilFunc), .val (.nilFunc), .val (.nilFunc), .val (.nilFunc), .val (.nilFunc)], 80), (177, [.val (.pointer none)], 8), (179, [.val (.map none)], 8), (180, [.val (.nilFunc)], 8), (181, [.val (.nilFunc)], 8), (185, [.val (.nilFunc)], 8), (186, [.val (.nilFunc)], 8), (187, [.val (.nilFunc)], 8), (188, [.val (.slice none 0 0)], 24), (190, [.val (.nilFunc)], 8), (192, [.val (.slice none 0 0)], 24), (193, [.val (.nilFunc)], 8)]
  bools := [(4, ())]
  conc := [(1, ()), (3, ()), (4, ()), (5, ()), (9, ()), (22, ()), (23, ()), (29, ()), (33, ()), (37, ()), (41, ()), (46, ()), (50, ()), (51, ()), (63, ()), (66, ()), (69, ()), (75, ()), (81, ()), (86, ()), (88, ()), (90, ()), (98, ()), (103, ()), (104, ()), (105, ()), (107, ()), (115, ()), (116, ()), (117, ()), (118, ()), (126, ()), (127, ()), (129, ()), (131, ()), (135, ()), (140, ()), (144, ()), (146, ()), (147, ()), (153, ()), (159, ()), (161, ()), (164, ()), (166, ()), (167, ()), (170, ()), (172, ()), (173, ()), (174, ()), (177, ()), (179, ()), (180, ()), (181, ()), (185, ()), (186, ()), (187, ()), (188, ()), (190, ()), (192, ()), (193, ())]
  pl := [(63, [(0, 1), (1, 1)]), (69, [(0, 1), (1, 1)]), (75, [(0, 1), (1, 1), (2, 1)]), (86, [(0, 1), (1, 1), (2, 1)]), (88, [(0, 1), (1, 1), (2, 1), (3, 1), (4, 1), (5, 1)]), (90, [(0, 1), (1, 1), (2, 1), (3, 6), (9, 1), (10, 1)]), (131, [(0, 1), (1, 1), (2, 1)]), (144, [(0, 11), (11, 1), (12, 1), (13, 1), (14, 1)]), (170, [(0, 1)])]
  eqs := [(3, .int), (4, .bool), (5, .int), (9, .str), (51, .int), (63, .struct [(0, 3), (1, 3)]), (69, .struct [(0, 3), (1, 4)]), (75, .struct [(0, 3), (1, 3), (2, 3)]), (86, .struct [(0, 3), (1, 3), (2, 3)]), (88, .struct [(0, 3), (1, 3), (2, 3), (3, 3), (4, 4), (5, 9)]), (90, .struct [(0, 3), (1, 9), (2, 3), (3, 88), (9, 4), (10, 3)])]
theorem inf_ty : AllL (fun p : Nat × Nat × Bool => Ty Try.prog p.1 p.2.1 p.2.2) inf.ty := .cons (⟨by kernel_rfl, by kernel_rfl⟩) <| .cons (⟨by kernel_rfl, by kernel_rfl⟩) <| .cons (⟨by kernel_rfl, by kernel_rfl⟩) <| .cons (⟨by kernel_rfl, by kernel_rfl⟩) <| .cons (⟨by kernel_rfl, by kernel_rfl⟩) <| .cons (⟨by kernel_rfl, by kernel_rfl⟩) <| .cons (⟨by kernel_rfl, by kernel_rfl⟩) <| .cons (⟨by kernel_rfl, by kernel_rfl⟩) <| .cons (⟨by kernel_rfl, by kernel_rfl⟩) <| .cons (⟨by kernel_rfl, by kernel_rfl⟩) <| .cons (⟨by kernel_rfl, by kernel_rfl⟩) <| .cons (⟨by kernel_rfl, by kernel_rfl⟩) <| .cons (⟨by kernel_rfl, by kernel_rfl⟩) <| .cons (⟨by kernel_rfl, by kernel_rfl⟩) <| .cons (⟨by kernel_rfl, by kernel_rfl⟩) <| .cons (⟨by kernel_rfl, by kernel_rfl⟩) <| .cons (⟨by kernel_rfl, by kernel_rfl⟩) <| .cons (⟨by kernel_rfl, by kernel_rfl⟩) <| .cons (⟨by kernel_rfl, by kernel_rfl⟩) <| .cons (⟨by kernel_rfl, by kernel_rfl⟩) <| .cons (⟨by kernel_rfl, by kernel_rfl⟩) <| .cons (⟨by kernel_rfl, by kernel_rfl⟩) <| .cons (⟨by kernel_rfl, by kernel_rfl⟩) <| .cons (⟨by kernel_rfl, by kernel_rfl⟩) <| .cons (⟨by kernel_rfl, by kernel_rfl⟩) <| .cons (⟨by kernel_rfl, by kernel_rfl⟩) <| .cons (⟨by kernel_rfl, by kernel_rfl⟩) <| .cons (⟨by kernel_rfl, by kernel_rfl⟩) <| .cons (⟨by kernel_rfl, by kernel_rfl⟩) <| .cons (⟨by kernel_rfl, by kernel_rfl⟩) <| .cons (⟨by kernel_rfl, by kernel_rfl⟩) <| .cons (⟨by kernel_rfl, by kernel_rfl⟩) <| .cons (⟨by kernel_rfl, by kernel_rfl⟩) <| .cons (⟨by kernel_rfl, by kernel_rfl⟩) <| .cons (⟨by kernel_rfl, by kernel_rfl⟩) <| .cons (⟨by kernel_rfl, by kernel_rfl⟩) <| .cons (⟨by kernel_rfl, by kernel_rfl⟩) <| .cons (⟨by kernel_rfl, by kernel_rfl⟩) <| .cons (⟨by kernel_rfl, by kernel_rfl⟩) <| .cons (⟨by kernel_rfl, by kernel_rfl⟩) <| .cons (⟨by kernel_rfl, by kernel_rfl⟩) <| .cons (⟨by kernel_rfl, by kernel_rfl⟩) <| .cons (⟨by kernel_rfl, by kernel_rfl⟩) <| .cons (⟨by kernel_rfl, by kernel_rfl⟩) <| .cons (⟨by kernel_rfl, by kernel_rfl⟩) <| .cons (⟨by kernel_rfl, by kernel_rfl⟩) <| .cons (⟨by kernel_rfl, by kernel_rfl⟩) <| .cons (⟨by kernel_rfl, by kernel_rfl⟩) <| .cons (⟨by kernel_rfl, by kernel_rfl⟩) <| .cons (⟨by kernel_rfl, by kernel_rfl⟩) <| .cons (⟨by kernel_rfl, by kernel_rfl⟩) <| .cons (⟨by kernel_rfl, by kernel_rfl⟩) <| .cons (⟨by kernel_rfl, by kernel_rfl⟩) <| .cons (⟨by kernel_rfl, by kernel_rfl⟩) <| .cons (⟨by kernel_rfl, by kernel_rfl⟩) <| .cons (⟨by kernel_rfl, by kernel_rfl⟩) <| .cons (⟨by kernel_rfl, by kernel_rfl⟩) <| .cons (⟨by kernel_rfl, by kernel_rfl⟩) <| .cons (⟨by kernel_rfl, by kernel_rfl⟩) <| .cons (⟨by kernel_rfl, by kernel_rfl⟩) <| .cons (⟨by kernel_rfl, by kernel_rfl⟩) <| .cons (⟨by kernel_rfl, by kernel_rfl⟩) <| .nil
theorem inf_el : AllL (fun p : Nat × Nat => ElT Try.prog p.1 p.2) inf.el := .cons (⟨Try.underlying22⟩) <| .cons (⟨Try.underlying23⟩) <| .cons (⟨Try.underlying29⟩) <| .cons (⟨Try.underlying33⟩) <| .cons (⟨Try.underlying37⟩) <| .cons (⟨Try.underlying41⟩) <| .cons (⟨Try.underlying46⟩) <| .cons (⟨Try.underlying66⟩) <| .cons (⟨Try.underlying81⟩) <| .cons (⟨Try.underlying98⟩) <| .cons (⟨Try.underlying104⟩) <| .cons (⟨Try.underlying127⟩) <| .cons (⟨Try.underlying188⟩) <| .cons (⟨Try.underlying192⟩) <| .nil
theorem inf_fld : AllL (fun p : Nat × List (Nat × Nat) => ∀ j off ft, nth p.2 j = some (off, ft) → FldT Try.prog p.1 j off ft) inf.fld := .cons (fldAll ⟨_, Try.underlying63, rfl⟩) <| .cons (fldAll ⟨_, Try.underlying69, rfl⟩) <| .cons (fldAll ⟨_, Try.underlying75, rfl⟩) <| .cons (fldAll ⟨_, Try.underlying86, rfl⟩) <| .cons (fldAll ⟨_, Try.underlying88, rfl⟩) <| .cons (fldAll ⟨_, Try.underlying90, rfl⟩) <| .cons (fldAll ⟨_, Try.underlying131, rfl⟩) <| .cons (fldAll ⟨_, Try.underlying144, rfl⟩) <| .cons (fldAll ⟨_, Try.underlying170, rfl⟩) <| .nil
theorem inf_zero : AllL (fun p : Nat × List AV × Nat => ZeroT Try.prog p.1 p.2.1 p.2.2) inf.zero := .cons (⟨⟨.nilFunc, by kernel_rfl, rfl, rfl, rfl, rfl⟩⟩) <| .cons (⟨⟨.int .i64 0, by kernel_rfl, rfl, rfl, rfl, rfl⟩⟩) <| .cons (⟨⟨.bool false, by kernel_rfl, rfl, rfl, rfl, rfl⟩⟩) <| .cons (⟨⟨.int .u8 0, by kernel_rfl, rfl, rfl, rfl, rfl⟩⟩) <| .cons (⟨⟨.string ⟨#[]⟩, by kernel_rfl, rfl, rfl, rfl, rfl⟩⟩) <| .cons (⟨⟨.nilIface, by kernel_rfl, rfl, rfl, rfl, rfl⟩⟩) <| .cons (⟨⟨.slice none 0 0, by kernel_rfl, rfl, rfl, rfl, rfl⟩⟩) <| .cons (⟨⟨.slice none 0 0, by kernel_rfl, rfl, rfl, rfl, rfl⟩⟩) <| .cons (⟨⟨.slice none 0 0, by kernel_rfl, rfl, rfl, rfl, rfl⟩⟩) <| .cons (⟨⟨.slice none 0 0, by kernel_rfl, rfl, rfl, rfl, rfl⟩⟩) <| .cons (⟨⟨.slice none 0 0, by kernel_rfl, rfl, rfl, rfl, rfl⟩⟩) <| .cons (⟨⟨.slice none 0 0, by kernel_rfl, rfl, rfl, rfl, rfl⟩⟩) <| .cons (⟨⟨.slice none 0 0, by kernel_rfl, rfl, rfl, rfl, rfl⟩⟩) <| .cons (⟨⟨.nilFunc, by kernel_rfl, rfl, rfl, rfl, rfl⟩⟩) <| .cons (⟨⟨.int .i64 0, by kernel_rfl, rfl, rfl, rfl, rfl⟩⟩) <| .cons (⟨⟨.agg #[(.int .i64 0), (.int .i64 0)], by kernel_rfl, rfl, rfl, rfl, rfl⟩⟩) <| .cons (⟨⟨.slice none 0 0, by kernel_rfl, rfl, rfl, rfl, rfl⟩⟩) <| .cons (⟨⟨.agg #[(.int .i64 0), (.bool false)], by kernel_rfl, rfl, rfl, rfl, rfl⟩⟩) <| .cons (⟨⟨.agg #[(.int .i64 0), (.int .i64 0), (.int .i64 0)], by kernel_rfl, rfl, rfl, rfl, rfl⟩⟩) <| .cons (⟨⟨.slice none 0 0, by kernel_rfl, rfl, rfl, rfl, rfl⟩⟩) <| .cons (⟨⟨.agg #[(.int .i64 0), (.int .i64 0), (.int .i64 0)], by kernel_rfl, rfl, rfl, rfl, rfl⟩⟩) <| .cons (⟨⟨.agg #[(.int .i64 0), (.int .i64 0), (.int .i64 0), (.int .i64 0), (.bool false), (.string ⟨#[]⟩)], by kernel_rfl, rfl, rfl, rfl, rfl⟩⟩) <| .cons (⟨⟨.agg #[(.int .i64 0), (.string ⟨#[]⟩), (.int .i64 0), (.int .i64 0), (.int .i64 0), (.int .i64 0), (.int .i64 0), (.bool false), (.string ⟨#[]⟩), (.bool false), (.int .i64 0)], by kernel_rfl, rfl, rfl, rfl, rfl⟩⟩) <| .cons (⟨⟨.slice none 0 0, by kernel_rfl, rfl, rfl, rfl, rfl⟩⟩) <| .cons (⟨⟨.agg #[(.int .i64 0), (.int .i64 0)], by kernel_rfl, rfl, rfl, rfl, rfl⟩⟩) <| .cons (⟨⟨.slice none 0 0, by kernel_rfl, rfl, rfl, rfl, rfl⟩⟩) <| .cons (⟨⟨.nilFunc, by kernel_rfl, rfl, rfl, rfl, rfl⟩⟩) <| .cons (⟨⟨.nilFunc, by kernel_rfl, rfl, rfl, rfl, rfl⟩⟩) <| .cons (⟨⟨.nilFunc, by kernel_rfl, rfl, rfl, rfl, rfl⟩⟩) <| .cons (⟨⟨.nilFunc, by kernel_rfl, rfl, rfl, rfl, rfl⟩⟩) <| .cons (⟨⟨.nilFunc, by kernel_rfl, rfl, rfl, rfl, rfl⟩⟩) <| .cons (⟨⟨.nilFunc, by kernel_rfl, rfl, rfl, rfl, rfl⟩⟩) <| .cons (⟨⟨.pointer none, by kernel_rfl, rfl, rfl, rfl, rfl⟩⟩) <| .cons (⟨⟨.slice none 0 0, by kernel_rfl, rfl, rfl, rfl, rfl⟩⟩) <| .cons (⟨⟨.map none, by kernel_rfl, rfl, rfl, rfl, rfl⟩⟩) <| .cons (⟨⟨.agg #[(.slice none 0 0), (.map none), (.slice none 0 0)], by kernel_rfl, rfl, rfl, rfl, rfl⟩⟩) <| .cons (⟨⟨.nilFunc, by kernel_rfl, rfl, rfl, rfl, rfl⟩⟩) <| .cons (⟨⟨.nilFunc, by kernel_rfl, rfl, rfl, rfl, rfl⟩⟩) <| .cons (⟨⟨.agg #[(.int .i64 0), (.string ⟨#[]⟩), (.int .i64 0), (.int .i64 0), (.int .i64 0), (.int .i64 0), (.int .i64 0), (.bool false), (.string ⟨#[]⟩), (.bool false), (.int .i64 0), (.int .i64 0), (.int .i64 0), (.int .i64 0), (.slice none 0 0)], by kernel_rfl, rfl, rfl, rfl, rfl⟩⟩) <| .cons (⟨⟨.nilFunc, by kernel_rfl, rfl, rfl, rfl, rfl⟩⟩) <| .cons (⟨⟨.nilFunc, by kernel_rfl, rfl, rfl, rfl, rfl⟩⟩) <| .cons (⟨⟨.nilFunc, by kernel_rfl, rfl, rfl, rfl, rfl⟩⟩) <| .cons (⟨⟨.nilFunc, by kernel_rfl, rfl, rfl, rfl, rfl⟩⟩) <| .cons (⟨⟨.nilFunc, by kernel_rfl, rfl, rfl, rfl, rfl⟩⟩) <| .cons (⟨⟨.nilFunc, by kernel_rfl, rfl, rfl, rfl, rfl⟩⟩) <| .cons (⟨⟨.nilFunc, by kernel_rfl, rfl, rfl, rfl, rfl⟩⟩) <| .cons (⟨⟨.nilFunc, by kernel_rfl, rfl, rfl, rfl, rfl⟩⟩) <| .cons (⟨⟨.agg #[(.int .i64 0)], by kernel_rfl, rfl, rfl, rfl, rfl⟩⟩) <| .cons (⟨⟨.nilFunc, by kernel_rfl, rfl, rfl, rfl, rfl⟩⟩) <| .cons (⟨⟨.nilFunc, by kernel_rfl, rfl, rfl, rfl, rfl⟩⟩) <| .cons (⟨⟨.agg #[(.nilFunc), (.nilFunc), (.nilFunc), (.nilFunc), (.nilFunc), (.nilFunc), (.nilFunc), (.nilFunc), (.nilFunc), (.nilFunc)], by kernel_rfl, rfl, rfl, rfl, rfl⟩⟩) <| .cons (⟨⟨.pointer none, by kernel_rfl, rfl, rfl, rfl, rfl⟩⟩) <| .cons (⟨⟨.map none, by kernel_rfl, rfl, rfl, rfl, rfl⟩⟩) <| .cons (⟨⟨.nilFunc, by kernel_rfl, rfl, rfl, rfl, rfl⟩⟩) <| .cons (⟨⟨.nilFunc, by kernel_rfl, rfl, rfl, rfl, rfl⟩⟩) <| .cons (⟨⟨.nilFunc, by kernel_rfl, rfl, rfl, rfl, rfl⟩⟩) <| .cons (⟨⟨.nilFunc, by kernel_rfl, rfl, rfl, rfl, rfl⟩⟩) <| .cons (⟨⟨.nilFunc, by kernel_rfl, rfl, rfl, rfl, rfl⟩⟩) <| .cons (⟨⟨.slice none 0 0, by kernel_rfl, rfl, rfl, rfl, rfl⟩⟩) <| .cons (⟨⟨.nilFunc, by kernel_rfl, rfl, rfl, rfl, rfl⟩⟩) <| .cons (⟨⟨.slice none 0 0, by kernel_rfl, rfl, rfl, rfl, rfl⟩⟩) <| .cons (⟨⟨.nilFunc, by kernel_rfl, rfl, rfl, rfl, rfl⟩⟩) <| .nil
theorem inf_bools : AllL (fun p : Nat × Unit => (Try.prog).underlying p.1 = some .bool) inf.bools := .cons (Try.underlying4) <| .nil
theorem inf_conc : AllL (fun p : Nat × Unit => ConT Try.prog p.1) inf.conc := .cons (⟨by kernel_rfl⟩) <| .cons (⟨by kernel_rfl⟩) <| .cons (⟨by kernel_rfl⟩) <| .cons (⟨by kernel_rfl⟩) <| .cons (⟨by kernel_rfl⟩) <| .cons (⟨by kernel_rfl⟩) <| .cons (⟨by kernel_rfl⟩) <| .cons (⟨by kernel_rfl⟩) <| .cons (⟨by kernel_rfl⟩) <| .cons (⟨by kernel_rfl⟩) <| .cons (⟨by kernel_rfl⟩) <| .cons (⟨by kernel_rfl⟩) <| .cons (⟨by kernel_rfl⟩) <| .cons (⟨by kernel_rfl⟩) <| .cons (⟨by kernel_rfl⟩) <| .cons (⟨by kernel_rfl⟩) <| .cons (⟨by kernel_rfl⟩) <| .cons (⟨by kernel_rfl⟩) <| .cons (⟨by kernel_rfl⟩) <| .cons (⟨by kernel_rfl⟩) <| .cons (⟨by kernel_rfl⟩) <| .cons (⟨by kernel_rfl⟩) <| .cons (⟨by kernel_rfl⟩) <| .cons (⟨by kernel_rfl⟩) <| .cons (⟨by kernel_rfl⟩) <| .cons (⟨by kernel_rfl⟩) <| .cons (⟨by kernel_rfl⟩) <| .cons (⟨by kernel_rfl⟩) <| .cons (⟨by kernel_rfl⟩) <| .cons (⟨by kernel_rfl⟩) <| .cons (⟨by kernel_rfl⟩) <| .cons (⟨by kernel_rfl⟩) <| .cons (⟨by kernel_rfl⟩) <| .cons (⟨by kernel_rfl⟩) <| .cons (⟨by kernel_rfl⟩) <| .cons (⟨by kernel_rfl⟩) <| .cons (⟨by kernel_rfl⟩) <| .cons (⟨by kernel_rfl⟩) <| .cons (⟨by kernel_rfl⟩) <| .cons (⟨by kernel_rfl⟩) <| .cons (⟨by kernel_rfl⟩) <| .cons (⟨by kernel_rfl⟩) <| .cons (⟨by kernel_rfl⟩) <| .cons (⟨by kernel_rfl⟩) <| .cons (⟨by kernel_rfl⟩) <| .cons (⟨by kernel_rfl⟩) <| .cons (⟨by kernel_rfl⟩) <| .cons (⟨by kernel_rfl⟩) <| .cons (⟨by kernel_rfl⟩) <| .cons (⟨by kernel_rfl⟩) <| .cons (⟨by kernel_rfl⟩) <| .cons (⟨by kernel_rfl⟩) <| .cons (⟨by kernel_rfl⟩) <| .cons (⟨by kernel_rfl⟩) <| .cons (⟨by kernel_rfl⟩) <| .cons (⟨by kernel_rfl⟩) <| .cons (⟨by kernel_rfl⟩) <| .cons (⟨by kernel_rfl⟩) <| .cons (⟨by kernel_rfl⟩) <| .cons (⟨by kernel_rfl⟩) <| .cons (⟨by kernel_rfl⟩) <| .nil
theorem inf_pl : AllL (fun p : Nat × List (Nat × Nat) => StrT Try.prog p.1 p.2) inf.pl := .cons (⟨⟨_, Try.underlying63, by kernel_rfl⟩⟩) <| .cons (⟨⟨_, Try.underlying69, by kernel_rfl⟩⟩) <| .cons (⟨⟨_, Try.underlying75, by kernel_rfl⟩⟩) <| .cons (⟨⟨_, Try.underlying86, by kernel_rfl⟩⟩) <| .cons (⟨⟨_, Try.underlying88, by kernel_rfl⟩⟩) <| .cons (⟨⟨_, Try.underlying90, by kernel_rfl⟩⟩) <| .cons (⟨⟨_, Try.underlying131, by kernel_rfl⟩⟩) <| .cons (⟨⟨_, Try.underlying144, by kernel_rfl⟩⟩) <| .cons (⟨⟨_, Try.underlying170, by kernel_rfl⟩⟩) <| .nil
theorem inf_eqs : AllL (fun p : Nat × EK => EqK Try.prog p.1 p.2) inf.eqs := .cons (⟨_, Try.underlying3⟩) <| .cons (Try.underlying4) <| .cons (⟨_, Try.underlying5⟩) <| .cons (Try.underlying9) <| .cons (⟨_, Try.underlying51⟩) <| .cons (⟨⟨_, Try.underlying63, rfl, by kernel_rfl⟩, by kernel_rfl, by kernel_rfl⟩) <| .cons (⟨⟨_, Try.underlying69, rfl, by kernel_rfl⟩, by kernel_rfl, by kernel_rfl⟩) <| .cons (⟨⟨_, Try.underlying75, rfl, by kernel_rfl⟩, by kernel_rfl, by kernel_rfl⟩) <| .cons (⟨⟨_, Try.underlying86, rfl, by kernel_rfl⟩, by kernel_rfl, by kernel_rfl⟩) <| .cons (⟨⟨_, Try.underlying88, rfl, by kernel_rfl⟩, by kernel_rfl, by kernel_rfl⟩) <| .cons (⟨⟨_, Try.underlying90, rfl, by kernel_rfl⟩, by kernel_rfl, by kernel_rfl⟩) <| .nil
instance infI : Inf Try.prog inf := ⟨inf_ty, inf_el, inf_fld, inf_zero, inf_bools, inf_conc, inf_pl, inf_eqs⟩
instance fun3 : Fun Try.prog 3 Try.f3 (bodyOf Try.f3) := ⟨Try.func3, rfl, by kernel_rfl⟩
instance fun4 : Fun Try.prog 4 Try.f4 (bodyOf Try.f4) := ⟨Try.func4, rfl, by kernel_rfl⟩
instance fun5 : Fun Try.prog 5 Try.f5 (bodyOf Try.f5) := ⟨Try.func5, rfl, by kernel_rfl⟩
instance fun6 : Fun Try.prog 6 Try.f6 (bodyOf Try.f6) := ⟨Try.func6, rfl, by kernel_rfl⟩
instance fun7 : Fun Try.prog 7 Try.f7 (bodyOf Try.f7) := ⟨Try.func7, rfl, by kernel_rfl⟩
instance fun8 : Fun Try.prog 8 Try.f8 (bodyOf Try.f8) := ⟨Try.func8, rfl, by kernel_rfl⟩
instance fun9 : Fun Try.prog 9 Try.f9 (bodyOf Try.f9) := ⟨Try.func9, rfl, by kernel_rfl⟩
instance fun10 : Fun Try.prog 10 Try.f10 (bodyOf Try.f10) := ⟨Try.func10, rfl, by kernel_rfl⟩
instance fun11 : Fun Try.prog 11 Try.f11 (bodyOf Try.f11) := ⟨Try.func11, rfl, by kernel_rfl⟩
instance fun12 : Fun Try.prog 12 Try.f12 (bodyOf Try.f12) := ⟨Try.func12, rfl, by kernel_rfl⟩
instance fun13 : Fun Try.prog 13 Try.f13 (bodyOf Try.f13) := ⟨Try.func13, rfl, by kernel_rfl⟩
instance fun14 : Fun Try.prog 14 Try.f14 (bodyOf Try.f14) := ⟨Try.func14, rfl, by kernel_rfl⟩
instance fun15 : Fun Try.prog 15 Try.f15 (bodyOf Try.f15) := ⟨Try.func15, rfl, by kernel_rfl⟩
instance fun16 : Fun Try.prog 16 Try.f16 (bodyOf Try.f16) := ⟨Try.func16, rfl, by kernel_rfl⟩
instance fun17 : Fun Try.prog 17 Try.f17 (bodyOf Try.f17) := ⟨Try.func17, rfl, by kernel_rfl⟩
instance fun18 : Fun Try.prog 18 Try.f18 (bodyOf Try.f18) := ⟨Try.func18, rfl, by kernel_rfl⟩
instance fun19 : Fun Try.prog 19 Try.f19 (bodyOf Try.f19) := ⟨Try.func19, rfl, by kernel_rfl⟩
instance fun20 : Fun Try.prog 20 Try.f20 (bodyOf Try.f20) := ⟨Try.func20, rfl, by kernel_rfl⟩
instance fun21 : Fun Try.prog 21 Try.f21 (bodyOf Try.f21) := ⟨Try.func21, rfl, by kernel_rfl⟩
instance fun22 : Fun Try.prog 22 Try.f22 (bodyOf Try.f22) := ⟨Try.func22, rfl, by kernel_rfl⟩
instance fun23 : Fun Try.prog 23 Try.f23 (bodyOf Try.f23) := ⟨Try.func23, rfl, by kernel_rfl⟩
instance fun24 : Fun Try.prog 24 Try.f24 (bodyOf Try.f24) := ⟨Try.func24, rfl, by kernel_rfl⟩
instance fun25 : Fun Try.prog 25 Try.f25 (bodyOf Try.f25) := ⟨Try.func25, rfl, by kernel_rfl⟩
instance fun26 : Fun Try.prog 26 Try.f26 (bodyOf Try.f26) := ⟨Try.func26, rfl, by kernel_rfl⟩
instance fun27 : Fun Try.prog 27 Try.f27 (bodyOf Try.f27) := ⟨Try.func27, rfl, by kernel_rfl⟩
instance fun28 : Fun Try.prog 28 Try.f28 (bodyOf Try.f28) := ⟨Try.func28, rfl, by kernel_rfl⟩
instance fun29 : Fun Try.prog 29 Try.f29 (bodyOf Try.f29) := ⟨Try.func29, rfl, by kernel_rfl⟩
instance fun30 : Fun Try.prog 30 Try.f30 (bodyOf Try.f30) := ⟨Try.func30, rfl, by kernel_rfl⟩
instance fun31 : Fun Try.prog 31 Try.f31 (bodyOf Try.f31) := ⟨Try.func31, rfl, by kernel_rfl⟩
instance fun32 : Fun Try.prog 32 Try.f32 (bodyOf Try.f32) := ⟨Try.func32, rfl, by kernel_rfl⟩
instance fun33 : Fun Try.prog 33 Try.f33 (bodyOf Try.f33) := ⟨Try.func33, rfl, by kernel_rfl⟩
instance fun34 : Fun Try.prog 34 Try.f34 (bodyOf Try.f34) := ⟨Try.func34, rfl, by kernel_rfl⟩
instance fun35 : Fun Try.prog 35 Try.f35 (bodyOf Try.f35) := ⟨Try.func35, rfl, by kernel_rfl⟩
instance fun36 : Fun Try.prog 36 Try.f36 (bodyOf Try.f36) := ⟨Try.func36, rfl, by kernel_rfl⟩
instance fun37 : Fun Try.prog 37 Try.f37 (bodyOf Try.f37) := ⟨Try.func37, rfl, by kernel_rfl⟩
instance fun38 : Fun Try.prog 38 Try.f38 (bodyOf Try.f38) := ⟨Try.func38, rfl, by kernel_rfl⟩
instance fun39 : Fun Try.prog 39 Try.f39 (bodyOf Try.f39) := ⟨Try.func39, rfl, by kernel_rfl⟩
instance fun40 : Fun Try.prog 40 Try.f40 (bodyOf Try.f40) := ⟨Try.func40, rfl, by kernel_rfl⟩
instance fun41 : Fun Try.prog 41 Try.f41 (bodyOf Try.f41) := ⟨Try.func41, rfl, by kernel_rfl⟩
instance fun42 : Fun Try.prog 42 Try.f42 (bodyOf Try.f42) := ⟨Try.func42, rfl, by kernel_rfl⟩
instance fun43 : Fun Try.prog 43 Try.f43 (bodyOf Try.f43) := ⟨Try.func43, rfl, by kernel_rfl⟩
instance fun44 : Fun Try.prog 44 Try.f44 (bodyOf Try.f44) := ⟨Try.func44, rfl, by kernel_rfl⟩
instance fun45 : Fun Try.prog 45 Try.f45 (bodyOf Try.f45) := ⟨Try.func45, rfl, by kernel_rfl⟩
instance fun46 : Fun Try.prog 46 Try.f46 (bodyOf Try.f46) := ⟨Try.func46, rfl, by kernel_rfl⟩
instance fun47 : Fun Try.prog 47 Try.f47 (bodyOf Try.f47) := ⟨Try.func47, rfl, by kernel_rfl⟩
instance fun48 : Fun Try.prog 48 Try.f48 (bodyOf Try.f48) := ⟨Try.func48, rfl, by kernel_rfl⟩
instance fun49 : Fun Try.prog 49 Try.f49 (bodyOf Try.f49) := ⟨Try.func49, rfl, by kernel_rfl⟩
instance fun50 : Fun Try.prog 50 Try.f50 (bodyOf Try.f50) := ⟨Try.func50, rfl, by kernel_rfl⟩
instance fun51 : Fun Try.prog 51 Try.f51 (bodyOf Try.f51) := ⟨Try.func51, rfl, by kernel_rfl⟩
instance fun52 : Fun Try.prog 52 Try.f52 (bodyOf Try.f52) := ⟨Try.func52, rfl, by kernel_rfl⟩
instance fun53 : Fun Try.prog 53 Try.f53 (bodyOf Try.f53) := ⟨Try.func53, rfl, by kernel_rfl⟩
instance fun54 : Fun Try.prog 54 Try.f54 (bodyOf Try.f54) := ⟨Try.func54, rfl, by kernel_rfl⟩
instance fun55 : Fun Try.prog 55 Try.f55 (bodyOf Try.f55) := ⟨Try.func55, rfl, by kernel_rfl⟩
instance fun56 : Fun Try.prog 56 Try.f56 (bodyOf Try.f56) := ⟨Try.func56, rfl, by kernel_rfl⟩
instance fun57 : Fun Try.prog 57 Try.f57 (bodyOf Try.f57) := ⟨Try.func57, rfl, by kernel_rfl⟩
instance fun58 : Fun Try.prog 58 Try.f58 (bodyOf Try.f58) := ⟨Try.func58, rfl, by kernel_rfl⟩
instance fun59 : Fun Try.prog 59 Try.f59 (bodyOf Try.f59) := ⟨Try.func59, rfl, by kernel_rfl⟩
instance fun60 : Fun Try.prog 60 Try.f60 (bodyOf Try.f60) := ⟨Try.func60, rfl, by kernel_rfl⟩
instance fun61 : Fun Try.prog 61 Try.f61 (bodyOf Try.f61) := ⟨Try.func61, rfl, by kernel_rfl⟩
instance fun62 : Fun Try.prog 62 Try.f62 (bodyOf Try.f62) := ⟨Try.func62, rfl, by kernel_rfl⟩
instance fun63 : Fun Try.prog 63 Try.f63 (bodyOf Try.f63) := ⟨Try.func63, rfl, by kernel_rfl⟩
instance fun64 : Fun Try.prog 64 Try.f64 (bodyOf Try.f64) := ⟨Try.func64, rfl, by kernel_rfl⟩
instance fun65 : Fun Try.prog 65 Try.f65 (bodyOf Try.f65) := ⟨Try.func65, rfl, by kernel_rfl⟩
instance fun66 : Fun Try.prog 66 Try.f66 (bodyOf Try.f66) := ⟨Try.func66, rfl, by kernel_rfl⟩
instance fun67 : Fun Try.prog 67 Try.f67 (bodyOf Try.f67) := ⟨Try.func67, rfl, by kernel_rfl⟩
instance fun68 : Fun Try.prog 68 Try.f68 (bodyOf Try.f68) := ⟨Try.func68, rfl, by kernel_rfl⟩
instance fun69 : Fun Try.prog 69 Try.f69 (bodyOf Try.f69) := ⟨Try.func69, rfl, by kernel_rfl⟩
instance fun70 : Fun Try.prog 70 Try.f70 (bodyOf Try.f70) := ⟨Try.func70, rfl, by kernel_rfl⟩
instance fun71 : Fun Try.prog 71 Try.f71 (bodyOf Try.f71) := ⟨Try.func71, rfl, by kernel_rfl⟩
instance fun72 : Fun Try.prog 72 Try.f72 (bodyOf Try.f72) := ⟨Try.func72, rfl, by kernel_rfl⟩
instance fun73 : Fun Try.prog 73 Try.f73 (bodyOf Try.f73) := ⟨Try.func73, rfl, by kernel_rfl⟩
instance fun74 : Fun Try.prog 74 Try.f74 (bodyOf Try.f74) := ⟨Try.func74, rfl, by kernel_rfl⟩
instance fun75 : Fun Try.prog 75 Try.f75 (bodyOf Try.f75) := ⟨Try.func75, rfl, by kernel_rfl⟩
instance fun76 : Fun Try.prog 76 Try.f76 (bodyOf Try.f76) := ⟨Try.func76, rfl, by kernel_rfl⟩
instance fun77 : Fun Try.prog 77 Try.f77 (bodyOf Try.f77) := ⟨Try.func77, rfl, by kernel_rfl⟩
instance fun78 : Fun Try.prog 78 Try.f78 (bodyOf Try.f78) := ⟨Try.func78, rfl, by kernel_rfl⟩
instance fun79 : Fun Try.prog 79 Try.f79 (bodyOf Try.f79) := ⟨Try.func79, rfl, by kernel_rfl⟩
instance fun80 : Fun Try.prog 80 Try.f80 (bodyOf Try.f80) := ⟨Try.func80, rfl, by kernel_rfl⟩
instance fun81 : Fun Try.prog 81 Try.f81 (bodyOf Try.f81) := ⟨Try.func81, rfl, by kernel_rfl⟩
instance fun82 : Fun Try.prog 82 Try.f82 (bodyOf Try.f82) := ⟨Try.func82, rfl, by kernel_rfl⟩
instance fun83 : Fun Try.prog 83 Try.f83 (bodyOf Try.f83) := ⟨Try.func83, rfl, by kernel_rfl⟩
instance fun84 : Fun Try.prog 84 Try.f84 (bodyOf Try.f84) := ⟨Try.func84, rfl, by kernel_rfl⟩
instance fun85 : Fun Try.prog 85 Try.f85 (bodyOf Try.f85) := ⟨Try.func85, rfl, by kernel_rfl⟩
instance fun86 : Fun Try.prog 86 Try.f86 (bodyOf Try.f86) := ⟨Try.func86, rfl, by kernel_rfl⟩
instance fun87 : Fun Try.prog 87 Try.f87 (bodyOf Try.f87) := ⟨Try.func87, rfl, by kernel_rfl⟩
instance fun88 : Fun Try.prog 88 Try.f88 (bodyOf Try.f88) := ⟨Try.func88, rfl, by kernel_rfl⟩
instance fun89 : Fun Try.prog 89 Try.f89 (bodyOf Try.f89) := ⟨Try.func89, rfl, by kernel_rfl⟩
instance fun90 : Fun Try.prog 90 Try.f90 (bodyOf Try.f90) := ⟨Try.func90, rfl, by kernel_rfl⟩
instance fun91 : Fun Try.prog 91 Try.f91 (bodyOf Try.f91) := ⟨Try.func91, rfl, by kernel_rfl⟩
instance fun92 : Fun Try.prog 92 Try.f92 (bodyOf Try.f92) := ⟨Try.func92, rfl, by kernel_rfl⟩
instance fun93 : Fun Try.prog 93 Try.f93 (bodyOf Try.f93) := ⟨Try.func93, rfl, by kernel_rfl⟩
instance fun94 : Fun Try.prog 94 Try.f94 (bodyOf Try.f94) := ⟨Try.func94, rfl, by kernel_rfl⟩
instance fun95 : Fun Try.prog 95 Try.f95 (bodyOf Try.f95) := ⟨Try.func95, rfl, by kernel_rfl⟩
instance fun96 : Fun Try.prog 96 Try.f96 (bodyOf Try.f96) := ⟨Try.func96, rfl, by kernel_rfl⟩
instance fun97 : Fun Try.prog 97 Try.f97 (bodyOf Try.f97) := ⟨Try.func97, rfl, by kernel_rfl⟩
instance fun98 : Fun Try.prog 98 Try.f98 (bodyOf Try.f98) := ⟨Try.func98, rfl, by kernel_rfl⟩
instance fun99 : Fun Try.prog 99 Try.f99 (bodyOf Try.f99) := ⟨Try.func99, rfl, by kernel_rfl⟩
instance fun100 : Fun Try.prog 100 Try.f100 (bodyOf Try.f100) := ⟨Try.func100, rfl, by kernel_rfl⟩
instance fun101 : Fun Try.prog 101 Try.f101 (bodyOf Try.f101) := ⟨Try.func101, rfl, by kernel_rfl⟩
instance fun102 : Fun Try.prog 102 Try.f102 (bodyOf Try.f102) := ⟨Try.func102, rfl, by kernel_rfl⟩
instance fun103 : Fun Try.prog 103 Try.f103 (bodyOf Try.f103) := ⟨Try.func103, rfl, by kernel_rfl⟩
instance fun104 : Fun Try.prog 104 Try.f104 (bodyOf Try.f104) := ⟨Try.func104, rfl, by kernel_rfl⟩
instance fun105 : Fun Try.prog 105 Try.f105 (bodyOf Try.f105) := ⟨Try.func105, rfl, by kernel_rfl⟩
instance fun106 : Fun Try.prog 106 Try.f106 (bodyOf Try.f106) := ⟨Try.func106, rfl, by kernel_rfl⟩
instance fun107 : Fun Try.prog 107 Try.f107 (bodyOf Try.f107) := ⟨Try.func107, rfl, by kernel_rfl⟩
instance fun108 : Fun Try.prog 108 Try.f108 (bodyOf Try.f108) := ⟨Try.func108, rfl, by kernel_rfl⟩
instance fun109 : Fun Try.prog 109 Try.f109 (bodyOf Try.f109) := ⟨Try.func109, rfl, by kernel_rfl⟩
instance fun110 : Fun Try.prog 110 Try.f110 (bodyOf Try.f110) := ⟨Try.func110, rfl, by kernel_rfl⟩
instance fun111 : Fun Try.prog 111 Try.f111 (bodyOf Try.f111) := ⟨Try.func111, rfl, by kernel_rfl⟩
instance fun112 : Fun Try.prog 112 Try.f112 (bodyOf Try.f112) := ⟨Try.func112, rfl, by kernel_rfl⟩
instance fun113 : Fun Try.prog 113 Try.f113 (bodyOf Try.f113) := ⟨Try.func113, rfl, by kernel_rfl⟩
instance fun114 : Fun Try.prog 114 Try.f114 (bodyOf Try.f114) := ⟨Try.func114, rfl, by kernel_rfl⟩
instance fun115 : Fun Try.prog 115 Try.f115 (bodyOf Try.f115) := ⟨Try.func115, rfl, by kernel_rfl⟩
instance fun116 : Fun Try.prog 116 Try.f116 (bodyOf Try.f116) := ⟨Try.func116, rfl, by kernel_rfl⟩
instance fun117 : Fun Try.prog 117 Try.f117 (bodyOf Try.f117) := ⟨Try.func117, rfl, by kernel_rfl⟩
instance fun118 : Fun Try.prog 118 Try.f118 (bodyOf Try.f118) := ⟨Try.func118, rfl, by kernel_rfl⟩
instance fun119 : Fun Try.prog 119 Try.f119 (bodyOf Try.f119) := ⟨Try.func119, rfl, by kernel_rfl⟩
instance fun120 : Fun Try.prog 120 Try.f120 (bodyOf Try.f120) := ⟨Try.func120, rfl, by kernel_rfl⟩
instance fun121 : Fun Try.prog 121 Try.f121 (bodyOf Try.f121) := ⟨Try.func121, rfl, by kernel_rfl⟩
instance fun122 : Fun Try.prog 122 Try.f122 (bodyOf Try.f122) := ⟨Try.func122, rfl, by kernel_rfl⟩
instance fun123 : Fun Try.prog 123 Try.f123 (bodyOf Try.f123) := ⟨Try.func123, rfl, by kernel_rfl⟩
instance fun124 : Fun Try.prog 124 Try.f124 (bodyOf Try.f124) := ⟨Try.func124, rfl, by kernel_rfl⟩
instance fun125 : Fun Try.prog 125 Try.f125 (bodyOf Try.f125) := ⟨Try.func125, rfl, by kernel_rfl⟩
instance fun126 : Fun Try.prog 126 Try.f126 (bodyOf Try.f126) := ⟨Try.func126, rfl, by kernel_rfl⟩
instance fun127 : Fun Try.prog 127 Try.f127 (bodyOf Try.f127) := ⟨Try.func127, rfl, by kernel_rfl⟩
instance fun128 : Fun Try.prog 128 Try.f128 (bodyOf Try.f128) := ⟨Try.func128, rfl, by kernel_rfl⟩
instance fun129 : Fun Try.prog 129 Try.f129 (bodyOf Try.f129) := ⟨Try.func129, rfl, by kernel_rfl⟩
instance fun130 : Fun Try.prog 130 Try.f130 (bodyOf Try.f130) := ⟨Try.func130, rfl, by kernel_rfl⟩
instance fun131 : Fun Try.prog 131 Try.f131 (bodyOf Try.f131) := ⟨Try.func131, rfl, by kernel_rfl⟩
instance fun132 : Fun Try.prog 132 Try.f132 (bodyOf Try.f132) := ⟨Try.func132, rfl, by kernel_rfl⟩
instance fun133 : Fun Try.prog 133 Try.f133 (bodyOf Try.f133) := ⟨Try.func133, rfl, by kernel_rfl⟩
instance fun134 : Fun Try.prog 134 Try.f134 (bodyOf Try.f134) := ⟨Try.func134, rfl, by kernel_rfl⟩
instance fun135 : Fun Try.prog 135 Try.f135 (bodyOf Try.f135) := ⟨Try.func135, rfl, by kernel_rfl⟩
instance fun136 : Fun Try.prog 136 Try.f136 (bodyOf Try.f136) := ⟨Try.func136, rfl, by kernel_rfl⟩
instance fun137 : Fun Try.prog 137 Try.f137 (bodyOf Try.f137) := ⟨Try.func137, rfl, by kernel_rfl⟩
instance fun138 : Fun Try.prog 138 Try.f138 (bodyOf Try.f138) := ⟨Try.func138, rfl, by kernel_rfl⟩
instance fun139 : Fun Try.prog 139 Try.f139 (bodyOf Try.f139) := ⟨Try.func139, rfl, by kernel_rfl⟩
instance fun140 : Fun Try.prog 140 Try.f140 (bodyOf Try.f140) := ⟨Try.func140, rfl, by kernel_rfl⟩
instance fun141 : Fun Try.prog 141 Try.f141 (bodyOf Try.f141) := ⟨Try.func141, rfl, by kernel_rfl⟩
instance fun142 : Fun Try.prog 142 Try.f142 (bodyOf Try.f142) := ⟨Try.func142, rfl, by kernel_rfl⟩
instance fun143 : Fun Try.prog 143 Try.f143 (bodyOf Try.f143) := ⟨Try.func143, rfl, by kernel_rfl⟩
instance fun144 : Fun Try.prog 144 Try.f144 (bodyOf Try.f144) := ⟨Try.func144, rfl, by kernel_rfl⟩
instance fun145 : Fun Try.prog 145 Try.f145 (bodyOf Try.f145) := ⟨Try.func145, rfl, by kernel_rfl⟩
instance fun146 : Fun Try.prog 146 Try.f146 (bodyOf Try.f146) := ⟨Try.func146, rfl, by kernel_rfl⟩
instance fun147 : Fun Try.prog 147 Try.f147 (bodyOf Try.f147) := ⟨Try.func147, rfl, by kernel_rfl⟩
instance fun148 : Fun Try.prog 148 Try.f148 (bodyOf Try.f148) := ⟨Try.func148, rfl, by kernel_rfl⟩
instance fun149 : Fun Try.prog 149 Try.f149 (bodyOf Try.f149) := ⟨Try.func149, rfl, by kernel_rfl⟩
instance fun150 : Fun Try.prog 150 Try.f150 (bodyOf Try.f150) := ⟨Try.func150, rfl, by kernel_rfl⟩
instance fun151 : Fun Try.prog 151 Try.f151 (bodyOf Try.f151) := ⟨Try.func151, rfl, by kernel_rfl⟩
instance fun152 : Fun Try.prog 152 Try.f152 (bodyOf Try.f152) := ⟨Try.func152, rfl, by kernel_rfl⟩
instance fun153 : Fun Try.prog 153 Try.f153 (bodyOf Try.f153) := ⟨Try.func153, rfl, by kernel_rfl⟩
instance fun154 : Fun Try.prog 154 Try.f154 (bodyOf Try.f154) := ⟨Try.func154, rfl, by kernel_rfl⟩
instance fun155 : Fun Try.prog 155 Try.f155 (bodyOf Try.f155) := ⟨Try.func155, rfl, by kernel_rfl⟩
instance fun156 : Fun Try.prog 156 Try.f156 (bodyOf Try.f156) := ⟨Try.func156, rfl, by kernel_rfl⟩
instance fun157 : Fun Try.prog 157 Try.f157 (bodyOf Try.f157) := ⟨Try.func157, rfl, by kernel_rfl⟩
instance fun158 : Fun Try.prog 158 Try.f158 (bodyOf Try.f158) := ⟨Try.func158, rfl, by kernel_rfl⟩
instance fun159 : Fun Try.prog 159 Try.f159 (bodyOf Try.f159) := ⟨Try.func159, rfl, by kernel_rfl⟩
instance fun160 : Fun Try.prog 160 Try.f160 (bodyOf Try.f160) := ⟨Try.func160, rfl, by kernel_rfl⟩
instance fun161 : Fun Try.prog 161 Try.f161 (bodyOf Try.f161) := ⟨Try.func161, rfl, by kernel_rfl⟩
instance fun162 : Fun Try.prog 162 Try.f162 (bodyOf Try.f162) := ⟨Try.func162, rfl, by kernel_rfl⟩
instance fun163 : Fun Try.prog 163 Try.f163 (bodyOf Try.f163) := ⟨Try.func163, rfl, by kernel_rfl⟩
instance fun164 : Fun Try.prog 164 Try.f164 (bodyOf Try.f164) := ⟨Try.func164, rfl, by kernel_rfl⟩
instance fun165 : Fun Try.prog 165 Try.f165 (bodyOf Try.f165) := ⟨Try.func165, rfl, by kernel_rfl⟩
instance fun166 : Fun Try.prog 166 Try.f166 (bodyOf Try.f166) := ⟨Try.func166, rfl, by kernel_rfl⟩
instance fun167 : Fun Try.prog 167 Try.f167 (bodyOf Try.f167) := ⟨Try.func167, rfl, by kernel_rfl⟩
instance fun168 : Fun Try.prog 168 Try.f168 (bodyOf Try.f168) := ⟨Try.func168, rfl, by kernel_rfl⟩
instance fun169 : Fun Try.prog 169 Try.f169 (bodyOf Try.f169) := ⟨Try.func169, rfl, by kernel_rfl⟩
instance fun170 : Fun Try.prog 170 Try.f170 (bodyOf Try.f170) := ⟨Try.func170, rfl, by kernel_rfl⟩
instance fun171 : Fun Try.prog 171 Try.f171 (bodyOf Try.f171) := ⟨Try.func171, rfl, by kernel_rfl⟩
instance fun172 : Fun Try.prog 172 Try.f172 (bodyOf Try.f172) := ⟨Try.func172, rfl, by kernel_rfl⟩
instance fun173 : Fun Try.prog 173 Try.f173 (bodyOf Try.f173) := ⟨Try.func173, rfl, by kernel_rfl⟩
instance fun174 : Fun Try.prog 174 Try.f174 (bodyOf Try.f174) := ⟨Try.func174, rfl, by kernel_rfl⟩
instance fun175 : Fun Try.prog 175 Try.f175 (bodyOf Try.f175) := ⟨Try.func175, rfl, by kernel_rfl⟩
instance fun176 : Fun Try.prog 176 Try.f176 (bodyOf Try.f176) := ⟨Try.func176, rfl, by kernel_rfl⟩
instance fun177 : Fun Try.prog 177 Try.f177 (bodyOf Try.f177) := ⟨Try.func177, rfl, by kernel_rfl⟩
instance fun178 : Fun Try.prog 178 Try.f178 (bodyOf Try.f178) := ⟨Try.func178, rfl, by kernel_rfl⟩
instance fun179 : Fun Try.prog 179 Try.f179 (bodyOf Try.f179) := ⟨Try.func179, rfl, by kernel_rfl⟩
instance fun180 : Fun Try.prog 180 Try.f180 (bodyOf Try.f180) := ⟨Try.func180, rfl, by kernel_rfl⟩
instance fun181 : Fun Try.prog 181 Try.f181 (bodyOf Try.f181) := ⟨Try.func181, rfl, by kernel_rfl⟩
instance fun182 : Fun Try.prog 182 Try.f182 (bodyOf Try.f182) := ⟨Try.func182, rfl, by kernel_rfl⟩
instance fun183 : Fun Try.prog 183 Try.f183 (bodyOf Try.f183) := ⟨Try.func183, rfl, by kernel_rfl⟩
instance fun184 : Fun Try.prog 184 Try.f184 (bodyOf Try.f184) := ⟨Try.func184, rfl, by kernel_rfl⟩
instance fun185 : Fun Try.prog 185 Try.f185 (bodyOf Try.f185) := ⟨Try.func185, rfl, by kernel_rfl⟩
instance fun186 : Fun Try.prog 186 Try.f186 (bodyOf Try.f186) := ⟨Try.func186, rfl, by kernel_rfl⟩
instance fun187 : Fun Try.prog 187 Try.f187 (bodyOf Try.f187) := ⟨Try.func187, rfl, by kernel_rfl⟩
instance fun188 : Fun Try.prog 188 Try.f188 (bodyOf Try.f188) := ⟨Try.func188, rfl, by kernel_rfl⟩
instance fun189 : Fun Try.prog 189 Try.f189 (bodyOf Try.f189) := ⟨Try.func189, rfl, by kernel_rfl⟩
instance fun190 : Fun Try.prog 190 Try.f190 (bodyOf Try.f190) := ⟨Try.func190, rfl, by kernel_rfl⟩
instance fun191 : Fun Try.prog 191 Try.f191 (bodyOf Try.f191) := ⟨Try.func191, rfl, by kernel_rfl⟩
instance fun192 : Fun Try.prog 192 Try.f192 (bodyOf Try.f192) := ⟨Try.func192, rfl, by kernel_rfl⟩
instance fun193 : Fun Try.prog 193 Try.f193 (bodyOf Try.f193) := ⟨Try.func193, rfl, by kernel_rfl⟩
instance fun194 : Fun Try.prog 194 Try.f194 (bodyOf Try.f194) := ⟨Try.func194, rfl, by kernel_rfl⟩
instance fun195 : Fun Try.prog 195 Try.f195 (bodyOf Try.f195) := ⟨Try.func195, rfl, by kernel_rfl⟩
instance fun196 : Fun Try.prog 196 Try.f196 (bodyOf Try.f196) := ⟨Try.func196, rfl, by kernel_rfl⟩
end Go.Iron.Try

/- The array package's functions (seat Ytamhonbhoelohaa): copies and comparisons. -/
namespace Go.Iron.Try
open Go.Proofs
abbrev iv (n : Int) : AV := .val (.int .i64 n)
abbrev bv (b : Bool) : AV := .val (.bool b)
abbrev Dim := Int × Int
def dimR (ds : List Dim) : Nat → List AV := fun i => [iv (ds.getD i (0, 0)).1, iv (ds.getD i (0, 0)).2]
def dimS (nl : Option Bool) (ds : List Dim) : AV := .slc 2 nl ds.length (dimR ds)
def intR (xs : List Int) : Nat → List AV := fun i => [iv (xs.getD i 0)]
def intS (nl : Option Bool) (xs : List Int) : AV := .slc 1 nl xs.length (intR xs)
theorem w64 {x : Int} (h1 : -9223372036854775808 ≤ x) (h2 : x ≤ 9223372036854775807) : IntKind.wrap .i64 x = x := IntWalk.i64_in x (by omega)
theorem obs_cons {c d : Bool} {l : Ob} : Obs ((c, d) :: l) ↔ (c = true → d = true) ∧ Obs l :=
  ⟨fun h => ⟨fun hc => h (c, d) (by simp) hc, fun p hp => h p (List.mem_cons_of_mem _ hp)⟩, fun h => obs_by h.1 h.2⟩
theorem obs_nil' : Obs [] ↔ True := ⟨fun _ => trivial, fun _ => obs_nil⟩
theorem ieq {a b : Nat} (h : (a : Int) = b) : a = b := by omega
theorem appR_zero (r r2 : Nat → List AV) : appR 0 r r2 = r2 := by funext i; exact appR_ge (Nat.zero_le i)

theorem take_next {α : Type} {d : α} {xs ys : List α} {i : Nat} (hl : xs.length = ys.length) (hi : i < xs.length) (hp : xs.take i = ys.take i) (h : xs.getD i d = ys.getD i d) : xs.take (i + 1) = ys.take (i + 1) := by
  rw [List.take_succ_eq_append_getElem hi, List.take_succ_eq_append_getElem (hl ▸ hi), hp]
  simp only [List.getD_eq_getElem?_getD, List.getElem?_eq_getElem hi, List.getElem?_eq_getElem (hl ▸ hi : i < ys.length), Option.getD_some] at h
  rw [h]

theorem stay_dims (nl : Option Bool) (ds : List Dim) (hb : ds.length * 16 ≤ 140737488355328) : CallT Try.prog 11 [dimS nl ds] [] (fun out A => out = .ret (dimS none ds) ∧ A = []) := by
  refine callT_body (n := 6) rfl rfl fun w ρ X => ?_
  refine run_x (I := inf) 99 rfl (by simp only [app, obs_cons, obs_nil']; simp [hb]) ?_
  refine run_freeze 2 rfl rfl rfl (fun i hi => by rw [appR_zero]; rfl) ?_
  refine run_drop 0 (Nat.le_refl _) rfl .nil ?_
  refine run_ret (.tmp .nil) ⟨?_, rfl⟩
  show Out.ret (.slc 2 none (0 + ds.length) _) = _
  rw [appR_zero, Nat.zero_add]
  rfl

theorem stay_ints (nl : Option Bool) (xs : List Int) (hb : xs.length * 8 ≤ 140737488355328) : CallT Try.prog 12 [intS nl xs] [] (fun out A => out = .ret (intS none xs) ∧ A = []) := by
  refine callT_body (n := 6) rfl rfl fun w ρ X => ?_
  refine run_x (I := inf) 99 rfl (by simp only [app, obs_cons, obs_nil']; simp [hb]) ?_
  refine run_freeze 2 rfl rfl rfl (fun i hi => by rw [appR_zero]; rfl) ?_
  refine run_drop 0 (Nat.le_refl _) rfl .nil ?_
  refine run_ret (.tmp .nil) ⟨?_, rfl⟩
  show Out.ret (.slc 1 none (0 + xs.length) _) = _
  rw [appR_zero, Nat.zero_add]
  rfl

theorem stay_sameDims (n1 n2 : Option Bool) (xs ys : List Dim) (hb : xs.length < 9223372036854775807) : CallT Try.prog 14 [dimS n1 xs, dimS n2 ys] [] (fun out A => out = .ret (bv (decide (xs = ys))) ∧ A = []) := by
  refine callT_body (n := 26) rfl rfl fun w ρ X => ?_
  refine run_x (I := inf) 99 rfl (by simp only [app, obs_cons, obs_nil']) ?_
  refine run_cond rfl (fun h => ?_) (fun h => ?_)
  · refine run_x (I := inf) 99 rfl (by simp only [app, obs_cons, obs_nil']) ?_
    refine run_drop 0 (Nat.le_refl _) rfl .nil (run_ret (.tmp .nil) ⟨?_, rfl⟩)
    show Out.ret (bv false) = _
    have : xs ≠ ys := fun e => by subst e; simp at h
    simp [this]
  · have hl : xs.length = ys.length := ieq (by simpa using h)
    refine run_x (I := inf) 99 rfl (by simp only [app, obs_cons, obs_nil']) ?_
    refine run_while (fun (i : Nat) τ ar => (τ 0 = dimS n1 xs ∧ τ 1 = dimS n2 ys ∧ τ 5 = iv i) ∧ ar = [] ∧ i ≤ xs.length ∧ xs.take i = ys.take i) (fun i => xs.length - i) 0 ⟨⟨rfl, rfl, rfl⟩, rfl, Nat.zero_le _, rfl⟩ ?_
    rintro i τ' ar' ⟨⟨h0, h1, h5⟩, rfl, hi, hp⟩ ih
    refine run_says 0 h0 (Says.refl _) (run_says 1 (by exact h1) (Says.refl _) (run_says 5 (by exact h5) (Says.refl _) ?_))
    refine run_x (I := inf) 99 rfl (by simp only [app, obs_cons, obs_nil']) ?_
    refine run_cond rfl (fun hlt => ?_) (fun hlt => ?_)
    · have hlt' : i < xs.length := by simpa using hlt
      refine run_x (I := inf) 99 rfl (by simp only [app, obs_cons, obs_nil']) ?_
      refine run_draw 9 (by kernel_rfl) (by kernel_rfl) (lex_x (I := inf) 99 rfl rfl (by simp only [app, obs_cons, obs_nil']; simp [inB, hlt', ← hl]) lex_nil) ?_
      refine run_x (I := inf) 99 rfl (by simp only [app, obs_cons, obs_nil']) ?_
      refine run_cond rfl (fun hne => ?_) (fun hne => ?_)
      · refine run_x (I := inf) 99 rfl (by simp only [app, obs_cons, obs_nil']) ?_
        refine run_drop 0 (Nat.le_refl _) rfl .nil (run_ret (.tmp .nil) ⟨?_, rfl⟩)
        show Out.ret (bv false) = _
        have : xs ≠ ys := fun e => by subst e; simp at hne
        simp [this]
      · refine run_x (I := inf) 99 rfl (by simp only [app, obs_cons, obs_nil']) ?_
        have hs : IntKind.wrap .i64 ((i : Int) + 1) = ((i + 1 : Nat) : Int) := by rw [w64] <;> omega
        refine ih (i + 1) _ _ (by omega) ⟨⟨rfl, rfl, ?_⟩, rfl, by omega, ?_⟩
        · show iv (IntKind.wrap .i64 ((i : Int) + 1)) = _
          rw [hs]
        · refine take_next (d := (0, 0)) hl hlt' hp ?_
          simp at hne
          exact Prod.ext hne.1 hne.2
    · refine run_x (I := inf) 99 rfl (by simp only [app, obs_cons, obs_nil']) ?_
      refine run_drop 0 (Nat.le_refl _) rfl .nil (run_ret (.tmp .nil) ⟨?_, rfl⟩)
      show Out.ret (bv true) = _
      have hi' : i = xs.length := by simp at hlt; omega
      subst hi'
      have : xs = ys := by rw [List.take_length] at hp; rw [hp, hl, List.take_length]
      simp [this]
end Go.Iron.Try

/- The array package's functions (seat Ytamhonbhoelohaa): bounds, their number. -/
namespace Go.Iron.Try
open Go.Proofs

/-- How many subscripts a dimension has. -/
def ext (d : Dim) : Int := d.2 - d.1 + 1
def badD (d : Dim) : Bool := decide (d.1 < -32768) || decide (d.2 ≥ 32768) || decide (d.1 > d.2)
def validL : Int → List Dim → Bool
  | _, [] => true
  | n, d :: l => if badD d then false else if n * ext d > 200 then false else validL (n * ext d) l
def validD (ds : List Dim) : Bool := decide (1 ≤ ds.length) && decide (ds.length ≤ 3) && validL 1 ds
def prodL : Int → List Dim → Int
  | n, [] => n
  | n, d :: l => prodL (n * ext d) l
def items (ds : List Dim) : Int := prodL 1 ds

theorem extent (d : Dim) (h1 : -32768 ≤ d.1) (h2 : d.1 ≤ d.2) (h3 : d.2 < 32768) : CallT Try.prog 96 [.agg [iv d.1, iv d.2]] [] (fun out A => out = .ret (iv (ext d)) ∧ A = []) := by
  refine callT_body (n := 9) rfl rfl fun w ρ X => ?_
  refine run_x (I := inf) 99 rfl (by repeat (first | exact obs_nil | refine obs_same ?_ | refine obs_and ?_ | refine obs_by (by (simp [inB] <;> omega)) ?_)) ?_
  refine run_retX (I := inf) 0 rfl (Nat.le_refl _) rfl .nil rfl ⟨?_, rfl⟩
  show Out.ret (iv (IntKind.wrap .i64 (IntKind.wrap .i64 (d.2 - d.1) + 1))) = _
  rw [w64 (x := d.2 - d.1) (by omega) (by omega), w64 (by omega) (by omega)]
  rfl

theorem getD_drop {α : Type} {d : α} {xs : List α} {i : Nat} (h : i < xs.length) : xs.drop i = xs.getD i d :: xs.drop (i + 1) := by
  rw [List.drop_eq_getElem_cons h, List.getD_eq_getElem?_getD, List.getElem?_eq_getElem h, Option.getD_some]
theorem mul_le_200 {n e : Int} (h1 : 1 ≤ n) (h2 : n ≤ 200) (h3 : 1 ≤ e) (h4 : e ≤ 65536) : 1 ≤ n * e ∧ n * e ≤ 13107200 := by
  constructor
  · have := Int.mul_le_mul h1 h3 (by omega) (by omega); omega
  · have := Int.mul_le_mul h2 h4 (by omega) (by omega); omega

theorem a_valid (nl : Option Bool) (ds : List Dim) : CallT Try.prog 91 [dimS nl ds] [] (fun out A => out = .ret (bv (validD ds)) ∧ A = []) := by
  refine callT_body (n := 42) rfl rfl fun w ρ X => ?_
  refine run_x (I := inf) 99 rfl (by repeat (first | exact obs_nil | refine obs_same ?_ | refine obs_and ?_ | refine obs_by (by (simp [inB] <;> omega)) ?_)) ?_
  refine run_cond rfl (fun h => ?_) (fun h => ?_)
  · refine run_x (I := inf) 99 rfl (by repeat (first | exact obs_nil | refine obs_same ?_ | refine obs_and ?_ | refine obs_by (by (simp [inB] <;> omega)) ?_)) ?_
    refine run_retX (I := inf) 0 rfl (Nat.le_refl _) rfl .nil rfl ⟨?_, rfl⟩
    show Out.ret (bv false) = _
    have : validD ds = false := by
      simp at h
      simp [validD]; omega
    rw [this]
  · have hlen : 1 ≤ ds.length ∧ ds.length ≤ 3 := by simp at h; omega
    refine run_x (I := inf) 99 rfl (by repeat (first | exact obs_nil | refine obs_same ?_ | refine obs_and ?_ | refine obs_by (by (simp [inB] <;> omega)) ?_)) ?_
    refine run_while (fun (x : Int × Nat) τ ar => (τ 3 = iv x.1 ∧ τ 14 = dimS nl ds ∧ τ 15 = iv ds.length ∧ τ 16 = iv x.2) ∧ ar = [] ∧ x.2 ≤ ds.length ∧ 1 ≤ x.1 ∧ x.1 ≤ 200 ∧ validL x.1 (ds.drop x.2) = validL 1 ds) (fun x => ds.length - x.2)
      (1, 0) ⟨⟨rfl, rfl, rfl, rfl⟩, rfl, Nat.zero_le _, by omega, by omega, rfl⟩ ?_
    rintro ⟨n, i⟩ τ' ar' ⟨⟨h3, h14, h15, h16⟩, rfl, hi, hn1, hn2, hv⟩ ih
    dsimp only at h3 h16 hi hn1 hn2 hv ih
    refine run_says 3 (by exact h3) (Says.refl _) ?_; refine run_says 14 (by exact h14) (Says.refl _) ?_; refine run_says 15 (by exact h15) (Says.refl _) ?_; refine run_says 16 (by exact h16) (Says.refl _) ?_
    refine run_x (I := inf) 99 rfl (by repeat (first | exact obs_nil | refine obs_same ?_ | refine obs_and ?_ | refine obs_by (by (simp [inB] <;> omega)) ?_)) ?_
    refine run_cond rfl (fun hlt => ?_) (fun hlt => ?_)
    · have hlt' : i < ds.length := by simpa using hlt
      refine run_x (I := inf) 99 rfl (by repeat (first | exact obs_nil | refine obs_same ?_ | refine obs_and ?_ | refine obs_by (by (simp [inB, hlt'] <;> omega)) ?_)) ?_
      have hdr := getD_drop (d := ((0, 0) : Dim)) hlt'
      rw [hdr] at hv
      generalize hd : ds.getD ((i : Nat) : Int).toNat (0, 0) = d
      rw [Int.toNat_natCast] at hd
      rw [hd] at hv
      refine run_cond rfl (fun hc => ?_) (fun hc => ?_)
      · refine run_x (I := inf) 99 rfl (by repeat (first | exact obs_nil | refine obs_same ?_ | refine obs_and ?_ | refine obs_by (by (simp [inB] <;> omega)) ?_)) ?_
        refine run_retX (I := inf) 0 rfl (Nat.le_refl _) rfl .nil rfl ⟨?_, rfl⟩
        show Out.ret (bv false) = _
        have hb : badD d = true := by simp at hc; simp [badD]; omega
        have : validD ds = false := by simp only [validL, hb, if_true] at hv; simp [validD, ← hv]
        rw [this]
      · have hb : badD d = false := by simp at hc; simp [badD]; omega
        have hr : -32768 ≤ d.1 ∧ d.1 ≤ d.2 ∧ d.2 < 32768 := by simp [badD] at hb; omega
        obtain ⟨m1, m2⟩ := mul_le_200 (e := ext d) hn1 hn2 (by unfold ext; omega) (by unfold ext; omega)
        refine run_x (I := inf) 99 rfl (by repeat (first | exact obs_nil | refine obs_same ?_ | refine obs_and ?_ | refine obs_by (by (simp [inB] <;> omega)) ?_)) ?_
        refine run_call rfl rfl rfl rfl rfl rfl rfl rfl (extent d hr.1 hr.2.1 hr.2.2) ?_
        refine run_x (I := inf) 99 rfl (by repeat (first | exact obs_nil | refine obs_same ?_ | refine obs_and ?_ | refine obs_by (by (simp [inB] <;> omega)) ?_)) ?_
        have hw : IntKind.wrap .i64 (n * ext d) = n * ext d := w64 (by omega) (by omega)
        refine run_says 3 rfl (y := iv (n * ext d)) (by rw [hw]; exact Says.refl _) ?_
        refine run_cond rfl (fun hc2 => ?_) (fun hc2 => ?_)
        · refine run_x (I := inf) 99 rfl (by repeat (first | exact obs_nil | refine obs_same ?_ | refine obs_and ?_ | refine obs_by (by (simp [inB] <;> omega)) ?_)) ?_
          refine run_retX (I := inf) 0 rfl (Nat.le_refl _) rfl .nil rfl ⟨?_, rfl⟩
          show Out.ret (bv false) = _
          have h200 : n * ext d > 200 := by rw [hw] at hc2; simpa using hc2
          have : validD ds = false := by simp only [validL, hb, Bool.false_eq_true, if_false, h200, if_true] at hv; simp [validD, ← hv]
          rw [this]
        · refine run_x (I := inf) 99 rfl (by repeat (first | exact obs_nil | refine obs_same ?_ | refine obs_and ?_ | refine obs_by (by (simp [inB] <;> omega)) ?_)) ?_
          refine run_drop 0 (Nat.le_refl _) rfl .nil ?_
          have h200 : ¬ n * ext d > 200 := by rw [hw] at hc2; simp at hc2; omega
          refine ih (n * ext d, i + 1) _ _ (by dsimp only; omega) ⟨⟨rfl, rfl, rfl, ?_⟩, rfl, by dsimp only; omega, m1, by dsimp only; omega, ?_⟩
          · show iv (IntKind.wrap .i64 ((i : Int) + 1)) = _
            rw [w64 (by omega) (by omega)]; rfl
          · simp only [validL, hb, Bool.false_eq_true, if_false, h200] at hv
            exact hv
    · refine run_x (I := inf) 99 rfl (by repeat (first | exact obs_nil | refine obs_same ?_ | refine obs_and ?_ | refine obs_by (by (simp [inB] <;> omega)) ?_)) ?_
      refine run_retX (I := inf) 0 rfl (Nat.le_refl _) rfl .nil rfl ⟨?_, rfl⟩
      show Out.ret (bv true) = _
      have hi' : i = ds.length := by simp at hlt; omega
      subst hi'
      rw [List.drop_length] at hv
      simp [validD, ← hv, validL, hlen]

theorem a_Valid (nl : Option Bool) (ds : List Dim) : CallT Try.prog 36 [dimS nl ds] [] (fun out A => out = .ret (bv (validD ds)) ∧ A = []) := by
  refine callT_body (n := 5) rfl rfl fun w ρ X => ?_
  refine run_x (I := inf) 99 rfl (by repeat (first | exact obs_nil | refine obs_same ?_ | refine obs_and ?_ | refine obs_by (by (simp [inB] <;> omega)) ?_)) ?_
  refine run_call rfl rfl rfl rfl rfl rfl rfl rfl (a_valid nl ds) ?_
  refine run_x (I := inf) 99 rfl (by repeat (first | exact obs_nil | refine obs_same ?_ | refine obs_and ?_ | refine obs_by (by (simp [inB] <;> omega)) ?_)) ?_
  refine run_retX (I := inf) 0 rfl (Nat.le_refl _) rfl .nil rfl ⟨?_, rfl⟩
  rfl

theorem r_Valid (nl : Option Bool) (ds : List Dim) : CallT Try.prog 37 [dimS nl ds] [] (fun out A => out = .ret (bv (validD ds)) ∧ A = []) := by
  refine callT_body (n := 66) rfl rfl fun w ρ X => ?_
  refine run_x (I := inf) 99 rfl (by repeat (first | exact obs_nil | refine obs_same ?_ | refine obs_and ?_ | refine obs_by (by (simp [inB] <;> omega)) ?_)) ?_
  refine run_while (fun (x : Int × Nat) τ ar => (τ 3 = iv x.1 ∧ τ 0 = dimS nl ds ∧ τ 4 = iv x.2) ∧ ar = [] ∧ x.2 ≤ ds.length ∧ x.2 ≤ 4 ∧ 1 ≤ x.1 ∧ x.1 ≤ 200 ∧ validL x.1 (ds.drop x.2) = validL 1 ds) (fun x => ds.length - x.2)
    (1, 0) ⟨⟨rfl, rfl, rfl⟩, rfl, Nat.zero_le _, by omega, by omega, by omega, rfl⟩ ?_
  rintro ⟨n, i⟩ τ' ar' ⟨⟨h3, h0, h4⟩, rfl, hi, hi4, hn1, hn2, hv⟩ ih
  dsimp only at h3 h4 hi hi4 hn1 hn2 hv ih
  refine run_says 3 (by exact h3) (Says.refl _) ?_; refine run_says 0 (by exact h0) (Says.refl _) ?_; refine run_says 4 (by exact h4) (Says.refl _) ?_
  refine run_x (I := inf) 99 rfl (by repeat (first | exact obs_nil | refine obs_same ?_ | refine obs_and ?_ | refine obs_by (by (simp [inB] <;> omega)) ?_)) ?_
  refine run_cond rfl (fun hlt => ?_) (fun hlt => ?_)
  · have hlt' : i < ds.length ∧ i < 4 := by simp at hlt; omega
    refine run_x (I := inf) 99 rfl (by repeat (first | exact obs_nil | refine obs_same ?_ | refine obs_and ?_ | refine obs_by (by (simp [inB] <;> omega)) ?_)) ?_
    refine run_draw 27 (by kernel_rfl) (by kernel_rfl) (lex_x (I := inf) 99 rfl rfl (by repeat (first | exact obs_nil | refine obs_same ?_ | refine obs_and ?_ | refine obs_by (by (simp [inB, hlt'.1] <;> omega)) ?_)) lex_nil) ?_
    have hdr := getD_drop (d := ((0, 0) : Dim)) hlt'.1
    rw [hdr] at hv
    refine run_x (I := inf) 99 rfl (by repeat (first | exact obs_nil | refine obs_same ?_ | refine obs_and ?_ | refine obs_by (by (simp [inB] <;> omega)) ?_)) ?_
    generalize hd0 : ds.getD ((i : Nat) : Int).toNat (0, 0) = d
    have hd := hd0
    rw [Int.toNat_natCast] at hd
    rw [hd] at hv
    refine run_cond rfl (fun hc => ?_) (fun hc => ?_)
    · refine run_x (I := inf) 99 rfl (by repeat (first | exact obs_nil | refine obs_same ?_ | refine obs_and ?_ | refine obs_by (by (simp [inB] <;> omega)) ?_)) ?_
      refine run_retX (I := inf) 0 rfl (Nat.le_refl _) rfl .nil rfl ⟨?_, rfl⟩
      show Out.ret (bv false) = _
      have hb : badD d = true := by simp at hc; simp [badD]; omega
      have : validD ds = false := by simp only [validL, hb, if_true] at hv; simp [validD, ← hv]
      rw [this]
    · have hb : badD d = false := by simp at hc; simp [badD]; omega
      have hr : -32768 ≤ d.1 ∧ d.1 ≤ d.2 ∧ d.2 < 32768 := by simp [badD] at hb; omega
      obtain ⟨m1, m2⟩ := mul_le_200 (e := ext d) hn1 hn2 (by unfold ext; omega) (by unfold ext; omega)
      refine run_x (I := inf) 99 rfl (by repeat (first | exact obs_nil | refine obs_same ?_ | refine obs_and ?_ | refine obs_by (by (simp [inB] <;> omega)) ?_)) ?_
      refine run_draw 15 (by kernel_rfl) (by kernel_rfl) (lex_x (I := inf) 99 rfl rfl (by repeat (first | exact obs_nil | refine obs_same ?_ | refine obs_and ?_ | refine obs_by (by (simp [inB, hlt'.1] <;> omega)) ?_)) lex_nil) ?_
      refine run_x (I := inf) 99 rfl (by repeat (first | exact obs_nil | refine obs_same ?_ | refine obs_and ?_ | refine obs_by (by (simp [inB] <;> omega)) ?_)) ?_
      rw [hd0]
      have hw : IntKind.wrap .i64 (n * IntKind.wrap .i64 (IntKind.wrap .i64 (d.2 - d.1) + 1)) = n * ext d := by
        rw [w64 (x := d.2 - d.1) (by omega) (by omega), w64 (x := d.2 - d.1 + 1) (by omega) (by omega)]
        exact w64 (by unfold ext at m1 m2; omega) (by unfold ext at m1 m2; omega)
      refine run_says 3 rfl (y := iv (n * ext d)) (by rw [← hw]; exact Says.refl _) ?_
      refine run_cond rfl (fun hc2 => ?_) (fun hc2 => ?_)
      · refine run_x (I := inf) 99 rfl (by repeat (first | exact obs_nil | refine obs_same ?_ | refine obs_and ?_ | refine obs_by (by (simp [inB] <;> omega)) ?_)) ?_
        refine run_retX (I := inf) 0 rfl (Nat.le_refl _) rfl .nil rfl ⟨?_, rfl⟩
        show Out.ret (bv false) = _
        have h200 : n * ext d > 200 := by rw [hw] at hc2; simpa using hc2
        have : validD ds = false := by simp only [validL, hb, Bool.false_eq_true, if_false, h200, if_true] at hv; simp [validD, ← hv]
        rw [this]
      · refine run_x (I := inf) 99 rfl (by repeat (first | exact obs_nil | refine obs_same ?_ | refine obs_and ?_ | refine obs_by (by (simp [inB] <;> omega)) ?_)) ?_
        refine run_drop 0 (Nat.le_refl _) rfl .nil ?_
        have h200 : ¬ n * ext d > 200 := by rw [hw] at hc2; simp at hc2; omega
        refine ih (n * ext d, i + 1) _ _ (by dsimp only; omega) ⟨⟨rfl, rfl, ?_⟩, rfl, by dsimp only; omega, by dsimp only; omega, m1, by dsimp only; omega, ?_⟩
        · show iv (IntKind.wrap .i64 ((i : Int) + 1)) = _
          rw [w64 (by omega) (by omega)]; rfl
        · simp only [validL, hb, Bool.false_eq_true, if_false, h200] at hv
          exact hv
  · refine run_x (I := inf) 99 rfl (by repeat (first | exact obs_nil | refine obs_same ?_ | refine obs_and ?_ | refine obs_by (by (simp [inB] <;> omega)) ?_)) ?_
    refine run_retX (I := inf) 0 rfl (Nat.le_refl _) rfl .nil rfl ⟨?_, rfl⟩
    have hx : i = ds.length ∨ i = 4 := by simp at hlt; omega
    have : validD ds = (if decide (1 ≤ (ds.length : Int)) then decide ((ds.length : Int) ≤ 3) else false) := by
      rcases hx with hx | hx
      · subst hx
        rw [List.drop_length] at hv
        simp [validD, ← hv, validL]
        by_cases h1 : 1 ≤ ds.length <;> by_cases h3 : ds.length ≤ 3 <;> simp [h1, h3] <;> omega
      · have h3 : ¬ ds.length ≤ 3 := by omega
        simp [validD, h3]; omega
    rw [this]
    rfl

/-- All partial products are small. -/
def fitL : Int → List Dim → Prop
  | _, [] => True
  | n, d :: l => (-32768 ≤ d.1 ∧ d.1 ≤ d.2 ∧ d.2 < 32768) ∧ n * ext d ≤ 200 ∧ fitL (n * ext d) l
theorem fit_of : ∀ {n : Int} {ds : List Dim}, validL n ds = true → fitL n ds
  | _, [], _ => trivial
  | n, d :: l, h => by
    unfold validL at h
    split at h
    · cases h
    · rename_i hb
      split at h
      · cases h
      · rename_i h2
        have hb' : badD d = false := by simpa using hb
        exact ⟨by simp [badD] at hb'; omega, by omega, fit_of h⟩
theorem fit_valid {ds : List Dim} (h : validD ds = true) : fitL 1 ds ∧ 1 ≤ ds.length ∧ ds.length ≤ 3 := by
  simp only [validD, Bool.and_eq_true, decide_eq_true_eq] at h
  exact ⟨fit_of h.2, h.1.1, h.1.2⟩

theorem a_count (nl : Option Bool) (ds : List Dim) (hlen : ds.length < 9223372036854775807) (hf : fitL 1 ds) : CallT Try.prog 90 [dimS nl ds] [] (fun out A => out = .ret (iv (items ds)) ∧ A = []) := by
  refine callT_body (n := 18) rfl rfl fun w ρ X => ?_
  refine run_x (I := inf) 99 rfl (by repeat (first | exact obs_nil | refine obs_same ?_ | refine obs_and ?_ | refine obs_by (by (simp [inB] <;> omega)) ?_)) ?_
  refine run_while (fun (x : Int × Nat) τ ar => (τ 3 = iv x.1 ∧ τ 6 = dimS nl ds ∧ τ 7 = iv ds.length ∧ τ 8 = iv x.2) ∧ ar = [] ∧ x.2 ≤ ds.length ∧ 1 ≤ x.1 ∧ x.1 ≤ 200 ∧ fitL x.1 (ds.drop x.2) ∧ prodL x.1 (ds.drop x.2) = items ds) (fun x => ds.length - x.2)
    (1, 0) ⟨⟨rfl, rfl, rfl, rfl⟩, rfl, Nat.zero_le _, by omega, by omega, hf, rfl⟩ ?_
  rintro ⟨n, i⟩ τ' ar' ⟨⟨h3, h0, h7, h4⟩, rfl, hi, hn1, hn2, hv, hpr⟩ ih
  dsimp only at h3 h4 hi hn1 hn2 hv hpr ih
  refine run_says 3 (by exact h3) (Says.refl _) ?_; refine run_says 6 (by exact h0) (Says.refl _) ?_; refine run_says 7 (by exact h7) (Says.refl _) ?_; refine run_says 8 (by exact h4) (Says.refl _) ?_
  refine run_x (I := inf) 99 rfl (by repeat (first | exact obs_nil | refine obs_same ?_ | refine obs_and ?_ | refine obs_by (by (simp [inB] <;> omega)) ?_)) ?_
  refine run_cond rfl (fun hlt => ?_) (fun hlt => ?_)
  · have hlt' : i < ds.length := by simpa using hlt
    have hdr := getD_drop (d := ((0, 0) : Dim)) hlt'
    rw [hdr] at hv hpr
    refine run_x (I := inf) 99 rfl (by repeat (first | exact obs_nil | refine obs_same ?_ | refine obs_and ?_ | refine obs_by (by (simp [inB, hlt'] <;> omega)) ?_)) ?_
    generalize hd0 : ds.getD ((i : Nat) : Int).toNat (0, 0) = d
    have hd := hd0
    rw [Int.toNat_natCast] at hd
    rw [hd] at hv hpr
    obtain ⟨hr, hp2, hv'⟩ := hv
    obtain ⟨m1, m2⟩ := mul_le_200 (e := ext d) hn1 hn2 (by unfold ext; omega) (by unfold ext; omega)
    refine run_call rfl rfl rfl rfl rfl rfl rfl rfl (extent d hr.1 hr.2.1 hr.2.2) ?_
    refine run_x (I := inf) 99 rfl (by repeat (first | exact obs_nil | refine obs_same ?_ | refine obs_and ?_ | refine obs_by (by (simp [inB] <;> omega)) ?_)) ?_
    refine run_drop 0 (Nat.le_refl _) rfl .nil ?_
    refine ih (n * ext d, i + 1) _ _ (by dsimp only; omega) ⟨⟨?_, rfl, rfl, ?_⟩, rfl, by dsimp only; omega, m1, hp2, hv', hpr⟩
    · show iv (IntKind.wrap .i64 (n * ext d)) = _
      rw [w64 (by omega) (by omega)]
    · show iv (IntKind.wrap .i64 ((i : Int) + 1)) = _
      rw [w64 (by omega) (by omega)]; rfl
  · refine run_x (I := inf) 99 rfl (by repeat (first | exact obs_nil | refine obs_same ?_ | refine obs_and ?_ | refine obs_by (by (simp [inB] <;> omega)) ?_)) ?_
    refine run_retX (I := inf) 0 rfl (Nat.le_refl _) rfl .nil rfl ⟨?_, rfl⟩
    have hi' : i = ds.length := by simp at hlt; omega
    subst hi'
    rw [List.drop_length] at hpr
    show Out.ret (iv n) = _
    rw [← hpr]; rfl

theorem r_items (nl : Option Bool) (ds : List Dim) (hlen : ds.length < 9223372036854775807) (hf : fitL 1 ds) : CallT Try.prog 54 [dimS nl ds] [] (fun out A => out = .ret (iv (items ds)) ∧ A = []) := by
  refine callT_body (n := 26) rfl rfl fun w ρ X => ?_
  refine run_x (I := inf) 99 rfl (by repeat (first | exact obs_nil | refine obs_same ?_ | refine obs_and ?_ | refine obs_by (by (simp [inB] <;> omega)) ?_)) ?_
  refine run_while (fun (x : Int × Nat) τ ar => (τ 3 = iv x.1 ∧ τ 0 = dimS nl ds ∧ τ 4 = iv x.2) ∧ ar = [] ∧ x.2 ≤ ds.length ∧ 1 ≤ x.1 ∧ x.1 ≤ 200 ∧ fitL x.1 (ds.drop x.2) ∧ prodL x.1 (ds.drop x.2) = items ds) (fun x => ds.length - x.2)
    (1, 0) ⟨⟨rfl, rfl, rfl⟩, rfl, Nat.zero_le _, by omega, by omega, hf, rfl⟩ ?_
  rintro ⟨n, i⟩ τ' ar' ⟨⟨h3, h0, h4⟩, rfl, hi, hn1, hn2, hv, hpr⟩ ih
  dsimp only at h3 h4 hi hn1 hn2 hv hpr ih
  refine run_says 3 (by exact h3) (Says.refl _) ?_; refine run_says 0 (by exact h0) (Says.refl _) ?_; refine run_says 4 (by exact h4) (Says.refl _) ?_
  refine run_x (I := inf) 99 rfl (by repeat (first | exact obs_nil | refine obs_same ?_ | refine obs_and ?_ | refine obs_by (by (simp [inB] <;> omega)) ?_)) ?_
  refine run_cond rfl (fun hlt => ?_) (fun hlt => ?_)
  · have hlt' : i < ds.length := by simpa using hlt
    have hdr := getD_drop (d := ((0, 0) : Dim)) hlt'
    rw [hdr] at hv hpr
    refine run_x (I := inf) 99 rfl (by repeat (first | exact obs_nil | refine obs_same ?_ | refine obs_and ?_ | refine obs_by (by (simp [inB] <;> omega)) ?_)) ?_
    refine run_draw 15 (by kernel_rfl) (by kernel_rfl) (lex_x (I := inf) 99 rfl rfl (by repeat (first | exact obs_nil | refine obs_same ?_ | refine obs_and ?_ | refine obs_by (by (simp [inB, hlt'] <;> omega)) ?_)) lex_nil) ?_
    refine run_x (I := inf) 99 rfl (by repeat (first | exact obs_nil | refine obs_same ?_ | refine obs_and ?_ | refine obs_by (by (simp [inB] <;> omega)) ?_)) ?_
    generalize hd0 : ds.getD ((i : Nat) : Int).toNat (0, 0) = d
    have hd := hd0
    rw [Int.toNat_natCast] at hd
    rw [hd] at hv hpr
    obtain ⟨hr, hp2, hv'⟩ := hv
    obtain ⟨m1, m2⟩ := mul_le_200 (e := ext d) hn1 hn2 (by unfold ext; omega) (by unfold ext; omega)
    have hw : IntKind.wrap .i64 (n * IntKind.wrap .i64 (IntKind.wrap .i64 (d.2 - d.1) + 1)) = n * ext d := by
      rw [w64 (x := d.2 - d.1) (by omega) (by omega), w64 (x := d.2 - d.1 + 1) (by omega) (by omega)]
      exact w64 (by unfold ext at m1 m2; omega) (by unfold ext at m1 m2; omega)
    refine ih (n * ext d, i + 1) _ _ (by dsimp only; omega) ⟨⟨?_, rfl, ?_⟩, rfl, by dsimp only; omega, m1, hp2, hv', hpr⟩
    · show iv (IntKind.wrap .i64 (n * IntKind.wrap .i64 (IntKind.wrap .i64 (d.2 - d.1) + 1))) = _
      rw [hw]
    · show iv (IntKind.wrap .i64 ((i : Int) + 1)) = _
      rw [w64 (by omega) (by omega)]; rfl
  · refine run_x (I := inf) 99 rfl (by repeat (first | exact obs_nil | refine obs_same ?_ | refine obs_and ?_ | refine obs_by (by (simp [inB] <;> omega)) ?_)) ?_
    refine run_retX (I := inf) 0 rfl (Nat.le_refl _) rfl .nil rfl ⟨?_, rfl⟩
    have hi' : i = ds.length := by simp at hlt; omega
    subst hi'
    rw [List.drop_length] at hpr
    show Out.ret (iv n) = _
    rw [← hpr]; rfl

/-- Count's answer. -/
def countF (ds : List Dim) : Int × Int := if validD ds then (items ds, 0) else (0, 1)
theorem a_Count (nl : Option Bool) (ds : List Dim) : CallT Try.prog 34 [dimS nl ds] [] (fun out A => out = .ret (.tup [iv (countF ds).1, iv (countF ds).2]) ∧ A = []) := by
  refine callT_body (n := 9) rfl rfl fun w ρ X => ?_
  refine run_x (I := inf) 99 rfl (by repeat (first | exact obs_nil | refine obs_same ?_ | refine obs_and ?_ | refine obs_by (by (simp [inB] <;> omega)) ?_)) ?_
  refine run_call rfl rfl rfl rfl rfl rfl rfl rfl (a_Valid nl ds) ?_
  refine run_x (I := inf) 99 rfl (by repeat (first | exact obs_nil | refine obs_same ?_ | refine obs_and ?_ | refine obs_by (by (simp [inB] <;> omega)) ?_)) ?_
  refine run_cond rfl (fun h => ?_) (fun h => ?_)
  · refine run_x (I := inf) 99 rfl (by repeat (first | exact obs_nil | refine obs_same ?_ | refine obs_and ?_ | refine obs_by (by (simp [inB] <;> omega)) ?_)) ?_
    refine run_retX (I := inf) 0 rfl (Nat.le_refl _) rfl .nil rfl ⟨?_, rfl⟩
    have h' : validD ds = false := by simpa using h
    simp only [countF, h']; rfl
  · have h' : validD ds = true := by simpa using h
    have hf := fit_valid h'
    refine run_x (I := inf) 99 rfl (by repeat (first | exact obs_nil | refine obs_same ?_ | refine obs_and ?_ | refine obs_by (by (simp [inB] <;> omega)) ?_)) ?_
    refine run_call rfl rfl rfl rfl rfl rfl rfl rfl (a_count nl ds (by omega) hf.1) ?_
    refine run_x (I := inf) 99 rfl (by repeat (first | exact obs_nil | refine obs_same ?_ | refine obs_and ?_ | refine obs_by (by (simp [inB] <;> omega)) ?_)) ?_
    refine run_retX (I := inf) 0 rfl (Nat.le_refl _) rfl .nil rfl ⟨?_, rfl⟩
    simp only [countF, h']; rfl
theorem r_Count (nl : Option Bool) (ds : List Dim) : CallT Try.prog 35 [dimS nl ds] [] (fun out A => out = .ret (.tup [iv (countF ds).1, iv (countF ds).2]) ∧ A = []) := by
  refine callT_body (n := 9) rfl rfl fun w ρ X => ?_
  refine run_x (I := inf) 99 rfl (by repeat (first | exact obs_nil | refine obs_same ?_ | refine obs_and ?_ | refine obs_by (by (simp [inB] <;> omega)) ?_)) ?_
  refine run_call rfl rfl rfl rfl rfl rfl rfl rfl (r_Valid nl ds) ?_
  refine run_x (I := inf) 99 rfl (by repeat (first | exact obs_nil | refine obs_same ?_ | refine obs_and ?_ | refine obs_by (by (simp [inB] <;> omega)) ?_)) ?_
  refine run_cond rfl (fun h => ?_) (fun h => ?_)
  · refine run_x (I := inf) 99 rfl (by repeat (first | exact obs_nil | refine obs_same ?_ | refine obs_and ?_ | refine obs_by (by (simp [inB] <;> omega)) ?_)) ?_
    refine run_retX (I := inf) 0 rfl (Nat.le_refl _) rfl .nil rfl ⟨?_, rfl⟩
    have h' : validD ds = false := by simpa using h
    simp only [countF, h']; rfl
  · have h' : validD ds = true := by simpa using h
    have hf := fit_valid h'
    refine run_x (I := inf) 99 rfl (by repeat (first | exact obs_nil | refine obs_same ?_ | refine obs_and ?_ | refine obs_by (by (simp [inB] <;> omega)) ?_)) ?_
    refine run_call rfl rfl rfl rfl rfl rfl rfl rfl (r_items nl ds (by omega) hf.1) ?_
    refine run_x (I := inf) 99 rfl (by repeat (first | exact obs_nil | refine obs_same ?_ | refine obs_and ?_ | refine obs_by (by (simp [inB] <;> omega)) ?_)) ?_
    refine run_retX (I := inf) 0 rfl (Nat.le_refl _) rfl .nil rfl ⟨?_, rfl⟩
    simp only [countF, h']; rfl
end Go.Iron.Try

/- The array package's functions (seat Ytamhonbhoelohaa): dimensions. -/
namespace Go.Iron.Try
open Go.Proofs

/-- What is told of a dimension. -/
def dimF (F : Dim → Int) (ds : List Dim) (n : Int) : Int × Int :=
  if validD ds then (if decide (n < 1) || decide (n > ds.length) then (0, 7) else (F (ds.getD (n - 1).toNat (0, 0)), 0)) else (0, 1)

theorem dim_in {n : Int} {i : Nat} {ds : List Dim} (hf : fitL n ds) (hi : i < ds.length) : -32768 ≤ (ds.getD i (0, 0)).1 ∧ (ds.getD i (0, 0)).1 ≤ (ds.getD i (0, 0)).2 ∧ (ds.getD i (0, 0)).2 < 32768 := by
  induction ds generalizing n i with
  | nil => simp at hi
  | cons d l ih =>
    cases i with
    | zero => exact hf.1
    | succ i => simpa using ih hf.2.2 (by simpa using hi)

theorem a_dimension {g : FuncId} {gn : Func} {gc : Code} [Fun Try.prog g gn gc] (F : Dim → Int) (hF : ∀ d : Dim, -32768 ≤ d.1 → d.1 ≤ d.2 → d.2 < 32768 → CallT Try.prog g [.agg [iv d.1, iv d.2]] [] (fun out A => out = .ret (iv (F d)) ∧ A = []))
    (nl : Option Bool) (ds : List Dim) (n : Int) : CallT Try.prog 92 [dimS nl ds, iv n, .fn (.func g) []] [] (fun out A => out = .ret (.tup [iv (dimF F ds n).1, iv (dimF F ds n).2]) ∧ A = []) := by
  refine callT_body (n := 28) rfl rfl fun w ρ X => ?_
  refine run_x (I := inf) 99 rfl (by repeat (first | exact obs_nil | refine obs_same ?_ | refine obs_and ?_ | refine obs_by (by (simp [inB] <;> omega)) ?_)) ?_
  refine run_call rfl rfl rfl rfl rfl rfl rfl rfl (a_Valid nl ds) ?_
  refine run_x (I := inf) 99 rfl (by repeat (first | exact obs_nil | refine obs_same ?_ | refine obs_and ?_ | refine obs_by (by (simp [inB] <;> omega)) ?_)) ?_
  refine run_cond rfl (fun h => ?_) (fun h => ?_)
  · refine run_x (I := inf) 99 rfl (by repeat (first | exact obs_nil | refine obs_same ?_ | refine obs_and ?_ | refine obs_by (by (simp [inB] <;> omega)) ?_)) ?_
    refine run_retX (I := inf) 0 rfl (Nat.le_refl _) rfl .nil rfl ⟨?_, rfl⟩
    have h' : validD ds = false := by simpa using h
    simp only [dimF, h']; rfl
  · have h' : validD ds = true := by simpa using h
    have hf := fit_valid h'
    refine run_x (I := inf) 99 rfl (by repeat (first | exact obs_nil | refine obs_same ?_ | refine obs_and ?_ | refine obs_by (by (simp [inB] <;> omega)) ?_)) ?_
    refine run_cond rfl (fun hc => ?_) (fun hc => ?_)
    · refine run_x (I := inf) 99 rfl (by repeat (first | exact obs_nil | refine obs_same ?_ | refine obs_and ?_ | refine obs_by (by (simp [inB] <;> omega)) ?_)) ?_
      refine run_retX (I := inf) 0 rfl (Nat.le_refl _) rfl .nil rfl ⟨?_, rfl⟩
      have hc' : (decide (n < 1) || decide (n > ds.length)) = true := by simp at hc ⊢; omega
      simp only [dimF, h', hc', if_true]; rfl
    · have hc' : (decide (n < 1) || decide (n > ds.length)) = false := by simp at hc ⊢; omega
      have hn : 1 ≤ n ∧ n ≤ ds.length := by simp at hc'; omega
      have hw : IntKind.wrap .i64 (n - 1) = n - 1 := w64 (by omega) (by omega)
      refine run_x (I := inf) 99 rfl (by repeat (first | exact obs_nil | refine obs_same ?_ | refine obs_and ?_ | refine obs_by (by (simp [inB, hw, hn] <;> omega)) ?_)) ?_
      rw [hw]
      have hd := dim_in (i := (n - 1).toNat) hf.1 (by omega)
      have hdF := hF _ hd.1 hd.2.1 hd.2.2
      have hres : dimF F ds n = (F (ds.getD (n - 1).toNat (0, 0)), 0) := by simp only [dimF, h', hc', if_true, Bool.false_eq_true, if_false]
      rw [hres]
      generalize ds.getD (n - 1).toNat (0, 0) = d at hdF ⊢
      refine run_call rfl rfl rfl rfl rfl rfl rfl rfl hdF ?_
      refine run_x (I := inf) 99 rfl (by repeat (first | exact obs_nil | refine obs_same ?_ | refine obs_and ?_ | refine obs_by (by (simp [inB] <;> omega)) ?_)) ?_
      refine run_retX (I := inf) 0 rfl (Nat.le_refl _) rfl .nil rfl ⟨?_, rfl⟩
      rfl

theorem a_low1 (d : Dim) (h1 : -32768 ≤ d.1) (h2 : d.1 ≤ d.2) (h3 : d.2 < 32768) : CallT Try.prog 93 [.agg [iv d.1, iv d.2]] [] (fun out A => out = .ret (iv d.1) ∧ A = []) := by
  refine callT_body (n := 5) rfl rfl fun w ρ X => ?_
  refine run_x (I := inf) 99 rfl (by repeat (first | exact obs_nil | refine obs_same ?_ | refine obs_and ?_ | refine obs_by (by (simp [inB] <;> omega)) ?_)) ?_
  refine run_retX (I := inf) 0 rfl (Nat.le_refl _) rfl .nil rfl ⟨?_, rfl⟩
  rfl
theorem a_high1 (d : Dim) (h1 : -32768 ≤ d.1) (h2 : d.1 ≤ d.2) (h3 : d.2 < 32768) : CallT Try.prog 95 [.agg [iv d.1, iv d.2]] [] (fun out A => out = .ret (iv d.2) ∧ A = []) := by
  refine callT_body (n := 5) rfl rfl fun w ρ X => ?_
  refine run_x (I := inf) 99 rfl (by repeat (first | exact obs_nil | refine obs_same ?_ | refine obs_and ?_ | refine obs_by (by (simp [inB] <;> omega)) ?_)) ?_
  refine run_retX (I := inf) 0 rfl (Nat.le_refl _) rfl .nil rfl ⟨?_, rfl⟩
  rfl
theorem a_Low (nl : Option Bool) (ds : List Dim) (n : Int) : CallT Try.prog 38 [dimS nl ds, iv n] [] (fun out A => out = .ret (.tup [iv (dimF (·.1) ds n).1, iv (dimF (·.1) ds n).2]) ∧ A = []) := by
  refine callT_body (n := 11) rfl rfl fun w ρ X => ?_
  refine run_x (I := inf) 99 rfl (by repeat (first | exact obs_nil | refine obs_same ?_ | refine obs_and ?_ | refine obs_by (by (simp [inB] <;> omega)) ?_)) ?_
  refine run_call rfl rfl rfl rfl rfl rfl rfl rfl (a_dimension (·.1) a_low1 nl ds n) ?_
  refine run_x (I := inf) 99 rfl (by repeat (first | exact obs_nil | refine obs_same ?_ | refine obs_and ?_ | refine obs_by (by (simp [inB] <;> omega)) ?_)) ?_
  refine run_retX (I := inf) 0 rfl (Nat.le_refl _) rfl .nil rfl ⟨?_, rfl⟩
  rfl
theorem a_High (nl : Option Bool) (ds : List Dim) (n : Int) : CallT Try.prog 40 [dimS nl ds, iv n] [] (fun out A => out = .ret (.tup [iv (dimF (·.2) ds n).1, iv (dimF (·.2) ds n).2]) ∧ A = []) := by
  refine callT_body (n := 11) rfl rfl fun w ρ X => ?_
  refine run_x (I := inf) 99 rfl (by repeat (first | exact obs_nil | refine obs_same ?_ | refine obs_and ?_ | refine obs_by (by (simp [inB] <;> omega)) ?_)) ?_
  refine run_call rfl rfl rfl rfl rfl rfl rfl rfl (a_dimension (·.2) a_high1 nl ds n) ?_
  refine run_x (I := inf) 99 rfl (by repeat (first | exact obs_nil | refine obs_same ?_ | refine obs_and ?_ | refine obs_by (by (simp [inB] <;> omega)) ?_)) ?_
  refine run_retX (I := inf) 0 rfl (Nat.le_refl _) rfl .nil rfl ⟨?_, rfl⟩
  rfl
theorem a_Extent (nl : Option Bool) (ds : List Dim) (n : Int) : CallT Try.prog 42 [dimS nl ds, iv n] [] (fun out A => out = .ret (.tup [iv (dimF ext ds n).1, iv (dimF ext ds n).2]) ∧ A = []) := by
  refine callT_body (n := 11) rfl rfl fun w ρ X => ?_
  refine run_x (I := inf) 99 rfl (by repeat (first | exact obs_nil | refine obs_same ?_ | refine obs_and ?_ | refine obs_by (by (simp [inB] <;> omega)) ?_)) ?_
  refine run_call rfl rfl rfl rfl rfl rfl rfl rfl (a_dimension ext extent nl ds n) ?_
  refine run_x (I := inf) 99 rfl (by repeat (first | exact obs_nil | refine obs_same ?_ | refine obs_and ?_ | refine obs_by (by (simp [inB] <;> omega)) ?_)) ?_
  refine run_retX (I := inf) 0 rfl (Nat.le_refl _) rfl .nil rfl ⟨?_, rfl⟩
  rfl

/-- A dimension by its number. -/
def ofF (ds : List Dim) (n : Int) : Dim × Int :=
  if validD ds then (if decide (n < 1) || decide (n > ds.length) then ((0, 0), 7) else (ds.getD (n - 1).toNat (0, 0), 0)) else ((0, 0), 1)
theorem ofF_dim (F : Dim → Int) (hF : F (0, 0) = 0) (ds : List Dim) (n : Int) : dimF F ds n = (F (ofF ds n).1, (ofF ds n).2) := by
  unfold dimF ofF
  split
  · split <;> simp [hF]
  · simp [hF]

theorem r_of (nl : Option Bool) (ds : List Dim) (n : Int) : CallT Try.prog 94 [dimS nl ds, iv n] [] (fun out A => out = .ret (.tup [.agg [iv (ofF ds n).1.1, iv (ofF ds n).1.2], iv (ofF ds n).2]) ∧ A = []) := by
  refine callT_body (n := 26) rfl rfl fun w ρ X => ?_
  refine run_x (I := inf) 99 rfl (by repeat (first | exact obs_nil | refine obs_same ?_ | refine obs_and ?_ | refine obs_by (by (simp [inB] <;> omega)) ?_)) ?_
  refine run_call rfl rfl rfl rfl rfl rfl rfl rfl (r_Valid nl ds) ?_
  refine run_x (I := inf) 99 rfl (by repeat (first | exact obs_nil | refine obs_same ?_ | refine obs_and ?_ | refine obs_by (by (simp [inB] <;> omega)) ?_)) ?_
  refine run_cond rfl (fun h => ?_) (fun h => ?_)
  · refine run_x (I := inf) 99 rfl (by repeat (first | exact obs_nil | refine obs_same ?_ | refine obs_and ?_ | refine obs_by (by (simp [inB] <;> omega)) ?_)) ?_
    refine run_retX (I := inf) 0 rfl (Nat.le_refl _) rfl .nil rfl ⟨?_, rfl⟩
    have h' : validD ds = false := by simpa using h
    simp only [ofF, h']; rfl
  · have h' : validD ds = true := by simpa using h
    have hf := fit_valid h'
    refine run_x (I := inf) 99 rfl (by repeat (first | exact obs_nil | refine obs_same ?_ | refine obs_and ?_ | refine obs_by (by (simp [inB] <;> omega)) ?_)) ?_
    refine run_cond rfl (fun hc => ?_) (fun hc => ?_)
    · refine run_x (I := inf) 99 rfl (by repeat (first | exact obs_nil | refine obs_same ?_ | refine obs_and ?_ | refine obs_by (by (simp [inB] <;> omega)) ?_)) ?_
      refine run_retX (I := inf) 0 rfl (Nat.le_refl _) rfl .nil rfl ⟨?_, rfl⟩
      have hc' : (decide (n < 1) || decide (n > ds.length)) = true := by simp at hc ⊢; omega
      simp only [ofF, h', hc', if_true]; rfl
    · have hc' : (decide (n < 1) || decide (n > ds.length)) = false := by simp at hc ⊢; omega
      have hn : 1 ≤ n ∧ n ≤ ds.length := by simp at hc'; omega
      have hw : IntKind.wrap .i64 (n - 1) = n - 1 := w64 (by omega) (by omega)
      refine run_x (I := inf) 99 rfl (by repeat (first | exact obs_nil | refine obs_same ?_ | refine obs_and ?_ | refine obs_by (by (simp [inB, hw, hn] <;> omega)) ?_)) ?_
      rw [hw]
      have hres : ofF ds n = (ds.getD (n - 1).toNat (0, 0), 0) := by simp only [ofF, h', hc', if_true, Bool.false_eq_true, if_false]
      rw [hres]
      refine run_retX (I := inf) 0 rfl (Nat.le_refl _) rfl .nil rfl ⟨?_, rfl⟩
      rfl

theorem r_Low (nl : Option Bool) (ds : List Dim) (n : Int) : CallT Try.prog 39 [dimS nl ds, iv n] [] (fun out A => out = .ret (.tup [iv (dimF (·.1) ds n).1, iv (dimF (·.1) ds n).2]) ∧ A = []) := by
  refine callT_body (n := 17) rfl rfl fun w ρ X => ?_
  refine run_x (I := inf) 99 rfl (by repeat (first | exact obs_nil | refine obs_same ?_ | refine obs_and ?_ | refine obs_by (by (simp [inB] <;> omega)) ?_)) ?_
  refine run_call rfl rfl rfl rfl rfl rfl rfl rfl (r_of nl ds n) ?_
  refine run_x (I := inf) 99 rfl (by repeat (first | exact obs_nil | refine obs_same ?_ | refine obs_and ?_ | refine obs_by (by (simp [inB] <;> omega)) ?_)) ?_
  refine run_retX (I := inf) 0 rfl (Nat.le_refl _) rfl .nil rfl ⟨?_, rfl⟩
  rw [ofF_dim (·.1) rfl]
  rfl
theorem r_High (nl : Option Bool) (ds : List Dim) (n : Int) : CallT Try.prog 41 [dimS nl ds, iv n] [] (fun out A => out = .ret (.tup [iv (dimF (·.2) ds n).1, iv (dimF (·.2) ds n).2]) ∧ A = []) := by
  refine callT_body (n := 17) rfl rfl fun w ρ X => ?_
  refine run_x (I := inf) 99 rfl (by repeat (first | exact obs_nil | refine obs_same ?_ | refine obs_and ?_ | refine obs_by (by (simp [inB] <;> omega)) ?_)) ?_
  refine run_call rfl rfl rfl rfl rfl rfl rfl rfl (r_of nl ds n) ?_
  refine run_x (I := inf) 99 rfl (by repeat (first | exact obs_nil | refine obs_same ?_ | refine obs_and ?_ | refine obs_by (by (simp [inB] <;> omega)) ?_)) ?_
  refine run_retX (I := inf) 0 rfl (Nat.le_refl _) rfl .nil rfl ⟨?_, rfl⟩
  rw [ofF_dim (·.2) rfl]
  rfl
theorem r_Extent (nl : Option Bool) (ds : List Dim) (n : Int) : CallT Try.prog 43 [dimS nl ds, iv n] [] (fun out A => out = .ret (.tup [iv (dimF ext ds n).1, iv (dimF ext ds n).2]) ∧ A = []) := by
  refine callT_body (n := 23) rfl rfl fun w ρ X => ?_
  refine run_x (I := inf) 99 rfl (by repeat (first | exact obs_nil | refine obs_same ?_ | refine obs_and ?_ | refine obs_by (by (simp [inB] <;> omega)) ?_)) ?_
  refine run_call rfl rfl rfl rfl rfl rfl rfl rfl (r_of nl ds n) ?_
  refine run_x (I := inf) 99 rfl (by repeat (first | exact obs_nil | refine obs_same ?_ | refine obs_and ?_ | refine obs_by (by (simp [inB] <;> omega)) ?_)) ?_
  refine run_cond rfl (fun h => ?_) (fun h => ?_)
  · refine run_x (I := inf) 99 rfl (by repeat (first | exact obs_nil | refine obs_same ?_ | refine obs_and ?_ | refine obs_by (by (simp [inB] <;> omega)) ?_)) ?_
    refine run_retX (I := inf) 0 rfl (Nat.le_refl _) rfl .nil rfl ⟨?_, rfl⟩
    have : dimF ext ds n = (0, (ofF ds n).2) := by
      unfold dimF ofF at *
      revert h
      split
      · split
        · simp
        · simp
      · simp
    rw [this]
    rfl
  · refine run_x (I := inf) 99 rfl (by repeat (first | exact obs_nil | refine obs_same ?_ | refine obs_and ?_ | refine obs_by (by (simp [inB] <;> omega)) ?_)) ?_
    refine run_retX (I := inf) 0 rfl (Nat.le_refl _) rfl .nil rfl ⟨?_, rfl⟩
    have h0 : (ofF ds n).2 = 0 := by simpa using h
    have hd : dimF ext ds n = (ext (ofF ds n).1, 0) ∧ -32768 ≤ (ofF ds n).1.1 ∧ (ofF ds n).1.1 ≤ (ofF ds n).1.2 ∧ (ofF ds n).1.2 < 32768 := by
      by_cases hv : validD ds = true
      · by_cases hc : (decide (n < 1) || decide (n > ds.length)) = true
        · simp only [ofF, hv, hc, if_true] at h0; omega
        · have hn : 1 ≤ n ∧ n ≤ ds.length := by simp at hc; omega
          have hd := dim_in (i := (n - 1).toNat) (fit_valid hv).1 (by omega)
          simp only [dimF, ofF, hv, hc, if_true, if_false, Bool.false_eq_true]
          exact ⟨trivial, hd⟩
      · simp only [ofF, hv, if_false, Bool.false_eq_true] at h0; omega
    rw [hd.1]
    show Out.ret (.tup [iv (IntKind.wrap .i64 (IntKind.wrap .i64 ((ofF ds n).1.2 - (ofF ds n).1.1) + 1)), iv 0]) = _
    rw [w64 (x := (ofF ds n).1.2 - (ofF ds n).1.1) (by omega) (by omega), w64 (by omega) (by omega)]
    rfl
end Go.Iron.Try

/- The array package's functions (seat Ytamhonbhoelohaa): offsets. -/
namespace Go.Iron.Try
open Go.Proofs

/-- The first subscript that is out, from i + 1 on; 0: none. -/
def outL : Int → List Dim → List Int → Int
  | i, d :: l, s :: t => if decide (s < d.1) || decide (s > d.2) then i + 1 else outL (i + 1) l t
  | _, _, _ => 0
def placeL : Int → List Dim → List Int → Int
  | n, d :: l, s :: t => placeL (n * ext d + s - d.1) l t
  | n, _, _ => n
def out (ds : List Dim) (ss : List Int) : Int := outL 0 ds ss
def place (ds : List Dim) (ss : List Int) : Int := placeL 0 ds ss

theorem step_lt {n p e s : Int} (h0 : 0 ≤ n) (h1 : n < p) (hs : 0 ≤ s) (he : s < e) : 0 ≤ n * e + s ∧ n * e + s < p * e := by
  have h2 : 0 ≤ n * e := Int.mul_nonneg h0 (by omega)
  have h3 : (n + 1) * e ≤ p * e := Int.mul_le_mul_of_nonneg_right (by omega) (by omega)
  rw [Int.add_mul] at h3
  omega

theorem a_offset (n1 n2 : Option Bool) (ds : List Dim) (ss : List Int) (hl : ss.length = ds.length) (hlen : ds.length < 1000) (hf : fitL 1 ds) :
    CallT Try.prog 97 [dimS n1 ds, intS n2 ss] [] (fun o A => o = .ret (.tup [iv (if out ds ss = 0 then place ds ss else 0), iv (out ds ss)]) ∧ A = []) := by
  refine callT_body (n := 47) rfl rfl fun w ρ X => ?_
  refine run_x (I := inf) 99 rfl (by repeat (first | exact obs_nil | refine obs_same ?_ | refine obs_and ?_ | refine obs_by (by (simp [inB] <;> omega)) ?_)) ?_
  refine run_while (fun (x : Int × Int × Nat) τ ar => (τ 1 = intS n2 ss ∧ τ 4 = iv x.1 ∧ τ 8 = dimS n1 ds ∧ τ 9 = iv ds.length ∧ τ 10 = iv x.2.2) ∧ ar = [] ∧ x.2.2 ≤ ds.length ∧ 1 ≤ x.2.1 ∧ x.2.1 ≤ 200 ∧ 0 ≤ x.1 ∧ x.1 < x.2.1 ∧ fitL x.2.1 (ds.drop x.2.2) ∧
      outL x.2.2 (ds.drop x.2.2) (ss.drop x.2.2) = out ds ss ∧ placeL x.1 (ds.drop x.2.2) (ss.drop x.2.2) = place ds ss) (fun x => ds.length - x.2.2)
    (0, 1, 0) ⟨⟨rfl, rfl, rfl, rfl, rfl⟩, rfl, Nat.zero_le _, (by dsimp only; omega), (by dsimp only; omega), (by dsimp only; omega), (by dsimp only; omega), hf, rfl, rfl⟩ ?_
  rintro ⟨n, p, i⟩ τ' ar' ⟨⟨h1, h4, h8, h9, h10⟩, rfl, hi, hp1, hp2, hn1, hn2, hv, ho, hpl⟩ ih
  dsimp only at h4 h10 hi hp1 hp2 hn1 hn2 hv ho hpl ih
  refine run_says 1 (by exact h1) (Says.refl _) ?_; refine run_says 4 (by exact h4) (Says.refl _) ?_; refine run_says 8 (by exact h8) (Says.refl _) ?_; refine run_says 9 (by exact h9) (Says.refl _) ?_; refine run_says 10 (by exact h10) (Says.refl _) ?_
  refine run_x (I := inf) 99 rfl (by repeat (first | exact obs_nil | refine obs_same ?_ | refine obs_and ?_ | refine obs_by (by (simp [inB] <;> omega)) ?_)) ?_
  refine run_cond rfl (fun hlt => ?_) (fun hlt => ?_)
  · have hlt' : i < ds.length := by simpa using hlt
    have hlt2 : i < ss.length := by omega
    rw [getD_drop (d := ((0, 0) : Dim)) hlt'] at hv ho hpl
    rw [getD_drop (d := (0 : Int)) hlt2] at ho hpl
    refine run_x (I := inf) 99 rfl (by repeat (first | exact obs_nil | refine obs_same ?_ | refine obs_and ?_ | refine obs_by (by (simp [inB, hlt'] <;> omega)) ?_)) ?_
    refine run_draw 16 (by kernel_rfl) (by kernel_rfl) (lex_x (I := inf) 99 rfl rfl (by repeat (first | exact obs_nil | refine obs_same ?_ | refine obs_and ?_ | refine obs_by (by (simp [inB, hlt'] <;> omega)) ?_)) lex_nil) ?_
    refine run_x (I := inf) 99 rfl (by repeat (first | exact obs_nil | refine obs_same ?_ | refine obs_and ?_ | refine obs_by (by (simp [inB] <;> omega)) ?_)) ?_
    generalize hd0 : ds.getD ((i : Nat) : Int).toNat (0, 0) = d
    have hd := hd0
    rw [Int.toNat_natCast] at hd
    generalize hs0 : ss.getD ((i : Nat) : Int).toNat 0 = s
    have hs := hs0
    rw [Int.toNat_natCast] at hs
    rw [hd] at hv ho hpl
    rw [hs] at ho hpl
    obtain ⟨hr, hp3, hv'⟩ := hv
    refine run_cond rfl (fun hc => ?_) (fun hc => ?_)
    · refine run_x (I := inf) 99 rfl (by repeat (first | exact obs_nil | refine obs_same ?_ | refine obs_and ?_ | refine obs_by (by (simp [inB] <;> omega)) ?_)) ?_
      refine run_retX (I := inf) 0 rfl (Nat.le_refl _) rfl .nil rfl ⟨?_, rfl⟩
      have hc' : (decide (s < d.1) || decide (s > d.2)) = true := by simp at hc ⊢; omega
      simp only [outL, hc', if_true] at ho
      have hne : ¬ out ds ss = 0 := by omega
      simp only [hne, if_false]
      show Out.ret (.tup [iv 0, iv (IntKind.wrap .i64 ((i : Int) + 1))]) = _
      rw [w64 (by omega) (by omega), ho]
    · have hc' : (decide (s < d.1) || decide (s > d.2)) = false := by simp at hc ⊢; omega
      have hs2 : d.1 ≤ s ∧ s ≤ d.2 := by simp at hc'; omega
      simp only [outL, hc', Bool.false_eq_true, if_false] at ho
      simp only [placeL] at hpl
      obtain ⟨m1, m2⟩ := mul_le_200 (e := ext d) hp1 hp2 (by unfold ext; omega) (by unfold ext; omega)
      obtain ⟨q1, q2⟩ := step_lt (e := ext d) (s := s - d.1) hn1 hn2 (by omega) (by unfold ext; omega)
      obtain ⟨q3, q4⟩ := step_lt (e := ext d) (s := 0) hn1 hn2 (by omega) (by unfold ext; omega)
      refine run_x (I := inf) 99 rfl (by repeat (first | exact obs_nil | refine obs_same ?_ | refine obs_and ?_ | refine obs_by (by (simp [inB] <;> omega)) ?_)) ?_
      refine run_draw 13 (by kernel_rfl) (by kernel_rfl) (lex_x (I := inf) 99 rfl rfl (by repeat (first | exact obs_nil | refine obs_same ?_ | refine obs_and ?_ | refine obs_by (by (simp [inB, hlt'] <;> omega)) ?_)) (lex_call rfl rfl rfl rfl rfl rfl rfl rfl (extent d hr.1 hr.2.1 hr.2.2) (lex_x (I := inf) 99 rfl rfl (by repeat (first | exact obs_nil | refine obs_same ?_ | refine obs_and ?_ | refine obs_by (by (simp [inB, hlt'] <;> omega)) ?_)) lex_nil))) ?_
      rw [hs0]
      refine run_x (I := inf) 99 rfl (by repeat (first | exact obs_nil | refine obs_same ?_ | refine obs_and ?_ | refine obs_by (by (simp [inB] <;> omega)) ?_)) ?_
      refine run_drop 0 (Nat.le_refl _) rfl .nil ?_
      have hw : IntKind.wrap .i64 (IntKind.wrap .i64 (IntKind.wrap .i64 (n * ext d) + s) - d.1) = n * ext d + s - d.1 := by
        rw [w64 (x := n * ext d) (by omega) (by omega), w64 (x := n * ext d + s) (by omega) (by omega), w64 (by omega) (by omega)]
      refine ih (n * ext d + s - d.1, p * ext d, i + 1) _ _ (by dsimp only; omega) ⟨⟨rfl, ?_, rfl, rfl, ?_⟩, rfl, by dsimp only; omega, m1, hp3, by dsimp only; omega, by dsimp only; omega, hv', ho, hpl⟩
      · show iv (IntKind.wrap .i64 (IntKind.wrap .i64 (IntKind.wrap .i64 (n * ext d) + s) - d.1)) = _
        rw [hw]
      · show iv (IntKind.wrap .i64 ((i : Int) + 1)) = _
        rw [w64 (by omega) (by omega)]; rfl
  · refine run_x (I := inf) 99 rfl (by repeat (first | exact obs_nil | refine obs_same ?_ | refine obs_and ?_ | refine obs_by (by (simp [inB] <;> omega)) ?_)) ?_
    refine run_retX (I := inf) 0 rfl (Nat.le_refl _) rfl .nil rfl ⟨?_, rfl⟩
    have hi' : i = ds.length := by simp at hlt; omega
    subst hi'
    rw [List.drop_length] at ho hpl
    have h0 : out ds ss = 0 := by rw [← ho]; simp [outL]
    have hpl' : place ds ss = n := by rw [← hpl]; simp [placeL]
    simp only [h0, hpl', if_true]
    rfl

theorem r_out (n1 n2 : Option Bool) (ds : List Dim) (ss : List Int) (hl : ss.length = ds.length) (hlen : ds.length < 1000) :
    CallT Try.prog 98 [dimS n1 ds, intS n2 ss] [] (fun o A => o = .ret (iv (out ds ss)) ∧ A = []) := by
  refine callT_body (n := 36) rfl rfl fun w ρ X => ?_
  refine run_x (I := inf) 99 rfl (by repeat (first | exact obs_nil | refine obs_same ?_ | refine obs_and ?_ | refine obs_by (by (simp [inB] <;> omega)) ?_)) ?_
  refine run_while (fun (i : Nat) τ ar => (τ 0 = dimS n1 ds ∧ τ 1 = intS n2 ss ∧ τ 5 = iv i) ∧ ar = [] ∧ i ≤ ds.length ∧ outL i (ds.drop i) (ss.drop i) = out ds ss) (fun i => ds.length - i)
    0 ⟨⟨rfl, rfl, rfl⟩, rfl, Nat.zero_le _, rfl⟩ ?_
  rintro i τ' ar' ⟨⟨h0, h1, h5⟩, rfl, hi, ho⟩ ih
  refine run_says 0 (by exact h0) (Says.refl _) ?_; refine run_says 1 (by exact h1) (Says.refl _) ?_; refine run_says 5 (by exact h5) (Says.refl _) ?_
  refine run_x (I := inf) 99 rfl (by repeat (first | exact obs_nil | refine obs_same ?_ | refine obs_and ?_ | refine obs_by (by (simp [inB] <;> omega)) ?_)) ?_
  refine run_cond rfl (fun hlt => ?_) (fun hlt => ?_)
  · have hlt' : i < ds.length := by simpa using hlt
    have hlt2 : i < ss.length := by omega
    rw [getD_drop (d := ((0, 0) : Dim)) hlt', getD_drop (d := (0 : Int)) hlt2] at ho
    refine run_x (I := inf) 99 rfl (by repeat (first | exact obs_nil | refine obs_same ?_ | refine obs_and ?_ | refine obs_by (by (simp [inB] <;> omega)) ?_)) ?_
    refine run_draw 22 (by kernel_rfl) (by kernel_rfl) (lex_x (I := inf) 99 rfl rfl (by repeat (first | exact obs_nil | refine obs_same ?_ | refine obs_and ?_ | refine obs_by (by (simp [inB, hlt'] <;> omega)) ?_)) lex_nil) ?_
    refine run_x (I := inf) 99 rfl (by repeat (first | exact obs_nil | refine obs_same ?_ | refine obs_and ?_ | refine obs_by (by (simp [inB] <;> omega)) ?_)) ?_
    generalize hd0 : ds.getD ((i : Nat) : Int).toNat (0, 0) = d
    have hd := hd0
    rw [Int.toNat_natCast] at hd
    generalize hs0 : ss.getD ((i : Nat) : Int).toNat 0 = s
    have hs := hs0
    rw [Int.toNat_natCast] at hs
    rw [hd, hs] at ho
    refine run_cond rfl (fun hc => ?_) (fun hc => ?_)
    · refine run_x (I := inf) 99 rfl (by repeat (first | exact obs_nil | refine obs_same ?_ | refine obs_and ?_ | refine obs_by (by (simp [inB] <;> omega)) ?_)) ?_
      refine run_retX (I := inf) 0 rfl (Nat.le_refl _) rfl .nil rfl ⟨?_, rfl⟩
      have hc' : (decide (s < d.1) || decide (s > d.2)) = true := by simp at hc ⊢; omega
      simp only [outL, hc', if_true] at ho
      show Out.ret (iv (IntKind.wrap .i64 ((i : Int) + 1))) = _
      rw [w64 (by omega) (by omega), ho]
    · have hc' : (decide (s < d.1) || decide (s > d.2)) = false := by simp at hc ⊢; omega
      simp only [outL, hc', Bool.false_eq_true, if_false] at ho
      refine run_x (I := inf) 99 rfl (by repeat (first | exact obs_nil | refine obs_same ?_ | refine obs_and ?_ | refine obs_by (by (simp [inB] <;> omega)) ?_)) ?_
      refine ih (i + 1) _ _ (by omega) ⟨⟨rfl, rfl, ?_⟩, rfl, by omega, ho⟩
      show iv (IntKind.wrap .i64 ((i : Int) + 1)) = _
      rw [w64 (by omega) (by omega)]; rfl
  · refine run_x (I := inf) 99 rfl (by repeat (first | exact obs_nil | refine obs_same ?_ | refine obs_and ?_ | refine obs_by (by (simp [inB] <;> omega)) ?_)) ?_
    refine run_retX (I := inf) 0 rfl (Nat.le_refl _) rfl .nil rfl ⟨?_, rfl⟩
    have hi' : i = ds.length := by simp at hlt; omega
    subst hi'
    rw [List.drop_length] at ho
    have h0 : out ds ss = 0 := by rw [← ho]; simp [outL]
    rw [h0]
    rfl

theorem r_place (n1 n2 : Option Bool) (ds : List Dim) (ss : List Int) (hl : ss.length = ds.length) (hlen : ds.length < 1000) (hf : fitL 1 ds) (ho : out ds ss = 0) :
    CallT Try.prog 99 [dimS n1 ds, intS n2 ss] [] (fun o A => o = .ret (iv (place ds ss)) ∧ A = []) := by
  refine callT_body (n := 39) rfl rfl fun w ρ X => ?_
  refine run_x (I := inf) 99 rfl (by repeat (first | exact obs_nil | refine obs_same ?_ | refine obs_and ?_ | refine obs_by (by (simp [inB] <;> omega)) ?_)) ?_
  refine run_while (fun (x : Int × Int × Nat) τ ar => (τ 0 = dimS n1 ds ∧ τ 1 = intS n2 ss ∧ τ 5 = iv x.1 ∧ τ 6 = iv x.2.2) ∧ ar = [] ∧ x.2.2 ≤ ds.length ∧ 1 ≤ x.2.1 ∧ x.2.1 ≤ 200 ∧ 0 ≤ x.1 ∧ x.1 < x.2.1 ∧ fitL x.2.1 (ds.drop x.2.2) ∧
      outL x.2.2 (ds.drop x.2.2) (ss.drop x.2.2) = 0 ∧ placeL x.1 (ds.drop x.2.2) (ss.drop x.2.2) = place ds ss) (fun x => ds.length - x.2.2)
    (0, 1, 0) ⟨⟨rfl, rfl, rfl, rfl⟩, rfl, Nat.zero_le _, (by dsimp only; omega), (by dsimp only; omega), (by dsimp only; omega), (by dsimp only; omega), hf, ho, rfl⟩ ?_
  rintro ⟨n, p, i⟩ τ' ar' ⟨⟨h0, h1, h5, h6⟩, rfl, hi, hp1, hp2, hn1, hn2, hv, ho, hpl⟩ ih
  dsimp only at h5 h6 hi hp1 hp2 hn1 hn2 hv ho hpl ih
  refine run_says 0 (by exact h0) (Says.refl _) ?_; refine run_says 1 (by exact h1) (Says.refl _) ?_; refine run_says 5 (by exact h5) (Says.refl _) ?_; refine run_says 6 (by exact h6) (Says.refl _) ?_
  refine run_x (I := inf) 99 rfl (by repeat (first | exact obs_nil | refine obs_same ?_ | refine obs_and ?_ | refine obs_by (by (simp [inB] <;> omega)) ?_)) ?_
  refine run_cond rfl (fun hlt => ?_) (fun hlt => ?_)
  · have hlt' : i < ds.length := by simpa using hlt
    have hlt2 : i < ss.length := by omega
    rw [getD_drop (d := ((0, 0) : Dim)) hlt'] at hv ho hpl
    rw [getD_drop (d := (0 : Int)) hlt2] at ho hpl
    refine run_x (I := inf) 99 rfl (by repeat (first | exact obs_nil | refine obs_same ?_ | refine obs_and ?_ | refine obs_by (by (simp [inB] <;> omega)) ?_)) ?_
    refine run_draw 26 (by kernel_rfl) (by kernel_rfl) (lex_x (I := inf) 99 rfl rfl (by repeat (first | exact obs_nil | refine obs_same ?_ | refine obs_and ?_ | refine obs_by (by (simp [inB, hlt'] <;> omega)) ?_)) lex_nil) ?_
    refine run_x (I := inf) 99 rfl (by repeat (first | exact obs_nil | refine obs_same ?_ | refine obs_and ?_ | refine obs_by (by (simp [inB] <;> omega)) ?_)) ?_
    generalize hd0 : ds.getD ((i : Nat) : Int).toNat (0, 0) = d
    have hd := hd0
    rw [Int.toNat_natCast] at hd
    generalize hs0 : ss.getD ((i : Nat) : Int).toNat 0 = s
    have hs := hs0
    rw [Int.toNat_natCast] at hs
    rw [hd] at hv ho hpl
    rw [hs] at ho hpl
    obtain ⟨hr, hp3, hv'⟩ := hv
    have hs2 : d.1 ≤ s ∧ s ≤ d.2 := by
      by_cases hc : (decide (s < d.1) || decide (s > d.2)) = true
      · simp only [outL, hc, if_true] at ho; omega
      · simp at hc; omega
    have hc' : (decide (s < d.1) || decide (s > d.2)) = false := by simp; omega
    simp only [outL, hc', Bool.false_eq_true, if_false] at ho
    simp only [placeL] at hpl
    obtain ⟨m1, m2⟩ := mul_le_200 (e := ext d) hp1 hp2 (by unfold ext; omega) (by unfold ext; omega)
    obtain ⟨q1, q2⟩ := step_lt (e := ext d) (s := s - d.1) hn1 hn2 (by omega) (by unfold ext; omega)
    obtain ⟨q3, q4⟩ := step_lt (e := ext d) (s := 0) hn1 hn2 (by omega) (by unfold ext; omega)
    have hw : IntKind.wrap .i64 (IntKind.wrap .i64 (IntKind.wrap .i64 (n * IntKind.wrap .i64 (IntKind.wrap .i64 (d.2 - d.1) + 1)) + s) - d.1) = n * ext d + s - d.1 := by
      rw [w64 (x := d.2 - d.1) (by omega) (by omega), w64 (x := d.2 - d.1 + 1) (by omega) (by omega), show d.2 - d.1 + 1 = ext d from rfl, w64 (x := n * ext d) (by omega) (by omega), w64 (x := n * ext d + s) (by omega) (by omega), w64 (by omega) (by omega)]
    refine ih (n * ext d + s - d.1, p * ext d, i + 1) _ _ (by dsimp only; omega) ⟨⟨rfl, rfl, ?_, ?_⟩, rfl, by dsimp only; omega, m1, hp3, by dsimp only; omega, by dsimp only; omega, hv', ho, hpl⟩
    · show iv (IntKind.wrap .i64 (IntKind.wrap .i64 (IntKind.wrap .i64 (n * IntKind.wrap .i64 (IntKind.wrap .i64 (d.2 - d.1) + 1)) + s) - d.1)) = _
      rw [hw]
    · show iv (IntKind.wrap .i64 ((i : Int) + 1)) = _
      rw [w64 (by omega) (by omega)]; rfl
  · refine run_x (I := inf) 99 rfl (by repeat (first | exact obs_nil | refine obs_same ?_ | refine obs_and ?_ | refine obs_by (by (simp [inB] <;> omega)) ?_)) ?_
    refine run_retX (I := inf) 0 rfl (Nat.le_refl _) rfl .nil rfl ⟨?_, rfl⟩
    have hi' : i = ds.length := by simp at hlt; omega
    subst hi'
    rw [List.drop_length] at hpl
    have hpl' : place ds ss = n := by rw [← hpl]; simp [placeL]
    rw [hpl']
    rfl

/-- Offset's answer. -/
def offF (ds : List Dim) (ss : List Int) : Int × Int × Int × Int :=
  if validD ds then (if ss.length = ds.length then (if out ds ss = 0 then (place ds ss, 0, 0, 0) else (0, 7, out ds ss, 0)) else (0, 0, 0, 11)) else (0, 0, 0, 1)
def tup4 (x : Int × Int × Int × Int) : AV := .tup [iv x.1, iv x.2.1, iv x.2.2.1, iv x.2.2.2]

theorem out_nonneg : ∀ (i : Int) (ds : List Dim) (ss : List Int), 0 ≤ i → 0 ≤ outL i ds ss
  | i, [], ss, h => by simp [outL]
  | i, d :: l, [], h => by simp [outL]
  | i, d :: l, s :: t, h => by
    unfold outL
    split
    · omega
    · exact out_nonneg (i + 1) l t (by omega)

theorem a_Offset (n1 n2 : Option Bool) (ds : List Dim) (ss : List Int) : CallT Try.prog 44 [dimS n1 ds, intS n2 ss] [] (fun o A => o = .ret (tup4 (offF ds ss)) ∧ A = []) := by
  refine callT_body (n := 28) rfl rfl fun w ρ X => ?_
  refine run_x (I := inf) 99 rfl (by repeat (first | exact obs_nil | refine obs_same ?_ | refine obs_and ?_ | refine obs_by (by (simp [inB] <;> omega)) ?_)) ?_
  refine run_call rfl rfl rfl rfl rfl rfl rfl rfl (a_Valid n1 ds) ?_
  refine run_x (I := inf) 99 rfl (by repeat (first | exact obs_nil | refine obs_same ?_ | refine obs_and ?_ | refine obs_by (by (simp [inB] <;> omega)) ?_)) ?_
  refine run_cond rfl (fun h => ?_) (fun h => ?_)
  · refine run_x (I := inf) 99 rfl (by repeat (first | exact obs_nil | refine obs_same ?_ | refine obs_and ?_ | refine obs_by (by (simp [inB] <;> omega)) ?_)) ?_
    refine run_retX (I := inf) 0 rfl (Nat.le_refl _) rfl .nil rfl ⟨?_, rfl⟩
    have h' : validD ds = false := by simpa using h
    simp only [offF, h']; rfl
  · have h' : validD ds = true := by simpa using h
    have hf := fit_valid h'
    refine run_x (I := inf) 99 rfl (by repeat (first | exact obs_nil | refine obs_same ?_ | refine obs_and ?_ | refine obs_by (by (simp [inB] <;> omega)) ?_)) ?_
    refine run_cond rfl (fun hc => ?_) (fun hc => ?_)
    · refine run_x (I := inf) 99 rfl (by repeat (first | exact obs_nil | refine obs_same ?_ | refine obs_and ?_ | refine obs_by (by (simp [inB] <;> omega)) ?_)) ?_
      refine run_retX (I := inf) 0 rfl (Nat.le_refl _) rfl .nil rfl ⟨?_, rfl⟩
      have hc' : ¬ ss.length = ds.length := by simp at hc; omega
      simp only [offF, h', hc', if_true, if_false]; rfl
    · have hc' : ss.length = ds.length := by simp at hc; omega
      refine run_x (I := inf) 99 rfl (by repeat (first | exact obs_nil | refine obs_same ?_ | refine obs_and ?_ | refine obs_by (by (simp [inB] <;> omega)) ?_)) ?_
      refine run_call rfl rfl rfl rfl rfl rfl rfl rfl (a_offset n1 n2 ds ss hc' (by omega) hf.1) ?_
      refine run_x (I := inf) 99 rfl (by repeat (first | exact obs_nil | refine obs_same ?_ | refine obs_and ?_ | refine obs_by (by (simp [inB] <;> omega)) ?_)) ?_
      have hnn : 0 ≤ out ds ss := out_nonneg 0 ds ss (by omega)
      refine run_cond rfl (fun hp => ?_) (fun hp => ?_)
      · refine run_x (I := inf) 99 rfl (by repeat (first | exact obs_nil | refine obs_same ?_ | refine obs_and ?_ | refine obs_by (by (simp [inB] <;> omega)) ?_)) ?_
        refine run_retX (I := inf) 0 rfl (Nat.le_refl _) rfl .nil rfl ⟨?_, rfl⟩
        have hp' : ¬ out ds ss = 0 := by simp at hp; omega
        simp only [offF, h', hc', hp', if_true, if_false]; rfl
      · refine run_x (I := inf) 99 rfl (by repeat (first | exact obs_nil | refine obs_same ?_ | refine obs_and ?_ | refine obs_by (by (simp [inB] <;> omega)) ?_)) ?_
        refine run_retX (I := inf) 0 rfl (Nat.le_refl _) rfl .nil rfl ⟨?_, rfl⟩
        have hp' : out ds ss = 0 := by simp at hp; omega
        simp only [offF, h', hc', hp', if_true]
        rfl

theorem r_Offset (n1 n2 : Option Bool) (ds : List Dim) (ss : List Int) : CallT Try.prog 45 [dimS n1 ds, intS n2 ss] [] (fun o A => o = .ret (tup4 (offF ds ss)) ∧ A = []) := by
  refine callT_body (n := 28) rfl rfl fun w ρ X => ?_
  refine run_x (I := inf) 99 rfl (by repeat (first | exact obs_nil | refine obs_same ?_ | refine obs_and ?_ | refine obs_by (by (simp [inB] <;> omega)) ?_)) ?_
  refine run_call rfl rfl rfl rfl rfl rfl rfl rfl (r_Valid n1 ds) ?_
  refine run_x (I := inf) 99 rfl (by repeat (first | exact obs_nil | refine obs_same ?_ | refine obs_and ?_ | refine obs_by (by (simp [inB] <;> omega)) ?_)) ?_
  refine run_cond rfl (fun h => ?_) (fun h => ?_)
  · refine run_x (I := inf) 99 rfl (by repeat (first | exact obs_nil | refine obs_same ?_ | refine obs_and ?_ | refine obs_by (by (simp [inB] <;> omega)) ?_)) ?_
    refine run_retX (I := inf) 0 rfl (Nat.le_refl _) rfl .nil rfl ⟨?_, rfl⟩
    have h' : validD ds = false := by simpa using h
    simp only [offF, h']; rfl
  · have h' : validD ds = true := by simpa using h
    have hf := fit_valid h'
    refine run_x (I := inf) 99 rfl (by repeat (first | exact obs_nil | refine obs_same ?_ | refine obs_and ?_ | refine obs_by (by (simp [inB] <;> omega)) ?_)) ?_
    refine run_cond rfl (fun hc => ?_) (fun hc => ?_)
    · refine run_x (I := inf) 99 rfl (by repeat (first | exact obs_nil | refine obs_same ?_ | refine obs_and ?_ | refine obs_by (by (simp [inB] <;> omega)) ?_)) ?_
      refine run_retX (I := inf) 0 rfl (Nat.le_refl _) rfl .nil rfl ⟨?_, rfl⟩
      have hc' : ¬ ss.length = ds.length := by simp at hc; omega
      simp only [offF, h', hc', if_true, if_false]; rfl
    · have hc' : ss.length = ds.length := by simp at hc; omega
      refine run_x (I := inf) 99 rfl (by repeat (first | exact obs_nil | refine obs_same ?_ | refine obs_and ?_ | refine obs_by (by (simp [inB] <;> omega)) ?_)) ?_
      refine run_call rfl rfl rfl rfl rfl rfl rfl rfl (r_out n1 n2 ds ss hc' (by omega)) ?_
      refine run_x (I := inf) 99 rfl (by repeat (first | exact obs_nil | refine obs_same ?_ | refine obs_and ?_ | refine obs_by (by (simp [inB] <;> omega)) ?_)) ?_
      have hnn : 0 ≤ out ds ss := out_nonneg 0 ds ss (by omega)
      refine run_cond rfl (fun hp => ?_) (fun hp => ?_)
      · refine run_x (I := inf) 99 rfl (by repeat (first | exact obs_nil | refine obs_same ?_ | refine obs_and ?_ | refine obs_by (by (simp [inB] <;> omega)) ?_)) ?_
        refine run_retX (I := inf) 0 rfl (Nat.le_refl _) rfl .nil rfl ⟨?_, rfl⟩
        have hp' : ¬ out ds ss = 0 := by simp at hp; omega
        simp only [offF, h', hc', hp', if_true, if_false]; rfl
      · have hp' : out ds ss = 0 := by simp at hp; omega
        refine run_x (I := inf) 99 rfl (by repeat (first | exact obs_nil | refine obs_same ?_ | refine obs_and ?_ | refine obs_by (by (simp [inB] <;> omega)) ?_)) ?_
        refine run_call rfl rfl rfl rfl rfl rfl rfl rfl (r_place n1 n2 ds ss hc' (by omega) hf.1 hp') ?_
        refine run_x (I := inf) 99 rfl (by repeat (first | exact obs_nil | refine obs_same ?_ | refine obs_and ?_ | refine obs_by (by (simp [inB] <;> omega)) ?_)) ?_
        refine run_retX (I := inf) 0 rfl (Nat.le_refl _) rfl .nil rfl ⟨?_, rfl⟩
        simp only [offF, h', hc', hp', if_true]
        rfl
end Go.Iron.Try

/- The array package's functions (seat Ytamhonbhoelohaa): subscripts of an offset. -/
namespace Go.Iron.Try
open Go.Proofs

/-- The subscripts that remain to be told: the first k. -/
def fillD (ds : List Dim) : Nat → Int → List Int → List Int
  | 0, _, xs => xs
  | k + 1, off, xs => fillD ds k (off.tdiv (ext (ds.getD k (0, 0)))) (xs.set k ((ds.getD k (0, 0)).1 + off.tmod (ext (ds.getD k (0, 0)))))
def atD (ds : List Dim) (off : Int) : List Int := fillD ds ds.length off (List.replicate ds.length 0)

theorem intR_set {xs : List Int} {k : Nat} {v : Int} (hk : k < xs.length) : ∀ i, i < xs.length → intR (xs.set k v) i = setR (intR xs) k [iv v] i := by
  intro i hi
  by_cases h : i = k
  · subst h
    rw [setR_self]
    simp [intR, List.getD_eq_getElem?_getD, hi]
  · rw [setR_ne h]
    simp [intR, List.getD_eq_getElem?_getD, List.getElem?_set_ne (Ne.symm h)]

theorem ext_bounds {n : Int} {i : Nat} {ds : List Dim} (hf : fitL n ds) (hi : i < ds.length) : 1 ≤ ext (ds.getD i (0, 0)) ∧ ext (ds.getD i (0, 0)) ≤ 65536 := by
  have := dim_in hf hi
  unfold ext
  omega

theorem nz_of {q : Int} (h : q ≠ 0) : nz q = true := by
  cases q with
  | ofNat n => cases n with
    | zero => exact absurd rfl h
    | succ n => rfl
  | negSucc n => rfl

theorem rep_intR (n : Nat) (i : Nat) (hi : i < n) : intR (List.replicate n 0) i = [iv 0] := by
  simp [intR, List.getD_eq_getElem?_getD, hi]

theorem a_subs (n1 : Option Bool) (ds : List Dim) (off : Int) (h0 : 0 ≤ off) (h1 : off ≤ 1000000) (hlen : ds.length < 1000) (hf : fitL 1 ds) :
    CallT Try.prog 100 [dimS n1 ds, iv off] [] (fun o A => o = .ret (intS none (atD ds off)) ∧ A = []) := by
  refine callT_body (n := 41) rfl rfl fun w ρ X => ?_
  refine run_x (I := inf) 99 rfl (by repeat (first | exact obs_nil | refine obs_same ?_ | refine obs_and ?_ | refine obs_by (by (simp [inB, hlen] <;> omega)) ?_)) ?_
  refine run_tell 0 (intR (List.replicate ds.length 0)) rfl (m' := ds.length) (by simp) (fun i hi => rep_intR _ _ (by omega)) rfl ?_
  refine run_while (fun (x : Int × List Int × Nat) τ ar => (τ 0 = dimS n1 ds ∧ τ 1 = iv x.1 ∧ τ 5 = .row 0 0 ∧ τ 6 = iv ((x.2.2 : Int) - 1)) ∧ ar = [.row 3 1 0 ds.length (intR x.2.1)] ∧ x.2.1.length = ds.length ∧ x.2.2 ≤ ds.length ∧ 0 ≤ x.1 ∧ x.1 ≤ 1000000 ∧ fillD ds x.2.2 x.1 x.2.1 = atD ds off) (fun x => x.2.2)
    (off, List.replicate ds.length 0, ds.length) ⟨⟨rfl, rfl, rfl, ?_⟩, rfl, by simp, Nat.le_refl _, h0, h1, rfl⟩ ?_
  · show iv (IntKind.wrap .i64 ((ds.length : Int) - 1)) = _
    rw [w64 (by omega) (by omega)]
  rintro ⟨n, xs, k⟩ τ' ar' ⟨⟨g0, g1, g5, g6⟩, rfl, hx, hk, hn0, hn1, hfi⟩ ih
  dsimp only at g1 g6 hx hk hn0 hn1 hfi ih
  refine run_says 0 (by exact g0) (Says.refl _) ?_; refine run_says 1 (by exact g1) (Says.refl _) ?_; refine run_says 5 (by exact g5) (Says.refl _) ?_; refine run_says 6 (by exact g6) (Says.refl _) ?_
  refine run_x (I := inf) 99 rfl (by repeat (first | exact obs_nil | refine obs_same ?_ | refine obs_and ?_ | refine obs_by (by (simp [inB] <;> omega)) ?_)) ?_
  refine run_cond rfl (fun hlt => ?_) (fun hlt => ?_)
  · obtain ⟨k, rfl⟩ : ∃ k', k = k' + 1 := ⟨k - 1, by simp at hlt; omega⟩
    have hki : ((k + 1 : Nat) : Int) - 1 = (k : Int) := by omega
    rw [hki]
    have hk' : k < ds.length := by omega
    have he := ext_bounds hf hk'
    have hr := dim_in hf hk'
    have hnz : nz (ext (ds.getD k (0, 0))) = true := nz_of (by omega)
    refine run_x (I := inf) 99 rfl (by repeat (first | exact obs_nil | refine obs_same ?_ | refine obs_and ?_ | refine obs_by (by (simp [inB] <;> omega)) ?_)) ?_
    refine run_draw 16 (by kernel_rfl) (by kernel_rfl) (lex_x (I := inf) 99 rfl rfl (by repeat (first | exact obs_nil | refine obs_same ?_ | refine obs_and ?_ | refine obs_by (by first | exact fun _ => hnz | (simp [inB, hk'] <;> omega)) ?_)) (lex_call rfl rfl rfl rfl rfl rfl rfl rfl (extent (ds.getD k (0, 0)) hr.1 hr.2.1 hr.2.2) (lex_x (I := inf) 99 rfl rfl (by repeat (first | exact obs_nil | refine obs_same ?_ | refine obs_and ?_ | refine obs_by (by first | exact fun _ => hnz | (simp [inB, hk'] <;> omega)) ?_)) lex_nil))) ?_
    refine run_x (I := inf) 99 rfl (by repeat (first | exact obs_nil | refine obs_same ?_ | refine obs_and ?_ | refine obs_by (by (simp [inB, hk', hx] <;> omega)) ?_)) ?_
    generalize hd : ds.getD k (0, 0) = d at he hr hnz
    have hd0 : ds.getD ((k : Nat) : Int).toNat (0, 0) = d := hd
    have hm0 : 0 ≤ n.tmod (ext d) := Int.tmod_nonneg _ hn0
    have hm1 : n.tmod (ext d) < ext d := Int.tmod_lt_of_pos _ (by omega)
    have hq0 : 0 ≤ n.tdiv (ext d) := Int.tdiv_nonneg hn0 (by omega)
    have hq1 : n.tdiv (ext d) ≤ n := Int.tdiv_le_self _ hn0
    have hw : IntKind.wrap .i64 (d.1 + n.tmod (ext d)) = d.1 + n.tmod (ext d) := w64 (by omega) (by omega)
    refine run_tell 0 (intR (xs.set k (d.1 + n.tmod (ext d)))) rfl rfl (fun i hi => ?_) rfl ?_
    · rw [intR_set (by omega) i (by omega), hd0]
      show _ = setR (intR xs) k [iv (IntKind.wrap .i64 (d.1 + n.tmod (ext d)))] i
      rw [hw]
    rw [hd0]
    refine run_call rfl rfl rfl rfl rfl rfl rfl rfl (extent d hr.1 hr.2.1 hr.2.2) ?_
    refine run_x (I := inf) 99 rfl (by repeat (first | exact obs_nil | refine obs_same ?_ | refine obs_and ?_ | refine obs_by (by first | exact fun _ => hnz | (simp [inB] <;> omega)) ?_)) ?_
    refine ih (n.tdiv (ext d), xs.set k (d.1 + n.tmod (ext d)), k) _ _ (by dsimp only; omega) ⟨⟨rfl, ?_, rfl, ?_⟩, rfl, by simpa using hx, by dsimp only; omega, hq0, by dsimp only; omega, ?_⟩
    · show iv (IntKind.wrap .i64 (n.tdiv (ext d))) = _
      rw [w64 (by omega) (by omega)]
    · show iv (IntKind.wrap .i64 ((k : Int) - 1)) = _
      rw [w64 (by omega) (by omega)]
    · rw [← hfi, ← hd]; rfl
  · refine run_x (I := inf) 99 rfl (by repeat (first | exact obs_nil | refine obs_same ?_ | refine obs_and ?_ | refine obs_by (by (simp [inB] <;> omega)) ?_)) ?_
    have hk0 : k = 0 := by simp at hlt; omega
    subst hk0
    refine run_freeze 4 rfl rfl rfl (fun i hi => rfl) ?_
    refine run_retX (I := inf) 0 rfl (Nat.le_refl _) rfl .nil rfl ⟨?_, rfl⟩
    rw [← hfi]
    show Out.ret (.slc 1 none ds.length (intR xs)) = .ret (.slc 1 none xs.length (intR xs))
    rw [hx]

theorem r_at (n1 : Option Bool) (ds : List Dim) (off : Int) (h0 : 0 ≤ off) (h1 : off ≤ 1000000) (hlen : ds.length < 1000) (hf : fitL 1 ds) :
    CallT Try.prog 59 [dimS n1 ds, iv off] [] (fun o A => o = .ret (intS none (atD ds off)) ∧ A = []) := by
  refine callT_body (n := 46) rfl rfl fun w ρ X => ?_
  refine run_x (I := inf) 99 rfl (by repeat (first | exact obs_nil | refine obs_same ?_ | refine obs_and ?_ | refine obs_by (by (simp [inB, hlen] <;> omega)) ?_)) ?_
  refine run_tell 0 (intR (List.replicate ds.length 0)) rfl (m' := ds.length) (by simp) (fun i hi => rep_intR _ _ (by omega)) rfl ?_
  refine run_while (fun (x : Int × List Int × Nat) τ ar => (τ 0 = dimS n1 ds ∧ τ 1 = iv x.1 ∧ τ 5 = .row 0 0 ∧ τ 6 = iv ((x.2.2 : Int) - 1)) ∧ ar = [.row 3 1 0 ds.length (intR x.2.1)] ∧ x.2.1.length = ds.length ∧ x.2.2 ≤ ds.length ∧ 0 ≤ x.1 ∧ x.1 ≤ 1000000 ∧ fillD ds x.2.2 x.1 x.2.1 = atD ds off) (fun x => x.2.2)
    (off, List.replicate ds.length 0, ds.length) ⟨⟨rfl, rfl, rfl, ?_⟩, rfl, by simp, Nat.le_refl _, h0, h1, rfl⟩ ?_
  · show iv (IntKind.wrap .i64 ((ds.length : Int) - 1)) = _
    rw [w64 (by omega) (by omega)]
  rintro ⟨n, xs, k⟩ τ' ar' ⟨⟨g0, g1, g5, g6⟩, rfl, hx, hk, hn0, hn1, hfi⟩ ih
  dsimp only at g1 g6 hx hk hn0 hn1 hfi ih
  refine run_says 0 (by exact g0) (Says.refl _) ?_; refine run_says 1 (by exact g1) (Says.refl _) ?_; refine run_says 5 (by exact g5) (Says.refl _) ?_; refine run_says 6 (by exact g6) (Says.refl _) ?_
  refine run_x (I := inf) 99 rfl (by repeat (first | exact obs_nil | refine obs_same ?_ | refine obs_and ?_ | refine obs_by (by (simp [inB] <;> omega)) ?_)) ?_
  refine run_cond rfl (fun hlt => ?_) (fun hlt => ?_)
  · obtain ⟨k, rfl⟩ : ∃ k', k = k' + 1 := ⟨k - 1, by simp at hlt; omega⟩
    have hki : ((k + 1 : Nat) : Int) - 1 = (k : Int) := by omega
    rw [hki]
    have hk' : k < ds.length := by omega
    have he := ext_bounds hf hk'
    have hr := dim_in hf hk'
    refine run_x (I := inf) 99 rfl (by repeat (first | exact obs_nil | refine obs_same ?_ | refine obs_and ?_ | refine obs_by (by (simp [inB] <;> omega)) ?_)) ?_
    refine run_draw 13 (by kernel_rfl) (by kernel_rfl) (lex_x (I := inf) 99 rfl rfl (by repeat (first | exact obs_nil | refine obs_same ?_ | refine obs_and ?_ | refine obs_by (by (simp [inB, hk'] <;> omega)) ?_)) lex_nil) ?_
    refine run_x (I := inf) 99 rfl (by repeat (first | exact obs_nil | refine obs_same ?_ | refine obs_and ?_ | refine obs_by (by (simp [inB] <;> omega)) ?_)) ?_
    generalize hd : ds.getD k (0, 0) = d at he hr
    have hd0 : ds.getD ((k : Nat) : Int).toNat (0, 0) = d := hd
    have hnz : nz (ext d) = true := nz_of (by omega)
    have hwe : IntKind.wrap .i64 (IntKind.wrap .i64 (d.2 - d.1) + 1) = ext d := by
      rw [w64 (x := d.2 - d.1) (by omega) (by omega), w64 (by omega) (by omega)]
      rfl
    refine run_says 7 rfl (y := iv (ext d)) (by rw [hd0, hwe]; exact Says.refl _) ?_
    refine run_draw 12 (by kernel_rfl) (by kernel_rfl) (lex_x (I := inf) 99 rfl rfl (by repeat (first | exact obs_nil | refine obs_same ?_ | refine obs_and ?_ | refine obs_by (by first | exact fun _ => hnz | (simp [inB, hk', hx] <;> omega)) ?_)) lex_nil) ?_
    refine run_x (I := inf) 99 rfl (by repeat (first | exact obs_nil | refine obs_same ?_ | refine obs_and ?_ | refine obs_by (by first | exact fun _ => hnz | (simp [inB, hk', hx] <;> omega)) ?_)) ?_
    have hm0 : 0 ≤ n.tmod (ext d) := Int.tmod_nonneg _ hn0
    have hm1 : n.tmod (ext d) < ext d := Int.tmod_lt_of_pos _ (by omega)
    have hq0 : 0 ≤ n.tdiv (ext d) := Int.tdiv_nonneg hn0 (by omega)
    have hq1 : n.tdiv (ext d) ≤ n := Int.tdiv_le_self _ hn0
    have hw : IntKind.wrap .i64 (d.1 + n.tmod (ext d)) = d.1 + n.tmod (ext d) := w64 (by omega) (by omega)
    refine run_tell 0 (intR (xs.set k (d.1 + n.tmod (ext d)))) rfl rfl (fun i hi => ?_) rfl ?_
    · rw [intR_set (by omega) i (by omega), hd0]
      show _ = setR (intR xs) k [iv (IntKind.wrap .i64 (d.1 + n.tmod (ext d)))] i
      rw [hw]
    refine ih (n.tdiv (ext d), xs.set k (d.1 + n.tmod (ext d)), k) _ _ (by dsimp only; omega) ⟨⟨rfl, ?_, rfl, ?_⟩, rfl, by simpa using hx, by dsimp only; omega, hq0, by dsimp only; omega, ?_⟩
    · show iv (IntKind.wrap .i64 (n.tdiv (ext d))) = _
      rw [w64 (by omega) (by omega)]
    · show iv (IntKind.wrap .i64 ((k : Int) - 1)) = _
      rw [w64 (by omega) (by omega)]
    · rw [← hfi, ← hd]; rfl
  · refine run_x (I := inf) 99 rfl (by repeat (first | exact obs_nil | refine obs_same ?_ | refine obs_and ?_ | refine obs_by (by (simp [inB] <;> omega)) ?_)) ?_
    have hk0 : k = 0 := by simp at hlt; omega
    subst hk0
    refine run_freeze 4 rfl rfl rfl (fun i hi => rfl) ?_
    refine run_retX (I := inf) 0 rfl (Nat.le_refl _) rfl .nil rfl ⟨?_, rfl⟩
    rw [← hfi]
    show Out.ret (.slc 1 none ds.length (intR xs)) = .ret (.slc 1 none xs.length (intR xs))
    rw [hx]
end Go.Iron.Try

/- The array package's functions (seat Ytamhonbhoelohaa): Subs, Next. -/
namespace Go.Iron.Try
open Go.Proofs

theorem stay_sameInts (n1 n2 : Option Bool) (xs ys : List Int) (hb : xs.length < 9223372036854775807) : CallT Try.prog 15 [intS n1 xs, intS n2 ys] [] (fun out A => out = .ret (bv (decide (xs = ys))) ∧ A = []) := by
  refine callT_body (n := 26) rfl rfl fun w ρ X => ?_
  refine run_x (I := inf) 99 rfl (by simp only [app, obs_cons, obs_nil']) ?_
  refine run_cond rfl (fun h => ?_) (fun h => ?_)
  · refine run_x (I := inf) 99 rfl (by simp only [app, obs_cons, obs_nil']) ?_
    refine run_drop 0 (Nat.le_refl _) rfl .nil (run_ret (.tmp .nil) ⟨?_, rfl⟩)
    show Out.ret (bv false) = _
    have : xs ≠ ys := fun e => by subst e; simp at h
    simp [this]
  · have hl : xs.length = ys.length := ieq (by simpa using h)
    refine run_x (I := inf) 99 rfl (by simp only [app, obs_cons, obs_nil']) ?_
    refine run_while (fun (i : Nat) τ ar => (τ 0 = intS n1 xs ∧ τ 1 = intS n2 ys ∧ τ 5 = iv i) ∧ ar = [] ∧ i ≤ xs.length ∧ xs.take i = ys.take i) (fun i => xs.length - i) 0 ⟨⟨rfl, rfl, rfl⟩, rfl, Nat.zero_le _, rfl⟩ ?_
    rintro i τ' ar' ⟨⟨h0, h1, h5⟩, rfl, hi, hp⟩ ih
    refine run_says 0 h0 (Says.refl _) (run_says 1 (by exact h1) (Says.refl _) (run_says 5 (by exact h5) (Says.refl _) ?_))
    refine run_x (I := inf) 99 rfl (by simp only [app, obs_cons, obs_nil']) ?_
    refine run_cond rfl (fun hlt => ?_) (fun hlt => ?_)
    · have hlt' : i < xs.length := by simpa using hlt
      refine run_x (I := inf) 99 rfl (by simp only [app, obs_cons, obs_nil']) ?_
      refine run_draw 9 (by kernel_rfl) (by kernel_rfl) (lex_x (I := inf) 99 rfl rfl (by simp only [app, obs_cons, obs_nil']; simp [inB, hlt', ← hl]) lex_nil) ?_
      refine run_x (I := inf) 99 rfl (by simp only [app, obs_cons, obs_nil']) ?_
      refine run_cond rfl (fun hne => ?_) (fun hne => ?_)
      · refine run_x (I := inf) 99 rfl (by simp only [app, obs_cons, obs_nil']) ?_
        refine run_drop 0 (Nat.le_refl _) rfl .nil (run_ret (.tmp .nil) ⟨?_, rfl⟩)
        show Out.ret (bv false) = _
        have : xs ≠ ys := fun e => by subst e; simp at hne
        simp [this]
      · refine run_x (I := inf) 99 rfl (by simp only [app, obs_cons, obs_nil']) ?_
        have hs : IntKind.wrap .i64 ((i : Int) + 1) = ((i + 1 : Nat) : Int) := by rw [w64] <;> omega
        refine ih (i + 1) _ _ (by omega) ⟨⟨rfl, rfl, ?_⟩, rfl, by omega, ?_⟩
        · show iv (IntKind.wrap .i64 ((i : Int) + 1)) = _
          rw [hs]
        · refine take_next (d := 0) hl hlt' hp ?_
          simp at hne
          exact hne
    · refine run_x (I := inf) 99 rfl (by simp only [app, obs_cons, obs_nil']) ?_
      refine run_drop 0 (Nat.le_refl _) rfl .nil (run_ret (.tmp .nil) ⟨?_, rfl⟩)
      show Out.ret (bv true) = _
      have hi' : i = xs.length := by simp at hlt; omega
      subst hi'
      have : xs = ys := by rw [List.take_length] at hp; rw [hp, hl, List.take_length]
      simp [this]
theorem law_ints (n1 n2 : Option Bool) (xs ys : List Int) (hb : xs.length < 9223372036854775807) : CallT Try.prog 48 [intS n1 xs, intS n2 ys] [] (fun out A => out = .ret (bv (decide (xs = ys))) ∧ A = []) := by
  refine callT_body (n := 26) rfl rfl fun w ρ X => ?_
  refine run_x (I := inf) 99 rfl (by simp only [app, obs_cons, obs_nil']) ?_
  refine run_cond rfl (fun h => ?_) (fun h => ?_)
  · refine run_x (I := inf) 99 rfl (by simp only [app, obs_cons, obs_nil']) ?_
    refine run_drop 0 (Nat.le_refl _) rfl .nil (run_ret (.tmp .nil) ⟨?_, rfl⟩)
    show Out.ret (bv false) = _
    have : xs ≠ ys := fun e => by subst e; simp at h
    simp [this]
  · have hl : xs.length = ys.length := ieq (by simpa using h)
    refine run_x (I := inf) 99 rfl (by simp only [app, obs_cons, obs_nil']) ?_
    refine run_while (fun (i : Nat) τ ar => (τ 0 = intS n1 xs ∧ τ 1 = intS n2 ys ∧ τ 5 = iv i) ∧ ar = [] ∧ i ≤ xs.length ∧ xs.take i = ys.take i) (fun i => xs.length - i) 0 ⟨⟨rfl, rfl, rfl⟩, rfl, Nat.zero_le _, rfl⟩ ?_
    rintro i τ' ar' ⟨⟨h0, h1, h5⟩, rfl, hi, hp⟩ ih
    refine run_says 0 h0 (Says.refl _) (run_says 1 (by exact h1) (Says.refl _) (run_says 5 (by exact h5) (Says.refl _) ?_))
    refine run_x (I := inf) 99 rfl (by simp only [app, obs_cons, obs_nil']) ?_
    refine run_cond rfl (fun hlt => ?_) (fun hlt => ?_)
    · have hlt' : i < xs.length := by simpa using hlt
      refine run_x (I := inf) 99 rfl (by simp only [app, obs_cons, obs_nil']) ?_
      refine run_draw 9 (by kernel_rfl) (by kernel_rfl) (lex_x (I := inf) 99 rfl rfl (by simp only [app, obs_cons, obs_nil']; simp [inB, hlt', ← hl]) lex_nil) ?_
      refine run_x (I := inf) 99 rfl (by simp only [app, obs_cons, obs_nil']) ?_
      refine run_cond rfl (fun hne => ?_) (fun hne => ?_)
      · refine run_x (I := inf) 99 rfl (by simp only [app, obs_cons, obs_nil']) ?_
        refine run_drop 0 (Nat.le_refl _) rfl .nil (run_ret (.tmp .nil) ⟨?_, rfl⟩)
        show Out.ret (bv false) = _
        have : xs ≠ ys := fun e => by subst e; simp at hne
        simp [this]
      · refine run_x (I := inf) 99 rfl (by simp only [app, obs_cons, obs_nil']) ?_
        have hs : IntKind.wrap .i64 ((i : Int) + 1) = ((i + 1 : Nat) : Int) := by rw [w64] <;> omega
        refine ih (i + 1) _ _ (by omega) ⟨⟨rfl, rfl, ?_⟩, rfl, by omega, ?_⟩
        · show iv (IntKind.wrap .i64 ((i : Int) + 1)) = _
          rw [hs]
        · refine take_next (d := 0) hl hlt' hp ?_
          simp at hne
          exact hne
    · refine run_x (I := inf) 99 rfl (by simp only [app, obs_cons, obs_nil']) ?_
      refine run_drop 0 (Nat.le_refl _) rfl .nil (run_ret (.tmp .nil) ⟨?_, rfl⟩)
      show Out.ret (bv true) = _
      have hi' : i = xs.length := by simp at hlt; omega
      subst hi'
      have : xs = ys := by rw [List.take_length] at hp; rw [hp, hl, List.take_length]
      simp [this]
theorem r_Equal (n1 n2 : Option Bool) (xs ys : List Dim) (hb : xs.length < 9223372036854775807) : CallT Try.prog 53 [dimS n1 xs, dimS n2 ys] [] (fun out A => out = .ret (bv (decide (xs = ys))) ∧ A = []) := by
  refine callT_body (n := 26) rfl rfl fun w ρ X => ?_
  refine run_x (I := inf) 99 rfl (by simp only [app, obs_cons, obs_nil']) ?_
  refine run_cond rfl (fun h => ?_) (fun h => ?_)
  · refine run_x (I := inf) 99 rfl (by simp only [app, obs_cons, obs_nil']) ?_
    refine run_drop 0 (Nat.le_refl _) rfl .nil (run_ret (.tmp .nil) ⟨?_, rfl⟩)
    show Out.ret (bv false) = _
    have : xs ≠ ys := fun e => by subst e; simp at h
    simp [this]
  · have hl : xs.length = ys.length := ieq (by simpa using h)
    refine run_x (I := inf) 99 rfl (by simp only [app, obs_cons, obs_nil']) ?_
    refine run_while (fun (i : Nat) τ ar => (τ 0 = dimS n1 xs ∧ τ 1 = dimS n2 ys ∧ τ 5 = iv i) ∧ ar = [] ∧ i ≤ xs.length ∧ xs.take i = ys.take i) (fun i => xs.length - i) 0 ⟨⟨rfl, rfl, rfl⟩, rfl, Nat.zero_le _, rfl⟩ ?_
    rintro i τ' ar' ⟨⟨h0, h1, h5⟩, rfl, hi, hp⟩ ih
    refine run_says 0 h0 (Says.refl _) (run_says 1 (by exact h1) (Says.refl _) (run_says 5 (by exact h5) (Says.refl _) ?_))
    refine run_x (I := inf) 99 rfl (by simp only [app, obs_cons, obs_nil']) ?_
    refine run_cond rfl (fun hlt => ?_) (fun hlt => ?_)
    · have hlt' : i < xs.length := by simpa using hlt
      refine run_x (I := inf) 99 rfl (by simp only [app, obs_cons, obs_nil']) ?_
      refine run_draw 9 (by kernel_rfl) (by kernel_rfl) (lex_x (I := inf) 99 rfl rfl (by simp only [app, obs_cons, obs_nil']; simp [inB, hlt', ← hl]) lex_nil) ?_
      refine run_x (I := inf) 99 rfl (by simp only [app, obs_cons, obs_nil']) ?_
      refine run_cond rfl (fun hne => ?_) (fun hne => ?_)
      · refine run_x (I := inf) 99 rfl (by simp only [app, obs_cons, obs_nil']) ?_
        refine run_drop 0 (Nat.le_refl _) rfl .nil (run_ret (.tmp .nil) ⟨?_, rfl⟩)
        show Out.ret (bv false) = _
        have : xs ≠ ys := fun e => by subst e; simp at hne
        simp [this]
      · refine run_x (I := inf) 99 rfl (by simp only [app, obs_cons, obs_nil']) ?_
        have hs : IntKind.wrap .i64 ((i : Int) + 1) = ((i + 1 : Nat) : Int) := by rw [w64] <;> omega
        refine ih (i + 1) _ _ (by omega) ⟨⟨rfl, rfl, ?_⟩, rfl, by omega, ?_⟩
        · show iv (IntKind.wrap .i64 ((i : Int) + 1)) = _
          rw [hs]
        · refine take_next (d := (0, 0)) hl hlt' hp ?_
          simp at hne
          exact Prod.ext hne.1 hne.2
    · refine run_x (I := inf) 99 rfl (by simp only [app, obs_cons, obs_nil']) ?_
      refine run_drop 0 (Nat.le_refl _) rfl .nil (run_ret (.tmp .nil) ⟨?_, rfl⟩)
      show Out.ret (bv true) = _
      have hi' : i = xs.length := by simp at hlt; omega
      subst hi'
      have : xs = ys := by rw [List.take_length] at hp; rw [hp, hl, List.take_length]
      simp [this]

theorem prodL_bounds : ∀ (n : Int) (ds : List Dim), fitL n ds → 1 ≤ n → n ≤ 200 → 1 ≤ prodL n ds ∧ prodL n ds ≤ 200
  | n, [], _, h1, h2 => ⟨h1, h2⟩
  | n, d :: l, h, h1, h2 => by
    obtain ⟨hr, hp, hf⟩ := h
    obtain ⟨m1, m2⟩ := mul_le_200 (e := ext d) h1 h2 (by unfold ext; omega) (by unfold ext; omega)
    exact prodL_bounds (n * ext d) l hf m1 hp
theorem items_bounds {ds : List Dim} (h : fitL 1 ds) : 1 ≤ items ds ∧ items ds ≤ 200 := prodL_bounds _ _ h (by omega) (by omega)

/-- Subs' answer: the subscripts, and the error. -/
def subsF (ds : List Dim) (off : Int) : Option (List Int) × Int :=
  if validD ds then (if decide (off < 0) || decide (off ≥ items ds) then (none, 7) else (some (atD ds off), 0)) else (none, 1)
/-- nil, or a list. -/
def nlO : Option (List Int) → Option Bool
  | none => some true
  | some _ => none
def optS (o : Option (List Int)) : AV := .slc 1 (nlO o) (o.getD []).length (intR (o.getD []))

theorem a_Subs (n1 : Option Bool) (ds : List Dim) (off : Int) : CallT Try.prog 46 [dimS n1 ds, iv off] [] (fun o A => o = .ret (.tup [optS (subsF ds off).1, iv (subsF ds off).2]) ∧ A = []) := by
  refine callT_body (n := 22) rfl rfl fun w ρ X => ?_
  refine run_x (I := inf) 99 rfl (by repeat (first | exact obs_nil | refine obs_same ?_ | refine obs_and ?_ | refine obs_by (by (simp [inB] <;> omega)) ?_)) ?_
  refine run_call rfl rfl rfl rfl rfl rfl rfl rfl (a_Valid n1 ds) ?_
  refine run_x (I := inf) 99 rfl (by repeat (first | exact obs_nil | refine obs_same ?_ | refine obs_and ?_ | refine obs_by (by (simp [inB] <;> omega)) ?_)) ?_
  refine run_cond rfl (fun h => ?_) (fun h => ?_)
  · refine run_x (I := inf) 99 rfl (by repeat (first | exact obs_nil | refine obs_same ?_ | refine obs_and ?_ | refine obs_by (by (simp [inB] <;> omega)) ?_)) ?_
    refine run_says 4 rfl (says_nil (sz := 1) (r := intR []) (Nat.zero_le _)) ?_
    refine run_retX (I := inf) 0 rfl (Nat.le_refl _) rfl .nil rfl ⟨?_, rfl⟩
    have h' : validD ds = false := by simpa using h
    simp only [subsF, h']; rfl
  · have h' : validD ds = true := by simpa using h
    have hf := fit_valid h'
    refine run_x (I := inf) 99 rfl (by repeat (first | exact obs_nil | refine obs_same ?_ | refine obs_and ?_ | refine obs_by (by (simp [inB] <;> omega)) ?_)) ?_
    refine run_callU rfl rfl (by first | exact .v rfl rfl rfl rfl | exact .o rfl rfl rfl rfl) rfl rfl (by repeat (first | exact .nil | refine .cons (.n rfl) ?_ | refine .cons .o ?_ | refine .cons gok_and ?_)) rfl rfl rfl rfl rfl (fun _ => (a_count n1 ds (by omega) hf.1)) ?_
    refine run_x (I := inf) 99 rfl (by repeat (first | exact obs_nil | refine obs_same ?_ | refine obs_and ?_ | refine obs_by (by (simp [inB] <;> omega)) ?_)) ?_
    refine run_cond rfl (fun hc => ?_) (fun hc => ?_)
    · refine run_x (I := inf) 99 rfl (by repeat (first | exact obs_nil | refine obs_same ?_ | refine obs_and ?_ | refine obs_by (by (simp [inB] <;> omega)) ?_)) ?_
      refine run_says 4 rfl (says_nil (sz := 1) (r := intR []) (Nat.zero_le _)) ?_
      refine run_retX (I := inf) 0 rfl (Nat.le_refl _) rfl .nil rfl ⟨?_, rfl⟩
      have hc' : (decide (off < 0) || decide (off ≥ items ds)) = true := by simp at hc ⊢; omega
      simp only [subsF, h', hc', if_true]; rfl
    · have hc' : (decide (off < 0) || decide (off ≥ items ds)) = false := by simp at hc ⊢; omega
      have ho : 0 ≤ off ∧ off < items ds := by simp at hc'; omega
      have hb := items_bounds hf.1
      refine run_x (I := inf) 99 rfl (by repeat (first | exact obs_nil | refine obs_same ?_ | refine obs_and ?_ | refine obs_by (by (simp [inB] <;> omega)) ?_)) ?_
      refine run_call rfl rfl rfl rfl rfl rfl rfl rfl (a_subs n1 ds off ho.1 (by omega) (by omega) hf.1) ?_
      refine run_x (I := inf) 99 rfl (by repeat (first | exact obs_nil | refine obs_same ?_ | refine obs_and ?_ | refine obs_by (by (simp [inB] <;> omega)) ?_)) ?_
      refine run_retX (I := inf) 0 rfl (Nat.le_refl _) rfl .nil rfl ⟨?_, rfl⟩
      simp only [subsF, h', hc', if_true, Bool.false_eq_true, if_false]; rfl

theorem r_Subs (n1 : Option Bool) (ds : List Dim) (off : Int) : CallT Try.prog 47 [dimS n1 ds, iv off] [] (fun o A => o = .ret (.tup [optS (subsF ds off).1, iv (subsF ds off).2]) ∧ A = []) := by
  refine callT_body (n := 22) rfl rfl fun w ρ X => ?_
  refine run_x (I := inf) 99 rfl (by repeat (first | exact obs_nil | refine obs_same ?_ | refine obs_and ?_ | refine obs_by (by (simp [inB] <;> omega)) ?_)) ?_
  refine run_call rfl rfl rfl rfl rfl rfl rfl rfl (r_Valid n1 ds) ?_
  refine run_x (I := inf) 99 rfl (by repeat (first | exact obs_nil | refine obs_same ?_ | refine obs_and ?_ | refine obs_by (by (simp [inB] <;> omega)) ?_)) ?_
  refine run_cond rfl (fun h => ?_) (fun h => ?_)
  · refine run_x (I := inf) 99 rfl (by repeat (first | exact obs_nil | refine obs_same ?_ | refine obs_and ?_ | refine obs_by (by (simp [inB] <;> omega)) ?_)) ?_
    refine run_says 4 rfl (says_nil (sz := 1) (r := intR []) (Nat.zero_le _)) ?_
    refine run_retX (I := inf) 0 rfl (Nat.le_refl _) rfl .nil rfl ⟨?_, rfl⟩
    have h' : validD ds = false := by simpa using h
    simp only [subsF, h']; rfl
  · have h' : validD ds = true := by simpa using h
    have hf := fit_valid h'
    refine run_x (I := inf) 99 rfl (by repeat (first | exact obs_nil | refine obs_same ?_ | refine obs_and ?_ | refine obs_by (by (simp [inB] <;> omega)) ?_)) ?_
    refine run_callU rfl rfl (by first | exact .v rfl rfl rfl rfl | exact .o rfl rfl rfl rfl) rfl rfl (by repeat (first | exact .nil | refine .cons (.n rfl) ?_ | refine .cons .o ?_ | refine .cons gok_and ?_)) rfl rfl rfl rfl rfl (fun _ => (r_items n1 ds (by omega) hf.1)) ?_
    refine run_x (I := inf) 99 rfl (by repeat (first | exact obs_nil | refine obs_same ?_ | refine obs_and ?_ | refine obs_by (by (simp [inB] <;> omega)) ?_)) ?_
    refine run_cond rfl (fun hc => ?_) (fun hc => ?_)
    · refine run_x (I := inf) 99 rfl (by repeat (first | exact obs_nil | refine obs_same ?_ | refine obs_and ?_ | refine obs_by (by (simp [inB] <;> omega)) ?_)) ?_
      refine run_says 4 rfl (says_nil (sz := 1) (r := intR []) (Nat.zero_le _)) ?_
      refine run_retX (I := inf) 0 rfl (Nat.le_refl _) rfl .nil rfl ⟨?_, rfl⟩
      have hc' : (decide (off < 0) || decide (off ≥ items ds)) = true := by simp at hc ⊢; omega
      simp only [subsF, h', hc', if_true]; rfl
    · have hc' : (decide (off < 0) || decide (off ≥ items ds)) = false := by simp at hc ⊢; omega
      have ho : 0 ≤ off ∧ off < items ds := by simp at hc'; omega
      have hb := items_bounds hf.1
      refine run_x (I := inf) 99 rfl (by repeat (first | exact obs_nil | refine obs_same ?_ | refine obs_and ?_ | refine obs_by (by (simp [inB] <;> omega)) ?_)) ?_
      refine run_call rfl rfl rfl rfl rfl rfl rfl rfl (r_at n1 ds off ho.1 (by omega) (by omega) hf.1) ?_
      refine run_x (I := inf) 99 rfl (by repeat (first | exact obs_nil | refine obs_same ?_ | refine obs_and ?_ | refine obs_by (by (simp [inB] <;> omega)) ?_)) ?_
      refine run_retX (I := inf) 0 rfl (Nat.le_refl _) rfl .nil rfl ⟨?_, rfl⟩
      simp only [subsF, h', hc', if_true, Bool.false_eq_true, if_false]; rfl

theorem placeL_lt : ∀ (p n i : Int) (ds : List Dim) (ss : List Int), fitL p ds → ss.length = ds.length → outL i ds ss = 0 → 0 ≤ i → 0 ≤ n → n < p → 0 ≤ placeL n ds ss ∧ placeL n ds ss < prodL p ds
  | p, n, i, [], [], _, _, _, _, h0, h1 => ⟨h0, h1⟩
  | p, n, i, d :: l, s :: t, hf, hl, ho, hi, h0, h1 => by
    obtain ⟨hr, hp, hf'⟩ := hf
    unfold outL at ho
    split at ho
    · omega
    · rename_i hc
      simp at hc
      obtain ⟨q1, q2⟩ := step_lt (e := ext d) (s := s - d.1) h0 h1 (by omega) (by unfold ext; omega)
      unfold placeL prodL
      rw [show n * ext d + s - d.1 = n * ext d + (s - d.1) by omega]
      exact placeL_lt _ _ (i + 1) l t hf' (by simpa using hl) ho (by omega) q1 q2
theorem place_lt {ds : List Dim} {ss : List Int} (hf : fitL 1 ds) (hl : ss.length = ds.length) (ho : out ds ss = 0) : 0 ≤ place ds ss ∧ place ds ss < items ds :=
  placeL_lt 1 0 0 ds ss hf hl ho (by omega) (by omega) (by omega)

/-- Next's answer. -/
def nextF (ds : List Dim) (ss : List Int) : Option (List Int) × Bool × Int :=
  if validD ds then (if ss.length = ds.length then (if out ds ss = 0 then (if place ds ss + 1 = items ds then (none, false, 0) else (some (atD ds (place ds ss + 1)), true, 0)) else (none, false, 7)) else (none, false, 11)) else (none, false, 1)
def nextA (x : Option (List Int) × Bool × Int) : AV := .tup [optS x.1, bv x.2.1, iv x.2.2]

theorem a_Next (n1 n2 : Option Bool) (ds : List Dim) (ss : List Int) : CallT Try.prog 49 [dimS n1 ds, intS n2 ss] [] (fun o A => o = .ret (nextA (nextF ds ss)) ∧ A = []) := by
  refine callT_body (n := 38) rfl rfl fun w ρ X => ?_
  refine run_x (I := inf) 99 rfl (by repeat (first | exact obs_nil | refine obs_same ?_ | refine obs_and ?_ | refine obs_by (by (simp [inB] <;> omega)) ?_)) ?_
  refine run_call rfl rfl rfl rfl rfl rfl rfl rfl (a_Valid n1 ds) ?_
  refine run_x (I := inf) 99 rfl (by repeat (first | exact obs_nil | refine obs_same ?_ | refine obs_and ?_ | refine obs_by (by (simp [inB] <;> omega)) ?_)) ?_
  refine run_cond rfl (fun h => ?_) (fun h => ?_)
  · refine run_x (I := inf) 99 rfl (by repeat (first | exact obs_nil | refine obs_same ?_ | refine obs_and ?_ | refine obs_by (by (simp [inB] <;> omega)) ?_)) ?_
    refine run_says 4 rfl (says_nil (sz := 1) (r := intR []) (Nat.zero_le _)) ?_
    refine run_retX (I := inf) 0 rfl (Nat.le_refl _) rfl .nil rfl ⟨?_, rfl⟩
    have h' : validD ds = false := by simpa using h
    simp only [nextF, h']; rfl
  · have h' : validD ds = true := by simpa using h
    have hf := fit_valid h'
    refine run_x (I := inf) 99 rfl (by repeat (first | exact obs_nil | refine obs_same ?_ | refine obs_and ?_ | refine obs_by (by (simp [inB] <;> omega)) ?_)) ?_
    refine run_cond rfl (fun hc => ?_) (fun hc => ?_)
    · refine run_x (I := inf) 99 rfl (by repeat (first | exact obs_nil | refine obs_same ?_ | refine obs_and ?_ | refine obs_by (by (simp [inB] <;> omega)) ?_)) ?_
      refine run_says 4 rfl (says_nil (sz := 1) (r := intR []) (Nat.zero_le _)) ?_
      refine run_retX (I := inf) 0 rfl (Nat.le_refl _) rfl .nil rfl ⟨?_, rfl⟩
      have hc' : ¬ ss.length = ds.length := by simp at hc; omega
      simp only [nextF, h', hc', if_true, if_false]; rfl
    · have hc' : ss.length = ds.length := by simp at hc; omega
      refine run_x (I := inf) 99 rfl (by repeat (first | exact obs_nil | refine obs_same ?_ | refine obs_and ?_ | refine obs_by (by (simp [inB] <;> omega)) ?_)) ?_
      refine run_call rfl rfl rfl rfl rfl rfl rfl rfl (a_offset n1 n2 ds ss hc' (by omega) hf.1) ?_
      refine run_x (I := inf) 99 rfl (by repeat (first | exact obs_nil | refine obs_same ?_ | refine obs_and ?_ | refine obs_by (by (simp [inB] <;> omega)) ?_)) ?_
      have hnn : 0 ≤ out ds ss := out_nonneg 0 ds ss (by omega)
      refine run_cond rfl (fun hp => ?_) (fun hp => ?_)
      · refine run_x (I := inf) 99 rfl (by repeat (first | exact obs_nil | refine obs_same ?_ | refine obs_and ?_ | refine obs_by (by (simp [inB] <;> omega)) ?_)) ?_
        refine run_says 4 rfl (says_nil (sz := 1) (r := intR []) (Nat.zero_le _)) ?_
        refine run_retX (I := inf) 0 rfl (Nat.le_refl _) rfl .nil rfl ⟨?_, rfl⟩
        have hp' : ¬ out ds ss = 0 := by simp at hp; omega
        simp only [nextF, h', hc', hp', if_true, if_false]; rfl
      · have hp' : out ds ss = 0 := by simp at hp; omega
        obtain ⟨b1, b2⟩ := place_lt hf.1 hc' hp'
        have b3 := items_bounds hf.1
        have hw : IntKind.wrap .i64 (place ds ss + 1) = place ds ss + 1 := w64 (by omega) (by omega)
        rw [if_pos hp']
        refine run_x (I := inf) 99 rfl (by repeat (first | exact obs_nil | refine obs_same ?_ | refine obs_and ?_ | refine obs_by (by (simp [inB] <;> omega)) ?_)) ?_
        refine run_call rfl rfl rfl rfl rfl rfl rfl rfl (a_count n1 ds (by omega) hf.1) ?_
        rw [hw]
        refine run_x (I := inf) 99 rfl (by repeat (first | exact obs_nil | refine obs_same ?_ | refine obs_and ?_ | refine obs_by (by (simp [inB] <;> omega)) ?_)) ?_
        refine run_cond rfl (fun hq => ?_) (fun hq => ?_)
        · refine run_x (I := inf) 99 rfl (by repeat (first | exact obs_nil | refine obs_same ?_ | refine obs_and ?_ | refine obs_by (by (simp [inB] <;> omega)) ?_)) ?_
          refine run_says 4 rfl (says_nil (sz := 1) (r := intR []) (Nat.zero_le _)) ?_
          refine run_retX (I := inf) 0 rfl (Nat.le_refl _) rfl .nil rfl ⟨?_, rfl⟩
          have hq' : place ds ss + 1 = items ds := by simpa using hq
          simp only [nextF, h', hc', hp', hq', if_true]; rfl
        · have hq' : ¬ place ds ss + 1 = items ds := by simpa using hq
          refine run_x (I := inf) 99 rfl (by repeat (first | exact obs_nil | refine obs_same ?_ | refine obs_and ?_ | refine obs_by (by (simp [inB] <;> omega)) ?_)) ?_
          rw [hw]
          refine run_call rfl rfl rfl rfl rfl rfl rfl rfl (a_subs n1 ds (place ds ss + 1) (by omega) (by omega) (by omega) hf.1) ?_
          refine run_x (I := inf) 99 rfl (by repeat (first | exact obs_nil | refine obs_same ?_ | refine obs_and ?_ | refine obs_by (by (simp [inB] <;> omega)) ?_)) ?_
          refine run_retX (I := inf) 0 rfl (Nat.le_refl _) rfl .nil rfl ⟨?_, rfl⟩
          simp only [nextF, h', hc', hp', hq', if_true, if_false]; rfl

theorem r_Next (n1 n2 : Option Bool) (ds : List Dim) (ss : List Int) : CallT Try.prog 50 [dimS n1 ds, intS n2 ss] [] (fun o A => o = .ret (nextA (nextF ds ss)) ∧ A = []) := by
  refine callT_body (n := 34) rfl rfl fun w ρ X => ?_
  refine run_x (I := inf) 99 rfl (by repeat (first | exact obs_nil | refine obs_same ?_ | refine obs_and ?_ | refine obs_by (by (simp [inB] <;> omega)) ?_)) ?_
  refine run_call rfl rfl rfl rfl rfl rfl rfl rfl (r_Valid n1 ds) ?_
  refine run_x (I := inf) 99 rfl (by repeat (first | exact obs_nil | refine obs_same ?_ | refine obs_and ?_ | refine obs_by (by (simp [inB] <;> omega)) ?_)) ?_
  refine run_cond rfl (fun h => ?_) (fun h => ?_)
  · refine run_x (I := inf) 99 rfl (by repeat (first | exact obs_nil | refine obs_same ?_ | refine obs_and ?_ | refine obs_by (by (simp [inB] <;> omega)) ?_)) ?_
    refine run_says 4 rfl (says_nil (sz := 1) (r := intR []) (Nat.zero_le _)) ?_
    refine run_retX (I := inf) 0 rfl (Nat.le_refl _) rfl .nil rfl ⟨?_, rfl⟩
    have h' : validD ds = false := by simpa using h
    simp only [nextF, h']; rfl
  · have h' : validD ds = true := by simpa using h
    have hf := fit_valid h'
    refine run_x (I := inf) 99 rfl (by repeat (first | exact obs_nil | refine obs_same ?_ | refine obs_and ?_ | refine obs_by (by (simp [inB] <;> omega)) ?_)) ?_
    refine run_cond rfl (fun hc => ?_) (fun hc => ?_)
    · refine run_x (I := inf) 99 rfl (by repeat (first | exact obs_nil | refine obs_same ?_ | refine obs_and ?_ | refine obs_by (by (simp [inB] <;> omega)) ?_)) ?_
      refine run_says 4 rfl (says_nil (sz := 1) (r := intR []) (Nat.zero_le _)) ?_
      refine run_retX (I := inf) 0 rfl (Nat.le_refl _) rfl .nil rfl ⟨?_, rfl⟩
      have hc' : ¬ ss.length = ds.length := by simp at hc; omega
      simp only [nextF, h', hc', if_true, if_false]; rfl
    · have hc' : ss.length = ds.length := by simp at hc; omega
      refine run_x (I := inf) 99 rfl (by repeat (first | exact obs_nil | refine obs_same ?_ | refine obs_and ?_ | refine obs_by (by (simp [inB] <;> omega)) ?_)) ?_
      refine run_call rfl rfl rfl rfl rfl rfl rfl rfl (r_out n1 n2 ds ss hc' (by omega)) ?_
      refine run_x (I := inf) 99 rfl (by repeat (first | exact obs_nil | refine obs_same ?_ | refine obs_and ?_ | refine obs_by (by (simp [inB] <;> omega)) ?_)) ?_
      have hnn : 0 ≤ out ds ss := out_nonneg 0 ds ss (by omega)
      refine run_cond rfl (fun hp => ?_) (fun hp => ?_)
      · refine run_x (I := inf) 99 rfl (by repeat (first | exact obs_nil | refine obs_same ?_ | refine obs_and ?_ | refine obs_by (by (simp [inB] <;> omega)) ?_)) ?_
        refine run_says 4 rfl (says_nil (sz := 1) (r := intR []) (Nat.zero_le _)) ?_
        refine run_retX (I := inf) 0 rfl (Nat.le_refl _) rfl .nil rfl ⟨?_, rfl⟩
        have hp' : ¬ out ds ss = 0 := by simp at hp; omega
        simp only [nextF, h', hc', hp', if_true, if_false]; rfl
      · have hp' : out ds ss = 0 := by simp at hp; omega
        obtain ⟨b1, b2⟩ := place_lt hf.1 hc' hp'
        have b3 := items_bounds hf.1
        have hw : IntKind.wrap .i64 (place ds ss + 1) = place ds ss + 1 := w64 (by omega) (by omega)
        refine run_x (I := inf) 99 rfl (by repeat (first | exact obs_nil | refine obs_same ?_ | refine obs_and ?_ | refine obs_by (by (simp [inB] <;> omega)) ?_)) ?_
        refine run_call rfl rfl rfl rfl rfl rfl rfl rfl (r_place n1 n2 ds ss hc' (by omega) hf.1 hp') ?_
        refine run_x (I := inf) 99 rfl (by repeat (first | exact obs_nil | refine obs_same ?_ | refine obs_and ?_ | refine obs_by (by (simp [inB] <;> omega)) ?_)) ?_
        rw [hw]
        refine run_call rfl rfl rfl rfl rfl rfl rfl rfl (r_items n1 ds (by omega) hf.1) ?_
        refine run_x (I := inf) 99 rfl (by repeat (first | exact obs_nil | refine obs_same ?_ | refine obs_and ?_ | refine obs_by (by (simp [inB] <;> omega)) ?_)) ?_
        refine run_cond rfl (fun hq => ?_) (fun hq => ?_)
        · refine run_x (I := inf) 99 rfl (by repeat (first | exact obs_nil | refine obs_same ?_ | refine obs_and ?_ | refine obs_by (by (simp [inB] <;> omega)) ?_)) ?_
          refine run_says 4 rfl (says_nil (sz := 1) (r := intR []) (Nat.zero_le _)) ?_
          refine run_retX (I := inf) 0 rfl (Nat.le_refl _) rfl .nil rfl ⟨?_, rfl⟩
          have hq' : place ds ss + 1 = items ds := by simpa using hq
          simp only [nextF, h', hc', hp', hq', if_true]; rfl
        · have hq' : ¬ place ds ss + 1 = items ds := by simpa using hq
          refine run_x (I := inf) 99 rfl (by repeat (first | exact obs_nil | refine obs_same ?_ | refine obs_and ?_ | refine obs_by (by (simp [inB] <;> omega)) ?_)) ?_
          refine run_call rfl rfl rfl rfl rfl rfl rfl rfl (r_at n1 ds (place ds ss + 1) (by omega) (by omega) (by omega) hf.1) ?_
          refine run_x (I := inf) 99 rfl (by repeat (first | exact obs_nil | refine obs_same ?_ | refine obs_and ?_ | refine obs_by (by (simp [inB] <;> omega)) ?_)) ?_
          refine run_retX (I := inf) 0 rfl (Nat.le_refl _) rfl .nil rfl ⟨?_, rfl⟩
          simp only [nextF, h', hc', hp', hq', if_true, if_false]; rfl

theorem law_awake : CallT Try.prog 33 [] [] (fun o A => o = .ret (bv true) ∧ A = []) := by
  refine callT_body (n := 25) rfl rfl fun w ρ X => ?_
  refine run_x (I := inf) 99 rfl (by repeat (first | exact obs_nil | refine obs_same ?_ | refine obs_and ?_ | refine obs_by (by (simp [inB] <;> omega)) ?_)) ?_
  refine run_tell 0 (dimR [(1, 2), (0, 2)]) rfl rfl (fun i hi => by rcases i with _ | _ | i <;> first | rfl | omega) rfl ?_
  refine run_tell 1 (intR [2, 1]) rfl rfl (fun i hi => by rcases i with _ | _ | i <;> first | rfl | omega) rfl ?_
  refine run_freeze 8 rfl rfl rfl (fun i hi => rfl) ?_
  refine run_freeze 9 rfl rfl rfl (fun i hi => rfl) ?_
  refine run_drop 0 (Nat.le_refl _) rfl .nil ?_
  refine run_call rfl rfl rfl rfl rfl rfl rfl rfl (a_Offset none none [(1, 2), (0, 2)] [2, 1]) ?_
  rw [show offF [(1, 2), (0, 2)] [2, 1] = (4, 0, 0, 0) from by decide]
  refine run_x (I := inf) 99 rfl (by repeat (first | exact obs_nil | refine obs_same ?_ | refine obs_and ?_ | refine obs_by (by (simp [inB] <;> omega)) ?_)) ?_
  refine run_retX (I := inf) 0 rfl (Nat.le_refl _) rfl .nil rfl ⟨?_, rfl⟩
  rfl
end Go.Iron.Try

/- The array package's functions (seat Ytamhonbhoelohaa): crosses and own places, copied and compared. -/
namespace Go.Iron.Try
open Go.Proofs

abbrev Cross := Int × Bool
abbrev ISub := Int × Int × Int
def crossR (l : List Cross) : Nat → List AV := fun i => [iv (l.getD i (0, false)).1, bv (l.getD i (0, false)).2]
def crossS (nl : Option Bool) (l : List Cross) : AV := .slc 2 nl l.length (crossR l)
def isubR (l : List ISub) : Nat → List AV := fun i => [iv (l.getD i (0, 0, 0)).1, iv (l.getD i (0, 0, 0)).2.1, iv (l.getD i (0, 0, 0)).2.2]
def isubS (nl : Option Bool) (l : List ISub) : AV := .slc 3 nl l.length (isubR l)

theorem stay_crosses (nl : Option Bool) (ds : List Cross) (hb : ds.length * 16 ≤ 140737488355328) : CallT Try.prog 16 [crossS nl ds] [] (fun out A => out = .ret (crossS none ds) ∧ A = []) := by
  refine callT_body (n := 6) rfl rfl fun w ρ X => ?_
  refine run_x (I := inf) 99 rfl (by simp only [app, obs_cons, obs_nil']; simp [hb]) ?_
  refine run_freeze 2 rfl rfl rfl (fun i hi => by rw [appR_zero]; rfl) ?_
  refine run_drop 0 (Nat.le_refl _) rfl .nil ?_
  refine run_ret (.tmp .nil) ⟨?_, rfl⟩
  show Out.ret (.slc 2 none (0 + ds.length) _) = _
  rw [appR_zero, Nat.zero_add]
  rfl

theorem stay_subs (nl : Option Bool) (ds : List ISub) (hb : ds.length * 24 ≤ 140737488355328) : CallT Try.prog 19 [isubS nl ds] [] (fun out A => out = .ret (isubS none ds) ∧ A = []) := by
  refine callT_body (n := 6) rfl rfl fun w ρ X => ?_
  refine run_x (I := inf) 99 rfl (by simp only [app, obs_cons, obs_nil']; simp [hb]) ?_
  refine run_freeze 2 rfl rfl rfl (fun i hi => by rw [appR_zero]; rfl) ?_
  refine run_drop 0 (Nat.le_refl _) rfl .nil ?_
  refine run_ret (.tmp .nil) ⟨?_, rfl⟩
  show Out.ret (.slc 3 none (0 + ds.length) _) = _
  rw [appR_zero, Nat.zero_add]
  rfl

theorem stay_sameCrosses (n1 n2 : Option Bool) (xs ys : List Cross) (hb : xs.length < 9223372036854775807) : CallT Try.prog 18 [crossS n1 xs, crossS n2 ys] [] (fun out A => out = .ret (bv (decide (xs = ys))) ∧ A = []) := by
  refine callT_body (n := 26) rfl rfl fun w ρ X => ?_
  refine run_x (I := inf) 99 rfl (by simp only [app, obs_cons, obs_nil']) ?_
  refine run_cond rfl (fun h => ?_) (fun h => ?_)
  · refine run_x (I := inf) 99 rfl (by simp only [app, obs_cons, obs_nil']) ?_
    refine run_drop 0 (Nat.le_refl _) rfl .nil (run_ret (.tmp .nil) ⟨?_, rfl⟩)
    show Out.ret (bv false) = _
    have : xs ≠ ys := fun e => by subst e; simp at h
    simp [this]
  · have hl : xs.length = ys.length := ieq (by simpa using h)
    refine run_x (I := inf) 99 rfl (by simp only [app, obs_cons, obs_nil']) ?_
    refine run_while (fun (i : Nat) τ ar => (τ 0 = crossS n1 xs ∧ τ 1 = crossS n2 ys ∧ τ 5 = iv i) ∧ ar = [] ∧ i ≤ xs.length ∧ xs.take i = ys.take i) (fun i => xs.length - i) 0 ⟨⟨rfl, rfl, rfl⟩, rfl, Nat.zero_le _, rfl⟩ ?_
    rintro i τ' ar' ⟨⟨h0, h1, h5⟩, rfl, hi, hp⟩ ih
    refine run_says 0 h0 (Says.refl _) (run_says 1 (by exact h1) (Says.refl _) (run_says 5 (by exact h5) (Says.refl _) ?_))
    refine run_x (I := inf) 99 rfl (by simp only [app, obs_cons, obs_nil']) ?_
    refine run_cond rfl (fun hlt => ?_) (fun hlt => ?_)
    · have hlt' : i < xs.length := by simpa using hlt
      refine run_x (I := inf) 99 rfl (by simp only [app, obs_cons, obs_nil']) ?_
      refine run_draw 9 (by kernel_rfl) (by kernel_rfl) (lex_x (I := inf) 99 rfl rfl (by simp only [app, obs_cons, obs_nil']; simp [inB, hlt', ← hl]) lex_nil) ?_
      refine run_x (I := inf) 99 rfl (by simp only [app, obs_cons, obs_nil']) ?_
      refine run_cond rfl (fun hne => ?_) (fun hne => ?_)
      · refine run_x (I := inf) 99 rfl (by simp only [app, obs_cons, obs_nil']) ?_
        refine run_drop 0 (Nat.le_refl _) rfl .nil (run_ret (.tmp .nil) ⟨?_, rfl⟩)
        show Out.ret (bv false) = _
        have : xs ≠ ys := fun e => by subst e; simp at hne
        simp [this]
      · refine run_x (I := inf) 99 rfl (by simp only [app, obs_cons, obs_nil']) ?_
        have hs : IntKind.wrap .i64 ((i : Int) + 1) = ((i + 1 : Nat) : Int) := by rw [w64] <;> omega
        refine ih (i + 1) _ _ (by omega) ⟨⟨rfl, rfl, ?_⟩, rfl, by omega, ?_⟩
        · show iv (IntKind.wrap .i64 ((i : Int) + 1)) = _
          rw [hs]
        · refine take_next (d := (0, false)) hl hlt' hp ?_
          simp at hne
          exact Prod.ext hne.1 hne.2
    · refine run_x (I := inf) 99 rfl (by simp only [app, obs_cons, obs_nil']) ?_
      refine run_drop 0 (Nat.le_refl _) rfl .nil (run_ret (.tmp .nil) ⟨?_, rfl⟩)
      show Out.ret (bv true) = _
      have hi' : i = xs.length := by simp at hlt; omega
      subst hi'
      have : xs = ys := by rw [List.take_length] at hp; rw [hp, hl, List.take_length]
      simp [this]
theorem stay_sameSubs (n1 n2 : Option Bool) (xs ys : List ISub) (hb : xs.length < 9223372036854775807) : CallT Try.prog 21 [isubS n1 xs, isubS n2 ys] [] (fun out A => out = .ret (bv (decide (xs = ys))) ∧ A = []) := by
  refine callT_body (n := 26) rfl rfl fun w ρ X => ?_
  refine run_x (I := inf) 99 rfl (by simp only [app, obs_cons, obs_nil']) ?_
  refine run_cond rfl (fun h => ?_) (fun h => ?_)
  · refine run_x (I := inf) 99 rfl (by simp only [app, obs_cons, obs_nil']) ?_
    refine run_drop 0 (Nat.le_refl _) rfl .nil (run_ret (.tmp .nil) ⟨?_, rfl⟩)
    show Out.ret (bv false) = _
    have : xs ≠ ys := fun e => by subst e; simp at h
    simp [this]
  · have hl : xs.length = ys.length := ieq (by simpa using h)
    refine run_x (I := inf) 99 rfl (by simp only [app, obs_cons, obs_nil']) ?_
    refine run_while (fun (i : Nat) τ ar => (τ 0 = isubS n1 xs ∧ τ 1 = isubS n2 ys ∧ τ 5 = iv i) ∧ ar = [] ∧ i ≤ xs.length ∧ xs.take i = ys.take i) (fun i => xs.length - i) 0 ⟨⟨rfl, rfl, rfl⟩, rfl, Nat.zero_le _, rfl⟩ ?_
    rintro i τ' ar' ⟨⟨h0, h1, h5⟩, rfl, hi, hp⟩ ih
    refine run_says 0 h0 (Says.refl _) (run_says 1 (by exact h1) (Says.refl _) (run_says 5 (by exact h5) (Says.refl _) ?_))
    refine run_x (I := inf) 99 rfl (by simp only [app, obs_cons, obs_nil']) ?_
    refine run_cond rfl (fun hlt => ?_) (fun hlt => ?_)
    · have hlt' : i < xs.length := by simpa using hlt
      refine run_x (I := inf) 99 rfl (by simp only [app, obs_cons, obs_nil']) ?_
      refine run_draw 9 (by kernel_rfl) (by kernel_rfl) (lex_x (I := inf) 99 rfl rfl (by simp only [app, obs_cons, obs_nil']; simp [inB, hlt', ← hl]) lex_nil) ?_
      refine run_x (I := inf) 99 rfl (by simp only [app, obs_cons, obs_nil']) ?_
      refine run_cond rfl (fun hne => ?_) (fun hne => ?_)
      · refine run_x (I := inf) 99 rfl (by simp only [app, obs_cons, obs_nil']) ?_
        refine run_drop 0 (Nat.le_refl _) rfl .nil (run_ret (.tmp .nil) ⟨?_, rfl⟩)
        show Out.ret (bv false) = _
        have : xs ≠ ys := fun e => by subst e; simp at hne
        simp [this]
      · refine run_x (I := inf) 99 rfl (by simp only [app, obs_cons, obs_nil']) ?_
        have hs : IntKind.wrap .i64 ((i : Int) + 1) = ((i + 1 : Nat) : Int) := by rw [w64] <;> omega
        refine ih (i + 1) _ _ (by omega) ⟨⟨rfl, rfl, ?_⟩, rfl, by omega, ?_⟩
        · show iv (IntKind.wrap .i64 ((i : Int) + 1)) = _
          rw [hs]
        · refine take_next (d := (0, 0, 0)) hl hlt' hp ?_
          simp at hne
          exact Prod.ext hne.1 (Prod.ext hne.2.1 hne.2.2)
    · refine run_x (I := inf) 99 rfl (by simp only [app, obs_cons, obs_nil']) ?_
      refine run_drop 0 (Nat.le_refl _) rfl .nil (run_ret (.tmp .nil) ⟨?_, rfl⟩)
      show Out.ret (bv true) = _
      have hi' : i = xs.length := by simp at hlt; omega
      subst hi'
      have : xs = ys := by rw [List.take_length] at hp; rw [hp, hl, List.take_length]
      simp [this]

end Go.Iron.Try

/- Iron: this seat's further tables, by program (mkinf2.py). -/
set_option maxRecDepth 10000
namespace Go.Iron.Try
open Go.Proofs
noncomputable def jnf : TJ where
  ifs := [(20, ())]
  zv := [(3, .val (.int .i64 0)), (4, .val (.bool false)), (170, .agg [.val (.int .i64 0)])]
  strs := [(9, ()), (10, ()), (11, ())]
  ints := [(2, .i64), (3, .i64), (5, .u8), (6, .u8), (12, .u64), (21, .i32), (51, .i64), (200, .u32), (201, .u8), (202, .u8), (205, .i32), (206, .i32)]
  fns := [(2, Try.f2), (3, Try.f3), (4, Try.f4), (5, Try.f5), (6, Try.f6), (7, Try.f7), (8, Try.f8), (9, Try.f9), (10, Try.f10), (11, Try.f11), (12, Try.f12), (13, Try.f13), (14, Try.f14), (15, Try.f15), (16, Try.f16), (17, Try.f17), (18, Try.f18), (19, Try.f19), (20, Try.f20), (21, Try.f21), (22, Try.f22), (23, Try.f23), (24, Try.f24), (25, Try.f25), (26, Try.f26), (27, Try.f27), (28, Try.f28), (29, Try.f29), (30, Try.f30), (31, Try.f31), (32, Try.f32), (33, Try.f33), (34, Try.f34), (35, Try.f35), (36, Try.f36), (37, Try.f37), (38, Try.f38), (39, Try.f39), (40, Try.f40), (41, Try.f41), (42, Try.f42), (43, Try.f43), (44, Try.f44), (45, Try.f45), (46, Try.f46), (47, Try.f47), (48, Try.f48), (49, Try.f49), (50, Try.f50), (51, Try.f51), (52, Try.f52), (53, Try.f53), (54, Try.f54), (55, Try.f55), (56, Try.f56), (57, Try.f57), (58, Try.f58), (59, Try.f59), (60, Try.f60), (61, Try.f61), (62, Try.f62), (63, Try.f63), (64, Try.f64), (65, Try.f65), (66, Try.f66), (67, Try.f67), (68, Try.f68), (69, Try.f69), (70, Try.f70), (71, Try.f71), (72, Try.f72), (73, Try.f73), (74, Try.f74), (75, Try.f75), (76, Try.f76), (77, Try.f77), (78, Try.f78), (79, Try.f79), (80, Try.f80), (81, Try.f81), (82, Try.f82), (83, Try.f83), (84, Try.f84), (85, Try.f85), (86, Try.f86), (87, Try.f87), (88, Try.f88), (89, Try.f89), (90, Try.f90), (91, Try.f91), (92, Try.f92), (93, Try.f93), (94, Try.f94), (95, Try.f95), (96, Try.f96), (97, Try.f97), (98, Try.f98), (99, Try.f99), (100, Try.f100), (101, Try.f101), (102, Try.f102), (103, Try.f103), (104, Try.f104), (105, Try.f105), (106, Try.f106), (107, Try.f107), (108, Try.f108), (109, Try.f109), (110, Try.f110), (111, Try.f111), (112, Try.f112), (113, Try.f113), (114, Try.f114), (115, Try.f115), (116, Try.f116), (117, Try.f117), (118, Try.f118), (119, Try.f119), (120, Try.f120), (121, Try.f121), (122, Try.f122), (123, Try.f123), (124, Try.f124), (125, Try.f125), (126, Try.f126), (127, Try.f127), (128, Try.f128), (129, Try.f129), (130, Try.f130), (131, Try.f131), (132, Try.f132), (133, Try.f133), (134, Try.f134), (135, Try.f135), (136, Try.f136), (137, Try.f137), (138, Try.f138), (139, Try.f139), (140, Try.f140), (141, Try.f141), (142, Try.f142), (143, Try.f143), (144, Try.f144), (145, Try.f145), (146, Try.f146), (147, Try.f147), (148, Try.f148), (149, Try.f149), (150, Try.f150), (151, Try.f151), (152, Try.f152), (153, Try.f153), (154, Try.f154), (155, Try.f155), (156, Try.f156), (157, Try.f157), (158, Try.f158), (159, Try.f159), (160, Try.f160), (161, Try.f161), (162, Try.f162), (163, Try.f163), (164, Try.f164), (165, Try.f165), (166, Try.f166), (167, Try.f167), (168, Try.f168), (169, Try.f169), (170, Try.f170), (171, Try.f171), (172, Try.f172), (173, Try.f173), (174, Try.f174), (175, Try.f175), (176, Try.f176), (177, Try.f177), (178, Try.f178), (179, Try.f179), (180, Try.f180), (181, Try.f181), (182, Try.f182), (183, Try.f183), (184, Try.f184), (185, Try.f185), (186, Try.f186), (187, Try.f187), (188, Try.f188), (189, Try.f189), (190, Try.f190), (191, Try.f191), (192, Try.f192), (193, Try.f193), (194, Try.f194), (195, Try.f195), (196, Try.f196)]
  dr := [(14, [(6, 9)]), (15, [(6, 9)]), (18, [(6, 9)]), (21, [(6, 9)]), (23, [(8, 13)]), (24, [(6, 10)]), (26, [(12, 9), (17, 9), (40, 11), (42, 16), (43, 20)]), (27, [(6, 9)]), (28, [(18, 28)]), (31, [(6, 9)]), (32, [(12, 9), (24, 27)]), (37, [(5, 27), (7, 14)]), (48, [(6, 9)]), (51, [(10, 18), (19, 3)]), (52, [(16, 24), (27, 20)]), (53, [(6, 9)]), (54, [(5, 14)]), (59, [(5, 12), (6, 11)]), (64, [(22, 3)]), (65, [(14, 9), (26, 10)]), (69, [(10, 23), (21, 7)]), (74, [(19, 7), (25, 9)]), (75, [(6, 9)]), (79, [(26, 29)]), (85, [(6, 9)]), (87, [(10, 21)]), (89, [(8, 46)]), (97, [(4, 16), (6, 12)]), (98, [(4, 22)]), (99, [(5, 25)]), (100, [(5, 15)]), (103, [(4, 12)]), (106, [(7, 14)]), (109, [(7, 20)]), (110, [(6, 9)]), (114, [(1, 8), (7, 14), (8, 9)]), (118, [(4, 14), (10, 8)]), (119, [(6, 17)]), (124, [(1, 19)]), (126, [(1, 7)]), (128, [(5, 10), (15, 7)]), (132, [(9, 8), (10, 9)]), (133, [(10, 26)]), (139, [(4, 11)]), (140, [(9, 31)]), (142, [(6, 9)]), (144, [(1, 23), (7, 9)]), (147, [(1, 5)]), (149, [(2, 5), (10, 9)]), (150, [(6, 9)]), (152, [(2, 5)]), (160, [(6, 4)]), (166, [(6, 4)]), (167, [(6, 4)]), (168, [(6, 4)]), (169, [(2, 15)]), (174, [(3, 14)]), (175, [(6, 4)]), (176, [(6, 4)]), (177, [(6, 4)]), (179, [(1, 3)]), (182, [(3, 3), (4, 5)])]
  maps := [(129, some .i64, 3), (179, none, 4)]
  arrs := [(103, 2, 3), (174, 10, 173), (197, 0, 16)]
theorem jnf_ifs : AllL (fun p : Nat × Unit => ∃ ms, (Try.prog).underlying p.1 = some (.interface ms)) jnf.ifs := .cons (⟨_, Try.underlying20⟩) <| .nil
theorem jnf_zv : AllL (fun p : Nat × AV => ZV Try.prog p.1 p.2) jnf.zv := .cons (⟨by kernel_rfl, .int .i64 0, by kernel_rfl, rfl⟩) <| .cons (⟨by kernel_rfl, .bool false, by kernel_rfl, rfl⟩) <| .cons (⟨by kernel_rfl, .agg #[(.int .i64 0)], by kernel_rfl, rfl⟩) <| .nil
theorem jnf_strs : AllL (fun p : Nat × Unit => (Try.prog).underlying p.1 = some .string) jnf.strs := .cons (Try.underlying9) <| .cons (Try.underlying10) <| .cons (Try.underlying11) <| .nil
theorem jnf_ints : AllL (fun p : Nat × IntKind => (Try.prog).underlying p.1 = some (.int p.2)) jnf.ints := .cons (Try.underlying2) <| .cons (Try.underlying3) <| .cons (Try.underlying5) <| .cons (Try.underlying6) <| .cons (Try.underlying12) <| .cons (Try.underlying21) <| .cons (Try.underlying51) <| .cons (Try.underlying200) <| .cons (Try.underlying201) <| .cons (Try.underlying202) <| .cons (Try.underlying205) <| .cons (Try.underlying206) <| .nil
theorem jnf_fns : AllL (fun p : Nat × Func => (Try.prog).funcs[p.1]? = some p.2 ∧ p.2.body.isSome = true ∧ (p.2.name == "runtime.NumGoroutine") = false) jnf.fns := .cons (⟨Try.func2, rfl, by kernel_rfl⟩) <| .cons (⟨Try.func3, rfl, by kernel_rfl⟩) <| .cons (⟨Try.func4, rfl, by kernel_rfl⟩) <| .cons (⟨Try.func5, rfl, by kernel_rfl⟩) <| .cons (⟨Try.func6, rfl, by kernel_rfl⟩) <| .cons (⟨Try.func7, rfl, by kernel_rfl⟩) <| .cons (⟨Try.func8, rfl, by kernel_rfl⟩) <| .cons (⟨Try.func9, rfl, by kernel_rfl⟩) <| .cons (⟨Try.func10, rfl, by kernel_rfl⟩) <| .cons (⟨Try.func11, rfl, by kernel_rfl⟩) <| .cons (⟨Try.func12, rfl, by kernel_rfl⟩) <| .cons (⟨Try.func13, rfl, by kernel_rfl⟩) <| .cons (⟨Try.func14, rfl, by kernel_rfl⟩) <| .cons (⟨Try.func15, rfl, by kernel_rfl⟩) <| .cons (⟨Try.func16, rfl, by kernel_rfl⟩) <| .cons (⟨Try.func17, rfl, by kernel_rfl⟩) <| .cons (⟨Try.func18, rfl, by kernel_rfl⟩) <| .cons (⟨Try.func19, rfl, by kernel_rfl⟩) <| .cons (⟨Try.func20, rfl, by kernel_rfl⟩) <| .cons (⟨Try.func21, rfl, by kernel_rfl⟩) <| .cons (⟨Try.func22, rfl, by kernel_rfl⟩) <| .cons (⟨Try.func23, rfl, by kernel_rfl⟩) <| .cons (⟨Try.func24, rfl, by kernel_rfl⟩) <| .cons (⟨Try.func25, rfl, by kernel_rfl⟩) <| .cons (⟨Try.func26, rfl, by kernel_rfl⟩) <| .cons (⟨Try.func27, rfl, by kernel_rfl⟩) <| .cons (⟨Try.func28, rfl, by kernel_rfl⟩) <| .cons (⟨Try.func29, rfl, by kernel_rfl⟩) <| .cons (⟨Try.func30, rfl, by kernel_rfl⟩) <| .cons (⟨Try.func31, rfl, by kernel_rfl⟩) <| .cons (⟨Try.func32, rfl, by kernel_rfl⟩) <| .cons (⟨Try.func33, rfl, by kernel_rfl⟩) <| .cons (⟨Try.func34, rfl, by kernel_rfl⟩) <| .cons (⟨Try.func35, rfl, by kernel_rfl⟩) <| .cons (⟨Try.func36, rfl, by kernel_rfl⟩) <| .cons (⟨Try.func37, rfl, by kernel_rfl⟩) <| .cons (⟨Try.func38, rfl, by kernel_rfl⟩) <| .cons (⟨Try.func39, rfl, by kernel_rfl⟩) <| .cons (⟨Try.func40, rfl, by kernel_rfl⟩) <| .cons (⟨Try.func41, rfl, by kernel_rfl⟩) <| .cons (⟨Try.func42, rfl, by kernel_rfl⟩) <| .cons (⟨Try.func43, rfl, by kernel_rfl⟩) <| .cons (⟨Try.func44, rfl, by kernel_rfl⟩) <| .cons (⟨Try.func45, rfl, by kernel_rfl⟩) <| .cons (⟨Try.func46, rfl, by kernel_rfl⟩) <| .cons (⟨Try.func47, rfl, by kernel_rfl⟩) <| .cons (⟨Try.func48, rfl, by kernel_rfl⟩) <| .cons (⟨Try.func49, rfl, by kernel_rfl⟩) <| .cons (⟨Try.func50, rfl, by kernel_rfl⟩) <| .cons (⟨Try.func51, rfl, by kernel_rfl⟩) <| .cons (⟨Try.func52, rfl, by kernel_rfl⟩) <| .cons (⟨Try.func53, rfl, by kernel_rfl⟩) <| .cons (⟨Try.func54, rfl, by kernel_rfl⟩) <| .cons (⟨Try.func55, rfl, by kernel_rfl⟩) <| .cons (⟨Try.func56, rfl, by kernel_rfl⟩) <| .cons (⟨Try.func57, rfl, by kernel_rfl⟩) <| .cons (⟨Try.func58, rfl, by kernel_rfl⟩) <| .cons (⟨Try.func59, rfl, by kernel_rfl⟩) <| .cons (⟨Try.func60, rfl, by kernel_rfl⟩) <| .cons (⟨Try.func61, rfl, by kernel_rfl⟩) <| .cons (⟨Try.func62, rfl, by kernel_rfl⟩) <| .cons (⟨Try.func63, rfl, by kernel_rfl⟩) <| .cons (⟨Try.func64, rfl, by kernel_rfl⟩) <| .cons (⟨Try.func65, rfl, by kernel_rfl⟩) <| .cons (⟨Try.func66, rfl, by kernel_rfl⟩) <| .cons (⟨Try.func67, rfl, by kernel_rfl⟩) <| .cons (⟨Try.func68, rfl, by kernel_rfl⟩) <| .cons (⟨Try.func69, rfl, by kernel_rfl⟩) <| .cons (⟨Try.func70, rfl, by kernel_rfl⟩) <| .cons (⟨Try.func71, rfl, by kernel_rfl⟩) <| .cons (⟨Try.func72, rfl, by kernel_rfl⟩) <| .cons (⟨Try.func73, rfl, by kernel_rfl⟩) <| .cons (⟨Try.func74, rfl, by kernel_rfl⟩) <| .cons (⟨Try.func75, rfl, by kernel_rfl⟩) <| .cons (⟨Try.func76, rfl, by kernel_rfl⟩) <| .cons (⟨Try.func77, rfl, by kernel_rfl⟩) <| .cons (⟨Try.func78, rfl, by kernel_rfl⟩) <| .cons (⟨Try.func79, rfl, by kernel_rfl⟩) <| .cons (⟨Try.func80, rfl, by kernel_rfl⟩) <| .cons (⟨Try.func81, rfl, by kernel_rfl⟩) <| .cons (⟨Try.func82, rfl, by kernel_rfl⟩) <| .cons (⟨Try.func83, rfl, by kernel_rfl⟩) <| .cons (⟨Try.func84, rfl, by kernel_rfl⟩) <| .cons (⟨Try.func85, rfl, by kernel_rfl⟩) <| .cons (⟨Try.func86, rfl, by kernel_rfl⟩) <| .cons (⟨Try.func87, rfl, by kernel_rfl⟩) <| .cons (⟨Try.func88, rfl, by kernel_rfl⟩) <| .cons (⟨Try.func89, rfl, by kernel_rfl⟩) <| .cons (⟨Try.func90, rfl, by kernel_rfl⟩) <| .cons (⟨Try.func91, rfl, by kernel_rfl⟩) <| .cons (⟨Try.func92, rfl, by kernel_rfl⟩) <| .cons (⟨Try.func93, rfl, by kernel_rfl⟩) <| .cons (⟨Try.func94, rfl, by kernel_rfl⟩) <| .cons (⟨Try.func95, rfl, by kernel_rfl⟩) <| .cons (⟨Try.func96, rfl, by kernel_rfl⟩) <| .cons (⟨Try.func97, rfl, by kernel_rfl⟩) <| .cons (⟨Try.func98, rfl, by kernel_rfl⟩) <| .cons (⟨Try.func99, rfl, by kernel_rfl⟩) <| .cons (⟨Try.func100, rfl, by kernel_rfl⟩) <| .cons (⟨Try.func101, rfl, by kernel_rfl⟩) <| .cons (⟨Try.func102, rfl, by kernel_rfl⟩) <| .cons (⟨Try.func103, rfl, by kernel_rfl⟩) <| .cons (⟨Try.func104, rfl, by kernel_rfl⟩) <| .cons (⟨Try.func105, rfl, by kernel_rfl⟩) <| .cons (⟨Try.func106, rfl, by kernel_rfl⟩) <| .cons (⟨Try.func107, rfl, by kernel_rfl⟩) <| .cons (⟨Try.func108, rfl, by kernel_rfl⟩) <| .cons (⟨Try.func109, rfl, by kernel_rfl⟩) <| .cons (⟨Try.func110, rfl, by kernel_rfl⟩) <| .cons (⟨Try.func111, rfl, by kernel_rfl⟩) <| .cons (⟨Try.func112, rfl, by kernel_rfl⟩) <| .cons (⟨Try.func113, rfl, by kernel_rfl⟩) <| .cons (⟨Try.func114, rfl, by kernel_rfl⟩) <| .cons (⟨Try.func115, rfl, by kernel_rfl⟩) <| .cons (⟨Try.func116, rfl, by kernel_rfl⟩) <| .cons (⟨Try.func117, rfl, by kernel_rfl⟩) <| .cons (⟨Try.func118, rfl, by kernel_rfl⟩) <| .cons (⟨Try.func119, rfl, by kernel_rfl⟩) <| .cons (⟨Try.func120, rfl, by kernel_rfl⟩) <| .cons (⟨Try.func121, rfl, by kernel_rfl⟩) <| .cons (⟨Try.func122, rfl, by kernel_rfl⟩) <| .cons (⟨Try.func123, rfl, by kernel_rfl⟩) <| .cons (⟨Try.func124, rfl, by kernel_rfl⟩) <| .cons (⟨Try.func125, rfl, by kernel_rfl⟩) <| .cons (⟨Try.func126, rfl, by kernel_rfl⟩) <| .cons (⟨Try.func127, rfl, by kernel_rfl⟩) <| .cons (⟨Try.func128, rfl, by kernel_rfl⟩) <| .cons (⟨Try.func129, rfl, by kernel_rfl⟩) <| .cons (⟨Try.func130, rfl, by kernel_rfl⟩) <| .cons (⟨Try.func131, rfl, by kernel_rfl⟩) <| .cons (⟨Try.func132, rfl, by kernel_rfl⟩) <| .cons (⟨Try.func133, rfl, by kernel_rfl⟩) <| .cons (⟨Try.func134, rfl, by kernel_rfl⟩) <| .cons (⟨Try.func135, rfl, by kernel_rfl⟩) <| .cons (⟨Try.func136, rfl, by kernel_rfl⟩) <| .cons (⟨Try.func137, rfl, by kernel_rfl⟩) <| .cons (⟨Try.func138, rfl, by kernel_rfl⟩) <| .cons (⟨Try.func139, rfl, by kernel_rfl⟩) <| .cons (⟨Try.func140, rfl, by kernel_rfl⟩) <| .cons (⟨Try.func141, rfl, by kernel_rfl⟩) <| .cons (⟨Try.func142, rfl, by kernel_rfl⟩) <| .cons (⟨Try.func143, rfl, by kernel_rfl⟩) <| .cons (⟨Try.func144, rfl, by kernel_rfl⟩) <| .cons (⟨Try.func145, rfl, by kernel_rfl⟩) <| .cons (⟨Try.func146, rfl, by kernel_rfl⟩) <| .cons (⟨Try.func147, rfl, by kernel_rfl⟩) <| .cons (⟨Try.func148, rfl, by kernel_rfl⟩) <| .cons (⟨Try.func149, rfl, by kernel_rfl⟩) <| .cons (⟨Try.func150, rfl, by kernel_rfl⟩) <| .cons (⟨Try.func151, rfl, by kernel_rfl⟩) <| .cons (⟨Try.func152, rfl, by kernel_rfl⟩) <| .cons (⟨Try.func153, rfl, by kernel_rfl⟩) <| .cons (⟨Try.func154, rfl, by kernel_rfl⟩) <| .cons (⟨Try.func155, rfl, by kernel_rfl⟩) <| .cons (⟨Try.func156, rfl, by kernel_rfl⟩) <| .cons (⟨Try.func157, rfl, by kernel_rfl⟩) <| .cons (⟨Try.func158, rfl, by kernel_rfl⟩) <| .cons (⟨Try.func159, rfl, by kernel_rfl⟩) <| .cons (⟨Try.func160, rfl, by kernel_rfl⟩) <| .cons (⟨Try.func161, rfl, by kernel_rfl⟩) <| .cons (⟨Try.func162, rfl, by kernel_rfl⟩) <| .cons (⟨Try.func163, rfl, by kernel_rfl⟩) <| .cons (⟨Try.func164, rfl, by kernel_rfl⟩) <| .cons (⟨Try.func165, rfl, by kernel_rfl⟩) <| .cons (⟨Try.func166, rfl, by kernel_rfl⟩) <| .cons (⟨Try.func167, rfl, by kernel_rfl⟩) <| .cons (⟨Try.func168, rfl, by kernel_rfl⟩) <| .cons (⟨Try.func169, rfl, by kernel_rfl⟩) <| .cons (⟨Try.func170, rfl, by kernel_rfl⟩) <| .cons (⟨Try.func171, rfl, by kernel_rfl⟩) <| .cons (⟨Try.func172, rfl, by kernel_rfl⟩) <| .cons (⟨Try.func173, rfl, by kernel_rfl⟩) <| .cons (⟨Try.func174, rfl, by kernel_rfl⟩) <| .cons (⟨Try.func175, rfl, by kernel_rfl⟩) <| .cons (⟨Try.func176, rfl, by kernel_rfl⟩) <| .cons (⟨Try.func177, rfl, by kernel_rfl⟩) <| .cons (⟨Try.func178, rfl, by kernel_rfl⟩) <| .cons (⟨Try.func179, rfl, by kernel_rfl⟩) <| .cons (⟨Try.func180, rfl, by kernel_rfl⟩) <| .cons (⟨Try.func181, rfl, by kernel_rfl⟩) <| .cons (⟨Try.func182, rfl, by kernel_rfl⟩) <| .cons (⟨Try.func183, rfl, by kernel_rfl⟩) <| .cons (⟨Try.func184, rfl, by kernel_rfl⟩) <| .cons (⟨Try.func185, rfl, by kernel_rfl⟩) <| .cons (⟨Try.func186, rfl, by kernel_rfl⟩) <| .cons (⟨Try.func187, rfl, by kernel_rfl⟩) <| .cons (⟨Try.func188, rfl, by kernel_rfl⟩) <| .cons (⟨Try.func189, rfl, by kernel_rfl⟩) <| .cons (⟨Try.func190, rfl, by kernel_rfl⟩) <| .cons (⟨Try.func191, rfl, by kernel_rfl⟩) <| .cons (⟨Try.func192, rfl, by kernel_rfl⟩) <| .cons (⟨Try.func193, rfl, by kernel_rfl⟩) <| .cons (⟨Try.func194, rfl, by kernel_rfl⟩) <| .cons (⟨Try.func195, rfl, by kernel_rfl⟩) <| .cons (⟨Try.func196, rfl, by kernel_rfl⟩) <| .nil
theorem jnf_maps : AllL (fun p : Nat × Option IntKind × Nat => MapT Try.prog p.1 p.2.1 p.2.2) jnf.maps := .cons (⟨_, Try.underlying129, Try.underlying3⟩) <| .cons (⟨_, Try.underlying179, Try.underlying9⟩) <| .nil
theorem jnf_arrs : AllL (fun p : Nat × Nat × Nat => (Try.prog).underlying p.1 = some (.array p.2.1 p.2.2)) jnf.arrs := .cons (Try.underlying103) <| .cons (Try.underlying174) <| .cons (Try.underlying197) <| .nil
instance jnfI : Inf2 Try.prog jnf := ⟨jnf_ifs, jnf_zv, jnf_strs, jnf_ints, jnf_fns, by kernel_rfl, jnf_maps, jnf_arrs⟩
end Go.Iron.Try

/- The level package's functions (seat Ytamhonbhoelohaa): fields, names; copies and comparisons. -/
namespace Go.Iron.Try
open Go.Proofs

abbrev Str := List UInt8
abbrev sv (s : Str) : AV := .val (.string (bs s))
structure Typ where
  kind : Int
  p : Int
  q : Int
  n : Int
  vary : Bool
  pic : Str
deriving DecidableEq
structure Fld where
  level : Int
  name : Str
  count : Int
  typ : Typ
  union : Bool
  refer : Int
deriving DecidableEq
def typ0 : Typ := ⟨0, 0, 0, 0, false, []⟩
def fld0 : Fld := ⟨0, [], 0, typ0, false, 0⟩
@[reducible] def typE (t : Typ) : List AV := [iv t.kind, iv t.p, iv t.q, iv t.n, bv t.vary, sv t.pic]
@[reducible] def fldE (f : Fld) : List AV := [iv f.level, sv f.name, iv f.count, iv f.typ.kind, iv f.typ.p, iv f.typ.q, iv f.typ.n, bv f.typ.vary, sv f.typ.pic, bv f.union, iv f.refer]
def fldS (nl : Option Bool) (l : List Fld) : AV := .slc 11 nl l.length (encR fldE fld0 l)
def txtS (nl : Option Bool) (l : List Str) : AV := .slc 1 nl l.length (encR (fun s => [sv s]) [] l)

theorem stay_fields (nl : Option Bool) (ds : List Fld) (hb : ds.length * 104 ≤ 140737488355328) : CallT Try.prog 25 [fldS nl ds] [] (fun out A => out = .ret (fldS none ds) ∧ A = []) := by
  refine callS_body (n := 6) rfl rfl fun w ρ X => ?_
  refine runS_x (I := inf) (J := jnf) ⟨false, false, [], 0, 0⟩ 9999 rfl (by repeat (first | exact obs_nil | refine obs_draw (by kernel_rfl) ?_ | refine obs_same ?_ | refine obs_and ?_ | refine obs_by (by (simp [inB] <;> omega)) ?_)) ?_
  refine runS_freeze 2 rfl rfl rfl (fun i hi => by rw [appR_zero]; rfl) ?_
  refine runS_drop 0 (Nat.zero_le _) rfl (by repeat (first | exact .nil | refine .row (fun j hj => rfl) ?_ | refine .box rfl ?_ | refine .fam (fun k j hk hj => rfl) ?_ | refine .loop (scrub_under _ _) ?_ | refine .dfr ?_ | refine .gone ?_ | refine .map (fun p hp => by (obtain ⟨k, _, rfl⟩ := List.mem_map.1 hp; rfl)) ?_)) rfl rfl rfl (by repeat (first | exact .nil | refine .cons rfl rfl rfl (scrub_under _ _) ?_)) ?_
  refine runS_ret (I := inf) 0 rfl (Nat.le_refl _) rfl .nil rfl ⟨?_, rfl⟩
  show Out.ret (AV.slc 11 none (0 + ds.length) _) = _
  rw [appR_zero, Nat.zero_add]
  rfl
theorem stay_texts (nl : Option Bool) (ds : List Str) (hb : ds.length * 16 ≤ 140737488355328) : CallT Try.prog 29 [txtS nl ds] [] (fun out A => out = .ret (txtS none ds) ∧ A = []) := by
  refine callS_body (n := 6) rfl rfl fun w ρ X => ?_
  refine runS_x (I := inf) (J := jnf) ⟨false, false, [], 0, 0⟩ 9999 rfl (by repeat (first | exact obs_nil | refine obs_draw (by kernel_rfl) ?_ | refine obs_same ?_ | refine obs_and ?_ | refine obs_by (by (simp [inB] <;> omega)) ?_)) ?_
  refine runS_freeze 2 rfl rfl rfl (fun i hi => by rw [appR_zero]; rfl) ?_
  refine runS_drop 0 (Nat.zero_le _) rfl (by repeat (first | exact .nil | refine .row (fun j hj => rfl) ?_ | refine .box rfl ?_ | refine .fam (fun k j hk hj => rfl) ?_ | refine .loop (scrub_under _ _) ?_ | refine .dfr ?_ | refine .gone ?_ | refine .map (fun p hp => by (obtain ⟨k, _, rfl⟩ := List.mem_map.1 hp; rfl)) ?_)) rfl rfl rfl (by repeat (first | exact .nil | refine .cons rfl rfl rfl (scrub_under _ _) ?_)) ?_
  refine runS_ret (I := inf) 0 rfl (Nat.le_refl _) rfl .nil rfl ⟨?_, rfl⟩
  show Out.ret (AV.slc 1 none (0 + ds.length) _) = _
  rw [appR_zero, Nat.zero_add]
  rfl

theorem fld_ext {a b : Fld} (h : a.level = b.level ∧ a.name = b.name ∧ a.count = b.count ∧ (a.typ.kind = b.typ.kind ∧ a.typ.p = b.typ.p ∧ a.typ.q = b.typ.q ∧ a.typ.n = b.typ.n ∧ a.typ.vary = b.typ.vary ∧ a.typ.pic = b.typ.pic) ∧ a.union = b.union ∧ a.refer = b.refer) : a = b := by
  obtain ⟨a1, a2, a3, ⟨t1, t2, t3, t4, t5, t6⟩, a5, a6⟩ := a
  obtain ⟨b1, b2, b3, ⟨u1, u2, u3, u4, u5, u6⟩, b5, b6⟩ := b
  obtain ⟨h1, h2, h3, ⟨h4, h5, h6, h7, h8, h9⟩, h10, h11⟩ := h
  dsimp only at *
  subst h1 h2 h3 h4 h5 h6 h7 h8 h9 h10 h11
  rfl
theorem law_fields (n1 n2 : Option Bool) (xs ys : List Fld) (hb : xs.length < 9223372036854775807) : CallT Try.prog 75 [fldS n1 xs, fldS n2 ys] [] (fun out A => out = .ret (bv (decide (xs = ys))) ∧ A = []) := by
  refine callS_body (n := 26) rfl rfl fun w ρ X => ?_
  refine runS_x (I := inf) (J := jnf) ⟨false, false, [], 0, 0⟩ 9999 rfl (by repeat (first | exact obs_nil | refine obs_draw (by kernel_rfl) ?_ | refine obs_same ?_ | refine obs_and ?_ | refine obs_by (by (simp [inB] <;> omega)) ?_)) ?_
  refine runS_cond rfl (fun h => ?_) (fun h => ?_)
  · refine runS_x (I := inf) (J := jnf) ⟨false, false, [], 0, 0⟩ 9999 rfl (by repeat (first | exact obs_nil | refine obs_draw (by kernel_rfl) ?_ | refine obs_same ?_ | refine obs_and ?_ | refine obs_by (by (simp [inB] <;> omega)) ?_)) ?_
    refine runS_ret (I := inf) 0 rfl (Nat.le_refl _) rfl .nil rfl ⟨?_, rfl⟩
    have : xs ≠ ys := fun e => by subst e; simp at h
    show Out.ret (bv false) = _
    simp [this]
  have hl : xs.length = ys.length := ieq (by simpa using h)
  refine runS_x (I := inf) (J := jnf) ⟨false, false, [], 0, 0⟩ 9999 rfl (by repeat (first | exact obs_nil | refine obs_draw (by kernel_rfl) ?_ | refine obs_same ?_ | refine obs_and ?_ | refine obs_by (by (simp [inB] <;> omega)) ?_)) ?_
  refine runS_while (fun (i : Nat) τ ar => (τ 0 = fldS n1 xs ∧ τ 1 = fldS n2 ys ∧ τ 5 = iv i) ∧ ar = [] ∧ i ≤ xs.length ∧ xs.take i = ys.take i) (fun i => xs.length - i) 0 ⟨⟨rfl, rfl, rfl⟩, rfl, Nat.zero_le _, rfl⟩ ?_
  rintro i τ' ar' ⟨⟨h0, h1, h5⟩, rfl, hi, hp⟩ ih
  refine runS_says 0 (by exact h0) (Says.refl _) ?_; refine runS_says 1 (by exact h1) (Says.refl _) ?_; refine runS_says 5 (by exact h5) (Says.refl _) ?_
  refine runS_x (I := inf) (J := jnf) ⟨false, false, [], 0, 0⟩ 9999 rfl (by repeat (first | exact obs_nil | refine obs_draw (by kernel_rfl) ?_ | refine obs_same ?_ | refine obs_and ?_ | refine obs_by (by (simp [inB] <;> omega)) ?_)) ?_
  refine runS_cond rfl (fun hlt => ?_) (fun hlt => ?_)
  · have hlt' : i < xs.length := by simpa using hlt
    refine runS_x (I := inf) (J := jnf) ⟨false, false, [], 0, 0⟩ 9999 rfl (by repeat (first | exact obs_nil | refine obs_draw (by kernel_rfl) ?_ | refine obs_same ?_ | refine obs_and ?_ | refine obs_by (by (simp [inB, hlt', ← hl] <;> omega)) ?_)) ?_
    refine runS_cond rfl (fun hne => ?_) (fun hne => ?_)
    · refine runS_x (I := inf) (J := jnf) ⟨false, false, [], 0, 0⟩ 9999 rfl (by repeat (first | exact obs_nil | refine obs_draw (by kernel_rfl) ?_ | refine obs_same ?_ | refine obs_and ?_ | refine obs_by (by (simp [inB] <;> omega)) ?_)) ?_
      refine runS_ret (I := inf) 0 rfl (Nat.le_refl _) rfl .nil rfl ⟨?_, rfl⟩
      have : xs ≠ ys := fun e => by subst e; simp at hne
      show Out.ret (bv false) = _
      simp [this]
    · refine runS_x (I := inf) (J := jnf) ⟨false, false, [], 0, 0⟩ 9999 rfl (by repeat (first | exact obs_nil | refine obs_draw (by kernel_rfl) ?_ | refine obs_same ?_ | refine obs_and ?_ | refine obs_by (by (simp [inB] <;> omega)) ?_)) ?_
      have hs : IntKind.wrap .i64 ((i : Int) + 1) = ((i + 1 : Nat) : Int) := by rw [w64] <;> omega
      refine ih (i + 1) _ _ (by omega) ⟨⟨rfl, rfl, ?_⟩, rfl, by omega, ?_⟩
      · show iv (IntKind.wrap .i64 ((i : Int) + 1)) = _
        rw [hs]
      · refine take_next (d := fld0) hl hlt' hp ?_
        simp [bs_toList] at hne; rw [List.getD_eq_getElem?_getD, List.getD_eq_getElem?_getD]; exact fld_ext hne
  · refine runS_x (I := inf) (J := jnf) ⟨false, false, [], 0, 0⟩ 9999 rfl (by repeat (first | exact obs_nil | refine obs_draw (by kernel_rfl) ?_ | refine obs_same ?_ | refine obs_and ?_ | refine obs_by (by (simp [inB] <;> omega)) ?_)) ?_
    refine runS_ret (I := inf) 0 rfl (Nat.le_refl _) rfl .nil rfl ⟨?_, rfl⟩
    have hi' : i = xs.length := by simp at hlt; omega
    subst hi'
    have : xs = ys := by rw [List.take_length] at hp; rw [hp, hl, List.take_length]
    show Out.ret (bv true) = _
    simp [this]
theorem stay_sameTexts (n1 n2 : Option Bool) (xs ys : List Str) (hb : xs.length < 9223372036854775807) : CallT Try.prog 31 [txtS n1 xs, txtS n2 ys] [] (fun out A => out = .ret (bv (decide (xs = ys))) ∧ A = []) := by
  refine callS_body (n := 26) rfl rfl fun w ρ X => ?_
  refine runS_x (I := inf) (J := jnf) ⟨false, false, [], 0, 0⟩ 9999 rfl (by repeat (first | exact obs_nil | refine obs_draw (by kernel_rfl) ?_ | refine obs_same ?_ | refine obs_and ?_ | refine obs_by (by (simp [inB] <;> omega)) ?_)) ?_
  refine runS_cond rfl (fun h => ?_) (fun h => ?_)
  · refine runS_x (I := inf) (J := jnf) ⟨false, false, [], 0, 0⟩ 9999 rfl (by repeat (first | exact obs_nil | refine obs_draw (by kernel_rfl) ?_ | refine obs_same ?_ | refine obs_and ?_ | refine obs_by (by (simp [inB] <;> omega)) ?_)) ?_
    refine runS_ret (I := inf) 0 rfl (Nat.le_refl _) rfl .nil rfl ⟨?_, rfl⟩
    have : xs ≠ ys := fun e => by subst e; simp at h
    show Out.ret (bv false) = _
    simp [this]
  have hl : xs.length = ys.length := ieq (by simpa using h)
  refine runS_x (I := inf) (J := jnf) ⟨false, false, [], 0, 0⟩ 9999 rfl (by repeat (first | exact obs_nil | refine obs_draw (by kernel_rfl) ?_ | refine obs_same ?_ | refine obs_and ?_ | refine obs_by (by (simp [inB] <;> omega)) ?_)) ?_
  refine runS_while (fun (i : Nat) τ ar => (τ 0 = txtS n1 xs ∧ τ 1 = txtS n2 ys ∧ τ 5 = iv i) ∧ ar = [] ∧ i ≤ xs.length ∧ xs.take i = ys.take i) (fun i => xs.length - i) 0 ⟨⟨rfl, rfl, rfl⟩, rfl, Nat.zero_le _, rfl⟩ ?_
  rintro i τ' ar' ⟨⟨h0, h1, h5⟩, rfl, hi, hp⟩ ih
  refine runS_says 0 (by exact h0) (Says.refl _) ?_; refine runS_says 1 (by exact h1) (Says.refl _) ?_; refine runS_says 5 (by exact h5) (Says.refl _) ?_
  refine runS_x (I := inf) (J := jnf) ⟨false, false, [], 0, 0⟩ 9999 rfl (by repeat (first | exact obs_nil | refine obs_draw (by kernel_rfl) ?_ | refine obs_same ?_ | refine obs_and ?_ | refine obs_by (by (simp [inB] <;> omega)) ?_)) ?_
  refine runS_cond rfl (fun hlt => ?_) (fun hlt => ?_)
  · have hlt' : i < xs.length := by simpa using hlt
    refine runS_x (I := inf) (J := jnf) ⟨false, false, [], 0, 0⟩ 9999 rfl (by repeat (first | exact obs_nil | refine obs_draw (by kernel_rfl) ?_ | refine obs_same ?_ | refine obs_and ?_ | refine obs_by (by (simp [inB, hlt', ← hl] <;> omega)) ?_)) ?_
    refine runS_cond rfl (fun hne => ?_) (fun hne => ?_)
    · refine runS_x (I := inf) (J := jnf) ⟨false, false, [], 0, 0⟩ 9999 rfl (by repeat (first | exact obs_nil | refine obs_draw (by kernel_rfl) ?_ | refine obs_same ?_ | refine obs_and ?_ | refine obs_by (by (simp [inB] <;> omega)) ?_)) ?_
      refine runS_ret (I := inf) 0 rfl (Nat.le_refl _) rfl .nil rfl ⟨?_, rfl⟩
      have : xs ≠ ys := fun e => by subst e; simp at hne
      show Out.ret (bv false) = _
      simp [this]
    · refine runS_x (I := inf) (J := jnf) ⟨false, false, [], 0, 0⟩ 9999 rfl (by repeat (first | exact obs_nil | refine obs_draw (by kernel_rfl) ?_ | refine obs_same ?_ | refine obs_and ?_ | refine obs_by (by (simp [inB] <;> omega)) ?_)) ?_
      have hs : IntKind.wrap .i64 ((i : Int) + 1) = ((i + 1 : Nat) : Int) := by rw [w64] <;> omega
      refine ih (i + 1) _ _ (by omega) ⟨⟨rfl, rfl, ?_⟩, rfl, by omega, ?_⟩
      · show iv (IntKind.wrap .i64 ((i : Int) + 1)) = _
        rw [hs]
      · refine take_next (d := []) hl hlt' hp ?_
        simp [bs_toList] at hne; rw [List.getD_eq_getElem?_getD, List.getD_eq_getElem?_getD]; exact hne
  · refine runS_x (I := inf) (J := jnf) ⟨false, false, [], 0, 0⟩ 9999 rfl (by repeat (first | exact obs_nil | refine obs_draw (by kernel_rfl) ?_ | refine obs_same ?_ | refine obs_and ?_ | refine obs_by (by (simp [inB] <;> omega)) ?_)) ?_
    refine runS_ret (I := inf) 0 rfl (Nat.le_refl _) rfl .nil rfl ⟨?_, rfl⟩
    have hi' : i = xs.length := by simp at hlt; omega
    subst hi'
    have : xs = ys := by rw [List.take_length] at hp; rw [hp, hl, List.take_length]
    show Out.ret (bv true) = _
    simp [this]
theorem stay_sameFields (n1 n2 : Option Bool) (xs ys : List Fld) (hb : xs.length < 9223372036854775807) : CallT Try.prog 27 [fldS n1 xs, fldS n2 ys] [] (fun out A => out = .ret (bv (decide (xs = ys))) ∧ A = []) := by
  refine callS_body (n := 26) rfl rfl fun w ρ X => ?_
  refine runS_x (I := inf) (J := jnf) ⟨false, false, [], 0, 0⟩ 9999 rfl (by repeat (first | exact obs_nil | refine obs_draw (by kernel_rfl) ?_ | refine obs_same ?_ | refine obs_and ?_ | refine obs_by (by (simp [inB] <;> omega)) ?_)) ?_
  refine runS_cond rfl (fun h => ?_) (fun h => ?_)
  · refine runS_x (I := inf) (J := jnf) ⟨false, false, [], 0, 0⟩ 9999 rfl (by repeat (first | exact obs_nil | refine obs_draw (by kernel_rfl) ?_ | refine obs_same ?_ | refine obs_and ?_ | refine obs_by (by (simp [inB] <;> omega)) ?_)) ?_
    refine runS_ret (I := inf) 0 rfl (Nat.le_refl _) rfl .nil rfl ⟨?_, rfl⟩
    have : xs ≠ ys := fun e => by subst e; simp at h
    show Out.ret (bv false) = _
    simp [this]
  have hl : xs.length = ys.length := ieq (by simpa using h)
  refine runS_x (I := inf) (J := jnf) ⟨false, false, [], 0, 0⟩ 9999 rfl (by repeat (first | exact obs_nil | refine obs_draw (by kernel_rfl) ?_ | refine obs_same ?_ | refine obs_and ?_ | refine obs_by (by (simp [inB] <;> omega)) ?_)) ?_
  refine runS_while (fun (i : Nat) τ ar => (τ 0 = fldS n1 xs ∧ τ 1 = fldS n2 ys ∧ τ 5 = iv i) ∧ ar = [] ∧ i ≤ xs.length ∧ xs.take i = ys.take i) (fun i => xs.length - i) 0 ⟨⟨rfl, rfl, rfl⟩, rfl, Nat.zero_le _, rfl⟩ ?_
  rintro i τ' ar' ⟨⟨h0, h1, h5⟩, rfl, hi, hp⟩ ih
  refine runS_says 0 (by exact h0) (Says.refl _) ?_; refine runS_says 1 (by exact h1) (Says.refl _) ?_; refine runS_says 5 (by exact h5) (Says.refl _) ?_
  refine runS_x (I := inf) (J := jnf) ⟨false, false, [], 0, 0⟩ 9999 rfl (by repeat (first | exact obs_nil | refine obs_draw (by kernel_rfl) ?_ | refine obs_same ?_ | refine obs_and ?_ | refine obs_by (by (simp [inB] <;> omega)) ?_)) ?_
  refine runS_cond rfl (fun hlt => ?_) (fun hlt => ?_)
  · have hlt' : i < xs.length := by simpa using hlt
    refine runS_x (I := inf) (J := jnf) ⟨false, false, [], 0, 0⟩ 9999 rfl (by repeat (first | exact obs_nil | refine obs_draw (by kernel_rfl) ?_ | refine obs_same ?_ | refine obs_and ?_ | refine obs_by (by (simp [inB, hlt', ← hl] <;> omega)) ?_)) ?_
    refine runS_cond rfl (fun hne => ?_) (fun hne => ?_)
    · refine runS_x (I := inf) (J := jnf) ⟨false, false, [], 0, 0⟩ 9999 rfl (by repeat (first | exact obs_nil | refine obs_draw (by kernel_rfl) ?_ | refine obs_same ?_ | refine obs_and ?_ | refine obs_by (by (simp [inB] <;> omega)) ?_)) ?_
      refine runS_ret (I := inf) 0 rfl (Nat.le_refl _) rfl .nil rfl ⟨?_, rfl⟩
      have : xs ≠ ys := fun e => by subst e; simp at hne
      show Out.ret (bv false) = _
      simp [this]
    · refine runS_x (I := inf) (J := jnf) ⟨false, false, [], 0, 0⟩ 9999 rfl (by repeat (first | exact obs_nil | refine obs_draw (by kernel_rfl) ?_ | refine obs_same ?_ | refine obs_and ?_ | refine obs_by (by (simp [inB] <;> omega)) ?_)) ?_
      have hs : IntKind.wrap .i64 ((i : Int) + 1) = ((i + 1 : Nat) : Int) := by rw [w64] <;> omega
      refine ih (i + 1) _ _ (by omega) ⟨⟨rfl, rfl, ?_⟩, rfl, by omega, ?_⟩
      · show iv (IntKind.wrap .i64 ((i : Int) + 1)) = _
        rw [hs]
      · refine take_next (d := fld0) hl hlt' hp ?_
        simp [bs_toList] at hne; rw [List.getD_eq_getElem?_getD, List.getD_eq_getElem?_getD]; exact fld_ext hne
  · refine runS_x (I := inf) (J := jnf) ⟨false, false, [], 0, 0⟩ 9999 rfl (by repeat (first | exact obs_nil | refine obs_draw (by kernel_rfl) ?_ | refine obs_same ?_ | refine obs_and ?_ | refine obs_by (by (simp [inB] <;> omega)) ?_)) ?_
    refine runS_ret (I := inf) 0 rfl (Nat.le_refl _) rfl .nil rfl ⟨?_, rfl⟩
    have hi' : i = xs.length := by simp at hlt; omega
    subst hi'
    have : xs = ys := by rw [List.take_length] at hp; rw [hp, hl, List.take_length]
    show Out.ret (bv true) = _
    simp [this]
theorem law_texts (n1 n2 : Option Bool) (xs ys : List Str) (hb : xs.length < 9223372036854775807) : CallT Try.prog 85 [txtS n1 xs, txtS n2 ys] [] (fun out A => out = .ret (bv (decide (xs = ys))) ∧ A = []) := by
  refine callS_body (n := 26) rfl rfl fun w ρ X => ?_
  refine runS_x (I := inf) (J := jnf) ⟨false, false, [], 0, 0⟩ 9999 rfl (by repeat (first | exact obs_nil | refine obs_draw (by kernel_rfl) ?_ | refine obs_same ?_ | refine obs_and ?_ | refine obs_by (by (simp [inB] <;> omega)) ?_)) ?_
  refine runS_cond rfl (fun h => ?_) (fun h => ?_)
  · refine runS_x (I := inf) (J := jnf) ⟨false, false, [], 0, 0⟩ 9999 rfl (by repeat (first | exact obs_nil | refine obs_draw (by kernel_rfl) ?_ | refine obs_same ?_ | refine obs_and ?_ | refine obs_by (by (simp [inB] <;> omega)) ?_)) ?_
    refine runS_ret (I := inf) 0 rfl (Nat.le_refl _) rfl .nil rfl ⟨?_, rfl⟩
    have : xs ≠ ys := fun e => by subst e; simp at h
    show Out.ret (bv false) = _
    simp [this]
  have hl : xs.length = ys.length := ieq (by simpa using h)
  refine runS_x (I := inf) (J := jnf) ⟨false, false, [], 0, 0⟩ 9999 rfl (by repeat (first | exact obs_nil | refine obs_draw (by kernel_rfl) ?_ | refine obs_same ?_ | refine obs_and ?_ | refine obs_by (by (simp [inB] <;> omega)) ?_)) ?_
  refine runS_while (fun (i : Nat) τ ar => (τ 0 = txtS n1 xs ∧ τ 1 = txtS n2 ys ∧ τ 5 = iv i) ∧ ar = [] ∧ i ≤ xs.length ∧ xs.take i = ys.take i) (fun i => xs.length - i) 0 ⟨⟨rfl, rfl, rfl⟩, rfl, Nat.zero_le _, rfl⟩ ?_
  rintro i τ' ar' ⟨⟨h0, h1, h5⟩, rfl, hi, hp⟩ ih
  refine runS_says 0 (by exact h0) (Says.refl _) ?_; refine runS_says 1 (by exact h1) (Says.refl _) ?_; refine runS_says 5 (by exact h5) (Says.refl _) ?_
  refine runS_x (I := inf) (J := jnf) ⟨false, false, [], 0, 0⟩ 9999 rfl (by repeat (first | exact obs_nil | refine obs_draw (by kernel_rfl) ?_ | refine obs_same ?_ | refine obs_and ?_ | refine obs_by (by (simp [inB] <;> omega)) ?_)) ?_
  refine runS_cond rfl (fun hlt => ?_) (fun hlt => ?_)
  · have hlt' : i < xs.length := by simpa using hlt
    refine runS_x (I := inf) (J := jnf) ⟨false, false, [], 0, 0⟩ 9999 rfl (by repeat (first | exact obs_nil | refine obs_draw (by kernel_rfl) ?_ | refine obs_same ?_ | refine obs_and ?_ | refine obs_by (by (simp [inB, hlt', ← hl] <;> omega)) ?_)) ?_
    refine runS_cond rfl (fun hne => ?_) (fun hne => ?_)
    · refine runS_x (I := inf) (J := jnf) ⟨false, false, [], 0, 0⟩ 9999 rfl (by repeat (first | exact obs_nil | refine obs_draw (by kernel_rfl) ?_ | refine obs_same ?_ | refine obs_and ?_ | refine obs_by (by (simp [inB] <;> omega)) ?_)) ?_
      refine runS_ret (I := inf) 0 rfl (Nat.le_refl _) rfl .nil rfl ⟨?_, rfl⟩
      have : xs ≠ ys := fun e => by subst e; simp at hne
      show Out.ret (bv false) = _
      simp [this]
    · refine runS_x (I := inf) (J := jnf) ⟨false, false, [], 0, 0⟩ 9999 rfl (by repeat (first | exact obs_nil | refine obs_draw (by kernel_rfl) ?_ | refine obs_same ?_ | refine obs_and ?_ | refine obs_by (by (simp [inB] <;> omega)) ?_)) ?_
      have hs : IntKind.wrap .i64 ((i : Int) + 1) = ((i + 1 : Nat) : Int) := by rw [w64] <;> omega
      refine ih (i + 1) _ _ (by omega) ⟨⟨rfl, rfl, ?_⟩, rfl, by omega, ?_⟩
      · show iv (IntKind.wrap .i64 ((i : Int) + 1)) = _
        rw [hs]
      · refine take_next (d := []) hl hlt' hp ?_
        simp [bs_toList] at hne; rw [List.getD_eq_getElem?_getD, List.getD_eq_getElem?_getD]; exact hne
  · refine runS_x (I := inf) (J := jnf) ⟨false, false, [], 0, 0⟩ 9999 rfl (by repeat (first | exact obs_nil | refine obs_draw (by kernel_rfl) ?_ | refine obs_same ?_ | refine obs_and ?_ | refine obs_by (by (simp [inB] <;> omega)) ?_)) ?_
    refine runS_ret (I := inf) 0 rfl (Nat.le_refl _) rfl .nil rfl ⟨?_, rfl⟩
    have hi' : i = xs.length := by simp at hlt; omega
    subst hi'
    have : xs = ys := by rw [List.take_length] at hp; rw [hp, hl, List.take_length]
    show Out.ret (bv true) = _
    simp [this]
theorem ref_same (n1 n2 : Option Bool) (xs ys : List Str) (hb : xs.length < 9223372036854775807) : CallT Try.prog 150 [txtS n1 xs, txtS n2 ys] [] (fun out A => out = .ret (bv (decide (xs = ys))) ∧ A = []) := by
  refine callS_body (n := 26) rfl rfl fun w ρ X => ?_
  refine runS_x (I := inf) (J := jnf) ⟨false, false, [], 0, 0⟩ 9999 rfl (by repeat (first | exact obs_nil | refine obs_draw (by kernel_rfl) ?_ | refine obs_same ?_ | refine obs_and ?_ | refine obs_by (by (simp [inB] <;> omega)) ?_)) ?_
  refine runS_cond rfl (fun h => ?_) (fun h => ?_)
  · refine runS_x (I := inf) (J := jnf) ⟨false, false, [], 0, 0⟩ 9999 rfl (by repeat (first | exact obs_nil | refine obs_draw (by kernel_rfl) ?_ | refine obs_same ?_ | refine obs_and ?_ | refine obs_by (by (simp [inB] <;> omega)) ?_)) ?_
    refine runS_ret (I := inf) 0 rfl (Nat.le_refl _) rfl .nil rfl ⟨?_, rfl⟩
    have : xs ≠ ys := fun e => by subst e; simp at h
    show Out.ret (bv false) = _
    simp [this]
  have hl : xs.length = ys.length := ieq (by simpa using h)
  refine runS_x (I := inf) (J := jnf) ⟨false, false, [], 0, 0⟩ 9999 rfl (by repeat (first | exact obs_nil | refine obs_draw (by kernel_rfl) ?_ | refine obs_same ?_ | refine obs_and ?_ | refine obs_by (by (simp [inB] <;> omega)) ?_)) ?_
  refine runS_while (fun (i : Nat) τ ar => (τ 0 = txtS n1 xs ∧ τ 1 = txtS n2 ys ∧ τ 5 = iv i) ∧ ar = [] ∧ i ≤ xs.length ∧ xs.take i = ys.take i) (fun i => xs.length - i) 0 ⟨⟨rfl, rfl, rfl⟩, rfl, Nat.zero_le _, rfl⟩ ?_
  rintro i τ' ar' ⟨⟨h0, h1, h5⟩, rfl, hi, hp⟩ ih
  refine runS_says 0 (by exact h0) (Says.refl _) ?_; refine runS_says 1 (by exact h1) (Says.refl _) ?_; refine runS_says 5 (by exact h5) (Says.refl _) ?_
  refine runS_x (I := inf) (J := jnf) ⟨false, false, [], 0, 0⟩ 9999 rfl (by repeat (first | exact obs_nil | refine obs_draw (by kernel_rfl) ?_ | refine obs_same ?_ | refine obs_and ?_ | refine obs_by (by (simp [inB] <;> omega)) ?_)) ?_
  refine runS_cond rfl (fun hlt => ?_) (fun hlt => ?_)
  · have hlt' : i < xs.length := by simpa using hlt
    refine runS_x (I := inf) (J := jnf) ⟨false, false, [], 0, 0⟩ 9999 rfl (by repeat (first | exact obs_nil | refine obs_draw (by kernel_rfl) ?_ | refine obs_same ?_ | refine obs_and ?_ | refine obs_by (by (simp [inB, hlt', ← hl] <;> omega)) ?_)) ?_
    refine runS_cond rfl (fun hne => ?_) (fun hne => ?_)
    · refine runS_x (I := inf) (J := jnf) ⟨false, false, [], 0, 0⟩ 9999 rfl (by repeat (first | exact obs_nil | refine obs_draw (by kernel_rfl) ?_ | refine obs_same ?_ | refine obs_and ?_ | refine obs_by (by (simp [inB] <;> omega)) ?_)) ?_
      refine runS_ret (I := inf) 0 rfl (Nat.le_refl _) rfl .nil rfl ⟨?_, rfl⟩
      have : xs ≠ ys := fun e => by subst e; simp at hne
      show Out.ret (bv false) = _
      simp [this]
    · refine runS_x (I := inf) (J := jnf) ⟨false, false, [], 0, 0⟩ 9999 rfl (by repeat (first | exact obs_nil | refine obs_draw (by kernel_rfl) ?_ | refine obs_same ?_ | refine obs_and ?_ | refine obs_by (by (simp [inB] <;> omega)) ?_)) ?_
      have hs : IntKind.wrap .i64 ((i : Int) + 1) = ((i + 1 : Nat) : Int) := by rw [w64] <;> omega
      refine ih (i + 1) _ _ (by omega) ⟨⟨rfl, rfl, ?_⟩, rfl, by omega, ?_⟩
      · show iv (IntKind.wrap .i64 ((i : Int) + 1)) = _
        rw [hs]
      · refine take_next (d := []) hl hlt' hp ?_
        simp [bs_toList] at hne; rw [List.getD_eq_getElem?_getD, List.getD_eq_getElem?_getD]; exact hne
  · refine runS_x (I := inf) (J := jnf) ⟨false, false, [], 0, 0⟩ 9999 rfl (by repeat (first | exact obs_nil | refine obs_draw (by kernel_rfl) ?_ | refine obs_same ?_ | refine obs_and ?_ | refine obs_by (by (simp [inB] <;> omega)) ?_)) ?_
    refine runS_ret (I := inf) 0 rfl (Nat.le_refl _) rfl .nil rfl ⟨?_, rfl⟩
    have hi' : i = xs.length := by simp at hlt; omega
    subst hi'
    have : xs = ys := by rw [List.take_length] at hp; rw [hp, hl, List.take_length]
    show Out.ret (bv true) = _
    simp [this]
theorem slices_equalTexts (n1 n2 : Option Bool) (xs ys : List Str) (hb : xs.length < 9223372036854775807) : CallT Try.prog 142 [txtS n1 xs, txtS n2 ys] [] (fun out A => out = .ret (bv (decide (xs = ys))) ∧ A = []) := by
  refine callS_body (n := 26) rfl rfl fun w ρ X => ?_
  refine runS_x (I := inf) (J := jnf) ⟨false, false, [], 0, 0⟩ 9999 rfl (by repeat (first | exact obs_nil | refine obs_draw (by kernel_rfl) ?_ | refine obs_same ?_ | refine obs_and ?_ | refine obs_by (by (simp [inB] <;> omega)) ?_)) ?_
  refine runS_cond rfl (fun h => ?_) (fun h => ?_)
  · refine runS_x (I := inf) (J := jnf) ⟨false, false, [], 0, 0⟩ 9999 rfl (by repeat (first | exact obs_nil | refine obs_draw (by kernel_rfl) ?_ | refine obs_same ?_ | refine obs_and ?_ | refine obs_by (by (simp [inB] <;> omega)) ?_)) ?_
    refine runS_ret (I := inf) 0 rfl (Nat.le_refl _) rfl .nil rfl ⟨?_, rfl⟩
    have : xs ≠ ys := fun e => by subst e; simp at h
    show Out.ret (bv false) = _
    simp [this]
  have hl : xs.length = ys.length := ieq (by simpa using h)
  refine runS_x (I := inf) (J := jnf) ⟨false, false, [], 0, 0⟩ 9999 rfl (by repeat (first | exact obs_nil | refine obs_draw (by kernel_rfl) ?_ | refine obs_same ?_ | refine obs_and ?_ | refine obs_by (by (simp [inB] <;> omega)) ?_)) ?_
  refine runS_while (fun (i : Nat) τ ar => (τ 0 = txtS n1 xs ∧ τ 1 = txtS n2 ys ∧ τ 12 = iv xs.length ∧ τ 13 = iv i) ∧ ar = [] ∧ i ≤ xs.length ∧ xs.take i = ys.take i) (fun i => xs.length - i) 0 ⟨⟨rfl, rfl, rfl, rfl⟩, rfl, Nat.zero_le _, rfl⟩ ?_
  rintro i τ' ar' ⟨⟨h0, h1, h12, h5⟩, rfl, hi, hp⟩ ih
  refine runS_says 0 (by exact h0) (Says.refl _) ?_; refine runS_says 1 (by exact h1) (Says.refl _) ?_; refine runS_says 12 (by exact h12) (Says.refl _) ?_; refine runS_says 13 (by exact h5) (Says.refl _) ?_
  refine runS_x (I := inf) (J := jnf) ⟨false, false, [], 0, 0⟩ 9999 rfl (by repeat (first | exact obs_nil | refine obs_draw (by kernel_rfl) ?_ | refine obs_same ?_ | refine obs_and ?_ | refine obs_by (by (simp [inB] <;> omega)) ?_)) ?_
  refine runS_cond rfl (fun hlt => ?_) (fun hlt => ?_)
  · have hlt' : i < xs.length := by simpa using hlt
    refine runS_x (I := inf) (J := jnf) ⟨false, false, [], 0, 0⟩ 9999 rfl (by repeat (first | exact obs_nil | refine obs_draw (by kernel_rfl) ?_ | refine obs_same ?_ | refine obs_and ?_ | refine obs_by (by (simp [inB, hlt', ← hl] <;> omega)) ?_)) ?_
    refine runS_cond rfl (fun hne => ?_) (fun hne => ?_)
    · refine runS_x (I := inf) (J := jnf) ⟨false, false, [], 0, 0⟩ 9999 rfl (by repeat (first | exact obs_nil | refine obs_draw (by kernel_rfl) ?_ | refine obs_same ?_ | refine obs_and ?_ | refine obs_by (by (simp [inB] <;> omega)) ?_)) ?_
      refine runS_ret (I := inf) 0 rfl (Nat.le_refl _) rfl .nil rfl ⟨?_, rfl⟩
      have : xs ≠ ys := fun e => by subst e; simp at hne
      show Out.ret (bv false) = _
      simp [this]
    · refine runS_x (I := inf) (J := jnf) ⟨false, false, [], 0, 0⟩ 9999 rfl (by repeat (first | exact obs_nil | refine obs_draw (by kernel_rfl) ?_ | refine obs_same ?_ | refine obs_and ?_ | refine obs_by (by (simp [inB] <;> omega)) ?_)) ?_
      have hs : IntKind.wrap .i64 ((i : Int) + 1) = ((i + 1 : Nat) : Int) := by rw [w64] <;> omega
      refine ih (i + 1) _ _ (by omega) ⟨⟨rfl, rfl, rfl, ?_⟩, rfl, by omega, ?_⟩
      · show iv (IntKind.wrap .i64 ((i : Int) + 1)) = _
        rw [hs]
      · refine take_next (d := []) hl hlt' hp ?_
        simp [bs_toList] at hne; rw [List.getD_eq_getElem?_getD, List.getD_eq_getElem?_getD]; exact hne
  · refine runS_x (I := inf) (J := jnf) ⟨false, false, [], 0, 0⟩ 9999 rfl (by repeat (first | exact obs_nil | refine obs_draw (by kernel_rfl) ?_ | refine obs_same ?_ | refine obs_and ?_ | refine obs_by (by (simp [inB] <;> omega)) ?_)) ?_
    refine runS_ret (I := inf) 0 rfl (Nat.le_refl _) rfl .nil rfl ⟨?_, rfl⟩
    have hi' : i = xs.length := by simp at hlt; omega
    subst hi'
    have : xs = ys := by rw [List.take_length] at hp; rw [hp, hl, List.take_length]
    show Out.ret (bv true) = _
    simp [this]
end Go.Iron.Try

/- The level package's functions (seat Ytamhonbhoelohaa): parents, and what hangs on them, of the reference. -/
namespace Go.Iron.Try
open Go.Proofs

abbrev fat (l : List Fld) (i : Nat) : Fld := l.getD i fld0
/-- The nearest of the first k of a lesser level. -/
def upN (l : List Fld) (v : Int) : Nat → Option Nat
  | 0 => none
  | k + 1 => if (fat l k).level < v then some k else upN l v k
theorem upN_lt {l : List Fld} {v : Int} : ∀ {k j : Nat}, upN l v k = some j → j < k
  | 0, j, h => by cases h
  | k + 1, j, h => by
    unfold upN at h
    split at h
    · cases h; omega
    · have := upN_lt h; omega
def par (l : List Fld) (i : Nat) : Option Nat := upN l (fat l i).level i
theorem par_lt {l : List Fld} {i j : Nat} (h : par l i = some j) : j < i := upN_lt h
def opI : Option Nat → Int
  | some k => k
  | none => -1
/-- A member and those that it stands in, from the inside. -/
def anc (l : List Fld) (i : Nat) : List Nat := i :: match h : par l i with
  | some k => have := par_lt h; anc l k
  | none => []
termination_by i
def ancO (l : List Fld) : Option Nat → List Nat
  | some k => anc l k
  | none => []
theorem anc_eq (l : List Fld) (i : Nat) : anc l i = i :: ancO l (par l i) := by
  rw [anc]
  split <;> rename_i h <;> simp [h, ancO]
theorem anc_len (l : List Fld) (i : Nat) : (anc l i).length ≤ i + 1 := by
  induction i using Nat.strongRecOn with
  | ind i ih =>
    rw [anc_eq]
    cases h : par l i with
    | none => simp [ancO]
    | some k => have := par_lt h; have := ih k this; simp [ancO]; omega

theorem ref_parent (nl : Option Bool) (l : List Fld) (i : Nat) (hi : i < l.length) (hb : l.length < 9223372036854775807) : CallT Try.prog 139 [fldS nl l, iv i] [] (fun o A => o = .ret (iv (opI (par l i))) ∧ A = []) := by
  refine callS_body (n := 24) rfl rfl fun w ρ X => ?_
  refine runS_x (I := inf) (J := jnf) ⟨false, false, [], 0, 0⟩ 9999 rfl (by repeat (first | exact obs_nil | refine obs_draw (by kernel_rfl) ?_ | refine obs_same ?_ | refine obs_and ?_ | refine obs_by (by (simp [inB] <;> omega)) ?_)) ?_
  refine runS_while (fun (k : Nat) τ ar => (τ 0 = fldS nl l ∧ τ 1 = iv i ∧ τ 5 = iv ((k : Int) - 1)) ∧ ar = [] ∧ k ≤ i ∧ upN l (fat l i).level k = par l i) (fun k => k) i ⟨⟨rfl, rfl, ?_⟩, rfl, Nat.le_refl _, rfl⟩ ?_
  · show iv (IntKind.wrap .i64 ((i : Int) - 1)) = _
    rw [w64] <;> omega
  rintro k τ' ar' ⟨⟨h0, h1, h5⟩, rfl, hk, hp⟩ ih
  refine runS_says 0 (by exact h0) (Says.refl _) ?_; refine runS_says 1 (by exact h1) (Says.refl _) ?_; refine runS_says 5 (by exact h5) (Says.refl _) ?_
  refine runS_x (I := inf) (J := jnf) ⟨false, false, [], 0, 0⟩ 9999 rfl (by repeat (first | exact obs_nil | refine obs_draw (by kernel_rfl) ?_ | refine obs_same ?_ | refine obs_and ?_ | refine obs_by (by (simp [inB] <;> omega)) ?_)) ?_
  refine runS_cond rfl (fun hlt => ?_) (fun hlt => ?_)
  · obtain ⟨j, rfl⟩ : ∃ j, k = j + 1 := ⟨k - 1, by simp at hlt; omega⟩
    have e : ((j + 1 : Nat) : Int) - 1 = (j : Nat) := by omega
    rw [upN] at hp
    rw [e]
    have h1 : j < l.length := by omega
    refine runS_x (I := inf) (J := jnf) ⟨false, false, [], 0, 0⟩ 9999 rfl (by repeat (first | exact obs_nil | refine obs_draw (by kernel_rfl) ?_ | refine obs_same ?_ | refine obs_and ?_ | refine obs_by (by (simp [inB, h1, hi] <;> omega)) ?_)) ?_
    refine runS_cond rfl (fun hl => ?_) (fun hl => ?_)
    · refine runS_x (I := inf) (J := jnf) ⟨false, false, [], 0, 0⟩ 9999 rfl (by repeat (first | exact obs_nil | refine obs_draw (by kernel_rfl) ?_ | refine obs_same ?_ | refine obs_and ?_ | refine obs_by (by (simp [inB] <;> omega)) ?_)) ?_
      refine runS_ret (I := inf) 0 rfl (Nat.le_refl _) rfl .nil rfl ⟨?_, rfl⟩
      have hl' : (fat l j).level < (fat l i).level := by simpa using hl
      rw [if_pos hl'] at hp
      rw [← hp]
      rfl
    · refine runS_x (I := inf) (J := jnf) ⟨false, false, [], 0, 0⟩ 9999 rfl (by repeat (first | exact obs_nil | refine obs_draw (by kernel_rfl) ?_ | refine obs_same ?_ | refine obs_and ?_ | refine obs_by (by (simp [inB] <;> omega)) ?_)) ?_
      have hl' : ¬ (fat l j).level < (fat l i).level := by simpa using hl
      rw [if_neg hl'] at hp
      refine ih j _ _ (by omega) ⟨⟨rfl, rfl, ?_⟩, rfl, by omega, hp⟩
      show iv (IntKind.wrap .i64 ((j : Int) - 1)) = _
      rw [w64] <;> omega
  · have : k = 0 := by simp at hlt; omega
    subst this
    refine runS_x (I := inf) (J := jnf) ⟨false, false, [], 0, 0⟩ 9999 rfl (by repeat (first | exact obs_nil | refine obs_draw (by kernel_rfl) ?_ | refine obs_same ?_ | refine obs_and ?_ | refine obs_by (by (simp [inB] <;> omega)) ?_)) ?_
    refine runS_ret (I := inf) 0 rfl (Nat.le_refl _) rfl .nil rfl ⟨?_, rfl⟩
    rw [← hp]
    rfl

def innerB (l : List Fld) (i : Nat) : Bool := decide (i + 1 < l.length) && decide ((fat l (i + 1)).level > (fat l i).level)
theorem ref_inner (nl : Option Bool) (l : List Fld) (i : Nat) (hi : i < l.length) (hb : l.length < 9223372036854775807) : CallT Try.prog 124 [fldS nl l, iv i] [] (fun o A => o = .ret (bv (innerB l i)) ∧ A = []) := by
  have hw : IntKind.wrap .i64 ((i : Int) + 1) = ((i + 1 : Nat) : Int) := by rw [w64] <;> omega
  refine callS_body (n := 24) rfl rfl fun w ρ X => ?_
  refine runS_x (I := inf) (J := jnf) ⟨false, false, [], 0, 0⟩ 9999 rfl (by repeat (first | exact obs_nil | refine obs_draw (by kernel_rfl) ?_ | refine obs_same ?_ | refine obs_and ?_ | refine obs_by (by (simp [inB, hw, hi] <;> omega)) ?_)) ?_
  refine runS_ret (I := inf) 0 rfl (Nat.le_refl _) rfl .nil rfl ⟨?_, rfl⟩
  rw [hw]
  show Out.ret (bv (if decide (((i + 1 : Nat) : Int) < (l.length : Int)) = true then decide ((fat l (i + 1)).level > (fat l i).level) else false)) = _
  unfold innerB
  by_cases h : i + 1 < l.length <;> simp [h]
  · intro h'; omega
  · intro h'; omega

def isArr (l : List Fld) (i : Nat) : Bool := decide ((fat l i).count > 0)
def arrs (l : List Fld) (i : Nat) : Nat := (anc l i).countP (isArr l)

theorem ref_arrays (nl : Option Bool) (l : List Fld) (i : Nat) (hi : i < l.length) (hb : l.length < 9223372036854775807) : CallT Try.prog 130 [fldS nl l, iv i] [] (fun o A => o = .ret (iv (arrs l i)) ∧ A = []) := by
  refine callS_body (n := 20) rfl rfl fun w ρ X => ?_
  refine runS_x (I := inf) (J := jnf) ⟨false, false, [], 0, 0⟩ 9999 rfl (by repeat (first | exact obs_nil | refine obs_draw (by kernel_rfl) ?_ | refine obs_same ?_ | refine obs_and ?_ | refine obs_by (by (simp [inB] <;> omega)) ?_)) ?_
  refine runS_while (fun (x : Option Nat × Nat) τ ar => (τ 0 = fldS nl l ∧ τ 1 = iv (opI x.1) ∧ τ 5 = iv x.2) ∧ ar = [] ∧ (∀ k, x.1 = some k → k ≤ i) ∧ x.2 + (ancO l x.1).countP (isArr l) = arrs l i) (fun x => match x.1 with | some k => k + 1 | none => 0) (some i, 0) ⟨⟨rfl, rfl, rfl⟩, rfl, by simp, by simp [ancO, arrs]⟩ ?_
  rintro ⟨o, n⟩ τ' ar' ⟨⟨h0, h1, h5⟩, rfl, hk, hp⟩ ih
  dsimp only at h1 h5 hk hp
  have hle : arrs l i ≤ i + 1 := Nat.le_trans List.countP_le_length (anc_len l i)
  cases o with
  | none =>
    have h1 : τ' 1 = iv (-1) := h1
    refine runS_says 0 (by exact h0) (Says.refl _) ?_; refine runS_says 1 (by exact h1) (Says.refl _) ?_; refine runS_says 5 (by exact h5) (Says.refl _) ?_
    refine runS_x (I := inf) (J := jnf) ⟨true, false, [], 0, 0⟩ 9999 rfl (by repeat (first | exact obs_nil | refine obs_draw (by kernel_rfl) ?_ | refine obs_same ?_ | refine obs_and ?_ | refine obs_by (by (simp [inB] <;> omega)) ?_)) ?_
    refine runS_ret (I := inf) 0 rfl (Nat.le_refl _) rfl .nil rfl ⟨?_, rfl⟩
    simp [ancO] at hp
    rw [← hp]
    rfl
  | some k =>
    have hk := hk k rfl
    have h1 : τ' 1 = iv (k : Int) := h1
    refine runS_says 0 (by exact h0) (Says.refl _) ?_; refine runS_says 1 (by exact h1) (Says.refl _) ?_; refine runS_says 5 (by exact h5) (Says.refl _) ?_
    have h1 : k < l.length := by omega
    rw [ancO, anc_eq, List.countP_cons] at hp
    refine runS_x (I := inf) (J := jnf) ⟨false, false, [], 0, 0⟩ 9999 rfl (by repeat (first | exact obs_nil | refine obs_draw (by kernel_rfl) ?_ | refine obs_same ?_ | refine obs_and ?_ | refine obs_by (by (simp [inB] <;> omega)) ?_)) ?_
    refine runS_cond rfl (fun h => ?_) (fun h => absurd h (by simp))
    refine runS_x (I := inf) (J := jnf) ⟨false, false, [], 0, 0⟩ 9999 rfl (by repeat (first | exact obs_nil | refine obs_draw (by kernel_rfl) ?_ | refine obs_same ?_ | refine obs_and ?_ | refine obs_by (by (simp [inB, h1] <;> omega)) ?_)) ?_
    refine runS_cond rfl (fun hc => ?_) (fun hc => ?_)
    · refine runS_x (I := inf) (J := jnf) ⟨false, false, [], 0, 0⟩ 9999 rfl (by repeat (first | exact obs_nil | refine obs_draw (by kernel_rfl) ?_ | refine obs_same ?_ | refine obs_and ?_ | refine obs_by (by (simp [inB] <;> omega)) ?_)) ?_
      refine runS_call rfl rfl rfl rfl rfl rfl rfl (ref_parent nl l k h1 hb) ?_
      refine runS_x (I := inf) (J := jnf) ⟨false, false, [], 0, 0⟩ 9999 rfl (by repeat (first | exact obs_nil | refine obs_draw (by kernel_rfl) ?_ | refine obs_same ?_ | refine obs_and ?_ | refine obs_by (by (simp [inB] <;> omega)) ?_)) ?_
      rw [if_pos (by simpa [isArr] using hc)] at hp
      refine ih (par l k, n + 1) _ _ ?_ ⟨⟨rfl, rfl, ?_⟩, rfl, fun j hj => by have := par_lt hj; omega, by dsimp only; omega⟩
      · dsimp only
        cases hpk : par l k with
        | none => simp
        | some j => have := par_lt hpk; simp; omega
      · have hs : IntKind.wrap .i64 ((n : Int) + 1) = ((n + 1 : Nat) : Int) := by rw [w64] <;> omega
        show iv (IntKind.wrap .i64 ((n : Int) + 1)) = _
        rw [hs]
    · refine runS_x (I := inf) (J := jnf) ⟨false, false, [], 0, 0⟩ 9999 rfl (by repeat (first | exact obs_nil | refine obs_draw (by kernel_rfl) ?_ | refine obs_same ?_ | refine obs_and ?_ | refine obs_by (by (simp [inB] <;> omega)) ?_)) ?_
      refine runS_call rfl rfl rfl rfl rfl rfl rfl (ref_parent nl l k h1 hb) ?_
      refine runS_x (I := inf) (J := jnf) ⟨false, false, [], 0, 0⟩ 9999 rfl (by repeat (first | exact obs_nil | refine obs_draw (by kernel_rfl) ?_ | refine obs_same ?_ | refine obs_and ?_ | refine obs_by (by (simp [inB] <;> omega)) ?_)) ?_
      rw [if_neg (by simpa [isArr] using hc)] at hp
      have hp' : n + (ancO l (par l k)).countP (isArr l) = arrs l i := by omega
      refine ih (par l k, n) _ _ ?_ ⟨⟨rfl, rfl, rfl⟩, rfl, fun j hj => by have := par_lt hj; omega, hp'⟩
      dsimp only
      cases hpk : par l k with
      | none => simp
      | some j => have := par_lt hpk; simp; omega

abbrev nilT : Nat → List AV := encR (fun s => [sv s]) [] []
def dep (l : List Fld) (i : Nat) : Nat := (anc l i).length
theorem ref_depth (nl : Option Bool) (l : List Fld) (i : Nat) (hi : i < l.length) (hb : l.length < 9223372036854775807) : CallT Try.prog 155 [fldS nl l, iv i] [] (fun o A => o = .ret (iv (dep l i)) ∧ A = []) := by
  refine callS_body (n := 14) rfl rfl fun w ρ X => ?_
  refine runS_x (I := inf) (J := jnf) ⟨false, false, [], 0, 0⟩ 9999 rfl (by repeat (first | exact obs_nil | refine obs_draw (by kernel_rfl) ?_ | refine obs_same ?_ | refine obs_and ?_ | refine obs_by (by (simp [inB] <;> omega)) ?_)) ?_
  refine runS_while (fun (x : Option Nat × Nat) τ ar => (τ 0 = fldS nl l ∧ τ 1 = iv (opI x.1) ∧ τ 5 = iv x.2) ∧ ar = [] ∧ (∀ k, x.1 = some k → k ≤ i) ∧ x.2 + (ancO l x.1).length = dep l i) (fun x => match x.1 with | some k => k + 1 | none => 0) (some i, 0) ⟨⟨rfl, rfl, rfl⟩, rfl, by simp, by simp [ancO, dep]⟩ ?_
  rintro ⟨o, n⟩ τ' ar' ⟨⟨h0, h1, h5⟩, rfl, hk, hp⟩ ih
  dsimp only at h1 h5 hk hp
  have hle : dep l i ≤ i + 1 := anc_len l i
  cases o with
  | none =>
    have h1 : τ' 1 = iv (-1) := h1
    refine runS_says 0 (by exact h0) (Says.refl _) ?_; refine runS_says 1 (by exact h1) (Says.refl _) ?_; refine runS_says 5 (by exact h5) (Says.refl _) ?_
    refine runS_x (I := inf) (J := jnf) ⟨true, false, [], 0, 0⟩ 9999 rfl (by repeat (first | exact obs_nil | refine obs_draw (by kernel_rfl) ?_ | refine obs_same ?_ | refine obs_and ?_ | refine obs_by (by (simp [inB] <;> omega)) ?_)) ?_
    refine runS_ret (I := inf) 0 rfl (Nat.le_refl _) rfl .nil rfl ⟨?_, rfl⟩
    simp [ancO] at hp
    rw [← hp]
    rfl
  | some k =>
    have hk := hk k rfl
    have h1 : τ' 1 = iv (k : Int) := h1
    refine runS_says 0 (by exact h0) (Says.refl _) ?_; refine runS_says 1 (by exact h1) (Says.refl _) ?_; refine runS_says 5 (by exact h5) (Says.refl _) ?_
    have h1 : k < l.length := by omega
    rw [ancO, anc_eq, List.length_cons] at hp
    refine runS_x (I := inf) (J := jnf) ⟨false, false, [], 0, 0⟩ 9999 rfl (by repeat (first | exact obs_nil | refine obs_draw (by kernel_rfl) ?_ | refine obs_same ?_ | refine obs_and ?_ | refine obs_by (by (simp [inB] <;> omega)) ?_)) ?_
    refine runS_cond rfl (fun h => ?_) (fun h => absurd h (by simp))
    refine runS_x (I := inf) (J := jnf) ⟨false, false, [], 0, 0⟩ 9999 rfl (by repeat (first | exact obs_nil | refine obs_draw (by kernel_rfl) ?_ | refine obs_same ?_ | refine obs_and ?_ | refine obs_by (by (simp [inB] <;> omega)) ?_)) ?_
    refine runS_call rfl rfl rfl rfl rfl rfl rfl (ref_parent nl l k h1 hb) ?_
    refine runS_x (I := inf) (J := jnf) ⟨false, false, [], 0, 0⟩ 9999 rfl (by repeat (first | exact obs_nil | refine obs_draw (by kernel_rfl) ?_ | refine obs_same ?_ | refine obs_and ?_ | refine obs_by (by (simp [inB] <;> omega)) ?_)) ?_
    have hs : IntKind.wrap .i64 ((n : Int) + 1) = ((n + 1 : Nat) : Int) := by rw [w64] <;> omega
    refine ih (par l k, n + 1) _ _ ?_ ⟨⟨rfl, rfl, ?_⟩, rfl, fun j hj => by have := par_lt hj; omega, by dsimp only; omega⟩
    · dsimp only
      cases hpk : par l k with
      | none => simp
      | some j => have := par_lt hpk; simp; omega
    · show iv (IntKind.wrap .i64 ((n : Int) + 1)) = _
      rw [hs]

theorem encR_cons {α : Type} {enc : α → List AV} {d : α} {acc : List α} {v : α} {r1 : Nat → List AV} (h : r1 0 = enc v) : ∀ j, j < 1 + acc.length → encR enc d (v :: acc) j = appR 1 r1 (encR enc d acc) j := by
  intro j hj
  cases j with
  | zero => exact h.symm
  | succ j => rfl
/-- The names down to a member. -/
def pth (l : List Fld) (i : Nat) : List Str := (anc l i).reverse.map fun k => (fat l k).name
theorem pth_len (l : List Fld) (i : Nat) : (pth l i).length ≤ i + 1 := by simp [pth]; exact anc_len l i

theorem ref_path (nl : Option Bool) (l : List Fld) (i : Nat) (hi : i < l.length) (hb : l.length < 1000000000) : CallT Try.prog 145 [fldS nl l, iv i] [] (fun o A => o = .ret (txtS none (pth l i)) ∧ A = []) := by
  refine callS_body (n := 20) rfl rfl fun w ρ X => ?_
  refine runS_x (I := inf) (J := jnf) ⟨false, false, [], 0, 0⟩ 9999 rfl (by repeat (first | exact obs_nil | refine obs_draw (by kernel_rfl) ?_ | refine obs_same ?_ | refine obs_and ?_ | refine obs_by (by (simp [inB] <;> omega)) ?_)) ?_
  refine runS_says 5 rfl (says_nil0 (sz := 1) (r := nilT) (Nat.zero_le _)) ?_
  refine runS_while (fun (x : Option Nat × List Str) τ ar => (τ 0 = fldS nl l ∧ τ 1 = iv (opI x.1) ∧ τ 5 = txtS none x.2) ∧ ar = [] ∧ (∀ k, x.1 = some k → k ≤ i) ∧ ((ancO l x.1).reverse.map fun k => (fat l k).name) ++ x.2 = pth l i) (fun x => match x.1 with | some k => k + 1 | none => 0) (some i, []) ⟨⟨rfl, rfl, rfl⟩, rfl, by simp, by simp [ancO, pth]⟩ ?_
  rintro ⟨o, acc⟩ τ' ar' ⟨⟨h0, h1, h5⟩, rfl, hk, hp⟩ ih
  dsimp only at h1 h5 hk hp
  have hle := pth_len l i
  cases o with
  | none =>
    have h1 : τ' 1 = iv (-1) := h1
    refine runS_says 0 (by exact h0) (Says.refl _) ?_; refine runS_says 1 (by exact h1) (Says.refl _) ?_; refine runS_says 5 (by exact h5) (Says.refl _) ?_
    refine runS_x (I := inf) (J := jnf) ⟨true, false, [], 0, 0⟩ 9999 rfl (by repeat (first | exact obs_nil | refine obs_draw (by kernel_rfl) ?_ | refine obs_same ?_ | refine obs_and ?_ | refine obs_by (by (simp [inB] <;> omega)) ?_)) ?_
    refine runS_ret (I := inf) 0 rfl (Nat.le_refl _) rfl .nil rfl ⟨?_, rfl⟩
    simp [ancO] at hp
    rw [← hp]
    rfl
  | some k =>
    have hk := hk k rfl
    have h1 : τ' 1 = iv (k : Int) := h1
    refine runS_says 0 (by exact h0) (Says.refl _) ?_; refine runS_says 1 (by exact h1) (Says.refl _) ?_; refine runS_says 5 (by exact h5) (Says.refl _) ?_
    have h1 : k < l.length := by omega
    rw [ancO, anc_eq] at hp
    simp only [List.reverse_cons, List.map_append, List.map_cons, List.map_nil, List.append_assoc, List.cons_append, List.nil_append] at hp
    have hlen : acc.length + 1 ≤ i + 1 := by rw [← hp] at hle; simp at hle; omega
    refine runS_x (I := inf) (J := jnf) ⟨false, false, [], 0, 0⟩ 9999 rfl (by repeat (first | exact obs_nil | refine obs_draw (by kernel_rfl) ?_ | refine obs_same ?_ | refine obs_and ?_ | refine obs_by (by (simp [inB] <;> omega)) ?_)) ?_
    refine runS_cond rfl (fun h => ?_) (fun h => absurd h (by simp))
    refine runS_x (I := inf) (J := jnf) ⟨false, false, [], 0, 0⟩ 9999 rfl (by repeat (first | exact obs_nil | refine obs_draw (by kernel_rfl) ?_ | refine obs_same ?_ | refine obs_and ?_ | refine obs_by (by (simp [inB, h1] <;> omega)) ?_)) ?_
    refine runS_tell 0 (encR (fun s => [sv s]) [] ((fat l k).name :: acc)) rfl (m' := acc.length + 1) (by omega) (encR_cons rfl) rfl ?_
    refine runS_freeze 5 rfl rfl rfl (fun i hi => rfl) ?_
    refine runS_drop 0 (Nat.zero_le _) rfl (by repeat (first | exact .nil | refine .row (fun j hj => rfl) ?_ | refine .box rfl ?_ | refine .fam (fun k j hk hj => rfl) ?_ | refine .loop (scrub_under _ _) ?_ | refine .dfr ?_ | refine .gone ?_ | refine .map (fun p hp => by (obtain ⟨k, _, rfl⟩ := List.mem_map.1 hp; rfl)) ?_)) rfl rfl rfl (by repeat (first | exact .nil | refine .cons rfl rfl rfl (scrub_under _ _) ?_)) ?_
    refine runS_call rfl rfl rfl rfl rfl rfl rfl (ref_parent nl l k h1 (by omega)) ?_
    refine runS_x (I := inf) (J := jnf) ⟨false, false, [], 0, 0⟩ 9999 rfl (by repeat (first | exact obs_nil | refine obs_draw (by kernel_rfl) ?_ | refine obs_same ?_ | refine obs_and ?_ | refine obs_by (by (simp [inB] <;> omega)) ?_)) ?_
    refine ih (par l k, (fat l k).name :: acc) _ _ ?_ ⟨⟨rfl, rfl, rfl⟩, rfl, fun j hj => by have := par_lt hj; omega, hp⟩
    dsimp only
    cases hpk : par l k with
    | none => simp
    | some j => have := par_lt hpk; simp; omega
end Go.Iron.Try

/- The level package's functions (seat Ytamhonbhoelohaa): the tree. -/
namespace Go.Iron.Try
open Go.Proofs

/-- The members among the first n that belong to one. -/
def kidsL (l : List Fld) (n i : Nat) : List Nat := (List.range n).filter fun k => par l k == some i
def kidsN (l : List Fld) (n i : Nat) : Nat := (kidsL l n i).length
def natR (xs : List Nat) : Nat → List AV := encR (fun k : Nat => [iv k]) 0 xs
def kidsR (l : List Fld) (n i : Nat) : Nat → List AV := natR (kidsL l n i)
def nodE (l : List Fld) (i : Nat) (x : AV) : List AV := [iv (fat l i).level, sv (fat l i).name, iv (fat l i).count, iv (fat l i).typ.kind, iv (fat l i).typ.p, iv (fat l i).typ.q, iv (fat l i).typ.n, bv (fat l i).typ.vary, sv (fat l i).typ.pic, bv (fat l i).union, iv (fat l i).refer, iv i, iv (opI (par l i)), iv (dep l i), x]
def nodR (l : List Fld) (x : Nat → AV) : Nat → List AV := fun i => nodE l i (x i)
theorem kidsL_succ (l : List Fld) (n i : Nat) : kidsL l (n + 1) i = if par l n = some i then kidsL l n i ++ [n] else kidsL l n i := by
  unfold kidsL
  rw [List.range_succ, List.filter_append]
  by_cases h : par l n = some i <;> simp [h]
theorem kidsL_out (l : List Fld) (n i : Nat) (h : n ≤ i + 1) : kidsL l n i = [] := by
  unfold kidsL
  rw [List.filter_eq_nil_iff]
  intro k hk
  simp at hk ⊢
  intro h'
  have := par_lt h'
  omega
theorem kidsN_le (l : List Fld) (n i : Nat) : kidsN l n i ≤ n := by
  have := List.length_filter_le (fun k => par l k == some i) (List.range n)
  rw [List.length_range] at this
  exact this
theorem dep_le (l : List Fld) (i : Nat) : dep l i ≤ i + 1 := anc_len l i
theorem dep_some {l : List Fld} {i j : Nat} (h : par l i = some j) : dep l i = dep l j + 1 := by
  rw [dep, anc_eq, h]
  rfl
theorem dep_none {l : List Fld} {i : Nat} (h : par l i = none) : dep l i = 1 := by
  rw [dep, anc_eq, h]
  rfl
/-- The tree, told. -/
def kidC (l : List Fld) (i : Nat) : AV := .slc 1 none (kidsN l l.length i) (kidsR l l.length i)
def treeS (nl : Option Bool) (l : List Fld) : AV := .slc 15 nl l.length (nodR l (kidC l))

theorem level_tree (nl : Option Bool) (l : List Fld) (hb : l.length < 1000000000) : CallT Try.prog 132 [fldS nl l] [] (fun o A => o = .ret (treeS none l) ∧ A = []) := by
  refine callS_body (n := 59) rfl rfl fun w ρ X => ?_
  refine runS_x (I := inf) (J := jnf) ⟨false, false, [], 0, 0⟩ 9999 rfl (by repeat (first | exact obs_nil | refine obs_draw (by kernel_rfl) ?_ | refine obs_same ?_ | refine obs_and ?_ | refine obs_by (by (simp [inB] <;> omega)) ?_)) ?_
  refine runS_nilRow 3 144 15 (nodR l (fun k => .mem 1 0 k)) rfl rfl ?_
  refine runS_famNew 3 1 (kidsN l 0) (kidsR l 0) rfl ?_
  refine runS_while (fun (x : Nat × Nat) τ ar => (τ 0 = fldS nl l ∧ τ 3 = .row 0 x.1 ∧ τ 8 = fldS nl l ∧ τ 9 = iv l.length ∧ τ 10 = iv x.1) ∧
    ar = [.row 144 15 x.1 x.1 (nodR l (fun k => .mem 1 x.2 k)), .fam 3 1 x.2 x.1 (kidsN l x.1) (kidsR l x.1)] ∧ x.1 ≤ l.length) (fun x => l.length - x.1) (0, 0) ⟨⟨rfl, rfl, rfl, rfl, rfl⟩, rfl, Nat.zero_le _⟩ ?_
  rintro ⟨i, fv⟩ τ' ar' ⟨⟨h0, h3, h8, h9, h10⟩, rfl, hi⟩ ih
  dsimp only at h3 h10 hi ⊢
  refine runS_says 0 (by exact h0) (Says.refl _) ?_; refine runS_says 3 (by exact h3) (Says.refl _) ?_; refine runS_says 8 (by exact h8) (Says.refl _) ?_; refine runS_says 9 (by exact h9) (Says.refl _) ?_; refine runS_says 10 (by exact h10) (Says.refl _) ?_
  refine runS_x (I := inf) (J := jnf) ⟨false, false, [], 0, 0⟩ 9999 rfl (by repeat (first | exact obs_nil | refine obs_draw (by kernel_rfl) ?_ | refine obs_same ?_ | refine obs_and ?_ | refine obs_by (by (simp [inB] <;> omega)) ?_)) ?_
  refine runS_cond rfl (fun hlt => ?_) (fun hlt => ?_)
  · have hlt' : i < l.length := by simpa using hlt
    refine runS_x (I := inf) (J := jnf) ⟨false, false, [], 0, 0⟩ 9999 rfl (by repeat (first | exact obs_nil | refine obs_draw (by kernel_rfl) ?_ | refine obs_same ?_ | refine obs_and ?_ | refine obs_by (by (simp [inB, hlt'] <;> omega)) ?_)) ?_
    refine runS_while (fun (k : Nat) τ ar => (τ 0 = fldS nl l ∧ τ 3 = .row 0 i ∧ τ 4 = iv i ∧ τ 5 = .ptr 2 0 0 ∧ τ 6 = .ptr 3 0 0 ∧ τ 7 = iv ((k : Int) - 1) ∧ τ 8 = fldS nl l ∧ τ 9 = iv l.length ∧ τ 10 = iv i) ∧
      ar = [.row 144 15 i i (nodR l (fun k => .mem 1 fv k)), .fam 3 1 fv i (kidsN l i) (kidsR l i), .box 90 (fldE (fat l i)), .box 144 (fldE (fat l i) ++ [iv i, iv (-1), iv 1, .val (.slice none 0 0)])] ∧ k ≤ i ∧ upN l (fat l i).level k = par l i) (fun k => k) i ⟨⟨rfl, rfl, rfl, rfl, rfl, ?_, rfl, rfl, rfl⟩, rfl, Nat.le_refl _, rfl⟩ ?_
    · show iv (IntKind.wrap .i64 ((i : Int) - 1)) = _
      rw [w64] <;> omega
    rintro k τ2 ar2 ⟨⟨g0, g3, g4, g5, g6, g7, g8, g9, g10⟩, rfl, hk, hp⟩ ih2
    refine runS_says 0 (by exact g0) (Says.refl _) ?_; refine runS_says 3 (by exact g3) (Says.refl _) ?_; refine runS_says 4 (by exact g4) (Says.refl _) ?_; refine runS_says 5 (by exact g5) (Says.refl _) ?_; refine runS_says 6 (by exact g6) (Says.refl _) ?_; refine runS_says 7 (by exact g7) (Says.refl _) ?_; refine runS_says 8 (by exact g8) (Says.refl _) ?_; refine runS_says 9 (by exact g9) (Says.refl _) ?_; refine runS_says 10 (by exact g10) (Says.refl _) ?_
    refine runS_x (I := inf) (J := jnf) ⟨false, false, [], 0, 0⟩ 9999 rfl (by repeat (first | exact obs_nil | refine obs_draw (by kernel_rfl) ?_ | refine obs_same ?_ | refine obs_and ?_ | refine obs_by (by (simp [inB] <;> omega)) ?_)) ?_
    refine runS_cond rfl (fun hge => ?_) (fun hge => ?_)
    · obtain ⟨j, rfl⟩ : ∃ j, k = j + 1 := ⟨k - 1, by simp at hge; omega⟩
      have e : ((j + 1 : Nat) : Int) - 1 = (j : Nat) := by omega
      rw [upN] at hp
      rw [e]
      have hj : j < l.length := by omega
      refine runS_x (I := inf) (J := jnf) ⟨false, false, [], 0, 0⟩ 9999 rfl (by repeat (first | exact obs_nil | refine obs_draw (by kernel_rfl) ?_ | refine obs_same ?_ | refine obs_and ?_ | refine obs_by (by (simp [inB, hj, hlt'] <;> omega)) ?_)) ?_
      refine runS_cond rfl (fun hl => ?_) (fun hl => ?_)
      · have hl' : (fat l j).level < (fat l i).level := by simpa using hl
        rw [if_pos hl'] at hp
        refine runS_focus 0 1 14 j (r' := nodR l (fun k => if k = j then .row 4 0 else .mem 1 (fv + 1) k)) (ms' := fun k => if k = j then 0 else kidsN l i k) (by decide) rfl rfl (by omega) (fun _ _ => rfl) (fun _ _ => rfl) (fun k hk => by rw [if_neg hk]) (by rw [if_pos rfl]) rfl ?_
        refine runS_x (I := inf) (J := jnf) ⟨false, false, [], 0, 0⟩ 9999 rfl (by repeat (first | exact obs_nil | refine obs_draw (by kernel_rfl) ?_ | refine obs_same ?_ | refine obs_and ?_ | refine obs_by (by (simp [inB] <;> omega)) ?_)) ?_
        refine runS_drawK (I := inf) (J := jnf) 9 8 (by kernel_rfl) rfl rfl (by repeat (first | exact obs_nil | refine obs_same ?_ | refine obs_and ?_ | refine obs_by (by (simp [inB, hj, hlt'] <;> omega)) ?_)) (by repeat (first | exact obs_nil | refine obs_same ?_ | refine obs_and ?_ | refine obs_by (by (simp [inB, hj, hlt'] <;> omega)) ?_)) ?_
        refine runS_x (I := inf) (J := jnf) ⟨false, false, [], 0, 0⟩ 11 rfl (by repeat (first | exact obs_nil | refine obs_draw (by kernel_rfl) ?_ | refine obs_same ?_ | refine obs_and ?_ | refine obs_by (by (simp [inB, hj, hlt'] <;> omega)) ?_)) ?_
        refine runS_loadElt (I := inf) (J := jnf) (nodE l j (.row 4 0)) rfl rfl rfl rfl rfl rfl rfl rfl (congrArg (nodE l j) (if_pos rfl)) rfl rfl (by simp [obs_cons, obs_nil', inB]; omega) ?_
        have hkn := kidsN_le l i j
        refine runS_x (I := inf) (J := jnf) ⟨false, false, [], 0, 0⟩ 6 rfl (by repeat (first | exact obs_nil | refine obs_draw (by kernel_rfl) ?_ | refine obs_same ?_ | refine obs_and ?_ | refine obs_by (by (simp [inB, hj, hlt'] <;> omega)) ?_)) ?_
        have hpi : par l i = some j := hp.symm
        refine runS_unfocus 0 1 4 14 j (r' := nodR l (fun k => .mem 1 (fv + 2) k)) (ms' := kidsN l (i + 1)) (rs' := kidsR l (i + 1)) (by decide) (by decide) (by decide) rfl rfl rfl (by omega) ?_ ?_ ?_ ?_ ?_ ?_ rfl ?_
        · intro q hq
          by_cases hqj : q = j
          · subst hqj
            rw [if_pos rfl]
            show (setR _ q _ q)[14]? = _
            rw [setR_self]
            rfl
          · rw [if_neg hqj]
            show (setR _ j _ q)[14]? = _
            rw [setR_ne hqj]
            exact congrArg some (if_neg hqj)
        · intro q hq
          by_cases hqj : q = j
          · subst hqj
            show _ = (setR _ q _ q).set 14 _
            rw [setR_self]
            rfl
          · show _ = (setR _ j _ q).set 14 _
            rw [setR_ne hqj]
            rfl
        · intro q hq
          show kidsN l (i + 1) q = if q = j then 0 else kidsN l i q
          rw [if_neg hq, kidsN, kidsL_succ, if_neg (by rw [hpi]; simpa using Ne.symm hq)]
          rfl
        · rw [kidsN, kidsL_succ, if_pos hpi, List.length_append]
          rfl
        · intro q x hq hx
          rw [kidsR, kidsL_succ, if_neg (by rw [hpi]; simpa using Ne.symm hq)]
          rfl
        · intro x hx
          rw [kidsR, kidsL_succ, if_pos hpi]
          refine encR_snoc (enc := fun k : Nat => [iv k]) (d := 0) (acc := kidsL l i j) (v := i) ?_ x hx
          rfl
        refine runS_x (I := inf) (J := jnf) ⟨false, false, [], 0, 0⟩ 9999 rfl (by repeat (first | exact obs_nil | refine obs_draw (by kernel_rfl) ?_ | refine obs_same ?_ | refine obs_and ?_ | refine obs_by (by (simp [inB] <;> omega)) ?_)) ?_
        refine runS_famAdd 0 1 14 (r' := nodR l (fun k => .mem 1 (fv + 3) k)) (ms' := kidsN l (i + 1)) (rs' := kidsR l (i + 1)) (by decide) rfl rfl ?_ ?_ ?_ (fun _ _ => rfl) ?_ (fun _ _ _ _ => rfl) rfl ?_
        · intro q hq
          rw [appR_lt hq]
          rfl
        · rw [appR_ge (Nat.le_refl _), Nat.sub_self]
          rfl
        · intro q hq
          by_cases hqi : q < i
          · rw [appR_lt hqi]
            rfl
          · have : q = i := by omega
            subst this
            rw [appR_ge (Nat.le_refl _), Nat.sub_self]
            have hd : (dep l q : Int) = IntKind.wrap .i64 ((dep l j : Int) + 1) := by
              have := dep_le l j
              rw [w64, dep_some hpi] <;> omega
            simp only [nodR, nodE, hpi, hd]
            rfl
        · rw [kidsN, kidsL_out l _ _ (Nat.le_refl _)]
          rfl
        refine runS_drop 2 (Nat.zero_le _) rfl (by repeat (first | exact .nil | refine .row (fun j hj => rfl) ?_ | refine .box rfl ?_ | refine .fam (fun k j hk hj => rfl) ?_ | refine .loop (scrub_under _ _) ?_ | refine .dfr ?_ | refine .gone ?_ | refine .map (fun p hp => by (obtain ⟨k, _, rfl⟩ := List.mem_map.1 hp; rfl)) ?_)) rfl rfl rfl (by repeat (first | exact .nil | refine .cons rfl rfl rfl (scrub_under _ _) ?_)) ?_
        refine ih (i + 1, fv + 3) _ _ (by dsimp only; omega) ⟨⟨rfl, rfl, rfl, rfl, ?_⟩, rfl, by dsimp only; omega⟩
        have hs : IntKind.wrap .i64 ((i : Int) + 1) = ((i + 1 : Nat) : Int) := by rw [w64] <;> omega
        show iv (IntKind.wrap .i64 ((i : Int) + 1)) = _
        rw [hs]
      · refine runS_x (I := inf) (J := jnf) ⟨false, false, [], 0, 0⟩ 9999 rfl (by repeat (first | exact obs_nil | refine obs_draw (by kernel_rfl) ?_ | refine obs_same ?_ | refine obs_and ?_ | refine obs_by (by (simp [inB] <;> omega)) ?_)) ?_
        have hl' : ¬ (fat l j).level < (fat l i).level := by simpa using hl
        rw [if_neg hl'] at hp
        refine ih2 j _ _ (by omega) ⟨⟨rfl, rfl, rfl, rfl, rfl, ?_, rfl, rfl, rfl⟩, rfl, by omega, hp⟩
        show iv (IntKind.wrap .i64 ((j : Int) - 1)) = _
        rw [w64] <;> omega
    · have : k = 0 := by simp at hge; omega
      subst this
      have hpn : par l i = none := hp.symm
      refine runS_x (I := inf) (J := jnf) ⟨false, false, [], 0, 0⟩ 9999 rfl (by repeat (first | exact obs_nil | refine obs_draw (by kernel_rfl) ?_ | refine obs_same ?_ | refine obs_and ?_ | refine obs_by (by (simp [inB] <;> omega)) ?_)) ?_
      have hk0 : ∀ q, kidsL l (i + 1) q = kidsL l i q := fun q => by rw [kidsL_succ, if_neg (by rw [hpn]; simp)]
      refine runS_famAdd 0 1 14 (r' := nodR l (fun k => .mem 1 (fv + 1) k)) (ms' := kidsN l (i + 1)) (rs' := kidsR l (i + 1)) (by decide) rfl rfl ?_ ?_ ?_ (fun q _ => by rw [kidsN, hk0]; rfl) ?_ (fun q _ _ _ => by rw [kidsR, hk0]; rfl) rfl ?_
      · intro q hq
        rw [appR_lt hq]
        rfl
      · rw [appR_ge (Nat.le_refl _), Nat.sub_self]
        rfl
      · intro q hq
        by_cases hqi : q < i
        · rw [appR_lt hqi]
          rfl
        · have : q = i := by omega
          subst this
          rw [appR_ge (Nat.le_refl _), Nat.sub_self]
          simp only [nodR, nodE, hpn, dep_none hpn]
          rfl
      · rw [kidsN, kidsL_out l _ _ (Nat.le_refl _)]
        rfl
      refine runS_drop 2 (Nat.zero_le _) rfl (by repeat (first | exact .nil | refine .row (fun j hj => rfl) ?_ | refine .box rfl ?_ | refine .fam (fun k j hk hj => rfl) ?_ | refine .loop (scrub_under _ _) ?_ | refine .dfr ?_ | refine .gone ?_ | refine .map (fun p hp => by (obtain ⟨k, _, rfl⟩ := List.mem_map.1 hp; rfl)) ?_)) rfl rfl rfl (by repeat (first | exact .nil | refine .cons rfl rfl rfl (scrub_under _ _) ?_)) ?_
      refine ih (i + 1, fv + 1) _ _ (by dsimp only; omega) ⟨⟨rfl, rfl, rfl, rfl, ?_⟩, rfl, by dsimp only; omega⟩
      have hs : IntKind.wrap .i64 ((i : Int) + 1) = ((i + 1 : Nat) : Int) := by rw [w64] <;> omega
      show iv (IntKind.wrap .i64 ((i : Int) + 1)) = _
      rw [hs]
  · have : i = l.length := by simp at hlt; omega
    subst this
    refine runS_x (I := inf) (J := jnf) ⟨false, false, [], 0, 0⟩ 9999 rfl (by repeat (first | exact obs_nil | refine obs_draw (by kernel_rfl) ?_ | refine obs_same ?_ | refine obs_and ?_ | refine obs_by (by (simp [inB] <;> omega)) ?_)) ?_
    refine runS_famFreeze 0 1 14 (r' := nodR l (kidC l)) (by decide) rfl rfl (fun _ _ => rfl) (fun _ _ _ _ => rfl) (fun _ _ => rfl) rfl ?_
    refine runS_freeze 2 rfl rfl rfl (fun _ _ => rfl) ?_
    refine runS_drop 0 (Nat.zero_le _) rfl (by repeat (first | exact .nil | refine .row (fun j hj => rfl) ?_ | refine .box rfl ?_ | refine .fam (fun k j hk hj => rfl) ?_ | refine .loop (scrub_under _ _) ?_ | refine .dfr ?_ | refine .gone ?_ | refine .map (fun p hp => by (obtain ⟨k, _, rfl⟩ := List.mem_map.1 hp; rfl)) ?_)) rfl rfl rfl (by repeat (first | exact .nil | refine .cons rfl rfl rfl (scrub_under _ _) ?_)) ?_
    refine runS_ret (I := inf) 0 rfl (Nat.le_refl _) rfl .nil rfl ⟨?_, rfl⟩
    rfl
end Go.Iron.Try
