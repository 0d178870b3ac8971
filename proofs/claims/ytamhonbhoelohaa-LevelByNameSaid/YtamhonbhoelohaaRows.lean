/-
  No cell of these rows narrows 'for every input' (looked for: loops, veiled, ifaces, maps, wideKeys, modest, calm, conditions, laid).
  DERIVED. THE GIVEN ROWS OF THIS SEAT. 8 by the template 'for every input the law returns true; each argument reads behind the call as it read before'; 0 by the template 'total and deterministic' (their statements: YtamhonbhoelohaaTotals.lean).
  GIVEN WITH THE SEED: the statements are not yours to turn. If you find one false, say at which input.
  Laid BY PROGRAM, IN A SANDBOX (cutbox-rows.mjs): the forced cells as the released guide's own fill.sh prints them over the translation 8f22baabde4152a6… (all of the seat's roots in one cut). By AI agents, Wed Nov 11 2026. No macro, syntax, notation, axiom, sorry.
-/
import Derived.Test.YtamhonbhoelohaaChecked
import GoSem.Claim
import GoSem.ClaimJoined
import GoSem.ClaimMapViews
import Derived.JoinedTies
import Derived.KernelRfl
namespace Go.Proofs.Ytamhonbhoelohaa
/- THE CELL 'sum', in the pinned program and in every row, IS THE sha256 OF THE DUMP (.gsa) THAT YtamhonbhoelohaaProg.lean LOADS. Nothing in Lean hashes anything: it is a label: what it is worth is what the hold of that sum in a sandbox is worth. -/
noncomputable def Try.pinned : Pinned := { name := "ytamhonbhoelohaa", sum := "8f22baabde4152a6e385db52ce07891abdd8c08e0c5023d32069ff91e6be5699", checked := Try.checked }
namespace Rows
def none {H : Type} : Left H := { results := [], args := [] }

/-- 'ironbarklaw12.ArrayOne': WHATEVER THE INPUT: true; the input reads as it did. -/
def arrayOneSpec : ChangeSpec := { name := "arrayOne", fn := fun _ => fun
  | [d1, d2, d3, d4] => { results := [.lit (.bool true)], args := [d1, d2, d3, d4] }
  | _ => none }
def arrayOneRow : OpenClaim := { program := "ytamhonbhoelohaa", sum := "8f22baabde4152a6e385db52ce07891abdd8c08e0c5023d32069ff91e6be5699", func := "ironbark/ironbarklaw12.ArrayOne", spec := "arrayOne", unfollowed := true, recurses := true, apart := false }
def ArrayOneSaid : Prop := arrayOneRow.holds Try.pinned (OpenSpec.ofChange arrayOneSpec)

/-- ITS FALSE NEIGHBOUR: 'it returns false'. Refute it at one input. -/
def arrayOneWrong : ChangeSpec := { name := "arrayOne", fn := fun _ => fun
  | [d1, d2, d3, d4] => { results := [.lit (.bool false)], args := [d1, d2, d3, d4] }
  | _ => none }
def ArrayOneWrongFalsely : Prop := arrayOneRow.holds Try.pinned (OpenSpec.ofChange arrayOneWrong)

/-- 'ironbarklaw12.ArraySections': WHATEVER THE INPUT: true; the input reads as it did. -/
def arraySectionsSpec : ChangeSpec := { name := "arraySections", fn := fun _ => fun
  | [d1, d2] => { results := [.lit (.bool true)], args := [d1, d2] }
  | _ => none }
def arraySectionsRow : OpenClaim := { program := "ytamhonbhoelohaa", sum := "8f22baabde4152a6e385db52ce07891abdd8c08e0c5023d32069ff91e6be5699", func := "ironbark/ironbarklaw12.ArraySections", spec := "arraySections", unfollowed := true, recurses := true, apart := false }
def ArraySectionsSaid : Prop := arraySectionsRow.holds Try.pinned (OpenSpec.ofChange arraySectionsSpec)

/-- ITS FALSE NEIGHBOUR: 'it returns false'. Refute it at one input. -/
def arraySectionsWrong : ChangeSpec := { name := "arraySections", fn := fun _ => fun
  | [d1, d2] => { results := [.lit (.bool false)], args := [d1, d2] }
  | _ => none }
def ArraySectionsWrongFalsely : Prop := arraySectionsRow.holds Try.pinned (OpenSpec.ofChange arraySectionsWrong)

/-- 'ironbarklaw12.ArrayDefined': WHATEVER THE INPUT: true; the input reads as it did. -/
def arrayDefinedSpec : ChangeSpec := { name := "arrayDefined", fn := fun _ => fun
  | [d1, d2, d3, d4] => { results := [.lit (.bool true)], args := [d1, d2, d3, d4] }
  | _ => none }
def arrayDefinedRow : OpenClaim := { program := "ytamhonbhoelohaa", sum := "8f22baabde4152a6e385db52ce07891abdd8c08e0c5023d32069ff91e6be5699", func := "ironbark/ironbarklaw12.ArrayDefined", spec := "arrayDefined", unfollowed := true, recurses := true, apart := false }
def ArrayDefinedSaid : Prop := arrayDefinedRow.holds Try.pinned (OpenSpec.ofChange arrayDefinedSpec)

/-- ITS FALSE NEIGHBOUR: 'it returns false'. Refute it at one input. -/
def arrayDefinedWrong : ChangeSpec := { name := "arrayDefined", fn := fun _ => fun
  | [d1, d2, d3, d4] => { results := [.lit (.bool false)], args := [d1, d2, d3, d4] }
  | _ => none }
def ArrayDefinedWrongFalsely : Prop := arrayDefinedRow.holds Try.pinned (OpenSpec.ofChange arrayDefinedWrong)

/-- 'ironbarklaw12.ArrayTurned': WHATEVER THE INPUT: true; the input reads as it did. -/
def arrayTurnedSpec : ChangeSpec := { name := "arrayTurned", fn := fun _ => fun
  | [d1, d2, d3] => { results := [.lit (.bool true)], args := [d1, d2, d3] }
  | _ => none }
def arrayTurnedRow : OpenClaim := { program := "ytamhonbhoelohaa", sum := "8f22baabde4152a6e385db52ce07891abdd8c08e0c5023d32069ff91e6be5699", func := "ironbark/ironbarklaw12.ArrayTurned", spec := "arrayTurned", unfollowed := true, recurses := true, apart := false }
def ArrayTurnedSaid : Prop := arrayTurnedRow.holds Try.pinned (OpenSpec.ofChange arrayTurnedSpec)

/-- ITS FALSE NEIGHBOUR: 'it returns false'. Refute it at one input. -/
def arrayTurnedWrong : ChangeSpec := { name := "arrayTurned", fn := fun _ => fun
  | [d1, d2, d3] => { results := [.lit (.bool false)], args := [d1, d2, d3] }
  | _ => none }
def ArrayTurnedWrongFalsely : Prop := arrayTurnedRow.holds Try.pinned (OpenSpec.ofChange arrayTurnedWrong)

/-- 'ironbarklaw11.LevelLays': WHATEVER THE INPUT: true; the input reads as it did. -/
def levelLaysSpec : ChangeSpec := { name := "levelLays", fn := fun _ => fun
  | [d1, d2] => { results := [.lit (.bool true)], args := [d1, d2] }
  | _ => none }
def levelLaysRow : OpenClaim := { program := "ytamhonbhoelohaa", sum := "8f22baabde4152a6e385db52ce07891abdd8c08e0c5023d32069ff91e6be5699", func := "ironbark/ironbarklaw11.LevelLays", spec := "levelLays", unfollowed := true, recurses := true, apart := false }
def LevelLaysSaid : Prop := levelLaysRow.holds Try.pinned (OpenSpec.ofChange levelLaysSpec)

/-- ITS FALSE NEIGHBOUR: 'it returns false'. Refute it at one input. -/
def levelLaysWrong : ChangeSpec := { name := "levelLays", fn := fun _ => fun
  | [d1, d2] => { results := [.lit (.bool false)], args := [d1, d2] }
  | _ => none }
def LevelLaysWrongFalsely : Prop := levelLaysRow.holds Try.pinned (OpenSpec.ofChange levelLaysWrong)

/-- 'ironbarklaw11.LevelLike': WHATEVER THE INPUT: true; the input reads as it did. -/
def levelLikeSpec : ChangeSpec := { name := "levelLike", fn := fun _ => fun
  | [d1, d2, d3] => { results := [.lit (.bool true)], args := [d1, d2, d3] }
  | _ => none }
def levelLikeRow : OpenClaim := { program := "ytamhonbhoelohaa", sum := "8f22baabde4152a6e385db52ce07891abdd8c08e0c5023d32069ff91e6be5699", func := "ironbark/ironbarklaw11.LevelLike", spec := "levelLike", unfollowed := true, recurses := true, apart := false }
def LevelLikeSaid : Prop := levelLikeRow.holds Try.pinned (OpenSpec.ofChange levelLikeSpec)

/-- ITS FALSE NEIGHBOUR: 'it returns false'. Refute it at one input. -/
def levelLikeWrong : ChangeSpec := { name := "levelLike", fn := fun _ => fun
  | [d1, d2, d3] => { results := [.lit (.bool false)], args := [d1, d2, d3] }
  | _ => none }
def LevelLikeWrongFalsely : Prop := levelLikeRow.holds Try.pinned (OpenSpec.ofChange levelLikeWrong)

/-- 'ironbarklaw11.LevelOne': WHATEVER THE INPUT: true; the input reads as it did. -/
def levelOneSpec : ChangeSpec := { name := "levelOne", fn := fun _ => fun
  | [d1, d2, d3] => { results := [.lit (.bool true)], args := [d1, d2, d3] }
  | _ => none }
def levelOneRow : OpenClaim := { program := "ytamhonbhoelohaa", sum := "8f22baabde4152a6e385db52ce07891abdd8c08e0c5023d32069ff91e6be5699", func := "ironbark/ironbarklaw11.LevelOne", spec := "levelOne", unfollowed := true, recurses := true, apart := false }
def LevelOneSaid : Prop := levelOneRow.holds Try.pinned (OpenSpec.ofChange levelOneSpec)

/-- ITS FALSE NEIGHBOUR: 'it returns false'. Refute it at one input. -/
def levelOneWrong : ChangeSpec := { name := "levelOne", fn := fun _ => fun
  | [d1, d2, d3] => { results := [.lit (.bool false)], args := [d1, d2, d3] }
  | _ => none }
def LevelOneWrongFalsely : Prop := levelOneRow.holds Try.pinned (OpenSpec.ofChange levelOneWrong)

/-- 'ironbarklaw11.LevelByName': WHATEVER THE INPUT: true; the input reads as it did. -/
def levelByNameSpec : ChangeSpec := { name := "levelByName", fn := fun _ => fun
  | [d1, d2] => { results := [.lit (.bool true)], args := [d1, d2] }
  | _ => none }
def levelByNameRow : OpenClaim := { program := "ytamhonbhoelohaa", sum := "8f22baabde4152a6e385db52ce07891abdd8c08e0c5023d32069ff91e6be5699", func := "ironbark/ironbarklaw11.LevelByName", spec := "levelByName", unfollowed := true, recurses := true, apart := false }
def LevelByNameSaid : Prop := levelByNameRow.holds Try.pinned (OpenSpec.ofChange levelByNameSpec)

/-- ITS FALSE NEIGHBOUR: 'it returns false'. Refute it at one input. -/
def levelByNameWrong : ChangeSpec := { name := "levelByName", fn := fun _ => fun
  | [d1, d2] => { results := [.lit (.bool false)], args := [d1, d2] }
  | _ => none }
def LevelByNameWrongFalsely : Prop := levelByNameRow.holds Try.pinned (OpenSpec.ofChange levelByNameWrong)

/- THE SECOND FORM. 'bulk': how many values and letters a reading holds, each counted each time it is reached (what is shared counts as often as it is met; a slice's spare places count too). A statement '..UptoSaid' is the law's where the arguments, and the package variables that the reading takes, are together of bulk at most 1048576: NARROWER than '..Said'. Prove '..Said' where nothing that the law and all that it calls make is longer than what came in: it says more and counts as full. Else prove '..UptoSaid'. A law counts once. -/
mutual
def uptoBulk {H : Type} : DataW H → Nat
  | .lit (.string bytes) => bytes.length + 1
  | .lit _ => 1
  | .nil => 1
  | .ptr d => uptoBulk d + 1
  | .slice elems spare => uptoBulkAll elems + uptoBulkAll spare + 1
  | .agg parts => uptoBulkAll parts + 1
  | .iface _ d => uptoBulk d + 1
  | .map entries => uptoBulkEntries entries + 1
  | .held _ => 1
def uptoBulkAll {H : Type} : List (DataW H) → Nat
  | [] => 0
  | d :: r => uptoBulk d + uptoBulkAll r
def uptoBulkEntries {H : Type} : List (Lit × DataW H) → Nat
  | [] => 0
  | x :: r => uptoBulkEntry x + uptoBulkEntries r
def uptoBulkEntry {H : Type} : Lit × DataW H → Nat
  | (.string bytes, d) => bytes.length + uptoBulk d + 1
  | (_, d) => uptoBulk d + 1
 end
def uptoSmall : (H : Type) → List (DataW H) → Bool := fun _ ds => decide (uptoBulkAll ds ≤ 1048576)
def OpenSpec.upto (s : _root_.Go.ChangeSpec) : _root_.Go.OpenSpec := { _root_.Go.OpenSpec.ofChange s with cond := some uptoSmall }

/-- 'ironbarklaw12.ArrayOne', WHERE WHAT IT READS IS OF BULK AT MOST 1048576: true; the input reads as it did. -/
def arrayOneUptoRow : OpenClaim := { program := "ytamhonbhoelohaa", sum := "8f22baabde4152a6e385db52ce07891abdd8c08e0c5023d32069ff91e6be5699", func := "ironbark/ironbarklaw12.ArrayOne", spec := "arrayOne", unfollowed := true, recurses := true, apart := false, narrowed := true }
def ArrayOneUptoSaid : Prop := arrayOneUptoRow.holds Try.pinned (OpenSpec.upto arrayOneSpec)

/-- 'ironbarklaw12.ArraySections', WHERE WHAT IT READS IS OF BULK AT MOST 1048576: true; the input reads as it did. -/
def arraySectionsUptoRow : OpenClaim := { program := "ytamhonbhoelohaa", sum := "8f22baabde4152a6e385db52ce07891abdd8c08e0c5023d32069ff91e6be5699", func := "ironbark/ironbarklaw12.ArraySections", spec := "arraySections", unfollowed := true, recurses := true, apart := false, narrowed := true }
def ArraySectionsUptoSaid : Prop := arraySectionsUptoRow.holds Try.pinned (OpenSpec.upto arraySectionsSpec)

/-- 'ironbarklaw12.ArrayDefined', WHERE WHAT IT READS IS OF BULK AT MOST 1048576: true; the input reads as it did. -/
def arrayDefinedUptoRow : OpenClaim := { program := "ytamhonbhoelohaa", sum := "8f22baabde4152a6e385db52ce07891abdd8c08e0c5023d32069ff91e6be5699", func := "ironbark/ironbarklaw12.ArrayDefined", spec := "arrayDefined", unfollowed := true, recurses := true, apart := false, narrowed := true }
def ArrayDefinedUptoSaid : Prop := arrayDefinedUptoRow.holds Try.pinned (OpenSpec.upto arrayDefinedSpec)

/-- 'ironbarklaw12.ArrayTurned', WHERE WHAT IT READS IS OF BULK AT MOST 1048576: true; the input reads as it did. -/
def arrayTurnedUptoRow : OpenClaim := { program := "ytamhonbhoelohaa", sum := "8f22baabde4152a6e385db52ce07891abdd8c08e0c5023d32069ff91e6be5699", func := "ironbark/ironbarklaw12.ArrayTurned", spec := "arrayTurned", unfollowed := true, recurses := true, apart := false, narrowed := true }
def ArrayTurnedUptoSaid : Prop := arrayTurnedUptoRow.holds Try.pinned (OpenSpec.upto arrayTurnedSpec)

/-- 'ironbarklaw11.LevelLays', WHERE WHAT IT READS IS OF BULK AT MOST 1048576: true; the input reads as it did. -/
def levelLaysUptoRow : OpenClaim := { program := "ytamhonbhoelohaa", sum := "8f22baabde4152a6e385db52ce07891abdd8c08e0c5023d32069ff91e6be5699", func := "ironbark/ironbarklaw11.LevelLays", spec := "levelLays", unfollowed := true, recurses := true, apart := false, narrowed := true }
def LevelLaysUptoSaid : Prop := levelLaysUptoRow.holds Try.pinned (OpenSpec.upto levelLaysSpec)

/-- 'ironbarklaw11.LevelLike', WHERE WHAT IT READS IS OF BULK AT MOST 1048576: true; the input reads as it did. -/
def levelLikeUptoRow : OpenClaim := { program := "ytamhonbhoelohaa", sum := "8f22baabde4152a6e385db52ce07891abdd8c08e0c5023d32069ff91e6be5699", func := "ironbark/ironbarklaw11.LevelLike", spec := "levelLike", unfollowed := true, recurses := true, apart := false, narrowed := true }
def LevelLikeUptoSaid : Prop := levelLikeUptoRow.holds Try.pinned (OpenSpec.upto levelLikeSpec)

/-- 'ironbarklaw11.LevelOne', WHERE WHAT IT READS IS OF BULK AT MOST 1048576: true; the input reads as it did. -/
def levelOneUptoRow : OpenClaim := { program := "ytamhonbhoelohaa", sum := "8f22baabde4152a6e385db52ce07891abdd8c08e0c5023d32069ff91e6be5699", func := "ironbark/ironbarklaw11.LevelOne", spec := "levelOne", unfollowed := true, recurses := true, apart := false, narrowed := true }
def LevelOneUptoSaid : Prop := levelOneUptoRow.holds Try.pinned (OpenSpec.upto levelOneSpec)

/-- 'ironbarklaw11.LevelByName', WHERE WHAT IT READS IS OF BULK AT MOST 1048576: true; the input reads as it did. -/
def levelByNameUptoRow : OpenClaim := { program := "ytamhonbhoelohaa", sum := "8f22baabde4152a6e385db52ce07891abdd8c08e0c5023d32069ff91e6be5699", func := "ironbark/ironbarklaw11.LevelByName", spec := "levelByName", unfollowed := true, recurses := true, apart := false, narrowed := true }
def LevelByNameUptoSaid : Prop := levelByNameUptoRow.holds Try.pinned (OpenSpec.upto levelByNameSpec)

end Rows
end Go.Proofs.Ytamhonbhoelohaa
