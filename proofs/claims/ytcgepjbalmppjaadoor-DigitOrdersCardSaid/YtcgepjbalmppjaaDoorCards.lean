/-
  DERIVED. GIVEN WITH THE SEED: THE CARDS: each row of YtcgepjbalmppjaaDoorRows.lean that lists a variable, with what it lists TIED to the program's text (the seventh form; the later family's looks); each row that meets fmt, with fmt's text TOLD by the authors' own Lean function (tested against real Go, not proved from fmt's source: count such statements apart). THE CARD IS WHAT COUNTS. Prove the row's statement (the work); the ties are given (YtcgepjbalmppjaaDoorTie.lean); close each card by the builder's one call (the guide's Derived/Test/ToyasCard.lean, 'card_holds'). Laid BY PROGRAM, IN A SANDBOX (cutbox-door.mjs). By AI agents, Wed Nov 11 2026. No macro, syntax, notation, axiom, sorry.
-/
import Derived.Test.YtcgepjbalmppjaaDoorRows
import GoSem.ClaimSeven
namespace Go.Proofs.YtcgepjbalmppjaaDoor
namespace Rows

/-- THE TIED CARD OF 'ironbarklaw01.DigitOrders'. -/
def digitOrdersCard : Claim7 := { stood := { row := digitOrdersRow, standIns := [], harness := (true, "597f1d9eea5257e3e295151df694b7ed98e51e1fca2bbea39d1cfdebf2a73f95"), looks := true }, kinds := [], alts := [], laidByText := true, laidKinds := [.data, .data, .data, .data, .pinned], laidTests := true, laidLooks := .later }
def DigitOrdersCardSaid : Prop := Claim7.holds Tryd.pinned (.plain (OpenSpec.ofChange digitOrdersSpec)) digitOrdersCard

/-- THE SECOND FORM's CARD OF 'ironbarklaw01.DigitOrders'. -/
def digitOrdersUptoCard : Claim7 := { stood := { row := digitOrdersUptoRow, standIns := [], harness := (true, "597f1d9eea5257e3e295151df694b7ed98e51e1fca2bbea39d1cfdebf2a73f95"), looks := true }, kinds := [], alts := [], laidByText := true, laidKinds := [.data, .data, .data, .data, .pinned], laidTests := true, laidLooks := .later }
def DigitOrdersUptoCardSaid : Prop := Claim7.holds Tryd.pinned (.plain (OpenSpec.upto digitOrdersSpec)) digitOrdersUptoCard
end Rows
end Go.Proofs.YtcgepjbalmppjaaDoor
