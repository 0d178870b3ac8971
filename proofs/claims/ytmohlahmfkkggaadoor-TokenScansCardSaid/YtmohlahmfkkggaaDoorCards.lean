/-
  DERIVED. GIVEN WITH THE SEED: THE CARDS: each row of YtmohlahmfkkggaaDoorRows.lean that lists a variable, with what it lists TIED to the program's text (the seventh form; the later family's looks); each row that meets fmt, with fmt's text TOLD by the authors' own Lean function (tested against real Go, not proved from fmt's source: count such statements apart). THE CARD IS WHAT COUNTS. Prove the row's statement (the work); the ties are given (YtmohlahmfkkggaaDoorTie.lean); close each card by the builder's one call (the guide's Derived/Test/ToyasCard.lean, 'card_holds'). Laid BY PROGRAM, IN A SANDBOX (cutbox-door.mjs). By AI agents, Wed Nov 11 2026. No macro, syntax, notation, axiom, sorry.
-/
import Derived.Test.YtmohlahmfkkggaaDoorRows
import GoSem.ClaimSeven
namespace Go.Proofs.YtmohlahmfkkggaaDoor
namespace Rows

/-- THE TIED CARD OF 'ironbarklaw09.TokenLetters'. -/
def tokenLettersCard : Claim7 := { stood := { row := tokenLettersRow, standIns := [], harness := (true, "a9f8815fea1c4352a0bd03fb0c66a9d4db8798344e84629650324e4068dbdd12"), looks := true }, kinds := [], alts := [], laidByText := true, laidKinds := [.data, .pinned, .pinned], laidTests := true, laidLooks := .later }
def TokenLettersCardSaid : Prop := Claim7.holds Tryd.pinned (.plain (OpenSpec.ofChange tokenLettersSpec)) tokenLettersCard

/-- THE TIED CARD OF 'ironbarklaw09.TokenScans'. -/
def tokenScansCard : Claim7 := { stood := { row := tokenScansRow, standIns := [], harness := (true, "a9f8815fea1c4352a0bd03fb0c66a9d4db8798344e84629650324e4068dbdd12"), looks := true }, kinds := [], alts := [], laidByText := true, laidKinds := [.data, .pinned, .pinned], laidTests := true, laidLooks := .later }
def TokenScansCardSaid : Prop := Claim7.holds Tryd.pinned (.plain (OpenSpec.ofChange tokenScansSpec)) tokenScansCard

/-- THE SECOND FORM's CARD OF 'ironbarklaw09.TokenLetters'. -/
def tokenLettersUptoCard : Claim7 := { stood := { row := tokenLettersUptoRow, standIns := [], harness := (true, "a9f8815fea1c4352a0bd03fb0c66a9d4db8798344e84629650324e4068dbdd12"), looks := true }, kinds := [], alts := [], laidByText := true, laidKinds := [.data, .pinned, .pinned], laidTests := true, laidLooks := .later }
def TokenLettersUptoCardSaid : Prop := Claim7.holds Tryd.pinned (.plain (OpenSpec.upto tokenLettersSpec)) tokenLettersUptoCard

/-- THE SECOND FORM's CARD OF 'ironbarklaw09.TokenScans'. -/
def tokenScansUptoCard : Claim7 := { stood := { row := tokenScansUptoRow, standIns := [], harness := (true, "a9f8815fea1c4352a0bd03fb0c66a9d4db8798344e84629650324e4068dbdd12"), looks := true }, kinds := [], alts := [], laidByText := true, laidKinds := [.data, .pinned, .pinned], laidTests := true, laidLooks := .later }
def TokenScansUptoCardSaid : Prop := Claim7.holds Tryd.pinned (.plain (OpenSpec.upto tokenScansSpec)) tokenScansUptoCard
end Rows
end Go.Proofs.YtmohlahmfkkggaaDoor
