/-
  DERIVED. GIVEN WITH THE SEED: THE CARDS: each row of YtmohlahmfkkggaaGreatDoorRows.lean that lists a variable, with what it lists TIED to the program's text (the seventh form; the later family's looks); each row that meets fmt, with fmt's text TOLD by the authors' own Lean function (tested against real Go, not proved from fmt's source: count such statements apart). THE CARD IS WHAT COUNTS. Prove the row's statement (the work); the ties are given (YtmohlahmfkkggaaGreatDoorTie.lean); close each card by the builder's one call (the guide's Derived/Test/ToyasCard.lean, 'card_holds'). Laid BY PROGRAM, IN A SANDBOX (cutbox-door.mjs). By AI agents, Wed Nov 11 2026. No macro, syntax, notation, axiom, sorry.
-/
import Derived.Test.YtmohlahmfkkggaaGreatDoorRows
import GoSem.ClaimSeven
namespace Go.Proofs.YtmohlahmfkkggaaGreatDoor
namespace Rows

/-- THE TIED CARD OF 'ironbarklaw09.TokenPlaces'. -/
def tokenPlacesCard : Claim7 := { stood := { row := tokenPlacesRow, standIns := [], harness := (true, "ba38922c7c6d3afa92d7aa23f0fff64f3130b54be5ae434a34e6b4e4d975f4f0"), looks := true }, kinds := [], alts := [], laidByText := true, laidKinds := [.data, .pinned, .pinned], laidTests := true, laidLooks := .later }
def TokenPlacesCardSaid : Prop := Claim7.holds Tryz.pinned (.plain (OpenSpec.ofChange tokenPlacesSpec)) tokenPlacesCard

/-- THE TIED CARD OF 'ironbarklaw09.TokenConstants'. -/
def tokenConstantsCard : Claim7 := { stood := { row := tokenConstantsRow, standIns := [], harness := (true, "ba38922c7c6d3afa92d7aa23f0fff64f3130b54be5ae434a34e6b4e4d975f4f0"), looks := true }, kinds := [], alts := [], laidByText := true, laidKinds := [.data, .data, .data, .data, .sentinel, .sentinel, .pinned, .pinned], laidTests := true, laidLooks := .later }
def TokenConstantsCardSaid : Prop := Claim7.holds Tryz.pinned (.plain (OpenSpec.ofChange tokenConstantsSpec)) tokenConstantsCard

/-- THE SECOND FORM's CARD OF 'ironbarklaw09.TokenPlaces'. -/
def tokenPlacesUptoCard : Claim7 := { stood := { row := tokenPlacesUptoRow, standIns := [], harness := (true, "ba38922c7c6d3afa92d7aa23f0fff64f3130b54be5ae434a34e6b4e4d975f4f0"), looks := true }, kinds := [], alts := [], laidByText := true, laidKinds := [.data, .pinned, .pinned], laidTests := true, laidLooks := .later }
def TokenPlacesUptoCardSaid : Prop := Claim7.holds Tryz.pinned (.plain (OpenSpec.upto tokenPlacesSpec)) tokenPlacesUptoCard

/-- THE SECOND FORM's CARD OF 'ironbarklaw09.TokenConstants'. -/
def tokenConstantsUptoCard : Claim7 := { stood := { row := tokenConstantsUptoRow, standIns := [], harness := (true, "ba38922c7c6d3afa92d7aa23f0fff64f3130b54be5ae434a34e6b4e4d975f4f0"), looks := true }, kinds := [], alts := [], laidByText := true, laidKinds := [.data, .data, .data, .data, .sentinel, .sentinel, .pinned, .pinned], laidTests := true, laidLooks := .later }
def TokenConstantsUptoCardSaid : Prop := Claim7.holds Tryz.pinned (.plain (OpenSpec.upto tokenConstantsSpec)) tokenConstantsUptoCard
end Rows
end Go.Proofs.YtmohlahmfkkggaaGreatDoor
