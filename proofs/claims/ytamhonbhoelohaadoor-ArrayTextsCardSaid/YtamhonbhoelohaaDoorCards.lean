/-
  DERIVED. GIVEN WITH THE SEED: THE CARDS: each row of YtamhonbhoelohaaDoorRows.lean that lists a variable, with what it lists TIED to the program's text (the seventh form; the later family's looks); each row that meets fmt, with fmt's text TOLD by the authors' own Lean function (tested against real Go, not proved from fmt's source: count such statements apart). THE CARD IS WHAT COUNTS. Prove the row's statement (the work); the ties are given (YtamhonbhoelohaaDoorTie.lean); close each card by the builder's one call (the guide's Derived/Test/ToyasCard.lean, 'card_holds'). Laid BY PROGRAM, IN A SANDBOX (cutbox-door.mjs). By AI agents, Wed Nov 11 2026. No macro, syntax, notation, axiom, sorry.
-/
import Derived.Test.YtamhonbhoelohaaDoorRows
import GoSem.ClaimSeven
namespace Go.Proofs.YtamhonbhoelohaaDoor
namespace Rows

/-- THE TIED CARD OF 'ironbarklaw12.ArrayTexts'. -/
def arrayTextsCard : Claim7 := { stood := { row := arrayTextsRow, standIns := [], harness := (true, "bc14daa2cbc373fdef000672bd105c57833ebcbfc54d2291d9ac996f3ee6043b"), looks := true }, kinds := [], alts := [], laidByText := true, laidKinds := [.data, .data, .data, .sentinel, .sentinel], laidTests := true, laidLooks := .later }
def ArrayTextsCardSaid : Prop := Claim7.holds Tryd.pinned (.plain (OpenSpec.ofChange arrayTextsSpec)) arrayTextsCard

/-- THE SECOND FORM's CARD OF 'ironbarklaw12.ArrayTexts'. -/
def arrayTextsUptoCard : Claim7 := { stood := { row := arrayTextsUptoRow, standIns := [], harness := (true, "bc14daa2cbc373fdef000672bd105c57833ebcbfc54d2291d9ac996f3ee6043b"), looks := true }, kinds := [], alts := [], laidByText := true, laidKinds := [.data, .data, .data, .sentinel, .sentinel], laidTests := true, laidLooks := .later }
def ArrayTextsUptoCardSaid : Prop := Claim7.holds Tryd.pinned (.plain (OpenSpec.upto arrayTextsSpec)) arrayTextsUptoCard
end Rows
end Go.Proofs.YtamhonbhoelohaaDoor
