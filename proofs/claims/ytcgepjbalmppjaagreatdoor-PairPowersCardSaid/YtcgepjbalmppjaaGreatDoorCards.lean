/-
  DERIVED. GIVEN WITH THE SEED: THE CARDS: each row of YtcgepjbalmppjaaGreatDoorRows.lean that lists a variable, with what it lists TIED to the program's text (the seventh form; the later family's looks); each row that meets fmt, with fmt's text TOLD by the authors' own Lean function (tested against real Go, not proved from fmt's source: count such statements apart). THE CARD IS WHAT COUNTS. Prove the row's statement (the work); the ties are given (YtcgepjbalmppjaaGreatDoorTie.lean); close each card by the builder's one call (the guide's Derived/Test/ToyasCard.lean, 'card_holds'). Laid BY PROGRAM, IN A SANDBOX (cutbox-door.mjs). By AI agents, Wed Nov 11 2026. No macro, syntax, notation, axiom, sorry.
-/
import Derived.Test.YtcgepjbalmppjaaGreatDoorRows
import GoSem.ClaimSeven
namespace Go.Proofs.YtcgepjbalmppjaaGreatDoor
namespace Rows

/-- THE TIED CARD OF 'ironbarklaw01.DigitDivided'. -/
def digitDividedCard : Claim7 := { stood := { row := digitDividedRow, standIns := [], harness := (true, "01cea90e90b36e6a5321cf8f25b34ac6dae1202632d6f0a03f36c1fc034ee8ee"), looks := true }, kinds := [], alts := [], laidByText := true, laidKinds := [.data, .data, .data, .data, .pinned], laidTests := true, laidLooks := .later }
def DigitDividedCardSaid : Prop := Claim7.holds Tryz.pinned (.plain (OpenSpec.ofChange digitDividedSpec)) digitDividedCard

/-- THE TIED CARD OF 'ironbarklaw04.PairDoes'. -/
def pairDoesCard : Claim7 := { stood := { row := pairDoesRow, standIns := [], harness := (true, "01cea90e90b36e6a5321cf8f25b34ac6dae1202632d6f0a03f36c1fc034ee8ee"), looks := true }, kinds := [], alts := [], laidByText := true, laidKinds := [.data, .pinned], laidTests := true, laidLooks := .later }
def PairDoesCardSaid : Prop := Claim7.holds Tryz.pinned (.plain (OpenSpec.ofChange pairDoesSpec)) pairDoesCard

/-- THE TIED CARD OF 'ironbarklaw04.PairReal'. -/
def pairRealCard : Claim7 := { stood := { row := pairRealRow, standIns := [], harness := (true, "01cea90e90b36e6a5321cf8f25b34ac6dae1202632d6f0a03f36c1fc034ee8ee"), looks := true }, kinds := [], alts := [], laidByText := true, laidKinds := [.data, .pinned], laidTests := true, laidLooks := .later }
def PairRealCardSaid : Prop := Claim7.holds Tryz.pinned (.plain (OpenSpec.ofChange pairRealSpec)) pairRealCard

/-- THE TIED CARD OF 'ironbarklaw01.DigitValid'. -/
def digitValidCard : Claim7 := { stood := { row := digitValidRow, standIns := [], harness := (true, "01cea90e90b36e6a5321cf8f25b34ac6dae1202632d6f0a03f36c1fc034ee8ee"), looks := true }, kinds := [], alts := [], laidByText := true, laidKinds := [.data, .data, .data, .data, .pinned], laidTests := true, laidLooks := .later }
def DigitValidCardSaid : Prop := Claim7.holds Tryz.pinned (.plain (OpenSpec.ofChange digitValidSpec)) digitValidCard

/-- THE TIED CARD OF 'ironbarklaw01.DigitExact'. -/
def digitExactCard : Claim7 := { stood := { row := digitExactRow, standIns := [], harness := (true, "01cea90e90b36e6a5321cf8f25b34ac6dae1202632d6f0a03f36c1fc034ee8ee"), looks := true }, kinds := [], alts := [], laidByText := true, laidKinds := [.data, .data, .data, .data, .pinned], laidTests := true, laidLooks := .later }
def DigitExactCardSaid : Prop := Claim7.holds Tryz.pinned (.plain (OpenSpec.ofChange digitExactSpec)) digitExactCard

/-- THE TIED CARD OF 'ironbarklaw04.PairNorm'. -/
def pairNormCard : Claim7 := { stood := { row := pairNormRow, standIns := [], harness := (true, "01cea90e90b36e6a5321cf8f25b34ac6dae1202632d6f0a03f36c1fc034ee8ee"), looks := true }, kinds := [], alts := [], laidByText := true, laidKinds := [.data, .pinned], laidTests := true, laidLooks := .later }
def PairNormCardSaid : Prop := Claim7.holds Tryz.pinned (.plain (OpenSpec.ofChange pairNormSpec)) pairNormCard

/-- THE TIED CARD OF 'ironbarklaw04.PairPowers'. -/
def pairPowersCard : Claim7 := { stood := { row := pairPowersRow, standIns := [], harness := (true, "01cea90e90b36e6a5321cf8f25b34ac6dae1202632d6f0a03f36c1fc034ee8ee"), looks := true }, kinds := [], alts := [], laidByText := true, laidKinds := [.data, .pinned], laidTests := true, laidLooks := .later }
def PairPowersCardSaid : Prop := Claim7.holds Tryz.pinned (.plain (OpenSpec.ofChange pairPowersSpec)) pairPowersCard

/-- THE TIED CARD OF 'ironbarklaw01.DigitTwo'. -/
def digitTwoCard : Claim7 := { stood := { row := digitTwoRow, standIns := [], harness := (true, "01cea90e90b36e6a5321cf8f25b34ac6dae1202632d6f0a03f36c1fc034ee8ee"), looks := true }, kinds := [], alts := [], laidByText := true, laidKinds := [.data, .data, .data, .data, .pinned], laidTests := true, laidLooks := .later }
def DigitTwoCardSaid : Prop := Claim7.holds Tryz.pinned (.plain (OpenSpec.ofChange digitTwoSpec)) digitTwoCard

/-- THE TIED CARD OF 'ironbarklaw01.DigitTexts'. -/
def digitTextsCard : Claim7 := { stood := { row := digitTextsRow, standIns := [], harness := (true, "01cea90e90b36e6a5321cf8f25b34ac6dae1202632d6f0a03f36c1fc034ee8ee"), looks := true }, kinds := [], alts := [], laidByText := true, laidKinds := [.data, .data, .data, .data, .sentinel, .sentinel, .pinned], laidTests := true, laidLooks := .later }
def DigitTextsCardSaid : Prop := Claim7.holds Tryz.pinned (.plain (OpenSpec.ofChange digitTextsSpec)) digitTextsCard

/-- THE SECOND FORM's CARD OF 'ironbarklaw01.DigitDivided'. -/
def digitDividedUptoCard : Claim7 := { stood := { row := digitDividedUptoRow, standIns := [], harness := (true, "01cea90e90b36e6a5321cf8f25b34ac6dae1202632d6f0a03f36c1fc034ee8ee"), looks := true }, kinds := [], alts := [], laidByText := true, laidKinds := [.data, .data, .data, .data, .pinned], laidTests := true, laidLooks := .later }
def DigitDividedUptoCardSaid : Prop := Claim7.holds Tryz.pinned (.plain (OpenSpec.upto digitDividedSpec)) digitDividedUptoCard

/-- THE SECOND FORM's CARD OF 'ironbarklaw04.PairDoes'. -/
def pairDoesUptoCard : Claim7 := { stood := { row := pairDoesUptoRow, standIns := [], harness := (true, "01cea90e90b36e6a5321cf8f25b34ac6dae1202632d6f0a03f36c1fc034ee8ee"), looks := true }, kinds := [], alts := [], laidByText := true, laidKinds := [.data, .pinned], laidTests := true, laidLooks := .later }
def PairDoesUptoCardSaid : Prop := Claim7.holds Tryz.pinned (.plain (OpenSpec.upto pairDoesSpec)) pairDoesUptoCard

/-- THE SECOND FORM's CARD OF 'ironbarklaw04.PairReal'. -/
def pairRealUptoCard : Claim7 := { stood := { row := pairRealUptoRow, standIns := [], harness := (true, "01cea90e90b36e6a5321cf8f25b34ac6dae1202632d6f0a03f36c1fc034ee8ee"), looks := true }, kinds := [], alts := [], laidByText := true, laidKinds := [.data, .pinned], laidTests := true, laidLooks := .later }
def PairRealUptoCardSaid : Prop := Claim7.holds Tryz.pinned (.plain (OpenSpec.upto pairRealSpec)) pairRealUptoCard

/-- THE SECOND FORM's CARD OF 'ironbarklaw01.DigitValid'. -/
def digitValidUptoCard : Claim7 := { stood := { row := digitValidUptoRow, standIns := [], harness := (true, "01cea90e90b36e6a5321cf8f25b34ac6dae1202632d6f0a03f36c1fc034ee8ee"), looks := true }, kinds := [], alts := [], laidByText := true, laidKinds := [.data, .data, .data, .data, .pinned], laidTests := true, laidLooks := .later }
def DigitValidUptoCardSaid : Prop := Claim7.holds Tryz.pinned (.plain (OpenSpec.upto digitValidSpec)) digitValidUptoCard

/-- THE SECOND FORM's CARD OF 'ironbarklaw01.DigitExact'. -/
def digitExactUptoCard : Claim7 := { stood := { row := digitExactUptoRow, standIns := [], harness := (true, "01cea90e90b36e6a5321cf8f25b34ac6dae1202632d6f0a03f36c1fc034ee8ee"), looks := true }, kinds := [], alts := [], laidByText := true, laidKinds := [.data, .data, .data, .data, .pinned], laidTests := true, laidLooks := .later }
def DigitExactUptoCardSaid : Prop := Claim7.holds Tryz.pinned (.plain (OpenSpec.upto digitExactSpec)) digitExactUptoCard

/-- THE SECOND FORM's CARD OF 'ironbarklaw04.PairNorm'. -/
def pairNormUptoCard : Claim7 := { stood := { row := pairNormUptoRow, standIns := [], harness := (true, "01cea90e90b36e6a5321cf8f25b34ac6dae1202632d6f0a03f36c1fc034ee8ee"), looks := true }, kinds := [], alts := [], laidByText := true, laidKinds := [.data, .pinned], laidTests := true, laidLooks := .later }
def PairNormUptoCardSaid : Prop := Claim7.holds Tryz.pinned (.plain (OpenSpec.upto pairNormSpec)) pairNormUptoCard

/-- THE SECOND FORM's CARD OF 'ironbarklaw04.PairPowers'. -/
def pairPowersUptoCard : Claim7 := { stood := { row := pairPowersUptoRow, standIns := [], harness := (true, "01cea90e90b36e6a5321cf8f25b34ac6dae1202632d6f0a03f36c1fc034ee8ee"), looks := true }, kinds := [], alts := [], laidByText := true, laidKinds := [.data, .pinned], laidTests := true, laidLooks := .later }
def PairPowersUptoCardSaid : Prop := Claim7.holds Tryz.pinned (.plain (OpenSpec.upto pairPowersSpec)) pairPowersUptoCard

/-- THE SECOND FORM's CARD OF 'ironbarklaw01.DigitTwo'. -/
def digitTwoUptoCard : Claim7 := { stood := { row := digitTwoUptoRow, standIns := [], harness := (true, "01cea90e90b36e6a5321cf8f25b34ac6dae1202632d6f0a03f36c1fc034ee8ee"), looks := true }, kinds := [], alts := [], laidByText := true, laidKinds := [.data, .data, .data, .data, .pinned], laidTests := true, laidLooks := .later }
def DigitTwoUptoCardSaid : Prop := Claim7.holds Tryz.pinned (.plain (OpenSpec.upto digitTwoSpec)) digitTwoUptoCard

/-- THE SECOND FORM's CARD OF 'ironbarklaw01.DigitTexts'. -/
def digitTextsUptoCard : Claim7 := { stood := { row := digitTextsUptoRow, standIns := [], harness := (true, "01cea90e90b36e6a5321cf8f25b34ac6dae1202632d6f0a03f36c1fc034ee8ee"), looks := true }, kinds := [], alts := [], laidByText := true, laidKinds := [.data, .data, .data, .data, .sentinel, .sentinel, .pinned], laidTests := true, laidLooks := .later }
def DigitTextsUptoCardSaid : Prop := Claim7.holds Tryz.pinned (.plain (OpenSpec.upto digitTextsSpec)) digitTextsUptoCard
end Rows
end Go.Proofs.YtcgepjbalmppjaaGreatDoor
