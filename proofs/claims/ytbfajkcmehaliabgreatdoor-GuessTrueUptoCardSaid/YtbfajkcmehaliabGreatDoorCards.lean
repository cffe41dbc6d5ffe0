/-
  DERIVED. GIVEN WITH THE SEED: THE CARDS: each row of YtbfajkcmehaliabGreatDoorRows.lean that lists a variable, with what it lists TIED to the program's text (the seventh form; the later family's looks); each row that meets fmt, with fmt's text TOLD by the authors' own Lean function (tested against real Go, not proved from fmt's source: count such statements apart). THE CARD IS WHAT COUNTS. Prove the row's statement (the work); the ties are given (YtbfajkcmehaliabGreatDoorTie.lean); close each card by the builder's one call (the guide's Derived/Test/ToyasCard.lean, 'card_holds'). Laid BY PROGRAM, IN A SANDBOX (cutbox-door.mjs). By AI agents, Wed Nov 11 2026. No macro, syntax, notation, axiom, sorry.
-/
import Derived.Test.YtbfajkcmehaliabGreatDoorRows
import GoSem.ClaimSeven
namespace Go.Proofs.YtbfajkcmehaliabGreatDoor
namespace Rows

/-- THE TIED CARD OF 'encorelaw22.GuessTrue'. -/
def guessTrueCard : Claim7 := { stood := { row := guessTrueRow, standIns := [], harness := (true, "2b58f31a8050ebf6e767bc027577bc048451ec1b6b47a573157db3a2d85c421c"), looks := false }, kinds := [], alts := [], laidByText := true, laidKinds := [.data], laidTests := true, laidLooks := .later }
def GuessTrueCardSaid : Prop := Claim7.holds Tryz.pinned (.plain (OpenSpec.ofChange guessTrueSpec)) guessTrueCard

/-- THE TIED CARD OF 'encorelaw22.GuessRight'. -/
def guessRightCard : Claim7 := { stood := { row := guessRightRow, standIns := [], harness := (true, "2b58f31a8050ebf6e767bc027577bc048451ec1b6b47a573157db3a2d85c421c"), looks := false }, kinds := [], alts := [], laidByText := true, laidKinds := [.data], laidTests := true, laidLooks := .later }
def GuessRightCardSaid : Prop := Claim7.holds Tryz.pinned (.plain (OpenSpec.ofChange guessRightSpec)) guessRightCard

/-- THE SECOND FORM's CARD OF 'encorelaw22.GuessTrue'. -/
def guessTrueUptoCard : Claim7 := { stood := { row := guessTrueUptoRow, standIns := [], harness := (true, "2b58f31a8050ebf6e767bc027577bc048451ec1b6b47a573157db3a2d85c421c"), looks := false }, kinds := [], alts := [], laidByText := true, laidKinds := [.data], laidTests := true, laidLooks := .later }
def GuessTrueUptoCardSaid : Prop := Claim7.holds Tryz.pinned (.plain (OpenSpec.upto guessTrueSpec)) guessTrueUptoCard

/-- THE SECOND FORM's CARD OF 'encorelaw22.GuessRight'. -/
def guessRightUptoCard : Claim7 := { stood := { row := guessRightUptoRow, standIns := [], harness := (true, "2b58f31a8050ebf6e767bc027577bc048451ec1b6b47a573157db3a2d85c421c"), looks := false }, kinds := [], alts := [], laidByText := true, laidKinds := [.data], laidTests := true, laidLooks := .later }
def GuessRightUptoCardSaid : Prop := Claim7.holds Tryz.pinned (.plain (OpenSpec.upto guessRightSpec)) guessRightUptoCard
end Rows
end Go.Proofs.YtbfajkcmehaliabGreatDoor
