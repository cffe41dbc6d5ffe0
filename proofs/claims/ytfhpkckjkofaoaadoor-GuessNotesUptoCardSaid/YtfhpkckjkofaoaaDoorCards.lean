/-
  DERIVED. GIVEN WITH THE SEED: THE CARDS: each row of YtfhpkckjkofaoaaDoorRows.lean that lists a variable, with what it lists TIED to the program's text (the seventh form; the later family's looks); each row that meets fmt, with fmt's text TOLD by the authors' own Lean function (tested against real Go, not proved from fmt's source: count such statements apart). THE CARD IS WHAT COUNTS. Prove the row's statement (the work); the ties are given (YtfhpkckjkofaoaaDoorTie.lean); close each card by the builder's one call (the guide's Derived/Test/ToyasCard.lean, 'card_holds'). Laid BY PROGRAM, IN A SANDBOX (cutbox-door.mjs). By AI agents, Wed Nov 11 2026. No macro, syntax, notation, axiom, sorry.
-/
import Derived.Test.YtfhpkckjkofaoaaDoorRows
import GoSem.ClaimSeven
namespace Go.Proofs.YtfhpkckjkofaoaaDoor
namespace Rows

/-- THE TIED CARD OF 'encorelaw22.GuessNotes'. -/
def guessNotesCard : Claim7 := { stood := { row := guessNotesRow, standIns := [], harness := (true, "35aa6c59dfc13f4e2350034f8c3092621829e2dfa7508960acfd95a3f3326836"), looks := false }, kinds := [], alts := [], laidByText := true, laidKinds := [.data], laidTests := true, laidLooks := .later }
def GuessNotesCardSaid : Prop := Claim7.holds Tryd.pinned (.plain (OpenSpec.ofChange guessNotesSpec)) guessNotesCard

/-- THE SECOND FORM's CARD OF 'encorelaw22.GuessNotes'. -/
def guessNotesUptoCard : Claim7 := { stood := { row := guessNotesUptoRow, standIns := [], harness := (true, "35aa6c59dfc13f4e2350034f8c3092621829e2dfa7508960acfd95a3f3326836"), looks := false }, kinds := [], alts := [], laidByText := true, laidKinds := [.data], laidTests := true, laidLooks := .later }
def GuessNotesUptoCardSaid : Prop := Claim7.holds Tryd.pinned (.plain (OpenSpec.upto guessNotesSpec)) guessNotesUptoCard
end Rows
end Go.Proofs.YtfhpkckjkofaoaaDoor
