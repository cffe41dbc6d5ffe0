/-
  DERIVED. GIVEN WITH THE SEED: THE CARDS: each row of YtdephbcmmhabgaaDoorRows.lean that lists a variable, with what it lists TIED to the program's text (the seventh form; the later family's looks); each row that meets fmt, with fmt's text TOLD by the authors' own Lean function (tested against real Go, not proved from fmt's source: count such statements apart). THE CARD IS WHAT COUNTS. Prove the row's statement (the work); the ties are given (YtdephbcmmhabgaaDoorTie.lean); close each card by the builder's one call (the guide's Derived/Test/ToyasCard.lean, 'card_holds'). Laid BY PROGRAM, IN A SANDBOX (cutbox-door.mjs). By AI agents, Wed Nov 11 2026. No macro, syntax, notation, axiom, sorry.
-/
import Derived.Test.YtdephbcmmhabgaaDoorRows
import GoSem.ClaimSeven
namespace Go.Proofs.YtdephbcmmhabgaaDoor
namespace Rows

/-- THE TIED CARD OF 'encorelaw22.GuessNotes'. -/
def guessNotesCard : Claim7 := { stood := { row := guessNotesRow, standIns := [], harness := (true, "27aaae22d8d6d07e4ae73b21bf0ac6895c197a07e5d8898abcc50051974bcec6"), looks := false }, kinds := [], alts := [], laidByText := true, laidKinds := [.data], laidTests := true, laidLooks := .later }
def GuessNotesCardSaid : Prop := Claim7.holds Tryd.pinned (.plain (OpenSpec.ofChange guessNotesSpec)) guessNotesCard

/-- THE TIED CARD OF 'encorelaw22.GuessChecks'. -/
def guessChecksCard : Claim7 := { stood := { row := guessChecksRow, standIns := [], harness := (true, "27aaae22d8d6d07e4ae73b21bf0ac6895c197a07e5d8898abcc50051974bcec6"), looks := false }, kinds := [], alts := [], laidByText := true, laidKinds := [.data], laidTests := true, laidLooks := .later }
def GuessChecksCardSaid : Prop := Claim7.holds Tryd.pinned (.plain (OpenSpec.ofChange guessChecksSpec)) guessChecksCard

/-- THE TIED CARD OF 'encorelaw22.GuessSeen'. -/
def guessSeenCard : Claim7 := { stood := { row := guessSeenRow, standIns := [], harness := (true, "27aaae22d8d6d07e4ae73b21bf0ac6895c197a07e5d8898abcc50051974bcec6"), looks := false }, kinds := [], alts := [], laidByText := true, laidKinds := [.data], laidTests := true, laidLooks := .later }
def GuessSeenCardSaid : Prop := Claim7.holds Tryd.pinned (.plain (OpenSpec.ofChange guessSeenSpec)) guessSeenCard

/-- THE SECOND FORM's CARD OF 'encorelaw22.GuessNotes'. -/
def guessNotesUptoCard : Claim7 := { stood := { row := guessNotesUptoRow, standIns := [], harness := (true, "27aaae22d8d6d07e4ae73b21bf0ac6895c197a07e5d8898abcc50051974bcec6"), looks := false }, kinds := [], alts := [], laidByText := true, laidKinds := [.data], laidTests := true, laidLooks := .later }
def GuessNotesUptoCardSaid : Prop := Claim7.holds Tryd.pinned (.plain (OpenSpec.upto guessNotesSpec)) guessNotesUptoCard

/-- THE SECOND FORM's CARD OF 'encorelaw22.GuessChecks'. -/
def guessChecksUptoCard : Claim7 := { stood := { row := guessChecksUptoRow, standIns := [], harness := (true, "27aaae22d8d6d07e4ae73b21bf0ac6895c197a07e5d8898abcc50051974bcec6"), looks := false }, kinds := [], alts := [], laidByText := true, laidKinds := [.data], laidTests := true, laidLooks := .later }
def GuessChecksUptoCardSaid : Prop := Claim7.holds Tryd.pinned (.plain (OpenSpec.upto guessChecksSpec)) guessChecksUptoCard

/-- THE SECOND FORM's CARD OF 'encorelaw22.GuessSeen'. -/
def guessSeenUptoCard : Claim7 := { stood := { row := guessSeenUptoRow, standIns := [], harness := (true, "27aaae22d8d6d07e4ae73b21bf0ac6895c197a07e5d8898abcc50051974bcec6"), looks := false }, kinds := [], alts := [], laidByText := true, laidKinds := [.data], laidTests := true, laidLooks := .later }
def GuessSeenUptoCardSaid : Prop := Claim7.holds Tryd.pinned (.plain (OpenSpec.upto guessSeenSpec)) guessSeenUptoCard
end Rows
end Go.Proofs.YtdephbcmmhabgaaDoor
