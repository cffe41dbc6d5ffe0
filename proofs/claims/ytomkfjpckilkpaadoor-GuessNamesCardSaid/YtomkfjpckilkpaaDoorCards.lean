/-
  DERIVED. GIVEN WITH THE SEED: THE CARDS: each row of YtomkfjpckilkpaaDoorRows.lean that lists a variable, with what it lists TIED to the program's text (the seventh form; the later family's looks); each row that meets fmt, with fmt's text TOLD by the authors' own Lean function (tested against real Go, not proved from fmt's source: count such statements apart). THE CARD IS WHAT COUNTS. Prove the row's statement (the work); the ties are given (YtomkfjpckilkpaaDoorTie.lean); close each card by the builder's one call (the guide's Derived/Test/ToyasCard.lean, 'card_holds'). Laid BY PROGRAM, IN A SANDBOX (cutbox-door.mjs). By AI agents, Wed Nov 11 2026. No macro, syntax, notation, axiom, sorry.
-/
import Derived.Test.YtomkfjpckilkpaaDoorRows
import GoSem.ClaimSeven
namespace Go.Proofs.YtomkfjpckilkpaaDoor
namespace Rows

/-- THE TIED CARD OF 'encorelaw22.GuessNotes'. -/
def guessNotesCard : Claim7 := { stood := { row := guessNotesRow, standIns := [], harness := (true, "407e4ceae8ceca9b920f527e1f655560c2b20cd80fead57aedbc43627a188e94"), looks := false }, kinds := [], alts := [], laidByText := true, laidKinds := [.data], laidTests := true, laidLooks := .later }
def GuessNotesCardSaid : Prop := Claim7.holds Tryd.pinned (.plain (OpenSpec.ofChange guessNotesSpec)) guessNotesCard

/-- THE TIED CARD OF 'encorelaw22.GuessChecks'. -/
def guessChecksCard : Claim7 := { stood := { row := guessChecksRow, standIns := [], harness := (true, "407e4ceae8ceca9b920f527e1f655560c2b20cd80fead57aedbc43627a188e94"), looks := false }, kinds := [], alts := [], laidByText := true, laidKinds := [.data], laidTests := true, laidLooks := .later }
def GuessChecksCardSaid : Prop := Claim7.holds Tryd.pinned (.plain (OpenSpec.ofChange guessChecksSpec)) guessChecksCard

/-- THE TIED CARD OF 'encorelaw22.GuessSeen'. -/
def guessSeenCard : Claim7 := { stood := { row := guessSeenRow, standIns := [], harness := (true, "407e4ceae8ceca9b920f527e1f655560c2b20cd80fead57aedbc43627a188e94"), looks := false }, kinds := [], alts := [], laidByText := true, laidKinds := [.data], laidTests := true, laidLooks := .later }
def GuessSeenCardSaid : Prop := Claim7.holds Tryd.pinned (.plain (OpenSpec.ofChange guessSeenSpec)) guessSeenCard

/-- THE TIED CARD OF 'encorelaw22.GuessNames'. -/
def guessNamesCard : Claim7 := { stood := { row := guessNamesRow, standIns := [], harness := (true, "407e4ceae8ceca9b920f527e1f655560c2b20cd80fead57aedbc43627a188e94"), looks := false }, kinds := [], alts := [], laidByText := true, laidKinds := [.data], laidTests := true, laidLooks := .later }
def GuessNamesCardSaid : Prop := Claim7.holds Tryd.pinned (.plain (OpenSpec.ofChange guessNamesSpec)) guessNamesCard

/-- THE SECOND FORM's CARD OF 'encorelaw22.GuessNotes'. -/
def guessNotesUptoCard : Claim7 := { stood := { row := guessNotesUptoRow, standIns := [], harness := (true, "407e4ceae8ceca9b920f527e1f655560c2b20cd80fead57aedbc43627a188e94"), looks := false }, kinds := [], alts := [], laidByText := true, laidKinds := [.data], laidTests := true, laidLooks := .later }
def GuessNotesUptoCardSaid : Prop := Claim7.holds Tryd.pinned (.plain (OpenSpec.upto guessNotesSpec)) guessNotesUptoCard

/-- THE SECOND FORM's CARD OF 'encorelaw22.GuessChecks'. -/
def guessChecksUptoCard : Claim7 := { stood := { row := guessChecksUptoRow, standIns := [], harness := (true, "407e4ceae8ceca9b920f527e1f655560c2b20cd80fead57aedbc43627a188e94"), looks := false }, kinds := [], alts := [], laidByText := true, laidKinds := [.data], laidTests := true, laidLooks := .later }
def GuessChecksUptoCardSaid : Prop := Claim7.holds Tryd.pinned (.plain (OpenSpec.upto guessChecksSpec)) guessChecksUptoCard

/-- THE SECOND FORM's CARD OF 'encorelaw22.GuessSeen'. -/
def guessSeenUptoCard : Claim7 := { stood := { row := guessSeenUptoRow, standIns := [], harness := (true, "407e4ceae8ceca9b920f527e1f655560c2b20cd80fead57aedbc43627a188e94"), looks := false }, kinds := [], alts := [], laidByText := true, laidKinds := [.data], laidTests := true, laidLooks := .later }
def GuessSeenUptoCardSaid : Prop := Claim7.holds Tryd.pinned (.plain (OpenSpec.upto guessSeenSpec)) guessSeenUptoCard

/-- THE SECOND FORM's CARD OF 'encorelaw22.GuessNames'. -/
def guessNamesUptoCard : Claim7 := { stood := { row := guessNamesUptoRow, standIns := [], harness := (true, "407e4ceae8ceca9b920f527e1f655560c2b20cd80fead57aedbc43627a188e94"), looks := false }, kinds := [], alts := [], laidByText := true, laidKinds := [.data], laidTests := true, laidLooks := .later }
def GuessNamesUptoCardSaid : Prop := Claim7.holds Tryd.pinned (.plain (OpenSpec.upto guessNamesSpec)) guessNamesUptoCard
end Rows
end Go.Proofs.YtomkfjpckilkpaaDoor
