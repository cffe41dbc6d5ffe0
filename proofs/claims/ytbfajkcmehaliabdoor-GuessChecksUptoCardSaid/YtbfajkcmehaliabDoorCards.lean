/-
  DERIVED. GIVEN WITH THE SEED: THE CARDS: each row of YtbfajkcmehaliabDoorRows.lean that lists a variable, with what it lists TIED to the program's text (the seventh form; the later family's looks); each row that meets fmt, with fmt's text TOLD by the authors' own Lean function (tested against real Go, not proved from fmt's source: count such statements apart). THE CARD IS WHAT COUNTS. Prove the row's statement (the work); the ties are given (YtbfajkcmehaliabDoorTie.lean); close each card by the builder's one call (the guide's Derived/Test/ToyasCard.lean, 'card_holds'). Laid BY PROGRAM, IN A SANDBOX (cutbox-door.mjs). By AI agents, Wed Nov 11 2026. No macro, syntax, notation, axiom, sorry.
-/
import Derived.Test.YtbfajkcmehaliabDoorRows
import GoSem.ClaimSeven
namespace Go.Proofs.YtbfajkcmehaliabDoor
namespace Rows

/-- THE TIED CARD OF 'encorelaw22.GuessChecks'. -/
def guessChecksCard : Claim7 := { stood := { row := guessChecksRow, standIns := [], harness := (true, "aaead850640b61b37d8557cda1f7b5bc45884e83d1345693cb9d27038451f1ee"), looks := false }, kinds := [], alts := [], laidByText := true, laidKinds := [.data], laidTests := true, laidLooks := .later }
def GuessChecksCardSaid : Prop := Claim7.holds Tryd.pinned (.plain (OpenSpec.ofChange guessChecksSpec)) guessChecksCard

/-- THE SECOND FORM's CARD OF 'encorelaw22.GuessChecks'. -/
def guessChecksUptoCard : Claim7 := { stood := { row := guessChecksUptoRow, standIns := [], harness := (true, "aaead850640b61b37d8557cda1f7b5bc45884e83d1345693cb9d27038451f1ee"), looks := false }, kinds := [], alts := [], laidByText := true, laidKinds := [.data], laidTests := true, laidLooks := .later }
def GuessChecksUptoCardSaid : Prop := Claim7.holds Tryd.pinned (.plain (OpenSpec.upto guessChecksSpec)) guessChecksUptoCard
end Rows
end Go.Proofs.YtbfajkcmehaliabDoor
