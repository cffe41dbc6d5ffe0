/-
  DERIVED. GIVEN WITH THE SEED: THE CARDS: each row of YtpkhhphpjhfoiaaGreatDoorRows.lean that lists a variable, with what it lists TIED to the program's text (the seventh form; the later family's looks); each row that meets fmt, with fmt's text TOLD by the authors' own Lean function (tested against real Go, not proved from fmt's source: count such statements apart). THE CARD IS WHAT COUNTS. Prove the row's statement (the work); the ties are given (YtpkhhphpjhfoiaaGreatDoorTie.lean); close each card by the builder's one call (the guide's Derived/Test/ToyasCard.lean, 'card_holds'). Laid BY PROGRAM, IN A SANDBOX (cutbox-door.mjs). By AI agents, Wed Nov 11 2026. No macro, syntax, notation, axiom, sorry.
-/
import Derived.Test.YtpkhhphpjhfoiaaGreatDoorRows
import GoSem.ClaimSeven
namespace Go.Proofs.YtpkhhphpjhfoiaaGreatDoor
namespace Rows

/-- THE TIED CARD OF 'encorelaw20.LiftNames'. -/
def liftNamesCard : Claim7 := { stood := { row := liftNamesRow, standIns := [], harness := (true, "8b984e461cce90d226c1aec80754c53ebb919246c40c74ef0b079dd7ed8a4a96"), looks := false }, kinds := [], alts := [], laidByText := true, laidKinds := [.data], laidTests := true, laidLooks := .later }
def LiftNamesCardSaid : Prop := Claim7.holds Tryz.pinned (.plain (OpenSpec.ofChange liftNamesSpec)) liftNamesCard

/-- THE SECOND FORM's CARD OF 'encorelaw20.LiftNames'. -/
def liftNamesUptoCard : Claim7 := { stood := { row := liftNamesUptoRow, standIns := [], harness := (true, "8b984e461cce90d226c1aec80754c53ebb919246c40c74ef0b079dd7ed8a4a96"), looks := false }, kinds := [], alts := [], laidByText := true, laidKinds := [.data], laidTests := true, laidLooks := .later }
def LiftNamesUptoCardSaid : Prop := Claim7.holds Tryz.pinned (.plain (OpenSpec.upto liftNamesSpec)) liftNamesUptoCard
end Rows
end Go.Proofs.YtpkhhphpjhfoiaaGreatDoor
