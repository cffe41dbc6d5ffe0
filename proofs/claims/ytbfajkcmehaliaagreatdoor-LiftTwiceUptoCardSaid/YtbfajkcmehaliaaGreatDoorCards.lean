/-
  DERIVED. GIVEN WITH THE SEED: THE CARDS: each row of YtbfajkcmehaliaaGreatDoorRows.lean that lists a variable, with what it lists TIED to the program's text (the seventh form; the later family's looks); each row that meets fmt, with fmt's text TOLD by the authors' own Lean function (tested against real Go, not proved from fmt's source: count such statements apart). THE CARD IS WHAT COUNTS. Prove the row's statement (the work); the ties are given (YtbfajkcmehaliaaGreatDoorTie.lean); close each card by the builder's one call (the guide's Derived/Test/ToyasCard.lean, 'card_holds'). Laid BY PROGRAM, IN A SANDBOX (cutbox-door.mjs). By AI agents, Wed Nov 11 2026. No macro, syntax, notation, axiom, sorry.
-/
import Derived.Test.YtbfajkcmehaliaaGreatDoorRows
import GoSem.ClaimSeven
namespace Go.Proofs.YtbfajkcmehaliaaGreatDoor
namespace Rows

/-- THE TIED CARD OF 'encorelaw20.LiftTyped'. -/
def liftTypedCard : Claim7 := { stood := { row := liftTypedRow, standIns := [], harness := (true, "e69f2abb0ebcd5eb29c1f43564b3b7573df734b92e506bb29577cb6ea6378442"), looks := false }, kinds := [], alts := [], laidByText := true, laidKinds := [.data], laidTests := true, laidLooks := .later }
def LiftTypedCardSaid : Prop := Claim7.holds Tryz.pinned (.plain (OpenSpec.ofChange liftTypedSpec)) liftTypedCard

/-- THE TIED CARD OF 'encorelaw20.LiftNow'. -/
def liftNowCard : Claim7 := { stood := { row := liftNowRow, standIns := [], harness := (true, "e69f2abb0ebcd5eb29c1f43564b3b7573df734b92e506bb29577cb6ea6378442"), looks := false }, kinds := [], alts := [], laidByText := true, laidKinds := [.data], laidTests := true, laidLooks := .later }
def LiftNowCardSaid : Prop := Claim7.holds Tryz.pinned (.plain (OpenSpec.ofChange liftNowSpec)) liftNowCard

/-- THE TIED CARD OF 'encorelaw20.LiftTwice'. -/
def liftTwiceCard : Claim7 := { stood := { row := liftTwiceRow, standIns := [], harness := (true, "e69f2abb0ebcd5eb29c1f43564b3b7573df734b92e506bb29577cb6ea6378442"), looks := false }, kinds := [], alts := [], laidByText := true, laidKinds := [.data], laidTests := true, laidLooks := .later }
def LiftTwiceCardSaid : Prop := Claim7.holds Tryz.pinned (.plain (OpenSpec.ofChange liftTwiceSpec)) liftTwiceCard

/-- THE SECOND FORM's CARD OF 'encorelaw20.LiftTyped'. -/
def liftTypedUptoCard : Claim7 := { stood := { row := liftTypedUptoRow, standIns := [], harness := (true, "e69f2abb0ebcd5eb29c1f43564b3b7573df734b92e506bb29577cb6ea6378442"), looks := false }, kinds := [], alts := [], laidByText := true, laidKinds := [.data], laidTests := true, laidLooks := .later }
def LiftTypedUptoCardSaid : Prop := Claim7.holds Tryz.pinned (.plain (OpenSpec.upto liftTypedSpec)) liftTypedUptoCard

/-- THE SECOND FORM's CARD OF 'encorelaw20.LiftNow'. -/
def liftNowUptoCard : Claim7 := { stood := { row := liftNowUptoRow, standIns := [], harness := (true, "e69f2abb0ebcd5eb29c1f43564b3b7573df734b92e506bb29577cb6ea6378442"), looks := false }, kinds := [], alts := [], laidByText := true, laidKinds := [.data], laidTests := true, laidLooks := .later }
def LiftNowUptoCardSaid : Prop := Claim7.holds Tryz.pinned (.plain (OpenSpec.upto liftNowSpec)) liftNowUptoCard

/-- THE SECOND FORM's CARD OF 'encorelaw20.LiftTwice'. -/
def liftTwiceUptoCard : Claim7 := { stood := { row := liftTwiceUptoRow, standIns := [], harness := (true, "e69f2abb0ebcd5eb29c1f43564b3b7573df734b92e506bb29577cb6ea6378442"), looks := false }, kinds := [], alts := [], laidByText := true, laidKinds := [.data], laidTests := true, laidLooks := .later }
def LiftTwiceUptoCardSaid : Prop := Claim7.holds Tryz.pinned (.plain (OpenSpec.upto liftTwiceSpec)) liftTwiceUptoCard
end Rows
end Go.Proofs.YtbfajkcmehaliaaGreatDoor
