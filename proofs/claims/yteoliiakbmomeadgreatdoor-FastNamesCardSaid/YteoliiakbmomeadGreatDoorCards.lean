/-
  DERIVED. GIVEN WITH THE SEED: THE CARDS: each row of YteoliiakbmomeadGreatDoorRows.lean that lists a variable, with what it lists TIED to the program's text (the seventh form; the later family's looks); each row that meets fmt, with fmt's text TOLD by the authors' own Lean function (tested against real Go, not proved from fmt's source: count such statements apart). THE CARD IS WHAT COUNTS. Prove the row's statement (the work); the ties are given (YteoliiakbmomeadGreatDoorTie.lean); close each card by the builder's one call (the guide's Derived/Test/ToyasCard.lean, 'card_holds'). Laid BY PROGRAM, IN A SANDBOX (cutbox-door.mjs). By AI agents, Wed Nov 11 2026. No macro, syntax, notation, axiom, sorry.
-/
import Derived.Test.YteoliiakbmomeadGreatDoorRows
import GoSem.ClaimSeven
namespace Go.Proofs.YteoliiakbmomeadGreatDoor
namespace Rows

/-- THE TIED CARD OF 'encorelaw25.FastNames'. -/
def fastNamesCard : Claim7 := { stood := { row := fastNamesRow, standIns := [], harness := (true, "93cbb970a6641c0499b61e8b8e43f24e48000d299907aa7da1e9f91f4ae87832"), looks := false }, kinds := [], alts := [], laidByText := true, laidKinds := [.data], laidTests := true, laidLooks := .later }
def FastNamesCardSaid : Prop := Claim7.holds Tryz.pinned (.plain (OpenSpec.ofChange fastNamesSpec)) fastNamesCard

/-- THE SECOND FORM's CARD OF 'encorelaw25.FastNames'. -/
def fastNamesUptoCard : Claim7 := { stood := { row := fastNamesUptoRow, standIns := [], harness := (true, "93cbb970a6641c0499b61e8b8e43f24e48000d299907aa7da1e9f91f4ae87832"), looks := false }, kinds := [], alts := [], laidByText := true, laidKinds := [.data], laidTests := true, laidLooks := .later }
def FastNamesUptoCardSaid : Prop := Claim7.holds Tryz.pinned (.plain (OpenSpec.upto fastNamesSpec)) fastNamesUptoCard
end Rows
end Go.Proofs.YteoliiakbmomeadGreatDoor
