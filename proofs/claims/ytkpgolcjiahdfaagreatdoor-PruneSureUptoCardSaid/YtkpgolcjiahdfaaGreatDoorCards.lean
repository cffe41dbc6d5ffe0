/-
  DERIVED. GIVEN WITH THE SEED: THE CARDS: each row of YtkpgolcjiahdfaaGreatDoorRows.lean that lists a variable, with what it lists TIED to the program's text (the seventh form; the later family's looks); each row that meets fmt, with fmt's text TOLD by the authors' own Lean function (tested against real Go, not proved from fmt's source: count such statements apart). THE CARD IS WHAT COUNTS. Prove the row's statement (the work); the ties are given (YtkpgolcjiahdfaaGreatDoorTie.lean); close each card by the builder's one call (the guide's Derived/Test/ToyasCard.lean, 'card_holds'). Laid BY PROGRAM, IN A SANDBOX (cutbox-door.mjs). By AI agents, Wed Nov 11 2026. No macro, syntax, notation, axiom, sorry.
-/
import Derived.Test.YtkpgolcjiahdfaaGreatDoorRows
import GoSem.ClaimSeven
namespace Go.Proofs.YtkpgolcjiahdfaaGreatDoor
namespace Rows

/-- THE TIED CARD OF 'encorelaw23.PruneSame'. -/
def pruneSameCard : Claim7 := { stood := { row := pruneSameRow, standIns := [], harness := (true, "7e8f6a25283ddb8e8e7940f851ca7c00ef1ac144525d0cc4692eb6373f7e1691"), looks := false }, kinds := [], alts := [], laidByText := true, laidKinds := [.data], laidTests := true, laidLooks := .later }
def PruneSameCardSaid : Prop := Claim7.holds Tryz.pinned (.plain (OpenSpec.ofChange pruneSameSpec)) pruneSameCard

/-- THE TIED CARD OF 'encorelaw23.PruneSure'. -/
def pruneSureCard : Claim7 := { stood := { row := pruneSureRow, standIns := [], harness := (true, "7e8f6a25283ddb8e8e7940f851ca7c00ef1ac144525d0cc4692eb6373f7e1691"), looks := false }, kinds := [], alts := [], laidByText := true, laidKinds := [.data], laidTests := true, laidLooks := .later }
def PruneSureCardSaid : Prop := Claim7.holds Tryz.pinned (.plain (OpenSpec.ofChange pruneSureSpec)) pruneSureCard

/-- THE SECOND FORM's CARD OF 'encorelaw23.PruneSame'. -/
def pruneSameUptoCard : Claim7 := { stood := { row := pruneSameUptoRow, standIns := [], harness := (true, "7e8f6a25283ddb8e8e7940f851ca7c00ef1ac144525d0cc4692eb6373f7e1691"), looks := false }, kinds := [], alts := [], laidByText := true, laidKinds := [.data], laidTests := true, laidLooks := .later }
def PruneSameUptoCardSaid : Prop := Claim7.holds Tryz.pinned (.plain (OpenSpec.upto pruneSameSpec)) pruneSameUptoCard

/-- THE SECOND FORM's CARD OF 'encorelaw23.PruneSure'. -/
def pruneSureUptoCard : Claim7 := { stood := { row := pruneSureUptoRow, standIns := [], harness := (true, "7e8f6a25283ddb8e8e7940f851ca7c00ef1ac144525d0cc4692eb6373f7e1691"), looks := false }, kinds := [], alts := [], laidByText := true, laidKinds := [.data], laidTests := true, laidLooks := .later }
def PruneSureUptoCardSaid : Prop := Claim7.holds Tryz.pinned (.plain (OpenSpec.upto pruneSureSpec)) pruneSureUptoCard
end Rows
end Go.Proofs.YtkpgolcjiahdfaaGreatDoor
