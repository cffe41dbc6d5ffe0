/-
  DERIVED. GIVEN WITH THE SEED: THE CARDS: each row of YtbfajkcmehaliacGreatDoorRows.lean that lists a variable, with what it lists TIED to the program's text (the seventh form; the later family's looks); each row that meets fmt, with fmt's text TOLD by the authors' own Lean function (tested against real Go, not proved from fmt's source: count such statements apart). THE CARD IS WHAT COUNTS. Prove the row's statement (the work); the ties are given (YtbfajkcmehaliacGreatDoorTie.lean); close each card by the builder's one call (the guide's Derived/Test/ToyasCard.lean, 'card_holds'). Laid BY PROGRAM, IN A SANDBOX (cutbox-door.mjs). By AI agents, Wed Nov 11 2026. No macro, syntax, notation, axiom, sorry.
-/
import Derived.Test.YtbfajkcmehaliacGreatDoorRows
import GoSem.ClaimSeven
namespace Go.Proofs.YtbfajkcmehaliacGreatDoor
namespace Rows

/-- THE TIED CARD OF 'encorelaw21.FoldAgain'. -/
def foldAgainCard : Claim7 := { stood := { row := foldAgainRow, standIns := [], harness := (true, "6252e31655983c7804b3e27b2f9a787ee42c84fc653f1ea13709c405796f3491"), looks := false }, kinds := [], alts := [], laidByText := true, laidKinds := [.data], laidTests := true, laidLooks := .later }
def FoldAgainCardSaid : Prop := Claim7.holds Tryz.pinned (.plain (OpenSpec.ofChange foldAgainSpec)) foldAgainCard

/-- THE TIED CARD OF 'encorelaw21.FoldLeft'. -/
def foldLeftCard : Claim7 := { stood := { row := foldLeftRow, standIns := [], harness := (true, "6252e31655983c7804b3e27b2f9a787ee42c84fc653f1ea13709c405796f3491"), looks := false }, kinds := [], alts := [], laidByText := true, laidKinds := [.data], laidTests := true, laidLooks := .later }
def FoldLeftCardSaid : Prop := Claim7.holds Tryz.pinned (.plain (OpenSpec.ofChange foldLeftSpec)) foldLeftCard

/-- THE TIED CARD OF 'encorelaw21.FoldSame'. -/
def foldSameCard : Claim7 := { stood := { row := foldSameRow, standIns := [], harness := (true, "6252e31655983c7804b3e27b2f9a787ee42c84fc653f1ea13709c405796f3491"), looks := false }, kinds := [], alts := [], laidByText := true, laidKinds := [.data], laidTests := true, laidLooks := .later }
def FoldSameCardSaid : Prop := Claim7.holds Tryz.pinned (.plain (OpenSpec.ofChange foldSameSpec)) foldSameCard

/-- THE SECOND FORM's CARD OF 'encorelaw21.FoldAgain'. -/
def foldAgainUptoCard : Claim7 := { stood := { row := foldAgainUptoRow, standIns := [], harness := (true, "6252e31655983c7804b3e27b2f9a787ee42c84fc653f1ea13709c405796f3491"), looks := false }, kinds := [], alts := [], laidByText := true, laidKinds := [.data], laidTests := true, laidLooks := .later }
def FoldAgainUptoCardSaid : Prop := Claim7.holds Tryz.pinned (.plain (OpenSpec.upto foldAgainSpec)) foldAgainUptoCard

/-- THE SECOND FORM's CARD OF 'encorelaw21.FoldLeft'. -/
def foldLeftUptoCard : Claim7 := { stood := { row := foldLeftUptoRow, standIns := [], harness := (true, "6252e31655983c7804b3e27b2f9a787ee42c84fc653f1ea13709c405796f3491"), looks := false }, kinds := [], alts := [], laidByText := true, laidKinds := [.data], laidTests := true, laidLooks := .later }
def FoldLeftUptoCardSaid : Prop := Claim7.holds Tryz.pinned (.plain (OpenSpec.upto foldLeftSpec)) foldLeftUptoCard

/-- THE SECOND FORM's CARD OF 'encorelaw21.FoldSame'. -/
def foldSameUptoCard : Claim7 := { stood := { row := foldSameUptoRow, standIns := [], harness := (true, "6252e31655983c7804b3e27b2f9a787ee42c84fc653f1ea13709c405796f3491"), looks := false }, kinds := [], alts := [], laidByText := true, laidKinds := [.data], laidTests := true, laidLooks := .later }
def FoldSameUptoCardSaid : Prop := Claim7.holds Tryz.pinned (.plain (OpenSpec.upto foldSameSpec)) foldSameUptoCard
end Rows
end Go.Proofs.YtbfajkcmehaliacGreatDoor
