/-
  DERIVED. GIVEN WITH THE SEED: THE CARDS: each row of YtdfbljoiiofejaaGreatDoorRows.lean that lists a variable, with what it lists TIED to the program's text (the seventh form; the later family's looks); each row that meets fmt, with fmt's text TOLD by the authors' own Lean function (tested against real Go, not proved from fmt's source: count such statements apart). THE CARD IS WHAT COUNTS. Prove the row's statement (the work); the ties are given (YtdfbljoiiofejaaGreatDoorTie.lean); close each card by the builder's one call (the guide's Derived/Test/ToyasCard.lean, 'card_holds'). Laid BY PROGRAM, IN A SANDBOX (cutbox-door.mjs). By AI agents, Wed Nov 11 2026. No macro, syntax, notation, axiom, sorry.
-/
import Derived.Test.YtdfbljoiiofejaaGreatDoorRows
import GoSem.ClaimSeven
namespace Go.Proofs.YtdfbljoiiofejaaGreatDoor
namespace Rows

/-- THE TIED CARD OF 'encorelaw21.FoldOf'. -/
def foldOfCard : Claim7 := { stood := { row := foldOfRow, standIns := [], harness := (true, "b93ae197079655134eb1561020c8f18f96960cd798308e069f2ba4ca48923336"), looks := false }, kinds := [], alts := [], laidByText := true, laidKinds := [.data], laidTests := true, laidLooks := .later }
def FoldOfCardSaid : Prop := Claim7.holds Tryz.pinned (.plain (OpenSpec.ofChange foldOfSpec)) foldOfCard

/-- THE TIED CARD OF 'encorelaw21.FoldAgain'. -/
def foldAgainCard : Claim7 := { stood := { row := foldAgainRow, standIns := [], harness := (true, "b93ae197079655134eb1561020c8f18f96960cd798308e069f2ba4ca48923336"), looks := false }, kinds := [], alts := [], laidByText := true, laidKinds := [.data], laidTests := true, laidLooks := .later }
def FoldAgainCardSaid : Prop := Claim7.holds Tryz.pinned (.plain (OpenSpec.ofChange foldAgainSpec)) foldAgainCard

/-- THE TIED CARD OF 'encorelaw21.FoldLeft'. -/
def foldLeftCard : Claim7 := { stood := { row := foldLeftRow, standIns := [], harness := (true, "b93ae197079655134eb1561020c8f18f96960cd798308e069f2ba4ca48923336"), looks := false }, kinds := [], alts := [], laidByText := true, laidKinds := [.data], laidTests := true, laidLooks := .later }
def FoldLeftCardSaid : Prop := Claim7.holds Tryz.pinned (.plain (OpenSpec.ofChange foldLeftSpec)) foldLeftCard

/-- THE TIED CARD OF 'encorelaw21.FoldNames'. -/
def foldNamesCard : Claim7 := { stood := { row := foldNamesRow, standIns := [], harness := (true, "b93ae197079655134eb1561020c8f18f96960cd798308e069f2ba4ca48923336"), looks := false }, kinds := [], alts := [], laidByText := true, laidKinds := [.data], laidTests := true, laidLooks := .later }
def FoldNamesCardSaid : Prop := Claim7.holds Tryz.pinned (.plain (OpenSpec.ofChange foldNamesSpec)) foldNamesCard

/-- THE TIED CARD OF 'encorelaw21.FoldSame'. -/
def foldSameCard : Claim7 := { stood := { row := foldSameRow, standIns := [], harness := (true, "b93ae197079655134eb1561020c8f18f96960cd798308e069f2ba4ca48923336"), looks := false }, kinds := [], alts := [], laidByText := true, laidKinds := [.data], laidTests := true, laidLooks := .later }
def FoldSameCardSaid : Prop := Claim7.holds Tryz.pinned (.plain (OpenSpec.ofChange foldSameSpec)) foldSameCard

/-- THE SECOND FORM's CARD OF 'encorelaw21.FoldOf'. -/
def foldOfUptoCard : Claim7 := { stood := { row := foldOfUptoRow, standIns := [], harness := (true, "b93ae197079655134eb1561020c8f18f96960cd798308e069f2ba4ca48923336"), looks := false }, kinds := [], alts := [], laidByText := true, laidKinds := [.data], laidTests := true, laidLooks := .later }
def FoldOfUptoCardSaid : Prop := Claim7.holds Tryz.pinned (.plain (OpenSpec.upto foldOfSpec)) foldOfUptoCard

/-- THE SECOND FORM's CARD OF 'encorelaw21.FoldAgain'. -/
def foldAgainUptoCard : Claim7 := { stood := { row := foldAgainUptoRow, standIns := [], harness := (true, "b93ae197079655134eb1561020c8f18f96960cd798308e069f2ba4ca48923336"), looks := false }, kinds := [], alts := [], laidByText := true, laidKinds := [.data], laidTests := true, laidLooks := .later }
def FoldAgainUptoCardSaid : Prop := Claim7.holds Tryz.pinned (.plain (OpenSpec.upto foldAgainSpec)) foldAgainUptoCard

/-- THE SECOND FORM's CARD OF 'encorelaw21.FoldLeft'. -/
def foldLeftUptoCard : Claim7 := { stood := { row := foldLeftUptoRow, standIns := [], harness := (true, "b93ae197079655134eb1561020c8f18f96960cd798308e069f2ba4ca48923336"), looks := false }, kinds := [], alts := [], laidByText := true, laidKinds := [.data], laidTests := true, laidLooks := .later }
def FoldLeftUptoCardSaid : Prop := Claim7.holds Tryz.pinned (.plain (OpenSpec.upto foldLeftSpec)) foldLeftUptoCard

/-- THE SECOND FORM's CARD OF 'encorelaw21.FoldNames'. -/
def foldNamesUptoCard : Claim7 := { stood := { row := foldNamesUptoRow, standIns := [], harness := (true, "b93ae197079655134eb1561020c8f18f96960cd798308e069f2ba4ca48923336"), looks := false }, kinds := [], alts := [], laidByText := true, laidKinds := [.data], laidTests := true, laidLooks := .later }
def FoldNamesUptoCardSaid : Prop := Claim7.holds Tryz.pinned (.plain (OpenSpec.upto foldNamesSpec)) foldNamesUptoCard

/-- THE SECOND FORM's CARD OF 'encorelaw21.FoldSame'. -/
def foldSameUptoCard : Claim7 := { stood := { row := foldSameUptoRow, standIns := [], harness := (true, "b93ae197079655134eb1561020c8f18f96960cd798308e069f2ba4ca48923336"), looks := false }, kinds := [], alts := [], laidByText := true, laidKinds := [.data], laidTests := true, laidLooks := .later }
def FoldSameUptoCardSaid : Prop := Claim7.holds Tryz.pinned (.plain (OpenSpec.upto foldSameSpec)) foldSameUptoCard
end Rows
end Go.Proofs.YtdfbljoiiofejaaGreatDoor
