/-
  DERIVED. GIVEN WITH THE SEED: THE CARDS: each row of YtbdgnffoloakiaaDoorRows.lean that lists a variable, with what it lists TIED to the program's text (the seventh form; the later family's looks); each row that meets fmt, with fmt's text TOLD by the authors' own Lean function (tested against real Go, not proved from fmt's source: count such statements apart). THE CARD IS WHAT COUNTS. Prove the row's statement (the work); the ties are given (YtbdgnffoloakiaaDoorTie.lean); close each card by the builder's one call (the guide's Derived/Test/ToyasCard.lean, 'card_holds'). Laid BY PROGRAM, IN A SANDBOX (cutbox-door.mjs). By AI agents, Wed Nov 11 2026. No macro, syntax, notation, axiom, sorry.
-/
import Derived.Test.YtbdgnffoloakiaaDoorRows
import GoSem.ClaimSeven
namespace Go.Proofs.YtbdgnffoloakiaaDoor
namespace Rows

/-- THE TIED CARD OF 'encorelaw23.PruneLess'. -/
def pruneLessCard : Claim7 := { stood := { row := pruneLessRow, standIns := [], harness := (true, "71a2c7e5d0c6d15ac661cd1f40a3c98f40e1f9f24802e1725c05ca30ec9dcca1"), looks := false }, kinds := [], alts := [], laidByText := true, laidKinds := [.data], laidTests := true, laidLooks := .later }
def PruneLessCardSaid : Prop := Claim7.holds Tryd.pinned (.plain (OpenSpec.ofChange pruneLessSpec)) pruneLessCard

/-- THE TIED CARD OF 'encorelaw23.PruneNames'. -/
def pruneNamesCard : Claim7 := { stood := { row := pruneNamesRow, standIns := [], harness := (true, "71a2c7e5d0c6d15ac661cd1f40a3c98f40e1f9f24802e1725c05ca30ec9dcca1"), looks := false }, kinds := [], alts := [], laidByText := true, laidKinds := [.data], laidTests := true, laidLooks := .later }
def PruneNamesCardSaid : Prop := Claim7.holds Tryd.pinned (.plain (OpenSpec.ofChange pruneNamesSpec)) pruneNamesCard

/-- THE SECOND FORM's CARD OF 'encorelaw23.PruneLess'. -/
def pruneLessUptoCard : Claim7 := { stood := { row := pruneLessUptoRow, standIns := [], harness := (true, "71a2c7e5d0c6d15ac661cd1f40a3c98f40e1f9f24802e1725c05ca30ec9dcca1"), looks := false }, kinds := [], alts := [], laidByText := true, laidKinds := [.data], laidTests := true, laidLooks := .later }
def PruneLessUptoCardSaid : Prop := Claim7.holds Tryd.pinned (.plain (OpenSpec.upto pruneLessSpec)) pruneLessUptoCard

/-- THE SECOND FORM's CARD OF 'encorelaw23.PruneNames'. -/
def pruneNamesUptoCard : Claim7 := { stood := { row := pruneNamesUptoRow, standIns := [], harness := (true, "71a2c7e5d0c6d15ac661cd1f40a3c98f40e1f9f24802e1725c05ca30ec9dcca1"), looks := false }, kinds := [], alts := [], laidByText := true, laidKinds := [.data], laidTests := true, laidLooks := .later }
def PruneNamesUptoCardSaid : Prop := Claim7.holds Tryd.pinned (.plain (OpenSpec.upto pruneNamesSpec)) pruneNamesUptoCard
end Rows
end Go.Proofs.YtbdgnffoloakiaaDoor
