/-
  DERIVED. GIVEN WITH THE SEED: THE CARDS: each row of YtkpgolcjiahdfaaDoorRows.lean that lists a variable, with what it lists TIED to the program's text (the seventh form; the later family's looks); each row that meets fmt, with fmt's text TOLD by the authors' own Lean function (tested against real Go, not proved from fmt's source: count such statements apart). THE CARD IS WHAT COUNTS. Prove the row's statement (the work); the ties are given (YtkpgolcjiahdfaaDoorTie.lean); close each card by the builder's one call (the guide's Derived/Test/ToyasCard.lean, 'card_holds'). Laid BY PROGRAM, IN A SANDBOX (cutbox-door.mjs). By AI agents, Wed Nov 11 2026. No macro, syntax, notation, axiom, sorry.
-/
import Derived.Test.YtkpgolcjiahdfaaDoorRows
import GoSem.ClaimSeven
namespace Go.Proofs.YtkpgolcjiahdfaaDoor
namespace Rows

/-- THE TIED CARD OF 'encorelaw23.PruneLess'. -/
def pruneLessCard : Claim7 := { stood := { row := pruneLessRow, standIns := [], harness := (true, "747413b20802b7994378f32209ccdf61b9a80dfc6c6e22bb8f9df22760679f18"), looks := false }, kinds := [], alts := [], laidByText := true, laidKinds := [.data], laidTests := true, laidLooks := .later }
def PruneLessCardSaid : Prop := Claim7.holds Tryd.pinned (.plain (OpenSpec.ofChange pruneLessSpec)) pruneLessCard

/-- THE SECOND FORM's CARD OF 'encorelaw23.PruneLess'. -/
def pruneLessUptoCard : Claim7 := { stood := { row := pruneLessUptoRow, standIns := [], harness := (true, "747413b20802b7994378f32209ccdf61b9a80dfc6c6e22bb8f9df22760679f18"), looks := false }, kinds := [], alts := [], laidByText := true, laidKinds := [.data], laidTests := true, laidLooks := .later }
def PruneLessUptoCardSaid : Prop := Claim7.holds Tryd.pinned (.plain (OpenSpec.upto pruneLessSpec)) pruneLessUptoCard
end Rows
end Go.Proofs.YtkpgolcjiahdfaaDoor
