/-
  DERIVED. GIVEN WITH THE SEED: THE CARDS: each row of YtghhbelpkckmaaaDoorRows.lean that lists a variable, with what it lists TIED to the program's text (the seventh form; the later family's looks); each row that meets fmt, with fmt's text TOLD by the authors' own Lean function (tested against real Go, not proved from fmt's source: count such statements apart). THE CARD IS WHAT COUNTS. Prove the row's statement (the work); the ties are given (YtghhbelpkckmaaaDoorTie.lean); close each card by the builder's one call (the guide's Derived/Test/ToyasCard.lean, 'card_holds'). Laid BY PROGRAM, IN A SANDBOX (cutbox-door.mjs). By AI agents, Wed Nov 11 2026. No macro, syntax, notation, axiom, sorry.
-/
import Derived.Test.YtghhbelpkckmaaaDoorRows
import GoSem.ClaimSeven
namespace Go.Proofs.YtghhbelpkckmaaaDoor
namespace Rows

/-- THE TIED CARD OF 'encorelaw24.FuseAgain'. -/
def fuseAgainCard : Claim7 := { stood := { row := fuseAgainRow, standIns := [], harness := (true, "a0b598ceaa587d0b0149a42002e6777deea4cca5519a434ce61d49e6eafb44fd"), looks := false }, kinds := [], alts := [], laidByText := true, laidKinds := [.data], laidTests := true, laidLooks := .later }
def FuseAgainCardSaid : Prop := Claim7.holds Tryd.pinned (.plain (OpenSpec.ofChange fuseAgainSpec)) fuseAgainCard

/-- THE TIED CARD OF 'encorelaw24.FuseLeft'. -/
def fuseLeftCard : Claim7 := { stood := { row := fuseLeftRow, standIns := [], harness := (true, "a0b598ceaa587d0b0149a42002e6777deea4cca5519a434ce61d49e6eafb44fd"), looks := false }, kinds := [], alts := [], laidByText := true, laidKinds := [.data], laidTests := true, laidLooks := .later }
def FuseLeftCardSaid : Prop := Claim7.holds Tryd.pinned (.plain (OpenSpec.ofChange fuseLeftSpec)) fuseLeftCard

/-- THE TIED CARD OF 'encorelaw24.FuseNames'. -/
def fuseNamesCard : Claim7 := { stood := { row := fuseNamesRow, standIns := [], harness := (true, "a0b598ceaa587d0b0149a42002e6777deea4cca5519a434ce61d49e6eafb44fd"), looks := false }, kinds := [], alts := [], laidByText := true, laidKinds := [.data], laidTests := true, laidLooks := .later }
def FuseNamesCardSaid : Prop := Claim7.holds Tryd.pinned (.plain (OpenSpec.ofChange fuseNamesSpec)) fuseNamesCard

/-- THE SECOND FORM's CARD OF 'encorelaw24.FuseAgain'. -/
def fuseAgainUptoCard : Claim7 := { stood := { row := fuseAgainUptoRow, standIns := [], harness := (true, "a0b598ceaa587d0b0149a42002e6777deea4cca5519a434ce61d49e6eafb44fd"), looks := false }, kinds := [], alts := [], laidByText := true, laidKinds := [.data], laidTests := true, laidLooks := .later }
def FuseAgainUptoCardSaid : Prop := Claim7.holds Tryd.pinned (.plain (OpenSpec.upto fuseAgainSpec)) fuseAgainUptoCard

/-- THE SECOND FORM's CARD OF 'encorelaw24.FuseLeft'. -/
def fuseLeftUptoCard : Claim7 := { stood := { row := fuseLeftUptoRow, standIns := [], harness := (true, "a0b598ceaa587d0b0149a42002e6777deea4cca5519a434ce61d49e6eafb44fd"), looks := false }, kinds := [], alts := [], laidByText := true, laidKinds := [.data], laidTests := true, laidLooks := .later }
def FuseLeftUptoCardSaid : Prop := Claim7.holds Tryd.pinned (.plain (OpenSpec.upto fuseLeftSpec)) fuseLeftUptoCard

/-- THE SECOND FORM's CARD OF 'encorelaw24.FuseNames'. -/
def fuseNamesUptoCard : Claim7 := { stood := { row := fuseNamesUptoRow, standIns := [], harness := (true, "a0b598ceaa587d0b0149a42002e6777deea4cca5519a434ce61d49e6eafb44fd"), looks := false }, kinds := [], alts := [], laidByText := true, laidKinds := [.data], laidTests := true, laidLooks := .later }
def FuseNamesUptoCardSaid : Prop := Claim7.holds Tryd.pinned (.plain (OpenSpec.upto fuseNamesSpec)) fuseNamesUptoCard
end Rows
end Go.Proofs.YtghhbelpkckmaaaDoor
