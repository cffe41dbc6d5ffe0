/-
  DERIVED. GIVEN WITH THE SEED: THE CARDS: each row of YtgpjfhaohjnbnaaGreatDoorRows.lean that lists a variable, with what it lists TIED to the program's text (the seventh form; the later family's looks); each row that meets fmt, with fmt's text TOLD by the authors' own Lean function (tested against real Go, not proved from fmt's source: count such statements apart). THE CARD IS WHAT COUNTS. Prove the row's statement (the work); the ties are given (YtgpjfhaohjnbnaaGreatDoorTie.lean); close each card by the builder's one call (the guide's Derived/Test/ToyasCard.lean, 'card_holds'). Laid BY PROGRAM, IN A SANDBOX (cutbox-door.mjs). By AI agents, Wed Nov 11 2026. No macro, syntax, notation, axiom, sorry.
-/
import Derived.Test.YtgpjfhaohjnbnaaGreatDoorRows
import GoSem.ClaimSeven
namespace Go.Proofs.YtgpjfhaohjnbnaaGreatDoor
namespace Rows

/-- THE TIED CARD OF 'encorelaw24.FuseSame'. -/
def fuseSameCard : Claim7 := { stood := { row := fuseSameRow, standIns := [], harness := (true, "33cde6a0574b06746270953a66fbc29a39005a9ed93a2aef1007ae93c6705bcd"), looks := false }, kinds := [], alts := [], laidByText := true, laidKinds := [.data], laidTests := true, laidLooks := .later }
def FuseSameCardSaid : Prop := Claim7.holds Tryz.pinned (.plain (OpenSpec.ofChange fuseSameSpec)) fuseSameCard

/-- THE SECOND FORM's CARD OF 'encorelaw24.FuseSame'. -/
def fuseSameUptoCard : Claim7 := { stood := { row := fuseSameUptoRow, standIns := [], harness := (true, "33cde6a0574b06746270953a66fbc29a39005a9ed93a2aef1007ae93c6705bcd"), looks := false }, kinds := [], alts := [], laidByText := true, laidKinds := [.data], laidTests := true, laidLooks := .later }
def FuseSameUptoCardSaid : Prop := Claim7.holds Tryz.pinned (.plain (OpenSpec.upto fuseSameSpec)) fuseSameUptoCard
end Rows
end Go.Proofs.YtgpjfhaohjnbnaaGreatDoor
