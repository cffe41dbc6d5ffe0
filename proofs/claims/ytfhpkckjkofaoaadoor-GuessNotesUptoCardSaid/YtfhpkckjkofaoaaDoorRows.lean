/-
  NARROWER THAN 'FOR EVERY INPUT', by the rows' own cells (each row's printed sentence says how): GuessNotes: loops, laid.
  DERIVED. THE GIVEN ROWS OF THIS SEAT. 1 by the template 'for every input the law returns true; each argument reads behind the call as it read before'; 0 by the template 'total and deterministic' (their statements: YtfhpkckjkofaoaaDoorTotals.lean).
  GIVEN WITH THE SEED: the statements are not yours to turn. If you find one false, say at which input.
  Laid BY PROGRAM, IN A SANDBOX (cutbox-rows.mjs): the forced cells as the released guide's own fill.sh prints them over the translation 235f56ca511eed2d… (all of the seat's roots in one cut). By AI agents, Wed Nov 11 2026. No macro, syntax, notation, axiom, sorry.
-/
import Derived.Test.YtfhpkckjkofaoaaDoorChecked
import GoSem.Claim
import GoSem.ClaimJoined
import GoSem.ClaimMapViews
import Derived.JoinedTies
import Derived.KernelRfl
namespace Go.Proofs.YtfhpkckjkofaoaaDoor
/- THE CELL 'sum', in the pinned program and in every row, IS THE sha256 OF THE DUMP (.gsa) THAT YtfhpkckjkofaoaaDoorProg.lean LOADS. Nothing in Lean hashes anything: it is a label: what it is worth is what the hold of that sum in a sandbox is worth. -/
noncomputable def Tryd.pinned : Pinned := { name := "ytfhpkckjkofaoaadoor", sum := "235f56ca511eed2d80e0df34cf8b8041660adc1c8b114f9525455a27a43ebcf4", checked := Tryd.checked }
namespace Rows
def none {H : Type} : Left H := { results := [], args := [] }

/- WHAT THE LISTED PACKAGE-LEVEL VARIABLES READ AS WHEN THE CALL BEGINS. Each datum BY PROGRAM (the guide's laid-datum.mjs) off the statement by which the dump's own 'gosem.cut.vars' lays the variable. In a bare row this is a premise. The card (YtfhpkckjkofaoaaDoorCards.lean) ties it to the program's text. -/
def laid_encore_lift_bare {H : Type} : DataW H := .agg [.lit (.int .i64 0), .lit (.string []), .lit (.bool false)]

/-- 'encorelaw22.GuessNotes': WHATEVER THE INPUT: true; the input reads as it did. -/
def guessNotesSpec : ChangeSpec := { name := "guessNotes", fn := fun _ => fun
  | [d] => { results := [.lit (.bool true)], args := [d] }
  | _ => none }
def guessNotesRow : OpenClaim := { program := "ytfhpkckjkofaoaadoor", sum := "235f56ca511eed2d80e0df34cf8b8041660adc1c8b114f9525455a27a43ebcf4", func := "encore/encorelaw22.GuessNotes", spec := "guessNotes", inPlace := ["internal/bytealg.IndexByteString", "internal/bytealg.IndexString"], unfollowed := true, recurses := true, named := ["encore/lift.bare", "internal/bytealg.MaxLen"], loops := true, plainKeys := false, apart := false, laid := [("encore/lift.bare", laid_encore_lift_bare)] }
def GuessNotesSaid : Prop := guessNotesRow.holds Tryd.pinned (OpenSpec.ofChange guessNotesSpec)

/-- ITS FALSE NEIGHBOUR: 'it returns false'. Refute it at one input. -/
def guessNotesWrong : ChangeSpec := { name := "guessNotes", fn := fun _ => fun
  | [d] => { results := [.lit (.bool false)], args := [d] }
  | _ => none }
def GuessNotesWrongFalsely : Prop := guessNotesRow.holds Tryd.pinned (OpenSpec.ofChange guessNotesWrong)

/- THE SECOND FORM. 'bulk': how many values and letters a reading holds, each counted each time it is reached (what is shared counts as often as it is met; a slice's spare places count too). A statement '..UptoSaid' is the law's where the arguments, and the package variables that the reading takes, are together of bulk at most 1048576: NARROWER than '..Said'. Prove '..Said' where nothing that the law and all that it calls make is longer than what came in: it says more and counts as full. Else prove '..UptoSaid'. A law counts once. -/
mutual
def uptoBulk {H : Type} : DataW H → Nat
  | .lit (.string bytes) => bytes.length + 1
  | .lit _ => 1
  | .nil => 1
  | .ptr d => uptoBulk d + 1
  | .slice elems spare => uptoBulkAll elems + uptoBulkAll spare + 1
  | .agg parts => uptoBulkAll parts + 1
  | .iface _ d => uptoBulk d + 1
  | .map entries => uptoBulkEntries entries + 1
  | .held _ => 1
def uptoBulkAll {H : Type} : List (DataW H) → Nat
  | [] => 0
  | d :: r => uptoBulk d + uptoBulkAll r
def uptoBulkEntries {H : Type} : List (Lit × DataW H) → Nat
  | [] => 0
  | x :: r => uptoBulkEntry x + uptoBulkEntries r
def uptoBulkEntry {H : Type} : Lit × DataW H → Nat
  | (.string bytes, d) => bytes.length + uptoBulk d + 1
  | (_, d) => uptoBulk d + 1
 end
def uptoSmall : (H : Type) → List (DataW H) → Bool := fun _ ds => decide (uptoBulkAll ds ≤ 1048576)
def OpenSpec.upto (s : _root_.Go.ChangeSpec) : _root_.Go.OpenSpec := { _root_.Go.OpenSpec.ofChange s with cond := some uptoSmall }

/-- 'encorelaw22.GuessNotes', WHERE WHAT IT READS IS OF BULK AT MOST 1048576: true; the input reads as it did. -/
def guessNotesUptoRow : OpenClaim := { program := "ytfhpkckjkofaoaadoor", sum := "235f56ca511eed2d80e0df34cf8b8041660adc1c8b114f9525455a27a43ebcf4", func := "encore/encorelaw22.GuessNotes", spec := "guessNotes", inPlace := ["internal/bytealg.IndexByteString", "internal/bytealg.IndexString"], unfollowed := true, recurses := true, named := ["encore/lift.bare", "internal/bytealg.MaxLen"], loops := true, plainKeys := false, apart := false, laid := [("encore/lift.bare", laid_encore_lift_bare)], narrowed := true }
def GuessNotesUptoSaid : Prop := guessNotesUptoRow.holds Tryd.pinned (OpenSpec.upto guessNotesSpec)

end Rows
end Go.Proofs.YtfhpkckjkofaoaaDoor
