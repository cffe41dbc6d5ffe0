/-
  NARROWER THAN 'FOR EVERY INPUT', by the rows' own cells (each row's printed sentence says how): LiftTyped: loops, laid · LiftNow: loops, laid · LiftTwice: loops, laid.
  DERIVED. THE GIVEN ROWS OF THIS SEAT. 3 by the template 'for every input the law returns true; each argument reads behind the call as it read before'; 0 by the template 'total and deterministic' (their statements: YtbfajkcmehaliaaGreatDoorTotals.lean).
  GIVEN WITH THE SEED: the statements are not yours to turn. If you find one false, say at which input.
  Laid BY PROGRAM, IN A SANDBOX (cutbox-rows.mjs): the forced cells as the released guide's own fill.sh prints them over the translation fb91d3ecbe71f2ed… (all of the seat's roots in one cut). By AI agents, Wed Nov 11 2026. No macro, syntax, notation, axiom, sorry.
-/
import Derived.Test.YtbfajkcmehaliaaGreatDoorChecked
import GoSem.Claim
import GoSem.ClaimJoined
import GoSem.ClaimMapViews
import Derived.JoinedTies
import Derived.KernelRfl
namespace Go.Proofs.YtbfajkcmehaliaaGreatDoor
/- THE CELL 'sum', in the pinned program and in every row, IS THE sha256 OF THE DUMP (.gsa) THAT YtbfajkcmehaliaaGreatDoorProg.lean LOADS. Nothing in Lean hashes anything: it is a label: what it is worth is what the hold of that sum in a sandbox is worth. -/
noncomputable def Tryz.pinned : Pinned := { name := "ytbfajkcmehaliaagreatdoor", sum := "fb91d3ecbe71f2ed80849708b9bf6ea45d7bedffeaa35a2a81d64a7ba5c258d0", checked := Tryz.checked }
namespace Rows
def none {H : Type} : Left H := { results := [], args := [] }

/- WHAT THE LISTED PACKAGE-LEVEL VARIABLES READ AS WHEN THE CALL BEGINS. Each datum BY PROGRAM (the guide's laid-datum.mjs) off the statement by which the dump's own 'gosem.cut.vars' lays the variable. In a bare row this is a premise. The card (YtbfajkcmehaliaaGreatDoorCards.lean) ties it to the program's text. -/
def laid_encore_lift_bare {H : Type} : DataW H := .agg [.lit (.int .i64 0), .lit (.string []), .lit (.bool false)]

/-- 'encorelaw20.LiftTyped': WHATEVER THE INPUT: true; the input reads as it did. -/
def liftTypedSpec : ChangeSpec := { name := "liftTyped", fn := fun _ => fun
  | [d1, d2, d3] => { results := [.lit (.bool true)], args := [d1, d2, d3] }
  | _ => none }
def liftTypedRow : OpenClaim := { program := "ytbfajkcmehaliaagreatdoor", sum := "fb91d3ecbe71f2ed80849708b9bf6ea45d7bedffeaa35a2a81d64a7ba5c258d0", func := "encore/encorelaw20.LiftTyped", spec := "liftTyped", inPlace := ["internal/bytealg.IndexByteString", "internal/bytealg.IndexString"], unfollowed := true, recurses := true, named := ["internal/bytealg.MaxLen", "encore/lift.bare"], loops := true, apart := false, laid := [("encore/lift.bare", laid_encore_lift_bare)] }
def LiftTypedSaid : Prop := liftTypedRow.holds Tryz.pinned (OpenSpec.ofChange liftTypedSpec)

/-- ITS FALSE NEIGHBOUR: 'it returns false'. Refute it at one input. -/
def liftTypedWrong : ChangeSpec := { name := "liftTyped", fn := fun _ => fun
  | [d1, d2, d3] => { results := [.lit (.bool false)], args := [d1, d2, d3] }
  | _ => none }
def LiftTypedWrongFalsely : Prop := liftTypedRow.holds Tryz.pinned (OpenSpec.ofChange liftTypedWrong)

/-- 'encorelaw20.LiftNow': WHATEVER THE INPUT: true; the input reads as it did. -/
def liftNowSpec : ChangeSpec := { name := "liftNow", fn := fun _ => fun
  | [d1, d2] => { results := [.lit (.bool true)], args := [d1, d2] }
  | _ => none }
def liftNowRow : OpenClaim := { program := "ytbfajkcmehaliaagreatdoor", sum := "fb91d3ecbe71f2ed80849708b9bf6ea45d7bedffeaa35a2a81d64a7ba5c258d0", func := "encore/encorelaw20.LiftNow", spec := "liftNow", inPlace := ["internal/bytealg.IndexByteString", "internal/bytealg.IndexString"], unfollowed := true, recurses := true, named := ["internal/bytealg.MaxLen", "encore/lift.bare"], loops := true, apart := false, laid := [("encore/lift.bare", laid_encore_lift_bare)] }
def LiftNowSaid : Prop := liftNowRow.holds Tryz.pinned (OpenSpec.ofChange liftNowSpec)

/-- ITS FALSE NEIGHBOUR: 'it returns false'. Refute it at one input. -/
def liftNowWrong : ChangeSpec := { name := "liftNow", fn := fun _ => fun
  | [d1, d2] => { results := [.lit (.bool false)], args := [d1, d2] }
  | _ => none }
def LiftNowWrongFalsely : Prop := liftNowRow.holds Tryz.pinned (OpenSpec.ofChange liftNowWrong)

/-- 'encorelaw20.LiftTwice': WHATEVER THE INPUT: true; the input reads as it did. -/
def liftTwiceSpec : ChangeSpec := { name := "liftTwice", fn := fun _ => fun
  | [d1, d2, d3] => { results := [.lit (.bool true)], args := [d1, d2, d3] }
  | _ => none }
def liftTwiceRow : OpenClaim := { program := "ytbfajkcmehaliaagreatdoor", sum := "fb91d3ecbe71f2ed80849708b9bf6ea45d7bedffeaa35a2a81d64a7ba5c258d0", func := "encore/encorelaw20.LiftTwice", spec := "liftTwice", inPlace := ["internal/bytealg.IndexByteString", "internal/bytealg.IndexString"], unfollowed := true, recurses := true, named := ["internal/bytealg.MaxLen", "encore/lift.bare"], loops := true, apart := false, laid := [("encore/lift.bare", laid_encore_lift_bare)] }
def LiftTwiceSaid : Prop := liftTwiceRow.holds Tryz.pinned (OpenSpec.ofChange liftTwiceSpec)

/-- ITS FALSE NEIGHBOUR: 'it returns false'. Refute it at one input. -/
def liftTwiceWrong : ChangeSpec := { name := "liftTwice", fn := fun _ => fun
  | [d1, d2, d3] => { results := [.lit (.bool false)], args := [d1, d2, d3] }
  | _ => none }
def LiftTwiceWrongFalsely : Prop := liftTwiceRow.holds Tryz.pinned (OpenSpec.ofChange liftTwiceWrong)

/- THE SECOND FORM. 'bulk': how many values and letters a reading holds, each counted each time it is reached (what is shared counts as often as it is met; a slice's spare places count too). A statement '..UptoSaid' is the law's where the arguments, and the package variables that the reading takes, are together of bulk at most 1048576: NARROWER than '..Said'. Prove '..Said' where nothing that the law and all that it calls make is longer than what came in: it says more and counts as full. Else prove '..UptoSaid'. A law counts once. -/
mutual
def uptoBulk {H : Type} : DataW H → Nat
  | .lit (.string bytes) => bytes.length + 1
  | .lit _ => 1
  | .nil => 1
  | .ptr d => uptoBulk d + 1
  | .slice elems spare => uptoBulkAll elems + uptoBulkAll spare + 1
  | .agg parts => uptoBulkAll parts + 1
  | .iface _ d => uptoBulk d + 1
  | .map entries => uptoBulkEntries entries + 1
  | .held _ => 1
def uptoBulkAll {H : Type} : List (DataW H) → Nat
  | [] => 0
  | d :: r => uptoBulk d + uptoBulkAll r
def uptoBulkEntries {H : Type} : List (Lit × DataW H) → Nat
  | [] => 0
  | x :: r => uptoBulkEntry x + uptoBulkEntries r
def uptoBulkEntry {H : Type} : Lit × DataW H → Nat
  | (.string bytes, d) => bytes.length + uptoBulk d + 1
  | (_, d) => uptoBulk d + 1
 end
def uptoSmall : (H : Type) → List (DataW H) → Bool := fun _ ds => decide (uptoBulkAll ds ≤ 1048576)
def OpenSpec.upto (s : _root_.Go.ChangeSpec) : _root_.Go.OpenSpec := { _root_.Go.OpenSpec.ofChange s with cond := some uptoSmall }

/-- 'encorelaw20.LiftTyped', WHERE WHAT IT READS IS OF BULK AT MOST 1048576: true; the input reads as it did. -/
def liftTypedUptoRow : OpenClaim := { program := "ytbfajkcmehaliaagreatdoor", sum := "fb91d3ecbe71f2ed80849708b9bf6ea45d7bedffeaa35a2a81d64a7ba5c258d0", func := "encore/encorelaw20.LiftTyped", spec := "liftTyped", inPlace := ["internal/bytealg.IndexByteString", "internal/bytealg.IndexString"], unfollowed := true, recurses := true, named := ["internal/bytealg.MaxLen", "encore/lift.bare"], loops := true, apart := false, laid := [("encore/lift.bare", laid_encore_lift_bare)], narrowed := true }
def LiftTypedUptoSaid : Prop := liftTypedUptoRow.holds Tryz.pinned (OpenSpec.upto liftTypedSpec)

/-- 'encorelaw20.LiftNow', WHERE WHAT IT READS IS OF BULK AT MOST 1048576: true; the input reads as it did. -/
def liftNowUptoRow : OpenClaim := { program := "ytbfajkcmehaliaagreatdoor", sum := "fb91d3ecbe71f2ed80849708b9bf6ea45d7bedffeaa35a2a81d64a7ba5c258d0", func := "encore/encorelaw20.LiftNow", spec := "liftNow", inPlace := ["internal/bytealg.IndexByteString", "internal/bytealg.IndexString"], unfollowed := true, recurses := true, named := ["internal/bytealg.MaxLen", "encore/lift.bare"], loops := true, apart := false, laid := [("encore/lift.bare", laid_encore_lift_bare)], narrowed := true }
def LiftNowUptoSaid : Prop := liftNowUptoRow.holds Tryz.pinned (OpenSpec.upto liftNowSpec)

/-- 'encorelaw20.LiftTwice', WHERE WHAT IT READS IS OF BULK AT MOST 1048576: true; the input reads as it did. -/
def liftTwiceUptoRow : OpenClaim := { program := "ytbfajkcmehaliaagreatdoor", sum := "fb91d3ecbe71f2ed80849708b9bf6ea45d7bedffeaa35a2a81d64a7ba5c258d0", func := "encore/encorelaw20.LiftTwice", spec := "liftTwice", inPlace := ["internal/bytealg.IndexByteString", "internal/bytealg.IndexString"], unfollowed := true, recurses := true, named := ["internal/bytealg.MaxLen", "encore/lift.bare"], loops := true, apart := false, laid := [("encore/lift.bare", laid_encore_lift_bare)], narrowed := true }
def LiftTwiceUptoSaid : Prop := liftTwiceUptoRow.holds Tryz.pinned (OpenSpec.upto liftTwiceSpec)

end Rows
end Go.Proofs.YtbfajkcmehaliaaGreatDoor
