/-
  NARROWER THAN 'FOR EVERY INPUT', by the rows' own cells (each row's printed sentence says how): PruneSame: loops, laid · PruneSure: loops, laid.
  DERIVED. THE GIVEN ROWS OF THIS SEAT. 2 by the template 'for every input the law returns true; each argument reads behind the call as it read before'; 0 by the template 'total and deterministic' (their statements: YtkpgolcjiahdfaaGreatDoorTotals.lean).
  GIVEN WITH THE SEED: the statements are not yours to turn. If you find one false, say at which input.
  Laid BY PROGRAM, IN A SANDBOX (cutbox-rows.mjs): the forced cells as the released guide's own fill.sh prints them over the translation ed622d45b9e903a4… (all of the seat's roots in one cut). By AI agents, Wed Nov 11 2026. No macro, syntax, notation, axiom, sorry.
-/
import Derived.Test.YtkpgolcjiahdfaaGreatDoorChecked
import GoSem.Claim
import GoSem.ClaimJoined
import GoSem.ClaimMapViews
import Derived.JoinedTies
import Derived.KernelRfl
namespace Go.Proofs.YtkpgolcjiahdfaaGreatDoor
/- THE CELL 'sum', in the pinned program and in every row, IS THE sha256 OF THE DUMP (.gsa) THAT YtkpgolcjiahdfaaGreatDoorProg.lean LOADS. Nothing in Lean hashes anything: it is a label: what it is worth is what the hold of that sum in a sandbox is worth. -/
noncomputable def Tryz.pinned : Pinned := { name := "ytkpgolcjiahdfaagreatdoor", sum := "ed622d45b9e903a4d64c1efd0d77b980007530dfc43bb006a41bcebf78306d3c", checked := Tryz.checked }
namespace Rows
def none {H : Type} : Left H := { results := [], args := [] }

/- WHAT THE LISTED PACKAGE-LEVEL VARIABLES READ AS WHEN THE CALL BEGINS. Each datum BY PROGRAM (the guide's laid-datum.mjs) off the statement by which the dump's own 'gosem.cut.vars' lays the variable. In a bare row this is a premise. The card (YtkpgolcjiahdfaaGreatDoorCards.lean) ties it to the program's text. -/
def laid_encore_lift_bare {H : Type} : DataW H := .agg [.lit (.int .i64 0), .lit (.string []), .lit (.bool false)]

/-- 'encorelaw23.PruneSame': WHATEVER THE INPUT: true; the input reads as it did. -/
def pruneSameSpec : ChangeSpec := { name := "pruneSame", fn := fun _ => fun
  | [d1, d2] => { results := [.lit (.bool true)], args := [d1, d2] }
  | _ => none }
def pruneSameRow : OpenClaim := { program := "ytkpgolcjiahdfaagreatdoor", sum := "ed622d45b9e903a4d64c1efd0d77b980007530dfc43bb006a41bcebf78306d3c", func := "encore/encorelaw23.PruneSame", spec := "pruneSame", inPlace := ["internal/bytealg.IndexByteString", "internal/bytealg.IndexString"], unfollowed := true, recurses := true, named := ["encore/lift.bare", "internal/bytealg.MaxLen"], loops := true, apart := false, laid := [("encore/lift.bare", laid_encore_lift_bare)] }
def PruneSameSaid : Prop := pruneSameRow.holds Tryz.pinned (OpenSpec.ofChange pruneSameSpec)

/-- ITS FALSE NEIGHBOUR: 'it returns false'. Refute it at one input. -/
def pruneSameWrong : ChangeSpec := { name := "pruneSame", fn := fun _ => fun
  | [d1, d2] => { results := [.lit (.bool false)], args := [d1, d2] }
  | _ => none }
def PruneSameWrongFalsely : Prop := pruneSameRow.holds Tryz.pinned (OpenSpec.ofChange pruneSameWrong)

/-- 'encorelaw23.PruneSure': WHATEVER THE INPUT: true; the input reads as it did. -/
def pruneSureSpec : ChangeSpec := { name := "pruneSure", fn := fun _ => fun
  | [d1, d2, d3] => { results := [.lit (.bool true)], args := [d1, d2, d3] }
  | _ => none }
def pruneSureRow : OpenClaim := { program := "ytkpgolcjiahdfaagreatdoor", sum := "ed622d45b9e903a4d64c1efd0d77b980007530dfc43bb006a41bcebf78306d3c", func := "encore/encorelaw23.PruneSure", spec := "pruneSure", inPlace := ["internal/bytealg.IndexByteString", "internal/bytealg.IndexString"], unfollowed := true, recurses := true, named := ["encore/lift.bare", "internal/bytealg.MaxLen"], loops := true, apart := false, laid := [("encore/lift.bare", laid_encore_lift_bare)] }
def PruneSureSaid : Prop := pruneSureRow.holds Tryz.pinned (OpenSpec.ofChange pruneSureSpec)

/-- ITS FALSE NEIGHBOUR: 'it returns false'. Refute it at one input. -/
def pruneSureWrong : ChangeSpec := { name := "pruneSure", fn := fun _ => fun
  | [d1, d2, d3] => { results := [.lit (.bool false)], args := [d1, d2, d3] }
  | _ => none }
def PruneSureWrongFalsely : Prop := pruneSureRow.holds Tryz.pinned (OpenSpec.ofChange pruneSureWrong)

/- THE SECOND FORM. 'bulk': how many values and letters a reading holds, each counted each time it is reached (what is shared counts as often as it is met; a slice's spare places count too). A statement '..UptoSaid' is the law's where the arguments, and the package variables that the reading takes, are together of bulk at most 1048576: NARROWER than '..Said'. Prove '..Said' where nothing that the law and all that it calls make is longer than what came in: it says more and counts as full. Else prove '..UptoSaid'. A law counts once. -/
mutual
def uptoBulk {H : Type} : DataW H → Nat
  | .lit (.string bytes) => bytes.length + 1
  | .lit _ => 1
  | .nil => 1
  | .ptr d => uptoBulk d + 1
  | .slice elems spare => uptoBulkAll elems + uptoBulkAll spare + 1
  | .agg parts => uptoBulkAll parts + 1
  | .iface _ d => uptoBulk d + 1
  | .map entries => uptoBulkEntries entries + 1
  | .held _ => 1
def uptoBulkAll {H : Type} : List (DataW H) → Nat
  | [] => 0
  | d :: r => uptoBulk d + uptoBulkAll r
def uptoBulkEntries {H : Type} : List (Lit × DataW H) → Nat
  | [] => 0
  | x :: r => uptoBulkEntry x + uptoBulkEntries r
def uptoBulkEntry {H : Type} : Lit × DataW H → Nat
  | (.string bytes, d) => bytes.length + uptoBulk d + 1
  | (_, d) => uptoBulk d + 1
 end
def uptoSmall : (H : Type) → List (DataW H) → Bool := fun _ ds => decide (uptoBulkAll ds ≤ 1048576)
def OpenSpec.upto (s : _root_.Go.ChangeSpec) : _root_.Go.OpenSpec := { _root_.Go.OpenSpec.ofChange s with cond := some uptoSmall }

/-- 'encorelaw23.PruneSame', WHERE WHAT IT READS IS OF BULK AT MOST 1048576: true; the input reads as it did. -/
def pruneSameUptoRow : OpenClaim := { program := "ytkpgolcjiahdfaagreatdoor", sum := "ed622d45b9e903a4d64c1efd0d77b980007530dfc43bb006a41bcebf78306d3c", func := "encore/encorelaw23.PruneSame", spec := "pruneSame", inPlace := ["internal/bytealg.IndexByteString", "internal/bytealg.IndexString"], unfollowed := true, recurses := true, named := ["encore/lift.bare", "internal/bytealg.MaxLen"], loops := true, apart := false, laid := [("encore/lift.bare", laid_encore_lift_bare)], narrowed := true }
def PruneSameUptoSaid : Prop := pruneSameUptoRow.holds Tryz.pinned (OpenSpec.upto pruneSameSpec)

/-- 'encorelaw23.PruneSure', WHERE WHAT IT READS IS OF BULK AT MOST 1048576: true; the input reads as it did. -/
def pruneSureUptoRow : OpenClaim := { program := "ytkpgolcjiahdfaagreatdoor", sum := "ed622d45b9e903a4d64c1efd0d77b980007530dfc43bb006a41bcebf78306d3c", func := "encore/encorelaw23.PruneSure", spec := "pruneSure", inPlace := ["internal/bytealg.IndexByteString", "internal/bytealg.IndexString"], unfollowed := true, recurses := true, named := ["encore/lift.bare", "internal/bytealg.MaxLen"], loops := true, apart := false, laid := [("encore/lift.bare", laid_encore_lift_bare)], narrowed := true }
def PruneSureUptoSaid : Prop := pruneSureUptoRow.holds Tryz.pinned (OpenSpec.upto pruneSureSpec)

end Rows
end Go.Proofs.YtkpgolcjiahdfaaGreatDoor
