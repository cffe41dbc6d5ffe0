/-
  NARROWER THAN 'FOR EVERY INPUT', by the rows' own cells (each row's printed sentence says how): FuseAgain: loops, laid · FuseLeft: loops, laid · FuseNames: laid.
  DERIVED. THE GIVEN ROWS OF THIS SEAT. 3 by the template 'for every input the law returns true; each argument reads behind the call as it read before'; 0 by the template 'total and deterministic' (their statements: YtghhbelpkckmaaaDoorTotals.lean).
  GIVEN WITH THE SEED: the statements are not yours to turn. If you find one false, say at which input.
  Laid BY PROGRAM, IN A SANDBOX (cutbox-rows.mjs): the forced cells as the released guide's own fill.sh prints them over the translation da821a1216cc6388… (all of the seat's roots in one cut). By AI agents, Wed Nov 11 2026. No macro, syntax, notation, axiom, sorry.
-/
import Derived.Test.YtghhbelpkckmaaaDoorChecked
import GoSem.Claim
import GoSem.ClaimJoined
import GoSem.ClaimMapViews
import Derived.JoinedTies
import Derived.KernelRfl
namespace Go.Proofs.YtghhbelpkckmaaaDoor
/- THE CELL 'sum', in the pinned program and in every row, IS THE sha256 OF THE DUMP (.gsa) THAT YtghhbelpkckmaaaDoorProg.lean LOADS. Nothing in Lean hashes anything: it is a label: what it is worth is what the hold of that sum in a sandbox is worth. -/
noncomputable def Tryd.pinned : Pinned := { name := "ytghhbelpkckmaaadoor", sum := "da821a1216cc638817e25ef8d78cfa036fb6b8f72be60b1e99541cbbbcbd2c95", checked := Tryd.checked }
namespace Rows
def none {H : Type} : Left H := { results := [], args := [] }

/- WHAT THE LISTED PACKAGE-LEVEL VARIABLES READ AS WHEN THE CALL BEGINS. Each datum BY PROGRAM (the guide's laid-datum.mjs) off the statement by which the dump's own 'gosem.cut.vars' lays the variable. In a bare row this is a premise. The card (YtghhbelpkckmaaaDoorCards.lean) ties it to the program's text. -/
def laid_encore_lift_bare {H : Type} : DataW H := .agg [.lit (.int .i64 0), .lit (.string []), .lit (.bool false)]

/-- 'encorelaw24.FuseAgain': WHATEVER THE INPUT: true; the input reads as it did. -/
def fuseAgainSpec : ChangeSpec := { name := "fuseAgain", fn := fun _ => fun
  | [d] => { results := [.lit (.bool true)], args := [d] }
  | _ => none }
def fuseAgainRow : OpenClaim := { program := "ytghhbelpkckmaaadoor", sum := "da821a1216cc638817e25ef8d78cfa036fb6b8f72be60b1e99541cbbbcbd2c95", func := "encore/encorelaw24.FuseAgain", spec := "fuseAgain", inPlace := ["internal/bytealg.IndexByteString", "internal/bytealg.IndexString"], unfollowed := true, recurses := true, named := ["encore/lift.bare", "internal/bytealg.MaxLen"], loops := true, apart := false, laid := [("encore/lift.bare", laid_encore_lift_bare)] }
def FuseAgainSaid : Prop := fuseAgainRow.holds Tryd.pinned (OpenSpec.ofChange fuseAgainSpec)

/-- ITS FALSE NEIGHBOUR: 'it returns false'. Refute it at one input. -/
def fuseAgainWrong : ChangeSpec := { name := "fuseAgain", fn := fun _ => fun
  | [d] => { results := [.lit (.bool false)], args := [d] }
  | _ => none }
def FuseAgainWrongFalsely : Prop := fuseAgainRow.holds Tryd.pinned (OpenSpec.ofChange fuseAgainWrong)

/-- 'encorelaw24.FuseLeft': WHATEVER THE INPUT: true; the input reads as it did. -/
def fuseLeftSpec : ChangeSpec := { name := "fuseLeft", fn := fun _ => fun
  | [d] => { results := [.lit (.bool true)], args := [d] }
  | _ => none }
def fuseLeftRow : OpenClaim := { program := "ytghhbelpkckmaaadoor", sum := "da821a1216cc638817e25ef8d78cfa036fb6b8f72be60b1e99541cbbbcbd2c95", func := "encore/encorelaw24.FuseLeft", spec := "fuseLeft", inPlace := ["internal/bytealg.IndexByteString", "internal/bytealg.IndexString"], unfollowed := true, recurses := true, named := ["encore/lift.bare", "internal/bytealg.MaxLen"], loops := true, apart := false, laid := [("encore/lift.bare", laid_encore_lift_bare)] }
def FuseLeftSaid : Prop := fuseLeftRow.holds Tryd.pinned (OpenSpec.ofChange fuseLeftSpec)

/-- ITS FALSE NEIGHBOUR: 'it returns false'. Refute it at one input. -/
def fuseLeftWrong : ChangeSpec := { name := "fuseLeft", fn := fun _ => fun
  | [d] => { results := [.lit (.bool false)], args := [d] }
  | _ => none }
def FuseLeftWrongFalsely : Prop := fuseLeftRow.holds Tryd.pinned (OpenSpec.ofChange fuseLeftWrong)

/-- 'encorelaw24.FuseNames': WHATEVER THE INPUT: true; the input reads as it did. -/
def fuseNamesSpec : ChangeSpec := { name := "fuseNames", fn := fun _ => fun
  | [] => { results := [.lit (.bool true)], args := [] }
  | _ => none }
def fuseNamesRow : OpenClaim := { program := "ytghhbelpkckmaaadoor", sum := "da821a1216cc638817e25ef8d78cfa036fb6b8f72be60b1e99541cbbbcbd2c95", func := "encore/encorelaw24.FuseNames", spec := "fuseNames", inPlace := ["internal/bytealg.IndexByteString", "internal/bytealg.IndexString"], unfollowed := true, recurses := true, named := ["encore/lift.bare", "internal/bytealg.MaxLen"], apart := false, laid := [("encore/lift.bare", laid_encore_lift_bare)] }
def FuseNamesSaid : Prop := fuseNamesRow.holds Tryd.pinned (OpenSpec.ofChange fuseNamesSpec)

/-- ITS FALSE NEIGHBOUR: 'it returns false'. Refute it at one input. -/
def fuseNamesWrong : ChangeSpec := { name := "fuseNames", fn := fun _ => fun
  | [] => { results := [.lit (.bool false)], args := [] }
  | _ => none }
def FuseNamesWrongFalsely : Prop := fuseNamesRow.holds Tryd.pinned (OpenSpec.ofChange fuseNamesWrong)

/- THE SECOND FORM. 'bulk': how many values and letters a reading holds, each counted each time it is reached (what is shared counts as often as it is met; a slice's spare places count too). A statement '..UptoSaid' is the law's where the arguments, and the package variables that the reading takes, are together of bulk at most 1048576: NARROWER than '..Said'. Prove '..Said' where nothing that the law and all that it calls make is longer than what came in: it says more and counts as full. Else prove '..UptoSaid'. A law counts once. -/
mutual
def uptoBulk {H : Type} : DataW H → Nat
  | .lit (.string bytes) => bytes.length + 1
  | .lit _ => 1
  | .nil => 1
  | .ptr d => uptoBulk d + 1
  | .slice elems spare => uptoBulkAll elems + uptoBulkAll spare + 1
  | .agg parts => uptoBulkAll parts + 1
  | .iface _ d => uptoBulk d + 1
  | .map entries => uptoBulkEntries entries + 1
  | .held _ => 1
def uptoBulkAll {H : Type} : List (DataW H) → Nat
  | [] => 0
  | d :: r => uptoBulk d + uptoBulkAll r
def uptoBulkEntries {H : Type} : List (Lit × DataW H) → Nat
  | [] => 0
  | x :: r => uptoBulkEntry x + uptoBulkEntries r
def uptoBulkEntry {H : Type} : Lit × DataW H → Nat
  | (.string bytes, d) => bytes.length + uptoBulk d + 1
  | (_, d) => uptoBulk d + 1
 end
def uptoSmall : (H : Type) → List (DataW H) → Bool := fun _ ds => decide (uptoBulkAll ds ≤ 1048576)
def OpenSpec.upto (s : _root_.Go.ChangeSpec) : _root_.Go.OpenSpec := { _root_.Go.OpenSpec.ofChange s with cond := some uptoSmall }

/-- 'encorelaw24.FuseAgain', WHERE WHAT IT READS IS OF BULK AT MOST 1048576: true; the input reads as it did. -/
def fuseAgainUptoRow : OpenClaim := { program := "ytghhbelpkckmaaadoor", sum := "da821a1216cc638817e25ef8d78cfa036fb6b8f72be60b1e99541cbbbcbd2c95", func := "encore/encorelaw24.FuseAgain", spec := "fuseAgain", inPlace := ["internal/bytealg.IndexByteString", "internal/bytealg.IndexString"], unfollowed := true, recurses := true, named := ["encore/lift.bare", "internal/bytealg.MaxLen"], loops := true, apart := false, laid := [("encore/lift.bare", laid_encore_lift_bare)], narrowed := true }
def FuseAgainUptoSaid : Prop := fuseAgainUptoRow.holds Tryd.pinned (OpenSpec.upto fuseAgainSpec)

/-- 'encorelaw24.FuseLeft', WHERE WHAT IT READS IS OF BULK AT MOST 1048576: true; the input reads as it did. -/
def fuseLeftUptoRow : OpenClaim := { program := "ytghhbelpkckmaaadoor", sum := "da821a1216cc638817e25ef8d78cfa036fb6b8f72be60b1e99541cbbbcbd2c95", func := "encore/encorelaw24.FuseLeft", spec := "fuseLeft", inPlace := ["internal/bytealg.IndexByteString", "internal/bytealg.IndexString"], unfollowed := true, recurses := true, named := ["encore/lift.bare", "internal/bytealg.MaxLen"], loops := true, apart := false, laid := [("encore/lift.bare", laid_encore_lift_bare)], narrowed := true }
def FuseLeftUptoSaid : Prop := fuseLeftUptoRow.holds Tryd.pinned (OpenSpec.upto fuseLeftSpec)

/-- 'encorelaw24.FuseNames', WHERE WHAT IT READS IS OF BULK AT MOST 1048576: true; the input reads as it did. -/
def fuseNamesUptoRow : OpenClaim := { program := "ytghhbelpkckmaaadoor", sum := "da821a1216cc638817e25ef8d78cfa036fb6b8f72be60b1e99541cbbbcbd2c95", func := "encore/encorelaw24.FuseNames", spec := "fuseNames", inPlace := ["internal/bytealg.IndexByteString", "internal/bytealg.IndexString"], unfollowed := true, recurses := true, named := ["encore/lift.bare", "internal/bytealg.MaxLen"], apart := false, laid := [("encore/lift.bare", laid_encore_lift_bare)], narrowed := true }
def FuseNamesUptoSaid : Prop := fuseNamesUptoRow.holds Tryd.pinned (OpenSpec.upto fuseNamesSpec)

end Rows
end Go.Proofs.YtghhbelpkckmaaaDoor
