/-
  No cell of these rows narrows 'for every input' (looked for: loops, veiled, ifaces, maps, wideKeys, modest, calm, conditions, laid).
  DERIVED. THE GIVEN ROWS OF THIS SEAT. 5 by the template 'for every input the law returns true; each argument reads behind the call as it read before'; 0 by the template 'total and deterministic' (their statements: YtcmieknogpjnmaaTotals.lean).
  GIVEN WITH THE SEED: the statements are not yours to turn. If you find one false, say at which input.
  Laid BY PROGRAM, IN A SANDBOX (cutbox-rows.mjs): the forced cells as the released guide's own fill.sh prints them over the translation 849849fea711f6d8… (all of the seat's roots in one cut). By AI agents, Wed Nov 11 2026. No macro, syntax, notation, axiom, sorry.
-/
import Derived.Test.YtcmieknogpjnmaaChecked
import GoSem.Claim
import GoSem.ClaimJoined
import GoSem.ClaimMapViews
import Derived.JoinedTies
import Derived.KernelRfl
namespace Go.Proofs.Ytcmieknogpjnmaa
/- THE CELL 'sum', in the pinned program and in every row, IS THE sha256 OF THE DUMP (.gsa) THAT YtcmieknogpjnmaaProg.lean LOADS. Nothing in Lean hashes anything: it is a label: what it is worth is what the hold of that sum in a sandbox is worth. -/
noncomputable def Try.pinned : Pinned := { name := "ytcmieknogpjnmaa", sum := "849849fea711f6d88e9eca66ccd4b9adc14f78180d7bf2a4a3e34db14dd29dea", checked := Try.checked }
namespace Rows
def none {H : Type} : Left H := { results := [], args := [] }

/-- 'encorelaw27.RetryAnswers': WHATEVER THE INPUT: true; the input reads as it did. -/
def retryAnswersSpec : ChangeSpec := { name := "retryAnswers", fn := fun _ => fun
  | [d1, d2] => { results := [.lit (.bool true)], args := [d1, d2] }
  | _ => none }
def retryAnswersRow : OpenClaim := { program := "ytcmieknogpjnmaa", sum := "849849fea711f6d88e9eca66ccd4b9adc14f78180d7bf2a4a3e34db14dd29dea", func := "encore/encorelaw27.RetryAnswers", spec := "retryAnswers", apart := false }
def RetryAnswersSaid : Prop := retryAnswersRow.holds Try.pinned (OpenSpec.ofChange retryAnswersSpec)

/-- ITS FALSE NEIGHBOUR: 'it returns false'. Refute it at one input. -/
def retryAnswersWrong : ChangeSpec := { name := "retryAnswers", fn := fun _ => fun
  | [d1, d2] => { results := [.lit (.bool false)], args := [d1, d2] }
  | _ => none }
def RetryAnswersWrongFalsely : Prop := retryAnswersRow.holds Try.pinned (OpenSpec.ofChange retryAnswersWrong)

/-- 'encorelaw27.RetryRises': WHATEVER THE INPUT: true; the input reads as it did. -/
def retryRisesSpec : ChangeSpec := { name := "retryRises", fn := fun _ => fun
  | [d1, d2, d3] => { results := [.lit (.bool true)], args := [d1, d2, d3] }
  | _ => none }
def retryRisesRow : OpenClaim := { program := "ytcmieknogpjnmaa", sum := "849849fea711f6d88e9eca66ccd4b9adc14f78180d7bf2a4a3e34db14dd29dea", func := "encore/encorelaw27.RetryRises", spec := "retryRises", apart := false }
def RetryRisesSaid : Prop := retryRisesRow.holds Try.pinned (OpenSpec.ofChange retryRisesSpec)

/-- ITS FALSE NEIGHBOUR: 'it returns false'. Refute it at one input. -/
def retryRisesWrong : ChangeSpec := { name := "retryRises", fn := fun _ => fun
  | [d1, d2, d3] => { results := [.lit (.bool false)], args := [d1, d2, d3] }
  | _ => none }
def RetryRisesWrongFalsely : Prop := retryRisesRow.holds Try.pinned (OpenSpec.ofChange retryRisesWrong)

/-- 'encorelaw27.RetryNext': WHATEVER THE INPUT: true; the input reads as it did. -/
def retryNextSpec : ChangeSpec := { name := "retryNext", fn := fun _ => fun
  | [d1, d2] => { results := [.lit (.bool true)], args := [d1, d2] }
  | _ => none }
def retryNextRow : OpenClaim := { program := "ytcmieknogpjnmaa", sum := "849849fea711f6d88e9eca66ccd4b9adc14f78180d7bf2a4a3e34db14dd29dea", func := "encore/encorelaw27.RetryNext", spec := "retryNext", apart := false }
def RetryNextSaid : Prop := retryNextRow.holds Try.pinned (OpenSpec.ofChange retryNextSpec)

/-- ITS FALSE NEIGHBOUR: 'it returns false'. Refute it at one input. -/
def retryNextWrong : ChangeSpec := { name := "retryNext", fn := fun _ => fun
  | [d1, d2] => { results := [.lit (.bool false)], args := [d1, d2] }
  | _ => none }
def RetryNextWrongFalsely : Prop := retryNextRow.holds Try.pinned (OpenSpec.ofChange retryNextWrong)

/-- 'encorelaw27.RetryTotal': WHATEVER THE INPUT: true; the input reads as it did. -/
def retryTotalSpec : ChangeSpec := { name := "retryTotal", fn := fun _ => fun
  | [d1, d2] => { results := [.lit (.bool true)], args := [d1, d2] }
  | _ => none }
def retryTotalRow : OpenClaim := { program := "ytcmieknogpjnmaa", sum := "849849fea711f6d88e9eca66ccd4b9adc14f78180d7bf2a4a3e34db14dd29dea", func := "encore/encorelaw27.RetryTotal", spec := "retryTotal", apart := false }
def RetryTotalSaid : Prop := retryTotalRow.holds Try.pinned (OpenSpec.ofChange retryTotalSpec)

/-- ITS FALSE NEIGHBOUR: 'it returns false'. Refute it at one input. -/
def retryTotalWrong : ChangeSpec := { name := "retryTotal", fn := fun _ => fun
  | [d1, d2] => { results := [.lit (.bool false)], args := [d1, d2] }
  | _ => none }
def RetryTotalWrongFalsely : Prop := retryTotalRow.holds Try.pinned (OpenSpec.ofChange retryTotalWrong)

/-- 'encorelaw27.RetryKnown': WHATEVER THE INPUT: true; the input reads as it did. -/
def retryKnownSpec : ChangeSpec := { name := "retryKnown", fn := fun _ => fun
  | [] => { results := [.lit (.bool true)], args := [] }
  | _ => none }
def retryKnownRow : OpenClaim := { program := "ytcmieknogpjnmaa", sum := "849849fea711f6d88e9eca66ccd4b9adc14f78180d7bf2a4a3e34db14dd29dea", func := "encore/encorelaw27.RetryKnown", spec := "retryKnown", apart := false }
def RetryKnownSaid : Prop := retryKnownRow.holds Try.pinned (OpenSpec.ofChange retryKnownSpec)

/-- ITS FALSE NEIGHBOUR: 'it returns false'. Refute it at one input. -/
def retryKnownWrong : ChangeSpec := { name := "retryKnown", fn := fun _ => fun
  | [] => { results := [.lit (.bool false)], args := [] }
  | _ => none }
def RetryKnownWrongFalsely : Prop := retryKnownRow.holds Try.pinned (OpenSpec.ofChange retryKnownWrong)

/- THE SECOND FORM. 'bulk': how many values and letters a reading holds, each counted each time it is reached (what is shared counts as often as it is met; a slice's spare places count too). A statement '..UptoSaid' is the law's where the arguments, and the package variables that the reading takes, are together of bulk at most 1048576: NARROWER than '..Said'. Prove '..Said' where nothing that the law and all that it calls make is longer than what came in: it says more and counts as full. Else prove '..UptoSaid'. A law counts once. -/
mutual
def uptoBulk {H : Type} : DataW H → Nat
  | .lit (.string bytes) => bytes.length + 1
  | .lit _ => 1
  | .nil => 1
  | .ptr d => uptoBulk d + 1
  | .slice elems spare => uptoBulkAll elems + uptoBulkAll spare + 1
  | .agg parts => uptoBulkAll parts + 1
  | .iface _ d => uptoBulk d + 1
  | .map entries => uptoBulkEntries entries + 1
  | .held _ => 1
def uptoBulkAll {H : Type} : List (DataW H) → Nat
  | [] => 0
  | d :: r => uptoBulk d + uptoBulkAll r
def uptoBulkEntries {H : Type} : List (Lit × DataW H) → Nat
  | [] => 0
  | x :: r => uptoBulkEntry x + uptoBulkEntries r
def uptoBulkEntry {H : Type} : Lit × DataW H → Nat
  | (.string bytes, d) => bytes.length + uptoBulk d + 1
  | (_, d) => uptoBulk d + 1
 end
def uptoSmall : (H : Type) → List (DataW H) → Bool := fun _ ds => decide (uptoBulkAll ds ≤ 1048576)
def OpenSpec.upto (s : _root_.Go.ChangeSpec) : _root_.Go.OpenSpec := { _root_.Go.OpenSpec.ofChange s with cond := some uptoSmall }

/-- 'encorelaw27.RetryAnswers', WHERE WHAT IT READS IS OF BULK AT MOST 1048576: true; the input reads as it did. -/
def retryAnswersUptoRow : OpenClaim := { program := "ytcmieknogpjnmaa", sum := "849849fea711f6d88e9eca66ccd4b9adc14f78180d7bf2a4a3e34db14dd29dea", func := "encore/encorelaw27.RetryAnswers", spec := "retryAnswers", apart := false, narrowed := true }
def RetryAnswersUptoSaid : Prop := retryAnswersUptoRow.holds Try.pinned (OpenSpec.upto retryAnswersSpec)

/-- 'encorelaw27.RetryRises', WHERE WHAT IT READS IS OF BULK AT MOST 1048576: true; the input reads as it did. -/
def retryRisesUptoRow : OpenClaim := { program := "ytcmieknogpjnmaa", sum := "849849fea711f6d88e9eca66ccd4b9adc14f78180d7bf2a4a3e34db14dd29dea", func := "encore/encorelaw27.RetryRises", spec := "retryRises", apart := false, narrowed := true }
def RetryRisesUptoSaid : Prop := retryRisesUptoRow.holds Try.pinned (OpenSpec.upto retryRisesSpec)

/-- 'encorelaw27.RetryNext', WHERE WHAT IT READS IS OF BULK AT MOST 1048576: true; the input reads as it did. -/
def retryNextUptoRow : OpenClaim := { program := "ytcmieknogpjnmaa", sum := "849849fea711f6d88e9eca66ccd4b9adc14f78180d7bf2a4a3e34db14dd29dea", func := "encore/encorelaw27.RetryNext", spec := "retryNext", apart := false, narrowed := true }
def RetryNextUptoSaid : Prop := retryNextUptoRow.holds Try.pinned (OpenSpec.upto retryNextSpec)

/-- 'encorelaw27.RetryTotal', WHERE WHAT IT READS IS OF BULK AT MOST 1048576: true; the input reads as it did. -/
def retryTotalUptoRow : OpenClaim := { program := "ytcmieknogpjnmaa", sum := "849849fea711f6d88e9eca66ccd4b9adc14f78180d7bf2a4a3e34db14dd29dea", func := "encore/encorelaw27.RetryTotal", spec := "retryTotal", apart := false, narrowed := true }
def RetryTotalUptoSaid : Prop := retryTotalUptoRow.holds Try.pinned (OpenSpec.upto retryTotalSpec)

/-- 'encorelaw27.RetryKnown', WHERE WHAT IT READS IS OF BULK AT MOST 1048576: true; the input reads as it did. -/
def retryKnownUptoRow : OpenClaim := { program := "ytcmieknogpjnmaa", sum := "849849fea711f6d88e9eca66ccd4b9adc14f78180d7bf2a4a3e34db14dd29dea", func := "encore/encorelaw27.RetryKnown", spec := "retryKnown", apart := false, narrowed := true }
def RetryKnownUptoSaid : Prop := retryKnownUptoRow.holds Try.pinned (OpenSpec.upto retryKnownSpec)

end Rows
end Go.Proofs.Ytcmieknogpjnmaa
