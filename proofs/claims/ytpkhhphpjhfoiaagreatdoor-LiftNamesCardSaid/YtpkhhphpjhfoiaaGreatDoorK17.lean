import Derived.Test.YtpkhhphpjhfoiaaGreatDoorK16
set_option linter.unusedVariables false
set_option linter.unusedSimpArgs false
set_option linter.unusedSectionVars false
/- Runs of 'LiftNames', each by the kernel. Conditions: none. -/
namespace Go.Proofs.YtpkhhphpjhfoiaaGreatDoor.liftNames
open Go Go.RI
set_option maxRecDepth 100000
theorem run_true : isTrueP (callKM (lookK (buildM L5)) (look3 HP (buildM M3)) (buildT tab) G1 100000 G1.next 3 [] G1) = true := by kernel_rfl
theorem brings : ∃ H', Brings (tabIP tab) G1 G1.next 3 [] G1 (.b true) H' := closed_memo lean5 run_true
end Go.Proofs.YtpkhhphpjhfoiaaGreatDoor.liftNames
