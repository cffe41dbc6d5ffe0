import Derived.Test.YtpkhhphpjhfoiaaGreatDoorK14
set_option linter.unusedVariables false
set_option linter.unusedSimpArgs false
set_option linter.unusedSectionVars false
/- Runs of 'LiftNames', each by the kernel. Conditions: none. -/
namespace Go.Proofs.YtpkhhphpjhfoiaaGreatDoor.liftNames
open Go Go.RI
set_option maxRecDepth 100000
theorem k143 : KnowsR (tabIP tab) G1 18 a143 v143 := knows_run lean4b (fn := I18) ip18 rfl (by kernel_rfl) (k := 100000) (by kernel_rfl)
end Go.Proofs.YtpkhhphpjhfoiaaGreatDoor.liftNames
