import Derived.Test.YtpkhhphpjhfoiaaGreatDoorK8
set_option linter.unusedVariables false
set_option linter.unusedSimpArgs false
set_option linter.unusedSectionVars false
/- Runs of 'LiftNames', each by the kernel. Conditions: none. -/
namespace Go.Proofs.YtpkhhphpjhfoiaaGreatDoor.liftNames
open Go Go.RI
set_option maxRecDepth 100000
theorem t0 : Knows3 (tabIP tab) G1 HP 41 b0 w0 := knows3_run lean4 (fn := I41) ip41 rfl (k := 100000) (by kernel_rfl)
theorem t1 : Knows3 (tabIP tab) G1 HP 41 b1 w1 := knows3_run lean4 (fn := I41) ip41 rfl (k := 100000) (by kernel_rfl)
end Go.Proofs.YtpkhhphpjhfoiaaGreatDoor.liftNames
