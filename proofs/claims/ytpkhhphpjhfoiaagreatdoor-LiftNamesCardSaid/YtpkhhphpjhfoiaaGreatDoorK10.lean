import Derived.Test.YtpkhhphpjhfoiaaGreatDoorK8
set_option linter.unusedVariables false
set_option linter.unusedSimpArgs false
set_option linter.unusedSectionVars false
/- Runs of 'LiftNames', each by the kernel. Conditions: none. -/
namespace Go.Proofs.YtpkhhphpjhfoiaaGreatDoor.liftNames
open Go Go.RI
set_option maxRecDepth 100000
theorem t2 : Knows3 (tabIP tab) G1 HP 41 b2 w2 := knows3_run lean4 (fn := I41) ip41 rfl (k := 100000) (by kernel_rfl)
theorem t3 : Knows3 (tabIP tab) G1 HP 41 b3 w3 := knows3_run lean4 (fn := I41) ip41 rfl (k := 100000) (by kernel_rfl)
theorem t4 : Knows3 (tabIP tab) G1 HP 41 b4 w4 := knows3_run lean4 (fn := I41) ip41 rfl (k := 100000) (by kernel_rfl)
theorem t5 : Knows3 (tabIP tab) G1 HP 41 b5 w5 := knows3_run lean4 (fn := I41) ip41 rfl (k := 100000) (by kernel_rfl)
end Go.Proofs.YtpkhhphpjhfoiaaGreatDoor.liftNames
