import Derived.Test.YtpkhhphpjhfoiaaGreatDoorK8
set_option linter.unusedVariables false
set_option linter.unusedSimpArgs false
set_option linter.unusedSectionVars false
/- Runs of 'LiftNames', each by the kernel. Conditions: none. -/
namespace Go.Proofs.YtpkhhphpjhfoiaaGreatDoor.liftNames
open Go Go.RI
set_option maxRecDepth 100000
theorem t6 : Knows3 (tabIP tab) G1 HP 41 b6 w6 := knows3_run lean4 (fn := I41) ip41 rfl (k := 100000) (by kernel_rfl)
theorem t7 : Knows3 (tabIP tab) G1 HP 41 b7 w7 := knows3_run lean4 (fn := I41) ip41 rfl (k := 100000) (by kernel_rfl)
theorem t8 : Knows3 (tabIP tab) G1 HP 41 b8 w8 := knows3_run lean4 (fn := I41) ip41 rfl (k := 100000) (by kernel_rfl)
theorem t9 : Knows3 (tabIP tab) G1 HP 41 b9 w9 := knows3_run lean4 (fn := I41) ip41 rfl (k := 100000) (by kernel_rfl)
end Go.Proofs.YtpkhhphpjhfoiaaGreatDoor.liftNames
