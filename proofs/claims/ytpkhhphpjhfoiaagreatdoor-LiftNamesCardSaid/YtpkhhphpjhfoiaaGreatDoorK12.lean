import Derived.Test.YtpkhhphpjhfoiaaGreatDoorK8
set_option linter.unusedVariables false
set_option linter.unusedSimpArgs false
set_option linter.unusedSectionVars false
/- Runs of 'LiftNames', each by the kernel. Conditions: none. -/
namespace Go.Proofs.YtpkhhphpjhfoiaaGreatDoor.liftNames
open Go Go.RI
set_option maxRecDepth 100000
theorem t10 : Knows3 (tabIP tab) G1 HP 41 b10 w10 := knows3_run lean4 (fn := I41) ip41 rfl (k := 100000) (by kernel_rfl)
theorem t11 : Knows3 (tabIP tab) G1 HP 41 b11 w11 := knows3_run lean4 (fn := I41) ip41 rfl (k := 100000) (by kernel_rfl)
theorem t12 : Knows3 (tabIP tab) G1 HP 41 b12 w12 := knows3_run lean4 (fn := I41) ip41 rfl (k := 100000) (by kernel_rfl)
theorem t13 : Knows3 (tabIP tab) G1 HP 41 b13 w13 := knows3_run lean4 (fn := I41) ip41 rfl (k := 100000) (by kernel_rfl)
theorem t14 : Knows3 (tabIP tab) G1 HP 41 b14 w14 := knows3_run lean4 (fn := I41) ip41 rfl (k := 100000) (by kernel_rfl)
end Go.Proofs.YtpkhhphpjhfoiaaGreatDoor.liftNames
