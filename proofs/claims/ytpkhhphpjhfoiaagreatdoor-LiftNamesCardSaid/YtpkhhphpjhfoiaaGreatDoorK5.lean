import Derived.Test.YtpkhhphpjhfoiaaGreatDoorK4
set_option linter.unusedVariables false
set_option linter.unusedSimpArgs false
set_option linter.unusedSectionVars false
/- Runs of 'LiftNames', each by the kernel. Conditions: none. -/
namespace Go.Proofs.YtpkhhphpjhfoiaaGreatDoor.liftNames
open Go Go.RI
set_option maxRecDepth 100000
theorem k45 : KnowsR (tabIP tab) G1 28 a45 v45 := knows_run lean2 (fn := I28) ip28 rfl (by kernel_rfl) (k := 100000) (by kernel_rfl)
theorem k47 : KnowsR (tabIP tab) G1 28 a47 v47 := knows_run lean2 (fn := I28) ip28 rfl (by kernel_rfl) (k := 100000) (by kernel_rfl)
theorem k50 : KnowsR (tabIP tab) G1 28 a50 v50 := knows_run lean2 (fn := I28) ip28 rfl (by kernel_rfl) (k := 100000) (by kernel_rfl)
theorem k68 : KnowsR (tabIP tab) G1 28 a68 v68 := knows_run lean2 (fn := I28) ip28 rfl (by kernel_rfl) (k := 100000) (by kernel_rfl)
theorem k85 : KnowsR (tabIP tab) G1 28 a85 v85 := knows_run lean2 (fn := I28) ip28 rfl (by kernel_rfl) (k := 100000) (by kernel_rfl)
theorem k100 : KnowsR (tabIP tab) G1 28 a100 v100 := knows_run lean2 (fn := I28) ip28 rfl (by kernel_rfl) (k := 100000) (by kernel_rfl)
theorem k112 : KnowsR (tabIP tab) G1 28 a112 v112 := knows_run lean2 (fn := I28) ip28 rfl (by kernel_rfl) (k := 100000) (by kernel_rfl)
theorem k126 : KnowsR (tabIP tab) G1 28 a126 v126 := knows_run lean2 (fn := I28) ip28 rfl (by kernel_rfl) (k := 100000) (by kernel_rfl)
theorem k133 : KnowsR (tabIP tab) G1 28 a133 v133 := knows_run lean2 (fn := I28) ip28 rfl (by kernel_rfl) (k := 100000) (by kernel_rfl)
end Go.Proofs.YtpkhhphpjhfoiaaGreatDoor.liftNames
