import Derived.Test.YtpkhhphpjhfoiaaGreatDoorK6
set_option linter.unusedVariables false
set_option linter.unusedSimpArgs false
set_option linter.unusedSectionVars false
/- Runs of 'LiftNames', each by the kernel. Conditions: none. -/
namespace Go.Proofs.YtpkhhphpjhfoiaaGreatDoor.liftNames
open Go Go.RI
set_option maxRecDepth 100000
theorem k75 : KnowsR (tabIP tab) G1 40 a75 v75 := knows_run lean3 (fn := I40) ip40 rfl (by kernel_rfl) (k := 100000) (by kernel_rfl)
theorem k76 : KnowsR (tabIP tab) G1 17 a76 v76 := knows_run lean3 (fn := I17) ip17 rfl (by kernel_rfl) (k := 100000) (by kernel_rfl)
theorem k93 : KnowsR (tabIP tab) G1 40 a93 v93 := knows_run lean3 (fn := I40) ip40 rfl (by kernel_rfl) (k := 100000) (by kernel_rfl)
theorem k107 : KnowsR (tabIP tab) G1 40 a107 v107 := knows_run lean3 (fn := I40) ip40 rfl (by kernel_rfl) (k := 100000) (by kernel_rfl)
theorem k114 : KnowsR (tabIP tab) G1 40 a114 v114 := knows_run lean3 (fn := I40) ip40 rfl (by kernel_rfl) (k := 100000) (by kernel_rfl)
theorem k123 : KnowsR (tabIP tab) G1 159 a123 v123 := knows_run lean3 (fn := I159) ip159 rfl (by kernel_rfl) (k := 100000) (by kernel_rfl)
theorem k127 : KnowsR (tabIP tab) G1 40 a127 v127 := knows_run lean3 (fn := I40) ip40 rfl (by kernel_rfl) (k := 100000) (by kernel_rfl)
theorem k140 : KnowsR (tabIP tab) G1 40 a140 v140 := knows_run lean3 (fn := I40) ip40 rfl (by kernel_rfl) (k := 100000) (by kernel_rfl)
theorem k141 : KnowsR (tabIP tab) G1 40 a141 v141 := knows_run lean3 (fn := I40) ip40 rfl (by kernel_rfl) (k := 100000) (by kernel_rfl)
theorem k142 : KnowsR (tabIP tab) G1 40 a142 v142 := knows_run lean3 (fn := I40) ip40 rfl (by kernel_rfl) (k := 100000) (by kernel_rfl)
end Go.Proofs.YtpkhhphpjhfoiaaGreatDoor.liftNames
