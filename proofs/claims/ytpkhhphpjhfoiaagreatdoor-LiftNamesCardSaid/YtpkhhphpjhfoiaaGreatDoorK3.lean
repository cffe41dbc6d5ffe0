import Derived.Test.YtpkhhphpjhfoiaaGreatDoorK1
set_option linter.unusedVariables false
set_option linter.unusedSimpArgs false
set_option linter.unusedSectionVars false
/- Runs of 'LiftNames', each by the kernel. Conditions: none. -/
namespace Go.Proofs.YtpkhhphpjhfoiaaGreatDoor.liftNames
open Go Go.RI
set_option maxRecDepth 100000
theorem k111 : KnowsR (tabIP tab) G1 29 a111 v111 := knows_run lean1 (fn := I29) ip29 rfl (by kernel_rfl) (k := 100000) (by kernel_rfl)
theorem k113 : KnowsR (tabIP tab) G1 29 a113 v113 := knows_run lean1 (fn := I29) ip29 rfl (by kernel_rfl) (k := 100000) (by kernel_rfl)
theorem k124 : KnowsR (tabIP tab) G1 29 a124 v124 := knows_run lean1 (fn := I29) ip29 rfl (by kernel_rfl) (k := 100000) (by kernel_rfl)
theorem k125 : KnowsR (tabIP tab) G1 29 a125 v125 := knows_run lean1 (fn := I29) ip29 rfl (by kernel_rfl) (k := 100000) (by kernel_rfl)
theorem k128 : KnowsR (tabIP tab) G1 11 a128 v128 := knows_run lean1 (fn := I11) ip11 rfl (by kernel_rfl) (k := 100000) (by kernel_rfl)
theorem k130 : KnowsR (tabIP tab) G1 72 a130 v130 := knows_run lean1 (fn := I72) ip72 rfl (by kernel_rfl) (k := 100000) (by kernel_rfl)
theorem k131 : KnowsR (tabIP tab) G1 11 a131 v131 := knows_run lean1 (fn := I11) ip11 rfl (by kernel_rfl) (k := 100000) (by kernel_rfl)
theorem k132 : KnowsR (tabIP tab) G1 72 a132 v132 := knows_run lean1 (fn := I72) ip72 rfl (by kernel_rfl) (k := 100000) (by kernel_rfl)
theorem k134 : KnowsR (tabIP tab) G1 11 a134 v134 := knows_run lean1 (fn := I11) ip11 rfl (by kernel_rfl) (k := 100000) (by kernel_rfl)
theorem k135 : KnowsR (tabIP tab) G1 72 a135 v135 := knows_run lean1 (fn := I72) ip72 rfl (by kernel_rfl) (k := 100000) (by kernel_rfl)
theorem k136 : KnowsR (tabIP tab) G1 72 a136 v136 := knows_run lean1 (fn := I72) ip72 rfl (by kernel_rfl) (k := 100000) (by kernel_rfl)
theorem k137 : KnowsR (tabIP tab) G1 11 a137 v137 := knows_run lean1 (fn := I11) ip11 rfl (by kernel_rfl) (k := 100000) (by kernel_rfl)
theorem k138 : KnowsR (tabIP tab) G1 37 a138 v138 := knows_run lean1 (fn := I37) ip37 rfl (by kernel_rfl) (k := 100000) (by kernel_rfl)
theorem k139 : KnowsR (tabIP tab) G1 37 a139 v139 := knows_run lean1 (fn := I37) ip37 rfl (by kernel_rfl) (k := 100000) (by kernel_rfl)
end Go.Proofs.YtpkhhphpjhfoiaaGreatDoor.liftNames
