import Derived.Test.YtpkhhphpjhfoiaaGreatDoorK1
set_option linter.unusedVariables false
set_option linter.unusedSimpArgs false
set_option linter.unusedSectionVars false
/- Runs of 'LiftNames', each by the kernel. Conditions: none. -/
namespace Go.Proofs.YtpkhhphpjhfoiaaGreatDoor.liftNames
open Go Go.RI
set_option maxRecDepth 100000
theorem k19 : KnowsR (tabIP tab) G1 11 a19 v19 := knows_run lean1 (fn := I11) ip11 rfl (by kernel_rfl) (k := 100000) (by kernel_rfl)
theorem k20 : KnowsR (tabIP tab) G1 11 a20 v20 := knows_run lean1 (fn := I11) ip11 rfl (by kernel_rfl) (k := 100000) (by kernel_rfl)
theorem k21 : KnowsR (tabIP tab) G1 11 a21 v21 := knows_run lean1 (fn := I11) ip11 rfl (by kernel_rfl) (k := 100000) (by kernel_rfl)
theorem k22 : KnowsR (tabIP tab) G1 11 a22 v22 := knows_run lean1 (fn := I11) ip11 rfl (by kernel_rfl) (k := 100000) (by kernel_rfl)
theorem k23 : KnowsR (tabIP tab) G1 11 a23 v23 := knows_run lean1 (fn := I11) ip11 rfl (by kernel_rfl) (k := 100000) (by kernel_rfl)
theorem k24 : KnowsR (tabIP tab) G1 11 a24 v24 := knows_run lean1 (fn := I11) ip11 rfl (by kernel_rfl) (k := 100000) (by kernel_rfl)
theorem k25 : KnowsR (tabIP tab) G1 11 a25 v25 := knows_run lean1 (fn := I11) ip11 rfl (by kernel_rfl) (k := 100000) (by kernel_rfl)
theorem k26 : KnowsR (tabIP tab) G1 11 a26 v26 := knows_run lean1 (fn := I11) ip11 rfl (by kernel_rfl) (k := 100000) (by kernel_rfl)
theorem k27 : KnowsR (tabIP tab) G1 11 a27 v27 := knows_run lean1 (fn := I11) ip11 rfl (by kernel_rfl) (k := 100000) (by kernel_rfl)
theorem k28 : KnowsR (tabIP tab) G1 11 a28 v28 := knows_run lean1 (fn := I11) ip11 rfl (by kernel_rfl) (k := 100000) (by kernel_rfl)
theorem k29 : KnowsR (tabIP tab) G1 11 a29 v29 := knows_run lean1 (fn := I11) ip11 rfl (by kernel_rfl) (k := 100000) (by kernel_rfl)
theorem k30 : KnowsR (tabIP tab) G1 11 a30 v30 := knows_run lean1 (fn := I11) ip11 rfl (by kernel_rfl) (k := 100000) (by kernel_rfl)
theorem k31 : KnowsR (tabIP tab) G1 11 a31 v31 := knows_run lean1 (fn := I11) ip11 rfl (by kernel_rfl) (k := 100000) (by kernel_rfl)
theorem k32 : KnowsR (tabIP tab) G1 11 a32 v32 := knows_run lean1 (fn := I11) ip11 rfl (by kernel_rfl) (k := 100000) (by kernel_rfl)
theorem k39 : KnowsR (tabIP tab) G1 29 a39 v39 := knows_run lean1 (fn := I29) ip29 rfl (by kernel_rfl) (k := 100000) (by kernel_rfl)
theorem k46 : KnowsR (tabIP tab) G1 29 a46 v46 := knows_run lean1 (fn := I29) ip29 rfl (by kernel_rfl) (k := 100000) (by kernel_rfl)
theorem k49 : KnowsR (tabIP tab) G1 29 a49 v49 := knows_run lean1 (fn := I29) ip29 rfl (by kernel_rfl) (k := 100000) (by kernel_rfl)
theorem k51 : KnowsR (tabIP tab) G1 11 a51 v51 := knows_run lean1 (fn := I11) ip11 rfl (by kernel_rfl) (k := 100000) (by kernel_rfl)
theorem k54 : KnowsR (tabIP tab) G1 37 a54 v54 := knows_run lean1 (fn := I37) ip37 rfl (by kernel_rfl) (k := 100000) (by kernel_rfl)
theorem k57 : KnowsR (tabIP tab) G1 72 a57 v57 := knows_run lean1 (fn := I72) ip72 rfl (by kernel_rfl) (k := 100000) (by kernel_rfl)
theorem k64 : KnowsR (tabIP tab) G1 29 a64 v64 := knows_run lean1 (fn := I29) ip29 rfl (by kernel_rfl) (k := 100000) (by kernel_rfl)
theorem k69 : KnowsR (tabIP tab) G1 11 a69 v69 := knows_run lean1 (fn := I11) ip11 rfl (by kernel_rfl) (k := 100000) (by kernel_rfl)
theorem k71 : KnowsR (tabIP tab) G1 72 a71 v71 := knows_run lean1 (fn := I72) ip72 rfl (by kernel_rfl) (k := 100000) (by kernel_rfl)
theorem k74 : KnowsR (tabIP tab) G1 29 a74 v74 := knows_run lean1 (fn := I29) ip29 rfl (by kernel_rfl) (k := 100000) (by kernel_rfl)
theorem k83 : KnowsR (tabIP tab) G1 29 a83 v83 := knows_run lean1 (fn := I29) ip29 rfl (by kernel_rfl) (k := 100000) (by kernel_rfl)
theorem k90 : KnowsR (tabIP tab) G1 29 a90 v90 := knows_run lean1 (fn := I29) ip29 rfl (by kernel_rfl) (k := 100000) (by kernel_rfl)
theorem k99 : KnowsR (tabIP tab) G1 29 a99 v99 := knows_run lean1 (fn := I29) ip29 rfl (by kernel_rfl) (k := 100000) (by kernel_rfl)
theorem k106 : KnowsR (tabIP tab) G1 29 a106 v106 := knows_run lean1 (fn := I29) ip29 rfl (by kernel_rfl) (k := 100000) (by kernel_rfl)
end Go.Proofs.YtpkhhphpjhfoiaaGreatDoor.liftNames
