import Derived.Test.YteoliiakbmomeabGreatKB
set_option linter.unusedVariables false
set_option linter.unusedSimpArgs false
set_option linter.unusedSectionVars false
/- Runs of 'BaseNames', each by the kernel. Conditions: none. -/
namespace Go.Proofs.YteoliiakbmomeabGreat.baseNames
open Go Go.RI
set_option maxRecDepth 100000
theorem k27 : KnowsR (tabIP tab) (RI.G0 1) 23 [] (.b true) := knows_run (l := L1) known1 (fn := I23) ip23 rfl (by kernel_rfl) (k := 100000) (by kernel_rfl)
end Go.Proofs.YteoliiakbmomeabGreat.baseNames
