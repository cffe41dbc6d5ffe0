import Derived.Test.YteoliiakbmomeabGreatKB
set_option linter.unusedVariables false
set_option linter.unusedSimpArgs false
set_option linter.unusedSectionVars false
/- Runs of 'BaseNames', each by the kernel. Conditions: none. -/
namespace Go.Proofs.YteoliiakbmomeabGreat.baseNames
open Go Go.RI
set_option maxRecDepth 100000
theorem k25 : KnowsR (tabIP tab) (RI.G0 1) 21 [] (.b true) := knows_run (l := L1) known1 (fn := I21) ip21 rfl (by kernel_rfl) (k := 100000) (by kernel_rfl)
end Go.Proofs.YteoliiakbmomeabGreat.baseNames
