import Derived.Test.YteoliiakbmomeabGreatKS0
import Derived.Test.YteoliiakbmomeabGreatKS1
import Derived.Test.YteoliiakbmomeabGreatKS2
set_option linter.unusedVariables false
set_option linter.unusedSimpArgs false
set_option linter.unusedSectionVars false
/- Runs of 'BaseNames', each by the kernel. Conditions: none. -/
namespace Go.Proofs.YteoliiakbmomeabGreat.baseNames
open Go Go.RI
set_option maxRecDepth 100000
def L2 : List (Nat × List (List AVal × AVal)) := [(21, [([], (.b true))]), (22, [([], (.b true))]), (23, [([], (.b true))])] ++ L1
theorem known2 : Known (tabIP tab) (RI.G0 1) L2 := known_cons (one_y k25 <| no_ys) <| known_cons (one_y k26 <| no_ys) <| known_cons (one_y k27 <| no_ys) <| known1
theorem run_true : isTrueP (callKM (lookK (buildM L2)) (buildT tab) (RI.G0 1) 100000 (RI.G0 1).next 3 [] (RI.G0 1)) = true := by kernel_rfl
theorem brings : ∃ H', Brings (tabIP tab) (RI.G0 1) (RI.G0 1).next 3 [] (RI.G0 1) (.b true) H' := closed_memo known2 run_true
end Go.Proofs.YteoliiakbmomeabGreat.baseNames
