import Derived.Test.YteoliiakbmomeabGreatKA
set_option linter.unusedVariables false
set_option linter.unusedSimpArgs false
set_option linter.unusedSectionVars false
/- Runs of 'BaseNames', each by the kernel. Conditions: none. -/
namespace Go.Proofs.YteoliiakbmomeabGreat.baseNames
open Go Go.RI
set_option maxRecDepth 100000
theorem k12 : KnowsR (tabIP tab) (RI.G0 1) 7 [(.i .i64 (2)), (.i .i64 (2)), (.fs true false 4 [(.i .i64 (1)), (.i .i64 (0)), (.i .i64 (0)), (.i .i64 (25)), (.i .i64 (2)), (.i .i64 (0)), (.i .i64 (1)), (.i .i64 (0)), (.i .i64 (0)), (.i .i64 (30)), (.i .i64 (0)), (.i .i64 (0))])] (.b true) := knows_run (l := []) known_nil (fn := I7) ip7 rfl (by kernel_rfl) (k := 100000) (by kernel_rfl)
theorem k13 : KnowsR (tabIP tab) (RI.G0 1) 7 [(.i .i64 (2)), (.i .i64 (2)), (.fs true false 2 [(.i .i64 (1)), (.i .i64 (2)), (.i .i64 (0)), (.i .i64 (28)), (.i .i64 (0)), (.i .i64 (0))])] (.b true) := knows_run (l := []) known_nil (fn := I7) ip7 rfl (by kernel_rfl) (k := 100000) (by kernel_rfl)
theorem k14 : KnowsR (tabIP tab) (RI.G0 1) 7 [(.i .i64 (1)), (.i .i64 (2)), (.fs true false 2 [(.i .i64 (1)), (.i .i64 (0)), (.i .i64 (0)), (.i .i64 (28)), (.i .i64 (0)), (.i .i64 (0))])] (.b true) := knows_run (l := []) known_nil (fn := I7) ip7 rfl (by kernel_rfl) (k := 100000) (by kernel_rfl)
theorem k15 : KnowsR (tabIP tab) (RI.G0 1) 7 [(.i .i64 (2)), (.i .i64 (2)), (.fs true false 2 [(.i .i64 (1)), (.i .i64 (1)), (.i .i64 (0)), (.i .i64 (28)), (.i .i64 (0)), (.i .i64 (0))])] (.b true) := knows_run (l := []) known_nil (fn := I7) ip7 rfl (by kernel_rfl) (k := 100000) (by kernel_rfl)
end Go.Proofs.YteoliiakbmomeabGreat.baseNames
