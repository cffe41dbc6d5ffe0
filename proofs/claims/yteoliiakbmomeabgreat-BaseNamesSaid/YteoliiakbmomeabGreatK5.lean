import Derived.Test.YteoliiakbmomeabGreatKA
set_option linter.unusedVariables false
set_option linter.unusedSimpArgs false
set_option linter.unusedSectionVars false
/- Runs of 'BaseNames', each by the kernel. Conditions: none. -/
namespace Go.Proofs.YteoliiakbmomeabGreat.baseNames
open Go Go.RI
set_option maxRecDepth 100000
theorem k16 : KnowsR (tabIP tab) (RI.G0 1) 5 [(.ag [(.i .i64 (1)), (.i .i64 (1)), (.s []), (.fs false false 0 []), (.fs false false 0 [])]), (.i .i64 (5)), (.fs true false 5 [(.i .i64 (26)), (.i .i64 (4)), (.i .i64 (0)), (.i .i64 (1)), (.i .i64 (0)), (.i .i64 (0)), (.i .i64 (27)), (.i .i64 (0)), (.i .i64 (0)), (.i .i64 (24)), (.i .i64 (4)), (.i .i64 (0)), (.i .i64 (30)), (.i .i64 (0)), (.i .i64 (0))])] (.b true) := knows_run (l := []) known_nil (fn := I5) ip5 rfl (by kernel_rfl) (k := 100000) (by kernel_rfl)
theorem k17 : KnowsR (tabIP tab) (RI.G0 1) 5 [(.ag [(.i .i64 (1)), (.i .i64 (1)), (.s []), (.fs false false 0 []), (.fs false false 0 [])]), (.i .i64 (2)), (.fs true false 2 [(.i .i64 (1)), (.i .i64 (0)), (.i .i64 (0)), (.i .i64 (30)), (.i .i64 (0)), (.i .i64 (0))])] (.b true) := knows_run (l := []) known_nil (fn := I5) ip5 rfl (by kernel_rfl) (k := 100000) (by kernel_rfl)
theorem k18 : KnowsR (tabIP tab) (RI.G0 1) 7 [(.i .i64 (1)), (.i .i64 (3)), (.fs true false 4 [(.i .i64 (1)), (.i .i64 (0)), (.i .i64 (0)), (.i .i64 (1)), (.i .i64 (1)), (.i .i64 (0)), (.i .i64 (12)), (.i .i64 (0)), (.i .i64 (0)), (.i .i64 (30)), (.i .i64 (0)), (.i .i64 (0))])] (.b true) := knows_run (l := []) known_nil (fn := I7) ip7 rfl (by kernel_rfl) (k := 100000) (by kernel_rfl)
end Go.Proofs.YteoliiakbmomeabGreat.baseNames
