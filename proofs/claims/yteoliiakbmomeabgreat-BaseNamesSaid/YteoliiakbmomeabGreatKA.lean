import Derived.Test.YteoliiakbmomeabGreatTabN
set_option linter.unusedVariables false
set_option linter.unusedSimpArgs false
set_option linter.unusedSectionVars false
/- Runs of 'BaseNames', each by the kernel. Conditions: none. -/
namespace Go.Proofs.YteoliiakbmomeabGreat.baseNames
open Go Go.RI
set_option maxRecDepth 100000
theorem known_nil : Known (tabIP tab) (RI.G0 1) [] := fun x hx => by cases hx
theorem known_cons {k : Nat} {ys : List (List AVal × AVal)} {l : List (Nat × List (List AVal × AVal))} (h : ∀ y ∈ ys, KnowsR (tabIP tab) (RI.G0 1) k y.1 y.2) (hl : Known (tabIP tab) (RI.G0 1) l) : Known (tabIP tab) (RI.G0 1) ((k, ys) :: l) := by
  intro x hx
  rcases List.mem_cons.1 hx with rfl | hx
  · exact h
  · exact hl x hx
theorem no_ys {k : Nat} : ∀ y ∈ ([] : List (List AVal × AVal)), KnowsR (tabIP tab) (RI.G0 1) k y.1 y.2 := fun y hy => by cases hy
theorem one_y {k : Nat} {a : List AVal} {v : AVal} {ys : List (List AVal × AVal)} (h1 : KnowsR (tabIP tab) (RI.G0 1) k a v) (h : ∀ y ∈ ys, KnowsR (tabIP tab) (RI.G0 1) k y.1 y.2) : ∀ y ∈ (a, v) :: ys, KnowsR (tabIP tab) (RI.G0 1) k y.1 y.2 := by
  intro y hy
  rcases List.mem_cons.1 hy with rfl | hy
  · exact h1
  · exact h y hy
end Go.Proofs.YteoliiakbmomeabGreat.baseNames
