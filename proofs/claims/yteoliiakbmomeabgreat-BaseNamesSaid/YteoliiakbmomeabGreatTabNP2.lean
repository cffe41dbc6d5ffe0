import Derived.Test.YteoliiakbmomeabGreatRows
import Derived.Test.YteoliiakbmomeabGreatM05
import Derived.Test.YteoliiakbmomeabGreatM06
set_option linter.unusedVariables false
set_option linter.unusedSimpArgs false
set_option linter.unusedSectionVars false
/- The functions that the statement reaches, as the interpreter has them, with modes. Conditions: none. -/
namespace Go.Proofs.YteoliiakbmomeabGreat
open Go Go.RI
set_option maxRecDepth 100000
/-- 'internal/bytealg.hashStr[string]'. -/
def L150a : ICode :=
  (.seq (.seq (.region [⟨(some 9), (.mov (.t 5)), none, []⟩,
      ⟨(some 10), (.mov (.t 0)), none, []⟩,
      ⟨(some 11), (.lenk 1 (.t 10)), none, []⟩,
      ⟨(some 12), (.bin .lss (.t 9) (.t 11)), none, []⟩] [])
    (.cond (.t 12)
      .skip
      (.exit 0)))
    (.seq (.block 1
      (.region [⟨(some 15), (.mov (.t 4)), none, []⟩,
        ⟨(some 16), (.bin .mul (.t 15) (.c (.i .u32 (16777619)))), none, []⟩,
        ⟨(some 17), (.mov (.t 0)), none, []⟩,
        ⟨(some 18), (.mov (.t 5)), none, []⟩,
        ⟨(some 19), (.idxS (.t 17) (.t 18)), none, []⟩,
        ⟨(some 20), (.conv .u32 (.t 19)), none, []⟩,
        ⟨(some 21), (.bin .add (.t 16) (.t 20)), none, []⟩,
        ⟨(some 4), (.mov (.t 21)), none, []⟩] []))
    (.region [⟨(some 13), (.mov (.t 5)), none, []⟩,
      ⟨(some 14), (.bin .add (.t 13) (.c (.i .i64 (1)))), none, []⟩,
      ⟨(some 5), (.mov (.t 14)), none, []⟩] [])))
def L150b : ICode :=
  (.seq (.seq (.region [⟨(some 24), (.mov (.t 8)), none, []⟩,
      ⟨(some 25), (.bin .gtr (.t 24) (.c (.i .i64 (0)))), none, []⟩] [])
    (.cond (.t 25)
      .skip
      (.exit 2)))
    (.seq (.block 3
      (.seq (.seq (.region [⟨(some 28), (.mov (.t 8)), none, []⟩,
        ⟨(some 29), (.bin .and (.t 28) (.c (.i .i64 (1)))), none, []⟩,
        ⟨(some 30), (.bin .neq (.t 29) (.c (.i .i64 (0)))), none, []⟩] [])
      (.cond (.t 30)
        (.region [⟨(some 31), (.mov (.t 6)), none, []⟩,
          ⟨(some 32), (.mov (.t 7)), none, []⟩,
          ⟨(some 33), (.bin .mul (.t 31) (.t 32)), none, []⟩,
          ⟨(some 6), (.mov (.t 33)), none, []⟩] [])
        .skip))
      (.region [⟨(some 34), (.mov (.t 7)), none, []⟩,
        ⟨(some 35), (.mov (.t 7)), none, []⟩,
        ⟨(some 36), (.bin .mul (.t 34) (.t 35)), none, []⟩,
        ⟨(some 7), (.mov (.t 36)), none, []⟩] [])))
    (.region [⟨(some 26), (.mov (.t 8)), none, []⟩,
      ⟨(some 27), (.bin .shr (.t 26) (.c (.i .u64 (1)))), none, []⟩,
      ⟨(some 8), (.mov (.t 27)), none, []⟩] [])))
def I150 : IFunc :=
  ⟨(.seq (.region [⟨(some 2), (.mov (.c (.i .u32 (0)))), none, []⟩,
      ⟨(some 3), (.mov (.c (.i .u32 (0)))), none, []⟩] [])
    (.seq (.region [⟨(some 4), (.mov (.c (.i .u32 (0)))), none, []⟩] [])
    (.seq (.seq (.region [⟨(some 5), (.mov (.c (.i .i64 (0)))), none, []⟩] [])
    (.block 0
      (.loop L150a)))
    (.seq (.region [⟨(some 6), (.mov (.c (.i .u32 (1)))), none, []⟩,
      ⟨(some 7), (.mov (.c (.i .u32 (16777619)))), none, []⟩] [])
    (.seq (.seq (.region [⟨(some 22), (.mov (.t 0)), none, []⟩,
      ⟨(some 23), (.lenk 1 (.t 22)), none, []⟩,
      ⟨(some 8), (.mov (.t 23)), none, []⟩] [])
    (.block 2
      (.loop L150b)))
    (.seq (.region [⟨(some 37), (.mov (.t 4)), none, []⟩,
      ⟨(some 38), (.mov (.t 6)), none, []⟩,
      ⟨(some 2), (.mov (.t 37)), none, []⟩,
      ⟨(some 3), (.mov (.t 38)), none, []⟩] [])
    .ret)))))),
    39, 1, [.t 2, .t 3], 0⟩
theorem tr150 : trFunc Tryz.prog [([], []), ([], []), ([], []), ([], []), ([], []), ([], []), ([], []), ([], []), ([], []), ([], []), ([], []), ([], []), ([], []), ([], []), ([], []), ([], []), ([], [])] 0 Tryz.f150 = some (plain1 I150) := by kernel_rfl
theorem ck150 : ckC 1 I150.body = true := by kernel_rfl


end Go.Proofs.YteoliiakbmomeabGreat

