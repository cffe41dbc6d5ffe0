import Derived.Test.YteoliiakbmomeadGreatDoorRows
import Derived.Test.YteoliiakbmomeadGreatDoorM04
import Derived.Test.YteoliiakbmomeadGreatDoorM05
set_option linter.unusedVariables false
set_option linter.unusedSimpArgs false
set_option linter.unusedSectionVars false
/- The functions that the statement reaches, as the interpreter has them. Conditions: none. -/
namespace Go.Proofs.YteoliiakbmomeadGreatDoor
open Go Go.RI
/-- 'encore/lift.ints'. -/
def I151 : IFunc :=
  ⟨(.seq (.region [⟨(some 4), (.alloc [(.i .i64 (0)), (.i .i64 (0)), (.s []), .ns, .ns]), none, []⟩,
      ⟨(some 5), (.mov (.c (.b false))), none, []⟩] [])
    (.seq (.seq (.region [⟨(some 6), (.mov (.t 1)), none, []⟩,
      ⟨(some 7), (.call 26 [(.t 6), (.f 187)]), none, []⟩] [])
    (.cond (.t 7)
      (.seq (.region [⟨(some 8), (.build [(.i .i64 (0)), (.i .i64 (0)), (.s []), .ns, .ns] []), none, []⟩,
        ⟨none, (.store 5 (.t 4) (.t 8)), none, []⟩,
        ⟨(some 5), (.mov (.c (.b false))), none, []⟩] [])
      .ret)
      .skip))
    (.seq (.region [⟨(some 9), (.mov (.t 0)), none, []⟩,
      ⟨(some 10), (.mov (.t 1)), none, []⟩,
      ⟨(some 11), (.iaddr 5 (.t 10) (.c (.i .i64 (0)))), none, []⟩,
      ⟨(some 12), (.load (some 5) (.t 11)), none, []⟩,
      ⟨(some 13), (.mov (.t 1)), none, []⟩,
      ⟨(some 14), (.iaddr 5 (.t 13) (.c (.i .i64 (1)))), none, []⟩,
      ⟨(some 15), (.load (some 5) (.t 14)), none, []⟩,
      ⟨(some 16), (.call 103 [(.t 9), (.t 12), (.t 15)]), none, []⟩,
      ⟨(some 17), (.ext (.t 16) 0), none, []⟩,
      ⟨(some 18), (.ext (.t 16) 1), none, []⟩,
      ⟨(some 19), (.ext (.t 16) 2), none, []⟩,
      ⟨(some 20), (.call 102 [(.t 17), (.t 18), (.t 19)]), none, []⟩,
      ⟨(some 21), (.ext (.t 20) 0), none, []⟩,
      ⟨(some 22), (.ext (.t 20) 1), none, []⟩,
      ⟨none, (.store 5 (.t 4) (.t 21)), none, []⟩,
      ⟨(some 5), (.mov (.t 22)), none, []⟩] [])
    .ret))),
    23, 2, [.c 4 (some 5), .t 5], 0⟩
theorem tr151 : trFunc Tryz.prog [([], []), ([], []), ([], []), ([], []), ([0, 1, 2, 3, 4, 5, 6, 7, 8, 9, 10, 11, 12, 13, 14, 15], [])] 0 Tryz.f151 = some I151 := by kernel_rfl

/-- 'encore/lift.makers$9'. -/
def I152 : IFunc :=
  ⟨(.seq (.region [⟨(some 1), (.alloc [(.i .i64 (0)), (.i .i64 (0)), (.s []), .ns, .ns]), none, []⟩,
      ⟨(some 2), (.mov (.c (.b false))), none, []⟩] [])
    (.seq (.region [⟨(some 3), (.load none (.t 0)), none, []⟩,
      ⟨(some 4), (.call 151 [(.c (.i .i64 (10))), (.t 3)]), none, []⟩,
      ⟨(some 5), (.ext (.t 4) 0), none, []⟩,
      ⟨(some 6), (.ext (.t 4) 1), none, []⟩,
      ⟨none, (.store 5 (.t 1) (.t 5)), none, []⟩,
      ⟨(some 2), (.mov (.t 6)), none, []⟩] [])
    .ret)),
    7, 1, [.c 1 (some 5), .t 2], 0⟩
theorem tr152 : trFunc Tryz.prog [([], []), ([], [])] 0 Tryz.f152 = some I152 := by kernel_rfl

/-- 'encore/lift.makers$10'. -/
def I153 : IFunc :=
  ⟨(.seq (.region [⟨(some 1), (.alloc [(.i .i64 (0)), (.i .i64 (0)), (.s []), .ns, .ns]), none, []⟩,
      ⟨(some 2), (.mov (.c (.b false))), none, []⟩] [])
    (.seq (.region [⟨(some 3), (.load none (.t 0)), none, []⟩,
      ⟨(some 4), (.call 151 [(.c (.i .i64 (11))), (.t 3)]), none, []⟩,
      ⟨(some 5), (.ext (.t 4) 0), none, []⟩,
      ⟨(some 6), (.ext (.t 4) 1), none, []⟩,
      ⟨none, (.store 5 (.t 1) (.t 5)), none, []⟩,
      ⟨(some 2), (.mov (.t 6)), none, []⟩] [])
    .ret)),
    7, 1, [.c 1 (some 5), .t 2], 0⟩
theorem tr153 : trFunc Tryz.prog [([], []), ([], [])] 0 Tryz.f153 = some I153 := by kernel_rfl

/-- 'encore/lift.makers$11'. -/
def I154 : IFunc :=
  ⟨(.seq (.region [⟨(some 1), (.alloc [(.i .i64 (0)), (.i .i64 (0)), (.s []), .ns, .ns]), none, []⟩,
      ⟨(some 2), (.mov (.c (.b false))), none, []⟩] [])
    (.seq (.region [⟨(some 3), (.load none (.t 0)), none, []⟩,
      ⟨(some 4), (.call 151 [(.c (.i .i64 (16))), (.t 3)]), none, []⟩,
      ⟨(some 5), (.ext (.t 4) 0), none, []⟩,
      ⟨(some 6), (.ext (.t 4) 1), none, []⟩,
      ⟨none, (.store 5 (.t 1) (.t 5)), none, []⟩,
      ⟨(some 2), (.mov (.t 6)), none, []⟩] [])
    .ret)),
    7, 1, [.c 1 (some 5), .t 2], 0⟩
theorem tr154 : trFunc Tryz.prog [([], []), ([], [])] 0 Tryz.f154 = some I154 := by kernel_rfl

/-- 'encore/lift.makers$12'. -/
def I155 : IFunc :=
  ⟨(.seq (.region [⟨(some 1), (.alloc [(.i .i64 (0)), (.i .i64 (0)), (.s []), .ns, .ns]), none, []⟩,
      ⟨(some 2), (.mov (.c (.b false))), none, []⟩] [])
    (.seq (.region [⟨(some 3), (.load none (.t 0)), none, []⟩,
      ⟨(some 4), (.call 151 [(.c (.i .i64 (17))), (.t 3)]), none, []⟩,
      ⟨(some 5), (.ext (.t 4) 0), none, []⟩,
      ⟨(some 6), (.ext (.t 4) 1), none, []⟩,
      ⟨none, (.store 5 (.t 1) (.t 5)), none, []⟩,
      ⟨(some 2), (.mov (.t 6)), none, []⟩] [])
    .ret)),
    7, 1, [.c 1 (some 5), .t 2], 0⟩
theorem tr155 : trFunc Tryz.prog [([], []), ([], [])] 0 Tryz.f155 = some I155 := by kernel_rfl

/-- 'encore/lift.makers$13'. -/
def I156 : IFunc :=
  ⟨(.seq (.region [⟨(some 2), (.alloc [(.i .i64 (0)), (.i .i64 (0)), (.s []), .ns, .ns]), none, []⟩,
      ⟨(some 3), (.mov (.c (.b false))), none, []⟩] [])
    (.seq (.region [⟨(some 4), (.load none (.t 0)), none, []⟩,
      ⟨(some 5), (.iaddr 5 (.t 4) (.c (.i .i64 (0)))), none, []⟩,
      ⟨(some 6), (.load (some 5) (.t 5)), none, []⟩,
      ⟨(some 7), (.load (some 5) (.t 1)), none, []⟩,
      ⟨(some 8), (.bsl 5 2 [(.i .i64 (0)), (.i .i64 (0)), (.s []), .ns, .ns, (.i .i64 (0)), (.i .i64 (0)), (.s []), .ns, .ns] [(0, 5, (.t 6)), (5, 5, (.t 7))]), none, []⟩,
      ⟨(some 9), (.call 151 [(.c (.i .i64 (9))), (.t 8)]), none, []⟩,
      ⟨(some 10), (.ext (.t 9) 0), none, []⟩,
      ⟨(some 11), (.ext (.t 9) 1), none, []⟩,
      ⟨none, (.store 5 (.t 2) (.t 10)), none, []⟩,
      ⟨(some 3), (.mov (.t 11)), none, []⟩] [])
    .ret)),
    12, 2, [.c 2 (some 5), .t 3], 0⟩
theorem tr156 : trFunc Tryz.prog [([], []), ([0, 1, 2, 3, 4, 5, 6, 7, 8, 9], [])] 0 Tryz.f156 = some I156 := by kernel_rfl

/-- 'encore/lift.makers$14'. -/
def I157 : IFunc :=
  ⟨(.seq (.region [⟨(some 2), (.alloc [(.i .i64 (0)), (.i .i64 (0)), (.s []), .ns, .ns]), none, []⟩,
      ⟨(some 3), (.mov (.c (.b false))), none, []⟩] [])
    (.seq (.region [⟨(some 4), (.load none (.t 0)), none, []⟩,
      ⟨(some 5), (.iaddr 5 (.t 4) (.c (.i .i64 (0)))), none, []⟩,
      ⟨(some 6), (.load (some 5) (.t 5)), none, []⟩,
      ⟨(some 7), (.load (some 5) (.t 1)), none, []⟩,
      ⟨(some 8), (.bsl 5 2 [(.i .i64 (0)), (.i .i64 (0)), (.s []), .ns, .ns, (.i .i64 (0)), (.i .i64 (0)), (.s []), .ns, .ns] [(0, 5, (.t 6)), (5, 5, (.t 7))]), none, []⟩,
      ⟨(some 9), (.call 151 [(.c (.i .i64 (16))), (.t 8)]), none, []⟩,
      ⟨(some 10), (.ext (.t 9) 0), none, []⟩,
      ⟨(some 11), (.ext (.t 9) 1), none, []⟩,
      ⟨none, (.store 5 (.t 2) (.t 10)), none, []⟩,
      ⟨(some 3), (.mov (.t 11)), none, []⟩] [])
    .ret)),
    12, 2, [.c 2 (some 5), .t 3], 0⟩
theorem tr157 : trFunc Tryz.prog [([], []), ([0, 1, 2, 3, 4, 5, 6, 7, 8, 9], [])] 0 Tryz.f157 = some I157 := by kernel_rfl

/-- 'encore/arith.may'. -/
def I158 : IFunc :=
  ⟨(.seq (.region [⟨(some 2), (.mov (.c (.b false))), none, []⟩] [])
    (.seq (.region [⟨(some 3), (.mov (.t 0)), none, []⟩,
      ⟨(some 4), (.call 26 [(.t 3), (.f 188)]), none, []⟩,
      ⟨(some 5), (.un .not (.t 4)), none, []⟩,
      ⟨(some 2), (.mov (.t 5)), none, []⟩] [])
    .ret)),
    6, 1, [.t 2], 0⟩
theorem tr158 : trFunc Tryz.prog [([], []), ([], [])] 0 Tryz.f158 = some I158 := by kernel_rfl

/-- 'encore/arith.yes'. -/
def I159 : IFunc :=
  ⟨(.seq (.region [⟨(some 2), (.alloc [(.i .i64 (0)), (.i .i64 (0)), (.s []), .ns, .ns]), none, []⟩] [])
    (.seq (.region [⟨(some 4), (.build [(.i .i64 (0)), (.i .i64 (0)), (.s []), .ns, .ns] [(0, 1, (.c (.i .i64 (2))))]), none, []⟩,
      ⟨(some 3), (.alloc [(.i .i64 (0)), (.i .i64 (0)), (.s []), .ns, .ns]), none, []⟩,
      ⟨none, (.store 5 (.t 3) (.t 4)), none, []⟩] [])
    (.seq (.seq (.region [⟨(some 5), (.mov (.t 0)), none, []⟩] [])
    (.cond (.t 5)
      (.region [⟨(some 6), (.off (.t 3) 1), none, []⟩,
        ⟨none, (.store 1 (.t 6) (.c (.i .i64 (1)))), none, []⟩] [])
      .skip))
    (.seq (.region [⟨(some 7), (.load (some 5) (.t 3)), none, []⟩,
      ⟨none, (.store 5 (.t 2) (.t 7)), none, []⟩] [])
    .ret)))),
    8, 1, [.c 2 (some 5)], 0⟩
theorem tr159 : trFunc Tryz.prog [([], []), ([], []), ([], []), ([], []), ([], []), ([], [])] 0 Tryz.f159 = some I159 := by kernel_rfl

/-- 'encore/arith.ints'. -/
def I160 : IFunc :=
  ⟨(.seq (.region [⟨(some 6), (.alloc [(.i .i64 (0)), (.i .i64 (0)), (.s []), .ns, .ns]), none, []⟩,
      ⟨(some 7), (.mov (.c (.i .i64 (0)))), none, []⟩] [])
    (.seq (.seq (.region [⟨(some 8), (.mov (.t 0)), none, []⟩] [])
    (.block 0
      (.seq (.block 6
        (.seq (.block 5
          (.seq (.block 4
            (.seq (.block 3
              (.seq (.block 2
                (.seq (.block 1
                  (.seq (.seq (.seq (.region [⟨(some 10), (.bin .eql (.t 8) (.c (.i .i64 (9)))), none, []⟩,
                    ⟨(some 9), (.mov (.t 10)), none, []⟩] [])
                  (.cond (.t 9)
                    (.exit 1)
                    .skip))
                  (.seq (.seq (.region [⟨(some 12), (.bin .eql (.t 8) (.c (.i .i64 (10)))), none, []⟩,
                    ⟨(some 11), (.mov (.t 12)), none, []⟩] [])
                  (.cond (.t 11)
                    (.exit 2)
                    .skip))
                  (.seq (.seq (.region [⟨(some 14), (.bin .eql (.t 8) (.c (.i .i64 (11)))), none, []⟩,
                    ⟨(some 13), (.mov (.t 14)), none, []⟩] [])
                  (.cond (.t 13)
                    (.exit 3)
                    .skip))
                  (.seq (.seq (.region [⟨(some 16), (.bin .eql (.t 8) (.c (.i .i64 (17)))), none, []⟩,
                    ⟨(some 15), (.mov (.t 16)), none, []⟩] [])
                  (.cond (.t 15)
                    (.exit 4)
                    .skip))
                  (.seq (.seq (.region [⟨(some 18), (.bin .eql (.t 8) (.c (.i .i64 (16)))), none, []⟩,
                    ⟨(some 17), (.mov (.t 18)), none, []⟩] [])
                  (.cond (.t 17)
                    (.exit 5)
                    .skip))
                  (.seq (.seq (.region [⟨(some 20), (.bin .eql (.t 8) (.c (.i .i64 (12)))), none, []⟩,
                    ⟨(some 19), (.mov (.t 20)), none, []⟩] [])
                  (.cond (.t 19)
                    .skip
                    (.region [⟨(some 21), (.bin .eql (.t 8) (.c (.i .i64 (13)))), none, []⟩,
                      ⟨(some 19), (.mov (.t 21)), none, []⟩] [])))
                  (.cond (.t 19)
                    (.exit 6)
                    .skip)))))))
                  (.exit 0)))
                (.seq (.seq (.region [⟨(some 22), (.mov (.t 1)), none, []⟩,
                  ⟨(some 23), (.mov (.t 2)), none, []⟩,
                  ⟨(some 24), (.bin .add (.t 22) (.t 23)), none, []⟩,
                  ⟨(some 25), (.call 164 [(.t 24)]), none, []⟩,
                  ⟨none, (.store 5 (.t 6) (.t 25)), none, []⟩,
                  ⟨(some 7), (.mov (.c (.i .i64 (0)))), none, []⟩] [])
                .ret)
                (.exit 0))))
              (.seq (.seq (.region [⟨(some 26), (.mov (.t 1)), none, []⟩,
                ⟨(some 27), (.mov (.t 2)), none, []⟩,
                ⟨(some 28), (.bin .sub (.t 26) (.t 27)), none, []⟩,
                ⟨(some 29), (.call 164 [(.t 28)]), none, []⟩,
                ⟨none, (.store 5 (.t 6) (.t 29)), none, []⟩,
                ⟨(some 7), (.mov (.c (.i .i64 (0)))), none, []⟩] [])
              .ret)
              (.exit 0))))
            (.seq (.seq (.region [⟨(some 30), (.mov (.t 1)), none, []⟩,
              ⟨(some 31), (.mov (.t 2)), none, []⟩,
              ⟨(some 32), (.bin .mul (.t 30) (.t 31)), none, []⟩,
              ⟨(some 33), (.call 164 [(.t 32)]), none, []⟩,
              ⟨none, (.store 5 (.t 6) (.t 33)), none, []⟩,
              ⟨(some 7), (.mov (.c (.i .i64 (0)))), none, []⟩] [])
            .ret)
            (.exit 0))))
          (.seq (.region [⟨(some 34), (.mov (.t 1)), none, []⟩,
            ⟨(some 35), (.mov (.t 2)), none, []⟩,
            ⟨(some 36), (.bin .eql (.t 34) (.t 35)), none, []⟩] [])
          (.cond (.t 36)
            (.seq (.region [⟨(some 37), (.call 159 [(.c (.b true))]), none, []⟩,
              ⟨none, (.store 5 (.t 6) (.t 37)), none, []⟩,
              ⟨(some 7), (.mov (.c (.i .i64 (0)))), none, []⟩] [])
            .ret)
            .skip))))
        (.seq (.seq (.region [⟨(some 38), (.mov (.t 1)), none, []⟩,
          ⟨(some 39), (.mov (.t 2)), none, []⟩,
          ⟨(some 40), (.bin .lss (.t 38) (.t 39)), none, []⟩,
          ⟨(some 41), (.call 159 [(.t 40)]), none, []⟩,
          ⟨none, (.store 5 (.t 6) (.t 41)), none, []⟩,
          ⟨(some 7), (.mov (.c (.i .i64 (0)))), none, []⟩] [])
        .ret)
        (.exit 0))))
      (.seq (.seq (.seq (.region [⟨(some 42), (.mov (.t 2)), none, []⟩,
        ⟨(some 43), (.bin .eql (.t 42) (.c (.i .i64 (0)))), none, []⟩] [])
      (.cond (.t 43)
        (.seq (.region [⟨(some 44), (.build [(.i .i64 (0)), (.i .i64 (0)), (.s []), .ns, .ns] []), none, []⟩,
          ⟨none, (.store 5 (.t 6) (.t 44)), none, []⟩,
          ⟨(some 7), (.mov (.c (.i .i64 (1)))), none, []⟩] [])
        .ret)
        .skip))
      (.seq (.seq (.region [⟨(some 45), (.mov (.t 0)), none, []⟩,
        ⟨(some 46), (.bin .eql (.t 45) (.c (.i .i64 (12)))), none, []⟩] [])
      (.cond (.t 46)
        (.seq (.region [⟨(some 47), (.mov (.t 1)), none, []⟩,
          ⟨(some 48), (.mov (.t 2)), none, []⟩,
          ⟨(some 49), (.bin .quo (.t 47) (.t 48)), none, []⟩,
          ⟨(some 50), (.call 164 [(.t 49)]), none, []⟩,
          ⟨none, (.store 5 (.t 6) (.t 50)), none, []⟩,
          ⟨(some 7), (.mov (.c (.i .i64 (0)))), none, []⟩] [])
        .ret)
        .skip))
      (.seq (.region [⟨(some 51), (.mov (.t 1)), none, []⟩,
        ⟨(some 52), (.mov (.t 2)), none, []⟩,
        ⟨(some 53), (.bin .rem (.t 51) (.t 52)), none, []⟩,
        ⟨(some 54), (.call 164 [(.t 53)]), none, []⟩,
        ⟨none, (.store 5 (.t 6) (.t 54)), none, []⟩,
        ⟨(some 7), (.mov (.c (.i .i64 (0)))), none, []⟩] [])
      .ret)))
      (.exit 0)))))
    (.seq (.region [⟨(some 55), (.build [(.i .i64 (0)), (.i .i64 (0)), (.s []), .ns, .ns] []), none, []⟩,
      ⟨none, (.store 5 (.t 6) (.t 55)), none, []⟩,
      ⟨(some 7), (.mov (.c (.i .i64 (2)))), none, []⟩] [])
    .ret))),
    56, 3, [.c 6 (some 5), .t 7], 0⟩
theorem tr160 : trFunc Tryz.prog [([], []), ([], []), ([], []), ([], []), ([], []), ([], []), ([], []), ([], []), ([], []), ([], []), ([], []), ([], []), ([], []), ([], []), ([], []), ([], []), ([], []), ([], []), ([], []), ([], []), ([], []), ([], []), ([], []), ([], []), ([], []), ([], []), ([], []), ([], []), ([], []), ([], []), ([], [])] 0 Tryz.f160 = some I160 := by kernel_rfl

/-- 'encore/arith.texts'. -/
def I161 : IFunc :=
  ⟨(.seq (.region [⟨(some 6), (.alloc [(.i .i64 (0)), (.i .i64 (0)), (.s []), .ns, .ns]), none, []⟩,
      ⟨(some 7), (.mov (.c (.i .i64 (0)))), none, []⟩] [])
    (.seq (.seq (.region [⟨(some 8), (.mov (.t 0)), none, []⟩] [])
    (.block 0
      (.seq (.block 3
        (.seq (.block 2
          (.seq (.block 1
            (.seq (.seq (.seq (.region [⟨(some 10), (.bin .eql (.t 8) (.c (.i .i64 (9)))), none, []⟩,
              ⟨(some 9), (.mov (.t 10)), none, []⟩] [])
            (.cond (.t 9)
              (.exit 1)
              .skip))
            (.seq (.seq (.region [⟨(some 12), (.bin .eql (.t 8) (.c (.i .i64 (17)))), none, []⟩,
              ⟨(some 11), (.mov (.t 12)), none, []⟩] [])
            (.cond (.t 11)
              (.exit 2)
              .skip))
            (.seq (.region [⟨(some 14), (.bin .eql (.t 8) (.c (.i .i64 (16)))), none, []⟩,
              ⟨(some 13), (.mov (.t 14)), none, []⟩] [])
            (.cond (.t 13)
              (.exit 3)
              .skip))))
            (.exit 0)))
          (.seq (.seq (.region [⟨(some 15), (.mov (.t 1)), none, []⟩,
            ⟨(some 16), (.mov (.t 2)), none, []⟩,
            ⟨(some 17), (.bin .add (.t 15) (.t 16)), none, []⟩,
            ⟨(some 18), (.build [(.i .i64 (0)), (.i .i64 (0)), (.s []), .ns, .ns] [(0, 1, (.c (.i .i64 (3)))), (2, 1, (.t 17))]), none, []⟩,
            ⟨(some 19), (.call 183 [(.t 18)]), none, []⟩,
            ⟨(some 20), (.ext (.t 19) 0), none, []⟩,
            ⟨(some 21), (.ext (.t 19) 1), none, []⟩,
            ⟨none, (.store 5 (.t 6) (.t 20)), none, []⟩,
            ⟨(some 7), (.mov (.t 21)), none, []⟩] [])
          .ret)
          (.exit 0))))
        (.seq (.region [⟨(some 22), (.mov (.t 1)), none, []⟩,
          ⟨(some 23), (.mov (.t 2)), none, []⟩,
          ⟨(some 24), (.bin .eql (.t 22) (.t 23)), none, []⟩] [])
        (.cond (.t 24)
          (.seq (.region [⟨(some 25), (.call 159 [(.c (.b true))]), none, []⟩,
            ⟨none, (.store 5 (.t 6) (.t 25)), none, []⟩,
            ⟨(some 7), (.mov (.c (.i .i64 (0)))), none, []⟩] [])
          .ret)
          .skip))))
      (.seq (.seq (.region [⟨(some 26), (.mov (.t 1)), none, []⟩,
        ⟨(some 27), (.mov (.t 2)), none, []⟩,
        ⟨(some 28), (.bin .lss (.t 26) (.t 27)), none, []⟩,
        ⟨(some 29), (.call 159 [(.t 28)]), none, []⟩,
        ⟨none, (.store 5 (.t 6) (.t 29)), none, []⟩,
        ⟨(some 7), (.mov (.c (.i .i64 (0)))), none, []⟩] [])
      .ret)
      (.exit 0)))))
    (.seq (.region [⟨(some 30), (.build [(.i .i64 (0)), (.i .i64 (0)), (.s []), .ns, .ns] []), none, []⟩,
      ⟨none, (.store 5 (.t 6) (.t 30)), none, []⟩,
      ⟨(some 7), (.mov (.c (.i .i64 (2)))), none, []⟩] [])
    .ret))),
    31, 3, [.c 6 (some 5), .t 7], 0⟩
theorem tr161 : trFunc Tryz.prog [([], []), ([], []), ([], []), ([], []), ([], []), ([], []), ([], []), ([], []), ([], []), ([], []), ([], []), ([], []), ([], []), ([], [])] 0 Tryz.f161 = some I161 := by kernel_rfl

/-- 'encore/arith.longer'. -/
def I162 : IFunc :=
  ⟨(.seq (.region [⟨(some 2), (.box (.t 0)), none, []⟩,
      ⟨(some 4), (.alloc [(.i .i64 (0)), (.i .i64 (0)), (.s []), .ns, .ns]), none, []⟩,
      ⟨(some 5), (.mov (.c (.i .i64 (0)))), none, []⟩] [])
    (.seq (.region [⟨(some 6), (.off (.t 2) 3), none, []⟩,
      ⟨(some 7), (.load none (.t 6)), none, []⟩,
      ⟨(some 8), (.call 63 [(.t 7)]), none, []⟩,
      ⟨(some 9), (.mov (.t 1)), none, []⟩,
      ⟨(some 10), (.app 5 80 (.t 8) (.t 9)), none, []⟩,
      ⟨(some 11), (.build [(.i .i64 (0)), (.i .i64 (0)), (.s []), .ns, .ns] [(0, 1, (.c (.i .i64 (4)))), (3, 1, (.t 10))]), none, []⟩,
      ⟨(some 12), (.call 183 [(.t 11)]), none, []⟩,
      ⟨(some 13), (.ext (.t 12) 0), none, []⟩,
      ⟨(some 14), (.ext (.t 12) 1), none, []⟩,
      ⟨none, (.store 5 (.t 4) (.t 13)), none, []⟩,
      ⟨(some 5), (.mov (.t 14)), none, []⟩] [])
    .ret)),
    15, 2, [.c 4 (some 5), .t 5], 0⟩
theorem tr162 : trFunc Tryz.prog [([], []), ([], [])] 0 Tryz.f162 = some I162 := by kernel_rfl

/-- 'encore/arith.own'. -/
def L163a : ICode :=
  (.seq (.region [⟨(some 16), (.bin .lss (.t 15) (.t 14)), none, []⟩] [])
    (.seq (.cond (.t 16)
      .skip
      (.exit 0))
    (.seq (.block 1
      (.seq (.region [⟨(some 17), (.mov (.t 15)), none, []⟩,
        ⟨(some 3), (.mov (.t 17)), none, []⟩] [])
      (.region [⟨(some 18), (.off (.t 1) 3), none, []⟩,
        ⟨(some 19), (.load none (.t 18)), none, []⟩,
        ⟨(some 20), (.mov (.t 3)), none, []⟩,
        ⟨(some 21), (.off (.t 1) 3), none, []⟩,
        ⟨(some 22), (.load none (.t 21)), none, []⟩,
        ⟨(some 23), (.mov (.t 3)), none, []⟩,
        ⟨(some 24), (.iaddr 5 (.t 22) (.t 23)), none, []⟩,
        ⟨(some 25), (.load (some 5) (.t 24)), none, []⟩,
        ⟨(some 26), (.call 163 [(.t 25)]), none, [(19, (.load none (.t 18)), none)]⟩,
        ⟨(some 27), (.iaddr 5 (.t 19) (.t 20)), none, []⟩,
        ⟨none, (.store 5 (.t 27) (.t 26)), none, []⟩] [])))
    (.region [⟨(some 28), (.bin .add (.t 15) (.c (.i .i64 (1)))), none, []⟩,
      ⟨(some 15), (.mov (.t 28)), none, []⟩] []))))
def I163 : IFunc :=
  ⟨(.seq (.region [⟨(some 1), (.box (.t 0)), none, []⟩,
      ⟨(some 2), (.alloc [(.i .i64 (0)), (.i .i64 (0)), (.s []), .ns, .ns]), none, []⟩] [])
    (.seq (.region [⟨(some 4), (.off (.t 1) 4), none, []⟩,
      ⟨(some 5), (.load none (.t 4)), none, []⟩,
      ⟨(some 7), (.off (.t 1) 3), none, []⟩,
      ⟨(some 8), (.load none (.t 7)), none, []⟩,
      ⟨(some 6), (.call 45 [(.t 5)]), none, [(8, (.load none (.t 7)), none)]⟩,
      ⟨(some 10), (.off (.t 1) 4), none, []⟩,
      ⟨(some 9), (.call 63 [(.t 8)]), none, []⟩,
      ⟨none, (.store 1 (.t 10) (.t 6)), none, []⟩,
      ⟨(some 11), (.off (.t 1) 3), none, []⟩,
      ⟨none, (.store 1 (.t 11) (.t 9)), none, []⟩] [])
    (.seq (.seq (.region [⟨(some 12), (.off (.t 1) 3), none, []⟩,
      ⟨(some 13), (.load none (.t 12)), none, []⟩,
      ⟨(some 14), (.lenk 0 (.t 13)), none, []⟩,
      ⟨(some 15), (.mov (.c (.i .i64 (0)))), none, []⟩] [])
    (.block 0
      (.loop L163a)))
    (.seq (.region [⟨(some 29), (.load (some 5) (.t 1)), none, []⟩,
      ⟨none, (.store 5 (.t 2) (.t 29)), none, []⟩] [])
    .ret)))),
    30, 1, [.c 2 (some 5)], 0⟩
theorem tr163 : trFunc Tryz.prog [([], []), ([0, 1, 3, 4, 2, 6, 5, 7, 8, 9], []), ([], []), ([], []), ([], []), ([], []), ([0, 1, 2, 3, 4, 5, 6, 7, 8, 9, 10], []), ([], []), ([], [])] 0 Tryz.f163 = some I163 := by kernel_rfl

/-- 'encore/arith.num'. -/
def I164 : IFunc :=
  ⟨(.seq (.region [⟨(some 2), (.alloc [(.i .i64 (0)), (.i .i64 (0)), (.s []), .ns, .ns]), none, []⟩] [])
    (.seq (.region [⟨(some 3), (.mov (.t 0)), none, []⟩,
      ⟨(some 4), (.build [(.i .i64 (0)), (.i .i64 (0)), (.s []), .ns, .ns] [(0, 1, (.c (.i .i64 (1)))), (1, 1, (.t 3))]), none, []⟩,
      ⟨none, (.store 5 (.t 2) (.t 4)), none, []⟩] [])
    .ret)),
    5, 1, [.c 2 (some 5)], 0⟩
theorem tr164 : trFunc Tryz.prog [([], []), ([], [])] 0 Tryz.f164 = some I164 := by kernel_rfl

/-- '(encore/value.plain).bare'. -/
def I165 : IFunc :=
  ⟨(.seq (.region [⟨(some 2), (.box (.t 0)), none, []⟩,
      ⟨(some 3), (.box (.t 1)), none, []⟩,
      ⟨(some 4), (.mov (.c (.b false))), none, []⟩] [])
    (.seq (.region [⟨(some 5), (.off (.t 2) 0), none, []⟩,
      ⟨(some 6), (.load none (.t 5)), none, []⟩,
      ⟨(some 7), (.mov (.t 6)), none, []⟩,
      ⟨(some 8), (.off (.t 3) 2), (some (7, false)), []⟩,
      ⟨(some 9), (.load none (.t 8)), (some (7, false)), []⟩,
      ⟨(some 10), (.bin .eql (.t 9) (.c (.s []))), (some (7, false)), []⟩,
      ⟨(some 11), (.pick (.t 7) (.c (.b true)) (.t 10)), none, []⟩,
      ⟨(some 12), (.mov (.t 11)), none, []⟩,
      ⟨(some 13), (.off (.t 2) 1), (some (12, true)), []⟩,
      ⟨(some 14), (.load none (.t 13)), (some (12, true)), []⟩,
      ⟨(some 15), (.mov (.t 14)), (some (12, true)), []⟩,
      ⟨(some 16), (.off (.t 3) 3), (some (15, false)), []⟩,
      ⟨(some 17), (.load none (.t 16)), (some (15, false)), []⟩,
      ⟨(some 18), (.lenk 0 (.t 17)), (some (15, false)), []⟩,
      ⟨(some 19), (.bin .eql (.t 18) (.c (.i .i64 (0)))), (some (15, false)), []⟩,
      ⟨(some 20), (.pick (.t 15) (.c (.b true)) (.t 19)), (some (12, true)), []⟩,
      ⟨(some 21), (.pick (.t 12) (.t 20) (.c (.b false))), none, []⟩,
      ⟨(some 22), (.mov (.t 21)), none, []⟩,
      ⟨(some 23), (.off (.t 2) 2), (some (22, true)), []⟩,
      ⟨(some 24), (.load none (.t 23)), (some (22, true)), []⟩,
      ⟨(some 25), (.mov (.t 24)), (some (22, true)), []⟩,
      ⟨(some 26), (.off (.t 3) 4), (some (25, false)), []⟩,
      ⟨(some 27), (.load none (.t 26)), (some (25, false)), []⟩,
      ⟨(some 28), (.lenk 0 (.t 27)), (some (25, false)), []⟩,
      ⟨(some 29), (.bin .eql (.t 28) (.c (.i .i64 (0)))), (some (25, false)), []⟩,
      ⟨(some 30), (.pick (.t 25) (.c (.b true)) (.t 29)), (some (22, true)), []⟩,
      ⟨(some 31), (.pick (.t 22) (.t 30) (.c (.b false))), none, []⟩,
      ⟨(some 4), (.mov (.t 31)), none, []⟩] [])
    .ret)),
    32, 2, [.t 4], 0⟩
theorem tr165 : trFunc Tryz.prog [([], []), ([], [])] 0 Tryz.f165 = some I165 := by kernel_rfl

/-- 'encore/value.rising'. -/
def L166a : ICode :=
  (.seq (.region [⟨(some 9), (.bin .lss (.t 8) (.t 7)), none, []⟩] [])
    (.seq (.cond (.t 9)
      .skip
      (.exit 0))
    (.seq (.block 1
      (.seq (.region [⟨(some 10), (.iaddr 1 (.t 6) (.t 8)), none, []⟩,
        ⟨(some 11), (.load none (.t 10)), none, []⟩,
        ⟨(some 5), (.mov (.t 11)), none, []⟩] [])
      (.seq (.seq (.region [⟨(some 12), (.mov (.t 5)), none, []⟩,
        ⟨(some 13), (.mov (.t 3)), none, []⟩,
        ⟨(some 14), (.bin .leq (.t 12) (.t 13)), none, []⟩,
        ⟨(some 15), (.mov (.t 14)), none, []⟩,
        ⟨(some 16), (.mov (.t 5)), (some (15, false)), []⟩,
        ⟨(some 17), (.call 189 [(.t 16)]), (some (15, false)), []⟩,
        ⟨(some 18), (.un .not (.t 17)), (some (15, false)), []⟩,
        ⟨(some 19), (.pick (.t 15) (.c (.b true)) (.t 18)), none, []⟩] [])
      (.cond (.t 19)
        (.seq (.region [⟨(some 2), (.mov (.c (.b false))), none, []⟩] [])
        .ret)
        .skip))
      (.region [⟨(some 20), (.mov (.t 5)), none, []⟩,
        ⟨(some 3), (.mov (.t 20)), none, []⟩] []))))
    (.region [⟨(some 21), (.bin .add (.t 8) (.c (.i .i64 (1)))), none, []⟩,
      ⟨(some 8), (.mov (.t 21)), none, []⟩] []))))
def I166 : IFunc :=
  ⟨(.seq (.region [⟨(some 2), (.mov (.c (.b false))), none, []⟩] [])
    (.seq (.region [⟨(some 3), (.mov (.c (.s []))), none, []⟩] [])
    (.seq (.seq (.region [⟨(some 6), (.mov (.t 0)), none, []⟩,
      ⟨(some 7), (.lenk 0 (.t 6)), none, []⟩,
      ⟨(some 8), (.mov (.c (.i .i64 (0)))), none, []⟩] [])
    (.block 0
      (.loop L166a)))
    (.seq (.region [⟨(some 2), (.mov (.c (.b true))), none, []⟩] [])
    .ret)))),
    22, 1, [.t 2], 0⟩
theorem tr166 : trFunc Tryz.prog [([], []), ([], []), ([], []), ([], []), ([], []), ([], []), ([], []), ([], []), ([], []), ([], []), ([], []), ([], [])] 0 Tryz.f166 = some I166 := by kernel_rfl

/-- 'slices.IndexFunc[[]encore/api.Func,encore/api.Func]'. -/
def L167a : ICode :=
  (.seq (.region [⟨(some 9), (.bin .lss (.t 8) (.t 7)), none, []⟩] [])
    (.seq (.cond (.t 9)
      .skip
      (.exit 0))
    (.seq (.block 1
      (.seq (.region [⟨(some 10), (.mov (.t 8)), none, []⟩,
        ⟨(some 5), (.mov (.t 10)), none, []⟩] [])
      (.seq (.region [⟨(some 11), (.mov (.t 1)), none, []⟩,
        ⟨(some 12), (.mov (.t 0)), none, []⟩,
        ⟨(some 13), (.mov (.t 5)), none, []⟩,
        ⟨(some 14), (.iaddr 4 (.t 12) (.t 13)), none, []⟩,
        ⟨(some 15), (.load (some 4) (.t 14)), none, []⟩,
        ⟨(some 16), (.callv (.t 11) [(.t 15)]), none, []⟩] [])
      (.cond (.t 16)
        (.seq (.region [⟨(some 17), (.mov (.t 5)), none, []⟩,
          ⟨(some 4), (.mov (.t 17)), none, []⟩] [])
        .ret)
        .skip))))
    (.region [⟨(some 18), (.bin .add (.t 8) (.c (.i .i64 (1)))), none, []⟩,
      ⟨(some 8), (.mov (.t 18)), none, []⟩] []))))
def I167 : IFunc :=
  ⟨(.seq (.region [⟨(some 4), (.mov (.c (.i .i64 (0)))), none, []⟩] [])
    (.seq (.seq (.region [⟨(some 6), (.mov (.t 0)), none, []⟩,
      ⟨(some 7), (.lenk 0 (.t 6)), none, []⟩,
      ⟨(some 8), (.mov (.c (.i .i64 (0)))), none, []⟩] [])
    (.block 0
      (.loop L167a)))
    (.seq (.region [⟨(some 4), (.mov (.c (.i .i64 (-1)))), none, []⟩] [])
    .ret))),
    19, 2, [.t 4], 0⟩
theorem tr167 : trFunc Tryz.prog [([], []), ([], []), ([], []), ([], []), ([], []), ([], []), ([], []), ([], []), ([], []), ([], [])] 0 Tryz.f167 = some I167 := by kernel_rfl

/-- 'encore/code.name'. -/
def I168 : IFunc :=
  ⟨(.seq (.region [⟨(some 2), (.mov (.c (.b false))), none, []⟩] [])
    (.seq (.region [⟨(some 3), (.mov (.t 0)), none, []⟩,
      ⟨(some 4), (.bsl 1 1 [(.s [])] [(0, 1, (.t 3))]), none, []⟩,
      ⟨(some 5), (.mksl 5 80 [(.i .i64 (0)), (.i .i64 (0)), (.s []), .ns, .ns] (.c (.i .i64 (1))) (.c (.i .i64 (1)))), none, []⟩,
      ⟨(some 6), (.build [(.i .i64 (0)), (.i .i64 (0)), (.s []), .ns, .ns] [(0, 1, (.c (.i .i64 (5)))), (4, 1, (.t 4)), (3, 1, (.t 5))]), none, []⟩,
      ⟨(some 7), (.call 24 [(.t 6)]), none, []⟩,
      ⟨(some 8), (.bin .eql (.t 7) (.c (.i .i64 (0)))), none, []⟩,
      ⟨(some 2), (.mov (.t 8)), none, []⟩] [])
    .ret)),
    9, 1, [.t 2], 0⟩
theorem tr168 : trFunc Tryz.prog [([], []), ([], [])] 0 Tryz.f168 = some I168 := by kernel_rfl

/-- '(encore/code.site).may'. -/
def I169 : IFunc :=
  ⟨(.seq (.region [⟨(some 1), (.box (.t 0)), none, []⟩,
      ⟨(some 2), (.mov (.c .nf)), none, []⟩] [])
    (.seq (.seq (.region [⟨(some 3), (.off (.t 1) 2), none, []⟩,
      ⟨(some 4), (.off (.t 3) 0), none, []⟩,
      ⟨(some 5), (.load none (.t 4)), none, []⟩] [])
    (.block 0
      (.seq (.region [⟨(some 7), (.bin .eql (.t 5) (.c (.i .i64 (1)))), none, []⟩,
        ⟨(some 6), (.mov (.t 7)), none, []⟩] [])
      (.cond (.t 6)
        (.seq (.region [⟨(some 8), (.load (some 5) (.t 1)), none, []⟩,
          ⟨(some 9), (.mkf 190 [(.t 8)] []), none, []⟩,
          ⟨(some 2), (.mov (.t 9)), none, []⟩] [])
        .ret)
        (.seq (.seq (.region [⟨(some 11), (.bin .eql (.t 5) (.c (.i .i64 (2)))), none, []⟩,
          ⟨(some 10), (.mov (.t 11)), none, []⟩] [])
        (.cond (.t 10)
          .skip
          (.region [⟨(some 12), (.bin .eql (.t 5) (.c (.i .i64 (3)))), none, []⟩,
            ⟨(some 10), (.mov (.t 12)), none, []⟩] [])))
        (.cond (.t 10)
          (.seq (.region [⟨(some 13), (.load (some 5) (.t 1)), none, []⟩,
            ⟨(some 14), (.mkf 191 [(.t 13)] []), none, []⟩,
            ⟨(some 2), (.mov (.t 14)), none, []⟩] [])
          .ret)
          (.seq (.region [⟨(some 16), (.bin .eql (.t 5) (.c (.i .i64 (20)))), none, []⟩,
            ⟨(some 15), (.mov (.t 16)), none, []⟩] [])
          (.cond (.t 15)
            (.seq (.region [⟨(some 17), (.load (some 5) (.t 1)), none, []⟩,
              ⟨(some 18), (.mkf 192 [(.t 17)] []), none, []⟩,
              ⟨(some 2), (.mov (.t 18)), none, []⟩] [])
            .ret)
            (.seq (.region [⟨(some 20), (.bin .eql (.t 5) (.c (.i .i64 (21)))), none, []⟩,
              ⟨(some 19), (.mov (.t 20)), none, []⟩] [])
            (.cond (.t 19)
              (.seq (.region [⟨(some 21), (.load (some 5) (.t 1)), none, []⟩,
                ⟨(some 22), (.mkf 193 [(.t 21)] []), none, []⟩,
                ⟨(some 2), (.mov (.t 22)), none, []⟩] [])
              .ret)
              (.seq (.region [⟨(some 24), (.bin .eql (.t 5) (.c (.i .i64 (22)))), none, []⟩,
                ⟨(some 23), (.mov (.t 24)), none, []⟩] [])
              (.cond (.t 23)
                (.seq (.region [⟨(some 25), (.load (some 5) (.t 1)), none, []⟩,
                  ⟨(some 26), (.mkf 194 [(.t 25)] []), none, []⟩,
                  ⟨(some 2), (.mov (.t 26)), none, []⟩] [])
                .ret)
                (.seq (.region [⟨(some 28), (.bin .eql (.t 5) (.c (.i .i64 (23)))), none, []⟩,
                  ⟨(some 27), (.mov (.t 28)), none, []⟩] [])
                (.cond (.t 27)
                  (.seq (.region [⟨(some 29), (.load (some 5) (.t 1)), none, []⟩,
                    ⟨(some 30), (.mkf 195 [(.t 29)] []), none, []⟩,
                    ⟨(some 2), (.mov (.t 30)), none, []⟩] [])
                  .ret)
                  (.seq (.seq (.region [⟨(some 32), (.bin .eql (.t 5) (.c (.i .i64 (24)))), none, []⟩,
                    ⟨(some 31), (.mov (.t 32)), none, []⟩] [])
                  (.cond (.t 31)
                    .skip
                    (.seq (.region [⟨(some 33), (.bin .eql (.t 5) (.c (.i .i64 (25)))), none, []⟩,
                      ⟨(some 31), (.mov (.t 33)), none, []⟩] [])
                    (.cond (.t 31)
                      .skip
                      (.region [⟨(some 34), (.bin .eql (.t 5) (.c (.i .i64 (26)))), none, []⟩,
                        ⟨(some 31), (.mov (.t 34)), none, []⟩] [])))))
                  (.cond (.t 31)
                    (.seq (.region [⟨(some 35), (.load (some 5) (.t 1)), none, []⟩,
                      ⟨(some 36), (.mkf 196 [(.t 35)] []), none, []⟩,
                      ⟨(some 2), (.mov (.t 36)), none, []⟩] [])
                    .ret)
                    (.seq (.region [⟨(some 38), (.bin .eql (.t 5) (.c (.i .i64 (29)))), none, []⟩,
                      ⟨(some 37), (.mov (.t 38)), none, []⟩] [])
                    (.cond (.t 37)
                      (.seq (.region [⟨(some 39), (.load (some 5) (.t 1)), none, []⟩,
                        ⟨(some 40), (.mkf 197 [(.t 39)] []), none, []⟩,
                        ⟨(some 2), (.mov (.t 40)), none, []⟩] [])
                      .ret)
                      (.seq (.region [⟨(some 42), (.bin .eql (.t 5) (.c (.i .i64 (31)))), none, []⟩,
                        ⟨(some 41), (.mov (.t 42)), none, []⟩] [])
                      (.cond (.t 41)
                        (.seq (.region [⟨(some 43), (.load (some 5) (.t 1)), none, []⟩,
                          ⟨(some 44), (.mkf 198 [(.t 43)] []), none, []⟩,
                          ⟨(some 2), (.mov (.t 44)), none, []⟩] [])
                        .ret)
                        .skip))))))))))))))))))))
    (.seq (.region [⟨(some 45), (.load (some 5) (.t 1)), none, []⟩,
      ⟨(some 46), (.mkf 199 [(.t 45)] []), none, []⟩,
      ⟨(some 2), (.mov (.t 46)), none, []⟩] [])
    .ret))),
    47, 1, [.t 2], 0⟩
theorem tr169 : trFunc Tryz.prog [([], []), ([], []), ([], []), ([], []), ([], []), ([], []), ([], []), ([], []), ([], []), ([], []), ([], []), ([], []), ([], []), ([], []), ([], []), ([], []), ([], []), ([], []), ([], []), ([], []), ([], []), ([], []), ([], []), ([], []), ([], []), ([], []), ([], []), ([], [])] 0 Tryz.f169 = some I169 := by kernel_rfl

/-- 'slices.Equal[[]encore/verify.Try,encore/verify.Try]'. -/
def L170a : ICode :=
  (.seq (.region [⟨(some 14), (.bin .lss (.t 13) (.t 12)), none, []⟩] [])
    (.seq (.cond (.t 14)
      .skip
      (.exit 0))
    (.seq (.block 1
      (.seq (.region [⟨(some 15), (.mov (.t 13)), none, []⟩,
        ⟨(some 5), (.mov (.t 15)), none, []⟩] [])
      (.seq (.region [⟨(some 16), (.mov (.t 0)), none, []⟩,
        ⟨(some 17), (.mov (.t 5)), none, []⟩,
        ⟨(some 18), (.iaddr 2 (.t 16) (.t 17)), none, []⟩,
        ⟨(some 19), (.load (some 2) (.t 18)), none, []⟩,
        ⟨(some 20), (.mov (.t 1)), none, []⟩,
        ⟨(some 21), (.mov (.t 5)), none, []⟩,
        ⟨(some 22), (.iaddr 2 (.t 20) (.t 21)), none, []⟩,
        ⟨(some 23), (.load (some 2) (.t 22)), none, []⟩,
        ⟨(some 24), (.eqAg [1, 1] true (.t 19) (.t 23)), none, []⟩] [])
      (.cond (.t 24)
        (.seq (.region [⟨(some 4), (.mov (.c (.b false))), none, []⟩] [])
        .ret)
        .skip))))
    (.region [⟨(some 25), (.bin .add (.t 13) (.c (.i .i64 (1)))), none, []⟩,
      ⟨(some 13), (.mov (.t 25)), none, []⟩] []))))
def I170 : IFunc :=
  ⟨(.seq (.region [⟨(some 4), (.mov (.c (.b false))), none, []⟩] [])
    (.seq (.seq (.region [⟨(some 6), (.mov (.t 0)), none, []⟩,
      ⟨(some 7), (.lenk 0 (.t 6)), none, []⟩,
      ⟨(some 8), (.mov (.t 1)), none, []⟩,
      ⟨(some 9), (.lenk 0 (.t 8)), none, []⟩,
      ⟨(some 10), (.bin .neq (.t 7) (.t 9)), none, []⟩] [])
    (.cond (.t 10)
      (.seq (.region [⟨(some 4), (.mov (.c (.b false))), none, []⟩] [])
      .ret)
      .skip))
    (.seq (.seq (.region [⟨(some 11), (.mov (.t 0)), none, []⟩,
      ⟨(some 12), (.lenk 0 (.t 11)), none, []⟩,
      ⟨(some 13), (.mov (.c (.i .i64 (0)))), none, []⟩] [])
    (.block 0
      (.loop L170a)))
    (.seq (.region [⟨(some 4), (.mov (.c (.b true))), none, []⟩] [])
    .ret)))),
    26, 2, [.t 4], 0⟩
theorem tr170 : trFunc Tryz.prog [([], []), ([], []), ([], []), ([], []), ([], []), ([], []), ([], []), ([], []), ([0, 1, 2, 3, 4, 5, 6, 7, 8], []), ([], []), ([], []), ([], []), ([], [])] 0 Tryz.f170 = some I170 := by kernel_rfl

/-- 'encore/code.Moves'. -/
def I171 : IFunc :=
  ⟨(.seq (.region [⟨(some 2), (.box (.t 0)), none, []⟩,
      ⟨(some 3), (.box (.t 1)), none, []⟩,
      ⟨(some 4), (.mov (.c (.i .i64 (0)))), none, []⟩,
      ⟨(some 5), (.mov (.c (.i .i64 (0)))), none, []⟩] [])
    (.seq (.block 0
      (.seq (.region [⟨(some 7), (.off (.t 3) 0), none, []⟩,
        ⟨(some 8), (.load none (.t 7)), none, []⟩,
        ⟨(some 9), (.bin .eql (.t 8) (.c (.i .i64 (1)))), none, []⟩,
        ⟨(some 10), (.mov (.t 9)), none, []⟩,
        ⟨(some 11), (.off (.t 3) 0), (some (10, false)), []⟩,
        ⟨(some 12), (.load none (.t 11)), (some (10, false)), []⟩,
        ⟨(some 13), (.bin .eql (.t 12) (.c (.i .i64 (2)))), (some (10, false)), []⟩,
        ⟨(some 14), (.pick (.t 10) (.c (.b true)) (.t 13)), none, []⟩,
        ⟨(some 6), (.mov (.t 14)), none, []⟩] [])
      (.cond (.t 6)
        (.seq (.region [⟨(some 4), (.mov (.c (.i .i64 (0)))), none, []⟩,
          ⟨(some 5), (.mov (.c (.i .i64 (1)))), none, []⟩] [])
        .ret)
        (.seq (.region [⟨(some 16), (.off (.t 3) 0), none, []⟩,
          ⟨(some 17), (.load none (.t 16)), none, []⟩,
          ⟨(some 18), (.bin .eql (.t 17) (.c (.i .i64 (5)))), none, []⟩,
          ⟨(some 15), (.mov (.t 18)), none, []⟩] [])
        (.cond (.t 15)
          (.seq (.region [⟨(some 4), (.mov (.c (.i .i64 (1)))), none, []⟩,
            ⟨(some 5), (.mov (.c (.i .i64 (2)))), none, []⟩] [])
          .ret)
          (.seq (.seq (.region [⟨(some 20), (.off (.t 3) 0), none, []⟩,
            ⟨(some 21), (.load none (.t 20)), none, []⟩,
            ⟨(some 22), (.bin .eql (.t 21) (.c (.i .i64 (3)))), none, []⟩,
            ⟨(some 19), (.mov (.t 22)), none, []⟩] [])
          (.cond (.t 19)
            .skip
            (.seq (.region [⟨(some 23), (.off (.t 3) 0), none, []⟩,
              ⟨(some 24), (.load none (.t 23)), none, []⟩,
              ⟨(some 25), (.bin .eql (.t 24) (.c (.i .i64 (4)))), none, []⟩,
              ⟨(some 19), (.mov (.t 25)), none, []⟩] [])
            (.cond (.t 19)
              .skip
              (.seq (.region [⟨(some 26), (.off (.t 3) 0), none, []⟩,
                ⟨(some 27), (.load none (.t 26)), none, []⟩,
                ⟨(some 28), (.bin .eql (.t 27) (.c (.i .i64 (25)))), none, []⟩,
                ⟨(some 19), (.mov (.t 28)), none, []⟩] [])
              (.cond (.t 19)
                .skip
                (.seq (.region [⟨(some 29), (.off (.t 3) 0), none, []⟩,
                  ⟨(some 30), (.load none (.t 29)), none, []⟩,
                  ⟨(some 31), (.bin .eql (.t 30) (.c (.i .i64 (28)))), none, []⟩,
                  ⟨(some 19), (.mov (.t 31)), none, []⟩] [])
                (.cond (.t 19)
                  .skip
                  (.region [⟨(some 32), (.off (.t 3) 0), none, []⟩,
                    ⟨(some 33), (.load none (.t 32)), none, []⟩,
                    ⟨(some 34), (.bin .eql (.t 33) (.c (.i .i64 (30)))), none, []⟩,
                    ⟨(some 19), (.mov (.t 34)), none, []⟩] [])))))))))
          (.cond (.t 19)
            (.seq (.region [⟨(some 4), (.mov (.c (.i .i64 (1)))), none, []⟩,
              ⟨(some 5), (.mov (.c (.i .i64 (0)))), none, []⟩] [])
            .ret)
            (.seq (.seq (.region [⟨(some 36), (.off (.t 3) 0), none, []⟩,
              ⟨(some 37), (.load none (.t 36)), none, []⟩,
              ⟨(some 38), (.bin .geq (.t 37) (.c (.i .i64 (6)))), none, []⟩,
              ⟨(some 39), (.mov (.t 38)), none, []⟩,
              ⟨(some 40), (.off (.t 3) 0), (some (39, true)), []⟩,
              ⟨(some 41), (.load none (.t 40)), (some (39, true)), []⟩,
              ⟨(some 42), (.bin .leq (.t 41) (.c (.i .i64 (8)))), (some (39, true)), []⟩,
              ⟨(some 43), (.pick (.t 39) (.t 42) (.c (.b false))), none, []⟩,
              ⟨(some 35), (.mov (.t 43)), none, []⟩] [])
            (.cond (.t 35)
              .skip
              (.seq (.region [⟨(some 44), (.off (.t 3) 0), none, []⟩,
                ⟨(some 45), (.load none (.t 44)), none, []⟩,
                ⟨(some 46), (.bin .eql (.t 45) (.c (.i .i64 (22)))), none, []⟩,
                ⟨(some 35), (.mov (.t 46)), none, []⟩] [])
              (.cond (.t 35)
                .skip
                (.region [⟨(some 47), (.off (.t 3) 0), none, []⟩,
                  ⟨(some 48), (.load none (.t 47)), none, []⟩,
                  ⟨(some 49), (.bin .eql (.t 48) (.c (.i .i64 (23)))), none, []⟩,
                  ⟨(some 35), (.mov (.t 49)), none, []⟩] [])))))
            (.cond (.t 35)
              (.seq (.region [⟨(some 4), (.mov (.c (.i .i64 (1)))), none, []⟩,
                ⟨(some 5), (.mov (.c (.i .i64 (1)))), none, []⟩] [])
              .ret)
              (.seq (.region [⟨(some 51), (.off (.t 3) 0), none, []⟩,
                ⟨(some 52), (.load none (.t 51)), none, []⟩,
                ⟨(some 53), (.bin .geq (.t 52) (.c (.i .i64 (9)))), none, []⟩,
                ⟨(some 54), (.mov (.t 53)), none, []⟩,
                ⟨(some 55), (.off (.t 3) 0), (some (54, true)), []⟩,
                ⟨(some 56), (.load none (.t 55)), (some (54, true)), []⟩,
                ⟨(some 57), (.bin .leq (.t 56) (.c (.i .i64 (19)))), (some (54, true)), []⟩,
                ⟨(some 58), (.pick (.t 54) (.t 57) (.c (.b false))), none, []⟩,
                ⟨(some 50), (.mov (.t 58)), none, []⟩] [])
              (.cond (.t 50)
                (.seq (.region [⟨(some 4), (.mov (.c (.i .i64 (2)))), none, []⟩,
                  ⟨(some 5), (.mov (.c (.i .i64 (1)))), none, []⟩] [])
                .ret)
                (.seq (.region [⟨(some 60), (.off (.t 3) 0), none, []⟩,
                  ⟨(some 61), (.load none (.t 60)), none, []⟩,
                  ⟨(some 62), (.bin .eql (.t 61) (.c (.i .i64 (20)))), none, []⟩,
                  ⟨(some 59), (.mov (.t 62)), none, []⟩] [])
                (.cond (.t 59)
                  (.seq (.region [⟨(some 63), (.off (.t 3) 1), none, []⟩,
                    ⟨(some 64), (.load none (.t 63)), none, []⟩,
                    ⟨(some 4), (.mov (.t 64)), none, []⟩,
                    ⟨(some 5), (.mov (.c (.i .i64 (1)))), none, []⟩] [])
                  .ret)
                  (.seq (.region [⟨(some 66), (.off (.t 3) 0), none, []⟩,
                    ⟨(some 67), (.load none (.t 66)), none, []⟩,
                    ⟨(some 68), (.bin .eql (.t 67) (.c (.i .i64 (21)))), none, []⟩,
                    ⟨(some 65), (.mov (.t 68)), none, []⟩] [])
                  (.cond (.t 65)
                    (.seq (.seq (.region [⟨(some 69), (.off (.t 3) 1), none, []⟩,
                      ⟨(some 70), (.load none (.t 69)), none, []⟩,
                      ⟨(some 71), (.bin .geq (.t 70) (.c (.i .i64 (0)))), none, []⟩,
                      ⟨(some 72), (.mov (.t 71)), none, []⟩,
                      ⟨(some 73), (.off (.t 3) 1), (some (72, true)), []⟩,
                      ⟨(some 74), (.load none (.t 73)), (some (72, true)), []⟩,
                      ⟨(some 75), (.off (.t 2) 1), (some (72, true)), []⟩,
                      ⟨(some 76), (.load none (.t 75)), (some (72, true)), []⟩,
                      ⟨(some 77), (.lenk 0 (.t 76)), (some (72, true)), []⟩,
                      ⟨(some 78), (.bin .lss (.t 74) (.t 77)), (some (72, true)), []⟩,
                      ⟨(some 79), (.pick (.t 72) (.t 78) (.c (.b false))), none, []⟩] [])
                    (.cond (.t 79)
                      (.region [⟨(some 80), (.off (.t 2) 1), none, []⟩,
                        ⟨(some 81), (.load none (.t 80)), none, []⟩,
                        ⟨(some 82), (.off (.t 3) 1), none, []⟩,
                        ⟨(some 83), (.load none (.t 82)), none, []⟩,
                        ⟨(some 84), (.iaddr 5 (.t 81) (.t 83)), none, []⟩,
                        ⟨(some 85), (.off (.t 84) 3), none, []⟩,
                        ⟨(some 86), (.load none (.t 85)), none, []⟩,
                        ⟨(some 87), (.lenk 0 (.t 86)), none, []⟩,
                        ⟨(some 4), (.mov (.t 87)), none, []⟩] [])
                      .skip))
                    (.seq (.region [⟨(some 88), (.mov (.t 4)), none, []⟩,
                      ⟨(some 4), (.mov (.t 88)), none, []⟩,
                      ⟨(some 5), (.mov (.c (.i .i64 (1)))), none, []⟩] [])
                    .ret))
                    (.seq (.region [⟨(some 90), (.off (.t 3) 0), none, []⟩,
                      ⟨(some 91), (.load none (.t 90)), none, []⟩,
                      ⟨(some 92), (.bin .eql (.t 91) (.c (.i .i64 (29)))), none, []⟩,
                      ⟨(some 89), (.mov (.t 92)), none, []⟩] [])
                    (.cond (.t 89)
                      (.seq (.seq (.region [⟨(some 93), (.off (.t 3) 1), none, []⟩,
                        ⟨(some 94), (.load none (.t 93)), none, []⟩,
                        ⟨(some 95), (.bin .geq (.t 94) (.c (.i .i64 (0)))), none, []⟩,
                        ⟨(some 96), (.mov (.t 95)), none, []⟩,
                        ⟨(some 97), (.off (.t 3) 1), (some (96, true)), []⟩,
                        ⟨(some 98), (.load none (.t 97)), (some (96, true)), []⟩,
                        ⟨(some 99), (.off (.t 2) 0), (some (96, true)), []⟩,
                        ⟨(some 100), (.load none (.t 99)), (some (96, true)), []⟩,
                        ⟨(some 101), (.lenk 0 (.t 100)), (some (96, true)), []⟩,
                        ⟨(some 102), (.bin .lss (.t 98) (.t 101)), (some (96, true)), []⟩,
                        ⟨(some 103), (.pick (.t 96) (.t 102) (.c (.b false))), none, []⟩] [])
                      (.cond (.t 103)
                        (.region [⟨(some 104), (.off (.t 2) 0), none, []⟩,
                          ⟨(some 105), (.load none (.t 104)), none, []⟩,
                          ⟨(some 106), (.off (.t 3) 1), none, []⟩,
                          ⟨(some 107), (.load none (.t 106)), none, []⟩,
                          ⟨(some 108), (.iaddr 4 (.t 105) (.t 107)), none, []⟩,
                          ⟨(some 109), (.off (.t 108) 1), none, []⟩,
                          ⟨(some 110), (.load none (.t 109)), none, []⟩,
                          ⟨(some 4), (.mov (.t 110)), none, []⟩] [])
                        .skip))
                      (.seq (.region [⟨(some 111), (.mov (.t 4)), none, []⟩,
                        ⟨(some 4), (.mov (.t 111)), none, []⟩,
                        ⟨(some 5), (.mov (.c (.i .i64 (1)))), none, []⟩] [])
                      .ret))
                      (.seq (.region [⟨(some 113), (.off (.t 3) 0), none, []⟩,
                        ⟨(some 114), (.load none (.t 113)), none, []⟩,
                        ⟨(some 115), (.bin .eql (.t 114) (.c (.i .i64 (31)))), none, []⟩,
                        ⟨(some 112), (.mov (.t 115)), none, []⟩] [])
                      (.cond (.t 112)
                        (.seq (.seq (.region [⟨(some 116), (.off (.t 3) 1), none, []⟩,
                          ⟨(some 117), (.load none (.t 116)), none, []⟩,
                          ⟨(some 118), (.bin .neq (.t 117) (.c (.i .i64 (3)))), none, []⟩,
                          ⟨(some 119), (.mov (.t 118)), none, []⟩,
                          ⟨(some 120), (.off (.t 3) 1), (some (119, true)), []⟩,
                          ⟨(some 121), (.load none (.t 120)), (some (119, true)), []⟩,
                          ⟨(some 122), (.bin .neq (.t 121) (.c (.i .i64 (5)))), (some (119, true)), []⟩,
                          ⟨(some 123), (.pick (.t 119) (.t 122) (.c (.b false))), none, []⟩,
                          ⟨(some 124), (.mov (.t 123)), none, []⟩,
                          ⟨(some 125), (.off (.t 3) 1), (some (124, true)), []⟩,
                          ⟨(some 126), (.load none (.t 125)), (some (124, true)), []⟩,
                          ⟨(some 127), (.bin .neq (.t 126) (.c (.i .i64 (6)))), (some (124, true)), []⟩,
                          ⟨(some 128), (.pick (.t 124) (.t 127) (.c (.b false))), none, []⟩] [])
                        (.cond (.t 128)
                          (.region [⟨(some 4), (.mov (.c (.i .i64 (1)))), none, []⟩] [])
                          .skip))
                        (.seq (.region [⟨(some 129), (.mov (.t 4)), none, []⟩,
                          ⟨(some 4), (.mov (.t 129)), none, []⟩,
                          ⟨(some 5), (.mov (.c (.i .i64 (1)))), none, []⟩] [])
                        .ret))
                        .skip)))))))))))))))))))
    (.seq (.region [⟨(some 4), (.mov (.c (.i .i64 (0)))), none, []⟩,
      ⟨(some 5), (.mov (.c (.i .i64 (0)))), none, []⟩] [])
    .ret))),
    130, 2, [.t 4, .t 5], 0⟩
theorem tr171 : trFunc Tryz.prog [([], []), ([], []), ([], []), ([], []), ([], []), ([], []), ([], []), ([], []), ([], []), ([], []), ([], []), ([], []), ([], []), ([], []), ([], []), ([], []), ([], []), ([], []), ([], []), ([], []), ([], []), ([], []), ([], []), ([], []), ([], []), ([], []), ([], []), ([], []), ([], []), ([], []), ([], []), ([], []), ([], []), ([], []), ([], []), ([], []), ([], []), ([], []), ([], []), ([], []), ([], []), ([], [])] 0 Tryz.f171 = some I171 := by kernel_rfl

/-- '(*encore/lift.maker).step'. -/
def I172 : IFunc :=
  ⟨(.seq (.region [⟨(some 3), (.box (.t 1)), none, []⟩] [])
    (.seq (.region [⟨(some 4), (.mov (.t 0)), none, []⟩,
      ⟨(some 5), (.mov (.t 0)), none, []⟩,
      ⟨(some 6), (.nck (.t 5)), none, []⟩,
      ⟨(some 7), (.off (.t 6) 2), none, []⟩,
      ⟨(some 8), (.off (.t 7) 4), none, []⟩,
      ⟨(some 9), (.load none (.t 8)), none, []⟩,
      ⟨(some 10), (.lenk 0 (.t 9)), none, []⟩,
      ⟨(some 11), (.build [(.i .i64 (0)), (.i .i64 (0)), (.i .i64 (0)), (.i .i64 (0)), (.s []), .ns, .ns] [(0, 1, (.c (.i .i64 (2)))), (1, 1, (.t 10))]), none, []⟩,
      ⟨(some 12), (.bsl 7 1 [(.i .i64 (0)), (.i .i64 (0)), (.i .i64 (0)), (.i .i64 (0)), (.s []), .ns, .ns] [(0, 7, (.t 11))]), none, []⟩,
      ⟨(some 13), (.call 35 [(.t 4), (.t 12)]), none, []⟩] [])
    (.region [⟨(some 14), (.mov (.t 0)), none, []⟩,
      ⟨(some 15), (.mov (.t 0)), none, []⟩,
      ⟨(some 16), (.nck (.t 15)), none, []⟩,
      ⟨(some 17), (.off (.t 16) 2), none, []⟩,
      ⟨(some 18), (.off (.t 17) 4), none, []⟩,
      ⟨(some 19), (.load none (.t 18)), none, []⟩,
      ⟨(some 20), (.load (some 5) (.t 3)), none, []⟩,
      ⟨(some 21), (.bsl 5 1 [(.i .i64 (0)), (.i .i64 (0)), .ns, (.s []), .ns] [(0, 5, (.t 20))]), none, []⟩,
      ⟨(some 22), (.app 5 80 (.t 19) (.t 21)), none, []⟩,
      ⟨(some 23), (.nck (.t 14)), none, []⟩,
      ⟨(some 24), (.off (.t 23) 2), none, []⟩,
      ⟨(some 25), (.off (.t 24) 4), none, []⟩,
      ⟨none, (.store 1 (.t 25) (.t 22)), none, []⟩] []))),
    26, 2, [], 0⟩
theorem tr172 : trFunc Tryz.prog [([], []), ([], []), ([0, 1, 2, 3, 4, 5, 6, 7, 8, 9, 10, 11, 12], [])] 0 Tryz.f172 = some I172 := by kernel_rfl

/-- 'slices.IndexFunc[[]encore/api.Instr,encore/api.Instr]'. -/
def L173a : ICode :=
  (.seq (.region [⟨(some 9), (.bin .lss (.t 8) (.t 7)), none, []⟩] [])
    (.seq (.cond (.t 9)
      .skip
      (.exit 0))
    (.seq (.block 1
      (.seq (.region [⟨(some 10), (.mov (.t 8)), none, []⟩,
        ⟨(some 5), (.mov (.t 10)), none, []⟩] [])
      (.seq (.region [⟨(some 11), (.mov (.t 1)), none, []⟩,
        ⟨(some 12), (.mov (.t 0)), none, []⟩,
        ⟨(some 13), (.mov (.t 5)), none, []⟩,
        ⟨(some 14), (.iaddr 3 (.t 12) (.t 13)), none, []⟩,
        ⟨(some 15), (.load (some 3) (.t 14)), none, []⟩,
        ⟨(some 16), (.callv (.t 11) [(.t 15)]), none, []⟩] [])
      (.cond (.t 16)
        (.seq (.region [⟨(some 17), (.mov (.t 5)), none, []⟩,
          ⟨(some 4), (.mov (.t 17)), none, []⟩] [])
        .ret)
        .skip))))
    (.region [⟨(some 18), (.bin .add (.t 8) (.c (.i .i64 (1)))), none, []⟩,
      ⟨(some 8), (.mov (.t 18)), none, []⟩] []))))
def I173 : IFunc :=
  ⟨(.seq (.region [⟨(some 4), (.mov (.c (.i .i64 (0)))), none, []⟩] [])
    (.seq (.seq (.region [⟨(some 6), (.mov (.t 0)), none, []⟩,
      ⟨(some 7), (.lenk 0 (.t 6)), none, []⟩,
      ⟨(some 8), (.mov (.c (.i .i64 (0)))), none, []⟩] [])
    (.block 0
      (.loop L173a)))
    (.seq (.region [⟨(some 4), (.mov (.c (.i .i64 (-1)))), none, []⟩] [])
    .ret))),
    19, 2, [.t 4], 0⟩
theorem tr173 : trFunc Tryz.prog [([], []), ([], []), ([], []), ([], []), ([], []), ([], []), ([], []), ([], []), ([], []), ([], [])] 0 Tryz.f173 = some I173 := by kernel_rfl

/-- 'math/bits.Mul'. -/
def I174 : IFunc :=
  ⟨(.seq (.region [⟨(some 4), (.mov (.c (.i .u64 (0)))), none, []⟩,
      ⟨(some 5), (.mov (.c (.i .u64 (0)))), none, []⟩] [])
    (.seq (.cond (.c (.b false))
      (.seq (.region [⟨(some 11), (.mov (.t 0)), none, []⟩,
        ⟨(some 12), (.conv .u32 (.t 11)), none, []⟩,
        ⟨(some 13), (.mov (.t 1)), none, []⟩,
        ⟨(some 14), (.conv .u32 (.t 13)), none, []⟩,
        ⟨(some 15), (.call 200 [(.t 12), (.t 14)]), none, []⟩,
        ⟨(some 10), (.mov (.t 15)), none, []⟩,
        ⟨(some 16), (.ext (.t 10) 0), none, []⟩,
        ⟨(some 17), (.ext (.t 10) 1), none, []⟩,
        ⟨(some 6), (.mov (.t 16)), none, []⟩,
        ⟨(some 7), (.mov (.t 17)), none, []⟩] [])
      (.seq (.region [⟨(some 18), (.mov (.t 6)), none, []⟩,
        ⟨(some 19), (.conv .u64 (.t 18)), none, []⟩,
        ⟨(some 20), (.mov (.t 7)), none, []⟩,
        ⟨(some 21), (.conv .u64 (.t 20)), none, []⟩,
        ⟨(some 4), (.mov (.t 19)), none, []⟩,
        ⟨(some 5), (.mov (.t 21)), none, []⟩] [])
      .ret))
      .skip)
    (.seq (.region [⟨(some 23), (.mov (.t 0)), none, []⟩,
      ⟨(some 24), (.mov (.t 1)), none, []⟩,
      ⟨(some 25), (.call 201 [(.t 23), (.t 24)]), none, []⟩,
      ⟨(some 22), (.mov (.t 25)), none, []⟩,
      ⟨(some 26), (.ext (.t 22) 0), none, []⟩,
      ⟨(some 27), (.ext (.t 22) 1), none, []⟩,
      ⟨(some 8), (.mov (.t 26)), none, []⟩,
      ⟨(some 9), (.mov (.t 27)), none, []⟩] [])
    (.seq (.region [⟨(some 28), (.mov (.t 8)), none, []⟩,
      ⟨(some 29), (.mov (.t 9)), none, []⟩,
      ⟨(some 4), (.mov (.t 28)), none, []⟩,
      ⟨(some 5), (.mov (.t 29)), none, []⟩] [])
    .ret)))),
    30, 2, [.t 4, .t 5], 0⟩
theorem tr174 : trFunc Tryz.prog [([], []), ([], []), ([], []), ([], []), ([], []), ([], [])] 0 Tryz.f174 = some I174 := by kernel_rfl

/-- 'slices.ContainsFunc[[]int,int]'. -/
def I175 : IFunc :=
  ⟨(.seq (.region [⟨(some 4), (.mov (.c (.b false))), none, []⟩] [])
    (.seq (.region [⟨(some 5), (.mov (.t 0)), none, []⟩,
      ⟨(some 6), (.mov (.t 1)), none, []⟩,
      ⟨(some 7), (.call 202 [(.t 5), (.t 6)]), none, []⟩,
      ⟨(some 8), (.bin .geq (.t 7) (.c (.i .i64 (0)))), none, []⟩,
      ⟨(some 4), (.mov (.t 8)), none, []⟩] [])
    .ret)),
    9, 2, [.t 4], 0⟩
theorem tr175 : trFunc Tryz.prog [([], []), ([], [])] 0 Tryz.f175 = some I175 := by kernel_rfl

/-- '(*encore/prune.facts).all$1'. -/
def I176 : IFunc :=
  ⟨(.seq (.region [⟨(some 3), (.box (.t 0)), none, []⟩,
      ⟨(some 4), (.mov (.c (.b false))), none, []⟩] [])
    (.seq (.region [⟨(some 5), (.load none (.t 1)), none, []⟩,
      ⟨(some 6), (.mkf 177 [] [(.t 2), (.t 3)]), none, []⟩,
      ⟨(some 7), (.call 80 [(.t 5), (.t 6)]), none, []⟩,
      ⟨(some 8), (.un .not (.t 7)), none, []⟩,
      ⟨(some 4), (.mov (.t 8)), none, []⟩] [])
    .ret)),
    9, 3, [.t 4], 0⟩
theorem tr176 : trFunc Tryz.prog [([], []), ([], [])] 0 Tryz.f176 = some I176 := by kernel_rfl

/-- '(*encore/prune.facts).all$1$1'. -/
def I177 : IFunc :=
  ⟨(.seq (.region [⟨(some 3), (.box (.t 0)), none, []⟩,
      ⟨(some 4), (.mov (.c (.b false))), none, []⟩] [])
    (.seq (.region [⟨(some 5), (.load none (.t 1)), none, []⟩,
      ⟨(some 6), (.load (some 7) (.t 3)), none, []⟩,
      ⟨(some 8), (.load none (.t 2)), none, []⟩,
      ⟨(some 7), (.call 178 [(.t 5), (.t 6)]), none, [(8, (.load none (.t 2)), none)]⟩,
      ⟨(some 9), (.bin .neq (.t 7) (.t 8)), none, []⟩,
      ⟨(some 4), (.mov (.t 9)), none, []⟩] [])
    .ret)),
    10, 3, [.t 4], 0⟩
theorem tr177 : trFunc Tryz.prog [([], []), ([0, 1, 3, 2, 4, 5], [])] 0 Tryz.f177 = some I177 := by kernel_rfl

/-- '(*encore/prune.facts).kind'. -/
def I178 : IFunc :=
  ⟨(.seq (.region [⟨(some 3), (.box (.t 1)), none, []⟩,
      ⟨(some 4), (.mov (.c (.i .i64 (0)))), none, []⟩] [])
    (.seq (.seq (.region [⟨(some 5), (.off (.t 3) 0), none, []⟩,
      ⟨(some 6), (.load none (.t 5)), none, []⟩] [])
    (.block 0
      (.seq (.region [⟨(some 8), (.bin .eql (.t 6) (.c (.i .i64 (1)))), none, []⟩,
        ⟨(some 7), (.mov (.t 8)), none, []⟩] [])
      (.cond (.t 7)
        (.seq (.region [⟨(some 9), (.mov (.t 0)), none, []⟩,
          ⟨(some 10), (.nck (.t 9)), none, []⟩,
          ⟨(some 11), (.off (.t 10) 1), none, []⟩,
          ⟨(some 12), (.load none (.t 11)), none, []⟩,
          ⟨(some 13), (.off (.t 3) 1), none, []⟩,
          ⟨(some 14), (.load none (.t 13)), none, []⟩,
          ⟨(some 15), (.iaddr 1 (.t 12) (.t 14)), none, []⟩,
          ⟨(some 16), (.load none (.t 15)), none, []⟩,
          ⟨(some 4), (.mov (.t 16)), none, []⟩] [])
        .ret)
        (.seq (.region [⟨(some 18), (.bin .eql (.t 6) (.c (.i .i64 (2)))), none, []⟩,
          ⟨(some 17), (.mov (.t 18)), none, []⟩] [])
        (.cond (.t 17)
          (.seq (.region [⟨(some 19), (.mov (.t 0)), none, []⟩,
            ⟨(some 20), (.nck (.t 19)), none, []⟩,
            ⟨(some 21), (.off (.t 20) 0), none, []⟩,
            ⟨(some 22), (.load none (.t 21)), none, []⟩,
            ⟨(some 23), (.off (.t 3) 1), none, []⟩,
            ⟨(some 24), (.load none (.t 23)), none, []⟩,
            ⟨(some 25), (.iaddr 5 (.t 22) (.t 24)), none, []⟩,
            ⟨(some 26), (.load (some 5) (.t 25)), none, []⟩,
            ⟨(some 27), (.call 203 [(.t 26)]), none, []⟩,
            ⟨(some 4), (.mov (.t 27)), none, []⟩] [])
          .ret)
          .skip))))))
    (.seq (.region [⟨(some 28), (.off (.t 3) 2), none, []⟩,
      ⟨(some 29), (.off (.t 28) 0), none, []⟩,
      ⟨(some 30), (.load none (.t 29)), none, []⟩,
      ⟨(some 4), (.mov (.t 30)), none, []⟩] [])
    .ret))),
    31, 2, [.t 4], 0⟩
theorem tr178 : trFunc Tryz.prog [([], []), ([], []), ([], []), ([0, 1, 2, 3, 4, 5, 6, 7, 8], []), ([], []), ([0, 1, 2, 3, 4, 5, 6, 7, 8, 9], []), ([], []), ([], [])] 0 Tryz.f178 = some I178 := by kernel_rfl

/-- 'encore/prune.sameValue'. -/
def I179 : IFunc :=
  ⟨(.seq (.region [⟨(some 2), (.box (.t 0)), none, []⟩,
      ⟨(some 3), (.box (.t 1)), none, []⟩,
      ⟨(some 4), (.mov (.c (.b false))), none, []⟩] [])
    (.seq (.region [⟨(some 5), (.off (.t 2) 0), none, []⟩,
      ⟨(some 6), (.load none (.t 5)), none, []⟩,
      ⟨(some 7), (.off (.t 3) 0), none, []⟩,
      ⟨(some 8), (.load none (.t 7)), none, []⟩,
      ⟨(some 9), (.bin .eql (.t 6) (.t 8)), none, []⟩,
      ⟨(some 10), (.mov (.t 9)), none, []⟩,
      ⟨(some 11), (.off (.t 2) 1), (some (10, true)), []⟩,
      ⟨(some 12), (.load none (.t 11)), (some (10, true)), []⟩,
      ⟨(some 13), (.off (.t 3) 1), (some (10, true)), []⟩,
      ⟨(some 14), (.load none (.t 13)), (some (10, true)), []⟩,
      ⟨(some 15), (.bin .eql (.t 12) (.t 14)), (some (10, true)), []⟩,
      ⟨(some 16), (.pick (.t 10) (.t 15) (.c (.b false))), none, []⟩,
      ⟨(some 17), (.mov (.t 16)), none, []⟩,
      ⟨(some 18), (.off (.t 2) 2), (some (17, true)), []⟩,
      ⟨(some 19), (.load none (.t 18)), (some (17, true)), []⟩,
      ⟨(some 20), (.off (.t 3) 2), (some (17, true)), []⟩,
      ⟨(some 21), (.load none (.t 20)), (some (17, true)), []⟩,
      ⟨(some 22), (.bin .eql (.t 19) (.t 21)), (some (17, true)), []⟩,
      ⟨(some 23), (.pick (.t 17) (.t 22) (.c (.b false))), none, []⟩,
      ⟨(some 24), (.mov (.t 23)), none, []⟩,
      ⟨(some 25), (.off (.t 2) 4), (some (24, true)), []⟩,
      ⟨(some 26), (.load none (.t 25)), (some (24, true)), []⟩,
      ⟨(some 27), (.off (.t 3) 4), (some (24, true)), []⟩,
      ⟨(some 28), (.load none (.t 27)), (some (24, true)), []⟩,
      ⟨(some 29), (.call 132 [(.t 26), (.t 28)]), (some (24, true)), []⟩,
      ⟨(some 30), (.pick (.t 24) (.t 29) (.c (.b false))), none, []⟩,
      ⟨(some 31), (.mov (.t 30)), none, []⟩,
      ⟨(some 32), (.off (.t 2) 3), (some (31, true)), []⟩,
      ⟨(some 33), (.load none (.t 32)), (some (31, true)), []⟩,
      ⟨(some 34), (.off (.t 3) 3), (some (31, true)), []⟩,
      ⟨(some 35), (.load none (.t 34)), (some (31, true)), []⟩,
      ⟨(some 36), (.call 138 [(.t 33), (.t 35), (.f 179)]), (some (31, true)), []⟩,
      ⟨(some 37), (.pick (.t 31) (.t 36) (.c (.b false))), none, []⟩,
      ⟨(some 4), (.mov (.t 37)), none, []⟩] [])
    .ret)),
    38, 2, [.t 4], 0⟩
theorem tr179 : trFunc Tryz.prog [([], []), ([], [])] 0 Tryz.f179 = some I179 := by kernel_rfl

/-- 'encore/fuse.second$1'. -/
def I180 : IFunc :=
  ⟨(.seq (.region [⟨(some 6), (.box (.t 1)), none, []⟩,
      ⟨(some 7), (.alloc [(.i .i64 (0)), (.i .i64 (0)), .ns, (.s []), .ns]), none, []⟩,
      ⟨(some 8), (.mov (.c (.b false))), none, []⟩] [])
    (.seq (.seq (.region [⟨(some 11), (.off (.t 6) 0), none, []⟩,
      ⟨(some 12), (.load none (.t 11)), none, []⟩,
      ⟨(some 13), (.load none (.t 2)), none, []⟩,
      ⟨(some 14), (.bin .neq (.t 12) (.t 13)), none, []⟩] [])
    (.cond (.t 14)
      (.seq (.region [⟨(some 15), (.load (some 5) (.t 6)), none, []⟩,
        ⟨none, (.store 5 (.t 7) (.t 15)), none, []⟩,
        ⟨(some 8), (.mov (.c (.b false))), none, []⟩] [])
      .ret)
      .skip))
    (.seq (.region [⟨(some 17), (.off (.t 6) 2), none, []⟩,
      ⟨(some 18), (.load none (.t 17)), none, []⟩,
      ⟨(some 19), (.iaddr 7 (.t 18) (.c (.i .i64 (1)))), none, []⟩,
      ⟨(some 20), (.load (some 7) (.t 19)), none, []⟩,
      ⟨(some 21), (.call 181 [(.t 20)]), none, []⟩,
      ⟨(some 16), (.mov (.t 21)), none, []⟩,
      ⟨(some 22), (.ext (.t 16) 0), none, []⟩,
      ⟨(some 23), (.ext (.t 16) 1), none, []⟩,
      ⟨(some 9), (.mov (.t 22)), none, []⟩,
      ⟨(some 10), (.mov (.t 23)), none, []⟩] [])
    (.seq (.region [⟨(some 24), (.load none (.t 3)), none, []⟩,
      ⟨(some 25), (.load none (.t 4)), none, []⟩,
      ⟨(some 26), (.mov (.t 9)), none, []⟩,
      ⟨(some 27), (.bin .mul (.t 25) (.t 26)), none, []⟩,
      ⟨(some 28), (.off (.t 6) 2), none, []⟩,
      ⟨(some 29), (.load none (.t 28)), none, []⟩,
      ⟨(some 30), (.slq 7 (.t 29) none (some (.c (.i .i64 (1)))) none), none, []⟩,
      ⟨(some 31), (.build [(.i .i64 (0)), (.i .i64 (0)), .ns, (.s []), .ns] [(0, 1, (.t 24)), (1, 1, (.t 27)), (2, 1, (.t 30))]), none, []⟩,
      ⟨(some 32), (.mov (.t 10)), none, []⟩,
      ⟨none, (.store 5 (.t 7) (.t 31)), none, []⟩,
      ⟨(some 8), (.mov (.t 32)), none, []⟩] [])
    .ret)))),
    33, 5, [.c 7 (some 5), .t 8], 0⟩
theorem tr180 : trFunc Tryz.prog [([], []), ([], []), ([], []), ([], []), ([], []), ([0, 1, 2, 3, 4, 5, 6, 7, 8, 9, 10], [])] 0 Tryz.f180 = some I180 := by kernel_rfl

/-- 'encore/fuse.number'. -/
def I181 : IFunc :=
  ⟨(.seq (.region [⟨(some 1), (.box (.t 0)), none, []⟩,
      ⟨(some 2), (.mov (.c (.i .i64 (0)))), none, []⟩,
      ⟨(some 3), (.mov (.c (.b false))), none, []⟩] [])
    (.seq (.region [⟨(some 4), (.off (.t 1) 2), none, []⟩,
      ⟨(some 5), (.off (.t 4) 1), none, []⟩,
      ⟨(some 6), (.load none (.t 5)), none, []⟩,
      ⟨(some 7), (.off (.t 1) 0), none, []⟩,
      ⟨(some 8), (.load none (.t 7)), none, []⟩,
      ⟨(some 9), (.bin .eql (.t 8) (.c (.i .i64 (3)))), none, []⟩,
      ⟨(some 10), (.mov (.t 9)), none, []⟩,
      ⟨(some 11), (.off (.t 1) 2), (some (10, true)), []⟩,
      ⟨(some 12), (.off (.t 11) 0), (some (10, true)), []⟩,
      ⟨(some 13), (.load none (.t 12)), (some (10, true)), []⟩,
      ⟨(some 14), (.bin .eql (.t 13) (.c (.i .i64 (1)))), (some (10, true)), []⟩,
      ⟨(some 15), (.pick (.t 10) (.t 14) (.c (.b false))), none, []⟩,
      ⟨(some 2), (.mov (.t 6)), none, []⟩,
      ⟨(some 3), (.mov (.t 15)), none, []⟩] [])
    .ret)),
    16, 1, [.t 2, .t 3], 0⟩
theorem tr181 : trFunc Tryz.prog [([], []), ([0, 1, 2, 3, 4, 5, 6, 7, 8, 9, 10, 11, 12, 13], [])] 0 Tryz.f181 = some I181 := by kernel_rfl

/-- 'encore/value.typed'. -/
def I182 : IFunc :=
  ⟨(.seq (.region [⟨(some 2), (.alloc [(.i .i64 (0)), .ns, .ns]), none, []⟩,
      ⟨(some 3), (.mov (.c (.b false))), none, []⟩] [])
    (.seq (.seq (.region [⟨(some 7), (.mov (.t 0)), none, []⟩,
      ⟨(some 8), (.lenk 1 (.t 7)), none, []⟩,
      ⟨(some 9), (.bin .gtr (.t 8) (.c (.i .i64 (64)))), none, []⟩] [])
    (.cond (.t 9)
      (.seq (.region [⟨(some 10), (.build [(.i .i64 (0)), .ns, .ns] []), none, []⟩,
        ⟨none, (.store 3 (.t 2) (.t 10)), none, []⟩,
        ⟨(some 3), (.mov (.c (.b false))), none, []⟩] [])
      .ret)
      .skip))
    (.seq (.region [⟨(some 12), (.mov (.t 0)), none, []⟩,
      ⟨(some 13), (.call 204 [(.t 12)]), none, []⟩,
      ⟨(some 11), (.mov (.t 13)), none, []⟩,
      ⟨(some 14), (.ext (.t 11) 0), none, []⟩,
      ⟨(some 15), (.ext (.t 11) 1), none, []⟩,
      ⟨(some 16), (.ext (.t 11) 2), none, []⟩,
      ⟨(some 4), (.alloc [(.i .i64 (0)), .ns, .ns]), none, []⟩,
      ⟨none, (.store 3 (.t 4) (.t 14)), none, []⟩,
      ⟨(some 5), (.mov (.t 15)), none, []⟩,
      ⟨(some 6), (.mov (.t 16)), none, []⟩] [])
    (.seq (.region [⟨(some 17), (.load (some 3) (.t 4)), none, []⟩,
      ⟨(some 18), (.mov (.t 6)), none, []⟩,
      ⟨(some 19), (.mov (.t 18)), none, []⟩,
      ⟨(some 20), (.mov (.t 5)), (some (19, true)), []⟩,
      ⟨(some 21), (.bin .eql (.t 20) (.c (.s []))), (some (19, true)), []⟩,
      ⟨(some 22), (.pick (.t 19) (.t 21) (.c (.b false))), none, []⟩,
      ⟨none, (.store 3 (.t 2) (.t 17)), none, []⟩,
      ⟨(some 3), (.mov (.t 22)), none, []⟩] [])
    .ret)))),
    23, 1, [.c 2 (some 3), .t 3], 0⟩
theorem tr182 : trFunc Tryz.prog [([], []), ([], []), ([], []), ([], []), ([], []), ([], [])] 0 Tryz.f182 = some I182 := by kernel_rfl

/-- 'encore/arith.made'. -/
def I183 : IFunc :=
  ⟨(.seq (.region [⟨(some 1), (.box (.t 0)), none, []⟩,
      ⟨(some 2), (.alloc [(.i .i64 (0)), (.i .i64 (0)), (.s []), .ns, .ns]), none, []⟩,
      ⟨(some 3), (.mov (.c (.i .i64 (0)))), none, []⟩] [])
    (.seq (.seq (.region [⟨(some 4), (.load (some 5) (.t 1)), none, []⟩,
      ⟨(some 5), (.call 24 [(.t 4)]), none, []⟩,
      ⟨(some 6), (.bin .neq (.t 5) (.c (.i .i64 (0)))), none, []⟩] [])
    (.cond (.t 6)
      (.seq (.region [⟨(some 7), (.build [(.i .i64 (0)), (.i .i64 (0)), (.s []), .ns, .ns] []), none, []⟩,
        ⟨none, (.store 5 (.t 2) (.t 7)), none, []⟩,
        ⟨(some 3), (.mov (.c (.i .i64 (4)))), none, []⟩] [])
      .ret)
      .skip))
    (.seq (.region [⟨(some 8), (.load (some 5) (.t 1)), none, []⟩,
      ⟨(some 9), (.call 163 [(.t 8)]), none, []⟩,
      ⟨none, (.store 5 (.t 2) (.t 9)), none, []⟩,
      ⟨(some 3), (.mov (.c (.i .i64 (0)))), none, []⟩] [])
    .ret))),
    10, 1, [.c 2 (some 5), .t 3], 0⟩
theorem tr183 : trFunc Tryz.prog [([], []), ([], []), ([], []), ([], []), ([], [])] 0 Tryz.f183 = some I183 := by kernel_rfl

/-- 'encore/arith.named'. -/
def I184 : IFunc :=
  ⟨(.seq (.region [⟨(some 2), (.mov (.c (.b false))), none, []⟩] [])
    (.seq (.region [⟨(some 4), (.mov (.t 0)), none, []⟩,
      ⟨(some 5), (.mov (.t 0)), none, []⟩,
      ⟨(some 6), (.lenk 0 (.t 5)), none, []⟩,
      ⟨(some 7), (.mksl 5 80 [(.i .i64 (0)), (.i .i64 (0)), (.s []), .ns, .ns] (.t 6) (.t 6)), none, []⟩,
      ⟨(some 8), (.build [(.i .i64 (0)), (.i .i64 (0)), (.s []), .ns, .ns] [(0, 1, (.c (.i .i64 (5)))), (4, 1, (.t 4)), (3, 1, (.t 7))]), none, []⟩,
      ⟨(some 3), (.alloc [(.i .i64 (0)), (.i .i64 (0)), (.s []), .ns, .ns]), none, []⟩,
      ⟨none, (.store 5 (.t 3) (.t 8)), none, []⟩] [])
    (.seq (.region [⟨(some 9), (.mov (.t 0)), none, []⟩,
      ⟨(some 10), (.lenk 0 (.t 9)), none, []⟩,
      ⟨(some 11), (.bin .leq (.t 10) (.c (.i .i64 (8)))), none, []⟩,
      ⟨(some 12), (.mov (.t 11)), none, []⟩,
      ⟨(some 13), (.load (some 5) (.t 3)), (some (12, true)), []⟩,
      ⟨(some 14), (.call 24 [(.t 13)]), (some (12, true)), []⟩,
      ⟨(some 15), (.bin .eql (.t 14) (.c (.i .i64 (0)))), (some (12, true)), []⟩,
      ⟨(some 16), (.pick (.t 12) (.t 15) (.c (.b false))), none, []⟩,
      ⟨(some 2), (.mov (.t 16)), none, []⟩] [])
    .ret))),
    17, 1, [.t 2], 0⟩
theorem tr184 : trFunc Tryz.prog [([], []), ([], []), ([], [])] 0 Tryz.f184 = some I184 := by kernel_rfl

/-- 'slices.BinarySearch[[]string,string]'. -/
def L185a : ICode :=
  (.seq (.seq (.region [⟨(some 13), (.mov (.t 7)), none, []⟩,
      ⟨(some 14), (.mov (.t 8)), none, []⟩,
      ⟨(some 15), (.bin .lss (.t 13) (.t 14)), none, []⟩] [])
    (.cond (.t 15)
      .skip
      (.exit 0)))
    (.block 1
      (.seq (.region [⟨(some 16), (.mov (.t 7)), none, []⟩,
        ⟨(some 17), (.mov (.t 8)), none, []⟩,
        ⟨(some 18), (.bin .add (.t 16) (.t 17)), none, []⟩,
        ⟨(some 19), (.conv .u64 (.t 18)), none, []⟩,
        ⟨(some 20), (.bin .shr (.t 19) (.c (.i .u64 (1)))), none, []⟩,
        ⟨(some 21), (.conv .i64 (.t 20)), none, []⟩,
        ⟨(some 9), (.mov (.t 21)), none, []⟩] [])
      (.seq (.region [⟨(some 22), (.mov (.t 0)), none, []⟩,
        ⟨(some 23), (.mov (.t 9)), none, []⟩,
        ⟨(some 24), (.iaddr 1 (.t 22) (.t 23)), none, []⟩,
        ⟨(some 25), (.load none (.t 24)), none, []⟩,
        ⟨(some 26), (.mov (.t 1)), none, []⟩,
        ⟨(some 27), (.call 205 [(.t 25), (.t 26)]), none, []⟩] [])
      (.cond (.t 27)
        (.region [⟨(some 28), (.mov (.t 9)), none, []⟩,
          ⟨(some 29), (.bin .add (.t 28) (.c (.i .i64 (1)))), none, []⟩,
          ⟨(some 7), (.mov (.t 29)), none, []⟩] [])
        (.region [⟨(some 30), (.mov (.t 9)), none, []⟩,
          ⟨(some 8), (.mov (.t 30)), none, []⟩] []))))))
def I185 : IFunc :=
  ⟨(.seq (.region [⟨(some 4), (.mov (.c (.i .i64 (0)))), none, []⟩,
      ⟨(some 5), (.mov (.c (.b false))), none, []⟩] [])
    (.seq (.region [⟨(some 10), (.mov (.t 0)), none, []⟩,
      ⟨(some 11), (.lenk 0 (.t 10)), none, []⟩,
      ⟨(some 6), (.mov (.t 11)), none, []⟩] [])
    (.seq (.region [⟨(some 12), (.mov (.t 6)), none, []⟩,
      ⟨(some 7), (.mov (.c (.i .i64 (0)))), none, []⟩,
      ⟨(some 8), (.mov (.t 12)), none, []⟩] [])
    (.seq (.block 0
      (.loop L185a))
    (.seq (.region [⟨(some 31), (.mov (.t 7)), none, []⟩,
      ⟨(some 32), (.mov (.t 7)), none, []⟩,
      ⟨(some 33), (.mov (.t 6)), none, []⟩,
      ⟨(some 34), (.bin .lss (.t 32) (.t 33)), none, []⟩,
      ⟨(some 35), (.mov (.t 34)), none, []⟩,
      ⟨(some 36), (.mov (.t 0)), (some (35, true)), []⟩,
      ⟨(some 37), (.mov (.t 7)), (some (35, true)), []⟩,
      ⟨(some 38), (.iaddr 1 (.t 36) (.t 37)), (some (35, true)), []⟩,
      ⟨(some 39), (.load none (.t 38)), (some (35, true)), []⟩,
      ⟨(some 40), (.mov (.t 1)), (some (35, true)), []⟩,
      ⟨(some 41), (.bin .eql (.t 39) (.t 40)), (some (35, true)), []⟩,
      ⟨(some 42), (.mov (.t 41)), (some (35, true)), []⟩,
      ⟨(some 43), (.mov (.t 0)), (some (42, false)), []⟩,
      ⟨(some 44), (.mov (.t 7)), (some (42, false)), []⟩,
      ⟨(some 45), (.iaddr 1 (.t 43) (.t 44)), (some (42, false)), []⟩,
      ⟨(some 46), (.load none (.t 45)), (some (42, false)), []⟩,
      ⟨(some 47), (.call 206 [(.t 46)]), (some (42, false)), []⟩,
      ⟨(some 48), (.mov (.t 47)), (some (42, false)), []⟩,
      ⟨(some 49), (.mov (.t 1)), (some (48, true)), []⟩,
      ⟨(some 50), (.call 206 [(.t 49)]), (some (48, true)), []⟩,
      ⟨(some 51), (.pick (.t 48) (.t 50) (.c (.b false))), (some (42, false)), []⟩,
      ⟨(some 52), (.pick (.t 42) (.c (.b true)) (.t 51)), (some (35, true)), []⟩,
      ⟨(some 53), (.pick (.t 35) (.t 52) (.c (.b false))), none, []⟩,
      ⟨(some 4), (.mov (.t 31)), none, []⟩,
      ⟨(some 5), (.mov (.t 53)), none, []⟩] [])
    .ret))))),
    54, 2, [.t 4, .t 5], 0⟩
theorem tr185 : trFunc Tryz.prog [([], []), ([], []), ([], []), ([], []), ([], []), ([], []), ([], []), ([], []), ([], []), ([], [])] 0 Tryz.f185 = some I185 := by kernel_rfl

/-- '(encore/value.shape).has'. -/
def L186a : ICode :=
  (.seq (.region [⟨(some 24), (.bin .lss (.t 23) (.t 22)), none, []⟩] [])
    (.seq (.cond (.t 24)
      .skip
      (.exit 0))
    (.seq (.block 1
      (.seq (.region [⟨(some 25), (.mov (.t 23)), none, []⟩,
        ⟨(some 26), (.iaddr 5 (.t 21) (.t 23)), none, []⟩,
        ⟨(some 27), (.load (some 5) (.t 26)), none, []⟩,
        ⟨(some 6), (.alloc [(.i .i64 (0)), (.i .i64 (0)), (.s []), .ns, .ns]), none, []⟩,
        ⟨(some 5), (.mov (.t 25)), none, []⟩,
        ⟨none, (.store 5 (.t 6) (.t 27)), none, []⟩] [])
      (.seq (.seq (.region [⟨(some 28), (.off (.t 2) 0), none, []⟩,
        ⟨(some 29), (.load none (.t 28)), none, []⟩,
        ⟨(some 30), (.bin .eql (.t 29) (.c (.i .i64 (4)))), none, []⟩] [])
      (.cond (.t 30)
        (.region [⟨(some 5), (.mov (.c (.i .i64 (0)))), none, []⟩] [])
        .skip))
      (.seq (.region [⟨(some 31), (.off (.t 2) 2), none, []⟩,
        ⟨(some 32), (.load none (.t 31)), none, []⟩,
        ⟨(some 33), (.mov (.t 5)), none, []⟩,
        ⟨(some 34), (.iaddr 3 (.t 32) (.t 33)), none, []⟩,
        ⟨(some 35), (.load (some 3) (.t 34)), none, []⟩,
        ⟨(some 36), (.load (some 5) (.t 6)), none, []⟩,
        ⟨(some 37), (.call 186 [(.t 35), (.t 36)]), none, []⟩,
        ⟨(some 38), (.un .not (.t 37)), none, []⟩] [])
      (.cond (.t 38)
        (.seq (.region [⟨(some 4), (.mov (.c (.b false))), none, []⟩] [])
        .ret)
        .skip)))))
    (.region [⟨(some 39), (.bin .add (.t 23) (.c (.i .i64 (1)))), none, []⟩,
      ⟨(some 23), (.mov (.t 39)), none, []⟩] []))))
def I186 : IFunc :=
  ⟨(.seq (.region [⟨(some 2), (.box (.t 0)), none, []⟩,
      ⟨(some 3), (.box (.t 1)), none, []⟩,
      ⟨(some 4), (.mov (.c (.b false))), none, []⟩] [])
    (.seq (.seq (.region [⟨(some 7), (.off (.t 3) 0), none, []⟩,
      ⟨(some 8), (.load none (.t 7)), none, []⟩,
      ⟨(some 9), (.off (.t 2) 0), none, []⟩,
      ⟨(some 10), (.load none (.t 9)), none, []⟩,
      ⟨(some 11), (.bin .neq (.t 8) (.t 10)), none, []⟩,
      ⟨(some 12), (.mov (.t 11)), none, []⟩,
      ⟨(some 13), (.off (.t 3) 4), (some (12, false)), []⟩,
      ⟨(some 14), (.load none (.t 13)), (some (12, false)), []⟩,
      ⟨(some 15), (.off (.t 2) 1), (some (12, false)), []⟩,
      ⟨(some 16), (.load none (.t 15)), (some (12, false)), []⟩,
      ⟨(some 17), (.call 132 [(.t 14), (.t 16)]), (some (12, false)), []⟩,
      ⟨(some 18), (.un .not (.t 17)), (some (12, false)), []⟩,
      ⟨(some 19), (.pick (.t 12) (.c (.b true)) (.t 18)), none, []⟩] [])
    (.cond (.t 19)
      (.seq (.region [⟨(some 4), (.mov (.c (.b false))), none, []⟩] [])
      .ret)
      .skip))
    (.seq (.seq (.region [⟨(some 20), (.off (.t 3) 3), none, []⟩,
      ⟨(some 21), (.load none (.t 20)), none, []⟩,
      ⟨(some 22), (.lenk 0 (.t 21)), none, []⟩,
      ⟨(some 23), (.mov (.c (.i .i64 (0)))), none, []⟩] [])
    (.block 0
      (.loop L186a)))
    (.seq (.region [⟨(some 4), (.mov (.c (.b true))), none, []⟩] [])
    .ret)))),
    40, 2, [.t 4], 0⟩
theorem tr186 : trFunc Tryz.prog [([], []), ([], []), ([], []), ([], []), ([], []), ([], []), ([], []), ([], []), ([], []), ([], []), ([], []), ([0, 1, 2, 3, 4, 5, 6, 7], []), ([], []), ([], []), ([], []), ([], [])] 0 Tryz.f186 = some I186 := by kernel_rfl

/-- 'encore/lift.ints$1'. -/
def I187 : IFunc :=
  ⟨(.seq (.region [⟨(some 1), (.box (.t 0)), none, []⟩,
      ⟨(some 2), (.mov (.c (.b false))), none, []⟩] [])
    (.seq (.region [⟨(some 3), (.off (.t 1) 0), none, []⟩,
      ⟨(some 4), (.load none (.t 3)), none, []⟩,
      ⟨(some 5), (.bin .neq (.t 4) (.c (.i .i64 (1)))), none, []⟩,
      ⟨(some 2), (.mov (.t 5)), none, []⟩] [])
    .ret)),
    6, 1, [.t 2], 0⟩
theorem tr187 : trFunc Tryz.prog [([], []), ([], [])] 0 Tryz.f187 = some I187 := by kernel_rfl

/-- 'encore/arith.may$1'. -/
def I188 : IFunc :=
  ⟨(.seq (.region [⟨(some 1), (.box (.t 0)), none, []⟩,
      ⟨(some 2), (.mov (.c (.b false))), none, []⟩] [])
    (.seq (.region [⟨(some 3), (.load (some 5) (.t 1)), none, []⟩,
      ⟨(some 4), (.call 24 [(.t 3)]), none, []⟩,
      ⟨(some 5), (.bin .neq (.t 4) (.c (.i .i64 (0)))), none, []⟩,
      ⟨(some 2), (.mov (.t 5)), none, []⟩] [])
    .ret)),
    6, 1, [.t 2], 0⟩
theorem tr188 : trFunc Tryz.prog [([], []), ([], [])] 0 Tryz.f188 = some I188 := by kernel_rfl

/-- 'encore/value.named'. -/
def L189a : ICode :=
  (.seq (.region [⟨(some 17), (.bin .lss (.t 16) (.t 15)), none, []⟩] [])
    (.seq (.cond (.t 17)
      .skip
      (.exit 0))
    (.seq (.block 1
      (.seq (.region [⟨(some 18), (.mov (.t 16)), none, []⟩,
        ⟨(some 19), (.iaddr 1 (.t 14) (.t 16)), none, []⟩,
        ⟨(some 20), (.load none (.t 19)), none, []⟩,
        ⟨(some 3), (.mov (.t 18)), none, []⟩,
        ⟨(some 4), (.mov (.t 20)), none, []⟩] [])
      (.seq (.region [⟨(some 21), (.mov (.t 4)), none, []⟩,
        ⟨(some 22), (.bin .geq (.t 21) (.c (.i .u8 (97)))), none, []⟩,
        ⟨(some 23), (.mov (.t 22)), none, []⟩,
        ⟨(some 24), (.mov (.t 4)), (some (23, true)), []⟩,
        ⟨(some 25), (.bin .leq (.t 24) (.c (.i .u8 (122)))), (some (23, true)), []⟩,
        ⟨(some 26), (.pick (.t 23) (.t 25) (.c (.b false))), none, []⟩,
        ⟨(some 5), (.mov (.t 26)), none, []⟩] [])
      (.seq (.region [⟨(some 27), (.mov (.t 5)), none, []⟩,
        ⟨(some 28), (.un .not (.t 27)), none, []⟩,
        ⟨(some 29), (.mov (.t 28)), none, []⟩,
        ⟨(some 30), (.mov (.t 3)), (some (29, true)), []⟩,
        ⟨(some 31), (.bin .eql (.t 30) (.c (.i .i64 (0)))), (some (29, true)), []⟩,
        ⟨(some 32), (.mov (.t 31)), (some (29, true)), []⟩,
        ⟨(some 33), (.mov (.t 4)), (some (32, false)), []⟩,
        ⟨(some 34), (.bin .neq (.t 33) (.c (.i .u8 (95)))), (some (32, false)), []⟩,
        ⟨(some 35), (.mov (.t 34)), (some (32, false)), []⟩,
        ⟨(some 36), (.mov (.t 4)), (some (35, true)), []⟩,
        ⟨(some 37), (.bin .lss (.t 36) (.c (.i .u8 (48)))), (some (35, true)), []⟩,
        ⟨(some 38), (.mov (.t 37)), (some (35, true)), []⟩,
        ⟨(some 39), (.mov (.t 4)), (some (38, false)), []⟩,
        ⟨(some 40), (.bin .gtr (.t 39) (.c (.i .u8 (57)))), (some (38, false)), []⟩,
        ⟨(some 41), (.pick (.t 38) (.c (.b true)) (.t 40)), (some (35, true)), []⟩,
        ⟨(some 42), (.pick (.t 35) (.t 41) (.c (.b false))), (some (32, false)), []⟩,
        ⟨(some 43), (.pick (.t 32) (.c (.b true)) (.t 42)), (some (29, true)), []⟩,
        ⟨(some 44), (.pick (.t 29) (.t 43) (.c (.b false))), none, []⟩] [])
      (.cond (.t 44)
        (.seq (.region [⟨(some 2), (.mov (.c (.b false))), none, []⟩] [])
        .ret)
        .skip)))))
    (.region [⟨(some 45), (.bin .add (.t 16) (.c (.i .i64 (1)))), none, []⟩,
      ⟨(some 16), (.mov (.t 45)), none, []⟩] []))))
def I189 : IFunc :=
  ⟨(.seq (.region [⟨(some 2), (.mov (.c (.b false))), none, []⟩] [])
    (.seq (.seq (.region [⟨(some 6), (.mov (.t 0)), none, []⟩,
      ⟨(some 7), (.bin .eql (.t 6) (.c (.s []))), none, []⟩,
      ⟨(some 8), (.mov (.t 7)), none, []⟩,
      ⟨(some 9), (.mov (.t 0)), (some (8, false)), []⟩,
      ⟨(some 10), (.lenk 1 (.t 9)), (some (8, false)), []⟩,
      ⟨(some 11), (.bin .gtr (.t 10) (.c (.i .i64 (16)))), (some (8, false)), []⟩,
      ⟨(some 12), (.pick (.t 8) (.c (.b true)) (.t 11)), none, []⟩] [])
    (.cond (.t 12)
      (.seq (.region [⟨(some 2), (.mov (.c (.b false))), none, []⟩] [])
      .ret)
      .skip))
    (.seq (.seq (.region [⟨(some 13), (.mov (.t 0)), none, []⟩,
      ⟨(some 14), (.s2b (.t 13)), none, []⟩,
      ⟨(some 15), (.lenk 0 (.t 14)), none, []⟩,
      ⟨(some 16), (.mov (.c (.i .i64 (0)))), none, []⟩] [])
    (.block 0
      (.loop L189a)))
    (.seq (.region [⟨(some 2), (.mov (.c (.b true))), none, []⟩] [])
    .ret)))),
    46, 1, [.t 2], 0⟩
theorem tr189 : trFunc Tryz.prog [([], []), ([], []), ([], []), ([], []), ([], []), ([], []), ([], []), ([], []), ([], []), ([], []), ([], []), ([], []), ([], []), ([], [])] 0 Tryz.f189 = some I189 := by kernel_rfl

/-- '(encore/code.site).value'. -/
def I190 : IFunc :=
  ⟨(.seq (.region [⟨(some 1), (.box (.t 0)), none, []⟩,
      ⟨(some 2), (.mov (.c (.b false))), none, []⟩] [])
    (.seq (.region [⟨(some 3), (.off (.t 1) 2), none, []⟩,
      ⟨(some 4), (.off (.t 3) 1), none, []⟩,
      ⟨(some 5), (.load none (.t 4)), none, []⟩,
      ⟨(some 6), (.bin .geq (.t 5) (.c (.i .i64 (0)))), none, []⟩,
      ⟨(some 7), (.mov (.t 6)), none, []⟩,
      ⟨(some 8), (.off (.t 1) 2), (some (7, true)), []⟩,
      ⟨(some 9), (.off (.t 8) 1), (some (7, true)), []⟩,
      ⟨(some 10), (.load none (.t 9)), (some (7, true)), []⟩,
      ⟨(some 11), (.off (.t 1) 0), (some (7, true)), []⟩,
      ⟨(some 12), (.load none (.t 11)), (some (7, true)), []⟩,
      ⟨(some 13), (.nck (.t 12)), (some (7, true)), []⟩,
      ⟨(some 14), (.off (.t 13) 1), (some (7, true)), []⟩,
      ⟨(some 15), (.load none (.t 14)), (some (7, true)), []⟩,
      ⟨(some 16), (.lenk 0 (.t 15)), (some (7, true)), []⟩,
      ⟨(some 17), (.bin .lss (.t 10) (.t 16)), (some (7, true)), []⟩,
      ⟨(some 18), (.pick (.t 7) (.t 17) (.c (.b false))), none, []⟩,
      ⟨(some 2), (.mov (.t 18)), none, []⟩] [])
    .ret)),
    19, 1, [.t 2], 0⟩
theorem tr190 : trFunc Tryz.prog [([], []), ([0, 1, 2, 3, 4, 5, 6, 7, 8, 9, 10, 11, 12, 13, 14, 15, 16], [])] 0 Tryz.f190 = some I190 := by kernel_rfl

/-- '(encore/code.site).local'. -/
def I191 : IFunc :=
  ⟨(.seq (.region [⟨(some 1), (.box (.t 0)), none, []⟩,
      ⟨(some 2), (.mov (.c (.b false))), none, []⟩] [])
    (.seq (.region [⟨(some 3), (.off (.t 1) 2), none, []⟩,
      ⟨(some 4), (.off (.t 3) 1), none, []⟩,
      ⟨(some 5), (.load none (.t 4)), none, []⟩,
      ⟨(some 6), (.bin .geq (.t 5) (.c (.i .i64 (0)))), none, []⟩,
      ⟨(some 7), (.mov (.t 6)), none, []⟩,
      ⟨(some 8), (.off (.t 1) 2), (some (7, true)), []⟩,
      ⟨(some 9), (.off (.t 8) 1), (some (7, true)), []⟩,
      ⟨(some 10), (.load none (.t 9)), (some (7, true)), []⟩,
      ⟨(some 11), (.off (.t 1) 1), (some (7, true)), []⟩,
      ⟨(some 12), (.load none (.t 11)), (some (7, true)), []⟩,
      ⟨(some 13), (.nck (.t 12)), (some (7, true)), []⟩,
      ⟨(some 14), (.off (.t 13) 2), (some (7, true)), []⟩,
      ⟨(some 15), (.load none (.t 14)), (some (7, true)), []⟩,
      ⟨(some 16), (.bin .lss (.t 10) (.t 15)), (some (7, true)), []⟩,
      ⟨(some 17), (.pick (.t 7) (.t 16) (.c (.b false))), none, []⟩,
      ⟨(some 2), (.mov (.t 17)), none, []⟩] [])
    .ret)),
    18, 1, [.t 2], 0⟩
theorem tr191 : trFunc Tryz.prog [([], []), ([0, 1, 2, 3, 4, 5, 6, 7, 8, 9, 10, 11, 12, 13, 14, 15], [])] 0 Tryz.f191 = some I191 := by kernel_rfl

/-- '(encore/code.site).count'. -/
def I192 : IFunc :=
  ⟨(.seq (.region [⟨(some 1), (.box (.t 0)), none, []⟩,
      ⟨(some 2), (.mov (.c (.b false))), none, []⟩] [])
    (.seq (.region [⟨(some 3), (.off (.t 1) 2), none, []⟩,
      ⟨(some 4), (.off (.t 3) 1), none, []⟩,
      ⟨(some 5), (.load none (.t 4)), none, []⟩,
      ⟨(some 6), (.bin .geq (.t 5) (.c (.i .i64 (0)))), none, []⟩,
      ⟨(some 7), (.mov (.t 6)), none, []⟩,
      ⟨(some 8), (.off (.t 1) 2), (some (7, true)), []⟩,
      ⟨(some 9), (.off (.t 8) 1), (some (7, true)), []⟩,
      ⟨(some 10), (.load none (.t 9)), (some (7, true)), []⟩,
      ⟨(some 11), (.bin .leq (.t 10) (.c (.i .i64 (8)))), (some (7, true)), []⟩,
      ⟨(some 12), (.pick (.t 7) (.t 11) (.c (.b false))), none, []⟩,
      ⟨(some 2), (.mov (.t 12)), none, []⟩] [])
    .ret)),
    13, 1, [.t 2], 0⟩
theorem tr192 : trFunc Tryz.prog [([], []), ([], [])] 0 Tryz.f192 = some I192 := by kernel_rfl

/-- '(encore/code.site).fields'. -/
def I193 : IFunc :=
  ⟨(.seq (.region [⟨(some 1), (.box (.t 0)), none, []⟩,
      ⟨(some 2), (.mov (.c (.b false))), none, []⟩] [])
    (.seq (.region [⟨(some 3), (.load (some 5) (.t 1)), none, []⟩,
      ⟨(some 4), (.call 190 [(.t 3)]), none, []⟩,
      ⟨(some 5), (.mov (.t 4)), none, []⟩,
      ⟨(some 6), (.off (.t 1) 0), (some (5, true)), []⟩,
      ⟨(some 7), (.load none (.t 6)), (some (5, true)), []⟩,
      ⟨(some 8), (.nck (.t 7)), (some (5, true)), []⟩,
      ⟨(some 9), (.off (.t 8) 1), (some (5, true)), []⟩,
      ⟨(some 10), (.load none (.t 9)), (some (5, true)), []⟩,
      ⟨(some 11), (.off (.t 1) 2), (some (5, true)), []⟩,
      ⟨(some 12), (.off (.t 11) 1), (some (5, true)), []⟩,
      ⟨(some 13), (.load none (.t 12)), (some (5, true)), []⟩,
      ⟨(some 14), (.iaddr 5 (.t 10) (.t 13)), (some (5, true)), []⟩,
      ⟨(some 15), (.load (some 5) (.t 14)), (some (5, true)), []⟩,
      ⟨(some 16), (.call 207 [(.t 15)]), (some (5, true)), []⟩,
      ⟨(some 17), (.pick (.t 5) (.t 16) (.c (.b false))), none, []⟩,
      ⟨(some 2), (.mov (.t 17)), none, []⟩] [])
    .ret)),
    18, 1, [.t 2], 0⟩
theorem tr193 : trFunc Tryz.prog [([], []), ([0, 1, 2, 3, 4, 5, 6, 7, 8, 9, 10, 11, 12, 13, 14, 15], [])] 0 Tryz.f193 = some I193 := by kernel_rfl

/-- '(encore/code.site).field'. -/
def I194 : IFunc :=
  ⟨(.seq (.region [⟨(some 1), (.box (.t 0)), none, []⟩,
      ⟨(some 2), (.mov (.c (.b false))), none, []⟩] [])
    (.seq (.region [⟨(some 3), (.off (.t 1) 0), none, []⟩,
      ⟨(some 4), (.load none (.t 3)), none, []⟩,
      ⟨(some 5), (.off (.t 1) 2), none, []⟩,
      ⟨(some 6), (.off (.t 5) 1), none, []⟩,
      ⟨(some 7), (.load none (.t 6)), none, []⟩,
      ⟨(some 8), (.call 208 [(.t 4), (.t 7)]), none, []⟩,
      ⟨(some 2), (.mov (.t 8)), none, []⟩] [])
    .ret)),
    9, 1, [.t 2], 0⟩
theorem tr194 : trFunc Tryz.prog [([], []), ([], [])] 0 Tryz.f194 = some I194 := by kernel_rfl

/-- '(encore/code.site).typed'. -/
def I195 : IFunc :=
  ⟨(.seq (.region [⟨(some 1), (.box (.t 0)), none, []⟩,
      ⟨(some 2), (.mov (.c (.b false))), none, []⟩] [])
    (.seq (.region [⟨(some 6), (.off (.t 1) 0), none, []⟩,
      ⟨(some 7), (.load none (.t 6)), none, []⟩,
      ⟨(some 8), (.off (.t 1) 2), none, []⟩,
      ⟨(some 9), (.off (.t 8) 1), none, []⟩,
      ⟨(some 10), (.load none (.t 9)), none, []⟩,
      ⟨(some 11), (.call 209 [(.t 7), (.t 10)]), none, []⟩,
      ⟨(some 5), (.mov (.t 11)), none, []⟩,
      ⟨(some 12), (.ext (.t 5) 0), none, []⟩,
      ⟨(some 13), (.ext (.t 5) 1), none, []⟩,
      ⟨(some 3), (.mov (.t 12)), none, []⟩,
      ⟨(some 4), (.mov (.t 13)), none, []⟩] [])
    (.seq (.region [⟨(some 14), (.mov (.t 4)), none, []⟩,
      ⟨(some 15), (.mov (.t 14)), none, []⟩,
      ⟨(some 16), (.mov (.t 3)), (some (15, true)), []⟩,
      ⟨(some 17), (.call 137 [(.t 16)]), (some (15, true)), []⟩,
      ⟨(some 18), (.pick (.t 15) (.t 17) (.c (.b false))), none, []⟩,
      ⟨(some 2), (.mov (.t 18)), none, []⟩] [])
    .ret))),
    19, 1, [.t 2], 0⟩
theorem tr195 : trFunc Tryz.prog [([], []), ([], []), ([], [])] 0 Tryz.f195 = some I195 := by kernel_rfl

/-- '(encore/code.site).place'. -/
def I196 : IFunc :=
  ⟨(.seq (.region [⟨(some 1), (.box (.t 0)), none, []⟩,
      ⟨(some 2), (.mov (.c (.b false))), none, []⟩] [])
    (.seq (.region [⟨(some 3), (.off (.t 1) 2), none, []⟩,
      ⟨(some 4), (.off (.t 3) 1), none, []⟩,
      ⟨(some 5), (.load none (.t 4)), none, []⟩,
      ⟨(some 6), (.bin .geq (.t 5) (.c (.i .i64 (0)))), none, []⟩,
      ⟨(some 7), (.mov (.t 6)), none, []⟩,
      ⟨(some 8), (.off (.t 1) 2), (some (7, true)), []⟩,
      ⟨(some 9), (.off (.t 8) 1), (some (7, true)), []⟩,
      ⟨(some 10), (.load none (.t 9)), (some (7, true)), []⟩,
      ⟨(some 11), (.off (.t 1) 1), (some (7, true)), []⟩,
      ⟨(some 12), (.load none (.t 11)), (some (7, true)), []⟩,
      ⟨(some 13), (.nck (.t 12)), (some (7, true)), []⟩,
      ⟨(some 14), (.off (.t 13) 3), (some (7, true)), []⟩,
      ⟨(some 15), (.load none (.t 14)), (some (7, true)), []⟩,
      ⟨(some 16), (.lenk 0 (.t 15)), (some (7, true)), []⟩,
      ⟨(some 17), (.bin .lss (.t 10) (.t 16)), (some (7, true)), []⟩,
      ⟨(some 18), (.pick (.t 7) (.t 17) (.c (.b false))), none, []⟩,
      ⟨(some 2), (.mov (.t 18)), none, []⟩] [])
    .ret)),
    19, 1, [.t 2], 0⟩
theorem tr196 : trFunc Tryz.prog [([], []), ([0, 1, 2, 3, 4, 5, 6, 7, 8, 9, 10, 11, 12, 13, 14, 15, 16], [])] 0 Tryz.f196 = some I196 := by kernel_rfl

/-- '(encore/code.site).fn'. -/
def I197 : IFunc :=
  ⟨(.seq (.region [⟨(some 1), (.box (.t 0)), none, []⟩,
      ⟨(some 2), (.mov (.c (.b false))), none, []⟩] [])
    (.seq (.region [⟨(some 3), (.off (.t 1) 2), none, []⟩,
      ⟨(some 4), (.off (.t 3) 1), none, []⟩,
      ⟨(some 5), (.load none (.t 4)), none, []⟩,
      ⟨(some 6), (.bin .geq (.t 5) (.c (.i .i64 (0)))), none, []⟩,
      ⟨(some 7), (.mov (.t 6)), none, []⟩,
      ⟨(some 8), (.off (.t 1) 2), (some (7, true)), []⟩,
      ⟨(some 9), (.off (.t 8) 1), (some (7, true)), []⟩,
      ⟨(some 10), (.load none (.t 9)), (some (7, true)), []⟩,
      ⟨(some 11), (.off (.t 1) 0), (some (7, true)), []⟩,
      ⟨(some 12), (.load none (.t 11)), (some (7, true)), []⟩,
      ⟨(some 13), (.nck (.t 12)), (some (7, true)), []⟩,
      ⟨(some 14), (.off (.t 13) 0), (some (7, true)), []⟩,
      ⟨(some 15), (.load none (.t 14)), (some (7, true)), []⟩,
      ⟨(some 16), (.lenk 0 (.t 15)), (some (7, true)), []⟩,
      ⟨(some 17), (.bin .lss (.t 10) (.t 16)), (some (7, true)), []⟩,
      ⟨(some 18), (.pick (.t 7) (.t 17) (.c (.b false))), none, []⟩,
      ⟨(some 2), (.mov (.t 18)), none, []⟩] [])
    .ret)),
    19, 1, [.t 2], 0⟩
theorem tr197 : trFunc Tryz.prog [([], []), ([0, 1, 2, 3, 4, 5, 6, 7, 8, 9, 10, 11, 12, 13, 14, 15, 16], [])] 0 Tryz.f197 = some I197 := by kernel_rfl

/-- '(encore/code.site).ask'. -/
def I198 : IFunc :=
  ⟨(.seq (.region [⟨(some 1), (.box (.t 0)), none, []⟩,
      ⟨(some 2), (.mov (.c (.b false))), none, []⟩] [])
    (.seq (.seq (.region [⟨(some 7), (.off (.t 1) 2), none, []⟩,
      ⟨(some 8), (.off (.t 7) 1), none, []⟩,
      ⟨(some 9), (.load none (.t 8)), none, []⟩] [])
    (.block 0
      (.seq (.seq (.region [⟨(some 11), (.bin .eql (.t 9) (.c (.i .i64 (1)))), none, []⟩,
        ⟨(some 10), (.mov (.t 11)), none, []⟩] [])
      (.cond (.t 10)
        .skip
        (.region [⟨(some 12), (.bin .eql (.t 9) (.c (.i .i64 (3)))), none, []⟩,
          ⟨(some 10), (.mov (.t 12)), none, []⟩] [])))
      (.cond (.t 10)
        (.seq (.region [⟨(some 13), (.off (.t 1) 0), none, []⟩,
          ⟨(some 14), (.load none (.t 13)), none, []⟩,
          ⟨(some 15), (.off (.t 1) 2), none, []⟩,
          ⟨(some 16), (.off (.t 15) 2), none, []⟩,
          ⟨(some 17), (.load none (.t 16)), none, []⟩,
          ⟨(some 18), (.call 208 [(.t 14), (.t 17)]), none, []⟩,
          ⟨(some 2), (.mov (.t 18)), none, []⟩] [])
        .ret)
        (.seq (.region [⟨(some 20), (.bin .eql (.t 9) (.c (.i .i64 (4)))), none, []⟩,
          ⟨(some 19), (.mov (.t 20)), none, []⟩] [])
        (.cond (.t 19)
          (.seq (.region [⟨(some 22), (.off (.t 1) 0), none, []⟩,
            ⟨(some 23), (.load none (.t 22)), none, []⟩,
            ⟨(some 24), (.off (.t 1) 2), none, []⟩,
            ⟨(some 25), (.off (.t 24) 2), none, []⟩,
            ⟨(some 26), (.load none (.t 25)), none, []⟩,
            ⟨(some 27), (.call 209 [(.t 23), (.t 26)]), none, []⟩,
            ⟨(some 21), (.mov (.t 27)), none, []⟩,
            ⟨(some 28), (.ext (.t 21) 0), none, []⟩,
            ⟨(some 29), (.ext (.t 21) 1), none, []⟩,
            ⟨(some 3), (.mov (.t 28)), none, []⟩,
            ⟨(some 4), (.mov (.t 29)), none, []⟩] [])
          (.seq (.region [⟨(some 31), (.off (.t 1) 0), none, []⟩,
            ⟨(some 32), (.load none (.t 31)), none, []⟩,
            ⟨(some 33), (.nck (.t 32)), none, []⟩,
            ⟨(some 34), (.load (some 2) (.t 33)), none, []⟩,
            ⟨(some 35), (.mov (.t 3)), none, []⟩,
            ⟨(some 36), (.call 210 [(.t 34), (.t 35)]), none, []⟩,
            ⟨(some 30), (.mov (.t 36)), none, []⟩,
            ⟨(some 37), (.ext (.t 30) 0), none, []⟩,
            ⟨(some 38), (.ext (.t 30) 1), none, []⟩,
            ⟨(some 5), (.mov (.t 37)), none, []⟩,
            ⟨(some 6), (.mov (.t 38)), none, []⟩] [])
          (.seq (.region [⟨(some 39), (.mov (.t 4)), none, []⟩,
            ⟨(some 40), (.mov (.t 39)), none, []⟩,
            ⟨(some 41), (.mov (.t 6)), (some (40, true)), []⟩,
            ⟨(some 42), (.pick (.t 40) (.t 41) (.c (.b false))), none, []⟩,
            ⟨(some 43), (.mov (.t 42)), none, []⟩,
            ⟨(some 44), (.off (.t 1) 0), (some (43, true)), []⟩,
            ⟨(some 45), (.load none (.t 44)), (some (43, true)), []⟩,
            ⟨(some 46), (.nck (.t 45)), (some (43, true)), []⟩,
            ⟨(some 47), (.off (.t 46) 0), (some (43, true)), []⟩,
            ⟨(some 48), (.load none (.t 47)), (some (43, true)), []⟩,
            ⟨(some 49), (.mov (.t 5)), (some (43, true)), []⟩,
            ⟨(some 50), (.iaddr 4 (.t 48) (.t 49)), (some (43, true)), []⟩,
            ⟨(some 51), (.off (.t 50) 1), (some (43, true)), []⟩,
            ⟨(some 52), (.load none (.t 51)), (some (43, true)), []⟩,
            ⟨(some 53), (.bin .eql (.t 52) (.c (.i .i64 (1)))), (some (43, true)), []⟩,
            ⟨(some 54), (.pick (.t 43) (.t 53) (.c (.b false))), none, []⟩,
            ⟨(some 2), (.mov (.t 54)), none, []⟩] [])
          .ret)))
          (.seq (.seq (.region [⟨(some 56), (.bin .eql (.t 9) (.c (.i .i64 (2)))), none, []⟩,
            ⟨(some 55), (.mov (.t 56)), none, []⟩] [])
          (.cond (.t 55)
            .skip
            (.seq (.region [⟨(some 57), (.bin .eql (.t 9) (.c (.i .i64 (5)))), none, []⟩,
              ⟨(some 55), (.mov (.t 57)), none, []⟩] [])
            (.cond (.t 55)
              .skip
              (.seq (.region [⟨(some 58), (.bin .eql (.t 9) (.c (.i .i64 (6)))), none, []⟩,
                ⟨(some 55), (.mov (.t 58)), none, []⟩] [])
              (.cond (.t 55)
                .skip
                (.seq (.region [⟨(some 59), (.bin .eql (.t 9) (.c (.i .i64 (7)))), none, []⟩,
                  ⟨(some 55), (.mov (.t 59)), none, []⟩] [])
                (.cond (.t 55)
                  .skip
                  (.region [⟨(some 60), (.bin .eql (.t 9) (.c (.i .i64 (8)))), none, []⟩,
                    ⟨(some 55), (.mov (.t 60)), none, []⟩] [])))))))))
          (.cond (.t 55)
            (.seq (.region [⟨(some 61), (.off (.t 1) 2), none, []⟩,
              ⟨(some 62), (.off (.t 61) 2), none, []⟩,
              ⟨(some 63), (.load none (.t 62)), none, []⟩,
              ⟨(some 64), (.bin .eql (.t 63) (.c (.i .i64 (0)))), none, []⟩,
              ⟨(some 2), (.mov (.t 64)), none, []⟩] [])
            .ret)
            .skip))))))))
    (.seq (.region [⟨(some 2), (.mov (.c (.b false))), none, []⟩] [])
    .ret))),
    65, 1, [.t 2], 0⟩
theorem tr198 : trFunc Tryz.prog [([], []), ([], []), ([], []), ([], []), ([], []), ([], []), ([], []), ([], []), ([], []), ([], []), ([], []), ([], []), ([], []), ([], []), ([], []), ([], []), ([], []), ([], []), ([], []), ([], []), ([], []), ([], [])] 0 Tryz.f198 = some I198 := by kernel_rfl

/-- '(encore/code.site).none'. -/
def I199 : IFunc :=
  ⟨(.seq (.region [⟨(some 1), (.box (.t 0)), none, []⟩,
      ⟨(some 2), (.mov (.c (.b false))), none, []⟩] [])
    (.seq (.region [⟨(some 3), (.off (.t 1) 2), none, []⟩,
      ⟨(some 4), (.off (.t 3) 1), none, []⟩,
      ⟨(some 5), (.load none (.t 4)), none, []⟩,
      ⟨(some 6), (.bin .eql (.t 5) (.c (.i .i64 (0)))), none, []⟩,
      ⟨(some 2), (.mov (.t 6)), none, []⟩] [])
    .ret)),
    7, 1, [.t 2], 0⟩
theorem tr199 : trFunc Tryz.prog [([], []), ([], [])] 0 Tryz.f199 = some I199 := by kernel_rfl

/-- 'math/bits.Mul32'. -/
def I200 : IFunc :=
  ⟨(.seq (.region [⟨(some 4), (.mov (.c (.i .u32 (0)))), none, []⟩,
      ⟨(some 5), (.mov (.c (.i .u32 (0)))), none, []⟩] [])
    (.seq (.region [⟨(some 7), (.mov (.t 0)), none, []⟩,
      ⟨(some 8), (.conv .u64 (.t 7)), none, []⟩,
      ⟨(some 9), (.mov (.t 1)), none, []⟩,
      ⟨(some 10), (.conv .u64 (.t 9)), none, []⟩,
      ⟨(some 11), (.bin .mul (.t 8) (.t 10)), none, []⟩,
      ⟨(some 6), (.mov (.t 11)), none, []⟩] [])
    (.seq (.region [⟨(some 12), (.mov (.t 6)), none, []⟩,
      ⟨(some 13), (.bin .shr (.t 12) (.c (.i .u64 (32)))), none, []⟩,
      ⟨(some 14), (.conv .u32 (.t 13)), none, []⟩,
      ⟨(some 15), (.mov (.t 6)), none, []⟩,
      ⟨(some 16), (.conv .u32 (.t 15)), none, []⟩,
      ⟨(some 4), (.mov (.t 14)), none, []⟩,
      ⟨(some 5), (.mov (.t 16)), none, []⟩] [])
    .ret))),
    17, 2, [.t 4, .t 5], 0⟩
theorem tr200 : trFunc Tryz.prog [([], []), ([], []), ([], [])] 0 Tryz.f200 = some I200 := by kernel_rfl

/-- 'math/bits.Mul64'. -/
def I201 : IFunc :=
  ⟨(.seq (.region [⟨(some 4), (.mov (.c (.i .u64 (0)))), none, []⟩,
      ⟨(some 5), (.mov (.c (.i .u64 (0)))), none, []⟩] [])
    (.seq (.region [⟨(some 14), (.mov (.t 0)), none, []⟩,
      ⟨(some 15), (.bin .and (.t 14) (.c (.i .u64 (4294967295)))), none, []⟩,
      ⟨(some 6), (.mov (.t 15)), none, []⟩] [])
    (.seq (.region [⟨(some 16), (.mov (.t 0)), none, []⟩,
      ⟨(some 17), (.bin .shr (.t 16) (.c (.i .u64 (32)))), none, []⟩,
      ⟨(some 7), (.mov (.t 17)), none, []⟩] [])
    (.seq (.region [⟨(some 18), (.mov (.t 1)), none, []⟩,
      ⟨(some 19), (.bin .and (.t 18) (.c (.i .u64 (4294967295)))), none, []⟩,
      ⟨(some 8), (.mov (.t 19)), none, []⟩] [])
    (.seq (.region [⟨(some 20), (.mov (.t 1)), none, []⟩,
      ⟨(some 21), (.bin .shr (.t 20) (.c (.i .u64 (32)))), none, []⟩,
      ⟨(some 9), (.mov (.t 21)), none, []⟩] [])
    (.seq (.region [⟨(some 22), (.mov (.t 6)), none, []⟩,
      ⟨(some 23), (.mov (.t 8)), none, []⟩,
      ⟨(some 24), (.bin .mul (.t 22) (.t 23)), none, []⟩,
      ⟨(some 10), (.mov (.t 24)), none, []⟩] [])
    (.seq (.region [⟨(some 25), (.mov (.t 7)), none, []⟩,
      ⟨(some 26), (.mov (.t 8)), none, []⟩,
      ⟨(some 27), (.bin .mul (.t 25) (.t 26)), none, []⟩,
      ⟨(some 28), (.mov (.t 10)), none, []⟩,
      ⟨(some 29), (.bin .shr (.t 28) (.c (.i .u64 (32)))), none, []⟩,
      ⟨(some 30), (.bin .add (.t 27) (.t 29)), none, []⟩,
      ⟨(some 11), (.mov (.t 30)), none, []⟩] [])
    (.seq (.region [⟨(some 31), (.mov (.t 11)), none, []⟩,
      ⟨(some 32), (.bin .and (.t 31) (.c (.i .u64 (4294967295)))), none, []⟩,
      ⟨(some 12), (.mov (.t 32)), none, []⟩] [])
    (.seq (.region [⟨(some 33), (.mov (.t 11)), none, []⟩,
      ⟨(some 34), (.bin .shr (.t 33) (.c (.i .u64 (32)))), none, []⟩,
      ⟨(some 13), (.mov (.t 34)), none, []⟩] [])
    (.seq (.region [⟨(some 35), (.mov (.t 12)), none, []⟩,
      ⟨(some 36), (.mov (.t 6)), none, []⟩,
      ⟨(some 37), (.mov (.t 9)), none, []⟩,
      ⟨(some 38), (.bin .mul (.t 36) (.t 37)), none, []⟩,
      ⟨(some 39), (.bin .add (.t 35) (.t 38)), none, []⟩,
      ⟨(some 12), (.mov (.t 39)), none, []⟩] [])
    (.seq (.region [⟨(some 40), (.mov (.t 7)), none, []⟩,
      ⟨(some 41), (.mov (.t 9)), none, []⟩,
      ⟨(some 42), (.bin .mul (.t 40) (.t 41)), none, []⟩,
      ⟨(some 43), (.mov (.t 13)), none, []⟩,
      ⟨(some 44), (.bin .add (.t 42) (.t 43)), none, []⟩,
      ⟨(some 45), (.mov (.t 12)), none, []⟩,
      ⟨(some 46), (.bin .shr (.t 45) (.c (.i .u64 (32)))), none, []⟩,
      ⟨(some 47), (.bin .add (.t 44) (.t 46)), none, []⟩,
      ⟨(some 4), (.mov (.t 47)), none, []⟩] [])
    (.seq (.region [⟨(some 48), (.mov (.t 0)), none, []⟩,
      ⟨(some 49), (.mov (.t 1)), none, []⟩,
      ⟨(some 50), (.bin .mul (.t 48) (.t 49)), none, []⟩,
      ⟨(some 5), (.mov (.t 50)), none, []⟩] [])
    .ret)))))))))))),
    51, 2, [.t 4, .t 5], 0⟩
theorem tr201 : trFunc Tryz.prog [([], []), ([], []), ([], []), ([], []), ([], []), ([], []), ([], []), ([], []), ([], []), ([], []), ([], []), ([], [])] 0 Tryz.f201 = some I201 := by kernel_rfl

/-- 'slices.IndexFunc[[]int,int]'. -/
def L202a : ICode :=
  (.seq (.region [⟨(some 9), (.bin .lss (.t 8) (.t 7)), none, []⟩] [])
    (.seq (.cond (.t 9)
      .skip
      (.exit 0))
    (.seq (.block 1
      (.seq (.region [⟨(some 10), (.mov (.t 8)), none, []⟩,
        ⟨(some 5), (.mov (.t 10)), none, []⟩] [])
      (.seq (.region [⟨(some 11), (.mov (.t 1)), none, []⟩,
        ⟨(some 12), (.mov (.t 0)), none, []⟩,
        ⟨(some 13), (.mov (.t 5)), none, []⟩,
        ⟨(some 14), (.iaddr 1 (.t 12) (.t 13)), none, []⟩,
        ⟨(some 15), (.load none (.t 14)), none, []⟩,
        ⟨(some 16), (.callv (.t 11) [(.t 15)]), none, []⟩] [])
      (.cond (.t 16)
        (.seq (.region [⟨(some 17), (.mov (.t 5)), none, []⟩,
          ⟨(some 4), (.mov (.t 17)), none, []⟩] [])
        .ret)
        .skip))))
    (.region [⟨(some 18), (.bin .add (.t 8) (.c (.i .i64 (1)))), none, []⟩,
      ⟨(some 8), (.mov (.t 18)), none, []⟩] []))))
def I202 : IFunc :=
  ⟨(.seq (.region [⟨(some 4), (.mov (.c (.i .i64 (0)))), none, []⟩] [])
    (.seq (.seq (.region [⟨(some 6), (.mov (.t 0)), none, []⟩,
      ⟨(some 7), (.lenk 0 (.t 6)), none, []⟩,
      ⟨(some 8), (.mov (.c (.i .i64 (0)))), none, []⟩] [])
    (.block 0
      (.loop L202a)))
    (.seq (.region [⟨(some 4), (.mov (.c (.i .i64 (-1)))), none, []⟩] [])
    .ret))),
    19, 2, [.t 4], 0⟩
theorem tr202 : trFunc Tryz.prog [([], []), ([], []), ([], []), ([], []), ([], []), ([], []), ([], []), ([], []), ([], []), ([], [])] 0 Tryz.f202 = some I202 := by kernel_rfl

/-- 'encore/prune.makes'. -/
def I203 : IFunc :=
  ⟨(.seq (.region [⟨(some 1), (.box (.t 0)), none, []⟩,
      ⟨(some 2), (.mov (.c (.i .i64 (0)))), none, []⟩] [])
    (.seq (.seq (.region [⟨(some 3), (.off (.t 1) 0), none, []⟩,
      ⟨(some 4), (.load none (.t 3)), none, []⟩] [])
    (.block 0
      (.seq (.seq (.region [⟨(some 6), (.bin .eql (.t 4) (.c (.i .i64 (6)))), none, []⟩,
        ⟨(some 5), (.mov (.t 6)), none, []⟩] [])
      (.cond (.t 5)
        .skip
        (.seq (.region [⟨(some 7), (.bin .eql (.t 4) (.c (.i .i64 (8)))), none, []⟩,
          ⟨(some 5), (.mov (.t 7)), none, []⟩] [])
        (.cond (.t 5)
          .skip
          (.seq (.region [⟨(some 8), (.bin .eql (.t 4) (.c (.i .i64 (10)))), none, []⟩,
            ⟨(some 5), (.mov (.t 8)), none, []⟩] [])
          (.cond (.t 5)
            .skip
            (.seq (.region [⟨(some 9), (.bin .eql (.t 4) (.c (.i .i64 (11)))), none, []⟩,
              ⟨(some 5), (.mov (.t 9)), none, []⟩] [])
            (.cond (.t 5)
              .skip
              (.seq (.region [⟨(some 10), (.bin .eql (.t 4) (.c (.i .i64 (12)))), none, []⟩,
                ⟨(some 5), (.mov (.t 10)), none, []⟩] [])
              (.cond (.t 5)
                .skip
                (.seq (.region [⟨(some 11), (.bin .eql (.t 4) (.c (.i .i64 (13)))), none, []⟩,
                  ⟨(some 5), (.mov (.t 11)), none, []⟩] [])
                (.cond (.t 5)
                  .skip
                  (.seq (.region [⟨(some 12), (.bin .eql (.t 4) (.c (.i .i64 (41)))), none, []⟩,
                    ⟨(some 5), (.mov (.t 12)), none, []⟩] [])
                  (.cond (.t 5)
                    .skip
                    (.seq (.region [⟨(some 13), (.bin .eql (.t 4) (.c (.i .i64 (43)))), none, []⟩,
                      ⟨(some 5), (.mov (.t 13)), none, []⟩] [])
                    (.cond (.t 5)
                      .skip
                      (.seq (.region [⟨(some 14), (.bin .eql (.t 4) (.c (.i .i64 (44)))), none, []⟩,
                        ⟨(some 5), (.mov (.t 14)), none, []⟩] [])
                      (.cond (.t 5)
                        .skip
                        (.seq (.region [⟨(some 15), (.bin .eql (.t 4) (.c (.i .i64 (45)))), none, []⟩,
                          ⟨(some 5), (.mov (.t 15)), none, []⟩] [])
                        (.cond (.t 5)
                          .skip
                          (.region [⟨(some 16), (.bin .eql (.t 4) (.c (.i .i64 (48)))), none, []⟩,
                            ⟨(some 5), (.mov (.t 16)), none, []⟩] [])))))))))))))))))))))
      (.cond (.t 5)
        (.seq (.region [⟨(some 2), (.mov (.c (.i .i64 (1)))), none, []⟩] [])
        .ret)
        (.seq (.seq (.region [⟨(some 18), (.bin .eql (.t 4) (.c (.i .i64 (7)))), none, []⟩,
          ⟨(some 17), (.mov (.t 18)), none, []⟩] [])
        (.cond (.t 17)
          .skip
          (.seq (.region [⟨(some 19), (.bin .eql (.t 4) (.c (.i .i64 (14)))), none, []⟩,
            ⟨(some 17), (.mov (.t 19)), none, []⟩] [])
          (.cond (.t 17)
            .skip
            (.seq (.region [⟨(some 20), (.bin .eql (.t 4) (.c (.i .i64 (15)))), none, []⟩,
              ⟨(some 17), (.mov (.t 20)), none, []⟩] [])
            (.cond (.t 17)
              .skip
              (.seq (.region [⟨(some 21), (.bin .eql (.t 4) (.c (.i .i64 (16)))), none, []⟩,
                ⟨(some 17), (.mov (.t 21)), none, []⟩] [])
              (.cond (.t 17)
                .skip
                (.seq (.region [⟨(some 22), (.bin .eql (.t 4) (.c (.i .i64 (17)))), none, []⟩,
                  ⟨(some 17), (.mov (.t 22)), none, []⟩] [])
                (.cond (.t 17)
                  .skip
                  (.seq (.region [⟨(some 23), (.bin .eql (.t 4) (.c (.i .i64 (42)))), none, []⟩,
                    ⟨(some 17), (.mov (.t 23)), none, []⟩] [])
                  (.cond (.t 17)
                    .skip
                    (.seq (.region [⟨(some 24), (.bin .eql (.t 4) (.c (.i .i64 (46)))), none, []⟩,
                      ⟨(some 17), (.mov (.t 24)), none, []⟩] [])
                    (.cond (.t 17)
                      .skip
                      (.seq (.region [⟨(some 25), (.bin .eql (.t 4) (.c (.i .i64 (47)))), none, []⟩,
                        ⟨(some 17), (.mov (.t 25)), none, []⟩] [])
                      (.cond (.t 17)
                        .skip
                        (.region [⟨(some 26), (.bin .eql (.t 4) (.c (.i .i64 (49)))), none, []⟩,
                          ⟨(some 17), (.mov (.t 26)), none, []⟩] [])))))))))))))))))
        (.cond (.t 17)
          (.seq (.region [⟨(some 2), (.mov (.c (.i .i64 (2)))), none, []⟩] [])
          .ret)
          (.seq (.seq (.region [⟨(some 28), (.bin .eql (.t 4) (.c (.i .i64 (20)))), none, []⟩,
            ⟨(some 27), (.mov (.t 28)), none, []⟩] [])
          (.cond (.t 27)
            .skip
            (.region [⟨(some 29), (.bin .eql (.t 4) (.c (.i .i64 (18)))), none, []⟩,
              ⟨(some 27), (.mov (.t 29)), none, []⟩] [])))
          (.cond (.t 27)
            (.seq (.region [⟨(some 2), (.mov (.c (.i .i64 (4)))), none, []⟩] [])
            .ret)
            (.seq (.region [⟨(some 31), (.bin .eql (.t 4) (.c (.i .i64 (21)))), none, []⟩,
              ⟨(some 30), (.mov (.t 31)), none, []⟩] [])
            (.cond (.t 30)
              (.seq (.region [⟨(some 2), (.mov (.c (.i .i64 (5)))), none, []⟩] [])
              .ret)
              (.seq (.region [⟨(some 33), (.bin .eql (.t 4) (.c (.i .i64 (40)))), none, []⟩,
                ⟨(some 32), (.mov (.t 33)), none, []⟩] [])
              (.cond (.t 32)
                (.seq (.region [⟨(some 34), (.off (.t 1) 1), none, []⟩,
                  ⟨(some 35), (.load none (.t 34)), none, []⟩,
                  ⟨(some 2), (.mov (.t 35)), none, []⟩] [])
                .ret)
                .skip))))))))))))
    (.seq (.region [⟨(some 2), (.mov (.c (.i .i64 (-1)))), none, []⟩] [])
    .ret))),
    36, 1, [.t 2], 0⟩
theorem tr203 : trFunc Tryz.prog [([], []), ([], []), ([], []), ([], []), ([], []), ([], []), ([], []), ([], []), ([], []), ([], []), ([], []), ([], []), ([], []), ([], []), ([], []), ([], []), ([], []), ([], []), ([], []), ([], []), ([], []), ([], []), ([], []), ([], []), ([], []), ([], []), ([], []), ([], []), ([], []), ([], []), ([], []), ([], []), ([], []), ([], []), ([], []), ([], []), ([], []), ([], []), ([], []), ([], []), ([], []), ([], []), ([], []), ([], []), ([], []), ([], []), ([], []), ([], []), ([], []), ([], []), ([], []), ([], [])] 0 Tryz.f203 = some I203 := by kernel_rfl

/-- 'encore/value.read'. -/
def L204a : ICode :=
  (.seq (.seq (.region [⟨(some 49), (.mov (.t 9)), none, []⟩,
      ⟨(some 50), (.mov (.t 0)), none, []⟩,
      ⟨(some 51), (.lenk 1 (.t 50)), none, []⟩,
      ⟨(some 52), (.bin .lss (.t 49) (.t 51)), none, []⟩,
      ⟨(some 53), (.mov (.t 52)), none, []⟩,
      ⟨(some 54), (.mov (.t 0)), (some (53, true)), []⟩,
      ⟨(some 55), (.mov (.t 9)), (some (53, true)), []⟩,
      ⟨(some 56), (.idxS (.t 54) (.t 55)), (some (53, true)), []⟩,
      ⟨(some 57), (.bin .geq (.t 56) (.c (.i .u8 (97)))), (some (53, true)), []⟩,
      ⟨(some 58), (.pick (.t 53) (.t 57) (.c (.b false))), none, []⟩,
      ⟨(some 59), (.mov (.t 58)), none, []⟩,
      ⟨(some 60), (.mov (.t 0)), (some (59, true)), []⟩,
      ⟨(some 61), (.mov (.t 9)), (some (59, true)), []⟩,
      ⟨(some 62), (.idxS (.t 60) (.t 61)), (some (59, true)), []⟩,
      ⟨(some 63), (.bin .leq (.t 62) (.c (.i .u8 (122)))), (some (59, true)), []⟩,
      ⟨(some 64), (.pick (.t 59) (.t 63) (.c (.b false))), none, []⟩] [])
    (.cond (.t 64)
      .skip
      (.exit 1)))
    (.block 2
      (.region [⟨(some 65), (.mov (.t 9)), none, []⟩,
        ⟨(some 66), (.bin .add (.t 65) (.c (.i .i64 (1)))), none, []⟩,
        ⟨(some 9), (.mov (.t 66)), none, []⟩] [])))
def I204 : IFunc :=
  ⟨(.seq (.region [⟨(some 2), (.alloc [(.i .i64 (0)), .ns, .ns]), none, []⟩,
      ⟨(some 3), (.mov (.c (.s []))), none, []⟩,
      ⟨(some 4), (.mov (.c (.b false))), none, []⟩] [])
    (.seq (.block 0
      (.seq (.region [⟨(some 12), (.mov (.t 0)), none, []⟩,
        ⟨(some 13), (.call 211 [(.t 12), (.c (.s [91]))]), none, []⟩,
        ⟨(some 11), (.mov (.t 13)), none, []⟩] [])
      (.cond (.t 11)
        (.seq (.region [⟨(some 15), (.mov (.t 0)), none, []⟩,
          ⟨(some 16), (.slS (.t 15) (some (.c (.i .i64 (1)))) none), none, []⟩,
          ⟨(some 17), (.call 204 [(.t 16)]), none, []⟩,
          ⟨(some 14), (.mov (.t 17)), none, []⟩,
          ⟨(some 18), (.ext (.t 14) 0), none, []⟩,
          ⟨(some 19), (.ext (.t 14) 1), none, []⟩,
          ⟨(some 20), (.ext (.t 14) 2), none, []⟩,
          ⟨(some 5), (.alloc [(.i .i64 (0)), .ns, .ns]), none, []⟩,
          ⟨none, (.store 3 (.t 5) (.t 18)), none, []⟩,
          ⟨(some 6), (.mov (.t 19)), none, []⟩,
          ⟨(some 7), (.mov (.t 20)), none, []⟩] [])
        (.seq (.region [⟨(some 22), (.mov (.t 6)), none, []⟩,
          ⟨(some 23), (.call 212 [(.t 22), (.c (.s [93]))]), none, []⟩,
          ⟨(some 21), (.mov (.t 23)), none, []⟩,
          ⟨(some 24), (.ext (.t 21) 0), none, []⟩,
          ⟨(some 25), (.ext (.t 21) 1), none, []⟩,
          ⟨(some 6), (.mov (.t 24)), none, []⟩,
          ⟨(some 8), (.mov (.t 25)), none, []⟩] [])
        (.seq (.region [⟨(some 26), (.load (some 3) (.t 5)), none, []⟩,
          ⟨(some 27), (.bsl 3 1 [(.i .i64 (0)), .ns, .ns] [(0, 3, (.t 26))]), none, []⟩,
          ⟨(some 28), (.build [(.i .i64 (0)), .ns, .ns] [(0, 1, (.c (.i .i64 (4)))), (2, 1, (.t 27))]), none, []⟩,
          ⟨(some 29), (.mov (.t 6)), none, []⟩,
          ⟨(some 30), (.mov (.t 7)), none, []⟩,
          ⟨(some 31), (.mov (.t 30)), none, []⟩,
          ⟨(some 32), (.mov (.t 8)), (some (31, true)), []⟩,
          ⟨(some 33), (.pick (.t 31) (.t 32) (.c (.b false))), none, []⟩,
          ⟨none, (.store 3 (.t 2) (.t 28)), none, []⟩,
          ⟨(some 3), (.mov (.t 29)), none, []⟩,
          ⟨(some 4), (.mov (.t 33)), none, []⟩] [])
        .ret)))
        (.seq (.region [⟨(some 35), (.mov (.t 0)), none, []⟩,
          ⟨(some 36), (.call 211 [(.t 35), (.c (.s [123, 125]))]), none, []⟩,
          ⟨(some 34), (.mov (.t 36)), none, []⟩] [])
        (.cond (.t 34)
          (.seq (.region [⟨(some 37), (.build [(.i .i64 (0)), .ns, .ns] [(0, 1, (.c (.i .i64 (5))))]), none, []⟩,
            ⟨(some 38), (.mov (.t 0)), none, []⟩,
            ⟨(some 39), (.slS (.t 38) (some (.c (.i .i64 (2)))) none), none, []⟩,
            ⟨none, (.store 3 (.t 2) (.t 37)), none, []⟩,
            ⟨(some 3), (.mov (.t 39)), none, []⟩,
            ⟨(some 4), (.mov (.c (.b true))), none, []⟩] [])
          .ret)
          (.seq (.region [⟨(some 41), (.mov (.t 0)), none, []⟩,
            ⟨(some 42), (.call 211 [(.t 41), (.c (.s [123]))]), none, []⟩,
            ⟨(some 40), (.mov (.t 42)), none, []⟩] [])
          (.cond (.t 40)
            (.seq (.region [⟨(some 43), (.mov (.t 0)), none, []⟩,
              ⟨(some 44), (.slS (.t 43) (some (.c (.i .i64 (1)))) none), none, []⟩,
              ⟨(some 45), (.call 213 [(.t 44)]), none, []⟩,
              ⟨(some 46), (.ext (.t 45) 0), none, []⟩,
              ⟨(some 47), (.ext (.t 45) 1), none, []⟩,
              ⟨(some 48), (.ext (.t 45) 2), none, []⟩,
              ⟨none, (.store 3 (.t 2) (.t 46)), none, []⟩,
              ⟨(some 3), (.mov (.t 47)), none, []⟩,
              ⟨(some 4), (.mov (.t 48)), none, []⟩] [])
            .ret)
            .skip)))))))
    (.seq (.region [⟨(some 9), (.mov (.c (.i .i64 (0)))), none, []⟩] [])
    (.seq (.block 1
      (.loop L204a))
    (.seq (.region [⟨(some 67), (.mov (.t 0)), none, []⟩,
      ⟨(some 68), (.mov (.t 9)), none, []⟩,
      ⟨(some 69), (.slS (.t 67) none (some (.t 68))), none, []⟩,
      ⟨(some 70), (.call 214 [(.t 69)]), none, []⟩,
      ⟨(some 10), (.mov (.t 70)), none, []⟩] [])
    (.seq (.region [⟨(some 71), (.mov (.t 10)), none, []⟩,
      ⟨(some 72), (.build [(.i .i64 (0)), .ns, .ns] [(0, 1, (.t 71))]), none, []⟩,
      ⟨(some 73), (.mov (.t 0)), none, []⟩,
      ⟨(some 74), (.mov (.t 9)), none, []⟩,
      ⟨(some 75), (.slS (.t 73) (some (.t 74)) none), none, []⟩,
      ⟨(some 76), (.mov (.t 10)), none, []⟩,
      ⟨(some 77), (.bin .geq (.t 76) (.c (.i .i64 (0)))), none, []⟩,
      ⟨none, (.store 3 (.t 2) (.t 72)), none, []⟩,
      ⟨(some 3), (.mov (.t 75)), none, []⟩,
      ⟨(some 4), (.mov (.t 77)), none, []⟩] [])
    .ret)))))),
    78, 1, [.c 2 (some 3), .t 3, .t 4], 0⟩
theorem tr204 : trFunc Tryz.prog [([], []), ([], []), ([], []), ([], []), ([], []), ([], []), ([0, 1, 2, 3, 4, 5], []), ([], []), ([], []), ([], []), ([], []), ([], []), ([], []), ([], []), ([], []), ([0, 1, 2, 3, 4, 5, 6, 7, 8, 9], [])] 0 Tryz.f204 = some I204 := by kernel_rfl

/-- 'cmp.Less[string]'. -/
def I205 : IFunc :=
  ⟨(.seq (.region [⟨(some 4), (.mov (.c (.b false))), none, []⟩] [])
    (.seq (.region [⟨(some 5), (.mov (.t 0)), none, []⟩,
      ⟨(some 6), (.call 215 [(.t 5)]), none, []⟩,
      ⟨(some 7), (.mov (.t 6)), none, []⟩,
      ⟨(some 8), (.mov (.t 1)), (some (7, true)), []⟩,
      ⟨(some 9), (.call 215 [(.t 8)]), (some (7, true)), []⟩,
      ⟨(some 10), (.un .not (.t 9)), (some (7, true)), []⟩,
      ⟨(some 11), (.pick (.t 7) (.t 10) (.c (.b false))), none, []⟩,
      ⟨(some 12), (.mov (.t 11)), none, []⟩,
      ⟨(some 13), (.mov (.t 0)), (some (12, false)), []⟩,
      ⟨(some 14), (.mov (.t 1)), (some (12, false)), []⟩,
      ⟨(some 15), (.bin .lss (.t 13) (.t 14)), (some (12, false)), []⟩,
      ⟨(some 16), (.pick (.t 12) (.c (.b true)) (.t 15)), none, []⟩,
      ⟨(some 4), (.mov (.t 16)), none, []⟩] [])
    .ret)),
    17, 2, [.t 4], 0⟩
theorem tr205 : trFunc Tryz.prog [([], []), ([], [])] 0 Tryz.f205 = some I205 := by kernel_rfl

/-- 'slices.isNaN[string]'. -/
def I206 : IFunc :=
  ⟨(.seq (.region [⟨(some 2), (.mov (.c (.b false))), none, []⟩] [])
    (.seq (.region [⟨(some 3), (.mov (.t 0)), none, []⟩,
      ⟨(some 4), (.mov (.t 0)), none, []⟩,
      ⟨(some 5), (.bin .neq (.t 3) (.t 4)), none, []⟩,
      ⟨(some 2), (.mov (.t 5)), none, []⟩] [])
    .ret)),
    6, 1, [.t 2], 0⟩
theorem tr206 : trFunc Tryz.prog [([], []), ([], [])] 0 Tryz.f206 = some I206 := by kernel_rfl

/-- 'encore/code.record'. -/
def L207a : ICode :=
  (.seq (.region [⟨(some 15), (.bin .lss (.t 14) (.t 13)), none, []⟩] [])
    (.seq (.cond (.t 15)
      .skip
      (.exit 0))
    (.seq (.block 1
      (.seq (.region [⟨(some 16), (.iaddr 5 (.t 12) (.t 14)), none, []⟩,
        ⟨(some 17), (.load (some 5) (.t 16)), none, []⟩,
        ⟨(some 5), (.alloc [(.i .i64 (0)), (.i .i64 (0)), (.s []), .ns, .ns]), none, []⟩,
        ⟨none, (.store 5 (.t 5) (.t 17)), none, []⟩] [])
      (.seq (.seq (.region [⟨(some 18), (.off (.t 5) 0), none, []⟩,
        ⟨(some 19), (.load none (.t 18)), none, []⟩,
        ⟨(some 20), (.bin .neq (.t 19) (.c (.i .i64 (3)))), none, []⟩] [])
      (.cond (.t 20)
        (.seq (.region [⟨(some 2), (.mov (.c (.b false))), none, []⟩] [])
        .ret)
        .skip))
      (.region [⟨(some 21), (.off (.t 3) 4), none, []⟩,
        ⟨(some 22), (.load none (.t 21)), none, []⟩,
        ⟨(some 23), (.off (.t 5) 2), none, []⟩,
        ⟨(some 24), (.load none (.t 23)), none, []⟩,
        ⟨(some 25), (.bsl 1 1 [(.s [])] [(0, 1, (.t 24))]), none, []⟩,
        ⟨(some 26), (.app 1 16 (.t 22) (.t 25)), none, []⟩,
        ⟨(some 27), (.off (.t 3) 4), none, []⟩,
        ⟨none, (.store 1 (.t 27) (.t 26)), none, []⟩] []))))
    (.region [⟨(some 28), (.bin .add (.t 14) (.c (.i .i64 (1)))), none, []⟩,
      ⟨(some 14), (.mov (.t 28)), none, []⟩] []))))
def I207 : IFunc :=
  ⟨(.seq (.region [⟨(some 1), (.box (.t 0)), none, []⟩,
      ⟨(some 2), (.mov (.c (.b false))), none, []⟩] [])
    (.seq (.region [⟨(some 6), (.off (.t 1) 3), none, []⟩,
      ⟨(some 7), (.load none (.t 6)), none, []⟩,
      ⟨(some 8), (.lenk 0 (.t 7)), none, []⟩,
      ⟨(some 9), (.mksl 5 80 [(.i .i64 (0)), (.i .i64 (0)), (.s []), .ns, .ns] (.t 8) (.t 8)), none, []⟩,
      ⟨(some 10), (.build [(.i .i64 (0)), (.i .i64 (0)), (.s []), .ns, .ns] [(0, 1, (.c (.i .i64 (5)))), (3, 1, (.t 9))]), none, []⟩,
      ⟨(some 3), (.alloc [(.i .i64 (0)), (.i .i64 (0)), (.s []), .ns, .ns]), none, []⟩,
      ⟨none, (.store 5 (.t 3) (.t 10)), none, []⟩] [])
    (.seq (.seq (.region [⟨(some 11), (.off (.t 1) 3), none, []⟩,
      ⟨(some 12), (.load none (.t 11)), none, []⟩,
      ⟨(some 13), (.lenk 0 (.t 12)), none, []⟩,
      ⟨(some 14), (.mov (.c (.i .i64 (0)))), none, []⟩] [])
    (.block 0
      (.loop L207a)))
    (.seq (.region [⟨(some 29), (.off (.t 1) 0), none, []⟩,
      ⟨(some 30), (.load none (.t 29)), none, []⟩,
      ⟨(some 31), (.bin .eql (.t 30) (.c (.i .i64 (4)))), none, []⟩,
      ⟨(some 32), (.mov (.t 31)), none, []⟩,
      ⟨(some 33), (.off (.t 1) 3), (some (32, true)), []⟩,
      ⟨(some 34), (.load none (.t 33)), (some (32, true)), []⟩,
      ⟨(some 35), (.lenk 0 (.t 34)), (some (32, true)), []⟩,
      ⟨(some 36), (.bin .leq (.t 35) (.c (.i .i64 (8)))), (some (32, true)), []⟩,
      ⟨(some 37), (.pick (.t 32) (.t 36) (.c (.b false))), none, []⟩,
      ⟨(some 38), (.mov (.t 37)), none, []⟩,
      ⟨(some 39), (.load (some 5) (.t 3)), (some (38, true)), []⟩,
      ⟨(some 40), (.call 24 [(.t 39)]), (some (38, true)), []⟩,
      ⟨(some 41), (.bin .eql (.t 40) (.c (.i .i64 (0)))), (some (38, true)), []⟩,
      ⟨(some 42), (.pick (.t 38) (.t 41) (.c (.b false))), none, []⟩,
      ⟨(some 2), (.mov (.t 42)), none, []⟩] [])
    .ret)))),
    43, 1, [.t 2], 0⟩
theorem tr207 : trFunc Tryz.prog [([], []), ([], []), ([], []), ([], []), ([], []), ([], []), ([], []), ([], []), ([], []), ([], []), ([], []), ([], [])] 0 Tryz.f207 = some I207 := by kernel_rfl

/-- 'encore/code.named'. -/
def I208 : IFunc :=
  ⟨(.seq (.region [⟨(some 4), (.mov (.c (.b false))), none, []⟩] [])
    (.seq (.region [⟨(some 8), (.mov (.t 0)), none, []⟩,
      ⟨(some 9), (.mov (.t 1)), none, []⟩,
      ⟨(some 10), (.call 209 [(.t 8), (.t 9)]), none, []⟩,
      ⟨(some 7), (.mov (.t 10)), none, []⟩,
      ⟨(some 11), (.ext (.t 7) 0), none, []⟩,
      ⟨(some 12), (.ext (.t 7) 1), none, []⟩,
      ⟨(some 5), (.mov (.t 11)), none, []⟩,
      ⟨(some 6), (.mov (.t 12)), none, []⟩] [])
    (.seq (.region [⟨(some 13), (.mov (.t 6)), none, []⟩,
      ⟨(some 14), (.mov (.t 13)), none, []⟩,
      ⟨(some 15), (.mov (.t 5)), (some (14, true)), []⟩,
      ⟨(some 16), (.call 168 [(.t 15)]), (some (14, true)), []⟩,
      ⟨(some 17), (.pick (.t 14) (.t 16) (.c (.b false))), none, []⟩,
      ⟨(some 4), (.mov (.t 17)), none, []⟩] [])
    .ret))),
    18, 2, [.t 4], 0⟩
theorem tr208 : trFunc Tryz.prog [([], []), ([], []), ([], [])] 0 Tryz.f208 = some I208 := by kernel_rfl

/-- 'encore/code.text'. -/
def I209 : IFunc :=
  ⟨(.seq (.region [⟨(some 4), (.mov (.c (.s []))), none, []⟩,
      ⟨(some 5), (.mov (.c (.b false))), none, []⟩] [])
    (.seq (.seq (.region [⟨(some 7), (.mov (.t 1)), none, []⟩,
      ⟨(some 8), (.bin .lss (.t 7) (.c (.i .i64 (0)))), none, []⟩,
      ⟨(some 9), (.mov (.t 8)), none, []⟩,
      ⟨(some 10), (.mov (.t 1)), (some (9, false)), []⟩,
      ⟨(some 11), (.mov (.t 0)), (some (9, false)), []⟩,
      ⟨(some 12), (.nck (.t 11)), (some (9, false)), []⟩,
      ⟨(some 13), (.off (.t 12) 1), (some (9, false)), []⟩,
      ⟨(some 14), (.load none (.t 13)), (some (9, false)), []⟩,
      ⟨(some 15), (.lenk 0 (.t 14)), (some (9, false)), []⟩,
      ⟨(some 16), (.bin .geq (.t 10) (.t 15)), (some (9, false)), []⟩,
      ⟨(some 17), (.pick (.t 9) (.c (.b true)) (.t 16)), none, []⟩] [])
    (.cond (.t 17)
      (.seq (.region [⟨(some 4), (.mov (.c (.s []))), none, []⟩,
        ⟨(some 5), (.mov (.c (.b false))), none, []⟩] [])
      .ret)
      .skip))
    (.seq (.region [⟨(some 18), (.mov (.t 0)), none, []⟩,
      ⟨(some 19), (.nck (.t 18)), none, []⟩,
      ⟨(some 20), (.off (.t 19) 1), none, []⟩,
      ⟨(some 21), (.load none (.t 20)), none, []⟩,
      ⟨(some 22), (.mov (.t 1)), none, []⟩,
      ⟨(some 23), (.iaddr 5 (.t 21) (.t 22)), none, []⟩,
      ⟨(some 24), (.load (some 5) (.t 23)), none, []⟩,
      ⟨(some 6), (.alloc [(.i .i64 (0)), (.i .i64 (0)), (.s []), .ns, .ns]), none, []⟩,
      ⟨none, (.store 5 (.t 6) (.t 24)), none, []⟩] [])
    (.seq (.region [⟨(some 25), (.off (.t 6) 2), none, []⟩,
      ⟨(some 26), (.load none (.t 25)), none, []⟩,
      ⟨(some 27), (.off (.t 6) 0), none, []⟩,
      ⟨(some 28), (.load none (.t 27)), none, []⟩,
      ⟨(some 29), (.bin .eql (.t 28) (.c (.i .i64 (3)))), none, []⟩,
      ⟨(some 4), (.mov (.t 26)), none, []⟩,
      ⟨(some 5), (.mov (.t 29)), none, []⟩] [])
    .ret)))),
    30, 2, [.t 4, .t 5], 0⟩
theorem tr209 : trFunc Tryz.prog [([], []), ([], []), ([], []), ([], []), ([], []), ([0, 1, 2, 3, 4, 5, 6], [])] 0 Tryz.f209 = some I209 := by kernel_rfl

/-- 'encore/code.Find'. -/
def I210 : IFunc :=
  ⟨(.seq (.region [⟨(some 2), (.box (.t 0)), none, []⟩,
      ⟨(some 3), (.box (.t 1)), none, []⟩,
      ⟨(some 4), (.mov (.c (.i .i64 (0)))), none, []⟩,
      ⟨(some 5), (.mov (.c (.b false))), none, []⟩] [])
    (.seq (.region [⟨(some 7), (.off (.t 2) 0), none, []⟩,
      ⟨(some 8), (.load none (.t 7)), none, []⟩,
      ⟨(some 9), (.mkf 216 [] [(.t 3)]), none, []⟩,
      ⟨(some 10), (.call 167 [(.t 8), (.t 9)]), none, []⟩,
      ⟨(some 6), (.mov (.t 10)), none, []⟩] [])
    (.seq (.region [⟨(some 11), (.mov (.t 6)), none, []⟩,
      ⟨(some 12), (.mm true (.t 11) [(.c (.i .i64 (0)))]), none, []⟩,
      ⟨(some 13), (.mov (.t 6)), none, []⟩,
      ⟨(some 14), (.bin .geq (.t 13) (.c (.i .i64 (0)))), none, []⟩,
      ⟨(some 4), (.mov (.t 12)), none, []⟩,
      ⟨(some 5), (.mov (.t 14)), none, []⟩] [])
    .ret))),
    15, 2, [.t 4, .t 5], 0⟩
theorem tr210 : trFunc Tryz.prog [([], []), ([], []), ([], [])] 0 Tryz.f210 = some I210 := by kernel_rfl

/-- 'strings.HasPrefix'. -/
def I211 : IFunc :=
  ⟨(.seq (.region [⟨(some 4), (.mov (.c (.b false))), none, []⟩] [])
    (.seq (.region [⟨(some 5), (.mov (.t 0)), none, []⟩,
      ⟨(some 6), (.mov (.t 1)), none, []⟩,
      ⟨(some 7), (.call 217 [(.t 5), (.t 6)]), none, []⟩,
      ⟨(some 4), (.mov (.t 7)), none, []⟩] [])
    .ret)),
    8, 2, [.t 4], 0⟩
theorem tr211 : trFunc Tryz.prog [([], []), ([], [])] 0 Tryz.f211 = some I211 := by kernel_rfl

/-- 'strings.CutPrefix'. -/
def I212 : IFunc :=
  ⟨(.seq (.region [⟨(some 4), (.mov (.c (.s []))), none, []⟩,
      ⟨(some 5), (.mov (.c (.b false))), none, []⟩] [])
    (.seq (.region [⟨(some 6), (.mov (.t 0)), none, []⟩,
      ⟨(some 7), (.mov (.t 1)), none, []⟩,
      ⟨(some 8), (.call 218 [(.t 6), (.t 7)]), none, []⟩,
      ⟨(some 9), (.ext (.t 8) 0), none, []⟩,
      ⟨(some 10), (.ext (.t 8) 1), none, []⟩,
      ⟨(some 4), (.mov (.t 9)), none, []⟩,
      ⟨(some 5), (.mov (.t 10)), none, []⟩] [])
    .ret)),
    11, 2, [.t 4, .t 5], 0⟩
theorem tr212 : trFunc Tryz.prog [([], []), ([], [])] 0 Tryz.f212 = some I212 := by kernel_rfl

/-- 'encore/value.readRec'. -/
def L213a : ICode :=
  (.block 1
      (.seq (.region [⟨(some 13), (.mov (.t 0)), none, []⟩,
        ⟨(some 14), (.call 219 [(.t 13), (.c (.s [58]))]), none, []⟩,
        ⟨(some 12), (.mov (.t 14)), none, []⟩,
        ⟨(some 15), (.ext (.t 12) 0), none, []⟩,
        ⟨(some 16), (.ext (.t 12) 1), none, []⟩,
        ⟨(some 17), (.ext (.t 12) 2), none, []⟩,
        ⟨(some 5), (.mov (.t 15)), none, []⟩,
        ⟨(some 6), (.mov (.t 16)), none, []⟩,
        ⟨(some 7), (.mov (.t 17)), none, []⟩] [])
      (.seq (.region [⟨(some 19), (.mov (.t 6)), none, []⟩,
        ⟨(some 20), (.call 204 [(.t 19)]), none, []⟩,
        ⟨(some 18), (.mov (.t 20)), none, []⟩,
        ⟨(some 21), (.ext (.t 18) 0), none, []⟩,
        ⟨(some 22), (.ext (.t 18) 1), none, []⟩,
        ⟨(some 23), (.ext (.t 18) 2), none, []⟩,
        ⟨(some 8), (.alloc [(.i .i64 (0)), .ns, .ns]), none, []⟩,
        ⟨none, (.store 3 (.t 8) (.t 21)), none, []⟩,
        ⟨(some 9), (.mov (.t 22)), none, []⟩,
        ⟨(some 10), (.mov (.t 23)), none, []⟩] [])
      (.seq (.seq (.region [⟨(some 24), (.mov (.t 7)), none, []⟩,
        ⟨(some 25), (.un .not (.t 24)), none, []⟩,
        ⟨(some 26), (.mov (.t 25)), none, []⟩,
        ⟨(some 27), (.mov (.t 10)), (some (26, false)), []⟩,
        ⟨(some 28), (.un .not (.t 27)), (some (26, false)), []⟩,
        ⟨(some 29), (.pick (.t 26) (.c (.b true)) (.t 28)), none, []⟩,
        ⟨(some 30), (.mov (.t 29)), none, []⟩,
        ⟨(some 31), (.mov (.t 9)), (some (30, false)), []⟩,
        ⟨(some 32), (.bin .eql (.t 31) (.c (.s []))), (some (30, false)), []⟩,
        ⟨(some 33), (.pick (.t 30) (.c (.b true)) (.t 32)), none, []⟩] [])
      (.cond (.t 33)
        (.seq (.region [⟨(some 34), (.build [(.i .i64 (0)), .ns, .ns] []), none, []⟩,
          ⟨none, (.store 3 (.t 2) (.t 34)), none, []⟩,
          ⟨(some 3), (.mov (.c (.s []))), none, []⟩,
          ⟨(some 4), (.mov (.c (.b false))), none, []⟩] [])
        .ret)
        .skip))
      (.seq (.region [⟨(some 35), (.off (.t 2) 1), none, []⟩,
        ⟨(some 36), (.load none (.t 35)), none, []⟩,
        ⟨(some 37), (.mov (.t 5)), none, []⟩,
        ⟨(some 38), (.bsl 1 1 [(.s [])] [(0, 1, (.t 37))]), none, []⟩,
        ⟨(some 40), (.off (.t 2) 2), none, []⟩,
        ⟨(some 41), (.load none (.t 40)), none, []⟩,
        ⟨(some 42), (.load (some 3) (.t 8)), none, []⟩,
        ⟨(some 43), (.bsl 3 1 [(.i .i64 (0)), .ns, .ns] [(0, 3, (.t 42))]), none, []⟩,
        ⟨(some 39), (.app 1 16 (.t 36) (.t 38)), none, [(41, (.load none (.t 40)), none), (42, (.load (some 3) (.t 8)), none)]⟩,
        ⟨(some 45), (.off (.t 2) 1), none, []⟩,
        ⟨(some 44), (.app 3 56 (.t 41) (.t 43)), none, []⟩,
        ⟨none, (.store 1 (.t 45) (.t 39)), none, []⟩,
        ⟨(some 46), (.off (.t 2) 2), none, []⟩,
        ⟨none, (.store 1 (.t 46) (.t 44)), none, []⟩] [])
      (.seq (.region [⟨(some 47), (.mov (.t 9)), none, []⟩,
        ⟨(some 48), (.slS (.t 47) (some (.c (.i .i64 (1)))) none), none, []⟩,
        ⟨(some 0), (.mov (.t 48)), none, []⟩] [])
      (.seq (.seq (.region [⟨(some 49), (.mov (.t 9)), none, []⟩,
        ⟨(some 50), (.idxS (.t 49) (.c (.i .i64 (0)))), none, []⟩] [])
      (.block 2
        (.seq (.region [⟨(some 52), (.bin .eql (.t 50) (.c (.i .u8 (125)))), none, []⟩,
          ⟨(some 51), (.mov (.t 52)), none, []⟩] [])
        (.cond (.t 51)
          (.seq (.region [⟨(some 53), (.load (some 3) (.t 2)), none, []⟩,
            ⟨(some 54), (.mov (.t 0)), none, []⟩,
            ⟨(some 55), (.off (.t 2) 1), none, []⟩,
            ⟨(some 56), (.load none (.t 55)), none, []⟩,
            ⟨(some 57), (.call 166 [(.t 56)]), none, [(53, (.load (some 3) (.t 2)), none)]⟩,
            ⟨none, (.store 3 (.t 2) (.t 53)), none, []⟩,
            ⟨(some 3), (.mov (.t 54)), none, []⟩,
            ⟨(some 4), (.mov (.t 57)), none, []⟩] [])
          .ret)
          (.seq (.region [⟨(some 59), (.bin .eql (.t 50) (.c (.i .u8 (44)))), none, []⟩,
            ⟨(some 58), (.mov (.t 59)), none, []⟩] [])
          (.cond (.t 58)
            (.exit 1)
            .skip))))))
      (.seq (.region [⟨(some 60), (.build [(.i .i64 (0)), .ns, .ns] []), none, []⟩,
        ⟨none, (.store 3 (.t 2) (.t 60)), none, []⟩,
        ⟨(some 3), (.mov (.c (.s []))), none, []⟩,
        ⟨(some 4), (.mov (.c (.b false))), none, []⟩] [])
      .ret))))))))
def I213 : IFunc :=
  ⟨(.seq (.region [⟨(some 2), (.alloc [(.i .i64 (0)), .ns, .ns]), none, []⟩,
      ⟨(some 3), (.mov (.c (.s []))), none, []⟩,
      ⟨(some 4), (.mov (.c (.b false))), none, []⟩] [])
    (.seq (.region [⟨(some 11), (.off (.t 2) 0), none, []⟩,
      ⟨none, (.store 1 (.t 11) (.c (.i .i64 (5)))), none, []⟩] [])
    (.block 0
      (.loop L213a)))),
    61, 1, [.c 2 (some 3), .t 3, .t 4], 0⟩
theorem tr213 : trFunc Tryz.prog [([], []), ([], []), ([], []), ([], []), ([], []), ([], []), ([], []), ([0, 1, 2, 3, 5, 6, 7, 8, 4, 10, 9, 11, 12, 13], []), ([], []), ([], []), ([], []), ([0, 1, 2, 3, 4, 5, 6, 7], []), ([], []), ([], []), ([], [])] 0 Tryz.f213 = some I213 := by kernel_rfl

/-- 'encore/value.kindOf'. -/
def I214 : IFunc :=
  ⟨(.seq (.region [⟨(some 2), (.mov (.c (.i .i64 (0)))), none, []⟩] [])
    (.seq (.seq (.region [⟨(some 3), (.mov (.t 0)), none, []⟩] [])
    (.block 0
      (.seq (.region [⟨(some 5), (.bin .eql (.t 3) (.c (.s [110, 111, 110, 101]))), none, []⟩,
        ⟨(some 4), (.mov (.t 5)), none, []⟩] [])
      (.cond (.t 4)
        (.seq (.region [⟨(some 2), (.mov (.c (.i .i64 (0)))), none, []⟩] [])
        .ret)
        (.seq (.region [⟨(some 7), (.bin .eql (.t 3) (.c (.s [105, 110, 116]))), none, []⟩,
          ⟨(some 6), (.mov (.t 7)), none, []⟩] [])
        (.cond (.t 6)
          (.seq (.region [⟨(some 2), (.mov (.c (.i .i64 (1)))), none, []⟩] [])
          .ret)
          (.seq (.region [⟨(some 9), (.bin .eql (.t 3) (.c (.s [98, 111, 111, 108]))), none, []⟩,
            ⟨(some 8), (.mov (.t 9)), none, []⟩] [])
          (.cond (.t 8)
            (.seq (.region [⟨(some 2), (.mov (.c (.i .i64 (2)))), none, []⟩] [])
            .ret)
            (.seq (.region [⟨(some 11), (.bin .eql (.t 3) (.c (.s [116, 101, 120, 116]))), none, []⟩,
              ⟨(some 10), (.mov (.t 11)), none, []⟩] [])
            (.cond (.t 10)
              (.seq (.region [⟨(some 2), (.mov (.c (.i .i64 (3)))), none, []⟩] [])
              .ret)
              (.seq (.region [⟨(some 13), (.bin .eql (.t 3) (.c (.s [102, 117, 116, 117, 114, 101]))), none, []⟩,
                ⟨(some 12), (.mov (.t 13)), none, []⟩] [])
              (.cond (.t 12)
                (.seq (.region [⟨(some 2), (.mov (.c (.i .i64 (6)))), none, []⟩] [])
                .ret)
                .skip))))))))))))
    (.seq (.region [⟨(some 2), (.mov (.c (.i .i64 (-1)))), none, []⟩] [])
    .ret))),
    14, 1, [.t 2], 0⟩
theorem tr214 : trFunc Tryz.prog [([], []), ([], []), ([], []), ([], []), ([], []), ([], []), ([], []), ([], []), ([], []), ([], []), ([], []), ([], []), ([], []), ([], [])] 0 Tryz.f214 = some I214 := by kernel_rfl

/-- 'cmp.isNaN[string]'. -/
def I215 : IFunc :=
  ⟨(.seq (.region [⟨(some 2), (.mov (.c (.b false))), none, []⟩] [])
    (.seq (.region [⟨(some 3), (.mov (.t 0)), none, []⟩,
      ⟨(some 4), (.mov (.t 0)), none, []⟩,
      ⟨(some 5), (.bin .neq (.t 3) (.t 4)), none, []⟩,
      ⟨(some 2), (.mov (.t 5)), none, []⟩] [])
    .ret)),
    6, 1, [.t 2], 0⟩
theorem tr215 : trFunc Tryz.prog [([], []), ([], [])] 0 Tryz.f215 = some I215 := by kernel_rfl

/-- 'encore/code.Find$1'. -/
def I216 : IFunc :=
  ⟨(.seq (.region [⟨(some 2), (.box (.t 0)), none, []⟩,
      ⟨(some 3), (.mov (.c (.b false))), none, []⟩] [])
    (.seq (.region [⟨(some 4), (.off (.t 2) 0), none, []⟩,
      ⟨(some 5), (.load none (.t 4)), none, []⟩,
      ⟨(some 6), (.load none (.t 1)), none, []⟩,
      ⟨(some 7), (.bin .eql (.t 5) (.t 6)), none, []⟩,
      ⟨(some 3), (.mov (.t 7)), none, []⟩] [])
    .ret)),
    8, 2, [.t 3], 0⟩
theorem tr216 : trFunc Tryz.prog [([], []), ([], [])] 0 Tryz.f216 = some I216 := by kernel_rfl

/-- 'internal/stringslite.HasPrefix'. -/
def I217 : IFunc :=
  ⟨(.seq (.region [⟨(some 4), (.mov (.c (.b false))), none, []⟩] [])
    (.seq (.region [⟨(some 5), (.mov (.t 0)), none, []⟩,
      ⟨(some 6), (.lenk 1 (.t 5)), none, []⟩,
      ⟨(some 7), (.mov (.t 1)), none, []⟩,
      ⟨(some 8), (.lenk 1 (.t 7)), none, []⟩,
      ⟨(some 9), (.bin .geq (.t 6) (.t 8)), none, []⟩,
      ⟨(some 10), (.mov (.t 9)), none, []⟩,
      ⟨(some 11), (.mov (.t 0)), (some (10, true)), []⟩,
      ⟨(some 12), (.mov (.t 1)), (some (10, true)), []⟩,
      ⟨(some 13), (.lenk 1 (.t 12)), (some (10, true)), []⟩,
      ⟨(some 14), (.slS (.t 11) none (some (.t 13))), (some (10, true)), []⟩,
      ⟨(some 15), (.mov (.t 1)), (some (10, true)), []⟩,
      ⟨(some 16), (.bin .eql (.t 14) (.t 15)), (some (10, true)), []⟩,
      ⟨(some 17), (.pick (.t 10) (.t 16) (.c (.b false))), none, []⟩,
      ⟨(some 4), (.mov (.t 17)), none, []⟩] [])
    .ret)),
    18, 2, [.t 4], 0⟩
theorem tr217 : trFunc Tryz.prog [([], []), ([], [])] 0 Tryz.f217 = some I217 := by kernel_rfl

/-- 'internal/stringslite.CutPrefix'. -/
def I218 : IFunc :=
  ⟨(.seq (.region [⟨(some 4), (.mov (.c (.s []))), none, []⟩,
      ⟨(some 5), (.mov (.c (.b false))), none, []⟩] [])
    (.seq (.seq (.region [⟨(some 6), (.mov (.t 0)), none, []⟩,
      ⟨(some 7), (.mov (.t 1)), none, []⟩,
      ⟨(some 8), (.call 217 [(.t 6), (.t 7)]), none, []⟩,
      ⟨(some 9), (.un .not (.t 8)), none, []⟩] [])
    (.cond (.t 9)
      (.seq (.region [⟨(some 10), (.mov (.t 0)), none, []⟩,
        ⟨(some 4), (.mov (.t 10)), none, []⟩,
        ⟨(some 5), (.mov (.c (.b false))), none, []⟩] [])
      .ret)
      .skip))
    (.seq (.region [⟨(some 11), (.mov (.t 0)), none, []⟩,
      ⟨(some 12), (.mov (.t 1)), none, []⟩,
      ⟨(some 13), (.lenk 1 (.t 12)), none, []⟩,
      ⟨(some 14), (.slS (.t 11) (some (.t 13)) none), none, []⟩,
      ⟨(some 4), (.mov (.t 14)), none, []⟩,
      ⟨(some 5), (.mov (.c (.b true))), none, []⟩] [])
    .ret))),
    15, 2, [.t 4, .t 5], 0⟩
theorem tr218 : trFunc Tryz.prog [([], []), ([], []), ([], []), ([], []), ([], [])] 0 Tryz.f218 = some I218 := by kernel_rfl

/-- 'strings.Cut'. -/
def I219 : IFunc :=
  ⟨(.seq (.region [⟨(some 4), (.mov (.c (.s []))), none, []⟩,
      ⟨(some 5), (.mov (.c (.s []))), none, []⟩,
      ⟨(some 6), (.mov (.c (.b false))), none, []⟩] [])
    (.seq (.region [⟨(some 7), (.mov (.t 0)), none, []⟩,
      ⟨(some 8), (.mov (.t 1)), none, []⟩,
      ⟨(some 9), (.call 220 [(.t 7), (.t 8)]), none, []⟩,
      ⟨(some 10), (.ext (.t 9) 0), none, []⟩,
      ⟨(some 11), (.ext (.t 9) 1), none, []⟩,
      ⟨(some 12), (.ext (.t 9) 2), none, []⟩,
      ⟨(some 4), (.mov (.t 10)), none, []⟩,
      ⟨(some 5), (.mov (.t 11)), none, []⟩,
      ⟨(some 6), (.mov (.t 12)), none, []⟩] [])
    .ret)),
    13, 2, [.t 4, .t 5, .t 6], 0⟩
theorem tr219 : trFunc Tryz.prog [([], []), ([], [])] 0 Tryz.f219 = some I219 := by kernel_rfl

/-- 'internal/stringslite.Cut'. -/
def I220 : IFunc :=
  ⟨(.seq (.region [⟨(some 4), (.mov (.c (.s []))), none, []⟩,
      ⟨(some 5), (.mov (.c (.s []))), none, []⟩,
      ⟨(some 6), (.mov (.c (.b false))), none, []⟩] [])
    (.seq (.seq (.region [⟨(some 8), (.mov (.t 0)), none, []⟩,
      ⟨(some 9), (.mov (.t 1)), none, []⟩,
      ⟨(some 10), (.call 221 [(.t 8), (.t 9)]), none, []⟩,
      ⟨(some 7), (.mov (.t 10)), none, []⟩] [])
    (.seq (.region [⟨(some 11), (.mov (.t 7)), none, []⟩,
      ⟨(some 12), (.bin .geq (.t 11) (.c (.i .i64 (0)))), none, []⟩] [])
    (.cond (.t 12)
      (.seq (.region [⟨(some 13), (.mov (.t 0)), none, []⟩,
        ⟨(some 14), (.mov (.t 7)), none, []⟩,
        ⟨(some 15), (.slS (.t 13) none (some (.t 14))), none, []⟩,
        ⟨(some 16), (.mov (.t 0)), none, []⟩,
        ⟨(some 17), (.mov (.t 7)), none, []⟩,
        ⟨(some 18), (.mov (.t 1)), none, []⟩,
        ⟨(some 19), (.lenk 1 (.t 18)), none, []⟩,
        ⟨(some 20), (.bin .add (.t 17) (.t 19)), none, []⟩,
        ⟨(some 21), (.slS (.t 16) (some (.t 20)) none), none, []⟩,
        ⟨(some 4), (.mov (.t 15)), none, []⟩,
        ⟨(some 5), (.mov (.t 21)), none, []⟩,
        ⟨(some 6), (.mov (.c (.b true))), none, []⟩] [])
      .ret)
      .skip)))
    (.seq (.region [⟨(some 22), (.mov (.t 0)), none, []⟩,
      ⟨(some 4), (.mov (.t 22)), none, []⟩,
      ⟨(some 5), (.mov (.c (.s []))), none, []⟩,
      ⟨(some 6), (.mov (.c (.b false))), none, []⟩] [])
    .ret))),
    23, 2, [.t 4, .t 5, .t 6], 0⟩
theorem tr220 : trFunc Tryz.prog [([], []), ([], []), ([], []), ([0, 1, 2, 3, 4, 5, 6, 7, 8, 9, 10, 11], []), ([], []), ([], [])] 0 Tryz.f220 = some I220 := by kernel_rfl

/-- 'internal/stringslite.Index'. -/
def L221a : ICode :=
  (.seq (.seq (.region [⟨(some 57), (.mov (.t 8)), none, []⟩,
      ⟨(some 58), (.mov (.t 9)), none, []⟩,
      ⟨(some 59), (.bin .lss (.t 57) (.t 58)), none, []⟩] [])
    (.cond (.t 59)
      .skip
      (.exit 1)))
    (.block 2
      (.seq (.seq (.region [⟨(some 60), (.mov (.t 0)), none, []⟩,
        ⟨(some 61), (.mov (.t 8)), none, []⟩,
        ⟨(some 62), (.idxS (.t 60) (.t 61)), none, []⟩,
        ⟨(some 63), (.mov (.t 6)), none, []⟩,
        ⟨(some 64), (.bin .neq (.t 62) (.t 63)), none, []⟩] [])
      (.cond (.t 64)
        (.seq (.region [⟨(some 65), (.mov (.t 0)), none, []⟩,
          ⟨(some 66), (.mov (.t 8)), none, []⟩,
          ⟨(some 67), (.bin .add (.t 66) (.c (.i .i64 (1)))), none, []⟩,
          ⟨(some 68), (.mov (.t 9)), none, []⟩,
          ⟨(some 69), (.slS (.t 65) (some (.t 67)) (some (.t 68))), none, []⟩,
          ⟨(some 70), (.mov (.t 6)), none, []⟩,
          ⟨(some 71), (.call 222 [(.t 69), (.t 70)]), none, []⟩,
          ⟨(some 11), (.mov (.t 71)), none, []⟩] [])
        (.seq (.seq (.region [⟨(some 72), (.mov (.t 11)), none, []⟩,
          ⟨(some 73), (.bin .lss (.t 72) (.c (.i .i64 (0)))), none, []⟩] [])
        (.cond (.t 73)
          (.seq (.region [⟨(some 4), (.mov (.c (.i .i64 (-1)))), none, []⟩] [])
          .ret)
          .skip))
        (.region [⟨(some 74), (.mov (.t 8)), none, []⟩,
          ⟨(some 75), (.mov (.t 11)), none, []⟩,
          ⟨(some 76), (.bin .add (.t 75) (.c (.i .i64 (1)))), none, []⟩,
          ⟨(some 77), (.bin .add (.t 74) (.t 76)), none, []⟩,
          ⟨(some 8), (.mov (.t 77)), none, []⟩] [])))
        .skip))
      (.seq (.seq (.region [⟨(some 78), (.mov (.t 0)), none, []⟩,
        ⟨(some 79), (.mov (.t 8)), none, []⟩,
        ⟨(some 80), (.bin .add (.t 79) (.c (.i .i64 (1)))), none, []⟩,
        ⟨(some 81), (.idxS (.t 78) (.t 80)), none, []⟩,
        ⟨(some 82), (.mov (.t 7)), none, []⟩,
        ⟨(some 83), (.bin .eql (.t 81) (.t 82)), none, []⟩,
        ⟨(some 84), (.mov (.t 83)), none, []⟩,
        ⟨(some 85), (.mov (.t 0)), (some (84, true)), []⟩,
        ⟨(some 86), (.mov (.t 8)), (some (84, true)), []⟩,
        ⟨(some 87), (.mov (.t 8)), (some (84, true)), []⟩,
        ⟨(some 88), (.mov (.t 5)), (some (84, true)), []⟩,
        ⟨(some 89), (.bin .add (.t 87) (.t 88)), (some (84, true)), []⟩,
        ⟨(some 90), (.slS (.t 85) (some (.t 86)) (some (.t 89))), (some (84, true)), []⟩,
        ⟨(some 91), (.mov (.t 1)), (some (84, true)), []⟩,
        ⟨(some 92), (.bin .eql (.t 90) (.t 91)), (some (84, true)), []⟩,
        ⟨(some 93), (.pick (.t 84) (.t 92) (.c (.b false))), none, []⟩] [])
      (.cond (.t 93)
        (.seq (.region [⟨(some 94), (.mov (.t 8)), none, []⟩,
          ⟨(some 4), (.mov (.t 94)), none, []⟩] [])
        .ret)
        .skip))
      (.seq (.region [⟨(some 95), (.mov (.t 8)), none, []⟩,
        ⟨(some 96), (.bin .add (.t 95) (.c (.i .i64 (1)))), none, []⟩,
        ⟨(some 8), (.mov (.t 96)), none, []⟩] [])
      (.seq (.region [⟨(some 97), (.mov (.t 10)), none, []⟩,
        ⟨(some 98), (.bin .add (.t 97) (.c (.i .i64 (1)))), none, []⟩,
        ⟨(some 10), (.mov (.t 98)), none, []⟩] [])
      (.seq (.region [⟨(some 99), (.mov (.t 5)), none, []⟩,
        ⟨(some 100), (.load none (.g 1)), none, []⟩,
        ⟨(some 101), (.bin .leq (.t 99) (.t 100)), none, []⟩,
        ⟨(some 102), (.mov (.t 101)), none, []⟩,
        ⟨(some 103), (.mov (.t 10)), (some (102, true)), []⟩,
        ⟨(some 104), (.mov (.t 8)), (some (102, true)), []⟩,
        ⟨(some 105), (.call 224 [(.t 104)]), (some (102, true)), []⟩,
        ⟨(some 106), (.bin .gtr (.t 103) (.t 105)), (some (102, true)), []⟩,
        ⟨(some 107), (.pick (.t 102) (.t 106) (.c (.b false))), none, []⟩] [])
      (.cond (.t 107)
        (.seq (.region [⟨(some 108), (.mov (.t 0)), none, []⟩,
          ⟨(some 109), (.mov (.t 8)), none, []⟩,
          ⟨(some 110), (.slS (.t 108) (some (.t 109)) none), none, []⟩,
          ⟨(some 111), (.mov (.t 1)), none, []⟩,
          ⟨(some 112), (.call 223 [(.t 110), (.t 111)]), none, []⟩,
          ⟨(some 12), (.mov (.t 112)), none, []⟩] [])
        (.seq (.seq (.region [⟨(some 113), (.mov (.t 12)), none, []⟩,
          ⟨(some 114), (.bin .geq (.t 113) (.c (.i .i64 (0)))), none, []⟩] [])
        (.cond (.t 114)
          (.seq (.region [⟨(some 115), (.mov (.t 12)), none, []⟩,
            ⟨(some 116), (.mov (.t 8)), none, []⟩,
            ⟨(some 117), (.bin .add (.t 115) (.t 116)), none, []⟩,
            ⟨(some 4), (.mov (.t 117)), none, []⟩] [])
          .ret)
          .skip))
        (.seq (.region [⟨(some 4), (.mov (.c (.i .i64 (-1)))), none, []⟩] [])
        .ret)))
        (.seq (.region [⟨(some 118), (.mov (.t 5)), none, []⟩,
          ⟨(some 119), (.load none (.g 1)), none, []⟩,
          ⟨(some 120), (.bin .gtr (.t 118) (.t 119)), none, []⟩,
          ⟨(some 121), (.mov (.t 120)), none, []⟩,
          ⟨(some 122), (.mov (.t 10)), (some (121, true)), []⟩,
          ⟨(some 123), (.mov (.t 8)), (some (121, true)), []⟩,
          ⟨(some 124), (.bin .shr (.t 123) (.c (.i .u64 (4)))), (some (121, true)), []⟩,
          ⟨(some 125), (.bin .add (.c (.i .i64 (4))) (.t 124)), (some (121, true)), []⟩,
          ⟨(some 126), (.bin .geq (.t 122) (.t 125)), (some (121, true)), []⟩,
          ⟨(some 127), (.pick (.t 121) (.t 126) (.c (.b false))), none, []⟩,
          ⟨(some 128), (.mov (.t 127)), none, []⟩,
          ⟨(some 129), (.mov (.t 8)), (some (128, true)), []⟩,
          ⟨(some 130), (.mov (.t 9)), (some (128, true)), []⟩,
          ⟨(some 131), (.bin .lss (.t 129) (.t 130)), (some (128, true)), []⟩,
          ⟨(some 132), (.pick (.t 128) (.t 131) (.c (.b false))), none, []⟩] [])
        (.cond (.t 132)
          (.seq (.region [⟨(some 133), (.mov (.t 0)), none, []⟩,
            ⟨(some 134), (.mov (.t 8)), none, []⟩,
            ⟨(some 135), (.slS (.t 133) (some (.t 134)) none), none, []⟩,
            ⟨(some 136), (.mov (.t 1)), none, []⟩,
            ⟨(some 137), (.call 225 [(.t 135), (.t 136)]), none, []⟩,
            ⟨(some 13), (.mov (.t 137)), none, []⟩] [])
          (.seq (.seq (.region [⟨(some 138), (.mov (.t 13)), none, []⟩,
            ⟨(some 139), (.bin .lss (.t 138) (.c (.i .i64 (0)))), none, []⟩] [])
          (.cond (.t 139)
            (.seq (.region [⟨(some 4), (.mov (.c (.i .i64 (-1)))), none, []⟩] [])
            .ret)
            .skip))
          (.seq (.region [⟨(some 140), (.mov (.t 8)), none, []⟩,
            ⟨(some 141), (.mov (.t 13)), none, []⟩,
            ⟨(some 142), (.bin .add (.t 140) (.t 141)), none, []⟩,
            ⟨(some 4), (.mov (.t 142)), none, []⟩] [])
          .ret)))
          .skip))))))))))
def I221 : IFunc :=
  ⟨(.seq (.region [⟨(some 4), (.mov (.c (.i .i64 (0)))), none, []⟩] [])
    (.seq (.region [⟨(some 14), (.mov (.t 1)), none, []⟩,
      ⟨(some 15), (.lenk 1 (.t 14)), none, []⟩,
      ⟨(some 5), (.mov (.t 15)), none, []⟩] [])
    (.seq (.block 0
      (.seq (.region [⟨(some 17), (.mov (.t 5)), none, []⟩,
        ⟨(some 18), (.bin .eql (.t 17) (.c (.i .i64 (0)))), none, []⟩,
        ⟨(some 19), (.mov (.t 18)), none, []⟩,
        ⟨(some 20), (.mov (.t 1)), (some (19, false)), []⟩,
        ⟨(some 21), (.mov (.t 0)), (some (19, false)), []⟩,
        ⟨(some 22), (.bin .eql (.t 20) (.t 21)), (some (19, false)), []⟩,
        ⟨(some 23), (.pick (.t 19) (.c (.b true)) (.t 22)), none, []⟩,
        ⟨(some 16), (.mov (.t 23)), none, []⟩] [])
      (.cond (.t 16)
        (.seq (.region [⟨(some 4), (.mov (.c (.i .i64 (0)))), none, []⟩] [])
        .ret)
        (.seq (.region [⟨(some 25), (.mov (.t 5)), none, []⟩,
          ⟨(some 26), (.bin .eql (.t 25) (.c (.i .i64 (1)))), none, []⟩,
          ⟨(some 24), (.mov (.t 26)), none, []⟩] [])
        (.cond (.t 24)
          (.seq (.region [⟨(some 27), (.mov (.t 0)), none, []⟩,
            ⟨(some 28), (.mov (.t 1)), none, []⟩,
            ⟨(some 29), (.idxS (.t 28) (.c (.i .i64 (0)))), none, []⟩,
            ⟨(some 30), (.call 222 [(.t 27), (.t 29)]), none, []⟩,
            ⟨(some 4), (.mov (.t 30)), none, []⟩] [])
          .ret)
          (.seq (.region [⟨(some 32), (.mov (.t 5)), none, []⟩,
            ⟨(some 33), (.mov (.t 0)), none, []⟩,
            ⟨(some 34), (.lenk 1 (.t 33)), none, []⟩,
            ⟨(some 35), (.bin .geq (.t 32) (.t 34)), none, []⟩,
            ⟨(some 31), (.mov (.t 35)), none, []⟩] [])
          (.cond (.t 31)
            (.seq (.region [⟨(some 4), (.mov (.c (.i .i64 (-1)))), none, []⟩] [])
            .ret)
            (.seq (.region [⟨(some 37), (.mov (.t 5)), none, []⟩,
              ⟨(some 38), (.load none (.g 1)), none, []⟩,
              ⟨(some 39), (.bin .leq (.t 37) (.t 38)), none, []⟩,
              ⟨(some 40), (.mov (.t 39)), none, []⟩,
              ⟨(some 41), (.mov (.t 0)), (some (40, true)), []⟩,
              ⟨(some 42), (.lenk 1 (.t 41)), (some (40, true)), []⟩,
              ⟨(some 43), (.bin .leq (.t 42) (.c (.i .i64 (64)))), (some (40, true)), []⟩,
              ⟨(some 44), (.pick (.t 40) (.t 43) (.c (.b false))), none, []⟩,
              ⟨(some 36), (.mov (.t 44)), none, []⟩] [])
            (.cond (.t 36)
              (.seq (.region [⟨(some 45), (.mov (.t 0)), none, []⟩,
                ⟨(some 46), (.mov (.t 1)), none, []⟩,
                ⟨(some 47), (.call 223 [(.t 45), (.t 46)]), none, []⟩,
                ⟨(some 4), (.mov (.t 47)), none, []⟩] [])
              .ret)
              .skip)))))))))
    (.seq (.region [⟨(some 48), (.mov (.t 1)), none, []⟩,
      ⟨(some 49), (.idxS (.t 48) (.c (.i .i64 (0)))), none, []⟩,
      ⟨(some 6), (.mov (.t 49)), none, []⟩] [])
    (.seq (.region [⟨(some 50), (.mov (.t 1)), none, []⟩,
      ⟨(some 51), (.idxS (.t 50) (.c (.i .i64 (1)))), none, []⟩,
      ⟨(some 7), (.mov (.t 51)), none, []⟩] [])
    (.seq (.region [⟨(some 8), (.mov (.c (.i .i64 (0)))), none, []⟩] [])
    (.seq (.region [⟨(some 52), (.mov (.t 0)), none, []⟩,
      ⟨(some 53), (.lenk 1 (.t 52)), none, []⟩,
      ⟨(some 54), (.mov (.t 5)), none, []⟩,
      ⟨(some 55), (.bin .sub (.t 53) (.t 54)), none, []⟩,
      ⟨(some 56), (.bin .add (.t 55) (.c (.i .i64 (1)))), none, []⟩,
      ⟨(some 9), (.mov (.t 56)), none, []⟩] [])
    (.seq (.region [⟨(some 10), (.mov (.c (.i .i64 (0)))), none, []⟩] [])
    (.seq (.block 1
      (.loop L221a))
    (.seq (.region [⟨(some 4), (.mov (.c (.i .i64 (-1)))), none, []⟩] [])
    .ret)))))))))),
    143, 2, [.t 4], 0⟩
theorem tr221 : trFunc Tryz.prog [([], []), ([], []), ([], []), ([], []), ([], []), ([], []), ([], []), ([], []), ([], []), ([], []), ([], []), ([], []), ([], []), ([], []), ([], []), ([], []), ([], []), ([], []), ([], []), ([], []), ([], []), ([], []), ([], []), ([], []), ([], []), ([], []), ([], []), ([], []), ([], []), ([], []), ([], []), ([], []), ([], []), ([], []), ([], []), ([], []), ([], []), ([], []), ([], []), ([], []), ([], []), ([], []), ([], []), ([], [])] 0 Tryz.f221 = some I221 := by kernel_rfl

/-- 'internal/stringslite.IndexByte'. -/
def I222 : IFunc :=
  ⟨(.seq (.region [⟨(some 4), (.mov (.c (.i .i64 (0)))), none, []⟩] [])
    (.seq (.region [⟨(some 5), (.mov (.t 0)), none, []⟩,
      ⟨(some 6), (.mov (.t 1)), none, []⟩,
      ⟨(some 7), (.call 226 [(.t 5), (.t 6)]), none, []⟩,
      ⟨(some 4), (.mov (.t 7)), none, []⟩] [])
    .ret)),
    8, 2, [.t 4], 0⟩
theorem tr222 : trFunc Tryz.prog [([], []), ([], [])] 0 Tryz.f222 = some I222 := by kernel_rfl

/-- 'internal/bytealg.Cutover'. -/
def I224 : IFunc :=
  ⟨(.seq (.region [⟨(some 2), (.mov (.c (.i .i64 (0)))), none, []⟩] [])
    (.seq (.region [⟨(some 3), (.mov (.t 0)), none, []⟩,
      ⟨(some 4), (.bin .add (.t 3) (.c (.i .i64 (16)))), none, []⟩,
      ⟨(some 5), (.bin .quo (.t 4) (.c (.i .i64 (8)))), none, []⟩,
      ⟨(some 2), (.mov (.t 5)), none, []⟩] [])
    .ret)),
    6, 1, [.t 2], 0⟩
theorem tr224 : trFunc Tryz.prog [([], []), ([], [])] 0 Tryz.f224 = some I224 := by kernel_rfl

/-- 'internal/bytealg.IndexRabinKarp[string]'. -/
def L225a : ICode :=
  (.seq (.seq (.region [⟨(some 18), (.mov (.t 9)), none, []⟩,
      ⟨(some 19), (.mov (.t 7)), none, []⟩,
      ⟨(some 20), (.bin .lss (.t 18) (.t 19)), none, []⟩] [])
    (.cond (.t 20)
      .skip
      (.exit 0)))
    (.seq (.block 1
      (.region [⟨(some 23), (.mov (.t 8)), none, []⟩,
        ⟨(some 24), (.bin .mul (.t 23) (.c (.i .u32 (16777619)))), none, []⟩,
        ⟨(some 25), (.mov (.t 0)), none, []⟩,
        ⟨(some 26), (.mov (.t 9)), none, []⟩,
        ⟨(some 27), (.idxS (.t 25) (.t 26)), none, []⟩,
        ⟨(some 28), (.conv .u32 (.t 27)), none, []⟩,
        ⟨(some 29), (.bin .add (.t 24) (.t 28)), none, []⟩,
        ⟨(some 8), (.mov (.t 29)), none, []⟩] []))
    (.region [⟨(some 21), (.mov (.t 9)), none, []⟩,
      ⟨(some 22), (.bin .add (.t 21) (.c (.i .i64 (1)))), none, []⟩,
      ⟨(some 9), (.mov (.t 22)), none, []⟩] [])))
def L225b : ICode :=
  (.seq (.seq (.region [⟨(some 41), (.mov (.t 10)), none, []⟩,
      ⟨(some 42), (.mov (.t 0)), none, []⟩,
      ⟨(some 43), (.lenk 1 (.t 42)), none, []⟩,
      ⟨(some 44), (.bin .lss (.t 41) (.t 43)), none, []⟩] [])
    (.cond (.t 44)
      .skip
      (.exit 2)))
    (.block 3
      (.seq (.region [⟨(some 45), (.mov (.t 8)), none, []⟩,
        ⟨(some 46), (.bin .mul (.t 45) (.c (.i .u32 (16777619)))), none, []⟩,
        ⟨(some 8), (.mov (.t 46)), none, []⟩] [])
      (.seq (.region [⟨(some 47), (.mov (.t 8)), none, []⟩,
        ⟨(some 48), (.mov (.t 0)), none, []⟩,
        ⟨(some 49), (.mov (.t 10)), none, []⟩,
        ⟨(some 50), (.idxS (.t 48) (.t 49)), none, []⟩,
        ⟨(some 51), (.conv .u32 (.t 50)), none, []⟩,
        ⟨(some 52), (.bin .add (.t 47) (.t 51)), none, []⟩,
        ⟨(some 8), (.mov (.t 52)), none, []⟩] [])
      (.seq (.region [⟨(some 53), (.mov (.t 8)), none, []⟩,
        ⟨(some 54), (.mov (.t 6)), none, []⟩,
        ⟨(some 55), (.mov (.t 0)), none, []⟩,
        ⟨(some 56), (.mov (.t 10)), none, []⟩,
        ⟨(some 57), (.mov (.t 7)), none, []⟩,
        ⟨(some 58), (.bin .sub (.t 56) (.t 57)), none, []⟩,
        ⟨(some 59), (.idxS (.t 55) (.t 58)), none, []⟩,
        ⟨(some 60), (.conv .u32 (.t 59)), none, []⟩,
        ⟨(some 61), (.bin .mul (.t 54) (.t 60)), none, []⟩,
        ⟨(some 62), (.bin .sub (.t 53) (.t 61)), none, []⟩,
        ⟨(some 8), (.mov (.t 62)), none, []⟩] [])
      (.seq (.region [⟨(some 63), (.mov (.t 10)), none, []⟩,
        ⟨(some 64), (.bin .add (.t 63) (.c (.i .i64 (1)))), none, []⟩,
        ⟨(some 10), (.mov (.t 64)), none, []⟩] [])
      (.seq (.region [⟨(some 65), (.mov (.t 8)), none, []⟩,
        ⟨(some 66), (.mov (.t 5)), none, []⟩,
        ⟨(some 67), (.bin .eql (.t 65) (.t 66)), none, []⟩,
        ⟨(some 68), (.mov (.t 67)), none, []⟩,
        ⟨(some 69), (.mov (.t 0)), (some (68, true)), []⟩,
        ⟨(some 70), (.mov (.t 10)), (some (68, true)), []⟩,
        ⟨(some 71), (.mov (.t 7)), (some (68, true)), []⟩,
        ⟨(some 72), (.bin .sub (.t 70) (.t 71)), (some (68, true)), []⟩,
        ⟨(some 73), (.mov (.t 10)), (some (68, true)), []⟩,
        ⟨(some 74), (.slS (.t 69) (some (.t 72)) (some (.t 73))), (some (68, true)), []⟩,
        ⟨(some 75), (.mov (.t 1)), (some (68, true)), []⟩,
        ⟨(some 76), (.bin .eql (.t 74) (.t 75)), (some (68, true)), []⟩,
        ⟨(some 77), (.pick (.t 68) (.t 76) (.c (.b false))), none, []⟩] [])
      (.cond (.t 77)
        (.seq (.region [⟨(some 78), (.mov (.t 10)), none, []⟩,
          ⟨(some 79), (.mov (.t 7)), none, []⟩,
          ⟨(some 80), (.bin .sub (.t 78) (.t 79)), none, []⟩,
          ⟨(some 4), (.mov (.t 80)), none, []⟩] [])
        .ret)
        .skip))))))))
def I225 : IFunc :=
  ⟨(.seq (.region [⟨(some 4), (.mov (.c (.i .i64 (0)))), none, []⟩] [])
    (.seq (.region [⟨(some 12), (.mov (.t 1)), none, []⟩,
      ⟨(some 13), (.call 227 [(.t 12)]), none, []⟩,
      ⟨(some 11), (.mov (.t 13)), none, []⟩,
      ⟨(some 14), (.ext (.t 11) 0), none, []⟩,
      ⟨(some 15), (.ext (.t 11) 1), none, []⟩,
      ⟨(some 5), (.mov (.t 14)), none, []⟩,
      ⟨(some 6), (.mov (.t 15)), none, []⟩] [])
    (.seq (.region [⟨(some 16), (.mov (.t 1)), none, []⟩,
      ⟨(some 17), (.lenk 1 (.t 16)), none, []⟩,
      ⟨(some 7), (.mov (.t 17)), none, []⟩] [])
    (.seq (.region [⟨(some 8), (.mov (.c (.i .u32 (0)))), none, []⟩] [])
    (.seq (.seq (.region [⟨(some 9), (.mov (.c (.i .i64 (0)))), none, []⟩] [])
    (.block 0
      (.loop L225a)))
    (.seq (.seq (.region [⟨(some 30), (.mov (.t 8)), none, []⟩,
      ⟨(some 31), (.mov (.t 5)), none, []⟩,
      ⟨(some 32), (.bin .eql (.t 30) (.t 31)), none, []⟩,
      ⟨(some 33), (.mov (.t 32)), none, []⟩,
      ⟨(some 34), (.mov (.t 0)), (some (33, true)), []⟩,
      ⟨(some 35), (.mov (.t 7)), (some (33, true)), []⟩,
      ⟨(some 36), (.slS (.t 34) none (some (.t 35))), (some (33, true)), []⟩,
      ⟨(some 37), (.mov (.t 1)), (some (33, true)), []⟩,
      ⟨(some 38), (.bin .eql (.t 36) (.t 37)), (some (33, true)), []⟩,
      ⟨(some 39), (.pick (.t 33) (.t 38) (.c (.b false))), none, []⟩] [])
    (.cond (.t 39)
      (.seq (.region [⟨(some 4), (.mov (.c (.i .i64 (0)))), none, []⟩] [])
      .ret)
      .skip))
    (.seq (.seq (.region [⟨(some 40), (.mov (.t 7)), none, []⟩,
      ⟨(some 10), (.mov (.t 40)), none, []⟩] [])
    (.block 2
      (.loop L225b)))
    (.seq (.region [⟨(some 4), (.mov (.c (.i .i64 (-1)))), none, []⟩] [])
    .ret)))))))),
    81, 2, [.t 4], 0⟩
theorem tr225 : trFunc Tryz.prog [([], []), ([], []), ([], []), ([], []), ([], []), ([], []), ([], []), ([], []), ([], []), ([], []), ([], []), ([], []), ([], []), ([], []), ([], []), ([], []), ([], []), ([], []), ([], []), ([], []), ([], []), ([], []), ([], [])] 0 Tryz.f225 = some I225 := by kernel_rfl

-- 226 internal/bytealg.IndexByteString LACKING
/-- 'internal/bytealg.hashStr[string]'. -/
def L227a : ICode :=
  (.seq (.seq (.region [⟨(some 9), (.mov (.t 5)), none, []⟩,
      ⟨(some 10), (.mov (.t 0)), none, []⟩,
      ⟨(some 11), (.lenk 1 (.t 10)), none, []⟩,
      ⟨(some 12), (.bin .lss (.t 9) (.t 11)), none, []⟩] [])
    (.cond (.t 12)
      .skip
      (.exit 0)))
    (.seq (.block 1
      (.region [⟨(some 15), (.mov (.t 4)), none, []⟩,
        ⟨(some 16), (.bin .mul (.t 15) (.c (.i .u32 (16777619)))), none, []⟩,
        ⟨(some 17), (.mov (.t 0)), none, []⟩,
        ⟨(some 18), (.mov (.t 5)), none, []⟩,
        ⟨(some 19), (.idxS (.t 17) (.t 18)), none, []⟩,
        ⟨(some 20), (.conv .u32 (.t 19)), none, []⟩,
        ⟨(some 21), (.bin .add (.t 16) (.t 20)), none, []⟩,
        ⟨(some 4), (.mov (.t 21)), none, []⟩] []))
    (.region [⟨(some 13), (.mov (.t 5)), none, []⟩,
      ⟨(some 14), (.bin .add (.t 13) (.c (.i .i64 (1)))), none, []⟩,
      ⟨(some 5), (.mov (.t 14)), none, []⟩] [])))
def L227b : ICode :=
  (.seq (.seq (.region [⟨(some 24), (.mov (.t 8)), none, []⟩,
      ⟨(some 25), (.bin .gtr (.t 24) (.c (.i .i64 (0)))), none, []⟩] [])
    (.cond (.t 25)
      .skip
      (.exit 2)))
    (.seq (.block 3
      (.seq (.seq (.region [⟨(some 28), (.mov (.t 8)), none, []⟩,
        ⟨(some 29), (.bin .and (.t 28) (.c (.i .i64 (1)))), none, []⟩,
        ⟨(some 30), (.bin .neq (.t 29) (.c (.i .i64 (0)))), none, []⟩] [])
      (.cond (.t 30)
        (.region [⟨(some 31), (.mov (.t 6)), none, []⟩,
          ⟨(some 32), (.mov (.t 7)), none, []⟩,
          ⟨(some 33), (.bin .mul (.t 31) (.t 32)), none, []⟩,
          ⟨(some 6), (.mov (.t 33)), none, []⟩] [])
        .skip))
      (.region [⟨(some 34), (.mov (.t 7)), none, []⟩,
        ⟨(some 35), (.mov (.t 7)), none, []⟩,
        ⟨(some 36), (.bin .mul (.t 34) (.t 35)), none, []⟩,
        ⟨(some 7), (.mov (.t 36)), none, []⟩] [])))
    (.region [⟨(some 26), (.mov (.t 8)), none, []⟩,
      ⟨(some 27), (.bin .shr (.t 26) (.c (.i .u64 (1)))), none, []⟩,
      ⟨(some 8), (.mov (.t 27)), none, []⟩] [])))
def I227 : IFunc :=
  ⟨(.seq (.region [⟨(some 2), (.mov (.c (.i .u32 (0)))), none, []⟩,
      ⟨(some 3), (.mov (.c (.i .u32 (0)))), none, []⟩] [])
    (.seq (.region [⟨(some 4), (.mov (.c (.i .u32 (0)))), none, []⟩] [])
    (.seq (.seq (.region [⟨(some 5), (.mov (.c (.i .i64 (0)))), none, []⟩] [])
    (.block 0
      (.loop L227a)))
    (.seq (.region [⟨(some 6), (.mov (.c (.i .u32 (1)))), none, []⟩,
      ⟨(some 7), (.mov (.c (.i .u32 (16777619)))), none, []⟩] [])
    (.seq (.seq (.region [⟨(some 22), (.mov (.t 0)), none, []⟩,
      ⟨(some 23), (.lenk 1 (.t 22)), none, []⟩,
      ⟨(some 8), (.mov (.t 23)), none, []⟩] [])
    (.block 2
      (.loop L227b)))
    (.seq (.region [⟨(some 37), (.mov (.t 4)), none, []⟩,
      ⟨(some 38), (.mov (.t 6)), none, []⟩,
      ⟨(some 2), (.mov (.t 37)), none, []⟩,
      ⟨(some 3), (.mov (.t 38)), none, []⟩] [])
    .ret)))))),
    39, 1, [.t 2, .t 3], 0⟩
theorem tr227 : trFunc Tryz.prog [([], []), ([], []), ([], []), ([], []), ([], []), ([], []), ([], []), ([], []), ([], []), ([], []), ([], []), ([], []), ([], []), ([], []), ([], []), ([], []), ([], [])] 0 Tryz.f227 = some I227 := by kernel_rfl

/-- '(encore/fast.place).value'. -/
def I243 : IFunc :=
  ⟨(.seq (.region [⟨(some 4), (.alloc [(.i .i64 (0)), (.i .i64 (0)), (.s []), .ns, .ns]), none, []⟩] [])
    (.seq (.region [⟨(some 5), (.mov (.t 1)), none, []⟩,
      ⟨(some 6), (.mov (.t 0)), none, []⟩,
      ⟨(some 7), (.iaddr 5 (.t 5) (.t 6)), none, []⟩,
      ⟨(some 8), (.load (some 5) (.t 7)), none, []⟩,
      ⟨none, (.store 5 (.t 4) (.t 8)), none, []⟩] [])
    .ret)),
    9, 2, [.c 4 (some 5)], 0⟩
theorem tr243 : trFunc Tryz.prog [([], []), ([], [])] 0 Tryz.f243 = some I243 := by kernel_rfl

/-- '(encore/fast.constant).value'. -/
def I244 : IFunc :=
  ⟨(.seq (.region [⟨(some 2), (.box (.t 0)), none, []⟩,
      ⟨(some 4), (.alloc [(.i .i64 (0)), (.i .i64 (0)), (.s []), .ns, .ns]), none, []⟩] [])
    (.seq (.region [⟨(some 5), (.off (.t 2) 0), none, []⟩,
      ⟨(some 6), (.load (some 5) (.t 5)), none, []⟩,
      ⟨none, (.store 5 (.t 4) (.t 6)), none, []⟩] [])
    .ret)),
    7, 2, [.c 4 (some 5)], 0⟩
theorem tr244 : trFunc Tryz.prog [([], []), ([], [])] 0 Tryz.f244 = some I244 := by kernel_rfl


end Go.Proofs.YteoliiakbmomeadGreatDoor

