import Derived.Test.YteoliiakbmomeadGreatDoorRows
import Derived.Test.YteoliiakbmomeadGreatDoorM04
import Derived.Test.YteoliiakbmomeadGreatDoorM05
set_option linter.unusedVariables false
set_option linter.unusedSimpArgs false
set_option linter.unusedSectionVars false
/- The functions that the statement reaches, as the interpreter has them. Conditions: none. -/
namespace Go.Proofs.YteoliiakbmomeadGreatDoor
open Go Go.RI
/-- 'encore/encorelaw25.operands'. -/
def L67a : ICode :=
  (.seq (.seq (.region [⟨(some 5), (.mov (.t 4)), none, []⟩,
      ⟨(some 6), (.mov (.t 0)), none, []⟩,
      ⟨(some 7), (.lenk 0 (.t 6)), none, []⟩,
      ⟨(some 8), (.bin .lss (.t 5) (.t 7)), none, []⟩] [])
    (.cond (.t 8)
      .skip
      (.exit 0)))
    (.seq (.block 1
      (.region [⟨(some 11), (.mov (.t 3)), none, []⟩,
        ⟨(some 12), (.mov (.t 0)), none, []⟩,
        ⟨(some 13), (.mov (.t 4)), none, []⟩,
        ⟨(some 14), (.iaddr 7 (.t 12) (.t 13)), none, []⟩,
        ⟨(some 15), (.off (.t 14) 0), none, []⟩,
        ⟨(some 16), (.load none (.t 15)), none, []⟩,
        ⟨(some 17), (.mov (.t 0)), none, []⟩,
        ⟨(some 18), (.mov (.t 4)), none, []⟩,
        ⟨(some 19), (.iaddr 7 (.t 17) (.t 18)), none, []⟩,
        ⟨(some 20), (.off (.t 19) 1), none, []⟩,
        ⟨(some 21), (.load none (.t 20)), none, []⟩,
        ⟨(some 22), (.mov (.t 0)), none, []⟩,
        ⟨(some 23), (.mov (.t 4)), none, []⟩,
        ⟨(some 24), (.iaddr 7 (.t 22) (.t 23)), none, []⟩,
        ⟨(some 25), (.off (.t 24) 2), none, []⟩,
        ⟨(some 26), (.load (some 5) (.t 25)), none, []⟩,
        ⟨(some 27), (.build [(.i .i64 (0)), (.i .i64 (0)), (.i .i64 (0)), (.i .i64 (0)), (.s []), .ns, .ns] [(0, 1, (.t 16)), (1, 1, (.t 21)), (2, 5, (.t 26))]), none, []⟩,
        ⟨(some 28), (.bsl 7 1 [(.i .i64 (0)), (.i .i64 (0)), (.i .i64 (0)), (.i .i64 (0)), (.s []), .ns, .ns] [(0, 7, (.t 27))]), none, []⟩,
        ⟨(some 29), (.app 7 96 (.t 11) (.t 28)), none, []⟩,
        ⟨(some 3), (.mov (.t 29)), none, []⟩] []))
    (.region [⟨(some 9), (.mov (.t 4)), none, []⟩,
      ⟨(some 10), (.bin .add (.t 9) (.c (.i .i64 (1)))), none, []⟩,
      ⟨(some 4), (.mov (.t 10)), none, []⟩] [])))
def I67 : IFunc :=
  ⟨(.seq (.region [⟨(some 2), (.mov (.c .ns)), none, []⟩] [])
    (.seq (.region [⟨(some 3), (.mov (.c .ns)), none, []⟩] [])
    (.seq (.seq (.region [⟨(some 4), (.mov (.c (.i .i64 (0)))), none, []⟩] [])
    (.block 0
      (.loop L67a)))
    (.seq (.region [⟨(some 30), (.mov (.t 3)), none, []⟩,
      ⟨(some 2), (.mov (.t 30)), none, []⟩] [])
    .ret)))),
    31, 1, [.t 2], 0⟩
theorem tr67 : trFunc Tryz.prog [([], []), ([], []), ([], []), ([], []), ([], []), ([0, 1, 2, 3, 4, 5, 6, 7, 8, 9, 10, 11, 12, 13, 14, 15, 16, 17, 18, 19], []), ([], []), ([], [])] 0 Tryz.f67 = some I67 := by kernel_rfl

/-- 'encore/encoreref07.Compare'. -/
def L68a : ICode :=
  (.seq (.seq (.region [⟨(some 38), (.mov (.t 5)), none, []⟩,
      ⟨(some 39), (.off (.t 2) 4), none, []⟩,
      ⟨(some 40), (.load none (.t 39)), none, []⟩,
      ⟨(some 41), (.lenk 0 (.t 40)), none, []⟩,
      ⟨(some 42), (.bin .lss (.t 38) (.t 41)), none, []⟩,
      ⟨(some 43), (.mov (.t 42)), none, []⟩,
      ⟨(some 44), (.mov (.t 5)), (some (43, true)), []⟩,
      ⟨(some 45), (.off (.t 3) 4), (some (43, true)), []⟩,
      ⟨(some 46), (.load none (.t 45)), (some (43, true)), []⟩,
      ⟨(some 47), (.lenk 0 (.t 46)), (some (43, true)), []⟩,
      ⟨(some 48), (.bin .lss (.t 44) (.t 47)), (some (43, true)), []⟩,
      ⟨(some 49), (.pick (.t 43) (.t 48) (.c (.b false))), none, []⟩] [])
    (.cond (.t 49)
      .skip
      (.exit 0)))
    (.seq (.block 1
      (.seq (.region [⟨(some 52), (.off (.t 2) 4), none, []⟩,
        ⟨(some 53), (.load none (.t 52)), none, []⟩,
        ⟨(some 54), (.mov (.t 5)), none, []⟩,
        ⟨(some 55), (.iaddr 1 (.t 53) (.t 54)), none, []⟩,
        ⟨(some 56), (.load none (.t 55)), none, []⟩,
        ⟨(some 57), (.off (.t 3) 4), none, []⟩,
        ⟨(some 58), (.load none (.t 57)), none, []⟩,
        ⟨(some 59), (.mov (.t 5)), none, []⟩,
        ⟨(some 60), (.iaddr 1 (.t 58) (.t 59)), none, []⟩,
        ⟨(some 61), (.load none (.t 60)), none, []⟩,
        ⟨(some 62), (.bin .neq (.t 56) (.t 61)), none, []⟩] [])
      (.cond (.t 62)
        (.seq (.region [⟨(some 63), (.off (.t 2) 4), none, []⟩,
          ⟨(some 64), (.load none (.t 63)), none, []⟩,
          ⟨(some 65), (.mov (.t 5)), none, []⟩,
          ⟨(some 66), (.iaddr 1 (.t 64) (.t 65)), none, []⟩,
          ⟨(some 67), (.load none (.t 66)), none, []⟩,
          ⟨(some 68), (.off (.t 3) 4), none, []⟩,
          ⟨(some 69), (.load none (.t 68)), none, []⟩,
          ⟨(some 70), (.mov (.t 5)), none, []⟩,
          ⟨(some 71), (.iaddr 1 (.t 69) (.t 70)), none, []⟩,
          ⟨(some 72), (.load none (.t 71)), none, []⟩,
          ⟨(some 73), (.call 109 [(.t 67), (.t 72)]), none, []⟩,
          ⟨(some 4), (.mov (.t 73)), none, []⟩] [])
        .ret)
        .skip)))
    (.region [⟨(some 50), (.mov (.t 5)), none, []⟩,
      ⟨(some 51), (.bin .add (.t 50) (.c (.i .i64 (1)))), none, []⟩,
      ⟨(some 5), (.mov (.t 51)), none, []⟩] [])))
def L68b : ICode :=
  (.seq (.seq (.region [⟨(some 88), (.mov (.t 6)), none, []⟩,
      ⟨(some 89), (.off (.t 2) 3), none, []⟩,
      ⟨(some 90), (.load none (.t 89)), none, []⟩,
      ⟨(some 91), (.lenk 0 (.t 90)), none, []⟩,
      ⟨(some 92), (.bin .lss (.t 88) (.t 91)), none, []⟩,
      ⟨(some 93), (.mov (.t 92)), none, []⟩,
      ⟨(some 94), (.mov (.t 6)), (some (93, true)), []⟩,
      ⟨(some 95), (.off (.t 3) 3), (some (93, true)), []⟩,
      ⟨(some 96), (.load none (.t 95)), (some (93, true)), []⟩,
      ⟨(some 97), (.lenk 0 (.t 96)), (some (93, true)), []⟩,
      ⟨(some 98), (.bin .lss (.t 94) (.t 97)), (some (93, true)), []⟩,
      ⟨(some 99), (.pick (.t 93) (.t 98) (.c (.b false))), none, []⟩] [])
    (.cond (.t 99)
      .skip
      (.exit 2)))
    (.seq (.block 3
      (.seq (.region [⟨(some 102), (.off (.t 2) 3), none, []⟩,
        ⟨(some 103), (.load none (.t 102)), none, []⟩,
        ⟨(some 104), (.mov (.t 6)), none, []⟩,
        ⟨(some 105), (.iaddr 5 (.t 103) (.t 104)), none, []⟩,
        ⟨(some 106), (.load (some 5) (.t 105)), none, []⟩,
        ⟨(some 107), (.off (.t 3) 3), none, []⟩,
        ⟨(some 108), (.load none (.t 107)), none, []⟩,
        ⟨(some 109), (.mov (.t 6)), none, []⟩,
        ⟨(some 110), (.iaddr 5 (.t 108) (.t 109)), none, []⟩,
        ⟨(some 111), (.load (some 5) (.t 110)), none, []⟩,
        ⟨(some 112), (.call 68 [(.t 106), (.t 111)]), none, []⟩,
        ⟨(some 7), (.mov (.t 112)), none, []⟩] [])
      (.seq (.region [⟨(some 113), (.mov (.t 7)), none, []⟩,
        ⟨(some 114), (.bin .neq (.t 113) (.c (.i .i64 (0)))), none, []⟩] [])
      (.cond (.t 114)
        (.seq (.region [⟨(some 115), (.mov (.t 7)), none, []⟩,
          ⟨(some 4), (.mov (.t 115)), none, []⟩] [])
        .ret)
        .skip))))
    (.region [⟨(some 100), (.mov (.t 6)), none, []⟩,
      ⟨(some 101), (.bin .add (.t 100) (.c (.i .i64 (1)))), none, []⟩,
      ⟨(some 6), (.mov (.t 101)), none, []⟩] [])))
def I68 : IFunc :=
  ⟨(.seq (.region [⟨(some 2), (.box (.t 0)), none, []⟩,
      ⟨(some 3), (.box (.t 1)), none, []⟩,
      ⟨(some 4), (.mov (.c (.i .i64 (0)))), none, []⟩] [])
    (.seq (.seq (.region [⟨(some 8), (.off (.t 2) 0), none, []⟩,
      ⟨(some 9), (.load none (.t 8)), none, []⟩,
      ⟨(some 10), (.off (.t 3) 0), none, []⟩,
      ⟨(some 11), (.load none (.t 10)), none, []⟩,
      ⟨(some 12), (.bin .neq (.t 9) (.t 11)), none, []⟩] [])
    (.cond (.t 12)
      (.seq (.region [⟨(some 13), (.off (.t 2) 0), none, []⟩,
        ⟨(some 14), (.load none (.t 13)), none, []⟩,
        ⟨(some 15), (.off (.t 3) 0), none, []⟩,
        ⟨(some 16), (.load none (.t 15)), none, []⟩,
        ⟨(some 17), (.call 108 [(.t 14), (.t 16)]), none, []⟩,
        ⟨(some 4), (.mov (.t 17)), none, []⟩] [])
      .ret)
      .skip))
    (.seq (.seq (.region [⟨(some 18), (.off (.t 2) 1), none, []⟩,
      ⟨(some 19), (.load none (.t 18)), none, []⟩,
      ⟨(some 20), (.off (.t 3) 1), none, []⟩,
      ⟨(some 21), (.load none (.t 20)), none, []⟩,
      ⟨(some 22), (.bin .neq (.t 19) (.t 21)), none, []⟩] [])
    (.cond (.t 22)
      (.seq (.region [⟨(some 23), (.off (.t 2) 1), none, []⟩,
        ⟨(some 24), (.load none (.t 23)), none, []⟩,
        ⟨(some 25), (.off (.t 3) 1), none, []⟩,
        ⟨(some 26), (.load none (.t 25)), none, []⟩,
        ⟨(some 27), (.call 108 [(.t 24), (.t 26)]), none, []⟩,
        ⟨(some 4), (.mov (.t 27)), none, []⟩] [])
      .ret)
      .skip))
    (.seq (.seq (.region [⟨(some 28), (.off (.t 2) 2), none, []⟩,
      ⟨(some 29), (.load none (.t 28)), none, []⟩,
      ⟨(some 30), (.off (.t 3) 2), none, []⟩,
      ⟨(some 31), (.load none (.t 30)), none, []⟩,
      ⟨(some 32), (.bin .neq (.t 29) (.t 31)), none, []⟩] [])
    (.cond (.t 32)
      (.seq (.region [⟨(some 33), (.off (.t 2) 2), none, []⟩,
        ⟨(some 34), (.load none (.t 33)), none, []⟩,
        ⟨(some 35), (.off (.t 3) 2), none, []⟩,
        ⟨(some 36), (.load none (.t 35)), none, []⟩,
        ⟨(some 37), (.call 109 [(.t 34), (.t 36)]), none, []⟩,
        ⟨(some 4), (.mov (.t 37)), none, []⟩] [])
      .ret)
      .skip))
    (.seq (.seq (.region [⟨(some 5), (.mov (.c (.i .i64 (0)))), none, []⟩] [])
    (.block 0
      (.loop L68a)))
    (.seq (.seq (.region [⟨(some 74), (.off (.t 2) 4), none, []⟩,
      ⟨(some 75), (.load none (.t 74)), none, []⟩,
      ⟨(some 76), (.lenk 0 (.t 75)), none, []⟩,
      ⟨(some 77), (.off (.t 3) 4), none, []⟩,
      ⟨(some 78), (.load none (.t 77)), none, []⟩,
      ⟨(some 79), (.lenk 0 (.t 78)), none, []⟩,
      ⟨(some 80), (.bin .neq (.t 76) (.t 79)), none, []⟩] [])
    (.cond (.t 80)
      (.seq (.region [⟨(some 81), (.off (.t 2) 4), none, []⟩,
        ⟨(some 82), (.load none (.t 81)), none, []⟩,
        ⟨(some 83), (.lenk 0 (.t 82)), none, []⟩,
        ⟨(some 84), (.off (.t 3) 4), none, []⟩,
        ⟨(some 85), (.load none (.t 84)), none, []⟩,
        ⟨(some 86), (.lenk 0 (.t 85)), none, []⟩,
        ⟨(some 87), (.call 108 [(.t 83), (.t 86)]), none, []⟩,
        ⟨(some 4), (.mov (.t 87)), none, []⟩] [])
      .ret)
      .skip))
    (.seq (.seq (.region [⟨(some 6), (.mov (.c (.i .i64 (0)))), none, []⟩] [])
    (.block 2
      (.loop L68b)))
    (.seq (.region [⟨(some 116), (.off (.t 2) 3), none, []⟩,
      ⟨(some 117), (.load none (.t 116)), none, []⟩,
      ⟨(some 118), (.lenk 0 (.t 117)), none, []⟩,
      ⟨(some 119), (.off (.t 3) 3), none, []⟩,
      ⟨(some 120), (.load none (.t 119)), none, []⟩,
      ⟨(some 121), (.lenk 0 (.t 120)), none, []⟩,
      ⟨(some 122), (.call 108 [(.t 118), (.t 121)]), none, []⟩,
      ⟨(some 4), (.mov (.t 122)), none, []⟩] [])
    .ret)))))))),
    123, 2, [.t 4], 0⟩
theorem tr68 : trFunc Tryz.prog [([], []), ([], []), ([], []), ([], []), ([], []), ([], []), ([], []), ([], []), ([], []), ([], []), ([], []), ([], []), ([], []), ([0, 1, 2, 3, 4, 5, 6, 7, 8, 9, 10], []), ([0, 1, 2, 3, 4, 5, 6, 7, 8, 9, 10, 11], []), ([], []), ([], []), ([], []), ([], []), ([], []), ([], []), ([], []), ([], []), ([0, 1, 2, 3, 4, 5, 6, 7, 8, 9, 10, 11], []), ([], []), ([], []), ([], []), ([], []), ([], [])] 0 Tryz.f68 = some I68 := by kernel_rfl

/-- 'encore/cuts.blocks'. -/
def I69 : IFunc :=
  ⟨(.seq (.region [⟨(some 2), (.box (.t 0)), none, []⟩,
      ⟨(some 3), (.box (.t 1)), none, []⟩,
      ⟨(some 4), (.mov (.c .nf)), none, []⟩] [])
    (.seq (.region [⟨(some 5), (.mkf 110 [] [(.t 2), (.t 3)]), none, []⟩,
      ⟨(some 4), (.mov (.t 5)), none, []⟩] [])
    .ret)),
    6, 2, [.t 4], 0⟩
theorem tr69 : trFunc Tryz.prog [([], []), ([], [])] 0 Tryz.f69 = some I69 := by kernel_rfl

/-- 'encore/cuts.beginnings'. -/
def L70a : ICode :=
  (.seq (.region [⟨(some 13), (.bin .lss (.t 12) (.t 11)), none, []⟩] [])
    (.seq (.cond (.t 13)
      .skip
      (.exit 0))
    (.seq (.block 1
      (.seq (.region [⟨(some 14), (.mov (.t 12)), none, []⟩,
        ⟨(some 15), (.iaddr 3 (.t 10) (.t 12)), none, []⟩,
        ⟨(some 16), (.load (some 3) (.t 15)), none, []⟩,
        ⟨(some 7), (.alloc [(.i .i64 (0)), (.i .i64 (0)), (.i .i64 (0))]), none, []⟩,
        ⟨(some 6), (.mov (.t 14)), none, []⟩,
        ⟨none, (.store 3 (.t 7) (.t 16)), none, []⟩] [])
      (.seq (.seq (.region [⟨(some 17), (.off (.t 7) 0), none, []⟩,
        ⟨(some 18), (.load none (.t 17)), none, []⟩,
        ⟨(some 19), (.call 112 [(.t 18)]), none, []⟩,
        ⟨(some 20), (.mov (.t 19)), none, []⟩,
        ⟨(some 21), (.mov (.t 1)), (some (20, false)), []⟩,
        ⟨(some 22), (.mov (.t 6)), (some (20, false)), []⟩,
        ⟨(some 23), (.iaddr 3 (.t 21) (.t 22)), (some (20, false)), []⟩,
        ⟨(some 24), (.off (.t 23) 0), (some (20, false)), []⟩,
        ⟨(some 25), (.load none (.t 24)), (some (20, false)), []⟩,
        ⟨(some 26), (.un .not (.t 25)), (some (20, false)), []⟩,
        ⟨(some 27), (.pick (.t 20) (.c (.b true)) (.t 26)), none, []⟩] [])
      (.cond (.t 27)
        (.exit 1)
        .skip))
      (.seq (.seq (.region [⟨(some 28), (.load (some 3) (.t 7)), none, []⟩,
        ⟨(some 29), (.call 113 [(.t 28)]), none, []⟩,
        ⟨(some 30), (.mov (.t 29)), none, []⟩,
        ⟨(some 31), (.off (.t 7) 0), (some (30, false)), []⟩,
        ⟨(some 32), (.load none (.t 31)), (some (30, false)), []⟩,
        ⟨(some 33), (.bin .eql (.t 32) (.c (.i .i64 (26)))), (some (30, false)), []⟩,
        ⟨(some 34), (.pick (.t 30) (.c (.b true)) (.t 33)), none, []⟩] [])
      (.cond (.t 34)
        (.region [⟨(some 35), (.mov (.t 5)), none, []⟩,
          ⟨(some 36), (.off (.t 7) 1), none, []⟩,
          ⟨(some 37), (.load none (.t 36)), none, []⟩,
          ⟨none, (.mapup false [1] (.t 35) (.t 37) (.c (.b true))), none, []⟩] [])
        .skip))
      (.seq (.region [⟨(some 38), (.mov (.t 6)), none, []⟩,
        ⟨(some 39), (.bin .add (.t 38) (.c (.i .i64 (1)))), none, []⟩,
        ⟨(some 40), (.mov (.t 0)), none, []⟩,
        ⟨(some 41), (.lenk 0 (.t 40)), none, []⟩,
        ⟨(some 42), (.bin .lss (.t 39) (.t 41)), none, []⟩,
        ⟨(some 43), (.mov (.t 42)), none, []⟩,
        ⟨(some 44), (.mov (.t 1)), (some (43, true)), []⟩,
        ⟨(some 45), (.mov (.t 6)), (some (43, true)), []⟩,
        ⟨(some 46), (.bin .add (.t 45) (.c (.i .i64 (1)))), (some (43, true)), []⟩,
        ⟨(some 47), (.iaddr 3 (.t 44) (.t 46)), (some (43, true)), []⟩,
        ⟨(some 48), (.off (.t 47) 0), (some (43, true)), []⟩,
        ⟨(some 49), (.load none (.t 48)), (some (43, true)), []⟩,
        ⟨(some 50), (.pick (.t 43) (.t 49) (.c (.b false))), none, []⟩] [])
      (.cond (.t 50)
        (.region [⟨(some 51), (.mov (.t 5)), none, []⟩,
          ⟨(some 52), (.mov (.t 6)), none, []⟩,
          ⟨(some 53), (.bin .add (.t 52) (.c (.i .i64 (1)))), none, []⟩,
          ⟨none, (.mapup false [1] (.t 51) (.t 53) (.c (.b true))), none, []⟩] [])
        .skip))))))
    (.region [⟨(some 54), (.bin .add (.t 12) (.c (.i .i64 (1)))), none, []⟩,
      ⟨(some 12), (.mov (.t 54)), none, []⟩] []))))
def I70 : IFunc :=
  ⟨(.seq (.region [⟨(some 4), (.mov (.c .nm)), none, []⟩] [])
    (.seq (.region [⟨(some 8), .mkmap, none, []⟩,
      ⟨none, (.mapup false [1] (.t 8) (.c (.i .i64 (0))) (.c (.b true))), none, []⟩,
      ⟨(some 9), (.mov (.t 8)), none, []⟩,
      ⟨(some 5), (.mov (.t 9)), none, []⟩] [])
    (.seq (.seq (.region [⟨(some 10), (.mov (.t 0)), none, []⟩,
      ⟨(some 11), (.lenk 0 (.t 10)), none, []⟩,
      ⟨(some 12), (.mov (.c (.i .i64 (0)))), none, []⟩] [])
    (.block 0
      (.loop L70a)))
    (.seq (.region [⟨(some 55), (.mov (.t 5)), none, []⟩,
      ⟨(some 4), (.mov (.t 55)), none, []⟩] [])
    .ret)))),
    56, 2, [.t 4], 0⟩
theorem tr70 : trFunc Tryz.prog [([], []), ([], []), ([], []), ([], []), ([], []), ([], []), ([], []), ([], []), ([], []), ([], []), ([], []), ([], []), ([], []), ([], []), ([], []), ([], [])] 0 Tryz.f70 = some I70 := by kernel_rfl

/-- 'encore/code.Check'. -/
def L71a : ICode :=
  (.seq (.region [⟨(some 54), (.bin .lss (.t 53) (.t 52)), none, []⟩] [])
    (.seq (.cond (.t 54)
      .skip
      (.exit 2))
    (.seq (.block 3
      (.seq (.region [⟨(some 55), (.iaddr 3 (.t 51) (.t 53)), none, []⟩,
        ⟨(some 56), (.load (some 3) (.t 55)), none, []⟩,
        ⟨(some 9), (.alloc [(.i .i64 (0)), (.i .i64 (0)), (.i .i64 (0))]), none, []⟩,
        ⟨none, (.store 3 (.t 9) (.t 56)), none, []⟩] [])
      (.seq (.region [⟨(some 57), (.load (some 3) (.t 9)), none, []⟩,
        ⟨(some 58), (.build [.np, .np, (.i .i64 (0)), (.i .i64 (0)), (.i .i64 (0))] [(0, 1, (.t 1)), (1, 1, (.t 7)), (2, 3, (.t 57))]), none, []⟩,
        ⟨(some 59), (.call 119 [(.t 58)]), none, []⟩,
        ⟨(some 60), (.un .not (.t 59)), none, []⟩] [])
      (.cond (.t 60)
        (.seq (.region [⟨(some 2), (.mov (.c (.i .i64 (150)))), none, []⟩] [])
        .ret)
        .skip))))
    (.region [⟨(some 61), (.bin .add (.t 53) (.c (.i .i64 (1)))), none, []⟩,
      ⟨(some 53), (.mov (.t 61)), none, []⟩] []))))
def L71b : ICode :=
  (.seq (.region [⟨(some 47), (.bin .lss (.t 46) (.t 45)), none, []⟩] [])
    (.seq (.cond (.t 47)
      .skip
      (.exit 0))
    (.seq (.block 1
      (.seq (.region [⟨(some 48), (.iaddr 4 (.t 44) (.t 46)), none, []⟩,
        ⟨(some 49), (.load (some 4) (.t 48)), none, []⟩,
        ⟨(some 7), (.alloc [(.s []), (.i .i64 (0)), (.i .i64 (0)), .ns]), none, []⟩,
        ⟨none, (.store 4 (.t 7) (.t 49)), none, []⟩] [])
      (.seq (.region [⟨(some 50), (.off (.t 7) 3), none, []⟩,
        ⟨(some 51), (.load none (.t 50)), none, []⟩,
        ⟨(some 52), (.lenk 0 (.t 51)), none, []⟩,
        ⟨(some 53), (.mov (.c (.i .i64 (0)))), none, []⟩] [])
      (.block 2
        (.loop L71a)))))
    (.region [⟨(some 62), (.bin .add (.t 46) (.c (.i .i64 (1)))), none, []⟩,
      ⟨(some 46), (.mov (.t 62)), none, []⟩] []))))
def I71 : IFunc :=
  ⟨(.seq (.region [⟨(some 1), (.box (.t 0)), none, []⟩,
      ⟨(some 2), (.mov (.c (.i .i64 (0)))), none, []⟩] [])
    (.seq (.region [⟨(some 3), (.mov (.f 114)), none, []⟩] [])
    (.seq (.seq (.region [⟨(some 10), (.off (.t 1) 0), none, []⟩,
      ⟨(some 11), (.load none (.t 10)), none, []⟩,
      ⟨(some 12), (.lenk 0 (.t 11)), none, []⟩,
      ⟨(some 13), (.bin .gtr (.t 12) (.c (.i .i64 (16)))), none, []⟩,
      ⟨(some 14), (.mov (.t 13)), none, []⟩,
      ⟨(some 15), (.off (.t 1) 1), (some (14, false)), []⟩,
      ⟨(some 16), (.load none (.t 15)), (some (14, false)), []⟩,
      ⟨(some 17), (.lenk 0 (.t 16)), (some (14, false)), []⟩,
      ⟨(some 18), (.bin .gtr (.t 17) (.c (.i .i64 (256)))), (some (14, false)), []⟩,
      ⟨(some 19), (.pick (.t 14) (.c (.b true)) (.t 18)), none, []⟩,
      ⟨(some 20), (.mov (.t 19)), none, []⟩,
      ⟨(some 21), (.off (.t 1) 0), (some (20, false)), []⟩,
      ⟨(some 22), (.load none (.t 21)), (some (20, false)), []⟩,
      ⟨(some 23), (.mov (.t 3)), (some (20, false)), []⟩,
      ⟨(some 24), (.call 115 [(.t 22), (.t 23)]), (some (20, false)), []⟩,
      ⟨(some 25), (.pick (.t 20) (.c (.b true)) (.t 24)), none, []⟩] [])
    (.cond (.t 25)
      (.seq (.region [⟨(some 2), (.mov (.c (.i .i64 (5)))), none, []⟩] [])
      .ret)
      .skip))
    (.seq (.region [⟨(some 4), (.mov (.f 116)), none, []⟩] [])
    (.seq (.region [⟨(some 26), (.mkf 117 [] [(.t 1)]), none, []⟩,
      ⟨(some 5), (.mov (.t 26)), none, []⟩] [])
    (.seq (.seq (.region [⟨(some 27), (.off (.t 1) 0), none, []⟩,
      ⟨(some 28), (.load none (.t 27)), none, []⟩,
      ⟨(some 29), (.lenk 0 (.t 28)), none, []⟩,
      ⟨(some 30), (.bin .eql (.t 29) (.c (.i .i64 (0)))), none, []⟩,
      ⟨(some 31), (.mov (.t 30)), none, []⟩,
      ⟨(some 32), (.off (.t 1) 1), (some (31, false)), []⟩,
      ⟨(some 33), (.load none (.t 32)), (some (31, false)), []⟩,
      ⟨(some 34), (.mov (.t 4)), (some (31, false)), []⟩,
      ⟨(some 35), (.call 26 [(.t 33), (.t 34)]), (some (31, false)), []⟩,
      ⟨(some 36), (.pick (.t 31) (.c (.b true)) (.t 35)), none, []⟩,
      ⟨(some 37), (.mov (.t 36)), none, []⟩,
      ⟨(some 38), (.off (.t 1) 0), (some (37, false)), []⟩,
      ⟨(some 39), (.load none (.t 38)), (some (37, false)), []⟩,
      ⟨(some 40), (.mov (.t 5)), (some (37, false)), []⟩,
      ⟨(some 41), (.call 115 [(.t 39), (.t 40)]), (some (37, false)), []⟩,
      ⟨(some 42), (.pick (.t 37) (.c (.b true)) (.t 41)), none, []⟩] [])
    (.cond (.t 42)
      (.seq (.region [⟨(some 2), (.mov (.c (.i .i64 (2)))), none, []⟩] [])
      .ret)
      .skip))
    (.seq (.seq (.region [⟨(some 43), (.off (.t 1) 0), none, []⟩,
      ⟨(some 44), (.load none (.t 43)), none, []⟩,
      ⟨(some 45), (.lenk 0 (.t 44)), none, []⟩,
      ⟨(some 46), (.mov (.c (.i .i64 (0)))), none, []⟩] [])
    (.block 0
      (.loop L71b)))
    (.seq (.region [⟨(some 2), (.mov (.c (.i .i64 (0)))), none, []⟩] [])
    .ret)))))))),
    63, 1, [.t 2], 0⟩
theorem tr71 : trFunc Tryz.prog [([], []), ([], []), ([], []), ([], []), ([], []), ([], []), ([], []), ([], []), ([], []), ([], []), ([], []), ([], []), ([], []), ([], []), ([], []), ([], []), ([], []), ([], []), ([], []), ([], []), ([], []), ([], []), ([], []), ([], [])] 0 Tryz.f71 = some I71 := by kernel_rfl

/-- 'encore/verify.function'. -/
def L72a : ICode :=
  (.seq (.seq (.region [⟨(some 17), (.mov (.t 6)), none, []⟩,
      ⟨(some 18), (.nck (.t 17)), none, []⟩,
      ⟨(some 19), (.off (.t 18) 1), none, []⟩,
      ⟨(some 20), (.load none (.t 19)), none, []⟩,
      ⟨(some 21), (.lenk 0 (.t 20)), none, []⟩,
      ⟨(some 22), (.bin .gtr (.t 21) (.c (.i .i64 (0)))), none, []⟩] [])
    (.cond (.t 22)
      .skip
      (.exit 0)))
    (.block 1
      (.seq (.region [⟨(some 23), (.mov (.t 6)), none, []⟩,
        ⟨(some 24), (.nck (.t 23)), none, []⟩,
        ⟨(some 25), (.off (.t 24) 1), none, []⟩,
        ⟨(some 26), (.load none (.t 25)), none, []⟩,
        ⟨(some 27), (.mov (.t 6)), none, []⟩,
        ⟨(some 28), (.nck (.t 27)), none, []⟩,
        ⟨(some 29), (.off (.t 28) 1), none, []⟩,
        ⟨(some 30), (.load none (.t 29)), none, []⟩,
        ⟨(some 31), (.lenk 0 (.t 30)), none, []⟩,
        ⟨(some 32), (.bin .sub (.t 31) (.c (.i .i64 (1)))), none, []⟩,
        ⟨(some 33), (.iaddr 1 (.t 26) (.t 32)), none, []⟩,
        ⟨(some 34), (.load none (.t 33)), none, []⟩,
        ⟨(some 7), (.mov (.t 34)), none, []⟩] [])
      (.seq (.region [⟨(some 35), (.mov (.t 6)), none, []⟩,
        ⟨(some 36), (.mov (.t 6)), none, []⟩,
        ⟨(some 37), (.nck (.t 36)), none, []⟩,
        ⟨(some 38), (.off (.t 37) 1), none, []⟩,
        ⟨(some 39), (.load none (.t 38)), none, []⟩,
        ⟨(some 40), (.mov (.t 6)), none, []⟩,
        ⟨(some 41), (.nck (.t 40)), none, []⟩,
        ⟨(some 42), (.off (.t 41) 1), none, []⟩,
        ⟨(some 43), (.load none (.t 42)), none, []⟩,
        ⟨(some 44), (.lenk 0 (.t 43)), none, []⟩,
        ⟨(some 45), (.bin .sub (.t 44) (.c (.i .i64 (1)))), none, []⟩,
        ⟨(some 46), (.slq 1 (.t 39) none (some (.t 45)) none), none, []⟩,
        ⟨(some 47), (.nck (.t 35)), none, []⟩,
        ⟨(some 48), (.off (.t 47) 1), none, []⟩,
        ⟨none, (.store 1 (.t 48) (.t 46)), none, []⟩] [])
      (.seq (.region [⟨(some 49), (.mov (.t 6)), none, []⟩,
        ⟨(some 50), (.load (some 2) (.t 2)), none, []⟩,
        ⟨(some 51), (.off (.t 3) 3), none, []⟩,
        ⟨(some 52), (.load none (.t 51)), none, []⟩,
        ⟨(some 53), (.mov (.t 7)), none, []⟩,
        ⟨(some 54), (.iaddr 3 (.t 52) (.t 53)), none, []⟩,
        ⟨(some 55), (.load (some 3) (.t 54)), none, []⟩,
        ⟨(some 56), (.mov (.t 7)), none, []⟩,
        ⟨(some 57), (.call 121 [(.t 49), (.t 50), (.t 55), (.t 56)]), none, []⟩] [])
      (.seq (.region [⟨(some 58), (.mov (.t 6)), none, []⟩,
        ⟨(some 59), (.nck (.t 58)), none, []⟩,
        ⟨(some 60), (.off (.t 59) 2), none, []⟩,
        ⟨(some 61), (.load none (.t 60)), none, []⟩] [])
      (.cond (.t 61)
        (.exit 0)
        .skip)))))))
def L72b : ICode :=
  (.seq (.region [⟨(some 72), (.bin .lss (.t 71) (.t 70)), none, []⟩] [])
    (.seq (.cond (.t 72)
      .skip
      (.exit 2))
    (.seq (.block 3
      (.seq (.region [⟨(some 73), (.mov (.t 71)), none, []⟩,
        ⟨(some 8), (.mov (.t 73)), none, []⟩] [])
      (.region [⟨(some 74), (.mov (.t 6)), none, []⟩,
        ⟨(some 75), (.nck (.t 74)), none, []⟩,
        ⟨(some 76), (.off (.t 75) 0), none, []⟩,
        ⟨(some 77), (.load none (.t 76)), none, []⟩,
        ⟨(some 78), (.mov (.t 8)), none, []⟩,
        ⟨(some 79), (.mov (.t 6)), none, []⟩,
        ⟨(some 80), (.nck (.t 79)), none, []⟩,
        ⟨(some 81), (.off (.t 80) 0), none, []⟩,
        ⟨(some 82), (.load none (.t 81)), none, []⟩,
        ⟨(some 83), (.mov (.t 8)), none, []⟩,
        ⟨(some 84), (.iaddr 3 (.t 82) (.t 83)), none, []⟩,
        ⟨(some 85), (.off (.t 84) 2), none, []⟩,
        ⟨(some 86), (.load none (.t 85)), none, []⟩,
        ⟨(some 87), (.call 122 [(.t 86)]), none, [(77, (.load none (.t 76)), none)]⟩,
        ⟨(some 88), (.iaddr 3 (.t 77) (.t 78)), none, []⟩,
        ⟨(some 89), (.off (.t 88) 2), none, []⟩,
        ⟨none, (.store 1 (.t 89) (.t 87)), none, []⟩] [])))
    (.region [⟨(some 90), (.bin .add (.t 71) (.c (.i .i64 (1)))), none, []⟩,
      ⟨(some 71), (.mov (.t 90)), none, []⟩] []))))
def I72 : IFunc :=
  ⟨(.seq (.region [⟨(some 2), (.box (.t 0)), none, []⟩,
      ⟨(some 3), (.box (.t 1)), none, []⟩,
      ⟨(some 4), (.mov (.c .ns)), none, []⟩,
      ⟨(some 5), (.mov (.c (.i .i64 (0)))), none, []⟩] [])
    (.seq .skip
    (.seq (.region [⟨(some 9), (.off (.t 3) 3), none, []⟩,
      ⟨(some 10), (.load none (.t 9)), none, []⟩,
      ⟨(some 11), (.lenk 0 (.t 10)), none, []⟩,
      ⟨(some 12), (.mksl 3 40 [(.b false), (.i .i64 (0)), .ns] (.t 11) (.t 11)), none, []⟩,
      ⟨(some 13), (.build [.ns, .ns, (.b false)] [(0, 1, (.t 12))]), none, []⟩,
      ⟨(some 14), (.box (.t 13)), none, []⟩,
      ⟨(some 6), (.mov (.t 14)), none, []⟩] [])
    (.seq (.region [⟨(some 15), (.mov (.t 6)), none, []⟩,
      ⟨(some 16), (.call 120 [(.t 15), (.c (.i .i64 (0))), (.c (.i .i64 (0))), (.c .ns)]), none, []⟩] [])
    (.seq .skip
    (.seq (.block 0
      (.loop L72a))
    (.seq (.seq (.region [⟨(some 62), (.mov (.t 6)), none, []⟩,
      ⟨(some 63), (.nck (.t 62)), none, []⟩,
      ⟨(some 64), (.off (.t 63) 2), none, []⟩,
      ⟨(some 65), (.load none (.t 64)), none, []⟩] [])
    (.cond (.t 65)
      (.seq (.region [⟨(some 4), (.mov (.c .ns)), none, []⟩,
        ⟨(some 5), (.mov (.c (.i .i64 (170)))), none, []⟩] [])
      .ret)
      .skip))
    (.seq (.seq (.region [⟨(some 66), (.mov (.t 6)), none, []⟩,
      ⟨(some 67), (.nck (.t 66)), none, []⟩,
      ⟨(some 68), (.off (.t 67) 0), none, []⟩,
      ⟨(some 69), (.load none (.t 68)), none, []⟩,
      ⟨(some 70), (.lenk 0 (.t 69)), none, []⟩,
      ⟨(some 71), (.mov (.c (.i .i64 (0)))), none, []⟩] [])
    (.block 2
      (.loop L72b)))
    (.seq (.region [⟨(some 91), (.mov (.t 6)), none, []⟩,
      ⟨(some 92), (.nck (.t 91)), none, []⟩,
      ⟨(some 93), (.off (.t 92) 0), none, []⟩,
      ⟨(some 94), (.load none (.t 93)), none, []⟩,
      ⟨(some 4), (.mov (.t 94)), none, []⟩,
      ⟨(some 5), (.mov (.c (.i .i64 (0)))), none, []⟩] [])
    .ret))))))))),
    95, 2, [.t 4, .t 5], 0⟩
theorem tr72 : trFunc Tryz.prog [([], []), ([], []), ([], []), ([], []), ([], []), ([0, 1, 2, 3, 4, 5, 6, 7, 8, 9, 10, 11, 12], []), ([0, 1, 2, 3, 4, 5, 6, 7, 8, 9, 10, 11, 12, 13, 14], []), ([0, 1, 2, 3, 4, 5, 6, 7, 8], []), ([], []), ([], []), ([], []), ([], []), ([], []), ([], []), ([], []), ([], []), ([], []), ([0, 1, 2, 3, 4, 5, 6, 7, 8, 9, 10, 11, 12, 13, 14, 15, 16], []), ([], []), ([], [])] 0 Tryz.f72 = some I72 := by kernel_rfl

/-- 'slices.IndexFunc[[]encore/cuts.Block,encore/cuts.Block]'. -/
def L73a : ICode :=
  (.seq (.region [⟨(some 9), (.bin .lss (.t 8) (.t 7)), none, []⟩] [])
    (.seq (.cond (.t 9)
      .skip
      (.exit 0))
    (.seq (.block 1
      (.seq (.region [⟨(some 10), (.mov (.t 8)), none, []⟩,
        ⟨(some 5), (.mov (.t 10)), none, []⟩] [])
      (.seq (.region [⟨(some 11), (.mov (.t 1)), none, []⟩,
        ⟨(some 12), (.mov (.t 0)), none, []⟩,
        ⟨(some 13), (.mov (.t 5)), none, []⟩,
        ⟨(some 14), (.iaddr 4 (.t 12) (.t 13)), none, []⟩,
        ⟨(some 15), (.load (some 4) (.t 14)), none, []⟩,
        ⟨(some 16), (.callv (.t 11) [(.t 15)]), none, []⟩] [])
      (.cond (.t 16)
        (.seq (.region [⟨(some 17), (.mov (.t 5)), none, []⟩,
          ⟨(some 4), (.mov (.t 17)), none, []⟩] [])
        .ret)
        .skip))))
    (.region [⟨(some 18), (.bin .add (.t 8) (.c (.i .i64 (1)))), none, []⟩,
      ⟨(some 8), (.mov (.t 18)), none, []⟩] []))))
def I73 : IFunc :=
  ⟨(.seq (.region [⟨(some 4), (.mov (.c (.i .i64 (0)))), none, []⟩] [])
    (.seq (.seq (.region [⟨(some 6), (.mov (.t 0)), none, []⟩,
      ⟨(some 7), (.lenk 0 (.t 6)), none, []⟩,
      ⟨(some 8), (.mov (.c (.i .i64 (0)))), none, []⟩] [])
    (.block 0
      (.loop L73a)))
    (.seq (.region [⟨(some 4), (.mov (.c (.i .i64 (-1)))), none, []⟩] [])
    .ret))),
    19, 2, [.t 4], 0⟩
theorem tr73 : trFunc Tryz.prog [([], []), ([], []), ([], []), ([], []), ([], []), ([], []), ([], []), ([], []), ([], []), ([], [])] 0 Tryz.f73 = some I73 := by kernel_rfl

/-- 'encore/cuts.At$1'. -/
def I74 : IFunc :=
  ⟨(.seq (.region [⟨(some 2), (.box (.t 0)), none, []⟩,
      ⟨(some 3), (.mov (.c (.b false))), none, []⟩] [])
    (.seq (.region [⟨(some 4), (.off (.t 2) 0), none, []⟩,
      ⟨(some 5), (.load none (.t 4)), none, []⟩,
      ⟨(some 6), (.load none (.t 1)), none, []⟩,
      ⟨(some 7), (.bin .eql (.t 5) (.t 6)), none, []⟩,
      ⟨(some 3), (.mov (.t 7)), none, []⟩] [])
    .ret)),
    8, 2, [.t 3], 0⟩
theorem tr74 : trFunc Tryz.prog [([], []), ([], [])] 0 Tryz.f74 = some I74 := by kernel_rfl

/-- '(*encore/lift.maker).all'. -/
def L75a : ICode :=
  (.seq (.region [⟨(some 9), (.bin .lss (.t 8) (.t 7)), none, []⟩] [])
    (.seq (.cond (.t 9)
      .skip
      (.exit 0))
    (.seq (.block 1
      (.seq (.region [⟨(some 10), (.iaddr 3 (.t 6) (.t 8)), none, []⟩,
        ⟨(some 11), (.load (some 3) (.t 10)), none, []⟩,
        ⟨(some 5), (.alloc [(.i .i64 (0)), (.i .i64 (0)), (.i .i64 (0))]), none, []⟩,
        ⟨none, (.store 3 (.t 5) (.t 11)), none, []⟩] [])
      (.seq (.region [⟨(some 12), (.off (.t 5) 0), none, []⟩,
        ⟨(some 13), (.load none (.t 12)), none, []⟩,
        ⟨(some 14), (.call 112 [(.t 13)]), none, []⟩] [])
      (.cond (.t 14)
        (.region [⟨(some 15), (.mov (.t 0)), none, []⟩,
          ⟨(some 16), (.load (some 3) (.t 5)), none, []⟩,
          ⟨(some 17), (.call 123 [(.t 15), (.t 16)]), none, []⟩] [])
        .skip))))
    (.region [⟨(some 18), (.bin .add (.t 8) (.c (.i .i64 (1)))), none, []⟩,
      ⟨(some 8), (.mov (.t 18)), none, []⟩] []))))
def I75 : IFunc :=
  ⟨(.seq (.region [⟨(some 6), (.mov (.t 1)), none, []⟩,
      ⟨(some 7), (.lenk 0 (.t 6)), none, []⟩,
      ⟨(some 8), (.mov (.c (.i .i64 (0)))), none, []⟩] [])
    (.block 0
      (.loop L75a))),
    19, 2, [], 0⟩
theorem tr75 : trFunc Tryz.prog [([], []), ([], []), ([], []), ([], []), ([], []), ([], []), ([], []), ([], [])] 0 Tryz.f75 = some I75 := by kernel_rfl

/-- '(*encore/lift.maker).off'. -/
def L76a : ICode :=
  (.seq (.seq (.region [⟨(some 31), (.mov (.t 6)), none, []⟩,
      ⟨(some 32), (.lenk 0 (.t 31)), none, []⟩,
      ⟨(some 33), (.mov (.t 1)), none, []⟩,
      ⟨(some 34), (.bin .lss (.t 32) (.t 33)), none, []⟩] [])
    (.cond (.t 34)
      .skip
      (.exit 0)))
    (.block 1
      (.region [⟨(some 35), (.mov (.t 6)), none, []⟩,
        ⟨(some 36), (.build [(.i .i64 (0)), (.i .i64 (0)), (.i .i64 (0)), (.i .i64 (0)), (.s []), .ns, .ns] [(0, 1, (.c (.i .i64 (3))))]), none, []⟩,
        ⟨(some 37), (.bsl 7 1 [(.i .i64 (0)), (.i .i64 (0)), (.i .i64 (0)), (.i .i64 (0)), (.s []), .ns, .ns] [(0, 7, (.t 36))]), none, []⟩,
        ⟨(some 38), (.app 7 96 (.t 35) (.t 37)), none, []⟩,
        ⟨(some 6), (.mov (.t 38)), none, []⟩] [])))
def I76 : IFunc :=
  ⟨(.seq (.region [⟨(some 4), (.mov (.c .ns)), none, []⟩] [])
    (.seq (.region [⟨(some 7), (.mov (.t 0)), none, []⟩,
      ⟨(some 8), (.nck (.t 7)), none, []⟩,
      ⟨(some 9), (.off (.t 8) 19), none, []⟩,
      ⟨(some 10), (.load none (.t 9)), none, []⟩,
      ⟨(some 11), (.lenk 0 (.t 10)), none, []⟩,
      ⟨(some 12), (.mov (.t 1)), none, []⟩,
      ⟨(some 13), (.bin .sub (.t 11) (.t 12)), none, []⟩,
      ⟨(some 14), (.mm true (.t 13) [(.c (.i .i64 (0)))]), none, []⟩,
      ⟨(some 5), (.mov (.t 14)), none, []⟩] [])
    (.seq (.region [⟨(some 15), (.mov (.t 0)), none, []⟩,
      ⟨(some 16), (.nck (.t 15)), none, []⟩,
      ⟨(some 17), (.off (.t 16) 19), none, []⟩,
      ⟨(some 18), (.load none (.t 17)), none, []⟩,
      ⟨(some 19), (.mov (.t 5)), none, []⟩,
      ⟨(some 20), (.sl 7 (.t 18) (some (.t 19)) none none), none, []⟩,
      ⟨(some 21), (.call 36 [(.t 20)]), none, []⟩,
      ⟨(some 6), (.mov (.t 21)), none, []⟩] [])
    (.seq (.region [⟨(some 22), (.mov (.t 0)), none, []⟩,
      ⟨(some 23), (.mov (.t 0)), none, []⟩,
      ⟨(some 24), (.nck (.t 23)), none, []⟩,
      ⟨(some 25), (.off (.t 24) 19), none, []⟩,
      ⟨(some 26), (.load none (.t 25)), none, []⟩,
      ⟨(some 27), (.mov (.t 5)), none, []⟩,
      ⟨(some 28), (.sl 7 (.t 26) none (some (.t 27)) none), none, []⟩,
      ⟨(some 29), (.nck (.t 22)), none, []⟩,
      ⟨(some 30), (.off (.t 29) 19), none, []⟩,
      ⟨none, (.store 1 (.t 30) (.t 28)), none, []⟩] [])
    (.seq (.block 0
      (.loop L76a))
    (.seq (.region [⟨(some 39), (.mov (.t 6)), none, []⟩,
      ⟨(some 4), (.mov (.t 39)), none, []⟩] [])
    .ret)))))),
    40, 2, [.t 4], 0⟩
theorem tr76 : trFunc Tryz.prog [([], []), ([], []), ([], []), ([], []), ([], []), ([], []), ([], []), ([], [])] 0 Tryz.f76 = some I76 := by kernel_rfl

/-- 'encore/lift.Small'. -/
def I77 : IFunc :=
  ⟨(.seq (.region [⟨(some 2), (.box (.t 0)), none, []⟩,
      ⟨(some 4), (.mov (.c (.b false))), none, []⟩] [])
    (.seq (.seq (.region [⟨(some 9), (.mov (.t 1)), none, []⟩,
      ⟨(some 10), (.bin .lss (.t 9) (.c (.i .i64 (0)))), none, []⟩,
      ⟨(some 11), (.mov (.t 10)), none, []⟩,
      ⟨(some 12), (.mov (.t 1)), (some (11, false)), []⟩,
      ⟨(some 13), (.off (.t 2) 0), (some (11, false)), []⟩,
      ⟨(some 14), (.load none (.t 13)), (some (11, false)), []⟩,
      ⟨(some 15), (.lenk 0 (.t 14)), (some (11, false)), []⟩,
      ⟨(some 16), (.bin .geq (.t 12) (.t 15)), (some (11, false)), []⟩,
      ⟨(some 17), (.pick (.t 11) (.c (.b true)) (.t 16)), none, []⟩] [])
    (.cond (.t 17)
      (.seq (.region [⟨(some 4), (.mov (.c (.b false))), none, []⟩] [])
      .ret)
      .skip))
    (.seq (.seq (.region [⟨(some 19), (.load (some 2) (.t 2)), none, []⟩,
      ⟨(some 20), (.mov (.t 1)), none, []⟩,
      ⟨(some 21), (.call 33 [(.t 19), (.t 20)]), none, []⟩,
      ⟨(some 18), (.mov (.t 21)), none, []⟩,
      ⟨(some 22), (.ext (.t 18) 0), none, []⟩,
      ⟨(some 23), (.ext (.t 18) 1), none, []⟩,
      ⟨(some 5), (.mov (.t 22)), none, []⟩,
      ⟨(some 6), (.mov (.t 23)), none, []⟩] [])
    (.seq (.region [⟨(some 24), (.mov (.t 6)), none, []⟩,
      ⟨(some 25), (.bin .neq (.t 24) (.c (.i .i64 (0)))), none, []⟩] [])
    (.cond (.t 25)
      (.seq (.region [⟨(some 4), (.mov (.c (.b false))), none, []⟩] [])
      .ret)
      .skip)))
    (.seq (.region [⟨(some 26), (.off (.t 2) 0), none, []⟩,
      ⟨(some 27), (.load none (.t 26)), none, []⟩,
      ⟨(some 28), (.mov (.t 1)), none, []⟩,
      ⟨(some 29), (.iaddr 4 (.t 27) (.t 28)), none, []⟩,
      ⟨(some 30), (.off (.t 29) 3), none, []⟩,
      ⟨(some 31), (.load none (.t 30)), none, []⟩,
      ⟨(some 7), (.mov (.t 31)), none, []⟩] [])
    (.seq (.region [⟨(some 32), (.mov (.t 7)), none, []⟩,
      ⟨(some 33), (.lenk 0 (.t 32)), none, []⟩,
      ⟨(some 34), (.bin .sub (.t 33) (.c (.i .i64 (1)))), none, []⟩,
      ⟨(some 8), (.mov (.t 34)), none, []⟩] [])
    (.seq (.seq (.region [⟨(some 35), (.mov (.t 8)), none, []⟩,
      ⟨(some 36), (.bin .lss (.t 35) (.c (.i .i64 (0)))), none, []⟩,
      ⟨(some 37), (.mov (.t 36)), none, []⟩,
      ⟨(some 38), (.mov (.t 8)), (some (37, false)), []⟩,
      ⟨(some 39), (.bin .geq (.t 38) (.c (.i .i64 (12)))), (some (37, false)), []⟩,
      ⟨(some 40), (.pick (.t 37) (.c (.b true)) (.t 39)), none, []⟩,
      ⟨(some 41), (.mov (.t 40)), none, []⟩,
      ⟨(some 42), (.mov (.t 7)), (some (41, false)), []⟩,
      ⟨(some 43), (.mov (.t 8)), (some (41, false)), []⟩,
      ⟨(some 44), (.iaddr 3 (.t 42) (.t 43)), (some (41, false)), []⟩,
      ⟨(some 45), (.off (.t 44) 0), (some (41, false)), []⟩,
      ⟨(some 46), (.load none (.t 45)), (some (41, false)), []⟩,
      ⟨(some 47), (.bin .neq (.t 46) (.c (.i .i64 (30)))), (some (41, false)), []⟩,
      ⟨(some 48), (.pick (.t 41) (.c (.b true)) (.t 47)), none, []⟩] [])
    (.cond (.t 48)
      (.seq (.region [⟨(some 4), (.mov (.c (.b false))), none, []⟩] [])
      .ret)
      .skip))
    (.seq (.region [⟨(some 49), (.mov (.t 7)), none, []⟩,
      ⟨(some 50), (.mov (.t 8)), none, []⟩,
      ⟨(some 51), (.sl 3 (.t 49) none (some (.t 50)) none), none, []⟩,
      ⟨(some 52), (.call 124 [(.t 51), (.f 125)]), none, []⟩,
      ⟨(some 53), (.un .not (.t 52)), none, []⟩,
      ⟨(some 4), (.mov (.t 53)), none, []⟩] [])
    .ret))))))),
    54, 2, [.t 4], 0⟩
theorem tr77 : trFunc Tryz.prog [([], []), ([], []), ([], []), ([], []), ([], []), ([], []), ([], []), ([], []), ([], []), ([], []), ([], []), ([], []), ([], []), ([], [])] 0 Tryz.f77 = some I77 := by kernel_rfl

/-- 'encore/guess.typed'. -/
def I78 : IFunc :=
  ⟨(.seq (.region [⟨(some 2), (.mov (.c (.i .i64 (0)))), none, []⟩,
      ⟨(some 3), (.mov (.c (.i .i64 (0)))), none, []⟩,
      ⟨(some 4), (.mov (.c (.b false))), none, []⟩] [])
    (.seq (.seq (.region [⟨(some 5), (.mov (.t 0)), none, []⟩] [])
    (.block 0
      (.seq (.region [⟨(some 7), (.bin .eql (.t 5) (.c (.i .i64 (6)))), none, []⟩,
        ⟨(some 6), (.mov (.t 7)), none, []⟩] [])
      (.cond (.t 6)
        (.seq (.region [⟨(some 2), (.mov (.c (.i .i64 (41)))), none, []⟩,
          ⟨(some 3), (.mov (.c (.i .i64 (1)))), none, []⟩,
          ⟨(some 4), (.mov (.c (.b true))), none, []⟩] [])
        .ret)
        (.seq (.region [⟨(some 9), (.bin .eql (.t 5) (.c (.i .i64 (7)))), none, []⟩,
          ⟨(some 8), (.mov (.t 9)), none, []⟩] [])
        (.cond (.t 8)
          (.seq (.region [⟨(some 2), (.mov (.c (.i .i64 (42)))), none, []⟩,
            ⟨(some 3), (.mov (.c (.i .i64 (2)))), none, []⟩,
            ⟨(some 4), (.mov (.c (.b true))), none, []⟩] [])
          .ret)
          (.seq (.region [⟨(some 11), (.bin .eql (.t 5) (.c (.i .i64 (9)))), none, []⟩,
            ⟨(some 10), (.mov (.t 11)), none, []⟩] [])
          (.cond (.t 10)
            (.seq (.region [⟨(some 2), (.mov (.c (.i .i64 (43)))), none, []⟩,
              ⟨(some 3), (.mov (.c (.i .i64 (1)))), none, []⟩,
              ⟨(some 4), (.mov (.c (.b true))), none, []⟩] [])
            .ret)
            (.seq (.region [⟨(some 13), (.bin .eql (.t 5) (.c (.i .i64 (10)))), none, []⟩,
              ⟨(some 12), (.mov (.t 13)), none, []⟩] [])
            (.cond (.t 12)
              (.seq (.region [⟨(some 2), (.mov (.c (.i .i64 (44)))), none, []⟩,
                ⟨(some 3), (.mov (.c (.i .i64 (1)))), none, []⟩,
                ⟨(some 4), (.mov (.c (.b true))), none, []⟩] [])
              .ret)
              (.seq (.region [⟨(some 15), (.bin .eql (.t 5) (.c (.i .i64 (11)))), none, []⟩,
                ⟨(some 14), (.mov (.t 15)), none, []⟩] [])
              (.cond (.t 14)
                (.seq (.region [⟨(some 2), (.mov (.c (.i .i64 (45)))), none, []⟩,
                  ⟨(some 3), (.mov (.c (.i .i64 (1)))), none, []⟩,
                  ⟨(some 4), (.mov (.c (.b true))), none, []⟩] [])
                .ret)
                (.seq (.region [⟨(some 17), (.bin .eql (.t 5) (.c (.i .i64 (16)))), none, []⟩,
                  ⟨(some 16), (.mov (.t 17)), none, []⟩] [])
                (.cond (.t 16)
                  (.seq (.region [⟨(some 2), (.mov (.c (.i .i64 (46)))), none, []⟩,
                    ⟨(some 3), (.mov (.c (.i .i64 (1)))), none, []⟩,
                    ⟨(some 4), (.mov (.c (.b true))), none, []⟩] [])
                  .ret)
                  (.seq (.region [⟨(some 19), (.bin .eql (.t 5) (.c (.i .i64 (17)))), none, []⟩,
                    ⟨(some 18), (.mov (.t 19)), none, []⟩] [])
                  (.cond (.t 18)
                    (.seq (.region [⟨(some 2), (.mov (.c (.i .i64 (47)))), none, []⟩,
                      ⟨(some 3), (.mov (.c (.i .i64 (1)))), none, []⟩,
                      ⟨(some 4), (.mov (.c (.b true))), none, []⟩] [])
                    .ret)
                    .skip))))))))))))))))
    (.seq (.region [⟨(some 2), (.mov (.c (.i .i64 (0)))), none, []⟩,
      ⟨(some 3), (.mov (.c (.i .i64 (0)))), none, []⟩,
      ⟨(some 4), (.mov (.c (.b false))), none, []⟩] [])
    .ret))),
    20, 1, [.t 2, .t 3, .t 4], 0⟩
theorem tr78 : trFunc Tryz.prog [([], []), ([], []), ([], []), ([], []), ([], []), ([], []), ([], []), ([], []), ([], []), ([], []), ([], []), ([], []), ([], []), ([], []), ([], []), ([], []), ([], []), ([], [])] 0 Tryz.f78 = some I78 := by kernel_rfl

/-- '(*encore/guess.maker).check'. -/
def I79 : IFunc :=
  ⟨(.seq (.region [⟨(some 4), (.box (.t 1)), none, []⟩] [])
    (.seq (.seq (.region [⟨(some 6), (.off (.t 4) 0), none, []⟩,
      ⟨(some 7), (.load none (.t 6)), none, []⟩,
      ⟨(some 8), (.bin .neq (.t 7) (.c (.i .i64 (1)))), none, []⟩,
      ⟨(some 9), (.mov (.t 8)), none, []⟩,
      ⟨(some 10), (.mov (.t 0)), (some (9, false)), []⟩,
      ⟨(some 11), (.nck (.t 10)), (some (9, false)), []⟩,
      ⟨(some 12), (.off (.t 11) 1), (some (9, false)), []⟩,
      ⟨(some 13), (.load none (.t 12)), (some (9, false)), []⟩,
      ⟨(some 14), (.off (.t 4) 1), (some (9, false)), []⟩,
      ⟨(some 15), (.load none (.t 14)), (some (9, false)), []⟩,
      ⟨(some 16), (.iaddr 1 (.t 13) (.t 15)), (some (9, false)), []⟩,
      ⟨(some 17), (.load none (.t 16)), (some (9, false)), []⟩,
      ⟨(some 18), (.bin .neq (.t 17) (.c (.i .i64 (-1)))), (some (9, false)), []⟩,
      ⟨(some 19), (.pick (.t 9) (.c (.b true)) (.t 18)), none, []⟩,
      ⟨(some 20), (.mov (.t 19)), none, []⟩,
      ⟨(some 21), (.off (.t 4) 1), (some (20, false)), []⟩,
      ⟨(some 22), (.load none (.t 21)), (some (20, false)), []⟩,
      ⟨(some 23), (.mov (.t 0)), (some (20, false)), []⟩,
      ⟨(some 24), (.nck (.t 23)), (some (20, false)), []⟩,
      ⟨(some 25), (.off (.t 24) 2), (some (20, false)), []⟩,
      ⟨(some 26), (.load none (.t 25)), (some (20, false)), []⟩,
      ⟨(some 27), (.lenk 0 (.t 26)), (some (20, false)), []⟩,
      ⟨(some 28), (.bin .geq (.t 22) (.t 27)), (some (20, false)), []⟩,
      ⟨(some 29), (.pick (.t 20) (.c (.b true)) (.t 28)), none, []⟩,
      ⟨(some 30), (.mov (.t 29)), none, []⟩,
      ⟨(some 31), (.mov (.t 0)), (some (30, false)), []⟩,
      ⟨(some 32), (.nck (.t 31)), (some (30, false)), []⟩,
      ⟨(some 33), (.off (.t 32) 2), (some (30, false)), []⟩,
      ⟨(some 34), (.load none (.t 33)), (some (30, false)), []⟩,
      ⟨(some 35), (.off (.t 4) 1), (some (30, false)), []⟩,
      ⟨(some 36), (.load none (.t 35)), (some (30, false)), []⟩,
      ⟨(some 37), (.iaddr 1 (.t 34) (.t 36)), (some (30, false)), []⟩,
      ⟨(some 38), (.load none (.t 37)), (some (30, false)), []⟩,
      ⟨(some 39), (.mov (.t 2)), (some (30, false)), []⟩,
      ⟨(some 40), (.bin .neq (.t 38) (.t 39)), (some (30, false)), []⟩,
      ⟨(some 41), (.pick (.t 30) (.c (.b true)) (.t 40)), none, []⟩] [])
    (.cond (.t 41)
      .ret
      .skip))
    (.seq (.region [⟨(some 42), (.mov (.t 0)), none, []⟩,
      ⟨(some 43), (.mov (.t 0)), none, []⟩,
      ⟨(some 44), (.nck (.t 43)), none, []⟩,
      ⟨(some 45), (.off (.t 44) 0), none, []⟩,
      ⟨(some 46), (.load none (.t 45)), none, []⟩,
      ⟨(some 47), (.mov (.t 2)), none, []⟩,
      ⟨(some 48), (.load (some 7) (.t 4)), none, []⟩,
      ⟨(some 49), (.bsl 7 1 [(.i .i64 (0)), (.i .i64 (0)), (.i .i64 (0)), (.i .i64 (0)), (.s []), .ns, .ns] [(0, 7, (.t 48))]), none, []⟩,
      ⟨(some 50), (.build [(.i .i64 (0)), (.i .i64 (0)), .ns, (.s []), .ns] [(0, 1, (.c (.i .i64 (40)))), (1, 1, (.t 47)), (2, 1, (.t 49))]), none, []⟩,
      ⟨(some 51), (.bsl 5 1 [(.i .i64 (0)), (.i .i64 (0)), .ns, (.s []), .ns] [(0, 5, (.t 50))]), none, []⟩,
      ⟨(some 52), (.app 5 80 (.t 46) (.t 51)), none, []⟩,
      ⟨(some 53), (.nck (.t 42)), none, []⟩,
      ⟨(some 54), (.off (.t 53) 0), none, []⟩,
      ⟨none, (.store 1 (.t 54) (.t 52)), none, []⟩] [])
    (.region [⟨(some 55), (.mov (.t 0)), none, []⟩,
      ⟨(some 56), (.nck (.t 55)), none, []⟩,
      ⟨(some 57), (.off (.t 56) 1), none, []⟩,
      ⟨(some 58), (.load none (.t 57)), none, []⟩,
      ⟨(some 59), (.off (.t 4) 1), none, []⟩,
      ⟨(some 60), (.load none (.t 59)), none, []⟩,
      ⟨(some 61), (.mov (.t 2)), none, []⟩,
      ⟨(some 62), (.iaddr 1 (.t 58) (.t 60)), none, []⟩,
      ⟨none, (.store 1 (.t 62) (.t 61)), none, []⟩] [])))),
    63, 3, [], 0⟩
theorem tr79 : trFunc Tryz.prog [([], []), ([0, 1, 2, 3, 4, 5, 6, 7, 8, 9, 10, 11, 12, 13, 14, 15, 16, 17, 18, 19, 20, 21, 22, 23, 24, 25, 26, 27, 28, 29, 30, 31, 32, 33, 34, 35], []), ([], []), ([0, 1, 2, 3, 4, 5, 6, 7, 8, 9, 10, 11, 12, 13], []), ([0, 1, 2, 3, 4, 5, 6, 7, 8], [])] 0 Tryz.f79 = some I79 := by kernel_rfl

/-- 'slices.ContainsFunc[[]encore/lift.Operand,encore/lift.Operand]'. -/
def I80 : IFunc :=
  ⟨(.seq (.region [⟨(some 4), (.mov (.c (.b false))), none, []⟩] [])
    (.seq (.region [⟨(some 5), (.mov (.t 0)), none, []⟩,
      ⟨(some 6), (.mov (.t 1)), none, []⟩,
      ⟨(some 7), (.call 126 [(.t 5), (.t 6)]), none, []⟩,
      ⟨(some 8), (.bin .geq (.t 7) (.c (.i .i64 (0)))), none, []⟩,
      ⟨(some 4), (.mov (.t 8)), none, []⟩] [])
    .ret)),
    9, 2, [.t 4], 0⟩
theorem tr80 : trFunc Tryz.prog [([], []), ([], [])] 0 Tryz.f80 = some I80 := by kernel_rfl

/-- '(*encore/guess.maker).step$1'. -/
def I81 : IFunc :=
  ⟨(.seq (.region [⟨(some 3), (.box (.t 0)), none, []⟩,
      ⟨(some 4), (.mov (.c (.b false))), none, []⟩] [])
    (.seq (.region [⟨(some 5), (.load none (.t 1)), none, []⟩,
      ⟨(some 6), (.load (some 7) (.t 3)), none, []⟩,
      ⟨(some 8), (.load none (.t 2)), none, []⟩,
      ⟨(some 7), (.call 82 [(.t 5), (.t 6)]), none, [(8, (.load none (.t 2)), none)]⟩,
      ⟨(some 9), (.bin .neq (.t 7) (.t 8)), none, []⟩,
      ⟨(some 4), (.mov (.t 9)), none, []⟩] [])
    .ret)),
    10, 3, [.t 4], 0⟩
theorem tr81 : trFunc Tryz.prog [([], []), ([0, 1, 3, 2, 4, 5], [])] 0 Tryz.f81 = some I81 := by kernel_rfl

/-- '(*encore/guess.maker).known'. -/
def I82 : IFunc :=
  ⟨(.seq (.region [⟨(some 3), (.box (.t 1)), none, []⟩,
      ⟨(some 4), (.mov (.c (.i .i64 (0)))), none, []⟩] [])
    (.seq (.seq (.region [⟨(some 5), (.off (.t 3) 0), none, []⟩,
      ⟨(some 6), (.load none (.t 5)), none, []⟩] [])
    (.block 0
      (.seq (.region [⟨(some 8), (.bin .eql (.t 6) (.c (.i .i64 (1)))), none, []⟩,
        ⟨(some 7), (.mov (.t 8)), none, []⟩] [])
      (.cond (.t 7)
        (.seq (.region [⟨(some 9), (.mov (.t 0)), none, []⟩,
          ⟨(some 10), (.nck (.t 9)), none, []⟩,
          ⟨(some 11), (.off (.t 10) 1), none, []⟩,
          ⟨(some 12), (.load none (.t 11)), none, []⟩,
          ⟨(some 13), (.off (.t 3) 1), none, []⟩,
          ⟨(some 14), (.load none (.t 13)), none, []⟩,
          ⟨(some 15), (.iaddr 1 (.t 12) (.t 14)), none, []⟩,
          ⟨(some 16), (.load none (.t 15)), none, []⟩,
          ⟨(some 4), (.mov (.t 16)), none, []⟩] [])
        .ret)
        (.seq (.region [⟨(some 18), (.bin .eql (.t 6) (.c (.i .i64 (2)))), none, []⟩,
          ⟨(some 17), (.mov (.t 18)), none, []⟩] [])
        (.cond (.t 17)
          (.seq (.region [⟨(some 19), (.mov (.t 0)), none, []⟩,
            ⟨(some 20), (.nck (.t 19)), none, []⟩,
            ⟨(some 21), (.off (.t 20) 0), none, []⟩,
            ⟨(some 22), (.load none (.t 21)), none, []⟩,
            ⟨(some 23), (.off (.t 3) 1), none, []⟩,
            ⟨(some 24), (.load none (.t 23)), none, []⟩,
            ⟨(some 25), (.iaddr 5 (.t 22) (.t 24)), none, []⟩,
            ⟨(some 26), (.load (some 5) (.t 25)), none, []⟩,
            ⟨(some 27), (.call 127 [(.t 26)]), none, []⟩,
            ⟨(some 4), (.mov (.t 27)), none, []⟩] [])
          .ret)
          .skip))))))
    (.seq (.region [⟨(some 28), (.off (.t 3) 2), none, []⟩,
      ⟨(some 29), (.off (.t 28) 0), none, []⟩,
      ⟨(some 30), (.load none (.t 29)), none, []⟩,
      ⟨(some 4), (.mov (.t 30)), none, []⟩] [])
    .ret))),
    31, 2, [.t 4], 0⟩
theorem tr82 : trFunc Tryz.prog [([], []), ([], []), ([], []), ([0, 1, 2, 3, 4, 5, 6, 7, 8], []), ([], []), ([0, 1, 2, 3, 4, 5, 6, 7, 8, 9], []), ([], []), ([], [])] 0 Tryz.f82 = some I82 := by kernel_rfl

/-- 'encore/guess.own'. -/
def L83a : ICode :=
  (.seq (.region [⟨(some 16), (.bin .lss (.t 15) (.t 14)), none, []⟩] [])
    (.seq (.cond (.t 16)
      .skip
      (.exit 0))
    (.seq (.block 1
      (.seq (.region [⟨(some 17), (.mov (.t 15)), none, []⟩,
        ⟨(some 3), (.mov (.t 17)), none, []⟩] [])
      (.region [⟨(some 18), (.off (.t 1) 3), none, []⟩,
        ⟨(some 19), (.load none (.t 18)), none, []⟩,
        ⟨(some 20), (.mov (.t 3)), none, []⟩,
        ⟨(some 21), (.off (.t 1) 3), none, []⟩,
        ⟨(some 22), (.load none (.t 21)), none, []⟩,
        ⟨(some 23), (.mov (.t 3)), none, []⟩,
        ⟨(some 24), (.iaddr 5 (.t 22) (.t 23)), none, []⟩,
        ⟨(some 25), (.load (some 5) (.t 24)), none, []⟩,
        ⟨(some 26), (.call 83 [(.t 25)]), none, [(19, (.load none (.t 18)), none)]⟩,
        ⟨(some 27), (.iaddr 5 (.t 19) (.t 20)), none, []⟩,
        ⟨none, (.store 5 (.t 27) (.t 26)), none, []⟩] [])))
    (.region [⟨(some 28), (.bin .add (.t 15) (.c (.i .i64 (1)))), none, []⟩,
      ⟨(some 15), (.mov (.t 28)), none, []⟩] []))))
def I83 : IFunc :=
  ⟨(.seq (.region [⟨(some 1), (.box (.t 0)), none, []⟩,
      ⟨(some 2), (.alloc [(.i .i64 (0)), (.i .i64 (0)), (.s []), .ns, .ns]), none, []⟩] [])
    (.seq (.region [⟨(some 4), (.off (.t 1) 4), none, []⟩,
      ⟨(some 5), (.load none (.t 4)), none, []⟩,
      ⟨(some 7), (.off (.t 1) 3), none, []⟩,
      ⟨(some 8), (.load none (.t 7)), none, []⟩,
      ⟨(some 6), (.call 45 [(.t 5)]), none, [(8, (.load none (.t 7)), none)]⟩,
      ⟨(some 10), (.off (.t 1) 4), none, []⟩,
      ⟨(some 9), (.call 63 [(.t 8)]), none, []⟩,
      ⟨none, (.store 1 (.t 10) (.t 6)), none, []⟩,
      ⟨(some 11), (.off (.t 1) 3), none, []⟩,
      ⟨none, (.store 1 (.t 11) (.t 9)), none, []⟩] [])
    (.seq (.seq (.region [⟨(some 12), (.off (.t 1) 3), none, []⟩,
      ⟨(some 13), (.load none (.t 12)), none, []⟩,
      ⟨(some 14), (.lenk 0 (.t 13)), none, []⟩,
      ⟨(some 15), (.mov (.c (.i .i64 (0)))), none, []⟩] [])
    (.block 0
      (.loop L83a)))
    (.seq (.region [⟨(some 29), (.load (some 5) (.t 1)), none, []⟩,
      ⟨none, (.store 5 (.t 2) (.t 29)), none, []⟩] [])
    .ret)))),
    30, 1, [.c 2 (some 5)], 0⟩
theorem tr83 : trFunc Tryz.prog [([], []), ([0, 1, 3, 4, 2, 6, 5, 7, 8, 9], []), ([], []), ([], []), ([], []), ([], []), ([0, 1, 2, 3, 4, 5, 6, 7, 8, 9, 10], []), ([], []), ([], [])] 0 Tryz.f83 = some I83 := by kernel_rfl

/-- 'encore/fold.constants'. -/
def L84a : ICode :=
  (.seq (.region [⟨(some 9), (.bin .lss (.t 8) (.t 7)), none, []⟩] [])
    (.seq (.cond (.t 9)
      .skip
      (.exit 0))
    (.seq (.block 1
      (.seq (.region [⟨(some 10), (.iaddr 7 (.t 6) (.t 8)), none, []⟩,
        ⟨(some 11), (.load (some 7) (.t 10)), none, []⟩,
        ⟨(some 5), (.alloc [(.i .i64 (0)), (.i .i64 (0)), (.i .i64 (0)), (.i .i64 (0)), (.s []), .ns, .ns]), none, []⟩,
        ⟨none, (.store 7 (.t 5) (.t 11)), none, []⟩] [])
      (.seq (.seq (.region [⟨(some 12), (.off (.t 5) 0), none, []⟩,
        ⟨(some 13), (.load none (.t 12)), none, []⟩,
        ⟨(some 14), (.bin .neq (.t 13) (.c (.i .i64 (3)))), none, []⟩] [])
      (.cond (.t 14)
        (.seq (.region [⟨(some 2), (.mov (.c .ns)), none, []⟩,
          ⟨(some 3), (.mov (.c (.b false))), none, []⟩] [])
        .ret)
        .skip))
      (.region [⟨(some 15), (.mov (.t 2)), none, []⟩,
        ⟨(some 16), (.off (.t 5) 2), none, []⟩,
        ⟨(some 17), (.load (some 5) (.t 16)), none, []⟩,
        ⟨(some 18), (.bsl 5 1 [(.i .i64 (0)), (.i .i64 (0)), (.s []), .ns, .ns] [(0, 5, (.t 17))]), none, []⟩,
        ⟨(some 19), (.app 5 80 (.t 15) (.t 18)), none, []⟩,
        ⟨(some 2), (.mov (.t 19)), none, []⟩] []))))
    (.region [⟨(some 20), (.bin .add (.t 8) (.c (.i .i64 (1)))), none, []⟩,
      ⟨(some 8), (.mov (.t 20)), none, []⟩] []))))
def I84 : IFunc :=
  ⟨(.seq (.region [⟨(some 2), (.mov (.c .ns)), none, []⟩,
      ⟨(some 3), (.mov (.c (.b false))), none, []⟩] [])
    (.seq (.seq (.region [⟨(some 6), (.mov (.t 0)), none, []⟩,
      ⟨(some 7), (.lenk 0 (.t 6)), none, []⟩,
      ⟨(some 8), (.mov (.c (.i .i64 (0)))), none, []⟩] [])
    (.block 0
      (.loop L84a)))
    (.seq (.region [⟨(some 21), (.mov (.t 2)), none, []⟩,
      ⟨(some 2), (.mov (.t 21)), none, []⟩,
      ⟨(some 3), (.mov (.c (.b true))), none, []⟩] [])
    .ret))),
    22, 1, [.t 2, .t 3], 0⟩
theorem tr84 : trFunc Tryz.prog [([], []), ([], []), ([], []), ([], []), ([], []), ([], []), ([], []), ([], []), ([], []), ([], []), ([], [])] 0 Tryz.f84 = some I84 := by kernel_rfl

/-- 'encore/prune.begun'. -/
def I85 : IFunc :=
  ⟨(.seq (.region [⟨(some 2), (.mov (.c .np)), none, []⟩] [])
    (.seq (.region [⟨(some 3), (.bsl 1 1 [(.i .i64 (0))] [(0, 1, (.c (.i .i64 (-1))))]), none, []⟩,
      ⟨(some 4), (.mov (.t 0)), none, []⟩,
      ⟨(some 5), (.call 128 [(.t 3), (.t 4)]), none, []⟩,
      ⟨(some 6), (.build [.ns, .ns] [(1, 1, (.t 5))]), none, []⟩,
      ⟨(some 7), (.box (.t 6)), none, []⟩,
      ⟨(some 2), (.mov (.t 7)), none, []⟩] [])
    .ret)),
    8, 1, [.t 2], 0⟩
theorem tr85 : trFunc Tryz.prog [([], []), ([], [])] 0 Tryz.f85 = some I85 := by kernel_rfl

/-- '(*encore/prune.facts).sure'. -/
def I86 : IFunc :=
  ⟨(.seq (.region [⟨(some 3), (.box (.t 1)), none, []⟩,
      ⟨(some 4), (.mov (.c (.b false))), none, []⟩] [])
    (.seq (.seq (.region [⟨(some 5), (.off (.t 3) 0), none, []⟩,
      ⟨(some 6), (.load none (.t 5)), none, []⟩] [])
    (.block 0
      (.seq (.seq (.region [⟨(some 8), (.bin .eql (.t 6) (.c (.i .i64 (14)))), none, []⟩,
        ⟨(some 7), (.mov (.t 8)), none, []⟩] [])
      (.cond (.t 7)
        .skip
        (.region [⟨(some 9), (.bin .eql (.t 6) (.c (.i .i64 (15)))), none, []⟩,
          ⟨(some 7), (.mov (.t 9)), none, []⟩] [])))
      (.cond (.t 7)
        (.seq (.region [⟨(some 4), (.mov (.c (.b true))), none, []⟩] [])
        .ret)
        (.seq (.region [⟨(some 11), (.bin .eql (.t 6) (.c (.i .i64 (40)))), none, []⟩,
          ⟨(some 10), (.mov (.t 11)), none, []⟩] [])
        (.cond (.t 10)
          (.seq (.region [⟨(some 12), (.mov (.t 0)), none, []⟩,
            ⟨(some 13), (.off (.t 3) 2), none, []⟩,
            ⟨(some 14), (.load none (.t 13)), none, []⟩,
            ⟨(some 15), (.off (.t 3) 1), none, []⟩,
            ⟨(some 16), (.load none (.t 15)), none, []⟩,
            ⟨(some 17), (.bsl 1 1 [(.i .i64 (0))] [(0, 1, (.t 16))]), none, []⟩,
            ⟨(some 18), (.call 129 [(.t 12), (.t 14), (.t 17)]), none, []⟩,
            ⟨(some 4), (.mov (.t 18)), none, []⟩] [])
          .ret)
          (.seq (.seq (.region [⟨(some 20), (.bin .eql (.t 6) (.c (.i .i64 (7)))), none, []⟩,
            ⟨(some 19), (.mov (.t 20)), none, []⟩] [])
          (.cond (.t 19)
            .skip
            (.region [⟨(some 21), (.bin .eql (.t 6) (.c (.i .i64 (42)))), none, []⟩,
              ⟨(some 19), (.mov (.t 21)), none, []⟩] [])))
          (.cond (.t 19)
            (.seq (.region [⟨(some 22), (.mov (.t 0)), none, []⟩,
              ⟨(some 23), (.off (.t 3) 2), none, []⟩,
              ⟨(some 24), (.load none (.t 23)), none, []⟩,
              ⟨(some 25), (.bsl 1 1 [(.i .i64 (0))] [(0, 1, (.c (.i .i64 (2))))]), none, []⟩,
              ⟨(some 26), (.call 129 [(.t 22), (.t 24), (.t 25)]), none, []⟩,
              ⟨(some 4), (.mov (.t 26)), none, []⟩] [])
            .ret)
            (.seq (.region [⟨(some 28), (.bin .eql (.t 6) (.c (.i .i64 (8)))), none, []⟩,
              ⟨(some 27), (.mov (.t 28)), none, []⟩] [])
            (.cond (.t 27)
              (.seq (.region [⟨(some 29), (.mov (.t 0)), none, []⟩,
                ⟨(some 30), (.off (.t 3) 2), none, []⟩,
                ⟨(some 31), (.load none (.t 30)), none, []⟩,
                ⟨(some 32), (.bsl 1 2 [(.i .i64 (0)), (.i .i64 (0))] [(0, 1, (.c (.i .i64 (3)))), (1, 1, (.c (.i .i64 (4))))]), none, []⟩,
                ⟨(some 33), (.call 129 [(.t 29), (.t 31), (.t 32)]), none, []⟩,
                ⟨(some 4), (.mov (.t 33)), none, []⟩] [])
              .ret)
              (.seq (.seq (.region [⟨(some 35), (.bin .eql (.t 6) (.c (.i .i64 (6)))), none, []⟩,
                ⟨(some 34), (.mov (.t 35)), none, []⟩] [])
              (.cond (.t 34)
                .skip
                (.seq (.region [⟨(some 36), (.bin .eql (.t 6) (.c (.i .i64 (10)))), none, []⟩,
                  ⟨(some 34), (.mov (.t 36)), none, []⟩] [])
                (.cond (.t 34)
                  .skip
                  (.seq (.region [⟨(some 37), (.bin .eql (.t 6) (.c (.i .i64 (11)))), none, []⟩,
                    ⟨(some 34), (.mov (.t 37)), none, []⟩] [])
                  (.cond (.t 34)
                    .skip
                    (.seq (.region [⟨(some 38), (.bin .eql (.t 6) (.c (.i .i64 (41)))), none, []⟩,
                      ⟨(some 34), (.mov (.t 38)), none, []⟩] [])
                    (.cond (.t 34)
                      .skip
                      (.seq (.region [⟨(some 39), (.bin .eql (.t 6) (.c (.i .i64 (43)))), none, []⟩,
                        ⟨(some 34), (.mov (.t 39)), none, []⟩] [])
                      (.cond (.t 34)
                        .skip
                        (.seq (.region [⟨(some 40), (.bin .eql (.t 6) (.c (.i .i64 (44)))), none, []⟩,
                          ⟨(some 34), (.mov (.t 40)), none, []⟩] [])
                        (.cond (.t 34)
                          .skip
                          (.seq (.region [⟨(some 41), (.bin .eql (.t 6) (.c (.i .i64 (45)))), none, []⟩,
                            ⟨(some 34), (.mov (.t 41)), none, []⟩] [])
                          (.cond (.t 34)
                            .skip
                            (.seq (.region [⟨(some 42), (.bin .eql (.t 6) (.c (.i .i64 (46)))), none, []⟩,
                              ⟨(some 34), (.mov (.t 42)), none, []⟩] [])
                            (.cond (.t 34)
                              .skip
                              (.seq (.region [⟨(some 43), (.bin .eql (.t 6) (.c (.i .i64 (47)))), none, []⟩,
                                ⟨(some 34), (.mov (.t 43)), none, []⟩] [])
                              (.cond (.t 34)
                                .skip
                                (.seq (.region [⟨(some 44), (.bin .eql (.t 6) (.c (.i .i64 (48)))), none, []⟩,
                                  ⟨(some 34), (.mov (.t 44)), none, []⟩] [])
                                (.cond (.t 34)
                                  .skip
                                  (.region [⟨(some 45), (.bin .eql (.t 6) (.c (.i .i64 (49)))), none, []⟩,
                                    ⟨(some 34), (.mov (.t 45)), none, []⟩] [])))))))))))))))))))))
              (.cond (.t 34)
                (.seq (.region [⟨(some 46), (.mov (.t 0)), none, []⟩,
                  ⟨(some 47), (.off (.t 3) 2), none, []⟩,
                  ⟨(some 48), (.load none (.t 47)), none, []⟩,
                  ⟨(some 49), (.bsl 1 1 [(.i .i64 (0))] [(0, 1, (.c (.i .i64 (1))))]), none, []⟩,
                  ⟨(some 50), (.call 129 [(.t 46), (.t 48), (.t 49)]), none, []⟩,
                  ⟨(some 4), (.mov (.t 50)), none, []⟩] [])
                .ret)
                .skip))))))))))))
    (.seq (.region [⟨(some 4), (.mov (.c (.b false))), none, []⟩] [])
    .ret))),
    51, 2, [.t 4], 0⟩
theorem tr86 : trFunc Tryz.prog [([], []), ([], []), ([], []), ([], []), ([], []), ([], []), ([], []), ([], []), ([], []), ([], []), ([], []), ([], []), ([], []), ([], []), ([], []), ([], []), ([], []), ([], []), ([], []), ([], []), ([], []), ([], []), ([], []), ([], []), ([], []), ([], []), ([], []), ([], []), ([], []), ([], []), ([], []), ([], []), ([], []), ([], []), ([], []), ([], []), ([], []), ([], [])] 0 Tryz.f86 = some I86 := by kernel_rfl

/-- 'slices.IndexFunc[[]encore/lift.Ins,encore/lift.Ins]'. -/
def L87a : ICode :=
  (.seq (.region [⟨(some 9), (.bin .lss (.t 8) (.t 7)), none, []⟩] [])
    (.seq (.cond (.t 9)
      .skip
      (.exit 0))
    (.seq (.block 1
      (.seq (.region [⟨(some 10), (.mov (.t 8)), none, []⟩,
        ⟨(some 5), (.mov (.t 10)), none, []⟩] [])
      (.seq (.region [⟨(some 11), (.mov (.t 1)), none, []⟩,
        ⟨(some 12), (.mov (.t 0)), none, []⟩,
        ⟨(some 13), (.mov (.t 5)), none, []⟩,
        ⟨(some 14), (.iaddr 5 (.t 12) (.t 13)), none, []⟩,
        ⟨(some 15), (.load (some 5) (.t 14)), none, []⟩,
        ⟨(some 16), (.callv (.t 11) [(.t 15)]), none, []⟩] [])
      (.cond (.t 16)
        (.seq (.region [⟨(some 17), (.mov (.t 5)), none, []⟩,
          ⟨(some 4), (.mov (.t 17)), none, []⟩] [])
        .ret)
        .skip))))
    (.region [⟨(some 18), (.bin .add (.t 8) (.c (.i .i64 (1)))), none, []⟩,
      ⟨(some 8), (.mov (.t 18)), none, []⟩] []))))
def I87 : IFunc :=
  ⟨(.seq (.region [⟨(some 4), (.mov (.c (.i .i64 (0)))), none, []⟩] [])
    (.seq (.seq (.region [⟨(some 6), (.mov (.t 0)), none, []⟩,
      ⟨(some 7), (.lenk 0 (.t 6)), none, []⟩,
      ⟨(some 8), (.mov (.c (.i .i64 (0)))), none, []⟩] [])
    (.block 0
      (.loop L87a)))
    (.seq (.region [⟨(some 4), (.mov (.c (.i .i64 (-1)))), none, []⟩] [])
    .ret))),
    19, 2, [.t 4], 0⟩
theorem tr87 : trFunc Tryz.prog [([], []), ([], []), ([], []), ([], []), ([], []), ([], []), ([], []), ([], []), ([], []), ([], [])] 0 Tryz.f87 = some I87 := by kernel_rfl

/-- 'encore/prune.once$1'. -/
def I88 : IFunc :=
  ⟨(.seq (.region [⟨(some 2), (.box (.t 0)), none, []⟩,
      ⟨(some 3), (.mov (.c (.b false))), none, []⟩] [])
    (.seq (.region [⟨(some 4), (.load (some 5) (.t 1)), none, []⟩,
      ⟨(some 5), (.load (some 5) (.t 2)), none, []⟩,
      ⟨(some 6), (.call 89 [(.t 4), (.t 5)]), none, []⟩,
      ⟨(some 3), (.mov (.t 6)), none, []⟩] [])
    .ret)),
    7, 2, [.t 3], 0⟩
theorem tr88 : trFunc Tryz.prog [([], []), ([], [])] 0 Tryz.f88 = some I88 := by kernel_rfl

/-- 'encore/prune.alike'. -/
def I89 : IFunc :=
  ⟨(.seq (.region [⟨(some 2), (.box (.t 0)), none, []⟩,
      ⟨(some 3), (.box (.t 1)), none, []⟩,
      ⟨(some 4), (.mov (.c (.b false))), none, []⟩] [])
    (.seq (.region [⟨(some 5), (.off (.t 2) 0), none, []⟩,
      ⟨(some 6), (.load none (.t 5)), none, []⟩,
      ⟨(some 7), (.off (.t 2) 1), none, []⟩,
      ⟨(some 8), (.load none (.t 7)), none, []⟩,
      ⟨(some 9), (.off (.t 2) 3), none, []⟩,
      ⟨(some 10), (.load none (.t 9)), none, []⟩,
      ⟨(some 11), (.build [(.i .i64 (0)), (.i .i64 (0)), (.s [])] [(0, 1, (.t 6)), (1, 1, (.t 8)), (2, 1, (.t 10))]), none, []⟩,
      ⟨(some 12), (.off (.t 3) 0), none, []⟩,
      ⟨(some 13), (.load none (.t 12)), none, []⟩,
      ⟨(some 14), (.off (.t 3) 1), none, []⟩,
      ⟨(some 15), (.load none (.t 14)), none, []⟩,
      ⟨(some 16), (.off (.t 3) 3), none, []⟩,
      ⟨(some 17), (.load none (.t 16)), none, []⟩,
      ⟨(some 18), (.build [(.i .i64 (0)), (.i .i64 (0)), (.s [])] [(0, 1, (.t 13)), (1, 1, (.t 15)), (2, 1, (.t 17))]), none, []⟩,
      ⟨(some 19), (.eqAg [1, 1, 2] false (.t 11) (.t 18)), none, []⟩,
      ⟨(some 20), (.mov (.t 19)), none, []⟩,
      ⟨(some 21), (.off (.t 2) 2), (some (20, true)), []⟩,
      ⟨(some 22), (.load none (.t 21)), (some (20, true)), []⟩,
      ⟨(some 23), (.off (.t 3) 2), (some (20, true)), []⟩,
      ⟨(some 24), (.load none (.t 23)), (some (20, true)), []⟩,
      ⟨(some 25), (.call 130 [(.t 22), (.t 24), (.f 131)]), (some (20, true)), []⟩,
      ⟨(some 26), (.pick (.t 20) (.t 25) (.c (.b false))), none, []⟩,
      ⟨(some 27), (.mov (.t 26)), none, []⟩,
      ⟨(some 28), (.off (.t 2) 4), (some (27, true)), []⟩,
      ⟨(some 29), (.load none (.t 28)), (some (27, true)), []⟩,
      ⟨(some 30), (.off (.t 3) 4), (some (27, true)), []⟩,
      ⟨(some 31), (.load none (.t 30)), (some (27, true)), []⟩,
      ⟨(some 32), (.call 132 [(.t 29), (.t 31)]), (some (27, true)), []⟩,
      ⟨(some 33), (.pick (.t 27) (.t 32) (.c (.b false))), none, []⟩,
      ⟨(some 4), (.mov (.t 33)), none, []⟩] [])
    .ret)),
    34, 2, [.t 4], 0⟩
theorem tr89 : trFunc Tryz.prog [([], []), ([], [])] 0 Tryz.f89 = some I89 := by kernel_rfl

/-- '(*encore/prune.facts).add'. -/
def I90 : IFunc :=
  ⟨(.seq (.region [⟨(some 3), (.box (.t 1)), none, []⟩] [])
    (.seq (.seq (.region [⟨(some 4), (.off (.t 3) 0), none, []⟩,
      ⟨(some 5), (.load none (.t 4)), none, []⟩,
      ⟨(some 6), (.bin .eql (.t 5) (.c (.i .i64 (40)))), none, []⟩,
      ⟨(some 7), (.mov (.t 6)), none, []⟩,
      ⟨(some 8), (.off (.t 3) 2), (some (7, true)), []⟩,
      ⟨(some 9), (.load none (.t 8)), (some (7, true)), []⟩,
      ⟨(some 10), (.iaddr 7 (.t 9) (.c (.i .i64 (0)))), (some (7, true)), []⟩,
      ⟨(some 11), (.off (.t 10) 0), (some (7, true)), []⟩,
      ⟨(some 12), (.load none (.t 11)), (some (7, true)), []⟩,
      ⟨(some 13), (.bin .eql (.t 12) (.c (.i .i64 (1)))), (some (7, true)), []⟩,
      ⟨(some 14), (.pick (.t 7) (.t 13) (.c (.b false))), none, []⟩] [])
    (.cond (.t 14)
      (.region [⟨(some 15), (.mov (.t 0)), none, []⟩,
        ⟨(some 16), (.nck (.t 15)), none, []⟩,
        ⟨(some 17), (.off (.t 16) 1), none, []⟩,
        ⟨(some 18), (.load none (.t 17)), none, []⟩,
        ⟨(some 19), (.off (.t 3) 2), none, []⟩,
        ⟨(some 20), (.load none (.t 19)), none, []⟩,
        ⟨(some 21), (.iaddr 7 (.t 20) (.c (.i .i64 (0)))), none, []⟩,
        ⟨(some 22), (.off (.t 21) 1), none, []⟩,
        ⟨(some 23), (.load none (.t 22)), none, []⟩,
        ⟨(some 24), (.off (.t 3) 1), none, []⟩,
        ⟨(some 25), (.load none (.t 24)), none, []⟩,
        ⟨(some 26), (.iaddr 1 (.t 18) (.t 23)), none, []⟩,
        ⟨none, (.store 1 (.t 26) (.t 25)), none, []⟩] [])
      .skip))
    (.region [⟨(some 27), (.mov (.t 0)), none, []⟩,
      ⟨(some 28), (.mov (.t 0)), none, []⟩,
      ⟨(some 29), (.nck (.t 28)), none, []⟩,
      ⟨(some 30), (.off (.t 29) 0), none, []⟩,
      ⟨(some 31), (.load none (.t 30)), none, []⟩,
      ⟨(some 32), (.load (some 5) (.t 3)), none, []⟩,
      ⟨(some 33), (.bsl 5 1 [(.i .i64 (0)), (.i .i64 (0)), .ns, (.s []), .ns] [(0, 5, (.t 32))]), none, []⟩,
      ⟨(some 34), (.app 5 80 (.t 31) (.t 33)), none, []⟩,
      ⟨(some 35), (.nck (.t 27)), none, []⟩,
      ⟨(some 36), (.off (.t 35) 0), none, []⟩,
      ⟨none, (.store 1 (.t 36) (.t 34)), none, []⟩] []))),
    37, 2, [], 0⟩
theorem tr90 : trFunc Tryz.prog [([], []), ([], []), ([0, 1, 2, 3, 4, 5, 6, 7, 8, 9, 10, 11, 12], []), ([], []), ([0, 1, 2, 3, 4, 5, 6, 7, 8, 9, 10], [])] 0 Tryz.f90 = some I90 := by kernel_rfl

/-- 'encore/prune.turner$1'. -/
def L91a : ICode :=
  (.seq (.region [⟨(some 9), (.bin .lss (.t 8) (.t 7)), none, []⟩] [])
    (.seq (.cond (.t 9)
      .skip
      (.exit 0))
    (.seq (.block 1
      (.seq (.region [⟨(some 10), (.iaddr 7 (.t 6) (.t 8)), none, []⟩,
        ⟨(some 11), (.load (some 7) (.t 10)), none, []⟩,
        ⟨(some 5), (.alloc [(.i .i64 (0)), (.i .i64 (0)), (.i .i64 (0)), (.i .i64 (0)), (.s []), .ns, .ns]), none, []⟩,
        ⟨none, (.store 7 (.t 5) (.t 11)), none, []⟩] [])
      (.seq (.seq (.region [⟨(some 12), (.off (.t 5) 0), none, []⟩,
        ⟨(some 13), (.load none (.t 12)), none, []⟩,
        ⟨(some 14), (.bin .eql (.t 13) (.c (.i .i64 (2)))), none, []⟩] [])
      (.cond (.t 14)
        (.region [⟨(some 15), (.load none (.t 1)), none, []⟩,
          ⟨(some 16), (.nck (.t 15)), none, []⟩,
          ⟨(some 17), (.load none (.t 16)), none, []⟩,
          ⟨(some 18), (.off (.t 5) 1), none, []⟩,
          ⟨(some 19), (.load none (.t 18)), none, []⟩,
          ⟨(some 20), (.iaddr 7 (.t 17) (.t 19)), none, []⟩,
          ⟨(some 21), (.load (some 7) (.t 20)), none, []⟩,
          ⟨none, (.store 7 (.t 5) (.t 21)), none, []⟩] [])
        .skip))
      (.seq (.region [⟨(some 22), (.off (.t 5) 2), none, []⟩,
        ⟨(some 23), (.load (some 5) (.t 22)), none, []⟩,
        ⟨(some 24), (.call 92 [(.t 23)]), none, []⟩,
        ⟨(some 25), (.off (.t 5) 2), none, []⟩,
        ⟨none, (.store 5 (.t 25) (.t 24)), none, []⟩] [])
      (.region [⟨(some 26), (.mov (.t 3)), none, []⟩,
        ⟨(some 27), (.load (some 7) (.t 5)), none, []⟩,
        ⟨(some 28), (.bsl 7 1 [(.i .i64 (0)), (.i .i64 (0)), (.i .i64 (0)), (.i .i64 (0)), (.s []), .ns, .ns] [(0, 7, (.t 27))]), none, []⟩,
        ⟨(some 29), (.app 7 96 (.t 26) (.t 28)), none, []⟩,
        ⟨(some 3), (.mov (.t 29)), none, []⟩] [])))))
    (.region [⟨(some 30), (.bin .add (.t 8) (.c (.i .i64 (1)))), none, []⟩,
      ⟨(some 8), (.mov (.t 30)), none, []⟩] []))))
def I91 : IFunc :=
  ⟨(.seq (.region [⟨(some 3), (.mov (.c .ns)), none, []⟩] [])
    (.seq (.seq (.region [⟨(some 6), (.mov (.t 0)), none, []⟩,
      ⟨(some 7), (.lenk 0 (.t 6)), none, []⟩,
      ⟨(some 8), (.mov (.c (.i .i64 (0)))), none, []⟩] [])
    (.block 0
      (.loop L91a)))
    (.seq (.region [⟨(some 31), (.mov (.t 3)), none, []⟩,
      ⟨(some 3), (.mov (.t 31)), none, []⟩] [])
    .ret))),
    32, 2, [.t 3], 0⟩
theorem tr91 : trFunc Tryz.prog [([], []), ([], []), ([], []), ([], []), ([], []), ([], []), ([0, 1, 2, 3, 4, 5, 6, 7], []), ([], []), ([], []), ([], []), ([], []), ([], [])] 0 Tryz.f91 = some I91 := by kernel_rfl

/-- 'encore/prune.own'. -/
def L92a : ICode :=
  (.seq (.region [⟨(some 16), (.bin .lss (.t 15) (.t 14)), none, []⟩] [])
    (.seq (.cond (.t 16)
      .skip
      (.exit 0))
    (.seq (.block 1
      (.seq (.region [⟨(some 17), (.mov (.t 15)), none, []⟩,
        ⟨(some 3), (.mov (.t 17)), none, []⟩] [])
      (.region [⟨(some 18), (.off (.t 1) 3), none, []⟩,
        ⟨(some 19), (.load none (.t 18)), none, []⟩,
        ⟨(some 20), (.mov (.t 3)), none, []⟩,
        ⟨(some 21), (.off (.t 1) 3), none, []⟩,
        ⟨(some 22), (.load none (.t 21)), none, []⟩,
        ⟨(some 23), (.mov (.t 3)), none, []⟩,
        ⟨(some 24), (.iaddr 5 (.t 22) (.t 23)), none, []⟩,
        ⟨(some 25), (.load (some 5) (.t 24)), none, []⟩,
        ⟨(some 26), (.call 92 [(.t 25)]), none, [(19, (.load none (.t 18)), none)]⟩,
        ⟨(some 27), (.iaddr 5 (.t 19) (.t 20)), none, []⟩,
        ⟨none, (.store 5 (.t 27) (.t 26)), none, []⟩] [])))
    (.region [⟨(some 28), (.bin .add (.t 15) (.c (.i .i64 (1)))), none, []⟩,
      ⟨(some 15), (.mov (.t 28)), none, []⟩] []))))
def I92 : IFunc :=
  ⟨(.seq (.region [⟨(some 1), (.box (.t 0)), none, []⟩,
      ⟨(some 2), (.alloc [(.i .i64 (0)), (.i .i64 (0)), (.s []), .ns, .ns]), none, []⟩] [])
    (.seq (.region [⟨(some 4), (.off (.t 1) 4), none, []⟩,
      ⟨(some 5), (.load none (.t 4)), none, []⟩,
      ⟨(some 7), (.off (.t 1) 3), none, []⟩,
      ⟨(some 8), (.load none (.t 7)), none, []⟩,
      ⟨(some 6), (.call 45 [(.t 5)]), none, [(8, (.load none (.t 7)), none)]⟩,
      ⟨(some 10), (.off (.t 1) 4), none, []⟩,
      ⟨(some 9), (.call 63 [(.t 8)]), none, []⟩,
      ⟨none, (.store 1 (.t 10) (.t 6)), none, []⟩,
      ⟨(some 11), (.off (.t 1) 3), none, []⟩,
      ⟨none, (.store 1 (.t 11) (.t 9)), none, []⟩] [])
    (.seq (.seq (.region [⟨(some 12), (.off (.t 1) 3), none, []⟩,
      ⟨(some 13), (.load none (.t 12)), none, []⟩,
      ⟨(some 14), (.lenk 0 (.t 13)), none, []⟩,
      ⟨(some 15), (.mov (.c (.i .i64 (0)))), none, []⟩] [])
    (.block 0
      (.loop L92a)))
    (.seq (.region [⟨(some 29), (.load (some 5) (.t 1)), none, []⟩,
      ⟨none, (.store 5 (.t 2) (.t 29)), none, []⟩] [])
    .ret)))),
    30, 1, [.c 2 (some 5)], 0⟩
theorem tr92 : trFunc Tryz.prog [([], []), ([0, 1, 3, 4, 2, 6, 5, 7, 8, 9], []), ([], []), ([], []), ([], []), ([], []), ([0, 1, 2, 3, 4, 5, 6, 7, 8, 9, 10], []), ([], []), ([], [])] 0 Tryz.f92 = some I92 := by kernel_rfl

/-- 'encore/prune.needs$1'. -/
def L93a : ICode :=
  (.seq (.region [⟨(some 8), (.bin .lss (.t 7) (.t 6)), none, []⟩] [])
    (.seq (.cond (.t 8)
      .skip
      (.exit 0))
    (.seq (.block 1
      (.seq (.region [⟨(some 9), (.iaddr 7 (.t 5) (.t 7)), none, []⟩,
        ⟨(some 10), (.load (some 7) (.t 9)), none, []⟩,
        ⟨(some 4), (.alloc [(.i .i64 (0)), (.i .i64 (0)), (.i .i64 (0)), (.i .i64 (0)), (.s []), .ns, .ns]), none, []⟩,
        ⟨none, (.store 7 (.t 4) (.t 10)), none, []⟩] [])
      (.seq (.region [⟨(some 11), (.off (.t 4) 0), none, []⟩,
        ⟨(some 12), (.load none (.t 11)), none, []⟩,
        ⟨(some 13), (.bin .eql (.t 12) (.c (.i .i64 (2)))), none, []⟩] [])
      (.cond (.t 13)
        (.region [⟨(some 14), (.load none (.t 1)), none, []⟩,
          ⟨(some 15), (.off (.t 4) 1), none, []⟩,
          ⟨(some 16), (.load none (.t 15)), none, []⟩,
          ⟨(some 17), (.iaddr 1 (.t 14) (.t 16)), none, []⟩,
          ⟨none, (.store 1 (.t 17) (.c (.b true))), none, []⟩] [])
        .skip))))
    (.region [⟨(some 18), (.bin .add (.t 7) (.c (.i .i64 (1)))), none, []⟩,
      ⟨(some 7), (.mov (.t 18)), none, []⟩] []))))
def I93 : IFunc :=
  ⟨(.seq (.region [⟨(some 5), (.mov (.t 0)), none, []⟩,
      ⟨(some 6), (.lenk 0 (.t 5)), none, []⟩,
      ⟨(some 7), (.mov (.c (.i .i64 (0)))), none, []⟩] [])
    (.block 0
      (.loop L93a))),
    19, 2, [], 0⟩
theorem tr93 : trFunc Tryz.prog [([], []), ([], []), ([], []), ([], []), ([], []), ([], []), ([], []), ([], [])] 0 Tryz.f93 = some I93 := by kernel_rfl

/-- 'encore/fuse.rows'. -/
def I94 : IFunc :=
  ⟨(.seq (.region [⟨(some 0), (.alloc [.nf, .nf, .nf, .nf, .nf]), none, []⟩] [])
    (.seq (.region [⟨(some 1), (.call 133 [(.c (.i .i64 (43))), (.c (.i .i64 (48))), (.c (.i .i64 (1)))]), none, []⟩,
      ⟨(some 2), (.call 133 [(.c (.i .i64 (44))), (.c (.i .i64 (48))), (.c (.i .i64 (-1)))]), none, []⟩,
      ⟨(some 3), (.call 133 [(.c (.i .i64 (46))), (.c (.i .i64 (49))), (.c (.i .i64 (1)))]), none, []⟩,
      ⟨(some 4), (.build [.nf, .nf, .nf, .nf, .nf] [(0, 1, (.t 1)), (1, 1, (.f 134)), (2, 1, (.t 2)), (3, 1, (.t 3)), (4, 1, (.f 135))]), none, []⟩,
      ⟨none, (.store 5 (.t 0) (.t 4)), none, []⟩] [])
    .ret)),
    5, 0, [.c 0 (some 5)], 0⟩
theorem tr94 : trFunc Tryz.prog [([], []), ([], [])] 0 Tryz.f94 = some I94 := by kernel_rfl

/-- '(encore/lift.Ins).needs'. -/
def I95 : IFunc :=
  ⟨(.seq (.region [⟨(some 1), (.box (.t 0)), none, []⟩,
      ⟨(some 2), (.mov (.c (.i .i64 (0)))), none, []⟩,
      ⟨(some 3), (.mov (.c (.i .i64 (0)))), none, []⟩,
      ⟨(some 4), (.mov (.c (.b false))), none, []⟩] [])
    (.seq (.region [⟨(some 6), (.off (.t 1) 1), none, []⟩,
      ⟨(some 7), (.load none (.t 6)), none, []⟩,
      ⟨(some 8), (.off (.t 1) 3), none, []⟩,
      ⟨(some 9), (.load none (.t 8)), none, []⟩,
      ⟨(some 10), (.off (.t 1) 4), none, []⟩,
      ⟨(some 11), (.load none (.t 10)), none, []⟩,
      ⟨(some 12), (.lenk 0 (.t 11)), none, []⟩,
      ⟨(some 13), (.bin .gtr (.t 12) (.c (.i .i64 (0)))), none, []⟩,
      ⟨(some 14), (.build [(.i .i64 (0)), (.s []), (.b false)] [(0, 1, (.t 7)), (1, 1, (.t 9)), (2, 1, (.t 13))]), none, []⟩,
      ⟨(some 5), (.alloc [(.i .i64 (0)), (.s []), (.b false)]), none, []⟩,
      ⟨none, (.store 3 (.t 5) (.t 14)), none, []⟩] [])
    (.seq (.block 0
      (.seq (.region [⟨(some 16), (.off (.t 1) 0), none, []⟩,
        ⟨(some 17), (.load none (.t 16)), none, []⟩,
        ⟨(some 18), (.bin .eql (.t 17) (.c (.i .i64 (20)))), none, []⟩,
        ⟨(some 15), (.mov (.t 18)), none, []⟩] [])
      (.cond (.t 15)
        (.seq (.region [⟨(some 19), (.load (some 3) (.t 5)), none, []⟩,
          ⟨(some 20), (.load (some 3) (.g 0)), none, []⟩,
          ⟨(some 21), (.eqAg [1, 2, 0] false (.t 19) (.t 20)), none, []⟩,
          ⟨(some 2), (.mov (.c (.i .i64 (0)))), none, []⟩,
          ⟨(some 3), (.mov (.c (.i .i64 (8)))), none, []⟩,
          ⟨(some 4), (.mov (.t 21)), none, []⟩] [])
        .ret)
        (.seq (.region [⟨(some 23), (.off (.t 1) 0), none, []⟩,
          ⟨(some 24), (.load none (.t 23)), none, []⟩,
          ⟨(some 25), (.bin .eql (.t 24) (.c (.i .i64 (21)))), none, []⟩,
          ⟨(some 22), (.mov (.t 25)), none, []⟩] [])
        (.cond (.t 22)
          (.seq (.region [⟨(some 26), (.off (.t 1) 4), none, []⟩,
            ⟨(some 27), (.load none (.t 26)), none, []⟩,
            ⟨(some 28), (.lenk 0 (.t 27)), none, []⟩,
            ⟨(some 29), (.off (.t 1) 4), none, []⟩,
            ⟨(some 30), (.load none (.t 29)), none, []⟩,
            ⟨(some 31), (.lenk 0 (.t 30)), none, []⟩,
            ⟨(some 32), (.off (.t 1) 1), none, []⟩,
            ⟨(some 33), (.load none (.t 32)), none, []⟩,
            ⟨(some 34), (.bin .eql (.t 33) (.c (.i .i64 (0)))), none, []⟩,
            ⟨(some 35), (.mov (.t 34)), none, []⟩,
            ⟨(some 36), (.off (.t 1) 3), (some (35, true)), []⟩,
            ⟨(some 37), (.load none (.t 36)), (some (35, true)), []⟩,
            ⟨(some 38), (.bin .eql (.t 37) (.c (.s []))), (some (35, true)), []⟩,
            ⟨(some 39), (.pick (.t 35) (.t 38) (.c (.b false))), none, []⟩,
            ⟨(some 40), (.mov (.t 39)), none, []⟩,
            ⟨(some 41), (.off (.t 1) 4), (some (40, true)), []⟩,
            ⟨(some 42), (.load none (.t 41)), (some (40, true)), []⟩,
            ⟨(some 43), (.call 136 [(.t 42)]), (some (40, true)), [(27, (.load none (.t 26)), none), (28, (.lenk 0 (.t 27)), none), (30, (.load none (.t 29)), none), (31, (.lenk 0 (.t 30)), none)]⟩,
            ⟨(some 44), (.pick (.t 40) (.t 43) (.c (.b false))), none, []⟩,
            ⟨(some 2), (.mov (.t 28)), none, []⟩,
            ⟨(some 3), (.mov (.t 31)), none, []⟩,
            ⟨(some 4), (.mov (.t 44)), none, []⟩] [])
          .ret)
          (.seq (.region [⟨(some 46), (.off (.t 1) 0), none, []⟩,
            ⟨(some 47), (.load none (.t 46)), none, []⟩,
            ⟨(some 48), (.bin .eql (.t 47) (.c (.i .i64 (22)))), none, []⟩,
            ⟨(some 45), (.mov (.t 48)), none, []⟩] [])
          (.cond (.t 45)
            (.seq (.region [⟨(some 49), (.load (some 3) (.t 5)), none, []⟩,
              ⟨(some 50), (.off (.t 1) 3), none, []⟩,
              ⟨(some 51), (.load none (.t 50)), none, []⟩,
              ⟨(some 52), (.build [(.i .i64 (0)), (.s []), (.b false)] [(1, 1, (.t 51))]), none, []⟩,
              ⟨(some 53), (.eqAg [1, 2, 0] false (.t 49) (.t 52)), none, []⟩,
              ⟨(some 54), (.mov (.t 53)), none, []⟩,
              ⟨(some 55), (.off (.t 1) 3), (some (54, true)), []⟩,
              ⟨(some 56), (.load none (.t 55)), (some (54, true)), []⟩,
              ⟨(some 57), (.bsl 1 1 [(.s [])] [(0, 1, (.t 56))]), (some (54, true)), []⟩,
              ⟨(some 58), (.call 136 [(.t 57)]), (some (54, true)), []⟩,
              ⟨(some 59), (.pick (.t 54) (.t 58) (.c (.b false))), none, []⟩,
              ⟨(some 2), (.mov (.c (.i .i64 (1)))), none, []⟩,
              ⟨(some 3), (.mov (.c (.i .i64 (1)))), none, []⟩,
              ⟨(some 4), (.mov (.t 59)), none, []⟩] [])
            .ret)
            (.seq (.region [⟨(some 61), (.off (.t 1) 0), none, []⟩,
              ⟨(some 62), (.load none (.t 61)), none, []⟩,
              ⟨(some 63), (.bin .eql (.t 62) (.c (.i .i64 (23)))), none, []⟩,
              ⟨(some 60), (.mov (.t 63)), none, []⟩] [])
            (.cond (.t 60)
              (.seq (.region [⟨(some 64), (.load (some 3) (.t 5)), none, []⟩,
                ⟨(some 65), (.off (.t 1) 3), none, []⟩,
                ⟨(some 66), (.load none (.t 65)), none, []⟩,
                ⟨(some 67), (.build [(.i .i64 (0)), (.s []), (.b false)] [(1, 1, (.t 66))]), none, []⟩,
                ⟨(some 68), (.eqAg [1, 2, 0] false (.t 64) (.t 67)), none, []⟩,
                ⟨(some 69), (.mov (.t 68)), none, []⟩,
                ⟨(some 70), (.off (.t 1) 3), (some (69, true)), []⟩,
                ⟨(some 71), (.load none (.t 70)), (some (69, true)), []⟩,
                ⟨(some 72), (.call 137 [(.t 71)]), (some (69, true)), []⟩,
                ⟨(some 73), (.pick (.t 69) (.t 72) (.c (.b false))), none, []⟩,
                ⟨(some 2), (.mov (.c (.i .i64 (1)))), none, []⟩,
                ⟨(some 3), (.mov (.c (.i .i64 (1)))), none, []⟩,
                ⟨(some 4), (.mov (.t 73)), none, []⟩] [])
              .ret)
              (.seq (.region [⟨(some 75), (.off (.t 1) 0), none, []⟩,
                ⟨(some 76), (.load none (.t 75)), none, []⟩,
                ⟨(some 77), (.bin .eql (.t 76) (.c (.i .i64 (40)))), none, []⟩,
                ⟨(some 74), (.mov (.t 77)), none, []⟩] [])
              (.cond (.t 74)
                (.seq (.region [⟨(some 78), (.load (some 3) (.t 5)), none, []⟩,
                  ⟨(some 79), (.off (.t 1) 1), none, []⟩,
                  ⟨(some 80), (.load none (.t 79)), none, []⟩,
                  ⟨(some 81), (.build [(.i .i64 (0)), (.s []), (.b false)] [(0, 1, (.t 80))]), none, []⟩,
                  ⟨(some 82), (.eqAg [1, 2, 0] false (.t 78) (.t 81)), none, []⟩,
                  ⟨(some 83), (.mov (.t 82)), none, []⟩,
                  ⟨(some 84), (.off (.t 1) 1), (some (83, true)), []⟩,
                  ⟨(some 85), (.load none (.t 84)), (some (83, true)), []⟩,
                  ⟨(some 86), (.bin .geq (.t 85) (.c (.i .i64 (0)))), (some (83, true)), []⟩,
                  ⟨(some 87), (.pick (.t 83) (.t 86) (.c (.b false))), none, []⟩,
                  ⟨(some 88), (.mov (.t 87)), none, []⟩,
                  ⟨(some 89), (.off (.t 1) 1), (some (88, true)), []⟩,
                  ⟨(some 90), (.load none (.t 89)), (some (88, true)), []⟩,
                  ⟨(some 91), (.bin .leq (.t 90) (.c (.i .i64 (6)))), (some (88, true)), []⟩,
                  ⟨(some 92), (.pick (.t 88) (.t 91) (.c (.b false))), none, []⟩,
                  ⟨(some 2), (.mov (.c (.i .i64 (1)))), none, []⟩,
                  ⟨(some 3), (.mov (.c (.i .i64 (1)))), none, []⟩,
                  ⟨(some 4), (.mov (.t 92)), none, []⟩] [])
                .ret)
                (.seq (.seq (.region [⟨(some 94), (.off (.t 1) 0), none, []⟩,
                  ⟨(some 95), (.load none (.t 94)), none, []⟩,
                  ⟨(some 96), (.bin .eql (.t 95) (.c (.i .i64 (48)))), none, []⟩,
                  ⟨(some 93), (.mov (.t 96)), none, []⟩] [])
                (.cond (.t 93)
                  .skip
                  (.region [⟨(some 97), (.off (.t 1) 0), none, []⟩,
                    ⟨(some 98), (.load none (.t 97)), none, []⟩,
                    ⟨(some 99), (.bin .eql (.t 98) (.c (.i .i64 (49)))), none, []⟩,
                    ⟨(some 93), (.mov (.t 99)), none, []⟩] [])))
                (.cond (.t 93)
                  (.seq (.region [⟨(some 100), (.load (some 3) (.t 5)), none, []⟩,
                    ⟨(some 101), (.off (.t 1) 1), none, []⟩,
                    ⟨(some 102), (.load none (.t 101)), none, []⟩,
                    ⟨(some 103), (.build [(.i .i64 (0)), (.s []), (.b false)] [(0, 1, (.t 102))]), none, []⟩,
                    ⟨(some 104), (.eqAg [1, 2, 0] false (.t 100) (.t 103)), none, []⟩,
                    ⟨(some 2), (.mov (.c (.i .i64 (1)))), none, []⟩,
                    ⟨(some 3), (.mov (.c (.i .i64 (1)))), none, []⟩,
                    ⟨(some 4), (.mov (.t 104)), none, []⟩] [])
                  .ret)
                  (.seq (.seq (.region [⟨(some 106), (.off (.t 1) 0), none, []⟩,
                    ⟨(some 107), (.load none (.t 106)), none, []⟩,
                    ⟨(some 108), (.bin .geq (.t 107) (.c (.i .i64 (43)))), none, []⟩,
                    ⟨(some 109), (.mov (.t 108)), none, []⟩,
                    ⟨(some 110), (.off (.t 1) 0), (some (109, true)), []⟩,
                    ⟨(some 111), (.load none (.t 110)), (some (109, true)), []⟩,
                    ⟨(some 112), (.bin .leq (.t 111) (.c (.i .i64 (47)))), (some (109, true)), []⟩,
                    ⟨(some 113), (.pick (.t 109) (.t 112) (.c (.b false))), none, []⟩,
                    ⟨(some 105), (.mov (.t 113)), none, []⟩] [])
                  (.cond (.t 105)
                    .skip
                    (.region [⟨(some 114), (.off (.t 1) 0), none, []⟩,
                      ⟨(some 115), (.load none (.t 114)), none, []⟩,
                      ⟨(some 116), (.bin .geq (.t 115) (.c (.i .i64 (9)))), none, []⟩,
                      ⟨(some 117), (.mov (.t 116)), none, []⟩,
                      ⟨(some 118), (.off (.t 1) 0), (some (117, true)), []⟩,
                      ⟨(some 119), (.load none (.t 118)), (some (117, true)), []⟩,
                      ⟨(some 120), (.bin .leq (.t 119) (.c (.i .i64 (19)))), (some (117, true)), []⟩,
                      ⟨(some 121), (.pick (.t 117) (.t 120) (.c (.b false))), none, []⟩,
                      ⟨(some 105), (.mov (.t 121)), none, []⟩] [])))
                  (.cond (.t 105)
                    (.seq (.region [⟨(some 122), (.load (some 3) (.t 5)), none, []⟩,
                      ⟨(some 123), (.load (some 3) (.g 0)), none, []⟩,
                      ⟨(some 124), (.eqAg [1, 2, 0] false (.t 122) (.t 123)), none, []⟩,
                      ⟨(some 2), (.mov (.c (.i .i64 (2)))), none, []⟩,
                      ⟨(some 3), (.mov (.c (.i .i64 (2)))), none, []⟩,
                      ⟨(some 4), (.mov (.t 124)), none, []⟩] [])
                    .ret)
                    (.seq (.seq (.region [⟨(some 126), (.off (.t 1) 0), none, []⟩,
                      ⟨(some 127), (.load none (.t 126)), none, []⟩,
                      ⟨(some 128), (.bin .eql (.t 127) (.c (.i .i64 (41)))), none, []⟩,
                      ⟨(some 125), (.mov (.t 128)), none, []⟩] [])
                    (.cond (.t 125)
                      .skip
                      (.seq (.region [⟨(some 129), (.off (.t 1) 0), none, []⟩,
                        ⟨(some 130), (.load none (.t 129)), none, []⟩,
                        ⟨(some 131), (.bin .eql (.t 130) (.c (.i .i64 (42)))), none, []⟩,
                        ⟨(some 125), (.mov (.t 131)), none, []⟩] [])
                      (.cond (.t 125)
                        .skip
                        (.region [⟨(some 132), (.off (.t 1) 0), none, []⟩,
                          ⟨(some 133), (.load none (.t 132)), none, []⟩,
                          ⟨(some 134), (.bin .geq (.t 133) (.c (.i .i64 (6)))), none, []⟩,
                          ⟨(some 135), (.mov (.t 134)), none, []⟩,
                          ⟨(some 136), (.off (.t 1) 0), (some (135, true)), []⟩,
                          ⟨(some 137), (.load none (.t 136)), (some (135, true)), []⟩,
                          ⟨(some 138), (.bin .leq (.t 137) (.c (.i .i64 (8)))), (some (135, true)), []⟩,
                          ⟨(some 139), (.pick (.t 135) (.t 138) (.c (.b false))), none, []⟩,
                          ⟨(some 125), (.mov (.t 139)), none, []⟩] [])))))
                    (.cond (.t 125)
                      (.seq (.region [⟨(some 140), (.load (some 3) (.t 5)), none, []⟩,
                        ⟨(some 141), (.load (some 3) (.g 0)), none, []⟩,
                        ⟨(some 142), (.eqAg [1, 2, 0] false (.t 140) (.t 141)), none, []⟩,
                        ⟨(some 2), (.mov (.c (.i .i64 (1)))), none, []⟩,
                        ⟨(some 3), (.mov (.c (.i .i64 (1)))), none, []⟩,
                        ⟨(some 4), (.mov (.t 142)), none, []⟩] [])
                      .ret)
                      .skip)))))))))))))))))
    (.seq (.region [⟨(some 2), (.mov (.c (.i .i64 (0)))), none, []⟩,
      ⟨(some 3), (.mov (.c (.i .i64 (0)))), none, []⟩,
      ⟨(some 4), (.mov (.c (.b false))), none, []⟩] [])
    .ret)))),
    143, 1, [.t 2, .t 3, .t 4], 0⟩
theorem tr95 : trFunc Tryz.prog [([], []), ([], []), ([], []), ([0, 1, 2, 3, 4, 5], []), ([], []), ([0, 1, 2, 3, 4, 5, 6, 7, 8, 9, 10, 11, 12, 13, 14, 15, 16, 17, 18, 19, 20, 21], []), ([], []), ([], []), ([], []), ([], []), ([], []), ([0, 1, 2, 3, 4, 5, 6, 7, 8, 9, 10, 11, 12, 13, 14, 15, 16, 17], []), ([], []), ([], []), ([], []), ([0, 1, 2, 3, 4, 5, 6, 7], []), ([], []), ([], []), ([], []), ([0, 1, 2, 3, 4, 5], []), ([], []), ([], []), ([], []), ([], []), ([], []), ([0, 1, 2, 3, 4, 5], []), ([], []), ([], [])] 0 Tryz.f95 = some I95 := by kernel_rfl

/-- 'encore/lift.mayBe'. -/
def I96 : IFunc :=
  ⟨(.seq (.region [⟨(some 1), (.box (.t 0)), none, []⟩,
      ⟨(some 2), (.mov (.c (.b false))), none, []⟩] [])
    (.seq (.region [⟨(some 3), (.load (some 5) (.t 1)), none, []⟩,
      ⟨(some 4), (.call 24 [(.t 3)]), none, []⟩,
      ⟨(some 5), (.bin .eql (.t 4) (.c (.i .i64 (0)))), none, []⟩,
      ⟨(some 2), (.mov (.t 5)), none, []⟩] [])
    .ret)),
    6, 1, [.t 2], 0⟩
theorem tr96 : trFunc Tryz.prog [([], []), ([], [])] 0 Tryz.f96 = some I96 := by kernel_rfl

/-- 'encore/value.Same'. -/
def I97 : IFunc :=
  ⟨(.seq (.region [⟨(some 2), (.box (.t 0)), none, []⟩,
      ⟨(some 3), (.box (.t 1)), none, []⟩,
      ⟨(some 4), (.mov (.c (.b false))), none, []⟩] [])
    (.seq (.region [⟨(some 5), (.off (.t 2) 0), none, []⟩,
      ⟨(some 6), (.load none (.t 5)), none, []⟩,
      ⟨(some 7), (.off (.t 3) 0), none, []⟩,
      ⟨(some 8), (.load none (.t 7)), none, []⟩,
      ⟨(some 9), (.bin .eql (.t 6) (.t 8)), none, []⟩,
      ⟨(some 10), (.mov (.t 9)), none, []⟩,
      ⟨(some 11), (.off (.t 2) 1), (some (10, true)), []⟩,
      ⟨(some 12), (.load none (.t 11)), (some (10, true)), []⟩,
      ⟨(some 13), (.off (.t 3) 1), (some (10, true)), []⟩,
      ⟨(some 14), (.load none (.t 13)), (some (10, true)), []⟩,
      ⟨(some 15), (.bin .eql (.t 12) (.t 14)), (some (10, true)), []⟩,
      ⟨(some 16), (.pick (.t 10) (.t 15) (.c (.b false))), none, []⟩,
      ⟨(some 17), (.mov (.t 16)), none, []⟩,
      ⟨(some 18), (.off (.t 2) 2), (some (17, true)), []⟩,
      ⟨(some 19), (.load none (.t 18)), (some (17, true)), []⟩,
      ⟨(some 20), (.off (.t 3) 2), (some (17, true)), []⟩,
      ⟨(some 21), (.load none (.t 20)), (some (17, true)), []⟩,
      ⟨(some 22), (.bin .eql (.t 19) (.t 21)), (some (17, true)), []⟩,
      ⟨(some 23), (.pick (.t 17) (.t 22) (.c (.b false))), none, []⟩,
      ⟨(some 24), (.mov (.t 23)), none, []⟩,
      ⟨(some 25), (.off (.t 2) 4), (some (24, true)), []⟩,
      ⟨(some 26), (.load none (.t 25)), (some (24, true)), []⟩,
      ⟨(some 27), (.off (.t 3) 4), (some (24, true)), []⟩,
      ⟨(some 28), (.load none (.t 27)), (some (24, true)), []⟩,
      ⟨(some 29), (.call 132 [(.t 26), (.t 28)]), (some (24, true)), []⟩,
      ⟨(some 30), (.pick (.t 24) (.t 29) (.c (.b false))), none, []⟩,
      ⟨(some 31), (.mov (.t 30)), none, []⟩,
      ⟨(some 32), (.off (.t 2) 3), (some (31, true)), []⟩,
      ⟨(some 33), (.load none (.t 32)), (some (31, true)), []⟩,
      ⟨(some 34), (.off (.t 3) 3), (some (31, true)), []⟩,
      ⟨(some 35), (.load none (.t 34)), (some (31, true)), []⟩,
      ⟨(some 36), (.call 138 [(.t 33), (.t 35), (.f 97)]), (some (31, true)), []⟩,
      ⟨(some 37), (.pick (.t 31) (.t 36) (.c (.b false))), none, []⟩,
      ⟨(some 4), (.mov (.t 37)), none, []⟩] [])
    .ret)),
    38, 2, [.t 4], 0⟩
theorem tr97 : trFunc Tryz.prog [([], []), ([], [])] 0 Tryz.f97 = some I97 := by kernel_rfl

/-- 'encore/lift.fit$1'. -/
def I98 : IFunc :=
  ⟨(.seq (.region [⟨(some 3), (.box (.t 0)), none, []⟩,
      ⟨(some 4), (.mov (.c (.b false))), none, []⟩] [])
    (.seq (.region [⟨(some 5), (.load (some 7) (.t 3)), none, []⟩,
      ⟨(some 6), (.load none (.t 1)), none, []⟩,
      ⟨(some 7), (.load none (.t 2)), none, []⟩,
      ⟨(some 8), (.call 54 [(.t 5), (.t 6), (.t 7)]), none, []⟩,
      ⟨(some 9), (.un .not (.t 8)), none, []⟩,
      ⟨(some 4), (.mov (.t 9)), none, []⟩] [])
    .ret)),
    10, 3, [.t 4], 0⟩
theorem tr98 : trFunc Tryz.prog [([], []), ([], [])] 0 Tryz.f98 = some I98 := by kernel_rfl

/-- 'encore/fast.quick$1'. -/
def I99 : IFunc :=
  ⟨(.seq (.region [⟨(some 2), (.alloc [(.i .i64 (0)), (.i .i64 (0)), (.s []), .ns, .ns]), none, []⟩,
      ⟨(some 3), (.mov (.c (.b false))), none, []⟩] [])
    (.seq (.region [⟨(some 5), (.build [(.i .i64 (0)), (.i .i64 (0)), (.s []), .ns, .ns] [(0, 1, (.c (.i .i64 (2))))]), none, []⟩,
      ⟨(some 4), (.alloc [(.i .i64 (0)), (.i .i64 (0)), (.s []), .ns, .ns]), none, []⟩,
      ⟨none, (.store 5 (.t 4) (.t 5)), none, []⟩] [])
    (.seq (.seq (.region [⟨(some 6), (.mov (.t 0)), none, []⟩] [])
    (.cond (.t 6)
      (.region [⟨(some 7), (.off (.t 4) 1), none, []⟩,
        ⟨none, (.store 1 (.t 7) (.c (.i .i64 (1)))), none, []⟩] [])
      .skip))
    (.seq (.region [⟨(some 8), (.load (some 5) (.t 4)), none, []⟩,
      ⟨none, (.store 5 (.t 2) (.t 8)), none, []⟩,
      ⟨(some 3), (.mov (.c (.b true))), none, []⟩] [])
    .ret)))),
    9, 1, [.c 2 (some 5), .t 3], 0⟩
theorem tr99 : trFunc Tryz.prog [([], []), ([], []), ([], []), ([], []), ([], []), ([], [])] 0 Tryz.f99 = some I99 := by kernel_rfl

/-- 'encore/lift.Step$1'. -/
def I100 : IFunc :=
  ⟨(.seq (.region [⟨(some 1), (.box (.t 0)), none, []⟩,
      ⟨(some 2), (.mov (.c (.b false))), none, []⟩] [])
    (.seq (.region [⟨(some 3), (.load (some 5) (.t 1)), none, []⟩,
      ⟨(some 4), (.call 96 [(.t 3)]), none, []⟩,
      ⟨(some 5), (.un .not (.t 4)), none, []⟩,
      ⟨(some 2), (.mov (.t 5)), none, []⟩] [])
    .ret)),
    6, 1, [.t 2], 0⟩
theorem tr100 : trFunc Tryz.prog [([], []), ([], [])] 0 Tryz.f100 = some I100 := by kernel_rfl

/-- 'encore/lift.makers'. -/
def I101 : IFunc :=
  ⟨(.seq (.region [⟨(some 2), (.box (.t 0)), none, []⟩,
      ⟨(some 3), (.box (.t 1)), none, []⟩,
      ⟨(some 4), (.mov (.c .nm)), none, []⟩] [])
    (.seq (.region [⟨(some 6), (.off (.t 2) 1), none, []⟩,
      ⟨(some 7), (.load none (.t 6)), none, []⟩,
      ⟨(some 8), (.build [(.i .i64 (0)), (.i .i64 (0)), (.s []), .ns, .ns] [(0, 1, (.c (.i .i64 (1)))), (1, 1, (.t 7))]), none, []⟩,
      ⟨(some 5), (.alloc [(.i .i64 (0)), (.i .i64 (0)), (.s []), .ns, .ns]), none, []⟩,
      ⟨none, (.store 5 (.t 5) (.t 8)), none, []⟩] [])
    (.seq (.region [⟨(some 9), .mkmap, none, []⟩,
      ⟨(some 10), (.mkf 139 [] [(.t 3)]), none, []⟩,
      ⟨none, (.mapup false [1] (.t 9) (.c (.i .i64 (20))) (.t 10)), none, []⟩,
      ⟨(some 11), (.mkf 141 [] [(.t 2), (.t 3)]), none, []⟩,
      ⟨none, (.mapup false [1] (.t 9) (.c (.i .i64 (21))) (.t 11)), none, []⟩,
      ⟨(some 12), (.mkf 143 [] [(.t 3), (.t 2)]), none, []⟩,
      ⟨none, (.mapup false [1] (.t 9) (.c (.i .i64 (22))) (.t 12)), none, []⟩,
      ⟨(some 13), (.mkf 145 [] [(.t 3), (.t 2)]), none, []⟩,
      ⟨none, (.mapup false [1] (.t 9) (.c (.i .i64 (23))) (.t 13)), none, []⟩,
      ⟨(some 14), (.mkf 147 [] [(.t 3), (.t 2)]), none, []⟩,
      ⟨none, (.mapup false [1] (.t 9) (.c (.i .i64 (40))) (.t 14)), none, []⟩,
      ⟨(some 15), (.mkf 148 [] [(.t 3)]), none, []⟩,
      ⟨none, (.mapup false [1] (.t 9) (.c (.i .i64 (41))) (.t 15)), none, []⟩,
      ⟨(some 16), (.mkf 149 [] [(.t 3)]), none, []⟩,
      ⟨none, (.mapup false [1] (.t 9) (.c (.i .i64 (42))) (.t 16)), none, []⟩,
      ⟨(some 17), (.mkf 150 [] [(.t 3)]), none, []⟩,
      ⟨none, (.mapup false [1] (.t 9) (.c (.i .i64 (43))) (.t 17)), none, []⟩,
      ⟨(some 18), (.mkf 152 [] [(.t 3)]), none, []⟩,
      ⟨none, (.mapup false [1] (.t 9) (.c (.i .i64 (44))) (.t 18)), none, []⟩,
      ⟨(some 19), (.mkf 153 [] [(.t 3)]), none, []⟩,
      ⟨none, (.mapup false [1] (.t 9) (.c (.i .i64 (45))) (.t 19)), none, []⟩,
      ⟨(some 20), (.mkf 154 [] [(.t 3)]), none, []⟩,
      ⟨none, (.mapup false [1] (.t 9) (.c (.i .i64 (46))) (.t 20)), none, []⟩,
      ⟨(some 21), (.mkf 155 [] [(.t 3)]), none, []⟩,
      ⟨none, (.mapup false [1] (.t 9) (.c (.i .i64 (47))) (.t 21)), none, []⟩,
      ⟨(some 22), (.mkf 156 [] [(.t 3), (.t 5)]), none, []⟩,
      ⟨none, (.mapup false [1] (.t 9) (.c (.i .i64 (48))) (.t 22)), none, []⟩,
      ⟨(some 23), (.mkf 157 [] [(.t 3), (.t 5)]), none, []⟩,
      ⟨none, (.mapup false [1] (.t 9) (.c (.i .i64 (49))) (.t 23)), none, []⟩,
      ⟨(some 24), (.mov (.t 9)), none, []⟩,
      ⟨(some 4), (.mov (.t 24)), none, []⟩] [])
    .ret))),
    25, 2, [.t 4], 0⟩
theorem tr101 : trFunc Tryz.prog [([], []), ([], []), ([], [])] 0 Tryz.f101 = some I101 := by kernel_rfl

/-- 'encore/lift.made'. -/
def I102 : IFunc :=
  ⟨(.seq (.region [⟨(some 3), (.box (.t 0)), none, []⟩,
      ⟨(some 6), (.alloc [(.i .i64 (0)), (.i .i64 (0)), (.s []), .ns, .ns]), none, []⟩,
      ⟨(some 7), (.mov (.c (.b false))), none, []⟩] [])
    (.seq (.region [⟨(some 8), (.load (some 5) (.t 3)), none, []⟩,
      ⟨(some 9), (.mov (.t 1)), none, []⟩,
      ⟨(some 10), (.bin .eql (.t 9) (.c (.i .i64 (0)))), none, []⟩,
      ⟨(some 11), (.mov (.t 10)), none, []⟩,
      ⟨(some 12), (.mov (.t 2)), (some (11, true)), []⟩,
      ⟨(some 13), (.bin .eql (.t 12) (.c (.i .i64 (0)))), (some (11, true)), []⟩,
      ⟨(some 14), (.pick (.t 11) (.t 13) (.c (.b false))), none, []⟩,
      ⟨none, (.store 5 (.t 6) (.t 8)), none, []⟩,
      ⟨(some 7), (.mov (.t 14)), none, []⟩] [])
    .ret)),
    15, 3, [.c 6 (some 5), .t 7], 0⟩
theorem tr102 : trFunc Tryz.prog [([], []), ([], [])] 0 Tryz.f102 = some I102 := by kernel_rfl

/-- 'encore/arith.Binary'. -/
def I103 : IFunc :=
  ⟨(.seq (.region [⟨(some 4), (.box (.t 1)), none, []⟩,
      ⟨(some 5), (.box (.t 2)), none, []⟩,
      ⟨(some 6), (.alloc [(.i .i64 (0)), (.i .i64 (0)), (.s []), .ns, .ns]), none, []⟩,
      ⟨(some 7), (.mov (.c (.i .i64 (0)))), none, []⟩,
      ⟨(some 8), (.mov (.c (.i .i64 (0)))), none, []⟩] [])
    (.seq (.seq (.region [⟨(some 10), (.mov (.t 0)), none, []⟩,
      ⟨(some 11), (.bin .lss (.t 10) (.c (.i .i64 (9)))), none, []⟩,
      ⟨(some 12), (.mov (.t 11)), none, []⟩,
      ⟨(some 13), (.mov (.t 0)), (some (12, false)), []⟩,
      ⟨(some 14), (.bin .gtr (.t 13) (.c (.i .i64 (19)))), (some (12, false)), []⟩,
      ⟨(some 15), (.pick (.t 12) (.c (.b true)) (.t 14)), none, []⟩,
      ⟨(some 16), (.mov (.t 15)), none, []⟩,
      ⟨(some 17), (.load (some 5) (.t 4)), (some (16, false)), []⟩,
      ⟨(some 18), (.load (some 5) (.t 5)), (some (16, false)), []⟩,
      ⟨(some 19), (.bsl 5 2 [(.i .i64 (0)), (.i .i64 (0)), (.s []), .ns, .ns, (.i .i64 (0)), (.i .i64 (0)), (.s []), .ns, .ns] [(0, 5, (.t 17)), (5, 5, (.t 18))]), (some (16, false)), []⟩,
      ⟨(some 20), (.call 158 [(.t 19)]), (some (16, false)), []⟩,
      ⟨(some 21), (.un .not (.t 20)), (some (16, false)), []⟩,
      ⟨(some 22), (.pick (.t 16) (.c (.b true)) (.t 21)), none, []⟩] [])
    (.cond (.t 22)
      (.seq (.region [⟨(some 23), (.build [(.i .i64 (0)), (.i .i64 (0)), (.s []), .ns, .ns] []), none, []⟩,
        ⟨none, (.store 5 (.t 6) (.t 23)), none, []⟩,
        ⟨(some 7), (.mov (.c (.i .i64 (0)))), none, []⟩,
        ⟨(some 8), (.mov (.c (.i .i64 (2)))), none, []⟩] [])
      .ret)
      .skip))
    (.seq (.region [⟨(some 24), (.off (.t 4) 0), none, []⟩,
      ⟨(some 25), (.load none (.t 24)), none, []⟩,
      ⟨(some 26), (.off (.t 5) 0), none, []⟩,
      ⟨(some 27), (.load none (.t 26)), none, []⟩,
      ⟨(some 28), (.build [(.i .i64 (0)), (.i .i64 (0))] [(0, 1, (.t 25)), (1, 1, (.t 27))]), none, []⟩,
      ⟨(some 9), (.alloc [(.i .i64 (0)), (.i .i64 (0))]), none, []⟩,
      ⟨none, (.store 2 (.t 9) (.t 28)), none, []⟩] [])
    (.seq (.block 0
      (.seq (.region [⟨(some 30), (.mov (.t 0)), none, []⟩,
        ⟨(some 31), (.bin .eql (.t 30) (.c (.i .i64 (14)))), none, []⟩,
        ⟨(some 29), (.mov (.t 31)), none, []⟩] [])
      (.cond (.t 29)
        (.region [⟨(some 32), (.load (some 5) (.t 4)), none, []⟩,
          ⟨(some 33), (.load (some 5) (.t 5)), none, []⟩,
          ⟨(some 34), (.call 97 [(.t 32), (.t 33)]), none, []⟩,
          ⟨(some 35), (.call 159 [(.t 34)]), none, []⟩,
          ⟨none, (.store 5 (.t 6) (.t 35)), none, []⟩] [])
        (.seq (.region [⟨(some 37), (.mov (.t 0)), none, []⟩,
          ⟨(some 38), (.bin .eql (.t 37) (.c (.i .i64 (15)))), none, []⟩,
          ⟨(some 36), (.mov (.t 38)), none, []⟩] [])
        (.cond (.t 36)
          (.region [⟨(some 39), (.load (some 5) (.t 4)), none, []⟩,
            ⟨(some 40), (.load (some 5) (.t 5)), none, []⟩,
            ⟨(some 41), (.call 97 [(.t 39), (.t 40)]), none, []⟩,
            ⟨(some 42), (.un .not (.t 41)), none, []⟩,
            ⟨(some 43), (.call 159 [(.t 42)]), none, []⟩,
            ⟨none, (.store 5 (.t 6) (.t 43)), none, []⟩] [])
          (.seq (.region [⟨(some 45), (.load (some 2) (.t 9)), none, []⟩,
            ⟨(some 46), (.build [(.i .i64 (0)), (.i .i64 (0))] [(0, 1, (.c (.i .i64 (1)))), (1, 1, (.c (.i .i64 (1))))]), none, []⟩,
            ⟨(some 47), (.eqAg [1, 1] false (.t 45) (.t 46)), none, []⟩,
            ⟨(some 44), (.mov (.t 47)), none, []⟩] [])
          (.cond (.t 44)
            (.region [⟨(some 49), (.mov (.t 0)), none, []⟩,
              ⟨(some 50), (.off (.t 4) 1), none, []⟩,
              ⟨(some 51), (.load none (.t 50)), none, []⟩,
              ⟨(some 52), (.off (.t 5) 1), none, []⟩,
              ⟨(some 53), (.load none (.t 52)), none, []⟩,
              ⟨(some 54), (.call 160 [(.t 49), (.t 51), (.t 53)]), none, []⟩,
              ⟨(some 48), (.mov (.t 54)), none, []⟩,
              ⟨(some 55), (.ext (.t 48) 0), none, []⟩,
              ⟨(some 56), (.ext (.t 48) 1), none, []⟩,
              ⟨none, (.store 5 (.t 6) (.t 55)), none, []⟩,
              ⟨(some 7), (.mov (.t 56)), none, []⟩] [])
            (.seq (.region [⟨(some 58), (.load (some 2) (.t 9)), none, []⟩,
              ⟨(some 59), (.build [(.i .i64 (0)), (.i .i64 (0))] [(0, 1, (.c (.i .i64 (3)))), (1, 1, (.c (.i .i64 (3))))]), none, []⟩,
              ⟨(some 60), (.eqAg [1, 1] false (.t 58) (.t 59)), none, []⟩,
              ⟨(some 57), (.mov (.t 60)), none, []⟩] [])
            (.cond (.t 57)
              (.region [⟨(some 62), (.mov (.t 0)), none, []⟩,
                ⟨(some 63), (.off (.t 4) 2), none, []⟩,
                ⟨(some 64), (.load none (.t 63)), none, []⟩,
                ⟨(some 65), (.off (.t 5) 2), none, []⟩,
                ⟨(some 66), (.load none (.t 65)), none, []⟩,
                ⟨(some 67), (.call 161 [(.t 62), (.t 64), (.t 66)]), none, []⟩,
                ⟨(some 61), (.mov (.t 67)), none, []⟩,
                ⟨(some 68), (.ext (.t 61) 0), none, []⟩,
                ⟨(some 69), (.ext (.t 61) 1), none, []⟩,
                ⟨none, (.store 5 (.t 6) (.t 68)), none, []⟩,
                ⟨(some 7), (.mov (.t 69)), none, []⟩] [])
              (.seq (.region [⟨(some 71), (.mov (.t 0)), none, []⟩,
                ⟨(some 72), (.bin .eql (.t 71) (.c (.i .i64 (18)))), none, []⟩,
                ⟨(some 73), (.mov (.t 72)), none, []⟩,
                ⟨(some 74), (.off (.t 4) 0), (some (73, true)), []⟩,
                ⟨(some 75), (.load none (.t 74)), (some (73, true)), []⟩,
                ⟨(some 76), (.bin .eql (.t 75) (.c (.i .i64 (4)))), (some (73, true)), []⟩,
                ⟨(some 77), (.pick (.t 73) (.t 76) (.c (.b false))), none, []⟩,
                ⟨(some 70), (.mov (.t 77)), none, []⟩] [])
              (.cond (.t 70)
                (.region [⟨(some 79), (.load (some 5) (.t 4)), none, []⟩,
                  ⟨(some 80), (.load (some 5) (.t 5)), none, []⟩,
                  ⟨(some 81), (.bsl 5 1 [(.i .i64 (0)), (.i .i64 (0)), (.s []), .ns, .ns] [(0, 5, (.t 80))]), none, []⟩,
                  ⟨(some 82), (.call 162 [(.t 79), (.t 81)]), none, []⟩,
                  ⟨(some 78), (.mov (.t 82)), none, []⟩,
                  ⟨(some 83), (.ext (.t 78) 0), none, []⟩,
                  ⟨(some 84), (.ext (.t 78) 1), none, []⟩,
                  ⟨none, (.store 5 (.t 6) (.t 83)), none, []⟩,
                  ⟨(some 7), (.mov (.t 84)), none, []⟩] [])
                (.seq (.region [⟨(some 86), (.mov (.t 0)), none, []⟩,
                  ⟨(some 87), (.bin .eql (.t 86) (.c (.i .i64 (9)))), none, []⟩,
                  ⟨(some 88), (.mov (.t 87)), none, []⟩,
                  ⟨(some 89), (.load (some 2) (.t 9)), (some (88, true)), []⟩,
                  ⟨(some 90), (.build [(.i .i64 (0)), (.i .i64 (0))] [(0, 1, (.c (.i .i64 (4)))), (1, 1, (.c (.i .i64 (4))))]), (some (88, true)), []⟩,
                  ⟨(some 91), (.eqAg [1, 1] false (.t 89) (.t 90)), (some (88, true)), []⟩,
                  ⟨(some 92), (.pick (.t 88) (.t 91) (.c (.b false))), none, []⟩,
                  ⟨(some 85), (.mov (.t 92)), none, []⟩] [])
                (.cond (.t 85)
                  (.region [⟨(some 94), (.load (some 5) (.t 4)), none, []⟩,
                    ⟨(some 95), (.off (.t 5) 3), none, []⟩,
                    ⟨(some 96), (.load none (.t 95)), none, []⟩,
                    ⟨(some 97), (.call 162 [(.t 94), (.t 96)]), none, []⟩,
                    ⟨(some 93), (.mov (.t 97)), none, []⟩,
                    ⟨(some 98), (.ext (.t 93) 0), none, []⟩,
                    ⟨(some 99), (.ext (.t 93) 1), none, []⟩,
                    ⟨none, (.store 5 (.t 6) (.t 98)), none, []⟩,
                    ⟨(some 7), (.mov (.t 99)), none, []⟩] [])
                  (.seq (.region [⟨(some 101), (.mov (.t 0)), none, []⟩,
                    ⟨(some 102), (.bin .eql (.t 101) (.c (.i .i64 (19)))), none, []⟩,
                    ⟨(some 103), (.mov (.t 102)), none, []⟩,
                    ⟨(some 104), (.load (some 2) (.t 9)), (some (103, true)), []⟩,
                    ⟨(some 105), (.build [(.i .i64 (0)), (.i .i64 (0))] [(0, 1, (.c (.i .i64 (4)))), (1, 1, (.c (.i .i64 (1))))]), (some (103, true)), []⟩,
                    ⟨(some 106), (.eqAg [1, 1] false (.t 104) (.t 105)), (some (103, true)), []⟩,
                    ⟨(some 107), (.pick (.t 103) (.t 106) (.c (.b false))), none, []⟩,
                    ⟨(some 100), (.mov (.t 107)), none, []⟩] [])
                  (.cond (.t 100)
                    (.seq (.seq (.region [⟨(some 108), (.off (.t 5) 1), none, []⟩,
                      ⟨(some 109), (.load none (.t 108)), none, []⟩,
                      ⟨(some 110), (.bin .lss (.t 109) (.c (.i .i64 (0)))), none, []⟩,
                      ⟨(some 111), (.mov (.t 110)), none, []⟩,
                      ⟨(some 112), (.off (.t 5) 1), (some (111, false)), []⟩,
                      ⟨(some 113), (.load none (.t 112)), (some (111, false)), []⟩,
                      ⟨(some 114), (.off (.t 4) 3), (some (111, false)), []⟩,
                      ⟨(some 115), (.load none (.t 114)), (some (111, false)), []⟩,
                      ⟨(some 116), (.lenk 0 (.t 115)), (some (111, false)), []⟩,
                      ⟨(some 117), (.bin .geq (.t 113) (.t 116)), (some (111, false)), []⟩,
                      ⟨(some 118), (.pick (.t 111) (.c (.b true)) (.t 117)), none, []⟩] [])
                    (.cond (.t 118)
                      (.seq (.region [⟨(some 119), (.build [(.i .i64 (0)), (.i .i64 (0)), (.s []), .ns, .ns] []), none, []⟩,
                        ⟨none, (.store 5 (.t 6) (.t 119)), none, []⟩,
                        ⟨(some 7), (.mov (.c (.i .i64 (3)))), none, []⟩,
                        ⟨(some 8), (.mov (.c (.i .i64 (0)))), none, []⟩] [])
                      .ret)
                      .skip))
                    (.region [⟨(some 120), (.off (.t 4) 3), none, []⟩,
                      ⟨(some 121), (.load none (.t 120)), none, []⟩,
                      ⟨(some 122), (.off (.t 5) 1), none, []⟩,
                      ⟨(some 123), (.load none (.t 122)), none, []⟩,
                      ⟨(some 124), (.iaddr 5 (.t 121) (.t 123)), none, []⟩,
                      ⟨(some 125), (.load (some 5) (.t 124)), none, []⟩,
                      ⟨(some 126), (.call 163 [(.t 125)]), none, []⟩,
                      ⟨none, (.store 5 (.t 6) (.t 126)), none, []⟩] []))
                    (.region [⟨(some 7), (.mov (.c (.i .i64 (2)))), none, []⟩] []))))))))))))))))
    (.seq (.region [⟨(some 127), (.load (some 5) (.t 6)), none, []⟩,
      ⟨(some 128), (.mov (.t 7)), none, []⟩,
      ⟨none, (.store 5 (.t 6) (.t 127)), none, []⟩,
      ⟨(some 7), (.mov (.t 128)), none, []⟩,
      ⟨(some 8), (.mov (.c (.i .i64 (0)))), none, []⟩] [])
    .ret))))),
    129, 3, [.c 6 (some 5), .t 7, .t 8], 0⟩
theorem tr103 : trFunc Tryz.prog [([], []), ([], []), ([], []), ([], []), ([], []), ([], []), ([], []), ([], []), ([], []), ([], []), ([], []), ([], []), ([], []), ([], []), ([], []), ([], []), ([], []), ([], []), ([], []), ([], []), ([], []), ([], []), ([], []), ([], [])] 0 Tryz.f103 = some I103 := by kernel_rfl

/-- 'encore/arith.Unary'. -/
def I104 : IFunc :=
  ⟨(.seq (.region [⟨(some 3), (.box (.t 1)), none, []⟩,
      ⟨(some 4), (.alloc [(.i .i64 (0)), (.i .i64 (0)), (.s []), .ns, .ns]), none, []⟩,
      ⟨(some 5), (.mov (.c (.i .i64 (0)))), none, []⟩,
      ⟨(some 6), (.mov (.c (.i .i64 (0)))), none, []⟩] [])
    (.seq (.seq (.region [⟨(some 9), (.load (some 5) (.t 3)), none, []⟩,
      ⟨(some 10), (.bsl 5 1 [(.i .i64 (0)), (.i .i64 (0)), (.s []), .ns, .ns] [(0, 5, (.t 9))]), none, []⟩,
      ⟨(some 11), (.call 158 [(.t 10)]), none, []⟩,
      ⟨(some 12), (.un .not (.t 11)), none, []⟩] [])
    (.cond (.t 12)
      (.seq (.region [⟨(some 13), (.build [(.i .i64 (0)), (.i .i64 (0)), (.s []), .ns, .ns] []), none, []⟩,
        ⟨none, (.store 5 (.t 4) (.t 13)), none, []⟩,
        ⟨(some 5), (.mov (.c (.i .i64 (0)))), none, []⟩,
        ⟨(some 6), (.mov (.c (.i .i64 (2)))), none, []⟩] [])
      .ret)
      .skip))
    (.seq (.region [⟨(some 14), (.build [(.i .i64 (0)), (.i .i64 (0)), (.s []), .ns, .ns] []), none, []⟩,
      ⟨(some 7), (.alloc [(.i .i64 (0)), (.i .i64 (0)), (.s []), .ns, .ns]), none, []⟩,
      ⟨none, (.store 5 (.t 7) (.t 14)), none, []⟩,
      ⟨(some 8), (.mov (.c (.b false))), none, []⟩] [])
    (.seq (.seq (.region [⟨(some 15), (.mov (.t 0)), none, []⟩] [])
    (.block 0
      (.seq (.region [⟨(some 18), (.bin .eql (.t 15) (.c (.i .i64 (6)))), none, []⟩,
        ⟨(some 17), (.mov (.t 18)), none, []⟩] [])
      (.cond (.t 17)
        (.region [⟨(some 19), (.off (.t 3) 1), none, []⟩,
          ⟨(some 20), (.load none (.t 19)), none, []⟩,
          ⟨(some 21), (.un .neg (.t 20)), none, []⟩,
          ⟨(some 23), (.off (.t 3) 0), none, []⟩,
          ⟨(some 24), (.load none (.t 23)), none, []⟩,
          ⟨(some 25), (.bin .eql (.t 24) (.c (.i .i64 (1)))), none, []⟩,
          ⟨(some 22), (.call 164 [(.t 21)]), none, [(24, (.load none (.t 23)), none)]⟩,
          ⟨none, (.store 5 (.t 7) (.t 22)), none, [(24, (.load none (.t 23)), none)]⟩,
          ⟨(some 8), (.mov (.t 25)), none, []⟩] [])
        (.seq (.region [⟨(some 27), (.bin .eql (.t 15) (.c (.i .i64 (7)))), none, []⟩,
          ⟨(some 26), (.mov (.t 27)), none, []⟩] [])
        (.cond (.t 26)
          (.region [⟨(some 28), (.off (.t 3) 1), none, []⟩,
            ⟨(some 29), (.load none (.t 28)), none, []⟩,
            ⟨(some 30), (.bin .eql (.t 29) (.c (.i .i64 (0)))), none, []⟩,
            ⟨(some 32), (.off (.t 3) 0), none, []⟩,
            ⟨(some 33), (.load none (.t 32)), none, []⟩,
            ⟨(some 34), (.bin .eql (.t 33) (.c (.i .i64 (2)))), none, []⟩,
            ⟨(some 31), (.call 159 [(.t 30)]), none, [(33, (.load none (.t 32)), none)]⟩,
            ⟨none, (.store 5 (.t 7) (.t 31)), none, [(33, (.load none (.t 32)), none)]⟩,
            ⟨(some 8), (.mov (.t 34)), none, []⟩] [])
          (.seq (.region [⟨(some 36), (.bin .eql (.t 15) (.c (.i .i64 (8)))), none, []⟩,
            ⟨(some 35), (.mov (.t 36)), none, []⟩] [])
          (.cond (.t 35)
            (.region [⟨(some 37), (.off (.t 3) 2), none, []⟩,
              ⟨(some 38), (.load none (.t 37)), none, []⟩,
              ⟨(some 39), (.lenk 1 (.t 38)), none, []⟩,
              ⟨(some 40), (.off (.t 3) 3), none, []⟩,
              ⟨(some 41), (.load none (.t 40)), none, []⟩,
              ⟨(some 42), (.lenk 0 (.t 41)), none, []⟩,
              ⟨(some 43), (.bin .add (.t 39) (.t 42)), none, []⟩,
              ⟨(some 45), (.off (.t 3) 0), none, []⟩,
              ⟨(some 46), (.load none (.t 45)), none, []⟩,
              ⟨(some 47), (.bin .eql (.t 46) (.c (.i .i64 (3)))), none, []⟩,
              ⟨(some 44), (.call 164 [(.t 43)]), none, [(46, (.load none (.t 45)), none)]⟩,
              ⟨(some 48), (.mov (.t 47)), none, []⟩,
              ⟨(some 49), (.off (.t 3) 0), (some (48, false)), []⟩,
              ⟨(some 50), (.load none (.t 49)), (some (48, false)), []⟩,
              ⟨(some 51), (.bin .eql (.t 50) (.c (.i .i64 (4)))), (some (48, false)), []⟩,
              ⟨(some 52), (.pick (.t 48) (.c (.b true)) (.t 51)), none, []⟩,
              ⟨none, (.store 5 (.t 7) (.t 44)), none, [(50, (.load none (.t 49)), (some (48, false)))]⟩,
              ⟨(some 8), (.mov (.t 52)), none, []⟩] [])
            (.seq (.region [⟨(some 16), (.build [(.i .i64 (0)), (.i .i64 (0)), (.s []), .ns, .ns] []), none, []⟩,
              ⟨none, (.store 5 (.t 4) (.t 16)), none, []⟩,
              ⟨(some 5), (.mov (.c (.i .i64 (0)))), none, []⟩,
              ⟨(some 6), (.mov (.c (.i .i64 (2)))), none, []⟩] [])
            .ret)))))))))
    (.seq (.seq (.region [⟨(some 53), (.mov (.t 8)), none, []⟩,
      ⟨(some 54), (.un .not (.t 53)), none, []⟩] [])
    (.cond (.t 54)
      (.seq (.region [⟨(some 55), (.build [(.i .i64 (0)), (.i .i64 (0)), (.s []), .ns, .ns] []), none, []⟩,
        ⟨none, (.store 5 (.t 4) (.t 55)), none, []⟩,
        ⟨(some 5), (.mov (.c (.i .i64 (2)))), none, []⟩,
        ⟨(some 6), (.mov (.c (.i .i64 (0)))), none, []⟩] [])
      .ret)
      .skip))
    (.seq (.region [⟨(some 56), (.load (some 5) (.t 7)), none, []⟩,
      ⟨none, (.store 5 (.t 4) (.t 56)), none, []⟩,
      ⟨(some 5), (.mov (.c (.i .i64 (0)))), none, []⟩,
      ⟨(some 6), (.mov (.c (.i .i64 (0)))), none, []⟩] [])
    .ret)))))),
    57, 2, [.c 4 (some 5), .t 5, .t 6], 0⟩
theorem tr104 : trFunc Tryz.prog [([], []), ([], []), ([], []), ([], []), ([], []), ([], []), ([], []), ([0, 1, 2, 4, 5, 6, 3, 7, 8], []), ([], []), ([0, 1, 2, 4, 5, 6, 3, 7, 8], []), ([], []), ([0, 1, 2, 3, 4, 5, 6, 8, 9, 10, 7, 11, 12, 13, 14, 15, 16, 17], []), ([], []), ([], []), ([], []), ([], []), ([], [])] 0 Tryz.f104 = some I104 := by kernel_rfl

/-- 'encore/lift.own'. -/
def L105a : ICode :=
  (.seq (.region [⟨(some 16), (.bin .lss (.t 15) (.t 14)), none, []⟩] [])
    (.seq (.cond (.t 16)
      .skip
      (.exit 0))
    (.seq (.block 1
      (.seq (.region [⟨(some 17), (.mov (.t 15)), none, []⟩,
        ⟨(some 3), (.mov (.t 17)), none, []⟩] [])
      (.region [⟨(some 18), (.off (.t 1) 3), none, []⟩,
        ⟨(some 19), (.load none (.t 18)), none, []⟩,
        ⟨(some 20), (.mov (.t 3)), none, []⟩,
        ⟨(some 21), (.off (.t 1) 3), none, []⟩,
        ⟨(some 22), (.load none (.t 21)), none, []⟩,
        ⟨(some 23), (.mov (.t 3)), none, []⟩,
        ⟨(some 24), (.iaddr 5 (.t 22) (.t 23)), none, []⟩,
        ⟨(some 25), (.load (some 5) (.t 24)), none, []⟩,
        ⟨(some 26), (.call 105 [(.t 25)]), none, [(19, (.load none (.t 18)), none)]⟩,
        ⟨(some 27), (.iaddr 5 (.t 19) (.t 20)), none, []⟩,
        ⟨none, (.store 5 (.t 27) (.t 26)), none, []⟩] [])))
    (.region [⟨(some 28), (.bin .add (.t 15) (.c (.i .i64 (1)))), none, []⟩,
      ⟨(some 15), (.mov (.t 28)), none, []⟩] []))))
def I105 : IFunc :=
  ⟨(.seq (.region [⟨(some 1), (.box (.t 0)), none, []⟩,
      ⟨(some 2), (.alloc [(.i .i64 (0)), (.i .i64 (0)), (.s []), .ns, .ns]), none, []⟩] [])
    (.seq (.region [⟨(some 4), (.off (.t 1) 4), none, []⟩,
      ⟨(some 5), (.load none (.t 4)), none, []⟩,
      ⟨(some 7), (.off (.t 1) 3), none, []⟩,
      ⟨(some 8), (.load none (.t 7)), none, []⟩,
      ⟨(some 6), (.call 45 [(.t 5)]), none, [(8, (.load none (.t 7)), none)]⟩,
      ⟨(some 10), (.off (.t 1) 4), none, []⟩,
      ⟨(some 9), (.call 63 [(.t 8)]), none, []⟩,
      ⟨none, (.store 1 (.t 10) (.t 6)), none, []⟩,
      ⟨(some 11), (.off (.t 1) 3), none, []⟩,
      ⟨none, (.store 1 (.t 11) (.t 9)), none, []⟩] [])
    (.seq (.seq (.region [⟨(some 12), (.off (.t 1) 3), none, []⟩,
      ⟨(some 13), (.load none (.t 12)), none, []⟩,
      ⟨(some 14), (.lenk 0 (.t 13)), none, []⟩,
      ⟨(some 15), (.mov (.c (.i .i64 (0)))), none, []⟩] [])
    (.block 0
      (.loop L105a)))
    (.seq (.region [⟨(some 29), (.load (some 5) (.t 1)), none, []⟩,
      ⟨none, (.store 5 (.t 2) (.t 29)), none, []⟩] [])
    .ret)))),
    30, 1, [.c 2 (some 5)], 0⟩
theorem tr105 : trFunc Tryz.prog [([], []), ([0, 1, 3, 4, 2, 6, 5, 7, 8, 9], []), ([], []), ([], []), ([], []), ([], []), ([0, 1, 2, 3, 4, 5, 6, 7, 8, 9, 10], []), ([], []), ([], [])] 0 Tryz.f105 = some I105 := by kernel_rfl

/-- 'encore/value.own'. -/
def I106 : IFunc :=
  ⟨(.seq (.region [⟨(some 1), (.box (.t 0)), none, []⟩,
      ⟨(some 2), (.mov (.c (.b false))), none, []⟩] [])
    (.seq (.seq (.region [⟨(some 3), (.off (.t 1) 0), none, []⟩,
      ⟨(some 4), (.load none (.t 3)), none, []⟩] [])
    (.block 0
      (.seq (.region [⟨(some 6), (.bin .eql (.t 4) (.c (.i .i64 (0)))), none, []⟩,
        ⟨(some 5), (.mov (.t 6)), none, []⟩] [])
      (.cond (.t 5)
        (.seq (.region [⟨(some 7), (.off (.t 1) 1), none, []⟩,
          ⟨(some 8), (.load none (.t 7)), none, []⟩,
          ⟨(some 9), (.bin .eql (.t 8) (.c (.i .i64 (0)))), none, []⟩,
          ⟨(some 10), (.mov (.t 9)), none, []⟩,
          ⟨(some 11), (.build [(.b false), (.b false), (.b false)] []), (some (10, true)), []⟩,
          ⟨(some 12), (.load (some 5) (.t 1)), (some (10, true)), []⟩,
          ⟨(some 13), (.call 165 [(.t 11), (.t 12)]), (some (10, true)), []⟩,
          ⟨(some 14), (.pick (.t 10) (.t 13) (.c (.b false))), none, []⟩,
          ⟨(some 2), (.mov (.t 14)), none, []⟩] [])
        .ret)
        (.seq (.region [⟨(some 16), (.bin .eql (.t 4) (.c (.i .i64 (1)))), none, []⟩,
          ⟨(some 15), (.mov (.t 16)), none, []⟩] [])
        (.cond (.t 15)
          (.seq (.region [⟨(some 17), (.build [(.b false), (.b false), (.b false)] []), none, []⟩,
            ⟨(some 18), (.load (some 5) (.t 1)), none, []⟩,
            ⟨(some 19), (.call 165 [(.t 17), (.t 18)]), none, []⟩,
            ⟨(some 2), (.mov (.t 19)), none, []⟩] [])
          .ret)
          (.seq (.region [⟨(some 21), (.bin .eql (.t 4) (.c (.i .i64 (2)))), none, []⟩,
            ⟨(some 20), (.mov (.t 21)), none, []⟩] [])
          (.cond (.t 20)
            (.seq (.region [⟨(some 22), (.off (.t 1) 1), none, []⟩,
              ⟨(some 23), (.load none (.t 22)), none, []⟩,
              ⟨(some 24), (.bin .andNot (.t 23) (.c (.i .i64 (1)))), none, []⟩,
              ⟨(some 25), (.bin .eql (.t 24) (.c (.i .i64 (0)))), none, []⟩,
              ⟨(some 26), (.mov (.t 25)), none, []⟩,
              ⟨(some 27), (.build [(.b false), (.b false), (.b false)] []), (some (26, true)), []⟩,
              ⟨(some 28), (.load (some 5) (.t 1)), (some (26, true)), []⟩,
              ⟨(some 29), (.call 165 [(.t 27), (.t 28)]), (some (26, true)), []⟩,
              ⟨(some 30), (.pick (.t 26) (.t 29) (.c (.b false))), none, []⟩,
              ⟨(some 2), (.mov (.t 30)), none, []⟩] [])
            .ret)
            (.seq (.region [⟨(some 32), (.bin .eql (.t 4) (.c (.i .i64 (6)))), none, []⟩,
              ⟨(some 31), (.mov (.t 32)), none, []⟩] [])
            (.cond (.t 31)
              (.seq (.region [⟨(some 33), (.off (.t 1) 1), none, []⟩,
                ⟨(some 34), (.load none (.t 33)), none, []⟩,
                ⟨(some 35), (.bin .geq (.t 34) (.c (.i .i64 (1)))), none, []⟩,
                ⟨(some 36), (.mov (.t 35)), none, []⟩,
                ⟨(some 37), (.off (.t 1) 1), (some (36, true)), []⟩,
                ⟨(some 38), (.load none (.t 37)), (some (36, true)), []⟩,
                ⟨(some 39), (.bin .leq (.t 38) (.c (.i .i64 (64)))), (some (36, true)), []⟩,
                ⟨(some 40), (.pick (.t 36) (.t 39) (.c (.b false))), none, []⟩,
                ⟨(some 41), (.mov (.t 40)), none, []⟩,
                ⟨(some 42), (.build [(.b false), (.b false), (.b false)] []), (some (41, true)), []⟩,
                ⟨(some 43), (.load (some 5) (.t 1)), (some (41, true)), []⟩,
                ⟨(some 44), (.call 165 [(.t 42), (.t 43)]), (some (41, true)), []⟩,
                ⟨(some 45), (.pick (.t 41) (.t 44) (.c (.b false))), none, []⟩,
                ⟨(some 2), (.mov (.t 45)), none, []⟩] [])
              .ret)
              (.seq (.region [⟨(some 47), (.bin .eql (.t 4) (.c (.i .i64 (3)))), none, []⟩,
                ⟨(some 46), (.mov (.t 47)), none, []⟩] [])
              (.cond (.t 46)
                (.seq (.region [⟨(some 48), (.off (.t 1) 1), none, []⟩,
                  ⟨(some 49), (.load none (.t 48)), none, []⟩,
                  ⟨(some 50), (.bin .eql (.t 49) (.c (.i .i64 (0)))), none, []⟩,
                  ⟨(some 51), (.mov (.t 50)), none, []⟩,
                  ⟨(some 52), (.off (.t 1) 2), (some (51, true)), []⟩,
                  ⟨(some 53), (.load none (.t 52)), (some (51, true)), []⟩,
                  ⟨(some 54), (.lenk 1 (.t 53)), (some (51, true)), []⟩,
                  ⟨(some 55), (.bin .leq (.t 54) (.c (.i .i64 (64)))), (some (51, true)), []⟩,
                  ⟨(some 56), (.pick (.t 51) (.t 55) (.c (.b false))), none, []⟩,
                  ⟨(some 57), (.mov (.t 56)), none, []⟩,
                  ⟨(some 58), (.build [(.b false), (.b false), (.b false)] [(0, 1, (.c (.b true)))]), (some (57, true)), []⟩,
                  ⟨(some 59), (.load (some 5) (.t 1)), (some (57, true)), []⟩,
                  ⟨(some 60), (.call 165 [(.t 58), (.t 59)]), (some (57, true)), []⟩,
                  ⟨(some 61), (.pick (.t 57) (.t 60) (.c (.b false))), none, []⟩,
                  ⟨(some 2), (.mov (.t 61)), none, []⟩] [])
                .ret)
                (.seq (.region [⟨(some 63), (.bin .eql (.t 4) (.c (.i .i64 (4)))), none, []⟩,
                  ⟨(some 62), (.mov (.t 63)), none, []⟩] [])
                (.cond (.t 62)
                  (.seq (.region [⟨(some 64), (.off (.t 1) 1), none, []⟩,
                    ⟨(some 65), (.load none (.t 64)), none, []⟩,
                    ⟨(some 66), (.bin .eql (.t 65) (.c (.i .i64 (0)))), none, []⟩,
                    ⟨(some 67), (.mov (.t 66)), none, []⟩,
                    ⟨(some 68), (.off (.t 1) 3), (some (67, true)), []⟩,
                    ⟨(some 69), (.load none (.t 68)), (some (67, true)), []⟩,
                    ⟨(some 70), (.lenk 0 (.t 69)), (some (67, true)), []⟩,
                    ⟨(some 71), (.bin .leq (.t 70) (.c (.i .i64 (32)))), (some (67, true)), []⟩,
                    ⟨(some 72), (.pick (.t 67) (.t 71) (.c (.b false))), none, []⟩,
                    ⟨(some 73), (.mov (.t 72)), none, []⟩,
                    ⟨(some 74), (.build [(.b false), (.b false), (.b false)] [(1, 1, (.c (.b true)))]), (some (73, true)), []⟩,
                    ⟨(some 75), (.load (some 5) (.t 1)), (some (73, true)), []⟩,
                    ⟨(some 76), (.call 165 [(.t 74), (.t 75)]), (some (73, true)), []⟩,
                    ⟨(some 77), (.pick (.t 73) (.t 76) (.c (.b false))), none, []⟩,
                    ⟨(some 2), (.mov (.t 77)), none, []⟩] [])
                  .ret)
                  (.seq (.region [⟨(some 79), (.bin .eql (.t 4) (.c (.i .i64 (5)))), none, []⟩,
                    ⟨(some 78), (.mov (.t 79)), none, []⟩] [])
                  (.cond (.t 78)
                    (.seq (.region [⟨(some 80), (.off (.t 1) 1), none, []⟩,
                      ⟨(some 81), (.load none (.t 80)), none, []⟩,
                      ⟨(some 82), (.bin .eql (.t 81) (.c (.i .i64 (0)))), none, []⟩,
                      ⟨(some 83), (.mov (.t 82)), none, []⟩,
                      ⟨(some 84), (.off (.t 1) 3), (some (83, true)), []⟩,
                      ⟨(some 85), (.load none (.t 84)), (some (83, true)), []⟩,
                      ⟨(some 86), (.lenk 0 (.t 85)), (some (83, true)), []⟩,
                      ⟨(some 87), (.off (.t 1) 4), (some (83, true)), []⟩,
                      ⟨(some 88), (.load none (.t 87)), (some (83, true)), []⟩,
                      ⟨(some 89), (.lenk 0 (.t 88)), (some (83, true)), []⟩,
                      ⟨(some 90), (.bin .eql (.t 86) (.t 89)), (some (83, true)), []⟩,
                      ⟨(some 91), (.pick (.t 83) (.t 90) (.c (.b false))), none, []⟩,
                      ⟨(some 92), (.mov (.t 91)), none, []⟩,
                      ⟨(some 93), (.off (.t 1) 3), (some (92, true)), []⟩,
                      ⟨(some 94), (.load none (.t 93)), (some (92, true)), []⟩,
                      ⟨(some 95), (.lenk 0 (.t 94)), (some (92, true)), []⟩,
                      ⟨(some 96), (.bin .leq (.t 95) (.c (.i .i64 (8)))), (some (92, true)), []⟩,
                      ⟨(some 97), (.pick (.t 92) (.t 96) (.c (.b false))), none, []⟩,
                      ⟨(some 98), (.mov (.t 97)), none, []⟩,
                      ⟨(some 99), (.build [(.b false), (.b false), (.b false)] [(1, 1, (.c (.b true))), (2, 1, (.c (.b true)))]), (some (98, true)), []⟩,
                      ⟨(some 100), (.load (some 5) (.t 1)), (some (98, true)), []⟩,
                      ⟨(some 101), (.call 165 [(.t 99), (.t 100)]), (some (98, true)), []⟩,
                      ⟨(some 102), (.pick (.t 98) (.t 101) (.c (.b false))), none, []⟩,
                      ⟨(some 103), (.mov (.t 102)), none, []⟩,
                      ⟨(some 104), (.off (.t 1) 4), (some (103, true)), []⟩,
                      ⟨(some 105), (.load none (.t 104)), (some (103, true)), []⟩,
                      ⟨(some 106), (.call 166 [(.t 105)]), (some (103, true)), []⟩,
                      ⟨(some 107), (.pick (.t 103) (.t 106) (.c (.b false))), none, []⟩,
                      ⟨(some 2), (.mov (.t 107)), none, []⟩] [])
                    .ret)
                    .skip))))))))))))))))
    (.seq (.region [⟨(some 2), (.mov (.c (.b false))), none, []⟩] [])
    .ret))),
    108, 1, [.t 2], 0⟩
theorem tr106 : trFunc Tryz.prog [([], []), ([], []), ([], []), ([], []), ([], []), ([], []), ([], []), ([], []), ([], []), ([], []), ([], []), ([], []), ([], []), ([], []), ([], []), ([], []), ([], []), ([], [])] 0 Tryz.f106 = some I106 := by kernel_rfl

/-- 'encore/encoreref00.EqTexts'. -/
def L107a : ICode :=
  (.seq (.seq (.region [⟨(some 11), (.mov (.t 5)), none, []⟩,
      ⟨(some 12), (.mov (.t 0)), none, []⟩,
      ⟨(some 13), (.lenk 0 (.t 12)), none, []⟩,
      ⟨(some 14), (.bin .lss (.t 11) (.t 13)), none, []⟩] [])
    (.cond (.t 14)
      .skip
      (.exit 0)))
    (.seq (.block 1
      (.seq (.region [⟨(some 17), (.mov (.t 0)), none, []⟩,
        ⟨(some 18), (.mov (.t 5)), none, []⟩,
        ⟨(some 19), (.iaddr 1 (.t 17) (.t 18)), none, []⟩,
        ⟨(some 20), (.load none (.t 19)), none, []⟩,
        ⟨(some 21), (.mov (.t 1)), none, []⟩,
        ⟨(some 22), (.mov (.t 5)), none, []⟩,
        ⟨(some 23), (.iaddr 1 (.t 21) (.t 22)), none, []⟩,
        ⟨(some 24), (.load none (.t 23)), none, []⟩,
        ⟨(some 25), (.bin .neq (.t 20) (.t 24)), none, []⟩] [])
      (.cond (.t 25)
        (.seq (.region [⟨(some 4), (.mov (.c (.b false))), none, []⟩] [])
        .ret)
        .skip)))
    (.region [⟨(some 15), (.mov (.t 5)), none, []⟩,
      ⟨(some 16), (.bin .add (.t 15) (.c (.i .i64 (1)))), none, []⟩,
      ⟨(some 5), (.mov (.t 16)), none, []⟩] [])))
def I107 : IFunc :=
  ⟨(.seq (.region [⟨(some 4), (.mov (.c (.b false))), none, []⟩] [])
    (.seq (.seq (.region [⟨(some 6), (.mov (.t 0)), none, []⟩,
      ⟨(some 7), (.lenk 0 (.t 6)), none, []⟩,
      ⟨(some 8), (.mov (.t 1)), none, []⟩,
      ⟨(some 9), (.lenk 0 (.t 8)), none, []⟩,
      ⟨(some 10), (.bin .neq (.t 7) (.t 9)), none, []⟩] [])
    (.cond (.t 10)
      (.seq (.region [⟨(some 4), (.mov (.c (.b false))), none, []⟩] [])
      .ret)
      .skip))
    (.seq (.seq (.region [⟨(some 5), (.mov (.c (.i .i64 (0)))), none, []⟩] [])
    (.block 0
      (.loop L107a)))
    (.seq (.region [⟨(some 4), (.mov (.c (.b true))), none, []⟩] [])
    .ret)))),
    26, 2, [.t 4], 0⟩
theorem tr107 : trFunc Tryz.prog [([], []), ([], []), ([], []), ([], []), ([], []), ([], []), ([], []), ([0, 1, 2, 3, 4, 5, 6, 7, 8], []), ([], []), ([], []), ([], []), ([], [])] 0 Tryz.f107 = some I107 := by kernel_rfl

/-- 'encore/encoreref07.number'. -/
def I108 : IFunc :=
  ⟨(.seq (.region [⟨(some 4), (.mov (.c (.i .i64 (0)))), none, []⟩] [])
    (.seq (.seq (.region [⟨(some 5), (.mov (.t 0)), none, []⟩,
      ⟨(some 6), (.mov (.t 1)), none, []⟩,
      ⟨(some 7), (.bin .lss (.t 5) (.t 6)), none, []⟩] [])
    (.cond (.t 7)
      (.seq (.region [⟨(some 4), (.mov (.c (.i .i64 (-1)))), none, []⟩] [])
      .ret)
      .skip))
    (.seq (.seq (.region [⟨(some 8), (.mov (.t 0)), none, []⟩,
      ⟨(some 9), (.mov (.t 1)), none, []⟩,
      ⟨(some 10), (.bin .gtr (.t 8) (.t 9)), none, []⟩] [])
    (.cond (.t 10)
      (.seq (.region [⟨(some 4), (.mov (.c (.i .i64 (1)))), none, []⟩] [])
      .ret)
      .skip))
    (.seq (.region [⟨(some 4), (.mov (.c (.i .i64 (0)))), none, []⟩] [])
    .ret)))),
    11, 2, [.t 4], 0⟩
theorem tr108 : trFunc Tryz.prog [([], []), ([], []), ([], []), ([], []), ([], []), ([], []), ([], []), ([], [])] 0 Tryz.f108 = some I108 := by kernel_rfl

/-- 'encore/encoreref07.text'. -/
def I109 : IFunc :=
  ⟨(.seq (.region [⟨(some 4), (.mov (.c (.i .i64 (0)))), none, []⟩] [])
    (.seq (.seq (.region [⟨(some 5), (.mov (.t 0)), none, []⟩,
      ⟨(some 6), (.mov (.t 1)), none, []⟩,
      ⟨(some 7), (.bin .lss (.t 5) (.t 6)), none, []⟩] [])
    (.cond (.t 7)
      (.seq (.region [⟨(some 4), (.mov (.c (.i .i64 (-1)))), none, []⟩] [])
      .ret)
      .skip))
    (.seq (.seq (.region [⟨(some 8), (.mov (.t 0)), none, []⟩,
      ⟨(some 9), (.mov (.t 1)), none, []⟩,
      ⟨(some 10), (.bin .gtr (.t 8) (.t 9)), none, []⟩] [])
    (.cond (.t 10)
      (.seq (.region [⟨(some 4), (.mov (.c (.i .i64 (1)))), none, []⟩] [])
      .ret)
      .skip))
    (.seq (.region [⟨(some 4), (.mov (.c (.i .i64 (0)))), none, []⟩] [])
    .ret)))),
    11, 2, [.t 4], 0⟩
theorem tr109 : trFunc Tryz.prog [([], []), ([], []), ([], []), ([], []), ([], []), ([], []), ([], []), ([], [])] 0 Tryz.f109 = some I109 := by kernel_rfl

/-- 'encore/cuts.blocks$1'. -/
def L110a : ICode :=
  (.seq (.region [⟨(some 9), (.bin .lss (.t 8) (.t 7)), none, []⟩] [])
    (.seq (.cond (.t 9)
      .skip
      (.exit 0))
    (.seq (.block 1
      (.seq (.region [⟨(some 10), (.mov (.t 8)), none, []⟩,
        ⟨(some 4), (.mov (.t 10)), none, []⟩] [])
      (.seq (.seq (.region [⟨(some 11), (.load none (.t 2)), none, []⟩,
        ⟨(some 12), (.mov (.t 4)), none, []⟩,
        ⟨(some 13), (.look false [1] (.b false) false (.t 11) (.t 12)), none, []⟩,
        ⟨(some 14), (.un .not (.t 13)), none, []⟩] [])
      (.cond (.t 14)
        (.exit 1)
        .skip))
      (.seq (.region [⟨(some 15), (.load none (.t 1)), none, []⟩,
        ⟨(some 16), (.load none (.t 2)), none, []⟩,
        ⟨(some 17), (.mov (.t 4)), none, []⟩,
        ⟨(some 18), (.call 111 [(.t 15), (.t 16), (.t 17)]), none, []⟩,
        ⟨(some 5), (.alloc [(.i .i64 (0)), (.i .i64 (0)), (.i .i64 (0)), (.i .i64 (0))]), none, []⟩,
        ⟨none, (.store 4 (.t 5) (.t 18)), none, []⟩] [])
      (.seq (.region [⟨(some 19), (.off (.t 5) 1), none, []⟩,
        ⟨(some 20), (.load none (.t 19)), none, []⟩,
        ⟨(some 21), (.bin .gtr (.t 20) (.c (.i .i64 (0)))), none, []⟩,
        ⟨(some 22), (.mov (.t 21)), none, []⟩,
        ⟨(some 23), (.mov (.t 0)), (some (22, true)), []⟩,
        ⟨(some 24), (.load (some 4) (.t 5)), (some (22, true)), []⟩,
        ⟨(some 25), (.callv (.t 23) [(.t 24)]), (some (22, true)), []⟩,
        ⟨(some 26), (.un .not (.t 25)), (some (22, true)), []⟩,
        ⟨(some 27), (.pick (.t 22) (.t 26) (.c (.b false))), none, []⟩] [])
      (.cond (.t 27)
        .ret
        .skip))))))
    (.region [⟨(some 28), (.bin .add (.t 8) (.c (.i .i64 (1)))), none, []⟩,
      ⟨(some 8), (.mov (.t 28)), none, []⟩] []))))
def I110 : IFunc :=
  ⟨(.seq (.region [⟨(some 6), (.load none (.t 1)), none, []⟩,
      ⟨(some 7), (.lenk 0 (.t 6)), none, []⟩,
      ⟨(some 8), (.mov (.c (.i .i64 (0)))), none, []⟩] [])
    (.block 0
      (.loop L110a))),
    29, 3, [], 0⟩
theorem tr110 : trFunc Tryz.prog [([], []), ([], []), ([], []), ([], []), ([], []), ([], []), ([], []), ([], []), ([], []), ([], [])] 0 Tryz.f110 = some I110 := by kernel_rfl

/-- 'encore/cuts.block'. -/
def L111a : ICode :=
  (.seq (.seq (.region [⟨(some 13), (.mov (.t 8)), none, []⟩,
      ⟨(some 14), (.mov (.t 0)), none, []⟩,
      ⟨(some 15), (.lenk 0 (.t 14)), none, []⟩,
      ⟨(some 16), (.bin .lss (.t 13) (.t 15)), none, []⟩] [])
    (.cond (.t 16)
      .skip
      (.exit 0)))
    (.seq (.block 1
      (.seq (.region [⟨(some 19), (.mov (.t 0)), none, []⟩,
        ⟨(some 20), (.mov (.t 8)), none, []⟩,
        ⟨(some 21), (.iaddr 3 (.t 19) (.t 20)), none, []⟩,
        ⟨(some 22), (.load (some 3) (.t 21)), none, []⟩,
        ⟨(some 9), (.alloc [(.i .i64 (0)), (.i .i64 (0)), (.i .i64 (0))]), none, []⟩,
        ⟨none, (.store 3 (.t 9) (.t 22)), none, []⟩] [])
      (.seq (.block 2
        (.seq (.region [⟨(some 24), (.mov (.t 8)), none, []⟩,
          ⟨(some 25), (.mov (.t 2)), none, []⟩,
          ⟨(some 26), (.bin .gtr (.t 24) (.t 25)), none, []⟩,
          ⟨(some 27), (.mov (.t 26)), none, []⟩,
          ⟨(some 28), (.mov (.t 1)), (some (27, true)), []⟩,
          ⟨(some 29), (.mov (.t 8)), (some (27, true)), []⟩,
          ⟨(some 30), (.look false [1] (.b false) false (.t 28) (.t 29)), (some (27, true)), []⟩,
          ⟨(some 31), (.pick (.t 27) (.t 30) (.c (.b false))), none, []⟩,
          ⟨(some 23), (.mov (.t 31)), none, []⟩] [])
        (.cond (.t 23)
          (.seq (.region [⟨(some 32), (.mov (.t 8)), none, []⟩,
            ⟨(some 33), (.off (.t 7) 3), none, []⟩,
            ⟨none, (.store 1 (.t 33) (.t 32)), none, []⟩] [])
          (.seq (.region [⟨(some 34), (.load (some 4) (.t 7)), none, []⟩,
            ⟨none, (.store 4 (.t 6) (.t 34)), none, []⟩] [])
          .ret))
          (.seq (.region [⟨(some 36), (.load (some 3) (.t 9)), none, []⟩,
            ⟨(some 37), (.call 113 [(.t 36)]), none, []⟩,
            ⟨(some 35), (.mov (.t 37)), none, []⟩] [])
          (.cond (.t 35)
            (.seq (.region [⟨(some 38), (.off (.t 7) 1), none, []⟩,
              ⟨(some 39), (.load none (.t 38)), none, []⟩,
              ⟨(some 40), (.bin .add (.t 39) (.c (.i .i64 (1)))), none, []⟩,
              ⟨(some 41), (.off (.t 7) 1), none, []⟩,
              ⟨none, (.store 1 (.t 41) (.t 40)), none, []⟩] [])
            (.seq (.region [⟨(some 42), (.off (.t 9) 1), none, []⟩,
              ⟨(some 43), (.load none (.t 42)), none, []⟩,
              ⟨(some 44), (.off (.t 7) 2), none, []⟩,
              ⟨none, (.store 1 (.t 44) (.c (.i .i64 (1)))), none, [(43, (.load none (.t 42)), none)]⟩,
              ⟨(some 45), (.off (.t 7) 3), none, []⟩,
              ⟨none, (.store 1 (.t 45) (.t 43)), none, []⟩] [])
            (.seq (.seq (.region [⟨(some 46), (.off (.t 9) 0), none, []⟩,
              ⟨(some 47), (.load none (.t 46)), none, []⟩,
              ⟨(some 48), (.bin .eql (.t 47) (.c (.i .i64 (25)))), none, []⟩] [])
            (.cond (.t 48)
              (.region [⟨(some 49), (.off (.t 7) 2), none, []⟩,
                ⟨none, (.store 1 (.t 49) (.c (.i .i64 (2)))), none, []⟩] [])
              .skip))
            (.seq (.region [⟨(some 50), (.load (some 4) (.t 7)), none, []⟩,
              ⟨none, (.store 4 (.t 6) (.t 50)), none, []⟩] [])
            .ret))))
            (.seq (.region [⟨(some 52), (.off (.t 9) 0), none, []⟩,
              ⟨(some 53), (.load none (.t 52)), none, []⟩,
              ⟨(some 54), (.call 112 [(.t 53)]), none, []⟩,
              ⟨(some 55), (.un .not (.t 54)), none, []⟩,
              ⟨(some 51), (.mov (.t 55)), none, []⟩] [])
            (.cond (.t 51)
              (.seq (.region [⟨(some 56), (.mov (.t 8)), none, []⟩,
                ⟨(some 57), (.off (.t 7) 2), none, []⟩,
                ⟨none, (.store 1 (.t 57) (.c (.i .i64 (3)))), none, []⟩,
                ⟨(some 58), (.off (.t 7) 3), none, []⟩,
                ⟨none, (.store 1 (.t 58) (.t 56)), none, []⟩] [])
              (.seq (.region [⟨(some 59), (.load (some 4) (.t 7)), none, []⟩,
                ⟨none, (.store 4 (.t 6) (.t 59)), none, []⟩] [])
              .ret))
              .skip)))))))
      (.region [⟨(some 60), (.off (.t 7) 1), none, []⟩,
        ⟨(some 61), (.load none (.t 60)), none, []⟩,
        ⟨(some 62), (.bin .add (.t 61) (.c (.i .i64 (1)))), none, []⟩,
        ⟨(some 63), (.off (.t 7) 1), none, []⟩,
        ⟨none, (.store 1 (.t 63) (.t 62)), none, []⟩] []))))
    (.region [⟨(some 17), (.mov (.t 8)), none, []⟩,
      ⟨(some 18), (.bin .add (.t 17) (.c (.i .i64 (1)))), none, []⟩,
      ⟨(some 8), (.mov (.t 18)), none, []⟩] [])))
def I111 : IFunc :=
  ⟨(.seq (.region [⟨(some 6), (.alloc [(.i .i64 (0)), (.i .i64 (0)), (.i .i64 (0)), (.i .i64 (0))]), none, []⟩] [])
    (.seq (.region [⟨(some 10), (.mov (.t 2)), none, []⟩,
      ⟨(some 11), (.build [(.i .i64 (0)), (.i .i64 (0)), (.i .i64 (0)), (.i .i64 (0))] [(0, 1, (.t 10))]), none, []⟩,
      ⟨(some 7), (.alloc [(.i .i64 (0)), (.i .i64 (0)), (.i .i64 (0)), (.i .i64 (0))]), none, []⟩,
      ⟨none, (.store 4 (.t 7) (.t 11)), none, []⟩] [])
    (.seq (.seq (.region [⟨(some 12), (.mov (.t 2)), none, []⟩,
      ⟨(some 8), (.mov (.t 12)), none, []⟩] [])
    (.block 0
      (.loop L111a)))
    (.seq (.region [⟨(some 64), (.load (some 4) (.t 7)), none, []⟩,
      ⟨none, (.store 4 (.t 6) (.t 64)), none, []⟩] [])
    .ret)))),
    65, 3, [.c 6 (some 4)], 0⟩
theorem tr111 : trFunc Tryz.prog [([], []), ([], []), ([], []), ([], []), ([], []), ([], []), ([], []), ([], []), ([], []), ([], []), ([], []), ([0, 1, 2, 3, 4, 5], []), ([], []), ([], []), ([], []), ([], []), ([], []), ([], []), ([], []), ([], []), ([], []), ([], []), ([], [])] 0 Tryz.f111 = some I111 := by kernel_rfl

/-- 'encore/code.Plain'. -/
def I112 : IFunc :=
  ⟨(.seq (.region [⟨(some 2), (.mov (.c (.b false))), none, []⟩] [])
    (.seq (.region [⟨(some 3), (.mov (.t 0)), none, []⟩,
      ⟨(some 4), (.bin .geq (.t 3) (.c (.i .i64 (1)))), none, []⟩,
      ⟨(some 5), (.mov (.t 4)), none, []⟩,
      ⟨(some 6), (.mov (.t 0)), (some (5, true)), []⟩,
      ⟨(some 7), (.bin .leq (.t 6) (.c (.i .i64 (23)))), (some (5, true)), []⟩,
      ⟨(some 8), (.pick (.t 5) (.t 7) (.c (.b false))), none, []⟩,
      ⟨(some 2), (.mov (.t 8)), none, []⟩] [])
    .ret)),
    9, 1, [.t 2], 0⟩
theorem tr112 : trFunc Tryz.prog [([], []), ([], [])] 0 Tryz.f112 = some I112 := by kernel_rfl

/-- 'encore/cuts.turn'. -/
def I113 : IFunc :=
  ⟨(.seq (.region [⟨(some 1), (.box (.t 0)), none, []⟩,
      ⟨(some 2), (.mov (.c (.b false))), none, []⟩] [])
    (.seq (.region [⟨(some 3), (.off (.t 1) 0), none, []⟩,
      ⟨(some 4), (.load none (.t 3)), none, []⟩,
      ⟨(some 5), (.bin .eql (.t 4) (.c (.i .i64 (24)))), none, []⟩,
      ⟨(some 6), (.mov (.t 5)), none, []⟩,
      ⟨(some 7), (.off (.t 1) 0), (some (6, false)), []⟩,
      ⟨(some 8), (.load none (.t 7)), (some (6, false)), []⟩,
      ⟨(some 9), (.bin .eql (.t 8) (.c (.i .i64 (25)))), (some (6, false)), []⟩,
      ⟨(some 10), (.pick (.t 6) (.c (.b true)) (.t 9)), none, []⟩,
      ⟨(some 2), (.mov (.t 10)), none, []⟩] [])
    .ret)),
    11, 1, [.t 2], 0⟩
theorem tr113 : trFunc Tryz.prog [([], []), ([], [])] 0 Tryz.f113 = some I113 := by kernel_rfl

/-- 'encore/code.Check$1'. -/
def I114 : IFunc :=
  ⟨(.seq (.region [⟨(some 1), (.box (.t 0)), none, []⟩,
      ⟨(some 2), (.mov (.c (.b false))), none, []⟩] [])
    (.seq (.region [⟨(some 3), (.off (.t 1) 3), none, []⟩,
      ⟨(some 4), (.load none (.t 3)), none, []⟩,
      ⟨(some 5), (.lenk 0 (.t 4)), none, []⟩,
      ⟨(some 6), (.bin .gtr (.t 5) (.c (.i .i64 (512)))), none, []⟩,
      ⟨(some 2), (.mov (.t 6)), none, []⟩] [])
    .ret)),
    7, 1, [.t 2], 0⟩
theorem tr114 : trFunc Tryz.prog [([], []), ([], [])] 0 Tryz.f114 = some I114 := by kernel_rfl

/-- 'slices.ContainsFunc[[]encore/api.Func,encore/api.Func]'. -/
def I115 : IFunc :=
  ⟨(.seq (.region [⟨(some 4), (.mov (.c (.b false))), none, []⟩] [])
    (.seq (.region [⟨(some 5), (.mov (.t 0)), none, []⟩,
      ⟨(some 6), (.mov (.t 1)), none, []⟩,
      ⟨(some 7), (.call 167 [(.t 5), (.t 6)]), none, []⟩,
      ⟨(some 8), (.bin .geq (.t 7) (.c (.i .i64 (0)))), none, []⟩,
      ⟨(some 4), (.mov (.t 8)), none, []⟩] [])
    .ret)),
    9, 2, [.t 4], 0⟩
theorem tr115 : trFunc Tryz.prog [([], []), ([], [])] 0 Tryz.f115 = some I115 := by kernel_rfl

/-- 'encore/code.Check$2'. -/
def I116 : IFunc :=
  ⟨(.seq (.region [⟨(some 1), (.box (.t 0)), none, []⟩,
      ⟨(some 2), (.mov (.c (.b false))), none, []⟩] [])
    (.seq (.region [⟨(some 3), (.load (some 5) (.t 1)), none, []⟩,
      ⟨(some 4), (.call 24 [(.t 3)]), none, []⟩,
      ⟨(some 5), (.bin .neq (.t 4) (.c (.i .i64 (0)))), none, []⟩,
      ⟨(some 2), (.mov (.t 5)), none, []⟩] [])
    .ret)),
    6, 1, [.t 2], 0⟩
theorem tr116 : trFunc Tryz.prog [([], []), ([], [])] 0 Tryz.f116 = some I116 := by kernel_rfl

/-- 'encore/code.Check$3'. -/
def I117 : IFunc :=
  ⟨(.seq (.region [⟨(some 2), (.box (.t 0)), none, []⟩,
      ⟨(some 3), (.mov (.c (.b false))), none, []⟩] [])
    (.seq (.region [⟨(some 4), (.load (some 4) (.t 2)), none, []⟩,
      ⟨(some 5), (.call 118 [(.t 1), (.t 4)]), none, []⟩,
      ⟨(some 6), (.un .not (.t 5)), none, []⟩,
      ⟨(some 3), (.mov (.t 6)), none, []⟩] [])
    .ret)),
    7, 2, [.t 3], 0⟩
theorem tr117 : trFunc Tryz.prog [([], []), ([], [])] 0 Tryz.f117 = some I117 := by kernel_rfl

/-- 'encore/code.head'. -/
def L118a : ICode :=
  (.seq (.region [⟨(some 14), (.bin .lss (.t 13) (.t 12)), none, []⟩] [])
    (.seq (.cond (.t 14)
      .skip
      (.exit 0))
    (.seq (.block 1
      (.seq (.region [⟨(some 15), (.iaddr 4 (.t 11) (.t 13)), none, []⟩,
        ⟨(some 16), (.load (some 4) (.t 15)), none, []⟩,
        ⟨(some 7), (.alloc [(.s []), (.i .i64 (0)), (.i .i64 (0)), .ns]), none, []⟩,
        ⟨none, (.store 4 (.t 7) (.t 16)), none, []⟩] [])
      (.seq (.region [⟨(some 17), (.off (.t 7) 0), none, []⟩,
        ⟨(some 18), (.load none (.t 17)), none, []⟩,
        ⟨(some 19), (.off (.t 3) 0), none, []⟩,
        ⟨(some 20), (.load none (.t 19)), none, []⟩,
        ⟨(some 21), (.bin .eql (.t 18) (.t 20)), none, []⟩] [])
      (.cond (.t 21)
        (.region [⟨(some 22), (.mov (.t 5)), none, []⟩,
          ⟨(some 23), (.bin .add (.t 22) (.c (.i .i64 (1)))), none, []⟩,
          ⟨(some 5), (.mov (.t 23)), none, []⟩] [])
        .skip))))
    (.region [⟨(some 24), (.bin .add (.t 13) (.c (.i .i64 (1)))), none, []⟩,
      ⟨(some 13), (.mov (.t 24)), none, []⟩] []))))
def I118 : IFunc :=
  ⟨(.seq (.region [⟨(some 3), (.box (.t 1)), none, []⟩,
      ⟨(some 4), (.mov (.c (.b false))), none, []⟩] [])
    (.seq (.region [⟨(some 5), (.mov (.c (.i .i64 (0)))), none, []⟩] [])
    (.seq (.seq (.region [⟨(some 8), (.mov (.t 0)), none, []⟩,
      ⟨(some 9), (.nck (.t 8)), none, []⟩,
      ⟨(some 10), (.off (.t 9) 0), none, []⟩,
      ⟨(some 11), (.load none (.t 10)), none, []⟩,
      ⟨(some 12), (.lenk 0 (.t 11)), none, []⟩,
      ⟨(some 13), (.mov (.c (.i .i64 (0)))), none, []⟩] [])
    (.block 0
      (.loop L118a)))
    (.seq (.region [⟨(some 25), (.mov (.t 5)), none, []⟩,
      ⟨(some 26), (.bin .eql (.t 25) (.c (.i .i64 (1)))), none, []⟩,
      ⟨(some 27), (.mov (.t 26)), none, []⟩,
      ⟨(some 28), (.off (.t 3) 0), (some (27, true)), []⟩,
      ⟨(some 29), (.load none (.t 28)), (some (27, true)), []⟩,
      ⟨(some 30), (.call 168 [(.t 29)]), (some (27, true)), []⟩,
      ⟨(some 31), (.pick (.t 27) (.t 30) (.c (.b false))), none, []⟩,
      ⟨(some 32), (.mov (.t 31)), none, []⟩,
      ⟨(some 33), (.off (.t 3) 1), (some (32, true)), []⟩,
      ⟨(some 34), (.load none (.t 33)), (some (32, true)), []⟩,
      ⟨(some 35), (.bin .geq (.t 34) (.c (.i .i64 (0)))), (some (32, true)), []⟩,
      ⟨(some 36), (.pick (.t 32) (.t 35) (.c (.b false))), none, []⟩,
      ⟨(some 37), (.mov (.t 36)), none, []⟩,
      ⟨(some 38), (.off (.t 3) 1), (some (37, true)), []⟩,
      ⟨(some 39), (.load none (.t 38)), (some (37, true)), []⟩,
      ⟨(some 40), (.bin .leq (.t 39) (.c (.i .i64 (8)))), (some (37, true)), []⟩,
      ⟨(some 41), (.pick (.t 37) (.t 40) (.c (.b false))), none, []⟩,
      ⟨(some 42), (.mov (.t 41)), none, []⟩,
      ⟨(some 43), (.off (.t 3) 2), (some (42, true)), []⟩,
      ⟨(some 44), (.load none (.t 43)), (some (42, true)), []⟩,
      ⟨(some 45), (.off (.t 3) 1), (some (42, true)), []⟩,
      ⟨(some 46), (.load none (.t 45)), (some (42, true)), []⟩,
      ⟨(some 47), (.bin .geq (.t 44) (.t 46)), (some (42, true)), []⟩,
      ⟨(some 48), (.pick (.t 42) (.t 47) (.c (.b false))), none, []⟩,
      ⟨(some 49), (.mov (.t 48)), none, []⟩,
      ⟨(some 50), (.off (.t 3) 2), (some (49, true)), []⟩,
      ⟨(some 51), (.load none (.t 50)), (some (49, true)), []⟩,
      ⟨(some 52), (.bin .leq (.t 51) (.c (.i .i64 (32)))), (some (49, true)), []⟩,
      ⟨(some 53), (.pick (.t 49) (.t 52) (.c (.b false))), none, []⟩,
      ⟨(some 54), (.mov (.t 53)), none, []⟩,
      ⟨(some 55), (.off (.t 3) 3), (some (54, true)), []⟩,
      ⟨(some 56), (.load none (.t 55)), (some (54, true)), []⟩,
      ⟨(some 57), (.lenk 0 (.t 56)), (some (54, true)), []⟩,
      ⟨(some 58), (.bin .gtr (.t 57) (.c (.i .i64 (0)))), (some (54, true)), []⟩,
      ⟨(some 59), (.pick (.t 54) (.t 58) (.c (.b false))), none, []⟩,
      ⟨(some 4), (.mov (.t 59)), none, []⟩] [])
    .ret)))),
    60, 2, [.t 4], 0⟩
theorem tr118 : trFunc Tryz.prog [([], []), ([], []), ([], []), ([], []), ([], []), ([], []), ([], []), ([], []), ([], []), ([], []), ([], [])] 0 Tryz.f118 = some I118 := by kernel_rfl

/-- '(encore/code.site).fits'. -/
def I119 : IFunc :=
  ⟨(.seq (.region [⟨(some 1), (.box (.t 0)), none, []⟩,
      ⟨(some 2), (.mov (.c (.b false))), none, []⟩] [])
    (.seq (.region [⟨(some 4), (.off (.t 1) 2), none, []⟩,
      ⟨(some 5), (.off (.t 4) 0), none, []⟩,
      ⟨(some 6), (.load none (.t 5)), none, []⟩,
      ⟨(some 7), (.bin .geq (.t 6) (.c (.i .i64 (1)))), none, []⟩,
      ⟨(some 8), (.mov (.t 7)), none, []⟩,
      ⟨(some 9), (.off (.t 1) 2), (some (8, true)), []⟩,
      ⟨(some 10), (.off (.t 9) 0), (some (8, true)), []⟩,
      ⟨(some 11), (.load none (.t 10)), (some (8, true)), []⟩,
      ⟨(some 12), (.bin .leq (.t 11) (.c (.i .i64 (31)))), (some (8, true)), []⟩,
      ⟨(some 13), (.pick (.t 8) (.t 12) (.c (.b false))), none, []⟩,
      ⟨(some 3), (.mov (.t 13)), none, []⟩] [])
    (.seq (.region [⟨(some 14), (.mov (.t 3)), none, []⟩,
      ⟨(some 15), (.mov (.t 14)), none, []⟩,
      ⟨(some 16), (.off (.t 1) 2), (some (15, true)), []⟩,
      ⟨(some 17), (.off (.t 16) 2), (some (15, true)), []⟩,
      ⟨(some 18), (.load none (.t 17)), (some (15, true)), []⟩,
      ⟨(some 19), (.bin .eql (.t 18) (.c (.i .i64 (0)))), (some (15, true)), []⟩,
      ⟨(some 20), (.mov (.t 19)), (some (15, true)), []⟩,
      ⟨(some 21), (.off (.t 1) 2), (some (20, false)), []⟩,
      ⟨(some 22), (.off (.t 21) 0), (some (20, false)), []⟩,
      ⟨(some 23), (.load none (.t 22)), (some (20, false)), []⟩,
      ⟨(some 24), (.bin .eql (.t 23) (.c (.i .i64 (31)))), (some (20, false)), []⟩,
      ⟨(some 25), (.pick (.t 20) (.c (.b true)) (.t 24)), (some (15, true)), []⟩,
      ⟨(some 26), (.pick (.t 15) (.t 25) (.c (.b false))), none, []⟩,
      ⟨(some 27), (.mov (.t 26)), none, []⟩,
      ⟨(some 28), (.load (some 5) (.t 1)), (some (27, true)), []⟩,
      ⟨(some 29), (.call 169 [(.t 28)]), (some (27, true)), []⟩,
      ⟨(some 30), (.callv (.t 29) []), (some (27, true)), []⟩,
      ⟨(some 31), (.pick (.t 27) (.t 30) (.c (.b false))), none, []⟩,
      ⟨(some 2), (.mov (.t 31)), none, []⟩] [])
    .ret))),
    32, 1, [.t 2], 0⟩
theorem tr119 : trFunc Tryz.prog [([], []), ([], []), ([], [])] 0 Tryz.f119 = some I119 := by kernel_rfl

/-- '(*encore/verify.look).come'. -/
def I120 : IFunc :=
  ⟨(.seq (.seq (.region [⟨(some 9), (.mov (.t 1)), none, []⟩,
      ⟨(some 10), (.mov (.t 0)), none, []⟩,
      ⟨(some 11), (.nck (.t 10)), none, []⟩,
      ⟨(some 12), (.off (.t 11) 0), none, []⟩,
      ⟨(some 13), (.load none (.t 12)), none, []⟩,
      ⟨(some 14), (.lenk 0 (.t 13)), none, []⟩,
      ⟨(some 15), (.bin .geq (.t 9) (.t 14)), none, []⟩,
      ⟨(some 16), (.mov (.t 15)), none, []⟩,
      ⟨(some 17), (.mov (.t 2)), (some (16, false)), []⟩,
      ⟨(some 18), (.bin .gtr (.t 17) (.c (.i .i64 (32)))), (some (16, false)), []⟩,
      ⟨(some 19), (.pick (.t 16) (.c (.b true)) (.t 18)), none, []⟩] [])
    (.cond (.t 19)
      (.seq (.region [⟨(some 20), (.mov (.t 0)), none, []⟩,
        ⟨(some 21), (.nck (.t 20)), none, []⟩,
        ⟨(some 22), (.off (.t 21) 2), none, []⟩,
        ⟨none, (.store 1 (.t 22) (.c (.b true))), none, []⟩] [])
      .ret)
      .skip))
    (.seq (.region [⟨(some 23), (.mov (.t 0)), none, []⟩,
      ⟨(some 24), (.nck (.t 23)), none, []⟩,
      ⟨(some 25), (.off (.t 24) 0), none, []⟩,
      ⟨(some 26), (.load none (.t 25)), none, []⟩,
      ⟨(some 27), (.mov (.t 1)), none, []⟩,
      ⟨(some 28), (.iaddr 3 (.t 26) (.t 27)), none, []⟩,
      ⟨(some 8), (.mov (.t 28)), none, []⟩] [])
    (.seq (.seq (.region [⟨(some 29), (.mov (.t 8)), none, []⟩,
      ⟨(some 30), (.nck (.t 29)), none, []⟩,
      ⟨(some 31), (.off (.t 30) 0), none, []⟩,
      ⟨(some 32), (.load none (.t 31)), none, []⟩] [])
    (.cond (.t 32)
      (.seq (.region [⟨(some 33), (.mov (.t 0)), none, []⟩,
        ⟨(some 34), (.mov (.t 0)), none, []⟩,
        ⟨(some 35), (.nck (.t 34)), none, []⟩,
        ⟨(some 36), (.off (.t 35) 2), none, []⟩,
        ⟨(some 37), (.load none (.t 36)), none, []⟩,
        ⟨(some 38), (.mov (.t 37)), none, []⟩,
        ⟨(some 39), (.mov (.t 8)), (some (38, false)), []⟩,
        ⟨(some 40), (.nck (.t 39)), (some (38, false)), []⟩,
        ⟨(some 41), (.off (.t 40) 1), (some (38, false)), []⟩,
        ⟨(some 42), (.load none (.t 41)), (some (38, false)), []⟩,
        ⟨(some 43), (.mov (.t 2)), (some (38, false)), []⟩,
        ⟨(some 44), (.bin .neq (.t 42) (.t 43)), (some (38, false)), []⟩,
        ⟨(some 45), (.pick (.t 38) (.c (.b true)) (.t 44)), none, []⟩,
        ⟨(some 46), (.mov (.t 45)), none, []⟩,
        ⟨(some 47), (.mov (.t 8)), (some (46, false)), []⟩,
        ⟨(some 48), (.nck (.t 47)), (some (46, false)), []⟩,
        ⟨(some 49), (.off (.t 48) 2), (some (46, false)), []⟩,
        ⟨(some 50), (.load none (.t 49)), (some (46, false)), []⟩,
        ⟨(some 51), (.mov (.t 3)), (some (46, false)), []⟩,
        ⟨(some 52), (.call 170 [(.t 50), (.t 51)]), (some (46, false)), []⟩,
        ⟨(some 53), (.un .not (.t 52)), (some (46, false)), []⟩,
        ⟨(some 54), (.pick (.t 46) (.c (.b true)) (.t 53)), none, []⟩,
        ⟨(some 55), (.nck (.t 33)), none, []⟩,
        ⟨(some 56), (.off (.t 55) 2), none, []⟩,
        ⟨none, (.store 1 (.t 56) (.t 54)), none, []⟩] [])
      .ret)
      .skip))
    (.seq (.region [⟨(some 57), (.mov (.t 8)), none, []⟩,
      ⟨(some 58), (.mov (.t 2)), none, []⟩,
      ⟨(some 59), (.mov (.t 3)), none, []⟩,
      ⟨(some 60), (.mov (.t 3)), none, []⟩,
      ⟨(some 61), (.lenk 0 (.t 60)), none, []⟩,
      ⟨(some 62), (.mov (.t 3)), none, []⟩,
      ⟨(some 63), (.lenk 0 (.t 62)), none, []⟩,
      ⟨(some 64), (.sl 2 (.t 59) none (some (.t 61)) (some (.t 63))), none, []⟩,
      ⟨(some 65), (.build [(.b false), (.i .i64 (0)), .ns] [(0, 1, (.c (.b true))), (1, 1, (.t 58)), (2, 1, (.t 64))]), none, []⟩,
      ⟨(some 66), (.nck (.t 57)), none, []⟩,
      ⟨none, (.store 3 (.t 66) (.t 65)), none, []⟩] [])
    (.region [⟨(some 67), (.mov (.t 0)), none, []⟩,
      ⟨(some 68), (.mov (.t 0)), none, []⟩,
      ⟨(some 69), (.nck (.t 68)), none, []⟩,
      ⟨(some 70), (.off (.t 69) 1), none, []⟩,
      ⟨(some 71), (.load none (.t 70)), none, []⟩,
      ⟨(some 72), (.mov (.t 1)), none, []⟩,
      ⟨(some 73), (.bsl 1 1 [(.i .i64 (0))] [(0, 1, (.t 72))]), none, []⟩,
      ⟨(some 74), (.app 1 8 (.t 71) (.t 73)), none, []⟩,
      ⟨(some 75), (.nck (.t 67)), none, []⟩,
      ⟨(some 76), (.off (.t 75) 1), none, []⟩,
      ⟨none, (.store 1 (.t 76) (.t 74)), none, []⟩] []))))),
    77, 4, [], 0⟩
theorem tr120 : trFunc Tryz.prog [([], []), ([], []), ([], []), ([], []), ([], []), ([], []), ([], []), ([], []), ([], [])] 0 Tryz.f120 = some I120 := by kernel_rfl

/-- '(*encore/verify.look).step'. -/
def I121 : IFunc :=
  ⟨(.seq (.region [⟨(some 5), (.box (.t 1)), none, []⟩,
      ⟨(some 6), (.box (.t 2)), none, []⟩] [])
    (.seq (.region [⟨(some 14), (.mov (.t 0)), none, []⟩,
      ⟨(some 15), (.nck (.t 14)), none, []⟩,
      ⟨(some 16), (.off (.t 15) 0), none, []⟩,
      ⟨(some 17), (.load none (.t 16)), none, []⟩,
      ⟨(some 18), (.mov (.t 3)), none, []⟩,
      ⟨(some 19), (.iaddr 3 (.t 17) (.t 18)), none, []⟩,
      ⟨(some 20), (.load (some 3) (.t 19)), none, []⟩,
      ⟨(some 8), (.alloc [(.b false), (.i .i64 (0)), .ns]), none, []⟩,
      ⟨none, (.store 3 (.t 8) (.t 20)), none, []⟩] [])
    (.seq (.region [⟨(some 22), (.load (some 2) (.t 5)), none, []⟩,
      ⟨(some 23), (.load (some 3) (.t 6)), none, []⟩,
      ⟨(some 24), (.call 171 [(.t 22), (.t 23)]), none, []⟩,
      ⟨(some 21), (.mov (.t 24)), none, []⟩,
      ⟨(some 25), (.ext (.t 21) 0), none, []⟩,
      ⟨(some 26), (.ext (.t 21) 1), none, []⟩,
      ⟨(some 9), (.mov (.t 25)), none, []⟩,
      ⟨(some 10), (.mov (.t 26)), none, []⟩] [])
    (.seq (.region [⟨(some 27), (.off (.t 8) 1), none, []⟩,
      ⟨(some 28), (.load none (.t 27)), none, []⟩,
      ⟨(some 29), (.mov (.t 9)), none, []⟩,
      ⟨(some 30), (.bin .sub (.t 28) (.t 29)), none, []⟩,
      ⟨(some 31), (.mov (.t 10)), none, []⟩,
      ⟨(some 32), (.bin .add (.t 30) (.t 31)), none, []⟩,
      ⟨(some 33), (.off (.t 8) 2), none, []⟩,
      ⟨(some 34), (.load none (.t 33)), none, []⟩,
      ⟨(some 11), (.mov (.t 32)), none, []⟩,
      ⟨(some 12), (.mov (.t 34)), none, []⟩] [])
    (.seq (.seq (.region [⟨(some 35), (.mov (.t 9)), none, []⟩,
      ⟨(some 36), (.off (.t 8) 1), none, []⟩,
      ⟨(some 37), (.load none (.t 36)), none, []⟩,
      ⟨(some 38), (.bin .gtr (.t 35) (.t 37)), none, []⟩,
      ⟨(some 39), (.mov (.t 38)), none, []⟩,
      ⟨(some 40), (.mov (.t 11)), (some (39, false)), []⟩,
      ⟨(some 41), (.bin .gtr (.t 40) (.c (.i .i64 (32)))), (some (39, false)), []⟩,
      ⟨(some 42), (.pick (.t 39) (.c (.b true)) (.t 41)), none, []⟩] [])
    (.cond (.t 42)
      (.seq (.region [⟨(some 43), (.mov (.t 0)), none, []⟩,
        ⟨(some 44), (.nck (.t 43)), none, []⟩,
        ⟨(some 45), (.off (.t 44) 2), none, []⟩,
        ⟨none, (.store 1 (.t 45) (.c (.b true))), none, []⟩] [])
      .ret)
      .skip))
    (.seq (.seq (.region [⟨(some 46), (.mov (.t 12)), none, []⟩,
      ⟨(some 47), (.lenk 0 (.t 46)), none, []⟩,
      ⟨(some 13), (.mov (.t 47)), none, []⟩] [])
    (.seq (.region [⟨(some 48), (.mov (.t 13)), none, []⟩,
      ⟨(some 49), (.bin .gtr (.t 48) (.c (.i .i64 (0)))), none, []⟩,
      ⟨(some 50), (.mov (.t 49)), none, []⟩,
      ⟨(some 51), (.off (.t 8) 1), (some (50, true)), []⟩,
      ⟨(some 52), (.load none (.t 51)), (some (50, true)), []⟩,
      ⟨(some 53), (.mov (.t 9)), (some (50, true)), []⟩,
      ⟨(some 54), (.bin .sub (.t 52) (.t 53)), (some (50, true)), []⟩,
      ⟨(some 55), (.mov (.t 12)), (some (50, true)), []⟩,
      ⟨(some 56), (.mov (.t 13)), (some (50, true)), []⟩,
      ⟨(some 57), (.bin .sub (.t 56) (.c (.i .i64 (1)))), (some (50, true)), []⟩,
      ⟨(some 58), (.iaddr 2 (.t 55) (.t 57)), (some (50, true)), []⟩,
      ⟨(some 59), (.off (.t 58) 1), (some (50, true)), []⟩,
      ⟨(some 60), (.load none (.t 59)), (some (50, true)), []⟩,
      ⟨(some 61), (.bin .lss (.t 54) (.t 60)), (some (50, true)), []⟩,
      ⟨(some 62), (.pick (.t 50) (.t 61) (.c (.b false))), none, []⟩] [])
    (.cond (.t 62)
      (.seq (.region [⟨(some 63), (.mov (.t 0)), none, []⟩,
        ⟨(some 64), (.nck (.t 63)), none, []⟩,
        ⟨(some 65), (.off (.t 64) 2), none, []⟩,
        ⟨none, (.store 1 (.t 65) (.c (.b true))), none, []⟩] [])
      .ret)
      .skip)))
    (.seq (.seq (.region [⟨(some 66), (.off (.t 6) 0), none, []⟩,
      ⟨(some 67), (.load none (.t 66)), none, []⟩] [])
    (.block 0
      (.seq (.seq (.region [⟨(some 69), (.bin .eql (.t 67) (.c (.i .i64 (28)))), none, []⟩,
        ⟨(some 68), (.mov (.t 69)), none, []⟩] [])
      (.cond (.t 68)
        .skip
        (.region [⟨(some 70), (.bin .eql (.t 67) (.c (.i .i64 (30)))), none, []⟩,
          ⟨(some 68), (.mov (.t 70)), none, []⟩] [])))
      (.cond (.t 68)
        .ret
        (.seq (.region [⟨(some 72), (.bin .eql (.t 67) (.c (.i .i64 (24)))), none, []⟩,
          ⟨(some 71), (.mov (.t 72)), none, []⟩] [])
        (.cond (.t 71)
          (.seq (.region [⟨(some 73), (.mov (.t 0)), none, []⟩,
            ⟨(some 74), (.off (.t 6) 1), none, []⟩,
            ⟨(some 75), (.load none (.t 74)), none, []⟩,
            ⟨(some 76), (.mov (.t 11)), none, []⟩,
            ⟨(some 77), (.mov (.t 12)), none, []⟩,
            ⟨(some 78), (.call 120 [(.t 73), (.t 75), (.t 76), (.t 77)]), none, []⟩] [])
          .ret)
          (.seq (.region [⟨(some 80), (.bin .eql (.t 67) (.c (.i .i64 (25)))), none, []⟩,
            ⟨(some 79), (.mov (.t 80)), none, []⟩] [])
          (.cond (.t 79)
            (.region [⟨(some 81), (.mov (.t 0)), none, []⟩,
              ⟨(some 82), (.off (.t 6) 1), none, []⟩,
              ⟨(some 83), (.load none (.t 82)), none, []⟩,
              ⟨(some 84), (.mov (.t 11)), none, []⟩,
              ⟨(some 85), (.mov (.t 12)), none, []⟩,
              ⟨(some 86), (.call 120 [(.t 81), (.t 83), (.t 84), (.t 85)]), none, []⟩] [])
            (.seq (.region [⟨(some 88), (.bin .eql (.t 67) (.c (.i .i64 (26)))), none, []⟩,
              ⟨(some 87), (.mov (.t 88)), none, []⟩] [])
            (.cond (.t 87)
              (.seq (.region [⟨(some 89), (.mov (.t 0)), none, []⟩,
                ⟨(some 90), (.mov (.t 0)), none, []⟩,
                ⟨(some 91), (.nck (.t 90)), none, []⟩,
                ⟨(some 92), (.off (.t 91) 2), none, []⟩,
                ⟨(some 93), (.load none (.t 92)), none, []⟩,
                ⟨(some 94), (.mov (.t 93)), none, []⟩,
                ⟨(some 95), (.mov (.t 12)), (some (94, false)), []⟩,
                ⟨(some 96), (.lenk 0 (.t 95)), (some (94, false)), []⟩,
                ⟨(some 97), (.bin .geq (.t 96) (.c (.i .i64 (8)))), (some (94, false)), []⟩,
                ⟨(some 98), (.pick (.t 94) (.c (.b true)) (.t 97)), none, []⟩,
                ⟨(some 99), (.nck (.t 89)), none, []⟩,
                ⟨(some 100), (.off (.t 99) 2), none, []⟩,
                ⟨none, (.store 1 (.t 100) (.t 98)), none, []⟩] [])
              (.seq (.region [⟨(some 101), (.mov (.t 0)), none, []⟩,
                ⟨(some 102), (.off (.t 6) 1), none, []⟩,
                ⟨(some 103), (.load none (.t 102)), none, []⟩,
                ⟨(some 104), (.mov (.t 11)), none, []⟩,
                ⟨(some 105), (.bin .add (.t 104) (.c (.i .i64 (1)))), none, []⟩,
                ⟨(some 106), (.mov (.t 12)), none, []⟩,
                ⟨(some 107), (.call 120 [(.t 101), (.t 103), (.t 105), (.t 106)]), none, []⟩] [])
              (.region [⟨(some 108), (.mov (.t 12)), none, []⟩,
                ⟨(some 109), (.off (.t 6) 1), none, []⟩,
                ⟨(some 110), (.load none (.t 109)), none, []⟩,
                ⟨(some 111), (.mov (.t 11)), none, []⟩,
                ⟨(some 112), (.build [(.i .i64 (0)), (.i .i64 (0))] [(0, 1, (.t 110)), (1, 1, (.t 111))]), none, []⟩,
                ⟨(some 113), (.bsl 2 1 [(.i .i64 (0)), (.i .i64 (0))] [(0, 2, (.t 112))]), none, []⟩,
                ⟨(some 114), (.app 2 16 (.t 108) (.t 113)), none, []⟩,
                ⟨(some 12), (.mov (.t 114)), none, []⟩] [])))
              (.seq (.region [⟨(some 116), (.bin .eql (.t 67) (.c (.i .i64 (27)))), none, []⟩,
                ⟨(some 115), (.mov (.t 116)), none, []⟩] [])
              (.cond (.t 115)
                (.seq (.seq (.region [⟨(some 117), (.mov (.t 12)), none, []⟩,
                  ⟨(some 118), (.lenk 0 (.t 117)), none, []⟩,
                  ⟨(some 119), (.bin .eql (.t 118) (.c (.i .i64 (0)))), none, []⟩] [])
                (.cond (.t 119)
                  (.seq (.region [⟨(some 120), (.mov (.t 0)), none, []⟩,
                    ⟨(some 121), (.nck (.t 120)), none, []⟩,
                    ⟨(some 122), (.off (.t 121) 2), none, []⟩,
                    ⟨none, (.store 1 (.t 122) (.c (.b true))), none, []⟩] [])
                  .ret)
                  .skip))
                (.region [⟨(some 123), (.mov (.t 12)), none, []⟩,
                  ⟨(some 124), (.mov (.t 12)), none, []⟩,
                  ⟨(some 125), (.lenk 0 (.t 124)), none, []⟩,
                  ⟨(some 126), (.bin .sub (.t 125) (.c (.i .i64 (1)))), none, []⟩,
                  ⟨(some 127), (.sl 2 (.t 123) none (some (.t 126)) none), none, []⟩,
                  ⟨(some 12), (.mov (.t 127)), none, []⟩] []))
                .skip))))))))))))
    (.region [⟨(some 128), (.mov (.t 0)), none, []⟩,
      ⟨(some 129), (.mov (.t 3)), none, []⟩,
      ⟨(some 130), (.bin .add (.t 129) (.c (.i .i64 (1)))), none, []⟩,
      ⟨(some 131), (.mov (.t 11)), none, []⟩,
      ⟨(some 132), (.mov (.t 12)), none, []⟩,
      ⟨(some 133), (.call 120 [(.t 128), (.t 130), (.t 131), (.t 132)]), none, []⟩] [])))))))),
    134, 4, [], 0⟩
theorem tr121 : trFunc Tryz.prog [([], []), ([], []), ([], []), ([0, 1, 2, 3, 4, 5, 6, 7, 8, 9], []), ([], []), ([], []), ([], []), ([], []), ([0, 1, 2, 3, 4, 5, 6, 7, 8, 9, 10, 11, 12, 13, 14], []), ([], []), ([], []), ([], []), ([], []), ([], []), ([], []), ([], []), ([], []), ([], []), ([], []), ([], []), ([], []), ([], []), ([], []), ([], []), ([], []), ([], []), ([], []), ([], []), ([], []), ([], [])] 0 Tryz.f121 = some I121 := by kernel_rfl

/-- 'slices.Clone[[]encore/verify.Try,encore/verify.Try]'. -/
def I122 : IFunc :=
  ⟨(.seq (.region [⟨(some 2), (.mov (.c .ns)), none, []⟩] [])
    (.seq (.seq (.region [⟨(some 3), (.mov (.t 0)), none, []⟩,
      ⟨(some 4), (.eqNil 0 false (.t 3) (.c .ns)), none, []⟩] [])
    (.cond (.t 4)
      (.seq (.region [⟨(some 2), (.mov (.c .ns)), none, []⟩] [])
      .ret)
      .skip))
    (.seq (.region [⟨(some 5), (.bsl 2 0 [] []), none, []⟩,
      ⟨(some 6), (.mov (.t 0)), none, []⟩,
      ⟨(some 7), (.app 2 16 (.t 5) (.t 6)), none, []⟩,
      ⟨(some 2), (.mov (.t 7)), none, []⟩] [])
    .ret))),
    8, 1, [.t 2], 0⟩
theorem tr122 : trFunc Tryz.prog [([], []), ([], []), ([], []), ([], []), ([], [])] 0 Tryz.f122 = some I122 := by kernel_rfl

/-- '(*encore/lift.maker).plain'. -/
def L123a : ICode :=
  (.seq (.region [⟨(some 149), (.bin .lss (.t 148) (.t 147)), none, []⟩] [])
    (.seq (.cond (.t 149)
      .skip
      (.exit 1))
    (.seq (.block 2
      (.seq (.region [⟨(some 150), (.iaddr 5 (.t 146) (.t 148)), none, []⟩,
        ⟨(some 151), (.load (some 5) (.t 150)), none, []⟩,
        ⟨(some 9), (.alloc [(.i .i64 (0)), (.i .i64 (0)), (.s []), .ns, .ns]), none, []⟩,
        ⟨none, (.store 5 (.t 9) (.t 151)), none, []⟩] [])
      (.region [⟨(some 152), (.mov (.t 7)), none, []⟩,
        ⟨(some 153), (.off (.t 9) 2), none, []⟩,
        ⟨(some 154), (.load none (.t 153)), none, []⟩,
        ⟨(some 155), (.bsl 1 1 [(.s [])] [(0, 1, (.t 154))]), none, []⟩,
        ⟨(some 156), (.app 1 16 (.t 152) (.t 155)), none, []⟩,
        ⟨(some 7), (.mov (.t 156)), none, []⟩] [])))
    (.region [⟨(some 157), (.bin .add (.t 148) (.c (.i .i64 (1)))), none, []⟩,
      ⟨(some 148), (.mov (.t 157)), none, []⟩] []))))
def I123 : IFunc :=
  ⟨(.seq (.region [⟨(some 3), (.box (.t 1)), none, []⟩] [])
    (.seq (.region [⟨(some 11), (.mov (.t 0)), none, []⟩,
      ⟨(some 12), (.nck (.t 11)), none, []⟩,
      ⟨(some 13), (.off (.t 12) 0), none, []⟩,
      ⟨(some 14), (.load (some 2) (.t 13)), none, []⟩,
      ⟨(some 15), (.load (some 3) (.t 3)), none, []⟩,
      ⟨(some 16), (.call 171 [(.t 14), (.t 15)]), none, []⟩,
      ⟨(some 10), (.mov (.t 16)), none, []⟩,
      ⟨(some 17), (.ext (.t 10) 0), none, []⟩,
      ⟨(some 18), (.ext (.t 10) 1), none, []⟩,
      ⟨(some 4), (.mov (.t 17)), none, []⟩,
      ⟨(some 5), (.mov (.t 18)), none, []⟩] [])
    (.seq (.region [⟨(some 19), (.mov (.t 0)), none, []⟩,
      ⟨(some 20), (.mov (.t 4)), none, []⟩,
      ⟨(some 21), (.call 76 [(.t 19), (.t 20)]), none, []⟩,
      ⟨(some 6), (.mov (.t 21)), none, []⟩] [])
    (.seq (.region [⟨(some 22), (.off (.t 3) 0), none, []⟩,
      ⟨(some 23), (.load none (.t 22)), none, []⟩] [])
    (.block 0
      (.seq (.region [⟨(some 31), (.bin .eql (.t 23) (.c (.i .i64 (1)))), none, []⟩,
        ⟨(some 30), (.mov (.t 31)), none, []⟩] [])
      (.cond (.t 30)
        (.region [⟨(some 32), (.mov (.t 0)), none, []⟩,
          ⟨(some 33), (.mov (.t 0)), none, []⟩,
          ⟨(some 34), (.nck (.t 33)), none, []⟩,
          ⟨(some 35), (.off (.t 34) 0), none, []⟩,
          ⟨(some 36), (.off (.t 35) 1), none, []⟩,
          ⟨(some 37), (.load none (.t 36)), none, []⟩,
          ⟨(some 38), (.off (.t 3) 1), none, []⟩,
          ⟨(some 39), (.load none (.t 38)), none, []⟩,
          ⟨(some 40), (.iaddr 5 (.t 37) (.t 39)), none, []⟩,
          ⟨(some 41), (.load (some 5) (.t 40)), none, []⟩,
          ⟨(some 42), (.call 105 [(.t 41)]), none, []⟩,
          ⟨(some 43), (.build [(.i .i64 (0)), (.i .i64 (0)), (.i .i64 (0)), (.i .i64 (0)), (.s []), .ns, .ns] [(0, 1, (.c (.i .i64 (3)))), (2, 5, (.t 42))]), none, []⟩,
          ⟨(some 44), (.bsl 7 1 [(.i .i64 (0)), (.i .i64 (0)), (.i .i64 (0)), (.i .i64 (0)), (.s []), .ns, .ns] [(0, 7, (.t 43))]), none, []⟩,
          ⟨(some 45), (.call 35 [(.t 32), (.t 44)]), none, []⟩] [])
        (.seq (.region [⟨(some 47), (.bin .eql (.t 23) (.c (.i .i64 (2)))), none, []⟩,
          ⟨(some 46), (.mov (.t 47)), none, []⟩] [])
        (.cond (.t 46)
          (.region [⟨(some 48), (.mov (.t 0)), none, []⟩,
            ⟨(some 49), (.mov (.t 0)), none, []⟩,
            ⟨(some 50), (.nck (.t 49)), none, []⟩,
            ⟨(some 51), (.off (.t 50) 18), none, []⟩,
            ⟨(some 52), (.load none (.t 51)), none, []⟩,
            ⟨(some 53), (.off (.t 3) 1), none, []⟩,
            ⟨(some 54), (.load none (.t 53)), none, []⟩,
            ⟨(some 55), (.iaddr 7 (.t 52) (.t 54)), none, []⟩,
            ⟨(some 56), (.load (some 7) (.t 55)), none, []⟩,
            ⟨(some 57), (.bsl 7 1 [(.i .i64 (0)), (.i .i64 (0)), (.i .i64 (0)), (.i .i64 (0)), (.s []), .ns, .ns] [(0, 7, (.t 56))]), none, []⟩,
            ⟨(some 58), (.call 35 [(.t 48), (.t 57)]), none, []⟩] [])
          (.seq (.region [⟨(some 60), (.bin .eql (.t 23) (.c (.i .i64 (3)))), none, []⟩,
            ⟨(some 59), (.mov (.t 60)), none, []⟩] [])
          (.cond (.t 59)
            (.region [⟨(some 61), (.mov (.t 0)), none, []⟩,
              ⟨(some 62), (.nck (.t 61)), none, []⟩,
              ⟨(some 63), (.off (.t 62) 18), none, []⟩,
              ⟨(some 64), (.load none (.t 63)), none, []⟩,
              ⟨(some 65), (.off (.t 3) 1), none, []⟩,
              ⟨(some 66), (.load none (.t 65)), none, []⟩,
              ⟨(some 67), (.mov (.t 6)), none, []⟩,
              ⟨(some 68), (.iaddr 7 (.t 67) (.c (.i .i64 (0)))), none, []⟩,
              ⟨(some 69), (.load (some 7) (.t 68)), none, []⟩,
              ⟨(some 70), (.iaddr 7 (.t 64) (.t 66)), none, []⟩,
              ⟨none, (.store 7 (.t 70) (.t 69)), none, []⟩] [])
            (.seq (.region [⟨(some 72), (.bin .eql (.t 23) (.c (.i .i64 (4)))), none, []⟩,
              ⟨(some 71), (.mov (.t 72)), none, []⟩] [])
            (.cond (.t 71)
              .skip
              (.seq (.region [⟨(some 74), (.bin .eql (.t 23) (.c (.i .i64 (5)))), none, []⟩,
                ⟨(some 73), (.mov (.t 74)), none, []⟩] [])
              (.cond (.t 73)
                (.region [⟨(some 75), (.mov (.t 0)), none, []⟩,
                  ⟨(some 76), (.mov (.t 6)), none, []⟩,
                  ⟨(some 77), (.iaddr 7 (.t 76) (.c (.i .i64 (0)))), none, []⟩,
                  ⟨(some 78), (.load (some 7) (.t 77)), none, []⟩,
                  ⟨(some 79), (.mov (.t 6)), none, []⟩,
                  ⟨(some 80), (.iaddr 7 (.t 79) (.c (.i .i64 (0)))), none, []⟩,
                  ⟨(some 81), (.load (some 7) (.t 80)), none, []⟩,
                  ⟨(some 82), (.bsl 7 2 [(.i .i64 (0)), (.i .i64 (0)), (.i .i64 (0)), (.i .i64 (0)), (.s []), .ns, .ns, (.i .i64 (0)), (.i .i64 (0)), (.i .i64 (0)), (.i .i64 (0)), (.s []), .ns, .ns] [(0, 7, (.t 78)), (7, 7, (.t 81))]), none, []⟩,
                  ⟨(some 83), (.call 35 [(.t 75), (.t 82)]), none, []⟩] [])
                (.seq (.region [⟨(some 85), (.bin .eql (.t 23) (.c (.i .i64 (23)))), none, []⟩,
                  ⟨(some 84), (.mov (.t 85)), none, []⟩] [])
                (.cond (.t 84)
                  (.seq (.region [⟨(some 86), (.mov (.t 0)), none, []⟩,
                    ⟨(some 87), (.mov (.t 0)), none, []⟩,
                    ⟨(some 88), (.nck (.t 87)), none, []⟩,
                    ⟨(some 89), (.off (.t 88) 2), none, []⟩,
                    ⟨(some 90), (.off (.t 89) 4), none, []⟩,
                    ⟨(some 91), (.load none (.t 90)), none, []⟩,
                    ⟨(some 92), (.off (.t 3) 0), none, []⟩,
                    ⟨(some 93), (.load none (.t 92)), none, []⟩,
                    ⟨(some 94), (.mov (.t 6)), none, []⟩,
                    ⟨(some 95), (.mov (.t 0)), none, []⟩,
                    ⟨(some 96), (.nck (.t 95)), none, []⟩,
                    ⟨(some 97), (.off (.t 96) 0), none, []⟩,
                    ⟨(some 98), (.off (.t 97) 1), none, []⟩,
                    ⟨(some 99), (.load none (.t 98)), none, []⟩,
                    ⟨(some 100), (.off (.t 3) 1), none, []⟩,
                    ⟨(some 101), (.load none (.t 100)), none, []⟩,
                    ⟨(some 102), (.iaddr 5 (.t 99) (.t 101)), none, []⟩,
                    ⟨(some 103), (.off (.t 102) 2), none, []⟩,
                    ⟨(some 104), (.load none (.t 103)), none, []⟩,
                    ⟨(some 105), (.build [(.i .i64 (0)), (.i .i64 (0)), .ns, (.s []), .ns] [(0, 1, (.t 93)), (2, 1, (.t 94)), (3, 1, (.t 104))]), none, []⟩,
                    ⟨(some 106), (.bsl 5 1 [(.i .i64 (0)), (.i .i64 (0)), .ns, (.s []), .ns] [(0, 5, (.t 105))]), none, []⟩,
                    ⟨(some 107), (.app 5 80 (.t 91) (.t 106)), none, []⟩,
                    ⟨(some 108), (.nck (.t 86)), none, []⟩,
                    ⟨(some 109), (.off (.t 108) 2), none, []⟩,
                    ⟨(some 110), (.off (.t 109) 4), none, []⟩,
                    ⟨none, (.store 1 (.t 110) (.t 107)), none, []⟩] [])
                  (.region [⟨(some 111), (.mov (.t 0)), none, []⟩,
                    ⟨(some 112), (.mov (.t 6)), none, []⟩,
                    ⟨(some 113), (.iaddr 7 (.t 112) (.c (.i .i64 (0)))), none, []⟩,
                    ⟨(some 114), (.load (some 7) (.t 113)), none, []⟩,
                    ⟨(some 115), (.bsl 7 1 [(.i .i64 (0)), (.i .i64 (0)), (.i .i64 (0)), (.i .i64 (0)), (.s []), .ns, .ns] [(0, 7, (.t 114))]), none, []⟩,
                    ⟨(some 116), (.call 35 [(.t 111), (.t 115)]), none, []⟩] []))
                  (.seq (.region [⟨(some 118), (.bin .eql (.t 23) (.c (.i .i64 (22)))), none, []⟩,
                    ⟨(some 117), (.mov (.t 118)), none, []⟩] [])
                  (.cond (.t 117)
                    (.region [⟨(some 119), (.mov (.t 0)), none, []⟩,
                      ⟨(some 120), (.off (.t 3) 0), none, []⟩,
                      ⟨(some 121), (.load none (.t 120)), none, []⟩,
                      ⟨(some 122), (.mov (.t 6)), none, []⟩,
                      ⟨(some 123), (.mov (.t 0)), none, []⟩,
                      ⟨(some 124), (.nck (.t 123)), none, []⟩,
                      ⟨(some 125), (.off (.t 124) 0), none, []⟩,
                      ⟨(some 126), (.off (.t 125) 1), none, []⟩,
                      ⟨(some 127), (.load none (.t 126)), none, []⟩,
                      ⟨(some 128), (.off (.t 3) 1), none, []⟩,
                      ⟨(some 129), (.load none (.t 128)), none, []⟩,
                      ⟨(some 130), (.iaddr 5 (.t 127) (.t 129)), none, []⟩,
                      ⟨(some 131), (.off (.t 130) 2), none, []⟩,
                      ⟨(some 132), (.load none (.t 131)), none, []⟩,
                      ⟨(some 133), (.build [(.i .i64 (0)), (.i .i64 (0)), .ns, (.s []), .ns] [(0, 1, (.t 121)), (2, 1, (.t 122)), (3, 1, (.t 132))]), none, []⟩,
                      ⟨(some 134), (.call 172 [(.t 119), (.t 133)]), none, []⟩] [])
                    (.seq (.region [⟨(some 136), (.bin .eql (.t 23) (.c (.i .i64 (21)))), none, []⟩,
                      ⟨(some 135), (.mov (.t 136)), none, []⟩] [])
                    (.cond (.t 135)
                      (.seq (.region [⟨(some 7), (.mov (.c .ns)), none, []⟩] [])
                      (.seq (.seq (.region [⟨(some 137), (.mov (.t 0)), none, []⟩,
                        ⟨(some 138), (.nck (.t 137)), none, []⟩,
                        ⟨(some 139), (.off (.t 138) 0), none, []⟩,
                        ⟨(some 140), (.off (.t 139) 1), none, []⟩,
                        ⟨(some 141), (.load none (.t 140)), none, []⟩,
                        ⟨(some 142), (.off (.t 3) 1), none, []⟩,
                        ⟨(some 143), (.load none (.t 142)), none, []⟩,
                        ⟨(some 144), (.iaddr 5 (.t 141) (.t 143)), none, []⟩,
                        ⟨(some 145), (.off (.t 144) 3), none, []⟩,
                        ⟨(some 146), (.load none (.t 145)), none, []⟩,
                        ⟨(some 147), (.lenk 0 (.t 146)), none, []⟩,
                        ⟨(some 148), (.mov (.c (.i .i64 (0)))), none, []⟩] [])
                      (.block 1
                        (.loop L123a)))
                      (.region [⟨(some 158), (.mov (.t 0)), none, []⟩,
                        ⟨(some 159), (.off (.t 3) 0), none, []⟩,
                        ⟨(some 160), (.load none (.t 159)), none, []⟩,
                        ⟨(some 161), (.mov (.t 6)), none, []⟩,
                        ⟨(some 162), (.mov (.t 7)), none, []⟩,
                        ⟨(some 163), (.build [(.i .i64 (0)), (.i .i64 (0)), .ns, (.s []), .ns] [(0, 1, (.t 160)), (2, 1, (.t 161)), (4, 1, (.t 162))]), none, []⟩,
                        ⟨(some 164), (.call 172 [(.t 158), (.t 163)]), none, []⟩] [])))
                      (.region [⟨(some 24), (.mov (.t 0)), none, []⟩,
                        ⟨(some 25), (.off (.t 3) 0), none, []⟩,
                        ⟨(some 26), (.load none (.t 25)), none, []⟩,
                        ⟨(some 27), (.mov (.t 6)), none, []⟩,
                        ⟨(some 28), (.build [(.i .i64 (0)), (.i .i64 (0)), .ns, (.s []), .ns] [(0, 1, (.t 26)), (2, 1, (.t 27))]), none, []⟩,
                        ⟨(some 29), (.call 172 [(.t 24), (.t 28)]), none, []⟩] [])))))))))))))))))))))),
    165, 2, [], 0⟩
theorem tr123 : trFunc Tryz.prog [([], []), ([0, 1, 2, 3, 4, 5, 6, 7, 8, 9, 10], []), ([], []), ([], []), ([], []), ([0, 1, 2, 3, 4, 5, 6, 7, 8, 9, 10, 11, 12, 13], []), ([], []), ([0, 1, 2, 3, 4, 5, 6, 7, 8, 9, 10], []), ([], []), ([0, 1, 2, 3, 4, 5, 6, 7, 8, 9, 10], []), ([], []), ([], []), ([], []), ([0, 1, 2, 3, 4, 5, 6, 7, 8], []), ([], []), ([0, 1, 2, 3, 4, 5, 6, 7, 8, 9, 10, 11, 12, 13, 14, 15, 16, 17, 18, 19, 20, 21, 22, 23, 24, 25], []), ([], []), ([], []), ([0, 1, 2, 3, 4, 5, 6, 7, 8, 9, 10, 11, 12, 13, 14, 15], []), ([], []), ([], []), ([0, 1, 2, 3, 4, 5, 6, 7, 8, 9, 10, 11], []), ([], []), ([], []), ([], []), ([], []), ([], []), ([], []), ([], [])] 0 Tryz.f123 = some I123 := by kernel_rfl

/-- 'slices.ContainsFunc[[]encore/api.Instr,encore/api.Instr]'. -/
def I124 : IFunc :=
  ⟨(.seq (.region [⟨(some 4), (.mov (.c (.b false))), none, []⟩] [])
    (.seq (.region [⟨(some 5), (.mov (.t 0)), none, []⟩,
      ⟨(some 6), (.mov (.t 1)), none, []⟩,
      ⟨(some 7), (.call 173 [(.t 5), (.t 6)]), none, []⟩,
      ⟨(some 8), (.bin .geq (.t 7) (.c (.i .i64 (0)))), none, []⟩,
      ⟨(some 4), (.mov (.t 8)), none, []⟩] [])
    .ret)),
    9, 2, [.t 4], 0⟩
theorem tr124 : trFunc Tryz.prog [([], []), ([], [])] 0 Tryz.f124 = some I124 := by kernel_rfl

/-- 'encore/lift.Small$1'. -/
def I125 : IFunc :=
  ⟨(.seq (.region [⟨(some 1), (.box (.t 0)), none, []⟩,
      ⟨(some 2), (.mov (.c (.b false))), none, []⟩] [])
    (.seq (.region [⟨(some 3), (.off (.t 1) 0), none, []⟩,
      ⟨(some 4), (.load none (.t 3)), none, []⟩,
      ⟨(some 5), (.call 112 [(.t 4)]), none, []⟩,
      ⟨(some 6), (.un .not (.t 5)), none, []⟩,
      ⟨(some 2), (.mov (.t 6)), none, []⟩] [])
    .ret)),
    7, 1, [.t 2], 0⟩
theorem tr125 : trFunc Tryz.prog [([], []), ([], [])] 0 Tryz.f125 = some I125 := by kernel_rfl

/-- 'slices.IndexFunc[[]encore/lift.Operand,encore/lift.Operand]'. -/
def L126a : ICode :=
  (.seq (.region [⟨(some 9), (.bin .lss (.t 8) (.t 7)), none, []⟩] [])
    (.seq (.cond (.t 9)
      .skip
      (.exit 0))
    (.seq (.block 1
      (.seq (.region [⟨(some 10), (.mov (.t 8)), none, []⟩,
        ⟨(some 5), (.mov (.t 10)), none, []⟩] [])
      (.seq (.region [⟨(some 11), (.mov (.t 1)), none, []⟩,
        ⟨(some 12), (.mov (.t 0)), none, []⟩,
        ⟨(some 13), (.mov (.t 5)), none, []⟩,
        ⟨(some 14), (.iaddr 7 (.t 12) (.t 13)), none, []⟩,
        ⟨(some 15), (.load (some 7) (.t 14)), none, []⟩,
        ⟨(some 16), (.callv (.t 11) [(.t 15)]), none, []⟩] [])
      (.cond (.t 16)
        (.seq (.region [⟨(some 17), (.mov (.t 5)), none, []⟩,
          ⟨(some 4), (.mov (.t 17)), none, []⟩] [])
        .ret)
        .skip))))
    (.region [⟨(some 18), (.bin .add (.t 8) (.c (.i .i64 (1)))), none, []⟩,
      ⟨(some 8), (.mov (.t 18)), none, []⟩] []))))
def I126 : IFunc :=
  ⟨(.seq (.region [⟨(some 4), (.mov (.c (.i .i64 (0)))), none, []⟩] [])
    (.seq (.seq (.region [⟨(some 6), (.mov (.t 0)), none, []⟩,
      ⟨(some 7), (.lenk 0 (.t 6)), none, []⟩,
      ⟨(some 8), (.mov (.c (.i .i64 (0)))), none, []⟩] [])
    (.block 0
      (.loop L126a)))
    (.seq (.region [⟨(some 4), (.mov (.c (.i .i64 (-1)))), none, []⟩] [])
    .ret))),
    19, 2, [.t 4], 0⟩
theorem tr126 : trFunc Tryz.prog [([], []), ([], []), ([], []), ([], []), ([], []), ([], []), ([], []), ([], []), ([], []), ([], [])] 0 Tryz.f126 = some I126 := by kernel_rfl

/-- 'encore/guess.makes'. -/
def I127 : IFunc :=
  ⟨(.seq (.region [⟨(some 1), (.box (.t 0)), none, []⟩,
      ⟨(some 2), (.mov (.c (.i .i64 (0)))), none, []⟩] [])
    (.seq (.seq (.region [⟨(some 3), (.off (.t 1) 0), none, []⟩,
      ⟨(some 4), (.load none (.t 3)), none, []⟩] [])
    (.block 0
      (.seq (.seq (.region [⟨(some 6), (.bin .eql (.t 4) (.c (.i .i64 (6)))), none, []⟩,
        ⟨(some 5), (.mov (.t 6)), none, []⟩] [])
      (.cond (.t 5)
        .skip
        (.seq (.region [⟨(some 7), (.bin .eql (.t 4) (.c (.i .i64 (8)))), none, []⟩,
          ⟨(some 5), (.mov (.t 7)), none, []⟩] [])
        (.cond (.t 5)
          .skip
          (.seq (.region [⟨(some 8), (.bin .eql (.t 4) (.c (.i .i64 (10)))), none, []⟩,
            ⟨(some 5), (.mov (.t 8)), none, []⟩] [])
          (.cond (.t 5)
            .skip
            (.seq (.region [⟨(some 9), (.bin .eql (.t 4) (.c (.i .i64 (11)))), none, []⟩,
              ⟨(some 5), (.mov (.t 9)), none, []⟩] [])
            (.cond (.t 5)
              .skip
              (.seq (.region [⟨(some 10), (.bin .eql (.t 4) (.c (.i .i64 (12)))), none, []⟩,
                ⟨(some 5), (.mov (.t 10)), none, []⟩] [])
              (.cond (.t 5)
                .skip
                (.seq (.region [⟨(some 11), (.bin .eql (.t 4) (.c (.i .i64 (13)))), none, []⟩,
                  ⟨(some 5), (.mov (.t 11)), none, []⟩] [])
                (.cond (.t 5)
                  .skip
                  (.seq (.region [⟨(some 12), (.bin .eql (.t 4) (.c (.i .i64 (41)))), none, []⟩,
                    ⟨(some 5), (.mov (.t 12)), none, []⟩] [])
                  (.cond (.t 5)
                    .skip
                    (.seq (.region [⟨(some 13), (.bin .eql (.t 4) (.c (.i .i64 (43)))), none, []⟩,
                      ⟨(some 5), (.mov (.t 13)), none, []⟩] [])
                    (.cond (.t 5)
                      .skip
                      (.seq (.region [⟨(some 14), (.bin .eql (.t 4) (.c (.i .i64 (44)))), none, []⟩,
                        ⟨(some 5), (.mov (.t 14)), none, []⟩] [])
                      (.cond (.t 5)
                        .skip
                        (.seq (.region [⟨(some 15), (.bin .eql (.t 4) (.c (.i .i64 (45)))), none, []⟩,
                          ⟨(some 5), (.mov (.t 15)), none, []⟩] [])
                        (.cond (.t 5)
                          .skip
                          (.region [⟨(some 16), (.bin .eql (.t 4) (.c (.i .i64 (48)))), none, []⟩,
                            ⟨(some 5), (.mov (.t 16)), none, []⟩] [])))))))))))))))))))))
      (.cond (.t 5)
        (.seq (.region [⟨(some 2), (.mov (.c (.i .i64 (1)))), none, []⟩] [])
        .ret)
        (.seq (.seq (.region [⟨(some 18), (.bin .eql (.t 4) (.c (.i .i64 (7)))), none, []⟩,
          ⟨(some 17), (.mov (.t 18)), none, []⟩] [])
        (.cond (.t 17)
          .skip
          (.seq (.region [⟨(some 19), (.bin .eql (.t 4) (.c (.i .i64 (14)))), none, []⟩,
            ⟨(some 17), (.mov (.t 19)), none, []⟩] [])
          (.cond (.t 17)
            .skip
            (.seq (.region [⟨(some 20), (.bin .eql (.t 4) (.c (.i .i64 (15)))), none, []⟩,
              ⟨(some 17), (.mov (.t 20)), none, []⟩] [])
            (.cond (.t 17)
              .skip
              (.seq (.region [⟨(some 21), (.bin .eql (.t 4) (.c (.i .i64 (16)))), none, []⟩,
                ⟨(some 17), (.mov (.t 21)), none, []⟩] [])
              (.cond (.t 17)
                .skip
                (.seq (.region [⟨(some 22), (.bin .eql (.t 4) (.c (.i .i64 (17)))), none, []⟩,
                  ⟨(some 17), (.mov (.t 22)), none, []⟩] [])
                (.cond (.t 17)
                  .skip
                  (.seq (.region [⟨(some 23), (.bin .eql (.t 4) (.c (.i .i64 (42)))), none, []⟩,
                    ⟨(some 17), (.mov (.t 23)), none, []⟩] [])
                  (.cond (.t 17)
                    .skip
                    (.seq (.region [⟨(some 24), (.bin .eql (.t 4) (.c (.i .i64 (46)))), none, []⟩,
                      ⟨(some 17), (.mov (.t 24)), none, []⟩] [])
                    (.cond (.t 17)
                      .skip
                      (.seq (.region [⟨(some 25), (.bin .eql (.t 4) (.c (.i .i64 (47)))), none, []⟩,
                        ⟨(some 17), (.mov (.t 25)), none, []⟩] [])
                      (.cond (.t 17)
                        .skip
                        (.region [⟨(some 26), (.bin .eql (.t 4) (.c (.i .i64 (49)))), none, []⟩,
                          ⟨(some 17), (.mov (.t 26)), none, []⟩] [])))))))))))))))))
        (.cond (.t 17)
          (.seq (.region [⟨(some 2), (.mov (.c (.i .i64 (2)))), none, []⟩] [])
          .ret)
          (.seq (.seq (.region [⟨(some 28), (.bin .eql (.t 4) (.c (.i .i64 (20)))), none, []⟩,
            ⟨(some 27), (.mov (.t 28)), none, []⟩] [])
          (.cond (.t 27)
            .skip
            (.region [⟨(some 29), (.bin .eql (.t 4) (.c (.i .i64 (18)))), none, []⟩,
              ⟨(some 27), (.mov (.t 29)), none, []⟩] [])))
          (.cond (.t 27)
            (.seq (.region [⟨(some 2), (.mov (.c (.i .i64 (4)))), none, []⟩] [])
            .ret)
            (.seq (.region [⟨(some 31), (.bin .eql (.t 4) (.c (.i .i64 (21)))), none, []⟩,
              ⟨(some 30), (.mov (.t 31)), none, []⟩] [])
            (.cond (.t 30)
              (.seq (.region [⟨(some 2), (.mov (.c (.i .i64 (5)))), none, []⟩] [])
              .ret)
              (.seq (.region [⟨(some 33), (.bin .eql (.t 4) (.c (.i .i64 (40)))), none, []⟩,
                ⟨(some 32), (.mov (.t 33)), none, []⟩] [])
              (.cond (.t 32)
                (.seq (.region [⟨(some 34), (.off (.t 1) 1), none, []⟩,
                  ⟨(some 35), (.load none (.t 34)), none, []⟩,
                  ⟨(some 2), (.mov (.t 35)), none, []⟩] [])
                .ret)
                .skip))))))))))))
    (.seq (.region [⟨(some 2), (.mov (.c (.i .i64 (-1)))), none, []⟩] [])
    .ret))),
    36, 1, [.t 2], 0⟩
theorem tr127 : trFunc Tryz.prog [([], []), ([], []), ([], []), ([], []), ([], []), ([], []), ([], []), ([], []), ([], []), ([], []), ([], []), ([], []), ([], []), ([], []), ([], []), ([], []), ([], []), ([], []), ([], []), ([], []), ([], []), ([], []), ([], []), ([], []), ([], []), ([], []), ([], []), ([], []), ([], []), ([], []), ([], []), ([], []), ([], []), ([], []), ([], []), ([], []), ([], []), ([], []), ([], []), ([], []), ([], []), ([], []), ([], []), ([], []), ([], []), ([], []), ([], []), ([], []), ([], []), ([], []), ([], []), ([], [])] 0 Tryz.f127 = some I127 := by kernel_rfl

/-- 'slices.Repeat[[]int,int]'. -/
def L128a : ICode :=
  (.seq (.seq (.region [⟨(some 34), (.mov (.t 8)), none, []⟩,
      ⟨(some 35), (.mov (.t 7)), none, []⟩,
      ⟨(some 36), (.lenk 0 (.t 35)), none, []⟩,
      ⟨(some 37), (.bin .lss (.t 34) (.t 36)), none, []⟩] [])
    (.cond (.t 37)
      .skip
      (.exit 0)))
    (.block 1
      (.region [⟨(some 38), (.mov (.t 8)), none, []⟩,
        ⟨(some 39), (.mov (.t 7)), none, []⟩,
        ⟨(some 40), (.mov (.t 8)), none, []⟩,
        ⟨(some 41), (.slq 1 (.t 39) (some (.t 40)) none none), none, []⟩,
        ⟨(some 42), (.mov (.t 7)), none, []⟩,
        ⟨(some 43), (.mov (.t 8)), none, []⟩,
        ⟨(some 44), (.slq 1 (.t 42) none (some (.t 43)) none), none, []⟩,
        ⟨(some 45), (.cpy 1 (.t 41) (.t 44)), none, []⟩,
        ⟨(some 46), (.bin .add (.t 38) (.t 45)), none, []⟩,
        ⟨(some 8), (.mov (.t 46)), none, []⟩] [])))
def I128 : IFunc :=
  ⟨(.seq (.region [⟨(some 4), (.mov (.c .ns)), none, []⟩] [])
    (.seq (.seq (.region [⟨(some 9), (.mov (.t 1)), none, []⟩,
      ⟨(some 10), (.bin .lss (.t 9) (.c (.i .i64 (0)))), none, []⟩] [])
    (.cond (.t 10)
      (.region [⟨(some 11), (.iface 9 (.c (.s [99, 97, 110, 110, 111, 116, 32, 98, 101, 32, 110, 101, 103, 97, 116, 105, 118, 101]))), none, []⟩,
        ⟨none, .bad, none, []⟩] [])
      .skip))
    (.seq (.region [⟨(some 13), (.mov (.t 0)), none, []⟩,
      ⟨(some 14), (.lenk 0 (.t 13)), none, []⟩,
      ⟨(some 15), (.conv .u64 (.t 14)), none, []⟩,
      ⟨(some 16), (.mov (.t 1)), none, []⟩,
      ⟨(some 17), (.conv .u64 (.t 16)), none, []⟩,
      ⟨(some 18), (.call 174 [(.t 15), (.t 17)]), none, []⟩,
      ⟨(some 12), (.mov (.t 18)), none, []⟩,
      ⟨(some 19), (.ext (.t 12) 0), none, []⟩,
      ⟨(some 20), (.ext (.t 12) 1), none, []⟩,
      ⟨(some 5), (.mov (.t 19)), none, []⟩,
      ⟨(some 6), (.mov (.t 20)), none, []⟩] [])
    (.seq (.seq (.region [⟨(some 21), (.mov (.t 5)), none, []⟩,
      ⟨(some 22), (.bin .gtr (.t 21) (.c (.i .u64 (0)))), none, []⟩,
      ⟨(some 23), (.mov (.t 22)), none, []⟩,
      ⟨(some 24), (.mov (.t 6)), (some (23, false)), []⟩,
      ⟨(some 25), (.bin .gtr (.t 24) (.c (.i .u64 (9223372036854775807)))), (some (23, false)), []⟩,
      ⟨(some 26), (.pick (.t 23) (.c (.b true)) (.t 25)), none, []⟩] [])
    (.cond (.t 26)
      (.region [⟨(some 27), (.iface 9 (.c (.s [116, 104, 101, 32, 114, 101, 115, 117, 108, 116, 32, 111, 102, 32, 40, 108, 101, 110, 40, 120, 41, 32, 42, 32, 99, 111, 117, 110, 116, 41, 32, 111, 118, 101, 114, 102, 108, 111, 119, 115]))), none, []⟩,
        ⟨none, .bad, none, []⟩] [])
      .skip))
    (.seq (.region [⟨(some 28), (.mov (.t 6)), none, []⟩,
      ⟨(some 29), (.conv .i64 (.t 28)), none, []⟩,
      ⟨(some 30), (.mksl 1 8 [(.i .i64 (0))] (.t 29) (.t 29)), none, []⟩,
      ⟨(some 7), (.mov (.t 30)), none, []⟩] [])
    (.seq (.region [⟨(some 31), (.mov (.t 7)), none, []⟩,
      ⟨(some 32), (.mov (.t 0)), none, []⟩,
      ⟨(some 33), (.cpy 1 (.t 31) (.t 32)), none, []⟩,
      ⟨(some 8), (.mov (.t 33)), none, []⟩] [])
    (.seq (.block 0
      (.loop L128a))
    (.seq (.region [⟨(some 47), (.mov (.t 7)), none, []⟩,
      ⟨(some 4), (.mov (.t 47)), none, []⟩] [])
    .ret)))))))),
    48, 2, [.t 4], 0⟩
theorem tr128 : trFunc Tryz.prog [([], []), ([], []), ([], []), ([], []), ([], []), ([], []), ([], []), ([], []), ([], []), ([], []), ([], []), ([], []), ([0, 1, 2, 3, 4, 5, 6, 7, 8, 9], []), ([], [])] 0 Tryz.f128 = some I128 := by kernel_rfl

/-- '(*encore/prune.facts).all'. -/
def I129 : IFunc :=
  ⟨(.seq (.region [⟨(some 3), (.box (.t 0)), none, []⟩,
      ⟨(some 4), (.box (.t 1)), none, []⟩,
      ⟨(some 6), (.mov (.c (.b false))), none, []⟩] [])
    (.seq (.region [⟨(some 7), (.mov (.t 2)), none, []⟩,
      ⟨(some 8), (.mkf 176 [] [(.t 4), (.t 3)]), none, []⟩,
      ⟨(some 9), (.call 175 [(.t 7), (.t 8)]), none, []⟩,
      ⟨(some 6), (.mov (.t 9)), none, []⟩] [])
    .ret)),
    10, 3, [.t 6], 0⟩
theorem tr129 : trFunc Tryz.prog [([], []), ([], [])] 0 Tryz.f129 = some I129 := by kernel_rfl

/-- 'slices.EqualFunc[[]encore/lift.Operand,[]encore/lift.Operand,encore/lift.Operand,encore/lift.Operand]'. -/
def L130a : ICode :=
  (.seq (.region [⟨(some 18), (.bin .lss (.t 17) (.t 16)), none, []⟩] [])
    (.seq (.cond (.t 18)
      .skip
      (.exit 0))
    (.seq (.block 1
      (.seq (.region [⟨(some 19), (.mov (.t 17)), none, []⟩,
        ⟨(some 20), (.iaddr 7 (.t 15) (.t 17)), none, []⟩,
        ⟨(some 21), (.load (some 7) (.t 20)), none, []⟩,
        ⟨(some 8), (.alloc [(.i .i64 (0)), (.i .i64 (0)), (.i .i64 (0)), (.i .i64 (0)), (.s []), .ns, .ns]), none, []⟩,
        ⟨(some 7), (.mov (.t 19)), none, []⟩,
        ⟨none, (.store 7 (.t 8) (.t 21)), none, []⟩] [])
      (.seq (.region [⟨(some 22), (.mov (.t 1)), none, []⟩,
        ⟨(some 23), (.mov (.t 7)), none, []⟩,
        ⟨(some 24), (.iaddr 7 (.t 22) (.t 23)), none, []⟩,
        ⟨(some 25), (.load (some 7) (.t 24)), none, []⟩,
        ⟨(some 9), (.alloc [(.i .i64 (0)), (.i .i64 (0)), (.i .i64 (0)), (.i .i64 (0)), (.s []), .ns, .ns]), none, []⟩,
        ⟨none, (.store 7 (.t 9) (.t 25)), none, []⟩] [])
      (.seq (.region [⟨(some 26), (.mov (.t 2)), none, []⟩,
        ⟨(some 27), (.load (some 7) (.t 8)), none, []⟩,
        ⟨(some 28), (.load (some 7) (.t 9)), none, []⟩,
        ⟨(some 29), (.callv (.t 26) [(.t 27), (.t 28)]), none, []⟩,
        ⟨(some 30), (.un .not (.t 29)), none, []⟩] [])
      (.cond (.t 30)
        (.seq (.region [⟨(some 6), (.mov (.c (.b false))), none, []⟩] [])
        .ret)
        .skip)))))
    (.region [⟨(some 31), (.bin .add (.t 17) (.c (.i .i64 (1)))), none, []⟩,
      ⟨(some 17), (.mov (.t 31)), none, []⟩] []))))
def I130 : IFunc :=
  ⟨(.seq (.region [⟨(some 6), (.mov (.c (.b false))), none, []⟩] [])
    (.seq (.seq (.region [⟨(some 10), (.mov (.t 0)), none, []⟩,
      ⟨(some 11), (.lenk 0 (.t 10)), none, []⟩,
      ⟨(some 12), (.mov (.t 1)), none, []⟩,
      ⟨(some 13), (.lenk 0 (.t 12)), none, []⟩,
      ⟨(some 14), (.bin .neq (.t 11) (.t 13)), none, []⟩] [])
    (.cond (.t 14)
      (.seq (.region [⟨(some 6), (.mov (.c (.b false))), none, []⟩] [])
      .ret)
      .skip))
    (.seq (.seq (.region [⟨(some 15), (.mov (.t 0)), none, []⟩,
      ⟨(some 16), (.lenk 0 (.t 15)), none, []⟩,
      ⟨(some 17), (.mov (.c (.i .i64 (0)))), none, []⟩] [])
    (.block 0
      (.loop L130a)))
    (.seq (.region [⟨(some 6), (.mov (.c (.b true))), none, []⟩] [])
    .ret)))),
    32, 3, [.t 6], 0⟩
theorem tr130 : trFunc Tryz.prog [([], []), ([], []), ([], []), ([], []), ([], []), ([], []), ([], []), ([], []), ([], []), ([], []), ([], []), ([], []), ([], []), ([], [])] 0 Tryz.f130 = some I130 := by kernel_rfl

/-- 'encore/prune.same'. -/
def I131 : IFunc :=
  ⟨(.seq (.region [⟨(some 2), (.box (.t 0)), none, []⟩,
      ⟨(some 3), (.box (.t 1)), none, []⟩,
      ⟨(some 4), (.mov (.c (.b false))), none, []⟩] [])
    (.seq (.region [⟨(some 5), (.off (.t 2) 0), none, []⟩,
      ⟨(some 6), (.load none (.t 5)), none, []⟩,
      ⟨(some 7), (.off (.t 3) 0), none, []⟩,
      ⟨(some 8), (.load none (.t 7)), none, []⟩,
      ⟨(some 9), (.bin .eql (.t 6) (.t 8)), none, []⟩,
      ⟨(some 10), (.mov (.t 9)), none, []⟩,
      ⟨(some 11), (.off (.t 2) 1), (some (10, true)), []⟩,
      ⟨(some 12), (.load none (.t 11)), (some (10, true)), []⟩,
      ⟨(some 13), (.off (.t 3) 1), (some (10, true)), []⟩,
      ⟨(some 14), (.load none (.t 13)), (some (10, true)), []⟩,
      ⟨(some 15), (.bin .eql (.t 12) (.t 14)), (some (10, true)), []⟩,
      ⟨(some 16), (.pick (.t 10) (.t 15) (.c (.b false))), none, []⟩,
      ⟨(some 17), (.mov (.t 16)), none, []⟩,
      ⟨(some 18), (.off (.t 2) 2), (some (17, true)), []⟩,
      ⟨(some 19), (.load (some 5) (.t 18)), (some (17, true)), []⟩,
      ⟨(some 20), (.off (.t 3) 2), (some (17, true)), []⟩,
      ⟨(some 21), (.load (some 5) (.t 20)), (some (17, true)), []⟩,
      ⟨(some 22), (.call 179 [(.t 19), (.t 21)]), (some (17, true)), []⟩,
      ⟨(some 23), (.pick (.t 17) (.t 22) (.c (.b false))), none, []⟩,
      ⟨(some 4), (.mov (.t 23)), none, []⟩] [])
    .ret)),
    24, 2, [.t 4], 0⟩
theorem tr131 : trFunc Tryz.prog [([], []), ([], [])] 0 Tryz.f131 = some I131 := by kernel_rfl

/-- 'slices.Equal[[]string,string]'. -/
def L132a : ICode :=
  (.seq (.region [⟨(some 14), (.bin .lss (.t 13) (.t 12)), none, []⟩] [])
    (.seq (.cond (.t 14)
      .skip
      (.exit 0))
    (.seq (.block 1
      (.seq (.region [⟨(some 15), (.mov (.t 13)), none, []⟩,
        ⟨(some 5), (.mov (.t 15)), none, []⟩] [])
      (.seq (.region [⟨(some 16), (.mov (.t 0)), none, []⟩,
        ⟨(some 17), (.mov (.t 5)), none, []⟩,
        ⟨(some 18), (.iaddr 1 (.t 16) (.t 17)), none, []⟩,
        ⟨(some 19), (.load none (.t 18)), none, []⟩,
        ⟨(some 20), (.mov (.t 1)), none, []⟩,
        ⟨(some 21), (.mov (.t 5)), none, []⟩,
        ⟨(some 22), (.iaddr 1 (.t 20) (.t 21)), none, []⟩,
        ⟨(some 23), (.load none (.t 22)), none, []⟩,
        ⟨(some 24), (.bin .neq (.t 19) (.t 23)), none, []⟩] [])
      (.cond (.t 24)
        (.seq (.region [⟨(some 4), (.mov (.c (.b false))), none, []⟩] [])
        .ret)
        .skip))))
    (.region [⟨(some 25), (.bin .add (.t 13) (.c (.i .i64 (1)))), none, []⟩,
      ⟨(some 13), (.mov (.t 25)), none, []⟩] []))))
def I132 : IFunc :=
  ⟨(.seq (.region [⟨(some 4), (.mov (.c (.b false))), none, []⟩] [])
    (.seq (.seq (.region [⟨(some 6), (.mov (.t 0)), none, []⟩,
      ⟨(some 7), (.lenk 0 (.t 6)), none, []⟩,
      ⟨(some 8), (.mov (.t 1)), none, []⟩,
      ⟨(some 9), (.lenk 0 (.t 8)), none, []⟩,
      ⟨(some 10), (.bin .neq (.t 7) (.t 9)), none, []⟩] [])
    (.cond (.t 10)
      (.seq (.region [⟨(some 4), (.mov (.c (.b false))), none, []⟩] [])
      .ret)
      .skip))
    (.seq (.seq (.region [⟨(some 11), (.mov (.t 0)), none, []⟩,
      ⟨(some 12), (.lenk 0 (.t 11)), none, []⟩,
      ⟨(some 13), (.mov (.c (.i .i64 (0)))), none, []⟩] [])
    (.block 0
      (.loop L132a)))
    (.seq (.region [⟨(some 4), (.mov (.c (.b true))), none, []⟩] [])
    .ret)))),
    26, 2, [.t 4], 0⟩
theorem tr132 : trFunc Tryz.prog [([], []), ([], []), ([], []), ([], []), ([], []), ([], []), ([], []), ([], []), ([0, 1, 2, 3, 4, 5, 6, 7, 8], []), ([], []), ([], []), ([], []), ([], [])] 0 Tryz.f132 = some I132 := by kernel_rfl

/-- 'encore/fuse.second'. -/
def I133 : IFunc :=
  ⟨(.seq (.region [⟨(some 3), (.box (.t 0)), none, []⟩,
      ⟨(some 4), (.box (.t 1)), none, []⟩,
      ⟨(some 5), (.box (.t 2)), none, []⟩,
      ⟨(some 6), (.mov (.c .nf)), none, []⟩] [])
    (.seq (.region [⟨(some 7), (.mkf 180 [] [(.t 3), (.t 4), (.t 5)]), none, []⟩,
      ⟨(some 6), (.mov (.t 7)), none, []⟩] [])
    .ret)),
    8, 3, [.t 6], 0⟩
theorem tr133 : trFunc Tryz.prog [([], []), ([], [])] 0 Tryz.f133 = some I133 := by kernel_rfl

/-- 'encore/fuse.first'. -/
def I134 : IFunc :=
  ⟨(.seq (.region [⟨(some 3), (.box (.t 1)), none, []⟩,
      ⟨(some 4), (.alloc [(.i .i64 (0)), (.i .i64 (0)), .ns, (.s []), .ns]), none, []⟩,
      ⟨(some 5), (.mov (.c (.b false))), none, []⟩] [])
    (.seq (.seq (.region [⟨(some 8), (.off (.t 3) 0), none, []⟩,
      ⟨(some 9), (.load none (.t 8)), none, []⟩,
      ⟨(some 10), (.bin .neq (.t 9) (.c (.i .i64 (43)))), none, []⟩] [])
    (.cond (.t 10)
      (.seq (.region [⟨(some 11), (.load (some 5) (.t 3)), none, []⟩,
        ⟨none, (.store 5 (.t 4) (.t 11)), none, []⟩,
        ⟨(some 5), (.mov (.c (.b false))), none, []⟩] [])
      .ret)
      .skip))
    (.seq (.region [⟨(some 13), (.off (.t 3) 2), none, []⟩,
      ⟨(some 14), (.load none (.t 13)), none, []⟩,
      ⟨(some 15), (.iaddr 7 (.t 14) (.c (.i .i64 (0)))), none, []⟩,
      ⟨(some 16), (.load (some 7) (.t 15)), none, []⟩,
      ⟨(some 17), (.call 181 [(.t 16)]), none, []⟩,
      ⟨(some 12), (.mov (.t 17)), none, []⟩,
      ⟨(some 18), (.ext (.t 12) 0), none, []⟩,
      ⟨(some 19), (.ext (.t 12) 1), none, []⟩,
      ⟨(some 6), (.mov (.t 18)), none, []⟩,
      ⟨(some 7), (.mov (.t 19)), none, []⟩] [])
    (.seq (.region [⟨(some 20), (.mov (.t 6)), none, []⟩,
      ⟨(some 21), (.off (.t 3) 2), none, []⟩,
      ⟨(some 22), (.load none (.t 21)), none, []⟩,
      ⟨(some 23), (.sl 7 (.t 22) (some (.c (.i .i64 (1)))) none none), none, []⟩,
      ⟨(some 24), (.build [(.i .i64 (0)), (.i .i64 (0)), .ns, (.s []), .ns] [(0, 1, (.c (.i .i64 (48)))), (1, 1, (.t 20)), (2, 1, (.t 23))]), none, []⟩,
      ⟨(some 25), (.mov (.t 7)), none, []⟩,
      ⟨none, (.store 5 (.t 4) (.t 24)), none, []⟩,
      ⟨(some 5), (.mov (.t 25)), none, []⟩] [])
    .ret)))),
    26, 2, [.c 4 (some 5), .t 5], 0⟩
theorem tr134 : trFunc Tryz.prog [([], []), ([], []), ([], []), ([], []), ([], []), ([], [])] 0 Tryz.f134 = some I134 := by kernel_rfl

/-- 'encore/fuse.chain'. -/
def I135 : IFunc :=
  ⟨(.seq (.region [⟨(some 3), (.box (.t 1)), none, []⟩,
      ⟨(some 4), (.alloc [(.i .i64 (0)), (.i .i64 (0)), .ns, (.s []), .ns]), none, []⟩,
      ⟨(some 5), (.mov (.c (.b false))), none, []⟩] [])
    (.seq (.seq (.region [⟨(some 7), (.off (.t 3) 0), none, []⟩,
      ⟨(some 8), (.load none (.t 7)), none, []⟩,
      ⟨(some 9), (.bin .neq (.t 8) (.c (.i .i64 (48)))), none, []⟩,
      ⟨(some 10), (.mov (.t 9)), none, []⟩,
      ⟨(some 11), (.off (.t 3) 2), (some (10, false)), []⟩,
      ⟨(some 12), (.load none (.t 11)), (some (10, false)), []⟩,
      ⟨(some 13), (.iaddr 7 (.t 12) (.c (.i .i64 (0)))), (some (10, false)), []⟩,
      ⟨(some 14), (.off (.t 13) 0), (some (10, false)), []⟩,
      ⟨(some 15), (.load none (.t 14)), (some (10, false)), []⟩,
      ⟨(some 16), (.bin .neq (.t 15) (.c (.i .i64 (2)))), (some (10, false)), []⟩,
      ⟨(some 17), (.pick (.t 10) (.c (.b true)) (.t 16)), none, []⟩] [])
    (.cond (.t 17)
      (.seq (.region [⟨(some 18), (.load (some 5) (.t 3)), none, []⟩,
        ⟨none, (.store 5 (.t 4) (.t 18)), none, []⟩,
        ⟨(some 5), (.mov (.c (.b false))), none, []⟩] [])
      .ret)
      .skip))
    (.seq (.region [⟨(some 19), (.mov (.t 0)), none, []⟩,
      ⟨(some 20), (.off (.t 3) 2), none, []⟩,
      ⟨(some 21), (.load none (.t 20)), none, []⟩,
      ⟨(some 22), (.iaddr 7 (.t 21) (.c (.i .i64 (0)))), none, []⟩,
      ⟨(some 23), (.off (.t 22) 1), none, []⟩,
      ⟨(some 24), (.load none (.t 23)), none, []⟩,
      ⟨(some 25), (.iaddr 5 (.t 19) (.t 24)), none, []⟩,
      ⟨(some 26), (.load (some 5) (.t 25)), none, []⟩,
      ⟨(some 6), (.alloc [(.i .i64 (0)), (.i .i64 (0)), .ns, (.s []), .ns]), none, []⟩,
      ⟨none, (.store 5 (.t 6) (.t 26)), none, []⟩] [])
    (.seq (.region [⟨(some 27), (.off (.t 6) 0), none, []⟩,
      ⟨(some 28), (.load none (.t 27)), none, []⟩,
      ⟨(some 29), (.off (.t 6) 1), none, []⟩,
      ⟨(some 30), (.load none (.t 29)), none, []⟩,
      ⟨(some 31), (.off (.t 3) 1), none, []⟩,
      ⟨(some 32), (.load none (.t 31)), none, []⟩,
      ⟨(some 33), (.bin .add (.t 30) (.t 32)), none, []⟩,
      ⟨(some 34), (.off (.t 6) 2), none, []⟩,
      ⟨(some 35), (.load none (.t 34)), none, []⟩,
      ⟨(some 36), (.build [(.i .i64 (0)), (.i .i64 (0)), .ns, (.s []), .ns] [(0, 1, (.t 28)), (1, 1, (.t 33)), (2, 1, (.t 35))]), none, []⟩,
      ⟨(some 37), (.off (.t 6) 0), none, []⟩,
      ⟨(some 38), (.load none (.t 37)), none, []⟩,
      ⟨(some 39), (.bin .eql (.t 38) (.c (.i .i64 (48)))), none, []⟩,
      ⟨none, (.store 5 (.t 4) (.t 36)), none, [(38, (.load none (.t 37)), none)]⟩,
      ⟨(some 5), (.mov (.t 39)), none, []⟩] [])
    .ret)))),
    40, 2, [.c 4 (some 5), .t 5], 0⟩
theorem tr135 : trFunc Tryz.prog [([], []), ([], []), ([], []), ([], []), ([], []), ([0, 1, 2, 3, 4, 5, 6, 7, 8, 9, 10, 11, 12, 13, 14], [])] 0 Tryz.f135 = some I135 := by kernel_rfl

/-- 'encore/lift.record'. -/
def I136 : IFunc :=
  ⟨(.seq (.region [⟨(some 2), (.mov (.c (.b false))), none, []⟩] [])
    (.seq (.region [⟨(some 3), (.mov (.t 0)), none, []⟩,
      ⟨(some 4), (.lenk 0 (.t 3)), none, []⟩,
      ⟨(some 5), (.bin .leq (.t 4) (.c (.i .i64 (8)))), none, []⟩,
      ⟨(some 6), (.mov (.t 5)), none, []⟩,
      ⟨(some 7), (.mov (.t 0)), (some (6, true)), []⟩,
      ⟨(some 8), (.mov (.t 0)), (some (6, true)), []⟩,
      ⟨(some 9), (.lenk 0 (.t 8)), (some (6, true)), []⟩,
      ⟨(some 10), (.mksl 5 80 [(.i .i64 (0)), (.i .i64 (0)), (.s []), .ns, .ns] (.t 9) (.t 9)), (some (6, true)), []⟩,
      ⟨(some 11), (.build [(.i .i64 (0)), (.i .i64 (0)), (.s []), .ns, .ns] [(0, 1, (.c (.i .i64 (5)))), (4, 1, (.t 7)), (3, 1, (.t 10))]), (some (6, true)), []⟩,
      ⟨(some 12), (.call 96 [(.t 11)]), (some (6, true)), []⟩,
      ⟨(some 13), (.pick (.t 6) (.t 12) (.c (.b false))), none, []⟩,
      ⟨(some 2), (.mov (.t 13)), none, []⟩] [])
    .ret)),
    14, 1, [.t 2], 0⟩
theorem tr136 : trFunc Tryz.prog [([], []), ([], [])] 0 Tryz.f136 = some I136 := by kernel_rfl

/-- 'encore/value.Fits'. -/
def I137 : IFunc :=
  ⟨(.seq (.region [⟨(some 2), (.mov (.c (.b false))), none, []⟩] [])
    (.seq (.region [⟨(some 6), (.mov (.t 0)), none, []⟩,
      ⟨(some 7), (.call 182 [(.t 6)]), none, []⟩,
      ⟨(some 5), (.mov (.t 7)), none, []⟩,
      ⟨(some 8), (.ext (.t 5) 0), none, []⟩,
      ⟨(some 9), (.ext (.t 5) 1), none, []⟩,
      ⟨(some 3), (.alloc [(.i .i64 (0)), .ns, .ns]), none, []⟩,
      ⟨none, (.store 3 (.t 3) (.t 8)), none, []⟩,
      ⟨(some 4), (.mov (.t 9)), none, []⟩] [])
    (.seq (.region [⟨(some 10), (.mov (.t 4)), none, []⟩,
      ⟨(some 2), (.mov (.t 10)), none, []⟩] [])
    .ret))),
    11, 1, [.t 2], 0⟩
theorem tr137 : trFunc Tryz.prog [([], []), ([], []), ([], [])] 0 Tryz.f137 = some I137 := by kernel_rfl

/-- 'slices.EqualFunc[[]encore/api.Value,[]encore/api.Value,encore/api.Value,encore/api.Value]'. -/
def L138a : ICode :=
  (.seq (.region [⟨(some 18), (.bin .lss (.t 17) (.t 16)), none, []⟩] [])
    (.seq (.cond (.t 18)
      .skip
      (.exit 0))
    (.seq (.block 1
      (.seq (.region [⟨(some 19), (.mov (.t 17)), none, []⟩,
        ⟨(some 20), (.iaddr 5 (.t 15) (.t 17)), none, []⟩,
        ⟨(some 21), (.load (some 5) (.t 20)), none, []⟩,
        ⟨(some 8), (.alloc [(.i .i64 (0)), (.i .i64 (0)), (.s []), .ns, .ns]), none, []⟩,
        ⟨(some 7), (.mov (.t 19)), none, []⟩,
        ⟨none, (.store 5 (.t 8) (.t 21)), none, []⟩] [])
      (.seq (.region [⟨(some 22), (.mov (.t 1)), none, []⟩,
        ⟨(some 23), (.mov (.t 7)), none, []⟩,
        ⟨(some 24), (.iaddr 5 (.t 22) (.t 23)), none, []⟩,
        ⟨(some 25), (.load (some 5) (.t 24)), none, []⟩,
        ⟨(some 9), (.alloc [(.i .i64 (0)), (.i .i64 (0)), (.s []), .ns, .ns]), none, []⟩,
        ⟨none, (.store 5 (.t 9) (.t 25)), none, []⟩] [])
      (.seq (.region [⟨(some 26), (.mov (.t 2)), none, []⟩,
        ⟨(some 27), (.load (some 5) (.t 8)), none, []⟩,
        ⟨(some 28), (.load (some 5) (.t 9)), none, []⟩,
        ⟨(some 29), (.callv (.t 26) [(.t 27), (.t 28)]), none, []⟩,
        ⟨(some 30), (.un .not (.t 29)), none, []⟩] [])
      (.cond (.t 30)
        (.seq (.region [⟨(some 6), (.mov (.c (.b false))), none, []⟩] [])
        .ret)
        .skip)))))
    (.region [⟨(some 31), (.bin .add (.t 17) (.c (.i .i64 (1)))), none, []⟩,
      ⟨(some 17), (.mov (.t 31)), none, []⟩] []))))
def I138 : IFunc :=
  ⟨(.seq (.region [⟨(some 6), (.mov (.c (.b false))), none, []⟩] [])
    (.seq (.seq (.region [⟨(some 10), (.mov (.t 0)), none, []⟩,
      ⟨(some 11), (.lenk 0 (.t 10)), none, []⟩,
      ⟨(some 12), (.mov (.t 1)), none, []⟩,
      ⟨(some 13), (.lenk 0 (.t 12)), none, []⟩,
      ⟨(some 14), (.bin .neq (.t 11) (.t 13)), none, []⟩] [])
    (.cond (.t 14)
      (.seq (.region [⟨(some 6), (.mov (.c (.b false))), none, []⟩] [])
      .ret)
      .skip))
    (.seq (.seq (.region [⟨(some 15), (.mov (.t 0)), none, []⟩,
      ⟨(some 16), (.lenk 0 (.t 15)), none, []⟩,
      ⟨(some 17), (.mov (.c (.i .i64 (0)))), none, []⟩] [])
    (.block 0
      (.loop L138a)))
    (.seq (.region [⟨(some 6), (.mov (.c (.b true))), none, []⟩] [])
    .ret)))),
    32, 3, [.t 6], 0⟩
theorem tr138 : trFunc Tryz.prog [([], []), ([], []), ([], []), ([], []), ([], []), ([], []), ([], []), ([], []), ([], []), ([], []), ([], []), ([], []), ([], []), ([], [])] 0 Tryz.f138 = some I138 := by kernel_rfl

/-- 'encore/lift.makers$1'. -/
def I139 : IFunc :=
  ⟨(.seq (.region [⟨(some 1), (.alloc [(.i .i64 (0)), (.i .i64 (0)), (.s []), .ns, .ns]), none, []⟩,
      ⟨(some 2), (.mov (.c (.b false))), none, []⟩] [])
    (.seq (.region [⟨(some 3), (.load none (.t 0)), none, []⟩,
      ⟨(some 4), (.call 140 [(.t 3)]), none, []⟩,
      ⟨(some 5), (.ext (.t 4) 0), none, []⟩,
      ⟨(some 6), (.ext (.t 4) 1), none, []⟩,
      ⟨(some 7), (.ext (.t 4) 2), none, []⟩,
      ⟨(some 8), (.call 102 [(.t 5), (.t 6), (.t 7)]), none, []⟩,
      ⟨(some 9), (.ext (.t 8) 0), none, []⟩,
      ⟨(some 10), (.ext (.t 8) 1), none, []⟩,
      ⟨none, (.store 5 (.t 1) (.t 9)), none, []⟩,
      ⟨(some 2), (.mov (.t 10)), none, []⟩] [])
    .ret)),
    11, 1, [.c 1 (some 5), .t 2], 0⟩
theorem tr139 : trFunc Tryz.prog [([], []), ([], [])] 0 Tryz.f139 = some I139 := by kernel_rfl

/-- 'encore/arith.List'. -/
def I140 : IFunc :=
  ⟨(.seq (.region [⟨(some 2), (.alloc [(.i .i64 (0)), (.i .i64 (0)), (.s []), .ns, .ns]), none, []⟩,
      ⟨(some 3), (.mov (.c (.i .i64 (0)))), none, []⟩,
      ⟨(some 4), (.mov (.c (.i .i64 (0)))), none, []⟩] [])
    (.seq (.seq (.region [⟨(some 5), (.mov (.t 0)), none, []⟩,
      ⟨(some 6), (.call 158 [(.t 5)]), none, []⟩,
      ⟨(some 7), (.un .not (.t 6)), none, []⟩] [])
    (.cond (.t 7)
      (.seq (.region [⟨(some 8), (.build [(.i .i64 (0)), (.i .i64 (0)), (.s []), .ns, .ns] []), none, []⟩,
        ⟨none, (.store 5 (.t 2) (.t 8)), none, []⟩,
        ⟨(some 3), (.mov (.c (.i .i64 (0)))), none, []⟩,
        ⟨(some 4), (.mov (.c (.i .i64 (2)))), none, []⟩] [])
      .ret)
      .skip))
    (.seq (.region [⟨(some 10), (.mov (.t 0)), none, []⟩,
      ⟨(some 11), (.build [(.i .i64 (0)), (.i .i64 (0)), (.s []), .ns, .ns] [(0, 1, (.c (.i .i64 (4)))), (3, 1, (.t 10))]), none, []⟩,
      ⟨(some 12), (.call 183 [(.t 11)]), none, []⟩,
      ⟨(some 9), (.mov (.t 12)), none, []⟩,
      ⟨(some 13), (.ext (.t 9) 0), none, []⟩,
      ⟨(some 14), (.ext (.t 9) 1), none, []⟩,
      ⟨none, (.store 5 (.t 2) (.t 13)), none, []⟩,
      ⟨(some 3), (.mov (.t 14)), none, []⟩] [])
    (.seq (.region [⟨(some 15), (.load (some 5) (.t 2)), none, []⟩,
      ⟨(some 16), (.mov (.t 3)), none, []⟩,
      ⟨none, (.store 5 (.t 2) (.t 15)), none, []⟩,
      ⟨(some 3), (.mov (.t 16)), none, []⟩,
      ⟨(some 4), (.mov (.c (.i .i64 (0)))), none, []⟩] [])
    .ret)))),
    17, 1, [.c 2 (some 5), .t 3, .t 4], 0⟩
theorem tr140 : trFunc Tryz.prog [([], []), ([], []), ([], []), ([], []), ([], []), ([], [])] 0 Tryz.f140 = some I140 := by kernel_rfl

/-- 'encore/lift.makers$2'. -/
def I141 : IFunc :=
  ⟨(.seq (.region [⟨(some 2), (.alloc [(.i .i64 (0)), (.i .i64 (0)), (.s []), .ns, .ns]), none, []⟩,
      ⟨(some 3), (.mov (.c (.b false))), none, []⟩] [])
    (.seq (.region [⟨(some 4), (.off (.t 0) 4), none, []⟩,
      ⟨(some 5), (.load none (.t 4)), none, []⟩,
      ⟨(some 6), (.load none (.t 1)), none, []⟩,
      ⟨(some 7), (.call 142 [(.t 5), (.t 6)]), none, []⟩,
      ⟨(some 8), (.ext (.t 7) 0), none, []⟩,
      ⟨(some 9), (.ext (.t 7) 1), none, []⟩,
      ⟨(some 10), (.ext (.t 7) 2), none, []⟩,
      ⟨(some 11), (.call 102 [(.t 8), (.t 9), (.t 10)]), none, []⟩,
      ⟨(some 12), (.ext (.t 11) 0), none, []⟩,
      ⟨(some 13), (.ext (.t 11) 1), none, []⟩,
      ⟨none, (.store 5 (.t 2) (.t 12)), none, []⟩,
      ⟨(some 3), (.mov (.t 13)), none, []⟩] [])
    .ret)),
    14, 2, [.c 2 (some 5), .t 3], 0⟩
theorem tr141 : trFunc Tryz.prog [([], []), ([], [])] 0 Tryz.f141 = some I141 := by kernel_rfl

/-- 'encore/arith.Rec'. -/
def I142 : IFunc :=
  ⟨(.seq (.region [⟨(some 4), (.alloc [(.i .i64 (0)), (.i .i64 (0)), (.s []), .ns, .ns]), none, []⟩,
      ⟨(some 5), (.mov (.c (.i .i64 (0)))), none, []⟩,
      ⟨(some 6), (.mov (.c (.i .i64 (0)))), none, []⟩] [])
    (.seq (.seq (.region [⟨(some 7), (.mov (.t 0)), none, []⟩,
      ⟨(some 8), (.call 184 [(.t 7)]), none, []⟩,
      ⟨(some 9), (.un .not (.t 8)), none, []⟩,
      ⟨(some 10), (.mov (.t 9)), none, []⟩,
      ⟨(some 11), (.mov (.t 1)), (some (10, false)), []⟩,
      ⟨(some 12), (.lenk 0 (.t 11)), (some (10, false)), []⟩,
      ⟨(some 13), (.mov (.t 0)), (some (10, false)), []⟩,
      ⟨(some 14), (.lenk 0 (.t 13)), (some (10, false)), []⟩,
      ⟨(some 15), (.bin .neq (.t 12) (.t 14)), (some (10, false)), []⟩,
      ⟨(some 16), (.pick (.t 10) (.c (.b true)) (.t 15)), none, []⟩,
      ⟨(some 17), (.mov (.t 16)), none, []⟩,
      ⟨(some 18), (.mov (.t 1)), (some (17, false)), []⟩,
      ⟨(some 19), (.call 158 [(.t 18)]), (some (17, false)), []⟩,
      ⟨(some 20), (.un .not (.t 19)), (some (17, false)), []⟩,
      ⟨(some 21), (.pick (.t 17) (.c (.b true)) (.t 20)), none, []⟩] [])
    (.cond (.t 21)
      (.seq (.region [⟨(some 22), (.build [(.i .i64 (0)), (.i .i64 (0)), (.s []), .ns, .ns] []), none, []⟩,
        ⟨none, (.store 5 (.t 4) (.t 22)), none, []⟩,
        ⟨(some 5), (.mov (.c (.i .i64 (0)))), none, []⟩,
        ⟨(some 6), (.mov (.c (.i .i64 (2)))), none, []⟩] [])
      .ret)
      .skip))
    (.seq (.region [⟨(some 24), (.mov (.t 0)), none, []⟩,
      ⟨(some 25), (.mov (.t 1)), none, []⟩,
      ⟨(some 26), (.build [(.i .i64 (0)), (.i .i64 (0)), (.s []), .ns, .ns] [(0, 1, (.c (.i .i64 (5)))), (4, 1, (.t 24)), (3, 1, (.t 25))]), none, []⟩,
      ⟨(some 27), (.call 183 [(.t 26)]), none, []⟩,
      ⟨(some 23), (.mov (.t 27)), none, []⟩,
      ⟨(some 28), (.ext (.t 23) 0), none, []⟩,
      ⟨(some 29), (.ext (.t 23) 1), none, []⟩,
      ⟨none, (.store 5 (.t 4) (.t 28)), none, []⟩,
      ⟨(some 5), (.mov (.t 29)), none, []⟩] [])
    (.seq (.region [⟨(some 30), (.load (some 5) (.t 4)), none, []⟩,
      ⟨(some 31), (.mov (.t 5)), none, []⟩,
      ⟨none, (.store 5 (.t 4) (.t 30)), none, []⟩,
      ⟨(some 5), (.mov (.t 31)), none, []⟩,
      ⟨(some 6), (.mov (.c (.i .i64 (0)))), none, []⟩] [])
    .ret)))),
    32, 2, [.c 4 (some 5), .t 5, .t 6], 0⟩
theorem tr142 : trFunc Tryz.prog [([], []), ([], []), ([], []), ([], []), ([], []), ([], [])] 0 Tryz.f142 = some I142 := by kernel_rfl

/-- 'encore/lift.makers$3'. -/
def I143 : IFunc :=
  ⟨(.seq (.region [⟨(some 2), (.alloc [(.i .i64 (0)), (.i .i64 (0)), (.s []), .ns, .ns]), none, []⟩,
      ⟨(some 3), (.mov (.c (.b false))), none, []⟩] [])
    (.seq (.region [⟨(some 4), (.load none (.t 0)), none, []⟩,
      ⟨(some 5), (.iaddr 5 (.t 4) (.c (.i .i64 (0)))), none, []⟩,
      ⟨(some 6), (.load (some 5) (.t 5)), none, []⟩,
      ⟨(some 7), (.off (.t 1) 3), none, []⟩,
      ⟨(some 8), (.load none (.t 7)), none, []⟩,
      ⟨(some 9), (.call 144 [(.t 6), (.t 8)]), none, []⟩,
      ⟨(some 10), (.ext (.t 9) 0), none, []⟩,
      ⟨(some 11), (.ext (.t 9) 1), none, []⟩,
      ⟨(some 12), (.ext (.t 9) 2), none, []⟩,
      ⟨(some 13), (.call 102 [(.t 10), (.t 11), (.t 12)]), none, []⟩,
      ⟨(some 14), (.ext (.t 13) 0), none, []⟩,
      ⟨(some 15), (.ext (.t 13) 1), none, []⟩,
      ⟨none, (.store 5 (.t 2) (.t 14)), none, []⟩,
      ⟨(some 3), (.mov (.t 15)), none, []⟩] [])
    .ret)),
    16, 2, [.c 2 (some 5), .t 3], 0⟩
theorem tr143 : trFunc Tryz.prog [([], []), ([0, 1, 2, 3, 4, 5, 6, 7, 8, 9, 10, 11, 12, 13], [])] 0 Tryz.f143 = some I143 := by kernel_rfl

/-- 'encore/arith.Field'. -/
def I144 : IFunc :=
  ⟨(.seq (.region [⟨(some 2), (.box (.t 0)), none, []⟩,
      ⟨(some 4), (.alloc [(.i .i64 (0)), (.i .i64 (0)), (.s []), .ns, .ns]), none, []⟩,
      ⟨(some 5), (.mov (.c (.i .i64 (0)))), none, []⟩,
      ⟨(some 6), (.mov (.c (.i .i64 (0)))), none, []⟩] [])
    (.seq (.seq (.region [⟨(some 9), (.load (some 5) (.t 2)), none, []⟩,
      ⟨(some 10), (.bsl 5 1 [(.i .i64 (0)), (.i .i64 (0)), (.s []), .ns, .ns] [(0, 5, (.t 9))]), none, []⟩,
      ⟨(some 11), (.call 158 [(.t 10)]), none, []⟩,
      ⟨(some 12), (.un .not (.t 11)), none, []⟩,
      ⟨(some 13), (.mov (.t 12)), none, []⟩,
      ⟨(some 14), (.mov (.t 1)), (some (13, false)), []⟩,
      ⟨(some 15), (.bsl 1 1 [(.s [])] [(0, 1, (.t 14))]), (some (13, false)), []⟩,
      ⟨(some 16), (.call 184 [(.t 15)]), (some (13, false)), []⟩,
      ⟨(some 17), (.un .not (.t 16)), (some (13, false)), []⟩,
      ⟨(some 18), (.pick (.t 13) (.c (.b true)) (.t 17)), none, []⟩] [])
    (.cond (.t 18)
      (.seq (.region [⟨(some 19), (.build [(.i .i64 (0)), (.i .i64 (0)), (.s []), .ns, .ns] []), none, []⟩,
        ⟨none, (.store 5 (.t 4) (.t 19)), none, []⟩,
        ⟨(some 5), (.mov (.c (.i .i64 (0)))), none, []⟩,
        ⟨(some 6), (.mov (.c (.i .i64 (2)))), none, []⟩] [])
      .ret)
      .skip))
    (.seq (.seq (.region [⟨(some 20), (.off (.t 2) 0), none, []⟩,
      ⟨(some 21), (.load none (.t 20)), none, []⟩,
      ⟨(some 22), (.bin .neq (.t 21) (.c (.i .i64 (5)))), none, []⟩] [])
    (.cond (.t 22)
      (.seq (.region [⟨(some 23), (.build [(.i .i64 (0)), (.i .i64 (0)), (.s []), .ns, .ns] []), none, []⟩,
        ⟨none, (.store 5 (.t 4) (.t 23)), none, []⟩,
        ⟨(some 5), (.mov (.c (.i .i64 (2)))), none, []⟩,
        ⟨(some 6), (.mov (.c (.i .i64 (0)))), none, []⟩] [])
      .ret)
      .skip))
    (.seq (.region [⟨(some 25), (.off (.t 2) 4), none, []⟩,
      ⟨(some 26), (.load none (.t 25)), none, []⟩,
      ⟨(some 27), (.mov (.t 1)), none, []⟩,
      ⟨(some 28), (.call 185 [(.t 26), (.t 27)]), none, []⟩,
      ⟨(some 24), (.mov (.t 28)), none, []⟩,
      ⟨(some 29), (.ext (.t 24) 0), none, []⟩,
      ⟨(some 30), (.ext (.t 24) 1), none, []⟩,
      ⟨(some 7), (.mov (.t 29)), none, []⟩,
      ⟨(some 8), (.mov (.t 30)), none, []⟩] [])
    (.seq (.seq (.region [⟨(some 31), (.mov (.t 8)), none, []⟩,
      ⟨(some 32), (.un .not (.t 31)), none, []⟩] [])
    (.cond (.t 32)
      (.seq (.region [⟨(some 33), (.build [(.i .i64 (0)), (.i .i64 (0)), (.s []), .ns, .ns] []), none, []⟩,
        ⟨none, (.store 5 (.t 4) (.t 33)), none, []⟩,
        ⟨(some 5), (.mov (.c (.i .i64 (6)))), none, []⟩,
        ⟨(some 6), (.mov (.c (.i .i64 (0)))), none, []⟩] [])
      .ret)
      .skip))
    (.seq (.region [⟨(some 34), (.off (.t 2) 3), none, []⟩,
      ⟨(some 35), (.load none (.t 34)), none, []⟩,
      ⟨(some 36), (.mov (.t 7)), none, []⟩,
      ⟨(some 37), (.iaddr 5 (.t 35) (.t 36)), none, []⟩,
      ⟨(some 38), (.load (some 5) (.t 37)), none, []⟩,
      ⟨(some 39), (.call 163 [(.t 38)]), none, []⟩,
      ⟨none, (.store 5 (.t 4) (.t 39)), none, []⟩,
      ⟨(some 5), (.mov (.c (.i .i64 (0)))), none, []⟩,
      ⟨(some 6), (.mov (.c (.i .i64 (0)))), none, []⟩] [])
    .ret)))))),
    40, 2, [.c 4 (some 5), .t 5, .t 6], 0⟩
theorem tr144 : trFunc Tryz.prog [([], []), ([], []), ([], []), ([], []), ([], []), ([], []), ([], []), ([], []), ([], []), ([], []), ([], []), ([], [])] 0 Tryz.f144 = some I144 := by kernel_rfl

/-- 'encore/lift.makers$4'. -/
def I145 : IFunc :=
  ⟨(.seq (.region [⟨(some 2), (.alloc [(.i .i64 (0)), (.i .i64 (0)), (.s []), .ns, .ns]), none, []⟩,
      ⟨(some 3), (.mov (.c (.b false))), none, []⟩] [])
    (.seq (.region [⟨(some 4), (.load none (.t 0)), none, []⟩,
      ⟨(some 5), (.iaddr 5 (.t 4) (.c (.i .i64 (0)))), none, []⟩,
      ⟨(some 6), (.load (some 5) (.t 5)), none, []⟩,
      ⟨(some 7), (.load none (.t 0)), none, []⟩,
      ⟨(some 8), (.iaddr 5 (.t 7) (.c (.i .i64 (0)))), none, []⟩,
      ⟨(some 9), (.load (some 5) (.t 8)), none, []⟩,
      ⟨(some 10), (.off (.t 1) 3), none, []⟩,
      ⟨(some 11), (.load none (.t 10)), none, []⟩,
      ⟨(some 12), (.call 146 [(.t 9), (.t 11)]), none, [(4, (.load none (.t 0)), none), (6, (.load (some 5) (.t 5)), none)]⟩,
      ⟨none, (.store 5 (.t 2) (.t 6)), none, []⟩,
      ⟨(some 3), (.mov (.t 12)), none, []⟩] [])
    .ret)),
    13, 2, [.c 2 (some 5), .t 3], 0⟩
theorem tr145 : trFunc Tryz.prog [([], []), ([0, 1, 2, 3, 4, 5, 6, 7, 8, 9, 10], [])] 0 Tryz.f145 = some I145 := by kernel_rfl

/-- 'encore/value.Is'. -/
def I146 : IFunc :=
  ⟨(.seq (.region [⟨(some 2), (.box (.t 0)), none, []⟩,
      ⟨(some 4), (.mov (.c (.b false))), none, []⟩] [])
    (.seq (.region [⟨(some 8), (.mov (.t 1)), none, []⟩,
      ⟨(some 9), (.call 182 [(.t 8)]), none, []⟩,
      ⟨(some 7), (.mov (.t 9)), none, []⟩,
      ⟨(some 10), (.ext (.t 7) 0), none, []⟩,
      ⟨(some 11), (.ext (.t 7) 1), none, []⟩,
      ⟨(some 5), (.alloc [(.i .i64 (0)), .ns, .ns]), none, []⟩,
      ⟨none, (.store 3 (.t 5) (.t 10)), none, []⟩,
      ⟨(some 6), (.mov (.t 11)), none, []⟩] [])
    (.seq (.region [⟨(some 12), (.mov (.t 6)), none, []⟩,
      ⟨(some 13), (.mov (.t 12)), none, []⟩,
      ⟨(some 14), (.load (some 5) (.t 2)), (some (13, true)), []⟩,
      ⟨(some 15), (.call 24 [(.t 14)]), (some (13, true)), []⟩,
      ⟨(some 16), (.bin .eql (.t 15) (.c (.i .i64 (0)))), (some (13, true)), []⟩,
      ⟨(some 17), (.pick (.t 13) (.t 16) (.c (.b false))), none, []⟩,
      ⟨(some 18), (.mov (.t 17)), none, []⟩,
      ⟨(some 19), (.load (some 3) (.t 5)), (some (18, true)), []⟩,
      ⟨(some 20), (.load (some 5) (.t 2)), (some (18, true)), []⟩,
      ⟨(some 21), (.call 186 [(.t 19), (.t 20)]), (some (18, true)), []⟩,
      ⟨(some 22), (.pick (.t 18) (.t 21) (.c (.b false))), none, []⟩,
      ⟨(some 4), (.mov (.t 22)), none, []⟩] [])
    .ret))),
    23, 2, [.t 4], 0⟩
theorem tr146 : trFunc Tryz.prog [([], []), ([], []), ([], [])] 0 Tryz.f146 = some I146 := by kernel_rfl

/-- 'encore/lift.makers$5'. -/
def I147 : IFunc :=
  ⟨(.seq (.region [⟨(some 2), (.alloc [(.i .i64 (0)), (.i .i64 (0)), (.s []), .ns, .ns]), none, []⟩,
      ⟨(some 3), (.mov (.c (.b false))), none, []⟩] [])
    (.seq (.region [⟨(some 4), (.load none (.t 0)), none, []⟩,
      ⟨(some 5), (.iaddr 5 (.t 4) (.c (.i .i64 (0)))), none, []⟩,
      ⟨(some 6), (.load (some 5) (.t 5)), none, []⟩,
      ⟨(some 7), (.load none (.t 0)), none, []⟩,
      ⟨(some 8), (.iaddr 5 (.t 7) (.c (.i .i64 (0)))), none, []⟩,
      ⟨(some 9), (.off (.t 8) 0), none, []⟩,
      ⟨(some 10), (.load none (.t 9)), none, []⟩,
      ⟨(some 11), (.off (.t 1) 1), none, []⟩,
      ⟨(some 12), (.load none (.t 11)), none, []⟩,
      ⟨(some 13), (.bin .eql (.t 10) (.t 12)), none, []⟩,
      ⟨none, (.store 5 (.t 2) (.t 6)), none, [(7, (.load none (.t 0)), none), (10, (.load none (.t 9)), none), (12, (.load none (.t 11)), none)]⟩,
      ⟨(some 3), (.mov (.t 13)), none, []⟩] [])
    .ret)),
    14, 2, [.c 2 (some 5), .t 3], 0⟩
theorem tr147 : trFunc Tryz.prog [([], []), ([0, 1, 2, 3, 4, 5, 6, 7, 8, 9, 10, 11], [])] 0 Tryz.f147 = some I147 := by kernel_rfl

/-- 'encore/lift.makers$6'. -/
def I148 : IFunc :=
  ⟨(.seq (.region [⟨(some 1), (.alloc [(.i .i64 (0)), (.i .i64 (0)), (.s []), .ns, .ns]), none, []⟩,
      ⟨(some 2), (.mov (.c (.b false))), none, []⟩] [])
    (.seq (.region [⟨(some 3), (.load none (.t 0)), none, []⟩,
      ⟨(some 4), (.iaddr 5 (.t 3) (.c (.i .i64 (0)))), none, []⟩,
      ⟨(some 5), (.load (some 5) (.t 4)), none, []⟩,
      ⟨(some 6), (.call 104 [(.c (.i .i64 (6))), (.t 5)]), none, []⟩,
      ⟨(some 7), (.ext (.t 6) 0), none, []⟩,
      ⟨(some 8), (.ext (.t 6) 1), none, []⟩,
      ⟨(some 9), (.ext (.t 6) 2), none, []⟩,
      ⟨(some 10), (.call 102 [(.t 7), (.t 8), (.t 9)]), none, []⟩,
      ⟨(some 11), (.ext (.t 10) 0), none, []⟩,
      ⟨(some 12), (.ext (.t 10) 1), none, []⟩,
      ⟨none, (.store 5 (.t 1) (.t 11)), none, []⟩,
      ⟨(some 2), (.mov (.t 12)), none, []⟩] [])
    .ret)),
    13, 1, [.c 1 (some 5), .t 2], 0⟩
theorem tr148 : trFunc Tryz.prog [([], []), ([], [])] 0 Tryz.f148 = some I148 := by kernel_rfl

/-- 'encore/lift.makers$7'. -/
def I149 : IFunc :=
  ⟨(.seq (.region [⟨(some 1), (.alloc [(.i .i64 (0)), (.i .i64 (0)), (.s []), .ns, .ns]), none, []⟩,
      ⟨(some 2), (.mov (.c (.b false))), none, []⟩] [])
    (.seq (.region [⟨(some 3), (.load none (.t 0)), none, []⟩,
      ⟨(some 4), (.iaddr 5 (.t 3) (.c (.i .i64 (0)))), none, []⟩,
      ⟨(some 5), (.load (some 5) (.t 4)), none, []⟩,
      ⟨(some 6), (.call 104 [(.c (.i .i64 (7))), (.t 5)]), none, []⟩,
      ⟨(some 7), (.ext (.t 6) 0), none, []⟩,
      ⟨(some 8), (.ext (.t 6) 1), none, []⟩,
      ⟨(some 9), (.ext (.t 6) 2), none, []⟩,
      ⟨(some 10), (.call 102 [(.t 7), (.t 8), (.t 9)]), none, []⟩,
      ⟨(some 11), (.ext (.t 10) 0), none, []⟩,
      ⟨(some 12), (.ext (.t 10) 1), none, []⟩,
      ⟨none, (.store 5 (.t 1) (.t 11)), none, []⟩,
      ⟨(some 2), (.mov (.t 12)), none, []⟩] [])
    .ret)),
    13, 1, [.c 1 (some 5), .t 2], 0⟩
theorem tr149 : trFunc Tryz.prog [([], []), ([], [])] 0 Tryz.f149 = some I149 := by kernel_rfl

/-- 'encore/lift.makers$8'. -/
def I150 : IFunc :=
  ⟨(.seq (.region [⟨(some 1), (.alloc [(.i .i64 (0)), (.i .i64 (0)), (.s []), .ns, .ns]), none, []⟩,
      ⟨(some 2), (.mov (.c (.b false))), none, []⟩] [])
    (.seq (.region [⟨(some 3), (.load none (.t 0)), none, []⟩,
      ⟨(some 4), (.call 151 [(.c (.i .i64 (9))), (.t 3)]), none, []⟩,
      ⟨(some 5), (.ext (.t 4) 0), none, []⟩,
      ⟨(some 6), (.ext (.t 4) 1), none, []⟩,
      ⟨none, (.store 5 (.t 1) (.t 5)), none, []⟩,
      ⟨(some 2), (.mov (.t 6)), none, []⟩] [])
    .ret)),
    7, 1, [.c 1 (some 5), .t 2], 0⟩
theorem tr150 : trFunc Tryz.prog [([], []), ([], [])] 0 Tryz.f150 = some I150 := by kernel_rfl


end Go.Proofs.YteoliiakbmomeadGreatDoor

