import Derived.Test.YteoliiakbmomeadGreatDoorRows
import Derived.Test.YteoliiakbmomeadGreatDoorM04
import Derived.Test.YteoliiakbmomeadGreatDoorM05
set_option linter.unusedVariables false
set_option linter.unusedSimpArgs false
set_option linter.unusedSectionVars false
/- The functions that the statement reaches, as the interpreter has them. Conditions: none. -/
namespace Go.Proofs.YteoliiakbmomeadGreatDoor
open Go Go.RI

/-- 'encore/encorelaw25.FastNames'. -/
def L3a : ICode :=
  (.seq (.seq (.region [⟨(some 70), (.mov (.t 18)), none, []⟩,
      ⟨(some 71), (.bin .lss (.t 70) (.c (.i .i64 (2)))), none, []⟩] [])
    (.cond (.t 71)
      .skip
      (.exit 0)))
    (.seq (.block 1
      (.seq (.region [⟨(some 75), (.mov (.t 17)), none, []⟩,
        ⟨(some 76), (.call 9 [(.t 75), (.c .ns)]), none, []⟩,
        ⟨(some 74), (.mov (.t 76)), none, []⟩,
        ⟨(some 77), (.ext (.t 74) 0), none, []⟩,
        ⟨(some 78), (.ext (.t 74) 1), none, []⟩,
        ⟨(some 79), (.ext (.t 74) 2), none, []⟩,
        ⟨(some 19), (.mov (.t 77)), none, []⟩,
        ⟨(some 20), (.mov (.t 78)), none, []⟩,
        ⟨(some 21), (.mov (.t 79)), none, []⟩] [])
      (.seq (.seq (.region [⟨(some 80), (.mov (.t 19)), none, []⟩,
        ⟨(some 81), (.lenk 0 (.t 80)), none, []⟩,
        ⟨(some 82), (.bin .neq (.t 81) (.c (.i .i64 (0)))), none, []⟩,
        ⟨(some 83), (.mov (.t 82)), none, []⟩,
        ⟨(some 84), (.mov (.t 20)), (some (83, false)), []⟩,
        ⟨(some 85), (.bin .neq (.t 84) (.c (.i .i64 (0)))), (some (83, false)), []⟩,
        ⟨(some 86), (.pick (.t 83) (.c (.b true)) (.t 85)), none, []⟩,
        ⟨(some 87), (.mov (.t 86)), none, []⟩,
        ⟨(some 88), (.mov (.t 21)), (some (87, false)), []⟩,
        ⟨(some 89), (.pick (.t 87) (.c (.b true)) (.t 88)), none, []⟩,
        ⟨(some 90), (.mov (.t 89)), none, []⟩,
        ⟨(some 91), (.mov (.t 17)), (some (90, false)), []⟩,
        ⟨(some 92), (.call 11 [(.t 91)]), (some (90, false)), []⟩,
        ⟨(some 93), (.bin .neq (.t 92) (.c (.i .i64 (0)))), (some (90, false)), []⟩,
        ⟨(some 94), (.pick (.t 90) (.c (.b true)) (.t 93)), none, []⟩,
        ⟨(some 95), (.mov (.t 94)), none, []⟩,
        ⟨(some 96), (.mov (.t 17)), (some (95, false)), []⟩,
        ⟨(some 97), (.call 12 [(.t 96)]), (some (95, false)), []⟩,
        ⟨(some 98), (.bin .neq (.t 97) (.c (.i .i64 (0)))), (some (95, false)), []⟩,
        ⟨(some 99), (.pick (.t 95) (.c (.b true)) (.t 98)), none, []⟩] [])
      (.cond (.t 99)
        (.seq (.region [⟨(some 0), (.mov (.c (.b false))), none, []⟩] [])
        .ret)
        .skip))
      (.region [⟨(some 100), (.build [(.i .i64 (0)), (.i .i64 (0)), (.i .i64 (0)), (.i .i64 (0)), .ns, .ns, (.i .i64 (0)), (.i .i64 (0)), (.i .i64 (0)), (.i .i64 (0)), (.i .i64 (0)), (.i .i64 (0)), (.s []), .ns, .ns, (.i .i64 (0)), .ns, .ns, .nif] []), none, []⟩,
        ⟨(some 101), (.box (.t 100)), none, []⟩,
        ⟨(some 17), (.mov (.t 101)), none, []⟩] []))))
    (.region [⟨(some 72), (.mov (.t 18)), none, []⟩,
      ⟨(some 73), (.bin .add (.t 72) (.c (.i .i64 (1)))), none, []⟩,
      ⟨(some 18), (.mov (.t 73)), none, []⟩] [])))
def I3 : IFunc :=
  ⟨(.seq (.region [⟨(some 0), (.mov (.c (.b false))), none, []⟩] [])
    (.seq (.region [⟨(some 23), (.call 5 []), none, []⟩,
      ⟨(some 24), (.call 4 [(.t 23), (.c (.i .i64 (0))), (.c (.i .i64 (1))), (.c (.b true)), (.c .ns)]), none, []⟩,
      ⟨(some 22), (.mov (.t 24)), none, []⟩,
      ⟨(some 25), (.ext (.t 22) 0), none, []⟩,
      ⟨(some 26), (.ext (.t 22) 1), none, []⟩,
      ⟨(some 1), (.alloc [(.i .i64 (0)), (.i .i64 (0)), (.i .i64 (0)), (.i .i64 (0)), .ns, .ns, (.i .i64 (0)), (.i .i64 (0)), (.i .i64 (0)), (.i .i64 (0)), (.i .i64 (0)), (.i .i64 (0)), (.s []), .ns, .ns, (.i .i64 (0))]), none, []⟩,
      ⟨none, (.store 16 (.t 1) (.t 25)), none, []⟩,
      ⟨(some 2), (.mov (.t 26)), none, []⟩] [])
    (.seq (.region [⟨(some 28), (.call 5 []), none, []⟩,
      ⟨(some 29), (.call 4 [(.t 28), (.c (.i .i64 (1))), (.c (.i .i64 (0))), (.c (.b true)), (.c .ns)]), none, []⟩,
      ⟨(some 27), (.mov (.t 29)), none, []⟩,
      ⟨(some 30), (.ext (.t 27) 0), none, []⟩,
      ⟨(some 31), (.ext (.t 27) 1), none, []⟩,
      ⟨(some 3), (.alloc [(.i .i64 (0)), (.i .i64 (0)), (.i .i64 (0)), (.i .i64 (0)), .ns, .ns, (.i .i64 (0)), (.i .i64 (0)), (.i .i64 (0)), (.i .i64 (0)), (.i .i64 (0)), (.i .i64 (0)), (.s []), .ns, .ns, (.i .i64 (0))]), none, []⟩,
      ⟨none, (.store 16 (.t 3) (.t 30)), none, []⟩,
      ⟨(some 4), (.mov (.t 31)), none, []⟩] [])
    (.seq (.region [⟨(some 33), (.call 7 [(.c (.i .i64 (4))), (.c (.i .i64 (0)))]), none, []⟩,
      ⟨(some 34), (.call 7 [(.c (.i .i64 (30))), (.c (.i .i64 (0)))]), none, []⟩,
      ⟨(some 35), (.bsl 3 2 [(.i .i64 (0)), (.i .i64 (0)), (.i .i64 (0)), (.i .i64 (0)), (.i .i64 (0)), (.i .i64 (0))] [(0, 3, (.t 33)), (3, 3, (.t 34))]), none, []⟩,
      ⟨(some 36), (.call 6 [(.t 35)]), none, []⟩,
      ⟨(some 37), (.call 4 [(.t 36), (.c (.i .i64 (0))), (.c (.i .i64 (0))), (.c (.b true)), (.c .ns)]), none, []⟩,
      ⟨(some 32), (.mov (.t 37)), none, []⟩,
      ⟨(some 38), (.ext (.t 32) 0), none, []⟩,
      ⟨(some 39), (.ext (.t 32) 1), none, []⟩,
      ⟨(some 5), (.alloc [(.i .i64 (0)), (.i .i64 (0)), (.i .i64 (0)), (.i .i64 (0)), .ns, .ns, (.i .i64 (0)), (.i .i64 (0)), (.i .i64 (0)), (.i .i64 (0)), (.i .i64 (0)), (.i .i64 (0)), (.s []), .ns, .ns, (.i .i64 (0))]), none, []⟩,
      ⟨none, (.store 16 (.t 5) (.t 38)), none, []⟩,
      ⟨(some 6), (.mov (.t 39)), none, []⟩] [])
    (.seq (.region [⟨(some 41), (.build [(.i .i64 (0)), (.i .i64 (0)), (.i .i64 (0)), (.i .i64 (0)), .ns, .ns, (.i .i64 (0)), (.i .i64 (0)), (.i .i64 (0)), (.i .i64 (0)), (.i .i64 (0)), (.i .i64 (0)), (.s []), .ns, .ns, (.i .i64 (0))] [(3, 1, (.c (.i .i64 (-1))))]), none, []⟩,
      ⟨(some 42), (.call 8 [(.t 41)]), none, []⟩,
      ⟨(some 40), (.mov (.t 42)), none, []⟩,
      ⟨(some 43), (.ext (.t 40) 0), none, []⟩,
      ⟨(some 44), (.ext (.t 40) 1), none, []⟩,
      ⟨(some 7), (.mov (.t 43)), none, []⟩,
      ⟨(some 8), (.mov (.t 44)), none, []⟩] [])
    (.seq (.region [⟨(some 46), (.build [(.i .i64 (0)), (.i .i64 (0)), (.i .i64 (0)), (.i .i64 (0)), .ns, .ns, (.i .i64 (0)), (.i .i64 (0)), (.i .i64 (0)), (.i .i64 (0)), (.i .i64 (0)), (.i .i64 (0)), (.s []), .ns, .ns, (.i .i64 (0))] [(2, 1, (.c (.i .i64 (3)))), (7, 1, (.c (.i .i64 (9)))), (15, 1, (.c (.i .i64 (1))))]), none, []⟩,
      ⟨(some 47), (.call 8 [(.t 46)]), none, []⟩,
      ⟨(some 45), (.mov (.t 47)), none, []⟩,
      ⟨(some 48), (.ext (.t 45) 0), none, []⟩,
      ⟨(some 49), (.ext (.t 45) 1), none, []⟩,
      ⟨(some 9), (.mov (.t 48)), none, []⟩,
      ⟨(some 10), (.mov (.t 49)), none, []⟩] [])
    (.seq (.seq (.region [⟨(some 50), (.mov (.t 10)), none, []⟩,
      ⟨(some 51), (.bin .neq (.t 50) (.c (.i .i64 (0)))), none, []⟩,
      ⟨(some 52), (.mov (.t 51)), none, []⟩,
      ⟨(some 53), (.mov (.t 9)), (some (52, false)), []⟩,
      ⟨(some 54), (.eqNil 1 false (.t 53) (.c .np)), (some (52, false)), []⟩,
      ⟨(some 55), (.pick (.t 52) (.c (.b true)) (.t 54)), none, []⟩] [])
    (.cond (.t 55)
      (.seq (.region [⟨(some 0), (.mov (.c (.b false))), none, []⟩] [])
      .ret)
      .skip))
    (.seq (.region [⟨(some 57), (.mov (.t 9)), none, []⟩,
      ⟨(some 58), (.call 9 [(.t 57), (.c .ns)]), none, []⟩,
      ⟨(some 56), (.mov (.t 58)), none, []⟩,
      ⟨(some 59), (.ext (.t 56) 0), none, []⟩,
      ⟨(some 60), (.ext (.t 56) 1), none, []⟩,
      ⟨(some 61), (.ext (.t 56) 2), none, []⟩,
      ⟨(some 11), (.mov (.t 59)), none, []⟩,
      ⟨(some 12), (.mov (.t 60)), none, []⟩,
      ⟨(some 13), (.mov (.t 61)), none, []⟩] [])
    (.seq (.region [⟨(some 63), (.mov (.t 9)), none, []⟩,
      ⟨(some 64), (.call 10 [(.c (.i .i64 (1)))]), none, []⟩,
      ⟨(some 65), (.bsl 5 1 [(.i .i64 (0)), (.i .i64 (0)), (.s []), .ns, .ns] [(0, 5, (.t 64))]), none, []⟩,
      ⟨(some 66), (.call 9 [(.t 63), (.t 65)]), none, []⟩,
      ⟨(some 62), (.mov (.t 66)), none, []⟩,
      ⟨(some 67), (.ext (.t 62) 0), none, []⟩,
      ⟨(some 68), (.ext (.t 62) 1), none, []⟩,
      ⟨(some 69), (.ext (.t 62) 2), none, []⟩,
      ⟨(some 14), (.mov (.t 67)), none, []⟩,
      ⟨(some 15), (.mov (.t 68)), none, []⟩,
      ⟨(some 16), (.mov (.t 69)), none, []⟩] [])
    (.seq (.region [⟨(some 17), (.mov (.c .np)), none, []⟩] [])
    (.seq (.seq (.region [⟨(some 18), (.mov (.c (.i .i64 (0)))), none, []⟩] [])
    (.block 0
      (.loop L3a)))
    (.seq (.region [⟨(some 102), (.mov (.c (.b true))), none, []⟩,
      ⟨(some 103), (.call 13 []), (some (102, true)), []⟩,
      ⟨(some 104), (.pick (.t 102) (.t 103) (.c (.b false))), none, []⟩,
      ⟨(some 105), (.mov (.t 104)), none, []⟩,
      ⟨(some 106), (.mov (.t 2)), (some (105, true)), []⟩,
      ⟨(some 107), (.bin .eql (.t 106) (.c (.i .i64 (9)))), (some (105, true)), []⟩,
      ⟨(some 108), (.pick (.t 105) (.t 107) (.c (.b false))), none, []⟩,
      ⟨(some 109), (.mov (.t 108)), none, []⟩,
      ⟨(some 110), (.mov (.t 4)), (some (109, true)), []⟩,
      ⟨(some 111), (.bin .eql (.t 110) (.c (.i .i64 (9)))), (some (109, true)), []⟩,
      ⟨(some 112), (.pick (.t 109) (.t 111) (.c (.b false))), none, []⟩,
      ⟨(some 113), (.mov (.t 112)), none, []⟩,
      ⟨(some 114), (.mov (.t 6)), (some (113, true)), []⟩,
      ⟨(some 115), (.bin .eql (.t 114) (.c (.i .i64 (170)))), (some (113, true)), []⟩,
      ⟨(some 116), (.pick (.t 113) (.t 115) (.c (.b false))), none, []⟩,
      ⟨(some 117), (.mov (.t 116)), none, []⟩,
      ⟨(some 118), (.mov (.t 8)), (some (117, true)), []⟩,
      ⟨(some 119), (.bin .eql (.t 118) (.c (.i .i64 (2)))), (some (117, true)), []⟩,
      ⟨(some 120), (.pick (.t 117) (.t 119) (.c (.b false))), none, []⟩,
      ⟨(some 121), (.mov (.t 120)), none, []⟩,
      ⟨(some 122), (.mov (.t 11)), (some (121, true)), []⟩,
      ⟨(some 123), (.lenk 0 (.t 122)), (some (121, true)), []⟩,
      ⟨(some 124), (.bin .eql (.t 123) (.c (.i .i64 (0)))), (some (121, true)), []⟩,
      ⟨(some 125), (.pick (.t 121) (.t 124) (.c (.b false))), none, []⟩,
      ⟨(some 126), (.mov (.t 125)), none, []⟩,
      ⟨(some 127), (.mov (.t 12)), (some (126, true)), []⟩,
      ⟨(some 128), (.bin .eql (.t 127) (.c (.i .i64 (9)))), (some (126, true)), []⟩,
      ⟨(some 129), (.pick (.t 126) (.t 128) (.c (.b false))), none, []⟩,
      ⟨(some 130), (.mov (.t 129)), none, []⟩,
      ⟨(some 131), (.mov (.t 13)), (some (130, true)), []⟩,
      ⟨(some 132), (.pick (.t 130) (.t 131) (.c (.b false))), none, []⟩,
      ⟨(some 133), (.mov (.t 132)), none, []⟩,
      ⟨(some 134), (.mov (.t 16)), (some (133, true)), []⟩,
      ⟨(some 135), (.un .not (.t 134)), (some (133, true)), []⟩,
      ⟨(some 136), (.pick (.t 133) (.t 135) (.c (.b false))), none, []⟩,
      ⟨(some 137), (.mov (.t 136)), none, []⟩,
      ⟨(some 138), (.mov (.t 9)), (some (137, true)), []⟩,
      ⟨(some 139), (.call 11 [(.t 138)]), (some (137, true)), []⟩,
      ⟨(some 140), (.bin .eql (.t 139) (.c (.i .i64 (3)))), (some (137, true)), []⟩,
      ⟨(some 141), (.pick (.t 137) (.t 140) (.c (.b false))), none, []⟩,
      ⟨(some 142), (.mov (.t 141)), none, []⟩,
      ⟨(some 143), (.mov (.t 9)), (some (142, true)), []⟩,
      ⟨(some 144), (.call 12 [(.t 143)]), (some (142, true)), []⟩,
      ⟨(some 145), (.bin .eql (.t 144) (.c (.i .i64 (1)))), (some (142, true)), []⟩,
      ⟨(some 146), (.pick (.t 142) (.t 145) (.c (.b false))), none, []⟩,
      ⟨(some 0), (.mov (.t 146)), none, []⟩] [])
    .ret)))))))))))),
    147, 0, [.t 0], 0⟩
theorem tr3 : trFunc Tryz.prog [([], []), ([], []), ([], []), ([], []), ([], []), ([], []), ([], []), ([], []), ([], []), ([], []), ([], []), ([], []), ([], []), ([], []), ([], []), ([], []), ([], []), ([], []), ([], []), ([], []), ([], []), ([], [])] 0 Tryz.f3 = some I3 := by kernel_rfl

/-- 'encore/fast.Make'. -/
def L4a : ICode :=
  (.seq (.region [⟨(some 30), (.bin .lss (.t 29) (.t 28)), none, []⟩] [])
    (.seq (.cond (.t 30)
      .skip
      (.exit 0))
    (.seq (.block 1
      (.seq (.region [⟨(some 31), (.iaddr 1 (.t 27) (.t 29)), none, []⟩,
        ⟨(some 32), (.load none (.t 31)), none, []⟩,
        ⟨(some 16), (.mov (.t 32)), none, []⟩] [])
      (.seq (.seq (.region [⟨(some 33), (.mov (.t 13)), none, []⟩,
        ⟨(some 34), (.bin .neq (.t 33) (.c (.i .i64 (0)))), none, []⟩] [])
      (.cond (.t 34)
        (.seq (.region [⟨(some 35), (.build [(.i .i64 (0)), (.i .i64 (0)), (.i .i64 (0)), (.i .i64 (0)), .ns, .ns, (.i .i64 (0)), (.i .i64 (0)), (.i .i64 (0)), (.i .i64 (0)), (.i .i64 (0)), (.i .i64 (0)), (.s []), .ns, .ns, (.i .i64 (0))] []), none, []⟩,
          ⟨(some 36), (.mov (.t 13)), none, []⟩,
          ⟨none, (.store 16 (.t 10) (.t 35)), none, []⟩,
          ⟨(some 11), (.mov (.t 36)), none, []⟩] [])
        .ret)
        .skip))
      (.region [⟨(some 38), (.mov (.t 16)), none, []⟩,
        ⟨(some 39), (.load (some 16) (.t 12)), none, []⟩,
        ⟨(some 40), (.callv (.t 38) [(.t 39)]), none, []⟩,
        ⟨(some 37), (.mov (.t 40)), none, []⟩,
        ⟨(some 41), (.ext (.t 37) 0), none, []⟩,
        ⟨(some 42), (.ext (.t 37) 1), none, []⟩,
        ⟨none, (.store 16 (.t 12) (.t 41)), none, []⟩,
        ⟨(some 13), (.mov (.t 42)), none, []⟩] []))))
    (.region [⟨(some 43), (.bin .add (.t 29) (.c (.i .i64 (1)))), none, []⟩,
      ⟨(some 29), (.mov (.t 43)), none, []⟩] []))))
def I4 : IFunc :=
  ⟨(.seq (.region [⟨(some 5), (.box (.t 0)), none, []⟩,
      ⟨(some 9), (.box (.t 4)), none, []⟩,
      ⟨(some 10), (.alloc [(.i .i64 (0)), (.i .i64 (0)), (.i .i64 (0)), (.i .i64 (0)), .ns, .ns, (.i .i64 (0)), (.i .i64 (0)), (.i .i64 (0)), (.i .i64 (0)), (.i .i64 (0)), (.i .i64 (0)), (.s []), .ns, .ns, (.i .i64 (0))]), none, []⟩,
      ⟨(some 11), (.mov (.c (.i .i64 (0)))), none, []⟩] [])
    (.seq (.region [⟨(some 18), (.load (some 2) (.t 5)), none, []⟩,
      ⟨(some 19), (.mov (.t 1)), none, []⟩,
      ⟨(some 20), (.mov (.t 2)), none, []⟩,
      ⟨(some 21), (.mov (.t 3)), none, []⟩,
      ⟨(some 22), (.call 14 [(.t 18), (.t 19), (.t 20), (.t 21)]), none, []⟩,
      ⟨(some 17), (.mov (.t 22)), none, []⟩,
      ⟨(some 23), (.ext (.t 17) 0), none, []⟩,
      ⟨(some 24), (.ext (.t 17) 1), none, []⟩,
      ⟨(some 12), (.alloc [(.i .i64 (0)), (.i .i64 (0)), (.i .i64 (0)), (.i .i64 (0)), .ns, .ns, (.i .i64 (0)), (.i .i64 (0)), (.i .i64 (0)), (.i .i64 (0)), (.i .i64 (0)), (.i .i64 (0)), (.s []), .ns, .ns, (.i .i64 (0))]), none, []⟩,
      ⟨none, (.store 16 (.t 12) (.t 23)), none, []⟩,
      ⟨(some 13), (.mov (.t 24)), none, []⟩] [])
    (.seq (.region [⟨(some 25), (.mkf 15 [] [(.t 9)]), none, []⟩,
      ⟨(some 14), (.mov (.t 25)), none, []⟩] [])
    (.seq (.seq (.region [⟨(some 26), (.mov (.t 14)), none, []⟩,
      ⟨(some 27), (.bsl 1 5 [.nf, .nf, .nf, .nf, .nf] [(0, 1, (.f 17)), (1, 1, (.t 26)), (2, 1, (.f 18)), (3, 1, (.f 19)), (4, 1, (.f 18))]), none, []⟩,
      ⟨(some 28), (.lenk 0 (.t 27)), none, []⟩,
      ⟨(some 29), (.mov (.c (.i .i64 (0)))), none, []⟩] [])
    (.block 0
      (.loop L4a)))
    (.seq (.region [⟨(some 44), (.load (some 16) (.t 12)), none, []⟩,
      ⟨(some 45), (.mov (.t 13)), none, []⟩,
      ⟨none, (.store 16 (.t 10) (.t 44)), none, []⟩,
      ⟨(some 11), (.mov (.t 45)), none, []⟩] [])
    .ret))))),
    46, 5, [.c 10 (some 16), .t 11], 0⟩
theorem tr4 : trFunc Tryz.prog [([], []), ([], []), ([], []), ([], []), ([], []), ([], []), ([], []), ([], []), ([], []), ([], []), ([], []), ([], []), ([], [])] 0 Tryz.f4 = some I4 := by kernel_rfl

/-- 'encore/encorelaw25.adds'. -/
def I5 : IFunc :=
  ⟨(.seq (.region [⟨(some 0), (.alloc [.ns, .ns]), none, []⟩] [])
    (.seq (.region [⟨(some 1), (.call 7 [(.c (.i .i64 (2))), (.c (.i .i64 (0)))]), none, []⟩,
      ⟨(some 2), (.call 7 [(.c (.i .i64 (1))), (.c (.i .i64 (0)))]), none, []⟩,
      ⟨(some 3), (.call 7 [(.c (.i .i64 (9))), (.c (.i .i64 (0)))]), none, []⟩,
      ⟨(some 4), (.call 7 [(.c (.i .i64 (3))), (.c (.i .i64 (0)))]), none, []⟩,
      ⟨(some 5), (.call 7 [(.c (.i .i64 (2))), (.c (.i .i64 (0)))]), none, []⟩,
      ⟨(some 6), (.call 7 [(.c (.i .i64 (30))), (.c (.i .i64 (0)))]), none, []⟩,
      ⟨(some 7), (.bsl 3 6 [(.i .i64 (0)), (.i .i64 (0)), (.i .i64 (0)), (.i .i64 (0)), (.i .i64 (0)), (.i .i64 (0)), (.i .i64 (0)), (.i .i64 (0)), (.i .i64 (0)), (.i .i64 (0)), (.i .i64 (0)), (.i .i64 (0)), (.i .i64 (0)), (.i .i64 (0)), (.i .i64 (0)), (.i .i64 (0)), (.i .i64 (0)), (.i .i64 (0))] [(0, 3, (.t 1)), (3, 3, (.t 2)), (6, 3, (.t 3)), (9, 3, (.t 4)), (12, 3, (.t 5)), (15, 3, (.t 6))]), none, []⟩,
      ⟨(some 8), (.call 6 [(.t 7)]), none, []⟩,
      ⟨none, (.store 2 (.t 0) (.t 8)), none, []⟩] [])
    .ret)),
    9, 0, [.c 0 (some 2)], 0⟩
theorem tr5 : trFunc Tryz.prog [([], []), ([], [])] 0 Tryz.f5 = some I5 := by kernel_rfl

/-- 'encore/encorelaw25.of'. -/
def I6 : IFunc :=
  ⟨(.seq (.region [⟨(some 2), (.alloc [.ns, .ns]), none, []⟩] [])
    (.seq (.region [⟨(some 3), (.mov (.t 0)), none, []⟩,
      ⟨(some 4), (.build [(.s []), (.i .i64 (0)), (.i .i64 (0)), .ns] [(0, 1, (.c (.s [109, 97, 105, 110]))), (2, 1, (.c (.i .i64 (1)))), (3, 1, (.t 3))]), none, []⟩,
      ⟨(some 5), (.bsl 4 1 [(.s []), (.i .i64 (0)), (.i .i64 (0)), .ns] [(0, 4, (.t 4))]), none, []⟩,
      ⟨(some 6), (.call 10 [(.c (.i .i64 (1)))]), none, []⟩,
      ⟨(some 7), (.bsl 5 1 [(.i .i64 (0)), (.i .i64 (0)), (.s []), .ns, .ns] [(0, 5, (.t 6))]), none, []⟩,
      ⟨(some 8), (.build [.ns, .ns] [(0, 1, (.t 5)), (1, 1, (.t 7))]), none, []⟩,
      ⟨none, (.store 2 (.t 2) (.t 8)), none, []⟩] [])
    .ret)),
    9, 1, [.c 2 (some 2)], 0⟩
theorem tr6 : trFunc Tryz.prog [([], []), ([], [])] 0 Tryz.f6 = some I6 := by kernel_rfl

/-- 'encore/encorelaw25.is'. -/
def I7 : IFunc :=
  ⟨(.seq (.region [⟨(some 4), (.alloc [(.i .i64 (0)), (.i .i64 (0)), (.i .i64 (0))]), none, []⟩] [])
    (.seq (.region [⟨(some 5), (.mov (.t 0)), none, []⟩,
      ⟨(some 6), (.mov (.t 1)), none, []⟩,
      ⟨(some 7), (.build [(.i .i64 (0)), (.i .i64 (0)), (.i .i64 (0))] [(0, 1, (.t 5)), (1, 1, (.t 6))]), none, []⟩,
      ⟨none, (.store 3 (.t 4) (.t 7)), none, []⟩] [])
    .ret)),
    8, 2, [.c 4 (some 3)], 0⟩
theorem tr7 : trFunc Tryz.prog [([], []), ([], [])] 0 Tryz.f7 = some I7 := by kernel_rfl

/-- 'encore/fast.New'. -/
def L8a : ICode :=
  (.seq (.region [⟨(some 34), (.bin .lss (.t 33) (.t 32)), none, []⟩] [])
    (.seq (.cond (.t 34)
      .skip
      (.exit 0))
    (.seq (.block 1
      (.seq (.region [⟨(some 35), (.mov (.t 33)), none, []⟩,
        ⟨(some 36), (.iaddr 5 (.t 31) (.t 33)), none, []⟩,
        ⟨(some 37), (.load (some 5) (.t 36)), none, []⟩,
        ⟨(some 7), (.alloc [(.i .i64 (0)), (.i .i64 (0)), .ns, (.s []), .ns]), none, []⟩,
        ⟨(some 6), (.mov (.t 35)), none, []⟩,
        ⟨none, (.store 5 (.t 7) (.t 37)), none, []⟩] [])
      (.region [⟨(some 38), (.mov (.t 5)), none, []⟩,
        ⟨(some 39), (.mov (.t 5)), none, []⟩,
        ⟨(some 40), (.nck (.t 39)), none, []⟩,
        ⟨(some 41), (.off (.t 40) 16), none, []⟩,
        ⟨(some 42), (.load none (.t 41)), none, []⟩,
        ⟨(some 43), (.mov (.t 5)), none, []⟩,
        ⟨(some 44), (.load (some 5) (.t 7)), none, []⟩,
        ⟨(some 45), (.off (.t 1) 3), none, []⟩,
        ⟨(some 46), (.load none (.t 45)), none, []⟩,
        ⟨(some 47), (.mov (.t 6)), none, []⟩,
        ⟨(some 48), (.bin .add (.t 46) (.t 47)), none, []⟩,
        ⟨(some 49), (.call 21 [(.t 43), (.t 44), (.t 48)]), none, [(42, (.load none (.t 41)), none)]⟩,
        ⟨(some 50), (.bsl 1 1 [.nf] [(0, 1, (.t 49))]), none, []⟩,
        ⟨(some 51), (.app 1 8 (.t 42) (.t 50)), none, []⟩,
        ⟨(some 52), (.nck (.t 38)), none, []⟩,
        ⟨(some 53), (.off (.t 52) 16), none, []⟩,
        ⟨none, (.store 1 (.t 53) (.t 51)), none, []⟩] [])))
    (.region [⟨(some 54), (.bin .add (.t 33) (.c (.i .i64 (1)))), none, []⟩,
      ⟨(some 33), (.mov (.t 54)), none, []⟩] []))))
def L8b : ICode :=
  (.seq (.region [⟨(some 59), (.bin .lss (.t 58) (.t 57)), none, []⟩] [])
    (.seq (.cond (.t 59)
      .skip
      (.exit 2))
    (.seq (.block 3
      (.seq (.region [⟨(some 60), (.iaddr 7 (.t 56) (.t 58)), none, []⟩,
        ⟨(some 61), (.load (some 7) (.t 60)), none, []⟩,
        ⟨(some 9), (.alloc [(.i .i64 (0)), (.i .i64 (0)), (.i .i64 (0)), (.i .i64 (0)), (.s []), .ns, .ns]), none, []⟩,
        ⟨none, (.store 7 (.t 9) (.t 61)), none, []⟩] [])
      (.region [⟨(some 62), (.mov (.t 5)), none, []⟩,
        ⟨(some 63), (.mov (.t 5)), none, []⟩,
        ⟨(some 64), (.nck (.t 63)), none, []⟩,
        ⟨(some 65), (.off (.t 64) 17), none, []⟩,
        ⟨(some 66), (.load none (.t 65)), none, []⟩,
        ⟨(some 67), (.mov (.t 5)), none, []⟩,
        ⟨(some 68), (.load (some 7) (.t 9)), none, []⟩,
        ⟨(some 69), (.call 22 [(.t 67), (.t 68)]), none, [(66, (.load none (.t 65)), none)]⟩,
        ⟨(some 70), (.bsl 1 1 [.nif] [(0, 1, (.t 69))]), none, []⟩,
        ⟨(some 71), (.app 1 16 (.t 66) (.t 70)), none, []⟩,
        ⟨(some 72), (.nck (.t 62)), none, []⟩,
        ⟨(some 73), (.off (.t 72) 17), none, []⟩,
        ⟨none, (.store 1 (.t 73) (.t 71)), none, []⟩] [])))
    (.region [⟨(some 74), (.bin .add (.t 58) (.c (.i .i64 (1)))), none, []⟩,
      ⟨(some 58), (.mov (.t 74)), none, []⟩] []))))
def I8 : IFunc :=
  ⟨(.seq (.region [⟨(some 1), (.box (.t 0)), none, []⟩,
      ⟨(some 2), (.mov (.c .np)), none, []⟩,
      ⟨(some 3), (.mov (.c (.i .i64 (0)))), none, []⟩] [])
    (.seq (.seq (.region [⟨(some 10), (.load (some 16) (.t 1)), none, []⟩,
      ⟨(some 11), (.call 20 [(.t 10)]), none, []⟩,
      ⟨(some 4), (.mov (.t 11)), none, []⟩] [])
    (.seq (.region [⟨(some 12), (.mov (.t 4)), none, []⟩,
      ⟨(some 13), (.bin .neq (.t 12) (.c (.i .i64 (0)))), none, []⟩] [])
    (.cond (.t 13)
      (.seq (.region [⟨(some 14), (.mov (.t 4)), none, []⟩,
        ⟨(some 2), (.mov (.c .np)), none, []⟩,
        ⟨(some 3), (.mov (.t 14)), none, []⟩] [])
      .ret)
      .skip)))
    (.seq (.region [⟨(some 15), (.off (.t 1) 1), none, []⟩,
      ⟨(some 16), (.load none (.t 15)), none, []⟩,
      ⟨(some 17), (.off (.t 1) 2), none, []⟩,
      ⟨(some 18), (.load none (.t 17)), none, []⟩,
      ⟨(some 19), (.off (.t 1) 3), none, []⟩,
      ⟨(some 20), (.load none (.t 19)), none, []⟩,
      ⟨(some 21), (.off (.t 1) 6), none, []⟩,
      ⟨(some 22), (.load none (.t 21)), none, []⟩,
      ⟨(some 23), (.off (.t 1) 7), none, []⟩,
      ⟨(some 24), (.load none (.t 23)), none, []⟩,
      ⟨(some 25), (.off (.t 1) 15), none, []⟩,
      ⟨(some 26), (.load none (.t 25)), none, []⟩,
      ⟨(some 27), (.build [(.i .i64 (0)), (.i .i64 (0)), (.i .i64 (0)), (.i .i64 (0)), .ns, .ns, (.i .i64 (0)), (.i .i64 (0)), (.i .i64 (0)), (.i .i64 (0)), (.i .i64 (0)), (.i .i64 (0)), (.s []), .ns, .ns, (.i .i64 (0))] [(1, 1, (.t 16)), (2, 1, (.t 18)), (3, 1, (.t 20)), (6, 1, (.t 22)), (7, 1, (.t 24)), (15, 1, (.t 26))]), none, []⟩,
      ⟨(some 28), (.build [(.i .i64 (0)), (.i .i64 (0)), (.i .i64 (0)), (.i .i64 (0)), .ns, .ns, (.i .i64 (0)), (.i .i64 (0)), (.i .i64 (0)), (.i .i64 (0)), (.i .i64 (0)), (.i .i64 (0)), (.s []), .ns, .ns, (.i .i64 (0)), .ns, .ns, .nif] [(0, 16, (.t 27))]), none, []⟩,
      ⟨(some 29), (.box (.t 28)), none, []⟩,
      ⟨(some 5), (.mov (.t 29)), none, []⟩] [])
    (.seq (.seq (.region [⟨(some 30), (.off (.t 1) 4), none, []⟩,
      ⟨(some 31), (.load none (.t 30)), none, []⟩,
      ⟨(some 32), (.lenk 0 (.t 31)), none, []⟩,
      ⟨(some 33), (.mov (.c (.i .i64 (0)))), none, []⟩] [])
    (.block 0
      (.loop L8a)))
    (.seq (.seq (.region [⟨(some 55), (.off (.t 1) 5), none, []⟩,
      ⟨(some 56), (.load none (.t 55)), none, []⟩,
      ⟨(some 57), (.lenk 0 (.t 56)), none, []⟩,
      ⟨(some 58), (.mov (.c (.i .i64 (0)))), none, []⟩] [])
    (.block 2
      (.loop L8b)))
    (.seq (.region [⟨(some 75), (.mov (.t 5)), none, []⟩,
      ⟨(some 76), (.mov (.t 5)), none, []⟩,
      ⟨(some 77), (.off (.t 1) 8), none, []⟩,
      ⟨(some 78), (.load (some 7) (.t 77)), none, []⟩,
      ⟨(some 79), (.call 22 [(.t 76), (.t 78)]), none, []⟩,
      ⟨(some 80), (.nck (.t 75)), none, []⟩,
      ⟨(some 81), (.off (.t 80) 18), none, []⟩,
      ⟨none, (.store 1 (.t 81) (.t 79)), none, []⟩] [])
    (.seq (.region [⟨(some 82), (.mov (.t 5)), none, []⟩,
      ⟨(some 2), (.mov (.t 82)), none, []⟩,
      ⟨(some 3), (.mov (.c (.i .i64 (0)))), none, []⟩] [])
    .ret))))))),
    83, 1, [.t 2, .t 3], 0⟩
theorem tr8 : trFunc Tryz.prog [([], []), ([], []), ([], []), ([], []), ([], []), ([], []), ([], []), ([], []), ([], []), ([], []), ([0, 1, 2, 3, 4, 5, 6, 7, 8, 9, 10, 11, 12, 13, 14, 15, 16], []), ([], []), ([], []), ([], []), ([], []), ([], []), ([0, 1, 2, 3, 4, 5, 6, 7, 8, 9, 10, 11, 12], []), ([], []), ([], []), ([], [])] 0 Tryz.f8 = some I8 := by kernel_rfl

/-- '(*encore/fast.Code).Do'. -/
def L9a : ICode :=
  (.seq (.region [⟨(some 52), (.bin .lss (.t 51) (.t 50)), none, []⟩] [])
    (.seq (.cond (.t 52)
      .skip
      (.exit 0))
    (.seq (.block 1
      (.seq (.region [⟨(some 53), (.iaddr 1 (.t 49) (.t 51)), none, []⟩,
        ⟨(some 54), (.load none (.t 53)), none, []⟩,
        ⟨(some 10), (.mov (.t 54)), none, []⟩] [])
      (.seq (.region [⟨(some 55), (.mov (.t 10)), none, []⟩,
        ⟨(some 56), (.mov (.t 8)), none, []⟩,
        ⟨(some 57), (.callv (.t 55) [(.t 56)]), none, []⟩,
        ⟨(some 58), (.un .not (.t 57)), none, []⟩] [])
      (.cond (.t 58)
        (.seq (.region [⟨(some 4), (.mov (.c .ns)), none, []⟩,
          ⟨(some 5), (.mov (.c (.i .i64 (0)))), none, []⟩,
          ⟨(some 6), (.mov (.c (.b false))), none, []⟩] [])
        .ret)
        .skip))))
    (.region [⟨(some 59), (.bin .add (.t 51) (.c (.i .i64 (1)))), none, []⟩,
      ⟨(some 51), (.mov (.t 59)), none, []⟩] []))))
def L9b : ICode :=
  (.seq (.region [⟨(some 100), (.bin .lss (.t 99) (.t 98)), none, []⟩] [])
    (.seq (.cond (.t 100)
      .skip
      (.exit 2))
    (.seq (.block 3
      (.seq (.region [⟨(some 101), (.iaddr 1 (.t 97) (.t 99)), none, []⟩,
        ⟨(some 102), (.load none (.t 101)), none, []⟩,
        ⟨(some 13), (.mov (.t 102)), none, []⟩] [])
      (.region [⟨(some 103), (.mov (.t 4)), none, []⟩,
        ⟨(some 104), (.mov (.t 13)), none, []⟩,
        ⟨(some 105), (.mov (.t 8)), none, []⟩,
        ⟨(some 106), (.inv (.t 104) [(135, 243), (137, 244)] [(.t 105)]), none, []⟩,
        ⟨(some 107), (.call 27 [(.t 106)]), none, []⟩,
        ⟨(some 108), (.bsl 5 1 [(.i .i64 (0)), (.i .i64 (0)), (.s []), .ns, .ns] [(0, 5, (.t 107))]), none, []⟩,
        ⟨(some 109), (.app 5 80 (.t 103) (.t 108)), none, []⟩,
        ⟨(some 4), (.mov (.t 109)), none, []⟩] [])))
    (.region [⟨(some 110), (.bin .add (.t 99) (.c (.i .i64 (1)))), none, []⟩,
      ⟨(some 99), (.mov (.t 110)), none, []⟩] []))))
def I9 : IFunc :=
  ⟨(.seq (.region [⟨(some 4), (.mov (.c .ns)), none, []⟩,
      ⟨(some 5), (.mov (.c (.i .i64 (0)))), none, []⟩,
      ⟨(some 6), (.mov (.c (.b false))), none, []⟩] [])
    (.seq (.region [⟨(some 7), (.mov (.f 23)), none, []⟩] [])
    (.seq (.seq (.region [⟨(some 14), (.mov (.t 0)), none, []⟩,
      ⟨(some 15), (.call 25 [(.t 14)]), none, []⟩,
      ⟨(some 16), (.mov (.t 15)), none, []⟩,
      ⟨(some 17), (.mov (.t 1)), (some (16, false)), []⟩,
      ⟨(some 18), (.lenk 0 (.t 17)), (some (16, false)), []⟩,
      ⟨(some 19), (.mov (.t 0)), (some (16, false)), []⟩,
      ⟨(some 20), (.nck (.t 19)), (some (16, false)), []⟩,
      ⟨(some 21), (.off (.t 20) 0), (some (16, false)), []⟩,
      ⟨(some 22), (.off (.t 21) 3), (some (16, false)), []⟩,
      ⟨(some 23), (.load none (.t 22)), (some (16, false)), []⟩,
      ⟨(some 24), (.bin .neq (.t 18) (.t 23)), (some (16, false)), []⟩,
      ⟨(some 25), (.pick (.t 16) (.c (.b true)) (.t 24)), none, []⟩,
      ⟨(some 26), (.mov (.t 25)), none, []⟩,
      ⟨(some 27), (.mov (.t 1)), (some (26, false)), []⟩,
      ⟨(some 28), (.mov (.t 7)), (some (26, false)), []⟩,
      ⟨(some 29), (.call 26 [(.t 27), (.t 28)]), (some (26, false)), []⟩,
      ⟨(some 30), (.pick (.t 26) (.c (.b true)) (.t 29)), none, []⟩] [])
    (.cond (.t 30)
      (.seq (.region [⟨(some 4), (.mov (.c .ns)), none, []⟩,
        ⟨(some 5), (.mov (.c (.i .i64 (0)))), none, []⟩,
        ⟨(some 6), (.mov (.c (.b false))), none, []⟩] [])
      .ret)
      .skip))
    (.seq (.region [⟨(some 31), (.mov (.t 0)), none, []⟩,
      ⟨(some 32), (.nck (.t 31)), none, []⟩,
      ⟨(some 33), (.off (.t 32) 0), none, []⟩,
      ⟨(some 34), (.off (.t 33) 3), none, []⟩,
      ⟨(some 35), (.load none (.t 34)), none, []⟩,
      ⟨(some 36), (.mov (.t 0)), none, []⟩,
      ⟨(some 37), (.nck (.t 36)), none, []⟩,
      ⟨(some 38), (.off (.t 37) 16), none, []⟩,
      ⟨(some 39), (.load none (.t 38)), none, []⟩,
      ⟨(some 40), (.lenk 0 (.t 39)), none, []⟩,
      ⟨(some 41), (.bin .add (.t 35) (.t 40)), none, []⟩,
      ⟨(some 42), (.mksl 5 80 [(.i .i64 (0)), (.i .i64 (0)), (.s []), .ns, .ns] (.t 41) (.t 41)), none, []⟩,
      ⟨(some 8), (.mov (.t 42)), none, []⟩] [])
    (.seq (.region [⟨(some 43), (.mov (.t 8)), none, []⟩,
      ⟨(some 44), (.mov (.t 1)), none, []⟩,
      ⟨(some 45), (.cpy 5 (.t 43) (.t 44)), none, []⟩] [])
    (.seq (.seq (.region [⟨(some 46), (.mov (.t 0)), none, []⟩,
      ⟨(some 47), (.nck (.t 46)), none, []⟩,
      ⟨(some 48), (.off (.t 47) 16), none, []⟩,
      ⟨(some 49), (.load none (.t 48)), none, []⟩,
      ⟨(some 50), (.lenk 0 (.t 49)), none, []⟩,
      ⟨(some 51), (.mov (.c (.i .i64 (0)))), none, []⟩] [])
    (.block 0
      (.loop L9a)))
    (.seq (.region [⟨(some 60), (.mov (.t 0)), none, []⟩,
      ⟨(some 61), (.nck (.t 60)), none, []⟩,
      ⟨(some 62), (.off (.t 61) 0), none, []⟩,
      ⟨(some 63), (.off (.t 62) 7), none, []⟩,
      ⟨(some 64), (.load none (.t 63)), none, []⟩,
      ⟨(some 5), (.mov (.t 64)), none, []⟩] [])
    (.seq (.seq (.region [⟨(some 65), (.mov (.t 0)), none, []⟩,
      ⟨(some 66), (.nck (.t 65)), none, []⟩,
      ⟨(some 67), (.off (.t 66) 0), none, []⟩,
      ⟨(some 68), (.off (.t 67) 6), none, []⟩,
      ⟨(some 69), (.load none (.t 68)), none, []⟩,
      ⟨(some 70), (.bin .eql (.t 69) (.c (.i .i64 (2)))), none, []⟩] [])
    (.cond (.t 70)
      (.seq (.region [⟨(some 71), (.mov (.t 0)), none, []⟩,
        ⟨(some 72), (.nck (.t 71)), none, []⟩,
        ⟨(some 73), (.off (.t 72) 18), none, []⟩,
        ⟨(some 74), (.load none (.t 73)), none, []⟩,
        ⟨(some 75), (.mov (.t 8)), none, []⟩,
        ⟨(some 76), (.inv (.t 74) [(135, 243), (137, 244)] [(.t 75)]), none, []⟩,
        ⟨(some 11), (.alloc [(.i .i64 (0)), (.i .i64 (0)), (.s []), .ns, .ns]), none, []⟩,
        ⟨none, (.store 5 (.t 11) (.t 76)), none, []⟩] [])
      (.seq (.seq (.region [⟨(some 77), (.off (.t 11) 0), none, []⟩,
        ⟨(some 78), (.load none (.t 77)), none, []⟩,
        ⟨(some 79), (.bin .neq (.t 78) (.c (.i .i64 (2)))), none, []⟩] [])
      (.cond (.t 79)
        (.seq (.region [⟨(some 4), (.mov (.c .ns)), none, []⟩,
          ⟨(some 5), (.mov (.c (.i .i64 (0)))), none, []⟩,
          ⟨(some 6), (.mov (.c (.b false))), none, []⟩] [])
        .ret)
        .skip))
      (.seq (.region [⟨(some 80), (.off (.t 11) 1), none, []⟩,
        ⟨(some 81), (.load none (.t 80)), none, []⟩,
        ⟨(some 82), (.bin .eql (.t 81) (.c (.i .i64 (1)))), none, []⟩] [])
      (.cond (.t 82)
        (.region [⟨(some 83), (.mov (.t 0)), none, []⟩,
          ⟨(some 84), (.nck (.t 83)), none, []⟩,
          ⟨(some 85), (.off (.t 84) 0), none, []⟩,
          ⟨(some 86), (.off (.t 85) 1), none, []⟩,
          ⟨(some 87), (.load none (.t 86)), none, []⟩,
          ⟨(some 88), (.mov (.t 0)), none, []⟩,
          ⟨(some 89), (.nck (.t 88)), none, []⟩,
          ⟨(some 90), (.off (.t 89) 0), none, []⟩,
          ⟨(some 91), (.off (.t 90) 2), none, []⟩,
          ⟨(some 92), (.load none (.t 91)), none, []⟩,
          ⟨(some 93), (.bin .add (.t 87) (.t 92)), none, []⟩,
          ⟨(some 5), (.mov (.t 93)), none, []⟩] [])
        .skip))))
      .skip))
    (.seq (.seq (.region [⟨(some 94), (.mov (.t 0)), none, []⟩,
      ⟨(some 95), (.nck (.t 94)), none, []⟩,
      ⟨(some 96), (.off (.t 95) 17), none, []⟩,
      ⟨(some 97), (.load none (.t 96)), none, []⟩,
      ⟨(some 98), (.lenk 0 (.t 97)), none, []⟩,
      ⟨(some 99), (.mov (.c (.i .i64 (0)))), none, []⟩] [])
    (.block 2
      (.loop L9b)))
    (.seq (.region [⟨(some 111), (.mov (.t 4)), none, []⟩,
      ⟨(some 112), (.mov (.t 5)), none, []⟩,
      ⟨(some 4), (.mov (.t 111)), none, []⟩,
      ⟨(some 5), (.mov (.t 112)), none, []⟩,
      ⟨(some 6), (.mov (.c (.b true))), none, []⟩] [])
    .ret)))))))))),
    113, 2, [.t 4, .t 5, .t 6], 0⟩
theorem tr9 : trFunc Tryz.prog [([], []), ([], []), ([], []), ([], []), ([], []), ([0, 1, 2, 3, 4, 5, 6, 7, 8, 9, 10, 11, 12], []), ([], []), ([], []), ([], []), ([], []), ([], []), ([], []), ([], []), ([], []), ([], []), ([], []), ([], []), ([], []), ([], []), ([], []), ([], []), ([], []), ([0, 1, 2, 3, 4, 5, 6, 7, 8, 9, 10, 11], []), ([], []), ([], []), ([], []), ([], []), ([], []), ([], []), ([], []), ([], []), ([], [])] 0 Tryz.f9 = some I9 := by kernel_rfl

/-- 'encore/encorelaw25.num'. -/
def I10 : IFunc :=
  ⟨(.seq (.region [⟨(some 2), (.alloc [(.i .i64 (0)), (.i .i64 (0)), (.s []), .ns, .ns]), none, []⟩] [])
    (.seq (.region [⟨(some 3), (.mov (.t 0)), none, []⟩,
      ⟨(some 4), (.build [(.i .i64 (0)), (.i .i64 (0)), (.s []), .ns, .ns] [(0, 1, (.c (.i .i64 (1)))), (1, 1, (.t 3))]), none, []⟩,
      ⟨none, (.store 5 (.t 2) (.t 4)), none, []⟩] [])
    .ret)),
    5, 1, [.c 2 (some 5)], 0⟩
theorem tr10 : trFunc Tryz.prog [([], []), ([], [])] 0 Tryz.f10 = some I10 := by kernel_rfl

/-- '(*encore/fast.Code).Many'. -/
def I11 : IFunc :=
  ⟨(.seq (.region [⟨(some 2), (.mov (.c (.i .i64 (0)))), none, []⟩] [])
    (.seq (.seq (.region [⟨(some 3), (.mov (.t 0)), none, []⟩,
      ⟨(some 4), (.call 25 [(.t 3)]), none, []⟩] [])
    (.cond (.t 4)
      (.seq (.region [⟨(some 2), (.mov (.c (.i .i64 (0)))), none, []⟩] [])
      .ret)
      .skip))
    (.seq (.region [⟨(some 5), (.mov (.t 0)), none, []⟩,
      ⟨(some 6), (.nck (.t 5)), none, []⟩,
      ⟨(some 7), (.off (.t 6) 0), none, []⟩,
      ⟨(some 8), (.off (.t 7) 2), none, []⟩,
      ⟨(some 9), (.load none (.t 8)), none, []⟩,
      ⟨(some 2), (.mov (.t 9)), none, []⟩] [])
    .ret))),
    10, 1, [.t 2], 0⟩
theorem tr11 : trFunc Tryz.prog [([], []), ([], []), ([], []), ([], []), ([], [])] 0 Tryz.f11 = some I11 := by kernel_rfl

/-- '(*encore/fast.Code).Deep'. -/
def I12 : IFunc :=
  ⟨(.seq (.region [⟨(some 2), (.mov (.c (.i .i64 (0)))), none, []⟩] [])
    (.seq (.seq (.region [⟨(some 3), (.mov (.t 0)), none, []⟩,
      ⟨(some 4), (.call 25 [(.t 3)]), none, []⟩] [])
    (.cond (.t 4)
      (.seq (.region [⟨(some 2), (.mov (.c (.i .i64 (0)))), none, []⟩] [])
      .ret)
      .skip))
    (.seq (.region [⟨(some 5), (.mov (.t 0)), none, []⟩,
      ⟨(some 6), (.nck (.t 5)), none, []⟩,
      ⟨(some 7), (.off (.t 6) 0), none, []⟩,
      ⟨(some 8), (.off (.t 7) 15), none, []⟩,
      ⟨(some 9), (.load none (.t 8)), none, []⟩,
      ⟨(some 2), (.mov (.t 9)), none, []⟩] [])
    .ret))),
    10, 1, [.t 2], 0⟩
theorem tr12 : trFunc Tryz.prog [([], []), ([], []), ([], []), ([], []), ([], [])] 0 Tryz.f12 = some I12 := by kernel_rfl

/-- 'encore/encorelaw25.works'. -/
def I13 : IFunc :=
  ⟨(.seq (.region [⟨(some 0), (.mov (.c (.b false))), none, []⟩] [])
    (.seq (.region [⟨(some 17), (.call 5 []), none, []⟩,
      ⟨(some 18), (.bsl 1 1 [(.i .i64 (0))] [(0, 1, (.c (.i .i64 (1))))]), none, []⟩,
      ⟨(some 19), (.call 4 [(.t 17), (.c (.i .i64 (0))), (.c (.i .i64 (0))), (.c (.b true)), (.t 18)]), none, []⟩,
      ⟨(some 16), (.mov (.t 19)), none, []⟩,
      ⟨(some 20), (.ext (.t 16) 0), none, []⟩,
      ⟨(some 21), (.ext (.t 16) 1), none, []⟩,
      ⟨(some 1), (.alloc [(.i .i64 (0)), (.i .i64 (0)), (.i .i64 (0)), (.i .i64 (0)), .ns, .ns, (.i .i64 (0)), (.i .i64 (0)), (.i .i64 (0)), (.i .i64 (0)), (.i .i64 (0)), (.i .i64 (0)), (.s []), .ns, .ns, (.i .i64 (0))]), none, []⟩,
      ⟨none, (.store 16 (.t 1) (.t 20)), none, []⟩,
      ⟨(some 2), (.mov (.t 21)), none, []⟩] [])
    (.seq (.region [⟨(some 22), (.build [(.i .i64 (0)), (.i .i64 (0)), (.i .i64 (0)), (.i .i64 (0)), (.s []), .ns, .ns] [(0, 1, (.c (.i .i64 (1))))]), none, []⟩,
      ⟨(some 3), (.alloc [(.i .i64 (0)), (.i .i64 (0)), (.i .i64 (0)), (.i .i64 (0)), (.s []), .ns, .ns]), none, []⟩,
      ⟨none, (.store 7 (.t 3) (.t 22)), none, []⟩] [])
    (.seq (.region [⟨(some 23), (.build [(.i .i64 (0)), (.i .i64 (0)), (.i .i64 (0)), (.i .i64 (0)), (.s []), .ns, .ns] [(0, 1, (.c (.i .i64 (2)))), (1, 1, (.c (.i .i64 (1))))]), none, []⟩,
      ⟨(some 4), (.alloc [(.i .i64 (0)), (.i .i64 (0)), (.i .i64 (0)), (.i .i64 (0)), (.s []), .ns, .ns]), none, []⟩,
      ⟨none, (.store 7 (.t 4) (.t 23)), none, []⟩] [])
    (.seq (.region [⟨(some 24), (.load (some 7) (.t 3)), none, []⟩,
      ⟨(some 25), (.bsl 7 1 [(.i .i64 (0)), (.i .i64 (0)), (.i .i64 (0)), (.i .i64 (0)), (.s []), .ns, .ns] [(0, 7, (.t 24))]), none, []⟩,
      ⟨(some 26), (.build [(.i .i64 (0)), (.i .i64 (0)), .ns, (.s []), .ns] [(0, 1, (.c (.i .i64 (40)))), (1, 1, (.c (.i .i64 (1)))), (2, 1, (.t 25))]), none, []⟩,
      ⟨(some 27), (.load (some 7) (.t 3)), none, []⟩,
      ⟨(some 28), (.bsl 7 1 [(.i .i64 (0)), (.i .i64 (0)), (.i .i64 (0)), (.i .i64 (0)), (.s []), .ns, .ns] [(0, 7, (.t 27))]), none, []⟩,
      ⟨(some 29), (.build [(.i .i64 (0)), (.i .i64 (0)), .ns, (.s []), .ns] [(0, 1, (.c (.i .i64 (48)))), (1, 1, (.c (.i .i64 (1)))), (2, 1, (.t 28))]), none, []⟩,
      ⟨(some 30), (.bsl 5 2 [(.i .i64 (0)), (.i .i64 (0)), .ns, (.s []), .ns, (.i .i64 (0)), (.i .i64 (0)), .ns, (.s []), .ns] [(0, 5, (.t 26)), (5, 5, (.t 29))]), none, []⟩,
      ⟨(some 31), (.load (some 7) (.t 4)), none, []⟩,
      ⟨(some 32), (.load (some 7) (.t 4)), none, []⟩,
      ⟨(some 33), (.bsl 7 2 [(.i .i64 (0)), (.i .i64 (0)), (.i .i64 (0)), (.i .i64 (0)), (.s []), .ns, .ns, (.i .i64 (0)), (.i .i64 (0)), (.i .i64 (0)), (.i .i64 (0)), (.s []), .ns, .ns] [(0, 7, (.t 31)), (7, 7, (.t 32))]), none, []⟩,
      ⟨(some 34), (.build [(.i .i64 (0)), (.i .i64 (0)), (.i .i64 (0)), (.i .i64 (0)), .ns, .ns, (.i .i64 (0)), (.i .i64 (0)), (.i .i64 (0)), (.i .i64 (0)), (.i .i64 (0)), (.i .i64 (0)), (.s []), .ns, .ns, (.i .i64 (0))] [(2, 1, (.c (.i .i64 (5)))), (3, 1, (.c (.i .i64 (1)))), (4, 1, (.t 30)), (5, 1, (.t 33)), (6, 1, (.c (.i .i64 (3)))), (7, 1, (.c (.i .i64 (5))))]), none, []⟩,
      ⟨(some 5), (.alloc [(.i .i64 (0)), (.i .i64 (0)), (.i .i64 (0)), (.i .i64 (0)), .ns, .ns, (.i .i64 (0)), (.i .i64 (0)), (.i .i64 (0)), (.i .i64 (0)), (.i .i64 (0)), (.i .i64 (0)), (.s []), .ns, .ns, (.i .i64 (0))]), none, []⟩,
      ⟨none, (.store 16 (.t 5) (.t 34)), none, []⟩] [])
    (.seq (.seq (.region [⟨(some 35), (.mov (.t 2)), none, []⟩,
      ⟨(some 36), (.bin .neq (.t 35) (.c (.i .i64 (0)))), none, []⟩,
      ⟨(some 37), (.mov (.t 36)), none, []⟩,
      ⟨(some 38), (.load (some 16) (.t 1)), (some (37, false)), []⟩,
      ⟨(some 40), (.load (some 16) (.t 5)), (some (37, false)), []⟩,
      ⟨(some 39), (.call 29 [(.t 38)]), (some (37, false)), [(40, (.load (some 16) (.t 5)), (some (37, false)))]⟩,
      ⟨(some 41), (.call 28 [(.t 39), (.t 40)]), (some (37, false)), []⟩,
      ⟨(some 42), (.un .not (.t 41)), (some (37, false)), []⟩,
      ⟨(some 43), (.pick (.t 37) (.c (.b true)) (.t 42)), none, []⟩] [])
    (.cond (.t 43)
      (.seq (.region [⟨(some 0), (.mov (.c (.b false))), none, []⟩] [])
      .ret)
      .skip))
    (.seq (.region [⟨(some 45), (.load (some 16) (.t 1)), none, []⟩,
      ⟨(some 46), (.call 8 [(.t 45)]), none, []⟩,
      ⟨(some 44), (.mov (.t 46)), none, []⟩,
      ⟨(some 47), (.ext (.t 44) 0), none, []⟩,
      ⟨(some 48), (.ext (.t 44) 1), none, []⟩,
      ⟨(some 6), (.mov (.t 47)), none, []⟩,
      ⟨(some 7), (.mov (.t 48)), none, []⟩] [])
    (.seq (.seq (.region [⟨(some 49), (.mov (.t 7)), none, []⟩,
      ⟨(some 50), (.bin .neq (.t 49) (.c (.i .i64 (0)))), none, []⟩,
      ⟨(some 51), (.mov (.t 50)), none, []⟩,
      ⟨(some 52), (.mov (.t 6)), (some (51, false)), []⟩,
      ⟨(some 53), (.eqNil 1 false (.t 52) (.c .np)), (some (51, false)), []⟩,
      ⟨(some 54), (.pick (.t 51) (.c (.b true)) (.t 53)), none, []⟩] [])
    (.cond (.t 54)
      (.seq (.region [⟨(some 0), (.mov (.c (.b false))), none, []⟩] [])
      .ret)
      .skip))
    (.seq (.region [⟨(some 56), (.mov (.t 6)), none, []⟩,
      ⟨(some 57), (.call 10 [(.c (.i .i64 (4)))]), none, []⟩,
      ⟨(some 58), (.bsl 5 1 [(.i .i64 (0)), (.i .i64 (0)), (.s []), .ns, .ns] [(0, 5, (.t 57))]), none, []⟩,
      ⟨(some 59), (.call 9 [(.t 56), (.t 58)]), none, []⟩,
      ⟨(some 55), (.mov (.t 59)), none, []⟩,
      ⟨(some 60), (.ext (.t 55) 0), none, []⟩,
      ⟨(some 61), (.ext (.t 55) 1), none, []⟩,
      ⟨(some 62), (.ext (.t 55) 2), none, []⟩,
      ⟨(some 8), (.mov (.t 60)), none, []⟩,
      ⟨(some 9), (.mov (.t 61)), none, []⟩,
      ⟨(some 10), (.mov (.t 62)), none, []⟩] [])
    (.seq (.region [⟨(some 64), (.mov (.t 6)), none, []⟩,
      ⟨(some 65), (.build [(.i .i64 (0)), (.i .i64 (0)), (.s []), .ns, .ns] [(0, 1, (.c (.i .i64 (3)))), (2, 1, (.c (.s [97])))]), none, []⟩,
      ⟨(some 66), (.bsl 5 1 [(.i .i64 (0)), (.i .i64 (0)), (.s []), .ns, .ns] [(0, 5, (.t 65))]), none, []⟩,
      ⟨(some 67), (.call 9 [(.t 64), (.t 66)]), none, []⟩,
      ⟨(some 63), (.mov (.t 67)), none, []⟩,
      ⟨(some 68), (.ext (.t 63) 0), none, []⟩,
      ⟨(some 69), (.ext (.t 63) 1), none, []⟩,
      ⟨(some 70), (.ext (.t 63) 2), none, []⟩,
      ⟨(some 11), (.mov (.t 68)), none, []⟩,
      ⟨(some 12), (.mov (.t 69)), none, []⟩,
      ⟨(some 13), (.mov (.t 70)), none, []⟩] [])
    (.seq (.region [⟨(some 72), (.call 7 [(.c (.i .i64 (1))), (.c (.i .i64 (0)))]), none, []⟩,
      ⟨(some 73), (.call 7 [(.c (.i .i64 (1))), (.c (.i .i64 (0)))]), none, []⟩,
      ⟨(some 74), (.call 7 [(.c (.i .i64 (9))), (.c (.i .i64 (0)))]), none, []⟩,
      ⟨(some 75), (.call 7 [(.c (.i .i64 (30))), (.c (.i .i64 (0)))]), none, []⟩,
      ⟨(some 76), (.bsl 3 4 [(.i .i64 (0)), (.i .i64 (0)), (.i .i64 (0)), (.i .i64 (0)), (.i .i64 (0)), (.i .i64 (0)), (.i .i64 (0)), (.i .i64 (0)), (.i .i64 (0)), (.i .i64 (0)), (.i .i64 (0)), (.i .i64 (0))] [(0, 3, (.t 72)), (3, 3, (.t 73)), (6, 3, (.t 74)), (9, 3, (.t 75))]), none, []⟩,
      ⟨(some 77), (.call 6 [(.t 76)]), none, []⟩,
      ⟨(some 78), (.call 4 [(.t 77), (.c (.i .i64 (0))), (.c (.i .i64 (0))), (.c (.b true)), (.c .ns)]), none, []⟩,
      ⟨(some 71), (.mov (.t 78)), none, []⟩,
      ⟨(some 79), (.ext (.t 71) 0), none, []⟩,
      ⟨(some 80), (.ext (.t 71) 1), none, []⟩,
      ⟨(some 14), (.alloc [(.i .i64 (0)), (.i .i64 (0)), (.i .i64 (0)), (.i .i64 (0)), .ns, .ns, (.i .i64 (0)), (.i .i64 (0)), (.i .i64 (0)), (.i .i64 (0)), (.i .i64 (0)), (.i .i64 (0)), (.s []), .ns, .ns, (.i .i64 (0))]), none, []⟩,
      ⟨none, (.store 16 (.t 14) (.t 79)), none, []⟩,
      ⟨(some 15), (.mov (.t 80)), none, []⟩] [])
    (.seq (.region [⟨(some 81), (.mov (.t 10)), none, []⟩,
      ⟨(some 82), (.mov (.t 81)), none, []⟩,
      ⟨(some 83), (.mov (.t 9)), (some (82, true)), []⟩,
      ⟨(some 84), (.bin .eql (.t 83) (.c (.i .i64 (5)))), (some (82, true)), []⟩,
      ⟨(some 85), (.pick (.t 82) (.t 84) (.c (.b false))), none, []⟩,
      ⟨(some 86), (.mov (.t 85)), none, []⟩,
      ⟨(some 87), (.mov (.t 8)), (some (86, true)), []⟩,
      ⟨(some 88), (.call 10 [(.c (.i .i64 (5)))]), (some (86, true)), []⟩,
      ⟨(some 89), (.call 10 [(.c (.i .i64 (5)))]), (some (86, true)), []⟩,
      ⟨(some 90), (.bsl 5 2 [(.i .i64 (0)), (.i .i64 (0)), (.s []), .ns, .ns, (.i .i64 (0)), (.i .i64 (0)), (.s []), .ns, .ns] [(0, 5, (.t 88)), (5, 5, (.t 89))]), (some (86, true)), []⟩,
      ⟨(some 91), (.call 30 [(.t 87), (.t 90)]), (some (86, true)), []⟩,
      ⟨(some 92), (.pick (.t 86) (.t 91) (.c (.b false))), none, []⟩,
      ⟨(some 93), (.mov (.t 92)), none, []⟩,
      ⟨(some 94), (.mov (.t 13)), (some (93, true)), []⟩,
      ⟨(some 95), (.un .not (.t 94)), (some (93, true)), []⟩,
      ⟨(some 96), (.pick (.t 93) (.t 95) (.c (.b false))), none, []⟩,
      ⟨(some 97), (.mov (.t 96)), none, []⟩,
      ⟨(some 98), (.mov (.t 6)), (some (97, true)), []⟩,
      ⟨(some 99), (.call 11 [(.t 98)]), (some (97, true)), []⟩,
      ⟨(some 100), (.bin .eql (.t 99) (.c (.i .i64 (5)))), (some (97, true)), []⟩,
      ⟨(some 101), (.pick (.t 97) (.t 100) (.c (.b false))), none, []⟩,
      ⟨(some 102), (.mov (.t 101)), none, []⟩,
      ⟨(some 103), (.mov (.t 6)), (some (102, true)), []⟩,
      ⟨(some 104), (.call 12 [(.t 103)]), (some (102, true)), []⟩,
      ⟨(some 105), (.bin .eql (.t 104) (.c (.i .i64 (0)))), (some (102, true)), []⟩,
      ⟨(some 106), (.pick (.t 102) (.t 105) (.c (.b false))), none, []⟩,
      ⟨(some 107), (.mov (.t 106)), none, []⟩,
      ⟨(some 108), (.mov (.t 15)), (some (107, true)), []⟩,
      ⟨(some 109), (.bin .eql (.t 108) (.c (.i .i64 (0)))), (some (107, true)), []⟩,
      ⟨(some 110), (.pick (.t 107) (.t 109) (.c (.b false))), none, []⟩,
      ⟨(some 111), (.mov (.t 110)), none, []⟩,
      ⟨(some 112), (.off (.t 14) 4), (some (111, true)), []⟩,
      ⟨(some 113), (.load none (.t 112)), (some (111, true)), []⟩,
      ⟨(some 114), (.lenk 0 (.t 113)), (some (111, true)), []⟩,
      ⟨(some 115), (.bin .eql (.t 114) (.c (.i .i64 (0)))), (some (111, true)), []⟩,
      ⟨(some 116), (.pick (.t 111) (.t 115) (.c (.b false))), none, []⟩,
      ⟨(some 117), (.mov (.t 116)), none, []⟩,
      ⟨(some 118), (.off (.t 14) 5), (some (117, true)), []⟩,
      ⟨(some 119), (.load none (.t 118)), (some (117, true)), []⟩,
      ⟨(some 120), (.lenk 0 (.t 119)), (some (117, true)), []⟩,
      ⟨(some 121), (.bin .eql (.t 120) (.c (.i .i64 (2)))), (some (117, true)), []⟩,
      ⟨(some 122), (.pick (.t 117) (.t 121) (.c (.b false))), none, []⟩,
      ⟨(some 123), (.mov (.t 122)), none, []⟩,
      ⟨(some 124), (.off (.t 14) 5), (some (123, true)), []⟩,
      ⟨(some 125), (.load none (.t 124)), (some (123, true)), []⟩,
      ⟨(some 126), (.iaddr 7 (.t 125) (.c (.i .i64 (1)))), (some (123, true)), []⟩,
      ⟨(some 127), (.off (.t 126) 2), (some (123, true)), []⟩,
      ⟨(some 128), (.load (some 5) (.t 127)), (some (123, true)), []⟩,
      ⟨(some 129), (.call 10 [(.c (.i .i64 (2)))]), (some (123, true)), [(125, (.load none (.t 124)), (some (123, true))), (128, (.load (some 5) (.t 127)), (some (123, true)))]⟩,
      ⟨(some 130), (.call 31 [(.t 128), (.t 129)]), (some (123, true)), []⟩,
      ⟨(some 131), (.pick (.t 123) (.t 130) (.c (.b false))), none, []⟩,
      ⟨(some 0), (.mov (.t 131)), none, []⟩] [])
    .ret)))))))))))),
    132, 0, [.t 0], 0⟩
theorem tr13 : trFunc Tryz.prog [([], []), ([], []), ([], []), ([], []), ([], []), ([0, 1, 2, 3, 5, 4, 6, 7, 8], []), ([], []), ([], []), ([], []), ([], []), ([], []), ([], []), ([], []), ([], []), ([], []), ([0, 1, 2, 3, 4, 5, 6, 7, 8, 9, 10, 11, 12, 13, 14, 15, 16, 17, 18, 19, 20, 21, 22, 23, 24, 25, 26, 27, 28, 29, 30, 31, 32, 33, 34, 35, 36, 37, 38, 39, 40, 41, 42, 43, 44, 45, 46, 47, 48, 49, 50, 51], [])] 0 Tryz.f13 = some I13 := by kernel_rfl

/-- 'encore/lift.Of'. -/
def L14a : ICode :=
  (.seq (.region [⟨(some 74), (.bin .lss (.t 73) (.t 72)), none, []⟩] [])
    (.seq (.cond (.t 74)
      .skip
      (.exit 0))
    (.seq (.block 1
      (.seq (.region [⟨(some 75), (.mov (.t 73)), none, []⟩,
        ⟨(some 17), (.mov (.t 75)), none, []⟩] [])
      (.region [⟨(some 76), (.mov (.t 16)), none, []⟩,
        ⟨(some 77), (.mov (.t 17)), none, []⟩,
        ⟨(some 78), (.build [(.i .i64 (0)), (.i .i64 (0)), (.i .i64 (0)), (.i .i64 (0)), (.s []), .ns, .ns] [(0, 1, (.c (.i .i64 (1)))), (1, 1, (.t 77))]), none, []⟩,
        ⟨(some 79), (.bsl 7 1 [(.i .i64 (0)), (.i .i64 (0)), (.i .i64 (0)), (.i .i64 (0)), (.s []), .ns, .ns] [(0, 7, (.t 78))]), none, []⟩,
        ⟨(some 80), (.call 35 [(.t 76), (.t 79)]), none, []⟩] [])))
    (.region [⟨(some 81), (.bin .add (.t 73) (.c (.i .i64 (1)))), none, []⟩,
      ⟨(some 73), (.mov (.t 81)), none, []⟩] []))))
def L14b : ICode :=
  (.seq (.seq (.region [⟨(some 109), (.mov (.t 3)), none, []⟩] [])
    (.cond (.t 109)
      .skip
      (.exit 2)))
    (.seq (.block 3
      (.seq (.region [⟨(some 116), (.mov (.t 16)), none, []⟩,
        ⟨(some 117), (.off (.t 15) 3), none, []⟩,
        ⟨(some 118), (.load none (.t 117)), none, []⟩,
        ⟨(some 119), (.call 38 [(.t 116), (.t 118)]), none, []⟩,
        ⟨(some 115), (.mov (.t 119)), none, []⟩,
        ⟨(some 120), (.ext (.t 115) 0), none, []⟩,
        ⟨(some 121), (.ext (.t 115) 1), none, []⟩,
        ⟨(some 18), (.alloc [(.s []), (.i .i64 (0)), (.i .i64 (0)), .ns]), none, []⟩,
        ⟨none, (.store 4 (.t 18) (.t 120)), none, []⟩,
        ⟨(some 19), (.mov (.t 121)), none, []⟩] [])
      (.seq (.seq (.region [⟨(some 122), (.mov (.t 19)), none, []⟩,
        ⟨(some 123), (.un .not (.t 122)), none, []⟩] [])
      (.cond (.t 123)
        (.exit 2)
        .skip))
      (.seq (.region [⟨(some 124), (.mov (.t 16)), none, []⟩,
        ⟨(some 125), (.load (some 4) (.t 18)), none, []⟩,
        ⟨(some 126), (.call 39 [(.t 124), (.t 125)]), none, []⟩] [])
      (.seq (.region [⟨(some 127), (.mov (.t 16)), none, []⟩,
        ⟨(some 128), (.nck (.t 127)), none, []⟩,
        ⟨(some 129), (.off (.t 128) 2), none, []⟩,
        ⟨(some 130), (.off (.t 129) 7), none, []⟩,
        ⟨(some 131), (.load none (.t 130)), none, []⟩,
        ⟨(some 132), (.bin .add (.t 131) (.c (.i .i64 (1)))), none, []⟩,
        ⟨(some 133), (.nck (.t 127)), none, []⟩,
        ⟨(some 134), (.off (.t 133) 2), none, []⟩,
        ⟨(some 135), (.off (.t 134) 7), none, []⟩,
        ⟨none, (.store 1 (.t 135) (.t 132)), none, []⟩] [])
      (.seq (.region [⟨(some 137), (.mov (.t 10)), none, []⟩,
        ⟨(some 138), (.mov (.t 16)), none, []⟩,
        ⟨(some 139), (.nck (.t 138)), none, []⟩,
        ⟨(some 140), (.off (.t 139) 2), none, []⟩,
        ⟨(some 141), (.off (.t 140) 7), none, []⟩,
        ⟨(some 142), (.load none (.t 141)), none, []⟩,
        ⟨(some 143), (.call 34 [(.t 137), (.t 142)]), none, []⟩,
        ⟨(some 136), (.mov (.t 143)), none, []⟩,
        ⟨(some 144), (.ext (.t 136) 0), none, []⟩,
        ⟨(some 145), (.ext (.t 136) 1), none, []⟩,
        ⟨none, (.store 4 (.t 13) (.t 144)), none, []⟩,
        ⟨(some 14), (.mov (.t 145)), none, []⟩] [])
      (.seq (.region [⟨(some 146), (.mov (.t 14)), none, []⟩,
        ⟨(some 147), (.un .not (.t 146)), none, []⟩,
        ⟨(some 148), (.mov (.t 147)), none, []⟩,
        ⟨(some 149), (.off (.t 13) 2), (some (148, false)), []⟩,
        ⟨(some 150), (.load none (.t 149)), (some (148, false)), []⟩,
        ⟨(some 151), (.bin .eql (.t 150) (.c (.i .i64 (2)))), (some (148, false)), []⟩,
        ⟨(some 152), (.pick (.t 148) (.c (.b true)) (.t 151)), none, []⟩] [])
      (.cond (.t 152)
        (.exit 2)
        .skip))))))))
    (.region [⟨(some 110), (.mov (.t 16)), none, []⟩,
      ⟨(some 111), (.off (.t 15) 3), none, []⟩,
      ⟨(some 112), (.load none (.t 111)), none, []⟩,
      ⟨(some 113), (.load (some 4) (.t 13)), none, []⟩,
      ⟨(some 114), (.call 37 [(.t 110), (.t 112), (.t 113)]), none, []⟩] [])))
def I14 : IFunc :=
  ⟨(.seq (.region [⟨(some 4), (.box (.t 0)), none, []⟩,
      ⟨(some 8), (.alloc [(.i .i64 (0)), (.i .i64 (0)), (.i .i64 (0)), (.i .i64 (0)), .ns, .ns, (.i .i64 (0)), (.i .i64 (0)), (.i .i64 (0)), (.i .i64 (0)), (.i .i64 (0)), (.i .i64 (0)), (.s []), .ns, .ns, (.i .i64 (0))]), none, []⟩,
      ⟨(some 9), (.mov (.c (.i .i64 (0)))), none, []⟩] [])
    (.seq (.region [⟨(some 21), (.load (some 2) (.t 4)), none, []⟩,
      ⟨(some 22), (.mov (.t 1)), none, []⟩,
      ⟨(some 23), (.call 32 [(.t 21), (.t 22)]), none, []⟩,
      ⟨(some 20), (.mov (.t 23)), none, []⟩,
      ⟨(some 24), (.ext (.t 20) 0), none, []⟩,
      ⟨(some 25), (.ext (.t 20) 1), none, []⟩,
      ⟨(some 10), (.mov (.t 24)), none, []⟩,
      ⟨(some 11), (.mov (.t 25)), none, []⟩] [])
    (.seq (.seq (.region [⟨(some 26), (.mov (.t 11)), none, []⟩,
      ⟨(some 27), (.bin .neq (.t 26) (.c (.i .i64 (0)))), none, []⟩] [])
    (.cond (.t 27)
      (.seq (.region [⟨(some 28), (.build [(.i .i64 (0)), (.i .i64 (0)), (.i .i64 (0)), (.i .i64 (0)), .ns, .ns, (.i .i64 (0)), (.i .i64 (0)), (.i .i64 (0)), (.i .i64 (0)), (.i .i64 (0)), (.i .i64 (0)), (.s []), .ns, .ns, (.i .i64 (0))] []), none, []⟩,
        ⟨(some 29), (.mov (.t 11)), none, []⟩,
        ⟨none, (.store 16 (.t 8) (.t 28)), none, []⟩,
        ⟨(some 9), (.mov (.t 29)), none, []⟩] [])
      .ret)
      .skip))
    (.seq (.region [⟨(some 31), (.load (some 2) (.t 4)), none, []⟩,
      ⟨(some 32), (.mov (.t 1)), none, []⟩,
      ⟨(some 33), (.call 33 [(.t 31), (.t 32)]), none, []⟩,
      ⟨(some 30), (.mov (.t 33)), none, []⟩,
      ⟨(some 34), (.ext (.t 30) 0), none, []⟩,
      ⟨(some 35), (.ext (.t 30) 1), none, []⟩,
      ⟨(some 12), (.mov (.t 34)), none, []⟩,
      ⟨(some 11), (.mov (.t 35)), none, []⟩] [])
    (.seq (.seq (.region [⟨(some 36), (.mov (.t 11)), none, []⟩,
      ⟨(some 37), (.bin .neq (.t 36) (.c (.i .i64 (0)))), none, []⟩] [])
    (.cond (.t 37)
      (.seq (.region [⟨(some 38), (.build [(.i .i64 (0)), (.i .i64 (0)), (.i .i64 (0)), (.i .i64 (0)), .ns, .ns, (.i .i64 (0)), (.i .i64 (0)), (.i .i64 (0)), (.i .i64 (0)), (.i .i64 (0)), (.i .i64 (0)), (.s []), .ns, .ns, (.i .i64 (0))] []), none, []⟩,
        ⟨(some 39), (.mov (.t 11)), none, []⟩,
        ⟨none, (.store 16 (.t 8) (.t 38)), none, []⟩,
        ⟨(some 9), (.mov (.t 39)), none, []⟩] [])
      .ret)
      .skip))
    (.seq (.region [⟨(some 41), (.mov (.t 10)), none, []⟩,
      ⟨(some 42), (.mov (.t 2)), none, []⟩,
      ⟨(some 43), (.call 34 [(.t 41), (.t 42)]), none, []⟩,
      ⟨(some 40), (.mov (.t 43)), none, []⟩,
      ⟨(some 44), (.ext (.t 40) 0), none, []⟩,
      ⟨(some 45), (.ext (.t 40) 1), none, []⟩,
      ⟨(some 13), (.alloc [(.i .i64 (0)), (.i .i64 (0)), (.i .i64 (0)), (.i .i64 (0))]), none, []⟩,
      ⟨none, (.store 4 (.t 13) (.t 44)), none, []⟩,
      ⟨(some 14), (.mov (.t 45)), none, []⟩] [])
    (.seq (.seq (.region [⟨(some 46), (.mov (.t 14)), none, []⟩,
      ⟨(some 47), (.un .not (.t 46)), none, []⟩] [])
    (.cond (.t 47)
      (.seq (.region [⟨(some 48), (.build [(.i .i64 (0)), (.i .i64 (0)), (.i .i64 (0)), (.i .i64 (0)), .ns, .ns, (.i .i64 (0)), (.i .i64 (0)), (.i .i64 (0)), (.i .i64 (0)), (.i .i64 (0)), (.i .i64 (0)), (.s []), .ns, .ns, (.i .i64 (0))] []), none, []⟩,
        ⟨none, (.store 16 (.t 8) (.t 48)), none, []⟩,
        ⟨(some 9), (.mov (.c (.i .i64 (9)))), none, []⟩] [])
      .ret)
      .skip))
    (.seq (.region [⟨(some 49), (.off (.t 4) 0), none, []⟩,
      ⟨(some 50), (.load none (.t 49)), none, []⟩,
      ⟨(some 51), (.mov (.t 1)), none, []⟩,
      ⟨(some 52), (.iaddr 4 (.t 50) (.t 51)), none, []⟩,
      ⟨(some 53), (.load (some 4) (.t 52)), none, []⟩,
      ⟨(some 15), (.alloc [(.s []), (.i .i64 (0)), (.i .i64 (0)), .ns]), none, []⟩,
      ⟨none, (.store 4 (.t 15) (.t 53)), none, []⟩] [])
    (.seq (.region [⟨(some 54), (.load (some 2) (.t 4)), none, []⟩,
      ⟨(some 55), (.mov (.t 1)), none, []⟩,
      ⟨(some 56), (.mov (.t 2)), none, []⟩,
      ⟨(some 57), (.off (.t 15) 2), none, []⟩,
      ⟨(some 58), (.load none (.t 57)), none, []⟩,
      ⟨(some 59), (.mov (.t 12)), none, []⟩,
      ⟨(some 60), (.mov (.t 2)), none, []⟩,
      ⟨(some 61), (.iaddr 3 (.t 59) (.t 60)), none, []⟩,
      ⟨(some 62), (.off (.t 61) 1), none, []⟩,
      ⟨(some 63), (.load none (.t 62)), none, []⟩,
      ⟨(some 64), (.bin .add (.t 58) (.t 63)), none, []⟩,
      ⟨(some 65), (.build [(.i .i64 (0)), (.i .i64 (0)), (.i .i64 (0)), (.i .i64 (0)), .ns, .ns, (.i .i64 (0)), (.i .i64 (0)), (.i .i64 (0)), (.i .i64 (0)), (.i .i64 (0)), (.i .i64 (0)), (.s []), .ns, .ns, (.i .i64 (0))] [(0, 1, (.t 55)), (1, 1, (.t 56)), (3, 1, (.t 64))]), none, []⟩,
      ⟨(some 66), (.build [.ns, .ns, (.i .i64 (0)), (.i .i64 (0)), (.i .i64 (0)), (.i .i64 (0)), .ns, .ns, (.i .i64 (0)), (.i .i64 (0)), (.i .i64 (0)), (.i .i64 (0)), (.i .i64 (0)), (.i .i64 (0)), (.s []), .ns, .ns, (.i .i64 (0)), .ns, .ns] [(0, 2, (.t 54)), (2, 16, (.t 65))]), none, []⟩,
      ⟨(some 67), (.box (.t 66)), none, []⟩,
      ⟨(some 16), (.mov (.t 67)), none, []⟩] [])
    (.seq (.seq (.region [⟨(some 68), (.mov (.t 16)), none, []⟩,
      ⟨(some 69), (.nck (.t 68)), none, []⟩,
      ⟨(some 70), (.off (.t 69) 2), none, []⟩,
      ⟨(some 71), (.off (.t 70) 3), none, []⟩,
      ⟨(some 72), (.load none (.t 71)), none, []⟩,
      ⟨(some 73), (.mov (.c (.i .i64 (0)))), none, []⟩] [])
    (.block 0
      (.loop L14a)))
    (.seq (.region [⟨(some 82), (.mov (.t 16)), none, []⟩,
      ⟨(some 83), (.mov (.t 16)), none, []⟩,
      ⟨(some 84), (.mov (.t 16)), none, []⟩,
      ⟨(some 85), (.nck (.t 84)), none, []⟩,
      ⟨(some 86), (.off (.t 85) 19), none, []⟩,
      ⟨(some 87), (.load none (.t 86)), none, []⟩,
      ⟨(some 88), (.off (.t 15) 2), none, []⟩,
      ⟨(some 89), (.load none (.t 88)), none, []⟩,
      ⟨(some 90), (.slq 7 (.t 87) none (some (.t 89)) none), none, []⟩,
      ⟨(some 92), (.mov (.t 16)), none, []⟩,
      ⟨(some 93), (.nck (.t 92)), none, []⟩,
      ⟨(some 94), (.off (.t 93) 19), none, []⟩,
      ⟨(some 95), (.load none (.t 94)), none, []⟩,
      ⟨(some 96), (.off (.t 15) 2), none, []⟩,
      ⟨(some 97), (.load none (.t 96)), none, []⟩,
      ⟨(some 98), (.slq 7 (.t 95) (some (.t 97)) none none), none, []⟩,
      ⟨(some 91), (.call 36 [(.t 90)]), none, [(95, (.load none (.t 94)), none), (97, (.load none (.t 96)), none), (98, (.slq 7 (.t 95) (some (.t 97)) none none), none)]⟩,
      ⟨(some 99), (.call 36 [(.t 98)]), none, []⟩,
      ⟨(some 100), (.nck (.t 82)), none, []⟩,
      ⟨(some 101), (.off (.t 100) 18), none, []⟩,
      ⟨none, (.store 1 (.t 101) (.t 91)), none, []⟩,
      ⟨(some 102), (.nck (.t 83)), none, []⟩,
      ⟨(some 103), (.off (.t 102) 19), none, []⟩,
      ⟨none, (.store 1 (.t 103) (.t 99)), none, []⟩] [])
    (.seq (.seq (.region [⟨(some 104), (.mov (.t 16)), none, []⟩,
      ⟨(some 105), (.off (.t 15) 3), none, []⟩,
      ⟨(some 106), (.load none (.t 105)), none, []⟩,
      ⟨(some 107), (.load (some 4) (.t 13)), none, []⟩,
      ⟨(some 108), (.call 37 [(.t 104), (.t 106), (.t 107)]), none, []⟩] [])
    (.block 2
      (.loop L14b)))
    (.seq (.region [⟨(some 153), (.mov (.t 16)), none, []⟩,
      ⟨(some 154), (.mov (.t 16)), none, []⟩,
      ⟨(some 155), (.nck (.t 154)), none, []⟩,
      ⟨(some 156), (.off (.t 155) 18), none, []⟩,
      ⟨(some 157), (.load none (.t 156)), none, []⟩,
      ⟨(some 158), (.mov (.t 16)), none, []⟩,
      ⟨(some 159), (.nck (.t 158)), none, []⟩,
      ⟨(some 160), (.off (.t 159) 19), none, []⟩,
      ⟨(some 161), (.load none (.t 160)), none, []⟩,
      ⟨(some 162), (.app 7 96 (.t 157) (.t 161)), none, []⟩,
      ⟨(some 163), (.nck (.t 153)), none, []⟩,
      ⟨(some 164), (.off (.t 163) 2), none, []⟩,
      ⟨(some 165), (.off (.t 164) 5), none, []⟩,
      ⟨none, (.store 1 (.t 165) (.t 162)), none, []⟩] [])
    (.seq (.region [⟨(some 166), (.mov (.t 16)), none, []⟩,
      ⟨(some 167), (.nck (.t 166)), none, []⟩,
      ⟨(some 168), (.off (.t 167) 2), none, []⟩,
      ⟨(some 169), (.load (some 16) (.t 168)), none, []⟩,
      ⟨none, (.store 16 (.t 8) (.t 169)), none, []⟩,
      ⟨(some 9), (.mov (.c (.i .i64 (0)))), none, []⟩] [])
    .ret)))))))))))))),
    170, 4, [.c 8 (some 16), .t 9], 0⟩
theorem tr14 : trFunc Tryz.prog [([], []), ([], []), ([], []), ([], []), ([], []), ([], []), ([], []), ([], []), ([], []), ([], []), ([], []), ([], []), ([], []), ([], []), ([0, 1, 2, 3, 4, 5, 6, 7, 8, 9, 10, 11, 12, 13, 14], []), ([], []), ([], []), ([], []), ([], []), ([], []), ([], []), ([0, 1, 2, 3, 4, 5, 6, 7, 8, 10, 11, 12, 13, 14, 15, 16, 9, 17, 18, 19, 20, 21, 22, 23], []), ([], []), ([], []), ([], []), ([], []), ([], []), ([], []), ([], []), ([], []), ([], []), ([], []), ([], []), ([], []), ([0, 1, 2, 3, 4, 5, 6, 7, 8, 9, 10, 11, 12, 13], []), ([], [])] 0 Tryz.f14 = some I14 := by kernel_rfl

/-- 'encore/fast.Make$1'. -/
def I15 : IFunc :=
  ⟨(.seq (.region [⟨(some 2), (.box (.t 0)), none, []⟩,
      ⟨(some 3), (.alloc [(.i .i64 (0)), (.i .i64 (0)), (.i .i64 (0)), (.i .i64 (0)), .ns, .ns, (.i .i64 (0)), (.i .i64 (0)), (.i .i64 (0)), (.i .i64 (0)), (.i .i64 (0)), (.i .i64 (0)), (.s []), .ns, .ns, (.i .i64 (0))]), none, []⟩,
      ⟨(some 4), (.mov (.c (.i .i64 (0)))), none, []⟩] [])
    (.seq (.region [⟨(some 5), (.load (some 16) (.t 2)), none, []⟩,
      ⟨(some 6), (.load none (.t 1)), none, []⟩,
      ⟨(some 7), (.call 16 [(.t 5), (.t 6)]), none, []⟩,
      ⟨(some 8), (.ext (.t 7) 0), none, []⟩,
      ⟨(some 9), (.ext (.t 7) 1), none, []⟩,
      ⟨none, (.store 16 (.t 3) (.t 8)), none, []⟩,
      ⟨(some 4), (.mov (.t 9)), none, []⟩] [])
    .ret)),
    10, 2, [.c 3 (some 16), .t 4], 0⟩
theorem tr15 : trFunc Tryz.prog [([], []), ([], [])] 0 Tryz.f15 = some I15 := by kernel_rfl

/-- 'encore/guess.Of'. -/
def L16a : ICode :=
  (.seq (.region [⟨(some 29), (.bin .lss (.t 28) (.t 27)), none, []⟩] [])
    (.seq (.cond (.t 29)
      .skip
      (.exit 0))
    (.seq (.block 1
      (.seq (.region [⟨(some 30), (.mov (.t 28)), none, []⟩,
        ⟨(some 8), (.mov (.t 30)), none, []⟩] [])
      (.region [⟨(some 31), (.mov (.t 7)), none, []⟩,
        ⟨(some 32), (.nck (.t 31)), none, []⟩,
        ⟨(some 33), (.off (.t 32) 1), none, []⟩,
        ⟨(some 34), (.load none (.t 33)), none, []⟩,
        ⟨(some 35), (.mov (.t 8)), none, []⟩,
        ⟨(some 36), (.iaddr 1 (.t 34) (.t 35)), none, []⟩,
        ⟨none, (.store 1 (.t 36) (.c (.i .i64 (-1)))), none, []⟩] [])))
    (.region [⟨(some 37), (.bin .add (.t 28) (.c (.i .i64 (1)))), none, []⟩,
      ⟨(some 28), (.mov (.t 37)), none, []⟩] []))))
def L16b : ICode :=
  (.seq (.region [⟨(some 42), (.bin .lss (.t 41) (.t 40)), none, []⟩] [])
    (.seq (.cond (.t 42)
      .skip
      (.exit 2))
    (.seq (.block 3
      (.seq (.region [⟨(some 43), (.iaddr 5 (.t 39) (.t 41)), none, []⟩,
        ⟨(some 44), (.load (some 5) (.t 43)), none, []⟩,
        ⟨(some 10), (.alloc [(.i .i64 (0)), (.i .i64 (0)), .ns, (.s []), .ns]), none, []⟩,
        ⟨none, (.store 5 (.t 10) (.t 44)), none, []⟩] [])
      (.region [⟨(some 45), (.mov (.t 7)), none, []⟩,
        ⟨(some 46), (.load (some 5) (.t 10)), none, []⟩,
        ⟨(some 47), (.call 40 [(.t 45), (.t 46)]), none, []⟩] [])))
    (.region [⟨(some 48), (.bin .add (.t 41) (.c (.i .i64 (1)))), none, []⟩,
      ⟨(some 41), (.mov (.t 48)), none, []⟩] []))))
def I16 : IFunc :=
  ⟨(.seq (.region [⟨(some 2), (.box (.t 0)), none, []⟩,
      ⟨(some 4), (.alloc [(.i .i64 (0)), (.i .i64 (0)), (.i .i64 (0)), (.i .i64 (0)), .ns, .ns, (.i .i64 (0)), (.i .i64 (0)), (.i .i64 (0)), (.i .i64 (0)), (.i .i64 (0)), (.i .i64 (0)), (.s []), .ns, .ns, (.i .i64 (0))]), none, []⟩,
      ⟨(some 5), (.mov (.c (.i .i64 (0)))), none, []⟩] [])
    (.seq (.seq (.region [⟨(some 11), (.load (some 16) (.t 2)), none, []⟩,
      ⟨(some 12), (.call 20 [(.t 11)]), none, []⟩,
      ⟨(some 6), (.mov (.t 12)), none, []⟩] [])
    (.seq (.region [⟨(some 13), (.mov (.t 6)), none, []⟩,
      ⟨(some 14), (.bin .neq (.t 13) (.c (.i .i64 (0)))), none, []⟩] [])
    (.cond (.t 14)
      (.seq (.region [⟨(some 15), (.build [(.i .i64 (0)), (.i .i64 (0)), (.i .i64 (0)), (.i .i64 (0)), .ns, .ns, (.i .i64 (0)), (.i .i64 (0)), (.i .i64 (0)), (.i .i64 (0)), (.i .i64 (0)), (.i .i64 (0)), (.s []), .ns, .ns, (.i .i64 (0))] []), none, []⟩,
        ⟨(some 16), (.mov (.t 6)), none, []⟩,
        ⟨none, (.store 16 (.t 4) (.t 15)), none, []⟩,
        ⟨(some 5), (.mov (.t 16)), none, []⟩] [])
      .ret)
      .skip)))
    (.seq (.region [⟨(some 17), (.mov (.t 1)), none, []⟩,
      ⟨(some 18), (.off (.t 2) 3), none, []⟩,
      ⟨(some 19), (.load none (.t 18)), none, []⟩,
      ⟨(some 20), (.mksl 1 8 [(.i .i64 (0))] (.t 19) (.t 19)), none, []⟩,
      ⟨(some 21), (.build [.ns, .ns, .ns, .ns] [(2, 1, (.t 17)), (1, 1, (.t 20))]), none, []⟩,
      ⟨(some 22), (.box (.t 21)), none, []⟩,
      ⟨(some 7), (.mov (.t 22)), none, []⟩] [])
    (.seq (.seq (.region [⟨(some 23), (.mov (.t 7)), none, []⟩,
      ⟨(some 24), (.nck (.t 23)), none, []⟩,
      ⟨(some 25), (.off (.t 24) 1), none, []⟩,
      ⟨(some 26), (.load none (.t 25)), none, []⟩,
      ⟨(some 27), (.lenk 0 (.t 26)), none, []⟩,
      ⟨(some 28), (.mov (.c (.i .i64 (0)))), none, []⟩] [])
    (.block 0
      (.loop L16a)))
    (.seq (.seq (.region [⟨(some 38), (.off (.t 2) 4), none, []⟩,
      ⟨(some 39), (.load none (.t 38)), none, []⟩,
      ⟨(some 40), (.lenk 0 (.t 39)), none, []⟩,
      ⟨(some 41), (.mov (.c (.i .i64 (0)))), none, []⟩] [])
    (.block 2
      (.loop L16b)))
    (.seq (.seq (.region [⟨(some 49), (.mov (.t 7)), none, []⟩,
      ⟨(some 50), (.nck (.t 49)), none, []⟩,
      ⟨(some 51), (.off (.t 50) 0), none, []⟩,
      ⟨(some 52), (.load none (.t 51)), none, []⟩,
      ⟨(some 53), (.lenk 0 (.t 52)), none, []⟩,
      ⟨(some 54), (.bin .gtr (.t 53) (.c (.i .i64 (4096)))), none, []⟩] [])
    (.cond (.t 54)
      (.seq (.region [⟨(some 55), (.build [(.i .i64 (0)), (.i .i64 (0)), (.i .i64 (0)), (.i .i64 (0)), .ns, .ns, (.i .i64 (0)), (.i .i64 (0)), (.i .i64 (0)), (.i .i64 (0)), (.i .i64 (0)), (.i .i64 (0)), (.s []), .ns, .ns, (.i .i64 (0))] []), none, []⟩,
        ⟨none, (.store 16 (.t 4) (.t 55)), none, []⟩,
        ⟨(some 5), (.mov (.c (.i .i64 (5)))), none, []⟩] [])
      .ret)
      .skip))
    (.seq (.region [⟨(some 56), (.mov (.t 7)), none, []⟩,
      ⟨(some 57), (.nck (.t 56)), none, []⟩,
      ⟨(some 58), (.off (.t 57) 0), none, []⟩,
      ⟨(some 59), (.load none (.t 58)), none, []⟩,
      ⟨(some 60), (.mov (.t 7)), none, []⟩,
      ⟨(some 61), (.off (.t 2) 5), none, []⟩,
      ⟨(some 62), (.load none (.t 61)), none, []⟩,
      ⟨(some 64), (.mov (.t 7)), none, []⟩,
      ⟨(some 65), (.off (.t 2) 8), none, []⟩,
      ⟨(some 66), (.load (some 7) (.t 65)), none, []⟩,
      ⟨(some 67), (.bsl 7 1 [(.i .i64 (0)), (.i .i64 (0)), (.i .i64 (0)), (.i .i64 (0)), (.s []), .ns, .ns] [(0, 7, (.t 66))]), none, []⟩,
      ⟨(some 71), (.off (.t 2) 4), none, []⟩,
      ⟨(some 63), (.call 41 [(.t 60), (.t 62)]), none, [(59, (.load none (.t 58)), none), (66, (.load (some 7) (.t 65)), none)]⟩,
      ⟨(some 68), (.call 41 [(.t 64), (.t 67)]), none, [(59, (.load none (.t 58)), none)]⟩,
      ⟨(some 69), (.iaddr 7 (.t 68) (.c (.i .i64 (0)))), none, []⟩,
      ⟨(some 70), (.load (some 7) (.t 69)), none, []⟩,
      ⟨none, (.store 1 (.t 71) (.t 59)), none, [(70, (.load (some 7) (.t 69)), none)]⟩,
      ⟨(some 72), (.off (.t 2) 5), none, []⟩,
      ⟨none, (.store 1 (.t 72) (.t 63)), none, [(70, (.load (some 7) (.t 69)), none)]⟩,
      ⟨(some 73), (.off (.t 2) 8), none, []⟩,
      ⟨none, (.store 7 (.t 73) (.t 70)), none, []⟩] [])
    (.seq (.region [⟨(some 74), (.load (some 16) (.t 2)), none, []⟩,
      ⟨none, (.store 16 (.t 4) (.t 74)), none, []⟩,
      ⟨(some 5), (.mov (.c (.i .i64 (0)))), none, []⟩] [])
    .ret)))))))),
    75, 2, [.c 4 (some 16), .t 5], 0⟩
theorem tr16 : trFunc Tryz.prog [([], []), ([], []), ([], []), ([], []), ([], []), ([], []), ([], []), ([], []), ([], []), ([], []), ([], []), ([], []), ([], []), ([], []), ([], []), ([], []), ([], []), ([], []), ([], []), ([], []), ([], []), ([0, 1, 2, 3, 4, 5, 6, 8, 9, 10, 11, 15, 7, 12, 13, 14, 16, 17, 18, 19, 20], []), ([], [])] 0 Tryz.f16 = some I16 := by kernel_rfl

/-- 'encore/fold.Of'. -/
def L17a : ICode :=
  (.seq (.region [⟨(some 31), (.bin .lss (.t 30) (.t 29)), none, []⟩] [])
    (.seq (.cond (.t 31)
      .skip
      (.exit 0))
    (.seq (.block 1
      (.seq (.region [⟨(some 32), (.mov (.t 30)), none, []⟩,
        ⟨(some 9), (.mov (.t 32)), none, []⟩] [])
      (.seq (.region [⟨(some 33), (.mov (.t 8)), none, []⟩,
        ⟨(some 34), (.mov (.t 9)), none, []⟩,
        ⟨(some 35), (.iaddr 5 (.t 33) (.t 34)), none, []⟩,
        ⟨(some 36), (.load (some 5) (.t 35)), none, []⟩,
        ⟨(some 10), (.alloc [(.i .i64 (0)), (.i .i64 (0)), .ns, (.s []), .ns]), none, []⟩,
        ⟨none, (.store 5 (.t 10) (.t 36)), none, []⟩] [])
      (.seq (.region [⟨(some 37), (.mov (.t 7)), none, []⟩,
        ⟨(some 38), (.off (.t 10) 2), none, []⟩,
        ⟨(some 39), (.load none (.t 38)), none, []⟩,
        ⟨(some 41), (.off (.t 10) 4), none, []⟩,
        ⟨(some 42), (.load none (.t 41)), none, []⟩,
        ⟨(some 40), (.callv (.t 37) [(.t 39)]), none, [(42, (.load none (.t 41)), none)]⟩,
        ⟨(some 44), (.off (.t 10) 2), none, []⟩,
        ⟨(some 43), (.call 45 [(.t 42)]), none, []⟩,
        ⟨none, (.store 1 (.t 44) (.t 40)), none, []⟩,
        ⟨(some 45), (.off (.t 10) 4), none, []⟩,
        ⟨none, (.store 1 (.t 45) (.t 43)), none, []⟩] [])
      (.seq (.seq (.region [⟨(some 47), (.load (some 5) (.t 10)), none, []⟩,
        ⟨(some 48), (.call 46 [(.t 47)]), none, []⟩,
        ⟨(some 46), (.mov (.t 48)), none, []⟩,
        ⟨(some 49), (.ext (.t 46) 0), none, []⟩,
        ⟨(some 50), (.ext (.t 46) 1), none, []⟩,
        ⟨(some 11), (.alloc [(.i .i64 (0)), (.i .i64 (0)), (.i .i64 (0)), (.i .i64 (0)), (.s []), .ns, .ns]), none, []⟩,
        ⟨none, (.store 7 (.t 11) (.t 49)), none, []⟩,
        ⟨(some 12), (.mov (.t 50)), none, []⟩] [])
      (.seq (.region [⟨(some 51), (.mov (.t 12)), none, []⟩] [])
      (.cond (.t 51)
        (.seq (.region [⟨(some 52), (.load none (.t 5)), none, []⟩,
          ⟨(some 53), (.mov (.t 9)), none, []⟩,
          ⟨(some 54), (.load (some 7) (.t 11)), none, []⟩,
          ⟨(some 55), (.iaddr 7 (.t 52) (.t 53)), none, []⟩,
          ⟨none, (.store 7 (.t 55) (.t 54)), none, []⟩] [])
        (.exit 1))
        .skip)))
      (.seq (.region [⟨(some 56), (.load none (.t 5)), none, []⟩,
        ⟨(some 57), (.mov (.t 9)), none, []⟩,
        ⟨(some 58), (.off (.t 1) 4), none, []⟩,
        ⟨(some 59), (.load none (.t 58)), none, []⟩,
        ⟨(some 60), (.lenk 0 (.t 59)), none, []⟩,
        ⟨(some 61), (.build [(.i .i64 (0)), (.i .i64 (0)), (.i .i64 (0)), (.i .i64 (0)), (.s []), .ns, .ns] [(0, 1, (.c (.i .i64 (2)))), (1, 1, (.t 60))]), none, []⟩,
        ⟨(some 62), (.iaddr 7 (.t 56) (.t 57)), none, []⟩,
        ⟨none, (.store 7 (.t 62) (.t 61)), none, []⟩] [])
      (.seq (.seq (.region [⟨(some 63), (.off (.t 10) 0), none, []⟩,
        ⟨(some 64), (.load none (.t 63)), none, []⟩,
        ⟨(some 65), (.bin .eql (.t 64) (.c (.i .i64 (23)))), none, []⟩,
        ⟨(some 66), (.mov (.t 65)), none, []⟩,
        ⟨(some 67), (.off (.t 10) 0), (some (66, false)), []⟩,
        ⟨(some 68), (.load none (.t 67)), (some (66, false)), []⟩,
        ⟨(some 69), (.bin .eql (.t 68) (.c (.i .i64 (40)))), (some (66, false)), []⟩,
        ⟨(some 70), (.pick (.t 66) (.c (.b true)) (.t 69)), none, []⟩] [])
      (.cond (.t 70)
        (.region [⟨(some 71), (.load none (.t 5)), none, []⟩,
          ⟨(some 72), (.mov (.t 9)), none, []⟩,
          ⟨(some 73), (.off (.t 10) 2), none, []⟩,
          ⟨(some 74), (.load none (.t 73)), none, []⟩,
          ⟨(some 75), (.iaddr 7 (.t 74) (.c (.i .i64 (0)))), none, []⟩,
          ⟨(some 76), (.load (some 7) (.t 75)), none, []⟩,
          ⟨(some 77), (.iaddr 7 (.t 71) (.t 72)), none, []⟩,
          ⟨none, (.store 7 (.t 77) (.t 76)), none, []⟩] [])
        .skip))
      (.region [⟨(some 78), (.off (.t 1) 4), none, []⟩,
        ⟨(some 79), (.load none (.t 78)), none, []⟩,
        ⟨(some 80), (.load (some 5) (.t 10)), none, []⟩,
        ⟨(some 81), (.bsl 5 1 [(.i .i64 (0)), (.i .i64 (0)), .ns, (.s []), .ns] [(0, 5, (.t 80))]), none, []⟩,
        ⟨(some 82), (.app 5 80 (.t 79) (.t 81)), none, []⟩,
        ⟨(some 83), (.off (.t 1) 4), none, []⟩,
        ⟨none, (.store 1 (.t 83) (.t 82)), none, []⟩] []))))))))
    (.region [⟨(some 84), (.bin .add (.t 30) (.c (.i .i64 (1)))), none, []⟩,
      ⟨(some 30), (.mov (.t 84)), none, []⟩] []))))
def I17 : IFunc :=
  ⟨(.seq (.region [⟨(some 1), (.box (.t 0)), none, []⟩,
      ⟨(some 2), (.alloc [(.i .i64 (0)), (.i .i64 (0)), (.i .i64 (0)), (.i .i64 (0)), .ns, .ns, (.i .i64 (0)), (.i .i64 (0)), (.i .i64 (0)), (.i .i64 (0)), (.i .i64 (0)), (.i .i64 (0)), (.s []), .ns, .ns, (.i .i64 (0))]), none, []⟩,
      ⟨(some 3), (.mov (.c (.i .i64 (0)))), none, []⟩] [])
    (.seq (.seq (.region [⟨(some 13), (.load (some 16) (.t 1)), none, []⟩,
      ⟨(some 14), (.call 20 [(.t 13)]), none, []⟩,
      ⟨(some 4), (.mov (.t 14)), none, []⟩] [])
    (.seq (.region [⟨(some 15), (.mov (.t 4)), none, []⟩,
      ⟨(some 16), (.bin .neq (.t 15) (.c (.i .i64 (0)))), none, []⟩] [])
    (.cond (.t 16)
      (.seq (.region [⟨(some 17), (.build [(.i .i64 (0)), (.i .i64 (0)), (.i .i64 (0)), (.i .i64 (0)), .ns, .ns, (.i .i64 (0)), (.i .i64 (0)), (.i .i64 (0)), (.i .i64 (0)), (.i .i64 (0)), (.i .i64 (0)), (.s []), .ns, .ns, (.i .i64 (0))] []), none, []⟩,
        ⟨(some 18), (.mov (.t 4)), none, []⟩,
        ⟨none, (.store 16 (.t 2) (.t 17)), none, []⟩,
        ⟨(some 3), (.mov (.t 18)), none, []⟩] [])
      .ret)
      .skip)))
    (.seq (.region [⟨(some 19), (.off (.t 1) 4), none, []⟩,
      ⟨(some 20), (.load none (.t 19)), none, []⟩,
      ⟨(some 21), (.lenk 0 (.t 20)), none, []⟩,
      ⟨(some 22), (.mksl 7 96 [(.i .i64 (0)), (.i .i64 (0)), (.i .i64 (0)), (.i .i64 (0)), (.s []), .ns, .ns] (.t 21) (.t 21)), none, []⟩,
      ⟨(some 5), (.alloc [.ns]), none, []⟩,
      ⟨none, (.store 1 (.t 5) (.t 22)), none, []⟩] [])
    (.seq (.region [⟨(some 23), (.mkf 42 [] [(.t 5)]), none, []⟩,
      ⟨(some 6), (.alloc [.nf]), none, []⟩,
      ⟨none, (.store 1 (.t 6) (.t 23)), none, []⟩] [])
    (.seq (.region [⟨(some 24), (.mkf 44 [] [(.t 6)]), none, []⟩,
      ⟨(some 7), (.mov (.t 24)), none, []⟩] [])
    (.seq (.region [⟨(some 25), (.off (.t 1) 4), none, []⟩,
      ⟨(some 26), (.load none (.t 25)), none, []⟩,
      ⟨(some 8), (.mov (.t 26)), none, []⟩] [])
    (.seq (.region [⟨(some 27), (.off (.t 1) 4), none, []⟩,
      ⟨none, (.store 1 (.t 27) (.c .ns)), none, []⟩] [])
    (.seq (.seq (.region [⟨(some 28), (.mov (.t 8)), none, []⟩,
      ⟨(some 29), (.lenk 0 (.t 28)), none, []⟩,
      ⟨(some 30), (.mov (.c (.i .i64 (0)))), none, []⟩] [])
    (.block 0
      (.loop L17a)))
    (.seq (.region [⟨(some 85), (.mov (.t 7)), none, []⟩,
      ⟨(some 86), (.off (.t 1) 5), none, []⟩,
      ⟨(some 87), (.load none (.t 86)), none, []⟩,
      ⟨(some 89), (.load none (.t 6)), none, []⟩,
      ⟨(some 90), (.off (.t 1) 8), none, []⟩,
      ⟨(some 91), (.load (some 7) (.t 90)), none, []⟩,
      ⟨(some 88), (.callv (.t 85) [(.t 87)]), none, [(89, (.load none (.t 6)), none), (91, (.load (some 7) (.t 90)), none)]⟩,
      ⟨(some 93), (.off (.t 1) 5), none, []⟩,
      ⟨(some 92), (.callv (.t 89) [(.t 91)]), none, []⟩,
      ⟨none, (.store 1 (.t 93) (.t 88)), none, []⟩,
      ⟨(some 94), (.off (.t 1) 8), none, []⟩,
      ⟨none, (.store 7 (.t 94) (.t 92)), none, []⟩] [])
    (.seq (.seq (.region [⟨(some 95), (.off (.t 1) 6), none, []⟩,
      ⟨(some 96), (.load none (.t 95)), none, []⟩,
      ⟨(some 97), (.bin .eql (.t 96) (.c (.i .i64 (2)))), none, []⟩,
      ⟨(some 98), (.mov (.t 97)), none, []⟩,
      ⟨(some 99), (.off (.t 1) 8), (some (98, true)), []⟩,
      ⟨(some 100), (.off (.t 99) 0), (some (98, true)), []⟩,
      ⟨(some 101), (.load none (.t 100)), (some (98, true)), []⟩,
      ⟨(some 102), (.bin .eql (.t 101) (.c (.i .i64 (3)))), (some (98, true)), []⟩,
      ⟨(some 103), (.pick (.t 98) (.t 102) (.c (.b false))), none, []⟩,
      ⟨(some 104), (.mov (.t 103)), none, []⟩,
      ⟨(some 105), (.off (.t 1) 8), (some (104, true)), []⟩,
      ⟨(some 106), (.off (.t 105) 2), (some (104, true)), []⟩,
      ⟨(some 107), (.off (.t 106) 0), (some (104, true)), []⟩,
      ⟨(some 108), (.load none (.t 107)), (some (104, true)), []⟩,
      ⟨(some 109), (.bin .eql (.t 108) (.c (.i .i64 (2)))), (some (104, true)), []⟩,
      ⟨(some 110), (.pick (.t 104) (.t 109) (.c (.b false))), none, []⟩] [])
    (.cond (.t 110)
      (.seq (.seq (.region [⟨(some 111), (.off (.t 1) 8), none, []⟩,
        ⟨(some 112), (.off (.t 111) 2), none, []⟩,
        ⟨(some 113), (.off (.t 112) 1), none, []⟩,
        ⟨(some 114), (.load none (.t 113)), none, []⟩,
        ⟨(some 115), (.bin .eql (.t 114) (.c (.i .i64 (1)))), none, []⟩] [])
      (.cond (.t 115)
        (.region [⟨(some 116), (.off (.t 1) 1), none, []⟩,
          ⟨(some 117), (.load none (.t 116)), none, []⟩,
          ⟨(some 118), (.off (.t 1) 2), none, []⟩,
          ⟨(some 119), (.load none (.t 118)), none, []⟩,
          ⟨(some 120), (.bin .add (.t 117) (.t 119)), none, []⟩,
          ⟨(some 121), (.off (.t 1) 7), none, []⟩,
          ⟨none, (.store 1 (.t 121) (.t 120)), none, []⟩] [])
        .skip))
      (.region [⟨(some 122), (.build [(.i .i64 (0)), (.i .i64 (0)), (.i .i64 (0)), (.i .i64 (0)), (.s []), .ns, .ns] []), none, []⟩,
        ⟨(some 123), (.off (.t 1) 6), none, []⟩,
        ⟨none, (.store 1 (.t 123) (.c (.i .i64 (1)))), none, []⟩,
        ⟨(some 124), (.off (.t 1) 8), none, []⟩,
        ⟨none, (.store 7 (.t 124) (.t 122)), none, []⟩] []))
      .skip))
    (.seq (.region [⟨(some 125), (.load (some 16) (.t 1)), none, []⟩,
      ⟨none, (.store 16 (.t 2) (.t 125)), none, []⟩,
      ⟨(some 3), (.mov (.c (.i .i64 (0)))), none, []⟩] [])
    .ret))))))))))),
    126, 1, [.c 2 (some 16), .t 3], 0⟩
theorem tr17 : trFunc Tryz.prog [([], []), ([], []), ([], []), ([], []), ([], []), ([], []), ([], []), ([], []), ([], []), ([], []), ([], []), ([], []), ([], []), ([], []), ([], []), ([0, 1, 2, 4, 5, 3, 7, 6, 8, 9, 10], []), ([], []), ([], []), ([], []), ([], []), ([], []), ([], []), ([0, 1, 2, 3, 4, 5, 6, 7], []), ([], []), ([], []), ([], []), ([0, 1, 2, 4, 5, 6, 3, 8, 7, 9, 10, 11], []), ([], []), ([], []), ([], []), ([], []), ([], []), ([], []), ([], [])] 0 Tryz.f17 = some I17 := by kernel_rfl

/-- 'encore/prune.Of'. -/
def L18a : ICode :=
  (.seq (.region [⟨(some 29), (.bin .lss (.t 28) (.t 27)), none, []⟩] [])
    (.seq (.cond (.t 29)
      .skip
      (.exit 0))
    (.seq (.block 1
      (.seq (.region [⟨(some 30), (.mov (.t 28)), none, []⟩,
        ⟨(some 31), (.iaddr 1 (.t 26) (.t 28)), none, []⟩,
        ⟨(some 32), (.load none (.t 31)), none, []⟩,
        ⟨(some 8), (.mov (.t 30)), none, []⟩,
        ⟨(some 9), (.mov (.t 32)), none, []⟩] [])
      (.seq (.region [⟨(some 33), (.load none (.t 6)), none, []⟩,
        ⟨(some 34), (.off (.t 1) 4), none, []⟩,
        ⟨(some 35), (.load none (.t 34)), none, []⟩,
        ⟨(some 36), (.lenk 0 (.t 35)), none, []⟩,
        ⟨(some 37), (.build [(.i .i64 (0)), (.i .i64 (0)), (.i .i64 (0)), (.i .i64 (0)), (.s []), .ns, .ns] [(0, 1, (.c (.i .i64 (2)))), (1, 1, (.t 36))]), none, []⟩,
        ⟨(some 38), (.bsl 7 1 [(.i .i64 (0)), (.i .i64 (0)), (.i .i64 (0)), (.i .i64 (0)), (.s []), .ns, .ns] [(0, 7, (.t 37))]), none, []⟩,
        ⟨(some 39), (.app 7 96 (.t 33) (.t 38)), none, []⟩,
        ⟨none, (.store 1 (.t 6) (.t 39)), none, []⟩] [])
      (.seq (.region [⟨(some 40), (.mov (.t 9)), none, []⟩] [])
      (.cond (.t 40)
        (.seq (.region [⟨(some 41), (.mov (.t 5)), none, []⟩,
          ⟨(some 42), (.nck (.t 41)), none, []⟩,
          ⟨(some 43), (.off (.t 42) 0), none, []⟩,
          ⟨(some 44), (.load none (.t 43)), none, []⟩,
          ⟨(some 45), (.mov (.t 8)), none, []⟩,
          ⟨(some 46), (.iaddr 5 (.t 44) (.t 45)), none, []⟩,
          ⟨(some 47), (.load (some 5) (.t 46)), none, []⟩,
          ⟨(some 10), (.alloc [(.i .i64 (0)), (.i .i64 (0)), .ns, (.s []), .ns]), none, []⟩,
          ⟨none, (.store 5 (.t 10) (.t 47)), none, []⟩] [])
        (.seq (.region [⟨(some 48), (.mov (.t 7)), none, []⟩,
          ⟨(some 49), (.off (.t 10) 2), none, []⟩,
          ⟨(some 50), (.load none (.t 49)), none, []⟩,
          ⟨(some 51), (.callv (.t 48) [(.t 50)]), none, []⟩,
          ⟨(some 52), (.off (.t 10) 2), none, []⟩,
          ⟨none, (.store 1 (.t 52) (.t 51)), none, []⟩] [])
        (.region [⟨(some 53), (.off (.t 1) 4), none, []⟩,
          ⟨(some 54), (.load none (.t 53)), none, []⟩,
          ⟨(some 55), (.load (some 5) (.t 10)), none, []⟩,
          ⟨(some 56), (.bsl 5 1 [(.i .i64 (0)), (.i .i64 (0)), .ns, (.s []), .ns] [(0, 5, (.t 55))]), none, []⟩,
          ⟨(some 57), (.app 5 80 (.t 54) (.t 56)), none, []⟩,
          ⟨(some 58), (.off (.t 1) 4), none, []⟩,
          ⟨none, (.store 1 (.t 58) (.t 57)), none, []⟩] [])))
        .skip)))))
    (.region [⟨(some 59), (.bin .add (.t 28) (.c (.i .i64 (1)))), none, []⟩,
      ⟨(some 28), (.mov (.t 59)), none, []⟩] []))))
def I18 : IFunc :=
  ⟨(.seq (.region [⟨(some 1), (.box (.t 0)), none, []⟩,
      ⟨(some 2), (.alloc [(.i .i64 (0)), (.i .i64 (0)), (.i .i64 (0)), (.i .i64 (0)), .ns, .ns, (.i .i64 (0)), (.i .i64 (0)), (.i .i64 (0)), (.i .i64 (0)), (.i .i64 (0)), (.i .i64 (0)), (.s []), .ns, .ns, (.i .i64 (0))]), none, []⟩,
      ⟨(some 3), (.mov (.c (.i .i64 (0)))), none, []⟩] [])
    (.seq (.seq (.region [⟨(some 11), (.load (some 16) (.t 1)), none, []⟩,
      ⟨(some 12), (.call 20 [(.t 11)]), none, []⟩,
      ⟨(some 4), (.mov (.t 12)), none, []⟩] [])
    (.seq (.region [⟨(some 13), (.mov (.t 4)), none, []⟩,
      ⟨(some 14), (.bin .neq (.t 13) (.c (.i .i64 (0)))), none, []⟩] [])
    (.cond (.t 14)
      (.seq (.region [⟨(some 15), (.build [(.i .i64 (0)), (.i .i64 (0)), (.i .i64 (0)), (.i .i64 (0)), .ns, .ns, (.i .i64 (0)), (.i .i64 (0)), (.i .i64 (0)), (.i .i64 (0)), (.i .i64 (0)), (.i .i64 (0)), (.s []), .ns, .ns, (.i .i64 (0))] []), none, []⟩,
        ⟨(some 16), (.mov (.t 4)), none, []⟩,
        ⟨none, (.store 16 (.t 2) (.t 15)), none, []⟩,
        ⟨(some 3), (.mov (.t 16)), none, []⟩] [])
      .ret)
      .skip)))
    (.seq (.region [⟨(some 18), (.load (some 16) (.t 1)), none, []⟩,
      ⟨(some 19), (.call 47 [(.t 18)]), none, []⟩,
      ⟨(some 17), (.mov (.t 19)), none, []⟩,
      ⟨(some 20), (.ext (.t 17) 0), none, []⟩,
      ⟨(some 21), (.ext (.t 17) 1), none, []⟩,
      ⟨(some 5), (.mov (.t 20)), none, []⟩,
      ⟨none, (.store 16 (.t 1) (.t 21)), none, []⟩] [])
    (.seq (.region [⟨(some 22), (.off (.t 1) 4), none, []⟩,
      ⟨none, (.store 1 (.t 22) (.c .ns)), none, []⟩] [])
    (.seq (.region [⟨(some 6), (.alloc [.ns]), none, []⟩] [])
    (.seq (.region [⟨(some 23), (.call 48 [(.t 6)]), none, []⟩,
      ⟨(some 7), (.mov (.t 23)), none, []⟩] [])
    (.seq (.seq (.region [⟨(some 24), (.mov (.t 5)), none, []⟩,
      ⟨(some 25), (.load (some 16) (.t 1)), none, []⟩,
      ⟨(some 26), (.call 49 [(.t 24), (.t 25)]), none, []⟩,
      ⟨(some 27), (.lenk 0 (.t 26)), none, []⟩,
      ⟨(some 28), (.mov (.c (.i .i64 (0)))), none, []⟩] [])
    (.block 0
      (.loop L18a)))
    (.seq (.region [⟨(some 60), (.mov (.t 7)), none, []⟩,
      ⟨(some 61), (.off (.t 1) 5), none, []⟩,
      ⟨(some 62), (.load none (.t 61)), none, []⟩,
      ⟨(some 64), (.mov (.t 7)), none, []⟩,
      ⟨(some 65), (.off (.t 1) 8), none, []⟩,
      ⟨(some 66), (.load (some 7) (.t 65)), none, []⟩,
      ⟨(some 67), (.bsl 7 1 [(.i .i64 (0)), (.i .i64 (0)), (.i .i64 (0)), (.i .i64 (0)), (.s []), .ns, .ns] [(0, 7, (.t 66))]), none, []⟩,
      ⟨(some 63), (.callv (.t 60) [(.t 62)]), none, [(66, (.load (some 7) (.t 65)), none)]⟩,
      ⟨(some 71), (.off (.t 1) 5), none, []⟩,
      ⟨(some 68), (.callv (.t 64) [(.t 67)]), none, []⟩,
      ⟨(some 69), (.iaddr 7 (.t 68) (.c (.i .i64 (0)))), none, []⟩,
      ⟨(some 70), (.load (some 7) (.t 69)), none, []⟩,
      ⟨none, (.store 1 (.t 71) (.t 63)), none, [(70, (.load (some 7) (.t 69)), none)]⟩,
      ⟨(some 72), (.off (.t 1) 8), none, []⟩,
      ⟨none, (.store 7 (.t 72) (.t 70)), none, []⟩] [])
    (.seq (.region [⟨(some 73), (.load (some 16) (.t 1)), none, []⟩,
      ⟨none, (.store 16 (.t 2) (.t 73)), none, []⟩,
      ⟨(some 3), (.mov (.c (.i .i64 (0)))), none, []⟩] [])
    .ret))))))))),
    74, 1, [.c 2 (some 16), .t 3], 0⟩
theorem tr18 : trFunc Tryz.prog [([], []), ([], []), ([], []), ([], []), ([], []), ([], []), ([], []), ([], []), ([], []), ([], []), ([], []), ([], []), ([], []), ([], []), ([], []), ([], []), ([], []), ([], []), ([], []), ([], []), ([0, 1, 2, 4, 5, 6, 7, 3, 11, 8, 9, 10, 12, 13, 14], []), ([], [])] 0 Tryz.f18 = some I18 := by kernel_rfl

/-- 'encore/fuse.Of'. -/
def L19a : ICode :=
  (.seq (.region [⟨(some 19), (.bin .lss (.t 18) (.t 17)), none, []⟩] [])
    (.seq (.cond (.t 19)
      .skip
      (.exit 0))
    (.seq (.block 1
      (.seq (.region [⟨(some 20), (.iaddr 5 (.t 16) (.t 18)), none, []⟩,
        ⟨(some 21), (.load (some 5) (.t 20)), none, []⟩,
        ⟨(some 7), (.alloc [(.i .i64 (0)), (.i .i64 (0)), .ns, (.s []), .ns]), none, []⟩,
        ⟨none, (.store 5 (.t 7) (.t 21)), none, []⟩] [])
      (.region [⟨(some 22), (.mov (.t 5)), none, []⟩,
        ⟨(some 23), (.mov (.t 5)), none, []⟩,
        ⟨(some 24), (.load (some 5) (.t 7)), none, []⟩,
        ⟨(some 25), (.call 51 [(.t 23), (.t 24)]), none, []⟩,
        ⟨(some 26), (.call 50 [(.t 25)]), none, []⟩,
        ⟨(some 27), (.bsl 5 1 [(.i .i64 (0)), (.i .i64 (0)), .ns, (.s []), .ns] [(0, 5, (.t 26))]), none, []⟩,
        ⟨(some 28), (.app 5 80 (.t 22) (.t 27)), none, []⟩,
        ⟨(some 5), (.mov (.t 28)), none, []⟩] [])))
    (.region [⟨(some 29), (.bin .add (.t 18) (.c (.i .i64 (1)))), none, []⟩,
      ⟨(some 18), (.mov (.t 29)), none, []⟩] []))))
def L19b : ICode :=
  (.seq (.region [⟨(some 46), (.bin .lss (.t 45) (.t 44)), none, []⟩] [])
    (.seq (.cond (.t 46)
      .skip
      (.exit 2))
    (.seq (.block 3
      (.seq (.region [⟨(some 47), (.mov (.t 45)), none, []⟩,
        ⟨(some 8), (.mov (.t 47)), none, []⟩] [])
      (.region [⟨(some 48), (.off (.t 1) 5), none, []⟩,
        ⟨(some 49), (.load none (.t 48)), none, []⟩,
        ⟨(some 50), (.mov (.t 8)), none, []⟩,
        ⟨(some 51), (.off (.t 1) 5), none, []⟩,
        ⟨(some 52), (.load none (.t 51)), none, []⟩,
        ⟨(some 53), (.mov (.t 8)), none, []⟩,
        ⟨(some 54), (.iaddr 7 (.t 52) (.t 53)), none, []⟩,
        ⟨(some 55), (.off (.t 54) 2), none, []⟩,
        ⟨(some 56), (.load (some 5) (.t 55)), none, []⟩,
        ⟨(some 57), (.call 52 [(.t 56)]), none, [(49, (.load none (.t 48)), none)]⟩,
        ⟨(some 58), (.iaddr 7 (.t 49) (.t 50)), none, []⟩,
        ⟨(some 59), (.off (.t 58) 2), none, []⟩,
        ⟨none, (.store 5 (.t 59) (.t 57)), none, []⟩] [])))
    (.region [⟨(some 60), (.bin .add (.t 45) (.c (.i .i64 (1)))), none, []⟩,
      ⟨(some 45), (.mov (.t 60)), none, []⟩] []))))
def I19 : IFunc :=
  ⟨(.seq (.region [⟨(some 1), (.box (.t 0)), none, []⟩,
      ⟨(some 2), (.alloc [(.i .i64 (0)), (.i .i64 (0)), (.i .i64 (0)), (.i .i64 (0)), .ns, .ns, (.i .i64 (0)), (.i .i64 (0)), (.i .i64 (0)), (.i .i64 (0)), (.i .i64 (0)), (.i .i64 (0)), (.s []), .ns, .ns, (.i .i64 (0))]), none, []⟩,
      ⟨(some 3), (.mov (.c (.i .i64 (0)))), none, []⟩] [])
    (.seq (.seq (.region [⟨(some 9), (.load (some 16) (.t 1)), none, []⟩,
      ⟨(some 10), (.call 20 [(.t 9)]), none, []⟩,
      ⟨(some 4), (.mov (.t 10)), none, []⟩] [])
    (.seq (.region [⟨(some 11), (.mov (.t 4)), none, []⟩,
      ⟨(some 12), (.bin .neq (.t 11) (.c (.i .i64 (0)))), none, []⟩] [])
    (.cond (.t 12)
      (.seq (.region [⟨(some 13), (.build [(.i .i64 (0)), (.i .i64 (0)), (.i .i64 (0)), (.i .i64 (0)), .ns, .ns, (.i .i64 (0)), (.i .i64 (0)), (.i .i64 (0)), (.i .i64 (0)), (.i .i64 (0)), (.i .i64 (0)), (.s []), .ns, .ns, (.i .i64 (0))] []), none, []⟩,
        ⟨(some 14), (.mov (.t 4)), none, []⟩,
        ⟨none, (.store 16 (.t 2) (.t 13)), none, []⟩,
        ⟨(some 3), (.mov (.t 14)), none, []⟩] [])
      .ret)
      .skip)))
    (.seq (.region [⟨(some 5), (.mov (.c .ns)), none, []⟩] [])
    (.seq (.seq (.region [⟨(some 15), (.off (.t 1) 4), none, []⟩,
      ⟨(some 16), (.load none (.t 15)), none, []⟩,
      ⟨(some 17), (.lenk 0 (.t 16)), none, []⟩,
      ⟨(some 18), (.mov (.c (.i .i64 (0)))), none, []⟩] [])
    (.block 0
      (.loop L19a)))
    (.seq (.region [⟨(some 30), (.mov (.t 5)), none, []⟩,
      ⟨(some 31), (.off (.t 1) 5), none, []⟩,
      ⟨(some 32), (.load none (.t 31)), none, []⟩,
      ⟨(some 34), (.off (.t 1) 8), none, []⟩,
      ⟨(some 35), (.off (.t 34) 2), none, []⟩,
      ⟨(some 36), (.load (some 5) (.t 35)), none, []⟩,
      ⟨(some 38), (.off (.t 1) 4), none, []⟩,
      ⟨(some 33), (.call 36 [(.t 32)]), none, [(36, (.load (some 5) (.t 35)), none)]⟩,
      ⟨(some 37), (.call 52 [(.t 36)]), none, []⟩,
      ⟨none, (.store 1 (.t 38) (.t 30)), none, []⟩,
      ⟨(some 39), (.off (.t 1) 5), none, []⟩,
      ⟨none, (.store 1 (.t 39) (.t 33)), none, []⟩,
      ⟨(some 40), (.off (.t 1) 8), none, []⟩,
      ⟨(some 41), (.off (.t 40) 2), none, []⟩,
      ⟨none, (.store 5 (.t 41) (.t 37)), none, []⟩] [])
    (.seq (.seq (.region [⟨(some 42), (.off (.t 1) 5), none, []⟩,
      ⟨(some 43), (.load none (.t 42)), none, []⟩,
      ⟨(some 44), (.lenk 0 (.t 43)), none, []⟩,
      ⟨(some 45), (.mov (.c (.i .i64 (0)))), none, []⟩] [])
    (.block 2
      (.loop L19b)))
    (.seq (.region [⟨(some 61), (.load (some 16) (.t 1)), none, []⟩,
      ⟨none, (.store 16 (.t 2) (.t 61)), none, []⟩,
      ⟨(some 3), (.mov (.c (.i .i64 (0)))), none, []⟩] [])
    .ret))))))),
    62, 1, [.c 2 (some 16), .t 3], 0⟩
theorem tr19 : trFunc Tryz.prog [([], []), ([], []), ([], []), ([], []), ([], []), ([], []), ([], []), ([], []), ([], []), ([], []), ([], []), ([], []), ([0, 1, 2, 4, 5, 6, 8, 3, 7, 9, 10, 11, 12, 13, 14], []), ([], []), ([], []), ([], []), ([], []), ([0, 1, 2, 3, 4, 5, 6, 7, 8, 9, 10, 11, 12], []), ([], []), ([], [])] 0 Tryz.f19 = some I19 := by kernel_rfl

/-- 'encore/lift.Check'. -/
def L20a : ICode :=
  (.seq (.region [⟨(some 26), (.bin .lss (.t 25) (.t 24)), none, []⟩] [])
    (.seq (.cond (.t 26)
      .skip
      (.exit 0))
    (.seq (.block 1
      (.seq (.region [⟨(some 27), (.iaddr 1 (.t 23) (.t 25)), none, []⟩,
        ⟨(some 28), (.load none (.t 27)), none, []⟩,
        ⟨(some 4), (.mov (.t 28)), none, []⟩] [])
      (.seq (.region [⟨(some 29), (.mov (.t 4)), none, []⟩,
        ⟨(some 30), (.bin .lss (.t 29) (.c (.i .i64 (0)))), none, []⟩] [])
      (.cond (.t 30)
        (.seq (.region [⟨(some 2), (.mov (.c (.i .i64 (2)))), none, []⟩] [])
        .ret)
        .skip))))
    (.region [⟨(some 31), (.bin .add (.t 25) (.c (.i .i64 (1)))), none, []⟩,
      ⟨(some 25), (.mov (.t 31)), none, []⟩] []))))
def L20b : ICode :=
  (.seq (.region [⟨(some 69), (.bin .lss (.t 68) (.t 67)), none, []⟩] [])
    (.seq (.cond (.t 69)
      .skip
      (.exit 2))
    (.seq (.block 3
      (.seq (.region [⟨(some 70), (.mov (.t 68)), none, []⟩,
        ⟨(some 71), (.iaddr 5 (.t 66) (.t 68)), none, []⟩,
        ⟨(some 72), (.load (some 5) (.t 71)), none, []⟩,
        ⟨(some 6), (.alloc [(.i .i64 (0)), (.i .i64 (0)), .ns, (.s []), .ns]), none, []⟩,
        ⟨(some 5), (.mov (.t 70)), none, []⟩,
        ⟨none, (.store 5 (.t 6) (.t 72)), none, []⟩] [])
      (.seq (.region [⟨(some 73), (.load (some 5) (.t 6)), none, []⟩,
        ⟨(some 74), (.off (.t 1) 3), none, []⟩,
        ⟨(some 75), (.load none (.t 74)), none, []⟩,
        ⟨(some 76), (.mov (.t 5)), none, []⟩,
        ⟨(some 77), (.call 53 [(.t 73), (.t 75), (.t 76)]), none, []⟩,
        ⟨(some 78), (.un .not (.t 77)), none, []⟩] [])
      (.cond (.t 78)
        (.seq (.region [⟨(some 2), (.mov (.c (.i .i64 (2)))), none, []⟩] [])
        .ret)
        .skip))))
    (.region [⟨(some 79), (.bin .add (.t 68) (.c (.i .i64 (1)))), none, []⟩,
      ⟨(some 68), (.mov (.t 79)), none, []⟩] []))))
def I20 : IFunc :=
  ⟨(.seq (.region [⟨(some 1), (.box (.t 0)), none, []⟩,
      ⟨(some 2), (.mov (.c (.i .i64 (0)))), none, []⟩] [])
    (.seq (.seq (.region [⟨(some 9), (.off (.t 1) 0), none, []⟩,
      ⟨(some 10), (.load none (.t 9)), none, []⟩,
      ⟨(some 11), (.off (.t 1) 1), none, []⟩,
      ⟨(some 12), (.load none (.t 11)), none, []⟩,
      ⟨(some 13), (.off (.t 1) 2), none, []⟩,
      ⟨(some 14), (.load none (.t 13)), none, []⟩,
      ⟨(some 15), (.off (.t 1) 3), none, []⟩,
      ⟨(some 16), (.load none (.t 15)), none, []⟩,
      ⟨(some 17), (.off (.t 1) 15), none, []⟩,
      ⟨(some 18), (.load none (.t 17)), none, []⟩,
      ⟨(some 19), (.off (.t 1) 6), none, []⟩,
      ⟨(some 20), (.load none (.t 19)), none, []⟩,
      ⟨(some 21), (.off (.t 1) 7), none, []⟩,
      ⟨(some 22), (.load none (.t 21)), none, []⟩,
      ⟨(some 23), (.bsl 1 7 [(.i .i64 (0)), (.i .i64 (0)), (.i .i64 (0)), (.i .i64 (0)), (.i .i64 (0)), (.i .i64 (0)), (.i .i64 (0))] [(0, 1, (.t 10)), (1, 1, (.t 12)), (2, 1, (.t 14)), (3, 1, (.t 16)), (4, 1, (.t 18)), (5, 1, (.t 20)), (6, 1, (.t 22))]), none, []⟩,
      ⟨(some 24), (.lenk 0 (.t 23)), none, []⟩,
      ⟨(some 25), (.mov (.c (.i .i64 (0)))), none, []⟩] [])
    (.block 0
      (.loop L20a)))
    (.seq (.seq (.region [⟨(some 32), (.off (.t 1) 0), none, []⟩,
      ⟨(some 33), (.load none (.t 32)), none, []⟩,
      ⟨(some 34), (.off (.t 1) 1), none, []⟩,
      ⟨(some 35), (.load none (.t 34)), none, []⟩,
      ⟨(some 36), (.off (.t 1) 2), none, []⟩,
      ⟨(some 37), (.load none (.t 36)), none, []⟩,
      ⟨(some 38), (.mm true (.t 33) [(.t 35), (.t 37)]), none, []⟩,
      ⟨(some 39), (.bin .gtr (.t 38) (.c (.i .i64 (9007199254740991)))), none, []⟩] [])
    (.cond (.t 39)
      (.seq (.region [⟨(some 2), (.mov (.c (.i .i64 (2)))), none, []⟩] [])
      .ret)
      .skip))
    (.seq (.seq (.region [⟨(some 40), (.off (.t 1) 3), none, []⟩,
      ⟨(some 41), (.load none (.t 40)), none, []⟩,
      ⟨(some 42), (.bin .gtr (.t 41) (.c (.i .i64 (64)))), none, []⟩,
      ⟨(some 43), (.mov (.t 42)), none, []⟩,
      ⟨(some 44), (.off (.t 1) 15), (some (43, false)), []⟩,
      ⟨(some 45), (.load none (.t 44)), (some (43, false)), []⟩,
      ⟨(some 46), (.bin .gtr (.t 45) (.c (.i .i64 (1)))), (some (43, false)), []⟩,
      ⟨(some 47), (.pick (.t 43) (.c (.b true)) (.t 46)), none, []⟩,
      ⟨(some 48), (.mov (.t 47)), none, []⟩,
      ⟨(some 49), (.off (.t 1) 6), (some (48, false)), []⟩,
      ⟨(some 50), (.load none (.t 49)), (some (48, false)), []⟩,
      ⟨(some 51), (.bin .gtr (.t 50) (.c (.i .i64 (3)))), (some (48, false)), []⟩,
      ⟨(some 52), (.pick (.t 48) (.c (.b true)) (.t 51)), none, []⟩,
      ⟨(some 53), (.mov (.t 52)), none, []⟩,
      ⟨(some 54), (.off (.t 1) 4), (some (53, false)), []⟩,
      ⟨(some 55), (.load none (.t 54)), (some (53, false)), []⟩,
      ⟨(some 56), (.lenk 0 (.t 55)), (some (53, false)), []⟩,
      ⟨(some 57), (.bin .gtr (.t 56) (.c (.i .i64 (4096)))), (some (53, false)), []⟩,
      ⟨(some 58), (.pick (.t 53) (.c (.b true)) (.t 57)), none, []⟩,
      ⟨(some 59), (.mov (.t 58)), none, []⟩,
      ⟨(some 60), (.off (.t 1) 5), (some (59, false)), []⟩,
      ⟨(some 61), (.load none (.t 60)), (some (59, false)), []⟩,
      ⟨(some 62), (.lenk 0 (.t 61)), (some (59, false)), []⟩,
      ⟨(some 63), (.bin .gtr (.t 62) (.c (.i .i64 (64)))), (some (59, false)), []⟩,
      ⟨(some 64), (.pick (.t 59) (.c (.b true)) (.t 63)), none, []⟩] [])
    (.cond (.t 64)
      (.seq (.region [⟨(some 2), (.mov (.c (.i .i64 (2)))), none, []⟩] [])
      .ret)
      .skip))
    (.seq (.seq (.region [⟨(some 65), (.off (.t 1) 4), none, []⟩,
      ⟨(some 66), (.load none (.t 65)), none, []⟩,
      ⟨(some 67), (.lenk 0 (.t 66)), none, []⟩,
      ⟨(some 68), (.mov (.c (.i .i64 (0)))), none, []⟩] [])
    (.block 2
      (.loop L20b)))
    (.seq (.region [⟨(some 80), (.off (.t 1) 6), none, []⟩,
      ⟨(some 81), (.load none (.t 80)), none, []⟩,
      ⟨(some 82), (.bin .eql (.t 81) (.c (.i .i64 (2)))), none, []⟩,
      ⟨(some 83), (.mov (.t 82)), none, []⟩,
      ⟨(some 84), (.off (.t 1) 8), (some (83, true)), []⟩,
      ⟨(some 85), (.load (some 7) (.t 84)), (some (83, true)), []⟩,
      ⟨(some 86), (.off (.t 1) 3), (some (83, true)), []⟩,
      ⟨(some 87), (.load none (.t 86)), (some (83, true)), []⟩,
      ⟨(some 88), (.off (.t 1) 4), (some (83, true)), []⟩,
      ⟨(some 89), (.load none (.t 88)), (some (83, true)), []⟩,
      ⟨(some 90), (.lenk 0 (.t 89)), (some (83, true)), []⟩,
      ⟨(some 91), (.call 54 [(.t 85), (.t 87), (.t 90)]), (some (83, true)), []⟩,
      ⟨(some 92), (.pick (.t 83) (.t 91) (.c (.b false))), none, []⟩,
      ⟨(some 7), (.mov (.t 92)), none, []⟩] [])
    (.seq (.region [⟨(some 93), (.off (.t 1) 6), none, []⟩,
      ⟨(some 94), (.load none (.t 93)), none, []⟩,
      ⟨(some 95), (.bin .neq (.t 94) (.c (.i .i64 (2)))), none, []⟩,
      ⟨(some 96), (.mov (.t 95)), none, []⟩,
      ⟨(some 97), (.off (.t 1) 8), (some (96, true)), []⟩,
      ⟨(some 98), (.off (.t 97) 0), (some (96, true)), []⟩,
      ⟨(some 99), (.load none (.t 98)), (some (96, true)), []⟩,
      ⟨(some 100), (.bin .eql (.t 99) (.c (.i .i64 (0)))), (some (96, true)), []⟩,
      ⟨(some 101), (.pick (.t 96) (.t 100) (.c (.b false))), none, []⟩,
      ⟨(some 102), (.mov (.t 101)), none, []⟩,
      ⟨(some 103), (.off (.t 1) 8), (some (102, true)), []⟩,
      ⟨(some 104), (.off (.t 103) 1), (some (102, true)), []⟩,
      ⟨(some 105), (.load none (.t 104)), (some (102, true)), []⟩,
      ⟨(some 106), (.bin .eql (.t 105) (.c (.i .i64 (0)))), (some (102, true)), []⟩,
      ⟨(some 107), (.pick (.t 102) (.t 106) (.c (.b false))), none, []⟩,
      ⟨(some 108), (.mov (.t 107)), none, []⟩,
      ⟨(some 109), (.off (.t 1) 8), (some (108, true)), []⟩,
      ⟨(some 110), (.off (.t 109) 2), (some (108, true)), []⟩,
      ⟨(some 111), (.load (some 5) (.t 110)), (some (108, true)), []⟩,
      ⟨(some 112), (.call 55 [(.t 111)]), (some (108, true)), []⟩,
      ⟨(some 113), (.pick (.t 108) (.t 112) (.c (.b false))), none, []⟩,
      ⟨(some 8), (.mov (.t 113)), none, []⟩] [])
    (.seq (.seq (.region [⟨(some 114), (.mov (.t 7)), none, []⟩,
      ⟨(some 115), (.un .not (.t 114)), none, []⟩,
      ⟨(some 116), (.mov (.t 115)), none, []⟩,
      ⟨(some 117), (.mov (.t 8)), (some (116, true)), []⟩,
      ⟨(some 118), (.un .not (.t 117)), (some (116, true)), []⟩,
      ⟨(some 119), (.pick (.t 116) (.t 118) (.c (.b false))), none, []⟩,
      ⟨(some 120), (.mov (.t 119)), none, []⟩,
      ⟨(some 121), (.off (.t 1) 5), (some (120, false)), []⟩,
      ⟨(some 122), (.load none (.t 121)), (some (120, false)), []⟩,
      ⟨(some 123), (.off (.t 1) 3), (some (120, false)), []⟩,
      ⟨(some 124), (.load none (.t 123)), (some (120, false)), []⟩,
      ⟨(some 125), (.off (.t 1) 4), (some (120, false)), []⟩,
      ⟨(some 126), (.load none (.t 125)), (some (120, false)), []⟩,
      ⟨(some 127), (.lenk 0 (.t 126)), (some (120, false)), []⟩,
      ⟨(some 128), (.call 56 [(.t 122), (.t 124), (.t 127)]), (some (120, false)), []⟩,
      ⟨(some 129), (.un .not (.t 128)), (some (120, false)), []⟩,
      ⟨(some 130), (.pick (.t 120) (.c (.b true)) (.t 129)), none, []⟩] [])
    (.cond (.t 130)
      (.seq (.region [⟨(some 2), (.mov (.c (.i .i64 (2)))), none, []⟩] [])
      .ret)
      .skip))
    (.seq (.region [⟨(some 2), (.mov (.c (.i .i64 (0)))), none, []⟩] [])
    .ret))))))))),
    131, 1, [.t 2], 0⟩
theorem tr20 : trFunc Tryz.prog [([], []), ([], []), ([], []), ([], []), ([], []), ([], []), ([], []), ([], []), ([], []), ([], []), ([], []), ([], []), ([], []), ([], []), ([], []), ([], []), ([], []), ([], []), ([], []), ([], []), ([], []), ([], []), ([], []), ([], []), ([], []), ([], []), ([], []), ([], []), ([], [])] 0 Tryz.f20 = some I20 := by kernel_rfl

/-- '(*encore/fast.Code).ready'. -/
def L21a : ICode :=
  (.seq (.region [⟨(some 18), (.bin .lss (.t 17) (.t 16)), none, []⟩] [])
    (.seq (.cond (.t 18)
      .skip
      (.exit 0))
    (.seq (.block 1
      (.seq (.region [⟨(some 19), (.iaddr 7 (.t 15) (.t 17)), none, []⟩,
        ⟨(some 20), (.load (some 7) (.t 19)), none, []⟩,
        ⟨(some 9), (.alloc [(.i .i64 (0)), (.i .i64 (0)), (.i .i64 (0)), (.i .i64 (0)), (.s []), .ns, .ns]), none, []⟩,
        ⟨none, (.store 7 (.t 9) (.t 20)), none, []⟩] [])
      (.region [⟨(some 21), (.load none (.t 7)), none, []⟩,
        ⟨(some 22), (.mov (.t 0)), none, []⟩,
        ⟨(some 23), (.load (some 7) (.t 9)), none, []⟩,
        ⟨(some 24), (.call 22 [(.t 22), (.t 23)]), none, [(21, (.load none (.t 7)), none)]⟩,
        ⟨(some 25), (.bsl 1 1 [.nif] [(0, 1, (.t 24))]), none, []⟩,
        ⟨(some 26), (.app 1 16 (.t 21) (.t 25)), none, []⟩,
        ⟨none, (.store 1 (.t 7) (.t 26)), none, []⟩] [])))
    (.region [⟨(some 27), (.bin .add (.t 17) (.c (.i .i64 (1)))), none, []⟩,
      ⟨(some 17), (.mov (.t 27)), none, []⟩] []))))
def I21 : IFunc :=
  ⟨(.seq (.region [⟨(some 4), (.box (.t 1)), none, []⟩,
      ⟨(some 5), (.box (.t 2)), none, []⟩,
      ⟨(some 6), (.mov (.c .nf)), none, []⟩] [])
    (.seq (.region [⟨(some 7), (.alloc [.ns]), none, []⟩] [])
    (.seq (.seq (.region [⟨(some 14), (.off (.t 4) 2), none, []⟩,
      ⟨(some 15), (.load none (.t 14)), none, []⟩,
      ⟨(some 16), (.lenk 0 (.t 15)), none, []⟩,
      ⟨(some 17), (.mov (.c (.i .i64 (0)))), none, []⟩] [])
    (.block 0
      (.loop L21a)))
    (.seq (.seq (.region [⟨(some 28), (.off (.t 4) 0), none, []⟩,
      ⟨(some 29), (.load none (.t 28)), none, []⟩,
      ⟨(some 30), (.bin .geq (.t 29) (.c (.i .i64 (43)))), none, []⟩,
      ⟨(some 31), (.mov (.t 30)), none, []⟩,
      ⟨(some 32), (.off (.t 4) 0), (some (31, true)), []⟩,
      ⟨(some 33), (.load none (.t 32)), (some (31, true)), []⟩,
      ⟨(some 34), (.bin .leq (.t 33) (.c (.i .i64 (49)))), (some (31, true)), []⟩,
      ⟨(some 35), (.pick (.t 31) (.t 34) (.c (.b false))), none, []⟩] [])
    (.cond (.t 35)
      (.seq (.region [⟨(some 36), (.load none (.t 7)), none, []⟩,
        ⟨(some 37), (.iaddr 1 (.t 36) (.c (.i .i64 (0)))), none, []⟩,
        ⟨(some 38), (.load none (.t 37)), none, []⟩,
        ⟨(some 39), (.load none (.t 7)), none, []⟩,
        ⟨(some 40), (.load none (.t 7)), none, []⟩,
        ⟨(some 41), (.lenk 0 (.t 40)), none, []⟩,
        ⟨(some 42), (.bin .sub (.t 41) (.c (.i .i64 (1)))), none, []⟩,
        ⟨(some 43), (.iaddr 1 (.t 39) (.t 42)), none, []⟩,
        ⟨(some 44), (.load none (.t 43)), none, []⟩,
        ⟨(some 45), (.off (.t 4) 0), none, []⟩,
        ⟨(some 46), (.load none (.t 45)), none, []⟩,
        ⟨(some 47), (.off (.t 4) 1), none, []⟩,
        ⟨(some 48), (.load none (.t 47)), none, []⟩,
        ⟨(some 10), (.alloc [.nif]), none, []⟩,
        ⟨(some 11), (.alloc [.nif]), none, []⟩,
        ⟨(some 12), (.alloc [(.i .i64 (0))]), none, []⟩,
        ⟨(some 13), (.alloc [(.i .i64 (0))]), none, []⟩,
        ⟨none, (.store 1 (.t 10) (.t 38)), none, [(39, (.load none (.t 7)), none), (40, (.load none (.t 7)), none), (41, (.lenk 0 (.t 40)), none), (44, (.load none (.t 43)), none), (46, (.load none (.t 45)), none), (48, (.load none (.t 47)), none)]⟩,
        ⟨none, (.store 1 (.t 11) (.t 44)), none, [(46, (.load none (.t 45)), none), (48, (.load none (.t 47)), none)]⟩,
        ⟨none, (.store 1 (.t 12) (.t 46)), none, [(48, (.load none (.t 47)), none)]⟩,
        ⟨none, (.store 1 (.t 13) (.t 48)), none, []⟩] [])
      (.seq (.region [⟨(some 49), (.mkf 57 [] [(.t 12), (.t 13), (.t 10), (.t 11), (.t 5)]), none, []⟩,
        ⟨(some 6), (.mov (.t 49)), none, []⟩] [])
      .ret))
      .skip))
    (.seq (.region [⟨(some 50), (.off (.t 4) 0), none, []⟩,
      ⟨(some 51), (.load none (.t 50)), none, []⟩,
      ⟨(some 52), (.off (.t 4) 1), none, []⟩,
      ⟨(some 53), (.load none (.t 52)), none, []⟩,
      ⟨(some 54), (.off (.t 4) 3), none, []⟩,
      ⟨(some 55), (.load none (.t 54)), none, []⟩,
      ⟨(some 56), (.off (.t 4) 4), none, []⟩,
      ⟨(some 57), (.load none (.t 56)), none, []⟩,
      ⟨(some 58), (.call 45 [(.t 57)]), none, [(51, (.load none (.t 50)), none), (53, (.load none (.t 52)), none), (55, (.load none (.t 54)), none)]⟩,
      ⟨(some 59), (.build [(.i .i64 (0)), (.i .i64 (0)), .ns, (.s []), .ns] [(0, 1, (.t 51)), (1, 1, (.t 53)), (3, 1, (.t 55)), (4, 1, (.t 58))]), none, []⟩,
      ⟨none, (.store 5 (.t 4) (.t 59)), none, []⟩] [])
    (.seq (.region [⟨(some 60), (.mkf 59 [] [(.t 7), (.t 4), (.t 5)]), none, []⟩,
      ⟨(some 6), (.mov (.t 60)), none, []⟩] [])
    .ret)))))),
    61, 3, [.t 6], 0⟩
theorem tr21 : trFunc Tryz.prog [([], []), ([], []), ([], []), ([], []), ([], []), ([], []), ([0, 1, 2, 3, 4, 5, 6], []), ([], []), ([], []), ([0, 1, 2, 3, 4, 5, 6, 7, 8, 9, 10, 11, 12, 13, 14, 15, 16, 17, 18, 19, 20], []), ([], []), ([], []), ([0, 1, 2, 3, 4, 5, 6, 7, 8, 9, 10], []), ([], [])] 0 Tryz.f21 = some I21 := by kernel_rfl

/-- '(*encore/fast.Code).source'. -/
def I22 : IFunc :=
  ⟨(.seq (.region [⟨(some 3), (.box (.t 1)), none, []⟩,
      ⟨(some 4), (.mov (.c .nif)), none, []⟩] [])
    (.seq (.seq (.region [⟨(some 5), (.off (.t 3) 0), none, []⟩,
      ⟨(some 6), (.load none (.t 5)), none, []⟩] [])
    (.block 0
      (.seq (.region [⟨(some 8), (.bin .eql (.t 6) (.c (.i .i64 (1)))), none, []⟩,
        ⟨(some 7), (.mov (.t 8)), none, []⟩] [])
      (.cond (.t 7)
        (.seq (.region [⟨(some 9), (.off (.t 3) 1), none, []⟩,
          ⟨(some 10), (.load none (.t 9)), none, []⟩,
          ⟨(some 11), (.iface 135 (.t 10)), none, []⟩,
          ⟨(some 4), (.mov (.t 11)), none, []⟩] [])
        .ret)
        (.seq (.region [⟨(some 13), (.bin .eql (.t 6) (.c (.i .i64 (2)))), none, []⟩,
          ⟨(some 12), (.mov (.t 13)), none, []⟩] [])
        (.cond (.t 12)
          (.seq (.region [⟨(some 14), (.mov (.t 0)), none, []⟩,
            ⟨(some 15), (.nck (.t 14)), none, []⟩,
            ⟨(some 16), (.off (.t 15) 0), none, []⟩,
            ⟨(some 17), (.off (.t 16) 3), none, []⟩,
            ⟨(some 18), (.load none (.t 17)), none, []⟩,
            ⟨(some 19), (.off (.t 3) 1), none, []⟩,
            ⟨(some 20), (.load none (.t 19)), none, []⟩,
            ⟨(some 21), (.bin .add (.t 18) (.t 20)), none, []⟩,
            ⟨(some 22), (.iface 135 (.t 21)), none, []⟩,
            ⟨(some 4), (.mov (.t 22)), none, []⟩] [])
          .ret)
          .skip))))))
    (.seq (.region [⟨(some 23), (.off (.t 3) 2), none, []⟩,
      ⟨(some 24), (.load (some 5) (.t 23)), none, []⟩,
      ⟨(some 25), (.call 27 [(.t 24)]), none, []⟩,
      ⟨(some 26), (.build [(.i .i64 (0)), (.i .i64 (0)), (.s []), .ns, .ns] [(0, 5, (.t 25))]), none, []⟩,
      ⟨(some 27), (.iface 137 (.t 26)), none, []⟩,
      ⟨(some 4), (.mov (.t 27)), none, []⟩] [])
    .ret))),
    28, 2, [.t 4], 0⟩
theorem tr22 : trFunc Tryz.prog [([], []), ([], []), ([], []), ([], []), ([], []), ([0, 1, 2, 3, 4, 5, 6, 7, 8, 9], []), ([], []), ([], [])] 0 Tryz.f22 = some I22 := by kernel_rfl

/-- '(*encore/fast.Code).Do$1'. -/
def I23 : IFunc :=
  ⟨(.seq (.region [⟨(some 1), (.box (.t 0)), none, []⟩,
      ⟨(some 2), (.mov (.c (.b false))), none, []⟩] [])
    (.seq (.region [⟨(some 3), (.load (some 5) (.t 1)), none, []⟩,
      ⟨(some 4), (.call 24 [(.t 3)]), none, []⟩,
      ⟨(some 5), (.bin .neq (.t 4) (.c (.i .i64 (0)))), none, []⟩,
      ⟨(some 2), (.mov (.t 5)), none, []⟩] [])
    .ret)),
    6, 1, [.t 2], 0⟩
theorem tr23 : trFunc Tryz.prog [([], []), ([], [])] 0 Tryz.f23 = some I23 := by kernel_rfl

/-- 'encore/value.Check'. -/
def I24 : IFunc :=
  ⟨(.seq (.region [⟨(some 1), (.box (.t 0)), none, []⟩,
      ⟨(some 2), (.mov (.c (.i .i64 (0)))), none, []⟩] [])
    (.seq (.seq (.region [⟨(some 6), (.load (some 5) (.t 1)), none, []⟩,
      ⟨(some 7), (.call 61 [(.t 6), (.c (.i .i64 (0))), (.c (.i .i64 (256)))]), none, []⟩,
      ⟨(some 5), (.mov (.t 7)), none, []⟩,
      ⟨(some 8), (.ext (.t 5) 0), none, []⟩,
      ⟨(some 9), (.ext (.t 5) 1), none, []⟩,
      ⟨(some 3), (.mov (.t 8)), none, []⟩,
      ⟨(some 4), (.mov (.t 9)), none, []⟩] [])
    (.seq (.region [⟨(some 10), (.mov (.t 4)), none, []⟩,
      ⟨(some 11), (.un .not (.t 10)), none, []⟩] [])
    (.cond (.t 11)
      (.seq (.region [⟨(some 2), (.mov (.c (.i .i64 (2)))), none, []⟩] [])
      .ret)
      .skip)))
    (.seq (.region [⟨(some 2), (.mov (.c (.i .i64 (0)))), none, []⟩] [])
    .ret))),
    12, 1, [.t 2], 0⟩
theorem tr24 : trFunc Tryz.prog [([], []), ([], []), ([], []), ([], []), ([], []), ([], [])] 0 Tryz.f24 = some I24 := by kernel_rfl

/-- '(*encore/fast.Code).none'. -/
def I25 : IFunc :=
  ⟨(.seq (.region [⟨(some 2), (.mov (.c (.b false))), none, []⟩] [])
    (.seq (.region [⟨(some 3), (.mov (.t 0)), none, []⟩,
      ⟨(some 4), (.eqNil 1 false (.t 3) (.c .np)), none, []⟩,
      ⟨(some 5), (.mov (.t 4)), none, []⟩,
      ⟨(some 6), (.mov (.t 0)), (some (5, false)), []⟩,
      ⟨(some 7), (.nck (.t 6)), (some (5, false)), []⟩,
      ⟨(some 8), (.off (.t 7) 18), (some (5, false)), []⟩,
      ⟨(some 9), (.load none (.t 8)), (some (5, false)), []⟩,
      ⟨(some 10), (.eqNil 4 false (.t 9) (.c .nif)), (some (5, false)), []⟩,
      ⟨(some 11), (.pick (.t 5) (.c (.b true)) (.t 10)), none, []⟩,
      ⟨(some 2), (.mov (.t 11)), none, []⟩] [])
    .ret)),
    12, 1, [.t 2], 0⟩
theorem tr25 : trFunc Tryz.prog [([], []), ([], [])] 0 Tryz.f25 = some I25 := by kernel_rfl

/-- 'slices.ContainsFunc[[]encore/api.Value,encore/api.Value]'. -/
def I26 : IFunc :=
  ⟨(.seq (.region [⟨(some 4), (.mov (.c (.b false))), none, []⟩] [])
    (.seq (.region [⟨(some 5), (.mov (.t 0)), none, []⟩,
      ⟨(some 6), (.mov (.t 1)), none, []⟩,
      ⟨(some 7), (.call 62 [(.t 5), (.t 6)]), none, []⟩,
      ⟨(some 8), (.bin .geq (.t 7) (.c (.i .i64 (0)))), none, []⟩,
      ⟨(some 4), (.mov (.t 8)), none, []⟩] [])
    .ret)),
    9, 2, [.t 4], 0⟩
theorem tr26 : trFunc Tryz.prog [([], []), ([], [])] 0 Tryz.f26 = some I26 := by kernel_rfl

/-- 'encore/fast.own'. -/
def L27a : ICode :=
  (.seq (.region [⟨(some 16), (.bin .lss (.t 15) (.t 14)), none, []⟩] [])
    (.seq (.cond (.t 16)
      .skip
      (.exit 0))
    (.seq (.block 1
      (.seq (.region [⟨(some 17), (.mov (.t 15)), none, []⟩,
        ⟨(some 3), (.mov (.t 17)), none, []⟩] [])
      (.region [⟨(some 18), (.off (.t 1) 3), none, []⟩,
        ⟨(some 19), (.load none (.t 18)), none, []⟩,
        ⟨(some 20), (.mov (.t 3)), none, []⟩,
        ⟨(some 21), (.off (.t 1) 3), none, []⟩,
        ⟨(some 22), (.load none (.t 21)), none, []⟩,
        ⟨(some 23), (.mov (.t 3)), none, []⟩,
        ⟨(some 24), (.iaddr 5 (.t 22) (.t 23)), none, []⟩,
        ⟨(some 25), (.load (some 5) (.t 24)), none, []⟩,
        ⟨(some 26), (.call 27 [(.t 25)]), none, [(19, (.load none (.t 18)), none)]⟩,
        ⟨(some 27), (.iaddr 5 (.t 19) (.t 20)), none, []⟩,
        ⟨none, (.store 5 (.t 27) (.t 26)), none, []⟩] [])))
    (.region [⟨(some 28), (.bin .add (.t 15) (.c (.i .i64 (1)))), none, []⟩,
      ⟨(some 15), (.mov (.t 28)), none, []⟩] []))))
def I27 : IFunc :=
  ⟨(.seq (.region [⟨(some 1), (.box (.t 0)), none, []⟩,
      ⟨(some 2), (.alloc [(.i .i64 (0)), (.i .i64 (0)), (.s []), .ns, .ns]), none, []⟩] [])
    (.seq (.region [⟨(some 4), (.off (.t 1) 4), none, []⟩,
      ⟨(some 5), (.load none (.t 4)), none, []⟩,
      ⟨(some 7), (.off (.t 1) 3), none, []⟩,
      ⟨(some 8), (.load none (.t 7)), none, []⟩,
      ⟨(some 6), (.call 45 [(.t 5)]), none, [(8, (.load none (.t 7)), none)]⟩,
      ⟨(some 10), (.off (.t 1) 4), none, []⟩,
      ⟨(some 9), (.call 63 [(.t 8)]), none, []⟩,
      ⟨none, (.store 1 (.t 10) (.t 6)), none, []⟩,
      ⟨(some 11), (.off (.t 1) 3), none, []⟩,
      ⟨none, (.store 1 (.t 11) (.t 9)), none, []⟩] [])
    (.seq (.seq (.region [⟨(some 12), (.off (.t 1) 3), none, []⟩,
      ⟨(some 13), (.load none (.t 12)), none, []⟩,
      ⟨(some 14), (.lenk 0 (.t 13)), none, []⟩,
      ⟨(some 15), (.mov (.c (.i .i64 (0)))), none, []⟩] [])
    (.block 0
      (.loop L27a)))
    (.seq (.region [⟨(some 29), (.load (some 5) (.t 1)), none, []⟩,
      ⟨none, (.store 5 (.t 2) (.t 29)), none, []⟩] [])
    .ret)))),
    30, 1, [.c 2 (some 5)], 0⟩
theorem tr27 : trFunc Tryz.prog [([], []), ([0, 1, 3, 4, 2, 6, 5, 7, 8, 9], []), ([], []), ([], []), ([], []), ([], []), ([0, 1, 2, 3, 4, 5, 6, 7, 8, 9, 10], []), ([], []), ([], [])] 0 Tryz.f27 = some I27 := by kernel_rfl

/-- 'encore/encoreref20.Same'. -/
def L28a : ICode :=
  (.seq (.seq (.region [⟨(some 62), (.mov (.t 5)), none, []⟩,
      ⟨(some 63), (.off (.t 2) 4), none, []⟩,
      ⟨(some 64), (.load none (.t 63)), none, []⟩,
      ⟨(some 65), (.lenk 0 (.t 64)), none, []⟩,
      ⟨(some 66), (.bin .lss (.t 62) (.t 65)), none, []⟩] [])
    (.cond (.t 66)
      .skip
      (.exit 0)))
    (.seq (.block 1
      (.seq (.region [⟨(some 69), (.off (.t 2) 4), none, []⟩,
        ⟨(some 70), (.load none (.t 69)), none, []⟩,
        ⟨(some 71), (.mov (.t 5)), none, []⟩,
        ⟨(some 72), (.iaddr 5 (.t 70) (.t 71)), none, []⟩,
        ⟨(some 73), (.load (some 5) (.t 72)), none, []⟩,
        ⟨(some 74), (.off (.t 3) 4), none, []⟩,
        ⟨(some 75), (.load none (.t 74)), none, []⟩,
        ⟨(some 76), (.mov (.t 5)), none, []⟩,
        ⟨(some 77), (.iaddr 5 (.t 75) (.t 76)), none, []⟩,
        ⟨(some 78), (.load (some 5) (.t 77)), none, []⟩,
        ⟨(some 79), (.call 64 [(.t 73), (.t 78)]), none, []⟩,
        ⟨(some 80), (.un .not (.t 79)), none, []⟩] [])
      (.cond (.t 80)
        (.seq (.region [⟨(some 4), (.mov (.c (.b false))), none, []⟩] [])
        .ret)
        .skip)))
    (.region [⟨(some 67), (.mov (.t 5)), none, []⟩,
      ⟨(some 68), (.bin .add (.t 67) (.c (.i .i64 (1)))), none, []⟩,
      ⟨(some 5), (.mov (.t 68)), none, []⟩] [])))
def I28 : IFunc :=
  ⟨(.seq (.region [⟨(some 2), (.box (.t 0)), none, []⟩,
      ⟨(some 3), (.box (.t 1)), none, []⟩,
      ⟨(some 4), (.mov (.c (.b false))), none, []⟩] [])
    (.seq (.seq (.region [⟨(some 6), (.off (.t 2) 0), none, []⟩,
      ⟨(some 7), (.load none (.t 6)), none, []⟩,
      ⟨(some 8), (.off (.t 3) 0), none, []⟩,
      ⟨(some 9), (.load none (.t 8)), none, []⟩,
      ⟨(some 10), (.bin .neq (.t 7) (.t 9)), none, []⟩,
      ⟨(some 11), (.mov (.t 10)), none, []⟩,
      ⟨(some 12), (.off (.t 2) 1), (some (11, false)), []⟩,
      ⟨(some 13), (.load none (.t 12)), (some (11, false)), []⟩,
      ⟨(some 14), (.off (.t 3) 1), (some (11, false)), []⟩,
      ⟨(some 15), (.load none (.t 14)), (some (11, false)), []⟩,
      ⟨(some 16), (.bin .neq (.t 13) (.t 15)), (some (11, false)), []⟩,
      ⟨(some 17), (.pick (.t 11) (.c (.b true)) (.t 16)), none, []⟩,
      ⟨(some 18), (.mov (.t 17)), none, []⟩,
      ⟨(some 19), (.off (.t 2) 2), (some (18, false)), []⟩,
      ⟨(some 20), (.load none (.t 19)), (some (18, false)), []⟩,
      ⟨(some 21), (.off (.t 3) 2), (some (18, false)), []⟩,
      ⟨(some 22), (.load none (.t 21)), (some (18, false)), []⟩,
      ⟨(some 23), (.bin .neq (.t 20) (.t 22)), (some (18, false)), []⟩,
      ⟨(some 24), (.pick (.t 18) (.c (.b true)) (.t 23)), none, []⟩,
      ⟨(some 25), (.mov (.t 24)), none, []⟩,
      ⟨(some 26), (.off (.t 2) 3), (some (25, false)), []⟩,
      ⟨(some 27), (.load none (.t 26)), (some (25, false)), []⟩,
      ⟨(some 28), (.off (.t 3) 3), (some (25, false)), []⟩,
      ⟨(some 29), (.load none (.t 28)), (some (25, false)), []⟩,
      ⟨(some 30), (.bin .neq (.t 27) (.t 29)), (some (25, false)), []⟩,
      ⟨(some 31), (.pick (.t 25) (.c (.b true)) (.t 30)), none, []⟩,
      ⟨(some 32), (.mov (.t 31)), none, []⟩,
      ⟨(some 33), (.off (.t 2) 6), (some (32, false)), []⟩,
      ⟨(some 34), (.load none (.t 33)), (some (32, false)), []⟩,
      ⟨(some 35), (.off (.t 3) 6), (some (32, false)), []⟩,
      ⟨(some 36), (.load none (.t 35)), (some (32, false)), []⟩,
      ⟨(some 37), (.bin .neq (.t 34) (.t 36)), (some (32, false)), []⟩,
      ⟨(some 38), (.pick (.t 32) (.c (.b true)) (.t 37)), none, []⟩,
      ⟨(some 39), (.mov (.t 38)), none, []⟩,
      ⟨(some 40), (.off (.t 2) 7), (some (39, false)), []⟩,
      ⟨(some 41), (.load none (.t 40)), (some (39, false)), []⟩,
      ⟨(some 42), (.off (.t 3) 7), (some (39, false)), []⟩,
      ⟨(some 43), (.load none (.t 42)), (some (39, false)), []⟩,
      ⟨(some 44), (.bin .neq (.t 41) (.t 43)), (some (39, false)), []⟩,
      ⟨(some 45), (.pick (.t 39) (.c (.b true)) (.t 44)), none, []⟩,
      ⟨(some 46), (.mov (.t 45)), none, []⟩,
      ⟨(some 47), (.off (.t 2) 15), (some (46, false)), []⟩,
      ⟨(some 48), (.load none (.t 47)), (some (46, false)), []⟩,
      ⟨(some 49), (.off (.t 3) 15), (some (46, false)), []⟩,
      ⟨(some 50), (.load none (.t 49)), (some (46, false)), []⟩,
      ⟨(some 51), (.bin .neq (.t 48) (.t 50)), (some (46, false)), []⟩,
      ⟨(some 52), (.pick (.t 46) (.c (.b true)) (.t 51)), none, []⟩,
      ⟨(some 53), (.mov (.t 52)), none, []⟩,
      ⟨(some 54), (.off (.t 2) 4), (some (53, false)), []⟩,
      ⟨(some 55), (.load none (.t 54)), (some (53, false)), []⟩,
      ⟨(some 56), (.lenk 0 (.t 55)), (some (53, false)), []⟩,
      ⟨(some 57), (.off (.t 3) 4), (some (53, false)), []⟩,
      ⟨(some 58), (.load none (.t 57)), (some (53, false)), []⟩,
      ⟨(some 59), (.lenk 0 (.t 58)), (some (53, false)), []⟩,
      ⟨(some 60), (.bin .neq (.t 56) (.t 59)), (some (53, false)), []⟩,
      ⟨(some 61), (.pick (.t 53) (.c (.b true)) (.t 60)), none, []⟩] [])
    (.cond (.t 61)
      (.seq (.region [⟨(some 4), (.mov (.c (.b false))), none, []⟩] [])
      .ret)
      .skip))
    (.seq (.seq (.region [⟨(some 5), (.mov (.c (.i .i64 (0)))), none, []⟩] [])
    (.block 0
      (.loop L28a)))
    (.seq (.region [⟨(some 81), (.off (.t 2) 5), none, []⟩,
      ⟨(some 82), (.load none (.t 81)), none, []⟩,
      ⟨(some 83), (.off (.t 3) 5), none, []⟩,
      ⟨(some 84), (.load none (.t 83)), none, []⟩,
      ⟨(some 85), (.call 65 [(.t 82), (.t 84)]), none, []⟩,
      ⟨(some 86), (.mov (.t 85)), none, []⟩,
      ⟨(some 87), (.off (.t 2) 8), (some (86, true)), []⟩,
      ⟨(some 88), (.load (some 7) (.t 87)), (some (86, true)), []⟩,
      ⟨(some 89), (.off (.t 3) 8), (some (86, true)), []⟩,
      ⟨(some 90), (.load (some 7) (.t 89)), (some (86, true)), []⟩,
      ⟨(some 91), (.call 66 [(.t 88), (.t 90)]), (some (86, true)), []⟩,
      ⟨(some 92), (.pick (.t 86) (.t 91) (.c (.b false))), none, []⟩,
      ⟨(some 4), (.mov (.t 92)), none, []⟩] [])
    .ret)))),
    93, 2, [.t 4], 0⟩
theorem tr28 : trFunc Tryz.prog [([], []), ([], []), ([], []), ([], []), ([], []), ([], []), ([], []), ([0, 1, 2, 3, 4, 5, 6, 7, 8, 9, 10, 11], []), ([], []), ([], []), ([], []), ([], [])] 0 Tryz.f28 = some I28 := by kernel_rfl

/-- 'encore/encorelaw25.told'. -/
def L29a : ICode :=
  (.seq (.seq (.region [⟨(some 20), (.mov (.t 4)), none, []⟩,
      ⟨(some 21), (.off (.t 1) 4), none, []⟩,
      ⟨(some 22), (.load none (.t 21)), none, []⟩,
      ⟨(some 23), (.lenk 0 (.t 22)), none, []⟩,
      ⟨(some 24), (.bin .lss (.t 20) (.t 23)), none, []⟩] [])
    (.cond (.t 24)
      .skip
      (.exit 0)))
    (.seq (.block 1
      (.region [⟨(some 27), (.off (.t 3) 4), none, []⟩,
        ⟨(some 28), (.load none (.t 27)), none, []⟩,
        ⟨(some 29), (.off (.t 1) 4), none, []⟩,
        ⟨(some 30), (.load none (.t 29)), none, []⟩,
        ⟨(some 31), (.mov (.t 4)), none, []⟩,
        ⟨(some 32), (.iaddr 5 (.t 30) (.t 31)), none, []⟩,
        ⟨(some 33), (.off (.t 32) 0), none, []⟩,
        ⟨(some 34), (.load none (.t 33)), none, []⟩,
        ⟨(some 35), (.off (.t 1) 4), none, []⟩,
        ⟨(some 36), (.load none (.t 35)), none, []⟩,
        ⟨(some 37), (.mov (.t 4)), none, []⟩,
        ⟨(some 38), (.iaddr 5 (.t 36) (.t 37)), none, []⟩,
        ⟨(some 39), (.off (.t 38) 1), none, []⟩,
        ⟨(some 40), (.load none (.t 39)), none, []⟩,
        ⟨(some 41), (.off (.t 1) 4), none, []⟩,
        ⟨(some 42), (.load none (.t 41)), none, []⟩,
        ⟨(some 43), (.mov (.t 4)), none, []⟩,
        ⟨(some 44), (.iaddr 5 (.t 42) (.t 43)), none, []⟩,
        ⟨(some 45), (.off (.t 44) 2), none, []⟩,
        ⟨(some 46), (.load none (.t 45)), none, []⟩,
        ⟨(some 48), (.off (.t 1) 4), none, []⟩,
        ⟨(some 49), (.load none (.t 48)), none, []⟩,
        ⟨(some 50), (.mov (.t 4)), none, []⟩,
        ⟨(some 51), (.iaddr 5 (.t 49) (.t 50)), none, []⟩,
        ⟨(some 52), (.off (.t 51) 3), none, []⟩,
        ⟨(some 53), (.load none (.t 52)), none, []⟩,
        ⟨(some 54), (.off (.t 1) 4), none, []⟩,
        ⟨(some 55), (.load none (.t 54)), none, []⟩,
        ⟨(some 56), (.mov (.t 4)), none, []⟩,
        ⟨(some 57), (.iaddr 5 (.t 55) (.t 56)), none, []⟩,
        ⟨(some 58), (.off (.t 57) 4), none, []⟩,
        ⟨(some 59), (.load none (.t 58)), none, []⟩,
        ⟨(some 47), (.call 67 [(.t 46)]), none, [(28, (.load none (.t 27)), none), (30, (.load none (.t 29)), none), (34, (.load none (.t 33)), none), (36, (.load none (.t 35)), none), (40, (.load none (.t 39)), none), (49, (.load none (.t 48)), none), (53, (.load none (.t 52)), none), (55, (.load none (.t 54)), none), (59, (.load none (.t 58)), none)]⟩,
        ⟨(some 60), (.build [(.i .i64 (0)), (.i .i64 (0)), .ns, (.s []), .ns] [(0, 1, (.t 34)), (1, 1, (.t 40)), (2, 1, (.t 47)), (3, 1, (.t 53)), (4, 1, (.t 59))]), none, []⟩,
        ⟨(some 61), (.bsl 5 1 [(.i .i64 (0)), (.i .i64 (0)), .ns, (.s []), .ns] [(0, 5, (.t 60))]), none, []⟩,
        ⟨(some 62), (.app 5 80 (.t 28) (.t 61)), none, []⟩,
        ⟨(some 63), (.off (.t 3) 4), none, []⟩,
        ⟨none, (.store 1 (.t 63) (.t 62)), none, []⟩] []))
    (.region [⟨(some 25), (.mov (.t 4)), none, []⟩,
      ⟨(some 26), (.bin .add (.t 25) (.c (.i .i64 (1)))), none, []⟩,
      ⟨(some 4), (.mov (.t 26)), none, []⟩] [])))
def I29 : IFunc :=
  ⟨(.seq (.region [⟨(some 1), (.box (.t 0)), none, []⟩,
      ⟨(some 2), (.alloc [(.i .i64 (0)), (.i .i64 (0)), (.i .i64 (0)), (.i .i64 (0)), .ns, .ns, (.i .i64 (0)), (.i .i64 (0)), (.i .i64 (0)), (.i .i64 (0)), (.i .i64 (0)), (.i .i64 (0)), (.s []), .ns, .ns, (.i .i64 (0))]), none, []⟩] [])
    (.seq (.region [⟨(some 5), (.off (.t 1) 0), none, []⟩,
      ⟨(some 6), (.load none (.t 5)), none, []⟩,
      ⟨(some 7), (.off (.t 1) 1), none, []⟩,
      ⟨(some 8), (.load none (.t 7)), none, []⟩,
      ⟨(some 9), (.off (.t 1) 2), none, []⟩,
      ⟨(some 10), (.load none (.t 9)), none, []⟩,
      ⟨(some 11), (.off (.t 1) 3), none, []⟩,
      ⟨(some 12), (.load none (.t 11)), none, []⟩,
      ⟨(some 13), (.off (.t 1) 6), none, []⟩,
      ⟨(some 14), (.load none (.t 13)), none, []⟩,
      ⟨(some 15), (.off (.t 1) 7), none, []⟩,
      ⟨(some 16), (.load none (.t 15)), none, []⟩,
      ⟨(some 17), (.off (.t 1) 15), none, []⟩,
      ⟨(some 18), (.load none (.t 17)), none, []⟩,
      ⟨(some 19), (.build [(.i .i64 (0)), (.i .i64 (0)), (.i .i64 (0)), (.i .i64 (0)), .ns, .ns, (.i .i64 (0)), (.i .i64 (0)), (.i .i64 (0)), (.i .i64 (0)), (.i .i64 (0)), (.i .i64 (0)), (.s []), .ns, .ns, (.i .i64 (0))] [(0, 1, (.t 6)), (1, 1, (.t 8)), (2, 1, (.t 10)), (3, 1, (.t 12)), (6, 1, (.t 14)), (7, 1, (.t 16)), (15, 1, (.t 18))]), none, []⟩,
      ⟨(some 3), (.alloc [(.i .i64 (0)), (.i .i64 (0)), (.i .i64 (0)), (.i .i64 (0)), .ns, .ns, (.i .i64 (0)), (.i .i64 (0)), (.i .i64 (0)), (.i .i64 (0)), (.i .i64 (0)), (.i .i64 (0)), (.s []), .ns, .ns, (.i .i64 (0))]), none, []⟩,
      ⟨none, (.store 16 (.t 3) (.t 19)), none, []⟩] [])
    (.seq (.seq (.region [⟨(some 4), (.mov (.c (.i .i64 (0)))), none, []⟩] [])
    (.block 0
      (.loop L29a)))
    (.seq (.region [⟨(some 64), (.off (.t 1) 5), none, []⟩,
      ⟨(some 65), (.load none (.t 64)), none, []⟩,
      ⟨(some 66), (.call 67 [(.t 65)]), none, []⟩,
      ⟨(some 67), (.off (.t 3) 5), none, []⟩,
      ⟨none, (.store 1 (.t 67) (.t 66)), none, []⟩] [])
    (.seq (.region [⟨(some 68), (.off (.t 1) 8), none, []⟩,
      ⟨(some 69), (.off (.t 68) 0), none, []⟩,
      ⟨(some 70), (.load none (.t 69)), none, []⟩,
      ⟨(some 71), (.off (.t 1) 8), none, []⟩,
      ⟨(some 72), (.off (.t 71) 1), none, []⟩,
      ⟨(some 73), (.load none (.t 72)), none, []⟩,
      ⟨(some 74), (.off (.t 1) 8), none, []⟩,
      ⟨(some 75), (.off (.t 74) 2), none, []⟩,
      ⟨(some 76), (.load (some 5) (.t 75)), none, []⟩,
      ⟨(some 77), (.build [(.i .i64 (0)), (.i .i64 (0)), (.i .i64 (0)), (.i .i64 (0)), (.s []), .ns, .ns] [(0, 1, (.t 70)), (1, 1, (.t 73)), (2, 5, (.t 76))]), none, []⟩,
      ⟨(some 78), (.off (.t 3) 8), none, []⟩,
      ⟨none, (.store 7 (.t 78) (.t 77)), none, []⟩] [])
    (.seq (.region [⟨(some 79), (.load (some 16) (.t 3)), none, []⟩,
      ⟨none, (.store 16 (.t 2) (.t 79)), none, []⟩] [])
    .ret)))))),
    80, 1, [.c 2 (some 16)], 0⟩
theorem tr29 : trFunc Tryz.prog [([], []), ([], []), ([], []), ([], []), ([], []), ([0, 1, 2, 3, 4, 5, 6, 7, 8, 9, 10, 11, 12, 13, 14, 15, 16, 17, 18, 19, 21, 22, 23, 24, 25, 26, 27, 28, 29, 30, 31, 32, 20, 33, 34, 35, 36, 37], []), ([], []), ([], []), ([], []), ([], [])] 0 Tryz.f29 = some I29 := by kernel_rfl

/-- 'encore/encoreref07.SameAll'. -/
def L30a : ICode :=
  (.seq (.seq (.region [⟨(some 11), (.mov (.t 5)), none, []⟩,
      ⟨(some 12), (.mov (.t 0)), none, []⟩,
      ⟨(some 13), (.lenk 0 (.t 12)), none, []⟩,
      ⟨(some 14), (.bin .lss (.t 11) (.t 13)), none, []⟩] [])
    (.cond (.t 14)
      .skip
      (.exit 0)))
    (.seq (.block 1
      (.seq (.region [⟨(some 17), (.mov (.t 0)), none, []⟩,
        ⟨(some 18), (.mov (.t 5)), none, []⟩,
        ⟨(some 19), (.iaddr 5 (.t 17) (.t 18)), none, []⟩,
        ⟨(some 20), (.load (some 5) (.t 19)), none, []⟩,
        ⟨(some 21), (.mov (.t 1)), none, []⟩,
        ⟨(some 22), (.mov (.t 5)), none, []⟩,
        ⟨(some 23), (.iaddr 5 (.t 21) (.t 22)), none, []⟩,
        ⟨(some 24), (.load (some 5) (.t 23)), none, []⟩,
        ⟨(some 25), (.call 31 [(.t 20), (.t 24)]), none, []⟩,
        ⟨(some 26), (.un .not (.t 25)), none, []⟩] [])
      (.cond (.t 26)
        (.seq (.region [⟨(some 4), (.mov (.c (.b false))), none, []⟩] [])
        .ret)
        .skip)))
    (.region [⟨(some 15), (.mov (.t 5)), none, []⟩,
      ⟨(some 16), (.bin .add (.t 15) (.c (.i .i64 (1)))), none, []⟩,
      ⟨(some 5), (.mov (.t 16)), none, []⟩] [])))
def I30 : IFunc :=
  ⟨(.seq (.region [⟨(some 4), (.mov (.c (.b false))), none, []⟩] [])
    (.seq (.seq (.region [⟨(some 6), (.mov (.t 0)), none, []⟩,
      ⟨(some 7), (.lenk 0 (.t 6)), none, []⟩,
      ⟨(some 8), (.mov (.t 1)), none, []⟩,
      ⟨(some 9), (.lenk 0 (.t 8)), none, []⟩,
      ⟨(some 10), (.bin .neq (.t 7) (.t 9)), none, []⟩] [])
    (.cond (.t 10)
      (.seq (.region [⟨(some 4), (.mov (.c (.b false))), none, []⟩] [])
      .ret)
      .skip))
    (.seq (.seq (.region [⟨(some 5), (.mov (.c (.i .i64 (0)))), none, []⟩] [])
    (.block 0
      (.loop L30a)))
    (.seq (.region [⟨(some 4), (.mov (.c (.b true))), none, []⟩] [])
    .ret)))),
    27, 2, [.t 4], 0⟩
theorem tr30 : trFunc Tryz.prog [([], []), ([], []), ([], []), ([], []), ([], []), ([], []), ([], []), ([0, 1, 2, 3, 4, 5, 6, 7, 8, 9], []), ([], []), ([], []), ([], []), ([], [])] 0 Tryz.f30 = some I30 := by kernel_rfl

/-- 'encore/encoreref07.Same'. -/
def I31 : IFunc :=
  ⟨(.seq (.region [⟨(some 2), (.box (.t 0)), none, []⟩,
      ⟨(some 3), (.box (.t 1)), none, []⟩,
      ⟨(some 4), (.mov (.c (.b false))), none, []⟩] [])
    (.seq (.region [⟨(some 5), (.load (some 5) (.t 2)), none, []⟩,
      ⟨(some 6), (.load (some 5) (.t 3)), none, []⟩,
      ⟨(some 7), (.call 68 [(.t 5), (.t 6)]), none, []⟩,
      ⟨(some 8), (.bin .eql (.t 7) (.c (.i .i64 (0)))), none, []⟩,
      ⟨(some 4), (.mov (.t 8)), none, []⟩] [])
    .ret)),
    9, 2, [.t 4], 0⟩
theorem tr31 : trFunc Tryz.prog [([], []), ([], [])] 0 Tryz.f31 = some I31 := by kernel_rfl

-- 32 encore/cuts.Of LACKING
/-- 'encore/verify.Func'. -/
def I33 : IFunc :=
  ⟨(.seq (.region [⟨(some 2), (.box (.t 0)), none, []⟩,
      ⟨(some 4), (.mov (.c .ns)), none, []⟩,
      ⟨(some 5), (.mov (.c (.i .i64 (0)))), none, []⟩] [])
    (.seq (.seq (.region [⟨(some 7), (.load (some 2) (.t 2)), none, []⟩,
      ⟨(some 8), (.call 71 [(.t 7)]), none, []⟩,
      ⟨(some 6), (.mov (.t 8)), none, []⟩] [])
    (.seq (.region [⟨(some 9), (.mov (.t 6)), none, []⟩,
      ⟨(some 10), (.bin .neq (.t 9) (.c (.i .i64 (0)))), none, []⟩] [])
    (.cond (.t 10)
      (.seq (.region [⟨(some 11), (.mov (.t 6)), none, []⟩,
        ⟨(some 4), (.mov (.c .ns)), none, []⟩,
        ⟨(some 5), (.mov (.t 11)), none, []⟩] [])
      .ret)
      .skip)))
    (.seq (.seq (.region [⟨(some 12), (.mov (.t 1)), none, []⟩,
      ⟨(some 13), (.bin .lss (.t 12) (.c (.i .i64 (0)))), none, []⟩,
      ⟨(some 14), (.mov (.t 13)), none, []⟩,
      ⟨(some 15), (.mov (.t 1)), (some (14, false)), []⟩,
      ⟨(some 16), (.off (.t 2) 0), (some (14, false)), []⟩,
      ⟨(some 17), (.load none (.t 16)), (some (14, false)), []⟩,
      ⟨(some 18), (.lenk 0 (.t 17)), (some (14, false)), []⟩,
      ⟨(some 19), (.bin .geq (.t 15) (.t 18)), (some (14, false)), []⟩,
      ⟨(some 20), (.pick (.t 14) (.c (.b true)) (.t 19)), none, []⟩] [])
    (.cond (.t 20)
      (.seq (.region [⟨(some 4), (.mov (.c .ns)), none, []⟩,
        ⟨(some 5), (.mov (.c (.i .i64 (9)))), none, []⟩] [])
      .ret)
      .skip))
    (.seq (.region [⟨(some 21), (.load (some 2) (.t 2)), none, []⟩,
      ⟨(some 22), (.off (.t 2) 0), none, []⟩,
      ⟨(some 23), (.load none (.t 22)), none, []⟩,
      ⟨(some 24), (.mov (.t 1)), none, []⟩,
      ⟨(some 25), (.iaddr 4 (.t 23) (.t 24)), none, []⟩,
      ⟨(some 26), (.load (some 4) (.t 25)), none, []⟩,
      ⟨(some 27), (.call 72 [(.t 21), (.t 26)]), none, []⟩,
      ⟨(some 28), (.ext (.t 27) 0), none, []⟩,
      ⟨(some 29), (.ext (.t 27) 1), none, []⟩,
      ⟨(some 4), (.mov (.t 28)), none, []⟩,
      ⟨(some 5), (.mov (.t 29)), none, []⟩] [])
    .ret)))),
    30, 2, [.t 4, .t 5], 0⟩
theorem tr33 : trFunc Tryz.prog [([], []), ([], []), ([], []), ([], []), ([], []), ([], []), ([], []), ([], []), ([0, 1, 2, 3, 4, 5, 6, 7, 8, 9, 10], [])] 0 Tryz.f33 = some I33 := by kernel_rfl

/-- 'encore/cuts.At'. -/
def I34 : IFunc :=
  ⟨(.seq (.region [⟨(some 3), (.box (.t 1)), none, []⟩,
      ⟨(some 4), (.alloc [(.i .i64 (0)), (.i .i64 (0)), (.i .i64 (0)), (.i .i64 (0))]), none, []⟩,
      ⟨(some 5), (.mov (.c (.b false))), none, []⟩] [])
    (.seq (.region [⟨(some 7), (.mov (.t 0)), none, []⟩,
      ⟨(some 8), (.mkf 74 [] [(.t 3)]), none, []⟩,
      ⟨(some 9), (.call 73 [(.t 7), (.t 8)]), none, []⟩,
      ⟨(some 6), (.mov (.t 9)), none, []⟩] [])
    (.seq (.seq (.region [⟨(some 10), (.mov (.t 6)), none, []⟩,
      ⟨(some 11), (.bin .lss (.t 10) (.c (.i .i64 (0)))), none, []⟩] [])
    (.cond (.t 11)
      (.seq (.region [⟨(some 12), (.build [(.i .i64 (0)), (.i .i64 (0)), (.i .i64 (0)), (.i .i64 (0))] []), none, []⟩,
        ⟨none, (.store 4 (.t 4) (.t 12)), none, []⟩,
        ⟨(some 5), (.mov (.c (.b false))), none, []⟩] [])
      .ret)
      .skip))
    (.seq (.region [⟨(some 13), (.mov (.t 0)), none, []⟩,
      ⟨(some 14), (.mov (.t 6)), none, []⟩,
      ⟨(some 15), (.iaddr 4 (.t 13) (.t 14)), none, []⟩,
      ⟨(some 16), (.load (some 4) (.t 15)), none, []⟩,
      ⟨none, (.store 4 (.t 4) (.t 16)), none, []⟩,
      ⟨(some 5), (.mov (.c (.b true))), none, []⟩] [])
    .ret)))),
    17, 2, [.c 4 (some 4), .t 5], 0⟩
theorem tr34 : trFunc Tryz.prog [([], []), ([], []), ([], []), ([], []), ([], []), ([], [])] 0 Tryz.f34 = some I34 := by kernel_rfl

/-- '(*encore/lift.maker).on'. -/
def I35 : IFunc :=
  ⟨(.region [⟨(some 4), (.mov (.t 0)), none, []⟩,
      ⟨(some 5), (.mov (.t 0)), none, []⟩,
      ⟨(some 6), (.nck (.t 5)), none, []⟩,
      ⟨(some 7), (.off (.t 6) 19), none, []⟩,
      ⟨(some 8), (.load none (.t 7)), none, []⟩,
      ⟨(some 9), (.mov (.t 1)), none, []⟩,
      ⟨(some 10), (.app 7 96 (.t 8) (.t 9)), none, []⟩,
      ⟨(some 11), (.nck (.t 4)), none, []⟩,
      ⟨(some 12), (.off (.t 11) 19), none, []⟩,
      ⟨none, (.store 1 (.t 12) (.t 10)), none, []⟩] []),
    13, 2, [], 0⟩
theorem tr35 : trFunc Tryz.prog [([], [])] 0 Tryz.f35 = some I35 := by kernel_rfl

/-- 'slices.Clone[[]encore/lift.Operand,encore/lift.Operand]'. -/
def I36 : IFunc :=
  ⟨(.seq (.region [⟨(some 2), (.mov (.c .ns)), none, []⟩] [])
    (.seq (.seq (.region [⟨(some 3), (.mov (.t 0)), none, []⟩,
      ⟨(some 4), (.eqNil 0 false (.t 3) (.c .ns)), none, []⟩] [])
    (.cond (.t 4)
      (.seq (.region [⟨(some 2), (.mov (.c .ns)), none, []⟩] [])
      .ret)
      .skip))
    (.seq (.region [⟨(some 5), (.bsl 7 0 [] []), none, []⟩,
      ⟨(some 6), (.mov (.t 0)), none, []⟩,
      ⟨(some 7), (.app 7 96 (.t 5) (.t 6)), none, []⟩,
      ⟨(some 2), (.mov (.t 7)), none, []⟩] [])
    .ret))),
    8, 1, [.t 2], 0⟩
theorem tr36 : trFunc Tryz.prog [([], []), ([], []), ([], []), ([], []), ([], [])] 0 Tryz.f36 = some I36 := by kernel_rfl

/-- '(*encore/lift.maker).block'. -/
def I37 : IFunc :=
  ⟨(.seq (.region [⟨(some 5), (.box (.t 2)), none, []⟩] [])
    (.seq (.region [⟨(some 6), (.mov (.t 0)), none, []⟩,
      ⟨(some 7), (.mov (.t 1)), none, []⟩,
      ⟨(some 8), (.off (.t 5) 0), none, []⟩,
      ⟨(some 9), (.load none (.t 8)), none, []⟩,
      ⟨(some 10), (.off (.t 5) 0), none, []⟩,
      ⟨(some 11), (.load none (.t 10)), none, []⟩,
      ⟨(some 12), (.off (.t 5) 1), none, []⟩,
      ⟨(some 13), (.load none (.t 12)), none, []⟩,
      ⟨(some 14), (.bin .add (.t 11) (.t 13)), none, []⟩,
      ⟨(some 15), (.sl 3 (.t 7) (some (.t 9)) (some (.t 14)) none), none, []⟩,
      ⟨(some 16), (.call 75 [(.t 6), (.t 15)]), none, []⟩] [])
    (.seq (.region [⟨(some 17), (.mov (.t 0)), none, []⟩,
      ⟨(some 18), (.nck (.t 17)), none, []⟩,
      ⟨(some 19), (.off (.t 18) 2), none, []⟩,
      ⟨(some 20), (.off (.t 19) 2), none, []⟩,
      ⟨(some 21), (.load none (.t 20)), none, []⟩,
      ⟨(some 22), (.off (.t 5) 1), none, []⟩,
      ⟨(some 23), (.load none (.t 22)), none, []⟩,
      ⟨(some 24), (.bin .add (.t 21) (.t 23)), none, []⟩,
      ⟨(some 25), (.nck (.t 17)), none, []⟩,
      ⟨(some 26), (.off (.t 25) 2), none, []⟩,
      ⟨(some 27), (.off (.t 26) 2), none, []⟩,
      ⟨none, (.store 1 (.t 27) (.t 24)), none, []⟩] [])
    (.seq (.region [⟨(some 28), (.mov (.t 0)), none, []⟩,
      ⟨(some 29), (.mov (.t 0)), none, []⟩,
      ⟨(some 30), (.off (.t 5) 2), none, []⟩,
      ⟨(some 31), (.load none (.t 30)), none, []⟩,
      ⟨(some 32), (.off (.t 5) 3), none, []⟩,
      ⟨(some 33), (.load none (.t 32)), none, []⟩,
      ⟨(some 34), (.nck (.t 28)), none, []⟩,
      ⟨(some 35), (.off (.t 34) 2), none, []⟩,
      ⟨(some 36), (.off (.t 35) 6), none, []⟩,
      ⟨none, (.store 1 (.t 36) (.t 31)), none, [(33, (.load none (.t 32)), none)]⟩,
      ⟨(some 37), (.nck (.t 29)), none, []⟩,
      ⟨(some 38), (.off (.t 37) 2), none, []⟩,
      ⟨(some 39), (.off (.t 38) 7), none, []⟩,
      ⟨none, (.store 1 (.t 39) (.t 33)), none, []⟩] [])
    (.seq (.region [⟨(some 40), (.off (.t 5) 2), none, []⟩,
      ⟨(some 41), (.load none (.t 40)), none, []⟩,
      ⟨(some 42), (.bin .eql (.t 41) (.c (.i .i64 (2)))), none, []⟩] [])
    (.cond (.t 42)
      (.region [⟨(some 43), (.mov (.t 0)), none, []⟩,
        ⟨(some 44), (.mov (.t 0)), none, []⟩,
        ⟨(some 45), (.call 76 [(.t 44), (.c (.i .i64 (1)))]), none, []⟩,
        ⟨(some 46), (.iaddr 7 (.t 45) (.c (.i .i64 (0)))), none, []⟩,
        ⟨(some 47), (.load (some 7) (.t 46)), none, []⟩,
        ⟨(some 48), (.nck (.t 43)), none, []⟩,
        ⟨(some 49), (.off (.t 48) 2), none, []⟩,
        ⟨(some 50), (.off (.t 49) 8), none, []⟩,
        ⟨none, (.store 7 (.t 50) (.t 47)), none, []⟩] [])
      .skip)))))),
    51, 3, [], 0⟩
theorem tr37 : trFunc Tryz.prog [([], []), ([], []), ([0, 1, 2, 3, 4, 5, 6, 7, 8, 9, 10, 11], []), ([0, 1, 2, 3, 4, 5, 6, 7, 8, 9, 10, 11, 12, 13], []), ([], []), ([], []), ([], [])] 0 Tryz.f37 = some I37 := by kernel_rfl

/-- '(*encore/lift.maker).calls'. -/
def I38 : IFunc :=
  ⟨(.seq (.region [⟨(some 4), (.alloc [(.s []), (.i .i64 (0)), (.i .i64 (0)), .ns]), none, []⟩,
      ⟨(some 5), (.mov (.c (.b false))), none, []⟩] [])
    (.seq (.seq (.region [⟨(some 6), (.mov (.t 0)), none, []⟩,
      ⟨(some 7), (.nck (.t 6)), none, []⟩,
      ⟨(some 8), (.off (.t 7) 2), none, []⟩,
      ⟨(some 9), (.off (.t 8) 6), none, []⟩,
      ⟨(some 10), (.load none (.t 9)), none, []⟩,
      ⟨(some 11), (.bin .neq (.t 10) (.c (.i .i64 (3)))), none, []⟩,
      ⟨(some 12), (.mov (.t 11)), none, []⟩,
      ⟨(some 13), (.mov (.t 0)), (some (12, false)), []⟩,
      ⟨(some 14), (.nck (.t 13)), (some (12, false)), []⟩,
      ⟨(some 15), (.off (.t 14) 2), (some (12, false)), []⟩,
      ⟨(some 16), (.off (.t 15) 7), (some (12, false)), []⟩,
      ⟨(some 17), (.load none (.t 16)), (some (12, false)), []⟩,
      ⟨(some 18), (.mov (.t 1)), (some (12, false)), []⟩,
      ⟨(some 19), (.lenk 0 (.t 18)), (some (12, false)), []⟩,
      ⟨(some 20), (.bin .geq (.t 17) (.t 19)), (some (12, false)), []⟩,
      ⟨(some 21), (.pick (.t 12) (.c (.b true)) (.t 20)), none, []⟩,
      ⟨(some 22), (.mov (.t 21)), none, []⟩,
      ⟨(some 23), (.mov (.t 1)), (some (22, false)), []⟩,
      ⟨(some 24), (.mov (.t 0)), (some (22, false)), []⟩,
      ⟨(some 25), (.nck (.t 24)), (some (22, false)), []⟩,
      ⟨(some 26), (.off (.t 25) 2), (some (22, false)), []⟩,
      ⟨(some 27), (.off (.t 26) 7), (some (22, false)), []⟩,
      ⟨(some 28), (.load none (.t 27)), (some (22, false)), []⟩,
      ⟨(some 29), (.iaddr 3 (.t 23) (.t 28)), (some (22, false)), []⟩,
      ⟨(some 30), (.off (.t 29) 0), (some (22, false)), []⟩,
      ⟨(some 31), (.load none (.t 30)), (some (22, false)), []⟩,
      ⟨(some 32), (.bin .neq (.t 31) (.c (.i .i64 (29)))), (some (22, false)), []⟩,
      ⟨(some 33), (.pick (.t 22) (.c (.b true)) (.t 32)), none, []⟩,
      ⟨(some 34), (.mov (.t 33)), none, []⟩,
      ⟨(some 35), (.mov (.t 0)), (some (34, false)), []⟩,
      ⟨(some 36), (.nck (.t 35)), (some (34, false)), []⟩,
      ⟨(some 37), (.off (.t 36) 0), (some (34, false)), []⟩,
      ⟨(some 38), (.load (some 2) (.t 37)), (some (34, false)), []⟩,
      ⟨(some 39), (.mov (.t 1)), (some (34, false)), []⟩,
      ⟨(some 40), (.mov (.t 0)), (some (34, false)), []⟩,
      ⟨(some 41), (.nck (.t 40)), (some (34, false)), []⟩,
      ⟨(some 42), (.off (.t 41) 2), (some (34, false)), []⟩,
      ⟨(some 43), (.off (.t 42) 7), (some (34, false)), []⟩,
      ⟨(some 44), (.load none (.t 43)), (some (34, false)), []⟩,
      ⟨(some 45), (.iaddr 3 (.t 39) (.t 44)), (some (34, false)), []⟩,
      ⟨(some 46), (.off (.t 45) 1), (some (34, false)), []⟩,
      ⟨(some 47), (.load none (.t 46)), (some (34, false)), []⟩,
      ⟨(some 48), (.call 77 [(.t 38), (.t 47)]), (some (34, false)), []⟩,
      ⟨(some 49), (.un .not (.t 48)), (some (34, false)), []⟩,
      ⟨(some 50), (.pick (.t 34) (.c (.b true)) (.t 49)), none, []⟩] [])
    (.cond (.t 50)
      (.seq (.region [⟨(some 51), (.build [(.s []), (.i .i64 (0)), (.i .i64 (0)), .ns] []), none, []⟩,
        ⟨none, (.store 4 (.t 4) (.t 51)), none, []⟩,
        ⟨(some 5), (.mov (.c (.b false))), none, []⟩] [])
      .ret)
      .skip))
    (.seq (.region [⟨(some 52), (.mov (.t 0)), none, []⟩,
      ⟨(some 53), (.nck (.t 52)), none, []⟩,
      ⟨(some 54), (.off (.t 53) 0), none, []⟩,
      ⟨(some 55), (.off (.t 54) 0), none, []⟩,
      ⟨(some 56), (.load none (.t 55)), none, []⟩,
      ⟨(some 57), (.mov (.t 1)), none, []⟩,
      ⟨(some 58), (.mov (.t 0)), none, []⟩,
      ⟨(some 59), (.nck (.t 58)), none, []⟩,
      ⟨(some 60), (.off (.t 59) 2), none, []⟩,
      ⟨(some 61), (.off (.t 60) 7), none, []⟩,
      ⟨(some 62), (.load none (.t 61)), none, []⟩,
      ⟨(some 63), (.iaddr 3 (.t 57) (.t 62)), none, []⟩,
      ⟨(some 64), (.off (.t 63) 1), none, []⟩,
      ⟨(some 65), (.load none (.t 64)), none, []⟩,
      ⟨(some 66), (.iaddr 4 (.t 56) (.t 65)), none, []⟩,
      ⟨(some 67), (.load (some 4) (.t 66)), none, []⟩,
      ⟨none, (.store 4 (.t 4) (.t 67)), none, []⟩,
      ⟨(some 5), (.mov (.c (.b true))), none, []⟩] [])
    .ret))),
    68, 2, [.c 4 (some 4), .t 5], 0⟩
theorem tr38 : trFunc Tryz.prog [([], []), ([0, 1, 2, 3, 4, 5, 6, 7, 8, 9, 10, 11, 12, 13, 14, 15, 16, 17, 18, 19, 20, 21, 22, 23, 24, 25, 26, 27, 28, 29, 30, 31, 32, 33, 34, 35, 36, 37, 38, 39, 40, 41, 42, 43, 44], []), ([], []), ([], []), ([0, 1, 2, 3, 4, 5, 6, 7, 8, 9, 10, 11, 12, 13, 14, 15, 16, 17], [])] 0 Tryz.f38 = some I38 := by kernel_rfl

/-- '(*encore/lift.maker).call'. -/
def L39a : ICode :=
  (.seq (.seq (.region [⟨(some 24), (.mov (.t 4)), none, []⟩,
      ⟨(some 25), (.nck (.t 24)), none, []⟩,
      ⟨(some 26), (.off (.t 25) 18), none, []⟩,
      ⟨(some 27), (.load none (.t 26)), none, []⟩,
      ⟨(some 28), (.lenk 0 (.t 27)), none, []⟩,
      ⟨(some 29), (.off (.t 3) 2), none, []⟩,
      ⟨(some 30), (.load none (.t 29)), none, []⟩,
      ⟨(some 31), (.bin .lss (.t 28) (.t 30)), none, []⟩] [])
    (.cond (.t 31)
      .skip
      (.exit 0)))
    (.block 1
      (.region [⟨(some 32), (.mov (.t 4)), none, []⟩,
        ⟨(some 33), (.mov (.t 4)), none, []⟩,
        ⟨(some 34), (.nck (.t 33)), none, []⟩,
        ⟨(some 35), (.off (.t 34) 18), none, []⟩,
        ⟨(some 36), (.load none (.t 35)), none, []⟩,
        ⟨(some 37), (.build [(.i .i64 (0)), (.i .i64 (0)), (.i .i64 (0)), (.i .i64 (0)), (.s []), .ns, .ns] [(0, 1, (.c (.i .i64 (3))))]), none, []⟩,
        ⟨(some 38), (.bsl 7 1 [(.i .i64 (0)), (.i .i64 (0)), (.i .i64 (0)), (.i .i64 (0)), (.s []), .ns, .ns] [(0, 7, (.t 37))]), none, []⟩,
        ⟨(some 39), (.app 7 96 (.t 36) (.t 38)), none, []⟩,
        ⟨(some 40), (.nck (.t 32)), none, []⟩,
        ⟨(some 41), (.off (.t 40) 18), none, []⟩,
        ⟨none, (.store 1 (.t 41) (.t 39)), none, []⟩] [])))
def I39 : IFunc :=
  ⟨(.seq (.region [⟨(some 3), (.box (.t 1)), none, []⟩] [])
    (.seq (.region [⟨(some 5), (.mov (.t 0)), none, []⟩,
      ⟨(some 6), (.nck (.t 5)), none, []⟩,
      ⟨(some 7), (.off (.t 6) 0), none, []⟩,
      ⟨(some 8), (.load (some 2) (.t 7)), none, []⟩,
      ⟨(some 9), (.mov (.t 0)), none, []⟩,
      ⟨(some 10), (.off (.t 3) 1), none, []⟩,
      ⟨(some 11), (.load none (.t 10)), none, []⟩,
      ⟨(some 12), (.call 76 [(.t 9), (.t 11)]), none, [(8, (.load (some 2) (.t 7)), none)]⟩,
      ⟨(some 13), (.build [.ns, .ns, (.i .i64 (0)), (.i .i64 (0)), (.i .i64 (0)), (.i .i64 (0)), .ns, .ns, (.i .i64 (0)), (.i .i64 (0)), (.i .i64 (0)), (.i .i64 (0)), (.i .i64 (0)), (.i .i64 (0)), (.s []), .ns, .ns, (.i .i64 (0)), .ns, .ns] [(0, 2, (.t 8)), (18, 1, (.t 12))]), none, []⟩,
      ⟨(some 14), (.box (.t 13)), none, []⟩,
      ⟨(some 4), (.mov (.t 14)), none, []⟩] [])
    (.seq (.region [⟨(some 15), (.mov (.t 4)), none, []⟩,
      ⟨(some 16), (.mov (.t 0)), none, []⟩,
      ⟨(some 17), (.nck (.t 16)), none, []⟩,
      ⟨(some 18), (.off (.t 17) 2), none, []⟩,
      ⟨(some 19), (.off (.t 18) 4), none, []⟩,
      ⟨(some 20), (.load none (.t 19)), none, []⟩,
      ⟨(some 21), (.nck (.t 15)), none, []⟩,
      ⟨(some 22), (.off (.t 21) 2), none, []⟩,
      ⟨(some 23), (.off (.t 22) 4), none, []⟩,
      ⟨none, (.store 1 (.t 23) (.t 20)), none, []⟩] [])
    (.seq (.block 0
      (.loop L39a))
    (.seq (.region [⟨(some 42), (.mov (.t 4)), none, []⟩,
      ⟨(some 43), (.off (.t 3) 3), none, []⟩,
      ⟨(some 44), (.load none (.t 43)), none, []⟩,
      ⟨(some 45), (.call 75 [(.t 42), (.t 44)]), none, []⟩] [])
    (.seq (.region [⟨(some 46), (.mov (.t 0)), none, []⟩,
      ⟨(some 47), (.mov (.t 4)), none, []⟩,
      ⟨(some 48), (.nck (.t 47)), none, []⟩,
      ⟨(some 49), (.off (.t 48) 2), none, []⟩,
      ⟨(some 50), (.off (.t 49) 4), none, []⟩,
      ⟨(some 51), (.load none (.t 50)), none, []⟩,
      ⟨(some 52), (.nck (.t 46)), none, []⟩,
      ⟨(some 53), (.off (.t 52) 2), none, []⟩,
      ⟨(some 54), (.off (.t 53) 4), none, []⟩,
      ⟨none, (.store 1 (.t 54) (.t 51)), none, []⟩] [])
    (.seq (.region [⟨(some 55), (.mov (.t 0)), none, []⟩,
      ⟨(some 56), (.mov (.t 4)), none, []⟩,
      ⟨(some 57), (.call 76 [(.t 56), (.c (.i .i64 (1)))]), none, []⟩,
      ⟨(some 58), (.call 35 [(.t 55), (.t 57)]), none, []⟩] [])
    (.seq (.region [⟨(some 59), (.mov (.t 0)), none, []⟩,
      ⟨(some 60), (.nck (.t 59)), none, []⟩,
      ⟨(some 61), (.off (.t 60) 2), none, []⟩,
      ⟨(some 62), (.off (.t 61) 2), none, []⟩,
      ⟨(some 63), (.load none (.t 62)), none, []⟩,
      ⟨(some 64), (.off (.t 3) 3), none, []⟩,
      ⟨(some 65), (.load none (.t 64)), none, []⟩,
      ⟨(some 66), (.lenk 0 (.t 65)), none, []⟩,
      ⟨(some 67), (.bin .add (.c (.i .i64 (1))) (.t 66)), none, []⟩,
      ⟨(some 68), (.bin .add (.t 63) (.t 67)), none, []⟩,
      ⟨(some 69), (.nck (.t 59)), none, []⟩,
      ⟨(some 70), (.off (.t 69) 2), none, []⟩,
      ⟨(some 71), (.off (.t 70) 2), none, []⟩,
      ⟨none, (.store 1 (.t 71) (.t 68)), none, []⟩] [])
    (.region [⟨(some 72), (.mov (.t 0)), none, []⟩,
      ⟨(some 73), (.nck (.t 72)), none, []⟩,
      ⟨(some 74), (.off (.t 73) 2), none, []⟩,
      ⟨(some 75), (.off (.t 74) 15), none, []⟩,
      ⟨none, (.store 1 (.t 75) (.c (.i .i64 (1)))), none, []⟩] []))))))))),
    76, 2, [], 0⟩
theorem tr39 : trFunc Tryz.prog [([], []), ([0, 1, 2, 3, 4, 5, 6, 7, 8, 9, 10], []), ([], []), ([0, 1, 2, 3, 4, 5, 6, 7], []), ([], []), ([], []), ([], []), ([], []), ([], []), ([0, 1, 2, 3, 4, 5, 6, 7, 8, 9, 10, 11, 12, 13], []), ([], [])] 0 Tryz.f39 = some I39 := by kernel_rfl

/-- '(*encore/guess.maker).step'. -/
def L40a : ICode :=
  (.seq (.region [⟨(some 30), (.bin .lss (.t 29) (.t 28)), none, []⟩] [])
    (.seq (.cond (.t 30)
      .skip
      (.exit 0))
    (.seq (.block 1
      (.seq (.region [⟨(some 31), (.iaddr 7 (.t 27) (.t 29)), none, []⟩,
        ⟨(some 32), (.load (some 7) (.t 31)), none, []⟩,
        ⟨(some 8), (.alloc [(.i .i64 (0)), (.i .i64 (0)), (.i .i64 (0)), (.i .i64 (0)), (.s []), .ns, .ns]), none, []⟩,
        ⟨none, (.store 7 (.t 8) (.t 32)), none, []⟩] [])
      (.region [⟨(some 33), (.load none (.t 2)), none, []⟩,
        ⟨(some 34), (.load (some 7) (.t 8)), none, []⟩,
        ⟨(some 35), (.load none (.t 5)), none, []⟩,
        ⟨(some 36), (.call 79 [(.t 33), (.t 34), (.t 35)]), none, []⟩] [])))
    (.region [⟨(some 37), (.bin .add (.t 29) (.c (.i .i64 (1)))), none, []⟩,
      ⟨(some 29), (.mov (.t 37)), none, []⟩] []))))
def I40 : IFunc :=
  ⟨(.seq (.region [⟨(some 2), (.box (.t 0)), none, []⟩,
      ⟨(some 3), (.box (.t 1)), none, []⟩] [])
    (.seq (.region [⟨(some 9), (.load none (.t 2)), none, []⟩,
      ⟨(some 10), (.off (.t 3) 2), none, []⟩,
      ⟨(some 11), (.load none (.t 10)), none, []⟩,
      ⟨(some 13), (.off (.t 3) 4), none, []⟩,
      ⟨(some 14), (.load none (.t 13)), none, []⟩,
      ⟨(some 12), (.call 41 [(.t 9), (.t 11)]), none, [(14, (.load none (.t 13)), none)]⟩,
      ⟨(some 16), (.off (.t 3) 2), none, []⟩,
      ⟨(some 15), (.call 45 [(.t 14)]), none, []⟩,
      ⟨none, (.store 1 (.t 16) (.t 12)), none, []⟩,
      ⟨(some 17), (.off (.t 3) 4), none, []⟩,
      ⟨none, (.store 1 (.t 17) (.t 15)), none, []⟩] [])
    (.seq (.seq (.region [⟨(some 19), (.off (.t 3) 0), none, []⟩,
      ⟨(some 20), (.load none (.t 19)), none, []⟩,
      ⟨(some 21), (.call 78 [(.t 20)]), none, []⟩,
      ⟨(some 18), (.mov (.t 21)), none, []⟩,
      ⟨(some 22), (.ext (.t 18) 0), none, []⟩,
      ⟨(some 23), (.ext (.t 18) 1), none, []⟩,
      ⟨(some 24), (.ext (.t 18) 2), none, []⟩,
      ⟨(some 5), (.alloc [(.i .i64 (0))]), none, []⟩,
      ⟨(some 4), (.mov (.t 22)), none, []⟩,
      ⟨none, (.store 1 (.t 5) (.t 23)), none, []⟩,
      ⟨(some 6), (.mov (.t 24)), none, []⟩] [])
    (.seq (.region [⟨(some 25), (.mov (.t 6)), none, []⟩] [])
    (.cond (.t 25)
      (.seq (.seq (.region [⟨(some 26), (.off (.t 3) 2), none, []⟩,
        ⟨(some 27), (.load none (.t 26)), none, []⟩,
        ⟨(some 28), (.lenk 0 (.t 27)), none, []⟩,
        ⟨(some 29), (.mov (.c (.i .i64 (0)))), none, []⟩] [])
      (.block 0
        (.loop L40a)))
      (.seq (.region [⟨(some 38), (.off (.t 3) 2), none, []⟩,
        ⟨(some 39), (.load none (.t 38)), none, []⟩,
        ⟨(some 40), (.mkf 81 [] [(.t 2), (.t 5)]), none, []⟩,
        ⟨(some 41), (.call 80 [(.t 39), (.t 40)]), none, []⟩,
        ⟨(some 42), (.un .not (.t 41)), none, []⟩] [])
      (.cond (.t 42)
        (.region [⟨(some 43), (.mov (.t 4)), none, []⟩,
          ⟨(some 44), (.off (.t 3) 0), none, []⟩,
          ⟨none, (.store 1 (.t 44) (.t 43)), none, []⟩] [])
        .skip)))
      .skip)))
    (.seq (.seq (.region [⟨(some 45), (.off (.t 3) 0), none, []⟩,
      ⟨(some 46), (.load none (.t 45)), none, []⟩,
      ⟨(some 47), (.bin .eql (.t 46) (.c (.i .i64 (40)))), none, []⟩,
      ⟨(some 48), (.mov (.t 47)), none, []⟩,
      ⟨(some 49), (.off (.t 3) 2), (some (48, true)), []⟩,
      ⟨(some 50), (.load none (.t 49)), (some (48, true)), []⟩,
      ⟨(some 51), (.iaddr 7 (.t 50) (.c (.i .i64 (0)))), (some (48, true)), []⟩,
      ⟨(some 52), (.off (.t 51) 0), (some (48, true)), []⟩,
      ⟨(some 53), (.load none (.t 52)), (some (48, true)), []⟩,
      ⟨(some 54), (.bin .eql (.t 53) (.c (.i .i64 (1)))), (some (48, true)), []⟩,
      ⟨(some 55), (.pick (.t 48) (.t 54) (.c (.b false))), none, []⟩] [])
    (.cond (.t 55)
      (.region [⟨(some 56), (.load none (.t 2)), none, []⟩,
        ⟨(some 57), (.nck (.t 56)), none, []⟩,
        ⟨(some 58), (.off (.t 57) 1), none, []⟩,
        ⟨(some 59), (.load none (.t 58)), none, []⟩,
        ⟨(some 60), (.off (.t 3) 2), none, []⟩,
        ⟨(some 61), (.load none (.t 60)), none, []⟩,
        ⟨(some 62), (.iaddr 7 (.t 61) (.c (.i .i64 (0)))), none, []⟩,
        ⟨(some 63), (.off (.t 62) 1), none, []⟩,
        ⟨(some 64), (.load none (.t 63)), none, []⟩,
        ⟨(some 65), (.off (.t 3) 1), none, []⟩,
        ⟨(some 66), (.load none (.t 65)), none, []⟩,
        ⟨(some 67), (.iaddr 1 (.t 59) (.t 64)), none, []⟩,
        ⟨none, (.store 1 (.t 67) (.t 66)), none, []⟩] [])
      .skip))
    (.seq (.region [⟨(some 68), (.load none (.t 2)), none, []⟩,
      ⟨(some 69), (.load none (.t 2)), none, []⟩,
      ⟨(some 70), (.nck (.t 69)), none, []⟩,
      ⟨(some 71), (.off (.t 70) 3), none, []⟩,
      ⟨(some 72), (.load none (.t 71)), none, []⟩,
      ⟨(some 73), (.load none (.t 2)), none, []⟩,
      ⟨(some 74), (.nck (.t 73)), none, []⟩,
      ⟨(some 75), (.off (.t 74) 0), none, []⟩,
      ⟨(some 76), (.load none (.t 75)), none, []⟩,
      ⟨(some 77), (.lenk 0 (.t 76)), none, []⟩,
      ⟨(some 78), (.bsl 1 1 [(.i .i64 (0))] [(0, 1, (.t 77))]), none, []⟩,
      ⟨(some 79), (.app 1 8 (.t 72) (.t 78)), none, [(68, (.load none (.t 2)), none)]⟩,
      ⟨(some 80), (.nck (.t 68)), none, []⟩,
      ⟨(some 81), (.off (.t 80) 3), none, []⟩,
      ⟨none, (.store 1 (.t 81) (.t 79)), none, []⟩] [])
    (.region [⟨(some 82), (.load none (.t 2)), none, []⟩,
      ⟨(some 83), (.load none (.t 2)), none, []⟩,
      ⟨(some 84), (.nck (.t 83)), none, []⟩,
      ⟨(some 85), (.off (.t 84) 0), none, []⟩,
      ⟨(some 86), (.load none (.t 85)), none, []⟩,
      ⟨(some 87), (.load (some 5) (.t 3)), none, []⟩,
      ⟨(some 88), (.bsl 5 1 [(.i .i64 (0)), (.i .i64 (0)), .ns, (.s []), .ns] [(0, 5, (.t 87))]), none, []⟩,
      ⟨(some 89), (.app 5 80 (.t 86) (.t 88)), none, [(82, (.load none (.t 2)), none)]⟩,
      ⟨(some 90), (.nck (.t 82)), none, []⟩,
      ⟨(some 91), (.off (.t 90) 0), none, []⟩,
      ⟨none, (.store 1 (.t 91) (.t 89)), none, []⟩] [])))))),
    92, 2, [], 0⟩
theorem tr40 : trFunc Tryz.prog [([], []), ([0, 1, 2, 4, 5, 3, 7, 6, 8, 9, 10], []), ([], []), ([], []), ([], []), ([], []), ([], []), ([], []), ([], []), ([], []), ([], []), ([], []), ([], []), ([], []), ([], []), ([0, 1, 2, 3, 4, 5, 6, 7, 8, 9, 10, 11, 12], []), ([], []), ([0, 1, 2, 3, 4, 5, 6, 7, 8, 9, 10, 11, 12, 13, 14], []), ([0, 1, 2, 3, 4, 5, 6, 7, 8, 9, 10], [])] 0 Tryz.f40 = some I40 := by kernel_rfl

/-- '(*encore/guess.maker).moved'. -/
def L41a : ICode :=
  (.seq (.region [⟨(some 10), (.bin .lss (.t 9) (.t 8)), none, []⟩] [])
    (.seq (.cond (.t 10)
      .skip
      (.exit 0))
    (.seq (.block 1
      (.seq (.region [⟨(some 11), (.iaddr 7 (.t 7) (.t 9)), none, []⟩,
        ⟨(some 12), (.load (some 7) (.t 11)), none, []⟩,
        ⟨(some 6), (.alloc [(.i .i64 (0)), (.i .i64 (0)), (.i .i64 (0)), (.i .i64 (0)), (.s []), .ns, .ns]), none, []⟩,
        ⟨none, (.store 7 (.t 6) (.t 12)), none, []⟩] [])
      (.seq (.seq (.region [⟨(some 13), (.off (.t 6) 0), none, []⟩,
        ⟨(some 14), (.load none (.t 13)), none, []⟩,
        ⟨(some 15), (.bin .eql (.t 14) (.c (.i .i64 (2)))), none, []⟩] [])
      (.cond (.t 15)
        (.region [⟨(some 16), (.mov (.t 0)), none, []⟩,
          ⟨(some 17), (.nck (.t 16)), none, []⟩,
          ⟨(some 18), (.off (.t 17) 3), none, []⟩,
          ⟨(some 19), (.load none (.t 18)), none, []⟩,
          ⟨(some 20), (.off (.t 6) 1), none, []⟩,
          ⟨(some 21), (.load none (.t 20)), none, []⟩,
          ⟨(some 22), (.iaddr 1 (.t 19) (.t 21)), none, []⟩,
          ⟨(some 23), (.load none (.t 22)), none, []⟩,
          ⟨(some 24), (.off (.t 6) 1), none, []⟩,
          ⟨none, (.store 1 (.t 24) (.t 23)), none, []⟩] [])
        .skip))
      (.seq (.region [⟨(some 25), (.off (.t 6) 2), none, []⟩,
        ⟨(some 26), (.load (some 5) (.t 25)), none, []⟩,
        ⟨(some 27), (.call 83 [(.t 26)]), none, []⟩,
        ⟨(some 28), (.off (.t 6) 2), none, []⟩,
        ⟨none, (.store 5 (.t 28) (.t 27)), none, []⟩] [])
      (.region [⟨(some 29), (.mov (.t 4)), none, []⟩,
        ⟨(some 30), (.load (some 7) (.t 6)), none, []⟩,
        ⟨(some 31), (.bsl 7 1 [(.i .i64 (0)), (.i .i64 (0)), (.i .i64 (0)), (.i .i64 (0)), (.s []), .ns, .ns] [(0, 7, (.t 30))]), none, []⟩,
        ⟨(some 32), (.app 7 96 (.t 29) (.t 31)), none, []⟩,
        ⟨(some 4), (.mov (.t 32)), none, []⟩] [])))))
    (.region [⟨(some 33), (.bin .add (.t 9) (.c (.i .i64 (1)))), none, []⟩,
      ⟨(some 9), (.mov (.t 33)), none, []⟩] []))))
def I41 : IFunc :=
  ⟨(.seq (.region [⟨(some 4), (.mov (.c .ns)), none, []⟩] [])
    (.seq (.seq (.region [⟨(some 7), (.mov (.t 1)), none, []⟩,
      ⟨(some 8), (.lenk 0 (.t 7)), none, []⟩,
      ⟨(some 9), (.mov (.c (.i .i64 (0)))), none, []⟩] [])
    (.block 0
      (.loop L41a)))
    (.seq (.region [⟨(some 34), (.mov (.t 4)), none, []⟩,
      ⟨(some 4), (.mov (.t 34)), none, []⟩] [])
    .ret))),
    35, 2, [.t 4], 0⟩
theorem tr41 : trFunc Tryz.prog [([], []), ([], []), ([], []), ([], []), ([], []), ([], []), ([0, 1, 2, 3, 4, 5, 6, 7, 8, 9], []), ([], []), ([], []), ([], []), ([], []), ([], [])] 0 Tryz.f41 = some I41 := by kernel_rfl

/-- 'encore/fold.Of$1'. -/
def I42 : IFunc :=
  ⟨(.seq (.region [⟨(some 2), (.box (.t 0)), none, []⟩,
      ⟨(some 3), (.alloc [(.i .i64 (0)), (.i .i64 (0)), (.i .i64 (0)), (.i .i64 (0)), (.s []), .ns, .ns]), none, []⟩] [])
    (.seq (.seq (.region [⟨(some 4), (.off (.t 2) 0), none, []⟩,
      ⟨(some 5), (.load none (.t 4)), none, []⟩,
      ⟨(some 6), (.bin .eql (.t 5) (.c (.i .i64 (2)))), none, []⟩] [])
    (.cond (.t 6)
      (.region [⟨(some 7), (.load none (.t 1)), none, []⟩,
        ⟨(some 8), (.off (.t 2) 1), none, []⟩,
        ⟨(some 9), (.load none (.t 8)), none, []⟩,
        ⟨(some 10), (.iaddr 7 (.t 7) (.t 9)), none, []⟩,
        ⟨(some 11), (.load (some 7) (.t 10)), none, []⟩,
        ⟨none, (.store 7 (.t 2) (.t 11)), none, []⟩] [])
      .skip))
    (.seq (.region [⟨(some 12), (.off (.t 2) 2), none, []⟩,
      ⟨(some 13), (.load (some 5) (.t 12)), none, []⟩,
      ⟨(some 14), (.call 43 [(.t 13)]), none, []⟩,
      ⟨(some 15), (.off (.t 2) 2), none, []⟩,
      ⟨none, (.store 5 (.t 15) (.t 14)), none, []⟩] [])
    (.seq (.region [⟨(some 16), (.load (some 7) (.t 2)), none, []⟩,
      ⟨none, (.store 7 (.t 3) (.t 16)), none, []⟩] [])
    .ret)))),
    17, 2, [.c 3 (some 7)], 0⟩
theorem tr42 : trFunc Tryz.prog [([], []), ([], []), ([], []), ([], []), ([], []), ([], [])] 0 Tryz.f42 = some I42 := by kernel_rfl

/-- 'encore/fold.own'. -/
def L43a : ICode :=
  (.seq (.region [⟨(some 16), (.bin .lss (.t 15) (.t 14)), none, []⟩] [])
    (.seq (.cond (.t 16)
      .skip
      (.exit 0))
    (.seq (.block 1
      (.seq (.region [⟨(some 17), (.mov (.t 15)), none, []⟩,
        ⟨(some 3), (.mov (.t 17)), none, []⟩] [])
      (.region [⟨(some 18), (.off (.t 1) 3), none, []⟩,
        ⟨(some 19), (.load none (.t 18)), none, []⟩,
        ⟨(some 20), (.mov (.t 3)), none, []⟩,
        ⟨(some 21), (.off (.t 1) 3), none, []⟩,
        ⟨(some 22), (.load none (.t 21)), none, []⟩,
        ⟨(some 23), (.mov (.t 3)), none, []⟩,
        ⟨(some 24), (.iaddr 5 (.t 22) (.t 23)), none, []⟩,
        ⟨(some 25), (.load (some 5) (.t 24)), none, []⟩,
        ⟨(some 26), (.call 43 [(.t 25)]), none, [(19, (.load none (.t 18)), none)]⟩,
        ⟨(some 27), (.iaddr 5 (.t 19) (.t 20)), none, []⟩,
        ⟨none, (.store 5 (.t 27) (.t 26)), none, []⟩] [])))
    (.region [⟨(some 28), (.bin .add (.t 15) (.c (.i .i64 (1)))), none, []⟩,
      ⟨(some 15), (.mov (.t 28)), none, []⟩] []))))
def I43 : IFunc :=
  ⟨(.seq (.region [⟨(some 1), (.box (.t 0)), none, []⟩,
      ⟨(some 2), (.alloc [(.i .i64 (0)), (.i .i64 (0)), (.s []), .ns, .ns]), none, []⟩] [])
    (.seq (.region [⟨(some 4), (.off (.t 1) 4), none, []⟩,
      ⟨(some 5), (.load none (.t 4)), none, []⟩,
      ⟨(some 7), (.off (.t 1) 3), none, []⟩,
      ⟨(some 8), (.load none (.t 7)), none, []⟩,
      ⟨(some 6), (.call 45 [(.t 5)]), none, [(8, (.load none (.t 7)), none)]⟩,
      ⟨(some 10), (.off (.t 1) 4), none, []⟩,
      ⟨(some 9), (.call 63 [(.t 8)]), none, []⟩,
      ⟨none, (.store 1 (.t 10) (.t 6)), none, []⟩,
      ⟨(some 11), (.off (.t 1) 3), none, []⟩,
      ⟨none, (.store 1 (.t 11) (.t 9)), none, []⟩] [])
    (.seq (.seq (.region [⟨(some 12), (.off (.t 1) 3), none, []⟩,
      ⟨(some 13), (.load none (.t 12)), none, []⟩,
      ⟨(some 14), (.lenk 0 (.t 13)), none, []⟩,
      ⟨(some 15), (.mov (.c (.i .i64 (0)))), none, []⟩] [])
    (.block 0
      (.loop L43a)))
    (.seq (.region [⟨(some 29), (.load (some 5) (.t 1)), none, []⟩,
      ⟨none, (.store 5 (.t 2) (.t 29)), none, []⟩] [])
    .ret)))),
    30, 1, [.c 2 (some 5)], 0⟩
theorem tr43 : trFunc Tryz.prog [([], []), ([0, 1, 3, 4, 2, 6, 5, 7, 8, 9], []), ([], []), ([], []), ([], []), ([], []), ([0, 1, 2, 3, 4, 5, 6, 7, 8, 9, 10], []), ([], []), ([], [])] 0 Tryz.f43 = some I43 := by kernel_rfl

/-- 'encore/fold.Of$2'. -/
def L44a : ICode :=
  (.seq (.region [⟨(some 9), (.bin .lss (.t 8) (.t 7)), none, []⟩] [])
    (.seq (.cond (.t 9)
      .skip
      (.exit 0))
    (.seq (.block 1
      (.seq (.region [⟨(some 10), (.iaddr 7 (.t 6) (.t 8)), none, []⟩,
        ⟨(some 11), (.load (some 7) (.t 10)), none, []⟩,
        ⟨(some 5), (.alloc [(.i .i64 (0)), (.i .i64 (0)), (.i .i64 (0)), (.i .i64 (0)), (.s []), .ns, .ns]), none, []⟩,
        ⟨none, (.store 7 (.t 5) (.t 11)), none, []⟩] [])
      (.region [⟨(some 12), (.mov (.t 3)), none, []⟩,
        ⟨(some 13), (.load none (.t 1)), none, []⟩,
        ⟨(some 14), (.load (some 7) (.t 5)), none, []⟩,
        ⟨(some 15), (.callv (.t 13) [(.t 14)]), none, []⟩,
        ⟨(some 16), (.bsl 7 1 [(.i .i64 (0)), (.i .i64 (0)), (.i .i64 (0)), (.i .i64 (0)), (.s []), .ns, .ns] [(0, 7, (.t 15))]), none, []⟩,
        ⟨(some 17), (.app 7 96 (.t 12) (.t 16)), none, []⟩,
        ⟨(some 3), (.mov (.t 17)), none, []⟩] [])))
    (.region [⟨(some 18), (.bin .add (.t 8) (.c (.i .i64 (1)))), none, []⟩,
      ⟨(some 8), (.mov (.t 18)), none, []⟩] []))))
def I44 : IFunc :=
  ⟨(.seq (.region [⟨(some 3), (.mov (.c .ns)), none, []⟩] [])
    (.seq (.seq (.region [⟨(some 6), (.mov (.t 0)), none, []⟩,
      ⟨(some 7), (.lenk 0 (.t 6)), none, []⟩,
      ⟨(some 8), (.mov (.c (.i .i64 (0)))), none, []⟩] [])
    (.block 0
      (.loop L44a)))
    (.seq (.region [⟨(some 19), (.mov (.t 3)), none, []⟩,
      ⟨(some 3), (.mov (.t 19)), none, []⟩] [])
    .ret))),
    20, 2, [.t 3], 0⟩
theorem tr44 : trFunc Tryz.prog [([], []), ([], []), ([], []), ([], []), ([], []), ([], []), ([], []), ([], [])] 0 Tryz.f44 = some I44 := by kernel_rfl

/-- 'slices.Clone[[]string,string]'. -/
def I45 : IFunc :=
  ⟨(.seq (.region [⟨(some 2), (.mov (.c .ns)), none, []⟩] [])
    (.seq (.seq (.region [⟨(some 3), (.mov (.t 0)), none, []⟩,
      ⟨(some 4), (.eqNil 0 false (.t 3) (.c .ns)), none, []⟩] [])
    (.cond (.t 4)
      (.seq (.region [⟨(some 2), (.mov (.c .ns)), none, []⟩] [])
      .ret)
      .skip))
    (.seq (.region [⟨(some 5), (.bsl 1 0 [] []), none, []⟩,
      ⟨(some 6), (.mov (.t 0)), none, []⟩,
      ⟨(some 7), (.app 1 16 (.t 5) (.t 6)), none, []⟩,
      ⟨(some 2), (.mov (.t 7)), none, []⟩] [])
    .ret))),
    8, 1, [.t 2], 0⟩
theorem tr45 : trFunc Tryz.prog [([], []), ([], []), ([], []), ([], []), ([], [])] 0 Tryz.f45 = some I45 := by kernel_rfl

/-- 'encore/fold.known'. -/
def I46 : IFunc :=
  ⟨(.seq (.region [⟨(some 1), (.box (.t 0)), none, []⟩,
      ⟨(some 2), (.alloc [(.i .i64 (0)), (.i .i64 (0)), (.i .i64 (0)), (.i .i64 (0)), (.s []), .ns, .ns]), none, []⟩,
      ⟨(some 3), (.mov (.c (.b false))), none, []⟩] [])
    (.seq (.region [⟨(some 9), (.off (.t 1) 2), none, []⟩,
      ⟨(some 10), (.load none (.t 9)), none, []⟩,
      ⟨(some 11), (.call 84 [(.t 10)]), none, []⟩,
      ⟨(some 8), (.mov (.t 11)), none, []⟩,
      ⟨(some 12), (.ext (.t 8) 0), none, []⟩,
      ⟨(some 13), (.ext (.t 8) 1), none, []⟩,
      ⟨(some 4), (.mov (.t 12)), none, []⟩,
      ⟨(some 5), (.mov (.t 13)), none, []⟩] [])
    (.seq (.seq (.region [⟨(some 14), (.mov (.t 5)), none, []⟩,
      ⟨(some 15), (.un .not (.t 14)), none, []⟩] [])
    (.cond (.t 15)
      (.seq (.region [⟨(some 16), (.build [(.i .i64 (0)), (.i .i64 (0)), (.i .i64 (0)), (.i .i64 (0)), (.s []), .ns, .ns] []), none, []⟩,
        ⟨none, (.store 7 (.t 2) (.t 16)), none, []⟩,
        ⟨(some 3), (.mov (.c (.b false))), none, []⟩] [])
      .ret)
      .skip))
    (.seq (.region [⟨(some 18), (.load (some 5) (.t 1)), none, []⟩,
      ⟨(some 19), (.mov (.t 4)), none, []⟩,
      ⟨(some 20), (.call 60 [(.t 18), (.t 19)]), none, []⟩,
      ⟨(some 17), (.mov (.t 20)), none, []⟩,
      ⟨(some 21), (.ext (.t 17) 0), none, []⟩,
      ⟨(some 22), (.ext (.t 17) 1), none, []⟩,
      ⟨(some 6), (.alloc [(.i .i64 (0)), (.i .i64 (0)), (.s []), .ns, .ns]), none, []⟩,
      ⟨none, (.store 5 (.t 6) (.t 21)), none, []⟩,
      ⟨(some 7), (.mov (.t 22)), none, []⟩] [])
    (.seq (.region [⟨(some 23), (.load (some 5) (.t 6)), none, []⟩,
      ⟨(some 24), (.build [(.i .i64 (0)), (.i .i64 (0)), (.i .i64 (0)), (.i .i64 (0)), (.s []), .ns, .ns] [(0, 1, (.c (.i .i64 (3)))), (2, 5, (.t 23))]), none, []⟩,
      ⟨(some 25), (.mov (.t 7)), none, []⟩,
      ⟨none, (.store 7 (.t 2) (.t 24)), none, []⟩,
      ⟨(some 3), (.mov (.t 25)), none, []⟩] [])
    .ret))))),
    26, 1, [.c 2 (some 7), .t 3], 0⟩
theorem tr46 : trFunc Tryz.prog [([], []), ([], []), ([], []), ([], []), ([], []), ([], []), ([], [])] 0 Tryz.f46 = some I46 := by kernel_rfl

/-- 'encore/prune.once'. -/
def L47a : ICode :=
  (.seq (.region [⟨(some 19), (.bin .lss (.t 18) (.t 17)), none, []⟩] [])
    (.seq (.cond (.t 19)
      .skip
      (.exit 0))
    (.seq (.block 1
      (.seq (.region [⟨(some 20), (.iaddr 5 (.t 16) (.t 18)), none, []⟩,
        ⟨(some 21), (.load (some 5) (.t 20)), none, []⟩,
        ⟨(some 8), (.alloc [(.i .i64 (0)), (.i .i64 (0)), .ns, (.s []), .ns]), none, []⟩,
        ⟨none, (.store 5 (.t 8) (.t 21)), none, []⟩] [])
      (.seq (.region [⟨(some 22), (.mov (.t 6)), none, []⟩,
        ⟨(some 23), (.off (.t 8) 2), none, []⟩,
        ⟨(some 24), (.load none (.t 23)), none, []⟩,
        ⟨(some 26), (.off (.t 8) 4), none, []⟩,
        ⟨(some 27), (.load none (.t 26)), none, []⟩,
        ⟨(some 25), (.callv (.t 22) [(.t 24)]), none, [(27, (.load none (.t 26)), none)]⟩,
        ⟨(some 29), (.off (.t 8) 2), none, []⟩,
        ⟨(some 28), (.call 45 [(.t 27)]), none, []⟩,
        ⟨none, (.store 1 (.t 29) (.t 25)), none, []⟩,
        ⟨(some 30), (.off (.t 8) 4), none, []⟩,
        ⟨none, (.store 1 (.t 30) (.t 28)), none, []⟩] [])
      (.seq (.seq (.region [⟨(some 31), (.off (.t 8) 0), none, []⟩,
        ⟨(some 32), (.load none (.t 31)), none, []⟩,
        ⟨(some 33), (.bin .eql (.t 32) (.c (.i .i64 (40)))), none, []⟩,
        ⟨(some 34), (.mov (.t 33)), none, []⟩,
        ⟨(some 35), (.mov (.t 4)), (some (34, true)), []⟩,
        ⟨(some 36), (.load (some 5) (.t 8)), (some (34, true)), []⟩,
        ⟨(some 37), (.call 86 [(.t 35), (.t 36)]), (some (34, true)), []⟩,
        ⟨(some 38), (.pick (.t 34) (.t 37) (.c (.b false))), none, []⟩] [])
      (.cond (.t 38)
        (.seq (.region [⟨(some 39), (.load none (.t 5)), none, []⟩,
          ⟨(some 40), (.off (.t 8) 2), none, []⟩,
          ⟨(some 41), (.load none (.t 40)), none, []⟩,
          ⟨(some 42), (.iaddr 7 (.t 41) (.c (.i .i64 (0)))), none, []⟩,
          ⟨(some 43), (.load (some 7) (.t 42)), none, []⟩,
          ⟨(some 44), (.bsl 7 1 [(.i .i64 (0)), (.i .i64 (0)), (.i .i64 (0)), (.i .i64 (0)), (.s []), .ns, .ns] [(0, 7, (.t 43))]), none, []⟩,
          ⟨(some 45), (.app 7 96 (.t 39) (.t 44)), none, []⟩,
          ⟨none, (.store 1 (.t 5) (.t 45)), none, []⟩] [])
        (.exit 1))
        .skip))
      (.seq (.region [⟨(some 46), (.mov (.t 4)), none, []⟩,
        ⟨(some 47), (.nck (.t 46)), none, []⟩,
        ⟨(some 48), (.off (.t 47) 0), none, []⟩,
        ⟨(some 49), (.load none (.t 48)), none, []⟩,
        ⟨(some 50), (.mkf 88 [] [(.t 8)]), none, []⟩,
        ⟨(some 51), (.call 87 [(.t 49), (.t 50)]), none, []⟩,
        ⟨(some 9), (.mov (.t 51)), none, []⟩] [])
      (.seq (.seq (.region [⟨(some 52), (.mov (.t 9)), none, []⟩,
        ⟨(some 53), (.bin .lss (.t 52) (.c (.i .i64 (0)))), none, []⟩] [])
      (.cond (.t 53)
        (.seq (.region [⟨(some 54), (.mov (.t 4)), none, []⟩,
          ⟨(some 55), (.nck (.t 54)), none, []⟩,
          ⟨(some 56), (.off (.t 55) 0), none, []⟩,
          ⟨(some 57), (.load none (.t 56)), none, []⟩,
          ⟨(some 58), (.lenk 0 (.t 57)), none, []⟩,
          ⟨(some 9), (.mov (.t 58)), none, []⟩] [])
        (.region [⟨(some 59), (.mov (.t 4)), none, []⟩,
          ⟨(some 60), (.load (some 5) (.t 8)), none, []⟩,
          ⟨(some 61), (.call 90 [(.t 59), (.t 60)]), none, []⟩] []))
        .skip))
      (.seq (.region [⟨(some 62), (.mov (.t 9)), none, []⟩,
        ⟨(some 63), (.build [(.i .i64 (0)), (.i .i64 (0)), (.i .i64 (0)), (.i .i64 (0)), (.s []), .ns, .ns] [(0, 1, (.c (.i .i64 (2)))), (1, 1, (.t 62))]), none, []⟩,
        ⟨(some 10), (.alloc [(.i .i64 (0)), (.i .i64 (0)), (.i .i64 (0)), (.i .i64 (0)), (.s []), .ns, .ns]), none, []⟩,
        ⟨none, (.store 7 (.t 10) (.t 63)), none, []⟩] [])
      (.seq (.seq (.region [⟨(some 64), (.off (.t 8) 0), none, []⟩,
        ⟨(some 65), (.load none (.t 64)), none, []⟩,
        ⟨(some 66), (.bin .eql (.t 65) (.c (.i .i64 (23)))), none, []⟩,
        ⟨(some 67), (.mov (.t 66)), none, []⟩,
        ⟨(some 68), (.off (.t 8) 0), (some (67, false)), []⟩,
        ⟨(some 69), (.load none (.t 68)), (some (67, false)), []⟩,
        ⟨(some 70), (.bin .eql (.t 69) (.c (.i .i64 (40)))), (some (67, false)), []⟩,
        ⟨(some 71), (.pick (.t 67) (.c (.b true)) (.t 70)), none, []⟩] [])
      (.cond (.t 71)
        (.region [⟨(some 72), (.off (.t 8) 2), none, []⟩,
          ⟨(some 73), (.load none (.t 72)), none, []⟩,
          ⟨(some 74), (.iaddr 7 (.t 73) (.c (.i .i64 (0)))), none, []⟩,
          ⟨(some 75), (.load (some 7) (.t 74)), none, []⟩,
          ⟨none, (.store 7 (.t 10) (.t 75)), none, []⟩] [])
        .skip))
      (.region [⟨(some 76), (.load none (.t 5)), none, []⟩,
        ⟨(some 77), (.load (some 7) (.t 10)), none, []⟩,
        ⟨(some 78), (.bsl 7 1 [(.i .i64 (0)), (.i .i64 (0)), (.i .i64 (0)), (.i .i64 (0)), (.s []), .ns, .ns] [(0, 7, (.t 77))]), none, []⟩,
        ⟨(some 79), (.app 7 96 (.t 76) (.t 78)), none, []⟩,
        ⟨none, (.store 1 (.t 5) (.t 79)), none, []⟩] [])))))))))
    (.region [⟨(some 80), (.bin .add (.t 18) (.c (.i .i64 (1)))), none, []⟩,
      ⟨(some 18), (.mov (.t 80)), none, []⟩] []))))
def I47 : IFunc :=
  ⟨(.seq (.region [⟨(some 1), (.box (.t 0)), none, []⟩,
      ⟨(some 2), (.mov (.c .np)), none, []⟩,
      ⟨(some 3), (.alloc [(.i .i64 (0)), (.i .i64 (0)), (.i .i64 (0)), (.i .i64 (0)), .ns, .ns, (.i .i64 (0)), (.i .i64 (0)), (.i .i64 (0)), (.i .i64 (0)), (.i .i64 (0)), (.i .i64 (0)), (.s []), .ns, .ns, (.i .i64 (0))]), none, []⟩] [])
    (.seq (.region [⟨(some 11), (.off (.t 1) 3), none, []⟩,
      ⟨(some 12), (.load none (.t 11)), none, []⟩,
      ⟨(some 13), (.call 85 [(.t 12)]), none, []⟩,
      ⟨(some 4), (.mov (.t 13)), none, []⟩] [])
    (.seq (.region [⟨(some 5), (.alloc [.ns]), none, []⟩] [])
    (.seq (.region [⟨(some 14), (.call 48 [(.t 5)]), none, []⟩,
      ⟨(some 6), (.mov (.t 14)), none, []⟩] [])
    (.seq (.seq (.region [⟨(some 15), (.off (.t 1) 4), none, []⟩,
      ⟨(some 16), (.load none (.t 15)), none, []⟩,
      ⟨(some 17), (.lenk 0 (.t 16)), none, []⟩,
      ⟨(some 18), (.mov (.c (.i .i64 (0)))), none, []⟩] [])
    (.block 0
      (.loop L47a)))
    (.seq (.region [⟨(some 81), (.mov (.t 6)), none, []⟩,
      ⟨(some 82), (.off (.t 1) 5), none, []⟩,
      ⟨(some 83), (.load none (.t 82)), none, []⟩,
      ⟨(some 85), (.mov (.t 6)), none, []⟩,
      ⟨(some 86), (.off (.t 1) 8), none, []⟩,
      ⟨(some 87), (.load (some 7) (.t 86)), none, []⟩,
      ⟨(some 88), (.bsl 7 1 [(.i .i64 (0)), (.i .i64 (0)), (.i .i64 (0)), (.i .i64 (0)), (.s []), .ns, .ns] [(0, 7, (.t 87))]), none, []⟩,
      ⟨(some 84), (.callv (.t 81) [(.t 83)]), none, [(87, (.load (some 7) (.t 86)), none)]⟩,
      ⟨(some 92), (.off (.t 1) 5), none, []⟩,
      ⟨(some 89), (.callv (.t 85) [(.t 88)]), none, []⟩,
      ⟨(some 90), (.iaddr 7 (.t 89) (.c (.i .i64 (0)))), none, []⟩,
      ⟨(some 91), (.load (some 7) (.t 90)), none, []⟩,
      ⟨none, (.store 1 (.t 92) (.t 84)), none, [(91, (.load (some 7) (.t 90)), none)]⟩,
      ⟨(some 93), (.off (.t 1) 8), none, []⟩,
      ⟨none, (.store 7 (.t 93) (.t 91)), none, []⟩] [])
    (.seq (.region [⟨(some 94), (.mov (.t 4)), none, []⟩,
      ⟨(some 95), (.load (some 16) (.t 1)), none, []⟩,
      ⟨(some 2), (.mov (.t 94)), none, []⟩,
      ⟨none, (.store 16 (.t 3) (.t 95)), none, []⟩] [])
    .ret))))))),
    96, 1, [.t 2, .c 3 (some 16)], 0⟩
theorem tr47 : trFunc Tryz.prog [([], []), ([], []), ([], []), ([], []), ([], []), ([], []), ([], []), ([], []), ([0, 1, 2, 4, 5, 3, 7, 6, 8, 9, 10], []), ([], []), ([0, 1, 2, 3, 4, 5, 6, 7], []), ([], []), ([], []), ([], []), ([], []), ([], []), ([], []), ([], []), ([], []), ([], []), ([], []), ([], []), ([], []), ([0, 1, 2, 4, 5, 6, 7, 3, 11, 8, 9, 10, 12, 13, 14], []), ([0, 1, 2, 3], [])] 0 Tryz.f47 = some I47 := by kernel_rfl

/-- 'encore/prune.turner'. -/
def I48 : IFunc :=
  ⟨(.seq (.region [⟨(some 1), (.box (.t 0)), none, []⟩,
      ⟨(some 2), (.mov (.c .nf)), none, []⟩] [])
    (.seq (.region [⟨(some 3), (.mkf 91 [] [(.t 1)]), none, []⟩,
      ⟨(some 2), (.mov (.t 3)), none, []⟩] [])
    .ret)),
    4, 1, [.t 2], 0⟩
theorem tr48 : trFunc Tryz.prog [([], []), ([], [])] 0 Tryz.f48 = some I48 := by kernel_rfl

/-- 'encore/prune.needs'. -/
def L49a : ICode :=
  (.seq (.region [⟨(some 26), (.bin .lss (.t 25) (.t 24)), none, []⟩] [])
    (.seq (.cond (.t 26)
      .skip
      (.exit 0))
    (.seq (.block 1
      (.seq (.region [⟨(some 27), (.mov (.t 25)), none, []⟩,
        ⟨(some 28), (.iaddr 5 (.t 23) (.t 25)), none, []⟩,
        ⟨(some 29), (.load (some 5) (.t 28)), none, []⟩,
        ⟨(some 8), (.alloc [(.i .i64 (0)), (.i .i64 (0)), .ns, (.s []), .ns]), none, []⟩,
        ⟨(some 7), (.mov (.t 27)), none, []⟩,
        ⟨none, (.store 5 (.t 8) (.t 29)), none, []⟩] [])
      (.seq (.region [⟨(some 30), (.load none (.t 5)), none, []⟩,
        ⟨(some 31), (.mov (.t 7)), none, []⟩,
        ⟨(some 32), (.mov (.t 6)), none, []⟩,
        ⟨(some 33), (.load (some 5) (.t 8)), none, []⟩,
        ⟨(some 34), (.call 86 [(.t 32), (.t 33)]), none, [(30, (.load none (.t 5)), none)]⟩,
        ⟨(some 35), (.un .not (.t 34)), none, []⟩,
        ⟨(some 36), (.iaddr 1 (.t 30) (.t 31)), none, []⟩,
        ⟨none, (.store 1 (.t 36) (.t 35)), none, []⟩] [])
      (.region [⟨(some 37), (.mov (.t 6)), none, []⟩,
        ⟨(some 38), (.load (some 5) (.t 8)), none, []⟩,
        ⟨(some 39), (.call 90 [(.t 37), (.t 38)]), none, []⟩] []))))
    (.region [⟨(some 40), (.bin .add (.t 25) (.c (.i .i64 (1)))), none, []⟩,
      ⟨(some 25), (.mov (.t 40)), none, []⟩] []))))
def L49b : ICode :=
  (.seq (.seq (.region [⟨(some 54), (.mov (.t 10)), none, []⟩,
      ⟨(some 55), (.bin .geq (.t 54) (.c (.i .i64 (0)))), none, []⟩] [])
    (.cond (.t 55)
      .skip
      (.exit 2)))
    (.seq (.block 3
      (.seq (.region [⟨(some 58), (.load none (.t 5)), none, []⟩,
        ⟨(some 59), (.mov (.t 10)), none, []⟩,
        ⟨(some 60), (.iaddr 1 (.t 58) (.t 59)), none, []⟩,
        ⟨(some 61), (.load none (.t 60)), none, []⟩] [])
      (.cond (.t 61)
        (.region [⟨(some 62), (.mov (.t 9)), none, []⟩,
          ⟨(some 63), (.mov (.t 0)), none, []⟩,
          ⟨(some 64), (.nck (.t 63)), none, []⟩,
          ⟨(some 65), (.off (.t 64) 0), none, []⟩,
          ⟨(some 66), (.load none (.t 65)), none, []⟩,
          ⟨(some 67), (.mov (.t 10)), none, []⟩,
          ⟨(some 68), (.iaddr 5 (.t 66) (.t 67)), none, []⟩,
          ⟨(some 69), (.off (.t 68) 2), none, []⟩,
          ⟨(some 70), (.load none (.t 69)), none, []⟩,
          ⟨(some 71), (.callv (.t 62) [(.t 70)]), none, []⟩] [])
        .skip)))
    (.region [⟨(some 56), (.mov (.t 10)), none, []⟩,
      ⟨(some 57), (.bin .sub (.t 56) (.c (.i .i64 (1)))), none, []⟩,
      ⟨(some 10), (.mov (.t 57)), none, []⟩] [])))
def I49 : IFunc :=
  ⟨(.seq (.region [⟨(some 3), (.box (.t 1)), none, []⟩,
      ⟨(some 4), (.mov (.c .ns)), none, []⟩] [])
    (.seq (.region [⟨(some 11), (.mov (.t 0)), none, []⟩,
      ⟨(some 12), (.nck (.t 11)), none, []⟩,
      ⟨(some 13), (.off (.t 12) 0), none, []⟩,
      ⟨(some 14), (.load none (.t 13)), none, []⟩,
      ⟨(some 15), (.lenk 0 (.t 14)), none, []⟩,
      ⟨(some 16), (.mksl 1 1 [(.b false)] (.t 15) (.t 15)), none, []⟩,
      ⟨(some 5), (.alloc [.ns]), none, []⟩,
      ⟨none, (.store 1 (.t 5) (.t 16)), none, []⟩] [])
    (.seq (.region [⟨(some 17), (.off (.t 3) 3), none, []⟩,
      ⟨(some 18), (.load none (.t 17)), none, []⟩,
      ⟨(some 19), (.call 85 [(.t 18)]), none, []⟩,
      ⟨(some 6), (.mov (.t 19)), none, []⟩] [])
    (.seq (.seq (.region [⟨(some 20), (.mov (.t 0)), none, []⟩,
      ⟨(some 21), (.nck (.t 20)), none, []⟩,
      ⟨(some 22), (.off (.t 21) 0), none, []⟩,
      ⟨(some 23), (.load none (.t 22)), none, []⟩,
      ⟨(some 24), (.lenk 0 (.t 23)), none, []⟩,
      ⟨(some 25), (.mov (.c (.i .i64 (0)))), none, []⟩] [])
    (.block 0
      (.loop L49a)))
    (.seq (.region [⟨(some 41), (.mkf 93 [] [(.t 5)]), none, []⟩,
      ⟨(some 9), (.mov (.t 41)), none, []⟩] [])
    (.seq (.region [⟨(some 42), (.mov (.t 9)), none, []⟩,
      ⟨(some 43), (.off (.t 3) 5), none, []⟩,
      ⟨(some 44), (.load none (.t 43)), none, []⟩,
      ⟨(some 46), (.off (.t 3) 8), none, []⟩,
      ⟨(some 47), (.load (some 7) (.t 46)), none, []⟩,
      ⟨(some 48), (.bsl 7 1 [(.i .i64 (0)), (.i .i64 (0)), (.i .i64 (0)), (.i .i64 (0)), (.s []), .ns, .ns] [(0, 7, (.t 47))]), none, []⟩,
      ⟨(some 45), (.call 36 [(.t 44)]), none, [(47, (.load (some 7) (.t 46)), none)]⟩,
      ⟨(some 49), (.app 7 96 (.t 45) (.t 48)), none, []⟩,
      ⟨(some 50), (.callv (.t 42) [(.t 49)]), none, []⟩] [])
    (.seq (.seq (.region [⟨(some 51), (.load none (.t 5)), none, []⟩,
      ⟨(some 52), (.lenk 0 (.t 51)), none, []⟩,
      ⟨(some 53), (.bin .sub (.t 52) (.c (.i .i64 (1)))), none, []⟩,
      ⟨(some 10), (.mov (.t 53)), none, []⟩] [])
    (.block 2
      (.loop L49b)))
    (.seq (.region [⟨(some 72), (.load none (.t 5)), none, []⟩,
      ⟨(some 4), (.mov (.t 72)), none, []⟩] [])
    .ret)))))))),
    73, 2, [.t 4], 0⟩
theorem tr49 : trFunc Tryz.prog [([], []), ([], []), ([], []), ([], []), ([], []), ([], []), ([], []), ([0, 1, 2, 3, 4, 5, 6, 7], []), ([], []), ([], []), ([], []), ([0, 1, 2, 4, 5, 6, 3, 7, 8], []), ([], []), ([], []), ([], []), ([], []), ([], []), ([], []), ([], []), ([], [])] 0 Tryz.f49 = some I49 := by kernel_rfl

/-- 'encore/fuse.ownStep'. -/
def L50a : ICode :=
  (.seq (.region [⟨(some 16), (.bin .lss (.t 15) (.t 14)), none, []⟩] [])
    (.seq (.cond (.t 16)
      .skip
      (.exit 0))
    (.seq (.block 1
      (.seq (.region [⟨(some 17), (.mov (.t 15)), none, []⟩,
        ⟨(some 3), (.mov (.t 17)), none, []⟩] [])
      (.region [⟨(some 18), (.off (.t 1) 2), none, []⟩,
        ⟨(some 19), (.load none (.t 18)), none, []⟩,
        ⟨(some 20), (.mov (.t 3)), none, []⟩,
        ⟨(some 21), (.off (.t 1) 2), none, []⟩,
        ⟨(some 22), (.load none (.t 21)), none, []⟩,
        ⟨(some 23), (.mov (.t 3)), none, []⟩,
        ⟨(some 24), (.iaddr 7 (.t 22) (.t 23)), none, []⟩,
        ⟨(some 25), (.off (.t 24) 2), none, []⟩,
        ⟨(some 26), (.load (some 5) (.t 25)), none, []⟩,
        ⟨(some 27), (.call 52 [(.t 26)]), none, [(19, (.load none (.t 18)), none)]⟩,
        ⟨(some 28), (.iaddr 7 (.t 19) (.t 20)), none, []⟩,
        ⟨(some 29), (.off (.t 28) 2), none, []⟩,
        ⟨none, (.store 5 (.t 29) (.t 27)), none, []⟩] [])))
    (.region [⟨(some 30), (.bin .add (.t 15) (.c (.i .i64 (1)))), none, []⟩,
      ⟨(some 15), (.mov (.t 30)), none, []⟩] []))))
def I50 : IFunc :=
  ⟨(.seq (.region [⟨(some 1), (.box (.t 0)), none, []⟩,
      ⟨(some 2), (.alloc [(.i .i64 (0)), (.i .i64 (0)), .ns, (.s []), .ns]), none, []⟩] [])
    (.seq (.region [⟨(some 4), (.off (.t 1) 2), none, []⟩,
      ⟨(some 5), (.load none (.t 4)), none, []⟩,
      ⟨(some 7), (.off (.t 1) 4), none, []⟩,
      ⟨(some 8), (.load none (.t 7)), none, []⟩,
      ⟨(some 6), (.call 36 [(.t 5)]), none, [(8, (.load none (.t 7)), none)]⟩,
      ⟨(some 10), (.off (.t 1) 2), none, []⟩,
      ⟨(some 9), (.call 45 [(.t 8)]), none, []⟩,
      ⟨none, (.store 1 (.t 10) (.t 6)), none, []⟩,
      ⟨(some 11), (.off (.t 1) 4), none, []⟩,
      ⟨none, (.store 1 (.t 11) (.t 9)), none, []⟩] [])
    (.seq (.seq (.region [⟨(some 12), (.off (.t 1) 2), none, []⟩,
      ⟨(some 13), (.load none (.t 12)), none, []⟩,
      ⟨(some 14), (.lenk 0 (.t 13)), none, []⟩,
      ⟨(some 15), (.mov (.c (.i .i64 (0)))), none, []⟩] [])
    (.block 0
      (.loop L50a)))
    (.seq (.region [⟨(some 31), (.load (some 5) (.t 1)), none, []⟩,
      ⟨none, (.store 5 (.t 2) (.t 31)), none, []⟩] [])
    .ret)))),
    32, 1, [.c 2 (some 5)], 0⟩
theorem tr50 : trFunc Tryz.prog [([], []), ([0, 1, 3, 4, 2, 6, 5, 7, 8, 9], []), ([], []), ([], []), ([], []), ([], []), ([0, 1, 2, 3, 4, 5, 6, 7, 8, 9, 10, 11, 12], []), ([], []), ([], [])] 0 Tryz.f50 = some I50 := by kernel_rfl

/-- 'encore/fuse.turned'. -/
def L51a : ICode :=
  (.seq (.seq (.region [⟨(some 8), (.mov (.t 5)), none, []⟩,
      ⟨(some 9), (.call 94 []), none, []⟩,
      ⟨(some 10), (.mov (.c (.i .i64 (5)))), none, []⟩,
      ⟨(some 11), (.bin .lss (.t 8) (.t 10)), none, []⟩] [])
    (.cond (.t 11)
      .skip
      (.exit 0)))
    (.seq (.block 1
      (.seq (.region [⟨(some 16), (.mov (.t 5)), none, []⟩,
        ⟨(some 18), (.mov (.t 0)), none, []⟩,
        ⟨(some 19), (.load (some 5) (.t 3)), none, []⟩,
        ⟨(some 6), (.alloc [(.i .i64 (0)), (.i .i64 (0)), .ns, (.s []), .ns]), none, []⟩,
        ⟨(some 15), (.call 94 []), none, [(19, (.load (some 5) (.t 3)), none)]⟩,
        ⟨(some 17), (.idxA none 1 5 (.t 15) (.t 16)), none, []⟩,
        ⟨(some 20), (.callv (.t 17) [(.t 18), (.t 19)]), none, []⟩,
        ⟨(some 14), (.mov (.t 20)), none, []⟩,
        ⟨(some 21), (.ext (.t 14) 0), none, []⟩,
        ⟨(some 22), (.ext (.t 14) 1), none, []⟩,
        ⟨none, (.store 5 (.t 6) (.t 21)), none, []⟩,
        ⟨(some 7), (.mov (.t 22)), none, []⟩] [])
      (.seq (.region [⟨(some 23), (.mov (.t 7)), none, []⟩] [])
      (.cond (.t 23)
        (.region [⟨(some 24), (.load (some 5) (.t 6)), none, []⟩,
          ⟨none, (.store 5 (.t 3) (.t 24)), none, []⟩,
          ⟨(some 5), (.mov (.c (.i .i64 (-1)))), none, []⟩] [])
        .skip))))
    (.region [⟨(some 12), (.mov (.t 5)), none, []⟩,
      ⟨(some 13), (.bin .add (.t 12) (.c (.i .i64 (1)))), none, []⟩,
      ⟨(some 5), (.mov (.t 13)), none, []⟩] [])))
def I51 : IFunc :=
  ⟨(.seq (.region [⟨(some 3), (.box (.t 1)), none, []⟩,
      ⟨(some 4), (.alloc [(.i .i64 (0)), (.i .i64 (0)), .ns, (.s []), .ns]), none, []⟩] [])
    (.seq (.seq (.region [⟨(some 5), (.mov (.c (.i .i64 (0)))), none, []⟩] [])
    (.block 0
      (.loop L51a)))
    (.seq (.region [⟨(some 25), (.load (some 5) (.t 3)), none, []⟩,
      ⟨none, (.store 5 (.t 4) (.t 25)), none, []⟩] [])
    .ret))),
    26, 2, [.c 4 (some 5)], 0⟩
theorem tr51 : trFunc Tryz.prog [([], []), ([], []), ([], []), ([], []), ([1, 3, 4, 9, 0, 2, 5, 6, 7, 8, 10, 11], []), ([], []), ([], []), ([], []), ([], []), ([], [])] 0 Tryz.f51 = some I51 := by kernel_rfl

/-- 'encore/fuse.own'. -/
def L52a : ICode :=
  (.seq (.region [⟨(some 16), (.bin .lss (.t 15) (.t 14)), none, []⟩] [])
    (.seq (.cond (.t 16)
      .skip
      (.exit 0))
    (.seq (.block 1
      (.seq (.region [⟨(some 17), (.mov (.t 15)), none, []⟩,
        ⟨(some 3), (.mov (.t 17)), none, []⟩] [])
      (.region [⟨(some 18), (.off (.t 1) 3), none, []⟩,
        ⟨(some 19), (.load none (.t 18)), none, []⟩,
        ⟨(some 20), (.mov (.t 3)), none, []⟩,
        ⟨(some 21), (.off (.t 1) 3), none, []⟩,
        ⟨(some 22), (.load none (.t 21)), none, []⟩,
        ⟨(some 23), (.mov (.t 3)), none, []⟩,
        ⟨(some 24), (.iaddr 5 (.t 22) (.t 23)), none, []⟩,
        ⟨(some 25), (.load (some 5) (.t 24)), none, []⟩,
        ⟨(some 26), (.call 52 [(.t 25)]), none, [(19, (.load none (.t 18)), none)]⟩,
        ⟨(some 27), (.iaddr 5 (.t 19) (.t 20)), none, []⟩,
        ⟨none, (.store 5 (.t 27) (.t 26)), none, []⟩] [])))
    (.region [⟨(some 28), (.bin .add (.t 15) (.c (.i .i64 (1)))), none, []⟩,
      ⟨(some 15), (.mov (.t 28)), none, []⟩] []))))
def I52 : IFunc :=
  ⟨(.seq (.region [⟨(some 1), (.box (.t 0)), none, []⟩,
      ⟨(some 2), (.alloc [(.i .i64 (0)), (.i .i64 (0)), (.s []), .ns, .ns]), none, []⟩] [])
    (.seq (.region [⟨(some 4), (.off (.t 1) 4), none, []⟩,
      ⟨(some 5), (.load none (.t 4)), none, []⟩,
      ⟨(some 7), (.off (.t 1) 3), none, []⟩,
      ⟨(some 8), (.load none (.t 7)), none, []⟩,
      ⟨(some 6), (.call 45 [(.t 5)]), none, [(8, (.load none (.t 7)), none)]⟩,
      ⟨(some 10), (.off (.t 1) 4), none, []⟩,
      ⟨(some 9), (.call 63 [(.t 8)]), none, []⟩,
      ⟨none, (.store 1 (.t 10) (.t 6)), none, []⟩,
      ⟨(some 11), (.off (.t 1) 3), none, []⟩,
      ⟨none, (.store 1 (.t 11) (.t 9)), none, []⟩] [])
    (.seq (.seq (.region [⟨(some 12), (.off (.t 1) 3), none, []⟩,
      ⟨(some 13), (.load none (.t 12)), none, []⟩,
      ⟨(some 14), (.lenk 0 (.t 13)), none, []⟩,
      ⟨(some 15), (.mov (.c (.i .i64 (0)))), none, []⟩] [])
    (.block 0
      (.loop L52a)))
    (.seq (.region [⟨(some 29), (.load (some 5) (.t 1)), none, []⟩,
      ⟨none, (.store 5 (.t 2) (.t 29)), none, []⟩] [])
    .ret)))),
    30, 1, [.c 2 (some 5)], 0⟩
theorem tr52 : trFunc Tryz.prog [([], []), ([0, 1, 3, 4, 2, 6, 5, 7, 8, 9], []), ([], []), ([], []), ([], []), ([], []), ([0, 1, 2, 3, 4, 5, 6, 7, 8, 9, 10], []), ([], []), ([], [])] 0 Tryz.f52 = some I52 := by kernel_rfl

/-- '(encore/lift.Ins).fits'. -/
def I53 : IFunc :=
  ⟨(.seq (.region [⟨(some 3), (.box (.t 0)), none, []⟩,
      ⟨(some 6), (.mov (.c (.b false))), none, []⟩] [])
    (.seq (.region [⟨(some 11), (.load (some 5) (.t 3)), none, []⟩,
      ⟨(some 12), (.call 95 [(.t 11)]), none, []⟩,
      ⟨(some 10), (.mov (.t 12)), none, []⟩,
      ⟨(some 13), (.ext (.t 10) 0), none, []⟩,
      ⟨(some 14), (.ext (.t 10) 1), none, []⟩,
      ⟨(some 15), (.ext (.t 10) 2), none, []⟩,
      ⟨(some 7), (.mov (.t 13)), none, []⟩,
      ⟨(some 8), (.mov (.t 14)), none, []⟩,
      ⟨(some 9), (.mov (.t 15)), none, []⟩] [])
    (.seq (.region [⟨(some 16), (.mov (.t 9)), none, []⟩,
      ⟨(some 17), (.mov (.t 16)), none, []⟩,
      ⟨(some 18), (.off (.t 3) 2), (some (17, true)), []⟩,
      ⟨(some 19), (.load none (.t 18)), (some (17, true)), []⟩,
      ⟨(some 20), (.lenk 0 (.t 19)), (some (17, true)), []⟩,
      ⟨(some 21), (.mov (.t 7)), (some (17, true)), []⟩,
      ⟨(some 22), (.bin .geq (.t 20) (.t 21)), (some (17, true)), []⟩,
      ⟨(some 23), (.pick (.t 17) (.t 22) (.c (.b false))), none, []⟩,
      ⟨(some 24), (.mov (.t 23)), none, []⟩,
      ⟨(some 25), (.off (.t 3) 2), (some (24, true)), []⟩,
      ⟨(some 26), (.load none (.t 25)), (some (24, true)), []⟩,
      ⟨(some 27), (.lenk 0 (.t 26)), (some (24, true)), []⟩,
      ⟨(some 28), (.mov (.t 8)), (some (24, true)), []⟩,
      ⟨(some 29), (.bin .leq (.t 27) (.t 28)), (some (24, true)), []⟩,
      ⟨(some 30), (.pick (.t 24) (.t 29) (.c (.b false))), none, []⟩,
      ⟨(some 31), (.mov (.t 30)), none, []⟩,
      ⟨(some 32), (.off (.t 3) 2), (some (31, true)), []⟩,
      ⟨(some 33), (.load none (.t 32)), (some (31, true)), []⟩,
      ⟨(some 34), (.mov (.t 1)), (some (31, true)), []⟩,
      ⟨(some 35), (.mov (.t 2)), (some (31, true)), []⟩,
      ⟨(some 36), (.call 56 [(.t 33), (.t 34), (.t 35)]), (some (31, true)), []⟩,
      ⟨(some 37), (.pick (.t 31) (.t 36) (.c (.b false))), none, []⟩,
      ⟨(some 6), (.mov (.t 37)), none, []⟩] [])
    .ret))),
    38, 3, [.t 6], 0⟩
theorem tr53 : trFunc Tryz.prog [([], []), ([], []), ([], [])] 0 Tryz.f53 = some I53 := by kernel_rfl

/-- '(encore/lift.Operand).fits'. -/
def I54 : IFunc :=
  ⟨(.seq (.region [⟨(some 3), (.box (.t 0)), none, []⟩,
      ⟨(some 6), (.mov (.c (.b false))), none, []⟩] [])
    (.seq (.seq (.region [⟨(some 7), (.off (.t 3) 0), none, []⟩,
      ⟨(some 8), (.load none (.t 7)), none, []⟩] [])
    (.block 0
      (.seq (.region [⟨(some 10), (.bin .eql (.t 8) (.c (.i .i64 (1)))), none, []⟩,
        ⟨(some 9), (.mov (.t 10)), none, []⟩] [])
      (.cond (.t 9)
        (.seq (.region [⟨(some 11), (.off (.t 3) 1), none, []⟩,
          ⟨(some 12), (.load none (.t 11)), none, []⟩,
          ⟨(some 13), (.bin .geq (.t 12) (.c (.i .i64 (0)))), none, []⟩,
          ⟨(some 14), (.mov (.t 13)), none, []⟩,
          ⟨(some 15), (.off (.t 3) 1), (some (14, true)), []⟩,
          ⟨(some 16), (.load none (.t 15)), (some (14, true)), []⟩,
          ⟨(some 17), (.mov (.t 1)), (some (14, true)), []⟩,
          ⟨(some 18), (.bin .lss (.t 16) (.t 17)), (some (14, true)), []⟩,
          ⟨(some 19), (.pick (.t 14) (.t 18) (.c (.b false))), none, []⟩,
          ⟨(some 20), (.mov (.t 19)), none, []⟩,
          ⟨(some 21), (.off (.t 3) 2), (some (20, true)), []⟩,
          ⟨(some 22), (.load (some 5) (.t 21)), (some (20, true)), []⟩,
          ⟨(some 23), (.call 55 [(.t 22)]), (some (20, true)), []⟩,
          ⟨(some 24), (.pick (.t 20) (.t 23) (.c (.b false))), none, []⟩,
          ⟨(some 6), (.mov (.t 24)), none, []⟩] [])
        .ret)
        (.seq (.region [⟨(some 26), (.bin .eql (.t 8) (.c (.i .i64 (2)))), none, []⟩,
          ⟨(some 25), (.mov (.t 26)), none, []⟩] [])
        (.cond (.t 25)
          (.seq (.region [⟨(some 27), (.off (.t 3) 1), none, []⟩,
            ⟨(some 28), (.load none (.t 27)), none, []⟩,
            ⟨(some 29), (.bin .geq (.t 28) (.c (.i .i64 (0)))), none, []⟩,
            ⟨(some 30), (.mov (.t 29)), none, []⟩,
            ⟨(some 31), (.off (.t 3) 1), (some (30, true)), []⟩,
            ⟨(some 32), (.load none (.t 31)), (some (30, true)), []⟩,
            ⟨(some 33), (.mov (.t 2)), (some (30, true)), []⟩,
            ⟨(some 34), (.bin .lss (.t 32) (.t 33)), (some (30, true)), []⟩,
            ⟨(some 35), (.pick (.t 30) (.t 34) (.c (.b false))), none, []⟩,
            ⟨(some 36), (.mov (.t 35)), none, []⟩,
            ⟨(some 37), (.off (.t 3) 2), (some (36, true)), []⟩,
            ⟨(some 38), (.load (some 5) (.t 37)), (some (36, true)), []⟩,
            ⟨(some 39), (.call 55 [(.t 38)]), (some (36, true)), []⟩,
            ⟨(some 40), (.pick (.t 36) (.t 39) (.c (.b false))), none, []⟩,
            ⟨(some 6), (.mov (.t 40)), none, []⟩] [])
          .ret)
          (.seq (.region [⟨(some 42), (.bin .eql (.t 8) (.c (.i .i64 (3)))), none, []⟩,
            ⟨(some 41), (.mov (.t 42)), none, []⟩] [])
          (.cond (.t 41)
            (.seq (.region [⟨(some 43), (.off (.t 3) 1), none, []⟩,
              ⟨(some 44), (.load none (.t 43)), none, []⟩,
              ⟨(some 45), (.bin .eql (.t 44) (.c (.i .i64 (0)))), none, []⟩,
              ⟨(some 46), (.mov (.t 45)), none, []⟩,
              ⟨(some 47), (.off (.t 3) 2), (some (46, true)), []⟩,
              ⟨(some 48), (.load (some 5) (.t 47)), (some (46, true)), []⟩,
              ⟨(some 49), (.call 96 [(.t 48)]), (some (46, true)), []⟩,
              ⟨(some 50), (.pick (.t 46) (.t 49) (.c (.b false))), none, []⟩,
              ⟨(some 6), (.mov (.t 50)), none, []⟩] [])
            .ret)
            .skip))))))))
    (.seq (.region [⟨(some 6), (.mov (.c (.b false))), none, []⟩] [])
    .ret))),
    51, 3, [.t 6], 0⟩
theorem tr54 : trFunc Tryz.prog [([], []), ([], []), ([], []), ([], []), ([], []), ([], []), ([], []), ([], []), ([], []), ([], [])] 0 Tryz.f54 = some I54 := by kernel_rfl

/-- 'encore/lift.none'. -/
def I55 : IFunc :=
  ⟨(.seq (.region [⟨(some 1), (.box (.t 0)), none, []⟩,
      ⟨(some 2), (.mov (.c (.b false))), none, []⟩] [])
    (.seq (.region [⟨(some 3), (.load (some 5) (.t 1)), none, []⟩,
      ⟨(some 4), (.build [(.i .i64 (0)), (.i .i64 (0)), (.s []), .ns, .ns] []), none, []⟩,
      ⟨(some 5), (.call 97 [(.t 3), (.t 4)]), none, []⟩,
      ⟨(some 2), (.mov (.t 5)), none, []⟩] [])
    .ret)),
    6, 1, [.t 2], 0⟩
theorem tr55 : trFunc Tryz.prog [([], []), ([], [])] 0 Tryz.f55 = some I55 := by kernel_rfl

/-- 'encore/lift.fit'. -/
def I56 : IFunc :=
  ⟨(.seq (.region [⟨(some 4), (.box (.t 1)), none, []⟩,
      ⟨(some 5), (.box (.t 2)), none, []⟩,
      ⟨(some 6), (.mov (.c (.b false))), none, []⟩] [])
    (.seq (.region [⟨(some 7), (.mov (.t 0)), none, []⟩,
      ⟨(some 8), (.mkf 98 [] [(.t 4), (.t 5)]), none, []⟩,
      ⟨(some 9), (.call 80 [(.t 7), (.t 8)]), none, []⟩,
      ⟨(some 10), (.un .not (.t 9)), none, []⟩,
      ⟨(some 6), (.mov (.t 10)), none, []⟩] [])
    .ret)),
    11, 3, [.t 6], 0⟩
theorem tr56 : trFunc Tryz.prog [([], []), ([], [])] 0 Tryz.f56 = some I56 := by kernel_rfl

/-- '(*encore/fast.Code).ready$1'. -/
def I57 : IFunc :=
  ⟨(.seq (.region [⟨(some 7), (.mov (.c (.b false))), none, []⟩] [])
    (.seq (.region [⟨(some 9), (.mov (.t 0)), none, []⟩,
      ⟨(some 10), (.load none (.t 5)), none, []⟩,
      ⟨(some 11), (.load none (.t 1)), none, []⟩,
      ⟨(some 12), (.load none (.t 2)), none, []⟩,
      ⟨(some 13), (.load none (.t 3)), none, []⟩,
      ⟨(some 14), (.mov (.t 0)), none, []⟩,
      ⟨(some 16), (.load none (.t 4)), none, []⟩,
      ⟨(some 17), (.mov (.t 0)), none, []⟩,
      ⟨(some 15), (.inv (.t 13) [(135, 243), (137, 244)] [(.t 14)]), none, [(10, (.load none (.t 5)), none), (11, (.load none (.t 1)), none), (12, (.load none (.t 2)), none), (16, (.load none (.t 4)), none)]⟩,
      ⟨(some 18), (.inv (.t 16) [(135, 243), (137, 244)] [(.t 17)]), none, [(10, (.load none (.t 5)), none), (11, (.load none (.t 1)), none), (12, (.load none (.t 2)), none)]⟩,
      ⟨(some 19), (.call 58 [(.t 11), (.t 12), (.t 15), (.t 18)]), none, [(10, (.load none (.t 5)), none)]⟩,
      ⟨(some 8), (.mov (.t 19)), none, []⟩,
      ⟨(some 20), (.ext (.t 8) 0), none, []⟩,
      ⟨(some 21), (.ext (.t 8) 1), none, []⟩,
      ⟨(some 22), (.iaddr 5 (.t 9) (.t 10)), none, []⟩,
      ⟨none, (.store 5 (.t 22) (.t 20)), none, []⟩,
      ⟨(some 7), (.mov (.t 21)), none, []⟩] [])
    (.seq (.region [⟨(some 23), (.mov (.t 7)), none, []⟩,
      ⟨(some 7), (.mov (.t 23)), none, []⟩] [])
    .ret))),
    24, 6, [.t 7], 0⟩
theorem tr57 : trFunc Tryz.prog [([], []), ([0, 1, 2, 3, 4, 5, 7, 8, 6, 9, 10, 11, 12, 13, 14, 15, 16], []), ([], [])] 0 Tryz.f57 = some I57 := by kernel_rfl

/-- 'encore/fast.quick'. -/
def I58 : IFunc :=
  ⟨(.seq (.region [⟨(some 6), (.box (.t 2)), none, []⟩,
      ⟨(some 7), (.box (.t 3)), none, []⟩,
      ⟨(some 8), (.alloc [(.i .i64 (0)), (.i .i64 (0)), (.s []), .ns, .ns]), none, []⟩,
      ⟨(some 9), (.mov (.c (.b false))), none, []⟩] [])
    (.seq (.seq (.region [⟨(some 12), (.off (.t 6) 0), none, []⟩,
      ⟨(some 13), (.load none (.t 12)), none, []⟩,
      ⟨(some 14), (.bin .neq (.t 13) (.c (.i .i64 (1)))), none, []⟩,
      ⟨(some 15), (.mov (.t 14)), none, []⟩,
      ⟨(some 16), (.off (.t 7) 0), (some (15, false)), []⟩,
      ⟨(some 17), (.load none (.t 16)), (some (15, false)), []⟩,
      ⟨(some 18), (.bin .neq (.t 17) (.c (.i .i64 (1)))), (some (15, false)), []⟩,
      ⟨(some 19), (.pick (.t 15) (.c (.b true)) (.t 18)), none, []⟩] [])
    (.cond (.t 19)
      (.seq (.region [⟨(some 20), (.build [(.i .i64 (0)), (.i .i64 (0)), (.s []), .ns, .ns] []), none, []⟩,
        ⟨none, (.store 5 (.t 8) (.t 20)), none, []⟩,
        ⟨(some 9), (.mov (.c (.b false))), none, []⟩] [])
      .ret)
      .skip))
    (.seq (.region [⟨(some 10), (.mov (.f 99)), none, []⟩] [])
    (.seq (.region [⟨(some 21), (.build [(.i .i64 (0)), (.i .i64 (0)), (.s []), .ns, .ns] [(0, 1, (.c (.i .i64 (1))))]), none, []⟩,
      ⟨(some 11), (.alloc [(.i .i64 (0)), (.i .i64 (0)), (.s []), .ns, .ns]), none, []⟩,
      ⟨none, (.store 5 (.t 11) (.t 21)), none, []⟩] [])
    (.seq (.seq (.region [⟨(some 22), (.mov (.t 0)), none, []⟩] [])
    (.block 0
      (.seq (.region [⟨(some 32), (.bin .eql (.t 22) (.c (.i .i64 (43)))), none, []⟩,
        ⟨(some 31), (.mov (.t 32)), none, []⟩] [])
      (.cond (.t 31)
        (.region [⟨(some 33), (.off (.t 6) 1), none, []⟩,
          ⟨(some 34), (.load none (.t 33)), none, []⟩,
          ⟨(some 35), (.off (.t 7) 1), none, []⟩,
          ⟨(some 36), (.load none (.t 35)), none, []⟩,
          ⟨(some 37), (.bin .add (.t 34) (.t 36)), none, []⟩,
          ⟨(some 38), (.off (.t 11) 1), none, []⟩,
          ⟨none, (.store 1 (.t 38) (.t 37)), none, []⟩] [])
        (.seq (.region [⟨(some 40), (.bin .eql (.t 22) (.c (.i .i64 (44)))), none, []⟩,
          ⟨(some 39), (.mov (.t 40)), none, []⟩] [])
        (.cond (.t 39)
          (.region [⟨(some 41), (.off (.t 6) 1), none, []⟩,
            ⟨(some 42), (.load none (.t 41)), none, []⟩,
            ⟨(some 43), (.off (.t 7) 1), none, []⟩,
            ⟨(some 44), (.load none (.t 43)), none, []⟩,
            ⟨(some 45), (.bin .sub (.t 42) (.t 44)), none, []⟩,
            ⟨(some 46), (.off (.t 11) 1), none, []⟩,
            ⟨none, (.store 1 (.t 46) (.t 45)), none, []⟩] [])
          (.seq (.region [⟨(some 48), (.bin .eql (.t 22) (.c (.i .i64 (45)))), none, []⟩,
            ⟨(some 47), (.mov (.t 48)), none, []⟩] [])
          (.cond (.t 47)
            (.region [⟨(some 49), (.off (.t 6) 1), none, []⟩,
              ⟨(some 50), (.load none (.t 49)), none, []⟩,
              ⟨(some 51), (.off (.t 7) 1), none, []⟩,
              ⟨(some 52), (.load none (.t 51)), none, []⟩,
              ⟨(some 53), (.bin .mul (.t 50) (.t 52)), none, []⟩,
              ⟨(some 54), (.off (.t 11) 1), none, []⟩,
              ⟨none, (.store 1 (.t 54) (.t 53)), none, []⟩] [])
            (.seq (.region [⟨(some 56), (.bin .eql (.t 22) (.c (.i .i64 (48)))), none, []⟩,
              ⟨(some 55), (.mov (.t 56)), none, []⟩] [])
            (.cond (.t 55)
              (.region [⟨(some 57), (.off (.t 6) 1), none, []⟩,
                ⟨(some 58), (.load none (.t 57)), none, []⟩,
                ⟨(some 59), (.mov (.t 1)), none, []⟩,
                ⟨(some 60), (.bin .add (.t 58) (.t 59)), none, []⟩,
                ⟨(some 61), (.off (.t 11) 1), none, []⟩,
                ⟨none, (.store 1 (.t 61) (.t 60)), none, []⟩] [])
              (.seq (.region [⟨(some 63), (.bin .eql (.t 22) (.c (.i .i64 (46)))), none, []⟩,
                ⟨(some 62), (.mov (.t 63)), none, []⟩] [])
              (.cond (.t 62)
                (.seq (.region [⟨(some 64), (.mov (.t 10)), none, []⟩,
                  ⟨(some 65), (.off (.t 6) 1), none, []⟩,
                  ⟨(some 66), (.load none (.t 65)), none, []⟩,
                  ⟨(some 67), (.off (.t 7) 1), none, []⟩,
                  ⟨(some 68), (.load none (.t 67)), none, []⟩,
                  ⟨(some 69), (.bin .lss (.t 66) (.t 68)), none, []⟩,
                  ⟨(some 70), (.callv (.t 64) [(.t 69)]), none, []⟩,
                  ⟨(some 71), (.ext (.t 70) 0), none, []⟩,
                  ⟨(some 72), (.ext (.t 70) 1), none, []⟩,
                  ⟨none, (.store 5 (.t 8) (.t 71)), none, []⟩,
                  ⟨(some 9), (.mov (.t 72)), none, []⟩] [])
                .ret)
                (.seq (.region [⟨(some 74), (.bin .eql (.t 22) (.c (.i .i64 (47)))), none, []⟩,
                  ⟨(some 73), (.mov (.t 74)), none, []⟩] [])
                (.cond (.t 73)
                  (.seq (.region [⟨(some 75), (.mov (.t 10)), none, []⟩,
                    ⟨(some 76), (.off (.t 6) 1), none, []⟩,
                    ⟨(some 77), (.load none (.t 76)), none, []⟩,
                    ⟨(some 78), (.off (.t 7) 1), none, []⟩,
                    ⟨(some 79), (.load none (.t 78)), none, []⟩,
                    ⟨(some 80), (.bin .leq (.t 77) (.t 79)), none, []⟩,
                    ⟨(some 81), (.callv (.t 75) [(.t 80)]), none, []⟩,
                    ⟨(some 82), (.ext (.t 81) 0), none, []⟩,
                    ⟨(some 83), (.ext (.t 81) 1), none, []⟩,
                    ⟨none, (.store 5 (.t 8) (.t 82)), none, []⟩,
                    ⟨(some 9), (.mov (.t 83)), none, []⟩] [])
                  .ret)
                  (.seq (.region [⟨(some 23), (.mov (.t 10)), none, []⟩,
                    ⟨(some 24), (.off (.t 6) 1), none, []⟩,
                    ⟨(some 25), (.load none (.t 24)), none, []⟩,
                    ⟨(some 26), (.mov (.t 1)), none, []⟩,
                    ⟨(some 27), (.bin .lss (.t 25) (.t 26)), none, []⟩,
                    ⟨(some 28), (.callv (.t 23) [(.t 27)]), none, []⟩,
                    ⟨(some 29), (.ext (.t 28) 0), none, []⟩,
                    ⟨(some 30), (.ext (.t 28) 1), none, []⟩,
                    ⟨none, (.store 5 (.t 8) (.t 29)), none, []⟩,
                    ⟨(some 9), (.mov (.t 30)), none, []⟩] [])
                  .ret)))))))))))))))
    (.seq (.region [⟨(some 84), (.load (some 5) (.t 11)), none, []⟩,
      ⟨none, (.store 5 (.t 8) (.t 84)), none, []⟩,
      ⟨(some 9), (.mov (.c (.b true))), none, []⟩] [])
    .ret)))))),
    85, 4, [.c 8 (some 5), .t 9], 0⟩
theorem tr58 : trFunc Tryz.prog [([], []), ([], []), ([], []), ([], []), ([], []), ([], []), ([], []), ([], []), ([], []), ([], []), ([], []), ([], []), ([], []), ([], []), ([], []), ([], []), ([], []), ([], []), ([], []), ([], []), ([], [])] 0 Tryz.f58 = some I58 := by kernel_rfl

/-- '(*encore/fast.Code).ready$2'. -/
def L59a : ICode :=
  (.seq (.region [⟨(some 15), (.bin .lss (.t 14) (.t 13)), none, []⟩] [])
    (.seq (.cond (.t 15)
      .skip
      (.exit 0))
    (.seq (.block 1
      (.seq (.region [⟨(some 16), (.mov (.t 14)), none, []⟩,
        ⟨(some 17), (.iaddr 1 (.t 12) (.t 14)), none, []⟩,
        ⟨(some 18), (.load none (.t 17)), none, []⟩,
        ⟨(some 7), (.mov (.t 16)), none, []⟩,
        ⟨(some 8), (.mov (.t 18)), none, []⟩] [])
      (.region [⟨(some 19), (.mov (.t 6)), none, []⟩,
        ⟨(some 20), (.mov (.t 7)), none, []⟩,
        ⟨(some 21), (.mov (.t 8)), none, []⟩,
        ⟨(some 22), (.mov (.t 0)), none, []⟩,
        ⟨(some 23), (.inv (.t 21) [(135, 243), (137, 244)] [(.t 22)]), none, []⟩,
        ⟨(some 24), (.iaddr 5 (.t 19) (.t 20)), none, []⟩,
        ⟨none, (.store 5 (.t 24) (.t 23)), none, []⟩] [])))
    (.region [⟨(some 25), (.bin .add (.t 14) (.c (.i .i64 (1)))), none, []⟩,
      ⟨(some 14), (.mov (.t 25)), none, []⟩] []))))
def I59 : IFunc :=
  ⟨(.seq (.region [⟨(some 5), (.mov (.c (.b false))), none, []⟩] [])
    (.seq (.region [⟨(some 9), (.load none (.t 1)), none, []⟩,
      ⟨(some 10), (.lenk 0 (.t 9)), none, []⟩,
      ⟨(some 11), (.mksl 5 80 [(.i .i64 (0)), (.i .i64 (0)), (.s []), .ns, .ns] (.t 10) (.t 10)), none, []⟩,
      ⟨(some 6), (.mov (.t 11)), none, []⟩] [])
    (.seq (.seq (.region [⟨(some 12), (.load none (.t 1)), none, []⟩,
      ⟨(some 13), (.lenk 0 (.t 12)), none, []⟩,
      ⟨(some 14), (.mov (.c (.i .i64 (0)))), none, []⟩] [])
    (.block 0
      (.loop L59a)))
    (.seq (.region [⟨(some 27), (.mov (.t 0)), none, []⟩,
      ⟨(some 28), (.load none (.t 3)), none, []⟩,
      ⟨(some 29), (.load (some 5) (.t 2)), none, []⟩,
      ⟨(some 30), (.mov (.t 6)), none, []⟩,
      ⟨(some 31), (.call 60 [(.t 29), (.t 30)]), none, [(28, (.load none (.t 3)), none)]⟩,
      ⟨(some 26), (.mov (.t 31)), none, []⟩,
      ⟨(some 32), (.ext (.t 26) 0), none, []⟩,
      ⟨(some 33), (.ext (.t 26) 1), none, []⟩,
      ⟨(some 34), (.iaddr 5 (.t 27) (.t 28)), none, []⟩,
      ⟨none, (.store 5 (.t 34) (.t 32)), none, []⟩,
      ⟨(some 5), (.mov (.t 33)), none, []⟩] [])
    (.seq (.region [⟨(some 35), (.mov (.t 5)), none, []⟩,
      ⟨(some 5), (.mov (.t 35)), none, []⟩] [])
    .ret))))),
    36, 4, [.t 5], 0⟩
theorem tr59 : trFunc Tryz.prog [([], []), ([], []), ([], []), ([], []), ([], []), ([], []), ([], []), ([], []), ([0, 1, 2, 3, 4, 5, 6, 7, 8, 9, 10], []), ([], [])] 0 Tryz.f59 = some I59 := by kernel_rfl

/-- 'encore/lift.Step'. -/
def I60 : IFunc :=
  ⟨(.seq (.region [⟨(some 2), (.box (.t 0)), none, []⟩,
      ⟨(some 4), (.alloc [(.i .i64 (0)), (.i .i64 (0)), (.s []), .ns, .ns]), none, []⟩,
      ⟨(some 5), (.mov (.c (.b false))), none, []⟩] [])
    (.seq (.region [⟨(some 12), (.load (some 5) (.t 2)), none, []⟩,
      ⟨(some 13), (.call 95 [(.t 12)]), none, []⟩,
      ⟨(some 11), (.mov (.t 13)), none, []⟩,
      ⟨(some 14), (.ext (.t 11) 0), none, []⟩,
      ⟨(some 15), (.ext (.t 11) 1), none, []⟩,
      ⟨(some 16), (.ext (.t 11) 2), none, []⟩,
      ⟨(some 6), (.mov (.t 14)), none, []⟩,
      ⟨(some 7), (.mov (.t 15)), none, []⟩,
      ⟨(some 8), (.mov (.t 16)), none, []⟩] [])
    (.seq (.seq (.region [⟨(some 17), (.mov (.t 8)), none, []⟩,
      ⟨(some 18), (.un .not (.t 17)), none, []⟩,
      ⟨(some 19), (.mov (.t 18)), none, []⟩,
      ⟨(some 20), (.mov (.t 1)), (some (19, false)), []⟩,
      ⟨(some 21), (.lenk 0 (.t 20)), (some (19, false)), []⟩,
      ⟨(some 22), (.mov (.t 6)), (some (19, false)), []⟩,
      ⟨(some 23), (.bin .lss (.t 21) (.t 22)), (some (19, false)), []⟩,
      ⟨(some 24), (.pick (.t 19) (.c (.b true)) (.t 23)), none, []⟩,
      ⟨(some 25), (.mov (.t 24)), none, []⟩,
      ⟨(some 26), (.mov (.t 1)), (some (25, false)), []⟩,
      ⟨(some 27), (.lenk 0 (.t 26)), (some (25, false)), []⟩,
      ⟨(some 28), (.mov (.t 7)), (some (25, false)), []⟩,
      ⟨(some 29), (.bin .gtr (.t 27) (.t 28)), (some (25, false)), []⟩,
      ⟨(some 30), (.pick (.t 25) (.c (.b true)) (.t 29)), none, []⟩,
      ⟨(some 31), (.mov (.t 30)), none, []⟩,
      ⟨(some 32), (.mov (.t 1)), (some (31, false)), []⟩,
      ⟨(some 33), (.call 26 [(.t 32), (.f 100)]), (some (31, false)), []⟩,
      ⟨(some 34), (.pick (.t 31) (.c (.b true)) (.t 33)), none, []⟩] [])
    (.cond (.t 34)
      (.seq (.region [⟨(some 35), (.build [(.i .i64 (0)), (.i .i64 (0)), (.s []), .ns, .ns] []), none, []⟩,
        ⟨none, (.store 5 (.t 4) (.t 35)), none, []⟩,
        ⟨(some 5), (.mov (.c (.b false))), none, []⟩] [])
      .ret)
      .skip))
    (.seq (.seq (.region [⟨(some 37), (.load (some 5) (.t 2)), none, []⟩,
      ⟨(some 38), (.mov (.t 1)), none, []⟩,
      ⟨(some 40), (.off (.t 2) 0), none, []⟩,
      ⟨(some 41), (.load none (.t 40)), none, []⟩,
      ⟨(some 39), (.call 101 [(.t 37), (.t 38)]), none, [(41, (.load none (.t 40)), none)]⟩,
      ⟨(some 42), (.look false [1] .nf true (.t 39) (.t 41)), none, []⟩,
      ⟨(some 36), (.mov (.t 42)), none, []⟩,
      ⟨(some 43), (.ext (.t 36) 0), none, []⟩,
      ⟨(some 44), (.ext (.t 36) 1), none, []⟩,
      ⟨(some 9), (.mov (.t 43)), none, []⟩,
      ⟨(some 10), (.mov (.t 44)), none, []⟩] [])
    (.block 0
      (.seq (.region [⟨(some 59), (.mov (.t 10)), none, []⟩,
        ⟨(some 58), (.mov (.t 59)), none, []⟩] [])
      (.cond (.t 58)
        (.region [⟨(some 61), (.mov (.t 9)), none, []⟩,
          ⟨(some 62), (.callv (.t 61) []), none, []⟩,
          ⟨(some 60), (.mov (.t 62)), none, []⟩,
          ⟨(some 63), (.ext (.t 60) 0), none, []⟩,
          ⟨(some 64), (.ext (.t 60) 1), none, []⟩,
          ⟨none, (.store 5 (.t 4) (.t 63)), none, []⟩,
          ⟨(some 5), (.mov (.t 64)), none, []⟩] [])
        (.seq (.region [⟨(some 66), (.mov (.t 6)), none, []⟩,
          ⟨(some 67), (.bin .eql (.t 66) (.c (.i .i64 (2)))), none, []⟩,
          ⟨(some 65), (.mov (.t 67)), none, []⟩] [])
        (.cond (.t 65)
          (.region [⟨(some 69), (.off (.t 2) 0), none, []⟩,
            ⟨(some 70), (.load none (.t 69)), none, []⟩,
            ⟨(some 71), (.mov (.t 1)), none, []⟩,
            ⟨(some 72), (.iaddr 5 (.t 71) (.c (.i .i64 (0)))), none, []⟩,
            ⟨(some 73), (.load (some 5) (.t 72)), none, []⟩,
            ⟨(some 74), (.mov (.t 1)), none, []⟩,
            ⟨(some 75), (.iaddr 5 (.t 74) (.c (.i .i64 (1)))), none, []⟩,
            ⟨(some 76), (.load (some 5) (.t 75)), none, []⟩,
            ⟨(some 77), (.call 103 [(.t 70), (.t 73), (.t 76)]), none, []⟩,
            ⟨(some 78), (.ext (.t 77) 0), none, []⟩,
            ⟨(some 79), (.ext (.t 77) 1), none, []⟩,
            ⟨(some 80), (.ext (.t 77) 2), none, []⟩,
            ⟨(some 81), (.call 102 [(.t 78), (.t 79), (.t 80)]), none, []⟩,
            ⟨(some 68), (.mov (.t 81)), none, []⟩,
            ⟨(some 82), (.ext (.t 68) 0), none, []⟩,
            ⟨(some 83), (.ext (.t 68) 1), none, []⟩,
            ⟨none, (.store 5 (.t 4) (.t 82)), none, []⟩,
            ⟨(some 5), (.mov (.t 83)), none, []⟩] [])
          (.region [⟨(some 46), (.off (.t 2) 0), none, []⟩,
            ⟨(some 47), (.load none (.t 46)), none, []⟩,
            ⟨(some 48), (.mov (.t 1)), none, []⟩,
            ⟨(some 49), (.iaddr 5 (.t 48) (.c (.i .i64 (0)))), none, []⟩,
            ⟨(some 50), (.load (some 5) (.t 49)), none, []⟩,
            ⟨(some 51), (.call 104 [(.t 47), (.t 50)]), none, []⟩,
            ⟨(some 52), (.ext (.t 51) 0), none, []⟩,
            ⟨(some 53), (.ext (.t 51) 1), none, []⟩,
            ⟨(some 54), (.ext (.t 51) 2), none, []⟩,
            ⟨(some 55), (.call 102 [(.t 52), (.t 53), (.t 54)]), none, []⟩,
            ⟨(some 45), (.mov (.t 55)), none, []⟩,
            ⟨(some 56), (.ext (.t 45) 0), none, []⟩,
            ⟨(some 57), (.ext (.t 45) 1), none, []⟩,
            ⟨none, (.store 5 (.t 4) (.t 56)), none, []⟩,
            ⟨(some 5), (.mov (.t 57)), none, []⟩] [])))))))
    (.seq (.seq (.region [⟨(some 84), (.mov (.t 5)), none, []⟩,
      ⟨(some 85), (.un .not (.t 84)), none, []⟩] [])
    (.cond (.t 85)
      (.seq (.region [⟨(some 86), (.build [(.i .i64 (0)), (.i .i64 (0)), (.s []), .ns, .ns] []), none, []⟩,
        ⟨none, (.store 5 (.t 4) (.t 86)), none, []⟩,
        ⟨(some 5), (.mov (.c (.b false))), none, []⟩] [])
      .ret)
      .skip))
    (.seq (.region [⟨(some 87), (.load (some 5) (.t 4)), none, []⟩,
      ⟨(some 88), (.call 105 [(.t 87)]), none, []⟩,
      ⟨none, (.store 5 (.t 4) (.t 88)), none, []⟩,
      ⟨(some 5), (.mov (.c (.b true))), none, []⟩] [])
    .ret)))))),
    89, 2, [.c 4 (some 5), .t 5], 0⟩
theorem tr60 : trFunc Tryz.prog [([], []), ([], []), ([], []), ([], []), ([], []), ([0, 1, 3, 4, 2, 5, 6, 7, 8, 9, 10], []), ([], []), ([], []), ([], []), ([0, 1, 2, 3, 4, 5, 6, 7, 8, 9, 10, 11, 12, 13, 14, 15, 16, 17], []), ([0, 1, 2, 3, 4, 5, 6, 7, 8, 9, 10, 11, 12, 13, 14], []), ([], []), ([], []), ([], []), ([], [])] 0 Tryz.f60 = some I60 := by kernel_rfl

/-- 'encore/value.fits'. -/
def L61a : ICode :=
  (.seq (.region [⟨(some 22), (.bin .lss (.t 21) (.t 20)), none, []⟩] [])
    (.seq (.cond (.t 22)
      .skip
      (.exit 0))
    (.seq (.block 1
      (.seq (.region [⟨(some 23), (.iaddr 1 (.t 19) (.t 21)), none, []⟩,
        ⟨(some 24), (.load none (.t 23)), none, []⟩,
        ⟨(some 9), (.mov (.t 24)), none, []⟩] [])
      (.region [⟨(some 25), (.mov (.t 2)), none, []⟩,
        ⟨(some 26), (.mov (.t 9)), none, []⟩,
        ⟨(some 27), (.lenk 1 (.t 26)), none, []⟩,
        ⟨(some 28), (.bin .sub (.t 25) (.t 27)), none, []⟩,
        ⟨(some 2), (.mov (.t 28)), none, []⟩] [])))
    (.region [⟨(some 29), (.bin .add (.t 21) (.c (.i .i64 (1)))), none, []⟩,
      ⟨(some 21), (.mov (.t 29)), none, []⟩] []))))
def L61b : ICode :=
  (.seq (.region [⟨(some 45), (.bin .lss (.t 44) (.t 43)), none, []⟩] [])
    (.seq (.cond (.t 45)
      .skip
      (.exit 2))
    (.seq (.block 3
      (.seq (.region [⟨(some 46), (.mov (.t 44)), none, []⟩,
        ⟨(some 11), (.mov (.t 46)), none, []⟩] [])
      (.seq (.region [⟨(some 48), (.off (.t 3) 3), none, []⟩,
        ⟨(some 49), (.load none (.t 48)), none, []⟩,
        ⟨(some 50), (.mov (.t 11)), none, []⟩,
        ⟨(some 51), (.iaddr 5 (.t 49) (.t 50)), none, []⟩,
        ⟨(some 52), (.load (some 5) (.t 51)), none, []⟩,
        ⟨(some 53), (.mov (.t 1)), none, []⟩,
        ⟨(some 54), (.bin .add (.t 53) (.c (.i .i64 (1)))), none, []⟩,
        ⟨(some 55), (.mov (.t 2)), none, []⟩,
        ⟨(some 56), (.call 61 [(.t 52), (.t 54), (.t 55)]), none, []⟩,
        ⟨(some 47), (.mov (.t 56)), none, []⟩,
        ⟨(some 57), (.ext (.t 47) 0), none, []⟩,
        ⟨(some 58), (.ext (.t 47) 1), none, []⟩,
        ⟨(some 2), (.mov (.t 57)), none, []⟩,
        ⟨(some 10), (.mov (.t 58)), none, []⟩] [])
      (.seq (.region [⟨(some 59), (.mov (.t 10)), none, []⟩,
        ⟨(some 60), (.un .not (.t 59)), none, []⟩] [])
      (.cond (.t 60)
        (.seq (.region [⟨(some 6), (.mov (.c (.i .i64 (0)))), none, []⟩,
          ⟨(some 7), (.mov (.c (.b false))), none, []⟩] [])
        .ret)
        .skip)))))
    (.region [⟨(some 61), (.bin .add (.t 44) (.c (.i .i64 (1)))), none, []⟩,
      ⟨(some 44), (.mov (.t 61)), none, []⟩] []))))
def I61 : IFunc :=
  ⟨(.seq (.region [⟨(some 3), (.box (.t 0)), none, []⟩,
      ⟨(some 6), (.mov (.c (.i .i64 (0)))), none, []⟩,
      ⟨(some 7), (.mov (.c (.b false))), none, []⟩] [])
    (.seq (.region [⟨(some 12), (.mov (.t 2)), none, []⟩,
      ⟨(some 13), (.off (.t 3) 2), none, []⟩,
      ⟨(some 14), (.load none (.t 13)), none, []⟩,
      ⟨(some 15), (.lenk 1 (.t 14)), none, []⟩,
      ⟨(some 16), (.bin .add (.c (.i .i64 (1))) (.t 15)), none, []⟩,
      ⟨(some 17), (.bin .sub (.t 12) (.t 16)), none, []⟩,
      ⟨(some 2), (.mov (.t 17)), none, []⟩] [])
    (.seq (.seq (.region [⟨(some 18), (.off (.t 3) 4), none, []⟩,
      ⟨(some 19), (.load none (.t 18)), none, []⟩,
      ⟨(some 20), (.lenk 0 (.t 19)), none, []⟩,
      ⟨(some 21), (.mov (.c (.i .i64 (0)))), none, []⟩] [])
    (.block 0
      (.loop L61a)))
    (.seq (.seq (.region [⟨(some 30), (.mov (.t 1)), none, []⟩,
      ⟨(some 31), (.bin .geq (.t 30) (.c (.i .i64 (8)))), none, []⟩,
      ⟨(some 32), (.mov (.t 31)), none, []⟩,
      ⟨(some 33), (.mov (.t 2)), (some (32, false)), []⟩,
      ⟨(some 34), (.bin .lss (.t 33) (.c (.i .i64 (0)))), (some (32, false)), []⟩,
      ⟨(some 35), (.pick (.t 32) (.c (.b true)) (.t 34)), none, []⟩,
      ⟨(some 36), (.mov (.t 35)), none, []⟩,
      ⟨(some 37), (.load (some 5) (.t 3)), (some (36, false)), []⟩,
      ⟨(some 38), (.call 106 [(.t 37)]), (some (36, false)), []⟩,
      ⟨(some 39), (.un .not (.t 38)), (some (36, false)), []⟩,
      ⟨(some 40), (.pick (.t 36) (.c (.b true)) (.t 39)), none, []⟩] [])
    (.cond (.t 40)
      (.seq (.region [⟨(some 6), (.mov (.c (.i .i64 (0)))), none, []⟩,
        ⟨(some 7), (.mov (.c (.b false))), none, []⟩] [])
      .ret)
      .skip))
    (.seq (.region [⟨(some 10), (.mov (.c (.b true))), none, []⟩] [])
    (.seq (.seq (.region [⟨(some 41), (.off (.t 3) 3), none, []⟩,
      ⟨(some 42), (.load none (.t 41)), none, []⟩,
      ⟨(some 43), (.lenk 0 (.t 42)), none, []⟩,
      ⟨(some 44), (.mov (.c (.i .i64 (0)))), none, []⟩] [])
    (.block 2
      (.loop L61b)))
    (.seq (.region [⟨(some 62), (.mov (.t 2)), none, []⟩,
      ⟨(some 6), (.mov (.t 62)), none, []⟩,
      ⟨(some 7), (.mov (.c (.b true))), none, []⟩] [])
    .ret))))))),
    63, 3, [.t 6, .t 7], 0⟩
theorem tr61 : trFunc Tryz.prog [([], []), ([], []), ([], []), ([], []), ([], []), ([], []), ([], []), ([], []), ([], []), ([], []), ([], []), ([], []), ([], []), ([], []), ([], []), ([], []), ([], []), ([], []), ([], []), ([], []), ([], []), ([], [])] 0 Tryz.f61 = some I61 := by kernel_rfl

/-- 'slices.IndexFunc[[]encore/api.Value,encore/api.Value]'. -/
def L62a : ICode :=
  (.seq (.region [⟨(some 9), (.bin .lss (.t 8) (.t 7)), none, []⟩] [])
    (.seq (.cond (.t 9)
      .skip
      (.exit 0))
    (.seq (.block 1
      (.seq (.region [⟨(some 10), (.mov (.t 8)), none, []⟩,
        ⟨(some 5), (.mov (.t 10)), none, []⟩] [])
      (.seq (.region [⟨(some 11), (.mov (.t 1)), none, []⟩,
        ⟨(some 12), (.mov (.t 0)), none, []⟩,
        ⟨(some 13), (.mov (.t 5)), none, []⟩,
        ⟨(some 14), (.iaddr 5 (.t 12) (.t 13)), none, []⟩,
        ⟨(some 15), (.load (some 5) (.t 14)), none, []⟩,
        ⟨(some 16), (.callv (.t 11) [(.t 15)]), none, []⟩] [])
      (.cond (.t 16)
        (.seq (.region [⟨(some 17), (.mov (.t 5)), none, []⟩,
          ⟨(some 4), (.mov (.t 17)), none, []⟩] [])
        .ret)
        .skip))))
    (.region [⟨(some 18), (.bin .add (.t 8) (.c (.i .i64 (1)))), none, []⟩,
      ⟨(some 8), (.mov (.t 18)), none, []⟩] []))))
def I62 : IFunc :=
  ⟨(.seq (.region [⟨(some 4), (.mov (.c (.i .i64 (0)))), none, []⟩] [])
    (.seq (.seq (.region [⟨(some 6), (.mov (.t 0)), none, []⟩,
      ⟨(some 7), (.lenk 0 (.t 6)), none, []⟩,
      ⟨(some 8), (.mov (.c (.i .i64 (0)))), none, []⟩] [])
    (.block 0
      (.loop L62a)))
    (.seq (.region [⟨(some 4), (.mov (.c (.i .i64 (-1)))), none, []⟩] [])
    .ret))),
    19, 2, [.t 4], 0⟩
theorem tr62 : trFunc Tryz.prog [([], []), ([], []), ([], []), ([], []), ([], []), ([], []), ([], []), ([], []), ([], []), ([], [])] 0 Tryz.f62 = some I62 := by kernel_rfl

/-- 'slices.Clone[[]encore/api.Value,encore/api.Value]'. -/
def I63 : IFunc :=
  ⟨(.seq (.region [⟨(some 2), (.mov (.c .ns)), none, []⟩] [])
    (.seq (.seq (.region [⟨(some 3), (.mov (.t 0)), none, []⟩,
      ⟨(some 4), (.eqNil 0 false (.t 3) (.c .ns)), none, []⟩] [])
    (.cond (.t 4)
      (.seq (.region [⟨(some 2), (.mov (.c .ns)), none, []⟩] [])
      .ret)
      .skip))
    (.seq (.region [⟨(some 5), (.bsl 5 0 [] []), none, []⟩,
      ⟨(some 6), (.mov (.t 0)), none, []⟩,
      ⟨(some 7), (.app 5 80 (.t 5) (.t 6)), none, []⟩,
      ⟨(some 2), (.mov (.t 7)), none, []⟩] [])
    .ret))),
    8, 1, [.t 2], 0⟩
theorem tr63 : trFunc Tryz.prog [([], []), ([], []), ([], []), ([], []), ([], [])] 0 Tryz.f63 = some I63 := by kernel_rfl

/-- 'encore/encoreref20.SameIns'. -/
def I64 : IFunc :=
  ⟨(.seq (.region [⟨(some 2), (.box (.t 0)), none, []⟩,
      ⟨(some 3), (.box (.t 1)), none, []⟩,
      ⟨(some 4), (.mov (.c (.b false))), none, []⟩] [])
    (.seq (.region [⟨(some 5), (.off (.t 2) 0), none, []⟩,
      ⟨(some 6), (.load none (.t 5)), none, []⟩,
      ⟨(some 7), (.off (.t 3) 0), none, []⟩,
      ⟨(some 8), (.load none (.t 7)), none, []⟩,
      ⟨(some 9), (.bin .eql (.t 6) (.t 8)), none, []⟩,
      ⟨(some 10), (.mov (.t 9)), none, []⟩,
      ⟨(some 11), (.off (.t 2) 1), (some (10, true)), []⟩,
      ⟨(some 12), (.load none (.t 11)), (some (10, true)), []⟩,
      ⟨(some 13), (.off (.t 3) 1), (some (10, true)), []⟩,
      ⟨(some 14), (.load none (.t 13)), (some (10, true)), []⟩,
      ⟨(some 15), (.bin .eql (.t 12) (.t 14)), (some (10, true)), []⟩,
      ⟨(some 16), (.pick (.t 10) (.t 15) (.c (.b false))), none, []⟩,
      ⟨(some 17), (.mov (.t 16)), none, []⟩,
      ⟨(some 18), (.off (.t 2) 3), (some (17, true)), []⟩,
      ⟨(some 19), (.load none (.t 18)), (some (17, true)), []⟩,
      ⟨(some 20), (.off (.t 3) 3), (some (17, true)), []⟩,
      ⟨(some 21), (.load none (.t 20)), (some (17, true)), []⟩,
      ⟨(some 22), (.bin .eql (.t 19) (.t 21)), (some (17, true)), []⟩,
      ⟨(some 23), (.pick (.t 17) (.t 22) (.c (.b false))), none, []⟩,
      ⟨(some 24), (.mov (.t 23)), none, []⟩,
      ⟨(some 25), (.off (.t 2) 2), (some (24, true)), []⟩,
      ⟨(some 26), (.load none (.t 25)), (some (24, true)), []⟩,
      ⟨(some 27), (.off (.t 3) 2), (some (24, true)), []⟩,
      ⟨(some 28), (.load none (.t 27)), (some (24, true)), []⟩,
      ⟨(some 29), (.call 65 [(.t 26), (.t 28)]), (some (24, true)), []⟩,
      ⟨(some 30), (.pick (.t 24) (.t 29) (.c (.b false))), none, []⟩,
      ⟨(some 31), (.mov (.t 30)), none, []⟩,
      ⟨(some 32), (.off (.t 2) 4), (some (31, true)), []⟩,
      ⟨(some 33), (.load none (.t 32)), (some (31, true)), []⟩,
      ⟨(some 34), (.off (.t 3) 4), (some (31, true)), []⟩,
      ⟨(some 35), (.load none (.t 34)), (some (31, true)), []⟩,
      ⟨(some 36), (.call 107 [(.t 33), (.t 35)]), (some (31, true)), []⟩,
      ⟨(some 37), (.pick (.t 31) (.t 36) (.c (.b false))), none, []⟩,
      ⟨(some 4), (.mov (.t 37)), none, []⟩] [])
    .ret)),
    38, 2, [.t 4], 0⟩
theorem tr64 : trFunc Tryz.prog [([], []), ([], [])] 0 Tryz.f64 = some I64 := by kernel_rfl

/-- 'encore/encoreref20.SameOperands'. -/
def L65a : ICode :=
  (.seq (.seq (.region [⟨(some 11), (.mov (.t 5)), none, []⟩,
      ⟨(some 12), (.mov (.t 0)), none, []⟩,
      ⟨(some 13), (.lenk 0 (.t 12)), none, []⟩,
      ⟨(some 14), (.bin .lss (.t 11) (.t 13)), none, []⟩] [])
    (.cond (.t 14)
      .skip
      (.exit 0)))
    (.seq (.block 1
      (.seq (.region [⟨(some 17), (.mov (.t 0)), none, []⟩,
        ⟨(some 18), (.mov (.t 5)), none, []⟩,
        ⟨(some 19), (.iaddr 7 (.t 17) (.t 18)), none, []⟩,
        ⟨(some 20), (.load (some 7) (.t 19)), none, []⟩,
        ⟨(some 21), (.mov (.t 1)), none, []⟩,
        ⟨(some 22), (.mov (.t 5)), none, []⟩,
        ⟨(some 23), (.iaddr 7 (.t 21) (.t 22)), none, []⟩,
        ⟨(some 24), (.load (some 7) (.t 23)), none, []⟩,
        ⟨(some 25), (.call 66 [(.t 20), (.t 24)]), none, []⟩,
        ⟨(some 26), (.un .not (.t 25)), none, []⟩] [])
      (.cond (.t 26)
        (.seq (.region [⟨(some 4), (.mov (.c (.b false))), none, []⟩] [])
        .ret)
        .skip)))
    (.region [⟨(some 15), (.mov (.t 5)), none, []⟩,
      ⟨(some 16), (.bin .add (.t 15) (.c (.i .i64 (1)))), none, []⟩,
      ⟨(some 5), (.mov (.t 16)), none, []⟩] [])))
def I65 : IFunc :=
  ⟨(.seq (.region [⟨(some 4), (.mov (.c (.b false))), none, []⟩] [])
    (.seq (.seq (.region [⟨(some 6), (.mov (.t 0)), none, []⟩,
      ⟨(some 7), (.lenk 0 (.t 6)), none, []⟩,
      ⟨(some 8), (.mov (.t 1)), none, []⟩,
      ⟨(some 9), (.lenk 0 (.t 8)), none, []⟩,
      ⟨(some 10), (.bin .neq (.t 7) (.t 9)), none, []⟩] [])
    (.cond (.t 10)
      (.seq (.region [⟨(some 4), (.mov (.c (.b false))), none, []⟩] [])
      .ret)
      .skip))
    (.seq (.seq (.region [⟨(some 5), (.mov (.c (.i .i64 (0)))), none, []⟩] [])
    (.block 0
      (.loop L65a)))
    (.seq (.region [⟨(some 4), (.mov (.c (.b true))), none, []⟩] [])
    .ret)))),
    27, 2, [.t 4], 0⟩
theorem tr65 : trFunc Tryz.prog [([], []), ([], []), ([], []), ([], []), ([], []), ([], []), ([], []), ([0, 1, 2, 3, 4, 5, 6, 7, 8, 9], []), ([], []), ([], []), ([], []), ([], [])] 0 Tryz.f65 = some I65 := by kernel_rfl

/-- 'encore/encoreref20.SameOperand'. -/
def I66 : IFunc :=
  ⟨(.seq (.region [⟨(some 2), (.box (.t 0)), none, []⟩,
      ⟨(some 3), (.box (.t 1)), none, []⟩,
      ⟨(some 4), (.mov (.c (.b false))), none, []⟩] [])
    (.seq (.region [⟨(some 5), (.off (.t 2) 0), none, []⟩,
      ⟨(some 6), (.load none (.t 5)), none, []⟩,
      ⟨(some 7), (.off (.t 3) 0), none, []⟩,
      ⟨(some 8), (.load none (.t 7)), none, []⟩,
      ⟨(some 9), (.bin .eql (.t 6) (.t 8)), none, []⟩,
      ⟨(some 10), (.mov (.t 9)), none, []⟩,
      ⟨(some 11), (.off (.t 2) 1), (some (10, true)), []⟩,
      ⟨(some 12), (.load none (.t 11)), (some (10, true)), []⟩,
      ⟨(some 13), (.off (.t 3) 1), (some (10, true)), []⟩,
      ⟨(some 14), (.load none (.t 13)), (some (10, true)), []⟩,
      ⟨(some 15), (.bin .eql (.t 12) (.t 14)), (some (10, true)), []⟩,
      ⟨(some 16), (.pick (.t 10) (.t 15) (.c (.b false))), none, []⟩,
      ⟨(some 17), (.mov (.t 16)), none, []⟩,
      ⟨(some 18), (.off (.t 2) 2), (some (17, true)), []⟩,
      ⟨(some 19), (.load (some 5) (.t 18)), (some (17, true)), []⟩,
      ⟨(some 20), (.off (.t 3) 2), (some (17, true)), []⟩,
      ⟨(some 21), (.load (some 5) (.t 20)), (some (17, true)), []⟩,
      ⟨(some 22), (.call 31 [(.t 19), (.t 21)]), (some (17, true)), []⟩,
      ⟨(some 23), (.pick (.t 17) (.t 22) (.c (.b false))), none, []⟩,
      ⟨(some 4), (.mov (.t 23)), none, []⟩] [])
    .ret)),
    24, 2, [.t 4], 0⟩
theorem tr66 : trFunc Tryz.prog [([], []), ([], [])] 0 Tryz.f66 = some I66 := by kernel_rfl


end Go.Proofs.YteoliiakbmomeadGreatDoor

