import Derived.Test.YtghhbelpkckmaaaDoorRows
import Derived.Test.YtghhbelpkckmaaaDoorM05
set_option linter.unusedVariables false
set_option linter.unusedSimpArgs false
set_option linter.unusedSectionVars false
/- The functions that the statement reaches, as the interpreter has them, with modes. Conditions: none. -/
namespace Go.Proofs.YtghhbelpkckmaaaDoor
open Go Go.RI

/-- 'encore/encorelaw24.FuseAgain'. -/
def I3 : IFunc :=
  ⟨(.seq (.region [⟨(some 1), (.box (.t 0)), none, []⟩,
      ⟨(some 2), (.mov (.c (.b false))), none, []⟩] [0, 2])
    (.seq (.seq (.region [⟨(some 5), (.call 6 []), none, []⟩,
      ⟨(some 6), (.un .not (.t 5)), none, []⟩] [5])
    (.cond (.t 6)
      (.seq (.region [⟨(some 2), (.mov (.c (.b false))), none, []⟩] [1, 6])
      .ret)
      (.region [] [6])))
    (.seq (.region [⟨(some 8), (.load (some 16) (.t 1)), none, []⟩,
      ⟨(some 9), (.call 8 [(.t 8)]), none, []⟩,
      ⟨(some 10), (.call 7 [(.t 9)]), none, []⟩,
      ⟨(some 7), (.mov (.t 10)), none, []⟩,
      ⟨(some 11), (.ext (.t 7) 0), none, []⟩,
      ⟨(some 12), (.ext (.t 7) 1), none, []⟩,
      ⟨(some 3), (.alloc [(.i .i64 (0)), (.i .i64 (0)), (.i .i64 (0)), (.i .i64 (0)), .ns, .ns, (.i .i64 (0)), (.i .i64 (0)), (.i .i64 (0)), (.i .i64 (0)), (.i .i64 (0)), (.i .i64 (0)), (.s []), .ns, .ns, (.i .i64 (0))]), none, []⟩,
      ⟨none, (.store 16 (.t 3) (.t 11)), none, []⟩,
      ⟨(some 4), (.mov (.t 12)), none, []⟩] [8, 9, 10, 7, 11, 12])
    (.seq (.seq (.region [⟨(some 13), (.mov (.t 4)), none, []⟩,
      ⟨(some 14), (.bin .neq (.t 13) (.c (.i .i64 (0)))), none, []⟩] [4, 13])
    (.cond (.t 14)
      (.seq (.region [⟨(some 15), (.off (.t 3) 4), none, []⟩,
        ⟨(some 16), (.load none (.t 15)), none, []⟩,
        ⟨(some 17), (.lenk 0 (.t 16)), none, []⟩,
        ⟨(some 18), (.bin .eql (.t 17) (.c (.i .i64 (0)))), none, []⟩,
        ⟨(some 2), (.mov (.t 18)), none, []⟩] [1, 3, 14, 15, 16, 17, 18])
      .ret)
      (.region [] [14])))
    (.seq (.region [⟨(some 19), (.off (.t 3) 4), none, []⟩,
      ⟨(some 20), (.load none (.t 19)), none, []⟩,
      ⟨(some 21), (.lenk 0 (.t 20)), none, []⟩,
      ⟨(some 22), (.off (.t 1) 4), none, []⟩,
      ⟨(some 23), (.load none (.t 22)), none, []⟩,
      ⟨(some 24), (.lenk 0 (.t 23)), none, []⟩,
      ⟨(some 25), (.bin .eql (.t 21) (.t 24)), none, []⟩,
      ⟨(some 26), (.mov (.t 25)), none, []⟩,
      ⟨(some 27), (.load (some 16) (.t 3)), (some (26, true)), []⟩,
      ⟨(some 28), (.load (some 16) (.t 3)), (some (26, true)), []⟩,
      ⟨(some 29), (.call 9 [(.t 27), (.t 28)]), (some (26, true)), []⟩,
      ⟨(some 30), (.pick (.t 26) (.t 29) (.c (.b false))), none, []⟩,
      ⟨(some 2), (.mov (.t 30)), none, []⟩] [1, 3, 19, 20, 21, 22, 23, 24, 25, 26, 27, 28, 29, 30])
    .ret))))),
    31, 1, [.t 2], 0⟩
theorem tr3 : trFunc Tryd.prog [([], [0, 2]), ([], [5]), ([], [1, 6]), ([], [6]), ([], [8, 9, 10, 7, 11, 12]), ([], [4, 13]), ([], [1, 3, 14, 15, 16, 17, 18]), ([], [14]), ([], [1, 3, 19, 20, 21, 22, 23, 24, 25, 26, 27, 28, 29, 30])] 0 Tryd.f3 = some (plain1 I3) := by kernel_rfl
theorem ck3 : ckC 2 I3.body = true := by kernel_rfl

/-- 'encore/encorelaw24.FuseLeft'. -/
def L4a : ICode :=
  (.seq (.seq (.region [⟨(some 32), (.mov (.t 7)), none, []⟩,
      ⟨(some 33), (.off (.t 6) 2), none, []⟩,
      ⟨(some 34), (.load none (.t 33)), none, []⟩,
      ⟨(some 35), (.lenk 0 (.t 34)), none, []⟩,
      ⟨(some 36), (.bin .lss (.t 32) (.t 35)), none, []⟩] [32, 33, 34, 35])
    (.cond (.t 36)
      (.region [] [36])
      (.exit 2)))
    (.seq (.block 3
      (.seq (.region [⟨(some 39), (.off (.t 6) 2), none, []⟩,
        ⟨(some 40), (.load none (.t 39)), none, []⟩,
        ⟨(some 41), (.mov (.t 7)), none, []⟩,
        ⟨(some 42), (.iaddr 7 (.t 40) (.t 41)), none, []⟩,
        ⟨(some 43), (.load (some 7) (.t 42)), none, []⟩,
        ⟨(some 8), (.alloc [(.i .i64 (0)), (.i .i64 (0)), (.i .i64 (0)), (.i .i64 (0)), (.s []), .ns, .ns]), none, []⟩,
        ⟨none, (.store 7 (.t 8) (.t 43)), none, []⟩] [39, 40, 41, 42, 43])
      (.seq (.region [⟨(some 44), (.off (.t 8) 0), none, []⟩,
        ⟨(some 45), (.load none (.t 44)), none, []⟩,
        ⟨(some 46), (.bin .eql (.t 45) (.c (.i .i64 (3)))), none, []⟩,
        ⟨(some 47), (.mov (.t 46)), none, []⟩,
        ⟨(some 48), (.off (.t 8) 2), (some (47, true)), []⟩,
        ⟨(some 49), (.off (.t 48) 0), (some (47, true)), []⟩,
        ⟨(some 50), (.load none (.t 49)), (some (47, true)), []⟩,
        ⟨(some 51), (.bin .eql (.t 50) (.c (.i .i64 (1)))), (some (47, true)), []⟩,
        ⟨(some 52), (.pick (.t 47) (.t 51) (.c (.b false))), none, []⟩,
        ⟨(some 9), (.mov (.t 52)), none, []⟩] [44, 45, 46, 47, 48, 49, 50, 51, 52])
      (.seq (.seq (.region [⟨(some 53), (.mov (.t 9)), none, []⟩,
        ⟨(some 54), (.mov (.t 53)), none, []⟩,
        ⟨(some 55), (.off (.t 6) 0), (some (54, true)), []⟩,
        ⟨(some 56), (.load none (.t 55)), (some (54, true)), []⟩,
        ⟨(some 57), (.bin .eql (.t 56) (.c (.i .i64 (43)))), (some (54, true)), []⟩,
        ⟨(some 58), (.mov (.t 57)), (some (54, true)), []⟩,
        ⟨(some 59), (.mov (.t 7)), (some (58, false)), []⟩,
        ⟨(some 60), (.bin .eql (.t 59) (.c (.i .i64 (1)))), (some (58, false)), []⟩,
        ⟨(some 61), (.mov (.t 60)), (some (58, false)), []⟩,
        ⟨(some 62), (.off (.t 6) 0), (some (61, true)), []⟩,
        ⟨(some 63), (.load none (.t 62)), (some (61, true)), []⟩,
        ⟨(some 64), (.bin .eql (.t 63) (.c (.i .i64 (44)))), (some (61, true)), []⟩,
        ⟨(some 65), (.mov (.t 64)), (some (61, true)), []⟩,
        ⟨(some 66), (.off (.t 6) 0), (some (65, false)), []⟩,
        ⟨(some 67), (.load none (.t 66)), (some (65, false)), []⟩,
        ⟨(some 68), (.bin .eql (.t 67) (.c (.i .i64 (46)))), (some (65, false)), []⟩,
        ⟨(some 69), (.pick (.t 65) (.c (.b true)) (.t 68)), (some (61, true)), []⟩,
        ⟨(some 70), (.pick (.t 61) (.t 69) (.c (.b false))), (some (58, false)), []⟩,
        ⟨(some 71), (.pick (.t 58) (.c (.b true)) (.t 70)), (some (54, true)), []⟩,
        ⟨(some 72), (.pick (.t 54) (.t 71) (.c (.b false))), none, []⟩] [9, 53, 54, 55, 56, 57, 58, 59, 60, 61, 62, 63, 64, 65, 66, 67, 68, 69, 70, 71])
      (.cond (.t 72)
        (.seq (.region [⟨(some 2), (.mov (.c (.b false))), none, []⟩] [3, 5, 6, 7, 8, 72])
        .ret)
        (.region [] [72])))
      (.seq (.region [⟨(some 73), (.off (.t 8) 0), none, []⟩,
        ⟨(some 74), (.load none (.t 73)), none, []⟩,
        ⟨(some 75), (.bin .eql (.t 74) (.c (.i .i64 (2)))), none, []⟩,
        ⟨(some 76), (.mov (.t 75)), none, []⟩,
        ⟨(some 77), (.off (.t 6) 0), (some (76, true)), []⟩,
        ⟨(some 78), (.load none (.t 77)), (some (76, true)), []⟩,
        ⟨(some 79), (.bin .eql (.t 78) (.c (.i .i64 (48)))), (some (76, true)), []⟩,
        ⟨(some 80), (.pick (.t 76) (.t 79) (.c (.b false))), none, []⟩,
        ⟨(some 81), (.mov (.t 80)), none, []⟩,
        ⟨(some 82), (.off (.t 8) 1), (some (81, true)), []⟩,
        ⟨(some 83), (.load none (.t 82)), (some (81, true)), []⟩,
        ⟨(some 84), (.bin .lss (.t 83) (.c (.i .i64 (0)))), (some (81, true)), []⟩,
        ⟨(some 85), (.mov (.t 84)), (some (81, true)), []⟩,
        ⟨(some 86), (.off (.t 8) 1), (some (85, false)), []⟩,
        ⟨(some 87), (.load none (.t 86)), (some (85, false)), []⟩,
        ⟨(some 88), (.mov (.t 5)), (some (85, false)), []⟩,
        ⟨(some 89), (.bin .geq (.t 87) (.t 88)), (some (85, false)), []⟩,
        ⟨(some 90), (.pick (.t 85) (.c (.b true)) (.t 89)), (some (81, true)), []⟩,
        ⟨(some 91), (.mov (.t 90)), (some (81, true)), []⟩,
        ⟨(some 92), (.off (.t 3) 4), (some (91, false)), []⟩,
        ⟨(some 93), (.load none (.t 92)), (some (91, false)), []⟩,
        ⟨(some 94), (.off (.t 8) 1), (some (91, false)), []⟩,
        ⟨(some 95), (.load none (.t 94)), (some (91, false)), []⟩,
        ⟨(some 96), (.iaddr 5 (.t 93) (.t 95)), (some (91, false)), []⟩,
        ⟨(some 97), (.off (.t 96) 0), (some (91, false)), []⟩,
        ⟨(some 98), (.load none (.t 97)), (some (91, false)), []⟩,
        ⟨(some 99), (.bin .eql (.t 98) (.c (.i .i64 (48)))), (some (91, false)), []⟩,
        ⟨(some 100), (.pick (.t 91) (.c (.b true)) (.t 99)), (some (81, true)), []⟩,
        ⟨(some 101), (.pick (.t 81) (.t 100) (.c (.b false))), none, []⟩] [8, 73, 74, 75, 76, 77, 78, 79, 80, 81, 82, 83, 84, 85, 86, 87, 88, 89, 90, 91, 92, 93, 94, 95, 96, 97, 98, 99, 100])
      (.cond (.t 101)
        (.seq (.region [⟨(some 2), (.mov (.c (.b false))), none, []⟩] [3, 5, 6, 7, 101])
        .ret)
        (.region [] [101])))))))
    (.region [⟨(some 37), (.mov (.t 7)), none, []⟩,
      ⟨(some 38), (.bin .add (.t 37) (.c (.i .i64 (1)))), none, []⟩,
      ⟨(some 7), (.mov (.t 38)), none, []⟩] [37, 38])))
def L4b : ICode :=
  (.seq (.seq (.region [⟨(some 20), (.mov (.t 5)), none, []⟩,
      ⟨(some 21), (.off (.t 3) 4), none, []⟩,
      ⟨(some 22), (.load none (.t 21)), none, []⟩,
      ⟨(some 23), (.lenk 0 (.t 22)), none, []⟩,
      ⟨(some 24), (.bin .lss (.t 20) (.t 23)), none, []⟩] [20, 21, 22, 23])
    (.cond (.t 24)
      (.region [] [24])
      (.exit 0)))
    (.seq (.block 1
      (.seq (.region [⟨(some 27), (.off (.t 3) 4), none, []⟩,
        ⟨(some 28), (.load none (.t 27)), none, []⟩,
        ⟨(some 29), (.mov (.t 5)), none, []⟩,
        ⟨(some 30), (.iaddr 5 (.t 28) (.t 29)), none, []⟩,
        ⟨(some 31), (.load (some 5) (.t 30)), none, []⟩,
        ⟨(some 6), (.alloc [(.i .i64 (0)), (.i .i64 (0)), .ns, (.s []), .ns]), none, []⟩,
        ⟨none, (.store 5 (.t 6) (.t 31)), none, []⟩] [27, 28, 29, 30, 31])
      (.seq (.region [⟨(some 7), (.mov (.c (.i .i64 (0)))), none, []⟩] [])
      (.block 2
        (.loop L4a)))))
    (.region [⟨(some 25), (.mov (.t 5)), none, []⟩,
      ⟨(some 26), (.bin .add (.t 25) (.c (.i .i64 (1)))), none, []⟩,
      ⟨(some 5), (.mov (.t 26)), none, []⟩] [6, 7, 36, 25, 26])))
def I4 : IFunc :=
  ⟨(.seq (.region [⟨(some 1), (.box (.t 0)), none, []⟩,
      ⟨(some 2), (.mov (.c (.b false))), none, []⟩] [0, 2])
    (.seq (.seq (.region [⟨(some 10), (.call 6 []), none, []⟩,
      ⟨(some 11), (.un .not (.t 10)), none, []⟩] [10])
    (.cond (.t 11)
      (.seq (.region [⟨(some 2), (.mov (.c (.b false))), none, []⟩] [1, 11])
      .ret)
      (.region [] [11])))
    (.seq (.region [⟨(some 13), (.load (some 16) (.t 1)), none, []⟩,
      ⟨(some 14), (.call 8 [(.t 13)]), none, []⟩,
      ⟨(some 15), (.call 7 [(.t 14)]), none, []⟩,
      ⟨(some 12), (.mov (.t 15)), none, []⟩,
      ⟨(some 16), (.ext (.t 12) 0), none, []⟩,
      ⟨(some 17), (.ext (.t 12) 1), none, []⟩,
      ⟨(some 3), (.alloc [(.i .i64 (0)), (.i .i64 (0)), (.i .i64 (0)), (.i .i64 (0)), .ns, .ns, (.i .i64 (0)), (.i .i64 (0)), (.i .i64 (0)), (.i .i64 (0)), (.i .i64 (0)), (.i .i64 (0)), (.s []), .ns, .ns, (.i .i64 (0))]), none, []⟩,
      ⟨none, (.store 16 (.t 3) (.t 16)), none, []⟩,
      ⟨(some 4), (.mov (.t 17)), none, []⟩] [1, 13, 14, 15, 12, 16, 17])
    (.seq (.seq (.region [⟨(some 18), (.mov (.t 4)), none, []⟩,
      ⟨(some 19), (.bin .neq (.t 18) (.c (.i .i64 (0)))), none, []⟩] [4, 18])
    (.cond (.t 19)
      (.seq (.region [⟨(some 2), (.mov (.c (.b true))), none, []⟩] [3, 19])
      .ret)
      (.region [] [19])))
    (.seq (.seq (.region [⟨(some 5), (.mov (.c (.i .i64 (0)))), none, []⟩] [])
    (.block 0
      (.loop L4b)))
    (.seq (.region [⟨(some 2), (.mov (.c (.b true))), none, []⟩] [3, 5, 24])
    .ret)))))),
    102, 1, [.t 2], 0⟩
theorem tr4 : trFunc Tryd.prog [([], [0, 2]), ([], [10]), ([], [1, 11]), ([], [11]), ([], [1, 13, 14, 15, 12, 16, 17]), ([], [4, 18]), ([], [3, 19]), ([], [19]), ([], []), ([], [20, 21, 22, 23]), ([], [24]), ([], [27, 28, 29, 30, 31]), ([], []), ([], [32, 33, 34, 35]), ([], [36]), ([], [39, 40, 41, 42, 43]), ([], [44, 45, 46, 47, 48, 49, 50, 51, 52]), ([], [9, 53, 54, 55, 56, 57, 58, 59, 60, 61, 62, 63, 64, 65, 66, 67, 68, 69, 70, 71]), ([], [3, 5, 6, 7, 8, 72]), ([], [72]), ([], [8, 73, 74, 75, 76, 77, 78, 79, 80, 81, 82, 83, 84, 85, 86, 87, 88, 89, 90, 91, 92, 93, 94, 95, 96, 97, 98, 99, 100]), ([], [3, 5, 6, 7, 101]), ([], [101]), ([], [37, 38]), ([], [6, 7, 36, 25, 26]), ([], [3, 5, 24])] 0 Tryd.f4 = some (plain1 I4) := by kernel_rfl
theorem ck4 : ckC 2 I4.body = true := by kernel_rfl

/-- 'encore/encorelaw24.works'. -/
def I6 : IFunc :=
  ⟨(.seq (.region [⟨(some 0), (.mov (.c (.b false))), none, []⟩] [0])
    (.seq (.region [⟨(some 5), (.call 12 [(.c (.i .i64 (0)))]), none, []⟩,
      ⟨(some 6), (.call 13 [(.c (.i .i64 (5)))]), none, []⟩,
      ⟨(some 7), (.call 11 [(.c (.i .i64 (43))), (.t 5), (.t 6)]), none, []⟩,
      ⟨(some 8), (.bsl 5 1 [(.i .i64 (0)), (.i .i64 (0)), .ns, (.s []), .ns] [(0, 5, (.t 7))]), none, []⟩,
      ⟨(some 9), (.call 10 [(.c (.i .i64 (1))), (.t 8)]), none, []⟩,
      ⟨(some 10), (.call 12 [(.c (.i .i64 (0)))]), none, []⟩,
      ⟨(some 11), (.call 14 [(.c (.i .i64 (48))), (.c (.i .i64 (5))), (.t 10)]), none, []⟩,
      ⟨(some 12), (.bsl 5 1 [(.i .i64 (0)), (.i .i64 (0)), .ns, (.s []), .ns] [(0, 5, (.t 11))]), none, []⟩,
      ⟨(some 13), (.call 10 [(.c (.i .i64 (1))), (.t 12)]), none, []⟩,
      ⟨(some 14), (.call 9 [(.t 9), (.t 13)]), none, []⟩,
      ⟨(some 1), (.mov (.t 14)), none, []⟩] [5, 6, 7, 8, 9, 10, 11, 12, 13, 14])
    (.seq (.region [⟨(some 15), (.call 12 [(.c (.i .i64 (0)))]), none, []⟩,
      ⟨(some 16), (.call 13 [(.c (.i .i64 (5)))]), none, []⟩,
      ⟨(some 17), (.call 11 [(.c (.i .i64 (44))), (.t 15), (.t 16)]), none, []⟩,
      ⟨(some 18), (.call 13 [(.c (.i .i64 (7)))]), none, []⟩,
      ⟨(some 19), (.call 15 [(.c (.i .i64 (0)))]), none, []⟩,
      ⟨(some 20), (.call 11 [(.c (.i .i64 (43))), (.t 18), (.t 19)]), none, []⟩,
      ⟨(some 21), (.bsl 5 2 [(.i .i64 (0)), (.i .i64 (0)), .ns, (.s []), .ns, (.i .i64 (0)), (.i .i64 (0)), .ns, (.s []), .ns] [(0, 5, (.t 17)), (5, 5, (.t 20))]), none, []⟩,
      ⟨(some 22), (.call 10 [(.c (.i .i64 (1))), (.t 21)]), none, []⟩,
      ⟨(some 23), (.call 12 [(.c (.i .i64 (0)))]), none, []⟩,
      ⟨(some 24), (.call 14 [(.c (.i .i64 (48))), (.c (.i .i64 (-5))), (.t 23)]), none, []⟩,
      ⟨(some 25), (.call 12 [(.c (.i .i64 (0)))]), none, []⟩,
      ⟨(some 26), (.call 14 [(.c (.i .i64 (48))), (.c (.i .i64 (2))), (.t 25)]), none, []⟩,
      ⟨(some 27), (.bsl 5 2 [(.i .i64 (0)), (.i .i64 (0)), .ns, (.s []), .ns, (.i .i64 (0)), (.i .i64 (0)), .ns, (.s []), .ns] [(0, 5, (.t 24)), (5, 5, (.t 26))]), none, []⟩,
      ⟨(some 28), (.call 10 [(.c (.i .i64 (1))), (.t 27)]), none, []⟩,
      ⟨(some 29), (.call 9 [(.t 22), (.t 28)]), none, []⟩,
      ⟨(some 2), (.mov (.t 29)), none, []⟩] [15, 16, 17, 18, 19, 20, 21, 22, 23, 24, 25, 26, 27, 28, 29])
    (.seq (.region [⟨(some 30), (.call 12 [(.c (.i .i64 (0)))]), none, []⟩,
      ⟨(some 31), (.call 13 [(.c (.i .i64 (5)))]), none, []⟩,
      ⟨(some 32), (.call 11 [(.c (.i .i64 (46))), (.t 30), (.t 31)]), none, []⟩,
      ⟨(some 33), (.call 13 [(.c (.i .i64 (5)))]), none, []⟩,
      ⟨(some 34), (.call 12 [(.c (.i .i64 (0)))]), none, []⟩,
      ⟨(some 35), (.call 11 [(.c (.i .i64 (46))), (.t 33), (.t 34)]), none, []⟩,
      ⟨(some 36), (.call 13 [(.c (.i .i64 (5)))]), none, []⟩,
      ⟨(some 37), (.call 12 [(.c (.i .i64 (0)))]), none, []⟩,
      ⟨(some 38), (.call 11 [(.c (.i .i64 (44))), (.t 36), (.t 37)]), none, []⟩,
      ⟨(some 39), (.bsl 5 3 [(.i .i64 (0)), (.i .i64 (0)), .ns, (.s []), .ns, (.i .i64 (0)), (.i .i64 (0)), .ns, (.s []), .ns, (.i .i64 (0)), (.i .i64 (0)), .ns, (.s []), .ns] [(0, 5, (.t 32)), (5, 5, (.t 35)), (10, 5, (.t 38))]), none, []⟩,
      ⟨(some 40), (.call 10 [(.c (.i .i64 (1))), (.t 39)]), none, []⟩,
      ⟨(some 41), (.call 12 [(.c (.i .i64 (0)))]), none, []⟩,
      ⟨(some 42), (.call 14 [(.c (.i .i64 (49))), (.c (.i .i64 (5))), (.t 41)]), none, []⟩,
      ⟨(some 43), (.call 13 [(.c (.i .i64 (5)))]), none, []⟩,
      ⟨(some 44), (.call 12 [(.c (.i .i64 (0)))]), none, []⟩,
      ⟨(some 45), (.call 11 [(.c (.i .i64 (46))), (.t 43), (.t 44)]), none, []⟩,
      ⟨(some 46), (.call 13 [(.c (.i .i64 (5)))]), none, []⟩,
      ⟨(some 47), (.call 12 [(.c (.i .i64 (0)))]), none, []⟩,
      ⟨(some 48), (.call 11 [(.c (.i .i64 (44))), (.t 46), (.t 47)]), none, []⟩,
      ⟨(some 49), (.bsl 5 3 [(.i .i64 (0)), (.i .i64 (0)), .ns, (.s []), .ns, (.i .i64 (0)), (.i .i64 (0)), .ns, (.s []), .ns, (.i .i64 (0)), (.i .i64 (0)), .ns, (.s []), .ns] [(0, 5, (.t 42)), (5, 5, (.t 45)), (10, 5, (.t 48))]), none, []⟩,
      ⟨(some 50), (.call 10 [(.c (.i .i64 (1))), (.t 49)]), none, []⟩,
      ⟨(some 51), (.call 9 [(.t 40), (.t 50)]), none, []⟩,
      ⟨(some 3), (.mov (.t 51)), none, []⟩] [30, 31, 32, 33, 34, 35, 36, 37, 38, 39, 40, 41, 42, 43, 44, 45, 46, 47, 48, 49, 50, 51])
    (.seq (.region [⟨(some 52), (.call 12 [(.c (.i .i64 (0)))]), none, []⟩,
      ⟨(some 53), (.call 13 [(.c (.i .i64 (5)))]), none, []⟩,
      ⟨(some 54), (.call 11 [(.c (.i .i64 (43))), (.t 52), (.t 53)]), none, []⟩,
      ⟨(some 55), (.call 16 [(.c .ns), (.t 54)]), none, []⟩,
      ⟨(some 4), (.alloc [(.i .i64 (0)), (.i .i64 (0)), .ns, (.s []), .ns]), none, []⟩,
      ⟨none, (.store 5 (.t 4) (.t 55)), none, []⟩] [52, 53, 54, 55])
    (.seq (.region [⟨(some 56), (.mov (.t 1)), none, []⟩,
      ⟨(some 57), (.mov (.t 56)), none, []⟩,
      ⟨(some 58), (.mov (.t 2)), (some (57, true)), []⟩,
      ⟨(some 59), (.pick (.t 57) (.t 58) (.c (.b false))), none, []⟩,
      ⟨(some 60), (.mov (.t 59)), none, []⟩,
      ⟨(some 61), (.mov (.t 3)), (some (60, true)), []⟩,
      ⟨(some 62), (.pick (.t 60) (.t 61) (.c (.b false))), none, []⟩,
      ⟨(some 63), (.mov (.t 62)), none, []⟩,
      ⟨(some 64), (.off (.t 4) 0), (some (63, true)), []⟩,
      ⟨(some 65), (.load none (.t 64)), (some (63, true)), []⟩,
      ⟨(some 66), (.bin .eql (.t 65) (.c (.i .i64 (48)))), (some (63, true)), []⟩,
      ⟨(some 67), (.pick (.t 63) (.t 66) (.c (.b false))), none, []⟩,
      ⟨(some 68), (.mov (.t 67)), none, []⟩,
      ⟨(some 69), (.off (.t 4) 1), (some (68, true)), []⟩,
      ⟨(some 70), (.load none (.t 69)), (some (68, true)), []⟩,
      ⟨(some 71), (.bin .eql (.t 70) (.c (.i .i64 (5)))), (some (68, true)), []⟩,
      ⟨(some 72), (.pick (.t 68) (.t 71) (.c (.b false))), none, []⟩,
      ⟨(some 0), (.mov (.t 72)), none, []⟩] [1, 2, 3, 4, 56, 57, 58, 59, 60, 61, 62, 63, 64, 65, 66, 67, 68, 69, 70, 71, 72])
    .ret)))))),
    73, 0, [.t 0], 2⟩
theorem tr6 : trFunc Tryd.prog [([], [0]), ([], [5, 6, 7, 8, 9, 10, 11, 12, 13, 14]), ([], [15, 16, 17, 18, 19, 20, 21, 22, 23, 24, 25, 26, 27, 28, 29]), ([], [30, 31, 32, 33, 34, 35, 36, 37, 38, 39, 40, 41, 42, 43, 44, 45, 46, 47, 48, 49, 50, 51]), ([], [52, 53, 54, 55]), ([], [1, 2, 3, 4, 56, 57, 58, 59, 60, 61, 62, 63, 64, 65, 66, 67, 68, 69, 70, 71, 72])] 1 Tryd.f6 = some (plain1 I6) := by kernel_rfl
theorem ck6 : ckC 2 I6.body = true := by kernel_rfl

/-- 'encore/fuse.Of'. -/
def L7a : ICode :=
  (.seq (.region [⟨(some 19), (.bin .lss (.t 18) (.t 17)), none, []⟩] [])
    (.seq (.cond (.t 19)
      (.region [] [19])
      (.exit 0))
    (.seq (.block 1
      (.seq (.region [⟨(some 20), (.iaddr 5 (.t 16) (.t 18)), none, []⟩,
        ⟨(some 21), (.load (some 5) (.t 20)), none, []⟩,
        ⟨(some 7), (.alloc [(.i .i64 (0)), (.i .i64 (0)), .ns, (.s []), .ns]), none, []⟩,
        ⟨none, (.store 5 (.t 7) (.t 21)), none, []⟩] [20, 21])
      (.region [⟨(some 22), (.mov (.t 5)), none, []⟩,
        ⟨(some 23), (.mov (.t 5)), none, []⟩,
        ⟨(some 24), (.load (some 5) (.t 7)), none, []⟩,
        ⟨(some 25), (.call 19 [(.t 23), (.t 24)]), none, []⟩,
        ⟨(some 26), (.call 18 [(.t 25)]), none, []⟩,
        ⟨(some 27), (.bsl 5 1 [(.i .i64 (0)), (.i .i64 (0)), .ns, (.s []), .ns] [(0, 5, (.t 26))]), none, []⟩,
        ⟨(some 28), (.app 5 80 (.t 22) (.t 27)), none, []⟩,
        ⟨(some 5), (.mov (.t 28)), none, []⟩] [7, 22, 23, 24, 25, 26, 27, 28])))
    (.region [⟨(some 29), (.bin .add (.t 18) (.c (.i .i64 (1)))), none, []⟩,
      ⟨(some 18), (.mov (.t 29)), none, []⟩] [29]))))
def L7b : ICode :=
  (.seq (.region [⟨(some 46), (.bin .lss (.t 45) (.t 44)), none, []⟩] [])
    (.seq (.cond (.t 46)
      (.region [] [46])
      (.exit 2))
    (.seq (.block 3
      (.seq (.region [⟨(some 47), (.mov (.t 45)), none, []⟩,
        ⟨(some 8), (.mov (.t 47)), none, []⟩] [47])
      (.region [⟨(some 48), (.off (.t 1) 5), none, []⟩,
        ⟨(some 49), (.load none (.t 48)), none, []⟩,
        ⟨(some 50), (.mov (.t 8)), none, []⟩,
        ⟨(some 51), (.off (.t 1) 5), none, []⟩,
        ⟨(some 52), (.load none (.t 51)), none, []⟩,
        ⟨(some 53), (.mov (.t 8)), none, []⟩,
        ⟨(some 54), (.iaddr 7 (.t 52) (.t 53)), none, []⟩,
        ⟨(some 55), (.off (.t 54) 2), none, []⟩,
        ⟨(some 56), (.load (some 5) (.t 55)), none, []⟩,
        ⟨(some 57), (.call 21 [(.t 56)]), none, [(49, (.load none (.t 48)), none)]⟩,
        ⟨(some 58), (.iaddr 7 (.t 49) (.t 50)), none, []⟩,
        ⟨(some 59), (.off (.t 58) 2), none, []⟩,
        ⟨none, (.store 5 (.t 59) (.t 57)), none, []⟩] [8, 48, 49, 50, 51, 52, 53, 54, 55, 56, 57, 58, 59])))
    (.region [⟨(some 60), (.bin .add (.t 45) (.c (.i .i64 (1)))), none, []⟩,
      ⟨(some 45), (.mov (.t 60)), none, []⟩] [60]))))
def I7 : IFunc :=
  ⟨(.seq (.region [⟨(some 1), (.box (.t 0)), none, []⟩,
      ⟨(some 2), (.alloc [(.i .i64 (0)), (.i .i64 (0)), (.i .i64 (0)), (.i .i64 (0)), .ns, .ns, (.i .i64 (0)), (.i .i64 (0)), (.i .i64 (0)), (.i .i64 (0)), (.i .i64 (0)), (.i .i64 (0)), (.s []), .ns, .ns, (.i .i64 (0))]), none, []⟩,
      ⟨(some 3), (.mov (.c (.i .i64 (0)))), none, []⟩] [0, 3])
    (.seq (.seq (.region [⟨(some 9), (.load (some 16) (.t 1)), none, []⟩,
      ⟨(some 10), (.call 17 [(.t 9)]), none, []⟩,
      ⟨(some 4), (.mov (.t 10)), none, []⟩] [9, 10])
    (.seq (.region [⟨(some 11), (.mov (.t 4)), none, []⟩,
      ⟨(some 12), (.bin .neq (.t 11) (.c (.i .i64 (0)))), none, []⟩] [11])
    (.cond (.t 12)
      (.seq (.region [⟨(some 13), (.build [(.i .i64 (0)), (.i .i64 (0)), (.i .i64 (0)), (.i .i64 (0)), .ns, .ns, (.i .i64 (0)), (.i .i64 (0)), (.i .i64 (0)), (.i .i64 (0)), (.i .i64 (0)), (.i .i64 (0)), (.s []), .ns, .ns, (.i .i64 (0))] []), none, []⟩,
        ⟨(some 14), (.mov (.t 4)), none, []⟩,
        ⟨none, (.store 16 (.t 2) (.t 13)), none, []⟩,
        ⟨(some 3), (.mov (.t 14)), none, []⟩] [1, 4, 12, 13, 14])
      .ret)
      (.region [] [4, 12]))))
    (.seq (.region [⟨(some 5), (.mov (.c .ns)), none, []⟩] [])
    (.seq (.seq (.region [⟨(some 15), (.off (.t 1) 4), none, []⟩,
      ⟨(some 16), (.load none (.t 15)), none, []⟩,
      ⟨(some 17), (.lenk 0 (.t 16)), none, []⟩,
      ⟨(some 18), (.mov (.c (.i .i64 (0)))), none, []⟩] [15])
    (.block 0
      (.loop L7a)))
    (.seq (.region [⟨(some 30), (.mov (.t 5)), none, []⟩,
      ⟨(some 31), (.off (.t 1) 5), none, []⟩,
      ⟨(some 32), (.load none (.t 31)), none, []⟩,
      ⟨(some 34), (.off (.t 1) 8), none, []⟩,
      ⟨(some 35), (.off (.t 34) 2), none, []⟩,
      ⟨(some 36), (.load (some 5) (.t 35)), none, []⟩,
      ⟨(some 38), (.off (.t 1) 4), none, []⟩,
      ⟨(some 33), (.call 20 [(.t 32)]), none, [(36, (.load (some 5) (.t 35)), none)]⟩,
      ⟨(some 37), (.call 21 [(.t 36)]), none, []⟩,
      ⟨none, (.store 1 (.t 38) (.t 30)), none, []⟩,
      ⟨(some 39), (.off (.t 1) 5), none, []⟩,
      ⟨none, (.store 1 (.t 39) (.t 33)), none, []⟩,
      ⟨(some 40), (.off (.t 1) 8), none, []⟩,
      ⟨(some 41), (.off (.t 40) 2), none, []⟩,
      ⟨none, (.store 5 (.t 41) (.t 37)), none, []⟩] [5, 16, 17, 18, 19, 30, 31, 32, 34, 35, 36, 38, 33, 37, 39, 40, 41])
    (.seq (.seq (.region [⟨(some 42), (.off (.t 1) 5), none, []⟩,
      ⟨(some 43), (.load none (.t 42)), none, []⟩,
      ⟨(some 44), (.lenk 0 (.t 43)), none, []⟩,
      ⟨(some 45), (.mov (.c (.i .i64 (0)))), none, []⟩] [42, 43])
    (.block 2
      (.loop L7b)))
    (.seq (.region [⟨(some 61), (.load (some 16) (.t 1)), none, []⟩,
      ⟨none, (.store 16 (.t 2) (.t 61)), none, []⟩,
      ⟨(some 3), (.mov (.c (.i .i64 (0)))), none, []⟩] [1, 44, 45, 46, 61])
    .ret))))))),
    62, 1, [.c 2 (some 16), .t 3], 2⟩
theorem tr7 : trFunc Tryd.prog [([], [0, 3]), ([], [9, 10]), ([], [11]), ([], [1, 4, 12, 13, 14]), ([], [4, 12]), ([], []), ([], [15]), ([], []), ([], [19]), ([], [20, 21]), ([], [7, 22, 23, 24, 25, 26, 27, 28]), ([], [29]), ([0, 1, 2, 4, 5, 6, 8, 3, 7, 9, 10, 11, 12, 13, 14], [5, 16, 17, 18, 19, 30, 31, 32, 34, 35, 36, 38, 33, 37, 39, 40, 41]), ([], [42, 43]), ([], []), ([], [46]), ([], [47]), ([0, 1, 2, 3, 4, 5, 6, 7, 8, 9, 10, 11, 12], [8, 48, 49, 50, 51, 52, 53, 54, 55, 56, 57, 58, 59]), ([], [60]), ([], [1, 44, 45, 46, 61])] 1 Tryd.f7 = some (plain1 I7) := by kernel_rfl
theorem ck7 : ckC 2 I7.body = true := by kernel_rfl

/-- 'encore/encorelaw24.meant'. -/
def L8a : ICode :=
  (.seq (.seq (.region [⟨(some 23), (.mov (.t 5)), none, []⟩,
      ⟨(some 24), (.off (.t 3) 4), none, []⟩,
      ⟨(some 25), (.load none (.t 24)), none, []⟩,
      ⟨(some 26), (.lenk 0 (.t 25)), none, []⟩,
      ⟨(some 27), (.bin .lss (.t 23) (.t 26)), none, []⟩] [23, 24, 25, 26])
    (.cond (.t 27)
      (.region [] [27])
      (.exit 0)))
    (.seq (.block 1
      (.region [⟨(some 30), (.off (.t 4) 4), none, []⟩,
        ⟨(some 31), (.load none (.t 30)), none, []⟩,
        ⟨(some 32), (.off (.t 3) 4), none, []⟩,
        ⟨(some 33), (.load none (.t 32)), none, []⟩,
        ⟨(some 34), (.mov (.t 5)), none, []⟩,
        ⟨(some 35), (.iaddr 5 (.t 33) (.t 34)), none, []⟩,
        ⟨(some 36), (.off (.t 35) 0), none, []⟩,
        ⟨(some 37), (.load none (.t 36)), none, []⟩,
        ⟨(some 38), (.off (.t 3) 4), none, []⟩,
        ⟨(some 39), (.load none (.t 38)), none, []⟩,
        ⟨(some 40), (.mov (.t 5)), none, []⟩,
        ⟨(some 41), (.iaddr 5 (.t 39) (.t 40)), none, []⟩,
        ⟨(some 42), (.off (.t 41) 1), none, []⟩,
        ⟨(some 43), (.load none (.t 42)), none, []⟩,
        ⟨(some 44), (.off (.t 3) 4), none, []⟩,
        ⟨(some 45), (.load none (.t 44)), none, []⟩,
        ⟨(some 46), (.mov (.t 5)), none, []⟩,
        ⟨(some 47), (.iaddr 5 (.t 45) (.t 46)), none, []⟩,
        ⟨(some 48), (.off (.t 47) 2), none, []⟩,
        ⟨(some 49), (.load none (.t 48)), none, []⟩,
        ⟨(some 51), (.off (.t 3) 4), none, []⟩,
        ⟨(some 52), (.load none (.t 51)), none, []⟩,
        ⟨(some 53), (.mov (.t 5)), none, []⟩,
        ⟨(some 54), (.iaddr 5 (.t 52) (.t 53)), none, []⟩,
        ⟨(some 55), (.off (.t 54) 3), none, []⟩,
        ⟨(some 56), (.load none (.t 55)), none, []⟩,
        ⟨(some 57), (.off (.t 3) 4), none, []⟩,
        ⟨(some 58), (.load none (.t 57)), none, []⟩,
        ⟨(some 59), (.mov (.t 5)), none, []⟩,
        ⟨(some 60), (.iaddr 5 (.t 58) (.t 59)), none, []⟩,
        ⟨(some 61), (.off (.t 60) 4), none, []⟩,
        ⟨(some 62), (.load none (.t 61)), none, []⟩,
        ⟨(some 50), (.call 23 [(.t 49)]), none, [(31, (.load none (.t 30)), none), (33, (.load none (.t 32)), none), (37, (.load none (.t 36)), none), (39, (.load none (.t 38)), none), (43, (.load none (.t 42)), none), (52, (.load none (.t 51)), none), (56, (.load none (.t 55)), none), (58, (.load none (.t 57)), none), (62, (.load none (.t 61)), none)]⟩,
        ⟨(some 63), (.build [(.i .i64 (0)), (.i .i64 (0)), .ns, (.s []), .ns] [(0, 1, (.t 37)), (1, 1, (.t 43)), (2, 1, (.t 50)), (3, 1, (.t 56)), (4, 1, (.t 62))]), none, []⟩,
        ⟨(some 64), (.bsl 5 1 [(.i .i64 (0)), (.i .i64 (0)), .ns, (.s []), .ns] [(0, 5, (.t 63))]), none, []⟩,
        ⟨(some 65), (.app 5 80 (.t 31) (.t 64)), none, []⟩,
        ⟨(some 66), (.off (.t 4) 4), none, []⟩,
        ⟨none, (.store 1 (.t 66) (.t 65)), none, []⟩] [30, 31, 32, 33, 34, 35, 36, 37, 38, 39, 40, 41, 42, 43, 44, 45, 46, 47, 48, 49, 51, 52, 53, 54, 55, 56, 57, 58, 59, 60, 61, 62, 50, 63, 64, 65, 66]))
    (.region [⟨(some 28), (.mov (.t 5)), none, []⟩,
      ⟨(some 29), (.bin .add (.t 28) (.c (.i .i64 (1)))), none, []⟩,
      ⟨(some 5), (.mov (.t 29)), none, []⟩] [28, 29])))
def I8 : IFunc :=
  ⟨(.seq (.region [⟨(some 1), (.box (.t 0)), none, []⟩,
      ⟨(some 2), (.alloc [(.i .i64 (0)), (.i .i64 (0)), (.i .i64 (0)), (.i .i64 (0)), .ns, .ns, (.i .i64 (0)), (.i .i64 (0)), (.i .i64 (0)), (.i .i64 (0)), (.i .i64 (0)), (.i .i64 (0)), (.s []), .ns, .ns, (.i .i64 (0))]), none, []⟩] [0])
    (.seq (.region [⟨(some 6), (.load (some 16) (.t 1)), none, []⟩,
      ⟨(some 7), (.call 22 [(.t 6)]), none, []⟩,
      ⟨(some 3), (.alloc [(.i .i64 (0)), (.i .i64 (0)), (.i .i64 (0)), (.i .i64 (0)), .ns, .ns, (.i .i64 (0)), (.i .i64 (0)), (.i .i64 (0)), (.i .i64 (0)), (.i .i64 (0)), (.i .i64 (0)), (.s []), .ns, .ns, (.i .i64 (0))]), none, []⟩,
      ⟨none, (.store 16 (.t 3) (.t 7)), none, []⟩] [1, 6, 7])
    (.seq (.region [⟨(some 8), (.off (.t 3) 0), none, []⟩,
      ⟨(some 9), (.load none (.t 8)), none, []⟩,
      ⟨(some 10), (.off (.t 3) 1), none, []⟩,
      ⟨(some 11), (.load none (.t 10)), none, []⟩,
      ⟨(some 12), (.off (.t 3) 2), none, []⟩,
      ⟨(some 13), (.load none (.t 12)), none, []⟩,
      ⟨(some 14), (.off (.t 3) 3), none, []⟩,
      ⟨(some 15), (.load none (.t 14)), none, []⟩,
      ⟨(some 16), (.off (.t 3) 6), none, []⟩,
      ⟨(some 17), (.load none (.t 16)), none, []⟩,
      ⟨(some 18), (.off (.t 3) 7), none, []⟩,
      ⟨(some 19), (.load none (.t 18)), none, []⟩,
      ⟨(some 20), (.off (.t 3) 15), none, []⟩,
      ⟨(some 21), (.load none (.t 20)), none, []⟩,
      ⟨(some 22), (.build [(.i .i64 (0)), (.i .i64 (0)), (.i .i64 (0)), (.i .i64 (0)), .ns, .ns, (.i .i64 (0)), (.i .i64 (0)), (.i .i64 (0)), (.i .i64 (0)), (.i .i64 (0)), (.i .i64 (0)), (.s []), .ns, .ns, (.i .i64 (0))] [(0, 1, (.t 9)), (1, 1, (.t 11)), (2, 1, (.t 13)), (3, 1, (.t 15)), (6, 1, (.t 17)), (7, 1, (.t 19)), (15, 1, (.t 21))]), none, []⟩,
      ⟨(some 4), (.alloc [(.i .i64 (0)), (.i .i64 (0)), (.i .i64 (0)), (.i .i64 (0)), .ns, .ns, (.i .i64 (0)), (.i .i64 (0)), (.i .i64 (0)), (.i .i64 (0)), (.i .i64 (0)), (.i .i64 (0)), (.s []), .ns, .ns, (.i .i64 (0))]), none, []⟩,
      ⟨none, (.store 16 (.t 4) (.t 22)), none, []⟩] [8, 9, 10, 11, 12, 13, 14, 15, 16, 17, 18, 19, 20, 21, 22])
    (.seq (.seq (.region [⟨(some 5), (.mov (.c (.i .i64 (0)))), none, []⟩] [])
    (.block 0
      (.loop L8a)))
    (.seq (.region [⟨(some 67), (.off (.t 3) 5), none, []⟩,
      ⟨(some 68), (.load none (.t 67)), none, []⟩,
      ⟨(some 69), (.call 23 [(.t 68)]), none, []⟩,
      ⟨(some 70), (.off (.t 4) 5), none, []⟩,
      ⟨none, (.store 1 (.t 70) (.t 69)), none, []⟩] [5, 27, 67, 68, 69, 70])
    (.seq (.region [⟨(some 71), (.off (.t 3) 8), none, []⟩,
      ⟨(some 72), (.off (.t 71) 0), none, []⟩,
      ⟨(some 73), (.load none (.t 72)), none, []⟩,
      ⟨(some 74), (.off (.t 3) 8), none, []⟩,
      ⟨(some 75), (.off (.t 74) 1), none, []⟩,
      ⟨(some 76), (.load none (.t 75)), none, []⟩,
      ⟨(some 77), (.off (.t 3) 8), none, []⟩,
      ⟨(some 78), (.off (.t 77) 2), none, []⟩,
      ⟨(some 79), (.load (some 5) (.t 78)), none, []⟩,
      ⟨(some 80), (.build [(.i .i64 (0)), (.i .i64 (0)), (.i .i64 (0)), (.i .i64 (0)), (.s []), .ns, .ns] [(0, 1, (.t 73)), (1, 1, (.t 76)), (2, 5, (.t 79))]), none, []⟩,
      ⟨(some 81), (.off (.t 4) 8), none, []⟩,
      ⟨none, (.store 7 (.t 81) (.t 80)), none, []⟩] [3, 71, 72, 73, 74, 75, 76, 77, 78, 79, 80, 81])
    (.seq (.region [⟨(some 82), (.load (some 16) (.t 4)), none, []⟩,
      ⟨none, (.store 16 (.t 2) (.t 82)), none, []⟩] [4, 82])
    .ret))))))),
    83, 1, [.c 2 (some 16)], 2⟩
theorem tr8 : trFunc Tryd.prog [([], [0]), ([], [1, 6, 7]), ([], [8, 9, 10, 11, 12, 13, 14, 15, 16, 17, 18, 19, 20, 21, 22]), ([], []), ([], [23, 24, 25, 26]), ([], [27]), ([0, 1, 2, 3, 4, 5, 6, 7, 8, 9, 10, 11, 12, 13, 14, 15, 16, 17, 18, 19, 21, 22, 23, 24, 25, 26, 27, 28, 29, 30, 31, 32, 20, 33, 34, 35, 36, 37], [30, 31, 32, 33, 34, 35, 36, 37, 38, 39, 40, 41, 42, 43, 44, 45, 46, 47, 48, 49, 51, 52, 53, 54, 55, 56, 57, 58, 59, 60, 61, 62, 50, 63, 64, 65, 66]), ([], [28, 29]), ([], [5, 27, 67, 68, 69, 70]), ([], [3, 71, 72, 73, 74, 75, 76, 77, 78, 79, 80, 81]), ([], [4, 82])] 1 Tryd.f8 = some (plain1 I8) := by kernel_rfl
theorem ck8 : ckC 2 I8.body = true := by kernel_rfl

/-- 'encore/encorelaw24.fused'. -/
def I9 : IFunc :=
  ⟨(.seq (.region [⟨(some 2), (.box (.t 0)), none, []⟩,
      ⟨(some 3), (.box (.t 1)), none, []⟩,
      ⟨(some 4), (.mov (.c (.b false))), none, []⟩] [0, 1, 4])
    (.seq (.region [⟨(some 8), (.load (some 16) (.t 2)), none, []⟩,
      ⟨(some 9), (.call 7 [(.t 8)]), none, []⟩,
      ⟨(some 7), (.mov (.t 9)), none, []⟩,
      ⟨(some 10), (.ext (.t 7) 0), none, []⟩,
      ⟨(some 11), (.ext (.t 7) 1), none, []⟩,
      ⟨(some 5), (.alloc [(.i .i64 (0)), (.i .i64 (0)), (.i .i64 (0)), (.i .i64 (0)), .ns, .ns, (.i .i64 (0)), (.i .i64 (0)), (.i .i64 (0)), (.i .i64 (0)), (.i .i64 (0)), (.i .i64 (0)), (.s []), .ns, .ns, (.i .i64 (0))]), none, []⟩,
      ⟨none, (.store 16 (.t 5) (.t 10)), none, []⟩,
      ⟨(some 6), (.mov (.t 11)), none, []⟩] [2, 8, 9, 7, 10, 11])
    (.seq (.region [⟨(some 12), (.mov (.t 6)), none, []⟩,
      ⟨(some 13), (.bin .eql (.t 12) (.c (.i .i64 (0)))), none, []⟩,
      ⟨(some 14), (.mov (.t 13)), none, []⟩,
      ⟨(some 15), (.load (some 16) (.t 5)), (some (14, true)), []⟩,
      ⟨(some 17), (.load (some 16) (.t 3)), (some (14, true)), []⟩,
      ⟨(some 16), (.call 25 [(.t 15)]), (some (14, true)), [(17, (.load (some 16) (.t 3)), (some (14, true)))]⟩,
      ⟨(some 18), (.call 25 [(.t 17)]), (some (14, true)), []⟩,
      ⟨(some 19), (.call 24 [(.t 16), (.t 18)]), (some (14, true)), []⟩,
      ⟨(some 20), (.pick (.t 14) (.t 19) (.c (.b false))), none, []⟩,
      ⟨(some 4), (.mov (.t 20)), none, []⟩] [3, 5, 6, 12, 13, 14, 15, 17, 16, 18, 19, 20])
    .ret))),
    21, 2, [.t 4], 2⟩
theorem tr9 : trFunc Tryd.prog [([], [0, 1, 4]), ([], [2, 8, 9, 7, 10, 11]), ([0, 1, 2, 3, 5, 4, 6, 7, 8, 9], [3, 5, 6, 12, 13, 14, 15, 17, 16, 18, 19, 20])] 1 Tryd.f9 = some (plain1 I9) := by kernel_rfl
theorem ck9 : ckC 2 I9.body = true := by kernel_rfl

/-- 'encore/encorelaw24.of'. -/
def I10 : IFunc :=
  ⟨(.seq (.region [⟨(some 4), (.alloc [(.i .i64 (0)), (.i .i64 (0)), (.i .i64 (0)), (.i .i64 (0)), .ns, .ns, (.i .i64 (0)), (.i .i64 (0)), (.i .i64 (0)), (.i .i64 (0)), (.i .i64 (0)), (.i .i64 (0)), (.s []), .ns, .ns, (.i .i64 (0))]), none, []⟩] [])
    (.seq (.region [⟨(some 5), (.mov (.t 0)), none, []⟩,
      ⟨(some 6), (.mov (.t 1)), none, []⟩,
      ⟨(some 7), (.mov (.t 1)), none, []⟩,
      ⟨(some 8), (.lenk 0 (.t 7)), none, []⟩,
      ⟨(some 9), (.bin .sub (.t 8) (.c (.i .i64 (1)))), none, []⟩,
      ⟨(some 10), (.mm true (.t 9) [(.c (.i .i64 (0)))]), none, []⟩,
      ⟨(some 11), (.call 15 [(.t 10)]), none, []⟩,
      ⟨(some 12), (.bsl 7 1 [(.i .i64 (0)), (.i .i64 (0)), (.i .i64 (0)), (.i .i64 (0)), (.s []), .ns, .ns] [(0, 7, (.t 11))]), none, []⟩,
      ⟨(some 13), (.build [(.i .i64 (0)), (.i .i64 (0)), (.i .i64 (0)), (.i .i64 (0)), .ns, .ns, (.i .i64 (0)), (.i .i64 (0)), (.i .i64 (0)), (.i .i64 (0)), (.i .i64 (0)), (.i .i64 (0)), (.s []), .ns, .ns, (.i .i64 (0))] [(2, 1, (.c (.i .i64 (1)))), (3, 1, (.t 5)), (4, 1, (.t 6)), (5, 1, (.t 12))]), none, []⟩,
      ⟨none, (.store 16 (.t 4) (.t 13)), none, []⟩] [0, 1, 5, 6, 7, 8, 9, 10, 11, 12, 13])
    .ret)),
    14, 2, [.c 4 (some 16)], 1⟩
theorem tr10 : trFunc Tryd.prog [([], []), ([], [0, 1, 5, 6, 7, 8, 9, 10, 11, 12, 13])] 1 Tryd.f10 = some (plain1 I10) := by kernel_rfl
theorem ck10 : ckC 2 I10.body = true := by kernel_rfl

/-- 'encore/encorelaw24.two'. -/
def I11 : IFunc :=
  ⟨(.seq (.region [⟨(some 4), (.box (.t 1)), none, []⟩,
      ⟨(some 5), (.box (.t 2)), none, []⟩,
      ⟨(some 6), (.alloc [(.i .i64 (0)), (.i .i64 (0)), .ns, (.s []), .ns]), none, []⟩] [1, 2])
    (.seq (.region [⟨(some 7), (.mov (.t 0)), none, []⟩,
      ⟨(some 8), (.load (some 7) (.t 4)), none, []⟩,
      ⟨(some 9), (.load (some 7) (.t 5)), none, []⟩,
      ⟨(some 10), (.bsl 7 2 [(.i .i64 (0)), (.i .i64 (0)), (.i .i64 (0)), (.i .i64 (0)), (.s []), .ns, .ns, (.i .i64 (0)), (.i .i64 (0)), (.i .i64 (0)), (.i .i64 (0)), (.s []), .ns, .ns] [(0, 7, (.t 8)), (7, 7, (.t 9))]), none, []⟩,
      ⟨(some 11), (.build [(.i .i64 (0)), (.i .i64 (0)), .ns, (.s []), .ns] [(0, 1, (.t 7)), (2, 1, (.t 10))]), none, []⟩,
      ⟨none, (.store 5 (.t 6) (.t 11)), none, []⟩] [0, 4, 5, 7, 8, 9, 10, 11])
    .ret)),
    12, 3, [.c 6 (some 5)], 2⟩
theorem tr11 : trFunc Tryd.prog [([], [1, 2]), ([], [0, 4, 5, 7, 8, 9, 10, 11])] 1 Tryd.f11 = some (plain1 I11) := by kernel_rfl
theorem ck11 : ckC 2 I11.body = true := by kernel_rfl

/-- 'encore/encorelaw24.home'. -/
def I12 : IFunc :=
  ⟨(.seq (.region [⟨(some 2), (.alloc [(.i .i64 (0)), (.i .i64 (0)), (.i .i64 (0)), (.i .i64 (0)), (.s []), .ns, .ns]), none, []⟩] [])
    (.seq (.region [⟨(some 3), (.mov (.t 0)), none, []⟩,
      ⟨(some 4), (.build [(.i .i64 (0)), (.i .i64 (0)), (.i .i64 (0)), (.i .i64 (0)), (.s []), .ns, .ns] [(0, 1, (.c (.i .i64 (1)))), (1, 1, (.t 3))]), none, []⟩,
      ⟨none, (.store 7 (.t 2) (.t 4)), none, []⟩] [0, 3, 4])
    .ret)),
    5, 1, [.c 2 (some 7)], 2⟩
theorem tr12 : trFunc Tryd.prog [([], []), ([], [0, 3, 4])] 1 Tryd.f12 = some (plain1 I12) := by kernel_rfl
theorem ck12 : ckC 2 I12.body = true := by kernel_rfl

/-- 'encore/encorelaw24.num'. -/
def I13 : IFunc :=
  ⟨(.seq (.region [⟨(some 2), (.alloc [(.i .i64 (0)), (.i .i64 (0)), (.i .i64 (0)), (.i .i64 (0)), (.s []), .ns, .ns]), none, []⟩] [])
    (.seq (.region [⟨(some 3), (.mov (.t 0)), none, []⟩,
      ⟨(some 4), (.build [(.i .i64 (0)), (.i .i64 (0)), (.s []), .ns, .ns] [(0, 1, (.c (.i .i64 (1)))), (1, 1, (.t 3))]), none, []⟩,
      ⟨(some 5), (.build [(.i .i64 (0)), (.i .i64 (0)), (.i .i64 (0)), (.i .i64 (0)), (.s []), .ns, .ns] [(0, 1, (.c (.i .i64 (3)))), (2, 5, (.t 4))]), none, []⟩,
      ⟨none, (.store 7 (.t 2) (.t 5)), none, []⟩] [0, 3, 4, 5])
    .ret)),
    6, 1, [.c 2 (some 7)], 2⟩
theorem tr13 : trFunc Tryd.prog [([], []), ([], [0, 3, 4, 5])] 1 Tryd.f13 = some (plain1 I13) := by kernel_rfl
theorem ck13 : ckC 2 I13.body = true := by kernel_rfl

/-- 'encore/encorelaw24.one'. -/
def I14 : IFunc :=
  ⟨(.seq (.region [⟨(some 5), (.box (.t 2)), none, []⟩,
      ⟨(some 6), (.alloc [(.i .i64 (0)), (.i .i64 (0)), .ns, (.s []), .ns]), none, []⟩] [2])
    (.seq (.region [⟨(some 7), (.mov (.t 0)), none, []⟩,
      ⟨(some 8), (.mov (.t 1)), none, []⟩,
      ⟨(some 9), (.load (some 7) (.t 5)), none, []⟩,
      ⟨(some 10), (.bsl 7 1 [(.i .i64 (0)), (.i .i64 (0)), (.i .i64 (0)), (.i .i64 (0)), (.s []), .ns, .ns] [(0, 7, (.t 9))]), none, []⟩,
      ⟨(some 11), (.build [(.i .i64 (0)), (.i .i64 (0)), .ns, (.s []), .ns] [(0, 1, (.t 7)), (1, 1, (.t 8)), (2, 1, (.t 10))]), none, []⟩,
      ⟨none, (.store 5 (.t 6) (.t 11)), none, []⟩] [0, 1, 5, 7, 8, 9, 10, 11])
    .ret)),
    12, 3, [.c 6 (some 5)], 2⟩
theorem tr14 : trFunc Tryd.prog [([], [2]), ([], [0, 1, 5, 7, 8, 9, 10, 11])] 1 Tryd.f14 = some (plain1 I14) := by kernel_rfl
theorem ck14 : ckC 2 I14.body = true := by kernel_rfl

/-- 'encore/encorelaw24.step'. -/
def I15 : IFunc :=
  ⟨(.seq (.region [⟨(some 2), (.alloc [(.i .i64 (0)), (.i .i64 (0)), (.i .i64 (0)), (.i .i64 (0)), (.s []), .ns, .ns]), none, []⟩] [])
    (.seq (.region [⟨(some 3), (.mov (.t 0)), none, []⟩,
      ⟨(some 4), (.build [(.i .i64 (0)), (.i .i64 (0)), (.i .i64 (0)), (.i .i64 (0)), (.s []), .ns, .ns] [(0, 1, (.c (.i .i64 (2)))), (1, 1, (.t 3))]), none, []⟩,
      ⟨none, (.store 7 (.t 2) (.t 4)), none, []⟩] [0, 3, 4])
    .ret)),
    5, 1, [.c 2 (some 7)], 2⟩
theorem tr15 : trFunc Tryd.prog [([], []), ([], [0, 3, 4])] 1 Tryd.f15 = some (plain1 I15) := by kernel_rfl
theorem ck15 : ckC 2 I15.body = true := by kernel_rfl

/-- 'encore/fuse.Step'. -/
def I16 : IFunc :=
  ⟨(.seq (.region [⟨(some 3), (.box (.t 1)), none, []⟩,
      ⟨(some 4), (.alloc [(.i .i64 (0)), (.i .i64 (0)), .ns, (.s []), .ns]), none, []⟩] [1])
    (.seq (.region [⟨(some 6), (.mov (.t 0)), none, []⟩,
      ⟨(some 8), (.load (some 5) (.t 3)), none, []⟩,
      ⟨(some 9), (.bsl 5 1 [(.i .i64 (0)), (.i .i64 (0)), .ns, (.s []), .ns] [(0, 5, (.t 8))]), none, []⟩,
      ⟨(some 5), (.alloc [(.i .i64 (0)), (.i .i64 (0)), (.i .i64 (0)), (.i .i64 (0)), .ns, .ns, (.i .i64 (0)), (.i .i64 (0)), (.i .i64 (0)), (.i .i64 (0)), (.i .i64 (0)), (.i .i64 (0)), (.s []), .ns, .ns, (.i .i64 (0))]), none, []⟩,
      ⟨(some 7), (.call 26 [(.t 6)]), none, [(8, (.load (some 5) (.t 3)), none)]⟩,
      ⟨(some 10), (.app 5 80 (.t 7) (.t 9)), none, []⟩,
      ⟨(some 11), (.build [(.i .i64 (0)), (.i .i64 (0)), (.i .i64 (0)), (.i .i64 (0)), .ns, .ns, (.i .i64 (0)), (.i .i64 (0)), (.i .i64 (0)), (.i .i64 (0)), (.i .i64 (0)), (.i .i64 (0)), (.s []), .ns, .ns, (.i .i64 (0))] [(3, 1, (.c (.i .i64 (64)))), (4, 1, (.t 10))]), none, []⟩,
      ⟨none, (.store 16 (.t 5) (.t 11)), none, []⟩] [6, 8, 9, 7, 10, 11])
    (.seq (.seq (.region [⟨(some 12), (.load (some 16) (.t 5)), none, []⟩,
      ⟨(some 13), (.call 17 [(.t 12)]), none, []⟩,
      ⟨(some 14), (.bin .neq (.t 13) (.c (.i .i64 (0)))), none, []⟩] [5, 12, 13])
    (.cond (.t 14)
      (.seq (.region [⟨(some 15), (.load (some 5) (.t 3)), none, []⟩,
        ⟨(some 16), (.call 18 [(.t 15)]), none, []⟩,
        ⟨none, (.store 5 (.t 4) (.t 16)), none, []⟩] [0, 3, 14, 15, 16])
      .ret)
      (.region [] [14])))
    (.seq (.region [⟨(some 17), (.mov (.t 0)), none, []⟩,
      ⟨(some 18), (.load (some 5) (.t 3)), none, []⟩,
      ⟨(some 19), (.call 19 [(.t 17), (.t 18)]), none, []⟩,
      ⟨(some 20), (.call 18 [(.t 19)]), none, []⟩,
      ⟨none, (.store 5 (.t 4) (.t 20)), none, []⟩] [0, 3, 17, 18, 19, 20])
    .ret)))),
    21, 2, [.c 4 (some 5)], 2⟩
theorem tr16 : trFunc Tryd.prog [([], [1]), ([0, 2, 3, 6, 1, 4, 5, 7], [6, 8, 9, 7, 10, 11]), ([], [5, 12, 13]), ([], [0, 3, 14, 15, 16]), ([], [14]), ([], [0, 3, 17, 18, 19, 20])] 1 Tryd.f16 = some (plain1 I16) := by kernel_rfl
theorem ck16 : ckC 2 I16.body = true := by kernel_rfl

/-- 'encore/lift.Check'. -/
def L17a : ICode :=
  (.seq (.region [⟨(some 26), (.bin .lss (.t 25) (.t 24)), none, []⟩] [])
    (.seq (.cond (.t 26)
      (.region [] [26])
      (.exit 0))
    (.seq (.block 1
      (.seq (.region [⟨(some 27), (.iaddr 1 (.t 23) (.t 25)), none, []⟩,
        ⟨(some 28), (.load none (.t 27)), none, []⟩,
        ⟨(some 4), (.mov (.t 28)), none, []⟩] [27, 28])
      (.seq (.region [⟨(some 29), (.mov (.t 4)), none, []⟩,
        ⟨(some 30), (.bin .lss (.t 29) (.c (.i .i64 (0)))), none, []⟩] [4, 29])
      (.cond (.t 30)
        (.seq (.region [⟨(some 2), (.mov (.c (.i .i64 (2)))), none, []⟩] [1, 23, 24, 25, 30])
        .ret)
        (.region [] [30])))))
    (.region [⟨(some 31), (.bin .add (.t 25) (.c (.i .i64 (1)))), none, []⟩,
      ⟨(some 25), (.mov (.t 31)), none, []⟩] [31]))))
def L17b : ICode :=
  (.seq (.region [⟨(some 69), (.bin .lss (.t 68) (.t 67)), none, []⟩] [])
    (.seq (.cond (.t 69)
      (.region [] [69])
      (.exit 2))
    (.seq (.block 3
      (.seq (.region [⟨(some 70), (.mov (.t 68)), none, []⟩,
        ⟨(some 71), (.iaddr 5 (.t 66) (.t 68)), none, []⟩,
        ⟨(some 72), (.load (some 5) (.t 71)), none, []⟩,
        ⟨(some 6), (.alloc [(.i .i64 (0)), (.i .i64 (0)), .ns, (.s []), .ns]), none, []⟩,
        ⟨(some 5), (.mov (.t 70)), none, []⟩,
        ⟨none, (.store 5 (.t 6) (.t 72)), none, []⟩] [70, 71, 72])
      (.seq (.region [⟨(some 73), (.load (some 5) (.t 6)), none, []⟩,
        ⟨(some 74), (.off (.t 1) 3), none, []⟩,
        ⟨(some 75), (.load none (.t 74)), none, []⟩,
        ⟨(some 76), (.mov (.t 5)), none, []⟩,
        ⟨(some 77), (.call 27 [(.t 73), (.t 75), (.t 76)]), none, []⟩,
        ⟨(some 78), (.un .not (.t 77)), none, []⟩] [6, 5, 73, 74, 75, 76, 77])
      (.cond (.t 78)
        (.seq (.region [⟨(some 2), (.mov (.c (.i .i64 (2)))), none, []⟩] [1, 66, 67, 68, 78])
        .ret)
        (.region [] [78])))))
    (.region [⟨(some 79), (.bin .add (.t 68) (.c (.i .i64 (1)))), none, []⟩,
      ⟨(some 68), (.mov (.t 79)), none, []⟩] [79]))))
def I17 : IFunc :=
  ⟨(.seq (.region [⟨(some 1), (.box (.t 0)), none, []⟩,
      ⟨(some 2), (.mov (.c (.i .i64 (0)))), none, []⟩] [0, 2])
    (.seq (.seq (.region [⟨(some 9), (.off (.t 1) 0), none, []⟩,
      ⟨(some 10), (.load none (.t 9)), none, []⟩,
      ⟨(some 11), (.off (.t 1) 1), none, []⟩,
      ⟨(some 12), (.load none (.t 11)), none, []⟩,
      ⟨(some 13), (.off (.t 1) 2), none, []⟩,
      ⟨(some 14), (.load none (.t 13)), none, []⟩,
      ⟨(some 15), (.off (.t 1) 3), none, []⟩,
      ⟨(some 16), (.load none (.t 15)), none, []⟩,
      ⟨(some 17), (.off (.t 1) 15), none, []⟩,
      ⟨(some 18), (.load none (.t 17)), none, []⟩,
      ⟨(some 19), (.off (.t 1) 6), none, []⟩,
      ⟨(some 20), (.load none (.t 19)), none, []⟩,
      ⟨(some 21), (.off (.t 1) 7), none, []⟩,
      ⟨(some 22), (.load none (.t 21)), none, []⟩,
      ⟨(some 23), (.bsl 1 7 [(.i .i64 (0)), (.i .i64 (0)), (.i .i64 (0)), (.i .i64 (0)), (.i .i64 (0)), (.i .i64 (0)), (.i .i64 (0))] [(0, 1, (.t 10)), (1, 1, (.t 12)), (2, 1, (.t 14)), (3, 1, (.t 16)), (4, 1, (.t 18)), (5, 1, (.t 20)), (6, 1, (.t 22))]), none, []⟩,
      ⟨(some 24), (.lenk 0 (.t 23)), none, []⟩,
      ⟨(some 25), (.mov (.c (.i .i64 (0)))), none, []⟩] [9, 10, 11, 12, 13, 14, 15, 16, 17, 18, 19, 20, 21, 22])
    (.block 0
      (.loop L17a)))
    (.seq (.seq (.region [⟨(some 32), (.off (.t 1) 0), none, []⟩,
      ⟨(some 33), (.load none (.t 32)), none, []⟩,
      ⟨(some 34), (.off (.t 1) 1), none, []⟩,
      ⟨(some 35), (.load none (.t 34)), none, []⟩,
      ⟨(some 36), (.off (.t 1) 2), none, []⟩,
      ⟨(some 37), (.load none (.t 36)), none, []⟩,
      ⟨(some 38), (.mm true (.t 33) [(.t 35), (.t 37)]), none, []⟩,
      ⟨(some 39), (.bin .gtr (.t 38) (.c (.i .i64 (9007199254740991)))), none, []⟩] [23, 24, 25, 26, 32, 33, 34, 35, 36, 37, 38])
    (.cond (.t 39)
      (.seq (.region [⟨(some 2), (.mov (.c (.i .i64 (2)))), none, []⟩] [1, 39])
      .ret)
      (.region [] [39])))
    (.seq (.seq (.region [⟨(some 40), (.off (.t 1) 3), none, []⟩,
      ⟨(some 41), (.load none (.t 40)), none, []⟩,
      ⟨(some 42), (.bin .gtr (.t 41) (.c (.i .i64 (64)))), none, []⟩,
      ⟨(some 43), (.mov (.t 42)), none, []⟩,
      ⟨(some 44), (.off (.t 1) 15), (some (43, false)), []⟩,
      ⟨(some 45), (.load none (.t 44)), (some (43, false)), []⟩,
      ⟨(some 46), (.bin .gtr (.t 45) (.c (.i .i64 (1)))), (some (43, false)), []⟩,
      ⟨(some 47), (.pick (.t 43) (.c (.b true)) (.t 46)), none, []⟩,
      ⟨(some 48), (.mov (.t 47)), none, []⟩,
      ⟨(some 49), (.off (.t 1) 6), (some (48, false)), []⟩,
      ⟨(some 50), (.load none (.t 49)), (some (48, false)), []⟩,
      ⟨(some 51), (.bin .gtr (.t 50) (.c (.i .i64 (3)))), (some (48, false)), []⟩,
      ⟨(some 52), (.pick (.t 48) (.c (.b true)) (.t 51)), none, []⟩,
      ⟨(some 53), (.mov (.t 52)), none, []⟩,
      ⟨(some 54), (.off (.t 1) 4), (some (53, false)), []⟩,
      ⟨(some 55), (.load none (.t 54)), (some (53, false)), []⟩,
      ⟨(some 56), (.lenk 0 (.t 55)), (some (53, false)), []⟩,
      ⟨(some 57), (.bin .gtr (.t 56) (.c (.i .i64 (4096)))), (some (53, false)), []⟩,
      ⟨(some 58), (.pick (.t 53) (.c (.b true)) (.t 57)), none, []⟩,
      ⟨(some 59), (.mov (.t 58)), none, []⟩,
      ⟨(some 60), (.off (.t 1) 5), (some (59, false)), []⟩,
      ⟨(some 61), (.load none (.t 60)), (some (59, false)), []⟩,
      ⟨(some 62), (.lenk 0 (.t 61)), (some (59, false)), []⟩,
      ⟨(some 63), (.bin .gtr (.t 62) (.c (.i .i64 (64)))), (some (59, false)), []⟩,
      ⟨(some 64), (.pick (.t 59) (.c (.b true)) (.t 63)), none, []⟩] [40, 41, 42, 43, 44, 45, 46, 47, 48, 49, 50, 51, 52, 53, 54, 55, 56, 57, 58, 59, 60, 61, 62, 63])
    (.cond (.t 64)
      (.seq (.region [⟨(some 2), (.mov (.c (.i .i64 (2)))), none, []⟩] [1, 64])
      .ret)
      (.region [] [64])))
    (.seq (.seq (.region [⟨(some 65), (.off (.t 1) 4), none, []⟩,
      ⟨(some 66), (.load none (.t 65)), none, []⟩,
      ⟨(some 67), (.lenk 0 (.t 66)), none, []⟩,
      ⟨(some 68), (.mov (.c (.i .i64 (0)))), none, []⟩] [65])
    (.block 2
      (.loop L17b)))
    (.seq (.region [⟨(some 80), (.off (.t 1) 6), none, []⟩,
      ⟨(some 81), (.load none (.t 80)), none, []⟩,
      ⟨(some 82), (.bin .eql (.t 81) (.c (.i .i64 (2)))), none, []⟩,
      ⟨(some 83), (.mov (.t 82)), none, []⟩,
      ⟨(some 84), (.off (.t 1) 8), (some (83, true)), []⟩,
      ⟨(some 85), (.load (some 7) (.t 84)), (some (83, true)), []⟩,
      ⟨(some 86), (.off (.t 1) 3), (some (83, true)), []⟩,
      ⟨(some 87), (.load none (.t 86)), (some (83, true)), []⟩,
      ⟨(some 88), (.off (.t 1) 4), (some (83, true)), []⟩,
      ⟨(some 89), (.load none (.t 88)), (some (83, true)), []⟩,
      ⟨(some 90), (.lenk 0 (.t 89)), (some (83, true)), []⟩,
      ⟨(some 91), (.call 28 [(.t 85), (.t 87), (.t 90)]), (some (83, true)), []⟩,
      ⟨(some 92), (.pick (.t 83) (.t 91) (.c (.b false))), none, []⟩,
      ⟨(some 7), (.mov (.t 92)), none, []⟩] [66, 67, 68, 69, 80, 81, 82, 83, 84, 85, 86, 87, 88, 89, 90, 91, 92])
    (.seq (.region [⟨(some 93), (.off (.t 1) 6), none, []⟩,
      ⟨(some 94), (.load none (.t 93)), none, []⟩,
      ⟨(some 95), (.bin .neq (.t 94) (.c (.i .i64 (2)))), none, []⟩,
      ⟨(some 96), (.mov (.t 95)), none, []⟩,
      ⟨(some 97), (.off (.t 1) 8), (some (96, true)), []⟩,
      ⟨(some 98), (.off (.t 97) 0), (some (96, true)), []⟩,
      ⟨(some 99), (.load none (.t 98)), (some (96, true)), []⟩,
      ⟨(some 100), (.bin .eql (.t 99) (.c (.i .i64 (0)))), (some (96, true)), []⟩,
      ⟨(some 101), (.pick (.t 96) (.t 100) (.c (.b false))), none, []⟩,
      ⟨(some 102), (.mov (.t 101)), none, []⟩,
      ⟨(some 103), (.off (.t 1) 8), (some (102, true)), []⟩,
      ⟨(some 104), (.off (.t 103) 1), (some (102, true)), []⟩,
      ⟨(some 105), (.load none (.t 104)), (some (102, true)), []⟩,
      ⟨(some 106), (.bin .eql (.t 105) (.c (.i .i64 (0)))), (some (102, true)), []⟩,
      ⟨(some 107), (.pick (.t 102) (.t 106) (.c (.b false))), none, []⟩,
      ⟨(some 108), (.mov (.t 107)), none, []⟩,
      ⟨(some 109), (.off (.t 1) 8), (some (108, true)), []⟩,
      ⟨(some 110), (.off (.t 109) 2), (some (108, true)), []⟩,
      ⟨(some 111), (.load (some 5) (.t 110)), (some (108, true)), []⟩,
      ⟨(some 112), (.call 29 [(.t 111)]), (some (108, true)), []⟩,
      ⟨(some 113), (.pick (.t 108) (.t 112) (.c (.b false))), none, []⟩,
      ⟨(some 8), (.mov (.t 113)), none, []⟩] [93, 94, 95, 96, 97, 98, 99, 100, 101, 102, 103, 104, 105, 106, 107, 108, 109, 110, 111, 112, 113])
    (.seq (.seq (.region [⟨(some 114), (.mov (.t 7)), none, []⟩,
      ⟨(some 115), (.un .not (.t 114)), none, []⟩,
      ⟨(some 116), (.mov (.t 115)), none, []⟩,
      ⟨(some 117), (.mov (.t 8)), (some (116, true)), []⟩,
      ⟨(some 118), (.un .not (.t 117)), (some (116, true)), []⟩,
      ⟨(some 119), (.pick (.t 116) (.t 118) (.c (.b false))), none, []⟩,
      ⟨(some 120), (.mov (.t 119)), none, []⟩,
      ⟨(some 121), (.off (.t 1) 5), (some (120, false)), []⟩,
      ⟨(some 122), (.load none (.t 121)), (some (120, false)), []⟩,
      ⟨(some 123), (.off (.t 1) 3), (some (120, false)), []⟩,
      ⟨(some 124), (.load none (.t 123)), (some (120, false)), []⟩,
      ⟨(some 125), (.off (.t 1) 4), (some (120, false)), []⟩,
      ⟨(some 126), (.load none (.t 125)), (some (120, false)), []⟩,
      ⟨(some 127), (.lenk 0 (.t 126)), (some (120, false)), []⟩,
      ⟨(some 128), (.call 30 [(.t 122), (.t 124), (.t 127)]), (some (120, false)), []⟩,
      ⟨(some 129), (.un .not (.t 128)), (some (120, false)), []⟩,
      ⟨(some 130), (.pick (.t 120) (.c (.b true)) (.t 129)), none, []⟩] [1, 7, 8, 114, 115, 116, 117, 118, 119, 120, 121, 122, 123, 124, 125, 126, 127, 128, 129])
    (.cond (.t 130)
      (.seq (.region [⟨(some 2), (.mov (.c (.i .i64 (2)))), none, []⟩] [130])
      .ret)
      (.region [] [130])))
    (.seq (.region [⟨(some 2), (.mov (.c (.i .i64 (0)))), none, []⟩] [])
    .ret))))))))),
    131, 1, [.t 2], 2⟩
theorem tr17 : trFunc Tryd.prog [([], [0, 2]), ([], [9, 10, 11, 12, 13, 14, 15, 16, 17, 18, 19, 20, 21, 22]), ([], []), ([], [26]), ([], [27, 28]), ([], [4, 29]), ([], [1, 23, 24, 25, 30]), ([], [30]), ([], [31]), ([], [23, 24, 25, 26, 32, 33, 34, 35, 36, 37, 38]), ([], [1, 39]), ([], [39]), ([], [40, 41, 42, 43, 44, 45, 46, 47, 48, 49, 50, 51, 52, 53, 54, 55, 56, 57, 58, 59, 60, 61, 62, 63]), ([], [1, 64]), ([], [64]), ([], [65]), ([], []), ([], [69]), ([], [70, 71, 72]), ([], [6, 5, 73, 74, 75, 76, 77]), ([], [1, 66, 67, 68, 78]), ([], [78]), ([], [79]), ([], [66, 67, 68, 69, 80, 81, 82, 83, 84, 85, 86, 87, 88, 89, 90, 91, 92]), ([], [93, 94, 95, 96, 97, 98, 99, 100, 101, 102, 103, 104, 105, 106, 107, 108, 109, 110, 111, 112, 113]), ([], [1, 7, 8, 114, 115, 116, 117, 118, 119, 120, 121, 122, 123, 124, 125, 126, 127, 128, 129]), ([], [130]), ([], [130]), ([], [])] 1 Tryd.f17 = some (plain1 I17) := by kernel_rfl
theorem ck17 : ckC 2 I17.body = true := by kernel_rfl

/-- 'encore/fuse.ownStep'. -/
def L18a : ICode :=
  (.seq (.region [⟨(some 16), (.bin .lss (.t 15) (.t 14)), none, []⟩] [])
    (.seq (.cond (.t 16)
      (.region [] [16])
      (.exit 0))
    (.seq (.block 1
      (.seq (.region [⟨(some 17), (.mov (.t 15)), none, []⟩,
        ⟨(some 3), (.mov (.t 17)), none, []⟩] [17])
      (.region [⟨(some 18), (.off (.t 1) 2), none, []⟩,
        ⟨(some 19), (.load none (.t 18)), none, []⟩,
        ⟨(some 20), (.mov (.t 3)), none, []⟩,
        ⟨(some 21), (.off (.t 1) 2), none, []⟩,
        ⟨(some 22), (.load none (.t 21)), none, []⟩,
        ⟨(some 23), (.mov (.t 3)), none, []⟩,
        ⟨(some 24), (.iaddr 7 (.t 22) (.t 23)), none, []⟩,
        ⟨(some 25), (.off (.t 24) 2), none, []⟩,
        ⟨(some 26), (.load (some 5) (.t 25)), none, []⟩,
        ⟨(some 27), (.call 21 [(.t 26)]), none, [(19, (.load none (.t 18)), none)]⟩,
        ⟨(some 28), (.iaddr 7 (.t 19) (.t 20)), none, []⟩,
        ⟨(some 29), (.off (.t 28) 2), none, []⟩,
        ⟨none, (.store 5 (.t 29) (.t 27)), none, []⟩] [3, 18, 19, 20, 21, 22, 23, 24, 25, 26, 27, 28, 29])))
    (.region [⟨(some 30), (.bin .add (.t 15) (.c (.i .i64 (1)))), none, []⟩,
      ⟨(some 15), (.mov (.t 30)), none, []⟩] [30]))))
def I18 : IFunc :=
  ⟨(.seq (.region [⟨(some 1), (.box (.t 0)), none, []⟩,
      ⟨(some 2), (.alloc [(.i .i64 (0)), (.i .i64 (0)), .ns, (.s []), .ns]), none, []⟩] [0])
    (.seq (.region [⟨(some 4), (.off (.t 1) 2), none, []⟩,
      ⟨(some 5), (.load none (.t 4)), none, []⟩,
      ⟨(some 7), (.off (.t 1) 4), none, []⟩,
      ⟨(some 8), (.load none (.t 7)), none, []⟩,
      ⟨(some 6), (.call 20 [(.t 5)]), none, [(8, (.load none (.t 7)), none)]⟩,
      ⟨(some 10), (.off (.t 1) 2), none, []⟩,
      ⟨(some 9), (.call 31 [(.t 8)]), none, []⟩,
      ⟨none, (.store 1 (.t 10) (.t 6)), none, []⟩,
      ⟨(some 11), (.off (.t 1) 4), none, []⟩,
      ⟨none, (.store 1 (.t 11) (.t 9)), none, []⟩] [4, 5, 7, 8, 6, 10, 9, 11])
    (.seq (.seq (.region [⟨(some 12), (.off (.t 1) 2), none, []⟩,
      ⟨(some 13), (.load none (.t 12)), none, []⟩,
      ⟨(some 14), (.lenk 0 (.t 13)), none, []⟩,
      ⟨(some 15), (.mov (.c (.i .i64 (0)))), none, []⟩] [12, 13])
    (.block 0
      (.loop L18a)))
    (.seq (.region [⟨(some 31), (.load (some 5) (.t 1)), none, []⟩,
      ⟨none, (.store 5 (.t 2) (.t 31)), none, []⟩] [1, 14, 15, 16, 31])
    .ret)))),
    32, 1, [.c 2 (some 5)], 2⟩
theorem tr18 : trFunc Tryd.prog [([], [0]), ([0, 1, 3, 4, 2, 6, 5, 7, 8, 9], [4, 5, 7, 8, 6, 10, 9, 11]), ([], [12, 13]), ([], []), ([], [16]), ([], [17]), ([0, 1, 2, 3, 4, 5, 6, 7, 8, 9, 10, 11, 12], [3, 18, 19, 20, 21, 22, 23, 24, 25, 26, 27, 28, 29]), ([], [30]), ([], [1, 14, 15, 16, 31])] 1 Tryd.f18 = some (plain1 I18) := by kernel_rfl
theorem ck18 : ckC 2 I18.body = true := by kernel_rfl

/-- 'encore/fuse.turned'. -/
def L19a : ICode :=
  (.seq (.seq (.region [⟨(some 8), (.mov (.t 5)), none, []⟩,
      ⟨(some 9), (.call 32 []), none, []⟩,
      ⟨(some 10), (.mov (.c (.i .i64 (5)))), none, []⟩,
      ⟨(some 11), (.bin .lss (.t 8) (.t 10)), none, []⟩] [8, 9, 10])
    (.cond (.t 11)
      (.region [] [11])
      (.exit 0)))
    (.seq (.block 1
      (.seq (.region [⟨(some 16), (.mov (.t 5)), none, []⟩,
        ⟨(some 18), (.mov (.t 0)), none, []⟩,
        ⟨(some 19), (.load (some 5) (.t 3)), none, []⟩,
        ⟨(some 6), (.alloc [(.i .i64 (0)), (.i .i64 (0)), .ns, (.s []), .ns]), none, []⟩,
        ⟨(some 15), (.call 32 []), none, [(19, (.load (some 5) (.t 3)), none)]⟩,
        ⟨(some 17), (.idxA none 1 5 (.t 15) (.t 16)), none, []⟩,
        ⟨(some 20), (.callv (.t 17) [(.t 18), (.t 19)]), none, []⟩,
        ⟨(some 14), (.mov (.t 20)), none, []⟩,
        ⟨(some 21), (.ext (.t 14) 0), none, []⟩,
        ⟨(some 22), (.ext (.t 14) 1), none, []⟩,
        ⟨none, (.store 5 (.t 6) (.t 21)), none, []⟩,
        ⟨(some 7), (.mov (.t 22)), none, []⟩] [16, 18, 19, 15, 17, 20, 14, 21, 22])
      (.seq (.region [⟨(some 23), (.mov (.t 7)), none, []⟩] [7])
      (.cond (.t 23)
        (.region [⟨(some 24), (.load (some 5) (.t 6)), none, []⟩,
          ⟨none, (.store 5 (.t 3) (.t 24)), none, []⟩,
          ⟨(some 5), (.mov (.c (.i .i64 (-1)))), none, []⟩] [6, 23, 24])
        (.region [] [6, 23])))))
    (.region [⟨(some 12), (.mov (.t 5)), none, []⟩,
      ⟨(some 13), (.bin .add (.t 12) (.c (.i .i64 (1)))), none, []⟩,
      ⟨(some 5), (.mov (.t 13)), none, []⟩] [12, 13])))
def I19 : IFunc :=
  ⟨(.seq (.region [⟨(some 3), (.box (.t 1)), none, []⟩,
      ⟨(some 4), (.alloc [(.i .i64 (0)), (.i .i64 (0)), .ns, (.s []), .ns]), none, []⟩] [1])
    (.seq (.seq (.region [⟨(some 5), (.mov (.c (.i .i64 (0)))), none, []⟩] [])
    (.block 0
      (.loop L19a)))
    (.seq (.region [⟨(some 25), (.load (some 5) (.t 3)), none, []⟩,
      ⟨none, (.store 5 (.t 4) (.t 25)), none, []⟩] [0, 3, 5, 11, 25])
    .ret))),
    26, 2, [.c 4 (some 5)], 2⟩
theorem tr19 : trFunc Tryd.prog [([], [1]), ([], []), ([], [8, 9, 10]), ([], [11]), ([1, 3, 4, 9, 0, 2, 5, 6, 7, 8, 10, 11], [16, 18, 19, 15, 17, 20, 14, 21, 22]), ([], [7]), ([], [6, 23, 24]), ([], [6, 23]), ([], [12, 13]), ([], [0, 3, 5, 11, 25])] 1 Tryd.f19 = some (plain1 I19) := by kernel_rfl
theorem ck19 : ckC 2 I19.body = true := by kernel_rfl

/-- 'slices.Clone[[]encore/lift.Operand,encore/lift.Operand]'. -/
def I20 : IFunc := ⟨cloneCode 7 96, 8, 1, [.t 2], 4⟩
theorem tr20 : trFunc Tryd.prog [([], []), ([], []), ([], []), ([], []), ([], [])] 1 Tryd.f20 = some (plain1 I20) := by kernel_rfl
theorem ck20 : ckC 2 (cloneCode 7 96) = true := by kernel_rfl

/-- 'encore/fuse.own'. -/
def L21a : ICode :=
  (.seq (.region [⟨(some 16), (.bin .lss (.t 15) (.t 14)), none, []⟩] [])
    (.seq (.cond (.t 16)
      (.region [] [16])
      (.exit 0))
    (.seq (.block 1
      (.seq (.region [⟨(some 17), (.mov (.t 15)), none, []⟩,
        ⟨(some 3), (.mov (.t 17)), none, []⟩] [17])
      (.region [⟨(some 18), (.off (.t 1) 3), none, []⟩,
        ⟨(some 19), (.load none (.t 18)), none, []⟩,
        ⟨(some 20), (.mov (.t 3)), none, []⟩,
        ⟨(some 21), (.off (.t 1) 3), none, []⟩,
        ⟨(some 22), (.load none (.t 21)), none, []⟩,
        ⟨(some 23), (.mov (.t 3)), none, []⟩,
        ⟨(some 24), (.iaddr 5 (.t 22) (.t 23)), none, []⟩,
        ⟨(some 25), (.load (some 5) (.t 24)), none, []⟩,
        ⟨(some 26), (.call 21 [(.t 25)]), none, [(19, (.load none (.t 18)), none)]⟩,
        ⟨(some 27), (.iaddr 5 (.t 19) (.t 20)), none, []⟩,
        ⟨none, (.store 5 (.t 27) (.t 26)), none, []⟩] [3, 18, 19, 20, 21, 22, 23, 24, 25, 26, 27])))
    (.region [⟨(some 28), (.bin .add (.t 15) (.c (.i .i64 (1)))), none, []⟩,
      ⟨(some 15), (.mov (.t 28)), none, []⟩] [28]))))
def I21 : IFunc :=
  ⟨(.seq (.region [⟨(some 1), (.box (.t 0)), none, []⟩,
      ⟨(some 2), (.alloc [(.i .i64 (0)), (.i .i64 (0)), (.s []), .ns, .ns]), none, []⟩] [0])
    (.seq (.region [⟨(some 4), (.off (.t 1) 4), none, []⟩,
      ⟨(some 5), (.load none (.t 4)), none, []⟩,
      ⟨(some 7), (.off (.t 1) 3), none, []⟩,
      ⟨(some 8), (.load none (.t 7)), none, []⟩,
      ⟨(some 6), (.call 31 [(.t 5)]), none, [(8, (.load none (.t 7)), none)]⟩,
      ⟨(some 10), (.off (.t 1) 4), none, []⟩,
      ⟨(some 9), (.call 33 [(.t 8)]), none, []⟩,
      ⟨none, (.store 1 (.t 10) (.t 6)), none, []⟩,
      ⟨(some 11), (.off (.t 1) 3), none, []⟩,
      ⟨none, (.store 1 (.t 11) (.t 9)), none, []⟩] [4, 5, 7, 8, 6, 10, 9, 11])
    (.seq (.seq (.region [⟨(some 12), (.off (.t 1) 3), none, []⟩,
      ⟨(some 13), (.load none (.t 12)), none, []⟩,
      ⟨(some 14), (.lenk 0 (.t 13)), none, []⟩,
      ⟨(some 15), (.mov (.c (.i .i64 (0)))), none, []⟩] [12, 13])
    (.block 0
      (.loop L21a)))
    (.seq (.region [⟨(some 29), (.load (some 5) (.t 1)), none, []⟩,
      ⟨none, (.store 5 (.t 2) (.t 29)), none, []⟩] [1, 14, 15, 16, 29])
    .ret)))),
    30, 1, [.c 2 (some 5)], 2⟩
theorem tr21 : trFunc Tryd.prog [([], [0]), ([0, 1, 3, 4, 2, 6, 5, 7, 8, 9], [4, 5, 7, 8, 6, 10, 9, 11]), ([], [12, 13]), ([], []), ([], [16]), ([], [17]), ([0, 1, 2, 3, 4, 5, 6, 7, 8, 9, 10], [3, 18, 19, 20, 21, 22, 23, 24, 25, 26, 27]), ([], [28]), ([], [1, 14, 15, 16, 29])] 1 Tryd.f21 = some (plain1 I21) := by kernel_rfl
theorem ck21 : ckC 2 I21.body = true := by kernel_rfl

/-- 'encore/encoreref20.Copy'. -/
def L22a : ICode :=
  (.seq (.seq (.region [⟨(some 7), (.mov (.t 4)), none, []⟩,
      ⟨(some 8), (.off (.t 1) 4), none, []⟩,
      ⟨(some 9), (.load none (.t 8)), none, []⟩,
      ⟨(some 10), (.lenk 0 (.t 9)), none, []⟩,
      ⟨(some 11), (.bin .lss (.t 7) (.t 10)), none, []⟩] [7, 8, 9, 10])
    (.cond (.t 11)
      (.region [] [11])
      (.exit 0)))
    (.seq (.block 1
      (.region [⟨(some 14), (.off (.t 3) 4), none, []⟩,
        ⟨(some 15), (.load none (.t 14)), none, []⟩,
        ⟨(some 16), (.off (.t 1) 4), none, []⟩,
        ⟨(some 17), (.load none (.t 16)), none, []⟩,
        ⟨(some 18), (.mov (.t 4)), none, []⟩,
        ⟨(some 19), (.iaddr 5 (.t 17) (.t 18)), none, []⟩,
        ⟨(some 20), (.load (some 5) (.t 19)), none, []⟩,
        ⟨(some 21), (.call 34 [(.t 20)]), none, [(15, (.load none (.t 14)), none)]⟩,
        ⟨(some 22), (.bsl 5 1 [(.i .i64 (0)), (.i .i64 (0)), .ns, (.s []), .ns] [(0, 5, (.t 21))]), none, []⟩,
        ⟨(some 23), (.app 5 80 (.t 15) (.t 22)), none, []⟩,
        ⟨(some 24), (.off (.t 3) 4), none, []⟩,
        ⟨none, (.store 1 (.t 24) (.t 23)), none, []⟩] [14, 15, 16, 17, 18, 19, 20, 21, 22, 23, 24]))
    (.region [⟨(some 12), (.mov (.t 4)), none, []⟩,
      ⟨(some 13), (.bin .add (.t 12) (.c (.i .i64 (1)))), none, []⟩,
      ⟨(some 4), (.mov (.t 13)), none, []⟩] [12, 13])))
def I22 : IFunc :=
  ⟨(.seq (.region [⟨(some 1), (.box (.t 0)), none, []⟩,
      ⟨(some 2), (.alloc [(.i .i64 (0)), (.i .i64 (0)), (.i .i64 (0)), (.i .i64 (0)), .ns, .ns, (.i .i64 (0)), (.i .i64 (0)), (.i .i64 (0)), (.i .i64 (0)), (.i .i64 (0)), (.i .i64 (0)), (.s []), .ns, .ns, (.i .i64 (0))]), none, []⟩] [0])
    (.seq (.region [⟨(some 5), (.load (some 16) (.t 1)), none, []⟩,
      ⟨(some 3), (.alloc [(.i .i64 (0)), (.i .i64 (0)), (.i .i64 (0)), (.i .i64 (0)), .ns, .ns, (.i .i64 (0)), (.i .i64 (0)), (.i .i64 (0)), (.i .i64 (0)), (.i .i64 (0)), (.i .i64 (0)), (.s []), .ns, .ns, (.i .i64 (0))]), none, []⟩,
      ⟨none, (.store 16 (.t 3) (.t 5)), none, []⟩] [5])
    (.seq (.region [⟨(some 6), (.off (.t 3) 4), none, []⟩,
      ⟨none, (.store 1 (.t 6) (.c .ns)), none, []⟩] [6])
    (.seq (.seq (.region [⟨(some 4), (.mov (.c (.i .i64 (0)))), none, []⟩] [])
    (.block 0
      (.loop L22a)))
    (.seq (.region [⟨(some 25), (.off (.t 1) 5), none, []⟩,
      ⟨(some 26), (.load none (.t 25)), none, []⟩,
      ⟨(some 27), (.call 35 [(.t 26)]), none, []⟩,
      ⟨(some 28), (.off (.t 3) 5), none, []⟩,
      ⟨none, (.store 1 (.t 28) (.t 27)), none, []⟩] [4, 11, 25, 26, 27, 28])
    (.seq (.region [⟨(some 29), (.off (.t 1) 8), none, []⟩,
      ⟨(some 30), (.off (.t 29) 2), none, []⟩,
      ⟨(some 31), (.load (some 5) (.t 30)), none, []⟩,
      ⟨(some 32), (.call 36 [(.t 31)]), none, []⟩,
      ⟨(some 33), (.off (.t 3) 8), none, []⟩,
      ⟨(some 34), (.off (.t 33) 2), none, []⟩,
      ⟨none, (.store 5 (.t 34) (.t 32)), none, []⟩] [1, 29, 30, 31, 32, 33, 34])
    (.seq (.region [⟨(some 35), (.load (some 16) (.t 3)), none, []⟩,
      ⟨none, (.store 16 (.t 2) (.t 35)), none, []⟩] [3, 35])
    .ret))))))),
    36, 1, [.c 2 (some 16)], 2⟩
theorem tr22 : trFunc Tryd.prog [([], [0]), ([], [5]), ([], [6]), ([], []), ([], [7, 8, 9, 10]), ([], [11]), ([0, 1, 2, 3, 4, 5, 6, 7, 8, 9, 10, 11], [14, 15, 16, 17, 18, 19, 20, 21, 22, 23, 24]), ([], [12, 13]), ([], [4, 11, 25, 26, 27, 28]), ([], [1, 29, 30, 31, 32, 33, 34]), ([], [3, 35])] 1 Tryd.f22 = some (plain1 I22) := by kernel_rfl
theorem ck22 : ckC 2 I22.body = true := by kernel_rfl

/-- 'encore/encorelaw24.back'. -/
def L23a : ICode :=
  (.seq (.seq (.region [⟨(some 5), (.mov (.t 4)), none, []⟩,
      ⟨(some 6), (.mov (.t 0)), none, []⟩,
      ⟨(some 7), (.lenk 0 (.t 6)), none, []⟩,
      ⟨(some 8), (.bin .lss (.t 5) (.t 7)), none, []⟩] [5, 6, 7])
    (.cond (.t 8)
      (.region [] [8])
      (.exit 0)))
    (.seq (.block 1
      (.region [⟨(some 11), (.mov (.t 3)), none, []⟩,
        ⟨(some 12), (.mov (.t 0)), none, []⟩,
        ⟨(some 13), (.mov (.t 4)), none, []⟩,
        ⟨(some 14), (.iaddr 7 (.t 12) (.t 13)), none, []⟩,
        ⟨(some 15), (.off (.t 14) 0), none, []⟩,
        ⟨(some 16), (.load none (.t 15)), none, []⟩,
        ⟨(some 17), (.mov (.t 0)), none, []⟩,
        ⟨(some 18), (.mov (.t 4)), none, []⟩,
        ⟨(some 19), (.iaddr 7 (.t 17) (.t 18)), none, []⟩,
        ⟨(some 20), (.off (.t 19) 1), none, []⟩,
        ⟨(some 21), (.load none (.t 20)), none, []⟩,
        ⟨(some 22), (.mov (.t 0)), none, []⟩,
        ⟨(some 23), (.mov (.t 4)), none, []⟩,
        ⟨(some 24), (.iaddr 7 (.t 22) (.t 23)), none, []⟩,
        ⟨(some 25), (.off (.t 24) 2), none, []⟩,
        ⟨(some 26), (.load (some 5) (.t 25)), none, []⟩,
        ⟨(some 27), (.build [(.i .i64 (0)), (.i .i64 (0)), (.i .i64 (0)), (.i .i64 (0)), (.s []), .ns, .ns] [(0, 1, (.t 16)), (1, 1, (.t 21)), (2, 5, (.t 26))]), none, []⟩,
        ⟨(some 28), (.bsl 7 1 [(.i .i64 (0)), (.i .i64 (0)), (.i .i64 (0)), (.i .i64 (0)), (.s []), .ns, .ns] [(0, 7, (.t 27))]), none, []⟩,
        ⟨(some 29), (.app 7 96 (.t 11) (.t 28)), none, []⟩,
        ⟨(some 3), (.mov (.t 29)), none, []⟩] [11, 12, 13, 14, 15, 16, 17, 18, 19, 20, 21, 22, 23, 24, 25, 26, 27, 28, 29]))
    (.region [⟨(some 9), (.mov (.t 4)), none, []⟩,
      ⟨(some 10), (.bin .add (.t 9) (.c (.i .i64 (1)))), none, []⟩,
      ⟨(some 4), (.mov (.t 10)), none, []⟩] [9, 10])))
def I23 : IFunc :=
  ⟨(.seq (.region [⟨(some 2), (.mov (.c .ns)), none, []⟩] [2])
    (.seq (.region [⟨(some 3), (.mov (.c .ns)), none, []⟩] [])
    (.seq (.seq (.region [⟨(some 4), (.mov (.c (.i .i64 (0)))), none, []⟩] [])
    (.block 0
      (.loop L23a)))
    (.seq (.region [⟨(some 30), (.mov (.t 3)), none, []⟩,
      ⟨(some 2), (.mov (.t 30)), none, []⟩] [0, 3, 4, 8, 30])
    .ret)))),
    31, 1, [.t 2], 2⟩
theorem tr23 : trFunc Tryd.prog [([], [2]), ([], []), ([], []), ([], [5, 6, 7]), ([], [8]), ([0, 1, 2, 3, 4, 5, 6, 7, 8, 9, 10, 11, 12, 13, 14, 15, 16, 17, 18, 19], [11, 12, 13, 14, 15, 16, 17, 18, 19, 20, 21, 22, 23, 24, 25, 26, 27, 28, 29]), ([], [9, 10]), ([], [0, 3, 4, 8, 30])] 1 Tryd.f23 = some (plain1 I23) := by kernel_rfl
theorem ck23 : ckC 2 I23.body = true := by kernel_rfl

/-- 'encore/encoreref20.Same'. -/
def L24a : ICode :=
  (.seq (.seq (.region [⟨(some 62), (.mov (.t 5)), none, []⟩,
      ⟨(some 63), (.off (.t 2) 4), none, []⟩,
      ⟨(some 64), (.load none (.t 63)), none, []⟩,
      ⟨(some 65), (.lenk 0 (.t 64)), none, []⟩,
      ⟨(some 66), (.bin .lss (.t 62) (.t 65)), none, []⟩] [62, 63, 64, 65])
    (.cond (.t 66)
      (.region [] [66])
      (.exit 0)))
    (.seq (.block 1
      (.seq (.region [⟨(some 69), (.off (.t 2) 4), none, []⟩,
        ⟨(some 70), (.load none (.t 69)), none, []⟩,
        ⟨(some 71), (.mov (.t 5)), none, []⟩,
        ⟨(some 72), (.iaddr 5 (.t 70) (.t 71)), none, []⟩,
        ⟨(some 73), (.load (some 5) (.t 72)), none, []⟩,
        ⟨(some 74), (.off (.t 3) 4), none, []⟩,
        ⟨(some 75), (.load none (.t 74)), none, []⟩,
        ⟨(some 76), (.mov (.t 5)), none, []⟩,
        ⟨(some 77), (.iaddr 5 (.t 75) (.t 76)), none, []⟩,
        ⟨(some 78), (.load (some 5) (.t 77)), none, []⟩,
        ⟨(some 79), (.call 37 [(.t 73), (.t 78)]), none, []⟩,
        ⟨(some 80), (.un .not (.t 79)), none, []⟩] [69, 70, 71, 72, 73, 74, 75, 76, 77, 78, 79])
      (.cond (.t 80)
        (.seq (.region [⟨(some 4), (.mov (.c (.b false))), none, []⟩] [2, 3, 5, 80])
        .ret)
        (.region [] [80]))))
    (.region [⟨(some 67), (.mov (.t 5)), none, []⟩,
      ⟨(some 68), (.bin .add (.t 67) (.c (.i .i64 (1)))), none, []⟩,
      ⟨(some 5), (.mov (.t 68)), none, []⟩] [67, 68])))
def I24 : IFunc :=
  ⟨(.seq (.region [⟨(some 2), (.box (.t 0)), none, []⟩,
      ⟨(some 3), (.box (.t 1)), none, []⟩,
      ⟨(some 4), (.mov (.c (.b false))), none, []⟩] [0, 1, 4])
    (.seq (.seq (.region [⟨(some 6), (.off (.t 2) 0), none, []⟩,
      ⟨(some 7), (.load none (.t 6)), none, []⟩,
      ⟨(some 8), (.off (.t 3) 0), none, []⟩,
      ⟨(some 9), (.load none (.t 8)), none, []⟩,
      ⟨(some 10), (.bin .neq (.t 7) (.t 9)), none, []⟩,
      ⟨(some 11), (.mov (.t 10)), none, []⟩,
      ⟨(some 12), (.off (.t 2) 1), (some (11, false)), []⟩,
      ⟨(some 13), (.load none (.t 12)), (some (11, false)), []⟩,
      ⟨(some 14), (.off (.t 3) 1), (some (11, false)), []⟩,
      ⟨(some 15), (.load none (.t 14)), (some (11, false)), []⟩,
      ⟨(some 16), (.bin .neq (.t 13) (.t 15)), (some (11, false)), []⟩,
      ⟨(some 17), (.pick (.t 11) (.c (.b true)) (.t 16)), none, []⟩,
      ⟨(some 18), (.mov (.t 17)), none, []⟩,
      ⟨(some 19), (.off (.t 2) 2), (some (18, false)), []⟩,
      ⟨(some 20), (.load none (.t 19)), (some (18, false)), []⟩,
      ⟨(some 21), (.off (.t 3) 2), (some (18, false)), []⟩,
      ⟨(some 22), (.load none (.t 21)), (some (18, false)), []⟩,
      ⟨(some 23), (.bin .neq (.t 20) (.t 22)), (some (18, false)), []⟩,
      ⟨(some 24), (.pick (.t 18) (.c (.b true)) (.t 23)), none, []⟩,
      ⟨(some 25), (.mov (.t 24)), none, []⟩,
      ⟨(some 26), (.off (.t 2) 3), (some (25, false)), []⟩,
      ⟨(some 27), (.load none (.t 26)), (some (25, false)), []⟩,
      ⟨(some 28), (.off (.t 3) 3), (some (25, false)), []⟩,
      ⟨(some 29), (.load none (.t 28)), (some (25, false)), []⟩,
      ⟨(some 30), (.bin .neq (.t 27) (.t 29)), (some (25, false)), []⟩,
      ⟨(some 31), (.pick (.t 25) (.c (.b true)) (.t 30)), none, []⟩,
      ⟨(some 32), (.mov (.t 31)), none, []⟩,
      ⟨(some 33), (.off (.t 2) 6), (some (32, false)), []⟩,
      ⟨(some 34), (.load none (.t 33)), (some (32, false)), []⟩,
      ⟨(some 35), (.off (.t 3) 6), (some (32, false)), []⟩,
      ⟨(some 36), (.load none (.t 35)), (some (32, false)), []⟩,
      ⟨(some 37), (.bin .neq (.t 34) (.t 36)), (some (32, false)), []⟩,
      ⟨(some 38), (.pick (.t 32) (.c (.b true)) (.t 37)), none, []⟩,
      ⟨(some 39), (.mov (.t 38)), none, []⟩,
      ⟨(some 40), (.off (.t 2) 7), (some (39, false)), []⟩,
      ⟨(some 41), (.load none (.t 40)), (some (39, false)), []⟩,
      ⟨(some 42), (.off (.t 3) 7), (some (39, false)), []⟩,
      ⟨(some 43), (.load none (.t 42)), (some (39, false)), []⟩,
      ⟨(some 44), (.bin .neq (.t 41) (.t 43)), (some (39, false)), []⟩,
      ⟨(some 45), (.pick (.t 39) (.c (.b true)) (.t 44)), none, []⟩,
      ⟨(some 46), (.mov (.t 45)), none, []⟩,
      ⟨(some 47), (.off (.t 2) 15), (some (46, false)), []⟩,
      ⟨(some 48), (.load none (.t 47)), (some (46, false)), []⟩,
      ⟨(some 49), (.off (.t 3) 15), (some (46, false)), []⟩,
      ⟨(some 50), (.load none (.t 49)), (some (46, false)), []⟩,
      ⟨(some 51), (.bin .neq (.t 48) (.t 50)), (some (46, false)), []⟩,
      ⟨(some 52), (.pick (.t 46) (.c (.b true)) (.t 51)), none, []⟩,
      ⟨(some 53), (.mov (.t 52)), none, []⟩,
      ⟨(some 54), (.off (.t 2) 4), (some (53, false)), []⟩,
      ⟨(some 55), (.load none (.t 54)), (some (53, false)), []⟩,
      ⟨(some 56), (.lenk 0 (.t 55)), (some (53, false)), []⟩,
      ⟨(some 57), (.off (.t 3) 4), (some (53, false)), []⟩,
      ⟨(some 58), (.load none (.t 57)), (some (53, false)), []⟩,
      ⟨(some 59), (.lenk 0 (.t 58)), (some (53, false)), []⟩,
      ⟨(some 60), (.bin .neq (.t 56) (.t 59)), (some (53, false)), []⟩,
      ⟨(some 61), (.pick (.t 53) (.c (.b true)) (.t 60)), none, []⟩] [6, 7, 8, 9, 10, 11, 12, 13, 14, 15, 16, 17, 18, 19, 20, 21, 22, 23, 24, 25, 26, 27, 28, 29, 30, 31, 32, 33, 34, 35, 36, 37, 38, 39, 40, 41, 42, 43, 44, 45, 46, 47, 48, 49, 50, 51, 52, 53, 54, 55, 56, 57, 58, 59, 60])
    (.cond (.t 61)
      (.seq (.region [⟨(some 4), (.mov (.c (.b false))), none, []⟩] [2, 3, 61])
      .ret)
      (.region [] [61])))
    (.seq (.seq (.region [⟨(some 5), (.mov (.c (.i .i64 (0)))), none, []⟩] [])
    (.block 0
      (.loop L24a)))
    (.seq (.region [⟨(some 81), (.off (.t 2) 5), none, []⟩,
      ⟨(some 82), (.load none (.t 81)), none, []⟩,
      ⟨(some 83), (.off (.t 3) 5), none, []⟩,
      ⟨(some 84), (.load none (.t 83)), none, []⟩,
      ⟨(some 85), (.call 38 [(.t 82), (.t 84)]), none, []⟩,
      ⟨(some 86), (.mov (.t 85)), none, []⟩,
      ⟨(some 87), (.off (.t 2) 8), (some (86, true)), []⟩,
      ⟨(some 88), (.load (some 7) (.t 87)), (some (86, true)), []⟩,
      ⟨(some 89), (.off (.t 3) 8), (some (86, true)), []⟩,
      ⟨(some 90), (.load (some 7) (.t 89)), (some (86, true)), []⟩,
      ⟨(some 91), (.call 39 [(.t 88), (.t 90)]), (some (86, true)), []⟩,
      ⟨(some 92), (.pick (.t 86) (.t 91) (.c (.b false))), none, []⟩,
      ⟨(some 4), (.mov (.t 92)), none, []⟩] [2, 3, 5, 66, 81, 82, 83, 84, 85, 86, 87, 88, 89, 90, 91, 92])
    .ret)))),
    93, 2, [.t 4], 2⟩
theorem tr24 : trFunc Tryd.prog [([], [0, 1, 4]), ([], [6, 7, 8, 9, 10, 11, 12, 13, 14, 15, 16, 17, 18, 19, 20, 21, 22, 23, 24, 25, 26, 27, 28, 29, 30, 31, 32, 33, 34, 35, 36, 37, 38, 39, 40, 41, 42, 43, 44, 45, 46, 47, 48, 49, 50, 51, 52, 53, 54, 55, 56, 57, 58, 59, 60]), ([], [2, 3, 61]), ([], [61]), ([], []), ([], [62, 63, 64, 65]), ([], [66]), ([0, 1, 2, 3, 4, 5, 6, 7, 8, 9, 10, 11], [69, 70, 71, 72, 73, 74, 75, 76, 77, 78, 79]), ([], [2, 3, 5, 80]), ([], [80]), ([], [67, 68]), ([], [2, 3, 5, 66, 81, 82, 83, 84, 85, 86, 87, 88, 89, 90, 91, 92])] 1 Tryd.f24 = some (plain1 I24) := by kernel_rfl
theorem ck24 : ckC 2 I24.body = true := by kernel_rfl

/-- 'encore/encorelaw24.told'. -/
def L25a : ICode :=
  (.seq (.seq (.region [⟨(some 20), (.mov (.t 4)), none, []⟩,
      ⟨(some 21), (.off (.t 1) 4), none, []⟩,
      ⟨(some 22), (.load none (.t 21)), none, []⟩,
      ⟨(some 23), (.lenk 0 (.t 22)), none, []⟩,
      ⟨(some 24), (.bin .lss (.t 20) (.t 23)), none, []⟩] [20, 21, 22, 23])
    (.cond (.t 24)
      (.region [] [24])
      (.exit 0)))
    (.seq (.block 1
      (.region [⟨(some 27), (.off (.t 3) 4), none, []⟩,
        ⟨(some 28), (.load none (.t 27)), none, []⟩,
        ⟨(some 29), (.off (.t 1) 4), none, []⟩,
        ⟨(some 30), (.load none (.t 29)), none, []⟩,
        ⟨(some 31), (.mov (.t 4)), none, []⟩,
        ⟨(some 32), (.iaddr 5 (.t 30) (.t 31)), none, []⟩,
        ⟨(some 33), (.off (.t 32) 0), none, []⟩,
        ⟨(some 34), (.load none (.t 33)), none, []⟩,
        ⟨(some 35), (.off (.t 1) 4), none, []⟩,
        ⟨(some 36), (.load none (.t 35)), none, []⟩,
        ⟨(some 37), (.mov (.t 4)), none, []⟩,
        ⟨(some 38), (.iaddr 5 (.t 36) (.t 37)), none, []⟩,
        ⟨(some 39), (.off (.t 38) 1), none, []⟩,
        ⟨(some 40), (.load none (.t 39)), none, []⟩,
        ⟨(some 41), (.off (.t 1) 4), none, []⟩,
        ⟨(some 42), (.load none (.t 41)), none, []⟩,
        ⟨(some 43), (.mov (.t 4)), none, []⟩,
        ⟨(some 44), (.iaddr 5 (.t 42) (.t 43)), none, []⟩,
        ⟨(some 45), (.off (.t 44) 2), none, []⟩,
        ⟨(some 46), (.load none (.t 45)), none, []⟩,
        ⟨(some 48), (.off (.t 1) 4), none, []⟩,
        ⟨(some 49), (.load none (.t 48)), none, []⟩,
        ⟨(some 50), (.mov (.t 4)), none, []⟩,
        ⟨(some 51), (.iaddr 5 (.t 49) (.t 50)), none, []⟩,
        ⟨(some 52), (.off (.t 51) 3), none, []⟩,
        ⟨(some 53), (.load none (.t 52)), none, []⟩,
        ⟨(some 54), (.off (.t 1) 4), none, []⟩,
        ⟨(some 55), (.load none (.t 54)), none, []⟩,
        ⟨(some 56), (.mov (.t 4)), none, []⟩,
        ⟨(some 57), (.iaddr 5 (.t 55) (.t 56)), none, []⟩,
        ⟨(some 58), (.off (.t 57) 4), none, []⟩,
        ⟨(some 59), (.load none (.t 58)), none, []⟩,
        ⟨(some 47), (.call 40 [(.t 46)]), none, [(28, (.load none (.t 27)), none), (30, (.load none (.t 29)), none), (34, (.load none (.t 33)), none), (36, (.load none (.t 35)), none), (40, (.load none (.t 39)), none), (49, (.load none (.t 48)), none), (53, (.load none (.t 52)), none), (55, (.load none (.t 54)), none), (59, (.load none (.t 58)), none)]⟩,
        ⟨(some 60), (.build [(.i .i64 (0)), (.i .i64 (0)), .ns, (.s []), .ns] [(0, 1, (.t 34)), (1, 1, (.t 40)), (2, 1, (.t 47)), (3, 1, (.t 53)), (4, 1, (.t 59))]), none, []⟩,
        ⟨(some 61), (.bsl 5 1 [(.i .i64 (0)), (.i .i64 (0)), .ns, (.s []), .ns] [(0, 5, (.t 60))]), none, []⟩,
        ⟨(some 62), (.app 5 80 (.t 28) (.t 61)), none, []⟩,
        ⟨(some 63), (.off (.t 3) 4), none, []⟩,
        ⟨none, (.store 1 (.t 63) (.t 62)), none, []⟩] [27, 28, 29, 30, 31, 32, 33, 34, 35, 36, 37, 38, 39, 40, 41, 42, 43, 44, 45, 46, 48, 49, 50, 51, 52, 53, 54, 55, 56, 57, 58, 59, 47, 60, 61, 62, 63]))
    (.region [⟨(some 25), (.mov (.t 4)), none, []⟩,
      ⟨(some 26), (.bin .add (.t 25) (.c (.i .i64 (1)))), none, []⟩,
      ⟨(some 4), (.mov (.t 26)), none, []⟩] [25, 26])))
def I25 : IFunc :=
  ⟨(.seq (.region [⟨(some 1), (.box (.t 0)), none, []⟩,
      ⟨(some 2), (.alloc [(.i .i64 (0)), (.i .i64 (0)), (.i .i64 (0)), (.i .i64 (0)), .ns, .ns, (.i .i64 (0)), (.i .i64 (0)), (.i .i64 (0)), (.i .i64 (0)), (.i .i64 (0)), (.i .i64 (0)), (.s []), .ns, .ns, (.i .i64 (0))]), none, []⟩] [0])
    (.seq (.region [⟨(some 5), (.off (.t 1) 0), none, []⟩,
      ⟨(some 6), (.load none (.t 5)), none, []⟩,
      ⟨(some 7), (.off (.t 1) 1), none, []⟩,
      ⟨(some 8), (.load none (.t 7)), none, []⟩,
      ⟨(some 9), (.off (.t 1) 2), none, []⟩,
      ⟨(some 10), (.load none (.t 9)), none, []⟩,
      ⟨(some 11), (.off (.t 1) 3), none, []⟩,
      ⟨(some 12), (.load none (.t 11)), none, []⟩,
      ⟨(some 13), (.off (.t 1) 6), none, []⟩,
      ⟨(some 14), (.load none (.t 13)), none, []⟩,
      ⟨(some 15), (.off (.t 1) 7), none, []⟩,
      ⟨(some 16), (.load none (.t 15)), none, []⟩,
      ⟨(some 17), (.off (.t 1) 15), none, []⟩,
      ⟨(some 18), (.load none (.t 17)), none, []⟩,
      ⟨(some 19), (.build [(.i .i64 (0)), (.i .i64 (0)), (.i .i64 (0)), (.i .i64 (0)), .ns, .ns, (.i .i64 (0)), (.i .i64 (0)), (.i .i64 (0)), (.i .i64 (0)), (.i .i64 (0)), (.i .i64 (0)), (.s []), .ns, .ns, (.i .i64 (0))] [(0, 1, (.t 6)), (1, 1, (.t 8)), (2, 1, (.t 10)), (3, 1, (.t 12)), (6, 1, (.t 14)), (7, 1, (.t 16)), (15, 1, (.t 18))]), none, []⟩,
      ⟨(some 3), (.alloc [(.i .i64 (0)), (.i .i64 (0)), (.i .i64 (0)), (.i .i64 (0)), .ns, .ns, (.i .i64 (0)), (.i .i64 (0)), (.i .i64 (0)), (.i .i64 (0)), (.i .i64 (0)), (.i .i64 (0)), (.s []), .ns, .ns, (.i .i64 (0))]), none, []⟩,
      ⟨none, (.store 16 (.t 3) (.t 19)), none, []⟩] [5, 6, 7, 8, 9, 10, 11, 12, 13, 14, 15, 16, 17, 18, 19])
    (.seq (.seq (.region [⟨(some 4), (.mov (.c (.i .i64 (0)))), none, []⟩] [])
    (.block 0
      (.loop L25a)))
    (.seq (.region [⟨(some 64), (.off (.t 1) 5), none, []⟩,
      ⟨(some 65), (.load none (.t 64)), none, []⟩,
      ⟨(some 66), (.call 40 [(.t 65)]), none, []⟩,
      ⟨(some 67), (.off (.t 3) 5), none, []⟩,
      ⟨none, (.store 1 (.t 67) (.t 66)), none, []⟩] [4, 24, 64, 65, 66, 67])
    (.seq (.region [⟨(some 68), (.off (.t 1) 8), none, []⟩,
      ⟨(some 69), (.off (.t 68) 0), none, []⟩,
      ⟨(some 70), (.load none (.t 69)), none, []⟩,
      ⟨(some 71), (.off (.t 1) 8), none, []⟩,
      ⟨(some 72), (.off (.t 71) 1), none, []⟩,
      ⟨(some 73), (.load none (.t 72)), none, []⟩,
      ⟨(some 74), (.off (.t 1) 8), none, []⟩,
      ⟨(some 75), (.off (.t 74) 2), none, []⟩,
      ⟨(some 76), (.load (some 5) (.t 75)), none, []⟩,
      ⟨(some 77), (.build [(.i .i64 (0)), (.i .i64 (0)), (.i .i64 (0)), (.i .i64 (0)), (.s []), .ns, .ns] [(0, 1, (.t 70)), (1, 1, (.t 73)), (2, 5, (.t 76))]), none, []⟩,
      ⟨(some 78), (.off (.t 3) 8), none, []⟩,
      ⟨none, (.store 7 (.t 78) (.t 77)), none, []⟩] [1, 68, 69, 70, 71, 72, 73, 74, 75, 76, 77, 78])
    (.seq (.region [⟨(some 79), (.load (some 16) (.t 3)), none, []⟩,
      ⟨none, (.store 16 (.t 2) (.t 79)), none, []⟩] [3, 79])
    .ret)))))),
    80, 1, [.c 2 (some 16)], 2⟩
theorem tr25 : trFunc Tryd.prog [([], [0]), ([], [5, 6, 7, 8, 9, 10, 11, 12, 13, 14, 15, 16, 17, 18, 19]), ([], []), ([], [20, 21, 22, 23]), ([], [24]), ([0, 1, 2, 3, 4, 5, 6, 7, 8, 9, 10, 11, 12, 13, 14, 15, 16, 17, 18, 19, 21, 22, 23, 24, 25, 26, 27, 28, 29, 30, 31, 32, 20, 33, 34, 35, 36, 37], [27, 28, 29, 30, 31, 32, 33, 34, 35, 36, 37, 38, 39, 40, 41, 42, 43, 44, 45, 46, 48, 49, 50, 51, 52, 53, 54, 55, 56, 57, 58, 59, 47, 60, 61, 62, 63]), ([], [25, 26]), ([], [4, 24, 64, 65, 66, 67]), ([], [1, 68, 69, 70, 71, 72, 73, 74, 75, 76, 77, 78]), ([], [3, 79])] 1 Tryd.f25 = some (plain1 I25) := by kernel_rfl
theorem ck25 : ckC 2 I25.body = true := by kernel_rfl

/-- 'slices.Clone[[]encore/lift.Ins,encore/lift.Ins]'. -/
def I26 : IFunc := ⟨cloneCode 5 80, 8, 1, [.t 2], 4⟩
theorem tr26 : trFunc Tryd.prog [([], []), ([], []), ([], []), ([], []), ([], [])] 1 Tryd.f26 = some (plain1 I26) := by kernel_rfl
theorem ck26 : ckC 2 (cloneCode 5 80) = true := by kernel_rfl

/-- '(encore/lift.Ins).fits'. -/
def I27 : IFunc :=
  ⟨(.seq (.region [⟨(some 3), (.box (.t 0)), none, []⟩,
      ⟨(some 6), (.mov (.c (.b false))), none, []⟩] [0, 6])
    (.seq (.region [⟨(some 11), (.load (some 5) (.t 3)), none, []⟩,
      ⟨(some 12), (.call 41 [(.t 11)]), none, []⟩,
      ⟨(some 10), (.mov (.t 12)), none, []⟩,
      ⟨(some 13), (.ext (.t 10) 0), none, []⟩,
      ⟨(some 14), (.ext (.t 10) 1), none, []⟩,
      ⟨(some 15), (.ext (.t 10) 2), none, []⟩,
      ⟨(some 7), (.mov (.t 13)), none, []⟩,
      ⟨(some 8), (.mov (.t 14)), none, []⟩,
      ⟨(some 9), (.mov (.t 15)), none, []⟩] [11, 12, 10, 13, 14, 15])
    (.seq (.region [⟨(some 16), (.mov (.t 9)), none, []⟩,
      ⟨(some 17), (.mov (.t 16)), none, []⟩,
      ⟨(some 18), (.off (.t 3) 2), (some (17, true)), []⟩,
      ⟨(some 19), (.load none (.t 18)), (some (17, true)), []⟩,
      ⟨(some 20), (.lenk 0 (.t 19)), (some (17, true)), []⟩,
      ⟨(some 21), (.mov (.t 7)), (some (17, true)), []⟩,
      ⟨(some 22), (.bin .geq (.t 20) (.t 21)), (some (17, true)), []⟩,
      ⟨(some 23), (.pick (.t 17) (.t 22) (.c (.b false))), none, []⟩,
      ⟨(some 24), (.mov (.t 23)), none, []⟩,
      ⟨(some 25), (.off (.t 3) 2), (some (24, true)), []⟩,
      ⟨(some 26), (.load none (.t 25)), (some (24, true)), []⟩,
      ⟨(some 27), (.lenk 0 (.t 26)), (some (24, true)), []⟩,
      ⟨(some 28), (.mov (.t 8)), (some (24, true)), []⟩,
      ⟨(some 29), (.bin .leq (.t 27) (.t 28)), (some (24, true)), []⟩,
      ⟨(some 30), (.pick (.t 24) (.t 29) (.c (.b false))), none, []⟩,
      ⟨(some 31), (.mov (.t 30)), none, []⟩,
      ⟨(some 32), (.off (.t 3) 2), (some (31, true)), []⟩,
      ⟨(some 33), (.load none (.t 32)), (some (31, true)), []⟩,
      ⟨(some 34), (.mov (.t 1)), (some (31, true)), []⟩,
      ⟨(some 35), (.mov (.t 2)), (some (31, true)), []⟩,
      ⟨(some 36), (.call 30 [(.t 33), (.t 34), (.t 35)]), (some (31, true)), []⟩,
      ⟨(some 37), (.pick (.t 31) (.t 36) (.c (.b false))), none, []⟩,
      ⟨(some 6), (.mov (.t 37)), none, []⟩] [1, 2, 3, 7, 8, 9, 16, 17, 18, 19, 20, 21, 22, 23, 24, 25, 26, 27, 28, 29, 30, 31, 32, 33, 34, 35, 36, 37])
    .ret))),
    38, 3, [.t 6], 2⟩
theorem tr27 : trFunc Tryd.prog [([], [0, 6]), ([], [11, 12, 10, 13, 14, 15]), ([], [1, 2, 3, 7, 8, 9, 16, 17, 18, 19, 20, 21, 22, 23, 24, 25, 26, 27, 28, 29, 30, 31, 32, 33, 34, 35, 36, 37])] 1 Tryd.f27 = some (plain1 I27) := by kernel_rfl
theorem ck27 : ckC 2 I27.body = true := by kernel_rfl

/-- '(encore/lift.Operand).fits'. -/
def I28 : IFunc :=
  ⟨(.seq (.region [⟨(some 3), (.box (.t 0)), none, []⟩,
      ⟨(some 6), (.mov (.c (.b false))), none, []⟩] [0, 6])
    (.seq (.seq (.region [⟨(some 7), (.off (.t 3) 0), none, []⟩,
      ⟨(some 8), (.load none (.t 7)), none, []⟩] [7])
    (.block 0
      (.seq (.region [⟨(some 10), (.bin .eql (.t 8) (.c (.i .i64 (1)))), none, []⟩,
        ⟨(some 9), (.mov (.t 10)), none, []⟩] [10])
      (.cond (.t 9)
        (.seq (.region [⟨(some 11), (.off (.t 3) 1), none, []⟩,
          ⟨(some 12), (.load none (.t 11)), none, []⟩,
          ⟨(some 13), (.bin .geq (.t 12) (.c (.i .i64 (0)))), none, []⟩,
          ⟨(some 14), (.mov (.t 13)), none, []⟩,
          ⟨(some 15), (.off (.t 3) 1), (some (14, true)), []⟩,
          ⟨(some 16), (.load none (.t 15)), (some (14, true)), []⟩,
          ⟨(some 17), (.mov (.t 1)), (some (14, true)), []⟩,
          ⟨(some 18), (.bin .lss (.t 16) (.t 17)), (some (14, true)), []⟩,
          ⟨(some 19), (.pick (.t 14) (.t 18) (.c (.b false))), none, []⟩,
          ⟨(some 20), (.mov (.t 19)), none, []⟩,
          ⟨(some 21), (.off (.t 3) 2), (some (20, true)), []⟩,
          ⟨(some 22), (.load (some 5) (.t 21)), (some (20, true)), []⟩,
          ⟨(some 23), (.call 29 [(.t 22)]), (some (20, true)), []⟩,
          ⟨(some 24), (.pick (.t 20) (.t 23) (.c (.b false))), none, []⟩,
          ⟨(some 6), (.mov (.t 24)), none, []⟩] [1, 2, 3, 8, 9, 11, 12, 13, 14, 15, 16, 17, 18, 19, 20, 21, 22, 23, 24])
        .ret)
        (.seq (.region [⟨(some 26), (.bin .eql (.t 8) (.c (.i .i64 (2)))), none, []⟩,
          ⟨(some 25), (.mov (.t 26)), none, []⟩] [1, 9, 26])
        (.cond (.t 25)
          (.seq (.region [⟨(some 27), (.off (.t 3) 1), none, []⟩,
            ⟨(some 28), (.load none (.t 27)), none, []⟩,
            ⟨(some 29), (.bin .geq (.t 28) (.c (.i .i64 (0)))), none, []⟩,
            ⟨(some 30), (.mov (.t 29)), none, []⟩,
            ⟨(some 31), (.off (.t 3) 1), (some (30, true)), []⟩,
            ⟨(some 32), (.load none (.t 31)), (some (30, true)), []⟩,
            ⟨(some 33), (.mov (.t 2)), (some (30, true)), []⟩,
            ⟨(some 34), (.bin .lss (.t 32) (.t 33)), (some (30, true)), []⟩,
            ⟨(some 35), (.pick (.t 30) (.t 34) (.c (.b false))), none, []⟩,
            ⟨(some 36), (.mov (.t 35)), none, []⟩,
            ⟨(some 37), (.off (.t 3) 2), (some (36, true)), []⟩,
            ⟨(some 38), (.load (some 5) (.t 37)), (some (36, true)), []⟩,
            ⟨(some 39), (.call 29 [(.t 38)]), (some (36, true)), []⟩,
            ⟨(some 40), (.pick (.t 36) (.t 39) (.c (.b false))), none, []⟩,
            ⟨(some 6), (.mov (.t 40)), none, []⟩] [2, 3, 8, 25, 27, 28, 29, 30, 31, 32, 33, 34, 35, 36, 37, 38, 39, 40])
          .ret)
          (.seq (.region [⟨(some 42), (.bin .eql (.t 8) (.c (.i .i64 (3)))), none, []⟩,
            ⟨(some 41), (.mov (.t 42)), none, []⟩] [2, 8, 25, 42])
          (.cond (.t 41)
            (.seq (.region [⟨(some 43), (.off (.t 3) 1), none, []⟩,
              ⟨(some 44), (.load none (.t 43)), none, []⟩,
              ⟨(some 45), (.bin .eql (.t 44) (.c (.i .i64 (0)))), none, []⟩,
              ⟨(some 46), (.mov (.t 45)), none, []⟩,
              ⟨(some 47), (.off (.t 3) 2), (some (46, true)), []⟩,
              ⟨(some 48), (.load (some 5) (.t 47)), (some (46, true)), []⟩,
              ⟨(some 49), (.call 42 [(.t 48)]), (some (46, true)), []⟩,
              ⟨(some 50), (.pick (.t 46) (.t 49) (.c (.b false))), none, []⟩,
              ⟨(some 6), (.mov (.t 50)), none, []⟩] [3, 41, 43, 44, 45, 46, 47, 48, 49, 50])
            .ret)
            (.region [] [3, 41])))))))))
    (.seq (.region [⟨(some 6), (.mov (.c (.b false))), none, []⟩] [])
    .ret))),
    51, 3, [.t 6], 2⟩
theorem tr28 : trFunc Tryd.prog [([], [0, 6]), ([], [7]), ([], [10]), ([], [1, 2, 3, 8, 9, 11, 12, 13, 14, 15, 16, 17, 18, 19, 20, 21, 22, 23, 24]), ([], [1, 9, 26]), ([], [2, 3, 8, 25, 27, 28, 29, 30, 31, 32, 33, 34, 35, 36, 37, 38, 39, 40]), ([], [2, 8, 25, 42]), ([], [3, 41, 43, 44, 45, 46, 47, 48, 49, 50]), ([], [3, 41]), ([], [])] 1 Tryd.f28 = some (plain1 I28) := by kernel_rfl
theorem ck28 : ckC 2 I28.body = true := by kernel_rfl

/-- 'encore/lift.none'. -/
def I29 : IFunc :=
  ⟨(.seq (.region [⟨(some 1), (.box (.t 0)), none, []⟩,
      ⟨(some 2), (.mov (.c (.b false))), none, []⟩] [0, 2])
    (.seq (.region [⟨(some 3), (.load (some 5) (.t 1)), none, []⟩,
      ⟨(some 4), (.build [(.i .i64 (0)), (.i .i64 (0)), (.s []), .ns, .ns] []), none, []⟩,
      ⟨(some 5), (.call 43 [(.t 3), (.t 4)]), none, []⟩,
      ⟨(some 2), (.mov (.t 5)), none, []⟩] [1, 3, 4, 5])
    .ret)),
    6, 1, [.t 2], 2⟩
theorem tr29 : trFunc Tryd.prog [([], [0, 2]), ([], [1, 3, 4, 5])] 1 Tryd.f29 = some (plain1 I29) := by kernel_rfl
theorem ck29 : ckC 2 I29.body = true := by kernel_rfl

/-- 'encore/lift.fit'. -/
def I30 : IFunc :=
  ⟨(.seq (.region [⟨(some 4), (.box (.t 1)), none, []⟩,
      ⟨(some 5), (.box (.t 2)), none, []⟩,
      ⟨(some 6), (.mov (.c (.b false))), none, []⟩] [1, 2, 6])
    (.seq (.region [⟨(some 7), (.mov (.t 0)), none, []⟩,
      ⟨(some 8), (.mkf 45 [] [(.t 4), (.t 5)]), none, []⟩,
      ⟨(some 9), (.call 44 [(.t 7), (.t 8)]), none, []⟩,
      ⟨(some 10), (.un .not (.t 9)), none, []⟩,
      ⟨(some 6), (.mov (.t 10)), none, []⟩] [0, 4, 5, 7, 8, 9, 10])
    .ret)),
    11, 3, [.t 6], 2⟩
theorem tr30 : trFunc Tryd.prog [([], [1, 2, 6]), ([], [0, 4, 5, 7, 8, 9, 10])] 1 Tryd.f30 = some (plain1 I30) := by kernel_rfl
theorem ck30 : ckC 2 I30.body = true := by kernel_rfl

/-- 'slices.Clone[[]string,string]'. -/
def I31 : IFunc := ⟨cloneCode 1 16, 8, 1, [.t 2], 4⟩
theorem tr31 : trFunc Tryd.prog [([], []), ([], []), ([], []), ([], []), ([], [])] 1 Tryd.f31 = some (plain1 I31) := by kernel_rfl
theorem ck31 : ckC 2 (cloneCode 1 16) = true := by kernel_rfl

/-- 'encore/fuse.rows'. -/
def I32 : IFunc :=
  ⟨(.seq (.region [⟨(some 0), (.alloc [.nf, .nf, .nf, .nf, .nf]), none, []⟩] [])
    (.seq (.region [⟨(some 1), (.call 46 [(.c (.i .i64 (43))), (.c (.i .i64 (48))), (.c (.i .i64 (1)))]), none, []⟩,
      ⟨(some 2), (.call 46 [(.c (.i .i64 (44))), (.c (.i .i64 (48))), (.c (.i .i64 (-1)))]), none, []⟩,
      ⟨(some 3), (.call 46 [(.c (.i .i64 (46))), (.c (.i .i64 (49))), (.c (.i .i64 (1)))]), none, []⟩,
      ⟨(some 4), (.build [.nf, .nf, .nf, .nf, .nf] [(0, 1, (.t 1)), (1, 1, (.f 47)), (2, 1, (.t 2)), (3, 1, (.t 3)), (4, 1, (.f 48))]), none, []⟩,
      ⟨none, (.store 5 (.t 0) (.t 4)), none, []⟩] [1, 2, 3, 4])
    .ret)),
    5, 0, [.c 0 (some 5)], 1⟩
theorem tr32 : trFunc Tryd.prog [([], []), ([], [1, 2, 3, 4])] 1 Tryd.f32 = some (plain1 I32) := by kernel_rfl
theorem ck32 : ckC 2 I32.body = true := by kernel_rfl

/-- 'slices.Clone[[]encore/api.Value,encore/api.Value]'. -/
def I33 : IFunc := ⟨cloneCode 5 80, 8, 1, [.t 2], 4⟩
theorem tr33 : trFunc Tryd.prog [([], []), ([], []), ([], []), ([], []), ([], [])] 1 Tryd.f33 = some (plain1 I33) := by kernel_rfl
theorem ck33 : ckC 2 (cloneCode 5 80) = true := by kernel_rfl

/-- 'encore/encoreref20.CopyIns'. -/
def I34 : IFunc :=
  ⟨(.seq (.region [⟨(some 1), (.box (.t 0)), none, []⟩,
      ⟨(some 2), (.alloc [(.i .i64 (0)), (.i .i64 (0)), .ns, (.s []), .ns]), none, []⟩] [0])
    (.seq (.region [⟨(some 3), (.off (.t 1) 0), none, []⟩,
      ⟨(some 4), (.load none (.t 3)), none, []⟩,
      ⟨(some 5), (.off (.t 1) 1), none, []⟩,
      ⟨(some 6), (.load none (.t 5)), none, []⟩,
      ⟨(some 7), (.off (.t 1) 2), none, []⟩,
      ⟨(some 8), (.load none (.t 7)), none, []⟩,
      ⟨(some 10), (.off (.t 1) 3), none, []⟩,
      ⟨(some 11), (.load none (.t 10)), none, []⟩,
      ⟨(some 12), (.off (.t 1) 4), none, []⟩,
      ⟨(some 13), (.load none (.t 12)), none, []⟩,
      ⟨(some 9), (.call 35 [(.t 8)]), none, [(4, (.load none (.t 3)), none), (6, (.load none (.t 5)), none), (11, (.load none (.t 10)), none), (13, (.load none (.t 12)), none)]⟩,
      ⟨(some 14), (.call 49 [(.t 13)]), none, [(4, (.load none (.t 3)), none), (6, (.load none (.t 5)), none), (11, (.load none (.t 10)), none)]⟩,
      ⟨(some 15), (.build [(.i .i64 (0)), (.i .i64 (0)), .ns, (.s []), .ns] [(0, 1, (.t 4)), (1, 1, (.t 6)), (2, 1, (.t 9)), (3, 1, (.t 11)), (4, 1, (.t 14))]), none, []⟩,
      ⟨none, (.store 5 (.t 2) (.t 15)), none, []⟩] [1, 3, 4, 5, 6, 7, 8, 10, 11, 12, 13, 9, 14, 15])
    .ret)),
    16, 1, [.c 2 (some 5)], 2⟩
theorem tr34 : trFunc Tryd.prog [([], [0]), ([0, 1, 2, 3, 4, 5, 7, 8, 9, 10, 6, 11, 12, 13], [1, 3, 4, 5, 6, 7, 8, 10, 11, 12, 13, 9, 14, 15])] 1 Tryd.f34 = some (plain1 I34) := by kernel_rfl
theorem ck34 : ckC 2 I34.body = true := by kernel_rfl

/-- 'encore/encoreref20.copied'. -/
def L35a : ICode :=
  (.seq (.seq (.region [⟨(some 5), (.mov (.t 4)), none, []⟩,
      ⟨(some 6), (.mov (.t 0)), none, []⟩,
      ⟨(some 7), (.lenk 0 (.t 6)), none, []⟩,
      ⟨(some 8), (.bin .lss (.t 5) (.t 7)), none, []⟩] [5, 6, 7])
    (.cond (.t 8)
      (.region [] [8])
      (.exit 0)))
    (.seq (.block 1
      (.region [⟨(some 11), (.mov (.t 3)), none, []⟩,
        ⟨(some 12), (.mov (.t 0)), none, []⟩,
        ⟨(some 13), (.mov (.t 4)), none, []⟩,
        ⟨(some 14), (.iaddr 7 (.t 12) (.t 13)), none, []⟩,
        ⟨(some 15), (.off (.t 14) 0), none, []⟩,
        ⟨(some 16), (.load none (.t 15)), none, []⟩,
        ⟨(some 17), (.mov (.t 0)), none, []⟩,
        ⟨(some 18), (.mov (.t 4)), none, []⟩,
        ⟨(some 19), (.iaddr 7 (.t 17) (.t 18)), none, []⟩,
        ⟨(some 20), (.off (.t 19) 1), none, []⟩,
        ⟨(some 21), (.load none (.t 20)), none, []⟩,
        ⟨(some 22), (.mov (.t 0)), none, []⟩,
        ⟨(some 23), (.mov (.t 4)), none, []⟩,
        ⟨(some 24), (.iaddr 7 (.t 22) (.t 23)), none, []⟩,
        ⟨(some 25), (.off (.t 24) 2), none, []⟩,
        ⟨(some 26), (.load (some 5) (.t 25)), none, []⟩,
        ⟨(some 27), (.call 36 [(.t 26)]), none, [(16, (.load none (.t 15)), none), (21, (.load none (.t 20)), none)]⟩,
        ⟨(some 28), (.build [(.i .i64 (0)), (.i .i64 (0)), (.i .i64 (0)), (.i .i64 (0)), (.s []), .ns, .ns] [(0, 1, (.t 16)), (1, 1, (.t 21)), (2, 5, (.t 27))]), none, []⟩,
        ⟨(some 29), (.bsl 7 1 [(.i .i64 (0)), (.i .i64 (0)), (.i .i64 (0)), (.i .i64 (0)), (.s []), .ns, .ns] [(0, 7, (.t 28))]), none, []⟩,
        ⟨(some 30), (.app 7 96 (.t 11) (.t 29)), none, []⟩,
        ⟨(some 3), (.mov (.t 30)), none, []⟩] [11, 12, 13, 14, 15, 16, 17, 18, 19, 20, 21, 22, 23, 24, 25, 26, 27, 28, 29, 30]))
    (.region [⟨(some 9), (.mov (.t 4)), none, []⟩,
      ⟨(some 10), (.bin .add (.t 9) (.c (.i .i64 (1)))), none, []⟩,
      ⟨(some 4), (.mov (.t 10)), none, []⟩] [9, 10])))
def I35 : IFunc :=
  ⟨(.seq (.region [⟨(some 2), (.mov (.c .ns)), none, []⟩] [2])
    (.seq (.region [⟨(some 3), (.mov (.c .ns)), none, []⟩] [])
    (.seq (.seq (.region [⟨(some 4), (.mov (.c (.i .i64 (0)))), none, []⟩] [])
    (.block 0
      (.loop L35a)))
    (.seq (.region [⟨(some 31), (.mov (.t 3)), none, []⟩,
      ⟨(some 2), (.mov (.t 31)), none, []⟩] [0, 3, 4, 8, 31])
    .ret)))),
    32, 1, [.t 2], 2⟩
theorem tr35 : trFunc Tryd.prog [([], [2]), ([], []), ([], []), ([], [5, 6, 7]), ([], [8]), ([0, 1, 2, 3, 4, 5, 6, 7, 8, 9, 10, 11, 12, 13, 14, 15, 16, 17, 18, 19, 20], [11, 12, 13, 14, 15, 16, 17, 18, 19, 20, 21, 22, 23, 24, 25, 26, 27, 28, 29, 30]), ([], [9, 10]), ([], [0, 3, 4, 8, 31])] 1 Tryd.f35 = some (plain1 I35) := by kernel_rfl
theorem ck35 : ckC 2 I35.body = true := by kernel_rfl

/-- 'encore/encoreref07.Copy'. -/
def L36a : ICode :=
  (.seq (.seq (.region [⟨(some 15), (.mov (.t 4)), none, []⟩,
      ⟨(some 16), (.off (.t 1) 3), none, []⟩,
      ⟨(some 17), (.load none (.t 16)), none, []⟩,
      ⟨(some 18), (.lenk 0 (.t 17)), none, []⟩,
      ⟨(some 19), (.bin .lss (.t 15) (.t 18)), none, []⟩] [15, 16, 17, 18])
    (.cond (.t 19)
      (.region [] [19])
      (.exit 0)))
    (.seq (.block 1
      (.region [⟨(some 22), (.off (.t 3) 3), none, []⟩,
        ⟨(some 23), (.load none (.t 22)), none, []⟩,
        ⟨(some 24), (.off (.t 1) 3), none, []⟩,
        ⟨(some 25), (.load none (.t 24)), none, []⟩,
        ⟨(some 26), (.mov (.t 4)), none, []⟩,
        ⟨(some 27), (.iaddr 5 (.t 25) (.t 26)), none, []⟩,
        ⟨(some 28), (.load (some 5) (.t 27)), none, []⟩,
        ⟨(some 29), (.call 36 [(.t 28)]), none, [(23, (.load none (.t 22)), none)]⟩,
        ⟨(some 30), (.bsl 5 1 [(.i .i64 (0)), (.i .i64 (0)), (.s []), .ns, .ns] [(0, 5, (.t 29))]), none, []⟩,
        ⟨(some 31), (.app 5 80 (.t 23) (.t 30)), none, []⟩,
        ⟨(some 32), (.off (.t 3) 3), none, []⟩,
        ⟨none, (.store 1 (.t 32) (.t 31)), none, []⟩] [22, 23, 24, 25, 26, 27, 28, 29, 30, 31, 32]))
    (.region [⟨(some 20), (.mov (.t 4)), none, []⟩,
      ⟨(some 21), (.bin .add (.t 20) (.c (.i .i64 (1)))), none, []⟩,
      ⟨(some 4), (.mov (.t 21)), none, []⟩] [20, 21])))
def I36 : IFunc :=
  ⟨(.seq (.region [⟨(some 1), (.box (.t 0)), none, []⟩,
      ⟨(some 2), (.alloc [(.i .i64 (0)), (.i .i64 (0)), (.s []), .ns, .ns]), none, []⟩] [0])
    (.seq (.region [⟨(some 5), (.off (.t 1) 0), none, []⟩,
      ⟨(some 6), (.load none (.t 5)), none, []⟩,
      ⟨(some 7), (.off (.t 1) 1), none, []⟩,
      ⟨(some 8), (.load none (.t 7)), none, []⟩,
      ⟨(some 9), (.off (.t 1) 2), none, []⟩,
      ⟨(some 10), (.load none (.t 9)), none, []⟩,
      ⟨(some 11), (.off (.t 1) 4), none, []⟩,
      ⟨(some 12), (.load none (.t 11)), none, []⟩,
      ⟨(some 3), (.alloc [(.i .i64 (0)), (.i .i64 (0)), (.s []), .ns, .ns]), none, []⟩,
      ⟨(some 13), (.call 49 [(.t 12)]), none, [(6, (.load none (.t 5)), none), (8, (.load none (.t 7)), none), (10, (.load none (.t 9)), none)]⟩,
      ⟨(some 14), (.build [(.i .i64 (0)), (.i .i64 (0)), (.s []), .ns, .ns] [(0, 1, (.t 6)), (1, 1, (.t 8)), (2, 1, (.t 10)), (4, 1, (.t 13))]), none, []⟩,
      ⟨none, (.store 5 (.t 3) (.t 14)), none, []⟩] [5, 6, 7, 8, 9, 10, 11, 12, 13, 14])
    (.seq (.seq (.region [⟨(some 4), (.mov (.c (.i .i64 (0)))), none, []⟩] [])
    (.block 0
      (.loop L36a)))
    (.seq (.region [⟨(some 33), (.load (some 5) (.t 3)), none, []⟩,
      ⟨none, (.store 5 (.t 2) (.t 33)), none, []⟩] [1, 3, 4, 19, 33])
    .ret)))),
    34, 1, [.c 2 (some 5)], 2⟩
theorem tr36 : trFunc Tryd.prog [([], [0]), ([0, 1, 2, 3, 4, 5, 6, 7, 10, 8, 9, 11], [5, 6, 7, 8, 9, 10, 11, 12, 13, 14]), ([], []), ([], [15, 16, 17, 18]), ([], [19]), ([0, 1, 2, 3, 4, 5, 6, 7, 8, 9, 10, 11], [22, 23, 24, 25, 26, 27, 28, 29, 30, 31, 32]), ([], [20, 21]), ([], [1, 3, 4, 19, 33])] 1 Tryd.f36 = some (plain1 I36) := by kernel_rfl
theorem ck36 : ckC 2 I36.body = true := by kernel_rfl

/-- 'encore/encoreref20.SameIns'. -/
def I37 : IFunc :=
  ⟨(.seq (.region [⟨(some 2), (.box (.t 0)), none, []⟩,
      ⟨(some 3), (.box (.t 1)), none, []⟩,
      ⟨(some 4), (.mov (.c (.b false))), none, []⟩] [0, 1, 4])
    (.seq (.region [⟨(some 5), (.off (.t 2) 0), none, []⟩,
      ⟨(some 6), (.load none (.t 5)), none, []⟩,
      ⟨(some 7), (.off (.t 3) 0), none, []⟩,
      ⟨(some 8), (.load none (.t 7)), none, []⟩,
      ⟨(some 9), (.bin .eql (.t 6) (.t 8)), none, []⟩,
      ⟨(some 10), (.mov (.t 9)), none, []⟩,
      ⟨(some 11), (.off (.t 2) 1), (some (10, true)), []⟩,
      ⟨(some 12), (.load none (.t 11)), (some (10, true)), []⟩,
      ⟨(some 13), (.off (.t 3) 1), (some (10, true)), []⟩,
      ⟨(some 14), (.load none (.t 13)), (some (10, true)), []⟩,
      ⟨(some 15), (.bin .eql (.t 12) (.t 14)), (some (10, true)), []⟩,
      ⟨(some 16), (.pick (.t 10) (.t 15) (.c (.b false))), none, []⟩,
      ⟨(some 17), (.mov (.t 16)), none, []⟩,
      ⟨(some 18), (.off (.t 2) 3), (some (17, true)), []⟩,
      ⟨(some 19), (.load none (.t 18)), (some (17, true)), []⟩,
      ⟨(some 20), (.off (.t 3) 3), (some (17, true)), []⟩,
      ⟨(some 21), (.load none (.t 20)), (some (17, true)), []⟩,
      ⟨(some 22), (.bin .eql (.t 19) (.t 21)), (some (17, true)), []⟩,
      ⟨(some 23), (.pick (.t 17) (.t 22) (.c (.b false))), none, []⟩,
      ⟨(some 24), (.mov (.t 23)), none, []⟩,
      ⟨(some 25), (.off (.t 2) 2), (some (24, true)), []⟩,
      ⟨(some 26), (.load none (.t 25)), (some (24, true)), []⟩,
      ⟨(some 27), (.off (.t 3) 2), (some (24, true)), []⟩,
      ⟨(some 28), (.load none (.t 27)), (some (24, true)), []⟩,
      ⟨(some 29), (.call 38 [(.t 26), (.t 28)]), (some (24, true)), []⟩,
      ⟨(some 30), (.pick (.t 24) (.t 29) (.c (.b false))), none, []⟩,
      ⟨(some 31), (.mov (.t 30)), none, []⟩,
      ⟨(some 32), (.off (.t 2) 4), (some (31, true)), []⟩,
      ⟨(some 33), (.load none (.t 32)), (some (31, true)), []⟩,
      ⟨(some 34), (.off (.t 3) 4), (some (31, true)), []⟩,
      ⟨(some 35), (.load none (.t 34)), (some (31, true)), []⟩,
      ⟨(some 36), (.call 50 [(.t 33), (.t 35)]), (some (31, true)), []⟩,
      ⟨(some 37), (.pick (.t 31) (.t 36) (.c (.b false))), none, []⟩,
      ⟨(some 4), (.mov (.t 37)), none, []⟩] [2, 3, 5, 6, 7, 8, 9, 10, 11, 12, 13, 14, 15, 16, 17, 18, 19, 20, 21, 22, 23, 24, 25, 26, 27, 28, 29, 30, 31, 32, 33, 34, 35, 36, 37])
    .ret)),
    38, 2, [.t 4], 2⟩
theorem tr37 : trFunc Tryd.prog [([], [0, 1, 4]), ([], [2, 3, 5, 6, 7, 8, 9, 10, 11, 12, 13, 14, 15, 16, 17, 18, 19, 20, 21, 22, 23, 24, 25, 26, 27, 28, 29, 30, 31, 32, 33, 34, 35, 36, 37])] 1 Tryd.f37 = some (plain1 I37) := by kernel_rfl
theorem ck37 : ckC 2 I37.body = true := by kernel_rfl

/-- 'encore/encoreref20.SameOperands'. -/
def L38a : ICode :=
  (.seq (.seq (.region [⟨(some 11), (.mov (.t 5)), none, []⟩,
      ⟨(some 12), (.mov (.t 0)), none, []⟩,
      ⟨(some 13), (.lenk 0 (.t 12)), none, []⟩,
      ⟨(some 14), (.bin .lss (.t 11) (.t 13)), none, []⟩] [11, 12, 13])
    (.cond (.t 14)
      (.region [] [14])
      (.exit 0)))
    (.seq (.block 1
      (.seq (.region [⟨(some 17), (.mov (.t 0)), none, []⟩,
        ⟨(some 18), (.mov (.t 5)), none, []⟩,
        ⟨(some 19), (.iaddr 7 (.t 17) (.t 18)), none, []⟩,
        ⟨(some 20), (.load (some 7) (.t 19)), none, []⟩,
        ⟨(some 21), (.mov (.t 1)), none, []⟩,
        ⟨(some 22), (.mov (.t 5)), none, []⟩,
        ⟨(some 23), (.iaddr 7 (.t 21) (.t 22)), none, []⟩,
        ⟨(some 24), (.load (some 7) (.t 23)), none, []⟩,
        ⟨(some 25), (.call 39 [(.t 20), (.t 24)]), none, []⟩,
        ⟨(some 26), (.un .not (.t 25)), none, []⟩] [17, 18, 19, 20, 21, 22, 23, 24, 25])
      (.cond (.t 26)
        (.seq (.region [⟨(some 4), (.mov (.c (.b false))), none, []⟩] [0, 1, 5, 26])
        .ret)
        (.region [] [26]))))
    (.region [⟨(some 15), (.mov (.t 5)), none, []⟩,
      ⟨(some 16), (.bin .add (.t 15) (.c (.i .i64 (1)))), none, []⟩,
      ⟨(some 5), (.mov (.t 16)), none, []⟩] [15, 16])))
def I38 : IFunc :=
  ⟨(.seq (.region [⟨(some 4), (.mov (.c (.b false))), none, []⟩] [4])
    (.seq (.seq (.region [⟨(some 6), (.mov (.t 0)), none, []⟩,
      ⟨(some 7), (.lenk 0 (.t 6)), none, []⟩,
      ⟨(some 8), (.mov (.t 1)), none, []⟩,
      ⟨(some 9), (.lenk 0 (.t 8)), none, []⟩,
      ⟨(some 10), (.bin .neq (.t 7) (.t 9)), none, []⟩] [6, 7, 8, 9])
    (.cond (.t 10)
      (.seq (.region [⟨(some 4), (.mov (.c (.b false))), none, []⟩] [0, 1, 10])
      .ret)
      (.region [] [10])))
    (.seq (.seq (.region [⟨(some 5), (.mov (.c (.i .i64 (0)))), none, []⟩] [])
    (.block 0
      (.loop L38a)))
    (.seq (.region [⟨(some 4), (.mov (.c (.b true))), none, []⟩] [0, 1, 5, 14])
    .ret)))),
    27, 2, [.t 4], 2⟩
theorem tr38 : trFunc Tryd.prog [([], [4]), ([], [6, 7, 8, 9]), ([], [0, 1, 10]), ([], [10]), ([], []), ([], [11, 12, 13]), ([], [14]), ([0, 1, 2, 3, 4, 5, 6, 7, 8, 9], [17, 18, 19, 20, 21, 22, 23, 24, 25]), ([], [0, 1, 5, 26]), ([], [26]), ([], [15, 16]), ([], [0, 1, 5, 14])] 1 Tryd.f38 = some (plain1 I38) := by kernel_rfl
theorem ck38 : ckC 2 I38.body = true := by kernel_rfl

/-- 'encore/encoreref20.SameOperand'. -/
def I39 : IFunc :=
  ⟨(.seq (.region [⟨(some 2), (.box (.t 0)), none, []⟩,
      ⟨(some 3), (.box (.t 1)), none, []⟩,
      ⟨(some 4), (.mov (.c (.b false))), none, []⟩] [0, 1, 4])
    (.seq (.region [⟨(some 5), (.off (.t 2) 0), none, []⟩,
      ⟨(some 6), (.load none (.t 5)), none, []⟩,
      ⟨(some 7), (.off (.t 3) 0), none, []⟩,
      ⟨(some 8), (.load none (.t 7)), none, []⟩,
      ⟨(some 9), (.bin .eql (.t 6) (.t 8)), none, []⟩,
      ⟨(some 10), (.mov (.t 9)), none, []⟩,
      ⟨(some 11), (.off (.t 2) 1), (some (10, true)), []⟩,
      ⟨(some 12), (.load none (.t 11)), (some (10, true)), []⟩,
      ⟨(some 13), (.off (.t 3) 1), (some (10, true)), []⟩,
      ⟨(some 14), (.load none (.t 13)), (some (10, true)), []⟩,
      ⟨(some 15), (.bin .eql (.t 12) (.t 14)), (some (10, true)), []⟩,
      ⟨(some 16), (.pick (.t 10) (.t 15) (.c (.b false))), none, []⟩,
      ⟨(some 17), (.mov (.t 16)), none, []⟩,
      ⟨(some 18), (.off (.t 2) 2), (some (17, true)), []⟩,
      ⟨(some 19), (.load (some 5) (.t 18)), (some (17, true)), []⟩,
      ⟨(some 20), (.off (.t 3) 2), (some (17, true)), []⟩,
      ⟨(some 21), (.load (some 5) (.t 20)), (some (17, true)), []⟩,
      ⟨(some 22), (.call 51 [(.t 19), (.t 21)]), (some (17, true)), []⟩,
      ⟨(some 23), (.pick (.t 17) (.t 22) (.c (.b false))), none, []⟩,
      ⟨(some 4), (.mov (.t 23)), none, []⟩] [2, 3, 5, 6, 7, 8, 9, 10, 11, 12, 13, 14, 15, 16, 17, 18, 19, 20, 21, 22, 23])
    .ret)),
    24, 2, [.t 4], 2⟩
theorem tr39 : trFunc Tryd.prog [([], [0, 1, 4]), ([], [2, 3, 5, 6, 7, 8, 9, 10, 11, 12, 13, 14, 15, 16, 17, 18, 19, 20, 21, 22, 23])] 1 Tryd.f39 = some (plain1 I39) := by kernel_rfl
theorem ck39 : ckC 2 I39.body = true := by kernel_rfl

/-- 'encore/encorelaw24.operands'. -/
def L40a : ICode :=
  (.seq (.seq (.region [⟨(some 5), (.mov (.t 4)), none, []⟩,
      ⟨(some 6), (.mov (.t 0)), none, []⟩,
      ⟨(some 7), (.lenk 0 (.t 6)), none, []⟩,
      ⟨(some 8), (.bin .lss (.t 5) (.t 7)), none, []⟩] [5, 6, 7])
    (.cond (.t 8)
      (.region [] [8])
      (.exit 0)))
    (.seq (.block 1
      (.region [⟨(some 11), (.mov (.t 3)), none, []⟩,
        ⟨(some 12), (.mov (.t 0)), none, []⟩,
        ⟨(some 13), (.mov (.t 4)), none, []⟩,
        ⟨(some 14), (.iaddr 7 (.t 12) (.t 13)), none, []⟩,
        ⟨(some 15), (.off (.t 14) 0), none, []⟩,
        ⟨(some 16), (.load none (.t 15)), none, []⟩,
        ⟨(some 17), (.mov (.t 0)), none, []⟩,
        ⟨(some 18), (.mov (.t 4)), none, []⟩,
        ⟨(some 19), (.iaddr 7 (.t 17) (.t 18)), none, []⟩,
        ⟨(some 20), (.off (.t 19) 1), none, []⟩,
        ⟨(some 21), (.load none (.t 20)), none, []⟩,
        ⟨(some 22), (.mov (.t 0)), none, []⟩,
        ⟨(some 23), (.mov (.t 4)), none, []⟩,
        ⟨(some 24), (.iaddr 7 (.t 22) (.t 23)), none, []⟩,
        ⟨(some 25), (.off (.t 24) 2), none, []⟩,
        ⟨(some 26), (.load (some 5) (.t 25)), none, []⟩,
        ⟨(some 27), (.build [(.i .i64 (0)), (.i .i64 (0)), (.i .i64 (0)), (.i .i64 (0)), (.s []), .ns, .ns] [(0, 1, (.t 16)), (1, 1, (.t 21)), (2, 5, (.t 26))]), none, []⟩,
        ⟨(some 28), (.bsl 7 1 [(.i .i64 (0)), (.i .i64 (0)), (.i .i64 (0)), (.i .i64 (0)), (.s []), .ns, .ns] [(0, 7, (.t 27))]), none, []⟩,
        ⟨(some 29), (.app 7 96 (.t 11) (.t 28)), none, []⟩,
        ⟨(some 3), (.mov (.t 29)), none, []⟩] [11, 12, 13, 14, 15, 16, 17, 18, 19, 20, 21, 22, 23, 24, 25, 26, 27, 28, 29]))
    (.region [⟨(some 9), (.mov (.t 4)), none, []⟩,
      ⟨(some 10), (.bin .add (.t 9) (.c (.i .i64 (1)))), none, []⟩,
      ⟨(some 4), (.mov (.t 10)), none, []⟩] [9, 10])))
def I40 : IFunc :=
  ⟨(.seq (.region [⟨(some 2), (.mov (.c .ns)), none, []⟩] [2])
    (.seq (.region [⟨(some 3), (.mov (.c .ns)), none, []⟩] [])
    (.seq (.seq (.region [⟨(some 4), (.mov (.c (.i .i64 (0)))), none, []⟩] [])
    (.block 0
      (.loop L40a)))
    (.seq (.region [⟨(some 30), (.mov (.t 3)), none, []⟩,
      ⟨(some 2), (.mov (.t 30)), none, []⟩] [0, 3, 4, 8, 30])
    .ret)))),
    31, 1, [.t 2], 2⟩
theorem tr40 : trFunc Tryd.prog [([], [2]), ([], []), ([], []), ([], [5, 6, 7]), ([], [8]), ([0, 1, 2, 3, 4, 5, 6, 7, 8, 9, 10, 11, 12, 13, 14, 15, 16, 17, 18, 19], [11, 12, 13, 14, 15, 16, 17, 18, 19, 20, 21, 22, 23, 24, 25, 26, 27, 28, 29]), ([], [9, 10]), ([], [0, 3, 4, 8, 30])] 1 Tryd.f40 = some (plain1 I40) := by kernel_rfl
theorem ck40 : ckC 2 I40.body = true := by kernel_rfl

/-- '(encore/lift.Ins).needs'. -/
def I41 : IFunc :=
  ⟨(.seq (.region [⟨(some 1), (.box (.t 0)), none, []⟩,
      ⟨(some 2), (.mov (.c (.i .i64 (0)))), none, []⟩,
      ⟨(some 3), (.mov (.c (.i .i64 (0)))), none, []⟩,
      ⟨(some 4), (.mov (.c (.b false))), none, []⟩] [0, 2, 3, 4])
    (.seq (.region [⟨(some 6), (.off (.t 1) 1), none, []⟩,
      ⟨(some 7), (.load none (.t 6)), none, []⟩,
      ⟨(some 8), (.off (.t 1) 3), none, []⟩,
      ⟨(some 9), (.load none (.t 8)), none, []⟩,
      ⟨(some 10), (.off (.t 1) 4), none, []⟩,
      ⟨(some 11), (.load none (.t 10)), none, []⟩,
      ⟨(some 12), (.lenk 0 (.t 11)), none, []⟩,
      ⟨(some 13), (.bin .gtr (.t 12) (.c (.i .i64 (0)))), none, []⟩,
      ⟨(some 14), (.build [(.i .i64 (0)), (.s []), (.b false)] [(0, 1, (.t 7)), (1, 1, (.t 9)), (2, 1, (.t 13))]), none, []⟩,
      ⟨(some 5), (.alloc [(.i .i64 (0)), (.s []), (.b false)]), none, []⟩,
      ⟨none, (.store 3 (.t 5) (.t 14)), none, []⟩] [6, 7, 8, 9, 10, 11, 12, 13, 14])
    (.seq (.block 0
      (.seq (.region [⟨(some 16), (.off (.t 1) 0), none, []⟩,
        ⟨(some 17), (.load none (.t 16)), none, []⟩,
        ⟨(some 18), (.bin .eql (.t 17) (.c (.i .i64 (20)))), none, []⟩,
        ⟨(some 15), (.mov (.t 18)), none, []⟩] [16, 17, 18])
      (.cond (.t 15)
        (.seq (.region [⟨(some 19), (.load (some 3) (.t 5)), none, []⟩,
          ⟨(some 20), (.load (some 3) (.g 0)), none, []⟩,
          ⟨(some 21), (.eqAg [1, 2, 0] false (.t 19) (.t 20)), none, []⟩,
          ⟨(some 2), (.mov (.c (.i .i64 (0)))), none, []⟩,
          ⟨(some 3), (.mov (.c (.i .i64 (8)))), none, []⟩,
          ⟨(some 4), (.mov (.t 21)), none, []⟩] [1, 5, 15, 19, 20, 21])
        .ret)
        (.seq (.region [⟨(some 23), (.off (.t 1) 0), none, []⟩,
          ⟨(some 24), (.load none (.t 23)), none, []⟩,
          ⟨(some 25), (.bin .eql (.t 24) (.c (.i .i64 (21)))), none, []⟩,
          ⟨(some 22), (.mov (.t 25)), none, []⟩] [15, 23, 24, 25])
        (.cond (.t 22)
          (.seq (.region [⟨(some 26), (.off (.t 1) 4), none, []⟩,
            ⟨(some 27), (.load none (.t 26)), none, []⟩,
            ⟨(some 28), (.lenk 0 (.t 27)), none, []⟩,
            ⟨(some 29), (.off (.t 1) 4), none, []⟩,
            ⟨(some 30), (.load none (.t 29)), none, []⟩,
            ⟨(some 31), (.lenk 0 (.t 30)), none, []⟩,
            ⟨(some 32), (.off (.t 1) 1), none, []⟩,
            ⟨(some 33), (.load none (.t 32)), none, []⟩,
            ⟨(some 34), (.bin .eql (.t 33) (.c (.i .i64 (0)))), none, []⟩,
            ⟨(some 35), (.mov (.t 34)), none, []⟩,
            ⟨(some 36), (.off (.t 1) 3), (some (35, true)), []⟩,
            ⟨(some 37), (.load none (.t 36)), (some (35, true)), []⟩,
            ⟨(some 38), (.bin .eql (.t 37) (.c (.s []))), (some (35, true)), []⟩,
            ⟨(some 39), (.pick (.t 35) (.t 38) (.c (.b false))), none, []⟩,
            ⟨(some 40), (.mov (.t 39)), none, []⟩,
            ⟨(some 41), (.off (.t 1) 4), (some (40, true)), []⟩,
            ⟨(some 42), (.load none (.t 41)), (some (40, true)), []⟩,
            ⟨(some 43), (.call 52 [(.t 42)]), (some (40, true)), [(27, (.load none (.t 26)), none), (28, (.lenk 0 (.t 27)), none), (30, (.load none (.t 29)), none), (31, (.lenk 0 (.t 30)), none)]⟩,
            ⟨(some 44), (.pick (.t 40) (.t 43) (.c (.b false))), none, []⟩,
            ⟨(some 2), (.mov (.t 28)), none, []⟩,
            ⟨(some 3), (.mov (.t 31)), none, []⟩,
            ⟨(some 4), (.mov (.t 44)), none, []⟩] [1, 5, 22, 26, 27, 28, 29, 30, 31, 32, 33, 34, 35, 36, 37, 38, 39, 40, 41, 42, 43, 44])
          .ret)
          (.seq (.region [⟨(some 46), (.off (.t 1) 0), none, []⟩,
            ⟨(some 47), (.load none (.t 46)), none, []⟩,
            ⟨(some 48), (.bin .eql (.t 47) (.c (.i .i64 (22)))), none, []⟩,
            ⟨(some 45), (.mov (.t 48)), none, []⟩] [22, 46, 47, 48])
          (.cond (.t 45)
            (.seq (.region [⟨(some 49), (.load (some 3) (.t 5)), none, []⟩,
              ⟨(some 50), (.off (.t 1) 3), none, []⟩,
              ⟨(some 51), (.load none (.t 50)), none, []⟩,
              ⟨(some 52), (.build [(.i .i64 (0)), (.s []), (.b false)] [(1, 1, (.t 51))]), none, []⟩,
              ⟨(some 53), (.eqAg [1, 2, 0] false (.t 49) (.t 52)), none, []⟩,
              ⟨(some 54), (.mov (.t 53)), none, []⟩,
              ⟨(some 55), (.off (.t 1) 3), (some (54, true)), []⟩,
              ⟨(some 56), (.load none (.t 55)), (some (54, true)), []⟩,
              ⟨(some 57), (.bsl 1 1 [(.s [])] [(0, 1, (.t 56))]), (some (54, true)), []⟩,
              ⟨(some 58), (.call 52 [(.t 57)]), (some (54, true)), []⟩,
              ⟨(some 59), (.pick (.t 54) (.t 58) (.c (.b false))), none, []⟩,
              ⟨(some 2), (.mov (.c (.i .i64 (1)))), none, []⟩,
              ⟨(some 3), (.mov (.c (.i .i64 (1)))), none, []⟩,
              ⟨(some 4), (.mov (.t 59)), none, []⟩] [1, 5, 45, 49, 50, 51, 52, 53, 54, 55, 56, 57, 58, 59])
            .ret)
            (.seq (.region [⟨(some 61), (.off (.t 1) 0), none, []⟩,
              ⟨(some 62), (.load none (.t 61)), none, []⟩,
              ⟨(some 63), (.bin .eql (.t 62) (.c (.i .i64 (23)))), none, []⟩,
              ⟨(some 60), (.mov (.t 63)), none, []⟩] [45, 61, 62, 63])
            (.cond (.t 60)
              (.seq (.region [⟨(some 64), (.load (some 3) (.t 5)), none, []⟩,
                ⟨(some 65), (.off (.t 1) 3), none, []⟩,
                ⟨(some 66), (.load none (.t 65)), none, []⟩,
                ⟨(some 67), (.build [(.i .i64 (0)), (.s []), (.b false)] [(1, 1, (.t 66))]), none, []⟩,
                ⟨(some 68), (.eqAg [1, 2, 0] false (.t 64) (.t 67)), none, []⟩,
                ⟨(some 69), (.mov (.t 68)), none, []⟩,
                ⟨(some 70), (.off (.t 1) 3), (some (69, true)), []⟩,
                ⟨(some 71), (.load none (.t 70)), (some (69, true)), []⟩,
                ⟨(some 72), (.call 53 [(.t 71)]), (some (69, true)), []⟩,
                ⟨(some 73), (.pick (.t 69) (.t 72) (.c (.b false))), none, []⟩,
                ⟨(some 2), (.mov (.c (.i .i64 (1)))), none, []⟩,
                ⟨(some 3), (.mov (.c (.i .i64 (1)))), none, []⟩,
                ⟨(some 4), (.mov (.t 73)), none, []⟩] [1, 5, 60, 64, 65, 66, 67, 68, 69, 70, 71, 72, 73])
              .ret)
              (.seq (.region [⟨(some 75), (.off (.t 1) 0), none, []⟩,
                ⟨(some 76), (.load none (.t 75)), none, []⟩,
                ⟨(some 77), (.bin .eql (.t 76) (.c (.i .i64 (40)))), none, []⟩,
                ⟨(some 74), (.mov (.t 77)), none, []⟩] [60, 75, 76, 77])
              (.cond (.t 74)
                (.seq (.region [⟨(some 78), (.load (some 3) (.t 5)), none, []⟩,
                  ⟨(some 79), (.off (.t 1) 1), none, []⟩,
                  ⟨(some 80), (.load none (.t 79)), none, []⟩,
                  ⟨(some 81), (.build [(.i .i64 (0)), (.s []), (.b false)] [(0, 1, (.t 80))]), none, []⟩,
                  ⟨(some 82), (.eqAg [1, 2, 0] false (.t 78) (.t 81)), none, []⟩,
                  ⟨(some 83), (.mov (.t 82)), none, []⟩,
                  ⟨(some 84), (.off (.t 1) 1), (some (83, true)), []⟩,
                  ⟨(some 85), (.load none (.t 84)), (some (83, true)), []⟩,
                  ⟨(some 86), (.bin .geq (.t 85) (.c (.i .i64 (0)))), (some (83, true)), []⟩,
                  ⟨(some 87), (.pick (.t 83) (.t 86) (.c (.b false))), none, []⟩,
                  ⟨(some 88), (.mov (.t 87)), none, []⟩,
                  ⟨(some 89), (.off (.t 1) 1), (some (88, true)), []⟩,
                  ⟨(some 90), (.load none (.t 89)), (some (88, true)), []⟩,
                  ⟨(some 91), (.bin .leq (.t 90) (.c (.i .i64 (6)))), (some (88, true)), []⟩,
                  ⟨(some 92), (.pick (.t 88) (.t 91) (.c (.b false))), none, []⟩,
                  ⟨(some 2), (.mov (.c (.i .i64 (1)))), none, []⟩,
                  ⟨(some 3), (.mov (.c (.i .i64 (1)))), none, []⟩,
                  ⟨(some 4), (.mov (.t 92)), none, []⟩] [1, 5, 74, 78, 79, 80, 81, 82, 83, 84, 85, 86, 87, 88, 89, 90, 91, 92])
                .ret)
                (.seq (.seq (.region [⟨(some 94), (.off (.t 1) 0), none, []⟩,
                  ⟨(some 95), (.load none (.t 94)), none, []⟩,
                  ⟨(some 96), (.bin .eql (.t 95) (.c (.i .i64 (48)))), none, []⟩,
                  ⟨(some 93), (.mov (.t 96)), none, []⟩] [74, 94, 95, 96])
                (.cond (.t 93)
                  .skip
                  (.region [⟨(some 97), (.off (.t 1) 0), none, []⟩,
                    ⟨(some 98), (.load none (.t 97)), none, []⟩,
                    ⟨(some 99), (.bin .eql (.t 98) (.c (.i .i64 (49)))), none, []⟩,
                    ⟨(some 93), (.mov (.t 99)), none, []⟩] [97, 98, 99])))
                (.cond (.t 93)
                  (.seq (.region [⟨(some 100), (.load (some 3) (.t 5)), none, []⟩,
                    ⟨(some 101), (.off (.t 1) 1), none, []⟩,
                    ⟨(some 102), (.load none (.t 101)), none, []⟩,
                    ⟨(some 103), (.build [(.i .i64 (0)), (.s []), (.b false)] [(0, 1, (.t 102))]), none, []⟩,
                    ⟨(some 104), (.eqAg [1, 2, 0] false (.t 100) (.t 103)), none, []⟩,
                    ⟨(some 2), (.mov (.c (.i .i64 (1)))), none, []⟩,
                    ⟨(some 3), (.mov (.c (.i .i64 (1)))), none, []⟩,
                    ⟨(some 4), (.mov (.t 104)), none, []⟩] [1, 5, 93, 100, 101, 102, 103, 104])
                  .ret)
                  (.seq (.seq (.region [⟨(some 106), (.off (.t 1) 0), none, []⟩,
                    ⟨(some 107), (.load none (.t 106)), none, []⟩,
                    ⟨(some 108), (.bin .geq (.t 107) (.c (.i .i64 (43)))), none, []⟩,
                    ⟨(some 109), (.mov (.t 108)), none, []⟩,
                    ⟨(some 110), (.off (.t 1) 0), (some (109, true)), []⟩,
                    ⟨(some 111), (.load none (.t 110)), (some (109, true)), []⟩,
                    ⟨(some 112), (.bin .leq (.t 111) (.c (.i .i64 (47)))), (some (109, true)), []⟩,
                    ⟨(some 113), (.pick (.t 109) (.t 112) (.c (.b false))), none, []⟩,
                    ⟨(some 105), (.mov (.t 113)), none, []⟩] [93, 106, 107, 108, 109, 110, 111, 112, 113])
                  (.cond (.t 105)
                    .skip
                    (.region [⟨(some 114), (.off (.t 1) 0), none, []⟩,
                      ⟨(some 115), (.load none (.t 114)), none, []⟩,
                      ⟨(some 116), (.bin .geq (.t 115) (.c (.i .i64 (9)))), none, []⟩,
                      ⟨(some 117), (.mov (.t 116)), none, []⟩,
                      ⟨(some 118), (.off (.t 1) 0), (some (117, true)), []⟩,
                      ⟨(some 119), (.load none (.t 118)), (some (117, true)), []⟩,
                      ⟨(some 120), (.bin .leq (.t 119) (.c (.i .i64 (19)))), (some (117, true)), []⟩,
                      ⟨(some 121), (.pick (.t 117) (.t 120) (.c (.b false))), none, []⟩,
                      ⟨(some 105), (.mov (.t 121)), none, []⟩] [114, 115, 116, 117, 118, 119, 120, 121])))
                  (.cond (.t 105)
                    (.seq (.region [⟨(some 122), (.load (some 3) (.t 5)), none, []⟩,
                      ⟨(some 123), (.load (some 3) (.g 0)), none, []⟩,
                      ⟨(some 124), (.eqAg [1, 2, 0] false (.t 122) (.t 123)), none, []⟩,
                      ⟨(some 2), (.mov (.c (.i .i64 (2)))), none, []⟩,
                      ⟨(some 3), (.mov (.c (.i .i64 (2)))), none, []⟩,
                      ⟨(some 4), (.mov (.t 124)), none, []⟩] [1, 5, 105, 122, 123, 124])
                    .ret)
                    (.seq (.seq (.region [⟨(some 126), (.off (.t 1) 0), none, []⟩,
                      ⟨(some 127), (.load none (.t 126)), none, []⟩,
                      ⟨(some 128), (.bin .eql (.t 127) (.c (.i .i64 (41)))), none, []⟩,
                      ⟨(some 125), (.mov (.t 128)), none, []⟩] [105, 126, 127, 128])
                    (.cond (.t 125)
                      (.region [] [1])
                      (.seq (.region [⟨(some 129), (.off (.t 1) 0), none, []⟩,
                        ⟨(some 130), (.load none (.t 129)), none, []⟩,
                        ⟨(some 131), (.bin .eql (.t 130) (.c (.i .i64 (42)))), none, []⟩,
                        ⟨(some 125), (.mov (.t 131)), none, []⟩] [129, 130, 131])
                      (.cond (.t 125)
                        (.region [] [1])
                        (.region [⟨(some 132), (.off (.t 1) 0), none, []⟩,
                          ⟨(some 133), (.load none (.t 132)), none, []⟩,
                          ⟨(some 134), (.bin .geq (.t 133) (.c (.i .i64 (6)))), none, []⟩,
                          ⟨(some 135), (.mov (.t 134)), none, []⟩,
                          ⟨(some 136), (.off (.t 1) 0), (some (135, true)), []⟩,
                          ⟨(some 137), (.load none (.t 136)), (some (135, true)), []⟩,
                          ⟨(some 138), (.bin .leq (.t 137) (.c (.i .i64 (8)))), (some (135, true)), []⟩,
                          ⟨(some 139), (.pick (.t 135) (.t 138) (.c (.b false))), none, []⟩,
                          ⟨(some 125), (.mov (.t 139)), none, []⟩] [1, 132, 133, 134, 135, 136, 137, 138, 139])))))
                    (.cond (.t 125)
                      (.seq (.region [⟨(some 140), (.load (some 3) (.t 5)), none, []⟩,
                        ⟨(some 141), (.load (some 3) (.g 0)), none, []⟩,
                        ⟨(some 142), (.eqAg [1, 2, 0] false (.t 140) (.t 141)), none, []⟩,
                        ⟨(some 2), (.mov (.c (.i .i64 (1)))), none, []⟩,
                        ⟨(some 3), (.mov (.c (.i .i64 (1)))), none, []⟩,
                        ⟨(some 4), (.mov (.t 142)), none, []⟩] [5, 125, 140, 141, 142])
                      .ret)
                      (.region [] [5, 125]))))))))))))))))))
    (.seq (.region [⟨(some 2), (.mov (.c (.i .i64 (0)))), none, []⟩,
      ⟨(some 3), (.mov (.c (.i .i64 (0)))), none, []⟩,
      ⟨(some 4), (.mov (.c (.b false))), none, []⟩] [])
    .ret)))),
    143, 1, [.t 2, .t 3, .t 4], 2⟩
theorem tr41 : trFunc Tryd.prog [([], [0, 2, 3, 4]), ([], [6, 7, 8, 9, 10, 11, 12, 13, 14]), ([], [16, 17, 18]), ([0, 1, 2, 3, 4, 5], [1, 5, 15, 19, 20, 21]), ([], [15, 23, 24, 25]), ([0, 1, 2, 3, 4, 5, 6, 7, 8, 9, 10, 11, 12, 13, 14, 15, 16, 17, 18, 19, 20, 21], [1, 5, 22, 26, 27, 28, 29, 30, 31, 32, 33, 34, 35, 36, 37, 38, 39, 40, 41, 42, 43, 44]), ([], [22, 46, 47, 48]), ([], [1, 5, 45, 49, 50, 51, 52, 53, 54, 55, 56, 57, 58, 59]), ([], [45, 61, 62, 63]), ([], [1, 5, 60, 64, 65, 66, 67, 68, 69, 70, 71, 72, 73]), ([], [60, 75, 76, 77]), ([0, 1, 2, 3, 4, 5, 6, 7, 8, 9, 10, 11, 12, 13, 14, 15, 16, 17], [1, 5, 74, 78, 79, 80, 81, 82, 83, 84, 85, 86, 87, 88, 89, 90, 91, 92]), ([], [74, 94, 95, 96]), ([], []), ([], [97, 98, 99]), ([0, 1, 2, 3, 4, 5, 6, 7], [1, 5, 93, 100, 101, 102, 103, 104]), ([], [93, 106, 107, 108, 109, 110, 111, 112, 113]), ([], []), ([], [114, 115, 116, 117, 118, 119, 120, 121]), ([0, 1, 2, 3, 4, 5], [1, 5, 105, 122, 123, 124]), ([], [105, 126, 127, 128]), ([], [1]), ([], [129, 130, 131]), ([], [1]), ([], [1, 132, 133, 134, 135, 136, 137, 138, 139]), ([0, 1, 2, 3, 4, 5], [5, 125, 140, 141, 142]), ([], [5, 125]), ([], [])] 1 Tryd.f41 = some (plain1 I41) := by kernel_rfl
theorem ck41 : ckC 2 I41.body = true := by kernel_rfl

/-- 'encore/lift.mayBe'. -/
def I42 : IFunc :=
  ⟨(.seq (.region [⟨(some 1), (.box (.t 0)), none, []⟩,
      ⟨(some 2), (.mov (.c (.b false))), none, []⟩] [0, 2])
    (.seq (.region [⟨(some 3), (.load (some 5) (.t 1)), none, []⟩,
      ⟨(some 4), (.call 54 [(.t 3)]), none, []⟩,
      ⟨(some 5), (.bin .eql (.t 4) (.c (.i .i64 (0)))), none, []⟩,
      ⟨(some 2), (.mov (.t 5)), none, []⟩] [1, 3, 4, 5])
    .ret)),
    6, 1, [.t 2], 2⟩
theorem tr42 : trFunc Tryd.prog [([], [0, 2]), ([], [1, 3, 4, 5])] 1 Tryd.f42 = some (plain1 I42) := by kernel_rfl
theorem ck42 : ckC 2 I42.body = true := by kernel_rfl

/-- 'encore/value.Same'. -/
def I43 : IFunc :=
  ⟨(.seq (.region [⟨(some 2), (.box (.t 0)), none, []⟩,
      ⟨(some 3), (.box (.t 1)), none, []⟩,
      ⟨(some 4), (.mov (.c (.b false))), none, []⟩] [0, 1, 4])
    (.seq (.region [⟨(some 5), (.off (.t 2) 0), none, []⟩,
      ⟨(some 6), (.load none (.t 5)), none, []⟩,
      ⟨(some 7), (.off (.t 3) 0), none, []⟩,
      ⟨(some 8), (.load none (.t 7)), none, []⟩,
      ⟨(some 9), (.bin .eql (.t 6) (.t 8)), none, []⟩,
      ⟨(some 10), (.mov (.t 9)), none, []⟩,
      ⟨(some 11), (.off (.t 2) 1), (some (10, true)), []⟩,
      ⟨(some 12), (.load none (.t 11)), (some (10, true)), []⟩,
      ⟨(some 13), (.off (.t 3) 1), (some (10, true)), []⟩,
      ⟨(some 14), (.load none (.t 13)), (some (10, true)), []⟩,
      ⟨(some 15), (.bin .eql (.t 12) (.t 14)), (some (10, true)), []⟩,
      ⟨(some 16), (.pick (.t 10) (.t 15) (.c (.b false))), none, []⟩,
      ⟨(some 17), (.mov (.t 16)), none, []⟩,
      ⟨(some 18), (.off (.t 2) 2), (some (17, true)), []⟩,
      ⟨(some 19), (.load none (.t 18)), (some (17, true)), []⟩,
      ⟨(some 20), (.off (.t 3) 2), (some (17, true)), []⟩,
      ⟨(some 21), (.load none (.t 20)), (some (17, true)), []⟩,
      ⟨(some 22), (.bin .eql (.t 19) (.t 21)), (some (17, true)), []⟩,
      ⟨(some 23), (.pick (.t 17) (.t 22) (.c (.b false))), none, []⟩,
      ⟨(some 24), (.mov (.t 23)), none, []⟩,
      ⟨(some 25), (.off (.t 2) 4), (some (24, true)), []⟩,
      ⟨(some 26), (.load none (.t 25)), (some (24, true)), []⟩,
      ⟨(some 27), (.off (.t 3) 4), (some (24, true)), []⟩,
      ⟨(some 28), (.load none (.t 27)), (some (24, true)), []⟩,
      ⟨(some 29), (.call 55 [(.t 26), (.t 28)]), (some (24, true)), []⟩,
      ⟨(some 30), (.pick (.t 24) (.t 29) (.c (.b false))), none, []⟩,
      ⟨(some 31), (.mov (.t 30)), none, []⟩,
      ⟨(some 32), (.off (.t 2) 3), (some (31, true)), []⟩,
      ⟨(some 33), (.load none (.t 32)), (some (31, true)), []⟩,
      ⟨(some 34), (.off (.t 3) 3), (some (31, true)), []⟩,
      ⟨(some 35), (.load none (.t 34)), (some (31, true)), []⟩,
      ⟨(some 36), (.call 56 [(.t 33), (.t 35), (.f 43)]), (some (31, true)), []⟩,
      ⟨(some 37), (.pick (.t 31) (.t 36) (.c (.b false))), none, []⟩,
      ⟨(some 4), (.mov (.t 37)), none, []⟩] [2, 3, 5, 6, 7, 8, 9, 10, 11, 12, 13, 14, 15, 16, 17, 18, 19, 20, 21, 22, 23, 24, 25, 26, 27, 28, 29, 30, 31, 32, 33, 34, 35, 36, 37])
    .ret)),
    38, 2, [.t 4], 2⟩
theorem tr43 : trFunc Tryd.prog [([], [0, 1, 4]), ([], [2, 3, 5, 6, 7, 8, 9, 10, 11, 12, 13, 14, 15, 16, 17, 18, 19, 20, 21, 22, 23, 24, 25, 26, 27, 28, 29, 30, 31, 32, 33, 34, 35, 36, 37])] 1 Tryd.f43 = some (plain1 I43) := by kernel_rfl
theorem ck43 : ckC 2 I43.body = true := by kernel_rfl

/-- 'slices.ContainsFunc[[]encore/lift.Operand,encore/lift.Operand]'. -/
def I44 : IFunc :=
  ⟨(.seq (.region [⟨(some 4), (.mov (.c (.b false))), none, []⟩] [4])
    (.seq (.region [⟨(some 5), (.mov (.t 0)), none, []⟩,
      ⟨(some 6), (.mov (.t 1)), none, []⟩,
      ⟨(some 7), (.call 57 [(.t 5), (.t 6)]), none, []⟩,
      ⟨(some 8), (.bin .geq (.t 7) (.c (.i .i64 (0)))), none, []⟩,
      ⟨(some 4), (.mov (.t 8)), none, []⟩] [0, 1, 5, 6, 7, 8])
    .ret)),
    9, 2, [.t 4], 2⟩
theorem tr44 : trFunc Tryd.prog [([], [4]), ([], [0, 1, 5, 6, 7, 8])] 1 Tryd.f44 = some (plain1 I44) := by kernel_rfl
theorem ck44 : ckC 2 I44.body = true := by kernel_rfl

/-- 'encore/lift.fit$1'. -/
def I45 : IFunc :=
  ⟨(.seq (.region [⟨(some 3), (.box (.t 0)), none, []⟩,
      ⟨(some 4), (.mov (.c (.b false))), none, []⟩] [0, 4])
    (.seq (.region [⟨(some 5), (.load (some 7) (.t 3)), none, []⟩,
      ⟨(some 6), (.load none (.t 1)), none, []⟩,
      ⟨(some 7), (.load none (.t 2)), none, []⟩,
      ⟨(some 8), (.call 28 [(.t 5), (.t 6), (.t 7)]), none, []⟩,
      ⟨(some 9), (.un .not (.t 8)), none, []⟩,
      ⟨(some 4), (.mov (.t 9)), none, []⟩] [1, 2, 3, 5, 6, 7, 8, 9])
    .ret)),
    10, 3, [.t 4], 2⟩
theorem tr45 : trFunc Tryd.prog [([], [0, 4]), ([], [1, 2, 3, 5, 6, 7, 8, 9])] 1 Tryd.f45 = some (plain1 I45) := by kernel_rfl
theorem ck45 : ckC 2 I45.body = true := by kernel_rfl

/-- 'encore/fuse.second'. -/
def I46 : IFunc :=
  ⟨(.seq (.region [⟨(some 3), (.box (.t 0)), none, []⟩,
      ⟨(some 4), (.box (.t 1)), none, []⟩,
      ⟨(some 5), (.box (.t 2)), none, []⟩,
      ⟨(some 6), (.mov (.c .nf)), none, []⟩] [0, 1, 2, 6])
    (.seq (.region [⟨(some 7), (.mkf 58 [] [(.t 3), (.t 4), (.t 5)]), none, []⟩,
      ⟨(some 6), (.mov (.t 7)), none, []⟩] [3, 4, 5, 7])
    .ret)),
    8, 3, [.t 6], 1⟩
theorem tr46 : trFunc Tryd.prog [([], [0, 1, 2, 6]), ([], [3, 4, 5, 7])] 1 Tryd.f46 = some (plain1 I46) := by kernel_rfl
theorem ck46 : ckC 2 I46.body = true := by kernel_rfl

/-- 'encore/fuse.first'. -/
def I47 : IFunc :=
  ⟨(.seq (.region [⟨(some 3), (.box (.t 1)), none, []⟩,
      ⟨(some 4), (.alloc [(.i .i64 (0)), (.i .i64 (0)), .ns, (.s []), .ns]), none, []⟩,
      ⟨(some 5), (.mov (.c (.b false))), none, []⟩] [0, 1, 5])
    (.seq (.seq (.region [⟨(some 8), (.off (.t 3) 0), none, []⟩,
      ⟨(some 9), (.load none (.t 8)), none, []⟩,
      ⟨(some 10), (.bin .neq (.t 9) (.c (.i .i64 (43)))), none, []⟩] [8, 9])
    (.cond (.t 10)
      (.seq (.region [⟨(some 11), (.load (some 5) (.t 3)), none, []⟩,
        ⟨none, (.store 5 (.t 4) (.t 11)), none, []⟩,
        ⟨(some 5), (.mov (.c (.b false))), none, []⟩] [3, 10, 11])
      .ret)
      (.region [] [10])))
    (.seq (.region [⟨(some 13), (.off (.t 3) 2), none, []⟩,
      ⟨(some 14), (.load none (.t 13)), none, []⟩,
      ⟨(some 15), (.iaddr 7 (.t 14) (.c (.i .i64 (0)))), none, []⟩,
      ⟨(some 16), (.load (some 7) (.t 15)), none, []⟩,
      ⟨(some 17), (.call 59 [(.t 16)]), none, []⟩,
      ⟨(some 12), (.mov (.t 17)), none, []⟩,
      ⟨(some 18), (.ext (.t 12) 0), none, []⟩,
      ⟨(some 19), (.ext (.t 12) 1), none, []⟩,
      ⟨(some 6), (.mov (.t 18)), none, []⟩,
      ⟨(some 7), (.mov (.t 19)), none, []⟩] [13, 14, 15, 16, 17, 12, 18, 19])
    (.seq (.region [⟨(some 20), (.mov (.t 6)), none, []⟩,
      ⟨(some 21), (.off (.t 3) 2), none, []⟩,
      ⟨(some 22), (.load none (.t 21)), none, []⟩,
      ⟨(some 23), (.sl 7 (.t 22) (some (.c (.i .i64 (1)))) none none), none, []⟩,
      ⟨(some 24), (.build [(.i .i64 (0)), (.i .i64 (0)), .ns, (.s []), .ns] [(0, 1, (.c (.i .i64 (48)))), (1, 1, (.t 20)), (2, 1, (.t 23))]), none, []⟩,
      ⟨(some 25), (.mov (.t 7)), none, []⟩,
      ⟨none, (.store 5 (.t 4) (.t 24)), none, []⟩,
      ⟨(some 5), (.mov (.t 25)), none, []⟩] [3, 6, 7, 20, 21, 22, 23, 24, 25])
    .ret)))),
    26, 2, [.c 4 (some 5), .t 5], 2⟩
theorem tr47 : trFunc Tryd.prog [([], [0, 1, 5]), ([], [8, 9]), ([], [3, 10, 11]), ([], [10]), ([], [13, 14, 15, 16, 17, 12, 18, 19]), ([], [3, 6, 7, 20, 21, 22, 23, 24, 25])] 1 Tryd.f47 = some (plain1 I47) := by kernel_rfl
theorem ck47 : ckC 2 I47.body = true := by kernel_rfl

/-- 'encore/fuse.chain'. -/
def I48 : IFunc :=
  ⟨(.seq (.region [⟨(some 3), (.box (.t 1)), none, []⟩,
      ⟨(some 4), (.alloc [(.i .i64 (0)), (.i .i64 (0)), .ns, (.s []), .ns]), none, []⟩,
      ⟨(some 5), (.mov (.c (.b false))), none, []⟩] [1, 5])
    (.seq (.seq (.region [⟨(some 7), (.off (.t 3) 0), none, []⟩,
      ⟨(some 8), (.load none (.t 7)), none, []⟩,
      ⟨(some 9), (.bin .neq (.t 8) (.c (.i .i64 (48)))), none, []⟩,
      ⟨(some 10), (.mov (.t 9)), none, []⟩,
      ⟨(some 11), (.off (.t 3) 2), (some (10, false)), []⟩,
      ⟨(some 12), (.load none (.t 11)), (some (10, false)), []⟩,
      ⟨(some 13), (.iaddr 7 (.t 12) (.c (.i .i64 (0)))), (some (10, false)), []⟩,
      ⟨(some 14), (.off (.t 13) 0), (some (10, false)), []⟩,
      ⟨(some 15), (.load none (.t 14)), (some (10, false)), []⟩,
      ⟨(some 16), (.bin .neq (.t 15) (.c (.i .i64 (2)))), (some (10, false)), []⟩,
      ⟨(some 17), (.pick (.t 10) (.c (.b true)) (.t 16)), none, []⟩] [7, 8, 9, 10, 11, 12, 13, 14, 15, 16])
    (.cond (.t 17)
      (.seq (.region [⟨(some 18), (.load (some 5) (.t 3)), none, []⟩,
        ⟨none, (.store 5 (.t 4) (.t 18)), none, []⟩,
        ⟨(some 5), (.mov (.c (.b false))), none, []⟩] [0, 3, 17, 18])
      .ret)
      (.region [] [17])))
    (.seq (.region [⟨(some 19), (.mov (.t 0)), none, []⟩,
      ⟨(some 20), (.off (.t 3) 2), none, []⟩,
      ⟨(some 21), (.load none (.t 20)), none, []⟩,
      ⟨(some 22), (.iaddr 7 (.t 21) (.c (.i .i64 (0)))), none, []⟩,
      ⟨(some 23), (.off (.t 22) 1), none, []⟩,
      ⟨(some 24), (.load none (.t 23)), none, []⟩,
      ⟨(some 25), (.iaddr 5 (.t 19) (.t 24)), none, []⟩,
      ⟨(some 26), (.load (some 5) (.t 25)), none, []⟩,
      ⟨(some 6), (.alloc [(.i .i64 (0)), (.i .i64 (0)), .ns, (.s []), .ns]), none, []⟩,
      ⟨none, (.store 5 (.t 6) (.t 26)), none, []⟩] [0, 19, 20, 21, 22, 23, 24, 25, 26])
    (.seq (.region [⟨(some 27), (.off (.t 6) 0), none, []⟩,
      ⟨(some 28), (.load none (.t 27)), none, []⟩,
      ⟨(some 29), (.off (.t 6) 1), none, []⟩,
      ⟨(some 30), (.load none (.t 29)), none, []⟩,
      ⟨(some 31), (.off (.t 3) 1), none, []⟩,
      ⟨(some 32), (.load none (.t 31)), none, []⟩,
      ⟨(some 33), (.bin .add (.t 30) (.t 32)), none, []⟩,
      ⟨(some 34), (.off (.t 6) 2), none, []⟩,
      ⟨(some 35), (.load none (.t 34)), none, []⟩,
      ⟨(some 36), (.build [(.i .i64 (0)), (.i .i64 (0)), .ns, (.s []), .ns] [(0, 1, (.t 28)), (1, 1, (.t 33)), (2, 1, (.t 35))]), none, []⟩,
      ⟨(some 37), (.off (.t 6) 0), none, []⟩,
      ⟨(some 38), (.load none (.t 37)), none, []⟩,
      ⟨(some 39), (.bin .eql (.t 38) (.c (.i .i64 (48)))), none, []⟩,
      ⟨none, (.store 5 (.t 4) (.t 36)), none, [(38, (.load none (.t 37)), none)]⟩,
      ⟨(some 5), (.mov (.t 39)), none, []⟩] [3, 6, 27, 28, 29, 30, 31, 32, 33, 34, 35, 36, 37, 38, 39])
    .ret)))),
    40, 2, [.c 4 (some 5), .t 5], 2⟩
theorem tr48 : trFunc Tryd.prog [([], [1, 5]), ([], [7, 8, 9, 10, 11, 12, 13, 14, 15, 16]), ([], [0, 3, 17, 18]), ([], [17]), ([], [0, 19, 20, 21, 22, 23, 24, 25, 26]), ([0, 1, 2, 3, 4, 5, 6, 7, 8, 9, 10, 11, 12, 13, 14], [3, 6, 27, 28, 29, 30, 31, 32, 33, 34, 35, 36, 37, 38, 39])] 1 Tryd.f48 = some (plain1 I48) := by kernel_rfl
theorem ck48 : ckC 2 I48.body = true := by kernel_rfl

/-- 'encore/encoreref00.CopyTexts'. -/
def I49 : IFunc :=
  ⟨(.seq (.region [⟨(some 2), (.mov (.c .ns)), none, []⟩] [2])
    (.seq (.region [⟨(some 3), (.mov (.c .ns)), none, []⟩] [])
    (.seq (.region [⟨(some 4), (.mov (.t 3)), none, []⟩,
      ⟨(some 5), (.mov (.t 0)), none, []⟩,
      ⟨(some 6), (.app 1 16 (.t 4) (.t 5)), none, []⟩,
      ⟨(some 3), (.mov (.t 6)), none, []⟩] [0, 4, 5, 6])
    (.seq (.region [⟨(some 7), (.mov (.t 3)), none, []⟩,
      ⟨(some 2), (.mov (.t 7)), none, []⟩] [3, 7])
    .ret)))),
    8, 1, [.t 2], 2⟩
theorem tr49 : trFunc Tryd.prog [([], [2]), ([], []), ([], [0, 4, 5, 6]), ([], [3, 7])] 1 Tryd.f49 = some (plain1 I49) := by kernel_rfl
theorem ck49 : ckC 2 I49.body = true := by kernel_rfl

/-- 'encore/encoreref00.EqTexts'. -/
def L50a : ICode :=
  (.seq (.seq (.region [⟨(some 11), (.mov (.t 5)), none, []⟩,
      ⟨(some 12), (.mov (.t 0)), none, []⟩,
      ⟨(some 13), (.lenk 0 (.t 12)), none, []⟩,
      ⟨(some 14), (.bin .lss (.t 11) (.t 13)), none, []⟩] [11, 12, 13])
    (.cond (.t 14)
      (.region [] [14])
      (.exit 0)))
    (.seq (.block 1
      (.seq (.region [⟨(some 17), (.mov (.t 0)), none, []⟩,
        ⟨(some 18), (.mov (.t 5)), none, []⟩,
        ⟨(some 19), (.iaddr 1 (.t 17) (.t 18)), none, []⟩,
        ⟨(some 20), (.load none (.t 19)), none, []⟩,
        ⟨(some 21), (.mov (.t 1)), none, []⟩,
        ⟨(some 22), (.mov (.t 5)), none, []⟩,
        ⟨(some 23), (.iaddr 1 (.t 21) (.t 22)), none, []⟩,
        ⟨(some 24), (.load none (.t 23)), none, []⟩,
        ⟨(some 25), (.bin .neq (.t 20) (.t 24)), none, []⟩] [17, 18, 19, 20, 21, 22, 23, 24])
      (.cond (.t 25)
        (.seq (.region [⟨(some 4), (.mov (.c (.b false))), none, []⟩] [0, 1, 5, 25])
        .ret)
        (.region [] [25]))))
    (.region [⟨(some 15), (.mov (.t 5)), none, []⟩,
      ⟨(some 16), (.bin .add (.t 15) (.c (.i .i64 (1)))), none, []⟩,
      ⟨(some 5), (.mov (.t 16)), none, []⟩] [15, 16])))
def I50 : IFunc :=
  ⟨(.seq (.region [⟨(some 4), (.mov (.c (.b false))), none, []⟩] [4])
    (.seq (.seq (.region [⟨(some 6), (.mov (.t 0)), none, []⟩,
      ⟨(some 7), (.lenk 0 (.t 6)), none, []⟩,
      ⟨(some 8), (.mov (.t 1)), none, []⟩,
      ⟨(some 9), (.lenk 0 (.t 8)), none, []⟩,
      ⟨(some 10), (.bin .neq (.t 7) (.t 9)), none, []⟩] [6, 7, 8, 9])
    (.cond (.t 10)
      (.seq (.region [⟨(some 4), (.mov (.c (.b false))), none, []⟩] [0, 1, 10])
      .ret)
      (.region [] [10])))
    (.seq (.seq (.region [⟨(some 5), (.mov (.c (.i .i64 (0)))), none, []⟩] [])
    (.block 0
      (.loop L50a)))
    (.seq (.region [⟨(some 4), (.mov (.c (.b true))), none, []⟩] [0, 1, 5, 14])
    .ret)))),
    26, 2, [.t 4], 2⟩
theorem tr50 : trFunc Tryd.prog [([], [4]), ([], [6, 7, 8, 9]), ([], [0, 1, 10]), ([], [10]), ([], []), ([], [11, 12, 13]), ([], [14]), ([0, 1, 2, 3, 4, 5, 6, 7, 8], [17, 18, 19, 20, 21, 22, 23, 24]), ([], [0, 1, 5, 25]), ([], [25]), ([], [15, 16]), ([], [0, 1, 5, 14])] 1 Tryd.f50 = some (plain1 I50) := by kernel_rfl
theorem ck50 : ckC 2 I50.body = true := by kernel_rfl

/-- 'encore/encoreref07.Same'. -/
def I51 : IFunc :=
  ⟨(.seq (.region [⟨(some 2), (.box (.t 0)), none, []⟩,
      ⟨(some 3), (.box (.t 1)), none, []⟩,
      ⟨(some 4), (.mov (.c (.b false))), none, []⟩] [0, 1, 4])
    (.seq (.region [⟨(some 5), (.load (some 5) (.t 2)), none, []⟩,
      ⟨(some 6), (.load (some 5) (.t 3)), none, []⟩,
      ⟨(some 7), (.call 60 [(.t 5), (.t 6)]), none, []⟩,
      ⟨(some 8), (.bin .eql (.t 7) (.c (.i .i64 (0)))), none, []⟩,
      ⟨(some 4), (.mov (.t 8)), none, []⟩] [2, 3, 5, 6, 7, 8])
    .ret)),
    9, 2, [.t 4], 2⟩
theorem tr51 : trFunc Tryd.prog [([], [0, 1, 4]), ([], [2, 3, 5, 6, 7, 8])] 1 Tryd.f51 = some (plain1 I51) := by kernel_rfl
theorem ck51 : ckC 2 I51.body = true := by kernel_rfl

/-- 'encore/lift.record'. -/
def I52 : IFunc :=
  ⟨(.seq (.region [⟨(some 2), (.mov (.c (.b false))), none, []⟩] [2])
    (.seq (.region [⟨(some 3), (.mov (.t 0)), none, []⟩,
      ⟨(some 4), (.lenk 0 (.t 3)), none, []⟩,
      ⟨(some 5), (.bin .leq (.t 4) (.c (.i .i64 (8)))), none, []⟩,
      ⟨(some 6), (.mov (.t 5)), none, []⟩,
      ⟨(some 7), (.mov (.t 0)), (some (6, true)), []⟩,
      ⟨(some 8), (.mov (.t 0)), (some (6, true)), []⟩,
      ⟨(some 9), (.lenk 0 (.t 8)), (some (6, true)), []⟩,
      ⟨(some 10), (.mksl 5 80 [(.i .i64 (0)), (.i .i64 (0)), (.s []), .ns, .ns] (.t 9) (.t 9)), (some (6, true)), []⟩,
      ⟨(some 11), (.build [(.i .i64 (0)), (.i .i64 (0)), (.s []), .ns, .ns] [(0, 1, (.c (.i .i64 (5)))), (4, 1, (.t 7)), (3, 1, (.t 10))]), (some (6, true)), []⟩,
      ⟨(some 12), (.call 42 [(.t 11)]), (some (6, true)), []⟩,
      ⟨(some 13), (.pick (.t 6) (.t 12) (.c (.b false))), none, []⟩,
      ⟨(some 2), (.mov (.t 13)), none, []⟩] [0, 3, 4, 5, 6, 7, 8, 9, 10, 11, 12, 13])
    .ret)),
    14, 1, [.t 2], 2⟩
theorem tr52 : trFunc Tryd.prog [([], [2]), ([], [0, 3, 4, 5, 6, 7, 8, 9, 10, 11, 12, 13])] 1 Tryd.f52 = some (plain1 I52) := by kernel_rfl
theorem ck52 : ckC 2 I52.body = true := by kernel_rfl

/-- 'encore/value.Fits'. -/
def I53 : IFunc :=
  ⟨(.seq (.region [⟨(some 2), (.mov (.c (.b false))), none, []⟩] [2])
    (.seq (.region [⟨(some 6), (.mov (.t 0)), none, []⟩,
      ⟨(some 7), (.call 61 [(.t 6)]), none, []⟩,
      ⟨(some 5), (.mov (.t 7)), none, []⟩,
      ⟨(some 8), (.ext (.t 5) 0), none, []⟩,
      ⟨(some 9), (.ext (.t 5) 1), none, []⟩,
      ⟨(some 3), (.alloc [(.i .i64 (0)), .ns, .ns]), none, []⟩,
      ⟨none, (.store 3 (.t 3) (.t 8)), none, []⟩,
      ⟨(some 4), (.mov (.t 9)), none, []⟩] [0, 6, 7, 5, 8, 9, 3])
    (.seq (.region [⟨(some 10), (.mov (.t 4)), none, []⟩,
      ⟨(some 2), (.mov (.t 10)), none, []⟩] [4, 10])
    .ret))),
    11, 1, [.t 2], 2⟩
theorem tr53 : trFunc Tryd.prog [([], [2]), ([], [0, 6, 7, 5, 8, 9, 3]), ([], [4, 10])] 1 Tryd.f53 = some (plain1 I53) := by kernel_rfl
theorem ck53 : ckC 2 I53.body = true := by kernel_rfl

/-- 'encore/value.Check'. -/
def I54 : IFunc :=
  ⟨(.seq (.region [⟨(some 1), (.box (.t 0)), none, []⟩,
      ⟨(some 2), (.mov (.c (.i .i64 (0)))), none, []⟩] [0, 2])
    (.seq (.seq (.region [⟨(some 6), (.load (some 5) (.t 1)), none, []⟩,
      ⟨(some 7), (.call 62 [(.t 6), (.c (.i .i64 (0))), (.c (.i .i64 (256)))]), none, []⟩,
      ⟨(some 5), (.mov (.t 7)), none, []⟩,
      ⟨(some 8), (.ext (.t 5) 0), none, []⟩,
      ⟨(some 9), (.ext (.t 5) 1), none, []⟩,
      ⟨(some 3), (.mov (.t 8)), none, []⟩,
      ⟨(some 4), (.mov (.t 9)), none, []⟩] [1, 6, 7, 5, 8, 9, 3])
    (.seq (.region [⟨(some 10), (.mov (.t 4)), none, []⟩,
      ⟨(some 11), (.un .not (.t 10)), none, []⟩] [4, 10])
    (.cond (.t 11)
      (.seq (.region [⟨(some 2), (.mov (.c (.i .i64 (2)))), none, []⟩] [11])
      .ret)
      (.region [] [11]))))
    (.seq (.region [⟨(some 2), (.mov (.c (.i .i64 (0)))), none, []⟩] [])
    .ret))),
    12, 1, [.t 2], 2⟩
theorem tr54 : trFunc Tryd.prog [([], [0, 2]), ([], [1, 6, 7, 5, 8, 9, 3]), ([], [4, 10]), ([], [11]), ([], [11]), ([], [])] 1 Tryd.f54 = some (plain1 I54) := by kernel_rfl
theorem ck54 : ckC 2 I54.body = true := by kernel_rfl

/-- 'slices.Equal[[]string,string]'. -/
def L55a : ICode :=
  (.seq (.region [⟨(some 14), (.bin .lss (.t 13) (.t 12)), none, []⟩] [])
    (.seq (.cond (.t 14)
      (.region [] [14])
      (.exit 0))
    (.seq (.block 1
      (.seq (.region [⟨(some 15), (.mov (.t 13)), none, []⟩,
        ⟨(some 5), (.mov (.t 15)), none, []⟩] [15])
      (.seq (.region [⟨(some 16), (.mov (.t 0)), none, []⟩,
        ⟨(some 17), (.mov (.t 5)), none, []⟩,
        ⟨(some 18), (.iaddr 1 (.t 16) (.t 17)), none, []⟩,
        ⟨(some 19), (.load none (.t 18)), none, []⟩,
        ⟨(some 20), (.mov (.t 1)), none, []⟩,
        ⟨(some 21), (.mov (.t 5)), none, []⟩,
        ⟨(some 22), (.iaddr 1 (.t 20) (.t 21)), none, []⟩,
        ⟨(some 23), (.load none (.t 22)), none, []⟩,
        ⟨(some 24), (.bin .neq (.t 19) (.t 23)), none, []⟩] [5, 16, 17, 18, 19, 20, 21, 22, 23])
      (.cond (.t 24)
        (.seq (.region [⟨(some 4), (.mov (.c (.b false))), none, []⟩] [0, 1, 12, 13, 24])
        .ret)
        (.region [] [24])))))
    (.region [⟨(some 25), (.bin .add (.t 13) (.c (.i .i64 (1)))), none, []⟩,
      ⟨(some 13), (.mov (.t 25)), none, []⟩] [25]))))
def I55 : IFunc :=
  ⟨(.seq (.region [⟨(some 4), (.mov (.c (.b false))), none, []⟩] [4])
    (.seq (.seq (.region [⟨(some 6), (.mov (.t 0)), none, []⟩,
      ⟨(some 7), (.lenk 0 (.t 6)), none, []⟩,
      ⟨(some 8), (.mov (.t 1)), none, []⟩,
      ⟨(some 9), (.lenk 0 (.t 8)), none, []⟩,
      ⟨(some 10), (.bin .neq (.t 7) (.t 9)), none, []⟩] [6, 7, 8, 9])
    (.cond (.t 10)
      (.seq (.region [⟨(some 4), (.mov (.c (.b false))), none, []⟩] [0, 1, 10])
      .ret)
      (.region [] [10])))
    (.seq (.seq (.region [⟨(some 11), (.mov (.t 0)), none, []⟩,
      ⟨(some 12), (.lenk 0 (.t 11)), none, []⟩,
      ⟨(some 13), (.mov (.c (.i .i64 (0)))), none, []⟩] [11])
    (.block 0
      (.loop L55a)))
    (.seq (.region [⟨(some 4), (.mov (.c (.b true))), none, []⟩] [0, 1, 12, 13, 14])
    .ret)))),
    26, 2, [.t 4], 2⟩
theorem tr55 : trFunc Tryd.prog [([], [4]), ([], [6, 7, 8, 9]), ([], [0, 1, 10]), ([], [10]), ([], [11]), ([], []), ([], [14]), ([], [15]), ([0, 1, 2, 3, 4, 5, 6, 7, 8], [5, 16, 17, 18, 19, 20, 21, 22, 23]), ([], [0, 1, 12, 13, 24]), ([], [24]), ([], [25]), ([], [0, 1, 12, 13, 14])] 1 Tryd.f55 = some (plain1 I55) := by kernel_rfl
theorem ck55 : ckC 2 I55.body = true := by kernel_rfl

/-- 'slices.EqualFunc[[]encore/api.Value,[]encore/api.Value,encore/api.Value,encore/api.Value]'. -/
def L56a : ICode :=
  (.seq (.region [⟨(some 18), (.bin .lss (.t 17) (.t 16)), none, []⟩] [])
    (.seq (.cond (.t 18)
      (.region [] [18])
      (.exit 0))
    (.seq (.block 1
      (.seq (.region [⟨(some 19), (.mov (.t 17)), none, []⟩,
        ⟨(some 20), (.iaddr 5 (.t 15) (.t 17)), none, []⟩,
        ⟨(some 21), (.load (some 5) (.t 20)), none, []⟩,
        ⟨(some 8), (.alloc [(.i .i64 (0)), (.i .i64 (0)), (.s []), .ns, .ns]), none, []⟩,
        ⟨(some 7), (.mov (.t 19)), none, []⟩,
        ⟨none, (.store 5 (.t 8) (.t 21)), none, []⟩] [19, 20, 21])
      (.seq (.region [⟨(some 22), (.mov (.t 1)), none, []⟩,
        ⟨(some 23), (.mov (.t 7)), none, []⟩,
        ⟨(some 24), (.iaddr 5 (.t 22) (.t 23)), none, []⟩,
        ⟨(some 25), (.load (some 5) (.t 24)), none, []⟩,
        ⟨(some 9), (.alloc [(.i .i64 (0)), (.i .i64 (0)), (.s []), .ns, .ns]), none, []⟩,
        ⟨none, (.store 5 (.t 9) (.t 25)), none, []⟩] [7, 22, 23, 24, 25])
      (.seq (.region [⟨(some 26), (.mov (.t 2)), none, []⟩,
        ⟨(some 27), (.load (some 5) (.t 8)), none, []⟩,
        ⟨(some 28), (.load (some 5) (.t 9)), none, []⟩,
        ⟨(some 29), (.callv (.t 26) [(.t 27), (.t 28)]), none, []⟩,
        ⟨(some 30), (.un .not (.t 29)), none, []⟩] [8, 9, 26, 27, 28, 29])
      (.cond (.t 30)
        (.seq (.region [⟨(some 6), (.mov (.c (.b false))), none, []⟩] [1, 2, 15, 16, 17, 30])
        .ret)
        (.region [] [30]))))))
    (.region [⟨(some 31), (.bin .add (.t 17) (.c (.i .i64 (1)))), none, []⟩,
      ⟨(some 17), (.mov (.t 31)), none, []⟩] [31]))))
def I56 : IFunc :=
  ⟨(.seq (.region [⟨(some 6), (.mov (.c (.b false))), none, []⟩] [6])
    (.seq (.seq (.region [⟨(some 10), (.mov (.t 0)), none, []⟩,
      ⟨(some 11), (.lenk 0 (.t 10)), none, []⟩,
      ⟨(some 12), (.mov (.t 1)), none, []⟩,
      ⟨(some 13), (.lenk 0 (.t 12)), none, []⟩,
      ⟨(some 14), (.bin .neq (.t 11) (.t 13)), none, []⟩] [10, 11, 12, 13])
    (.cond (.t 14)
      (.seq (.region [⟨(some 6), (.mov (.c (.b false))), none, []⟩] [0, 1, 2, 14])
      .ret)
      (.region [] [14])))
    (.seq (.seq (.region [⟨(some 15), (.mov (.t 0)), none, []⟩,
      ⟨(some 16), (.lenk 0 (.t 15)), none, []⟩,
      ⟨(some 17), (.mov (.c (.i .i64 (0)))), none, []⟩] [0])
    (.block 0
      (.loop L56a)))
    (.seq (.region [⟨(some 6), (.mov (.c (.b true))), none, []⟩] [1, 2, 15, 16, 17, 18])
    .ret)))),
    32, 3, [.t 6], 2⟩
theorem tr56 : trFunc Tryd.prog [([], [6]), ([], [10, 11, 12, 13]), ([], [0, 1, 2, 14]), ([], [14]), ([], [0]), ([], []), ([], [18]), ([], [19, 20, 21]), ([], [7, 22, 23, 24, 25]), ([], [8, 9, 26, 27, 28, 29]), ([], [1, 2, 15, 16, 17, 30]), ([], [30]), ([], [31]), ([], [1, 2, 15, 16, 17, 18])] 1 Tryd.f56 = some (plain1 I56) := by kernel_rfl
theorem ck56 : ckC 2 I56.body = true := by kernel_rfl

/-- 'slices.IndexFunc[[]encore/lift.Operand,encore/lift.Operand]'. -/
def L57a : ICode :=
  (.seq (.region [⟨(some 9), (.bin .lss (.t 8) (.t 7)), none, []⟩] [])
    (.seq (.cond (.t 9)
      (.region [] [9])
      (.exit 0))
    (.seq (.block 1
      (.seq (.region [⟨(some 10), (.mov (.t 8)), none, []⟩,
        ⟨(some 5), (.mov (.t 10)), none, []⟩] [10])
      (.seq (.region [⟨(some 11), (.mov (.t 1)), none, []⟩,
        ⟨(some 12), (.mov (.t 0)), none, []⟩,
        ⟨(some 13), (.mov (.t 5)), none, []⟩,
        ⟨(some 14), (.iaddr 7 (.t 12) (.t 13)), none, []⟩,
        ⟨(some 15), (.load (some 7) (.t 14)), none, []⟩,
        ⟨(some 16), (.callv (.t 11) [(.t 15)]), none, []⟩] [11, 12, 13, 14, 15])
      (.cond (.t 16)
        (.seq (.region [⟨(some 17), (.mov (.t 5)), none, []⟩,
          ⟨(some 4), (.mov (.t 17)), none, []⟩] [0, 1, 7, 8, 5, 16, 17])
        .ret)
        (.region [] [5, 16])))))
    (.region [⟨(some 18), (.bin .add (.t 8) (.c (.i .i64 (1)))), none, []⟩,
      ⟨(some 8), (.mov (.t 18)), none, []⟩] [18]))))
def I57 : IFunc :=
  ⟨(.seq (.region [⟨(some 4), (.mov (.c (.i .i64 (0)))), none, []⟩] [4])
    (.seq (.seq (.region [⟨(some 6), (.mov (.t 0)), none, []⟩,
      ⟨(some 7), (.lenk 0 (.t 6)), none, []⟩,
      ⟨(some 8), (.mov (.c (.i .i64 (0)))), none, []⟩] [6])
    (.block 0
      (.loop L57a)))
    (.seq (.region [⟨(some 4), (.mov (.c (.i .i64 (-1)))), none, []⟩] [0, 1, 7, 8, 9])
    .ret))),
    19, 2, [.t 4], 2⟩
theorem tr57 : trFunc Tryd.prog [([], [4]), ([], [6]), ([], []), ([], [9]), ([], [10]), ([], [11, 12, 13, 14, 15]), ([], [0, 1, 7, 8, 5, 16, 17]), ([], [5, 16]), ([], [18]), ([], [0, 1, 7, 8, 9])] 1 Tryd.f57 = some (plain1 I57) := by kernel_rfl
theorem ck57 : ckC 2 I57.body = true := by kernel_rfl

/-- 'encore/fuse.second$1'. -/
def I58 : IFunc :=
  ⟨(.seq (.region [⟨(some 6), (.box (.t 1)), none, []⟩,
      ⟨(some 7), (.alloc [(.i .i64 (0)), (.i .i64 (0)), .ns, (.s []), .ns]), none, []⟩,
      ⟨(some 8), (.mov (.c (.b false))), none, []⟩] [0, 1, 8])
    (.seq (.seq (.region [⟨(some 11), (.off (.t 6) 0), none, []⟩,
      ⟨(some 12), (.load none (.t 11)), none, []⟩,
      ⟨(some 13), (.load none (.t 2)), none, []⟩,
      ⟨(some 14), (.bin .neq (.t 12) (.t 13)), none, []⟩] [2, 11, 12, 13])
    (.cond (.t 14)
      (.seq (.region [⟨(some 15), (.load (some 5) (.t 6)), none, []⟩,
        ⟨none, (.store 5 (.t 7) (.t 15)), none, []⟩,
        ⟨(some 8), (.mov (.c (.b false))), none, []⟩] [3, 4, 6, 14, 15])
      .ret)
      (.region [] [14])))
    (.seq (.region [⟨(some 17), (.off (.t 6) 2), none, []⟩,
      ⟨(some 18), (.load none (.t 17)), none, []⟩,
      ⟨(some 19), (.iaddr 7 (.t 18) (.c (.i .i64 (1)))), none, []⟩,
      ⟨(some 20), (.load (some 7) (.t 19)), none, []⟩,
      ⟨(some 21), (.call 59 [(.t 20)]), none, []⟩,
      ⟨(some 16), (.mov (.t 21)), none, []⟩,
      ⟨(some 22), (.ext (.t 16) 0), none, []⟩,
      ⟨(some 23), (.ext (.t 16) 1), none, []⟩,
      ⟨(some 9), (.mov (.t 22)), none, []⟩,
      ⟨(some 10), (.mov (.t 23)), none, []⟩] [17, 18, 19, 20, 21, 16, 22, 23])
    (.seq (.region [⟨(some 24), (.load none (.t 3)), none, []⟩,
      ⟨(some 25), (.load none (.t 4)), none, []⟩,
      ⟨(some 26), (.mov (.t 9)), none, []⟩,
      ⟨(some 27), (.bin .mul (.t 25) (.t 26)), none, []⟩,
      ⟨(some 28), (.off (.t 6) 2), none, []⟩,
      ⟨(some 29), (.load none (.t 28)), none, []⟩,
      ⟨(some 30), (.slq 7 (.t 29) none (some (.c (.i .i64 (1)))) none), none, []⟩,
      ⟨(some 31), (.build [(.i .i64 (0)), (.i .i64 (0)), .ns, (.s []), .ns] [(0, 1, (.t 24)), (1, 1, (.t 27)), (2, 1, (.t 30))]), none, []⟩,
      ⟨(some 32), (.mov (.t 10)), none, []⟩,
      ⟨none, (.store 5 (.t 7) (.t 31)), none, []⟩,
      ⟨(some 8), (.mov (.t 32)), none, []⟩] [3, 4, 6, 9, 10, 24, 25, 26, 27, 28, 29, 30, 31, 32])
    .ret)))),
    33, 5, [.c 7 (some 5), .t 8], 2⟩
theorem tr58 : trFunc Tryd.prog [([], [0, 1, 8]), ([], [2, 11, 12, 13]), ([], [3, 4, 6, 14, 15]), ([], [14]), ([], [17, 18, 19, 20, 21, 16, 22, 23]), ([0, 1, 2, 3, 4, 5, 6, 7, 8, 9, 10], [3, 4, 6, 9, 10, 24, 25, 26, 27, 28, 29, 30, 31, 32])] 1 Tryd.f58 = some (plain1 I58) := by kernel_rfl
theorem ck58 : ckC 2 I58.body = true := by kernel_rfl

/-- 'encore/fuse.number'. -/
def I59 : IFunc :=
  ⟨(.seq (.region [⟨(some 1), (.box (.t 0)), none, []⟩,
      ⟨(some 2), (.mov (.c (.i .i64 (0)))), none, []⟩,
      ⟨(some 3), (.mov (.c (.b false))), none, []⟩] [0, 2, 3])
    (.seq (.region [⟨(some 4), (.off (.t 1) 2), none, []⟩,
      ⟨(some 5), (.off (.t 4) 1), none, []⟩,
      ⟨(some 6), (.load none (.t 5)), none, []⟩,
      ⟨(some 7), (.off (.t 1) 0), none, []⟩,
      ⟨(some 8), (.load none (.t 7)), none, []⟩,
      ⟨(some 9), (.bin .eql (.t 8) (.c (.i .i64 (3)))), none, []⟩,
      ⟨(some 10), (.mov (.t 9)), none, []⟩,
      ⟨(some 11), (.off (.t 1) 2), (some (10, true)), []⟩,
      ⟨(some 12), (.off (.t 11) 0), (some (10, true)), []⟩,
      ⟨(some 13), (.load none (.t 12)), (some (10, true)), []⟩,
      ⟨(some 14), (.bin .eql (.t 13) (.c (.i .i64 (1)))), (some (10, true)), []⟩,
      ⟨(some 15), (.pick (.t 10) (.t 14) (.c (.b false))), none, []⟩,
      ⟨(some 2), (.mov (.t 6)), none, []⟩,
      ⟨(some 3), (.mov (.t 15)), none, []⟩] [1, 4, 5, 6, 7, 8, 9, 10, 11, 12, 13, 14, 15])
    .ret)),
    16, 1, [.t 2, .t 3], 2⟩
theorem tr59 : trFunc Tryd.prog [([], [0, 2, 3]), ([0, 1, 2, 3, 4, 5, 6, 7, 8, 9, 10, 11, 12, 13], [1, 4, 5, 6, 7, 8, 9, 10, 11, 12, 13, 14, 15])] 1 Tryd.f59 = some (plain1 I59) := by kernel_rfl
theorem ck59 : ckC 2 I59.body = true := by kernel_rfl

/-- 'encore/encoreref07.Compare'. -/
def L60a : ICode :=
  (.seq (.seq (.region [⟨(some 38), (.mov (.t 5)), none, []⟩,
      ⟨(some 39), (.off (.t 2) 4), none, []⟩,
      ⟨(some 40), (.load none (.t 39)), none, []⟩,
      ⟨(some 41), (.lenk 0 (.t 40)), none, []⟩,
      ⟨(some 42), (.bin .lss (.t 38) (.t 41)), none, []⟩,
      ⟨(some 43), (.mov (.t 42)), none, []⟩,
      ⟨(some 44), (.mov (.t 5)), (some (43, true)), []⟩,
      ⟨(some 45), (.off (.t 3) 4), (some (43, true)), []⟩,
      ⟨(some 46), (.load none (.t 45)), (some (43, true)), []⟩,
      ⟨(some 47), (.lenk 0 (.t 46)), (some (43, true)), []⟩,
      ⟨(some 48), (.bin .lss (.t 44) (.t 47)), (some (43, true)), []⟩,
      ⟨(some 49), (.pick (.t 43) (.t 48) (.c (.b false))), none, []⟩] [38, 39, 40, 41, 42, 43, 44, 45, 46, 47, 48])
    (.cond (.t 49)
      (.region [] [49])
      (.exit 0)))
    (.seq (.block 1
      (.seq (.region [⟨(some 52), (.off (.t 2) 4), none, []⟩,
        ⟨(some 53), (.load none (.t 52)), none, []⟩,
        ⟨(some 54), (.mov (.t 5)), none, []⟩,
        ⟨(some 55), (.iaddr 1 (.t 53) (.t 54)), none, []⟩,
        ⟨(some 56), (.load none (.t 55)), none, []⟩,
        ⟨(some 57), (.off (.t 3) 4), none, []⟩,
        ⟨(some 58), (.load none (.t 57)), none, []⟩,
        ⟨(some 59), (.mov (.t 5)), none, []⟩,
        ⟨(some 60), (.iaddr 1 (.t 58) (.t 59)), none, []⟩,
        ⟨(some 61), (.load none (.t 60)), none, []⟩,
        ⟨(some 62), (.bin .neq (.t 56) (.t 61)), none, []⟩] [52, 53, 54, 55, 56, 57, 58, 59, 60, 61])
      (.cond (.t 62)
        (.seq (.region [⟨(some 63), (.off (.t 2) 4), none, []⟩,
          ⟨(some 64), (.load none (.t 63)), none, []⟩,
          ⟨(some 65), (.mov (.t 5)), none, []⟩,
          ⟨(some 66), (.iaddr 1 (.t 64) (.t 65)), none, []⟩,
          ⟨(some 67), (.load none (.t 66)), none, []⟩,
          ⟨(some 68), (.off (.t 3) 4), none, []⟩,
          ⟨(some 69), (.load none (.t 68)), none, []⟩,
          ⟨(some 70), (.mov (.t 5)), none, []⟩,
          ⟨(some 71), (.iaddr 1 (.t 69) (.t 70)), none, []⟩,
          ⟨(some 72), (.load none (.t 71)), none, []⟩,
          ⟨(some 73), (.call 64 [(.t 67), (.t 72)]), none, []⟩,
          ⟨(some 4), (.mov (.t 73)), none, []⟩] [2, 3, 5, 62, 63, 64, 65, 66, 67, 68, 69, 70, 71, 72, 73])
        .ret)
        (.region [] [62]))))
    (.region [⟨(some 50), (.mov (.t 5)), none, []⟩,
      ⟨(some 51), (.bin .add (.t 50) (.c (.i .i64 (1)))), none, []⟩,
      ⟨(some 5), (.mov (.t 51)), none, []⟩] [50, 51])))
def L60b : ICode :=
  (.seq (.seq (.region [⟨(some 88), (.mov (.t 6)), none, []⟩,
      ⟨(some 89), (.off (.t 2) 3), none, []⟩,
      ⟨(some 90), (.load none (.t 89)), none, []⟩,
      ⟨(some 91), (.lenk 0 (.t 90)), none, []⟩,
      ⟨(some 92), (.bin .lss (.t 88) (.t 91)), none, []⟩,
      ⟨(some 93), (.mov (.t 92)), none, []⟩,
      ⟨(some 94), (.mov (.t 6)), (some (93, true)), []⟩,
      ⟨(some 95), (.off (.t 3) 3), (some (93, true)), []⟩,
      ⟨(some 96), (.load none (.t 95)), (some (93, true)), []⟩,
      ⟨(some 97), (.lenk 0 (.t 96)), (some (93, true)), []⟩,
      ⟨(some 98), (.bin .lss (.t 94) (.t 97)), (some (93, true)), []⟩,
      ⟨(some 99), (.pick (.t 93) (.t 98) (.c (.b false))), none, []⟩] [88, 89, 90, 91, 92, 93, 94, 95, 96, 97, 98])
    (.cond (.t 99)
      (.region [] [99])
      (.exit 2)))
    (.seq (.block 3
      (.seq (.region [⟨(some 102), (.off (.t 2) 3), none, []⟩,
        ⟨(some 103), (.load none (.t 102)), none, []⟩,
        ⟨(some 104), (.mov (.t 6)), none, []⟩,
        ⟨(some 105), (.iaddr 5 (.t 103) (.t 104)), none, []⟩,
        ⟨(some 106), (.load (some 5) (.t 105)), none, []⟩,
        ⟨(some 107), (.off (.t 3) 3), none, []⟩,
        ⟨(some 108), (.load none (.t 107)), none, []⟩,
        ⟨(some 109), (.mov (.t 6)), none, []⟩,
        ⟨(some 110), (.iaddr 5 (.t 108) (.t 109)), none, []⟩,
        ⟨(some 111), (.load (some 5) (.t 110)), none, []⟩,
        ⟨(some 112), (.call 60 [(.t 106), (.t 111)]), none, []⟩,
        ⟨(some 7), (.mov (.t 112)), none, []⟩] [102, 103, 104, 105, 106, 107, 108, 109, 110, 111, 112])
      (.seq (.region [⟨(some 113), (.mov (.t 7)), none, []⟩,
        ⟨(some 114), (.bin .neq (.t 113) (.c (.i .i64 (0)))), none, []⟩] [113])
      (.cond (.t 114)
        (.seq (.region [⟨(some 115), (.mov (.t 7)), none, []⟩,
          ⟨(some 4), (.mov (.t 115)), none, []⟩] [2, 3, 6, 7, 114, 115])
        .ret)
        (.region [] [7, 114])))))
    (.region [⟨(some 100), (.mov (.t 6)), none, []⟩,
      ⟨(some 101), (.bin .add (.t 100) (.c (.i .i64 (1)))), none, []⟩,
      ⟨(some 6), (.mov (.t 101)), none, []⟩] [100, 101])))
def I60 : IFunc :=
  ⟨(.seq (.region [⟨(some 2), (.box (.t 0)), none, []⟩,
      ⟨(some 3), (.box (.t 1)), none, []⟩,
      ⟨(some 4), (.mov (.c (.i .i64 (0)))), none, []⟩] [0, 1, 4])
    (.seq (.seq (.region [⟨(some 8), (.off (.t 2) 0), none, []⟩,
      ⟨(some 9), (.load none (.t 8)), none, []⟩,
      ⟨(some 10), (.off (.t 3) 0), none, []⟩,
      ⟨(some 11), (.load none (.t 10)), none, []⟩,
      ⟨(some 12), (.bin .neq (.t 9) (.t 11)), none, []⟩] [8, 9, 10, 11])
    (.cond (.t 12)
      (.seq (.region [⟨(some 13), (.off (.t 2) 0), none, []⟩,
        ⟨(some 14), (.load none (.t 13)), none, []⟩,
        ⟨(some 15), (.off (.t 3) 0), none, []⟩,
        ⟨(some 16), (.load none (.t 15)), none, []⟩,
        ⟨(some 17), (.call 63 [(.t 14), (.t 16)]), none, []⟩,
        ⟨(some 4), (.mov (.t 17)), none, []⟩] [2, 3, 12, 13, 14, 15, 16, 17])
      .ret)
      (.region [] [12])))
    (.seq (.seq (.region [⟨(some 18), (.off (.t 2) 1), none, []⟩,
      ⟨(some 19), (.load none (.t 18)), none, []⟩,
      ⟨(some 20), (.off (.t 3) 1), none, []⟩,
      ⟨(some 21), (.load none (.t 20)), none, []⟩,
      ⟨(some 22), (.bin .neq (.t 19) (.t 21)), none, []⟩] [18, 19, 20, 21])
    (.cond (.t 22)
      (.seq (.region [⟨(some 23), (.off (.t 2) 1), none, []⟩,
        ⟨(some 24), (.load none (.t 23)), none, []⟩,
        ⟨(some 25), (.off (.t 3) 1), none, []⟩,
        ⟨(some 26), (.load none (.t 25)), none, []⟩,
        ⟨(some 27), (.call 63 [(.t 24), (.t 26)]), none, []⟩,
        ⟨(some 4), (.mov (.t 27)), none, []⟩] [2, 3, 22, 23, 24, 25, 26, 27])
      .ret)
      (.region [] [22])))
    (.seq (.seq (.region [⟨(some 28), (.off (.t 2) 2), none, []⟩,
      ⟨(some 29), (.load none (.t 28)), none, []⟩,
      ⟨(some 30), (.off (.t 3) 2), none, []⟩,
      ⟨(some 31), (.load none (.t 30)), none, []⟩,
      ⟨(some 32), (.bin .neq (.t 29) (.t 31)), none, []⟩] [28, 29, 30, 31])
    (.cond (.t 32)
      (.seq (.region [⟨(some 33), (.off (.t 2) 2), none, []⟩,
        ⟨(some 34), (.load none (.t 33)), none, []⟩,
        ⟨(some 35), (.off (.t 3) 2), none, []⟩,
        ⟨(some 36), (.load none (.t 35)), none, []⟩,
        ⟨(some 37), (.call 64 [(.t 34), (.t 36)]), none, []⟩,
        ⟨(some 4), (.mov (.t 37)), none, []⟩] [2, 3, 32, 33, 34, 35, 36, 37])
      .ret)
      (.region [] [32])))
    (.seq (.seq (.region [⟨(some 5), (.mov (.c (.i .i64 (0)))), none, []⟩] [])
    (.block 0
      (.loop L60a)))
    (.seq (.seq (.region [⟨(some 74), (.off (.t 2) 4), none, []⟩,
      ⟨(some 75), (.load none (.t 74)), none, []⟩,
      ⟨(some 76), (.lenk 0 (.t 75)), none, []⟩,
      ⟨(some 77), (.off (.t 3) 4), none, []⟩,
      ⟨(some 78), (.load none (.t 77)), none, []⟩,
      ⟨(some 79), (.lenk 0 (.t 78)), none, []⟩,
      ⟨(some 80), (.bin .neq (.t 76) (.t 79)), none, []⟩] [5, 49, 74, 75, 76, 77, 78, 79])
    (.cond (.t 80)
      (.seq (.region [⟨(some 81), (.off (.t 2) 4), none, []⟩,
        ⟨(some 82), (.load none (.t 81)), none, []⟩,
        ⟨(some 83), (.lenk 0 (.t 82)), none, []⟩,
        ⟨(some 84), (.off (.t 3) 4), none, []⟩,
        ⟨(some 85), (.load none (.t 84)), none, []⟩,
        ⟨(some 86), (.lenk 0 (.t 85)), none, []⟩,
        ⟨(some 87), (.call 63 [(.t 83), (.t 86)]), none, []⟩,
        ⟨(some 4), (.mov (.t 87)), none, []⟩] [2, 3, 80, 81, 82, 83, 84, 85, 86, 87])
      .ret)
      (.region [] [80])))
    (.seq (.seq (.region [⟨(some 6), (.mov (.c (.i .i64 (0)))), none, []⟩] [])
    (.block 2
      (.loop L60b)))
    (.seq (.region [⟨(some 116), (.off (.t 2) 3), none, []⟩,
      ⟨(some 117), (.load none (.t 116)), none, []⟩,
      ⟨(some 118), (.lenk 0 (.t 117)), none, []⟩,
      ⟨(some 119), (.off (.t 3) 3), none, []⟩,
      ⟨(some 120), (.load none (.t 119)), none, []⟩,
      ⟨(some 121), (.lenk 0 (.t 120)), none, []⟩,
      ⟨(some 122), (.call 63 [(.t 118), (.t 121)]), none, []⟩,
      ⟨(some 4), (.mov (.t 122)), none, []⟩] [2, 3, 6, 99, 116, 117, 118, 119, 120, 121, 122])
    .ret)))))))),
    123, 2, [.t 4], 2⟩
theorem tr60 : trFunc Tryd.prog [([], [0, 1, 4]), ([], [8, 9, 10, 11]), ([], [2, 3, 12, 13, 14, 15, 16, 17]), ([], [12]), ([], [18, 19, 20, 21]), ([], [2, 3, 22, 23, 24, 25, 26, 27]), ([], [22]), ([], [28, 29, 30, 31]), ([], [2, 3, 32, 33, 34, 35, 36, 37]), ([], [32]), ([], []), ([], [38, 39, 40, 41, 42, 43, 44, 45, 46, 47, 48]), ([], [49]), ([0, 1, 2, 3, 4, 5, 6, 7, 8, 9, 10], [52, 53, 54, 55, 56, 57, 58, 59, 60, 61]), ([0, 1, 2, 3, 4, 5, 6, 7, 8, 9, 10, 11], [2, 3, 5, 62, 63, 64, 65, 66, 67, 68, 69, 70, 71, 72, 73]), ([], [62]), ([], [50, 51]), ([], [5, 49, 74, 75, 76, 77, 78, 79]), ([], [2, 3, 80, 81, 82, 83, 84, 85, 86, 87]), ([], [80]), ([], []), ([], [88, 89, 90, 91, 92, 93, 94, 95, 96, 97, 98]), ([], [99]), ([0, 1, 2, 3, 4, 5, 6, 7, 8, 9, 10, 11], [102, 103, 104, 105, 106, 107, 108, 109, 110, 111, 112]), ([], [113]), ([], [2, 3, 6, 7, 114, 115]), ([], [7, 114]), ([], [100, 101]), ([], [2, 3, 6, 99, 116, 117, 118, 119, 120, 121, 122])] 1 Tryd.f60 = some (plain1 I60) := by kernel_rfl
theorem ck60 : ckC 2 I60.body = true := by kernel_rfl

/-- 'encore/value.typed'. -/
def I61 : IFunc :=
  ⟨(.seq (.region [⟨(some 2), (.alloc [(.i .i64 (0)), .ns, .ns]), none, []⟩,
      ⟨(some 3), (.mov (.c (.b false))), none, []⟩] [3])
    (.seq (.seq (.region [⟨(some 7), (.mov (.t 0)), none, []⟩,
      ⟨(some 8), (.lenk 1 (.t 7)), none, []⟩,
      ⟨(some 9), (.bin .gtr (.t 8) (.c (.i .i64 (64)))), none, []⟩] [7, 8])
    (.cond (.t 9)
      (.seq (.region [⟨(some 10), (.build [(.i .i64 (0)), .ns, .ns] []), none, []⟩,
        ⟨none, (.store 3 (.t 2) (.t 10)), none, []⟩,
        ⟨(some 3), (.mov (.c (.b false))), none, []⟩] [0, 9, 10])
      .ret)
      (.region [] [9])))
    (.seq (.region [⟨(some 12), (.mov (.t 0)), none, []⟩,
      ⟨(some 13), (.call 65 [(.t 12)]), none, []⟩,
      ⟨(some 11), (.mov (.t 13)), none, []⟩,
      ⟨(some 14), (.ext (.t 11) 0), none, []⟩,
      ⟨(some 15), (.ext (.t 11) 1), none, []⟩,
      ⟨(some 16), (.ext (.t 11) 2), none, []⟩,
      ⟨(some 4), (.alloc [(.i .i64 (0)), .ns, .ns]), none, []⟩,
      ⟨none, (.store 3 (.t 4) (.t 14)), none, []⟩,
      ⟨(some 5), (.mov (.t 15)), none, []⟩,
      ⟨(some 6), (.mov (.t 16)), none, []⟩] [0, 12, 13, 11, 14, 15, 16])
    (.seq (.region [⟨(some 17), (.load (some 3) (.t 4)), none, []⟩,
      ⟨(some 18), (.mov (.t 6)), none, []⟩,
      ⟨(some 19), (.mov (.t 18)), none, []⟩,
      ⟨(some 20), (.mov (.t 5)), (some (19, true)), []⟩,
      ⟨(some 21), (.bin .eql (.t 20) (.c (.s []))), (some (19, true)), []⟩,
      ⟨(some 22), (.pick (.t 19) (.t 21) (.c (.b false))), none, []⟩,
      ⟨none, (.store 3 (.t 2) (.t 17)), none, []⟩,
      ⟨(some 3), (.mov (.t 22)), none, []⟩] [4, 5, 6, 17, 18, 19, 20, 21, 22])
    .ret)))),
    23, 1, [.c 2 (some 3), .t 3], 2⟩
theorem tr61 : trFunc Tryd.prog [([], [3]), ([], [7, 8]), ([], [0, 9, 10]), ([], [9]), ([], [0, 12, 13, 11, 14, 15, 16]), ([], [4, 5, 6, 17, 18, 19, 20, 21, 22])] 1 Tryd.f61 = some (plain1 I61) := by kernel_rfl
theorem ck61 : ckC 2 I61.body = true := by kernel_rfl

/-- 'encore/value.fits'. -/
def L62a : ICode :=
  (.seq (.region [⟨(some 22), (.bin .lss (.t 21) (.t 20)), none, []⟩] [])
    (.seq (.cond (.t 22)
      (.region [] [22])
      (.exit 0))
    (.seq (.block 1
      (.seq (.region [⟨(some 23), (.iaddr 1 (.t 19) (.t 21)), none, []⟩,
        ⟨(some 24), (.load none (.t 23)), none, []⟩,
        ⟨(some 9), (.mov (.t 24)), none, []⟩] [23, 24])
      (.region [⟨(some 25), (.mov (.t 2)), none, []⟩,
        ⟨(some 26), (.mov (.t 9)), none, []⟩,
        ⟨(some 27), (.lenk 1 (.t 26)), none, []⟩,
        ⟨(some 28), (.bin .sub (.t 25) (.t 27)), none, []⟩,
        ⟨(some 2), (.mov (.t 28)), none, []⟩] [9, 25, 26, 27, 28])))
    (.region [⟨(some 29), (.bin .add (.t 21) (.c (.i .i64 (1)))), none, []⟩,
      ⟨(some 21), (.mov (.t 29)), none, []⟩] [29]))))
def L62b : ICode :=
  (.seq (.region [⟨(some 45), (.bin .lss (.t 44) (.t 43)), none, []⟩] [])
    (.seq (.cond (.t 45)
      (.region [] [45])
      (.exit 2))
    (.seq (.block 3
      (.seq (.region [⟨(some 46), (.mov (.t 44)), none, []⟩,
        ⟨(some 11), (.mov (.t 46)), none, []⟩] [46])
      (.seq (.region [⟨(some 48), (.off (.t 3) 3), none, []⟩,
        ⟨(some 49), (.load none (.t 48)), none, []⟩,
        ⟨(some 50), (.mov (.t 11)), none, []⟩,
        ⟨(some 51), (.iaddr 5 (.t 49) (.t 50)), none, []⟩,
        ⟨(some 52), (.load (some 5) (.t 51)), none, []⟩,
        ⟨(some 53), (.mov (.t 1)), none, []⟩,
        ⟨(some 54), (.bin .add (.t 53) (.c (.i .i64 (1)))), none, []⟩,
        ⟨(some 55), (.mov (.t 2)), none, []⟩,
        ⟨(some 56), (.call 62 [(.t 52), (.t 54), (.t 55)]), none, []⟩,
        ⟨(some 47), (.mov (.t 56)), none, []⟩,
        ⟨(some 57), (.ext (.t 47) 0), none, []⟩,
        ⟨(some 58), (.ext (.t 47) 1), none, []⟩,
        ⟨(some 2), (.mov (.t 57)), none, []⟩,
        ⟨(some 10), (.mov (.t 58)), none, []⟩] [11, 48, 49, 50, 51, 52, 53, 54, 55, 56, 47, 57, 58])
      (.seq (.region [⟨(some 59), (.mov (.t 10)), none, []⟩,
        ⟨(some 60), (.un .not (.t 59)), none, []⟩] [10, 59])
      (.cond (.t 60)
        (.seq (.region [⟨(some 6), (.mov (.c (.i .i64 (0)))), none, []⟩,
          ⟨(some 7), (.mov (.c (.b false))), none, []⟩] [1, 2, 3, 43, 44, 60])
        .ret)
        (.region [] [60]))))))
    (.region [⟨(some 61), (.bin .add (.t 44) (.c (.i .i64 (1)))), none, []⟩,
      ⟨(some 44), (.mov (.t 61)), none, []⟩] [61]))))
def I62 : IFunc :=
  ⟨(.seq (.region [⟨(some 3), (.box (.t 0)), none, []⟩,
      ⟨(some 6), (.mov (.c (.i .i64 (0)))), none, []⟩,
      ⟨(some 7), (.mov (.c (.b false))), none, []⟩] [0, 6, 7])
    (.seq (.region [⟨(some 12), (.mov (.t 2)), none, []⟩,
      ⟨(some 13), (.off (.t 3) 2), none, []⟩,
      ⟨(some 14), (.load none (.t 13)), none, []⟩,
      ⟨(some 15), (.lenk 1 (.t 14)), none, []⟩,
      ⟨(some 16), (.bin .add (.c (.i .i64 (1))) (.t 15)), none, []⟩,
      ⟨(some 17), (.bin .sub (.t 12) (.t 16)), none, []⟩,
      ⟨(some 2), (.mov (.t 17)), none, []⟩] [12, 13, 14, 15, 16, 17])
    (.seq (.seq (.region [⟨(some 18), (.off (.t 3) 4), none, []⟩,
      ⟨(some 19), (.load none (.t 18)), none, []⟩,
      ⟨(some 20), (.lenk 0 (.t 19)), none, []⟩,
      ⟨(some 21), (.mov (.c (.i .i64 (0)))), none, []⟩] [18])
    (.block 0
      (.loop L62a)))
    (.seq (.seq (.region [⟨(some 30), (.mov (.t 1)), none, []⟩,
      ⟨(some 31), (.bin .geq (.t 30) (.c (.i .i64 (8)))), none, []⟩,
      ⟨(some 32), (.mov (.t 31)), none, []⟩,
      ⟨(some 33), (.mov (.t 2)), (some (32, false)), []⟩,
      ⟨(some 34), (.bin .lss (.t 33) (.c (.i .i64 (0)))), (some (32, false)), []⟩,
      ⟨(some 35), (.pick (.t 32) (.c (.b true)) (.t 34)), none, []⟩,
      ⟨(some 36), (.mov (.t 35)), none, []⟩,
      ⟨(some 37), (.load (some 5) (.t 3)), (some (36, false)), []⟩,
      ⟨(some 38), (.call 66 [(.t 37)]), (some (36, false)), []⟩,
      ⟨(some 39), (.un .not (.t 38)), (some (36, false)), []⟩,
      ⟨(some 40), (.pick (.t 36) (.c (.b true)) (.t 39)), none, []⟩] [19, 20, 21, 22, 30, 31, 32, 33, 34, 35, 36, 37, 38, 39])
    (.cond (.t 40)
      (.seq (.region [⟨(some 6), (.mov (.c (.i .i64 (0)))), none, []⟩,
        ⟨(some 7), (.mov (.c (.b false))), none, []⟩] [1, 2, 3, 40])
      .ret)
      (.region [] [40])))
    (.seq (.region [⟨(some 10), (.mov (.c (.b true))), none, []⟩] [10])
    (.seq (.seq (.region [⟨(some 41), (.off (.t 3) 3), none, []⟩,
      ⟨(some 42), (.load none (.t 41)), none, []⟩,
      ⟨(some 43), (.lenk 0 (.t 42)), none, []⟩,
      ⟨(some 44), (.mov (.c (.i .i64 (0)))), none, []⟩] [41, 42])
    (.block 2
      (.loop L62b)))
    (.seq (.region [⟨(some 62), (.mov (.t 2)), none, []⟩,
      ⟨(some 6), (.mov (.t 62)), none, []⟩,
      ⟨(some 7), (.mov (.c (.b true))), none, []⟩] [1, 2, 3, 43, 44, 45, 62])
    .ret))))))),
    63, 3, [.t 6, .t 7], 2⟩
theorem tr62 : trFunc Tryd.prog [([], [0, 6, 7]), ([], [12, 13, 14, 15, 16, 17]), ([], [18]), ([], []), ([], [22]), ([], [23, 24]), ([], [9, 25, 26, 27, 28]), ([], [29]), ([], [19, 20, 21, 22, 30, 31, 32, 33, 34, 35, 36, 37, 38, 39]), ([], [1, 2, 3, 40]), ([], [40]), ([], [10]), ([], [41, 42]), ([], []), ([], [45]), ([], [46]), ([], [11, 48, 49, 50, 51, 52, 53, 54, 55, 56, 47, 57, 58]), ([], [10, 59]), ([], [1, 2, 3, 43, 44, 60]), ([], [60]), ([], [61]), ([], [1, 2, 3, 43, 44, 45, 62])] 1 Tryd.f62 = some (plain1 I62) := by kernel_rfl
theorem ck62 : ckC 2 I62.body = true := by kernel_rfl

/-- 'encore/encoreref07.number'. -/
def I63 : IFunc :=
  ⟨(.seq (.region [⟨(some 4), (.mov (.c (.i .i64 (0)))), none, []⟩] [4])
    (.seq (.seq (.region [⟨(some 5), (.mov (.t 0)), none, []⟩,
      ⟨(some 6), (.mov (.t 1)), none, []⟩,
      ⟨(some 7), (.bin .lss (.t 5) (.t 6)), none, []⟩] [5, 6])
    (.cond (.t 7)
      (.seq (.region [⟨(some 4), (.mov (.c (.i .i64 (-1)))), none, []⟩] [0, 1, 7])
      .ret)
      (.region [] [7])))
    (.seq (.seq (.region [⟨(some 8), (.mov (.t 0)), none, []⟩,
      ⟨(some 9), (.mov (.t 1)), none, []⟩,
      ⟨(some 10), (.bin .gtr (.t 8) (.t 9)), none, []⟩] [0, 1, 8, 9])
    (.cond (.t 10)
      (.seq (.region [⟨(some 4), (.mov (.c (.i .i64 (1)))), none, []⟩] [10])
      .ret)
      (.region [] [10])))
    (.seq (.region [⟨(some 4), (.mov (.c (.i .i64 (0)))), none, []⟩] [])
    .ret)))),
    11, 2, [.t 4], 2⟩
theorem tr63 : trFunc Tryd.prog [([], [4]), ([], [5, 6]), ([], [0, 1, 7]), ([], [7]), ([], [0, 1, 8, 9]), ([], [10]), ([], [10]), ([], [])] 1 Tryd.f63 = some (plain1 I63) := by kernel_rfl
theorem ck63 : ckC 2 I63.body = true := by kernel_rfl

/-- 'encore/encoreref07.text'. -/
def I64 : IFunc :=
  ⟨(.seq (.region [⟨(some 4), (.mov (.c (.i .i64 (0)))), none, []⟩] [4])
    (.seq (.seq (.region [⟨(some 5), (.mov (.t 0)), none, []⟩,
      ⟨(some 6), (.mov (.t 1)), none, []⟩,
      ⟨(some 7), (.bin .lss (.t 5) (.t 6)), none, []⟩] [5, 6])
    (.cond (.t 7)
      (.seq (.region [⟨(some 4), (.mov (.c (.i .i64 (-1)))), none, []⟩] [0, 1, 7])
      .ret)
      (.region [] [7])))
    (.seq (.seq (.region [⟨(some 8), (.mov (.t 0)), none, []⟩,
      ⟨(some 9), (.mov (.t 1)), none, []⟩,
      ⟨(some 10), (.bin .gtr (.t 8) (.t 9)), none, []⟩] [0, 1, 8, 9])
    (.cond (.t 10)
      (.seq (.region [⟨(some 4), (.mov (.c (.i .i64 (1)))), none, []⟩] [10])
      .ret)
      (.region [] [10])))
    (.seq (.region [⟨(some 4), (.mov (.c (.i .i64 (0)))), none, []⟩] [])
    .ret)))),
    11, 2, [.t 4], 2⟩
theorem tr64 : trFunc Tryd.prog [([], [4]), ([], [5, 6]), ([], [0, 1, 7]), ([], [7]), ([], [0, 1, 8, 9]), ([], [10]), ([], [10]), ([], [])] 1 Tryd.f64 = some (plain1 I64) := by kernel_rfl
theorem ck64 : ckC 2 I64.body = true := by kernel_rfl

/-- 'encore/value.read'. -/
def L65a : ICode :=
  (.seq (.seq (.region [⟨(some 49), (.mov (.t 9)), none, []⟩,
      ⟨(some 50), (.mov (.t 0)), none, []⟩,
      ⟨(some 51), (.lenk 1 (.t 50)), none, []⟩,
      ⟨(some 52), (.bin .lss (.t 49) (.t 51)), none, []⟩,
      ⟨(some 53), (.mov (.t 52)), none, []⟩,
      ⟨(some 54), (.mov (.t 0)), (some (53, true)), []⟩,
      ⟨(some 55), (.mov (.t 9)), (some (53, true)), []⟩,
      ⟨(some 56), (.idxS (.t 54) (.t 55)), (some (53, true)), []⟩,
      ⟨(some 57), (.bin .geq (.t 56) (.c (.i .u8 (97)))), (some (53, true)), []⟩,
      ⟨(some 58), (.pick (.t 53) (.t 57) (.c (.b false))), none, []⟩,
      ⟨(some 59), (.mov (.t 58)), none, []⟩,
      ⟨(some 60), (.mov (.t 0)), (some (59, true)), []⟩,
      ⟨(some 61), (.mov (.t 9)), (some (59, true)), []⟩,
      ⟨(some 62), (.idxS (.t 60) (.t 61)), (some (59, true)), []⟩,
      ⟨(some 63), (.bin .leq (.t 62) (.c (.i .u8 (122)))), (some (59, true)), []⟩,
      ⟨(some 64), (.pick (.t 59) (.t 63) (.c (.b false))), none, []⟩] [49, 50, 51, 52, 53, 54, 55, 56, 57, 58, 59, 60, 61, 62, 63])
    (.cond (.t 64)
      (.region [] [64])
      (.exit 1)))
    (.block 2
      (.region [⟨(some 65), (.mov (.t 9)), none, []⟩,
        ⟨(some 66), (.bin .add (.t 65) (.c (.i .i64 (1)))), none, []⟩,
        ⟨(some 9), (.mov (.t 66)), none, []⟩] [65, 66])))
def I65 : IFunc :=
  ⟨(.seq (.region [⟨(some 2), (.alloc [(.i .i64 (0)), .ns, .ns]), none, []⟩,
      ⟨(some 3), (.mov (.c (.s []))), none, []⟩,
      ⟨(some 4), (.mov (.c (.b false))), none, []⟩] [3, 4])
    (.seq (.block 0
      (.seq (.region [⟨(some 12), (.mov (.t 0)), none, []⟩,
        ⟨(some 13), (.call 67 [(.t 12), (.c (.s [91]))]), none, []⟩,
        ⟨(some 11), (.mov (.t 13)), none, []⟩] [12, 13])
      (.cond (.t 11)
        (.seq (.region [⟨(some 15), (.mov (.t 0)), none, []⟩,
          ⟨(some 16), (.slS (.t 15) (some (.c (.i .i64 (1)))) none), none, []⟩,
          ⟨(some 17), (.call 65 [(.t 16)]), none, []⟩,
          ⟨(some 14), (.mov (.t 17)), none, []⟩,
          ⟨(some 18), (.ext (.t 14) 0), none, []⟩,
          ⟨(some 19), (.ext (.t 14) 1), none, []⟩,
          ⟨(some 20), (.ext (.t 14) 2), none, []⟩,
          ⟨(some 5), (.alloc [(.i .i64 (0)), .ns, .ns]), none, []⟩,
          ⟨none, (.store 3 (.t 5) (.t 18)), none, []⟩,
          ⟨(some 6), (.mov (.t 19)), none, []⟩,
          ⟨(some 7), (.mov (.t 20)), none, []⟩] [0, 11, 15, 16, 17, 14, 18, 19, 20])
        (.seq (.region [⟨(some 22), (.mov (.t 6)), none, []⟩,
          ⟨(some 23), (.call 68 [(.t 22), (.c (.s [93]))]), none, []⟩,
          ⟨(some 21), (.mov (.t 23)), none, []⟩,
          ⟨(some 24), (.ext (.t 21) 0), none, []⟩,
          ⟨(some 25), (.ext (.t 21) 1), none, []⟩,
          ⟨(some 6), (.mov (.t 24)), none, []⟩,
          ⟨(some 8), (.mov (.t 25)), none, []⟩] [22, 23, 21, 24, 25])
        (.seq (.region [⟨(some 26), (.load (some 3) (.t 5)), none, []⟩,
          ⟨(some 27), (.bsl 3 1 [(.i .i64 (0)), .ns, .ns] [(0, 3, (.t 26))]), none, []⟩,
          ⟨(some 28), (.build [(.i .i64 (0)), .ns, .ns] [(0, 1, (.c (.i .i64 (4)))), (2, 1, (.t 27))]), none, []⟩,
          ⟨(some 29), (.mov (.t 6)), none, []⟩,
          ⟨(some 30), (.mov (.t 7)), none, []⟩,
          ⟨(some 31), (.mov (.t 30)), none, []⟩,
          ⟨(some 32), (.mov (.t 8)), (some (31, true)), []⟩,
          ⟨(some 33), (.pick (.t 31) (.t 32) (.c (.b false))), none, []⟩,
          ⟨none, (.store 3 (.t 2) (.t 28)), none, []⟩,
          ⟨(some 3), (.mov (.t 29)), none, []⟩,
          ⟨(some 4), (.mov (.t 33)), none, []⟩] [5, 6, 7, 8, 26, 27, 28, 29, 30, 31, 32, 33])
        .ret)))
        (.seq (.region [⟨(some 35), (.mov (.t 0)), none, []⟩,
          ⟨(some 36), (.call 67 [(.t 35), (.c (.s [123, 125]))]), none, []⟩,
          ⟨(some 34), (.mov (.t 36)), none, []⟩] [11, 35, 36])
        (.cond (.t 34)
          (.seq (.region [⟨(some 37), (.build [(.i .i64 (0)), .ns, .ns] [(0, 1, (.c (.i .i64 (5))))]), none, []⟩,
            ⟨(some 38), (.mov (.t 0)), none, []⟩,
            ⟨(some 39), (.slS (.t 38) (some (.c (.i .i64 (2)))) none), none, []⟩,
            ⟨none, (.store 3 (.t 2) (.t 37)), none, []⟩,
            ⟨(some 3), (.mov (.t 39)), none, []⟩,
            ⟨(some 4), (.mov (.c (.b true))), none, []⟩] [0, 34, 37, 38, 39])
          .ret)
          (.seq (.region [⟨(some 41), (.mov (.t 0)), none, []⟩,
            ⟨(some 42), (.call 67 [(.t 41), (.c (.s [123]))]), none, []⟩,
            ⟨(some 40), (.mov (.t 42)), none, []⟩] [34, 41, 42])
          (.cond (.t 40)
            (.seq (.region [⟨(some 43), (.mov (.t 0)), none, []⟩,
              ⟨(some 44), (.slS (.t 43) (some (.c (.i .i64 (1)))) none), none, []⟩,
              ⟨(some 45), (.call 69 [(.t 44)]), none, []⟩,
              ⟨(some 46), (.ext (.t 45) 0), none, []⟩,
              ⟨(some 47), (.ext (.t 45) 1), none, []⟩,
              ⟨(some 48), (.ext (.t 45) 2), none, []⟩,
              ⟨none, (.store 3 (.t 2) (.t 46)), none, []⟩,
              ⟨(some 3), (.mov (.t 47)), none, []⟩,
              ⟨(some 4), (.mov (.t 48)), none, []⟩] [0, 40, 43, 44, 45, 46, 47, 48])
            .ret)
            (.region [] [40]))))))))
    (.seq (.region [⟨(some 9), (.mov (.c (.i .i64 (0)))), none, []⟩] [])
    (.seq (.block 1
      (.loop L65a))
    (.seq (.region [⟨(some 67), (.mov (.t 0)), none, []⟩,
      ⟨(some 68), (.mov (.t 9)), none, []⟩,
      ⟨(some 69), (.slS (.t 67) none (some (.t 68))), none, []⟩,
      ⟨(some 70), (.call 70 [(.t 69)]), none, []⟩,
      ⟨(some 10), (.mov (.t 70)), none, []⟩] [64, 67, 68, 69, 70])
    (.seq (.region [⟨(some 71), (.mov (.t 10)), none, []⟩,
      ⟨(some 72), (.build [(.i .i64 (0)), .ns, .ns] [(0, 1, (.t 71))]), none, []⟩,
      ⟨(some 73), (.mov (.t 0)), none, []⟩,
      ⟨(some 74), (.mov (.t 9)), none, []⟩,
      ⟨(some 75), (.slS (.t 73) (some (.t 74)) none), none, []⟩,
      ⟨(some 76), (.mov (.t 10)), none, []⟩,
      ⟨(some 77), (.bin .geq (.t 76) (.c (.i .i64 (0)))), none, []⟩,
      ⟨none, (.store 3 (.t 2) (.t 72)), none, []⟩,
      ⟨(some 3), (.mov (.t 75)), none, []⟩,
      ⟨(some 4), (.mov (.t 77)), none, []⟩] [0, 9, 10, 71, 72, 73, 74, 75, 76, 77])
    .ret)))))),
    78, 1, [.c 2 (some 3), .t 3, .t 4], 2⟩
theorem tr65 : trFunc Tryd.prog [([], [3, 4]), ([], [12, 13]), ([], [0, 11, 15, 16, 17, 14, 18, 19, 20]), ([], [22, 23, 21, 24, 25]), ([], [5, 6, 7, 8, 26, 27, 28, 29, 30, 31, 32, 33]), ([], [11, 35, 36]), ([0, 1, 2, 3, 4, 5], [0, 34, 37, 38, 39]), ([], [34, 41, 42]), ([], [0, 40, 43, 44, 45, 46, 47, 48]), ([], [40]), ([], []), ([], [49, 50, 51, 52, 53, 54, 55, 56, 57, 58, 59, 60, 61, 62, 63]), ([], [64]), ([], [65, 66]), ([], [64, 67, 68, 69, 70]), ([0, 1, 2, 3, 4, 5, 6, 7, 8, 9], [0, 9, 10, 71, 72, 73, 74, 75, 76, 77])] 1 Tryd.f65 = some (plain1 I65) := by kernel_rfl
theorem ck65 : ckC 2 I65.body = true := by kernel_rfl

/-- 'encore/value.own'. -/
def I66 : IFunc :=
  ⟨(.seq (.region [⟨(some 1), (.box (.t 0)), none, []⟩,
      ⟨(some 2), (.mov (.c (.b false))), none, []⟩] [0, 2])
    (.seq (.seq (.region [⟨(some 3), (.off (.t 1) 0), none, []⟩,
      ⟨(some 4), (.load none (.t 3)), none, []⟩] [3])
    (.block 0
      (.seq (.region [⟨(some 6), (.bin .eql (.t 4) (.c (.i .i64 (0)))), none, []⟩,
        ⟨(some 5), (.mov (.t 6)), none, []⟩] [6])
      (.cond (.t 5)
        (.seq (.region [⟨(some 7), (.off (.t 1) 1), none, []⟩,
          ⟨(some 8), (.load none (.t 7)), none, []⟩,
          ⟨(some 9), (.bin .eql (.t 8) (.c (.i .i64 (0)))), none, []⟩,
          ⟨(some 10), (.mov (.t 9)), none, []⟩,
          ⟨(some 11), (.build [(.b false), (.b false), (.b false)] []), (some (10, true)), []⟩,
          ⟨(some 12), (.load (some 5) (.t 1)), (some (10, true)), []⟩,
          ⟨(some 13), (.call 71 [(.t 11), (.t 12)]), (some (10, true)), []⟩,
          ⟨(some 14), (.pick (.t 10) (.t 13) (.c (.b false))), none, []⟩,
          ⟨(some 2), (.mov (.t 14)), none, []⟩] [1, 4, 5, 7, 8, 9, 10, 11, 12, 13, 14])
        .ret)
        (.seq (.region [⟨(some 16), (.bin .eql (.t 4) (.c (.i .i64 (1)))), none, []⟩,
          ⟨(some 15), (.mov (.t 16)), none, []⟩] [5, 16])
        (.cond (.t 15)
          (.seq (.region [⟨(some 17), (.build [(.b false), (.b false), (.b false)] []), none, []⟩,
            ⟨(some 18), (.load (some 5) (.t 1)), none, []⟩,
            ⟨(some 19), (.call 71 [(.t 17), (.t 18)]), none, []⟩,
            ⟨(some 2), (.mov (.t 19)), none, []⟩] [1, 4, 15, 17, 18, 19])
          .ret)
          (.seq (.region [⟨(some 21), (.bin .eql (.t 4) (.c (.i .i64 (2)))), none, []⟩,
            ⟨(some 20), (.mov (.t 21)), none, []⟩] [15, 21])
          (.cond (.t 20)
            (.seq (.region [⟨(some 22), (.off (.t 1) 1), none, []⟩,
              ⟨(some 23), (.load none (.t 22)), none, []⟩,
              ⟨(some 24), (.bin .andNot (.t 23) (.c (.i .i64 (1)))), none, []⟩,
              ⟨(some 25), (.bin .eql (.t 24) (.c (.i .i64 (0)))), none, []⟩,
              ⟨(some 26), (.mov (.t 25)), none, []⟩,
              ⟨(some 27), (.build [(.b false), (.b false), (.b false)] []), (some (26, true)), []⟩,
              ⟨(some 28), (.load (some 5) (.t 1)), (some (26, true)), []⟩,
              ⟨(some 29), (.call 71 [(.t 27), (.t 28)]), (some (26, true)), []⟩,
              ⟨(some 30), (.pick (.t 26) (.t 29) (.c (.b false))), none, []⟩,
              ⟨(some 2), (.mov (.t 30)), none, []⟩] [1, 4, 20, 22, 23, 24, 25, 26, 27, 28, 29, 30])
            .ret)
            (.seq (.region [⟨(some 32), (.bin .eql (.t 4) (.c (.i .i64 (6)))), none, []⟩,
              ⟨(some 31), (.mov (.t 32)), none, []⟩] [20, 32])
            (.cond (.t 31)
              (.seq (.region [⟨(some 33), (.off (.t 1) 1), none, []⟩,
                ⟨(some 34), (.load none (.t 33)), none, []⟩,
                ⟨(some 35), (.bin .geq (.t 34) (.c (.i .i64 (1)))), none, []⟩,
                ⟨(some 36), (.mov (.t 35)), none, []⟩,
                ⟨(some 37), (.off (.t 1) 1), (some (36, true)), []⟩,
                ⟨(some 38), (.load none (.t 37)), (some (36, true)), []⟩,
                ⟨(some 39), (.bin .leq (.t 38) (.c (.i .i64 (64)))), (some (36, true)), []⟩,
                ⟨(some 40), (.pick (.t 36) (.t 39) (.c (.b false))), none, []⟩,
                ⟨(some 41), (.mov (.t 40)), none, []⟩,
                ⟨(some 42), (.build [(.b false), (.b false), (.b false)] []), (some (41, true)), []⟩,
                ⟨(some 43), (.load (some 5) (.t 1)), (some (41, true)), []⟩,
                ⟨(some 44), (.call 71 [(.t 42), (.t 43)]), (some (41, true)), []⟩,
                ⟨(some 45), (.pick (.t 41) (.t 44) (.c (.b false))), none, []⟩,
                ⟨(some 2), (.mov (.t 45)), none, []⟩] [1, 4, 31, 33, 34, 35, 36, 37, 38, 39, 40, 41, 42, 43, 44, 45])
              .ret)
              (.seq (.region [⟨(some 47), (.bin .eql (.t 4) (.c (.i .i64 (3)))), none, []⟩,
                ⟨(some 46), (.mov (.t 47)), none, []⟩] [31, 47])
              (.cond (.t 46)
                (.seq (.region [⟨(some 48), (.off (.t 1) 1), none, []⟩,
                  ⟨(some 49), (.load none (.t 48)), none, []⟩,
                  ⟨(some 50), (.bin .eql (.t 49) (.c (.i .i64 (0)))), none, []⟩,
                  ⟨(some 51), (.mov (.t 50)), none, []⟩,
                  ⟨(some 52), (.off (.t 1) 2), (some (51, true)), []⟩,
                  ⟨(some 53), (.load none (.t 52)), (some (51, true)), []⟩,
                  ⟨(some 54), (.lenk 1 (.t 53)), (some (51, true)), []⟩,
                  ⟨(some 55), (.bin .leq (.t 54) (.c (.i .i64 (64)))), (some (51, true)), []⟩,
                  ⟨(some 56), (.pick (.t 51) (.t 55) (.c (.b false))), none, []⟩,
                  ⟨(some 57), (.mov (.t 56)), none, []⟩,
                  ⟨(some 58), (.build [(.b false), (.b false), (.b false)] [(0, 1, (.c (.b true)))]), (some (57, true)), []⟩,
                  ⟨(some 59), (.load (some 5) (.t 1)), (some (57, true)), []⟩,
                  ⟨(some 60), (.call 71 [(.t 58), (.t 59)]), (some (57, true)), []⟩,
                  ⟨(some 61), (.pick (.t 57) (.t 60) (.c (.b false))), none, []⟩,
                  ⟨(some 2), (.mov (.t 61)), none, []⟩] [1, 4, 46, 48, 49, 50, 51, 52, 53, 54, 55, 56, 57, 58, 59, 60, 61])
                .ret)
                (.seq (.region [⟨(some 63), (.bin .eql (.t 4) (.c (.i .i64 (4)))), none, []⟩,
                  ⟨(some 62), (.mov (.t 63)), none, []⟩] [46, 63])
                (.cond (.t 62)
                  (.seq (.region [⟨(some 64), (.off (.t 1) 1), none, []⟩,
                    ⟨(some 65), (.load none (.t 64)), none, []⟩,
                    ⟨(some 66), (.bin .eql (.t 65) (.c (.i .i64 (0)))), none, []⟩,
                    ⟨(some 67), (.mov (.t 66)), none, []⟩,
                    ⟨(some 68), (.off (.t 1) 3), (some (67, true)), []⟩,
                    ⟨(some 69), (.load none (.t 68)), (some (67, true)), []⟩,
                    ⟨(some 70), (.lenk 0 (.t 69)), (some (67, true)), []⟩,
                    ⟨(some 71), (.bin .leq (.t 70) (.c (.i .i64 (32)))), (some (67, true)), []⟩,
                    ⟨(some 72), (.pick (.t 67) (.t 71) (.c (.b false))), none, []⟩,
                    ⟨(some 73), (.mov (.t 72)), none, []⟩,
                    ⟨(some 74), (.build [(.b false), (.b false), (.b false)] [(1, 1, (.c (.b true)))]), (some (73, true)), []⟩,
                    ⟨(some 75), (.load (some 5) (.t 1)), (some (73, true)), []⟩,
                    ⟨(some 76), (.call 71 [(.t 74), (.t 75)]), (some (73, true)), []⟩,
                    ⟨(some 77), (.pick (.t 73) (.t 76) (.c (.b false))), none, []⟩,
                    ⟨(some 2), (.mov (.t 77)), none, []⟩] [1, 4, 62, 64, 65, 66, 67, 68, 69, 70, 71, 72, 73, 74, 75, 76, 77])
                  .ret)
                  (.seq (.region [⟨(some 79), (.bin .eql (.t 4) (.c (.i .i64 (5)))), none, []⟩,
                    ⟨(some 78), (.mov (.t 79)), none, []⟩] [4, 62, 79])
                  (.cond (.t 78)
                    (.seq (.region [⟨(some 80), (.off (.t 1) 1), none, []⟩,
                      ⟨(some 81), (.load none (.t 80)), none, []⟩,
                      ⟨(some 82), (.bin .eql (.t 81) (.c (.i .i64 (0)))), none, []⟩,
                      ⟨(some 83), (.mov (.t 82)), none, []⟩,
                      ⟨(some 84), (.off (.t 1) 3), (some (83, true)), []⟩,
                      ⟨(some 85), (.load none (.t 84)), (some (83, true)), []⟩,
                      ⟨(some 86), (.lenk 0 (.t 85)), (some (83, true)), []⟩,
                      ⟨(some 87), (.off (.t 1) 4), (some (83, true)), []⟩,
                      ⟨(some 88), (.load none (.t 87)), (some (83, true)), []⟩,
                      ⟨(some 89), (.lenk 0 (.t 88)), (some (83, true)), []⟩,
                      ⟨(some 90), (.bin .eql (.t 86) (.t 89)), (some (83, true)), []⟩,
                      ⟨(some 91), (.pick (.t 83) (.t 90) (.c (.b false))), none, []⟩,
                      ⟨(some 92), (.mov (.t 91)), none, []⟩,
                      ⟨(some 93), (.off (.t 1) 3), (some (92, true)), []⟩,
                      ⟨(some 94), (.load none (.t 93)), (some (92, true)), []⟩,
                      ⟨(some 95), (.lenk 0 (.t 94)), (some (92, true)), []⟩,
                      ⟨(some 96), (.bin .leq (.t 95) (.c (.i .i64 (8)))), (some (92, true)), []⟩,
                      ⟨(some 97), (.pick (.t 92) (.t 96) (.c (.b false))), none, []⟩,
                      ⟨(some 98), (.mov (.t 97)), none, []⟩,
                      ⟨(some 99), (.build [(.b false), (.b false), (.b false)] [(1, 1, (.c (.b true))), (2, 1, (.c (.b true)))]), (some (98, true)), []⟩,
                      ⟨(some 100), (.load (some 5) (.t 1)), (some (98, true)), []⟩,
                      ⟨(some 101), (.call 71 [(.t 99), (.t 100)]), (some (98, true)), []⟩,
                      ⟨(some 102), (.pick (.t 98) (.t 101) (.c (.b false))), none, []⟩,
                      ⟨(some 103), (.mov (.t 102)), none, []⟩,
                      ⟨(some 104), (.off (.t 1) 4), (some (103, true)), []⟩,
                      ⟨(some 105), (.load none (.t 104)), (some (103, true)), []⟩,
                      ⟨(some 106), (.call 72 [(.t 105)]), (some (103, true)), []⟩,
                      ⟨(some 107), (.pick (.t 103) (.t 106) (.c (.b false))), none, []⟩,
                      ⟨(some 2), (.mov (.t 107)), none, []⟩] [1, 78, 80, 81, 82, 83, 84, 85, 86, 87, 88, 89, 90, 91, 92, 93, 94, 95, 96, 97, 98, 99, 100, 101, 102, 103, 104, 105, 106, 107])
                    .ret)
                    (.region [] [1, 78])))))))))))))))))
    (.seq (.region [⟨(some 2), (.mov (.c (.b false))), none, []⟩] [])
    .ret))),
    108, 1, [.t 2], 2⟩
theorem tr66 : trFunc Tryd.prog [([], [0, 2]), ([], [3]), ([], [6]), ([], [1, 4, 5, 7, 8, 9, 10, 11, 12, 13, 14]), ([], [5, 16]), ([], [1, 4, 15, 17, 18, 19]), ([], [15, 21]), ([], [1, 4, 20, 22, 23, 24, 25, 26, 27, 28, 29, 30]), ([], [20, 32]), ([], [1, 4, 31, 33, 34, 35, 36, 37, 38, 39, 40, 41, 42, 43, 44, 45]), ([], [31, 47]), ([], [1, 4, 46, 48, 49, 50, 51, 52, 53, 54, 55, 56, 57, 58, 59, 60, 61]), ([], [46, 63]), ([], [1, 4, 62, 64, 65, 66, 67, 68, 69, 70, 71, 72, 73, 74, 75, 76, 77]), ([], [4, 62, 79]), ([], [1, 78, 80, 81, 82, 83, 84, 85, 86, 87, 88, 89, 90, 91, 92, 93, 94, 95, 96, 97, 98, 99, 100, 101, 102, 103, 104, 105, 106, 107]), ([], [1, 78]), ([], [])] 1 Tryd.f66 = some (plain1 I66) := by kernel_rfl
theorem ck66 : ckC 2 I66.body = true := by kernel_rfl

/-- 'strings.HasPrefix'. -/
def I67 : IFunc :=
  ⟨(.seq (.region [⟨(some 4), (.mov (.c (.b false))), none, []⟩] [4])
    (.seq (.region [⟨(some 5), (.mov (.t 0)), none, []⟩,
      ⟨(some 6), (.mov (.t 1)), none, []⟩,
      ⟨(some 7), (.call 73 [(.t 5), (.t 6)]), none, []⟩,
      ⟨(some 4), (.mov (.t 7)), none, []⟩] [0, 1, 5, 6, 7])
    .ret)),
    8, 2, [.t 4], 2⟩
theorem tr67 : trFunc Tryd.prog [([], [4]), ([], [0, 1, 5, 6, 7])] 1 Tryd.f67 = some (plain1 I67) := by kernel_rfl
theorem ck67 : ckC 2 I67.body = true := by kernel_rfl

/-- 'strings.CutPrefix'. -/
def I68 : IFunc :=
  ⟨(.seq (.region [⟨(some 4), (.mov (.c (.s []))), none, []⟩,
      ⟨(some 5), (.mov (.c (.b false))), none, []⟩] [4, 5])
    (.seq (.region [⟨(some 6), (.mov (.t 0)), none, []⟩,
      ⟨(some 7), (.mov (.t 1)), none, []⟩,
      ⟨(some 8), (.call 74 [(.t 6), (.t 7)]), none, []⟩,
      ⟨(some 9), (.ext (.t 8) 0), none, []⟩,
      ⟨(some 10), (.ext (.t 8) 1), none, []⟩,
      ⟨(some 4), (.mov (.t 9)), none, []⟩,
      ⟨(some 5), (.mov (.t 10)), none, []⟩] [0, 1, 6, 7, 8, 9, 10])
    .ret)),
    11, 2, [.t 4, .t 5], 2⟩
theorem tr68 : trFunc Tryd.prog [([], [4, 5]), ([], [0, 1, 6, 7, 8, 9, 10])] 1 Tryd.f68 = some (plain1 I68) := by kernel_rfl
theorem ck68 : ckC 2 I68.body = true := by kernel_rfl

/-- 'encore/value.readRec'. -/
def L69a : ICode :=
  (.block 1
      (.seq (.region [⟨(some 13), (.mov (.t 0)), none, []⟩,
        ⟨(some 14), (.call 75 [(.t 13), (.c (.s [58]))]), none, []⟩,
        ⟨(some 12), (.mov (.t 14)), none, []⟩,
        ⟨(some 15), (.ext (.t 12) 0), none, []⟩,
        ⟨(some 16), (.ext (.t 12) 1), none, []⟩,
        ⟨(some 17), (.ext (.t 12) 2), none, []⟩,
        ⟨(some 5), (.mov (.t 15)), none, []⟩,
        ⟨(some 6), (.mov (.t 16)), none, []⟩,
        ⟨(some 7), (.mov (.t 17)), none, []⟩] [0, 58, 13, 14, 12, 15, 16, 17])
      (.seq (.region [⟨(some 19), (.mov (.t 6)), none, []⟩,
        ⟨(some 20), (.call 65 [(.t 19)]), none, []⟩,
        ⟨(some 18), (.mov (.t 20)), none, []⟩,
        ⟨(some 21), (.ext (.t 18) 0), none, []⟩,
        ⟨(some 22), (.ext (.t 18) 1), none, []⟩,
        ⟨(some 23), (.ext (.t 18) 2), none, []⟩,
        ⟨(some 8), (.alloc [(.i .i64 (0)), .ns, .ns]), none, []⟩,
        ⟨none, (.store 3 (.t 8) (.t 21)), none, []⟩,
        ⟨(some 9), (.mov (.t 22)), none, []⟩,
        ⟨(some 10), (.mov (.t 23)), none, []⟩] [6, 19, 20, 18, 21, 22, 23])
      (.seq (.seq (.region [⟨(some 24), (.mov (.t 7)), none, []⟩,
        ⟨(some 25), (.un .not (.t 24)), none, []⟩,
        ⟨(some 26), (.mov (.t 25)), none, []⟩,
        ⟨(some 27), (.mov (.t 10)), (some (26, false)), []⟩,
        ⟨(some 28), (.un .not (.t 27)), (some (26, false)), []⟩,
        ⟨(some 29), (.pick (.t 26) (.c (.b true)) (.t 28)), none, []⟩,
        ⟨(some 30), (.mov (.t 29)), none, []⟩,
        ⟨(some 31), (.mov (.t 9)), (some (30, false)), []⟩,
        ⟨(some 32), (.bin .eql (.t 31) (.c (.s []))), (some (30, false)), []⟩,
        ⟨(some 33), (.pick (.t 30) (.c (.b true)) (.t 32)), none, []⟩] [7, 10, 24, 25, 26, 27, 28, 29, 30, 31, 32])
      (.cond (.t 33)
        (.seq (.region [⟨(some 34), (.build [(.i .i64 (0)), .ns, .ns] []), none, []⟩,
          ⟨none, (.store 3 (.t 2) (.t 34)), none, []⟩,
          ⟨(some 3), (.mov (.c (.s []))), none, []⟩,
          ⟨(some 4), (.mov (.c (.b false))), none, []⟩] [5, 8, 9, 33, 34])
        .ret)
        (.region [] [33])))
      (.seq (.region [⟨(some 35), (.off (.t 2) 1), none, []⟩,
        ⟨(some 36), (.load none (.t 35)), none, []⟩,
        ⟨(some 37), (.mov (.t 5)), none, []⟩,
        ⟨(some 38), (.bsl 1 1 [(.s [])] [(0, 1, (.t 37))]), none, []⟩,
        ⟨(some 40), (.off (.t 2) 2), none, []⟩,
        ⟨(some 41), (.load none (.t 40)), none, []⟩,
        ⟨(some 42), (.load (some 3) (.t 8)), none, []⟩,
        ⟨(some 43), (.bsl 3 1 [(.i .i64 (0)), .ns, .ns] [(0, 3, (.t 42))]), none, []⟩,
        ⟨(some 39), (.app 1 16 (.t 36) (.t 38)), none, [(41, (.load none (.t 40)), none), (42, (.load (some 3) (.t 8)), none)]⟩,
        ⟨(some 45), (.off (.t 2) 1), none, []⟩,
        ⟨(some 44), (.app 3 56 (.t 41) (.t 43)), none, []⟩,
        ⟨none, (.store 1 (.t 45) (.t 39)), none, []⟩,
        ⟨(some 46), (.off (.t 2) 2), none, []⟩,
        ⟨none, (.store 1 (.t 46) (.t 44)), none, []⟩] [5, 8, 35, 36, 37, 38, 40, 41, 42, 43, 39, 45, 44, 46])
      (.seq (.region [⟨(some 47), (.mov (.t 9)), none, []⟩,
        ⟨(some 48), (.slS (.t 47) (some (.c (.i .i64 (1)))) none), none, []⟩,
        ⟨(some 0), (.mov (.t 48)), none, []⟩] [47, 48])
      (.seq (.seq (.region [⟨(some 49), (.mov (.t 9)), none, []⟩,
        ⟨(some 50), (.idxS (.t 49) (.c (.i .i64 (0)))), none, []⟩] [9, 49])
      (.block 2
        (.seq (.region [⟨(some 52), (.bin .eql (.t 50) (.c (.i .u8 (125)))), none, []⟩,
          ⟨(some 51), (.mov (.t 52)), none, []⟩] [52])
        (.cond (.t 51)
          (.seq (.region [⟨(some 53), (.load (some 3) (.t 2)), none, []⟩,
            ⟨(some 54), (.mov (.t 0)), none, []⟩,
            ⟨(some 55), (.off (.t 2) 1), none, []⟩,
            ⟨(some 56), (.load none (.t 55)), none, []⟩,
            ⟨(some 57), (.call 72 [(.t 56)]), none, [(53, (.load (some 3) (.t 2)), none)]⟩,
            ⟨none, (.store 3 (.t 2) (.t 53)), none, []⟩,
            ⟨(some 3), (.mov (.t 54)), none, []⟩,
            ⟨(some 4), (.mov (.t 57)), none, []⟩] [0, 50, 51, 53, 54, 55, 56, 57])
          .ret)
          (.seq (.region [⟨(some 59), (.bin .eql (.t 50) (.c (.i .u8 (44)))), none, []⟩,
            ⟨(some 58), (.mov (.t 59)), none, []⟩] [50, 51, 59])
          (.cond (.t 58)
            (.exit 1)
            (.region [] [0, 58])))))))
      (.seq (.region [⟨(some 60), (.build [(.i .i64 (0)), .ns, .ns] []), none, []⟩,
        ⟨none, (.store 3 (.t 2) (.t 60)), none, []⟩,
        ⟨(some 3), (.mov (.c (.s []))), none, []⟩,
        ⟨(some 4), (.mov (.c (.b false))), none, []⟩] [60])
      .ret))))))))
def I69 : IFunc :=
  ⟨(.seq (.region [⟨(some 2), (.alloc [(.i .i64 (0)), .ns, .ns]), none, []⟩,
      ⟨(some 3), (.mov (.c (.s []))), none, []⟩,
      ⟨(some 4), (.mov (.c (.b false))), none, []⟩] [3, 4])
    (.seq (.region [⟨(some 11), (.off (.t 2) 0), none, []⟩,
      ⟨none, (.store 1 (.t 11) (.c (.i .i64 (5)))), none, []⟩] [11])
    (.block 0
      (.loop L69a)))),
    61, 1, [.c 2 (some 3), .t 3, .t 4], 2⟩
theorem tr69 : trFunc Tryd.prog [([], [3, 4]), ([], [11]), ([], [0, 58, 13, 14, 12, 15, 16, 17]), ([], [6, 19, 20, 18, 21, 22, 23]), ([], [7, 10, 24, 25, 26, 27, 28, 29, 30, 31, 32]), ([], [5, 8, 9, 33, 34]), ([], [33]), ([0, 1, 2, 3, 5, 6, 7, 8, 4, 10, 9, 11, 12, 13], [5, 8, 35, 36, 37, 38, 40, 41, 42, 43, 39, 45, 44, 46]), ([], [47, 48]), ([], [9, 49]), ([], [52]), ([0, 1, 2, 3, 4, 5, 6, 7], [0, 50, 51, 53, 54, 55, 56, 57]), ([], [50, 51, 59]), ([], [0, 58]), ([], [60])] 1 Tryd.f69 = some (plain1 I69) := by kernel_rfl
theorem ck69 : ckC 2 I69.body = true := by kernel_rfl

/-- 'encore/value.kindOf'. -/
def I70 : IFunc :=
  ⟨(.seq (.region [⟨(some 2), (.mov (.c (.i .i64 (0)))), none, []⟩] [2])
    (.seq (.seq (.region [⟨(some 3), (.mov (.t 0)), none, []⟩] [0])
    (.block 0
      (.seq (.region [⟨(some 5), (.bin .eql (.t 3) (.c (.s [110, 111, 110, 101]))), none, []⟩,
        ⟨(some 4), (.mov (.t 5)), none, []⟩] [5])
      (.cond (.t 4)
        (.seq (.region [⟨(some 2), (.mov (.c (.i .i64 (0)))), none, []⟩] [3, 4])
        .ret)
        (.seq (.region [⟨(some 7), (.bin .eql (.t 3) (.c (.s [105, 110, 116]))), none, []⟩,
          ⟨(some 6), (.mov (.t 7)), none, []⟩] [4, 7])
        (.cond (.t 6)
          (.seq (.region [⟨(some 2), (.mov (.c (.i .i64 (1)))), none, []⟩] [3, 6])
          .ret)
          (.seq (.region [⟨(some 9), (.bin .eql (.t 3) (.c (.s [98, 111, 111, 108]))), none, []⟩,
            ⟨(some 8), (.mov (.t 9)), none, []⟩] [6, 9])
          (.cond (.t 8)
            (.seq (.region [⟨(some 2), (.mov (.c (.i .i64 (2)))), none, []⟩] [3, 8])
            .ret)
            (.seq (.region [⟨(some 11), (.bin .eql (.t 3) (.c (.s [116, 101, 120, 116]))), none, []⟩,
              ⟨(some 10), (.mov (.t 11)), none, []⟩] [8, 11])
            (.cond (.t 10)
              (.seq (.region [⟨(some 2), (.mov (.c (.i .i64 (3)))), none, []⟩] [3, 10])
              .ret)
              (.seq (.region [⟨(some 13), (.bin .eql (.t 3) (.c (.s [102, 117, 116, 117, 114, 101]))), none, []⟩,
                ⟨(some 12), (.mov (.t 13)), none, []⟩] [3, 10, 13])
              (.cond (.t 12)
                (.seq (.region [⟨(some 2), (.mov (.c (.i .i64 (6)))), none, []⟩] [12])
                .ret)
                (.region [] [12])))))))))))))
    (.seq (.region [⟨(some 2), (.mov (.c (.i .i64 (-1)))), none, []⟩] [])
    .ret))),
    14, 1, [.t 2], 2⟩
theorem tr70 : trFunc Tryd.prog [([], [2]), ([], [0]), ([], [5]), ([], [3, 4]), ([], [4, 7]), ([], [3, 6]), ([], [6, 9]), ([], [3, 8]), ([], [8, 11]), ([], [3, 10]), ([], [3, 10, 13]), ([], [12]), ([], [12]), ([], [])] 1 Tryd.f70 = some (plain1 I70) := by kernel_rfl
theorem ck70 : ckC 2 I70.body = true := by kernel_rfl

/-- '(encore/value.plain).bare'. -/
def I71 : IFunc :=
  ⟨(.seq (.region [⟨(some 2), (.box (.t 0)), none, []⟩,
      ⟨(some 3), (.box (.t 1)), none, []⟩,
      ⟨(some 4), (.mov (.c (.b false))), none, []⟩] [0, 1, 4])
    (.seq (.region [⟨(some 5), (.off (.t 2) 0), none, []⟩,
      ⟨(some 6), (.load none (.t 5)), none, []⟩,
      ⟨(some 7), (.mov (.t 6)), none, []⟩,
      ⟨(some 8), (.off (.t 3) 2), (some (7, false)), []⟩,
      ⟨(some 9), (.load none (.t 8)), (some (7, false)), []⟩,
      ⟨(some 10), (.bin .eql (.t 9) (.c (.s []))), (some (7, false)), []⟩,
      ⟨(some 11), (.pick (.t 7) (.c (.b true)) (.t 10)), none, []⟩,
      ⟨(some 12), (.mov (.t 11)), none, []⟩,
      ⟨(some 13), (.off (.t 2) 1), (some (12, true)), []⟩,
      ⟨(some 14), (.load none (.t 13)), (some (12, true)), []⟩,
      ⟨(some 15), (.mov (.t 14)), (some (12, true)), []⟩,
      ⟨(some 16), (.off (.t 3) 3), (some (15, false)), []⟩,
      ⟨(some 17), (.load none (.t 16)), (some (15, false)), []⟩,
      ⟨(some 18), (.lenk 0 (.t 17)), (some (15, false)), []⟩,
      ⟨(some 19), (.bin .eql (.t 18) (.c (.i .i64 (0)))), (some (15, false)), []⟩,
      ⟨(some 20), (.pick (.t 15) (.c (.b true)) (.t 19)), (some (12, true)), []⟩,
      ⟨(some 21), (.pick (.t 12) (.t 20) (.c (.b false))), none, []⟩,
      ⟨(some 22), (.mov (.t 21)), none, []⟩,
      ⟨(some 23), (.off (.t 2) 2), (some (22, true)), []⟩,
      ⟨(some 24), (.load none (.t 23)), (some (22, true)), []⟩,
      ⟨(some 25), (.mov (.t 24)), (some (22, true)), []⟩,
      ⟨(some 26), (.off (.t 3) 4), (some (25, false)), []⟩,
      ⟨(some 27), (.load none (.t 26)), (some (25, false)), []⟩,
      ⟨(some 28), (.lenk 0 (.t 27)), (some (25, false)), []⟩,
      ⟨(some 29), (.bin .eql (.t 28) (.c (.i .i64 (0)))), (some (25, false)), []⟩,
      ⟨(some 30), (.pick (.t 25) (.c (.b true)) (.t 29)), (some (22, true)), []⟩,
      ⟨(some 31), (.pick (.t 22) (.t 30) (.c (.b false))), none, []⟩,
      ⟨(some 4), (.mov (.t 31)), none, []⟩] [2, 3, 5, 6, 7, 8, 9, 10, 11, 12, 13, 14, 15, 16, 17, 18, 19, 20, 21, 22, 23, 24, 25, 26, 27, 28, 29, 30, 31])
    .ret)),
    32, 2, [.t 4], 2⟩
theorem tr71 : trFunc Tryd.prog [([], [0, 1, 4]), ([], [2, 3, 5, 6, 7, 8, 9, 10, 11, 12, 13, 14, 15, 16, 17, 18, 19, 20, 21, 22, 23, 24, 25, 26, 27, 28, 29, 30, 31])] 1 Tryd.f71 = some (plain1 I71) := by kernel_rfl
theorem ck71 : ckC 2 I71.body = true := by kernel_rfl

/-- 'encore/value.rising'. -/
def L72a : ICode :=
  (.seq (.region [⟨(some 9), (.bin .lss (.t 8) (.t 7)), none, []⟩] [])
    (.seq (.cond (.t 9)
      (.region [] [9])
      (.exit 0))
    (.seq (.block 1
      (.seq (.region [⟨(some 10), (.iaddr 1 (.t 6) (.t 8)), none, []⟩,
        ⟨(some 11), (.load none (.t 10)), none, []⟩,
        ⟨(some 5), (.mov (.t 11)), none, []⟩] [10, 11])
      (.seq (.seq (.region [⟨(some 12), (.mov (.t 5)), none, []⟩,
        ⟨(some 13), (.mov (.t 3)), none, []⟩,
        ⟨(some 14), (.bin .leq (.t 12) (.t 13)), none, []⟩,
        ⟨(some 15), (.mov (.t 14)), none, []⟩,
        ⟨(some 16), (.mov (.t 5)), (some (15, false)), []⟩,
        ⟨(some 17), (.call 76 [(.t 16)]), (some (15, false)), []⟩,
        ⟨(some 18), (.un .not (.t 17)), (some (15, false)), []⟩,
        ⟨(some 19), (.pick (.t 15) (.c (.b true)) (.t 18)), none, []⟩] [3, 12, 13, 14, 15, 16, 17, 18])
      (.cond (.t 19)
        (.seq (.region [⟨(some 2), (.mov (.c (.b false))), none, []⟩] [6, 7, 8, 5, 19])
        .ret)
        (.region [] [19])))
      (.region [⟨(some 20), (.mov (.t 5)), none, []⟩,
        ⟨(some 3), (.mov (.t 20)), none, []⟩] [5, 20]))))
    (.region [⟨(some 21), (.bin .add (.t 8) (.c (.i .i64 (1)))), none, []⟩,
      ⟨(some 8), (.mov (.t 21)), none, []⟩] [21]))))
def I72 : IFunc :=
  ⟨(.seq (.region [⟨(some 2), (.mov (.c (.b false))), none, []⟩] [2])
    (.seq (.region [⟨(some 3), (.mov (.c (.s []))), none, []⟩] [])
    (.seq (.seq (.region [⟨(some 6), (.mov (.t 0)), none, []⟩,
      ⟨(some 7), (.lenk 0 (.t 6)), none, []⟩,
      ⟨(some 8), (.mov (.c (.i .i64 (0)))), none, []⟩] [0])
    (.block 0
      (.loop L72a)))
    (.seq (.region [⟨(some 2), (.mov (.c (.b true))), none, []⟩] [3, 6, 7, 8, 9])
    .ret)))),
    22, 1, [.t 2], 2⟩
theorem tr72 : trFunc Tryd.prog [([], [2]), ([], []), ([], [0]), ([], []), ([], [9]), ([], [10, 11]), ([], [3, 12, 13, 14, 15, 16, 17, 18]), ([], [6, 7, 8, 5, 19]), ([], [19]), ([], [5, 20]), ([], [21]), ([], [3, 6, 7, 8, 9])] 1 Tryd.f72 = some (plain1 I72) := by kernel_rfl
theorem ck72 : ckC 2 I72.body = true := by kernel_rfl

/-- 'internal/stringslite.HasPrefix'. -/
def I73 : IFunc :=
  ⟨(.seq (.region [⟨(some 4), (.mov (.c (.b false))), none, []⟩] [4])
    (.seq (.region [⟨(some 5), (.mov (.t 0)), none, []⟩,
      ⟨(some 6), (.lenk 1 (.t 5)), none, []⟩,
      ⟨(some 7), (.mov (.t 1)), none, []⟩,
      ⟨(some 8), (.lenk 1 (.t 7)), none, []⟩,
      ⟨(some 9), (.bin .geq (.t 6) (.t 8)), none, []⟩,
      ⟨(some 10), (.mov (.t 9)), none, []⟩,
      ⟨(some 11), (.mov (.t 0)), (some (10, true)), []⟩,
      ⟨(some 12), (.mov (.t 1)), (some (10, true)), []⟩,
      ⟨(some 13), (.lenk 1 (.t 12)), (some (10, true)), []⟩,
      ⟨(some 14), (.slS (.t 11) none (some (.t 13))), (some (10, true)), []⟩,
      ⟨(some 15), (.mov (.t 1)), (some (10, true)), []⟩,
      ⟨(some 16), (.bin .eql (.t 14) (.t 15)), (some (10, true)), []⟩,
      ⟨(some 17), (.pick (.t 10) (.t 16) (.c (.b false))), none, []⟩,
      ⟨(some 4), (.mov (.t 17)), none, []⟩] [0, 1, 5, 6, 7, 8, 9, 10, 11, 12, 13, 14, 15, 16, 17])
    .ret)),
    18, 2, [.t 4], 2⟩
theorem tr73 : trFunc Tryd.prog [([], [4]), ([], [0, 1, 5, 6, 7, 8, 9, 10, 11, 12, 13, 14, 15, 16, 17])] 1 Tryd.f73 = some (plain1 I73) := by kernel_rfl
theorem ck73 : ckC 2 I73.body = true := by kernel_rfl

/-- 'internal/stringslite.CutPrefix'. -/
def I74 : IFunc :=
  ⟨(.seq (.region [⟨(some 4), (.mov (.c (.s []))), none, []⟩,
      ⟨(some 5), (.mov (.c (.b false))), none, []⟩] [4, 5])
    (.seq (.seq (.region [⟨(some 6), (.mov (.t 0)), none, []⟩,
      ⟨(some 7), (.mov (.t 1)), none, []⟩,
      ⟨(some 8), (.call 73 [(.t 6), (.t 7)]), none, []⟩,
      ⟨(some 9), (.un .not (.t 8)), none, []⟩] [6, 7, 8])
    (.cond (.t 9)
      (.seq (.region [⟨(some 10), (.mov (.t 0)), none, []⟩,
        ⟨(some 4), (.mov (.t 10)), none, []⟩,
        ⟨(some 5), (.mov (.c (.b false))), none, []⟩] [0, 1, 9, 10])
      .ret)
      (.region [] [9])))
    (.seq (.region [⟨(some 11), (.mov (.t 0)), none, []⟩,
      ⟨(some 12), (.mov (.t 1)), none, []⟩,
      ⟨(some 13), (.lenk 1 (.t 12)), none, []⟩,
      ⟨(some 14), (.slS (.t 11) (some (.t 13)) none), none, []⟩,
      ⟨(some 4), (.mov (.t 14)), none, []⟩,
      ⟨(some 5), (.mov (.c (.b true))), none, []⟩] [0, 1, 11, 12, 13, 14])
    .ret))),
    15, 2, [.t 4, .t 5], 2⟩
theorem tr74 : trFunc Tryd.prog [([], [4, 5]), ([], [6, 7, 8]), ([], [0, 1, 9, 10]), ([], [9]), ([], [0, 1, 11, 12, 13, 14])] 1 Tryd.f74 = some (plain1 I74) := by kernel_rfl
theorem ck74 : ckC 2 I74.body = true := by kernel_rfl

/-- 'strings.Cut'. -/
def I75 : IFunc :=
  ⟨(.seq (.region [⟨(some 4), (.mov (.c (.s []))), none, []⟩,
      ⟨(some 5), (.mov (.c (.s []))), none, []⟩,
      ⟨(some 6), (.mov (.c (.b false))), none, []⟩] [4, 5, 6])
    (.seq (.region [⟨(some 7), (.mov (.t 0)), none, []⟩,
      ⟨(some 8), (.mov (.t 1)), none, []⟩,
      ⟨(some 9), (.call 77 [(.t 7), (.t 8)]), none, []⟩,
      ⟨(some 10), (.ext (.t 9) 0), none, []⟩,
      ⟨(some 11), (.ext (.t 9) 1), none, []⟩,
      ⟨(some 12), (.ext (.t 9) 2), none, []⟩,
      ⟨(some 4), (.mov (.t 10)), none, []⟩,
      ⟨(some 5), (.mov (.t 11)), none, []⟩,
      ⟨(some 6), (.mov (.t 12)), none, []⟩] [0, 1, 7, 8, 9, 10, 11, 12])
    .ret)),
    13, 2, [.t 4, .t 5, .t 6], 2⟩
theorem tr75 : trFunc Tryd.prog [([], [4, 5, 6]), ([], [0, 1, 7, 8, 9, 10, 11, 12])] 1 Tryd.f75 = some (plain1 I75) := by kernel_rfl
theorem ck75 : ckC 2 I75.body = true := by kernel_rfl

/-- 'encore/value.named'. -/
def L76a : ICode :=
  (.seq (.region [⟨(some 17), (.bin .lss (.t 16) (.t 15)), none, []⟩] [])
    (.seq (.cond (.t 17)
      (.region [] [17])
      (.exit 0))
    (.seq (.block 1
      (.seq (.region [⟨(some 18), (.mov (.t 16)), none, []⟩,
        ⟨(some 19), (.iaddr 1 (.t 14) (.t 16)), none, []⟩,
        ⟨(some 20), (.load none (.t 19)), none, []⟩,
        ⟨(some 3), (.mov (.t 18)), none, []⟩,
        ⟨(some 4), (.mov (.t 20)), none, []⟩] [18, 19, 20])
      (.seq (.region [⟨(some 21), (.mov (.t 4)), none, []⟩,
        ⟨(some 22), (.bin .geq (.t 21) (.c (.i .u8 (97)))), none, []⟩,
        ⟨(some 23), (.mov (.t 22)), none, []⟩,
        ⟨(some 24), (.mov (.t 4)), (some (23, true)), []⟩,
        ⟨(some 25), (.bin .leq (.t 24) (.c (.i .u8 (122)))), (some (23, true)), []⟩,
        ⟨(some 26), (.pick (.t 23) (.t 25) (.c (.b false))), none, []⟩,
        ⟨(some 5), (.mov (.t 26)), none, []⟩] [21, 22, 23, 24, 25, 26])
      (.seq (.region [⟨(some 27), (.mov (.t 5)), none, []⟩,
        ⟨(some 28), (.un .not (.t 27)), none, []⟩,
        ⟨(some 29), (.mov (.t 28)), none, []⟩,
        ⟨(some 30), (.mov (.t 3)), (some (29, true)), []⟩,
        ⟨(some 31), (.bin .eql (.t 30) (.c (.i .i64 (0)))), (some (29, true)), []⟩,
        ⟨(some 32), (.mov (.t 31)), (some (29, true)), []⟩,
        ⟨(some 33), (.mov (.t 4)), (some (32, false)), []⟩,
        ⟨(some 34), (.bin .neq (.t 33) (.c (.i .u8 (95)))), (some (32, false)), []⟩,
        ⟨(some 35), (.mov (.t 34)), (some (32, false)), []⟩,
        ⟨(some 36), (.mov (.t 4)), (some (35, true)), []⟩,
        ⟨(some 37), (.bin .lss (.t 36) (.c (.i .u8 (48)))), (some (35, true)), []⟩,
        ⟨(some 38), (.mov (.t 37)), (some (35, true)), []⟩,
        ⟨(some 39), (.mov (.t 4)), (some (38, false)), []⟩,
        ⟨(some 40), (.bin .gtr (.t 39) (.c (.i .u8 (57)))), (some (38, false)), []⟩,
        ⟨(some 41), (.pick (.t 38) (.c (.b true)) (.t 40)), (some (35, true)), []⟩,
        ⟨(some 42), (.pick (.t 35) (.t 41) (.c (.b false))), (some (32, false)), []⟩,
        ⟨(some 43), (.pick (.t 32) (.c (.b true)) (.t 42)), (some (29, true)), []⟩,
        ⟨(some 44), (.pick (.t 29) (.t 43) (.c (.b false))), none, []⟩] [3, 4, 5, 27, 28, 29, 30, 31, 32, 33, 34, 35, 36, 37, 38, 39, 40, 41, 42, 43])
      (.cond (.t 44)
        (.seq (.region [⟨(some 2), (.mov (.c (.b false))), none, []⟩] [14, 15, 16, 44])
        .ret)
        (.region [] [44]))))))
    (.region [⟨(some 45), (.bin .add (.t 16) (.c (.i .i64 (1)))), none, []⟩,
      ⟨(some 16), (.mov (.t 45)), none, []⟩] [45]))))
def I76 : IFunc :=
  ⟨(.seq (.region [⟨(some 2), (.mov (.c (.b false))), none, []⟩] [2])
    (.seq (.seq (.region [⟨(some 6), (.mov (.t 0)), none, []⟩,
      ⟨(some 7), (.bin .eql (.t 6) (.c (.s []))), none, []⟩,
      ⟨(some 8), (.mov (.t 7)), none, []⟩,
      ⟨(some 9), (.mov (.t 0)), (some (8, false)), []⟩,
      ⟨(some 10), (.lenk 1 (.t 9)), (some (8, false)), []⟩,
      ⟨(some 11), (.bin .gtr (.t 10) (.c (.i .i64 (16)))), (some (8, false)), []⟩,
      ⟨(some 12), (.pick (.t 8) (.c (.b true)) (.t 11)), none, []⟩] [6, 7, 8, 9, 10, 11])
    (.cond (.t 12)
      (.seq (.region [⟨(some 2), (.mov (.c (.b false))), none, []⟩] [0, 12])
      .ret)
      (.region [] [12])))
    (.seq (.seq (.region [⟨(some 13), (.mov (.t 0)), none, []⟩,
      ⟨(some 14), (.s2b (.t 13)), none, []⟩,
      ⟨(some 15), (.lenk 0 (.t 14)), none, []⟩,
      ⟨(some 16), (.mov (.c (.i .i64 (0)))), none, []⟩] [0, 13])
    (.block 0
      (.loop L76a)))
    (.seq (.region [⟨(some 2), (.mov (.c (.b true))), none, []⟩] [14, 15, 16, 17])
    .ret)))),
    46, 1, [.t 2], 2⟩
theorem tr76 : trFunc Tryd.prog [([], [2]), ([], [6, 7, 8, 9, 10, 11]), ([], [0, 12]), ([], [12]), ([], [0, 13]), ([], []), ([], [17]), ([], [18, 19, 20]), ([], [21, 22, 23, 24, 25, 26]), ([], [3, 4, 5, 27, 28, 29, 30, 31, 32, 33, 34, 35, 36, 37, 38, 39, 40, 41, 42, 43]), ([], [14, 15, 16, 44]), ([], [44]), ([], [45]), ([], [14, 15, 16, 17])] 1 Tryd.f76 = some (plain1 I76) := by kernel_rfl
theorem ck76 : ckC 2 I76.body = true := by kernel_rfl

/-- 'internal/stringslite.Cut'. -/
def I77 : IFunc :=
  ⟨(.seq (.region [⟨(some 4), (.mov (.c (.s []))), none, []⟩,
      ⟨(some 5), (.mov (.c (.s []))), none, []⟩,
      ⟨(some 6), (.mov (.c (.b false))), none, []⟩] [4, 5, 6])
    (.seq (.seq (.region [⟨(some 8), (.mov (.t 0)), none, []⟩,
      ⟨(some 9), (.mov (.t 1)), none, []⟩,
      ⟨(some 10), (.call 78 [(.t 8), (.t 9)]), none, []⟩,
      ⟨(some 7), (.mov (.t 10)), none, []⟩] [8, 9, 10])
    (.seq (.region [⟨(some 11), (.mov (.t 7)), none, []⟩,
      ⟨(some 12), (.bin .geq (.t 11) (.c (.i .i64 (0)))), none, []⟩] [11])
    (.cond (.t 12)
      (.seq (.region [⟨(some 13), (.mov (.t 0)), none, []⟩,
        ⟨(some 14), (.mov (.t 7)), none, []⟩,
        ⟨(some 15), (.slS (.t 13) none (some (.t 14))), none, []⟩,
        ⟨(some 16), (.mov (.t 0)), none, []⟩,
        ⟨(some 17), (.mov (.t 7)), none, []⟩,
        ⟨(some 18), (.mov (.t 1)), none, []⟩,
        ⟨(some 19), (.lenk 1 (.t 18)), none, []⟩,
        ⟨(some 20), (.bin .add (.t 17) (.t 19)), none, []⟩,
        ⟨(some 21), (.slS (.t 16) (some (.t 20)) none), none, []⟩,
        ⟨(some 4), (.mov (.t 15)), none, []⟩,
        ⟨(some 5), (.mov (.t 21)), none, []⟩,
        ⟨(some 6), (.mov (.c (.b true))), none, []⟩] [0, 1, 7, 12, 13, 14, 15, 16, 17, 18, 19, 20, 21])
      .ret)
      (.region [] [1, 7, 12]))))
    (.seq (.region [⟨(some 22), (.mov (.t 0)), none, []⟩,
      ⟨(some 4), (.mov (.t 22)), none, []⟩,
      ⟨(some 5), (.mov (.c (.s []))), none, []⟩,
      ⟨(some 6), (.mov (.c (.b false))), none, []⟩] [0, 22])
    .ret))),
    23, 2, [.t 4, .t 5, .t 6], 2⟩
theorem tr77 : trFunc Tryd.prog [([], [4, 5, 6]), ([], [8, 9, 10]), ([], [11]), ([0, 1, 2, 3, 4, 5, 6, 7, 8, 9, 10, 11], [0, 1, 7, 12, 13, 14, 15, 16, 17, 18, 19, 20, 21]), ([], [1, 7, 12]), ([], [0, 22])] 1 Tryd.f77 = some (plain1 I77) := by kernel_rfl
theorem ck77 : ckC 2 I77.body = true := by kernel_rfl

/-- 'internal/stringslite.Index'. -/
def L78a : ICode :=
  (.seq (.seq (.region [⟨(some 57), (.mov (.t 8)), none, []⟩,
      ⟨(some 58), (.mov (.t 9)), none, []⟩,
      ⟨(some 59), (.bin .lss (.t 57) (.t 58)), none, []⟩] [57, 58])
    (.cond (.t 59)
      (.region [] [59])
      (.exit 1)))
    (.block 2
      (.seq (.seq (.region [⟨(some 60), (.mov (.t 0)), none, []⟩,
        ⟨(some 61), (.mov (.t 8)), none, []⟩,
        ⟨(some 62), (.idxS (.t 60) (.t 61)), none, []⟩,
        ⟨(some 63), (.mov (.t 6)), none, []⟩,
        ⟨(some 64), (.bin .neq (.t 62) (.t 63)), none, []⟩] [60, 61, 62, 63])
      (.cond (.t 64)
        (.seq (.region [⟨(some 65), (.mov (.t 0)), none, []⟩,
          ⟨(some 66), (.mov (.t 8)), none, []⟩,
          ⟨(some 67), (.bin .add (.t 66) (.c (.i .i64 (1)))), none, []⟩,
          ⟨(some 68), (.mov (.t 9)), none, []⟩,
          ⟨(some 69), (.slS (.t 65) (some (.t 67)) (some (.t 68))), none, []⟩,
          ⟨(some 70), (.mov (.t 6)), none, []⟩,
          ⟨(some 71), (.call 79 [(.t 69), (.t 70)]), none, []⟩,
          ⟨(some 11), (.mov (.t 71)), none, []⟩] [64, 65, 66, 67, 68, 69, 70, 71])
        (.seq (.seq (.region [⟨(some 72), (.mov (.t 11)), none, []⟩,
          ⟨(some 73), (.bin .lss (.t 72) (.c (.i .i64 (0)))), none, []⟩] [72])
        (.cond (.t 73)
          (.seq (.region [⟨(some 4), (.mov (.c (.i .i64 (-1)))), none, []⟩] [0, 1, 5, 6, 7, 8, 9, 10, 11, 73])
          .ret)
          (.region [] [73])))
        (.region [⟨(some 74), (.mov (.t 8)), none, []⟩,
          ⟨(some 75), (.mov (.t 11)), none, []⟩,
          ⟨(some 76), (.bin .add (.t 75) (.c (.i .i64 (1)))), none, []⟩,
          ⟨(some 77), (.bin .add (.t 74) (.t 76)), none, []⟩,
          ⟨(some 8), (.mov (.t 77)), none, []⟩] [11, 74, 75, 76, 77])))
        (.region [] [64])))
      (.seq (.seq (.region [⟨(some 78), (.mov (.t 0)), none, []⟩,
        ⟨(some 79), (.mov (.t 8)), none, []⟩,
        ⟨(some 80), (.bin .add (.t 79) (.c (.i .i64 (1)))), none, []⟩,
        ⟨(some 81), (.idxS (.t 78) (.t 80)), none, []⟩,
        ⟨(some 82), (.mov (.t 7)), none, []⟩,
        ⟨(some 83), (.bin .eql (.t 81) (.t 82)), none, []⟩,
        ⟨(some 84), (.mov (.t 83)), none, []⟩,
        ⟨(some 85), (.mov (.t 0)), (some (84, true)), []⟩,
        ⟨(some 86), (.mov (.t 8)), (some (84, true)), []⟩,
        ⟨(some 87), (.mov (.t 8)), (some (84, true)), []⟩,
        ⟨(some 88), (.mov (.t 5)), (some (84, true)), []⟩,
        ⟨(some 89), (.bin .add (.t 87) (.t 88)), (some (84, true)), []⟩,
        ⟨(some 90), (.slS (.t 85) (some (.t 86)) (some (.t 89))), (some (84, true)), []⟩,
        ⟨(some 91), (.mov (.t 1)), (some (84, true)), []⟩,
        ⟨(some 92), (.bin .eql (.t 90) (.t 91)), (some (84, true)), []⟩,
        ⟨(some 93), (.pick (.t 84) (.t 92) (.c (.b false))), none, []⟩] [78, 79, 80, 81, 82, 83, 84, 85, 86, 87, 88, 89, 90, 91, 92])
      (.cond (.t 93)
        (.seq (.region [⟨(some 94), (.mov (.t 8)), none, []⟩,
          ⟨(some 4), (.mov (.t 94)), none, []⟩] [0, 1, 5, 6, 7, 8, 9, 10, 93, 94])
        .ret)
        (.region [] [93])))
      (.seq (.region [⟨(some 95), (.mov (.t 8)), none, []⟩,
        ⟨(some 96), (.bin .add (.t 95) (.c (.i .i64 (1)))), none, []⟩,
        ⟨(some 8), (.mov (.t 96)), none, []⟩] [95, 96])
      (.seq (.region [⟨(some 97), (.mov (.t 10)), none, []⟩,
        ⟨(some 98), (.bin .add (.t 97) (.c (.i .i64 (1)))), none, []⟩,
        ⟨(some 10), (.mov (.t 98)), none, []⟩] [97, 98])
      (.seq (.region [⟨(some 99), (.mov (.t 5)), none, []⟩,
        ⟨(some 100), (.load none (.g 1)), none, []⟩,
        ⟨(some 101), (.bin .leq (.t 99) (.t 100)), none, []⟩,
        ⟨(some 102), (.mov (.t 101)), none, []⟩,
        ⟨(some 103), (.mov (.t 10)), (some (102, true)), []⟩,
        ⟨(some 104), (.mov (.t 8)), (some (102, true)), []⟩,
        ⟨(some 105), (.call 81 [(.t 104)]), (some (102, true)), []⟩,
        ⟨(some 106), (.bin .gtr (.t 103) (.t 105)), (some (102, true)), []⟩,
        ⟨(some 107), (.pick (.t 102) (.t 106) (.c (.b false))), none, []⟩] [99, 100, 101, 102, 103, 104, 105, 106])
      (.cond (.t 107)
        (.seq (.region [⟨(some 108), (.mov (.t 0)), none, []⟩,
          ⟨(some 109), (.mov (.t 8)), none, []⟩,
          ⟨(some 110), (.slS (.t 108) (some (.t 109)) none), none, []⟩,
          ⟨(some 111), (.mov (.t 1)), none, []⟩,
          ⟨(some 112), (.call 80 [(.t 110), (.t 111)]), none, []⟩,
          ⟨(some 12), (.mov (.t 112)), none, []⟩] [0, 1, 5, 6, 7, 9, 10, 107, 108, 109, 110, 111, 112])
        (.seq (.seq (.region [⟨(some 113), (.mov (.t 12)), none, []⟩,
          ⟨(some 114), (.bin .geq (.t 113) (.c (.i .i64 (0)))), none, []⟩] [113])
        (.cond (.t 114)
          (.seq (.region [⟨(some 115), (.mov (.t 12)), none, []⟩,
            ⟨(some 116), (.mov (.t 8)), none, []⟩,
            ⟨(some 117), (.bin .add (.t 115) (.t 116)), none, []⟩,
            ⟨(some 4), (.mov (.t 117)), none, []⟩] [8, 12, 114, 115, 116, 117])
          .ret)
          (.region [] [8, 12, 114])))
        (.seq (.region [⟨(some 4), (.mov (.c (.i .i64 (-1)))), none, []⟩] [])
        .ret)))
        (.seq (.region [⟨(some 118), (.mov (.t 5)), none, []⟩,
          ⟨(some 119), (.load none (.g 1)), none, []⟩,
          ⟨(some 120), (.bin .gtr (.t 118) (.t 119)), none, []⟩,
          ⟨(some 121), (.mov (.t 120)), none, []⟩,
          ⟨(some 122), (.mov (.t 10)), (some (121, true)), []⟩,
          ⟨(some 123), (.mov (.t 8)), (some (121, true)), []⟩,
          ⟨(some 124), (.bin .shr (.t 123) (.c (.i .u64 (4)))), (some (121, true)), []⟩,
          ⟨(some 125), (.bin .add (.c (.i .i64 (4))) (.t 124)), (some (121, true)), []⟩,
          ⟨(some 126), (.bin .geq (.t 122) (.t 125)), (some (121, true)), []⟩,
          ⟨(some 127), (.pick (.t 121) (.t 126) (.c (.b false))), none, []⟩,
          ⟨(some 128), (.mov (.t 127)), none, []⟩,
          ⟨(some 129), (.mov (.t 8)), (some (128, true)), []⟩,
          ⟨(some 130), (.mov (.t 9)), (some (128, true)), []⟩,
          ⟨(some 131), (.bin .lss (.t 129) (.t 130)), (some (128, true)), []⟩,
          ⟨(some 132), (.pick (.t 128) (.t 131) (.c (.b false))), none, []⟩] [107, 118, 119, 120, 121, 122, 123, 124, 125, 126, 127, 128, 129, 130, 131])
        (.cond (.t 132)
          (.seq (.region [⟨(some 133), (.mov (.t 0)), none, []⟩,
            ⟨(some 134), (.mov (.t 8)), none, []⟩,
            ⟨(some 135), (.slS (.t 133) (some (.t 134)) none), none, []⟩,
            ⟨(some 136), (.mov (.t 1)), none, []⟩,
            ⟨(some 137), (.call 82 [(.t 135), (.t 136)]), none, []⟩,
            ⟨(some 13), (.mov (.t 137)), none, []⟩] [0, 1, 5, 6, 7, 9, 10, 132, 133, 134, 135, 136, 137])
          (.seq (.seq (.region [⟨(some 138), (.mov (.t 13)), none, []⟩,
            ⟨(some 139), (.bin .lss (.t 138) (.c (.i .i64 (0)))), none, []⟩] [138])
          (.cond (.t 139)
            (.seq (.region [⟨(some 4), (.mov (.c (.i .i64 (-1)))), none, []⟩] [8, 13, 139])
            .ret)
            (.region [] [139])))
          (.seq (.region [⟨(some 140), (.mov (.t 8)), none, []⟩,
            ⟨(some 141), (.mov (.t 13)), none, []⟩,
            ⟨(some 142), (.bin .add (.t 140) (.t 141)), none, []⟩,
            ⟨(some 4), (.mov (.t 142)), none, []⟩] [8, 13, 140, 141, 142])
          .ret)))
          (.region [] [132])))))))))))
def I78 : IFunc :=
  ⟨(.seq (.region [⟨(some 4), (.mov (.c (.i .i64 (0)))), none, []⟩] [4])
    (.seq (.region [⟨(some 14), (.mov (.t 1)), none, []⟩,
      ⟨(some 15), (.lenk 1 (.t 14)), none, []⟩,
      ⟨(some 5), (.mov (.t 15)), none, []⟩] [14, 15])
    (.seq (.block 0
      (.seq (.region [⟨(some 17), (.mov (.t 5)), none, []⟩,
        ⟨(some 18), (.bin .eql (.t 17) (.c (.i .i64 (0)))), none, []⟩,
        ⟨(some 19), (.mov (.t 18)), none, []⟩,
        ⟨(some 20), (.mov (.t 1)), (some (19, false)), []⟩,
        ⟨(some 21), (.mov (.t 0)), (some (19, false)), []⟩,
        ⟨(some 22), (.bin .eql (.t 20) (.t 21)), (some (19, false)), []⟩,
        ⟨(some 23), (.pick (.t 19) (.c (.b true)) (.t 22)), none, []⟩,
        ⟨(some 16), (.mov (.t 23)), none, []⟩] [17, 18, 19, 20, 21, 22, 23])
      (.cond (.t 16)
        (.seq (.region [⟨(some 4), (.mov (.c (.i .i64 (0)))), none, []⟩] [0, 1, 5, 16])
        .ret)
        (.seq (.region [⟨(some 25), (.mov (.t 5)), none, []⟩,
          ⟨(some 26), (.bin .eql (.t 25) (.c (.i .i64 (1)))), none, []⟩,
          ⟨(some 24), (.mov (.t 26)), none, []⟩] [16, 25, 26])
        (.cond (.t 24)
          (.seq (.region [⟨(some 27), (.mov (.t 0)), none, []⟩,
            ⟨(some 28), (.mov (.t 1)), none, []⟩,
            ⟨(some 29), (.idxS (.t 28) (.c (.i .i64 (0)))), none, []⟩,
            ⟨(some 30), (.call 79 [(.t 27), (.t 29)]), none, []⟩,
            ⟨(some 4), (.mov (.t 30)), none, []⟩] [0, 1, 5, 24, 27, 28, 29, 30])
          .ret)
          (.seq (.region [⟨(some 32), (.mov (.t 5)), none, []⟩,
            ⟨(some 33), (.mov (.t 0)), none, []⟩,
            ⟨(some 34), (.lenk 1 (.t 33)), none, []⟩,
            ⟨(some 35), (.bin .geq (.t 32) (.t 34)), none, []⟩,
            ⟨(some 31), (.mov (.t 35)), none, []⟩] [24, 32, 33, 34, 35])
          (.cond (.t 31)
            (.seq (.region [⟨(some 4), (.mov (.c (.i .i64 (-1)))), none, []⟩] [0, 1, 5, 31])
            .ret)
            (.seq (.region [⟨(some 37), (.mov (.t 5)), none, []⟩,
              ⟨(some 38), (.load none (.g 1)), none, []⟩,
              ⟨(some 39), (.bin .leq (.t 37) (.t 38)), none, []⟩,
              ⟨(some 40), (.mov (.t 39)), none, []⟩,
              ⟨(some 41), (.mov (.t 0)), (some (40, true)), []⟩,
              ⟨(some 42), (.lenk 1 (.t 41)), (some (40, true)), []⟩,
              ⟨(some 43), (.bin .leq (.t 42) (.c (.i .i64 (64)))), (some (40, true)), []⟩,
              ⟨(some 44), (.pick (.t 40) (.t 43) (.c (.b false))), none, []⟩,
              ⟨(some 36), (.mov (.t 44)), none, []⟩] [31, 37, 38, 39, 40, 41, 42, 43, 44])
            (.cond (.t 36)
              (.seq (.region [⟨(some 45), (.mov (.t 0)), none, []⟩,
                ⟨(some 46), (.mov (.t 1)), none, []⟩,
                ⟨(some 47), (.call 80 [(.t 45), (.t 46)]), none, []⟩,
                ⟨(some 4), (.mov (.t 47)), none, []⟩] [0, 1, 5, 36, 45, 46, 47])
              .ret)
              (.region [] [36]))))))))))
    (.seq (.region [⟨(some 48), (.mov (.t 1)), none, []⟩,
      ⟨(some 49), (.idxS (.t 48) (.c (.i .i64 (0)))), none, []⟩,
      ⟨(some 6), (.mov (.t 49)), none, []⟩] [48, 49])
    (.seq (.region [⟨(some 50), (.mov (.t 1)), none, []⟩,
      ⟨(some 51), (.idxS (.t 50) (.c (.i .i64 (1)))), none, []⟩,
      ⟨(some 7), (.mov (.t 51)), none, []⟩] [50, 51])
    (.seq (.region [⟨(some 8), (.mov (.c (.i .i64 (0)))), none, []⟩] [])
    (.seq (.region [⟨(some 52), (.mov (.t 0)), none, []⟩,
      ⟨(some 53), (.lenk 1 (.t 52)), none, []⟩,
      ⟨(some 54), (.mov (.t 5)), none, []⟩,
      ⟨(some 55), (.bin .sub (.t 53) (.t 54)), none, []⟩,
      ⟨(some 56), (.bin .add (.t 55) (.c (.i .i64 (1)))), none, []⟩,
      ⟨(some 9), (.mov (.t 56)), none, []⟩] [52, 53, 54, 55, 56])
    (.seq (.region [⟨(some 10), (.mov (.c (.i .i64 (0)))), none, []⟩] [])
    (.seq (.block 1
      (.loop L78a))
    (.seq (.region [⟨(some 4), (.mov (.c (.i .i64 (-1)))), none, []⟩] [0, 1, 5, 6, 7, 8, 9, 10, 59])
    .ret)))))))))),
    143, 2, [.t 4], 2⟩
theorem tr78 : trFunc Tryd.prog [([], [4]), ([], [14, 15]), ([], [17, 18, 19, 20, 21, 22, 23]), ([], [0, 1, 5, 16]), ([], [16, 25, 26]), ([], [0, 1, 5, 24, 27, 28, 29, 30]), ([], [24, 32, 33, 34, 35]), ([], [0, 1, 5, 31]), ([], [31, 37, 38, 39, 40, 41, 42, 43, 44]), ([], [0, 1, 5, 36, 45, 46, 47]), ([], [36]), ([], [48, 49]), ([], [50, 51]), ([], []), ([], [52, 53, 54, 55, 56]), ([], []), ([], [57, 58]), ([], [59]), ([], [60, 61, 62, 63]), ([], [64, 65, 66, 67, 68, 69, 70, 71]), ([], [72]), ([], [0, 1, 5, 6, 7, 8, 9, 10, 11, 73]), ([], [73]), ([], [11, 74, 75, 76, 77]), ([], [64]), ([], [78, 79, 80, 81, 82, 83, 84, 85, 86, 87, 88, 89, 90, 91, 92]), ([], [0, 1, 5, 6, 7, 8, 9, 10, 93, 94]), ([], [93]), ([], [95, 96]), ([], [97, 98]), ([], [99, 100, 101, 102, 103, 104, 105, 106]), ([], [0, 1, 5, 6, 7, 9, 10, 107, 108, 109, 110, 111, 112]), ([], [113]), ([], [8, 12, 114, 115, 116, 117]), ([], [8, 12, 114]), ([], []), ([], [107, 118, 119, 120, 121, 122, 123, 124, 125, 126, 127, 128, 129, 130, 131]), ([], [0, 1, 5, 6, 7, 9, 10, 132, 133, 134, 135, 136, 137]), ([], [138]), ([], [8, 13, 139]), ([], [139]), ([], [8, 13, 140, 141, 142]), ([], [132]), ([], [0, 1, 5, 6, 7, 8, 9, 10, 59])] 1 Tryd.f78 = some (plain1 I78) := by kernel_rfl
theorem ck78 : ckC 2 I78.body = true := by kernel_rfl

/-- 'internal/stringslite.IndexByte'. -/
def I79 : IFunc :=
  ⟨(.seq (.region [⟨(some 4), (.mov (.c (.i .i64 (0)))), none, []⟩] [4])
    (.seq (.region [⟨(some 5), (.mov (.t 0)), none, []⟩,
      ⟨(some 6), (.mov (.t 1)), none, []⟩,
      ⟨(some 7), (.call 83 [(.t 5), (.t 6)]), none, []⟩,
      ⟨(some 4), (.mov (.t 7)), none, []⟩] [0, 1, 5, 6, 7])
    .ret)),
    8, 2, [.t 4], 2⟩
theorem tr79 : trFunc Tryd.prog [([], [4]), ([], [0, 1, 5, 6, 7])] 1 Tryd.f79 = some (plain1 I79) := by kernel_rfl
theorem ck79 : ckC 2 I79.body = true := by kernel_rfl

/-- 'internal/bytealg.Cutover'. -/
def I81 : IFunc :=
  ⟨(.seq (.region [⟨(some 2), (.mov (.c (.i .i64 (0)))), none, []⟩] [2])
    (.seq (.region [⟨(some 3), (.mov (.t 0)), none, []⟩,
      ⟨(some 4), (.bin .add (.t 3) (.c (.i .i64 (16)))), none, []⟩,
      ⟨(some 5), (.bin .quo (.t 4) (.c (.i .i64 (8)))), none, []⟩,
      ⟨(some 2), (.mov (.t 5)), none, []⟩] [0, 3, 4, 5])
    .ret)),
    6, 1, [.t 2], 2⟩
theorem tr81 : trFunc Tryd.prog [([], [2]), ([], [0, 3, 4, 5])] 1 Tryd.f81 = some (plain1 I81) := by kernel_rfl
theorem ck81 : ckC 2 I81.body = true := by kernel_rfl

/-- 'internal/bytealg.IndexRabinKarp[string]'. -/
def L82a : ICode :=
  (.seq (.seq (.region [⟨(some 18), (.mov (.t 9)), none, []⟩,
      ⟨(some 19), (.mov (.t 7)), none, []⟩,
      ⟨(some 20), (.bin .lss (.t 18) (.t 19)), none, []⟩] [18, 19])
    (.cond (.t 20)
      (.region [] [20])
      (.exit 0)))
    (.seq (.block 1
      (.region [⟨(some 23), (.mov (.t 8)), none, []⟩,
        ⟨(some 24), (.bin .mul (.t 23) (.c (.i .u32 (16777619)))), none, []⟩,
        ⟨(some 25), (.mov (.t 0)), none, []⟩,
        ⟨(some 26), (.mov (.t 9)), none, []⟩,
        ⟨(some 27), (.idxS (.t 25) (.t 26)), none, []⟩,
        ⟨(some 28), (.conv .u32 (.t 27)), none, []⟩,
        ⟨(some 29), (.bin .add (.t 24) (.t 28)), none, []⟩,
        ⟨(some 8), (.mov (.t 29)), none, []⟩] [23, 24, 25, 26, 27, 28, 29]))
    (.region [⟨(some 21), (.mov (.t 9)), none, []⟩,
      ⟨(some 22), (.bin .add (.t 21) (.c (.i .i64 (1)))), none, []⟩,
      ⟨(some 9), (.mov (.t 22)), none, []⟩] [21, 22])))
def L82b : ICode :=
  (.seq (.seq (.region [⟨(some 41), (.mov (.t 10)), none, []⟩,
      ⟨(some 42), (.mov (.t 0)), none, []⟩,
      ⟨(some 43), (.lenk 1 (.t 42)), none, []⟩,
      ⟨(some 44), (.bin .lss (.t 41) (.t 43)), none, []⟩] [41, 42, 43])
    (.cond (.t 44)
      (.region [] [44])
      (.exit 2)))
    (.block 3
      (.seq (.region [⟨(some 45), (.mov (.t 8)), none, []⟩,
        ⟨(some 46), (.bin .mul (.t 45) (.c (.i .u32 (16777619)))), none, []⟩,
        ⟨(some 8), (.mov (.t 46)), none, []⟩] [45, 46])
      (.seq (.region [⟨(some 47), (.mov (.t 8)), none, []⟩,
        ⟨(some 48), (.mov (.t 0)), none, []⟩,
        ⟨(some 49), (.mov (.t 10)), none, []⟩,
        ⟨(some 50), (.idxS (.t 48) (.t 49)), none, []⟩,
        ⟨(some 51), (.conv .u32 (.t 50)), none, []⟩,
        ⟨(some 52), (.bin .add (.t 47) (.t 51)), none, []⟩,
        ⟨(some 8), (.mov (.t 52)), none, []⟩] [47, 48, 49, 50, 51, 52])
      (.seq (.region [⟨(some 53), (.mov (.t 8)), none, []⟩,
        ⟨(some 54), (.mov (.t 6)), none, []⟩,
        ⟨(some 55), (.mov (.t 0)), none, []⟩,
        ⟨(some 56), (.mov (.t 10)), none, []⟩,
        ⟨(some 57), (.mov (.t 7)), none, []⟩,
        ⟨(some 58), (.bin .sub (.t 56) (.t 57)), none, []⟩,
        ⟨(some 59), (.idxS (.t 55) (.t 58)), none, []⟩,
        ⟨(some 60), (.conv .u32 (.t 59)), none, []⟩,
        ⟨(some 61), (.bin .mul (.t 54) (.t 60)), none, []⟩,
        ⟨(some 62), (.bin .sub (.t 53) (.t 61)), none, []⟩,
        ⟨(some 8), (.mov (.t 62)), none, []⟩] [53, 54, 55, 56, 57, 58, 59, 60, 61, 62])
      (.seq (.region [⟨(some 63), (.mov (.t 10)), none, []⟩,
        ⟨(some 64), (.bin .add (.t 63) (.c (.i .i64 (1)))), none, []⟩,
        ⟨(some 10), (.mov (.t 64)), none, []⟩] [63, 64])
      (.seq (.region [⟨(some 65), (.mov (.t 8)), none, []⟩,
        ⟨(some 66), (.mov (.t 5)), none, []⟩,
        ⟨(some 67), (.bin .eql (.t 65) (.t 66)), none, []⟩,
        ⟨(some 68), (.mov (.t 67)), none, []⟩,
        ⟨(some 69), (.mov (.t 0)), (some (68, true)), []⟩,
        ⟨(some 70), (.mov (.t 10)), (some (68, true)), []⟩,
        ⟨(some 71), (.mov (.t 7)), (some (68, true)), []⟩,
        ⟨(some 72), (.bin .sub (.t 70) (.t 71)), (some (68, true)), []⟩,
        ⟨(some 73), (.mov (.t 10)), (some (68, true)), []⟩,
        ⟨(some 74), (.slS (.t 69) (some (.t 72)) (some (.t 73))), (some (68, true)), []⟩,
        ⟨(some 75), (.mov (.t 1)), (some (68, true)), []⟩,
        ⟨(some 76), (.bin .eql (.t 74) (.t 75)), (some (68, true)), []⟩,
        ⟨(some 77), (.pick (.t 68) (.t 76) (.c (.b false))), none, []⟩] [65, 66, 67, 68, 69, 70, 71, 72, 73, 74, 75, 76])
      (.cond (.t 77)
        (.seq (.region [⟨(some 78), (.mov (.t 10)), none, []⟩,
          ⟨(some 79), (.mov (.t 7)), none, []⟩,
          ⟨(some 80), (.bin .sub (.t 78) (.t 79)), none, []⟩,
          ⟨(some 4), (.mov (.t 80)), none, []⟩] [0, 1, 5, 6, 7, 8, 10, 77, 78, 79, 80])
        .ret)
        (.region [] [77])))))))))
def I82 : IFunc :=
  ⟨(.seq (.region [⟨(some 4), (.mov (.c (.i .i64 (0)))), none, []⟩] [4])
    (.seq (.region [⟨(some 12), (.mov (.t 1)), none, []⟩,
      ⟨(some 13), (.call 84 [(.t 12)]), none, []⟩,
      ⟨(some 11), (.mov (.t 13)), none, []⟩,
      ⟨(some 14), (.ext (.t 11) 0), none, []⟩,
      ⟨(some 15), (.ext (.t 11) 1), none, []⟩,
      ⟨(some 5), (.mov (.t 14)), none, []⟩,
      ⟨(some 6), (.mov (.t 15)), none, []⟩] [12, 13, 11, 14, 15])
    (.seq (.region [⟨(some 16), (.mov (.t 1)), none, []⟩,
      ⟨(some 17), (.lenk 1 (.t 16)), none, []⟩,
      ⟨(some 7), (.mov (.t 17)), none, []⟩] [16, 17])
    (.seq (.region [⟨(some 8), (.mov (.c (.i .u32 (0)))), none, []⟩] [])
    (.seq (.seq (.region [⟨(some 9), (.mov (.c (.i .i64 (0)))), none, []⟩] [])
    (.block 0
      (.loop L82a)))
    (.seq (.seq (.region [⟨(some 30), (.mov (.t 8)), none, []⟩,
      ⟨(some 31), (.mov (.t 5)), none, []⟩,
      ⟨(some 32), (.bin .eql (.t 30) (.t 31)), none, []⟩,
      ⟨(some 33), (.mov (.t 32)), none, []⟩,
      ⟨(some 34), (.mov (.t 0)), (some (33, true)), []⟩,
      ⟨(some 35), (.mov (.t 7)), (some (33, true)), []⟩,
      ⟨(some 36), (.slS (.t 34) none (some (.t 35))), (some (33, true)), []⟩,
      ⟨(some 37), (.mov (.t 1)), (some (33, true)), []⟩,
      ⟨(some 38), (.bin .eql (.t 36) (.t 37)), (some (33, true)), []⟩,
      ⟨(some 39), (.pick (.t 33) (.t 38) (.c (.b false))), none, []⟩] [9, 20, 30, 31, 32, 33, 34, 35, 36, 37, 38])
    (.cond (.t 39)
      (.seq (.region [⟨(some 4), (.mov (.c (.i .i64 (0)))), none, []⟩] [0, 1, 5, 6, 7, 8, 39])
      .ret)
      (.region [] [39])))
    (.seq (.seq (.region [⟨(some 40), (.mov (.t 7)), none, []⟩,
      ⟨(some 10), (.mov (.t 40)), none, []⟩] [40])
    (.block 2
      (.loop L82b)))
    (.seq (.region [⟨(some 4), (.mov (.c (.i .i64 (-1)))), none, []⟩] [0, 1, 5, 6, 7, 8, 10, 44])
    .ret)))))))),
    81, 2, [.t 4], 2⟩
theorem tr82 : trFunc Tryd.prog [([], [4]), ([], [12, 13, 11, 14, 15]), ([], [16, 17]), ([], []), ([], []), ([], [18, 19]), ([], [20]), ([], [23, 24, 25, 26, 27, 28, 29]), ([], [21, 22]), ([], [9, 20, 30, 31, 32, 33, 34, 35, 36, 37, 38]), ([], [0, 1, 5, 6, 7, 8, 39]), ([], [39]), ([], [40]), ([], [41, 42, 43]), ([], [44]), ([], [45, 46]), ([], [47, 48, 49, 50, 51, 52]), ([], [53, 54, 55, 56, 57, 58, 59, 60, 61, 62]), ([], [63, 64]), ([], [65, 66, 67, 68, 69, 70, 71, 72, 73, 74, 75, 76]), ([], [0, 1, 5, 6, 7, 8, 10, 77, 78, 79, 80]), ([], [77]), ([], [0, 1, 5, 6, 7, 8, 10, 44])] 1 Tryd.f82 = some (plain1 I82) := by kernel_rfl
theorem ck82 : ckC 2 I82.body = true := by kernel_rfl

/-- 'internal/bytealg.IndexByteString'. -/
def I83 : IFunc := extFn
/-- 'internal/bytealg.hashStr[string]'. -/
def L84a : ICode :=
  (.seq (.seq (.region [⟨(some 9), (.mov (.t 5)), none, []⟩,
      ⟨(some 10), (.mov (.t 0)), none, []⟩,
      ⟨(some 11), (.lenk 1 (.t 10)), none, []⟩,
      ⟨(some 12), (.bin .lss (.t 9) (.t 11)), none, []⟩] [9, 10, 11])
    (.cond (.t 12)
      (.region [] [12])
      (.exit 0)))
    (.seq (.block 1
      (.region [⟨(some 15), (.mov (.t 4)), none, []⟩,
        ⟨(some 16), (.bin .mul (.t 15) (.c (.i .u32 (16777619)))), none, []⟩,
        ⟨(some 17), (.mov (.t 0)), none, []⟩,
        ⟨(some 18), (.mov (.t 5)), none, []⟩,
        ⟨(some 19), (.idxS (.t 17) (.t 18)), none, []⟩,
        ⟨(some 20), (.conv .u32 (.t 19)), none, []⟩,
        ⟨(some 21), (.bin .add (.t 16) (.t 20)), none, []⟩,
        ⟨(some 4), (.mov (.t 21)), none, []⟩] [15, 16, 17, 18, 19, 20, 21]))
    (.region [⟨(some 13), (.mov (.t 5)), none, []⟩,
      ⟨(some 14), (.bin .add (.t 13) (.c (.i .i64 (1)))), none, []⟩,
      ⟨(some 5), (.mov (.t 14)), none, []⟩] [13, 14])))
def L84b : ICode :=
  (.seq (.seq (.region [⟨(some 24), (.mov (.t 8)), none, []⟩,
      ⟨(some 25), (.bin .gtr (.t 24) (.c (.i .i64 (0)))), none, []⟩] [24])
    (.cond (.t 25)
      (.region [] [25])
      (.exit 2)))
    (.seq (.block 3
      (.seq (.seq (.region [⟨(some 28), (.mov (.t 8)), none, []⟩,
        ⟨(some 29), (.bin .and (.t 28) (.c (.i .i64 (1)))), none, []⟩,
        ⟨(some 30), (.bin .neq (.t 29) (.c (.i .i64 (0)))), none, []⟩] [28, 29])
      (.cond (.t 30)
        (.region [⟨(some 31), (.mov (.t 6)), none, []⟩,
          ⟨(some 32), (.mov (.t 7)), none, []⟩,
          ⟨(some 33), (.bin .mul (.t 31) (.t 32)), none, []⟩,
          ⟨(some 6), (.mov (.t 33)), none, []⟩] [30, 31, 32, 33])
        (.region [] [30])))
      (.region [⟨(some 34), (.mov (.t 7)), none, []⟩,
        ⟨(some 35), (.mov (.t 7)), none, []⟩,
        ⟨(some 36), (.bin .mul (.t 34) (.t 35)), none, []⟩,
        ⟨(some 7), (.mov (.t 36)), none, []⟩] [34, 35, 36])))
    (.region [⟨(some 26), (.mov (.t 8)), none, []⟩,
      ⟨(some 27), (.bin .shr (.t 26) (.c (.i .u64 (1)))), none, []⟩,
      ⟨(some 8), (.mov (.t 27)), none, []⟩] [26, 27])))
def I84 : IFunc :=
  ⟨(.seq (.region [⟨(some 2), (.mov (.c (.i .u32 (0)))), none, []⟩,
      ⟨(some 3), (.mov (.c (.i .u32 (0)))), none, []⟩] [2, 3])
    (.seq (.region [⟨(some 4), (.mov (.c (.i .u32 (0)))), none, []⟩] [])
    (.seq (.seq (.region [⟨(some 5), (.mov (.c (.i .i64 (0)))), none, []⟩] [])
    (.block 0
      (.loop L84a)))
    (.seq (.region [⟨(some 6), (.mov (.c (.i .u32 (1)))), none, []⟩,
      ⟨(some 7), (.mov (.c (.i .u32 (16777619)))), none, []⟩] [5, 12])
    (.seq (.seq (.region [⟨(some 22), (.mov (.t 0)), none, []⟩,
      ⟨(some 23), (.lenk 1 (.t 22)), none, []⟩,
      ⟨(some 8), (.mov (.t 23)), none, []⟩] [0, 22, 23])
    (.block 2
      (.loop L84b)))
    (.seq (.region [⟨(some 37), (.mov (.t 4)), none, []⟩,
      ⟨(some 38), (.mov (.t 6)), none, []⟩,
      ⟨(some 2), (.mov (.t 37)), none, []⟩,
      ⟨(some 3), (.mov (.t 38)), none, []⟩] [4, 6, 7, 8, 25, 37, 38])
    .ret)))))),
    39, 1, [.t 2, .t 3], 2⟩
theorem tr84 : trFunc Tryd.prog [([], [2, 3]), ([], []), ([], []), ([], [9, 10, 11]), ([], [12]), ([], [15, 16, 17, 18, 19, 20, 21]), ([], [13, 14]), ([], [5, 12]), ([], [0, 22, 23]), ([], [24]), ([], [25]), ([], [28, 29]), ([], [30, 31, 32, 33]), ([], [30]), ([], [34, 35, 36]), ([], [26, 27]), ([], [4, 6, 7, 8, 25, 37, 38])] 1 Tryd.f84 = some (plain1 I84) := by kernel_rfl
theorem ck84 : ckC 2 I84.body = true := by kernel_rfl

def tab : List (Nat × IFunc) := [(3, I3), (4, I4), (6, I6), (7, I7), (8, I8), (9, I9), (10, I10), (11, I11), (12, I12), (13, I13), (14, I14), (15, I15), (16, I16), (17, I17), (18, I18), (19, I19), (20, I20), (21, I21), (22, I22), (23, I23), (24, I24), (25, I25), (26, I26), (27, I27), (28, I28), (29, I29), (30, I30), (31, I31), (32, I32), (33, I33), (34, I34), (35, I35), (36, I36), (37, I37), (38, I38), (39, I39), (40, I40), (41, I41), (42, I42), (43, I43), (44, I44), (45, I45), (46, I46), (47, I47), (48, I48), (49, I49), (50, I50), (51, I51), (52, I52), (53, I53), (54, I54), (55, I55), (56, I56), (57, I57), (58, I58), (59, I59), (60, I60), (61, I61), (62, I62), (63, I63), (64, I64), (65, I65), (66, I66), (67, I67), (68, I68), (69, I69), (70, I70), (71, I71), (72, I72), (73, I73), (74, I74), (75, I75), (76, I76), (77, I77), (78, I78), (79, I79), (81, I81), (82, I82), (83, I83), (84, I84)]
theorem tab_all : TabAll Tryd.prog (plainT tab) :=
  .cons Tryd.func3 tr3 <| .cons Tryd.func4 tr4 <| .cons Tryd.func6 tr6 <| .cons Tryd.func7 tr7 <| .cons Tryd.func8 tr8 <| .cons Tryd.func9 tr9 <| .cons Tryd.func10 tr10 <| .cons Tryd.func11 tr11 <| .cons Tryd.func12 tr12 <| .cons Tryd.func13 tr13 <| .cons Tryd.func14 tr14 <| .cons Tryd.func15 tr15 <| .cons Tryd.func16 tr16 <| .cons Tryd.func17 tr17 <| .cons Tryd.func18 tr18 <| .cons Tryd.func19 tr19 <| .cons Tryd.func20 tr20 <| .cons Tryd.func21 tr21 <| .cons Tryd.func22 tr22 <| .cons Tryd.func23 tr23 <| .cons Tryd.func24 tr24 <| .cons Tryd.func25 tr25 <| .cons Tryd.func26 tr26 <| .cons Tryd.func27 tr27 <| .cons Tryd.func28 tr28 <| .cons Tryd.func29 tr29 <| .cons Tryd.func30 tr30 <| .cons Tryd.func31 tr31 <| .cons Tryd.func32 tr32 <| .cons Tryd.func33 tr33 <| .cons Tryd.func34 tr34 <| .cons Tryd.func35 tr35 <| .cons Tryd.func36 tr36 <| .cons Tryd.func37 tr37 <| .cons Tryd.func38 tr38 <| .cons Tryd.func39 tr39 <| .cons Tryd.func40 tr40 <| .cons Tryd.func41 tr41 <| .cons Tryd.func42 tr42 <| .cons Tryd.func43 tr43 <| .cons Tryd.func44 tr44 <| .cons Tryd.func45 tr45 <| .cons Tryd.func46 tr46 <| .cons Tryd.func47 tr47 <| .cons Tryd.func48 tr48 <| .cons Tryd.func49 tr49 <| .cons Tryd.func50 tr50 <| .cons Tryd.func51 tr51 <| .cons Tryd.func52 tr52 <| .cons Tryd.func53 tr53 <| .cons Tryd.func54 tr54 <| .cons Tryd.func55 tr55 <| .cons Tryd.func56 tr56 <| .cons Tryd.func57 tr57 <| .cons Tryd.func58 tr58 <| .cons Tryd.func59 tr59 <| .cons Tryd.func60 tr60 <| .cons Tryd.func61 tr61 <| .cons Tryd.func62 tr62 <| .cons Tryd.func63 tr63 <| .cons Tryd.func64 tr64 <| .cons Tryd.func65 tr65 <| .cons Tryd.func66 tr66 <| .cons Tryd.func67 tr67 <| .cons Tryd.func68 tr68 <| .cons Tryd.func69 tr69 <| .cons Tryd.func70 tr70 <| .cons Tryd.func71 tr71 <| .cons Tryd.func72 tr72 <| .cons Tryd.func73 tr73 <| .cons Tryd.func74 tr74 <| .cons Tryd.func75 tr75 <| .cons Tryd.func76 tr76 <| .cons Tryd.func77 tr77 <| .cons Tryd.func78 tr78 <| .cons Tryd.func79 tr79 <| .cons Tryd.func81 tr81 <| .cons Tryd.func82 tr82 <| .ext Tryd.func83 (by kernel_rfl) (by kernel_rfl) (by kernel_rfl) (by kernel_rfl) <| .cons Tryd.func84 tr84 <| .nil
theorem ck_all : CkAll 2 tab :=
  .cons ck3 rfl <| .cons ck4 rfl <| .cons ck6 rfl <| .cons ck7 rfl <| .cons ck8 rfl <| .cons ck9 rfl <| .cons ck10 rfl <| .cons ck11 rfl <| .cons ck12 rfl <| .cons ck13 rfl <| .cons ck14 rfl <| .cons ck15 rfl <| .cons ck16 rfl <| .cons ck17 rfl <| .cons ck18 rfl <| .cons ck19 rfl <| .clone ck20 rfl <| .cons ck21 rfl <| .cons ck22 rfl <| .cons ck23 rfl <| .cons ck24 rfl <| .cons ck25 rfl <| .clone ck26 rfl <| .cons ck27 rfl <| .cons ck28 rfl <| .cons ck29 rfl <| .cons ck30 rfl <| .clone ck31 rfl <| .cons ck32 rfl <| .clone ck33 rfl <| .cons ck34 rfl <| .cons ck35 rfl <| .cons ck36 rfl <| .cons ck37 rfl <| .cons ck38 rfl <| .cons ck39 rfl <| .cons ck40 rfl <| .cons ck41 rfl <| .cons ck42 rfl <| .cons ck43 rfl <| .cons ck44 rfl <| .cons ck45 rfl <| .cons ck46 rfl <| .cons ck47 rfl <| .cons ck48 rfl <| .cons ck49 rfl <| .cons ck50 rfl <| .cons ck51 rfl <| .cons ck52 rfl <| .cons ck53 rfl <| .cons ck54 rfl <| .cons ck55 rfl <| .cons ck56 rfl <| .cons ck57 rfl <| .cons ck58 rfl <| .cons ck59 rfl <| .cons ck60 rfl <| .cons ck61 rfl <| .cons ck62 rfl <| .cons ck63 rfl <| .cons ck64 rfl <| .cons ck65 rfl <| .cons ck66 rfl <| .cons ck67 rfl <| .cons ck68 rfl <| .cons ck69 rfl <| .cons ck70 rfl <| .cons ck71 rfl <| .cons ck72 rfl <| .cons ck73 rfl <| .cons ck74 rfl <| .cons ck75 rfl <| .cons ck76 rfl <| .cons ck77 rfl <| .cons ck78 rfl <| .cons ck79 rfl <| .cons ck81 rfl <| .cons ck82 rfl <| .ext <| .cons ck84 rfl <| .nil
def IP : FuncId → Option IFunc := tabIP tab
theorem IP_ok : TabOK Tryd.prog (plainP IP) := tab_all.plain
theorem IP_ck : TabCk 2 IP := ck_all.ck
theorem ip3 : IP 3 = some I3 := rfl
theorem ip4 : IP 4 = some I4 := rfl
theorem ip6 : IP 6 = some I6 := rfl
theorem ip7 : IP 7 = some I7 := rfl
theorem ip8 : IP 8 = some I8 := rfl
theorem ip9 : IP 9 = some I9 := rfl
theorem ip10 : IP 10 = some I10 := rfl
theorem ip11 : IP 11 = some I11 := rfl
theorem ip12 : IP 12 = some I12 := rfl
theorem ip13 : IP 13 = some I13 := rfl
theorem ip14 : IP 14 = some I14 := rfl
theorem ip15 : IP 15 = some I15 := rfl
theorem ip16 : IP 16 = some I16 := rfl
theorem ip17 : IP 17 = some I17 := rfl
theorem ip18 : IP 18 = some I18 := rfl
theorem ip19 : IP 19 = some I19 := rfl
theorem ip20 : IP 20 = some I20 := rfl
theorem ip21 : IP 21 = some I21 := rfl
theorem ip22 : IP 22 = some I22 := rfl
theorem ip23 : IP 23 = some I23 := rfl
theorem ip24 : IP 24 = some I24 := rfl
theorem ip25 : IP 25 = some I25 := rfl
theorem ip26 : IP 26 = some I26 := rfl
theorem ip27 : IP 27 = some I27 := rfl
theorem ip28 : IP 28 = some I28 := rfl
theorem ip29 : IP 29 = some I29 := rfl
theorem ip30 : IP 30 = some I30 := rfl
theorem ip31 : IP 31 = some I31 := rfl
theorem ip32 : IP 32 = some I32 := rfl
theorem ip33 : IP 33 = some I33 := rfl
theorem ip34 : IP 34 = some I34 := rfl
theorem ip35 : IP 35 = some I35 := rfl
theorem ip36 : IP 36 = some I36 := rfl
theorem ip37 : IP 37 = some I37 := rfl
theorem ip38 : IP 38 = some I38 := rfl
theorem ip39 : IP 39 = some I39 := rfl
theorem ip40 : IP 40 = some I40 := rfl
theorem ip41 : IP 41 = some I41 := rfl
theorem ip42 : IP 42 = some I42 := rfl
theorem ip43 : IP 43 = some I43 := rfl
theorem ip44 : IP 44 = some I44 := rfl
theorem ip45 : IP 45 = some I45 := rfl
theorem ip46 : IP 46 = some I46 := rfl
theorem ip47 : IP 47 = some I47 := rfl
theorem ip48 : IP 48 = some I48 := rfl
theorem ip49 : IP 49 = some I49 := rfl
theorem ip50 : IP 50 = some I50 := rfl
theorem ip51 : IP 51 = some I51 := rfl
theorem ip52 : IP 52 = some I52 := rfl
theorem ip53 : IP 53 = some I53 := rfl
theorem ip54 : IP 54 = some I54 := rfl
theorem ip55 : IP 55 = some I55 := rfl
theorem ip56 : IP 56 = some I56 := rfl
theorem ip57 : IP 57 = some I57 := rfl
theorem ip58 : IP 58 = some I58 := rfl
theorem ip59 : IP 59 = some I59 := rfl
theorem ip60 : IP 60 = some I60 := rfl
theorem ip61 : IP 61 = some I61 := rfl
theorem ip62 : IP 62 = some I62 := rfl
theorem ip63 : IP 63 = some I63 := rfl
theorem ip64 : IP 64 = some I64 := rfl
theorem ip65 : IP 65 = some I65 := rfl
theorem ip66 : IP 66 = some I66 := rfl
theorem ip67 : IP 67 = some I67 := rfl
theorem ip68 : IP 68 = some I68 := rfl
theorem ip69 : IP 69 = some I69 := rfl
theorem ip70 : IP 70 = some I70 := rfl
theorem ip71 : IP 71 = some I71 := rfl
theorem ip72 : IP 72 = some I72 := rfl
theorem ip73 : IP 73 = some I73 := rfl
theorem ip74 : IP 74 = some I74 := rfl
theorem ip75 : IP 75 = some I75 := rfl
theorem ip76 : IP 76 = some I76 := rfl
theorem ip77 : IP 77 = some I77 := rfl
theorem ip78 : IP 78 = some I78 := rfl
theorem ip79 : IP 79 = some I79 := rfl
theorem ip81 : IP 81 = some I81 := rfl
theorem ip82 : IP 82 = some I82 := rfl
theorem ip83 : IP 83 = some I83 := rfl
theorem ip84 : IP 84 = some I84 := rfl
@[simp] theorem pu6 {G : AHeap} {lo : Nat} {l : List AVal} {H : AHeap} : theCalls IP G lo 6 l H = given H ((snaps H l).bind (pureR IP G 6)) := calls_pureR ip6 rfl
@[simp] theorem pb6 : pureB IP 6 = true := rfl
@[simp] theorem pu7 {G : AHeap} {lo : Nat} {l : List AVal} {H : AHeap} : theCalls IP G lo 7 l H = given H ((snaps H l).bind (pureR IP G 7)) := calls_pureR ip7 rfl
@[simp] theorem pb7 : pureB IP 7 = true := rfl
@[simp] theorem pu8 {G : AHeap} {lo : Nat} {l : List AVal} {H : AHeap} : theCalls IP G lo 8 l H = given H ((snaps H l).bind (pureR IP G 8)) := calls_pureR ip8 rfl
@[simp] theorem pb8 : pureB IP 8 = true := rfl
@[simp] theorem pu9 {G : AHeap} {lo : Nat} {l : List AVal} {H : AHeap} : theCalls IP G lo 9 l H = given H ((snaps H l).bind (pureR IP G 9)) := calls_pureR ip9 rfl
@[simp] theorem pb9 : pureB IP 9 = true := rfl
@[simp] theorem pb10 : pureB IP 10 = true := rfl
@[simp] theorem pu11 {G : AHeap} {lo : Nat} {l : List AVal} {H : AHeap} : theCalls IP G lo 11 l H = given H ((snaps H l).bind (pureR IP G 11)) := calls_pureR ip11 rfl
@[simp] theorem pb11 : pureB IP 11 = true := rfl
@[simp] theorem pu12 {G : AHeap} {lo : Nat} {l : List AVal} {H : AHeap} : theCalls IP G lo 12 l H = given H ((snaps H l).bind (pureR IP G 12)) := calls_pureR ip12 rfl
@[simp] theorem pb12 : pureB IP 12 = true := rfl
@[simp] theorem pu13 {G : AHeap} {lo : Nat} {l : List AVal} {H : AHeap} : theCalls IP G lo 13 l H = given H ((snaps H l).bind (pureR IP G 13)) := calls_pureR ip13 rfl
@[simp] theorem pb13 : pureB IP 13 = true := rfl
@[simp] theorem pu14 {G : AHeap} {lo : Nat} {l : List AVal} {H : AHeap} : theCalls IP G lo 14 l H = given H ((snaps H l).bind (pureR IP G 14)) := calls_pureR ip14 rfl
@[simp] theorem pb14 : pureB IP 14 = true := rfl
@[simp] theorem pu15 {G : AHeap} {lo : Nat} {l : List AVal} {H : AHeap} : theCalls IP G lo 15 l H = given H ((snaps H l).bind (pureR IP G 15)) := calls_pureR ip15 rfl
@[simp] theorem pb15 : pureB IP 15 = true := rfl
@[simp] theorem pu16 {G : AHeap} {lo : Nat} {l : List AVal} {H : AHeap} : theCalls IP G lo 16 l H = given H ((snaps H l).bind (pureR IP G 16)) := calls_pureR ip16 rfl
@[simp] theorem pb16 : pureB IP 16 = true := rfl
@[simp] theorem pu17 {G : AHeap} {lo : Nat} {l : List AVal} {H : AHeap} : theCalls IP G lo 17 l H = given H ((snaps H l).bind (pureR IP G 17)) := calls_pureR ip17 rfl
@[simp] theorem pb17 : pureB IP 17 = true := rfl
@[simp] theorem pu18 {G : AHeap} {lo : Nat} {l : List AVal} {H : AHeap} : theCalls IP G lo 18 l H = given H ((snaps H l).bind (pureR IP G 18)) := calls_pureR ip18 rfl
@[simp] theorem pb18 : pureB IP 18 = true := rfl
@[simp] theorem pu19 {G : AHeap} {lo : Nat} {l : List AVal} {H : AHeap} : theCalls IP G lo 19 l H = given H ((snaps H l).bind (pureR IP G 19)) := calls_pureR ip19 rfl
@[simp] theorem pb19 : pureB IP 19 = true := rfl
@[simp] theorem pu20 {G : AHeap} {lo : Nat} {x : AVal} {H : AHeap} : theCalls IP G lo 20 [x] H = cloneV H 7 96 x := calls_clone ip20 rfl rfl
@[simp] theorem pb20 : pureB IP 20 = true := rfl
@[simp] theorem pu21 {G : AHeap} {lo : Nat} {l : List AVal} {H : AHeap} : theCalls IP G lo 21 l H = given H ((snaps H l).bind (pureR IP G 21)) := calls_pureR ip21 rfl
@[simp] theorem pb21 : pureB IP 21 = true := rfl
@[simp] theorem pu22 {G : AHeap} {lo : Nat} {l : List AVal} {H : AHeap} : theCalls IP G lo 22 l H = given H ((snaps H l).bind (pureR IP G 22)) := calls_pureR ip22 rfl
@[simp] theorem pb22 : pureB IP 22 = true := rfl
@[simp] theorem pu23 {G : AHeap} {lo : Nat} {l : List AVal} {H : AHeap} : theCalls IP G lo 23 l H = given H ((snaps H l).bind (pureR IP G 23)) := calls_pureR ip23 rfl
@[simp] theorem pb23 : pureB IP 23 = true := rfl
@[simp] theorem pu24 {G : AHeap} {lo : Nat} {l : List AVal} {H : AHeap} : theCalls IP G lo 24 l H = given H ((snaps H l).bind (pureR IP G 24)) := calls_pureR ip24 rfl
@[simp] theorem pb24 : pureB IP 24 = true := rfl
@[simp] theorem pu25 {G : AHeap} {lo : Nat} {l : List AVal} {H : AHeap} : theCalls IP G lo 25 l H = given H ((snaps H l).bind (pureR IP G 25)) := calls_pureR ip25 rfl
@[simp] theorem pb25 : pureB IP 25 = true := rfl
@[simp] theorem pu26 {G : AHeap} {lo : Nat} {x : AVal} {H : AHeap} : theCalls IP G lo 26 [x] H = cloneV H 5 80 x := calls_clone ip26 rfl rfl
@[simp] theorem pb26 : pureB IP 26 = true := rfl
@[simp] theorem pu27 {G : AHeap} {lo : Nat} {l : List AVal} {H : AHeap} : theCalls IP G lo 27 l H = given H ((snaps H l).bind (pureR IP G 27)) := calls_pureR ip27 rfl
@[simp] theorem pb27 : pureB IP 27 = true := rfl
@[simp] theorem pu28 {G : AHeap} {lo : Nat} {l : List AVal} {H : AHeap} : theCalls IP G lo 28 l H = given H ((snaps H l).bind (pureR IP G 28)) := calls_pureR ip28 rfl
@[simp] theorem pb28 : pureB IP 28 = true := rfl
@[simp] theorem pu29 {G : AHeap} {lo : Nat} {l : List AVal} {H : AHeap} : theCalls IP G lo 29 l H = given H ((snaps H l).bind (pureR IP G 29)) := calls_pureR ip29 rfl
@[simp] theorem pb29 : pureB IP 29 = true := rfl
@[simp] theorem pu30 {G : AHeap} {lo : Nat} {l : List AVal} {H : AHeap} : theCalls IP G lo 30 l H = given H ((snaps H l).bind (pureR IP G 30)) := calls_pureR ip30 rfl
@[simp] theorem pb30 : pureB IP 30 = true := rfl
@[simp] theorem pu31 {G : AHeap} {lo : Nat} {x : AVal} {H : AHeap} : theCalls IP G lo 31 [x] H = cloneV H 1 16 x := calls_clone ip31 rfl rfl
@[simp] theorem pb31 : pureB IP 31 = true := rfl
@[simp] theorem pb32 : pureB IP 32 = true := rfl
@[simp] theorem pu33 {G : AHeap} {lo : Nat} {x : AVal} {H : AHeap} : theCalls IP G lo 33 [x] H = cloneV H 5 80 x := calls_clone ip33 rfl rfl
@[simp] theorem pb33 : pureB IP 33 = true := rfl
@[simp] theorem pu34 {G : AHeap} {lo : Nat} {l : List AVal} {H : AHeap} : theCalls IP G lo 34 l H = given H ((snaps H l).bind (pureR IP G 34)) := calls_pureR ip34 rfl
@[simp] theorem pb34 : pureB IP 34 = true := rfl
@[simp] theorem pu35 {G : AHeap} {lo : Nat} {l : List AVal} {H : AHeap} : theCalls IP G lo 35 l H = given H ((snaps H l).bind (pureR IP G 35)) := calls_pureR ip35 rfl
@[simp] theorem pb35 : pureB IP 35 = true := rfl
@[simp] theorem pu36 {G : AHeap} {lo : Nat} {l : List AVal} {H : AHeap} : theCalls IP G lo 36 l H = given H ((snaps H l).bind (pureR IP G 36)) := calls_pureR ip36 rfl
@[simp] theorem pb36 : pureB IP 36 = true := rfl
@[simp] theorem pu37 {G : AHeap} {lo : Nat} {l : List AVal} {H : AHeap} : theCalls IP G lo 37 l H = given H ((snaps H l).bind (pureR IP G 37)) := calls_pureR ip37 rfl
@[simp] theorem pb37 : pureB IP 37 = true := rfl
@[simp] theorem pu38 {G : AHeap} {lo : Nat} {l : List AVal} {H : AHeap} : theCalls IP G lo 38 l H = given H ((snaps H l).bind (pureR IP G 38)) := calls_pureR ip38 rfl
@[simp] theorem pb38 : pureB IP 38 = true := rfl
@[simp] theorem pu39 {G : AHeap} {lo : Nat} {l : List AVal} {H : AHeap} : theCalls IP G lo 39 l H = given H ((snaps H l).bind (pureR IP G 39)) := calls_pureR ip39 rfl
@[simp] theorem pb39 : pureB IP 39 = true := rfl
@[simp] theorem pu40 {G : AHeap} {lo : Nat} {l : List AVal} {H : AHeap} : theCalls IP G lo 40 l H = given H ((snaps H l).bind (pureR IP G 40)) := calls_pureR ip40 rfl
@[simp] theorem pb40 : pureB IP 40 = true := rfl
@[simp] theorem pu41 {G : AHeap} {lo : Nat} {l : List AVal} {H : AHeap} : theCalls IP G lo 41 l H = given H ((snaps H l).bind (pureR IP G 41)) := calls_pureR ip41 rfl
@[simp] theorem pb41 : pureB IP 41 = true := rfl
@[simp] theorem pu42 {G : AHeap} {lo : Nat} {l : List AVal} {H : AHeap} : theCalls IP G lo 42 l H = given H ((snaps H l).bind (pureR IP G 42)) := calls_pureR ip42 rfl
@[simp] theorem pb42 : pureB IP 42 = true := rfl
@[simp] theorem pu43 {G : AHeap} {lo : Nat} {l : List AVal} {H : AHeap} : theCalls IP G lo 43 l H = given H ((snaps H l).bind (pureR IP G 43)) := calls_pureR ip43 rfl
@[simp] theorem pb43 : pureB IP 43 = true := rfl
@[simp] theorem pu44 {G : AHeap} {lo : Nat} {l : List AVal} {H : AHeap} : theCalls IP G lo 44 l H = given H ((snaps H l).bind (pureR IP G 44)) := calls_pureR ip44 rfl
@[simp] theorem pb44 : pureB IP 44 = true := rfl
@[simp] theorem pu45 {G : AHeap} {lo : Nat} {l : List AVal} {H : AHeap} : theCalls IP G lo 45 l H = given H ((snaps H l).bind (pureR IP G 45)) := calls_pureR ip45 rfl
@[simp] theorem pb45 : pureB IP 45 = true := rfl
@[simp] theorem pb46 : pureB IP 46 = true := rfl
@[simp] theorem pu47 {G : AHeap} {lo : Nat} {l : List AVal} {H : AHeap} : theCalls IP G lo 47 l H = given H ((snaps H l).bind (pureR IP G 47)) := calls_pureR ip47 rfl
@[simp] theorem pb47 : pureB IP 47 = true := rfl
@[simp] theorem pu48 {G : AHeap} {lo : Nat} {l : List AVal} {H : AHeap} : theCalls IP G lo 48 l H = given H ((snaps H l).bind (pureR IP G 48)) := calls_pureR ip48 rfl
@[simp] theorem pb48 : pureB IP 48 = true := rfl
@[simp] theorem pu49 {G : AHeap} {lo : Nat} {l : List AVal} {H : AHeap} : theCalls IP G lo 49 l H = given H ((snaps H l).bind (pureR IP G 49)) := calls_pureR ip49 rfl
@[simp] theorem pb49 : pureB IP 49 = true := rfl
@[simp] theorem pu50 {G : AHeap} {lo : Nat} {l : List AVal} {H : AHeap} : theCalls IP G lo 50 l H = given H ((snaps H l).bind (pureR IP G 50)) := calls_pureR ip50 rfl
@[simp] theorem pb50 : pureB IP 50 = true := rfl
@[simp] theorem pu51 {G : AHeap} {lo : Nat} {l : List AVal} {H : AHeap} : theCalls IP G lo 51 l H = given H ((snaps H l).bind (pureR IP G 51)) := calls_pureR ip51 rfl
@[simp] theorem pb51 : pureB IP 51 = true := rfl
@[simp] theorem pu52 {G : AHeap} {lo : Nat} {l : List AVal} {H : AHeap} : theCalls IP G lo 52 l H = given H ((snaps H l).bind (pureR IP G 52)) := calls_pureR ip52 rfl
@[simp] theorem pb52 : pureB IP 52 = true := rfl
@[simp] theorem pu53 {G : AHeap} {lo : Nat} {l : List AVal} {H : AHeap} : theCalls IP G lo 53 l H = given H ((snaps H l).bind (pureR IP G 53)) := calls_pureR ip53 rfl
@[simp] theorem pb53 : pureB IP 53 = true := rfl
@[simp] theorem pu54 {G : AHeap} {lo : Nat} {l : List AVal} {H : AHeap} : theCalls IP G lo 54 l H = given H ((snaps H l).bind (pureR IP G 54)) := calls_pureR ip54 rfl
@[simp] theorem pb54 : pureB IP 54 = true := rfl
@[simp] theorem pu55 {G : AHeap} {lo : Nat} {l : List AVal} {H : AHeap} : theCalls IP G lo 55 l H = given H ((snaps H l).bind (pureR IP G 55)) := calls_pureR ip55 rfl
@[simp] theorem pb55 : pureB IP 55 = true := rfl
@[simp] theorem pu56 {G : AHeap} {lo : Nat} {l : List AVal} {H : AHeap} : theCalls IP G lo 56 l H = given H ((snaps H l).bind (pureR IP G 56)) := calls_pureR ip56 rfl
@[simp] theorem pb56 : pureB IP 56 = true := rfl
@[simp] theorem pu57 {G : AHeap} {lo : Nat} {l : List AVal} {H : AHeap} : theCalls IP G lo 57 l H = given H ((snaps H l).bind (pureR IP G 57)) := calls_pureR ip57 rfl
@[simp] theorem pb57 : pureB IP 57 = true := rfl
@[simp] theorem pu58 {G : AHeap} {lo : Nat} {l : List AVal} {H : AHeap} : theCalls IP G lo 58 l H = given H ((snaps H l).bind (pureR IP G 58)) := calls_pureR ip58 rfl
@[simp] theorem pb58 : pureB IP 58 = true := rfl
@[simp] theorem pu59 {G : AHeap} {lo : Nat} {l : List AVal} {H : AHeap} : theCalls IP G lo 59 l H = given H ((snaps H l).bind (pureR IP G 59)) := calls_pureR ip59 rfl
@[simp] theorem pb59 : pureB IP 59 = true := rfl
@[simp] theorem pu60 {G : AHeap} {lo : Nat} {l : List AVal} {H : AHeap} : theCalls IP G lo 60 l H = given H ((snaps H l).bind (pureR IP G 60)) := calls_pureR ip60 rfl
@[simp] theorem pb60 : pureB IP 60 = true := rfl
@[simp] theorem pu61 {G : AHeap} {lo : Nat} {l : List AVal} {H : AHeap} : theCalls IP G lo 61 l H = given H ((snaps H l).bind (pureR IP G 61)) := calls_pureR ip61 rfl
@[simp] theorem pb61 : pureB IP 61 = true := rfl
@[simp] theorem pu62 {G : AHeap} {lo : Nat} {l : List AVal} {H : AHeap} : theCalls IP G lo 62 l H = given H ((snaps H l).bind (pureR IP G 62)) := calls_pureR ip62 rfl
@[simp] theorem pb62 : pureB IP 62 = true := rfl
@[simp] theorem pu63 {G : AHeap} {lo : Nat} {l : List AVal} {H : AHeap} : theCalls IP G lo 63 l H = given H ((snaps H l).bind (pureR IP G 63)) := calls_pureR ip63 rfl
@[simp] theorem pb63 : pureB IP 63 = true := rfl
@[simp] theorem pu64 {G : AHeap} {lo : Nat} {l : List AVal} {H : AHeap} : theCalls IP G lo 64 l H = given H ((snaps H l).bind (pureR IP G 64)) := calls_pureR ip64 rfl
@[simp] theorem pb64 : pureB IP 64 = true := rfl
@[simp] theorem pu65 {G : AHeap} {lo : Nat} {l : List AVal} {H : AHeap} : theCalls IP G lo 65 l H = given H ((snaps H l).bind (pureR IP G 65)) := calls_pureR ip65 rfl
@[simp] theorem pb65 : pureB IP 65 = true := rfl
@[simp] theorem pu66 {G : AHeap} {lo : Nat} {l : List AVal} {H : AHeap} : theCalls IP G lo 66 l H = given H ((snaps H l).bind (pureR IP G 66)) := calls_pureR ip66 rfl
@[simp] theorem pb66 : pureB IP 66 = true := rfl
@[simp] theorem pu67 {G : AHeap} {lo : Nat} {l : List AVal} {H : AHeap} : theCalls IP G lo 67 l H = given H ((snaps H l).bind (pureR IP G 67)) := calls_pureR ip67 rfl
@[simp] theorem pb67 : pureB IP 67 = true := rfl
@[simp] theorem pu68 {G : AHeap} {lo : Nat} {l : List AVal} {H : AHeap} : theCalls IP G lo 68 l H = given H ((snaps H l).bind (pureR IP G 68)) := calls_pureR ip68 rfl
@[simp] theorem pb68 : pureB IP 68 = true := rfl
@[simp] theorem pu69 {G : AHeap} {lo : Nat} {l : List AVal} {H : AHeap} : theCalls IP G lo 69 l H = given H ((snaps H l).bind (pureR IP G 69)) := calls_pureR ip69 rfl
@[simp] theorem pb69 : pureB IP 69 = true := rfl
@[simp] theorem pu70 {G : AHeap} {lo : Nat} {l : List AVal} {H : AHeap} : theCalls IP G lo 70 l H = given H ((snaps H l).bind (pureR IP G 70)) := calls_pureR ip70 rfl
@[simp] theorem pb70 : pureB IP 70 = true := rfl
@[simp] theorem pu71 {G : AHeap} {lo : Nat} {l : List AVal} {H : AHeap} : theCalls IP G lo 71 l H = given H ((snaps H l).bind (pureR IP G 71)) := calls_pureR ip71 rfl
@[simp] theorem pb71 : pureB IP 71 = true := rfl
@[simp] theorem pu72 {G : AHeap} {lo : Nat} {l : List AVal} {H : AHeap} : theCalls IP G lo 72 l H = given H ((snaps H l).bind (pureR IP G 72)) := calls_pureR ip72 rfl
@[simp] theorem pb72 : pureB IP 72 = true := rfl
@[simp] theorem pu73 {G : AHeap} {lo : Nat} {l : List AVal} {H : AHeap} : theCalls IP G lo 73 l H = given H ((snaps H l).bind (pureR IP G 73)) := calls_pureR ip73 rfl
@[simp] theorem pb73 : pureB IP 73 = true := rfl
@[simp] theorem pu74 {G : AHeap} {lo : Nat} {l : List AVal} {H : AHeap} : theCalls IP G lo 74 l H = given H ((snaps H l).bind (pureR IP G 74)) := calls_pureR ip74 rfl
@[simp] theorem pb74 : pureB IP 74 = true := rfl
@[simp] theorem pu75 {G : AHeap} {lo : Nat} {l : List AVal} {H : AHeap} : theCalls IP G lo 75 l H = given H ((snaps H l).bind (pureR IP G 75)) := calls_pureR ip75 rfl
@[simp] theorem pb75 : pureB IP 75 = true := rfl
@[simp] theorem pu76 {G : AHeap} {lo : Nat} {l : List AVal} {H : AHeap} : theCalls IP G lo 76 l H = given H ((snaps H l).bind (pureR IP G 76)) := calls_pureR ip76 rfl
@[simp] theorem pb76 : pureB IP 76 = true := rfl
@[simp] theorem pu77 {G : AHeap} {lo : Nat} {l : List AVal} {H : AHeap} : theCalls IP G lo 77 l H = given H ((snaps H l).bind (pureR IP G 77)) := calls_pureR ip77 rfl
@[simp] theorem pb77 : pureB IP 77 = true := rfl
@[simp] theorem pu78 {G : AHeap} {lo : Nat} {l : List AVal} {H : AHeap} : theCalls IP G lo 78 l H = given H ((snaps H l).bind (pureR IP G 78)) := calls_pureR ip78 rfl
@[simp] theorem pb78 : pureB IP 78 = true := rfl
@[simp] theorem pu79 {G : AHeap} {lo : Nat} {l : List AVal} {H : AHeap} : theCalls IP G lo 79 l H = given H ((snaps H l).bind (pureR IP G 79)) := calls_pureR ip79 rfl
@[simp] theorem pb79 : pureB IP 79 = true := rfl
@[simp] theorem pu81 {G : AHeap} {lo : Nat} {l : List AVal} {H : AHeap} : theCalls IP G lo 81 l H = given H ((snaps H l).bind (pureR IP G 81)) := calls_pureR ip81 rfl
@[simp] theorem pb81 : pureB IP 81 = true := rfl
@[simp] theorem pu82 {G : AHeap} {lo : Nat} {l : List AVal} {H : AHeap} : theCalls IP G lo 82 l H = given H ((snaps H l).bind (pureR IP G 82)) := calls_pureR ip82 rfl
@[simp] theorem pb82 : pureB IP 82 = true := rfl
@[simp] theorem pu83 {G : AHeap} {lo : Nat} {l : List AVal} {H : AHeap} : theCalls IP G lo 83 l H = given H (idxB l) := calls_ext ip83 rfl rfl
@[simp] theorem pb83 : pureB IP 83 = true := rfl
@[simp] theorem pu84 {G : AHeap} {lo : Nat} {l : List AVal} {H : AHeap} : theCalls IP G lo 84 l H = given H ((snaps H l).bind (pureR IP G 84)) := calls_pureR ip84 rfl
@[simp] theorem pb84 : pureB IP 84 = true := rfl
end Go.Proofs.YtghhbelpkckmaaaDoor

