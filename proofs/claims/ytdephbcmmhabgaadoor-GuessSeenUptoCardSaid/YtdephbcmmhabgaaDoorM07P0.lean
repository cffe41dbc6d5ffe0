import Derived.Test.YtdephbcmmhabgaaDoorRows
import Derived.Test.YtdephbcmmhabgaaDoorM06
set_option linter.unusedVariables false
set_option linter.unusedSimpArgs false
set_option linter.unusedSectionVars false
/- The functions that the statement reaches, as the interpreter has them, with modes. Conditions: none. -/
namespace Go.Proofs.YtdephbcmmhabgaaDoor
open Go Go.RI

/-- 'encore/encorelaw22.GuessChecks'. -/
def L4a : ICode :=
  (.seq (.seq (.region [⟨(some 49), (.mov (.t 10)), none, []⟩,
      ⟨(some 50), (.off (.t 5) 4), none, []⟩,
      ⟨(some 51), (.load none (.t 50)), none, []⟩,
      ⟨(some 52), (.lenk 0 (.t 51)), none, []⟩,
      ⟨(some 53), (.bin .lss (.t 49) (.t 52)), none, []⟩] [49, 50, 51, 52])
    (.cond (.t 53)
      (.region [] [53])
      (.exit 0)))
    (.seq (.block 1
      (.seq (.region [⟨(some 56), (.off (.t 5) 4), none, []⟩,
        ⟨(some 57), (.load none (.t 56)), none, []⟩,
        ⟨(some 58), (.mov (.t 10)), none, []⟩,
        ⟨(some 59), (.iaddr 5 (.t 57) (.t 58)), none, []⟩,
        ⟨(some 60), (.off (.t 59) 0), none, []⟩,
        ⟨(some 61), (.load none (.t 60)), none, []⟩,
        ⟨(some 62), (.bin .eql (.t 61) (.c (.i .i64 (40)))), none, []⟩,
        ⟨(some 63), (.mov (.t 62)), none, []⟩,
        ⟨(some 64), (.off (.t 5) 4), (some (63, true)), []⟩,
        ⟨(some 65), (.load none (.t 64)), (some (63, true)), []⟩,
        ⟨(some 66), (.mov (.t 10)), (some (63, true)), []⟩,
        ⟨(some 67), (.iaddr 5 (.t 65) (.t 66)), (some (63, true)), []⟩,
        ⟨(some 68), (.off (.t 67) 2), (some (63, true)), []⟩,
        ⟨(some 69), (.load none (.t 68)), (some (63, true)), []⟩,
        ⟨(some 70), (.lenk 0 (.t 69)), (some (63, true)), []⟩,
        ⟨(some 71), (.bin .eql (.t 70) (.c (.i .i64 (1)))), (some (63, true)), []⟩,
        ⟨(some 72), (.pick (.t 63) (.t 71) (.c (.b false))), none, []⟩,
        ⟨(some 73), (.mov (.t 72)), none, []⟩,
        ⟨(some 74), (.off (.t 5) 4), (some (73, true)), []⟩,
        ⟨(some 75), (.load none (.t 74)), (some (73, true)), []⟩,
        ⟨(some 76), (.mov (.t 10)), (some (73, true)), []⟩,
        ⟨(some 77), (.iaddr 5 (.t 75) (.t 76)), (some (73, true)), []⟩,
        ⟨(some 78), (.off (.t 77) 2), (some (73, true)), []⟩,
        ⟨(some 79), (.load none (.t 78)), (some (73, true)), []⟩,
        ⟨(some 80), (.iaddr 7 (.t 79) (.c (.i .i64 (0)))), (some (73, true)), []⟩,
        ⟨(some 81), (.off (.t 80) 0), (some (73, true)), []⟩,
        ⟨(some 82), (.load none (.t 81)), (some (73, true)), []⟩,
        ⟨(some 83), (.bin .eql (.t 82) (.c (.i .i64 (1)))), (some (73, true)), []⟩,
        ⟨(some 84), (.pick (.t 73) (.t 83) (.c (.b false))), none, []⟩] [56, 57, 58, 59, 60, 61, 62, 63, 64, 65, 66, 67, 68, 69, 70, 71, 72, 73, 74, 75, 76, 77, 78, 79, 80, 81, 82, 83])
      (.cond (.t 84)
        (.region [⟨(some 85), (.mov (.t 9)), none, []⟩,
          ⟨(some 86), (.off (.t 5) 4), none, []⟩,
          ⟨(some 87), (.load none (.t 86)), none, []⟩,
          ⟨(some 88), (.mov (.t 10)), none, []⟩,
          ⟨(some 89), (.iaddr 5 (.t 87) (.t 88)), none, []⟩,
          ⟨(some 90), (.off (.t 89) 2), none, []⟩,
          ⟨(some 91), (.load none (.t 90)), none, []⟩,
          ⟨(some 92), (.iaddr 7 (.t 91) (.c (.i .i64 (0)))), none, []⟩,
          ⟨(some 93), (.off (.t 92) 1), none, []⟩,
          ⟨(some 94), (.load none (.t 93)), none, []⟩,
          ⟨(some 95), (.call 20 [(.t 94), (.c (.i .i64 (64)))]), none, []⟩,
          ⟨(some 96), (.iaddr 1 (.t 85) (.t 95)), none, []⟩,
          ⟨(some 97), (.load none (.t 96)), none, []⟩,
          ⟨(some 98), (.bin .add (.t 97) (.c (.i .i64 (1)))), none, []⟩,
          ⟨(some 99), (.iaddr 1 (.t 85) (.t 95)), none, []⟩,
          ⟨none, (.store 1 (.t 99) (.t 98)), none, []⟩] [84, 85, 86, 87, 88, 89, 90, 91, 92, 93, 94, 95, 96, 97, 98, 99])
        (.region [] [84]))))
    (.region [⟨(some 54), (.mov (.t 10)), none, []⟩,
      ⟨(some 55), (.bin .add (.t 54) (.c (.i .i64 (1)))), none, []⟩,
      ⟨(some 10), (.mov (.t 55)), none, []⟩] [54, 55])))
def L4b : ICode :=
  (.seq (.seq (.region [⟨(some 100), (.mov (.t 11)), none, []⟩,
      ⟨(some 101), (.off (.t 2) 4), none, []⟩,
      ⟨(some 102), (.load none (.t 101)), none, []⟩,
      ⟨(some 103), (.lenk 0 (.t 102)), none, []⟩,
      ⟨(some 104), (.bin .lss (.t 100) (.t 103)), none, []⟩] [100, 101, 102, 103])
    (.cond (.t 104)
      (.region [] [104])
      (.exit 2)))
    (.seq (.block 3
      (.seq (.region [⟨(some 107), (.off (.t 2) 4), none, []⟩,
        ⟨(some 108), (.load none (.t 107)), none, []⟩,
        ⟨(some 109), (.mov (.t 11)), none, []⟩,
        ⟨(some 110), (.iaddr 5 (.t 108) (.t 109)), none, []⟩,
        ⟨(some 111), (.off (.t 110) 0), none, []⟩,
        ⟨(some 112), (.load none (.t 111)), none, []⟩,
        ⟨(some 113), (.bin .eql (.t 112) (.c (.i .i64 (40)))), none, []⟩,
        ⟨(some 114), (.mov (.t 113)), none, []⟩,
        ⟨(some 115), (.off (.t 2) 4), (some (114, true)), []⟩,
        ⟨(some 116), (.load none (.t 115)), (some (114, true)), []⟩,
        ⟨(some 117), (.mov (.t 11)), (some (114, true)), []⟩,
        ⟨(some 118), (.iaddr 5 (.t 116) (.t 117)), (some (114, true)), []⟩,
        ⟨(some 119), (.off (.t 118) 2), (some (114, true)), []⟩,
        ⟨(some 120), (.load none (.t 119)), (some (114, true)), []⟩,
        ⟨(some 121), (.lenk 0 (.t 120)), (some (114, true)), []⟩,
        ⟨(some 122), (.bin .eql (.t 121) (.c (.i .i64 (1)))), (some (114, true)), []⟩,
        ⟨(some 123), (.pick (.t 114) (.t 122) (.c (.b false))), none, []⟩,
        ⟨(some 124), (.mov (.t 123)), none, []⟩,
        ⟨(some 125), (.off (.t 2) 4), (some (124, true)), []⟩,
        ⟨(some 126), (.load none (.t 125)), (some (124, true)), []⟩,
        ⟨(some 127), (.mov (.t 11)), (some (124, true)), []⟩,
        ⟨(some 128), (.iaddr 5 (.t 126) (.t 127)), (some (124, true)), []⟩,
        ⟨(some 129), (.off (.t 128) 2), (some (124, true)), []⟩,
        ⟨(some 130), (.load none (.t 129)), (some (124, true)), []⟩,
        ⟨(some 131), (.iaddr 7 (.t 130) (.c (.i .i64 (0)))), (some (124, true)), []⟩,
        ⟨(some 132), (.off (.t 131) 0), (some (124, true)), []⟩,
        ⟨(some 133), (.load none (.t 132)), (some (124, true)), []⟩,
        ⟨(some 134), (.bin .eql (.t 133) (.c (.i .i64 (1)))), (some (124, true)), []⟩,
        ⟨(some 135), (.pick (.t 124) (.t 134) (.c (.b false))), none, []⟩] [107, 108, 109, 110, 111, 112, 113, 114, 115, 116, 117, 118, 119, 120, 121, 122, 123, 124, 125, 126, 127, 128, 129, 130, 131, 132, 133, 134])
      (.cond (.t 135)
        (.region [⟨(some 136), (.mov (.t 9)), none, []⟩,
          ⟨(some 137), (.off (.t 2) 4), none, []⟩,
          ⟨(some 138), (.load none (.t 137)), none, []⟩,
          ⟨(some 139), (.mov (.t 11)), none, []⟩,
          ⟨(some 140), (.iaddr 5 (.t 138) (.t 139)), none, []⟩,
          ⟨(some 141), (.off (.t 140) 2), none, []⟩,
          ⟨(some 142), (.load none (.t 141)), none, []⟩,
          ⟨(some 143), (.iaddr 7 (.t 142) (.c (.i .i64 (0)))), none, []⟩,
          ⟨(some 144), (.off (.t 143) 1), none, []⟩,
          ⟨(some 145), (.load none (.t 144)), none, []⟩,
          ⟨(some 146), (.call 20 [(.t 145), (.c (.i .i64 (64)))]), none, []⟩,
          ⟨(some 147), (.iaddr 1 (.t 136) (.t 146)), none, []⟩,
          ⟨(some 148), (.load none (.t 147)), none, []⟩,
          ⟨(some 149), (.bin .sub (.t 148) (.c (.i .i64 (1)))), none, []⟩,
          ⟨(some 150), (.iaddr 1 (.t 136) (.t 146)), none, []⟩,
          ⟨none, (.store 1 (.t 150) (.t 149)), none, []⟩] [135, 136, 137, 138, 139, 140, 141, 142, 143, 144, 145, 146, 147, 148, 149, 150])
        (.region [] [135]))))
    (.region [⟨(some 105), (.mov (.t 11)), none, []⟩,
      ⟨(some 106), (.bin .add (.t 105) (.c (.i .i64 (1)))), none, []⟩,
      ⟨(some 11), (.mov (.t 106)), none, []⟩] [105, 106])))
def L4c : ICode :=
  (.seq (.seq (.region [⟨(some 151), (.mov (.t 12)), none, []⟩,
      ⟨(some 152), (.mov (.t 9)), none, []⟩,
      ⟨(some 153), (.lenk 0 (.t 152)), none, []⟩,
      ⟨(some 154), (.bin .lss (.t 151) (.t 153)), none, []⟩] [151, 152, 153])
    (.cond (.t 154)
      (.region [] [154])
      (.exit 4)))
    (.seq (.block 5
      (.seq (.region [⟨(some 157), (.mov (.t 9)), none, []⟩,
        ⟨(some 158), (.mov (.t 12)), none, []⟩,
        ⟨(some 159), (.iaddr 1 (.t 157) (.t 158)), none, []⟩,
        ⟨(some 160), (.load none (.t 159)), none, []⟩,
        ⟨(some 161), (.bin .lss (.t 160) (.c (.i .i64 (0)))), none, []⟩,
        ⟨(some 162), (.mov (.t 161)), none, []⟩,
        ⟨(some 163), (.mov (.t 9)), (some (162, false)), []⟩,
        ⟨(some 164), (.mov (.t 12)), (some (162, false)), []⟩,
        ⟨(some 165), (.iaddr 1 (.t 163) (.t 164)), (some (162, false)), []⟩,
        ⟨(some 166), (.load none (.t 165)), (some (162, false)), []⟩,
        ⟨(some 167), (.bin .gtr (.t 166) (.c (.i .i64 (1)))), (some (162, false)), []⟩,
        ⟨(some 168), (.pick (.t 162) (.c (.b true)) (.t 167)), none, []⟩] [157, 158, 159, 160, 161, 162, 163, 164, 165, 166, 167])
      (.cond (.t 168)
        (.seq (.region [⟨(some 4), (.mov (.c (.b false))), none, []⟩] [2, 5, 7, 9, 12, 168])
        .ret)
        (.region [] [168]))))
    (.region [⟨(some 155), (.mov (.t 12)), none, []⟩,
      ⟨(some 156), (.bin .add (.t 155) (.c (.i .i64 (1)))), none, []⟩,
      ⟨(some 12), (.mov (.t 156)), none, []⟩] [155, 156])))
def I4 : IFunc :=
  ⟨(.seq (.region [⟨(some 2), (.box (.t 0)), none, []⟩,
      ⟨(some 4), (.mov (.c (.b false))), none, []⟩] [0, 4])
    (.seq (.seq (.region [⟨(some 13), (.call 17 []), none, []⟩,
      ⟨(some 14), (.un .not (.t 13)), none, []⟩] [13])
    (.cond (.t 14)
      (.seq (.region [⟨(some 4), (.mov (.c (.b false))), none, []⟩] [1, 2, 14])
      .ret)
      (.region [] [14])))
    (.seq (.region [⟨(some 16), (.load (some 16) (.t 2)), none, []⟩,
      ⟨(some 17), (.call 19 [(.t 16)]), none, []⟩,
      ⟨(some 18), (.mov (.t 1)), none, []⟩,
      ⟨(some 19), (.call 18 [(.t 17), (.t 18)]), none, []⟩,
      ⟨(some 15), (.mov (.t 19)), none, []⟩,
      ⟨(some 20), (.ext (.t 15) 0), none, []⟩,
      ⟨(some 21), (.ext (.t 15) 1), none, []⟩,
      ⟨(some 5), (.alloc [(.i .i64 (0)), (.i .i64 (0)), (.i .i64 (0)), (.i .i64 (0)), .ns, .ns, (.i .i64 (0)), (.i .i64 (0)), (.i .i64 (0)), (.i .i64 (0)), (.i .i64 (0)), (.i .i64 (0)), (.s []), .ns, .ns, (.i .i64 (0))]), none, []⟩,
      ⟨none, (.store 16 (.t 5) (.t 20)), none, []⟩,
      ⟨(some 6), (.mov (.t 21)), none, []⟩] [1, 16, 17, 18, 19, 15, 20, 21])
    (.seq (.region [⟨(some 23), (.load (some 16) (.t 2)), none, []⟩,
      ⟨(some 24), (.call 19 [(.t 23)]), none, []⟩,
      ⟨(some 25), (.call 18 [(.t 24), (.c .ns)]), none, []⟩,
      ⟨(some 22), (.mov (.t 25)), none, []⟩,
      ⟨(some 26), (.ext (.t 22) 0), none, []⟩,
      ⟨(some 27), (.ext (.t 22) 1), none, []⟩,
      ⟨(some 7), (.alloc [(.i .i64 (0)), (.i .i64 (0)), (.i .i64 (0)), (.i .i64 (0)), .ns, .ns, (.i .i64 (0)), (.i .i64 (0)), (.i .i64 (0)), (.i .i64 (0)), (.i .i64 (0)), (.i .i64 (0)), (.s []), .ns, .ns, (.i .i64 (0))]), none, []⟩,
      ⟨none, (.store 16 (.t 7) (.t 26)), none, []⟩,
      ⟨(some 8), (.mov (.t 27)), none, []⟩] [23, 24, 25, 22, 26, 27])
    (.seq (.seq (.region [⟨(some 28), (.mov (.t 6)), none, []⟩,
      ⟨(some 29), (.bin .neq (.t 28) (.c (.i .i64 (0)))), none, []⟩,
      ⟨(some 30), (.mov (.t 29)), none, []⟩,
      ⟨(some 31), (.mov (.t 8)), (some (30, false)), []⟩,
      ⟨(some 32), (.bin .neq (.t 31) (.c (.i .i64 (0)))), (some (30, false)), []⟩,
      ⟨(some 33), (.pick (.t 30) (.c (.b true)) (.t 32)), none, []⟩] [6, 28, 29, 30, 31, 32])
    (.cond (.t 33)
      (.seq (.region [⟨(some 34), (.off (.t 5) 4), none, []⟩,
        ⟨(some 35), (.load none (.t 34)), none, []⟩,
        ⟨(some 36), (.lenk 0 (.t 35)), none, []⟩,
        ⟨(some 37), (.bin .eql (.t 36) (.c (.i .i64 (0)))), none, []⟩,
        ⟨(some 38), (.mov (.t 37)), none, []⟩,
        ⟨(some 39), (.mov (.t 8)), (some (38, true)), []⟩,
        ⟨(some 40), (.bin .eql (.t 39) (.c (.i .i64 (0)))), (some (38, true)), []⟩,
        ⟨(some 41), (.mov (.t 40)), (some (38, true)), []⟩,
        ⟨(some 42), (.off (.t 7) 4), (some (41, false)), []⟩,
        ⟨(some 43), (.load none (.t 42)), (some (41, false)), []⟩,
        ⟨(some 44), (.lenk 0 (.t 43)), (some (41, false)), []⟩,
        ⟨(some 45), (.bin .eql (.t 44) (.c (.i .i64 (0)))), (some (41, false)), []⟩,
        ⟨(some 46), (.pick (.t 41) (.c (.b true)) (.t 45)), (some (38, true)), []⟩,
        ⟨(some 47), (.pick (.t 38) (.t 46) (.c (.b false))), none, []⟩,
        ⟨(some 4), (.mov (.t 47)), none, []⟩] [2, 5, 7, 8, 33, 34, 35, 36, 37, 38, 39, 40, 41, 42, 43, 44, 45, 46, 47])
      .ret)
      (.region [] [8, 33])))
    (.seq (.region [⟨(some 48), (.mksl 1 8 [(.i .i64 (0))] (.c (.i .i64 (64))) (.c (.i .i64 (64)))), none, []⟩,
      ⟨(some 9), (.mov (.t 48)), none, []⟩] [48])
    (.seq (.seq (.region [⟨(some 10), (.mov (.c (.i .i64 (0)))), none, []⟩] [])
    (.block 0
      (.loop L4a)))
    (.seq (.seq (.region [⟨(some 11), (.mov (.c (.i .i64 (0)))), none, []⟩] [10, 53])
    (.block 2
      (.loop L4b)))
    (.seq (.seq (.region [⟨(some 12), (.mov (.c (.i .i64 (0)))), none, []⟩] [11, 104])
    (.block 4
      (.loop L4c)))
    (.seq (.region [⟨(some 169), (.off (.t 7) 4), none, []⟩,
      ⟨(some 170), (.load none (.t 169)), none, []⟩,
      ⟨(some 171), (.lenk 0 (.t 170)), none, []⟩,
      ⟨(some 172), (.off (.t 2) 4), none, []⟩,
      ⟨(some 173), (.load none (.t 172)), none, []⟩,
      ⟨(some 174), (.lenk 0 (.t 173)), none, []⟩,
      ⟨(some 175), (.bin .eql (.t 171) (.t 174)), none, []⟩,
      ⟨(some 176), (.mov (.t 175)), none, []⟩,
      ⟨(some 177), (.off (.t 5) 4), (some (176, true)), []⟩,
      ⟨(some 178), (.load none (.t 177)), (some (176, true)), []⟩,
      ⟨(some 179), (.lenk 0 (.t 178)), (some (176, true)), []⟩,
      ⟨(some 180), (.off (.t 2) 4), (some (176, true)), []⟩,
      ⟨(some 181), (.load none (.t 180)), (some (176, true)), []⟩,
      ⟨(some 182), (.lenk 0 (.t 181)), (some (176, true)), []⟩,
      ⟨(some 183), (.bin .geq (.t 179) (.t 182)), (some (176, true)), []⟩,
      ⟨(some 184), (.pick (.t 176) (.t 183) (.c (.b false))), none, []⟩,
      ⟨(some 185), (.mov (.t 184)), none, []⟩,
      ⟨(some 186), (.off (.t 5) 4), (some (185, true)), []⟩,
      ⟨(some 187), (.load none (.t 186)), (some (185, true)), []⟩,
      ⟨(some 188), (.lenk 0 (.t 187)), (some (185, true)), []⟩,
      ⟨(some 189), (.off (.t 2) 4), (some (185, true)), []⟩,
      ⟨(some 190), (.load none (.t 189)), (some (185, true)), []⟩,
      ⟨(some 191), (.lenk 0 (.t 190)), (some (185, true)), []⟩,
      ⟨(some 192), (.off (.t 2) 3), (some (185, true)), []⟩,
      ⟨(some 193), (.load none (.t 192)), (some (185, true)), []⟩,
      ⟨(some 194), (.bin .add (.t 191) (.t 193)), (some (185, true)), []⟩,
      ⟨(some 195), (.bin .leq (.t 188) (.t 194)), (some (185, true)), []⟩,
      ⟨(some 196), (.pick (.t 185) (.t 195) (.c (.b false))), none, []⟩,
      ⟨(some 4), (.mov (.t 196)), none, []⟩] [2, 5, 7, 9, 12, 154, 169, 170, 171, 172, 173, 174, 175, 176, 177, 178, 179, 180, 181, 182, 183, 184, 185, 186, 187, 188, 189, 190, 191, 192, 193, 194, 195, 196])
    .ret)))))))))),
    197, 2, [.t 4], 0⟩
theorem tr4 : trFunc Tryd.prog [([], [0, 4]), ([], [13]), ([], [1, 2, 14]), ([], [14]), ([], [1, 16, 17, 18, 19, 15, 20, 21]), ([], [23, 24, 25, 22, 26, 27]), ([], [6, 28, 29, 30, 31, 32]), ([], [2, 5, 7, 8, 33, 34, 35, 36, 37, 38, 39, 40, 41, 42, 43, 44, 45, 46, 47]), ([], [8, 33]), ([], [48]), ([], []), ([], [49, 50, 51, 52]), ([], [53]), ([], [56, 57, 58, 59, 60, 61, 62, 63, 64, 65, 66, 67, 68, 69, 70, 71, 72, 73, 74, 75, 76, 77, 78, 79, 80, 81, 82, 83]), ([], [84, 85, 86, 87, 88, 89, 90, 91, 92, 93, 94, 95, 96, 97, 98, 99]), ([], [84]), ([], [54, 55]), ([], [10, 53]), ([], [100, 101, 102, 103]), ([], [104]), ([], [107, 108, 109, 110, 111, 112, 113, 114, 115, 116, 117, 118, 119, 120, 121, 122, 123, 124, 125, 126, 127, 128, 129, 130, 131, 132, 133, 134]), ([], [135, 136, 137, 138, 139, 140, 141, 142, 143, 144, 145, 146, 147, 148, 149, 150]), ([], [135]), ([], [105, 106]), ([], [11, 104]), ([], [151, 152, 153]), ([], [154]), ([], [157, 158, 159, 160, 161, 162, 163, 164, 165, 166, 167]), ([], [2, 5, 7, 9, 12, 168]), ([], [168]), ([], [155, 156]), ([], [2, 5, 7, 9, 12, 154, 169, 170, 171, 172, 173, 174, 175, 176, 177, 178, 179, 180, 181, 182, 183, 184, 185, 186, 187, 188, 189, 190, 191, 192, 193, 194, 195, 196])] 0 Tryd.f4 = some (plain1 I4) := by kernel_rfl
theorem ck4 : ckC 2 I4.body = true := by kernel_rfl

/-- 'encore/encorelaw22.GuessSeen'. -/
def L5a : ICode :=
  (.seq (.seq (.region [⟨(some 20), (.mov (.t 9)), none, []⟩,
      ⟨(some 21), (.mov (.t 0)), none, []⟩,
      ⟨(some 22), (.lenk 0 (.t 21)), none, []⟩,
      ⟨(some 23), (.bin .lss (.t 20) (.t 22)), none, []⟩,
      ⟨(some 24), (.mov (.t 23)), none, []⟩,
      ⟨(some 25), (.mov (.t 9)), (some (24, true)), []⟩,
      ⟨(some 26), (.bin .lss (.t 25) (.c (.i .i64 (40)))), (some (24, true)), []⟩,
      ⟨(some 27), (.pick (.t 24) (.t 26) (.c (.b false))), none, []⟩] [20, 21, 22, 23, 24, 25, 26])
    (.cond (.t 27)
      (.region [] [27])
      (.exit 0)))
    (.seq (.block 1
      (.seq (.region [⟨(some 30), (.mov (.t 7)), none, []⟩,
        ⟨(some 31), (.mov (.t 1)), none, []⟩,
        ⟨(some 32), (.mov (.t 2)), none, []⟩,
        ⟨(some 33), (.mov (.t 0)), none, []⟩,
        ⟨(some 34), (.mov (.t 9)), none, []⟩,
        ⟨(some 35), (.iaddr 1 (.t 33) (.t 34)), none, []⟩,
        ⟨(some 36), (.load none (.t 35)), none, []⟩,
        ⟨(some 37), (.call 8 [(.t 30), (.t 31), (.t 32), (.t 36)]), none, []⟩,
        ⟨(some 38), (.bin .eql (.t 37) (.c (.i .i64 (0)))), none, []⟩] [30, 31, 32, 33, 34, 35, 36, 37])
      (.cond (.t 38)
        (.region [⟨(some 39), (.mov (.t 8)), none, []⟩,
          ⟨(some 40), (.mov (.t 0)), none, []⟩,
          ⟨(some 41), (.mov (.t 9)), none, []⟩,
          ⟨(some 42), (.iaddr 1 (.t 40) (.t 41)), none, []⟩,
          ⟨(some 43), (.load none (.t 42)), none, []⟩,
          ⟨(some 44), (.bsl 1 1 [.ns] [(0, 1, (.t 43))]), none, []⟩,
          ⟨(some 45), (.app 1 24 (.t 39) (.t 44)), none, []⟩,
          ⟨(some 8), (.mov (.t 45)), none, []⟩] [38, 39, 40, 41, 42, 43, 44, 45])
        (.region [] [38]))))
    (.region [⟨(some 28), (.mov (.t 9)), none, []⟩,
      ⟨(some 29), (.bin .add (.t 28) (.c (.i .i64 (1)))), none, []⟩,
      ⟨(some 9), (.mov (.t 29)), none, []⟩] [28, 29])))
def L5b : ICode :=
  (.seq (.seq (.region [⟨(some 56), (.mov (.t 12)), none, []⟩,
      ⟨(some 57), (.mov (.t 8)), none, []⟩,
      ⟨(some 58), (.lenk 0 (.t 57)), none, []⟩,
      ⟨(some 59), (.bin .lss (.t 56) (.t 58)), none, []⟩,
      ⟨(some 60), (.mov (.t 59)), none, []⟩,
      ⟨(some 61), (.mov (.t 10)), (some (60, true)), []⟩,
      ⟨(some 62), (.mov (.t 11)), (some (60, true)), []⟩,
      ⟨(some 63), (.iaddr 1 (.t 61) (.t 62)), (some (60, true)), []⟩,
      ⟨(some 64), (.load none (.t 63)), (some (60, true)), []⟩,
      ⟨(some 65), (.bin .geq (.t 64) (.c (.i .i64 (0)))), (some (60, true)), []⟩,
      ⟨(some 66), (.pick (.t 60) (.t 65) (.c (.b false))), none, []⟩] [56, 57, 58, 59, 60, 61, 62, 63, 64, 65])
    (.cond (.t 66)
      (.region [] [66])
      (.exit 4)))
    (.seq (.block 5
      (.seq (.region [⟨(some 69), (.mov (.t 11)), none, []⟩,
        ⟨(some 70), (.mov (.t 8)), none, []⟩,
        ⟨(some 71), (.mov (.t 12)), none, []⟩,
        ⟨(some 72), (.iaddr 1 (.t 70) (.t 71)), none, []⟩,
        ⟨(some 73), (.load none (.t 72)), none, []⟩,
        ⟨(some 74), (.lenk 0 (.t 73)), none, []⟩,
        ⟨(some 75), (.bin .geq (.t 69) (.t 74)), none, []⟩,
        ⟨(some 76), (.mov (.t 75)), none, []⟩,
        ⟨(some 77), (.mov (.t 8)), (some (76, false)), []⟩,
        ⟨(some 78), (.mov (.t 12)), (some (76, false)), []⟩,
        ⟨(some 79), (.iaddr 1 (.t 77) (.t 78)), (some (76, false)), []⟩,
        ⟨(some 80), (.load none (.t 79)), (some (76, false)), []⟩,
        ⟨(some 81), (.mov (.t 11)), (some (76, false)), []⟩,
        ⟨(some 82), (.iaddr 5 (.t 80) (.t 81)), (some (76, false)), []⟩,
        ⟨(some 83), (.off (.t 82) 0), (some (76, false)), []⟩,
        ⟨(some 84), (.load none (.t 83)), (some (76, false)), []⟩,
        ⟨(some 85), (.mov (.t 10)), (some (76, false)), []⟩,
        ⟨(some 86), (.mov (.t 11)), (some (76, false)), []⟩,
        ⟨(some 87), (.iaddr 1 (.t 85) (.t 86)), (some (76, false)), []⟩,
        ⟨(some 88), (.load none (.t 87)), (some (76, false)), []⟩,
        ⟨(some 89), (.bin .neq (.t 84) (.t 88)), (some (76, false)), []⟩,
        ⟨(some 90), (.pick (.t 76) (.c (.b true)) (.t 89)), none, []⟩] [69, 70, 71, 72, 73, 74, 75, 76, 77, 78, 79, 80, 81, 82, 83, 84, 85, 86, 87, 88, 89])
      (.cond (.t 90)
        (.seq (.region [⟨(some 6), (.mov (.c (.b false))), none, []⟩] [1, 2, 7, 8, 10, 11, 12, 90])
        .ret)
        (.region [] [90]))))
    (.region [⟨(some 67), (.mov (.t 12)), none, []⟩,
      ⟨(some 68), (.bin .add (.t 67) (.c (.i .i64 (1)))), none, []⟩,
      ⟨(some 12), (.mov (.t 68)), none, []⟩] [67, 68])))
def L5c : ICode :=
  (.seq (.seq (.region [⟨(some 50), (.mov (.t 11)), none, []⟩,
      ⟨(some 51), (.mov (.t 10)), none, []⟩,
      ⟨(some 52), (.lenk 0 (.t 51)), none, []⟩,
      ⟨(some 53), (.bin .lss (.t 50) (.t 52)), none, []⟩] [50, 51, 52])
    (.cond (.t 53)
      (.region [] [53])
      (.exit 2)))
    (.seq (.block 3
      (.seq (.region [⟨(some 12), (.mov (.c (.i .i64 (0)))), none, []⟩] [])
      (.block 4
        (.loop L5b))))
    (.region [⟨(some 54), (.mov (.t 11)), none, []⟩,
      ⟨(some 55), (.bin .add (.t 54) (.c (.i .i64 (1)))), none, []⟩,
      ⟨(some 11), (.mov (.t 55)), none, []⟩] [12, 66, 54, 55])))
def I5 : IFunc :=
  ⟨(.seq (.region [⟨(some 6), (.mov (.c (.b false))), none, []⟩] [6])
    (.seq (.seq (.region [⟨(some 13), (.call 17 []), none, []⟩,
      ⟨(some 14), (.un .not (.t 13)), none, []⟩] [13])
    (.cond (.t 14)
      (.seq (.region [⟨(some 6), (.mov (.c (.b false))), none, []⟩] [0, 1, 2, 14])
      .ret)
      (.region [] [14])))
    (.seq (.region [⟨(some 15), (.mov (.t 1)), none, []⟩,
      ⟨(some 16), (.call 20 [(.t 15), (.c (.i .i64 (16)))]), none, []⟩,
      ⟨(some 17), (.mov (.t 2)), none, []⟩,
      ⟨(some 18), (.call 20 [(.t 17), (.c (.i .i64 (512)))]), none, []⟩,
      ⟨(some 1), (.mov (.t 16)), none, []⟩,
      ⟨(some 2), (.mov (.t 18)), none, []⟩] [15, 16, 17, 18])
    (.seq (.region [⟨(some 19), (.call 6 []), none, []⟩,
      ⟨(some 7), (.mov (.t 19)), none, []⟩] [19])
    (.seq (.region [⟨(some 8), (.mov (.c .ns)), none, []⟩] [])
    (.seq (.seq (.region [⟨(some 9), (.mov (.c (.i .i64 (0)))), none, []⟩] [])
    (.block 0
      (.loop L5a)))
    (.seq (.region [⟨(some 46), (.mov (.t 7)), none, []⟩,
      ⟨(some 47), (.mov (.t 1)), none, []⟩,
      ⟨(some 48), (.mov (.t 2)), none, []⟩,
      ⟨(some 49), (.call 12 [(.t 46), (.t 47), (.t 48)]), none, []⟩,
      ⟨(some 10), (.mov (.t 49)), none, []⟩] [0, 9, 27, 46, 47, 48, 49])
    (.seq (.seq (.region [⟨(some 11), (.mov (.c (.i .i64 (0)))), none, []⟩] [])
    (.block 2
      (.loop L5c)))
    (.seq (.region [⟨(some 91), (.mov (.t 7)), none, []⟩,
      ⟨(some 92), (.mov (.t 1)), none, []⟩,
      ⟨(some 93), (.mov (.t 2)), none, []⟩,
      ⟨(some 94), (.call 13 [(.t 91), (.t 92), (.t 93)]), none, []⟩,
      ⟨(some 95), (.mov (.t 8)), none, []⟩,
      ⟨(some 96), (.lenk 0 (.t 95)), none, []⟩,
      ⟨(some 97), (.bin .eql (.t 94) (.t 96)), none, []⟩,
      ⟨(some 98), (.mov (.t 97)), none, []⟩,
      ⟨(some 99), (.mov (.t 7)), (some (98, true)), []⟩,
      ⟨(some 100), (.mov (.t 1)), (some (98, true)), []⟩,
      ⟨(some 101), (.mov (.t 2)), (some (98, true)), []⟩,
      ⟨(some 102), (.bin .add (.t 101) (.c (.i .i64 (1)))), (some (98, true)), []⟩,
      ⟨(some 103), (.call 20 [(.t 102), (.c (.i .i64 (512)))]), (some (98, true)), []⟩,
      ⟨(some 104), (.call 13 [(.t 99), (.t 100), (.t 103)]), (some (98, true)), []⟩,
      ⟨(some 105), (.bin .eql (.t 104) (.c (.i .i64 (0)))), (some (98, true)), []⟩,
      ⟨(some 106), (.pick (.t 98) (.t 105) (.c (.b false))), none, []⟩,
      ⟨(some 6), (.mov (.t 106)), none, []⟩] [1, 2, 7, 8, 10, 11, 53, 91, 92, 93, 94, 95, 96, 97, 98, 99, 100, 101, 102, 103, 104, 105, 106])
    .ret))))))))),
    107, 3, [.t 6], 0⟩
theorem tr5 : trFunc Tryd.prog [([], [6]), ([], [13]), ([], [0, 1, 2, 14]), ([], [14]), ([], [15, 16, 17, 18]), ([], [19]), ([], []), ([], []), ([], [20, 21, 22, 23, 24, 25, 26]), ([], [27]), ([], [30, 31, 32, 33, 34, 35, 36, 37]), ([], [38, 39, 40, 41, 42, 43, 44, 45]), ([], [38]), ([], [28, 29]), ([], [0, 9, 27, 46, 47, 48, 49]), ([], []), ([], [50, 51, 52]), ([], [53]), ([], []), ([], [56, 57, 58, 59, 60, 61, 62, 63, 64, 65]), ([], [66]), ([0, 1, 2, 3, 4, 5, 6, 7, 8, 9, 10, 11, 12, 13, 14, 15, 16, 17, 18, 19, 20, 21], [69, 70, 71, 72, 73, 74, 75, 76, 77, 78, 79, 80, 81, 82, 83, 84, 85, 86, 87, 88, 89]), ([], [1, 2, 7, 8, 10, 11, 12, 90]), ([], [90]), ([], [67, 68]), ([], [12, 66, 54, 55]), ([], [1, 2, 7, 8, 10, 11, 53, 91, 92, 93, 94, 95, 96, 97, 98, 99, 100, 101, 102, 103, 104, 105, 106])] 0 Tryd.f5 = some (plain1 I5) := by kernel_rfl
theorem ck5 : ckC 2 I5.body = true := by kernel_rfl

/-- 'encore/guess.New'. -/
def I6 : IFunc :=
  ⟨(.seq (.region [⟨(some 0), (.mov (.c .np)), none, []⟩] [0])
    (.seq (.region [⟨(some 1), .mkmap, none, []⟩,
      ⟨(some 2), (.build [.nm] [(0, 1, (.t 1))]), none, []⟩,
      ⟨(some 3), (.box (.t 2)), none, []⟩,
      ⟨(some 0), (.mov (.t 3)), none, []⟩] [1, 2, 3])
    .ret)),
    4, 0, [.t 0], 0⟩
theorem tr6 : trFunc Tryd.prog [([], [0]), ([], [1, 2, 3])] 0 Tryd.f6 = some (plain1 I6) := by kernel_rfl
theorem ck6 : ckC 2 I6.body = true := by kernel_rfl

/-- '(*encore/guess.Profile).Note'. -/
def L8a : ICode :=
  (.seq (.region [⟨(some 42), (.bin .lss (.t 41) (.t 40)), none, []⟩] [])
    (.seq (.cond (.t 42)
      (.region [] [42])
      (.exit 0))
    (.seq (.block 1
      (.seq (.region [⟨(some 43), (.mov (.t 41)), none, []⟩,
        ⟨(some 44), (.iaddr 5 (.t 39) (.t 41)), none, []⟩,
        ⟨(some 45), (.load (some 5) (.t 44)), none, []⟩,
        ⟨(some 11), (.alloc [(.i .i64 (0)), (.i .i64 (0)), (.s []), .ns, .ns]), none, []⟩,
        ⟨(some 10), (.mov (.t 43)), none, []⟩,
        ⟨none, (.store 5 (.t 11) (.t 45)), none, []⟩] [43, 44, 45])
      (.seq (.seq (.region [⟨(some 46), (.load (some 5) (.t 11)), none, []⟩,
        ⟨(some 47), (.call 22 [(.t 46)]), none, []⟩,
        ⟨(some 48), (.bin .neq (.t 47) (.c (.i .i64 (0)))), none, []⟩] [46, 47])
      (.cond (.t 48)
        (.seq (.region [⟨(some 8), (.mov (.c (.i .i64 (2)))), none, []⟩] [0, 1, 2, 9, 39, 40, 41, 11, 10, 48])
        .ret)
        (.region [] [48])))
      (.region [⟨(some 49), (.mov (.t 9)), none, []⟩,
        ⟨(some 50), (.mov (.t 10)), none, []⟩,
        ⟨(some 51), (.off (.t 11) 0), none, []⟩,
        ⟨(some 52), (.load none (.t 51)), none, []⟩,
        ⟨(some 53), (.iaddr 1 (.t 49) (.t 50)), none, []⟩,
        ⟨none, (.store 1 (.t 53) (.t 52)), none, []⟩] [11, 10, 49, 50, 51, 52, 53]))))
    (.region [⟨(some 54), (.bin .add (.t 41) (.c (.i .i64 (1)))), none, []⟩,
      ⟨(some 41), (.mov (.t 54)), none, []⟩] [54]))))
def I8 : IFunc :=
  ⟨(.seq (.region [⟨(some 8), (.mov (.c (.i .i64 (0)))), none, []⟩] [8])
    (.seq (.seq (.region [⟨(some 15), (.mov (.t 0)), none, []⟩,
      ⟨(some 16), (.call 21 [(.t 15)]), none, []⟩] [15])
    (.cond (.t 16)
      (.seq (.region [⟨(some 8), (.mov (.c (.i .i64 (1)))), none, []⟩] [0, 1, 2, 3, 16])
      .ret)
      (.region [] [16])))
    (.seq (.seq (.region [⟨(some 17), (.mov (.t 1)), none, []⟩,
      ⟨(some 18), (.bin .lss (.t 17) (.c (.i .i64 (0)))), none, []⟩,
      ⟨(some 19), (.mov (.t 18)), none, []⟩,
      ⟨(some 20), (.mov (.t 1)), (some (19, false)), []⟩,
      ⟨(some 21), (.bin .geq (.t 20) (.c (.i .i64 (16)))), (some (19, false)), []⟩,
      ⟨(some 22), (.pick (.t 19) (.c (.b true)) (.t 21)), none, []⟩,
      ⟨(some 23), (.mov (.t 22)), none, []⟩,
      ⟨(some 24), (.mov (.t 2)), (some (23, false)), []⟩,
      ⟨(some 25), (.bin .lss (.t 24) (.c (.i .i64 (0)))), (some (23, false)), []⟩,
      ⟨(some 26), (.pick (.t 23) (.c (.b true)) (.t 25)), none, []⟩,
      ⟨(some 27), (.mov (.t 26)), none, []⟩,
      ⟨(some 28), (.mov (.t 2)), (some (27, false)), []⟩,
      ⟨(some 29), (.bin .geq (.t 28) (.c (.i .i64 (512)))), (some (27, false)), []⟩,
      ⟨(some 30), (.pick (.t 27) (.c (.b true)) (.t 29)), none, []⟩,
      ⟨(some 31), (.mov (.t 30)), none, []⟩,
      ⟨(some 32), (.mov (.t 3)), (some (31, false)), []⟩,
      ⟨(some 33), (.lenk 0 (.t 32)), (some (31, false)), []⟩,
      ⟨(some 34), (.bin .gtr (.t 33) (.c (.i .i64 (64)))), (some (31, false)), []⟩,
      ⟨(some 35), (.pick (.t 31) (.c (.b true)) (.t 34)), none, []⟩] [17, 18, 19, 20, 21, 22, 23, 24, 25, 26, 27, 28, 29, 30, 31, 32, 33, 34])
    (.cond (.t 35)
      (.seq (.region [⟨(some 8), (.mov (.c (.i .i64 (2)))), none, []⟩] [0, 1, 2, 3, 35])
      .ret)
      (.region [] [35])))
    (.seq (.region [⟨(some 36), (.mov (.t 3)), none, []⟩,
      ⟨(some 37), (.lenk 0 (.t 36)), none, []⟩,
      ⟨(some 38), (.mksl 1 8 [(.i .i64 (0))] (.t 37) (.t 37)), none, []⟩,
      ⟨(some 9), (.mov (.t 38)), none, []⟩] [36, 37, 38])
    (.seq (.seq (.region [⟨(some 39), (.mov (.t 3)), none, []⟩,
      ⟨(some 40), (.lenk 0 (.t 39)), none, []⟩,
      ⟨(some 41), (.mov (.c (.i .i64 (0)))), none, []⟩] [3])
    (.block 0
      (.loop L8a)))
    (.seq (.region [⟨(some 55), (.mov (.t 1)), none, []⟩,
      ⟨(some 56), (.mov (.t 2)), none, []⟩,
      ⟨(some 57), (.build [(.i .i64 (0)), (.i .i64 (0))] [(0, 1, (.t 55)), (1, 1, (.t 56))]), none, []⟩,
      ⟨(some 12), (.alloc [(.i .i64 (0)), (.i .i64 (0))]), none, []⟩,
      ⟨none, (.store 2 (.t 12) (.t 57)), none, []⟩] [1, 2, 39, 40, 41, 42, 55, 56, 57])
    (.seq (.region [⟨(some 59), (.mov (.t 0)), none, []⟩,
      ⟨(some 60), (.nck (.t 59)), none, []⟩,
      ⟨(some 61), (.off (.t 60) 0), none, []⟩,
      ⟨(some 62), (.load none (.t 61)), none, []⟩,
      ⟨(some 63), (.load (some 2) (.t 12)), none, []⟩,
      ⟨(some 64), (.look true [1, 1] (.ag [(.i .i64 (0)), .ns]) true (.t 62) (.t 63)), none, []⟩,
      ⟨(some 58), (.mov (.t 64)), none, []⟩,
      ⟨(some 65), (.ext (.t 58) 0), none, []⟩,
      ⟨(some 66), (.ext (.t 58) 1), none, []⟩,
      ⟨(some 13), (.alloc [(.i .i64 (0)), .ns]), none, []⟩,
      ⟨none, (.store 2 (.t 13) (.t 65)), none, []⟩,
      ⟨(some 14), (.mov (.t 66)), none, []⟩] [59, 60, 61, 62, 63, 64, 58, 65, 66])
    (.seq (.seq (.region [⟨(some 67), (.mov (.t 14)), none, []⟩] [14])
    (.cond (.t 67)
      (.region [⟨(some 68), (.off (.t 13) 1), none, []⟩,
        ⟨(some 69), (.load none (.t 68)), none, []⟩,
        ⟨(some 70), (.mov (.t 9)), none, []⟩,
        ⟨(some 71), (.call 23 [(.t 69), (.t 70)]), none, []⟩,
        ⟨(some 9), (.mov (.t 71)), none, []⟩] [67, 68, 69, 70, 71])
      (.region [] [67])))
    (.seq (.region [⟨(some 72), (.mov (.t 0)), none, []⟩,
      ⟨(some 73), (.nck (.t 72)), none, []⟩,
      ⟨(some 74), (.off (.t 73) 0), none, []⟩,
      ⟨(some 75), (.load none (.t 74)), none, []⟩,
      ⟨(some 76), (.load (some 2) (.t 12)), none, []⟩,
      ⟨(some 77), (.off (.t 13) 0), none, []⟩,
      ⟨(some 78), (.load none (.t 77)), none, []⟩,
      ⟨(some 79), (.bin .add (.t 78) (.c (.i .i64 (1)))), none, []⟩,
      ⟨(some 80), (.mov (.t 9)), none, []⟩,
      ⟨(some 81), (.build [(.i .i64 (0)), .ns] [(0, 1, (.t 79)), (1, 1, (.t 80))]), none, []⟩,
      ⟨none, (.mapup true [1, 1] (.t 75) (.t 76) (.t 81)), none, []⟩] [0, 9, 12, 13, 72, 73, 74, 75, 76, 77, 78, 79, 80, 81])
    (.seq (.region [⟨(some 8), (.mov (.c (.i .i64 (0)))), none, []⟩] [])
    .ret)))))))))),
    82, 4, [.t 8], 0⟩
theorem tr8 : trFunc Tryd.prog [([], [8]), ([], [15]), ([], [0, 1, 2, 3, 16]), ([], [16]), ([], [17, 18, 19, 20, 21, 22, 23, 24, 25, 26, 27, 28, 29, 30, 31, 32, 33, 34]), ([], [0, 1, 2, 3, 35]), ([], [35]), ([], [36, 37, 38]), ([], [3]), ([], []), ([], [42]), ([], [43, 44, 45]), ([], [46, 47]), ([], [0, 1, 2, 9, 39, 40, 41, 11, 10, 48]), ([], [48]), ([], [11, 10, 49, 50, 51, 52, 53]), ([], [54]), ([], [1, 2, 39, 40, 41, 42, 55, 56, 57]), ([0, 1, 2, 3, 4, 5, 6, 7, 8, 9, 10, 11], [59, 60, 61, 62, 63, 64, 58, 65, 66]), ([], [14]), ([], [67, 68, 69, 70, 71]), ([], [67]), ([0, 1, 2, 3, 4, 5, 6, 7, 8, 9, 10], [0, 9, 12, 13, 72, 73, 74, 75, 76, 77, 78, 79, 80, 81]), ([], [])] 0 Tryd.f8 = some (plain1 I8) := by kernel_rfl
theorem ck8 : ckC 2 I8.body = true := by kernel_rfl

/-- '(*encore/guess.Profile).Kinds'. -/
def I12 : IFunc :=
  ⟨(.seq (.region [⟨(some 6), (.mov (.c .ns)), none, []⟩] [6])
    (.seq (.seq (.region [⟨(some 7), (.mov (.t 0)), none, []⟩,
      ⟨(some 8), (.call 21 [(.t 7)]), none, []⟩] [7])
    (.cond (.t 8)
      (.seq (.region [⟨(some 6), (.mov (.c .ns)), none, []⟩] [0, 1, 2, 8])
      .ret)
      (.region [] [8])))
    (.seq (.region [⟨(some 9), (.mov (.t 0)), none, []⟩,
      ⟨(some 10), (.nck (.t 9)), none, []⟩,
      ⟨(some 11), (.off (.t 10) 0), none, []⟩,
      ⟨(some 12), (.load none (.t 11)), none, []⟩,
      ⟨(some 13), (.mov (.t 1)), none, []⟩,
      ⟨(some 14), (.mov (.t 2)), none, []⟩,
      ⟨(some 15), (.build [(.i .i64 (0)), (.i .i64 (0))] [(0, 1, (.t 13)), (1, 1, (.t 14))]), none, []⟩,
      ⟨(some 16), (.look true [1, 1] (.ag [(.i .i64 (0)), .ns]) false (.t 12) (.t 15)), none, []⟩,
      ⟨(some 17), (.part none (.t 16) 1), none, []⟩,
      ⟨(some 18), (.call 28 [(.t 17)]), none, []⟩,
      ⟨(some 6), (.mov (.t 18)), none, []⟩] [0, 1, 2, 9, 10, 11, 12, 13, 14, 15, 16, 17, 18])
    .ret))),
    19, 3, [.t 6], 0⟩
theorem tr12 : trFunc Tryd.prog [([], [6]), ([], [7]), ([], [0, 1, 2, 8]), ([], [8]), ([], [0, 1, 2, 9, 10, 11, 12, 13, 14, 15, 16, 17, 18])] 0 Tryd.f12 = some (plain1 I12) := by kernel_rfl
theorem ck12 : ckC 2 I12.body = true := by kernel_rfl

/-- '(*encore/guess.Profile).Count'. -/
def I13 : IFunc :=
  ⟨(.seq (.region [⟨(some 6), (.mov (.c (.i .i64 (0)))), none, []⟩] [6])
    (.seq (.seq (.region [⟨(some 7), (.mov (.t 0)), none, []⟩,
      ⟨(some 8), (.call 21 [(.t 7)]), none, []⟩] [7])
    (.cond (.t 8)
      (.seq (.region [⟨(some 6), (.mov (.c (.i .i64 (0)))), none, []⟩] [0, 1, 2, 8])
      .ret)
      (.region [] [8])))
    (.seq (.region [⟨(some 9), (.mov (.t 0)), none, []⟩,
      ⟨(some 10), (.nck (.t 9)), none, []⟩,
      ⟨(some 11), (.off (.t 10) 0), none, []⟩,
      ⟨(some 12), (.load none (.t 11)), none, []⟩,
      ⟨(some 13), (.mov (.t 1)), none, []⟩,
      ⟨(some 14), (.mov (.t 2)), none, []⟩,
      ⟨(some 15), (.build [(.i .i64 (0)), (.i .i64 (0))] [(0, 1, (.t 13)), (1, 1, (.t 14))]), none, []⟩,
      ⟨(some 16), (.look true [1, 1] (.ag [(.i .i64 (0)), .ns]) false (.t 12) (.t 15)), none, []⟩,
      ⟨(some 17), (.part none (.t 16) 0), none, []⟩,
      ⟨(some 6), (.mov (.t 17)), none, []⟩] [0, 1, 2, 9, 10, 11, 12, 13, 14, 15, 16, 17])
    .ret))),
    18, 3, [.t 6], 0⟩
theorem tr13 : trFunc Tryd.prog [([], [6]), ([], [7]), ([], [0, 1, 2, 8]), ([], [8]), ([], [0, 1, 2, 9, 10, 11, 12, 13, 14, 15, 16, 17])] 0 Tryd.f13 = some (plain1 I13) := by kernel_rfl
theorem ck13 : ckC 2 I13.body = true := by kernel_rfl

/-- 'encore/encoreref00.EqInts'. -/
def L15a : ICode :=
  (.seq (.seq (.region [⟨(some 11), (.mov (.t 5)), none, []⟩,
      ⟨(some 12), (.mov (.t 0)), none, []⟩,
      ⟨(some 13), (.lenk 0 (.t 12)), none, []⟩,
      ⟨(some 14), (.bin .lss (.t 11) (.t 13)), none, []⟩] [11, 12, 13])
    (.cond (.t 14)
      (.region [] [14])
      (.exit 0)))
    (.seq (.block 1
      (.seq (.region [⟨(some 17), (.mov (.t 0)), none, []⟩,
        ⟨(some 18), (.mov (.t 5)), none, []⟩,
        ⟨(some 19), (.iaddr 1 (.t 17) (.t 18)), none, []⟩,
        ⟨(some 20), (.load none (.t 19)), none, []⟩,
        ⟨(some 21), (.mov (.t 1)), none, []⟩,
        ⟨(some 22), (.mov (.t 5)), none, []⟩,
        ⟨(some 23), (.iaddr 1 (.t 21) (.t 22)), none, []⟩,
        ⟨(some 24), (.load none (.t 23)), none, []⟩,
        ⟨(some 25), (.bin .neq (.t 20) (.t 24)), none, []⟩] [17, 18, 19, 20, 21, 22, 23, 24])
      (.cond (.t 25)
        (.seq (.region [⟨(some 4), (.mov (.c (.b false))), none, []⟩] [0, 1, 5, 25])
        .ret)
        (.region [] [25]))))
    (.region [⟨(some 15), (.mov (.t 5)), none, []⟩,
      ⟨(some 16), (.bin .add (.t 15) (.c (.i .i64 (1)))), none, []⟩,
      ⟨(some 5), (.mov (.t 16)), none, []⟩] [15, 16])))
def I15 : IFunc :=
  ⟨(.seq (.region [⟨(some 4), (.mov (.c (.b false))), none, []⟩] [4])
    (.seq (.seq (.region [⟨(some 6), (.mov (.t 0)), none, []⟩,
      ⟨(some 7), (.lenk 0 (.t 6)), none, []⟩,
      ⟨(some 8), (.mov (.t 1)), none, []⟩,
      ⟨(some 9), (.lenk 0 (.t 8)), none, []⟩,
      ⟨(some 10), (.bin .neq (.t 7) (.t 9)), none, []⟩] [6, 7, 8, 9])
    (.cond (.t 10)
      (.seq (.region [⟨(some 4), (.mov (.c (.b false))), none, []⟩] [0, 1, 10])
      .ret)
      (.region [] [10])))
    (.seq (.seq (.region [⟨(some 5), (.mov (.c (.i .i64 (0)))), none, []⟩] [])
    (.block 0
      (.loop L15a)))
    (.seq (.region [⟨(some 4), (.mov (.c (.b true))), none, []⟩] [0, 1, 5, 14])
    .ret)))),
    26, 2, [.t 4], 2⟩
theorem tr15 : trFunc Tryd.prog [([], [4]), ([], [6, 7, 8, 9]), ([], [0, 1, 10]), ([], [10]), ([], []), ([], [11, 12, 13]), ([], [14]), ([0, 1, 2, 3, 4, 5, 6, 7, 8], [17, 18, 19, 20, 21, 22, 23, 24]), ([], [0, 1, 5, 25]), ([], [25]), ([], [15, 16]), ([], [0, 1, 5, 14])] 1 Tryd.f15 = some (plain1 I15) := by kernel_rfl
theorem ck15 : ckC 2 I15.body = true := by kernel_rfl

/-- 'encore/encorelaw22.works'. -/
def I17 : IFunc :=
  ⟨(.seq (.region [⟨(some 0), (.mov (.c (.b false))), none, []⟩] [0])
    (.seq (.region [⟨(some 7), (.call 33 [(.c (.i .i64 (0)))]), none, []⟩,
      ⟨(some 8), (.call 34 [(.c (.i .i64 (1)))]), none, []⟩,
      ⟨(some 9), (.call 32 [(.c (.i .i64 (9))), (.t 7), (.t 8)]), none, []⟩,
      ⟨(some 10), (.bsl 5 1 [(.i .i64 (0)), (.i .i64 (0)), .ns, (.s []), .ns] [(0, 5, (.t 9))]), none, []⟩,
      ⟨(some 11), (.call 31 [(.c (.i .i64 (2))), (.t 10)]), none, []⟩,
      ⟨(some 12), (.call 33 [(.c (.i .i64 (0)))]), none, []⟩,
      ⟨(some 13), (.call 35 [(.c (.i .i64 (40))), (.c (.i .i64 (1))), (.t 12)]), none, []⟩,
      ⟨(some 14), (.call 33 [(.c (.i .i64 (0)))]), none, []⟩,
      ⟨(some 15), (.call 34 [(.c (.i .i64 (1)))]), none, []⟩,
      ⟨(some 16), (.call 32 [(.c (.i .i64 (43))), (.t 14), (.t 15)]), none, []⟩,
      ⟨(some 17), (.bsl 5 2 [(.i .i64 (0)), (.i .i64 (0)), .ns, (.s []), .ns, (.i .i64 (0)), (.i .i64 (0)), .ns, (.s []), .ns] [(0, 5, (.t 13)), (5, 5, (.t 16))]), none, []⟩,
      ⟨(some 18), (.call 31 [(.c (.i .i64 (2))), (.t 17)]), none, []⟩,
      ⟨(some 19), (.bsl 1 1 [(.i .i64 (0))] [(0, 1, (.c (.i .i64 (1))))]), none, []⟩,
      ⟨(some 20), (.call 30 [(.t 11), (.t 18), (.t 19)]), none, []⟩,
      ⟨(some 1), (.mov (.t 20)), none, []⟩] [7, 8, 9, 10, 11, 12, 13, 14, 15, 16, 17, 18, 19, 20])
    (.seq (.region [⟨(some 21), (.call 33 [(.c (.i .i64 (0)))]), none, []⟩,
      ⟨(some 22), (.call 33 [(.c (.i .i64 (1)))]), none, []⟩,
      ⟨(some 23), (.call 32 [(.c (.i .i64 (9))), (.t 21), (.t 22)]), none, []⟩,
      ⟨(some 24), (.bsl 5 1 [(.i .i64 (0)), (.i .i64 (0)), .ns, (.s []), .ns] [(0, 5, (.t 23))]), none, []⟩,
      ⟨(some 25), (.call 31 [(.c (.i .i64 (2))), (.t 24)]), none, []⟩,
      ⟨(some 26), (.call 33 [(.c (.i .i64 (0)))]), none, []⟩,
      ⟨(some 27), (.call 35 [(.c (.i .i64 (40))), (.c (.i .i64 (1))), (.t 26)]), none, []⟩,
      ⟨(some 28), (.call 33 [(.c (.i .i64 (0)))]), none, []⟩,
      ⟨(some 29), (.call 33 [(.c (.i .i64 (1)))]), none, []⟩,
      ⟨(some 30), (.call 32 [(.c (.i .i64 (9))), (.t 28), (.t 29)]), none, []⟩,
      ⟨(some 31), (.bsl 5 2 [(.i .i64 (0)), (.i .i64 (0)), .ns, (.s []), .ns, (.i .i64 (0)), (.i .i64 (0)), .ns, (.s []), .ns] [(0, 5, (.t 27)), (5, 5, (.t 30))]), none, []⟩,
      ⟨(some 32), (.call 31 [(.c (.i .i64 (2))), (.t 31)]), none, []⟩,
      ⟨(some 33), (.bsl 1 2 [(.i .i64 (0)), (.i .i64 (0))] [(0, 1, (.c (.i .i64 (1)))), (1, 1, (.c (.i .i64 (-1))))]), none, []⟩,
      ⟨(some 34), (.call 30 [(.t 25), (.t 32), (.t 33)]), none, []⟩,
      ⟨(some 2), (.mov (.t 34)), none, []⟩] [21, 22, 23, 24, 25, 26, 27, 28, 29, 30, 31, 32, 33, 34])
    (.seq (.region [⟨(some 35), (.call 33 [(.c (.i .i64 (0)))]), none, []⟩,
      ⟨(some 36), (.call 35 [(.c (.i .i64 (8))), (.c (.i .i64 (0))), (.t 35)]), none, []⟩,
      ⟨(some 37), (.call 36 [(.c (.i .i64 (0)))]), none, []⟩,
      ⟨(some 38), (.call 33 [(.c (.i .i64 (1)))]), none, []⟩,
      ⟨(some 39), (.call 32 [(.c (.i .i64 (10))), (.t 37), (.t 38)]), none, []⟩,
      ⟨(some 40), (.call 33 [(.c (.i .i64 (0)))]), none, []⟩,
      ⟨(some 41), (.call 35 [(.c (.i .i64 (7))), (.c (.i .i64 (0))), (.t 40)]), none, []⟩,
      ⟨(some 42), (.bsl 5 3 [(.i .i64 (0)), (.i .i64 (0)), .ns, (.s []), .ns, (.i .i64 (0)), (.i .i64 (0)), .ns, (.s []), .ns, (.i .i64 (0)), (.i .i64 (0)), .ns, (.s []), .ns] [(0, 5, (.t 36)), (5, 5, (.t 39)), (10, 5, (.t 41))]), none, []⟩,
      ⟨(some 43), (.call 31 [(.c (.i .i64 (2))), (.t 42)]), none, []⟩,
      ⟨(some 44), (.call 33 [(.c (.i .i64 (0)))]), none, []⟩,
      ⟨(some 45), (.call 35 [(.c (.i .i64 (8))), (.c (.i .i64 (0))), (.t 44)]), none, []⟩,
      ⟨(some 46), (.call 33 [(.c (.i .i64 (1)))]), none, []⟩,
      ⟨(some 47), (.call 35 [(.c (.i .i64 (40))), (.c (.i .i64 (1))), (.t 46)]), none, []⟩,
      ⟨(some 48), (.call 36 [(.c (.i .i64 (0)))]), none, []⟩,
      ⟨(some 49), (.call 33 [(.c (.i .i64 (1)))]), none, []⟩,
      ⟨(some 50), (.call 32 [(.c (.i .i64 (44))), (.t 48), (.t 49)]), none, []⟩,
      ⟨(some 51), (.call 33 [(.c (.i .i64 (0)))]), none, []⟩,
      ⟨(some 52), (.call 35 [(.c (.i .i64 (7))), (.c (.i .i64 (0))), (.t 51)]), none, []⟩,
      ⟨(some 53), (.bsl 5 4 [(.i .i64 (0)), (.i .i64 (0)), .ns, (.s []), .ns, (.i .i64 (0)), (.i .i64 (0)), .ns, (.s []), .ns, (.i .i64 (0)), (.i .i64 (0)), .ns, (.s []), .ns, (.i .i64 (0)), (.i .i64 (0)), .ns, (.s []), .ns] [(0, 5, (.t 45)), (5, 5, (.t 47)), (10, 5, (.t 50)), (15, 5, (.t 52))]), none, []⟩,
      ⟨(some 54), (.call 31 [(.c (.i .i64 (2))), (.t 53)]), none, []⟩,
      ⟨(some 55), (.bsl 1 2 [(.i .i64 (0)), (.i .i64 (0))] [(0, 1, (.c (.i .i64 (4)))), (1, 1, (.c (.i .i64 (1))))]), none, []⟩,
      ⟨(some 56), (.call 30 [(.t 43), (.t 54), (.t 55)]), none, []⟩,
      ⟨(some 3), (.mov (.t 56)), none, []⟩] [35, 36, 37, 38, 39, 40, 41, 42, 43, 44, 45, 46, 47, 48, 49, 50, 51, 52, 53, 54, 55, 56])
    (.seq (.region [⟨(some 57), (.call 6 []), none, []⟩,
      ⟨(some 4), (.mov (.t 57)), none, []⟩] [57])
    (.seq (.region [⟨(some 58), (.mov (.t 4)), none, []⟩,
      ⟨(some 59), (.build [(.i .i64 (0)), (.i .i64 (0)), (.s []), .ns, .ns] [(0, 1, (.c (.i .i64 (1)))), (1, 1, (.c (.i .i64 (5))))]), none, []⟩,
      ⟨(some 60), (.build [(.i .i64 (0)), (.i .i64 (0)), (.s []), .ns, .ns] [(0, 1, (.c (.i .i64 (3)))), (2, 1, (.c (.s [97])))]), none, []⟩,
      ⟨(some 61), (.bsl 5 2 [(.i .i64 (0)), (.i .i64 (0)), (.s []), .ns, .ns, (.i .i64 (0)), (.i .i64 (0)), (.s []), .ns, .ns] [(0, 5, (.t 59)), (5, 5, (.t 60))]), none, []⟩,
      ⟨(some 62), (.call 8 [(.t 58), (.c (.i .i64 (0))), (.c (.i .i64 (3))), (.t 61)]), none, []⟩,
      ⟨(some 5), (.mov (.t 62)), none, []⟩] [58, 59, 60, 61, 62])
    (.seq (.region [⟨(some 63), (.mov (.t 4)), none, []⟩,
      ⟨(some 64), (.build [(.i .i64 (0)), (.i .i64 (0)), (.s []), .ns, .ns] [(0, 1, (.c (.i .i64 (1)))), (1, 1, (.c (.i .i64 (6))))]), none, []⟩,
      ⟨(some 65), (.build [(.i .i64 (0)), (.i .i64 (0)), (.s []), .ns, .ns] [(0, 1, (.c (.i .i64 (1)))), (1, 1, (.c (.i .i64 (7))))]), none, []⟩,
      ⟨(some 66), (.bsl 5 2 [(.i .i64 (0)), (.i .i64 (0)), (.s []), .ns, .ns, (.i .i64 (0)), (.i .i64 (0)), (.s []), .ns, .ns] [(0, 5, (.t 64)), (5, 5, (.t 65))]), none, []⟩,
      ⟨(some 67), (.call 8 [(.t 63), (.c (.i .i64 (0))), (.c (.i .i64 (3))), (.t 66)]), none, []⟩,
      ⟨(some 6), (.mov (.t 67)), none, []⟩] [63, 64, 65, 66, 67])
    (.seq (.region [⟨(some 68), (.mov (.t 1)), none, []⟩,
      ⟨(some 69), (.mov (.t 68)), none, []⟩,
      ⟨(some 70), (.mov (.t 2)), (some (69, true)), []⟩,
      ⟨(some 71), (.pick (.t 69) (.t 70) (.c (.b false))), none, []⟩,
      ⟨(some 72), (.mov (.t 71)), none, []⟩,
      ⟨(some 73), (.mov (.t 3)), (some (72, true)), []⟩,
      ⟨(some 74), (.pick (.t 72) (.t 73) (.c (.b false))), none, []⟩,
      ⟨(some 75), (.mov (.t 74)), none, []⟩,
      ⟨(some 76), (.mov (.t 5)), (some (75, true)), []⟩,
      ⟨(some 77), (.bin .eql (.t 76) (.c (.i .i64 (0)))), (some (75, true)), []⟩,
      ⟨(some 78), (.pick (.t 75) (.t 77) (.c (.b false))), none, []⟩,
      ⟨(some 79), (.mov (.t 78)), none, []⟩,
      ⟨(some 80), (.mov (.t 6)), (some (79, true)), []⟩,
      ⟨(some 81), (.bin .eql (.t 80) (.c (.i .i64 (0)))), (some (79, true)), []⟩,
      ⟨(some 82), (.pick (.t 79) (.t 81) (.c (.b false))), none, []⟩,
      ⟨(some 83), (.mov (.t 82)), none, []⟩,
      ⟨(some 84), (.mov (.t 4)), (some (83, true)), []⟩,
      ⟨(some 85), (.call 13 [(.t 84), (.c (.i .i64 (0))), (.c (.i .i64 (3)))]), (some (83, true)), []⟩,
      ⟨(some 86), (.bin .eql (.t 85) (.c (.i .i64 (2)))), (some (83, true)), []⟩,
      ⟨(some 87), (.pick (.t 83) (.t 86) (.c (.b false))), none, []⟩,
      ⟨(some 88), (.mov (.t 87)), none, []⟩,
      ⟨(some 89), (.mov (.t 4)), (some (88, true)), []⟩,
      ⟨(some 90), (.call 12 [(.t 89), (.c (.i .i64 (0))), (.c (.i .i64 (3)))]), (some (88, true)), []⟩,
      ⟨(some 91), (.bsl 1 2 [(.i .i64 (0)), (.i .i64 (0))] [(0, 1, (.c (.i .i64 (1)))), (1, 1, (.c (.i .i64 (-1))))]), (some (88, true)), []⟩,
      ⟨(some 92), (.call 15 [(.t 90), (.t 91)]), (some (88, true)), []⟩,
      ⟨(some 93), (.pick (.t 88) (.t 92) (.c (.b false))), none, []⟩,
      ⟨(some 0), (.mov (.t 93)), none, []⟩] [1, 2, 3, 4, 5, 6, 68, 69, 70, 71, 72, 73, 74, 75, 76, 77, 78, 79, 80, 81, 82, 83, 84, 85, 86, 87, 88, 89, 90, 91, 92, 93])
    .ret)))))))),
    94, 0, [.t 0], 2⟩
theorem tr17 : trFunc Tryd.prog [([], [0]), ([], [7, 8, 9, 10, 11, 12, 13, 14, 15, 16, 17, 18, 19, 20]), ([], [21, 22, 23, 24, 25, 26, 27, 28, 29, 30, 31, 32, 33, 34]), ([], [35, 36, 37, 38, 39, 40, 41, 42, 43, 44, 45, 46, 47, 48, 49, 50, 51, 52, 53, 54, 55, 56]), ([], [57]), ([], [58, 59, 60, 61, 62]), ([], [63, 64, 65, 66, 67]), ([], [1, 2, 3, 4, 5, 6, 68, 69, 70, 71, 72, 73, 74, 75, 76, 77, 78, 79, 80, 81, 82, 83, 84, 85, 86, 87, 88, 89, 90, 91, 92, 93])] 1 Tryd.f17 = some (plain1 I17) := by kernel_rfl
theorem ck17 : ckC 2 I17.body = true := by kernel_rfl

/-- 'encore/guess.Of'. -/
def L18a : ICode :=
  (.seq (.region [⟨(some 29), (.bin .lss (.t 28) (.t 27)), none, []⟩] [])
    (.seq (.cond (.t 29)
      (.region [] [29])
      (.exit 0))
    (.seq (.block 1
      (.seq (.region [⟨(some 30), (.mov (.t 28)), none, []⟩,
        ⟨(some 8), (.mov (.t 30)), none, []⟩] [30])
      (.region [⟨(some 31), (.mov (.t 7)), none, []⟩,
        ⟨(some 32), (.nck (.t 31)), none, []⟩,
        ⟨(some 33), (.off (.t 32) 1), none, []⟩,
        ⟨(some 34), (.load none (.t 33)), none, []⟩,
        ⟨(some 35), (.mov (.t 8)), none, []⟩,
        ⟨(some 36), (.iaddr 1 (.t 34) (.t 35)), none, []⟩,
        ⟨none, (.store 1 (.t 36) (.c (.i .i64 (-1)))), none, []⟩] [8, 31, 32, 33, 34, 35, 36])))
    (.region [⟨(some 37), (.bin .add (.t 28) (.c (.i .i64 (1)))), none, []⟩,
      ⟨(some 28), (.mov (.t 37)), none, []⟩] [37]))))
def L18b : ICode :=
  (.seq (.region [⟨(some 42), (.bin .lss (.t 41) (.t 40)), none, []⟩] [])
    (.seq (.cond (.t 42)
      (.region [] [42])
      (.exit 2))
    (.seq (.block 3
      (.seq (.region [⟨(some 43), (.iaddr 5 (.t 39) (.t 41)), none, []⟩,
        ⟨(some 44), (.load (some 5) (.t 43)), none, []⟩,
        ⟨(some 10), (.alloc [(.i .i64 (0)), (.i .i64 (0)), .ns, (.s []), .ns]), none, []⟩,
        ⟨none, (.store 5 (.t 10) (.t 44)), none, []⟩] [43, 44])
      (.region [⟨(some 45), (.mov (.t 7)), none, []⟩,
        ⟨(some 46), (.load (some 5) (.t 10)), none, []⟩,
        ⟨(some 47), (.call 38 [(.t 45), (.t 46)]), none, []⟩] [10, 45, 46, 47])))
    (.region [⟨(some 48), (.bin .add (.t 41) (.c (.i .i64 (1)))), none, []⟩,
      ⟨(some 41), (.mov (.t 48)), none, []⟩] [48]))))
def I18 : IFunc :=
  ⟨(.seq (.region [⟨(some 2), (.box (.t 0)), none, []⟩,
      ⟨(some 4), (.alloc [(.i .i64 (0)), (.i .i64 (0)), (.i .i64 (0)), (.i .i64 (0)), .ns, .ns, (.i .i64 (0)), (.i .i64 (0)), (.i .i64 (0)), (.i .i64 (0)), (.i .i64 (0)), (.i .i64 (0)), (.s []), .ns, .ns, (.i .i64 (0))]), none, []⟩,
      ⟨(some 5), (.mov (.c (.i .i64 (0)))), none, []⟩] [0, 5])
    (.seq (.seq (.region [⟨(some 11), (.load (some 16) (.t 2)), none, []⟩,
      ⟨(some 12), (.call 37 [(.t 11)]), none, []⟩,
      ⟨(some 6), (.mov (.t 12)), none, []⟩] [11, 12])
    (.seq (.region [⟨(some 13), (.mov (.t 6)), none, []⟩,
      ⟨(some 14), (.bin .neq (.t 13) (.c (.i .i64 (0)))), none, []⟩] [13])
    (.cond (.t 14)
      (.seq (.region [⟨(some 15), (.build [(.i .i64 (0)), (.i .i64 (0)), (.i .i64 (0)), (.i .i64 (0)), .ns, .ns, (.i .i64 (0)), (.i .i64 (0)), (.i .i64 (0)), (.i .i64 (0)), (.i .i64 (0)), (.i .i64 (0)), (.s []), .ns, .ns, (.i .i64 (0))] []), none, []⟩,
        ⟨(some 16), (.mov (.t 6)), none, []⟩,
        ⟨none, (.store 16 (.t 4) (.t 15)), none, []⟩,
        ⟨(some 5), (.mov (.t 16)), none, []⟩] [1, 2, 6, 14, 15, 16])
      .ret)
      (.region [] [6, 14]))))
    (.seq (.region [⟨(some 17), (.mov (.t 1)), none, []⟩,
      ⟨(some 18), (.off (.t 2) 3), none, []⟩,
      ⟨(some 19), (.load none (.t 18)), none, []⟩,
      ⟨(some 20), (.mksl 1 8 [(.i .i64 (0))] (.t 19) (.t 19)), none, []⟩,
      ⟨(some 21), (.build [.ns, .ns, .ns, .ns] [(2, 1, (.t 17)), (1, 1, (.t 20))]), none, []⟩,
      ⟨(some 22), (.box (.t 21)), none, []⟩,
      ⟨(some 7), (.mov (.t 22)), none, []⟩] [1, 17, 18, 19, 20, 21, 22])
    (.seq (.seq (.region [⟨(some 23), (.mov (.t 7)), none, []⟩,
      ⟨(some 24), (.nck (.t 23)), none, []⟩,
      ⟨(some 25), (.off (.t 24) 1), none, []⟩,
      ⟨(some 26), (.load none (.t 25)), none, []⟩,
      ⟨(some 27), (.lenk 0 (.t 26)), none, []⟩,
      ⟨(some 28), (.mov (.c (.i .i64 (0)))), none, []⟩] [23, 24, 25, 26])
    (.block 0
      (.loop L18a)))
    (.seq (.seq (.region [⟨(some 38), (.off (.t 2) 4), none, []⟩,
      ⟨(some 39), (.load none (.t 38)), none, []⟩,
      ⟨(some 40), (.lenk 0 (.t 39)), none, []⟩,
      ⟨(some 41), (.mov (.c (.i .i64 (0)))), none, []⟩] [27, 28, 29, 38])
    (.block 2
      (.loop L18b)))
    (.seq (.seq (.region [⟨(some 49), (.mov (.t 7)), none, []⟩,
      ⟨(some 50), (.nck (.t 49)), none, []⟩,
      ⟨(some 51), (.off (.t 50) 0), none, []⟩,
      ⟨(some 52), (.load none (.t 51)), none, []⟩,
      ⟨(some 53), (.lenk 0 (.t 52)), none, []⟩,
      ⟨(some 54), (.bin .gtr (.t 53) (.c (.i .i64 (4096)))), none, []⟩] [39, 40, 41, 42, 49, 50, 51, 52, 53])
    (.cond (.t 54)
      (.seq (.region [⟨(some 55), (.build [(.i .i64 (0)), (.i .i64 (0)), (.i .i64 (0)), (.i .i64 (0)), .ns, .ns, (.i .i64 (0)), (.i .i64 (0)), (.i .i64 (0)), (.i .i64 (0)), (.i .i64 (0)), (.i .i64 (0)), (.s []), .ns, .ns, (.i .i64 (0))] []), none, []⟩,
        ⟨none, (.store 16 (.t 4) (.t 55)), none, []⟩,
        ⟨(some 5), (.mov (.c (.i .i64 (5)))), none, []⟩] [2, 7, 54, 55])
      .ret)
      (.region [] [54])))
    (.seq (.region [⟨(some 56), (.mov (.t 7)), none, []⟩,
      ⟨(some 57), (.nck (.t 56)), none, []⟩,
      ⟨(some 58), (.off (.t 57) 0), none, []⟩,
      ⟨(some 59), (.load none (.t 58)), none, []⟩,
      ⟨(some 60), (.mov (.t 7)), none, []⟩,
      ⟨(some 61), (.off (.t 2) 5), none, []⟩,
      ⟨(some 62), (.load none (.t 61)), none, []⟩,
      ⟨(some 64), (.mov (.t 7)), none, []⟩,
      ⟨(some 65), (.off (.t 2) 8), none, []⟩,
      ⟨(some 66), (.load (some 7) (.t 65)), none, []⟩,
      ⟨(some 67), (.bsl 7 1 [(.i .i64 (0)), (.i .i64 (0)), (.i .i64 (0)), (.i .i64 (0)), (.s []), .ns, .ns] [(0, 7, (.t 66))]), none, []⟩,
      ⟨(some 71), (.off (.t 2) 4), none, []⟩,
      ⟨(some 63), (.call 39 [(.t 60), (.t 62)]), none, [(59, (.load none (.t 58)), none), (66, (.load (some 7) (.t 65)), none)]⟩,
      ⟨(some 68), (.call 39 [(.t 64), (.t 67)]), none, [(59, (.load none (.t 58)), none)]⟩,
      ⟨(some 69), (.iaddr 7 (.t 68) (.c (.i .i64 (0)))), none, []⟩,
      ⟨(some 70), (.load (some 7) (.t 69)), none, []⟩,
      ⟨none, (.store 1 (.t 71) (.t 59)), none, [(70, (.load (some 7) (.t 69)), none)]⟩,
      ⟨(some 72), (.off (.t 2) 5), none, []⟩,
      ⟨none, (.store 1 (.t 72) (.t 63)), none, [(70, (.load (some 7) (.t 69)), none)]⟩,
      ⟨(some 73), (.off (.t 2) 8), none, []⟩,
      ⟨none, (.store 7 (.t 73) (.t 70)), none, []⟩] [7, 56, 57, 58, 59, 60, 61, 62, 64, 65, 66, 67, 71, 63, 68, 69, 70, 72, 73])
    (.seq (.region [⟨(some 74), (.load (some 16) (.t 2)), none, []⟩,
      ⟨none, (.store 16 (.t 4) (.t 74)), none, []⟩,
      ⟨(some 5), (.mov (.c (.i .i64 (0)))), none, []⟩] [2, 74])
    .ret)))))))),
    75, 2, [.c 4 (some 16), .t 5], 2⟩
theorem tr18 : trFunc Tryd.prog [([], [0, 5]), ([], [11, 12]), ([], [13]), ([], [1, 2, 6, 14, 15, 16]), ([], [6, 14]), ([], [1, 17, 18, 19, 20, 21, 22]), ([], [23, 24, 25, 26]), ([], []), ([], [29]), ([], [30]), ([], [8, 31, 32, 33, 34, 35, 36]), ([], [37]), ([], [27, 28, 29, 38]), ([], []), ([], [42]), ([], [43, 44]), ([], [10, 45, 46, 47]), ([], [48]), ([], [39, 40, 41, 42, 49, 50, 51, 52, 53]), ([], [2, 7, 54, 55]), ([], [54]), ([0, 1, 2, 3, 4, 5, 6, 8, 9, 10, 11, 15, 7, 12, 13, 14, 16, 17, 18, 19, 20], [7, 56, 57, 58, 59, 60, 61, 62, 64, 65, 66, 67, 71, 63, 68, 69, 70, 72, 73]), ([], [2, 74])] 1 Tryd.f18 = some (plain1 I18) := by kernel_rfl
theorem ck18 : ckC 2 I18.body = true := by kernel_rfl

/-- 'encore/encorelaw22.meant'. -/
def L19a : ICode :=
  (.seq (.seq (.region [⟨(some 23), (.mov (.t 5)), none, []⟩,
      ⟨(some 24), (.off (.t 3) 4), none, []⟩,
      ⟨(some 25), (.load none (.t 24)), none, []⟩,
      ⟨(some 26), (.lenk 0 (.t 25)), none, []⟩,
      ⟨(some 27), (.bin .lss (.t 23) (.t 26)), none, []⟩] [23, 24, 25, 26])
    (.cond (.t 27)
      (.region [] [27])
      (.exit 0)))
    (.seq (.block 1
      (.region [⟨(some 30), (.off (.t 4) 4), none, []⟩,
        ⟨(some 31), (.load none (.t 30)), none, []⟩,
        ⟨(some 32), (.off (.t 3) 4), none, []⟩,
        ⟨(some 33), (.load none (.t 32)), none, []⟩,
        ⟨(some 34), (.mov (.t 5)), none, []⟩,
        ⟨(some 35), (.iaddr 5 (.t 33) (.t 34)), none, []⟩,
        ⟨(some 36), (.off (.t 35) 0), none, []⟩,
        ⟨(some 37), (.load none (.t 36)), none, []⟩,
        ⟨(some 38), (.off (.t 3) 4), none, []⟩,
        ⟨(some 39), (.load none (.t 38)), none, []⟩,
        ⟨(some 40), (.mov (.t 5)), none, []⟩,
        ⟨(some 41), (.iaddr 5 (.t 39) (.t 40)), none, []⟩,
        ⟨(some 42), (.off (.t 41) 1), none, []⟩,
        ⟨(some 43), (.load none (.t 42)), none, []⟩,
        ⟨(some 44), (.off (.t 3) 4), none, []⟩,
        ⟨(some 45), (.load none (.t 44)), none, []⟩,
        ⟨(some 46), (.mov (.t 5)), none, []⟩,
        ⟨(some 47), (.iaddr 5 (.t 45) (.t 46)), none, []⟩,
        ⟨(some 48), (.off (.t 47) 2), none, []⟩,
        ⟨(some 49), (.load none (.t 48)), none, []⟩,
        ⟨(some 51), (.off (.t 3) 4), none, []⟩,
        ⟨(some 52), (.load none (.t 51)), none, []⟩,
        ⟨(some 53), (.mov (.t 5)), none, []⟩,
        ⟨(some 54), (.iaddr 5 (.t 52) (.t 53)), none, []⟩,
        ⟨(some 55), (.off (.t 54) 3), none, []⟩,
        ⟨(some 56), (.load none (.t 55)), none, []⟩,
        ⟨(some 57), (.off (.t 3) 4), none, []⟩,
        ⟨(some 58), (.load none (.t 57)), none, []⟩,
        ⟨(some 59), (.mov (.t 5)), none, []⟩,
        ⟨(some 60), (.iaddr 5 (.t 58) (.t 59)), none, []⟩,
        ⟨(some 61), (.off (.t 60) 4), none, []⟩,
        ⟨(some 62), (.load none (.t 61)), none, []⟩,
        ⟨(some 50), (.call 41 [(.t 49)]), none, [(31, (.load none (.t 30)), none), (33, (.load none (.t 32)), none), (37, (.load none (.t 36)), none), (39, (.load none (.t 38)), none), (43, (.load none (.t 42)), none), (52, (.load none (.t 51)), none), (56, (.load none (.t 55)), none), (58, (.load none (.t 57)), none), (62, (.load none (.t 61)), none)]⟩,
        ⟨(some 63), (.build [(.i .i64 (0)), (.i .i64 (0)), .ns, (.s []), .ns] [(0, 1, (.t 37)), (1, 1, (.t 43)), (2, 1, (.t 50)), (3, 1, (.t 56)), (4, 1, (.t 62))]), none, []⟩,
        ⟨(some 64), (.bsl 5 1 [(.i .i64 (0)), (.i .i64 (0)), .ns, (.s []), .ns] [(0, 5, (.t 63))]), none, []⟩,
        ⟨(some 65), (.app 5 80 (.t 31) (.t 64)), none, []⟩,
        ⟨(some 66), (.off (.t 4) 4), none, []⟩,
        ⟨none, (.store 1 (.t 66) (.t 65)), none, []⟩] [30, 31, 32, 33, 34, 35, 36, 37, 38, 39, 40, 41, 42, 43, 44, 45, 46, 47, 48, 49, 51, 52, 53, 54, 55, 56, 57, 58, 59, 60, 61, 62, 50, 63, 64, 65, 66]))
    (.region [⟨(some 28), (.mov (.t 5)), none, []⟩,
      ⟨(some 29), (.bin .add (.t 28) (.c (.i .i64 (1)))), none, []⟩,
      ⟨(some 5), (.mov (.t 29)), none, []⟩] [28, 29])))
def I19 : IFunc :=
  ⟨(.seq (.region [⟨(some 1), (.box (.t 0)), none, []⟩,
      ⟨(some 2), (.alloc [(.i .i64 (0)), (.i .i64 (0)), (.i .i64 (0)), (.i .i64 (0)), .ns, .ns, (.i .i64 (0)), (.i .i64 (0)), (.i .i64 (0)), (.i .i64 (0)), (.i .i64 (0)), (.i .i64 (0)), (.s []), .ns, .ns, (.i .i64 (0))]), none, []⟩] [0])
    (.seq (.region [⟨(some 6), (.load (some 16) (.t 1)), none, []⟩,
      ⟨(some 7), (.call 40 [(.t 6)]), none, []⟩,
      ⟨(some 3), (.alloc [(.i .i64 (0)), (.i .i64 (0)), (.i .i64 (0)), (.i .i64 (0)), .ns, .ns, (.i .i64 (0)), (.i .i64 (0)), (.i .i64 (0)), (.i .i64 (0)), (.i .i64 (0)), (.i .i64 (0)), (.s []), .ns, .ns, (.i .i64 (0))]), none, []⟩,
      ⟨none, (.store 16 (.t 3) (.t 7)), none, []⟩] [1, 6, 7])
    (.seq (.region [⟨(some 8), (.off (.t 3) 0), none, []⟩,
      ⟨(some 9), (.load none (.t 8)), none, []⟩,
      ⟨(some 10), (.off (.t 3) 1), none, []⟩,
      ⟨(some 11), (.load none (.t 10)), none, []⟩,
      ⟨(some 12), (.off (.t 3) 2), none, []⟩,
      ⟨(some 13), (.load none (.t 12)), none, []⟩,
      ⟨(some 14), (.off (.t 3) 3), none, []⟩,
      ⟨(some 15), (.load none (.t 14)), none, []⟩,
      ⟨(some 16), (.off (.t 3) 6), none, []⟩,
      ⟨(some 17), (.load none (.t 16)), none, []⟩,
      ⟨(some 18), (.off (.t 3) 7), none, []⟩,
      ⟨(some 19), (.load none (.t 18)), none, []⟩,
      ⟨(some 20), (.off (.t 3) 15), none, []⟩,
      ⟨(some 21), (.load none (.t 20)), none, []⟩,
      ⟨(some 22), (.build [(.i .i64 (0)), (.i .i64 (0)), (.i .i64 (0)), (.i .i64 (0)), .ns, .ns, (.i .i64 (0)), (.i .i64 (0)), (.i .i64 (0)), (.i .i64 (0)), (.i .i64 (0)), (.i .i64 (0)), (.s []), .ns, .ns, (.i .i64 (0))] [(0, 1, (.t 9)), (1, 1, (.t 11)), (2, 1, (.t 13)), (3, 1, (.t 15)), (6, 1, (.t 17)), (7, 1, (.t 19)), (15, 1, (.t 21))]), none, []⟩,
      ⟨(some 4), (.alloc [(.i .i64 (0)), (.i .i64 (0)), (.i .i64 (0)), (.i .i64 (0)), .ns, .ns, (.i .i64 (0)), (.i .i64 (0)), (.i .i64 (0)), (.i .i64 (0)), (.i .i64 (0)), (.i .i64 (0)), (.s []), .ns, .ns, (.i .i64 (0))]), none, []⟩,
      ⟨none, (.store 16 (.t 4) (.t 22)), none, []⟩] [8, 9, 10, 11, 12, 13, 14, 15, 16, 17, 18, 19, 20, 21, 22])
    (.seq (.seq (.region [⟨(some 5), (.mov (.c (.i .i64 (0)))), none, []⟩] [])
    (.block 0
      (.loop L19a)))
    (.seq (.region [⟨(some 67), (.off (.t 3) 5), none, []⟩,
      ⟨(some 68), (.load none (.t 67)), none, []⟩,
      ⟨(some 69), (.call 41 [(.t 68)]), none, []⟩,
      ⟨(some 70), (.off (.t 4) 5), none, []⟩,
      ⟨none, (.store 1 (.t 70) (.t 69)), none, []⟩] [5, 27, 67, 68, 69, 70])
    (.seq (.region [⟨(some 71), (.off (.t 3) 8), none, []⟩,
      ⟨(some 72), (.off (.t 71) 0), none, []⟩,
      ⟨(some 73), (.load none (.t 72)), none, []⟩,
      ⟨(some 74), (.off (.t 3) 8), none, []⟩,
      ⟨(some 75), (.off (.t 74) 1), none, []⟩,
      ⟨(some 76), (.load none (.t 75)), none, []⟩,
      ⟨(some 77), (.off (.t 3) 8), none, []⟩,
      ⟨(some 78), (.off (.t 77) 2), none, []⟩,
      ⟨(some 79), (.load (some 5) (.t 78)), none, []⟩,
      ⟨(some 80), (.build [(.i .i64 (0)), (.i .i64 (0)), (.i .i64 (0)), (.i .i64 (0)), (.s []), .ns, .ns] [(0, 1, (.t 73)), (1, 1, (.t 76)), (2, 5, (.t 79))]), none, []⟩,
      ⟨(some 81), (.off (.t 4) 8), none, []⟩,
      ⟨none, (.store 7 (.t 81) (.t 80)), none, []⟩] [3, 71, 72, 73, 74, 75, 76, 77, 78, 79, 80, 81])
    (.seq (.region [⟨(some 82), (.load (some 16) (.t 4)), none, []⟩,
      ⟨none, (.store 16 (.t 2) (.t 82)), none, []⟩] [4, 82])
    .ret))))))),
    83, 1, [.c 2 (some 16)], 2⟩
theorem tr19 : trFunc Tryd.prog [([], [0]), ([], [1, 6, 7]), ([], [8, 9, 10, 11, 12, 13, 14, 15, 16, 17, 18, 19, 20, 21, 22]), ([], []), ([], [23, 24, 25, 26]), ([], [27]), ([0, 1, 2, 3, 4, 5, 6, 7, 8, 9, 10, 11, 12, 13, 14, 15, 16, 17, 18, 19, 21, 22, 23, 24, 25, 26, 27, 28, 29, 30, 31, 32, 20, 33, 34, 35, 36, 37], [30, 31, 32, 33, 34, 35, 36, 37, 38, 39, 40, 41, 42, 43, 44, 45, 46, 47, 48, 49, 51, 52, 53, 54, 55, 56, 57, 58, 59, 60, 61, 62, 50, 63, 64, 65, 66]), ([], [28, 29]), ([], [5, 27, 67, 68, 69, 70]), ([], [3, 71, 72, 73, 74, 75, 76, 77, 78, 79, 80, 81]), ([], [4, 82])] 1 Tryd.f19 = some (plain1 I19) := by kernel_rfl
theorem ck19 : ckC 2 I19.body = true := by kernel_rfl

/-- 'encore/encoreref00.Bring'. -/
def I20 : IFunc :=
  ⟨(.seq (.region [⟨(some 4), (.mov (.c (.i .i64 (0)))), none, []⟩] [4])
    (.seq (.seq (.region [⟨(some 5), (.mov (.t 1)), none, []⟩,
      ⟨(some 6), (.bin .leq (.t 5) (.c (.i .i64 (0)))), none, []⟩] [5])
    (.cond (.t 6)
      (.seq (.region [⟨(some 4), (.mov (.c (.i .i64 (0)))), none, []⟩] [0, 1, 6])
      .ret)
      (.region [] [6])))
    (.seq (.region [⟨(some 7), (.mov (.t 0)), none, []⟩,
      ⟨(some 8), (.mov (.t 1)), none, []⟩,
      ⟨(some 9), (.bin .rem (.t 7) (.t 8)), none, []⟩,
      ⟨(some 0), (.mov (.t 9)), none, []⟩] [7, 8, 9])
    (.seq (.seq (.region [⟨(some 10), (.mov (.t 0)), none, []⟩,
      ⟨(some 11), (.bin .lss (.t 10) (.c (.i .i64 (0)))), none, []⟩] [10])
    (.cond (.t 11)
      (.region [⟨(some 12), (.mov (.t 0)), none, []⟩,
        ⟨(some 13), (.mov (.t 1)), none, []⟩,
        ⟨(some 14), (.bin .add (.t 12) (.t 13)), none, []⟩,
        ⟨(some 0), (.mov (.t 14)), none, []⟩] [1, 11, 12, 13, 14])
      (.region [] [1, 11])))
    (.seq (.region [⟨(some 15), (.mov (.t 0)), none, []⟩,
      ⟨(some 4), (.mov (.t 15)), none, []⟩] [0, 15])
    .ret))))),
    16, 2, [.t 4], 2⟩
theorem tr20 : trFunc Tryd.prog [([], [4]), ([], [5]), ([], [0, 1, 6]), ([], [6]), ([], [7, 8, 9]), ([], [10]), ([], [1, 11, 12, 13, 14]), ([], [1, 11]), ([], [0, 15])] 1 Tryd.f20 = some (plain1 I20) := by kernel_rfl
theorem ck20 : ckC 2 I20.body = true := by kernel_rfl

/-- '(*encore/guess.Profile).none'. -/
def I21 : IFunc :=
  ⟨(.seq (.region [⟨(some 2), (.mov (.c (.b false))), none, []⟩] [2])
    (.seq (.region [⟨(some 3), (.mov (.t 0)), none, []⟩,
      ⟨(some 4), (.eqNil 1 false (.t 3) (.c .np)), none, []⟩,
      ⟨(some 5), (.mov (.t 4)), none, []⟩,
      ⟨(some 6), (.mov (.t 0)), (some (5, false)), []⟩,
      ⟨(some 7), (.nck (.t 6)), (some (5, false)), []⟩,
      ⟨(some 8), (.off (.t 7) 0), (some (5, false)), []⟩,
      ⟨(some 9), (.load none (.t 8)), (some (5, false)), []⟩,
      ⟨(some 10), (.eqNil 2 false (.t 9) (.c .nm)), (some (5, false)), []⟩,
      ⟨(some 11), (.pick (.t 5) (.c (.b true)) (.t 10)), none, []⟩,
      ⟨(some 2), (.mov (.t 11)), none, []⟩] [0, 3, 4, 5, 6, 7, 8, 9, 10, 11])
    .ret)),
    12, 1, [.t 2], 1⟩
theorem tr21 : trFunc Tryd.prog [([], [2]), ([], [0, 3, 4, 5, 6, 7, 8, 9, 10, 11])] 1 Tryd.f21 = some (plain1 I21) := by kernel_rfl
theorem ck21 : ckC 2 I21.body = true := by kernel_rfl

/-- 'encore/value.Check'. -/
def I22 : IFunc :=
  ⟨(.seq (.region [⟨(some 1), (.box (.t 0)), none, []⟩,
      ⟨(some 2), (.mov (.c (.i .i64 (0)))), none, []⟩] [0, 2])
    (.seq (.seq (.region [⟨(some 6), (.load (some 5) (.t 1)), none, []⟩,
      ⟨(some 7), (.call 42 [(.t 6), (.c (.i .i64 (0))), (.c (.i .i64 (256)))]), none, []⟩,
      ⟨(some 5), (.mov (.t 7)), none, []⟩,
      ⟨(some 8), (.ext (.t 5) 0), none, []⟩,
      ⟨(some 9), (.ext (.t 5) 1), none, []⟩,
      ⟨(some 3), (.mov (.t 8)), none, []⟩,
      ⟨(some 4), (.mov (.t 9)), none, []⟩] [1, 6, 7, 5, 8, 9, 3])
    (.seq (.region [⟨(some 10), (.mov (.t 4)), none, []⟩,
      ⟨(some 11), (.un .not (.t 10)), none, []⟩] [4, 10])
    (.cond (.t 11)
      (.seq (.region [⟨(some 2), (.mov (.c (.i .i64 (2)))), none, []⟩] [11])
      .ret)
      (.region [] [11]))))
    (.seq (.region [⟨(some 2), (.mov (.c (.i .i64 (0)))), none, []⟩] [])
    .ret))),
    12, 1, [.t 2], 2⟩
theorem tr22 : trFunc Tryd.prog [([], [0, 2]), ([], [1, 6, 7, 5, 8, 9, 3]), ([], [4, 10]), ([], [11]), ([], [11]), ([], [])] 1 Tryd.f22 = some (plain1 I22) := by kernel_rfl
theorem ck22 : ckC 2 I22.body = true := by kernel_rfl

/-- 'encore/guess.both'. -/
def L23a : ICode :=
  (.seq (.region [⟨(some 25), (.bin .lss (.t 24) (.t 23)), none, []⟩] [])
    (.seq (.cond (.t 25)
      (.region [] [25])
      (.exit 2))
    (.seq (.block 3
      (.seq (.region [⟨(some 26), (.iaddr 1 (.t 22) (.t 24)), none, []⟩,
        ⟨(some 27), (.load none (.t 26)), none, []⟩,
        ⟨(some 8), (.mov (.t 27)), none, []⟩] [26, 27])
      (.seq (.region [⟨(some 28), (.mov (.t 6)), none, []⟩,
        ⟨(some 29), (.mov (.t 8)), none, []⟩,
        ⟨(some 30), (.lenk 0 (.t 29)), none, []⟩,
        ⟨(some 31), (.bin .geq (.t 28) (.t 30)), none, []⟩,
        ⟨(some 32), (.mov (.t 31)), none, []⟩,
        ⟨(some 33), (.mov (.t 8)), (some (32, false)), []⟩,
        ⟨(some 34), (.mov (.t 6)), (some (32, false)), []⟩,
        ⟨(some 35), (.iaddr 1 (.t 33) (.t 34)), (some (32, false)), []⟩,
        ⟨(some 36), (.load none (.t 35)), (some (32, false)), []⟩,
        ⟨(some 37), (.mov (.t 0)), (some (32, false)), []⟩,
        ⟨(some 38), (.mov (.t 6)), (some (32, false)), []⟩,
        ⟨(some 39), (.mov (.t 0)), (some (32, false)), []⟩,
        ⟨(some 40), (.lenk 0 (.t 39)), (some (32, false)), []⟩,
        ⟨(some 41), (.bin .sub (.t 40) (.c (.i .i64 (1)))), (some (32, false)), []⟩,
        ⟨(some 42), (.mm false (.t 38) [(.t 41)]), (some (32, false)), []⟩,
        ⟨(some 43), (.iaddr 1 (.t 37) (.t 42)), (some (32, false)), []⟩,
        ⟨(some 44), (.load none (.t 43)), (some (32, false)), []⟩,
        ⟨(some 45), (.bin .neq (.t 36) (.t 44)), (some (32, false)), []⟩,
        ⟨(some 46), (.pick (.t 32) (.c (.b true)) (.t 45)), none, []⟩] [8, 28, 29, 30, 31, 32, 33, 34, 35, 36, 37, 38, 39, 40, 41, 42, 43, 44, 45])
      (.cond (.t 46)
        (.seq (.region [⟨(some 47), (.mov (.t 5)), none, []⟩,
          ⟨(some 48), (.mov (.t 6)), none, []⟩,
          ⟨(some 49), (.iaddr 1 (.t 47) (.t 48)), none, []⟩,
          ⟨none, (.store 1 (.t 49) (.c (.i .i64 (-1)))), none, []⟩] [6, 22, 23, 24, 46, 47, 48, 49])
        (.exit 1))
        (.region [] [46])))))
    (.region [⟨(some 50), (.bin .add (.t 24) (.c (.i .i64 (1)))), none, []⟩,
      ⟨(some 24), (.mov (.t 50)), none, []⟩] [50]))))
def L23b : ICode :=
  (.seq (.region [⟨(some 18), (.bin .lss (.t 17) (.t 16)), none, []⟩] [])
    (.seq (.cond (.t 18)
      (.region [] [18])
      (.exit 0))
    (.seq (.block 1
      (.seq (.region [⟨(some 19), (.mov (.t 17)), none, []⟩,
        ⟨(some 6), (.mov (.t 19)), none, []⟩] [19])
      (.seq (.seq (.region [⟨(some 20), (.mov (.t 0)), none, []⟩,
        ⟨(some 21), (.mov (.t 1)), none, []⟩,
        ⟨(some 22), (.bsl 1 2 [.ns, .ns] [(0, 1, (.t 20)), (1, 1, (.t 21))]), none, []⟩,
        ⟨(some 23), (.lenk 0 (.t 22)), none, []⟩,
        ⟨(some 24), (.mov (.c (.i .i64 (0)))), none, []⟩] [20, 21])
      (.block 2
        (.loop L23a)))
      (.region [⟨(some 51), (.mov (.t 5)), none, []⟩,
        ⟨(some 52), (.mov (.t 6)), none, []⟩,
        ⟨(some 53), (.mov (.t 0)), none, []⟩,
        ⟨(some 54), (.mov (.t 6)), none, []⟩,
        ⟨(some 55), (.iaddr 1 (.t 53) (.t 54)), none, []⟩,
        ⟨(some 56), (.load none (.t 55)), none, []⟩,
        ⟨(some 57), (.iaddr 1 (.t 51) (.t 52)), none, []⟩,
        ⟨none, (.store 1 (.t 57) (.t 56)), none, []⟩] [6, 22, 23, 24, 25, 51, 52, 53, 54, 55, 56, 57]))))
    (.region [⟨(some 58), (.bin .add (.t 17) (.c (.i .i64 (1)))), none, []⟩,
      ⟨(some 17), (.mov (.t 58)), none, []⟩] [58]))))
def I23 : IFunc :=
  ⟨(.seq (.region [⟨(some 4), (.mov (.c .ns)), none, []⟩] [4])
    (.seq .skip
    (.seq (.region [⟨(some 9), (.mov (.t 0)), none, []⟩,
      ⟨(some 10), (.lenk 0 (.t 9)), none, []⟩,
      ⟨(some 11), (.mov (.t 1)), none, []⟩,
      ⟨(some 12), (.lenk 0 (.t 11)), none, []⟩,
      ⟨(some 13), (.mm true (.t 10) [(.t 12)]), none, []⟩,
      ⟨(some 14), (.mksl 1 8 [(.i .i64 (0))] (.t 13) (.t 13)), none, []⟩,
      ⟨(some 5), (.mov (.t 14)), none, []⟩] [9, 10, 11, 12, 13, 14])
    (.seq .skip
    (.seq (.seq (.region [⟨(some 15), (.mov (.t 5)), none, []⟩,
      ⟨(some 16), (.lenk 0 (.t 15)), none, []⟩,
      ⟨(some 17), (.mov (.c (.i .i64 (0)))), none, []⟩] [15])
    (.block 0
      (.loop L23b)))
    (.seq (.region [⟨(some 59), (.mov (.t 5)), none, []⟩,
      ⟨(some 4), (.mov (.t 59)), none, []⟩] [0, 1, 5, 16, 17, 18, 59])
    .ret)))))),
    60, 2, [.t 4], 2⟩
theorem tr23 : trFunc Tryd.prog [([], [4]), ([], [9, 10, 11, 12, 13, 14]), ([], [15]), ([], []), ([], [18]), ([], [19]), ([], [20, 21]), ([], []), ([], [25]), ([], [26, 27]), ([0, 1, 2, 3, 4, 5, 6, 7, 8, 9, 10, 11, 12, 13, 14, 15, 16, 17, 18], [8, 28, 29, 30, 31, 32, 33, 34, 35, 36, 37, 38, 39, 40, 41, 42, 43, 44, 45]), ([], [6, 22, 23, 24, 46, 47, 48, 49]), ([], [46]), ([], [50]), ([], [6, 22, 23, 24, 25, 51, 52, 53, 54, 55, 56, 57]), ([], [58]), ([], [0, 1, 5, 16, 17, 18, 59])] 1 Tryd.f23 = some (plain1 I23) := by kernel_rfl
theorem ck23 : ckC 2 I23.body = true := by kernel_rfl

/-- 'encore/encoreref07.Copy'. -/
def L24a : ICode :=
  (.seq (.seq (.region [⟨(some 15), (.mov (.t 4)), none, []⟩,
      ⟨(some 16), (.off (.t 1) 3), none, []⟩,
      ⟨(some 17), (.load none (.t 16)), none, []⟩,
      ⟨(some 18), (.lenk 0 (.t 17)), none, []⟩,
      ⟨(some 19), (.bin .lss (.t 15) (.t 18)), none, []⟩] [15, 16, 17, 18])
    (.cond (.t 19)
      (.region [] [19])
      (.exit 0)))
    (.seq (.block 1
      (.region [⟨(some 22), (.off (.t 3) 3), none, []⟩,
        ⟨(some 23), (.load none (.t 22)), none, []⟩,
        ⟨(some 24), (.off (.t 1) 3), none, []⟩,
        ⟨(some 25), (.load none (.t 24)), none, []⟩,
        ⟨(some 26), (.mov (.t 4)), none, []⟩,
        ⟨(some 27), (.iaddr 5 (.t 25) (.t 26)), none, []⟩,
        ⟨(some 28), (.load (some 5) (.t 27)), none, []⟩,
        ⟨(some 29), (.call 24 [(.t 28)]), none, [(23, (.load none (.t 22)), none)]⟩,
        ⟨(some 30), (.bsl 5 1 [(.i .i64 (0)), (.i .i64 (0)), (.s []), .ns, .ns] [(0, 5, (.t 29))]), none, []⟩,
        ⟨(some 31), (.app 5 80 (.t 23) (.t 30)), none, []⟩,
        ⟨(some 32), (.off (.t 3) 3), none, []⟩,
        ⟨none, (.store 1 (.t 32) (.t 31)), none, []⟩] [22, 23, 24, 25, 26, 27, 28, 29, 30, 31, 32]))
    (.region [⟨(some 20), (.mov (.t 4)), none, []⟩,
      ⟨(some 21), (.bin .add (.t 20) (.c (.i .i64 (1)))), none, []⟩,
      ⟨(some 4), (.mov (.t 21)), none, []⟩] [20, 21])))
def I24 : IFunc :=
  ⟨(.seq (.region [⟨(some 1), (.box (.t 0)), none, []⟩,
      ⟨(some 2), (.alloc [(.i .i64 (0)), (.i .i64 (0)), (.s []), .ns, .ns]), none, []⟩] [0])
    (.seq (.region [⟨(some 5), (.off (.t 1) 0), none, []⟩,
      ⟨(some 6), (.load none (.t 5)), none, []⟩,
      ⟨(some 7), (.off (.t 1) 1), none, []⟩,
      ⟨(some 8), (.load none (.t 7)), none, []⟩,
      ⟨(some 9), (.off (.t 1) 2), none, []⟩,
      ⟨(some 10), (.load none (.t 9)), none, []⟩,
      ⟨(some 11), (.off (.t 1) 4), none, []⟩,
      ⟨(some 12), (.load none (.t 11)), none, []⟩,
      ⟨(some 3), (.alloc [(.i .i64 (0)), (.i .i64 (0)), (.s []), .ns, .ns]), none, []⟩,
      ⟨(some 13), (.call 43 [(.t 12)]), none, [(6, (.load none (.t 5)), none), (8, (.load none (.t 7)), none), (10, (.load none (.t 9)), none)]⟩,
      ⟨(some 14), (.build [(.i .i64 (0)), (.i .i64 (0)), (.s []), .ns, .ns] [(0, 1, (.t 6)), (1, 1, (.t 8)), (2, 1, (.t 10)), (4, 1, (.t 13))]), none, []⟩,
      ⟨none, (.store 5 (.t 3) (.t 14)), none, []⟩] [5, 6, 7, 8, 9, 10, 11, 12, 13, 14])
    (.seq (.seq (.region [⟨(some 4), (.mov (.c (.i .i64 (0)))), none, []⟩] [])
    (.block 0
      (.loop L24a)))
    (.seq (.region [⟨(some 33), (.load (some 5) (.t 3)), none, []⟩,
      ⟨none, (.store 5 (.t 2) (.t 33)), none, []⟩] [1, 3, 4, 19, 33])
    .ret)))),
    34, 1, [.c 2 (some 5)], 2⟩
theorem tr24 : trFunc Tryd.prog [([], [0]), ([0, 1, 2, 3, 4, 5, 6, 7, 10, 8, 9, 11], [5, 6, 7, 8, 9, 10, 11, 12, 13, 14]), ([], []), ([], [15, 16, 17, 18]), ([], [19]), ([0, 1, 2, 3, 4, 5, 6, 7, 8, 9, 10, 11], [22, 23, 24, 25, 26, 27, 28, 29, 30, 31, 32]), ([], [20, 21]), ([], [1, 3, 4, 19, 33])] 1 Tryd.f24 = some (plain1 I24) := by kernel_rfl
theorem ck24 : ckC 2 I24.body = true := by kernel_rfl

/-- 'encore/encoreref07.Same'. -/
def I27 : IFunc :=
  ⟨(.seq (.region [⟨(some 2), (.box (.t 0)), none, []⟩,
      ⟨(some 3), (.box (.t 1)), none, []⟩,
      ⟨(some 4), (.mov (.c (.b false))), none, []⟩] [0, 1, 4])
    (.seq (.region [⟨(some 5), (.load (some 5) (.t 2)), none, []⟩,
      ⟨(some 6), (.load (some 5) (.t 3)), none, []⟩,
      ⟨(some 7), (.call 47 [(.t 5), (.t 6)]), none, []⟩,
      ⟨(some 8), (.bin .eql (.t 7) (.c (.i .i64 (0)))), none, []⟩,
      ⟨(some 4), (.mov (.t 8)), none, []⟩] [2, 3, 5, 6, 7, 8])
    .ret)),
    9, 2, [.t 4], 2⟩
theorem tr27 : trFunc Tryd.prog [([], [0, 1, 4]), ([], [2, 3, 5, 6, 7, 8])] 1 Tryd.f27 = some (plain1 I27) := by kernel_rfl
theorem ck27 : ckC 2 I27.body = true := by kernel_rfl

/-- 'slices.Clone[[]int,int]'. -/
def I28 : IFunc := ⟨cloneCode 1 8, 8, 1, [.t 2], 4⟩
theorem tr28 : trFunc Tryd.prog [([], []), ([], []), ([], []), ([], []), ([], [])] 1 Tryd.f28 = some (plain1 I28) := by kernel_rfl
theorem ck28 : ckC 2 (cloneCode 1 8) = true := by kernel_rfl

/-- 'encore/encorelaw22.guessed'. -/
def I30 : IFunc :=
  ⟨(.seq (.region [⟨(some 3), (.box (.t 0)), none, []⟩,
      ⟨(some 4), (.box (.t 1)), none, []⟩,
      ⟨(some 6), (.mov (.c (.b false))), none, []⟩] [0, 1, 6])
    (.seq (.region [⟨(some 10), (.load (some 16) (.t 3)), none, []⟩,
      ⟨(some 11), (.mov (.t 2)), none, []⟩,
      ⟨(some 12), (.call 18 [(.t 10), (.t 11)]), none, []⟩,
      ⟨(some 9), (.mov (.t 12)), none, []⟩,
      ⟨(some 13), (.ext (.t 9) 0), none, []⟩,
      ⟨(some 14), (.ext (.t 9) 1), none, []⟩,
      ⟨(some 7), (.alloc [(.i .i64 (0)), (.i .i64 (0)), (.i .i64 (0)), (.i .i64 (0)), .ns, .ns, (.i .i64 (0)), (.i .i64 (0)), (.i .i64 (0)), (.i .i64 (0)), (.i .i64 (0)), (.i .i64 (0)), (.s []), .ns, .ns, (.i .i64 (0))]), none, []⟩,
      ⟨none, (.store 16 (.t 7) (.t 13)), none, []⟩,
      ⟨(some 8), (.mov (.t 14)), none, []⟩] [2, 3, 10, 11, 12, 9, 13, 14])
    (.seq (.region [⟨(some 15), (.mov (.t 8)), none, []⟩,
      ⟨(some 16), (.bin .eql (.t 15) (.c (.i .i64 (0)))), none, []⟩,
      ⟨(some 17), (.mov (.t 16)), none, []⟩,
      ⟨(some 18), (.load (some 16) (.t 7)), (some (17, true)), []⟩,
      ⟨(some 20), (.load (some 16) (.t 4)), (some (17, true)), []⟩,
      ⟨(some 19), (.call 49 [(.t 18)]), (some (17, true)), [(20, (.load (some 16) (.t 4)), (some (17, true)))]⟩,
      ⟨(some 21), (.call 49 [(.t 20)]), (some (17, true)), []⟩,
      ⟨(some 22), (.call 48 [(.t 19), (.t 21)]), (some (17, true)), []⟩,
      ⟨(some 23), (.pick (.t 17) (.t 22) (.c (.b false))), none, []⟩,
      ⟨(some 6), (.mov (.t 23)), none, []⟩] [4, 7, 8, 15, 16, 17, 18, 20, 19, 21, 22, 23])
    .ret))),
    24, 3, [.t 6], 2⟩
theorem tr30 : trFunc Tryd.prog [([], [0, 1, 6]), ([], [2, 3, 10, 11, 12, 9, 13, 14]), ([0, 1, 2, 3, 5, 4, 6, 7, 8, 9], [4, 7, 8, 15, 16, 17, 18, 20, 19, 21, 22, 23])] 1 Tryd.f30 = some (plain1 I30) := by kernel_rfl
theorem ck30 : ckC 2 I30.body = true := by kernel_rfl

/-- 'encore/encorelaw22.of'. -/
def I31 : IFunc :=
  ⟨(.seq (.region [⟨(some 4), (.alloc [(.i .i64 (0)), (.i .i64 (0)), (.i .i64 (0)), (.i .i64 (0)), .ns, .ns, (.i .i64 (0)), (.i .i64 (0)), (.i .i64 (0)), (.i .i64 (0)), (.i .i64 (0)), (.i .i64 (0)), (.s []), .ns, .ns, (.i .i64 (0))]), none, []⟩] [])
    (.seq (.region [⟨(some 5), (.mov (.t 0)), none, []⟩,
      ⟨(some 6), (.mov (.t 1)), none, []⟩,
      ⟨(some 7), (.mov (.t 1)), none, []⟩,
      ⟨(some 8), (.lenk 0 (.t 7)), none, []⟩,
      ⟨(some 9), (.bin .sub (.t 8) (.c (.i .i64 (1)))), none, []⟩,
      ⟨(some 10), (.mm true (.t 9) [(.c (.i .i64 (0)))]), none, []⟩,
      ⟨(some 11), (.call 36 [(.t 10)]), none, []⟩,
      ⟨(some 12), (.bsl 7 1 [(.i .i64 (0)), (.i .i64 (0)), (.i .i64 (0)), (.i .i64 (0)), (.s []), .ns, .ns] [(0, 7, (.t 11))]), none, []⟩,
      ⟨(some 13), (.build [(.i .i64 (0)), (.i .i64 (0)), (.i .i64 (0)), (.i .i64 (0)), .ns, .ns, (.i .i64 (0)), (.i .i64 (0)), (.i .i64 (0)), (.i .i64 (0)), (.i .i64 (0)), (.i .i64 (0)), (.s []), .ns, .ns, (.i .i64 (0))] [(2, 1, (.c (.i .i64 (1)))), (3, 1, (.t 5)), (4, 1, (.t 6)), (5, 1, (.t 12))]), none, []⟩,
      ⟨none, (.store 16 (.t 4) (.t 13)), none, []⟩] [0, 1, 5, 6, 7, 8, 9, 10, 11, 12, 13])
    .ret)),
    14, 2, [.c 4 (some 16)], 1⟩
theorem tr31 : trFunc Tryd.prog [([], []), ([], [0, 1, 5, 6, 7, 8, 9, 10, 11, 12, 13])] 1 Tryd.f31 = some (plain1 I31) := by kernel_rfl
theorem ck31 : ckC 2 I31.body = true := by kernel_rfl

/-- 'encore/encorelaw22.two'. -/
def I32 : IFunc :=
  ⟨(.seq (.region [⟨(some 4), (.box (.t 1)), none, []⟩,
      ⟨(some 5), (.box (.t 2)), none, []⟩,
      ⟨(some 6), (.alloc [(.i .i64 (0)), (.i .i64 (0)), .ns, (.s []), .ns]), none, []⟩] [1, 2])
    (.seq (.region [⟨(some 7), (.mov (.t 0)), none, []⟩,
      ⟨(some 8), (.load (some 7) (.t 4)), none, []⟩,
      ⟨(some 9), (.load (some 7) (.t 5)), none, []⟩,
      ⟨(some 10), (.bsl 7 2 [(.i .i64 (0)), (.i .i64 (0)), (.i .i64 (0)), (.i .i64 (0)), (.s []), .ns, .ns, (.i .i64 (0)), (.i .i64 (0)), (.i .i64 (0)), (.i .i64 (0)), (.s []), .ns, .ns] [(0, 7, (.t 8)), (7, 7, (.t 9))]), none, []⟩,
      ⟨(some 11), (.build [(.i .i64 (0)), (.i .i64 (0)), .ns, (.s []), .ns] [(0, 1, (.t 7)), (2, 1, (.t 10))]), none, []⟩,
      ⟨none, (.store 5 (.t 6) (.t 11)), none, []⟩] [0, 4, 5, 7, 8, 9, 10, 11])
    .ret)),
    12, 3, [.c 6 (some 5)], 2⟩
theorem tr32 : trFunc Tryd.prog [([], [1, 2]), ([], [0, 4, 5, 7, 8, 9, 10, 11])] 1 Tryd.f32 = some (plain1 I32) := by kernel_rfl
theorem ck32 : ckC 2 I32.body = true := by kernel_rfl

/-- 'encore/encorelaw22.home'. -/
def I33 : IFunc :=
  ⟨(.seq (.region [⟨(some 2), (.alloc [(.i .i64 (0)), (.i .i64 (0)), (.i .i64 (0)), (.i .i64 (0)), (.s []), .ns, .ns]), none, []⟩] [])
    (.seq (.region [⟨(some 3), (.mov (.t 0)), none, []⟩,
      ⟨(some 4), (.build [(.i .i64 (0)), (.i .i64 (0)), (.i .i64 (0)), (.i .i64 (0)), (.s []), .ns, .ns] [(0, 1, (.c (.i .i64 (1)))), (1, 1, (.t 3))]), none, []⟩,
      ⟨none, (.store 7 (.t 2) (.t 4)), none, []⟩] [0, 3, 4])
    .ret)),
    5, 1, [.c 2 (some 7)], 2⟩
theorem tr33 : trFunc Tryd.prog [([], []), ([], [0, 3, 4])] 1 Tryd.f33 = some (plain1 I33) := by kernel_rfl
theorem ck33 : ckC 2 I33.body = true := by kernel_rfl

/-- 'encore/encorelaw22.num'. -/
def I34 : IFunc :=
  ⟨(.seq (.region [⟨(some 2), (.alloc [(.i .i64 (0)), (.i .i64 (0)), (.i .i64 (0)), (.i .i64 (0)), (.s []), .ns, .ns]), none, []⟩] [])
    (.seq (.region [⟨(some 3), (.mov (.t 0)), none, []⟩,
      ⟨(some 4), (.build [(.i .i64 (0)), (.i .i64 (0)), (.s []), .ns, .ns] [(0, 1, (.c (.i .i64 (1)))), (1, 1, (.t 3))]), none, []⟩,
      ⟨(some 5), (.build [(.i .i64 (0)), (.i .i64 (0)), (.i .i64 (0)), (.i .i64 (0)), (.s []), .ns, .ns] [(0, 1, (.c (.i .i64 (3)))), (2, 5, (.t 4))]), none, []⟩,
      ⟨none, (.store 7 (.t 2) (.t 5)), none, []⟩] [0, 3, 4, 5])
    .ret)),
    6, 1, [.c 2 (some 7)], 2⟩
theorem tr34 : trFunc Tryd.prog [([], []), ([], [0, 3, 4, 5])] 1 Tryd.f34 = some (plain1 I34) := by kernel_rfl
theorem ck34 : ckC 2 I34.body = true := by kernel_rfl

/-- 'encore/encorelaw22.one'. -/
def I35 : IFunc :=
  ⟨(.seq (.region [⟨(some 5), (.box (.t 2)), none, []⟩,
      ⟨(some 6), (.alloc [(.i .i64 (0)), (.i .i64 (0)), .ns, (.s []), .ns]), none, []⟩] [2])
    (.seq (.region [⟨(some 7), (.mov (.t 0)), none, []⟩,
      ⟨(some 8), (.mov (.t 1)), none, []⟩,
      ⟨(some 9), (.load (some 7) (.t 5)), none, []⟩,
      ⟨(some 10), (.bsl 7 1 [(.i .i64 (0)), (.i .i64 (0)), (.i .i64 (0)), (.i .i64 (0)), (.s []), .ns, .ns] [(0, 7, (.t 9))]), none, []⟩,
      ⟨(some 11), (.build [(.i .i64 (0)), (.i .i64 (0)), .ns, (.s []), .ns] [(0, 1, (.t 7)), (1, 1, (.t 8)), (2, 1, (.t 10))]), none, []⟩,
      ⟨none, (.store 5 (.t 6) (.t 11)), none, []⟩] [0, 1, 5, 7, 8, 9, 10, 11])
    .ret)),
    12, 3, [.c 6 (some 5)], 2⟩
theorem tr35 : trFunc Tryd.prog [([], [2]), ([], [0, 1, 5, 7, 8, 9, 10, 11])] 1 Tryd.f35 = some (plain1 I35) := by kernel_rfl
theorem ck35 : ckC 2 I35.body = true := by kernel_rfl

/-- 'encore/encorelaw22.step'. -/
def I36 : IFunc :=
  ⟨(.seq (.region [⟨(some 2), (.alloc [(.i .i64 (0)), (.i .i64 (0)), (.i .i64 (0)), (.i .i64 (0)), (.s []), .ns, .ns]), none, []⟩] [])
    (.seq (.region [⟨(some 3), (.mov (.t 0)), none, []⟩,
      ⟨(some 4), (.build [(.i .i64 (0)), (.i .i64 (0)), (.i .i64 (0)), (.i .i64 (0)), (.s []), .ns, .ns] [(0, 1, (.c (.i .i64 (2)))), (1, 1, (.t 3))]), none, []⟩,
      ⟨none, (.store 7 (.t 2) (.t 4)), none, []⟩] [0, 3, 4])
    .ret)),
    5, 1, [.c 2 (some 7)], 2⟩
theorem tr36 : trFunc Tryd.prog [([], []), ([], [0, 3, 4])] 1 Tryd.f36 = some (plain1 I36) := by kernel_rfl
theorem ck36 : ckC 2 I36.body = true := by kernel_rfl

/-- 'encore/lift.Check'. -/
def L37a : ICode :=
  (.seq (.region [⟨(some 26), (.bin .lss (.t 25) (.t 24)), none, []⟩] [])
    (.seq (.cond (.t 26)
      (.region [] [26])
      (.exit 0))
    (.seq (.block 1
      (.seq (.region [⟨(some 27), (.iaddr 1 (.t 23) (.t 25)), none, []⟩,
        ⟨(some 28), (.load none (.t 27)), none, []⟩,
        ⟨(some 4), (.mov (.t 28)), none, []⟩] [27, 28])
      (.seq (.region [⟨(some 29), (.mov (.t 4)), none, []⟩,
        ⟨(some 30), (.bin .lss (.t 29) (.c (.i .i64 (0)))), none, []⟩] [4, 29])
      (.cond (.t 30)
        (.seq (.region [⟨(some 2), (.mov (.c (.i .i64 (2)))), none, []⟩] [1, 23, 24, 25, 30])
        .ret)
        (.region [] [30])))))
    (.region [⟨(some 31), (.bin .add (.t 25) (.c (.i .i64 (1)))), none, []⟩,
      ⟨(some 25), (.mov (.t 31)), none, []⟩] [31]))))
def L37b : ICode :=
  (.seq (.region [⟨(some 69), (.bin .lss (.t 68) (.t 67)), none, []⟩] [])
    (.seq (.cond (.t 69)
      (.region [] [69])
      (.exit 2))
    (.seq (.block 3
      (.seq (.region [⟨(some 70), (.mov (.t 68)), none, []⟩,
        ⟨(some 71), (.iaddr 5 (.t 66) (.t 68)), none, []⟩,
        ⟨(some 72), (.load (some 5) (.t 71)), none, []⟩,
        ⟨(some 6), (.alloc [(.i .i64 (0)), (.i .i64 (0)), .ns, (.s []), .ns]), none, []⟩,
        ⟨(some 5), (.mov (.t 70)), none, []⟩,
        ⟨none, (.store 5 (.t 6) (.t 72)), none, []⟩] [70, 71, 72])
      (.seq (.region [⟨(some 73), (.load (some 5) (.t 6)), none, []⟩,
        ⟨(some 74), (.off (.t 1) 3), none, []⟩,
        ⟨(some 75), (.load none (.t 74)), none, []⟩,
        ⟨(some 76), (.mov (.t 5)), none, []⟩,
        ⟨(some 77), (.call 50 [(.t 73), (.t 75), (.t 76)]), none, []⟩,
        ⟨(some 78), (.un .not (.t 77)), none, []⟩] [6, 5, 73, 74, 75, 76, 77])
      (.cond (.t 78)
        (.seq (.region [⟨(some 2), (.mov (.c (.i .i64 (2)))), none, []⟩] [1, 66, 67, 68, 78])
        .ret)
        (.region [] [78])))))
    (.region [⟨(some 79), (.bin .add (.t 68) (.c (.i .i64 (1)))), none, []⟩,
      ⟨(some 68), (.mov (.t 79)), none, []⟩] [79]))))
def I37 : IFunc :=
  ⟨(.seq (.region [⟨(some 1), (.box (.t 0)), none, []⟩,
      ⟨(some 2), (.mov (.c (.i .i64 (0)))), none, []⟩] [0, 2])
    (.seq (.seq (.region [⟨(some 9), (.off (.t 1) 0), none, []⟩,
      ⟨(some 10), (.load none (.t 9)), none, []⟩,
      ⟨(some 11), (.off (.t 1) 1), none, []⟩,
      ⟨(some 12), (.load none (.t 11)), none, []⟩,
      ⟨(some 13), (.off (.t 1) 2), none, []⟩,
      ⟨(some 14), (.load none (.t 13)), none, []⟩,
      ⟨(some 15), (.off (.t 1) 3), none, []⟩,
      ⟨(some 16), (.load none (.t 15)), none, []⟩,
      ⟨(some 17), (.off (.t 1) 15), none, []⟩,
      ⟨(some 18), (.load none (.t 17)), none, []⟩,
      ⟨(some 19), (.off (.t 1) 6), none, []⟩,
      ⟨(some 20), (.load none (.t 19)), none, []⟩,
      ⟨(some 21), (.off (.t 1) 7), none, []⟩,
      ⟨(some 22), (.load none (.t 21)), none, []⟩,
      ⟨(some 23), (.bsl 1 7 [(.i .i64 (0)), (.i .i64 (0)), (.i .i64 (0)), (.i .i64 (0)), (.i .i64 (0)), (.i .i64 (0)), (.i .i64 (0))] [(0, 1, (.t 10)), (1, 1, (.t 12)), (2, 1, (.t 14)), (3, 1, (.t 16)), (4, 1, (.t 18)), (5, 1, (.t 20)), (6, 1, (.t 22))]), none, []⟩,
      ⟨(some 24), (.lenk 0 (.t 23)), none, []⟩,
      ⟨(some 25), (.mov (.c (.i .i64 (0)))), none, []⟩] [9, 10, 11, 12, 13, 14, 15, 16, 17, 18, 19, 20, 21, 22])
    (.block 0
      (.loop L37a)))
    (.seq (.seq (.region [⟨(some 32), (.off (.t 1) 0), none, []⟩,
      ⟨(some 33), (.load none (.t 32)), none, []⟩,
      ⟨(some 34), (.off (.t 1) 1), none, []⟩,
      ⟨(some 35), (.load none (.t 34)), none, []⟩,
      ⟨(some 36), (.off (.t 1) 2), none, []⟩,
      ⟨(some 37), (.load none (.t 36)), none, []⟩,
      ⟨(some 38), (.mm true (.t 33) [(.t 35), (.t 37)]), none, []⟩,
      ⟨(some 39), (.bin .gtr (.t 38) (.c (.i .i64 (9007199254740991)))), none, []⟩] [23, 24, 25, 26, 32, 33, 34, 35, 36, 37, 38])
    (.cond (.t 39)
      (.seq (.region [⟨(some 2), (.mov (.c (.i .i64 (2)))), none, []⟩] [1, 39])
      .ret)
      (.region [] [39])))
    (.seq (.seq (.region [⟨(some 40), (.off (.t 1) 3), none, []⟩,
      ⟨(some 41), (.load none (.t 40)), none, []⟩,
      ⟨(some 42), (.bin .gtr (.t 41) (.c (.i .i64 (64)))), none, []⟩,
      ⟨(some 43), (.mov (.t 42)), none, []⟩,
      ⟨(some 44), (.off (.t 1) 15), (some (43, false)), []⟩,
      ⟨(some 45), (.load none (.t 44)), (some (43, false)), []⟩,
      ⟨(some 46), (.bin .gtr (.t 45) (.c (.i .i64 (1)))), (some (43, false)), []⟩,
      ⟨(some 47), (.pick (.t 43) (.c (.b true)) (.t 46)), none, []⟩,
      ⟨(some 48), (.mov (.t 47)), none, []⟩,
      ⟨(some 49), (.off (.t 1) 6), (some (48, false)), []⟩,
      ⟨(some 50), (.load none (.t 49)), (some (48, false)), []⟩,
      ⟨(some 51), (.bin .gtr (.t 50) (.c (.i .i64 (3)))), (some (48, false)), []⟩,
      ⟨(some 52), (.pick (.t 48) (.c (.b true)) (.t 51)), none, []⟩,
      ⟨(some 53), (.mov (.t 52)), none, []⟩,
      ⟨(some 54), (.off (.t 1) 4), (some (53, false)), []⟩,
      ⟨(some 55), (.load none (.t 54)), (some (53, false)), []⟩,
      ⟨(some 56), (.lenk 0 (.t 55)), (some (53, false)), []⟩,
      ⟨(some 57), (.bin .gtr (.t 56) (.c (.i .i64 (4096)))), (some (53, false)), []⟩,
      ⟨(some 58), (.pick (.t 53) (.c (.b true)) (.t 57)), none, []⟩,
      ⟨(some 59), (.mov (.t 58)), none, []⟩,
      ⟨(some 60), (.off (.t 1) 5), (some (59, false)), []⟩,
      ⟨(some 61), (.load none (.t 60)), (some (59, false)), []⟩,
      ⟨(some 62), (.lenk 0 (.t 61)), (some (59, false)), []⟩,
      ⟨(some 63), (.bin .gtr (.t 62) (.c (.i .i64 (64)))), (some (59, false)), []⟩,
      ⟨(some 64), (.pick (.t 59) (.c (.b true)) (.t 63)), none, []⟩] [40, 41, 42, 43, 44, 45, 46, 47, 48, 49, 50, 51, 52, 53, 54, 55, 56, 57, 58, 59, 60, 61, 62, 63])
    (.cond (.t 64)
      (.seq (.region [⟨(some 2), (.mov (.c (.i .i64 (2)))), none, []⟩] [1, 64])
      .ret)
      (.region [] [64])))
    (.seq (.seq (.region [⟨(some 65), (.off (.t 1) 4), none, []⟩,
      ⟨(some 66), (.load none (.t 65)), none, []⟩,
      ⟨(some 67), (.lenk 0 (.t 66)), none, []⟩,
      ⟨(some 68), (.mov (.c (.i .i64 (0)))), none, []⟩] [65])
    (.block 2
      (.loop L37b)))
    (.seq (.region [⟨(some 80), (.off (.t 1) 6), none, []⟩,
      ⟨(some 81), (.load none (.t 80)), none, []⟩,
      ⟨(some 82), (.bin .eql (.t 81) (.c (.i .i64 (2)))), none, []⟩,
      ⟨(some 83), (.mov (.t 82)), none, []⟩,
      ⟨(some 84), (.off (.t 1) 8), (some (83, true)), []⟩,
      ⟨(some 85), (.load (some 7) (.t 84)), (some (83, true)), []⟩,
      ⟨(some 86), (.off (.t 1) 3), (some (83, true)), []⟩,
      ⟨(some 87), (.load none (.t 86)), (some (83, true)), []⟩,
      ⟨(some 88), (.off (.t 1) 4), (some (83, true)), []⟩,
      ⟨(some 89), (.load none (.t 88)), (some (83, true)), []⟩,
      ⟨(some 90), (.lenk 0 (.t 89)), (some (83, true)), []⟩,
      ⟨(some 91), (.call 51 [(.t 85), (.t 87), (.t 90)]), (some (83, true)), []⟩,
      ⟨(some 92), (.pick (.t 83) (.t 91) (.c (.b false))), none, []⟩,
      ⟨(some 7), (.mov (.t 92)), none, []⟩] [66, 67, 68, 69, 80, 81, 82, 83, 84, 85, 86, 87, 88, 89, 90, 91, 92])
    (.seq (.region [⟨(some 93), (.off (.t 1) 6), none, []⟩,
      ⟨(some 94), (.load none (.t 93)), none, []⟩,
      ⟨(some 95), (.bin .neq (.t 94) (.c (.i .i64 (2)))), none, []⟩,
      ⟨(some 96), (.mov (.t 95)), none, []⟩,
      ⟨(some 97), (.off (.t 1) 8), (some (96, true)), []⟩,
      ⟨(some 98), (.off (.t 97) 0), (some (96, true)), []⟩,
      ⟨(some 99), (.load none (.t 98)), (some (96, true)), []⟩,
      ⟨(some 100), (.bin .eql (.t 99) (.c (.i .i64 (0)))), (some (96, true)), []⟩,
      ⟨(some 101), (.pick (.t 96) (.t 100) (.c (.b false))), none, []⟩,
      ⟨(some 102), (.mov (.t 101)), none, []⟩,
      ⟨(some 103), (.off (.t 1) 8), (some (102, true)), []⟩,
      ⟨(some 104), (.off (.t 103) 1), (some (102, true)), []⟩,
      ⟨(some 105), (.load none (.t 104)), (some (102, true)), []⟩,
      ⟨(some 106), (.bin .eql (.t 105) (.c (.i .i64 (0)))), (some (102, true)), []⟩,
      ⟨(some 107), (.pick (.t 102) (.t 106) (.c (.b false))), none, []⟩,
      ⟨(some 108), (.mov (.t 107)), none, []⟩,
      ⟨(some 109), (.off (.t 1) 8), (some (108, true)), []⟩,
      ⟨(some 110), (.off (.t 109) 2), (some (108, true)), []⟩,
      ⟨(some 111), (.load (some 5) (.t 110)), (some (108, true)), []⟩,
      ⟨(some 112), (.call 52 [(.t 111)]), (some (108, true)), []⟩,
      ⟨(some 113), (.pick (.t 108) (.t 112) (.c (.b false))), none, []⟩,
      ⟨(some 8), (.mov (.t 113)), none, []⟩] [93, 94, 95, 96, 97, 98, 99, 100, 101, 102, 103, 104, 105, 106, 107, 108, 109, 110, 111, 112, 113])
    (.seq (.seq (.region [⟨(some 114), (.mov (.t 7)), none, []⟩,
      ⟨(some 115), (.un .not (.t 114)), none, []⟩,
      ⟨(some 116), (.mov (.t 115)), none, []⟩,
      ⟨(some 117), (.mov (.t 8)), (some (116, true)), []⟩,
      ⟨(some 118), (.un .not (.t 117)), (some (116, true)), []⟩,
      ⟨(some 119), (.pick (.t 116) (.t 118) (.c (.b false))), none, []⟩,
      ⟨(some 120), (.mov (.t 119)), none, []⟩,
      ⟨(some 121), (.off (.t 1) 5), (some (120, false)), []⟩,
      ⟨(some 122), (.load none (.t 121)), (some (120, false)), []⟩,
      ⟨(some 123), (.off (.t 1) 3), (some (120, false)), []⟩,
      ⟨(some 124), (.load none (.t 123)), (some (120, false)), []⟩,
      ⟨(some 125), (.off (.t 1) 4), (some (120, false)), []⟩,
      ⟨(some 126), (.load none (.t 125)), (some (120, false)), []⟩,
      ⟨(some 127), (.lenk 0 (.t 126)), (some (120, false)), []⟩,
      ⟨(some 128), (.call 53 [(.t 122), (.t 124), (.t 127)]), (some (120, false)), []⟩,
      ⟨(some 129), (.un .not (.t 128)), (some (120, false)), []⟩,
      ⟨(some 130), (.pick (.t 120) (.c (.b true)) (.t 129)), none, []⟩] [1, 7, 8, 114, 115, 116, 117, 118, 119, 120, 121, 122, 123, 124, 125, 126, 127, 128, 129])
    (.cond (.t 130)
      (.seq (.region [⟨(some 2), (.mov (.c (.i .i64 (2)))), none, []⟩] [130])
      .ret)
      (.region [] [130])))
    (.seq (.region [⟨(some 2), (.mov (.c (.i .i64 (0)))), none, []⟩] [])
    .ret))))))))),
    131, 1, [.t 2], 2⟩
theorem tr37 : trFunc Tryd.prog [([], [0, 2]), ([], [9, 10, 11, 12, 13, 14, 15, 16, 17, 18, 19, 20, 21, 22]), ([], []), ([], [26]), ([], [27, 28]), ([], [4, 29]), ([], [1, 23, 24, 25, 30]), ([], [30]), ([], [31]), ([], [23, 24, 25, 26, 32, 33, 34, 35, 36, 37, 38]), ([], [1, 39]), ([], [39]), ([], [40, 41, 42, 43, 44, 45, 46, 47, 48, 49, 50, 51, 52, 53, 54, 55, 56, 57, 58, 59, 60, 61, 62, 63]), ([], [1, 64]), ([], [64]), ([], [65]), ([], []), ([], [69]), ([], [70, 71, 72]), ([], [6, 5, 73, 74, 75, 76, 77]), ([], [1, 66, 67, 68, 78]), ([], [78]), ([], [79]), ([], [66, 67, 68, 69, 80, 81, 82, 83, 84, 85, 86, 87, 88, 89, 90, 91, 92]), ([], [93, 94, 95, 96, 97, 98, 99, 100, 101, 102, 103, 104, 105, 106, 107, 108, 109, 110, 111, 112, 113]), ([], [1, 7, 8, 114, 115, 116, 117, 118, 119, 120, 121, 122, 123, 124, 125, 126, 127, 128, 129]), ([], [130]), ([], [130]), ([], [])] 1 Tryd.f37 = some (plain1 I37) := by kernel_rfl
theorem ck37 : ckC 2 I37.body = true := by kernel_rfl

/-- '(*encore/guess.maker).step'. -/
def L38a : ICode :=
  (.seq (.region [⟨(some 30), (.bin .lss (.t 29) (.t 28)), none, []⟩] [])
    (.seq (.cond (.t 30)
      (.region [] [30])
      (.exit 0))
    (.seq (.block 1
      (.seq (.region [⟨(some 31), (.iaddr 7 (.t 27) (.t 29)), none, []⟩,
        ⟨(some 32), (.load (some 7) (.t 31)), none, []⟩,
        ⟨(some 8), (.alloc [(.i .i64 (0)), (.i .i64 (0)), (.i .i64 (0)), (.i .i64 (0)), (.s []), .ns, .ns]), none, []⟩,
        ⟨none, (.store 7 (.t 8) (.t 32)), none, []⟩] [31, 32])
      (.region [⟨(some 33), (.load none (.t 2)), none, []⟩,
        ⟨(some 34), (.load (some 7) (.t 8)), none, []⟩,
        ⟨(some 35), (.load none (.t 5)), none, []⟩,
        ⟨(some 36), (.call 56 [(.t 33), (.t 34), (.t 35)]), none, []⟩] [8, 33, 34, 35, 36])))
    (.region [⟨(some 37), (.bin .add (.t 29) (.c (.i .i64 (1)))), none, []⟩,
      ⟨(some 29), (.mov (.t 37)), none, []⟩] [37]))))
def I38 : IFunc :=
  ⟨(.seq (.region [⟨(some 2), (.box (.t 0)), none, []⟩,
      ⟨(some 3), (.box (.t 1)), none, []⟩] [0, 1])
    (.seq (.region [⟨(some 9), (.load none (.t 2)), none, []⟩,
      ⟨(some 10), (.off (.t 3) 2), none, []⟩,
      ⟨(some 11), (.load none (.t 10)), none, []⟩,
      ⟨(some 13), (.off (.t 3) 4), none, []⟩,
      ⟨(some 14), (.load none (.t 13)), none, []⟩,
      ⟨(some 12), (.call 39 [(.t 9), (.t 11)]), none, [(14, (.load none (.t 13)), none)]⟩,
      ⟨(some 16), (.off (.t 3) 2), none, []⟩,
      ⟨(some 15), (.call 54 [(.t 14)]), none, []⟩,
      ⟨none, (.store 1 (.t 16) (.t 12)), none, []⟩,
      ⟨(some 17), (.off (.t 3) 4), none, []⟩,
      ⟨none, (.store 1 (.t 17) (.t 15)), none, []⟩] [9, 10, 11, 13, 14, 12, 16, 15, 17])
    (.seq (.seq (.region [⟨(some 19), (.off (.t 3) 0), none, []⟩,
      ⟨(some 20), (.load none (.t 19)), none, []⟩,
      ⟨(some 21), (.call 55 [(.t 20)]), none, []⟩,
      ⟨(some 18), (.mov (.t 21)), none, []⟩,
      ⟨(some 22), (.ext (.t 18) 0), none, []⟩,
      ⟨(some 23), (.ext (.t 18) 1), none, []⟩,
      ⟨(some 24), (.ext (.t 18) 2), none, []⟩,
      ⟨(some 5), (.alloc [(.i .i64 (0))]), none, []⟩,
      ⟨(some 4), (.mov (.t 22)), none, []⟩,
      ⟨none, (.store 1 (.t 5) (.t 23)), none, []⟩,
      ⟨(some 6), (.mov (.t 24)), none, []⟩] [19, 20, 21, 18, 22, 23, 24])
    (.seq (.region [⟨(some 25), (.mov (.t 6)), none, []⟩] [6])
    (.cond (.t 25)
      (.seq (.seq (.region [⟨(some 26), (.off (.t 3) 2), none, []⟩,
        ⟨(some 27), (.load none (.t 26)), none, []⟩,
        ⟨(some 28), (.lenk 0 (.t 27)), none, []⟩,
        ⟨(some 29), (.mov (.c (.i .i64 (0)))), none, []⟩] [25, 26])
      (.block 0
        (.loop L38a)))
      (.seq (.region [⟨(some 38), (.off (.t 3) 2), none, []⟩,
        ⟨(some 39), (.load none (.t 38)), none, []⟩,
        ⟨(some 40), (.mkf 58 [] [(.t 2), (.t 5)]), none, []⟩,
        ⟨(some 41), (.call 57 [(.t 39), (.t 40)]), none, []⟩,
        ⟨(some 42), (.un .not (.t 41)), none, []⟩] [5, 27, 28, 29, 30, 38, 39, 40, 41])
      (.cond (.t 42)
        (.region [⟨(some 43), (.mov (.t 4)), none, []⟩,
          ⟨(some 44), (.off (.t 3) 0), none, []⟩,
          ⟨none, (.store 1 (.t 44) (.t 43)), none, []⟩] [4, 42, 43, 44])
        (.region [] [4, 42]))))
      (.region [] [5, 4, 25]))))
    (.seq (.seq (.region [⟨(some 45), (.off (.t 3) 0), none, []⟩,
      ⟨(some 46), (.load none (.t 45)), none, []⟩,
      ⟨(some 47), (.bin .eql (.t 46) (.c (.i .i64 (40)))), none, []⟩,
      ⟨(some 48), (.mov (.t 47)), none, []⟩,
      ⟨(some 49), (.off (.t 3) 2), (some (48, true)), []⟩,
      ⟨(some 50), (.load none (.t 49)), (some (48, true)), []⟩,
      ⟨(some 51), (.iaddr 7 (.t 50) (.c (.i .i64 (0)))), (some (48, true)), []⟩,
      ⟨(some 52), (.off (.t 51) 0), (some (48, true)), []⟩,
      ⟨(some 53), (.load none (.t 52)), (some (48, true)), []⟩,
      ⟨(some 54), (.bin .eql (.t 53) (.c (.i .i64 (1)))), (some (48, true)), []⟩,
      ⟨(some 55), (.pick (.t 48) (.t 54) (.c (.b false))), none, []⟩] [45, 46, 47, 48, 49, 50, 51, 52, 53, 54])
    (.cond (.t 55)
      (.region [⟨(some 56), (.load none (.t 2)), none, []⟩,
        ⟨(some 57), (.nck (.t 56)), none, []⟩,
        ⟨(some 58), (.off (.t 57) 1), none, []⟩,
        ⟨(some 59), (.load none (.t 58)), none, []⟩,
        ⟨(some 60), (.off (.t 3) 2), none, []⟩,
        ⟨(some 61), (.load none (.t 60)), none, []⟩,
        ⟨(some 62), (.iaddr 7 (.t 61) (.c (.i .i64 (0)))), none, []⟩,
        ⟨(some 63), (.off (.t 62) 1), none, []⟩,
        ⟨(some 64), (.load none (.t 63)), none, []⟩,
        ⟨(some 65), (.off (.t 3) 1), none, []⟩,
        ⟨(some 66), (.load none (.t 65)), none, []⟩,
        ⟨(some 67), (.iaddr 1 (.t 59) (.t 64)), none, []⟩,
        ⟨none, (.store 1 (.t 67) (.t 66)), none, []⟩] [55, 56, 57, 58, 59, 60, 61, 62, 63, 64, 65, 66, 67])
      (.region [] [55])))
    (.seq (.region [⟨(some 68), (.load none (.t 2)), none, []⟩,
      ⟨(some 69), (.load none (.t 2)), none, []⟩,
      ⟨(some 70), (.nck (.t 69)), none, []⟩,
      ⟨(some 71), (.off (.t 70) 3), none, []⟩,
      ⟨(some 72), (.load none (.t 71)), none, []⟩,
      ⟨(some 73), (.load none (.t 2)), none, []⟩,
      ⟨(some 74), (.nck (.t 73)), none, []⟩,
      ⟨(some 75), (.off (.t 74) 0), none, []⟩,
      ⟨(some 76), (.load none (.t 75)), none, []⟩,
      ⟨(some 77), (.lenk 0 (.t 76)), none, []⟩,
      ⟨(some 78), (.bsl 1 1 [(.i .i64 (0))] [(0, 1, (.t 77))]), none, []⟩,
      ⟨(some 79), (.app 1 8 (.t 72) (.t 78)), none, [(68, (.load none (.t 2)), none)]⟩,
      ⟨(some 80), (.nck (.t 68)), none, []⟩,
      ⟨(some 81), (.off (.t 80) 3), none, []⟩,
      ⟨none, (.store 1 (.t 81) (.t 79)), none, []⟩] [68, 69, 70, 71, 72, 73, 74, 75, 76, 77, 78, 79, 80, 81])
    (.region [⟨(some 82), (.load none (.t 2)), none, []⟩,
      ⟨(some 83), (.load none (.t 2)), none, []⟩,
      ⟨(some 84), (.nck (.t 83)), none, []⟩,
      ⟨(some 85), (.off (.t 84) 0), none, []⟩,
      ⟨(some 86), (.load none (.t 85)), none, []⟩,
      ⟨(some 87), (.load (some 5) (.t 3)), none, []⟩,
      ⟨(some 88), (.bsl 5 1 [(.i .i64 (0)), (.i .i64 (0)), .ns, (.s []), .ns] [(0, 5, (.t 87))]), none, []⟩,
      ⟨(some 89), (.app 5 80 (.t 86) (.t 88)), none, [(82, (.load none (.t 2)), none)]⟩,
      ⟨(some 90), (.nck (.t 82)), none, []⟩,
      ⟨(some 91), (.off (.t 90) 0), none, []⟩,
      ⟨none, (.store 1 (.t 91) (.t 89)), none, []⟩] [2, 3, 82, 83, 84, 85, 86, 87, 88, 89, 90, 91])))))),
    92, 2, [], 0⟩
theorem tr38 : trFunc Tryd.prog [([], [0, 1]), ([0, 1, 2, 4, 5, 3, 7, 6, 8, 9, 10], [9, 10, 11, 13, 14, 12, 16, 15, 17]), ([], [19, 20, 21, 18, 22, 23, 24]), ([], [6]), ([], [25, 26]), ([], []), ([], [30]), ([], [31, 32]), ([], [8, 33, 34, 35, 36]), ([], [37]), ([], [5, 27, 28, 29, 30, 38, 39, 40, 41]), ([], [4, 42, 43, 44]), ([], [4, 42]), ([], [5, 4, 25]), ([], [45, 46, 47, 48, 49, 50, 51, 52, 53, 54]), ([0, 1, 2, 3, 4, 5, 6, 7, 8, 9, 10, 11, 12], [55, 56, 57, 58, 59, 60, 61, 62, 63, 64, 65, 66, 67]), ([], [55]), ([0, 1, 2, 3, 4, 5, 6, 7, 8, 9, 10, 11, 12, 13, 14], [68, 69, 70, 71, 72, 73, 74, 75, 76, 77, 78, 79, 80, 81]), ([0, 1, 2, 3, 4, 5, 6, 7, 8, 9, 10], [2, 3, 82, 83, 84, 85, 86, 87, 88, 89, 90, 91])] 0 Tryd.f38 = some (plain1 I38) := by kernel_rfl
theorem ck38 : ckC 2 I38.body = true := by kernel_rfl

/-- '(*encore/guess.maker).moved'. -/
def L39a : ICode :=
  (.seq (.region [⟨(some 10), (.bin .lss (.t 9) (.t 8)), none, []⟩] [])
    (.seq (.cond (.t 10)
      (.region [] [10])
      (.exit 0))
    (.seq (.block 1
      (.seq (.region [⟨(some 11), (.iaddr 7 (.t 7) (.t 9)), none, []⟩,
        ⟨(some 12), (.load (some 7) (.t 11)), none, []⟩,
        ⟨(some 6), (.alloc [(.i .i64 (0)), (.i .i64 (0)), (.i .i64 (0)), (.i .i64 (0)), (.s []), .ns, .ns]), none, []⟩,
        ⟨none, (.store 7 (.t 6) (.t 12)), none, []⟩] [11, 12])
      (.seq (.seq (.region [⟨(some 13), (.off (.t 6) 0), none, []⟩,
        ⟨(some 14), (.load none (.t 13)), none, []⟩,
        ⟨(some 15), (.bin .eql (.t 14) (.c (.i .i64 (2)))), none, []⟩] [13, 14])
      (.cond (.t 15)
        (.region [⟨(some 16), (.mov (.t 0)), none, []⟩,
          ⟨(some 17), (.nck (.t 16)), none, []⟩,
          ⟨(some 18), (.off (.t 17) 3), none, []⟩,
          ⟨(some 19), (.load none (.t 18)), none, []⟩,
          ⟨(some 20), (.off (.t 6) 1), none, []⟩,
          ⟨(some 21), (.load none (.t 20)), none, []⟩,
          ⟨(some 22), (.iaddr 1 (.t 19) (.t 21)), none, []⟩,
          ⟨(some 23), (.load none (.t 22)), none, []⟩,
          ⟨(some 24), (.off (.t 6) 1), none, []⟩,
          ⟨none, (.store 1 (.t 24) (.t 23)), none, []⟩] [15, 16, 17, 18, 19, 20, 21, 22, 23, 24])
        (.region [] [15])))
      (.seq (.region [⟨(some 25), (.off (.t 6) 2), none, []⟩,
        ⟨(some 26), (.load (some 5) (.t 25)), none, []⟩,
        ⟨(some 27), (.call 60 [(.t 26)]), none, []⟩,
        ⟨(some 28), (.off (.t 6) 2), none, []⟩,
        ⟨none, (.store 5 (.t 28) (.t 27)), none, []⟩] [25, 26, 27, 28])
      (.region [⟨(some 29), (.mov (.t 4)), none, []⟩,
        ⟨(some 30), (.load (some 7) (.t 6)), none, []⟩,
        ⟨(some 31), (.bsl 7 1 [(.i .i64 (0)), (.i .i64 (0)), (.i .i64 (0)), (.i .i64 (0)), (.s []), .ns, .ns] [(0, 7, (.t 30))]), none, []⟩,
        ⟨(some 32), (.app 7 96 (.t 29) (.t 31)), none, []⟩,
        ⟨(some 4), (.mov (.t 32)), none, []⟩] [6, 29, 30, 31, 32])))))
    (.region [⟨(some 33), (.bin .add (.t 9) (.c (.i .i64 (1)))), none, []⟩,
      ⟨(some 9), (.mov (.t 33)), none, []⟩] [33]))))
def I39 : IFunc :=
  ⟨(.seq (.region [⟨(some 4), (.mov (.c .ns)), none, []⟩] [])
    (.seq (.seq (.region [⟨(some 7), (.mov (.t 1)), none, []⟩,
      ⟨(some 8), (.lenk 0 (.t 7)), none, []⟩,
      ⟨(some 9), (.mov (.c (.i .i64 (0)))), none, []⟩] [1])
    (.block 0
      (.loop L39a)))
    (.seq (.region [⟨(some 34), (.mov (.t 4)), none, []⟩,
      ⟨(some 4), (.mov (.t 34)), none, []⟩] [0, 7, 8, 9, 10, 34])
    .ret))),
    35, 2, [.t 4], 2⟩
theorem tr39 : trFunc Tryd.prog [([], []), ([], [1]), ([], []), ([], [10]), ([], [11, 12]), ([], [13, 14]), ([0, 1, 2, 3, 4, 5, 6, 7, 8, 9], [15, 16, 17, 18, 19, 20, 21, 22, 23, 24]), ([], [15]), ([], [25, 26, 27, 28]), ([], [6, 29, 30, 31, 32]), ([], [33]), ([], [0, 7, 8, 9, 10, 34])] 1 Tryd.f39 = some (plain1 I39) := by kernel_rfl
theorem ck39 : ckC 2 I39.body = true := by kernel_rfl

/-- 'encore/encoreref20.Copy'. -/
def L40a : ICode :=
  (.seq (.seq (.region [⟨(some 7), (.mov (.t 4)), none, []⟩,
      ⟨(some 8), (.off (.t 1) 4), none, []⟩,
      ⟨(some 9), (.load none (.t 8)), none, []⟩,
      ⟨(some 10), (.lenk 0 (.t 9)), none, []⟩,
      ⟨(some 11), (.bin .lss (.t 7) (.t 10)), none, []⟩] [7, 8, 9, 10])
    (.cond (.t 11)
      (.region [] [11])
      (.exit 0)))
    (.seq (.block 1
      (.region [⟨(some 14), (.off (.t 3) 4), none, []⟩,
        ⟨(some 15), (.load none (.t 14)), none, []⟩,
        ⟨(some 16), (.off (.t 1) 4), none, []⟩,
        ⟨(some 17), (.load none (.t 16)), none, []⟩,
        ⟨(some 18), (.mov (.t 4)), none, []⟩,
        ⟨(some 19), (.iaddr 5 (.t 17) (.t 18)), none, []⟩,
        ⟨(some 20), (.load (some 5) (.t 19)), none, []⟩,
        ⟨(some 21), (.call 61 [(.t 20)]), none, [(15, (.load none (.t 14)), none)]⟩,
        ⟨(some 22), (.bsl 5 1 [(.i .i64 (0)), (.i .i64 (0)), .ns, (.s []), .ns] [(0, 5, (.t 21))]), none, []⟩,
        ⟨(some 23), (.app 5 80 (.t 15) (.t 22)), none, []⟩,
        ⟨(some 24), (.off (.t 3) 4), none, []⟩,
        ⟨none, (.store 1 (.t 24) (.t 23)), none, []⟩] [14, 15, 16, 17, 18, 19, 20, 21, 22, 23, 24]))
    (.region [⟨(some 12), (.mov (.t 4)), none, []⟩,
      ⟨(some 13), (.bin .add (.t 12) (.c (.i .i64 (1)))), none, []⟩,
      ⟨(some 4), (.mov (.t 13)), none, []⟩] [12, 13])))
def I40 : IFunc :=
  ⟨(.seq (.region [⟨(some 1), (.box (.t 0)), none, []⟩,
      ⟨(some 2), (.alloc [(.i .i64 (0)), (.i .i64 (0)), (.i .i64 (0)), (.i .i64 (0)), .ns, .ns, (.i .i64 (0)), (.i .i64 (0)), (.i .i64 (0)), (.i .i64 (0)), (.i .i64 (0)), (.i .i64 (0)), (.s []), .ns, .ns, (.i .i64 (0))]), none, []⟩] [0])
    (.seq (.region [⟨(some 5), (.load (some 16) (.t 1)), none, []⟩,
      ⟨(some 3), (.alloc [(.i .i64 (0)), (.i .i64 (0)), (.i .i64 (0)), (.i .i64 (0)), .ns, .ns, (.i .i64 (0)), (.i .i64 (0)), (.i .i64 (0)), (.i .i64 (0)), (.i .i64 (0)), (.i .i64 (0)), (.s []), .ns, .ns, (.i .i64 (0))]), none, []⟩,
      ⟨none, (.store 16 (.t 3) (.t 5)), none, []⟩] [5])
    (.seq (.region [⟨(some 6), (.off (.t 3) 4), none, []⟩,
      ⟨none, (.store 1 (.t 6) (.c .ns)), none, []⟩] [6])
    (.seq (.seq (.region [⟨(some 4), (.mov (.c (.i .i64 (0)))), none, []⟩] [])
    (.block 0
      (.loop L40a)))
    (.seq (.region [⟨(some 25), (.off (.t 1) 5), none, []⟩,
      ⟨(some 26), (.load none (.t 25)), none, []⟩,
      ⟨(some 27), (.call 62 [(.t 26)]), none, []⟩,
      ⟨(some 28), (.off (.t 3) 5), none, []⟩,
      ⟨none, (.store 1 (.t 28) (.t 27)), none, []⟩] [4, 11, 25, 26, 27, 28])
    (.seq (.region [⟨(some 29), (.off (.t 1) 8), none, []⟩,
      ⟨(some 30), (.off (.t 29) 2), none, []⟩,
      ⟨(some 31), (.load (some 5) (.t 30)), none, []⟩,
      ⟨(some 32), (.call 24 [(.t 31)]), none, []⟩,
      ⟨(some 33), (.off (.t 3) 8), none, []⟩,
      ⟨(some 34), (.off (.t 33) 2), none, []⟩,
      ⟨none, (.store 5 (.t 34) (.t 32)), none, []⟩] [1, 29, 30, 31, 32, 33, 34])
    (.seq (.region [⟨(some 35), (.load (some 16) (.t 3)), none, []⟩,
      ⟨none, (.store 16 (.t 2) (.t 35)), none, []⟩] [3, 35])
    .ret))))))),
    36, 1, [.c 2 (some 16)], 2⟩
theorem tr40 : trFunc Tryd.prog [([], [0]), ([], [5]), ([], [6]), ([], []), ([], [7, 8, 9, 10]), ([], [11]), ([0, 1, 2, 3, 4, 5, 6, 7, 8, 9, 10, 11], [14, 15, 16, 17, 18, 19, 20, 21, 22, 23, 24]), ([], [12, 13]), ([], [4, 11, 25, 26, 27, 28]), ([], [1, 29, 30, 31, 32, 33, 34]), ([], [3, 35])] 1 Tryd.f40 = some (plain1 I40) := by kernel_rfl
theorem ck40 : ckC 2 I40.body = true := by kernel_rfl

/-- 'encore/encorelaw22.back'. -/
def L41a : ICode :=
  (.seq (.seq (.region [⟨(some 5), (.mov (.t 4)), none, []⟩,
      ⟨(some 6), (.mov (.t 0)), none, []⟩,
      ⟨(some 7), (.lenk 0 (.t 6)), none, []⟩,
      ⟨(some 8), (.bin .lss (.t 5) (.t 7)), none, []⟩] [5, 6, 7])
    (.cond (.t 8)
      (.region [] [8])
      (.exit 0)))
    (.seq (.block 1
      (.region [⟨(some 11), (.mov (.t 3)), none, []⟩,
        ⟨(some 12), (.mov (.t 0)), none, []⟩,
        ⟨(some 13), (.mov (.t 4)), none, []⟩,
        ⟨(some 14), (.iaddr 7 (.t 12) (.t 13)), none, []⟩,
        ⟨(some 15), (.off (.t 14) 0), none, []⟩,
        ⟨(some 16), (.load none (.t 15)), none, []⟩,
        ⟨(some 17), (.mov (.t 0)), none, []⟩,
        ⟨(some 18), (.mov (.t 4)), none, []⟩,
        ⟨(some 19), (.iaddr 7 (.t 17) (.t 18)), none, []⟩,
        ⟨(some 20), (.off (.t 19) 1), none, []⟩,
        ⟨(some 21), (.load none (.t 20)), none, []⟩,
        ⟨(some 22), (.mov (.t 0)), none, []⟩,
        ⟨(some 23), (.mov (.t 4)), none, []⟩,
        ⟨(some 24), (.iaddr 7 (.t 22) (.t 23)), none, []⟩,
        ⟨(some 25), (.off (.t 24) 2), none, []⟩,
        ⟨(some 26), (.load (some 5) (.t 25)), none, []⟩,
        ⟨(some 27), (.build [(.i .i64 (0)), (.i .i64 (0)), (.i .i64 (0)), (.i .i64 (0)), (.s []), .ns, .ns] [(0, 1, (.t 16)), (1, 1, (.t 21)), (2, 5, (.t 26))]), none, []⟩,
        ⟨(some 28), (.bsl 7 1 [(.i .i64 (0)), (.i .i64 (0)), (.i .i64 (0)), (.i .i64 (0)), (.s []), .ns, .ns] [(0, 7, (.t 27))]), none, []⟩,
        ⟨(some 29), (.app 7 96 (.t 11) (.t 28)), none, []⟩,
        ⟨(some 3), (.mov (.t 29)), none, []⟩] [11, 12, 13, 14, 15, 16, 17, 18, 19, 20, 21, 22, 23, 24, 25, 26, 27, 28, 29]))
    (.region [⟨(some 9), (.mov (.t 4)), none, []⟩,
      ⟨(some 10), (.bin .add (.t 9) (.c (.i .i64 (1)))), none, []⟩,
      ⟨(some 4), (.mov (.t 10)), none, []⟩] [9, 10])))
def I41 : IFunc :=
  ⟨(.seq (.region [⟨(some 2), (.mov (.c .ns)), none, []⟩] [2])
    (.seq (.region [⟨(some 3), (.mov (.c .ns)), none, []⟩] [])
    (.seq (.seq (.region [⟨(some 4), (.mov (.c (.i .i64 (0)))), none, []⟩] [])
    (.block 0
      (.loop L41a)))
    (.seq (.region [⟨(some 30), (.mov (.t 3)), none, []⟩,
      ⟨(some 2), (.mov (.t 30)), none, []⟩] [0, 3, 4, 8, 30])
    .ret)))),
    31, 1, [.t 2], 2⟩
theorem tr41 : trFunc Tryd.prog [([], [2]), ([], []), ([], []), ([], [5, 6, 7]), ([], [8]), ([0, 1, 2, 3, 4, 5, 6, 7, 8, 9, 10, 11, 12, 13, 14, 15, 16, 17, 18, 19], [11, 12, 13, 14, 15, 16, 17, 18, 19, 20, 21, 22, 23, 24, 25, 26, 27, 28, 29]), ([], [9, 10]), ([], [0, 3, 4, 8, 30])] 1 Tryd.f41 = some (plain1 I41) := by kernel_rfl
theorem ck41 : ckC 2 I41.body = true := by kernel_rfl

/-- 'encore/value.fits'. -/
def L42a : ICode :=
  (.seq (.region [⟨(some 22), (.bin .lss (.t 21) (.t 20)), none, []⟩] [])
    (.seq (.cond (.t 22)
      (.region [] [22])
      (.exit 0))
    (.seq (.block 1
      (.seq (.region [⟨(some 23), (.iaddr 1 (.t 19) (.t 21)), none, []⟩,
        ⟨(some 24), (.load none (.t 23)), none, []⟩,
        ⟨(some 9), (.mov (.t 24)), none, []⟩] [23, 24])
      (.region [⟨(some 25), (.mov (.t 2)), none, []⟩,
        ⟨(some 26), (.mov (.t 9)), none, []⟩,
        ⟨(some 27), (.lenk 1 (.t 26)), none, []⟩,
        ⟨(some 28), (.bin .sub (.t 25) (.t 27)), none, []⟩,
        ⟨(some 2), (.mov (.t 28)), none, []⟩] [9, 25, 26, 27, 28])))
    (.region [⟨(some 29), (.bin .add (.t 21) (.c (.i .i64 (1)))), none, []⟩,
      ⟨(some 21), (.mov (.t 29)), none, []⟩] [29]))))
def L42b : ICode :=
  (.seq (.region [⟨(some 45), (.bin .lss (.t 44) (.t 43)), none, []⟩] [])
    (.seq (.cond (.t 45)
      (.region [] [45])
      (.exit 2))
    (.seq (.block 3
      (.seq (.region [⟨(some 46), (.mov (.t 44)), none, []⟩,
        ⟨(some 11), (.mov (.t 46)), none, []⟩] [46])
      (.seq (.region [⟨(some 48), (.off (.t 3) 3), none, []⟩,
        ⟨(some 49), (.load none (.t 48)), none, []⟩,
        ⟨(some 50), (.mov (.t 11)), none, []⟩,
        ⟨(some 51), (.iaddr 5 (.t 49) (.t 50)), none, []⟩,
        ⟨(some 52), (.load (some 5) (.t 51)), none, []⟩,
        ⟨(some 53), (.mov (.t 1)), none, []⟩,
        ⟨(some 54), (.bin .add (.t 53) (.c (.i .i64 (1)))), none, []⟩,
        ⟨(some 55), (.mov (.t 2)), none, []⟩,
        ⟨(some 56), (.call 42 [(.t 52), (.t 54), (.t 55)]), none, []⟩,
        ⟨(some 47), (.mov (.t 56)), none, []⟩,
        ⟨(some 57), (.ext (.t 47) 0), none, []⟩,
        ⟨(some 58), (.ext (.t 47) 1), none, []⟩,
        ⟨(some 2), (.mov (.t 57)), none, []⟩,
        ⟨(some 10), (.mov (.t 58)), none, []⟩] [11, 48, 49, 50, 51, 52, 53, 54, 55, 56, 47, 57, 58])
      (.seq (.region [⟨(some 59), (.mov (.t 10)), none, []⟩,
        ⟨(some 60), (.un .not (.t 59)), none, []⟩] [10, 59])
      (.cond (.t 60)
        (.seq (.region [⟨(some 6), (.mov (.c (.i .i64 (0)))), none, []⟩,
          ⟨(some 7), (.mov (.c (.b false))), none, []⟩] [1, 2, 3, 43, 44, 60])
        .ret)
        (.region [] [60]))))))
    (.region [⟨(some 61), (.bin .add (.t 44) (.c (.i .i64 (1)))), none, []⟩,
      ⟨(some 44), (.mov (.t 61)), none, []⟩] [61]))))
def I42 : IFunc :=
  ⟨(.seq (.region [⟨(some 3), (.box (.t 0)), none, []⟩,
      ⟨(some 6), (.mov (.c (.i .i64 (0)))), none, []⟩,
      ⟨(some 7), (.mov (.c (.b false))), none, []⟩] [0, 6, 7])
    (.seq (.region [⟨(some 12), (.mov (.t 2)), none, []⟩,
      ⟨(some 13), (.off (.t 3) 2), none, []⟩,
      ⟨(some 14), (.load none (.t 13)), none, []⟩,
      ⟨(some 15), (.lenk 1 (.t 14)), none, []⟩,
      ⟨(some 16), (.bin .add (.c (.i .i64 (1))) (.t 15)), none, []⟩,
      ⟨(some 17), (.bin .sub (.t 12) (.t 16)), none, []⟩,
      ⟨(some 2), (.mov (.t 17)), none, []⟩] [12, 13, 14, 15, 16, 17])
    (.seq (.seq (.region [⟨(some 18), (.off (.t 3) 4), none, []⟩,
      ⟨(some 19), (.load none (.t 18)), none, []⟩,
      ⟨(some 20), (.lenk 0 (.t 19)), none, []⟩,
      ⟨(some 21), (.mov (.c (.i .i64 (0)))), none, []⟩] [18])
    (.block 0
      (.loop L42a)))
    (.seq (.seq (.region [⟨(some 30), (.mov (.t 1)), none, []⟩,
      ⟨(some 31), (.bin .geq (.t 30) (.c (.i .i64 (8)))), none, []⟩,
      ⟨(some 32), (.mov (.t 31)), none, []⟩,
      ⟨(some 33), (.mov (.t 2)), (some (32, false)), []⟩,
      ⟨(some 34), (.bin .lss (.t 33) (.c (.i .i64 (0)))), (some (32, false)), []⟩,
      ⟨(some 35), (.pick (.t 32) (.c (.b true)) (.t 34)), none, []⟩,
      ⟨(some 36), (.mov (.t 35)), none, []⟩,
      ⟨(some 37), (.load (some 5) (.t 3)), (some (36, false)), []⟩,
      ⟨(some 38), (.call 63 [(.t 37)]), (some (36, false)), []⟩,
      ⟨(some 39), (.un .not (.t 38)), (some (36, false)), []⟩,
      ⟨(some 40), (.pick (.t 36) (.c (.b true)) (.t 39)), none, []⟩] [19, 20, 21, 22, 30, 31, 32, 33, 34, 35, 36, 37, 38, 39])
    (.cond (.t 40)
      (.seq (.region [⟨(some 6), (.mov (.c (.i .i64 (0)))), none, []⟩,
        ⟨(some 7), (.mov (.c (.b false))), none, []⟩] [1, 2, 3, 40])
      .ret)
      (.region [] [40])))
    (.seq (.region [⟨(some 10), (.mov (.c (.b true))), none, []⟩] [10])
    (.seq (.seq (.region [⟨(some 41), (.off (.t 3) 3), none, []⟩,
      ⟨(some 42), (.load none (.t 41)), none, []⟩,
      ⟨(some 43), (.lenk 0 (.t 42)), none, []⟩,
      ⟨(some 44), (.mov (.c (.i .i64 (0)))), none, []⟩] [41, 42])
    (.block 2
      (.loop L42b)))
    (.seq (.region [⟨(some 62), (.mov (.t 2)), none, []⟩,
      ⟨(some 6), (.mov (.t 62)), none, []⟩,
      ⟨(some 7), (.mov (.c (.b true))), none, []⟩] [1, 2, 3, 43, 44, 45, 62])
    .ret))))))),
    63, 3, [.t 6, .t 7], 2⟩
theorem tr42 : trFunc Tryd.prog [([], [0, 6, 7]), ([], [12, 13, 14, 15, 16, 17]), ([], [18]), ([], []), ([], [22]), ([], [23, 24]), ([], [9, 25, 26, 27, 28]), ([], [29]), ([], [19, 20, 21, 22, 30, 31, 32, 33, 34, 35, 36, 37, 38, 39]), ([], [1, 2, 3, 40]), ([], [40]), ([], [10]), ([], [41, 42]), ([], []), ([], [45]), ([], [46]), ([], [11, 48, 49, 50, 51, 52, 53, 54, 55, 56, 47, 57, 58]), ([], [10, 59]), ([], [1, 2, 3, 43, 44, 60]), ([], [60]), ([], [61]), ([], [1, 2, 3, 43, 44, 45, 62])] 1 Tryd.f42 = some (plain1 I42) := by kernel_rfl
theorem ck42 : ckC 2 I42.body = true := by kernel_rfl

/-- 'encore/encoreref00.CopyTexts'. -/
def I43 : IFunc :=
  ⟨(.seq (.region [⟨(some 2), (.mov (.c .ns)), none, []⟩] [2])
    (.seq (.region [⟨(some 3), (.mov (.c .ns)), none, []⟩] [])
    (.seq (.region [⟨(some 4), (.mov (.t 3)), none, []⟩,
      ⟨(some 5), (.mov (.t 0)), none, []⟩,
      ⟨(some 6), (.app 1 16 (.t 4) (.t 5)), none, []⟩,
      ⟨(some 3), (.mov (.t 6)), none, []⟩] [0, 4, 5, 6])
    (.seq (.region [⟨(some 7), (.mov (.t 3)), none, []⟩,
      ⟨(some 2), (.mov (.t 7)), none, []⟩] [3, 7])
    .ret)))),
    8, 1, [.t 2], 2⟩
theorem tr43 : trFunc Tryd.prog [([], [2]), ([], []), ([], [0, 4, 5, 6]), ([], [3, 7])] 1 Tryd.f43 = some (plain1 I43) := by kernel_rfl
theorem ck43 : ckC 2 I43.body = true := by kernel_rfl

/-- 'encore/encoreref07.Compare'. -/
def L47a : ICode :=
  (.seq (.seq (.region [⟨(some 38), (.mov (.t 5)), none, []⟩,
      ⟨(some 39), (.off (.t 2) 4), none, []⟩,
      ⟨(some 40), (.load none (.t 39)), none, []⟩,
      ⟨(some 41), (.lenk 0 (.t 40)), none, []⟩,
      ⟨(some 42), (.bin .lss (.t 38) (.t 41)), none, []⟩,
      ⟨(some 43), (.mov (.t 42)), none, []⟩,
      ⟨(some 44), (.mov (.t 5)), (some (43, true)), []⟩,
      ⟨(some 45), (.off (.t 3) 4), (some (43, true)), []⟩,
      ⟨(some 46), (.load none (.t 45)), (some (43, true)), []⟩,
      ⟨(some 47), (.lenk 0 (.t 46)), (some (43, true)), []⟩,
      ⟨(some 48), (.bin .lss (.t 44) (.t 47)), (some (43, true)), []⟩,
      ⟨(some 49), (.pick (.t 43) (.t 48) (.c (.b false))), none, []⟩] [38, 39, 40, 41, 42, 43, 44, 45, 46, 47, 48])
    (.cond (.t 49)
      (.region [] [49])
      (.exit 0)))
    (.seq (.block 1
      (.seq (.region [⟨(some 52), (.off (.t 2) 4), none, []⟩,
        ⟨(some 53), (.load none (.t 52)), none, []⟩,
        ⟨(some 54), (.mov (.t 5)), none, []⟩,
        ⟨(some 55), (.iaddr 1 (.t 53) (.t 54)), none, []⟩,
        ⟨(some 56), (.load none (.t 55)), none, []⟩,
        ⟨(some 57), (.off (.t 3) 4), none, []⟩,
        ⟨(some 58), (.load none (.t 57)), none, []⟩,
        ⟨(some 59), (.mov (.t 5)), none, []⟩,
        ⟨(some 60), (.iaddr 1 (.t 58) (.t 59)), none, []⟩,
        ⟨(some 61), (.load none (.t 60)), none, []⟩,
        ⟨(some 62), (.bin .neq (.t 56) (.t 61)), none, []⟩] [52, 53, 54, 55, 56, 57, 58, 59, 60, 61])
      (.cond (.t 62)
        (.seq (.region [⟨(some 63), (.off (.t 2) 4), none, []⟩,
          ⟨(some 64), (.load none (.t 63)), none, []⟩,
          ⟨(some 65), (.mov (.t 5)), none, []⟩,
          ⟨(some 66), (.iaddr 1 (.t 64) (.t 65)), none, []⟩,
          ⟨(some 67), (.load none (.t 66)), none, []⟩,
          ⟨(some 68), (.off (.t 3) 4), none, []⟩,
          ⟨(some 69), (.load none (.t 68)), none, []⟩,
          ⟨(some 70), (.mov (.t 5)), none, []⟩,
          ⟨(some 71), (.iaddr 1 (.t 69) (.t 70)), none, []⟩,
          ⟨(some 72), (.load none (.t 71)), none, []⟩,
          ⟨(some 73), (.call 66 [(.t 67), (.t 72)]), none, []⟩,
          ⟨(some 4), (.mov (.t 73)), none, []⟩] [2, 3, 5, 62, 63, 64, 65, 66, 67, 68, 69, 70, 71, 72, 73])
        .ret)
        (.region [] [62]))))
    (.region [⟨(some 50), (.mov (.t 5)), none, []⟩,
      ⟨(some 51), (.bin .add (.t 50) (.c (.i .i64 (1)))), none, []⟩,
      ⟨(some 5), (.mov (.t 51)), none, []⟩] [50, 51])))
def L47b : ICode :=
  (.seq (.seq (.region [⟨(some 88), (.mov (.t 6)), none, []⟩,
      ⟨(some 89), (.off (.t 2) 3), none, []⟩,
      ⟨(some 90), (.load none (.t 89)), none, []⟩,
      ⟨(some 91), (.lenk 0 (.t 90)), none, []⟩,
      ⟨(some 92), (.bin .lss (.t 88) (.t 91)), none, []⟩,
      ⟨(some 93), (.mov (.t 92)), none, []⟩,
      ⟨(some 94), (.mov (.t 6)), (some (93, true)), []⟩,
      ⟨(some 95), (.off (.t 3) 3), (some (93, true)), []⟩,
      ⟨(some 96), (.load none (.t 95)), (some (93, true)), []⟩,
      ⟨(some 97), (.lenk 0 (.t 96)), (some (93, true)), []⟩,
      ⟨(some 98), (.bin .lss (.t 94) (.t 97)), (some (93, true)), []⟩,
      ⟨(some 99), (.pick (.t 93) (.t 98) (.c (.b false))), none, []⟩] [88, 89, 90, 91, 92, 93, 94, 95, 96, 97, 98])
    (.cond (.t 99)
      (.region [] [99])
      (.exit 2)))
    (.seq (.block 3
      (.seq (.region [⟨(some 102), (.off (.t 2) 3), none, []⟩,
        ⟨(some 103), (.load none (.t 102)), none, []⟩,
        ⟨(some 104), (.mov (.t 6)), none, []⟩,
        ⟨(some 105), (.iaddr 5 (.t 103) (.t 104)), none, []⟩,
        ⟨(some 106), (.load (some 5) (.t 105)), none, []⟩,
        ⟨(some 107), (.off (.t 3) 3), none, []⟩,
        ⟨(some 108), (.load none (.t 107)), none, []⟩,
        ⟨(some 109), (.mov (.t 6)), none, []⟩,
        ⟨(some 110), (.iaddr 5 (.t 108) (.t 109)), none, []⟩,
        ⟨(some 111), (.load (some 5) (.t 110)), none, []⟩,
        ⟨(some 112), (.call 47 [(.t 106), (.t 111)]), none, []⟩,
        ⟨(some 7), (.mov (.t 112)), none, []⟩] [102, 103, 104, 105, 106, 107, 108, 109, 110, 111, 112])
      (.seq (.region [⟨(some 113), (.mov (.t 7)), none, []⟩,
        ⟨(some 114), (.bin .neq (.t 113) (.c (.i .i64 (0)))), none, []⟩] [113])
      (.cond (.t 114)
        (.seq (.region [⟨(some 115), (.mov (.t 7)), none, []⟩,
          ⟨(some 4), (.mov (.t 115)), none, []⟩] [2, 3, 6, 7, 114, 115])
        .ret)
        (.region [] [7, 114])))))
    (.region [⟨(some 100), (.mov (.t 6)), none, []⟩,
      ⟨(some 101), (.bin .add (.t 100) (.c (.i .i64 (1)))), none, []⟩,
      ⟨(some 6), (.mov (.t 101)), none, []⟩] [100, 101])))
def I47 : IFunc :=
  ⟨(.seq (.region [⟨(some 2), (.box (.t 0)), none, []⟩,
      ⟨(some 3), (.box (.t 1)), none, []⟩,
      ⟨(some 4), (.mov (.c (.i .i64 (0)))), none, []⟩] [0, 1, 4])
    (.seq (.seq (.region [⟨(some 8), (.off (.t 2) 0), none, []⟩,
      ⟨(some 9), (.load none (.t 8)), none, []⟩,
      ⟨(some 10), (.off (.t 3) 0), none, []⟩,
      ⟨(some 11), (.load none (.t 10)), none, []⟩,
      ⟨(some 12), (.bin .neq (.t 9) (.t 11)), none, []⟩] [8, 9, 10, 11])
    (.cond (.t 12)
      (.seq (.region [⟨(some 13), (.off (.t 2) 0), none, []⟩,
        ⟨(some 14), (.load none (.t 13)), none, []⟩,
        ⟨(some 15), (.off (.t 3) 0), none, []⟩,
        ⟨(some 16), (.load none (.t 15)), none, []⟩,
        ⟨(some 17), (.call 65 [(.t 14), (.t 16)]), none, []⟩,
        ⟨(some 4), (.mov (.t 17)), none, []⟩] [2, 3, 12, 13, 14, 15, 16, 17])
      .ret)
      (.region [] [12])))
    (.seq (.seq (.region [⟨(some 18), (.off (.t 2) 1), none, []⟩,
      ⟨(some 19), (.load none (.t 18)), none, []⟩,
      ⟨(some 20), (.off (.t 3) 1), none, []⟩,
      ⟨(some 21), (.load none (.t 20)), none, []⟩,
      ⟨(some 22), (.bin .neq (.t 19) (.t 21)), none, []⟩] [18, 19, 20, 21])
    (.cond (.t 22)
      (.seq (.region [⟨(some 23), (.off (.t 2) 1), none, []⟩,
        ⟨(some 24), (.load none (.t 23)), none, []⟩,
        ⟨(some 25), (.off (.t 3) 1), none, []⟩,
        ⟨(some 26), (.load none (.t 25)), none, []⟩,
        ⟨(some 27), (.call 65 [(.t 24), (.t 26)]), none, []⟩,
        ⟨(some 4), (.mov (.t 27)), none, []⟩] [2, 3, 22, 23, 24, 25, 26, 27])
      .ret)
      (.region [] [22])))
    (.seq (.seq (.region [⟨(some 28), (.off (.t 2) 2), none, []⟩,
      ⟨(some 29), (.load none (.t 28)), none, []⟩,
      ⟨(some 30), (.off (.t 3) 2), none, []⟩,
      ⟨(some 31), (.load none (.t 30)), none, []⟩,
      ⟨(some 32), (.bin .neq (.t 29) (.t 31)), none, []⟩] [28, 29, 30, 31])
    (.cond (.t 32)
      (.seq (.region [⟨(some 33), (.off (.t 2) 2), none, []⟩,
        ⟨(some 34), (.load none (.t 33)), none, []⟩,
        ⟨(some 35), (.off (.t 3) 2), none, []⟩,
        ⟨(some 36), (.load none (.t 35)), none, []⟩,
        ⟨(some 37), (.call 66 [(.t 34), (.t 36)]), none, []⟩,
        ⟨(some 4), (.mov (.t 37)), none, []⟩] [2, 3, 32, 33, 34, 35, 36, 37])
      .ret)
      (.region [] [32])))
    (.seq (.seq (.region [⟨(some 5), (.mov (.c (.i .i64 (0)))), none, []⟩] [])
    (.block 0
      (.loop L47a)))
    (.seq (.seq (.region [⟨(some 74), (.off (.t 2) 4), none, []⟩,
      ⟨(some 75), (.load none (.t 74)), none, []⟩,
      ⟨(some 76), (.lenk 0 (.t 75)), none, []⟩,
      ⟨(some 77), (.off (.t 3) 4), none, []⟩,
      ⟨(some 78), (.load none (.t 77)), none, []⟩,
      ⟨(some 79), (.lenk 0 (.t 78)), none, []⟩,
      ⟨(some 80), (.bin .neq (.t 76) (.t 79)), none, []⟩] [5, 49, 74, 75, 76, 77, 78, 79])
    (.cond (.t 80)
      (.seq (.region [⟨(some 81), (.off (.t 2) 4), none, []⟩,
        ⟨(some 82), (.load none (.t 81)), none, []⟩,
        ⟨(some 83), (.lenk 0 (.t 82)), none, []⟩,
        ⟨(some 84), (.off (.t 3) 4), none, []⟩,
        ⟨(some 85), (.load none (.t 84)), none, []⟩,
        ⟨(some 86), (.lenk 0 (.t 85)), none, []⟩,
        ⟨(some 87), (.call 65 [(.t 83), (.t 86)]), none, []⟩,
        ⟨(some 4), (.mov (.t 87)), none, []⟩] [2, 3, 80, 81, 82, 83, 84, 85, 86, 87])
      .ret)
      (.region [] [80])))
    (.seq (.seq (.region [⟨(some 6), (.mov (.c (.i .i64 (0)))), none, []⟩] [])
    (.block 2
      (.loop L47b)))
    (.seq (.region [⟨(some 116), (.off (.t 2) 3), none, []⟩,
      ⟨(some 117), (.load none (.t 116)), none, []⟩,
      ⟨(some 118), (.lenk 0 (.t 117)), none, []⟩,
      ⟨(some 119), (.off (.t 3) 3), none, []⟩,
      ⟨(some 120), (.load none (.t 119)), none, []⟩,
      ⟨(some 121), (.lenk 0 (.t 120)), none, []⟩,
      ⟨(some 122), (.call 65 [(.t 118), (.t 121)]), none, []⟩,
      ⟨(some 4), (.mov (.t 122)), none, []⟩] [2, 3, 6, 99, 116, 117, 118, 119, 120, 121, 122])
    .ret)))))))),
    123, 2, [.t 4], 2⟩
theorem tr47 : trFunc Tryd.prog [([], [0, 1, 4]), ([], [8, 9, 10, 11]), ([], [2, 3, 12, 13, 14, 15, 16, 17]), ([], [12]), ([], [18, 19, 20, 21]), ([], [2, 3, 22, 23, 24, 25, 26, 27]), ([], [22]), ([], [28, 29, 30, 31]), ([], [2, 3, 32, 33, 34, 35, 36, 37]), ([], [32]), ([], []), ([], [38, 39, 40, 41, 42, 43, 44, 45, 46, 47, 48]), ([], [49]), ([0, 1, 2, 3, 4, 5, 6, 7, 8, 9, 10], [52, 53, 54, 55, 56, 57, 58, 59, 60, 61]), ([0, 1, 2, 3, 4, 5, 6, 7, 8, 9, 10, 11], [2, 3, 5, 62, 63, 64, 65, 66, 67, 68, 69, 70, 71, 72, 73]), ([], [62]), ([], [50, 51]), ([], [5, 49, 74, 75, 76, 77, 78, 79]), ([], [2, 3, 80, 81, 82, 83, 84, 85, 86, 87]), ([], [80]), ([], []), ([], [88, 89, 90, 91, 92, 93, 94, 95, 96, 97, 98]), ([], [99]), ([0, 1, 2, 3, 4, 5, 6, 7, 8, 9, 10, 11], [102, 103, 104, 105, 106, 107, 108, 109, 110, 111, 112]), ([], [113]), ([], [2, 3, 6, 7, 114, 115]), ([], [7, 114]), ([], [100, 101]), ([], [2, 3, 6, 99, 116, 117, 118, 119, 120, 121, 122])] 1 Tryd.f47 = some (plain1 I47) := by kernel_rfl
theorem ck47 : ckC 2 I47.body = true := by kernel_rfl

/-- 'encore/encoreref20.Same'. -/
def L48a : ICode :=
  (.seq (.seq (.region [⟨(some 62), (.mov (.t 5)), none, []⟩,
      ⟨(some 63), (.off (.t 2) 4), none, []⟩,
      ⟨(some 64), (.load none (.t 63)), none, []⟩,
      ⟨(some 65), (.lenk 0 (.t 64)), none, []⟩,
      ⟨(some 66), (.bin .lss (.t 62) (.t 65)), none, []⟩] [62, 63, 64, 65])
    (.cond (.t 66)
      (.region [] [66])
      (.exit 0)))
    (.seq (.block 1
      (.seq (.region [⟨(some 69), (.off (.t 2) 4), none, []⟩,
        ⟨(some 70), (.load none (.t 69)), none, []⟩,
        ⟨(some 71), (.mov (.t 5)), none, []⟩,
        ⟨(some 72), (.iaddr 5 (.t 70) (.t 71)), none, []⟩,
        ⟨(some 73), (.load (some 5) (.t 72)), none, []⟩,
        ⟨(some 74), (.off (.t 3) 4), none, []⟩,
        ⟨(some 75), (.load none (.t 74)), none, []⟩,
        ⟨(some 76), (.mov (.t 5)), none, []⟩,
        ⟨(some 77), (.iaddr 5 (.t 75) (.t 76)), none, []⟩,
        ⟨(some 78), (.load (some 5) (.t 77)), none, []⟩,
        ⟨(some 79), (.call 67 [(.t 73), (.t 78)]), none, []⟩,
        ⟨(some 80), (.un .not (.t 79)), none, []⟩] [69, 70, 71, 72, 73, 74, 75, 76, 77, 78, 79])
      (.cond (.t 80)
        (.seq (.region [⟨(some 4), (.mov (.c (.b false))), none, []⟩] [2, 3, 5, 80])
        .ret)
        (.region [] [80]))))
    (.region [⟨(some 67), (.mov (.t 5)), none, []⟩,
      ⟨(some 68), (.bin .add (.t 67) (.c (.i .i64 (1)))), none, []⟩,
      ⟨(some 5), (.mov (.t 68)), none, []⟩] [67, 68])))
def I48 : IFunc :=
  ⟨(.seq (.region [⟨(some 2), (.box (.t 0)), none, []⟩,
      ⟨(some 3), (.box (.t 1)), none, []⟩,
      ⟨(some 4), (.mov (.c (.b false))), none, []⟩] [0, 1, 4])
    (.seq (.seq (.region [⟨(some 6), (.off (.t 2) 0), none, []⟩,
      ⟨(some 7), (.load none (.t 6)), none, []⟩,
      ⟨(some 8), (.off (.t 3) 0), none, []⟩,
      ⟨(some 9), (.load none (.t 8)), none, []⟩,
      ⟨(some 10), (.bin .neq (.t 7) (.t 9)), none, []⟩,
      ⟨(some 11), (.mov (.t 10)), none, []⟩,
      ⟨(some 12), (.off (.t 2) 1), (some (11, false)), []⟩,
      ⟨(some 13), (.load none (.t 12)), (some (11, false)), []⟩,
      ⟨(some 14), (.off (.t 3) 1), (some (11, false)), []⟩,
      ⟨(some 15), (.load none (.t 14)), (some (11, false)), []⟩,
      ⟨(some 16), (.bin .neq (.t 13) (.t 15)), (some (11, false)), []⟩,
      ⟨(some 17), (.pick (.t 11) (.c (.b true)) (.t 16)), none, []⟩,
      ⟨(some 18), (.mov (.t 17)), none, []⟩,
      ⟨(some 19), (.off (.t 2) 2), (some (18, false)), []⟩,
      ⟨(some 20), (.load none (.t 19)), (some (18, false)), []⟩,
      ⟨(some 21), (.off (.t 3) 2), (some (18, false)), []⟩,
      ⟨(some 22), (.load none (.t 21)), (some (18, false)), []⟩,
      ⟨(some 23), (.bin .neq (.t 20) (.t 22)), (some (18, false)), []⟩,
      ⟨(some 24), (.pick (.t 18) (.c (.b true)) (.t 23)), none, []⟩,
      ⟨(some 25), (.mov (.t 24)), none, []⟩,
      ⟨(some 26), (.off (.t 2) 3), (some (25, false)), []⟩,
      ⟨(some 27), (.load none (.t 26)), (some (25, false)), []⟩,
      ⟨(some 28), (.off (.t 3) 3), (some (25, false)), []⟩,
      ⟨(some 29), (.load none (.t 28)), (some (25, false)), []⟩,
      ⟨(some 30), (.bin .neq (.t 27) (.t 29)), (some (25, false)), []⟩,
      ⟨(some 31), (.pick (.t 25) (.c (.b true)) (.t 30)), none, []⟩,
      ⟨(some 32), (.mov (.t 31)), none, []⟩,
      ⟨(some 33), (.off (.t 2) 6), (some (32, false)), []⟩,
      ⟨(some 34), (.load none (.t 33)), (some (32, false)), []⟩,
      ⟨(some 35), (.off (.t 3) 6), (some (32, false)), []⟩,
      ⟨(some 36), (.load none (.t 35)), (some (32, false)), []⟩,
      ⟨(some 37), (.bin .neq (.t 34) (.t 36)), (some (32, false)), []⟩,
      ⟨(some 38), (.pick (.t 32) (.c (.b true)) (.t 37)), none, []⟩,
      ⟨(some 39), (.mov (.t 38)), none, []⟩,
      ⟨(some 40), (.off (.t 2) 7), (some (39, false)), []⟩,
      ⟨(some 41), (.load none (.t 40)), (some (39, false)), []⟩,
      ⟨(some 42), (.off (.t 3) 7), (some (39, false)), []⟩,
      ⟨(some 43), (.load none (.t 42)), (some (39, false)), []⟩,
      ⟨(some 44), (.bin .neq (.t 41) (.t 43)), (some (39, false)), []⟩,
      ⟨(some 45), (.pick (.t 39) (.c (.b true)) (.t 44)), none, []⟩,
      ⟨(some 46), (.mov (.t 45)), none, []⟩,
      ⟨(some 47), (.off (.t 2) 15), (some (46, false)), []⟩,
      ⟨(some 48), (.load none (.t 47)), (some (46, false)), []⟩,
      ⟨(some 49), (.off (.t 3) 15), (some (46, false)), []⟩,
      ⟨(some 50), (.load none (.t 49)), (some (46, false)), []⟩,
      ⟨(some 51), (.bin .neq (.t 48) (.t 50)), (some (46, false)), []⟩,
      ⟨(some 52), (.pick (.t 46) (.c (.b true)) (.t 51)), none, []⟩,
      ⟨(some 53), (.mov (.t 52)), none, []⟩,
      ⟨(some 54), (.off (.t 2) 4), (some (53, false)), []⟩,
      ⟨(some 55), (.load none (.t 54)), (some (53, false)), []⟩,
      ⟨(some 56), (.lenk 0 (.t 55)), (some (53, false)), []⟩,
      ⟨(some 57), (.off (.t 3) 4), (some (53, false)), []⟩,
      ⟨(some 58), (.load none (.t 57)), (some (53, false)), []⟩,
      ⟨(some 59), (.lenk 0 (.t 58)), (some (53, false)), []⟩,
      ⟨(some 60), (.bin .neq (.t 56) (.t 59)), (some (53, false)), []⟩,
      ⟨(some 61), (.pick (.t 53) (.c (.b true)) (.t 60)), none, []⟩] [6, 7, 8, 9, 10, 11, 12, 13, 14, 15, 16, 17, 18, 19, 20, 21, 22, 23, 24, 25, 26, 27, 28, 29, 30, 31, 32, 33, 34, 35, 36, 37, 38, 39, 40, 41, 42, 43, 44, 45, 46, 47, 48, 49, 50, 51, 52, 53, 54, 55, 56, 57, 58, 59, 60])
    (.cond (.t 61)
      (.seq (.region [⟨(some 4), (.mov (.c (.b false))), none, []⟩] [2, 3, 61])
      .ret)
      (.region [] [61])))
    (.seq (.seq (.region [⟨(some 5), (.mov (.c (.i .i64 (0)))), none, []⟩] [])
    (.block 0
      (.loop L48a)))
    (.seq (.region [⟨(some 81), (.off (.t 2) 5), none, []⟩,
      ⟨(some 82), (.load none (.t 81)), none, []⟩,
      ⟨(some 83), (.off (.t 3) 5), none, []⟩,
      ⟨(some 84), (.load none (.t 83)), none, []⟩,
      ⟨(some 85), (.call 68 [(.t 82), (.t 84)]), none, []⟩,
      ⟨(some 86), (.mov (.t 85)), none, []⟩,
      ⟨(some 87), (.off (.t 2) 8), (some (86, true)), []⟩,
      ⟨(some 88), (.load (some 7) (.t 87)), (some (86, true)), []⟩,
      ⟨(some 89), (.off (.t 3) 8), (some (86, true)), []⟩,
      ⟨(some 90), (.load (some 7) (.t 89)), (some (86, true)), []⟩,
      ⟨(some 91), (.call 69 [(.t 88), (.t 90)]), (some (86, true)), []⟩,
      ⟨(some 92), (.pick (.t 86) (.t 91) (.c (.b false))), none, []⟩,
      ⟨(some 4), (.mov (.t 92)), none, []⟩] [2, 3, 5, 66, 81, 82, 83, 84, 85, 86, 87, 88, 89, 90, 91, 92])
    .ret)))),
    93, 2, [.t 4], 2⟩
theorem tr48 : trFunc Tryd.prog [([], [0, 1, 4]), ([], [6, 7, 8, 9, 10, 11, 12, 13, 14, 15, 16, 17, 18, 19, 20, 21, 22, 23, 24, 25, 26, 27, 28, 29, 30, 31, 32, 33, 34, 35, 36, 37, 38, 39, 40, 41, 42, 43, 44, 45, 46, 47, 48, 49, 50, 51, 52, 53, 54, 55, 56, 57, 58, 59, 60]), ([], [2, 3, 61]), ([], [61]), ([], []), ([], [62, 63, 64, 65]), ([], [66]), ([0, 1, 2, 3, 4, 5, 6, 7, 8, 9, 10, 11], [69, 70, 71, 72, 73, 74, 75, 76, 77, 78, 79]), ([], [2, 3, 5, 80]), ([], [80]), ([], [67, 68]), ([], [2, 3, 5, 66, 81, 82, 83, 84, 85, 86, 87, 88, 89, 90, 91, 92])] 1 Tryd.f48 = some (plain1 I48) := by kernel_rfl
theorem ck48 : ckC 2 I48.body = true := by kernel_rfl

/-- 'encore/encorelaw22.told'. -/
def L49a : ICode :=
  (.seq (.seq (.region [⟨(some 20), (.mov (.t 4)), none, []⟩,
      ⟨(some 21), (.off (.t 1) 4), none, []⟩,
      ⟨(some 22), (.load none (.t 21)), none, []⟩,
      ⟨(some 23), (.lenk 0 (.t 22)), none, []⟩,
      ⟨(some 24), (.bin .lss (.t 20) (.t 23)), none, []⟩] [20, 21, 22, 23])
    (.cond (.t 24)
      (.region [] [24])
      (.exit 0)))
    (.seq (.block 1
      (.region [⟨(some 27), (.off (.t 3) 4), none, []⟩,
        ⟨(some 28), (.load none (.t 27)), none, []⟩,
        ⟨(some 29), (.off (.t 1) 4), none, []⟩,
        ⟨(some 30), (.load none (.t 29)), none, []⟩,
        ⟨(some 31), (.mov (.t 4)), none, []⟩,
        ⟨(some 32), (.iaddr 5 (.t 30) (.t 31)), none, []⟩,
        ⟨(some 33), (.off (.t 32) 0), none, []⟩,
        ⟨(some 34), (.load none (.t 33)), none, []⟩,
        ⟨(some 35), (.off (.t 1) 4), none, []⟩,
        ⟨(some 36), (.load none (.t 35)), none, []⟩,
        ⟨(some 37), (.mov (.t 4)), none, []⟩,
        ⟨(some 38), (.iaddr 5 (.t 36) (.t 37)), none, []⟩,
        ⟨(some 39), (.off (.t 38) 1), none, []⟩,
        ⟨(some 40), (.load none (.t 39)), none, []⟩,
        ⟨(some 41), (.off (.t 1) 4), none, []⟩,
        ⟨(some 42), (.load none (.t 41)), none, []⟩,
        ⟨(some 43), (.mov (.t 4)), none, []⟩,
        ⟨(some 44), (.iaddr 5 (.t 42) (.t 43)), none, []⟩,
        ⟨(some 45), (.off (.t 44) 2), none, []⟩,
        ⟨(some 46), (.load none (.t 45)), none, []⟩,
        ⟨(some 48), (.off (.t 1) 4), none, []⟩,
        ⟨(some 49), (.load none (.t 48)), none, []⟩,
        ⟨(some 50), (.mov (.t 4)), none, []⟩,
        ⟨(some 51), (.iaddr 5 (.t 49) (.t 50)), none, []⟩,
        ⟨(some 52), (.off (.t 51) 3), none, []⟩,
        ⟨(some 53), (.load none (.t 52)), none, []⟩,
        ⟨(some 54), (.off (.t 1) 4), none, []⟩,
        ⟨(some 55), (.load none (.t 54)), none, []⟩,
        ⟨(some 56), (.mov (.t 4)), none, []⟩,
        ⟨(some 57), (.iaddr 5 (.t 55) (.t 56)), none, []⟩,
        ⟨(some 58), (.off (.t 57) 4), none, []⟩,
        ⟨(some 59), (.load none (.t 58)), none, []⟩,
        ⟨(some 47), (.call 70 [(.t 46)]), none, [(28, (.load none (.t 27)), none), (30, (.load none (.t 29)), none), (34, (.load none (.t 33)), none), (36, (.load none (.t 35)), none), (40, (.load none (.t 39)), none), (49, (.load none (.t 48)), none), (53, (.load none (.t 52)), none), (55, (.load none (.t 54)), none), (59, (.load none (.t 58)), none)]⟩,
        ⟨(some 60), (.build [(.i .i64 (0)), (.i .i64 (0)), .ns, (.s []), .ns] [(0, 1, (.t 34)), (1, 1, (.t 40)), (2, 1, (.t 47)), (3, 1, (.t 53)), (4, 1, (.t 59))]), none, []⟩,
        ⟨(some 61), (.bsl 5 1 [(.i .i64 (0)), (.i .i64 (0)), .ns, (.s []), .ns] [(0, 5, (.t 60))]), none, []⟩,
        ⟨(some 62), (.app 5 80 (.t 28) (.t 61)), none, []⟩,
        ⟨(some 63), (.off (.t 3) 4), none, []⟩,
        ⟨none, (.store 1 (.t 63) (.t 62)), none, []⟩] [27, 28, 29, 30, 31, 32, 33, 34, 35, 36, 37, 38, 39, 40, 41, 42, 43, 44, 45, 46, 48, 49, 50, 51, 52, 53, 54, 55, 56, 57, 58, 59, 47, 60, 61, 62, 63]))
    (.region [⟨(some 25), (.mov (.t 4)), none, []⟩,
      ⟨(some 26), (.bin .add (.t 25) (.c (.i .i64 (1)))), none, []⟩,
      ⟨(some 4), (.mov (.t 26)), none, []⟩] [25, 26])))
def I49 : IFunc :=
  ⟨(.seq (.region [⟨(some 1), (.box (.t 0)), none, []⟩,
      ⟨(some 2), (.alloc [(.i .i64 (0)), (.i .i64 (0)), (.i .i64 (0)), (.i .i64 (0)), .ns, .ns, (.i .i64 (0)), (.i .i64 (0)), (.i .i64 (0)), (.i .i64 (0)), (.i .i64 (0)), (.i .i64 (0)), (.s []), .ns, .ns, (.i .i64 (0))]), none, []⟩] [0])
    (.seq (.region [⟨(some 5), (.off (.t 1) 0), none, []⟩,
      ⟨(some 6), (.load none (.t 5)), none, []⟩,
      ⟨(some 7), (.off (.t 1) 1), none, []⟩,
      ⟨(some 8), (.load none (.t 7)), none, []⟩,
      ⟨(some 9), (.off (.t 1) 2), none, []⟩,
      ⟨(some 10), (.load none (.t 9)), none, []⟩,
      ⟨(some 11), (.off (.t 1) 3), none, []⟩,
      ⟨(some 12), (.load none (.t 11)), none, []⟩,
      ⟨(some 13), (.off (.t 1) 6), none, []⟩,
      ⟨(some 14), (.load none (.t 13)), none, []⟩,
      ⟨(some 15), (.off (.t 1) 7), none, []⟩,
      ⟨(some 16), (.load none (.t 15)), none, []⟩,
      ⟨(some 17), (.off (.t 1) 15), none, []⟩,
      ⟨(some 18), (.load none (.t 17)), none, []⟩,
      ⟨(some 19), (.build [(.i .i64 (0)), (.i .i64 (0)), (.i .i64 (0)), (.i .i64 (0)), .ns, .ns, (.i .i64 (0)), (.i .i64 (0)), (.i .i64 (0)), (.i .i64 (0)), (.i .i64 (0)), (.i .i64 (0)), (.s []), .ns, .ns, (.i .i64 (0))] [(0, 1, (.t 6)), (1, 1, (.t 8)), (2, 1, (.t 10)), (3, 1, (.t 12)), (6, 1, (.t 14)), (7, 1, (.t 16)), (15, 1, (.t 18))]), none, []⟩,
      ⟨(some 3), (.alloc [(.i .i64 (0)), (.i .i64 (0)), (.i .i64 (0)), (.i .i64 (0)), .ns, .ns, (.i .i64 (0)), (.i .i64 (0)), (.i .i64 (0)), (.i .i64 (0)), (.i .i64 (0)), (.i .i64 (0)), (.s []), .ns, .ns, (.i .i64 (0))]), none, []⟩,
      ⟨none, (.store 16 (.t 3) (.t 19)), none, []⟩] [5, 6, 7, 8, 9, 10, 11, 12, 13, 14, 15, 16, 17, 18, 19])
    (.seq (.seq (.region [⟨(some 4), (.mov (.c (.i .i64 (0)))), none, []⟩] [])
    (.block 0
      (.loop L49a)))
    (.seq (.region [⟨(some 64), (.off (.t 1) 5), none, []⟩,
      ⟨(some 65), (.load none (.t 64)), none, []⟩,
      ⟨(some 66), (.call 70 [(.t 65)]), none, []⟩,
      ⟨(some 67), (.off (.t 3) 5), none, []⟩,
      ⟨none, (.store 1 (.t 67) (.t 66)), none, []⟩] [4, 24, 64, 65, 66, 67])
    (.seq (.region [⟨(some 68), (.off (.t 1) 8), none, []⟩,
      ⟨(some 69), (.off (.t 68) 0), none, []⟩,
      ⟨(some 70), (.load none (.t 69)), none, []⟩,
      ⟨(some 71), (.off (.t 1) 8), none, []⟩,
      ⟨(some 72), (.off (.t 71) 1), none, []⟩,
      ⟨(some 73), (.load none (.t 72)), none, []⟩,
      ⟨(some 74), (.off (.t 1) 8), none, []⟩,
      ⟨(some 75), (.off (.t 74) 2), none, []⟩,
      ⟨(some 76), (.load (some 5) (.t 75)), none, []⟩,
      ⟨(some 77), (.build [(.i .i64 (0)), (.i .i64 (0)), (.i .i64 (0)), (.i .i64 (0)), (.s []), .ns, .ns] [(0, 1, (.t 70)), (1, 1, (.t 73)), (2, 5, (.t 76))]), none, []⟩,
      ⟨(some 78), (.off (.t 3) 8), none, []⟩,
      ⟨none, (.store 7 (.t 78) (.t 77)), none, []⟩] [1, 68, 69, 70, 71, 72, 73, 74, 75, 76, 77, 78])
    (.seq (.region [⟨(some 79), (.load (some 16) (.t 3)), none, []⟩,
      ⟨none, (.store 16 (.t 2) (.t 79)), none, []⟩] [3, 79])
    .ret)))))),
    80, 1, [.c 2 (some 16)], 2⟩
theorem tr49 : trFunc Tryd.prog [([], [0]), ([], [5, 6, 7, 8, 9, 10, 11, 12, 13, 14, 15, 16, 17, 18, 19]), ([], []), ([], [20, 21, 22, 23]), ([], [24]), ([0, 1, 2, 3, 4, 5, 6, 7, 8, 9, 10, 11, 12, 13, 14, 15, 16, 17, 18, 19, 21, 22, 23, 24, 25, 26, 27, 28, 29, 30, 31, 32, 20, 33, 34, 35, 36, 37], [27, 28, 29, 30, 31, 32, 33, 34, 35, 36, 37, 38, 39, 40, 41, 42, 43, 44, 45, 46, 48, 49, 50, 51, 52, 53, 54, 55, 56, 57, 58, 59, 47, 60, 61, 62, 63]), ([], [25, 26]), ([], [4, 24, 64, 65, 66, 67]), ([], [1, 68, 69, 70, 71, 72, 73, 74, 75, 76, 77, 78]), ([], [3, 79])] 1 Tryd.f49 = some (plain1 I49) := by kernel_rfl
theorem ck49 : ckC 2 I49.body = true := by kernel_rfl

/-- '(encore/lift.Ins).fits'. -/
def I50 : IFunc :=
  ⟨(.seq (.region [⟨(some 3), (.box (.t 0)), none, []⟩,
      ⟨(some 6), (.mov (.c (.b false))), none, []⟩] [0, 6])
    (.seq (.region [⟨(some 11), (.load (some 5) (.t 3)), none, []⟩,
      ⟨(some 12), (.call 71 [(.t 11)]), none, []⟩,
      ⟨(some 10), (.mov (.t 12)), none, []⟩,
      ⟨(some 13), (.ext (.t 10) 0), none, []⟩,
      ⟨(some 14), (.ext (.t 10) 1), none, []⟩,
      ⟨(some 15), (.ext (.t 10) 2), none, []⟩,
      ⟨(some 7), (.mov (.t 13)), none, []⟩,
      ⟨(some 8), (.mov (.t 14)), none, []⟩,
      ⟨(some 9), (.mov (.t 15)), none, []⟩] [11, 12, 10, 13, 14, 15])
    (.seq (.region [⟨(some 16), (.mov (.t 9)), none, []⟩,
      ⟨(some 17), (.mov (.t 16)), none, []⟩,
      ⟨(some 18), (.off (.t 3) 2), (some (17, true)), []⟩,
      ⟨(some 19), (.load none (.t 18)), (some (17, true)), []⟩,
      ⟨(some 20), (.lenk 0 (.t 19)), (some (17, true)), []⟩,
      ⟨(some 21), (.mov (.t 7)), (some (17, true)), []⟩,
      ⟨(some 22), (.bin .geq (.t 20) (.t 21)), (some (17, true)), []⟩,
      ⟨(some 23), (.pick (.t 17) (.t 22) (.c (.b false))), none, []⟩,
      ⟨(some 24), (.mov (.t 23)), none, []⟩,
      ⟨(some 25), (.off (.t 3) 2), (some (24, true)), []⟩,
      ⟨(some 26), (.load none (.t 25)), (some (24, true)), []⟩,
      ⟨(some 27), (.lenk 0 (.t 26)), (some (24, true)), []⟩,
      ⟨(some 28), (.mov (.t 8)), (some (24, true)), []⟩,
      ⟨(some 29), (.bin .leq (.t 27) (.t 28)), (some (24, true)), []⟩,
      ⟨(some 30), (.pick (.t 24) (.t 29) (.c (.b false))), none, []⟩,
      ⟨(some 31), (.mov (.t 30)), none, []⟩,
      ⟨(some 32), (.off (.t 3) 2), (some (31, true)), []⟩,
      ⟨(some 33), (.load none (.t 32)), (some (31, true)), []⟩,
      ⟨(some 34), (.mov (.t 1)), (some (31, true)), []⟩,
      ⟨(some 35), (.mov (.t 2)), (some (31, true)), []⟩,
      ⟨(some 36), (.call 53 [(.t 33), (.t 34), (.t 35)]), (some (31, true)), []⟩,
      ⟨(some 37), (.pick (.t 31) (.t 36) (.c (.b false))), none, []⟩,
      ⟨(some 6), (.mov (.t 37)), none, []⟩] [1, 2, 3, 7, 8, 9, 16, 17, 18, 19, 20, 21, 22, 23, 24, 25, 26, 27, 28, 29, 30, 31, 32, 33, 34, 35, 36, 37])
    .ret))),
    38, 3, [.t 6], 2⟩
theorem tr50 : trFunc Tryd.prog [([], [0, 6]), ([], [11, 12, 10, 13, 14, 15]), ([], [1, 2, 3, 7, 8, 9, 16, 17, 18, 19, 20, 21, 22, 23, 24, 25, 26, 27, 28, 29, 30, 31, 32, 33, 34, 35, 36, 37])] 1 Tryd.f50 = some (plain1 I50) := by kernel_rfl
theorem ck50 : ckC 2 I50.body = true := by kernel_rfl

/-- '(encore/lift.Operand).fits'. -/
def I51 : IFunc :=
  ⟨(.seq (.region [⟨(some 3), (.box (.t 0)), none, []⟩,
      ⟨(some 6), (.mov (.c (.b false))), none, []⟩] [0, 6])
    (.seq (.seq (.region [⟨(some 7), (.off (.t 3) 0), none, []⟩,
      ⟨(some 8), (.load none (.t 7)), none, []⟩] [7])
    (.block 0
      (.seq (.region [⟨(some 10), (.bin .eql (.t 8) (.c (.i .i64 (1)))), none, []⟩,
        ⟨(some 9), (.mov (.t 10)), none, []⟩] [10])
      (.cond (.t 9)
        (.seq (.region [⟨(some 11), (.off (.t 3) 1), none, []⟩,
          ⟨(some 12), (.load none (.t 11)), none, []⟩,
          ⟨(some 13), (.bin .geq (.t 12) (.c (.i .i64 (0)))), none, []⟩,
          ⟨(some 14), (.mov (.t 13)), none, []⟩,
          ⟨(some 15), (.off (.t 3) 1), (some (14, true)), []⟩,
          ⟨(some 16), (.load none (.t 15)), (some (14, true)), []⟩,
          ⟨(some 17), (.mov (.t 1)), (some (14, true)), []⟩,
          ⟨(some 18), (.bin .lss (.t 16) (.t 17)), (some (14, true)), []⟩,
          ⟨(some 19), (.pick (.t 14) (.t 18) (.c (.b false))), none, []⟩,
          ⟨(some 20), (.mov (.t 19)), none, []⟩,
          ⟨(some 21), (.off (.t 3) 2), (some (20, true)), []⟩,
          ⟨(some 22), (.load (some 5) (.t 21)), (some (20, true)), []⟩,
          ⟨(some 23), (.call 52 [(.t 22)]), (some (20, true)), []⟩,
          ⟨(some 24), (.pick (.t 20) (.t 23) (.c (.b false))), none, []⟩,
          ⟨(some 6), (.mov (.t 24)), none, []⟩] [1, 2, 3, 8, 9, 11, 12, 13, 14, 15, 16, 17, 18, 19, 20, 21, 22, 23, 24])
        .ret)
        (.seq (.region [⟨(some 26), (.bin .eql (.t 8) (.c (.i .i64 (2)))), none, []⟩,
          ⟨(some 25), (.mov (.t 26)), none, []⟩] [1, 9, 26])
        (.cond (.t 25)
          (.seq (.region [⟨(some 27), (.off (.t 3) 1), none, []⟩,
            ⟨(some 28), (.load none (.t 27)), none, []⟩,
            ⟨(some 29), (.bin .geq (.t 28) (.c (.i .i64 (0)))), none, []⟩,
            ⟨(some 30), (.mov (.t 29)), none, []⟩,
            ⟨(some 31), (.off (.t 3) 1), (some (30, true)), []⟩,
            ⟨(some 32), (.load none (.t 31)), (some (30, true)), []⟩,
            ⟨(some 33), (.mov (.t 2)), (some (30, true)), []⟩,
            ⟨(some 34), (.bin .lss (.t 32) (.t 33)), (some (30, true)), []⟩,
            ⟨(some 35), (.pick (.t 30) (.t 34) (.c (.b false))), none, []⟩,
            ⟨(some 36), (.mov (.t 35)), none, []⟩,
            ⟨(some 37), (.off (.t 3) 2), (some (36, true)), []⟩,
            ⟨(some 38), (.load (some 5) (.t 37)), (some (36, true)), []⟩,
            ⟨(some 39), (.call 52 [(.t 38)]), (some (36, true)), []⟩,
            ⟨(some 40), (.pick (.t 36) (.t 39) (.c (.b false))), none, []⟩,
            ⟨(some 6), (.mov (.t 40)), none, []⟩] [2, 3, 8, 25, 27, 28, 29, 30, 31, 32, 33, 34, 35, 36, 37, 38, 39, 40])
          .ret)
          (.seq (.region [⟨(some 42), (.bin .eql (.t 8) (.c (.i .i64 (3)))), none, []⟩,
            ⟨(some 41), (.mov (.t 42)), none, []⟩] [2, 8, 25, 42])
          (.cond (.t 41)
            (.seq (.region [⟨(some 43), (.off (.t 3) 1), none, []⟩,
              ⟨(some 44), (.load none (.t 43)), none, []⟩,
              ⟨(some 45), (.bin .eql (.t 44) (.c (.i .i64 (0)))), none, []⟩,
              ⟨(some 46), (.mov (.t 45)), none, []⟩,
              ⟨(some 47), (.off (.t 3) 2), (some (46, true)), []⟩,
              ⟨(some 48), (.load (some 5) (.t 47)), (some (46, true)), []⟩,
              ⟨(some 49), (.call 72 [(.t 48)]), (some (46, true)), []⟩,
              ⟨(some 50), (.pick (.t 46) (.t 49) (.c (.b false))), none, []⟩,
              ⟨(some 6), (.mov (.t 50)), none, []⟩] [3, 41, 43, 44, 45, 46, 47, 48, 49, 50])
            .ret)
            (.region [] [3, 41])))))))))
    (.seq (.region [⟨(some 6), (.mov (.c (.b false))), none, []⟩] [])
    .ret))),
    51, 3, [.t 6], 2⟩
theorem tr51 : trFunc Tryd.prog [([], [0, 6]), ([], [7]), ([], [10]), ([], [1, 2, 3, 8, 9, 11, 12, 13, 14, 15, 16, 17, 18, 19, 20, 21, 22, 23, 24]), ([], [1, 9, 26]), ([], [2, 3, 8, 25, 27, 28, 29, 30, 31, 32, 33, 34, 35, 36, 37, 38, 39, 40]), ([], [2, 8, 25, 42]), ([], [3, 41, 43, 44, 45, 46, 47, 48, 49, 50]), ([], [3, 41]), ([], [])] 1 Tryd.f51 = some (plain1 I51) := by kernel_rfl
theorem ck51 : ckC 2 I51.body = true := by kernel_rfl

/-- 'encore/lift.none'. -/
def I52 : IFunc :=
  ⟨(.seq (.region [⟨(some 1), (.box (.t 0)), none, []⟩,
      ⟨(some 2), (.mov (.c (.b false))), none, []⟩] [0, 2])
    (.seq (.region [⟨(some 3), (.load (some 5) (.t 1)), none, []⟩,
      ⟨(some 4), (.build [(.i .i64 (0)), (.i .i64 (0)), (.s []), .ns, .ns] []), none, []⟩,
      ⟨(some 5), (.call 73 [(.t 3), (.t 4)]), none, []⟩,
      ⟨(some 2), (.mov (.t 5)), none, []⟩] [1, 3, 4, 5])
    .ret)),
    6, 1, [.t 2], 2⟩
theorem tr52 : trFunc Tryd.prog [([], [0, 2]), ([], [1, 3, 4, 5])] 1 Tryd.f52 = some (plain1 I52) := by kernel_rfl
theorem ck52 : ckC 2 I52.body = true := by kernel_rfl

/-- 'encore/lift.fit'. -/
def I53 : IFunc :=
  ⟨(.seq (.region [⟨(some 4), (.box (.t 1)), none, []⟩,
      ⟨(some 5), (.box (.t 2)), none, []⟩,
      ⟨(some 6), (.mov (.c (.b false))), none, []⟩] [1, 2, 6])
    (.seq (.region [⟨(some 7), (.mov (.t 0)), none, []⟩,
      ⟨(some 8), (.mkf 74 [] [(.t 4), (.t 5)]), none, []⟩,
      ⟨(some 9), (.call 57 [(.t 7), (.t 8)]), none, []⟩,
      ⟨(some 10), (.un .not (.t 9)), none, []⟩,
      ⟨(some 6), (.mov (.t 10)), none, []⟩] [0, 4, 5, 7, 8, 9, 10])
    .ret)),
    11, 3, [.t 6], 2⟩
theorem tr53 : trFunc Tryd.prog [([], [1, 2, 6]), ([], [0, 4, 5, 7, 8, 9, 10])] 1 Tryd.f53 = some (plain1 I53) := by kernel_rfl
theorem ck53 : ckC 2 I53.body = true := by kernel_rfl

/-- 'slices.Clone[[]string,string]'. -/
def I54 : IFunc := ⟨cloneCode 1 16, 8, 1, [.t 2], 4⟩
theorem tr54 : trFunc Tryd.prog [([], []), ([], []), ([], []), ([], []), ([], [])] 1 Tryd.f54 = some (plain1 I54) := by kernel_rfl
theorem ck54 : ckC 2 (cloneCode 1 16) = true := by kernel_rfl

/-- 'encore/guess.typed'. -/
def I55 : IFunc :=
  ⟨(.seq (.region [⟨(some 2), (.mov (.c (.i .i64 (0)))), none, []⟩,
      ⟨(some 3), (.mov (.c (.i .i64 (0)))), none, []⟩,
      ⟨(some 4), (.mov (.c (.b false))), none, []⟩] [2, 3, 4])
    (.seq (.seq (.region [⟨(some 5), (.mov (.t 0)), none, []⟩] [0])
    (.block 0
      (.seq (.region [⟨(some 7), (.bin .eql (.t 5) (.c (.i .i64 (6)))), none, []⟩,
        ⟨(some 6), (.mov (.t 7)), none, []⟩] [7])
      (.cond (.t 6)
        (.seq (.region [⟨(some 2), (.mov (.c (.i .i64 (41)))), none, []⟩,
          ⟨(some 3), (.mov (.c (.i .i64 (1)))), none, []⟩,
          ⟨(some 4), (.mov (.c (.b true))), none, []⟩] [5, 6])
        .ret)
        (.seq (.region [⟨(some 9), (.bin .eql (.t 5) (.c (.i .i64 (7)))), none, []⟩,
          ⟨(some 8), (.mov (.t 9)), none, []⟩] [6, 9])
        (.cond (.t 8)
          (.seq (.region [⟨(some 2), (.mov (.c (.i .i64 (42)))), none, []⟩,
            ⟨(some 3), (.mov (.c (.i .i64 (2)))), none, []⟩,
            ⟨(some 4), (.mov (.c (.b true))), none, []⟩] [5, 8])
          .ret)
          (.seq (.region [⟨(some 11), (.bin .eql (.t 5) (.c (.i .i64 (9)))), none, []⟩,
            ⟨(some 10), (.mov (.t 11)), none, []⟩] [8, 11])
          (.cond (.t 10)
            (.seq (.region [⟨(some 2), (.mov (.c (.i .i64 (43)))), none, []⟩,
              ⟨(some 3), (.mov (.c (.i .i64 (1)))), none, []⟩,
              ⟨(some 4), (.mov (.c (.b true))), none, []⟩] [5, 10])
            .ret)
            (.seq (.region [⟨(some 13), (.bin .eql (.t 5) (.c (.i .i64 (10)))), none, []⟩,
              ⟨(some 12), (.mov (.t 13)), none, []⟩] [10, 13])
            (.cond (.t 12)
              (.seq (.region [⟨(some 2), (.mov (.c (.i .i64 (44)))), none, []⟩,
                ⟨(some 3), (.mov (.c (.i .i64 (1)))), none, []⟩,
                ⟨(some 4), (.mov (.c (.b true))), none, []⟩] [5, 12])
              .ret)
              (.seq (.region [⟨(some 15), (.bin .eql (.t 5) (.c (.i .i64 (11)))), none, []⟩,
                ⟨(some 14), (.mov (.t 15)), none, []⟩] [12, 15])
              (.cond (.t 14)
                (.seq (.region [⟨(some 2), (.mov (.c (.i .i64 (45)))), none, []⟩,
                  ⟨(some 3), (.mov (.c (.i .i64 (1)))), none, []⟩,
                  ⟨(some 4), (.mov (.c (.b true))), none, []⟩] [5, 14])
                .ret)
                (.seq (.region [⟨(some 17), (.bin .eql (.t 5) (.c (.i .i64 (16)))), none, []⟩,
                  ⟨(some 16), (.mov (.t 17)), none, []⟩] [14, 17])
                (.cond (.t 16)
                  (.seq (.region [⟨(some 2), (.mov (.c (.i .i64 (46)))), none, []⟩,
                    ⟨(some 3), (.mov (.c (.i .i64 (1)))), none, []⟩,
                    ⟨(some 4), (.mov (.c (.b true))), none, []⟩] [5, 16])
                  .ret)
                  (.seq (.region [⟨(some 19), (.bin .eql (.t 5) (.c (.i .i64 (17)))), none, []⟩,
                    ⟨(some 18), (.mov (.t 19)), none, []⟩] [5, 16, 19])
                  (.cond (.t 18)
                    (.seq (.region [⟨(some 2), (.mov (.c (.i .i64 (47)))), none, []⟩,
                      ⟨(some 3), (.mov (.c (.i .i64 (1)))), none, []⟩,
                      ⟨(some 4), (.mov (.c (.b true))), none, []⟩] [18])
                    .ret)
                    (.region [] [18])))))))))))))))))
    (.seq (.region [⟨(some 2), (.mov (.c (.i .i64 (0)))), none, []⟩,
      ⟨(some 3), (.mov (.c (.i .i64 (0)))), none, []⟩,
      ⟨(some 4), (.mov (.c (.b false))), none, []⟩] [])
    .ret))),
    20, 1, [.t 2, .t 3, .t 4], 2⟩
theorem tr55 : trFunc Tryd.prog [([], [2, 3, 4]), ([], [0]), ([], [7]), ([], [5, 6]), ([], [6, 9]), ([], [5, 8]), ([], [8, 11]), ([], [5, 10]), ([], [10, 13]), ([], [5, 12]), ([], [12, 15]), ([], [5, 14]), ([], [14, 17]), ([], [5, 16]), ([], [5, 16, 19]), ([], [18]), ([], [18]), ([], [])] 1 Tryd.f55 = some (plain1 I55) := by kernel_rfl
theorem ck55 : ckC 2 I55.body = true := by kernel_rfl

/-- '(*encore/guess.maker).check'. -/
def I56 : IFunc :=
  ⟨(.seq (.region [⟨(some 4), (.box (.t 1)), none, []⟩] [1])
    (.seq (.seq (.region [⟨(some 6), (.off (.t 4) 0), none, []⟩,
      ⟨(some 7), (.load none (.t 6)), none, []⟩,
      ⟨(some 8), (.bin .neq (.t 7) (.c (.i .i64 (1)))), none, []⟩,
      ⟨(some 9), (.mov (.t 8)), none, []⟩,
      ⟨(some 10), (.mov (.t 0)), (some (9, false)), []⟩,
      ⟨(some 11), (.nck (.t 10)), (some (9, false)), []⟩,
      ⟨(some 12), (.off (.t 11) 1), (some (9, false)), []⟩,
      ⟨(some 13), (.load none (.t 12)), (some (9, false)), []⟩,
      ⟨(some 14), (.off (.t 4) 1), (some (9, false)), []⟩,
      ⟨(some 15), (.load none (.t 14)), (some (9, false)), []⟩,
      ⟨(some 16), (.iaddr 1 (.t 13) (.t 15)), (some (9, false)), []⟩,
      ⟨(some 17), (.load none (.t 16)), (some (9, false)), []⟩,
      ⟨(some 18), (.bin .neq (.t 17) (.c (.i .i64 (-1)))), (some (9, false)), []⟩,
      ⟨(some 19), (.pick (.t 9) (.c (.b true)) (.t 18)), none, []⟩,
      ⟨(some 20), (.mov (.t 19)), none, []⟩,
      ⟨(some 21), (.off (.t 4) 1), (some (20, false)), []⟩,
      ⟨(some 22), (.load none (.t 21)), (some (20, false)), []⟩,
      ⟨(some 23), (.mov (.t 0)), (some (20, false)), []⟩,
      ⟨(some 24), (.nck (.t 23)), (some (20, false)), []⟩,
      ⟨(some 25), (.off (.t 24) 2), (some (20, false)), []⟩,
      ⟨(some 26), (.load none (.t 25)), (some (20, false)), []⟩,
      ⟨(some 27), (.lenk 0 (.t 26)), (some (20, false)), []⟩,
      ⟨(some 28), (.bin .geq (.t 22) (.t 27)), (some (20, false)), []⟩,
      ⟨(some 29), (.pick (.t 20) (.c (.b true)) (.t 28)), none, []⟩,
      ⟨(some 30), (.mov (.t 29)), none, []⟩,
      ⟨(some 31), (.mov (.t 0)), (some (30, false)), []⟩,
      ⟨(some 32), (.nck (.t 31)), (some (30, false)), []⟩,
      ⟨(some 33), (.off (.t 32) 2), (some (30, false)), []⟩,
      ⟨(some 34), (.load none (.t 33)), (some (30, false)), []⟩,
      ⟨(some 35), (.off (.t 4) 1), (some (30, false)), []⟩,
      ⟨(some 36), (.load none (.t 35)), (some (30, false)), []⟩,
      ⟨(some 37), (.iaddr 1 (.t 34) (.t 36)), (some (30, false)), []⟩,
      ⟨(some 38), (.load none (.t 37)), (some (30, false)), []⟩,
      ⟨(some 39), (.mov (.t 2)), (some (30, false)), []⟩,
      ⟨(some 40), (.bin .neq (.t 38) (.t 39)), (some (30, false)), []⟩,
      ⟨(some 41), (.pick (.t 30) (.c (.b true)) (.t 40)), none, []⟩] [6, 7, 8, 9, 10, 11, 12, 13, 14, 15, 16, 17, 18, 19, 20, 21, 22, 23, 24, 25, 26, 27, 28, 29, 30, 31, 32, 33, 34, 35, 36, 37, 38, 39, 40])
    (.cond (.t 41)
      .ret
      (.region [] [41])))
    (.seq (.region [⟨(some 42), (.mov (.t 0)), none, []⟩,
      ⟨(some 43), (.mov (.t 0)), none, []⟩,
      ⟨(some 44), (.nck (.t 43)), none, []⟩,
      ⟨(some 45), (.off (.t 44) 0), none, []⟩,
      ⟨(some 46), (.load none (.t 45)), none, []⟩,
      ⟨(some 47), (.mov (.t 2)), none, []⟩,
      ⟨(some 48), (.load (some 7) (.t 4)), none, []⟩,
      ⟨(some 49), (.bsl 7 1 [(.i .i64 (0)), (.i .i64 (0)), (.i .i64 (0)), (.i .i64 (0)), (.s []), .ns, .ns] [(0, 7, (.t 48))]), none, []⟩,
      ⟨(some 50), (.build [(.i .i64 (0)), (.i .i64 (0)), .ns, (.s []), .ns] [(0, 1, (.c (.i .i64 (40)))), (1, 1, (.t 47)), (2, 1, (.t 49))]), none, []⟩,
      ⟨(some 51), (.bsl 5 1 [(.i .i64 (0)), (.i .i64 (0)), .ns, (.s []), .ns] [(0, 5, (.t 50))]), none, []⟩,
      ⟨(some 52), (.app 5 80 (.t 46) (.t 51)), none, []⟩,
      ⟨(some 53), (.nck (.t 42)), none, []⟩,
      ⟨(some 54), (.off (.t 53) 0), none, []⟩,
      ⟨none, (.store 1 (.t 54) (.t 52)), none, []⟩] [42, 43, 44, 45, 46, 47, 48, 49, 50, 51, 52, 53, 54])
    (.region [⟨(some 55), (.mov (.t 0)), none, []⟩,
      ⟨(some 56), (.nck (.t 55)), none, []⟩,
      ⟨(some 57), (.off (.t 56) 1), none, []⟩,
      ⟨(some 58), (.load none (.t 57)), none, []⟩,
      ⟨(some 59), (.off (.t 4) 1), none, []⟩,
      ⟨(some 60), (.load none (.t 59)), none, []⟩,
      ⟨(some 61), (.mov (.t 2)), none, []⟩,
      ⟨(some 62), (.iaddr 1 (.t 58) (.t 60)), none, []⟩,
      ⟨none, (.store 1 (.t 62) (.t 61)), none, []⟩] [0, 2, 4, 55, 56, 57, 58, 59, 60, 61, 62])))),
    63, 3, [], 0⟩
theorem tr56 : trFunc Tryd.prog [([], [1]), ([0, 1, 2, 3, 4, 5, 6, 7, 8, 9, 10, 11, 12, 13, 14, 15, 16, 17, 18, 19, 20, 21, 22, 23, 24, 25, 26, 27, 28, 29, 30, 31, 32, 33, 34, 35], [6, 7, 8, 9, 10, 11, 12, 13, 14, 15, 16, 17, 18, 19, 20, 21, 22, 23, 24, 25, 26, 27, 28, 29, 30, 31, 32, 33, 34, 35, 36, 37, 38, 39, 40]), ([], [41]), ([0, 1, 2, 3, 4, 5, 6, 7, 8, 9, 10, 11, 12, 13], [42, 43, 44, 45, 46, 47, 48, 49, 50, 51, 52, 53, 54]), ([0, 1, 2, 3, 4, 5, 6, 7, 8], [0, 2, 4, 55, 56, 57, 58, 59, 60, 61, 62])] 0 Tryd.f56 = some (plain1 I56) := by kernel_rfl
theorem ck56 : ckC 2 I56.body = true := by kernel_rfl

/-- 'slices.ContainsFunc[[]encore/lift.Operand,encore/lift.Operand]'. -/
def I57 : IFunc :=
  ⟨(.seq (.region [⟨(some 4), (.mov (.c (.b false))), none, []⟩] [4])
    (.seq (.region [⟨(some 5), (.mov (.t 0)), none, []⟩,
      ⟨(some 6), (.mov (.t 1)), none, []⟩,
      ⟨(some 7), (.call 75 [(.t 5), (.t 6)]), none, []⟩,
      ⟨(some 8), (.bin .geq (.t 7) (.c (.i .i64 (0)))), none, []⟩,
      ⟨(some 4), (.mov (.t 8)), none, []⟩] [0, 1, 5, 6, 7, 8])
    .ret)),
    9, 2, [.t 4], 2⟩
theorem tr57 : trFunc Tryd.prog [([], [4]), ([], [0, 1, 5, 6, 7, 8])] 1 Tryd.f57 = some (plain1 I57) := by kernel_rfl
theorem ck57 : ckC 2 I57.body = true := by kernel_rfl

/-- '(*encore/guess.maker).step$1'. -/
def I58 : IFunc :=
  ⟨(.seq (.region [⟨(some 3), (.box (.t 0)), none, []⟩,
      ⟨(some 4), (.mov (.c (.b false))), none, []⟩] [0, 4])
    (.seq (.region [⟨(some 5), (.load none (.t 1)), none, []⟩,
      ⟨(some 6), (.load (some 7) (.t 3)), none, []⟩,
      ⟨(some 8), (.load none (.t 2)), none, []⟩,
      ⟨(some 7), (.call 59 [(.t 5), (.t 6)]), none, [(8, (.load none (.t 2)), none)]⟩,
      ⟨(some 9), (.bin .neq (.t 7) (.t 8)), none, []⟩,
      ⟨(some 4), (.mov (.t 9)), none, []⟩] [1, 2, 3, 5, 6, 8, 7, 9])
    .ret)),
    10, 3, [.t 4], 2⟩
theorem tr58 : trFunc Tryd.prog [([], [0, 4]), ([0, 1, 3, 2, 4, 5], [1, 2, 3, 5, 6, 8, 7, 9])] 1 Tryd.f58 = some (plain1 I58) := by kernel_rfl
theorem ck58 : ckC 2 I58.body = true := by kernel_rfl

/-- '(*encore/guess.maker).known'. -/
def I59 : IFunc :=
  ⟨(.seq (.region [⟨(some 3), (.box (.t 1)), none, []⟩,
      ⟨(some 4), (.mov (.c (.i .i64 (0)))), none, []⟩] [1, 4])
    (.seq (.seq (.region [⟨(some 5), (.off (.t 3) 0), none, []⟩,
      ⟨(some 6), (.load none (.t 5)), none, []⟩] [5])
    (.block 0
      (.seq (.region [⟨(some 8), (.bin .eql (.t 6) (.c (.i .i64 (1)))), none, []⟩,
        ⟨(some 7), (.mov (.t 8)), none, []⟩] [8])
      (.cond (.t 7)
        (.seq (.region [⟨(some 9), (.mov (.t 0)), none, []⟩,
          ⟨(some 10), (.nck (.t 9)), none, []⟩,
          ⟨(some 11), (.off (.t 10) 1), none, []⟩,
          ⟨(some 12), (.load none (.t 11)), none, []⟩,
          ⟨(some 13), (.off (.t 3) 1), none, []⟩,
          ⟨(some 14), (.load none (.t 13)), none, []⟩,
          ⟨(some 15), (.iaddr 1 (.t 12) (.t 14)), none, []⟩,
          ⟨(some 16), (.load none (.t 15)), none, []⟩,
          ⟨(some 4), (.mov (.t 16)), none, []⟩] [0, 3, 6, 7, 9, 10, 11, 12, 13, 14, 15, 16])
        .ret)
        (.seq (.region [⟨(some 18), (.bin .eql (.t 6) (.c (.i .i64 (2)))), none, []⟩,
          ⟨(some 17), (.mov (.t 18)), none, []⟩] [6, 7, 18])
        (.cond (.t 17)
          (.seq (.region [⟨(some 19), (.mov (.t 0)), none, []⟩,
            ⟨(some 20), (.nck (.t 19)), none, []⟩,
            ⟨(some 21), (.off (.t 20) 0), none, []⟩,
            ⟨(some 22), (.load none (.t 21)), none, []⟩,
            ⟨(some 23), (.off (.t 3) 1), none, []⟩,
            ⟨(some 24), (.load none (.t 23)), none, []⟩,
            ⟨(some 25), (.iaddr 5 (.t 22) (.t 24)), none, []⟩,
            ⟨(some 26), (.load (some 5) (.t 25)), none, []⟩,
            ⟨(some 27), (.call 76 [(.t 26)]), none, []⟩,
            ⟨(some 4), (.mov (.t 27)), none, []⟩] [0, 3, 17, 19, 20, 21, 22, 23, 24, 25, 26, 27])
          .ret)
          (.region [] [0, 17])))))))
    (.seq (.region [⟨(some 28), (.off (.t 3) 2), none, []⟩,
      ⟨(some 29), (.off (.t 28) 0), none, []⟩,
      ⟨(some 30), (.load none (.t 29)), none, []⟩,
      ⟨(some 4), (.mov (.t 30)), none, []⟩] [3, 28, 29, 30])
    .ret))),
    31, 2, [.t 4], 2⟩
theorem tr59 : trFunc Tryd.prog [([], [1, 4]), ([], [5]), ([], [8]), ([0, 1, 2, 3, 4, 5, 6, 7, 8], [0, 3, 6, 7, 9, 10, 11, 12, 13, 14, 15, 16]), ([], [6, 7, 18]), ([0, 1, 2, 3, 4, 5, 6, 7, 8, 9], [0, 3, 17, 19, 20, 21, 22, 23, 24, 25, 26, 27]), ([], [0, 17]), ([], [3, 28, 29, 30])] 1 Tryd.f59 = some (plain1 I59) := by kernel_rfl
theorem ck59 : ckC 2 I59.body = true := by kernel_rfl

/-- 'encore/guess.own'. -/
def L60a : ICode :=
  (.seq (.region [⟨(some 16), (.bin .lss (.t 15) (.t 14)), none, []⟩] [])
    (.seq (.cond (.t 16)
      (.region [] [16])
      (.exit 0))
    (.seq (.block 1
      (.seq (.region [⟨(some 17), (.mov (.t 15)), none, []⟩,
        ⟨(some 3), (.mov (.t 17)), none, []⟩] [17])
      (.region [⟨(some 18), (.off (.t 1) 3), none, []⟩,
        ⟨(some 19), (.load none (.t 18)), none, []⟩,
        ⟨(some 20), (.mov (.t 3)), none, []⟩,
        ⟨(some 21), (.off (.t 1) 3), none, []⟩,
        ⟨(some 22), (.load none (.t 21)), none, []⟩,
        ⟨(some 23), (.mov (.t 3)), none, []⟩,
        ⟨(some 24), (.iaddr 5 (.t 22) (.t 23)), none, []⟩,
        ⟨(some 25), (.load (some 5) (.t 24)), none, []⟩,
        ⟨(some 26), (.call 60 [(.t 25)]), none, [(19, (.load none (.t 18)), none)]⟩,
        ⟨(some 27), (.iaddr 5 (.t 19) (.t 20)), none, []⟩,
        ⟨none, (.store 5 (.t 27) (.t 26)), none, []⟩] [3, 18, 19, 20, 21, 22, 23, 24, 25, 26, 27])))
    (.region [⟨(some 28), (.bin .add (.t 15) (.c (.i .i64 (1)))), none, []⟩,
      ⟨(some 15), (.mov (.t 28)), none, []⟩] [28]))))
def I60 : IFunc :=
  ⟨(.seq (.region [⟨(some 1), (.box (.t 0)), none, []⟩,
      ⟨(some 2), (.alloc [(.i .i64 (0)), (.i .i64 (0)), (.s []), .ns, .ns]), none, []⟩] [0])
    (.seq (.region [⟨(some 4), (.off (.t 1) 4), none, []⟩,
      ⟨(some 5), (.load none (.t 4)), none, []⟩,
      ⟨(some 7), (.off (.t 1) 3), none, []⟩,
      ⟨(some 8), (.load none (.t 7)), none, []⟩,
      ⟨(some 6), (.call 54 [(.t 5)]), none, [(8, (.load none (.t 7)), none)]⟩,
      ⟨(some 10), (.off (.t 1) 4), none, []⟩,
      ⟨(some 9), (.call 77 [(.t 8)]), none, []⟩,
      ⟨none, (.store 1 (.t 10) (.t 6)), none, []⟩,
      ⟨(some 11), (.off (.t 1) 3), none, []⟩,
      ⟨none, (.store 1 (.t 11) (.t 9)), none, []⟩] [4, 5, 7, 8, 6, 10, 9, 11])
    (.seq (.seq (.region [⟨(some 12), (.off (.t 1) 3), none, []⟩,
      ⟨(some 13), (.load none (.t 12)), none, []⟩,
      ⟨(some 14), (.lenk 0 (.t 13)), none, []⟩,
      ⟨(some 15), (.mov (.c (.i .i64 (0)))), none, []⟩] [12, 13])
    (.block 0
      (.loop L60a)))
    (.seq (.region [⟨(some 29), (.load (some 5) (.t 1)), none, []⟩,
      ⟨none, (.store 5 (.t 2) (.t 29)), none, []⟩] [1, 14, 15, 16, 29])
    .ret)))),
    30, 1, [.c 2 (some 5)], 2⟩
theorem tr60 : trFunc Tryd.prog [([], [0]), ([0, 1, 3, 4, 2, 6, 5, 7, 8, 9], [4, 5, 7, 8, 6, 10, 9, 11]), ([], [12, 13]), ([], []), ([], [16]), ([], [17]), ([0, 1, 2, 3, 4, 5, 6, 7, 8, 9, 10], [3, 18, 19, 20, 21, 22, 23, 24, 25, 26, 27]), ([], [28]), ([], [1, 14, 15, 16, 29])] 1 Tryd.f60 = some (plain1 I60) := by kernel_rfl
theorem ck60 : ckC 2 I60.body = true := by kernel_rfl

/-- 'encore/encoreref20.CopyIns'. -/
def I61 : IFunc :=
  ⟨(.seq (.region [⟨(some 1), (.box (.t 0)), none, []⟩,
      ⟨(some 2), (.alloc [(.i .i64 (0)), (.i .i64 (0)), .ns, (.s []), .ns]), none, []⟩] [0])
    (.seq (.region [⟨(some 3), (.off (.t 1) 0), none, []⟩,
      ⟨(some 4), (.load none (.t 3)), none, []⟩,
      ⟨(some 5), (.off (.t 1) 1), none, []⟩,
      ⟨(some 6), (.load none (.t 5)), none, []⟩,
      ⟨(some 7), (.off (.t 1) 2), none, []⟩,
      ⟨(some 8), (.load none (.t 7)), none, []⟩,
      ⟨(some 10), (.off (.t 1) 3), none, []⟩,
      ⟨(some 11), (.load none (.t 10)), none, []⟩,
      ⟨(some 12), (.off (.t 1) 4), none, []⟩,
      ⟨(some 13), (.load none (.t 12)), none, []⟩,
      ⟨(some 9), (.call 62 [(.t 8)]), none, [(4, (.load none (.t 3)), none), (6, (.load none (.t 5)), none), (11, (.load none (.t 10)), none), (13, (.load none (.t 12)), none)]⟩,
      ⟨(some 14), (.call 43 [(.t 13)]), none, [(4, (.load none (.t 3)), none), (6, (.load none (.t 5)), none), (11, (.load none (.t 10)), none)]⟩,
      ⟨(some 15), (.build [(.i .i64 (0)), (.i .i64 (0)), .ns, (.s []), .ns] [(0, 1, (.t 4)), (1, 1, (.t 6)), (2, 1, (.t 9)), (3, 1, (.t 11)), (4, 1, (.t 14))]), none, []⟩,
      ⟨none, (.store 5 (.t 2) (.t 15)), none, []⟩] [1, 3, 4, 5, 6, 7, 8, 10, 11, 12, 13, 9, 14, 15])
    .ret)),
    16, 1, [.c 2 (some 5)], 2⟩
theorem tr61 : trFunc Tryd.prog [([], [0]), ([0, 1, 2, 3, 4, 5, 7, 8, 9, 10, 6, 11, 12, 13], [1, 3, 4, 5, 6, 7, 8, 10, 11, 12, 13, 9, 14, 15])] 1 Tryd.f61 = some (plain1 I61) := by kernel_rfl
theorem ck61 : ckC 2 I61.body = true := by kernel_rfl

/-- 'encore/encoreref20.copied'. -/
def L62a : ICode :=
  (.seq (.seq (.region [⟨(some 5), (.mov (.t 4)), none, []⟩,
      ⟨(some 6), (.mov (.t 0)), none, []⟩,
      ⟨(some 7), (.lenk 0 (.t 6)), none, []⟩,
      ⟨(some 8), (.bin .lss (.t 5) (.t 7)), none, []⟩] [5, 6, 7])
    (.cond (.t 8)
      (.region [] [8])
      (.exit 0)))
    (.seq (.block 1
      (.region [⟨(some 11), (.mov (.t 3)), none, []⟩,
        ⟨(some 12), (.mov (.t 0)), none, []⟩,
        ⟨(some 13), (.mov (.t 4)), none, []⟩,
        ⟨(some 14), (.iaddr 7 (.t 12) (.t 13)), none, []⟩,
        ⟨(some 15), (.off (.t 14) 0), none, []⟩,
        ⟨(some 16), (.load none (.t 15)), none, []⟩,
        ⟨(some 17), (.mov (.t 0)), none, []⟩,
        ⟨(some 18), (.mov (.t 4)), none, []⟩,
        ⟨(some 19), (.iaddr 7 (.t 17) (.t 18)), none, []⟩,
        ⟨(some 20), (.off (.t 19) 1), none, []⟩,
        ⟨(some 21), (.load none (.t 20)), none, []⟩,
        ⟨(some 22), (.mov (.t 0)), none, []⟩,
        ⟨(some 23), (.mov (.t 4)), none, []⟩,
        ⟨(some 24), (.iaddr 7 (.t 22) (.t 23)), none, []⟩,
        ⟨(some 25), (.off (.t 24) 2), none, []⟩,
        ⟨(some 26), (.load (some 5) (.t 25)), none, []⟩,
        ⟨(some 27), (.call 24 [(.t 26)]), none, [(16, (.load none (.t 15)), none), (21, (.load none (.t 20)), none)]⟩,
        ⟨(some 28), (.build [(.i .i64 (0)), (.i .i64 (0)), (.i .i64 (0)), (.i .i64 (0)), (.s []), .ns, .ns] [(0, 1, (.t 16)), (1, 1, (.t 21)), (2, 5, (.t 27))]), none, []⟩,
        ⟨(some 29), (.bsl 7 1 [(.i .i64 (0)), (.i .i64 (0)), (.i .i64 (0)), (.i .i64 (0)), (.s []), .ns, .ns] [(0, 7, (.t 28))]), none, []⟩,
        ⟨(some 30), (.app 7 96 (.t 11) (.t 29)), none, []⟩,
        ⟨(some 3), (.mov (.t 30)), none, []⟩] [11, 12, 13, 14, 15, 16, 17, 18, 19, 20, 21, 22, 23, 24, 25, 26, 27, 28, 29, 30]))
    (.region [⟨(some 9), (.mov (.t 4)), none, []⟩,
      ⟨(some 10), (.bin .add (.t 9) (.c (.i .i64 (1)))), none, []⟩,
      ⟨(some 4), (.mov (.t 10)), none, []⟩] [9, 10])))
def I62 : IFunc :=
  ⟨(.seq (.region [⟨(some 2), (.mov (.c .ns)), none, []⟩] [2])
    (.seq (.region [⟨(some 3), (.mov (.c .ns)), none, []⟩] [])
    (.seq (.seq (.region [⟨(some 4), (.mov (.c (.i .i64 (0)))), none, []⟩] [])
    (.block 0
      (.loop L62a)))
    (.seq (.region [⟨(some 31), (.mov (.t 3)), none, []⟩,
      ⟨(some 2), (.mov (.t 31)), none, []⟩] [0, 3, 4, 8, 31])
    .ret)))),
    32, 1, [.t 2], 2⟩
theorem tr62 : trFunc Tryd.prog [([], [2]), ([], []), ([], []), ([], [5, 6, 7]), ([], [8]), ([0, 1, 2, 3, 4, 5, 6, 7, 8, 9, 10, 11, 12, 13, 14, 15, 16, 17, 18, 19, 20], [11, 12, 13, 14, 15, 16, 17, 18, 19, 20, 21, 22, 23, 24, 25, 26, 27, 28, 29, 30]), ([], [9, 10]), ([], [0, 3, 4, 8, 31])] 1 Tryd.f62 = some (plain1 I62) := by kernel_rfl
theorem ck62 : ckC 2 I62.body = true := by kernel_rfl

/-- 'encore/value.own'. -/
def I63 : IFunc :=
  ⟨(.seq (.region [⟨(some 1), (.box (.t 0)), none, []⟩,
      ⟨(some 2), (.mov (.c (.b false))), none, []⟩] [0, 2])
    (.seq (.seq (.region [⟨(some 3), (.off (.t 1) 0), none, []⟩,
      ⟨(some 4), (.load none (.t 3)), none, []⟩] [3])
    (.block 0
      (.seq (.region [⟨(some 6), (.bin .eql (.t 4) (.c (.i .i64 (0)))), none, []⟩,
        ⟨(some 5), (.mov (.t 6)), none, []⟩] [6])
      (.cond (.t 5)
        (.seq (.region [⟨(some 7), (.off (.t 1) 1), none, []⟩,
          ⟨(some 8), (.load none (.t 7)), none, []⟩,
          ⟨(some 9), (.bin .eql (.t 8) (.c (.i .i64 (0)))), none, []⟩,
          ⟨(some 10), (.mov (.t 9)), none, []⟩,
          ⟨(some 11), (.build [(.b false), (.b false), (.b false)] []), (some (10, true)), []⟩,
          ⟨(some 12), (.load (some 5) (.t 1)), (some (10, true)), []⟩,
          ⟨(some 13), (.call 78 [(.t 11), (.t 12)]), (some (10, true)), []⟩,
          ⟨(some 14), (.pick (.t 10) (.t 13) (.c (.b false))), none, []⟩,
          ⟨(some 2), (.mov (.t 14)), none, []⟩] [1, 4, 5, 7, 8, 9, 10, 11, 12, 13, 14])
        .ret)
        (.seq (.region [⟨(some 16), (.bin .eql (.t 4) (.c (.i .i64 (1)))), none, []⟩,
          ⟨(some 15), (.mov (.t 16)), none, []⟩] [5, 16])
        (.cond (.t 15)
          (.seq (.region [⟨(some 17), (.build [(.b false), (.b false), (.b false)] []), none, []⟩,
            ⟨(some 18), (.load (some 5) (.t 1)), none, []⟩,
            ⟨(some 19), (.call 78 [(.t 17), (.t 18)]), none, []⟩,
            ⟨(some 2), (.mov (.t 19)), none, []⟩] [1, 4, 15, 17, 18, 19])
          .ret)
          (.seq (.region [⟨(some 21), (.bin .eql (.t 4) (.c (.i .i64 (2)))), none, []⟩,
            ⟨(some 20), (.mov (.t 21)), none, []⟩] [15, 21])
          (.cond (.t 20)
            (.seq (.region [⟨(some 22), (.off (.t 1) 1), none, []⟩,
              ⟨(some 23), (.load none (.t 22)), none, []⟩,
              ⟨(some 24), (.bin .andNot (.t 23) (.c (.i .i64 (1)))), none, []⟩,
              ⟨(some 25), (.bin .eql (.t 24) (.c (.i .i64 (0)))), none, []⟩,
              ⟨(some 26), (.mov (.t 25)), none, []⟩,
              ⟨(some 27), (.build [(.b false), (.b false), (.b false)] []), (some (26, true)), []⟩,
              ⟨(some 28), (.load (some 5) (.t 1)), (some (26, true)), []⟩,
              ⟨(some 29), (.call 78 [(.t 27), (.t 28)]), (some (26, true)), []⟩,
              ⟨(some 30), (.pick (.t 26) (.t 29) (.c (.b false))), none, []⟩,
              ⟨(some 2), (.mov (.t 30)), none, []⟩] [1, 4, 20, 22, 23, 24, 25, 26, 27, 28, 29, 30])
            .ret)
            (.seq (.region [⟨(some 32), (.bin .eql (.t 4) (.c (.i .i64 (6)))), none, []⟩,
              ⟨(some 31), (.mov (.t 32)), none, []⟩] [20, 32])
            (.cond (.t 31)
              (.seq (.region [⟨(some 33), (.off (.t 1) 1), none, []⟩,
                ⟨(some 34), (.load none (.t 33)), none, []⟩,
                ⟨(some 35), (.bin .geq (.t 34) (.c (.i .i64 (1)))), none, []⟩,
                ⟨(some 36), (.mov (.t 35)), none, []⟩,
                ⟨(some 37), (.off (.t 1) 1), (some (36, true)), []⟩,
                ⟨(some 38), (.load none (.t 37)), (some (36, true)), []⟩,
                ⟨(some 39), (.bin .leq (.t 38) (.c (.i .i64 (64)))), (some (36, true)), []⟩,
                ⟨(some 40), (.pick (.t 36) (.t 39) (.c (.b false))), none, []⟩,
                ⟨(some 41), (.mov (.t 40)), none, []⟩,
                ⟨(some 42), (.build [(.b false), (.b false), (.b false)] []), (some (41, true)), []⟩,
                ⟨(some 43), (.load (some 5) (.t 1)), (some (41, true)), []⟩,
                ⟨(some 44), (.call 78 [(.t 42), (.t 43)]), (some (41, true)), []⟩,
                ⟨(some 45), (.pick (.t 41) (.t 44) (.c (.b false))), none, []⟩,
                ⟨(some 2), (.mov (.t 45)), none, []⟩] [1, 4, 31, 33, 34, 35, 36, 37, 38, 39, 40, 41, 42, 43, 44, 45])
              .ret)
              (.seq (.region [⟨(some 47), (.bin .eql (.t 4) (.c (.i .i64 (3)))), none, []⟩,
                ⟨(some 46), (.mov (.t 47)), none, []⟩] [31, 47])
              (.cond (.t 46)
                (.seq (.region [⟨(some 48), (.off (.t 1) 1), none, []⟩,
                  ⟨(some 49), (.load none (.t 48)), none, []⟩,
                  ⟨(some 50), (.bin .eql (.t 49) (.c (.i .i64 (0)))), none, []⟩,
                  ⟨(some 51), (.mov (.t 50)), none, []⟩,
                  ⟨(some 52), (.off (.t 1) 2), (some (51, true)), []⟩,
                  ⟨(some 53), (.load none (.t 52)), (some (51, true)), []⟩,
                  ⟨(some 54), (.lenk 1 (.t 53)), (some (51, true)), []⟩,
                  ⟨(some 55), (.bin .leq (.t 54) (.c (.i .i64 (64)))), (some (51, true)), []⟩,
                  ⟨(some 56), (.pick (.t 51) (.t 55) (.c (.b false))), none, []⟩,
                  ⟨(some 57), (.mov (.t 56)), none, []⟩,
                  ⟨(some 58), (.build [(.b false), (.b false), (.b false)] [(0, 1, (.c (.b true)))]), (some (57, true)), []⟩,
                  ⟨(some 59), (.load (some 5) (.t 1)), (some (57, true)), []⟩,
                  ⟨(some 60), (.call 78 [(.t 58), (.t 59)]), (some (57, true)), []⟩,
                  ⟨(some 61), (.pick (.t 57) (.t 60) (.c (.b false))), none, []⟩,
                  ⟨(some 2), (.mov (.t 61)), none, []⟩] [1, 4, 46, 48, 49, 50, 51, 52, 53, 54, 55, 56, 57, 58, 59, 60, 61])
                .ret)
                (.seq (.region [⟨(some 63), (.bin .eql (.t 4) (.c (.i .i64 (4)))), none, []⟩,
                  ⟨(some 62), (.mov (.t 63)), none, []⟩] [46, 63])
                (.cond (.t 62)
                  (.seq (.region [⟨(some 64), (.off (.t 1) 1), none, []⟩,
                    ⟨(some 65), (.load none (.t 64)), none, []⟩,
                    ⟨(some 66), (.bin .eql (.t 65) (.c (.i .i64 (0)))), none, []⟩,
                    ⟨(some 67), (.mov (.t 66)), none, []⟩,
                    ⟨(some 68), (.off (.t 1) 3), (some (67, true)), []⟩,
                    ⟨(some 69), (.load none (.t 68)), (some (67, true)), []⟩,
                    ⟨(some 70), (.lenk 0 (.t 69)), (some (67, true)), []⟩,
                    ⟨(some 71), (.bin .leq (.t 70) (.c (.i .i64 (32)))), (some (67, true)), []⟩,
                    ⟨(some 72), (.pick (.t 67) (.t 71) (.c (.b false))), none, []⟩,
                    ⟨(some 73), (.mov (.t 72)), none, []⟩,
                    ⟨(some 74), (.build [(.b false), (.b false), (.b false)] [(1, 1, (.c (.b true)))]), (some (73, true)), []⟩,
                    ⟨(some 75), (.load (some 5) (.t 1)), (some (73, true)), []⟩,
                    ⟨(some 76), (.call 78 [(.t 74), (.t 75)]), (some (73, true)), []⟩,
                    ⟨(some 77), (.pick (.t 73) (.t 76) (.c (.b false))), none, []⟩,
                    ⟨(some 2), (.mov (.t 77)), none, []⟩] [1, 4, 62, 64, 65, 66, 67, 68, 69, 70, 71, 72, 73, 74, 75, 76, 77])
                  .ret)
                  (.seq (.region [⟨(some 79), (.bin .eql (.t 4) (.c (.i .i64 (5)))), none, []⟩,
                    ⟨(some 78), (.mov (.t 79)), none, []⟩] [4, 62, 79])
                  (.cond (.t 78)
                    (.seq (.region [⟨(some 80), (.off (.t 1) 1), none, []⟩,
                      ⟨(some 81), (.load none (.t 80)), none, []⟩,
                      ⟨(some 82), (.bin .eql (.t 81) (.c (.i .i64 (0)))), none, []⟩,
                      ⟨(some 83), (.mov (.t 82)), none, []⟩,
                      ⟨(some 84), (.off (.t 1) 3), (some (83, true)), []⟩,
                      ⟨(some 85), (.load none (.t 84)), (some (83, true)), []⟩,
                      ⟨(some 86), (.lenk 0 (.t 85)), (some (83, true)), []⟩,
                      ⟨(some 87), (.off (.t 1) 4), (some (83, true)), []⟩,
                      ⟨(some 88), (.load none (.t 87)), (some (83, true)), []⟩,
                      ⟨(some 89), (.lenk 0 (.t 88)), (some (83, true)), []⟩,
                      ⟨(some 90), (.bin .eql (.t 86) (.t 89)), (some (83, true)), []⟩,
                      ⟨(some 91), (.pick (.t 83) (.t 90) (.c (.b false))), none, []⟩,
                      ⟨(some 92), (.mov (.t 91)), none, []⟩,
                      ⟨(some 93), (.off (.t 1) 3), (some (92, true)), []⟩,
                      ⟨(some 94), (.load none (.t 93)), (some (92, true)), []⟩,
                      ⟨(some 95), (.lenk 0 (.t 94)), (some (92, true)), []⟩,
                      ⟨(some 96), (.bin .leq (.t 95) (.c (.i .i64 (8)))), (some (92, true)), []⟩,
                      ⟨(some 97), (.pick (.t 92) (.t 96) (.c (.b false))), none, []⟩,
                      ⟨(some 98), (.mov (.t 97)), none, []⟩,
                      ⟨(some 99), (.build [(.b false), (.b false), (.b false)] [(1, 1, (.c (.b true))), (2, 1, (.c (.b true)))]), (some (98, true)), []⟩,
                      ⟨(some 100), (.load (some 5) (.t 1)), (some (98, true)), []⟩,
                      ⟨(some 101), (.call 78 [(.t 99), (.t 100)]), (some (98, true)), []⟩,
                      ⟨(some 102), (.pick (.t 98) (.t 101) (.c (.b false))), none, []⟩,
                      ⟨(some 103), (.mov (.t 102)), none, []⟩,
                      ⟨(some 104), (.off (.t 1) 4), (some (103, true)), []⟩,
                      ⟨(some 105), (.load none (.t 104)), (some (103, true)), []⟩,
                      ⟨(some 106), (.call 79 [(.t 105)]), (some (103, true)), []⟩,
                      ⟨(some 107), (.pick (.t 103) (.t 106) (.c (.b false))), none, []⟩,
                      ⟨(some 2), (.mov (.t 107)), none, []⟩] [1, 78, 80, 81, 82, 83, 84, 85, 86, 87, 88, 89, 90, 91, 92, 93, 94, 95, 96, 97, 98, 99, 100, 101, 102, 103, 104, 105, 106, 107])
                    .ret)
                    (.region [] [1, 78])))))))))))))))))
    (.seq (.region [⟨(some 2), (.mov (.c (.b false))), none, []⟩] [])
    .ret))),
    108, 1, [.t 2], 2⟩
theorem tr63 : trFunc Tryd.prog [([], [0, 2]), ([], [3]), ([], [6]), ([], [1, 4, 5, 7, 8, 9, 10, 11, 12, 13, 14]), ([], [5, 16]), ([], [1, 4, 15, 17, 18, 19]), ([], [15, 21]), ([], [1, 4, 20, 22, 23, 24, 25, 26, 27, 28, 29, 30]), ([], [20, 32]), ([], [1, 4, 31, 33, 34, 35, 36, 37, 38, 39, 40, 41, 42, 43, 44, 45]), ([], [31, 47]), ([], [1, 4, 46, 48, 49, 50, 51, 52, 53, 54, 55, 56, 57, 58, 59, 60, 61]), ([], [46, 63]), ([], [1, 4, 62, 64, 65, 66, 67, 68, 69, 70, 71, 72, 73, 74, 75, 76, 77]), ([], [4, 62, 79]), ([], [1, 78, 80, 81, 82, 83, 84, 85, 86, 87, 88, 89, 90, 91, 92, 93, 94, 95, 96, 97, 98, 99, 100, 101, 102, 103, 104, 105, 106, 107]), ([], [1, 78]), ([], [])] 1 Tryd.f63 = some (plain1 I63) := by kernel_rfl
theorem ck63 : ckC 2 I63.body = true := by kernel_rfl

/-- 'encore/encoreref07.number'. -/
def I65 : IFunc :=
  ⟨(.seq (.region [⟨(some 4), (.mov (.c (.i .i64 (0)))), none, []⟩] [4])
    (.seq (.seq (.region [⟨(some 5), (.mov (.t 0)), none, []⟩,
      ⟨(some 6), (.mov (.t 1)), none, []⟩,
      ⟨(some 7), (.bin .lss (.t 5) (.t 6)), none, []⟩] [5, 6])
    (.cond (.t 7)
      (.seq (.region [⟨(some 4), (.mov (.c (.i .i64 (-1)))), none, []⟩] [0, 1, 7])
      .ret)
      (.region [] [7])))
    (.seq (.seq (.region [⟨(some 8), (.mov (.t 0)), none, []⟩,
      ⟨(some 9), (.mov (.t 1)), none, []⟩,
      ⟨(some 10), (.bin .gtr (.t 8) (.t 9)), none, []⟩] [0, 1, 8, 9])
    (.cond (.t 10)
      (.seq (.region [⟨(some 4), (.mov (.c (.i .i64 (1)))), none, []⟩] [10])
      .ret)
      (.region [] [10])))
    (.seq (.region [⟨(some 4), (.mov (.c (.i .i64 (0)))), none, []⟩] [])
    .ret)))),
    11, 2, [.t 4], 2⟩
theorem tr65 : trFunc Tryd.prog [([], [4]), ([], [5, 6]), ([], [0, 1, 7]), ([], [7]), ([], [0, 1, 8, 9]), ([], [10]), ([], [10]), ([], [])] 1 Tryd.f65 = some (plain1 I65) := by kernel_rfl
theorem ck65 : ckC 2 I65.body = true := by kernel_rfl

/-- 'encore/encoreref07.text'. -/
def I66 : IFunc :=
  ⟨(.seq (.region [⟨(some 4), (.mov (.c (.i .i64 (0)))), none, []⟩] [4])
    (.seq (.seq (.region [⟨(some 5), (.mov (.t 0)), none, []⟩,
      ⟨(some 6), (.mov (.t 1)), none, []⟩,
      ⟨(some 7), (.bin .lss (.t 5) (.t 6)), none, []⟩] [5, 6])
    (.cond (.t 7)
      (.seq (.region [⟨(some 4), (.mov (.c (.i .i64 (-1)))), none, []⟩] [0, 1, 7])
      .ret)
      (.region [] [7])))
    (.seq (.seq (.region [⟨(some 8), (.mov (.t 0)), none, []⟩,
      ⟨(some 9), (.mov (.t 1)), none, []⟩,
      ⟨(some 10), (.bin .gtr (.t 8) (.t 9)), none, []⟩] [0, 1, 8, 9])
    (.cond (.t 10)
      (.seq (.region [⟨(some 4), (.mov (.c (.i .i64 (1)))), none, []⟩] [10])
      .ret)
      (.region [] [10])))
    (.seq (.region [⟨(some 4), (.mov (.c (.i .i64 (0)))), none, []⟩] [])
    .ret)))),
    11, 2, [.t 4], 2⟩
theorem tr66 : trFunc Tryd.prog [([], [4]), ([], [5, 6]), ([], [0, 1, 7]), ([], [7]), ([], [0, 1, 8, 9]), ([], [10]), ([], [10]), ([], [])] 1 Tryd.f66 = some (plain1 I66) := by kernel_rfl
theorem ck66 : ckC 2 I66.body = true := by kernel_rfl

/-- 'encore/encoreref20.SameIns'. -/
def I67 : IFunc :=
  ⟨(.seq (.region [⟨(some 2), (.box (.t 0)), none, []⟩,
      ⟨(some 3), (.box (.t 1)), none, []⟩,
      ⟨(some 4), (.mov (.c (.b false))), none, []⟩] [0, 1, 4])
    (.seq (.region [⟨(some 5), (.off (.t 2) 0), none, []⟩,
      ⟨(some 6), (.load none (.t 5)), none, []⟩,
      ⟨(some 7), (.off (.t 3) 0), none, []⟩,
      ⟨(some 8), (.load none (.t 7)), none, []⟩,
      ⟨(some 9), (.bin .eql (.t 6) (.t 8)), none, []⟩,
      ⟨(some 10), (.mov (.t 9)), none, []⟩,
      ⟨(some 11), (.off (.t 2) 1), (some (10, true)), []⟩,
      ⟨(some 12), (.load none (.t 11)), (some (10, true)), []⟩,
      ⟨(some 13), (.off (.t 3) 1), (some (10, true)), []⟩,
      ⟨(some 14), (.load none (.t 13)), (some (10, true)), []⟩,
      ⟨(some 15), (.bin .eql (.t 12) (.t 14)), (some (10, true)), []⟩,
      ⟨(some 16), (.pick (.t 10) (.t 15) (.c (.b false))), none, []⟩,
      ⟨(some 17), (.mov (.t 16)), none, []⟩,
      ⟨(some 18), (.off (.t 2) 3), (some (17, true)), []⟩,
      ⟨(some 19), (.load none (.t 18)), (some (17, true)), []⟩,
      ⟨(some 20), (.off (.t 3) 3), (some (17, true)), []⟩,
      ⟨(some 21), (.load none (.t 20)), (some (17, true)), []⟩,
      ⟨(some 22), (.bin .eql (.t 19) (.t 21)), (some (17, true)), []⟩,
      ⟨(some 23), (.pick (.t 17) (.t 22) (.c (.b false))), none, []⟩,
      ⟨(some 24), (.mov (.t 23)), none, []⟩,
      ⟨(some 25), (.off (.t 2) 2), (some (24, true)), []⟩,
      ⟨(some 26), (.load none (.t 25)), (some (24, true)), []⟩,
      ⟨(some 27), (.off (.t 3) 2), (some (24, true)), []⟩,
      ⟨(some 28), (.load none (.t 27)), (some (24, true)), []⟩,
      ⟨(some 29), (.call 68 [(.t 26), (.t 28)]), (some (24, true)), []⟩,
      ⟨(some 30), (.pick (.t 24) (.t 29) (.c (.b false))), none, []⟩,
      ⟨(some 31), (.mov (.t 30)), none, []⟩,
      ⟨(some 32), (.off (.t 2) 4), (some (31, true)), []⟩,
      ⟨(some 33), (.load none (.t 32)), (some (31, true)), []⟩,
      ⟨(some 34), (.off (.t 3) 4), (some (31, true)), []⟩,
      ⟨(some 35), (.load none (.t 34)), (some (31, true)), []⟩,
      ⟨(some 36), (.call 81 [(.t 33), (.t 35)]), (some (31, true)), []⟩,
      ⟨(some 37), (.pick (.t 31) (.t 36) (.c (.b false))), none, []⟩,
      ⟨(some 4), (.mov (.t 37)), none, []⟩] [2, 3, 5, 6, 7, 8, 9, 10, 11, 12, 13, 14, 15, 16, 17, 18, 19, 20, 21, 22, 23, 24, 25, 26, 27, 28, 29, 30, 31, 32, 33, 34, 35, 36, 37])
    .ret)),
    38, 2, [.t 4], 2⟩
theorem tr67 : trFunc Tryd.prog [([], [0, 1, 4]), ([], [2, 3, 5, 6, 7, 8, 9, 10, 11, 12, 13, 14, 15, 16, 17, 18, 19, 20, 21, 22, 23, 24, 25, 26, 27, 28, 29, 30, 31, 32, 33, 34, 35, 36, 37])] 1 Tryd.f67 = some (plain1 I67) := by kernel_rfl
theorem ck67 : ckC 2 I67.body = true := by kernel_rfl

/-- 'encore/encoreref20.SameOperands'. -/
def L68a : ICode :=
  (.seq (.seq (.region [⟨(some 11), (.mov (.t 5)), none, []⟩,
      ⟨(some 12), (.mov (.t 0)), none, []⟩,
      ⟨(some 13), (.lenk 0 (.t 12)), none, []⟩,
      ⟨(some 14), (.bin .lss (.t 11) (.t 13)), none, []⟩] [11, 12, 13])
    (.cond (.t 14)
      (.region [] [14])
      (.exit 0)))
    (.seq (.block 1
      (.seq (.region [⟨(some 17), (.mov (.t 0)), none, []⟩,
        ⟨(some 18), (.mov (.t 5)), none, []⟩,
        ⟨(some 19), (.iaddr 7 (.t 17) (.t 18)), none, []⟩,
        ⟨(some 20), (.load (some 7) (.t 19)), none, []⟩,
        ⟨(some 21), (.mov (.t 1)), none, []⟩,
        ⟨(some 22), (.mov (.t 5)), none, []⟩,
        ⟨(some 23), (.iaddr 7 (.t 21) (.t 22)), none, []⟩,
        ⟨(some 24), (.load (some 7) (.t 23)), none, []⟩,
        ⟨(some 25), (.call 69 [(.t 20), (.t 24)]), none, []⟩,
        ⟨(some 26), (.un .not (.t 25)), none, []⟩] [17, 18, 19, 20, 21, 22, 23, 24, 25])
      (.cond (.t 26)
        (.seq (.region [⟨(some 4), (.mov (.c (.b false))), none, []⟩] [0, 1, 5, 26])
        .ret)
        (.region [] [26]))))
    (.region [⟨(some 15), (.mov (.t 5)), none, []⟩,
      ⟨(some 16), (.bin .add (.t 15) (.c (.i .i64 (1)))), none, []⟩,
      ⟨(some 5), (.mov (.t 16)), none, []⟩] [15, 16])))
def I68 : IFunc :=
  ⟨(.seq (.region [⟨(some 4), (.mov (.c (.b false))), none, []⟩] [4])
    (.seq (.seq (.region [⟨(some 6), (.mov (.t 0)), none, []⟩,
      ⟨(some 7), (.lenk 0 (.t 6)), none, []⟩,
      ⟨(some 8), (.mov (.t 1)), none, []⟩,
      ⟨(some 9), (.lenk 0 (.t 8)), none, []⟩,
      ⟨(some 10), (.bin .neq (.t 7) (.t 9)), none, []⟩] [6, 7, 8, 9])
    (.cond (.t 10)
      (.seq (.region [⟨(some 4), (.mov (.c (.b false))), none, []⟩] [0, 1, 10])
      .ret)
      (.region [] [10])))
    (.seq (.seq (.region [⟨(some 5), (.mov (.c (.i .i64 (0)))), none, []⟩] [])
    (.block 0
      (.loop L68a)))
    (.seq (.region [⟨(some 4), (.mov (.c (.b true))), none, []⟩] [0, 1, 5, 14])
    .ret)))),
    27, 2, [.t 4], 2⟩
theorem tr68 : trFunc Tryd.prog [([], [4]), ([], [6, 7, 8, 9]), ([], [0, 1, 10]), ([], [10]), ([], []), ([], [11, 12, 13]), ([], [14]), ([0, 1, 2, 3, 4, 5, 6, 7, 8, 9], [17, 18, 19, 20, 21, 22, 23, 24, 25]), ([], [0, 1, 5, 26]), ([], [26]), ([], [15, 16]), ([], [0, 1, 5, 14])] 1 Tryd.f68 = some (plain1 I68) := by kernel_rfl
theorem ck68 : ckC 2 I68.body = true := by kernel_rfl

/-- 'encore/encoreref20.SameOperand'. -/
def I69 : IFunc :=
  ⟨(.seq (.region [⟨(some 2), (.box (.t 0)), none, []⟩,
      ⟨(some 3), (.box (.t 1)), none, []⟩,
      ⟨(some 4), (.mov (.c (.b false))), none, []⟩] [0, 1, 4])
    (.seq (.region [⟨(some 5), (.off (.t 2) 0), none, []⟩,
      ⟨(some 6), (.load none (.t 5)), none, []⟩,
      ⟨(some 7), (.off (.t 3) 0), none, []⟩,
      ⟨(some 8), (.load none (.t 7)), none, []⟩,
      ⟨(some 9), (.bin .eql (.t 6) (.t 8)), none, []⟩,
      ⟨(some 10), (.mov (.t 9)), none, []⟩,
      ⟨(some 11), (.off (.t 2) 1), (some (10, true)), []⟩,
      ⟨(some 12), (.load none (.t 11)), (some (10, true)), []⟩,
      ⟨(some 13), (.off (.t 3) 1), (some (10, true)), []⟩,
      ⟨(some 14), (.load none (.t 13)), (some (10, true)), []⟩,
      ⟨(some 15), (.bin .eql (.t 12) (.t 14)), (some (10, true)), []⟩,
      ⟨(some 16), (.pick (.t 10) (.t 15) (.c (.b false))), none, []⟩,
      ⟨(some 17), (.mov (.t 16)), none, []⟩,
      ⟨(some 18), (.off (.t 2) 2), (some (17, true)), []⟩,
      ⟨(some 19), (.load (some 5) (.t 18)), (some (17, true)), []⟩,
      ⟨(some 20), (.off (.t 3) 2), (some (17, true)), []⟩,
      ⟨(some 21), (.load (some 5) (.t 20)), (some (17, true)), []⟩,
      ⟨(some 22), (.call 27 [(.t 19), (.t 21)]), (some (17, true)), []⟩,
      ⟨(some 23), (.pick (.t 17) (.t 22) (.c (.b false))), none, []⟩,
      ⟨(some 4), (.mov (.t 23)), none, []⟩] [2, 3, 5, 6, 7, 8, 9, 10, 11, 12, 13, 14, 15, 16, 17, 18, 19, 20, 21, 22, 23])
    .ret)),
    24, 2, [.t 4], 2⟩
theorem tr69 : trFunc Tryd.prog [([], [0, 1, 4]), ([], [2, 3, 5, 6, 7, 8, 9, 10, 11, 12, 13, 14, 15, 16, 17, 18, 19, 20, 21, 22, 23])] 1 Tryd.f69 = some (plain1 I69) := by kernel_rfl
theorem ck69 : ckC 2 I69.body = true := by kernel_rfl

/-- 'encore/encorelaw22.operands'. -/
def L70a : ICode :=
  (.seq (.seq (.region [⟨(some 5), (.mov (.t 4)), none, []⟩,
      ⟨(some 6), (.mov (.t 0)), none, []⟩,
      ⟨(some 7), (.lenk 0 (.t 6)), none, []⟩,
      ⟨(some 8), (.bin .lss (.t 5) (.t 7)), none, []⟩] [5, 6, 7])
    (.cond (.t 8)
      (.region [] [8])
      (.exit 0)))
    (.seq (.block 1
      (.region [⟨(some 11), (.mov (.t 3)), none, []⟩,
        ⟨(some 12), (.mov (.t 0)), none, []⟩,
        ⟨(some 13), (.mov (.t 4)), none, []⟩,
        ⟨(some 14), (.iaddr 7 (.t 12) (.t 13)), none, []⟩,
        ⟨(some 15), (.off (.t 14) 0), none, []⟩,
        ⟨(some 16), (.load none (.t 15)), none, []⟩,
        ⟨(some 17), (.mov (.t 0)), none, []⟩,
        ⟨(some 18), (.mov (.t 4)), none, []⟩,
        ⟨(some 19), (.iaddr 7 (.t 17) (.t 18)), none, []⟩,
        ⟨(some 20), (.off (.t 19) 1), none, []⟩,
        ⟨(some 21), (.load none (.t 20)), none, []⟩,
        ⟨(some 22), (.mov (.t 0)), none, []⟩,
        ⟨(some 23), (.mov (.t 4)), none, []⟩,
        ⟨(some 24), (.iaddr 7 (.t 22) (.t 23)), none, []⟩,
        ⟨(some 25), (.off (.t 24) 2), none, []⟩,
        ⟨(some 26), (.load (some 5) (.t 25)), none, []⟩,
        ⟨(some 27), (.build [(.i .i64 (0)), (.i .i64 (0)), (.i .i64 (0)), (.i .i64 (0)), (.s []), .ns, .ns] [(0, 1, (.t 16)), (1, 1, (.t 21)), (2, 5, (.t 26))]), none, []⟩,
        ⟨(some 28), (.bsl 7 1 [(.i .i64 (0)), (.i .i64 (0)), (.i .i64 (0)), (.i .i64 (0)), (.s []), .ns, .ns] [(0, 7, (.t 27))]), none, []⟩,
        ⟨(some 29), (.app 7 96 (.t 11) (.t 28)), none, []⟩,
        ⟨(some 3), (.mov (.t 29)), none, []⟩] [11, 12, 13, 14, 15, 16, 17, 18, 19, 20, 21, 22, 23, 24, 25, 26, 27, 28, 29]))
    (.region [⟨(some 9), (.mov (.t 4)), none, []⟩,
      ⟨(some 10), (.bin .add (.t 9) (.c (.i .i64 (1)))), none, []⟩,
      ⟨(some 4), (.mov (.t 10)), none, []⟩] [9, 10])))
def I70 : IFunc :=
  ⟨(.seq (.region [⟨(some 2), (.mov (.c .ns)), none, []⟩] [2])
    (.seq (.region [⟨(some 3), (.mov (.c .ns)), none, []⟩] [])
    (.seq (.seq (.region [⟨(some 4), (.mov (.c (.i .i64 (0)))), none, []⟩] [])
    (.block 0
      (.loop L70a)))
    (.seq (.region [⟨(some 30), (.mov (.t 3)), none, []⟩,
      ⟨(some 2), (.mov (.t 30)), none, []⟩] [0, 3, 4, 8, 30])
    .ret)))),
    31, 1, [.t 2], 2⟩
theorem tr70 : trFunc Tryd.prog [([], [2]), ([], []), ([], []), ([], [5, 6, 7]), ([], [8]), ([0, 1, 2, 3, 4, 5, 6, 7, 8, 9, 10, 11, 12, 13, 14, 15, 16, 17, 18, 19], [11, 12, 13, 14, 15, 16, 17, 18, 19, 20, 21, 22, 23, 24, 25, 26, 27, 28, 29]), ([], [9, 10]), ([], [0, 3, 4, 8, 30])] 1 Tryd.f70 = some (plain1 I70) := by kernel_rfl
theorem ck70 : ckC 2 I70.body = true := by kernel_rfl

/-- '(encore/lift.Ins).needs'. -/
def I71 : IFunc :=
  ⟨(.seq (.region [⟨(some 1), (.box (.t 0)), none, []⟩,
      ⟨(some 2), (.mov (.c (.i .i64 (0)))), none, []⟩,
      ⟨(some 3), (.mov (.c (.i .i64 (0)))), none, []⟩,
      ⟨(some 4), (.mov (.c (.b false))), none, []⟩] [0, 2, 3, 4])
    (.seq (.region [⟨(some 6), (.off (.t 1) 1), none, []⟩,
      ⟨(some 7), (.load none (.t 6)), none, []⟩,
      ⟨(some 8), (.off (.t 1) 3), none, []⟩,
      ⟨(some 9), (.load none (.t 8)), none, []⟩,
      ⟨(some 10), (.off (.t 1) 4), none, []⟩,
      ⟨(some 11), (.load none (.t 10)), none, []⟩,
      ⟨(some 12), (.lenk 0 (.t 11)), none, []⟩,
      ⟨(some 13), (.bin .gtr (.t 12) (.c (.i .i64 (0)))), none, []⟩,
      ⟨(some 14), (.build [(.i .i64 (0)), (.s []), (.b false)] [(0, 1, (.t 7)), (1, 1, (.t 9)), (2, 1, (.t 13))]), none, []⟩,
      ⟨(some 5), (.alloc [(.i .i64 (0)), (.s []), (.b false)]), none, []⟩,
      ⟨none, (.store 3 (.t 5) (.t 14)), none, []⟩] [6, 7, 8, 9, 10, 11, 12, 13, 14])
    (.seq (.block 0
      (.seq (.region [⟨(some 16), (.off (.t 1) 0), none, []⟩,
        ⟨(some 17), (.load none (.t 16)), none, []⟩,
        ⟨(some 18), (.bin .eql (.t 17) (.c (.i .i64 (20)))), none, []⟩,
        ⟨(some 15), (.mov (.t 18)), none, []⟩] [16, 17, 18])
      (.cond (.t 15)
        (.seq (.region [⟨(some 19), (.load (some 3) (.t 5)), none, []⟩,
          ⟨(some 20), (.load (some 3) (.g 0)), none, []⟩,
          ⟨(some 21), (.eqAg [1, 2, 0] false (.t 19) (.t 20)), none, []⟩,
          ⟨(some 2), (.mov (.c (.i .i64 (0)))), none, []⟩,
          ⟨(some 3), (.mov (.c (.i .i64 (8)))), none, []⟩,
          ⟨(some 4), (.mov (.t 21)), none, []⟩] [1, 5, 15, 19, 20, 21])
        .ret)
        (.seq (.region [⟨(some 23), (.off (.t 1) 0), none, []⟩,
          ⟨(some 24), (.load none (.t 23)), none, []⟩,
          ⟨(some 25), (.bin .eql (.t 24) (.c (.i .i64 (21)))), none, []⟩,
          ⟨(some 22), (.mov (.t 25)), none, []⟩] [15, 23, 24, 25])
        (.cond (.t 22)
          (.seq (.region [⟨(some 26), (.off (.t 1) 4), none, []⟩,
            ⟨(some 27), (.load none (.t 26)), none, []⟩,
            ⟨(some 28), (.lenk 0 (.t 27)), none, []⟩,
            ⟨(some 29), (.off (.t 1) 4), none, []⟩,
            ⟨(some 30), (.load none (.t 29)), none, []⟩,
            ⟨(some 31), (.lenk 0 (.t 30)), none, []⟩,
            ⟨(some 32), (.off (.t 1) 1), none, []⟩,
            ⟨(some 33), (.load none (.t 32)), none, []⟩,
            ⟨(some 34), (.bin .eql (.t 33) (.c (.i .i64 (0)))), none, []⟩,
            ⟨(some 35), (.mov (.t 34)), none, []⟩,
            ⟨(some 36), (.off (.t 1) 3), (some (35, true)), []⟩,
            ⟨(some 37), (.load none (.t 36)), (some (35, true)), []⟩,
            ⟨(some 38), (.bin .eql (.t 37) (.c (.s []))), (some (35, true)), []⟩,
            ⟨(some 39), (.pick (.t 35) (.t 38) (.c (.b false))), none, []⟩,
            ⟨(some 40), (.mov (.t 39)), none, []⟩,
            ⟨(some 41), (.off (.t 1) 4), (some (40, true)), []⟩,
            ⟨(some 42), (.load none (.t 41)), (some (40, true)), []⟩,
            ⟨(some 43), (.call 82 [(.t 42)]), (some (40, true)), [(27, (.load none (.t 26)), none), (28, (.lenk 0 (.t 27)), none), (30, (.load none (.t 29)), none), (31, (.lenk 0 (.t 30)), none)]⟩,
            ⟨(some 44), (.pick (.t 40) (.t 43) (.c (.b false))), none, []⟩,
            ⟨(some 2), (.mov (.t 28)), none, []⟩,
            ⟨(some 3), (.mov (.t 31)), none, []⟩,
            ⟨(some 4), (.mov (.t 44)), none, []⟩] [1, 5, 22, 26, 27, 28, 29, 30, 31, 32, 33, 34, 35, 36, 37, 38, 39, 40, 41, 42, 43, 44])
          .ret)
          (.seq (.region [⟨(some 46), (.off (.t 1) 0), none, []⟩,
            ⟨(some 47), (.load none (.t 46)), none, []⟩,
            ⟨(some 48), (.bin .eql (.t 47) (.c (.i .i64 (22)))), none, []⟩,
            ⟨(some 45), (.mov (.t 48)), none, []⟩] [22, 46, 47, 48])
          (.cond (.t 45)
            (.seq (.region [⟨(some 49), (.load (some 3) (.t 5)), none, []⟩,
              ⟨(some 50), (.off (.t 1) 3), none, []⟩,
              ⟨(some 51), (.load none (.t 50)), none, []⟩,
              ⟨(some 52), (.build [(.i .i64 (0)), (.s []), (.b false)] [(1, 1, (.t 51))]), none, []⟩,
              ⟨(some 53), (.eqAg [1, 2, 0] false (.t 49) (.t 52)), none, []⟩,
              ⟨(some 54), (.mov (.t 53)), none, []⟩,
              ⟨(some 55), (.off (.t 1) 3), (some (54, true)), []⟩,
              ⟨(some 56), (.load none (.t 55)), (some (54, true)), []⟩,
              ⟨(some 57), (.bsl 1 1 [(.s [])] [(0, 1, (.t 56))]), (some (54, true)), []⟩,
              ⟨(some 58), (.call 82 [(.t 57)]), (some (54, true)), []⟩,
              ⟨(some 59), (.pick (.t 54) (.t 58) (.c (.b false))), none, []⟩,
              ⟨(some 2), (.mov (.c (.i .i64 (1)))), none, []⟩,
              ⟨(some 3), (.mov (.c (.i .i64 (1)))), none, []⟩,
              ⟨(some 4), (.mov (.t 59)), none, []⟩] [1, 5, 45, 49, 50, 51, 52, 53, 54, 55, 56, 57, 58, 59])
            .ret)
            (.seq (.region [⟨(some 61), (.off (.t 1) 0), none, []⟩,
              ⟨(some 62), (.load none (.t 61)), none, []⟩,
              ⟨(some 63), (.bin .eql (.t 62) (.c (.i .i64 (23)))), none, []⟩,
              ⟨(some 60), (.mov (.t 63)), none, []⟩] [45, 61, 62, 63])
            (.cond (.t 60)
              (.seq (.region [⟨(some 64), (.load (some 3) (.t 5)), none, []⟩,
                ⟨(some 65), (.off (.t 1) 3), none, []⟩,
                ⟨(some 66), (.load none (.t 65)), none, []⟩,
                ⟨(some 67), (.build [(.i .i64 (0)), (.s []), (.b false)] [(1, 1, (.t 66))]), none, []⟩,
                ⟨(some 68), (.eqAg [1, 2, 0] false (.t 64) (.t 67)), none, []⟩,
                ⟨(some 69), (.mov (.t 68)), none, []⟩,
                ⟨(some 70), (.off (.t 1) 3), (some (69, true)), []⟩,
                ⟨(some 71), (.load none (.t 70)), (some (69, true)), []⟩,
                ⟨(some 72), (.call 83 [(.t 71)]), (some (69, true)), []⟩,
                ⟨(some 73), (.pick (.t 69) (.t 72) (.c (.b false))), none, []⟩,
                ⟨(some 2), (.mov (.c (.i .i64 (1)))), none, []⟩,
                ⟨(some 3), (.mov (.c (.i .i64 (1)))), none, []⟩,
                ⟨(some 4), (.mov (.t 73)), none, []⟩] [1, 5, 60, 64, 65, 66, 67, 68, 69, 70, 71, 72, 73])
              .ret)
              (.seq (.region [⟨(some 75), (.off (.t 1) 0), none, []⟩,
                ⟨(some 76), (.load none (.t 75)), none, []⟩,
                ⟨(some 77), (.bin .eql (.t 76) (.c (.i .i64 (40)))), none, []⟩,
                ⟨(some 74), (.mov (.t 77)), none, []⟩] [60, 75, 76, 77])
              (.cond (.t 74)
                (.seq (.region [⟨(some 78), (.load (some 3) (.t 5)), none, []⟩,
                  ⟨(some 79), (.off (.t 1) 1), none, []⟩,
                  ⟨(some 80), (.load none (.t 79)), none, []⟩,
                  ⟨(some 81), (.build [(.i .i64 (0)), (.s []), (.b false)] [(0, 1, (.t 80))]), none, []⟩,
                  ⟨(some 82), (.eqAg [1, 2, 0] false (.t 78) (.t 81)), none, []⟩,
                  ⟨(some 83), (.mov (.t 82)), none, []⟩,
                  ⟨(some 84), (.off (.t 1) 1), (some (83, true)), []⟩,
                  ⟨(some 85), (.load none (.t 84)), (some (83, true)), []⟩,
                  ⟨(some 86), (.bin .geq (.t 85) (.c (.i .i64 (0)))), (some (83, true)), []⟩,
                  ⟨(some 87), (.pick (.t 83) (.t 86) (.c (.b false))), none, []⟩,
                  ⟨(some 88), (.mov (.t 87)), none, []⟩,
                  ⟨(some 89), (.off (.t 1) 1), (some (88, true)), []⟩,
                  ⟨(some 90), (.load none (.t 89)), (some (88, true)), []⟩,
                  ⟨(some 91), (.bin .leq (.t 90) (.c (.i .i64 (6)))), (some (88, true)), []⟩,
                  ⟨(some 92), (.pick (.t 88) (.t 91) (.c (.b false))), none, []⟩,
                  ⟨(some 2), (.mov (.c (.i .i64 (1)))), none, []⟩,
                  ⟨(some 3), (.mov (.c (.i .i64 (1)))), none, []⟩,
                  ⟨(some 4), (.mov (.t 92)), none, []⟩] [1, 5, 74, 78, 79, 80, 81, 82, 83, 84, 85, 86, 87, 88, 89, 90, 91, 92])
                .ret)
                (.seq (.seq (.region [⟨(some 94), (.off (.t 1) 0), none, []⟩,
                  ⟨(some 95), (.load none (.t 94)), none, []⟩,
                  ⟨(some 96), (.bin .eql (.t 95) (.c (.i .i64 (48)))), none, []⟩,
                  ⟨(some 93), (.mov (.t 96)), none, []⟩] [74, 94, 95, 96])
                (.cond (.t 93)
                  .skip
                  (.region [⟨(some 97), (.off (.t 1) 0), none, []⟩,
                    ⟨(some 98), (.load none (.t 97)), none, []⟩,
                    ⟨(some 99), (.bin .eql (.t 98) (.c (.i .i64 (49)))), none, []⟩,
                    ⟨(some 93), (.mov (.t 99)), none, []⟩] [97, 98, 99])))
                (.cond (.t 93)
                  (.seq (.region [⟨(some 100), (.load (some 3) (.t 5)), none, []⟩,
                    ⟨(some 101), (.off (.t 1) 1), none, []⟩,
                    ⟨(some 102), (.load none (.t 101)), none, []⟩,
                    ⟨(some 103), (.build [(.i .i64 (0)), (.s []), (.b false)] [(0, 1, (.t 102))]), none, []⟩,
                    ⟨(some 104), (.eqAg [1, 2, 0] false (.t 100) (.t 103)), none, []⟩,
                    ⟨(some 2), (.mov (.c (.i .i64 (1)))), none, []⟩,
                    ⟨(some 3), (.mov (.c (.i .i64 (1)))), none, []⟩,
                    ⟨(some 4), (.mov (.t 104)), none, []⟩] [1, 5, 93, 100, 101, 102, 103, 104])
                  .ret)
                  (.seq (.seq (.region [⟨(some 106), (.off (.t 1) 0), none, []⟩,
                    ⟨(some 107), (.load none (.t 106)), none, []⟩,
                    ⟨(some 108), (.bin .geq (.t 107) (.c (.i .i64 (43)))), none, []⟩,
                    ⟨(some 109), (.mov (.t 108)), none, []⟩,
                    ⟨(some 110), (.off (.t 1) 0), (some (109, true)), []⟩,
                    ⟨(some 111), (.load none (.t 110)), (some (109, true)), []⟩,
                    ⟨(some 112), (.bin .leq (.t 111) (.c (.i .i64 (47)))), (some (109, true)), []⟩,
                    ⟨(some 113), (.pick (.t 109) (.t 112) (.c (.b false))), none, []⟩,
                    ⟨(some 105), (.mov (.t 113)), none, []⟩] [93, 106, 107, 108, 109, 110, 111, 112, 113])
                  (.cond (.t 105)
                    .skip
                    (.region [⟨(some 114), (.off (.t 1) 0), none, []⟩,
                      ⟨(some 115), (.load none (.t 114)), none, []⟩,
                      ⟨(some 116), (.bin .geq (.t 115) (.c (.i .i64 (9)))), none, []⟩,
                      ⟨(some 117), (.mov (.t 116)), none, []⟩,
                      ⟨(some 118), (.off (.t 1) 0), (some (117, true)), []⟩,
                      ⟨(some 119), (.load none (.t 118)), (some (117, true)), []⟩,
                      ⟨(some 120), (.bin .leq (.t 119) (.c (.i .i64 (19)))), (some (117, true)), []⟩,
                      ⟨(some 121), (.pick (.t 117) (.t 120) (.c (.b false))), none, []⟩,
                      ⟨(some 105), (.mov (.t 121)), none, []⟩] [114, 115, 116, 117, 118, 119, 120, 121])))
                  (.cond (.t 105)
                    (.seq (.region [⟨(some 122), (.load (some 3) (.t 5)), none, []⟩,
                      ⟨(some 123), (.load (some 3) (.g 0)), none, []⟩,
                      ⟨(some 124), (.eqAg [1, 2, 0] false (.t 122) (.t 123)), none, []⟩,
                      ⟨(some 2), (.mov (.c (.i .i64 (2)))), none, []⟩,
                      ⟨(some 3), (.mov (.c (.i .i64 (2)))), none, []⟩,
                      ⟨(some 4), (.mov (.t 124)), none, []⟩] [1, 5, 105, 122, 123, 124])
                    .ret)
                    (.seq (.seq (.region [⟨(some 126), (.off (.t 1) 0), none, []⟩,
                      ⟨(some 127), (.load none (.t 126)), none, []⟩,
                      ⟨(some 128), (.bin .eql (.t 127) (.c (.i .i64 (41)))), none, []⟩,
                      ⟨(some 125), (.mov (.t 128)), none, []⟩] [105, 126, 127, 128])
                    (.cond (.t 125)
                      (.region [] [1])
                      (.seq (.region [⟨(some 129), (.off (.t 1) 0), none, []⟩,
                        ⟨(some 130), (.load none (.t 129)), none, []⟩,
                        ⟨(some 131), (.bin .eql (.t 130) (.c (.i .i64 (42)))), none, []⟩,
                        ⟨(some 125), (.mov (.t 131)), none, []⟩] [129, 130, 131])
                      (.cond (.t 125)
                        (.region [] [1])
                        (.region [⟨(some 132), (.off (.t 1) 0), none, []⟩,
                          ⟨(some 133), (.load none (.t 132)), none, []⟩,
                          ⟨(some 134), (.bin .geq (.t 133) (.c (.i .i64 (6)))), none, []⟩,
                          ⟨(some 135), (.mov (.t 134)), none, []⟩,
                          ⟨(some 136), (.off (.t 1) 0), (some (135, true)), []⟩,
                          ⟨(some 137), (.load none (.t 136)), (some (135, true)), []⟩,
                          ⟨(some 138), (.bin .leq (.t 137) (.c (.i .i64 (8)))), (some (135, true)), []⟩,
                          ⟨(some 139), (.pick (.t 135) (.t 138) (.c (.b false))), none, []⟩,
                          ⟨(some 125), (.mov (.t 139)), none, []⟩] [1, 132, 133, 134, 135, 136, 137, 138, 139])))))
                    (.cond (.t 125)
                      (.seq (.region [⟨(some 140), (.load (some 3) (.t 5)), none, []⟩,
                        ⟨(some 141), (.load (some 3) (.g 0)), none, []⟩,
                        ⟨(some 142), (.eqAg [1, 2, 0] false (.t 140) (.t 141)), none, []⟩,
                        ⟨(some 2), (.mov (.c (.i .i64 (1)))), none, []⟩,
                        ⟨(some 3), (.mov (.c (.i .i64 (1)))), none, []⟩,
                        ⟨(some 4), (.mov (.t 142)), none, []⟩] [5, 125, 140, 141, 142])
                      .ret)
                      (.region [] [5, 125]))))))))))))))))))
    (.seq (.region [⟨(some 2), (.mov (.c (.i .i64 (0)))), none, []⟩,
      ⟨(some 3), (.mov (.c (.i .i64 (0)))), none, []⟩,
      ⟨(some 4), (.mov (.c (.b false))), none, []⟩] [])
    .ret)))),
    143, 1, [.t 2, .t 3, .t 4], 2⟩
theorem tr71 : trFunc Tryd.prog [([], [0, 2, 3, 4]), ([], [6, 7, 8, 9, 10, 11, 12, 13, 14]), ([], [16, 17, 18]), ([0, 1, 2, 3, 4, 5], [1, 5, 15, 19, 20, 21]), ([], [15, 23, 24, 25]), ([0, 1, 2, 3, 4, 5, 6, 7, 8, 9, 10, 11, 12, 13, 14, 15, 16, 17, 18, 19, 20, 21], [1, 5, 22, 26, 27, 28, 29, 30, 31, 32, 33, 34, 35, 36, 37, 38, 39, 40, 41, 42, 43, 44]), ([], [22, 46, 47, 48]), ([], [1, 5, 45, 49, 50, 51, 52, 53, 54, 55, 56, 57, 58, 59]), ([], [45, 61, 62, 63]), ([], [1, 5, 60, 64, 65, 66, 67, 68, 69, 70, 71, 72, 73]), ([], [60, 75, 76, 77]), ([0, 1, 2, 3, 4, 5, 6, 7, 8, 9, 10, 11, 12, 13, 14, 15, 16, 17], [1, 5, 74, 78, 79, 80, 81, 82, 83, 84, 85, 86, 87, 88, 89, 90, 91, 92]), ([], [74, 94, 95, 96]), ([], []), ([], [97, 98, 99]), ([0, 1, 2, 3, 4, 5, 6, 7], [1, 5, 93, 100, 101, 102, 103, 104]), ([], [93, 106, 107, 108, 109, 110, 111, 112, 113]), ([], []), ([], [114, 115, 116, 117, 118, 119, 120, 121]), ([0, 1, 2, 3, 4, 5], [1, 5, 105, 122, 123, 124]), ([], [105, 126, 127, 128]), ([], [1]), ([], [129, 130, 131]), ([], [1]), ([], [1, 132, 133, 134, 135, 136, 137, 138, 139]), ([0, 1, 2, 3, 4, 5], [5, 125, 140, 141, 142]), ([], [5, 125]), ([], [])] 1 Tryd.f71 = some (plain1 I71) := by kernel_rfl
theorem ck71 : ckC 2 I71.body = true := by kernel_rfl

/-- 'encore/lift.mayBe'. -/
def I72 : IFunc :=
  ⟨(.seq (.region [⟨(some 1), (.box (.t 0)), none, []⟩,
      ⟨(some 2), (.mov (.c (.b false))), none, []⟩] [0, 2])
    (.seq (.region [⟨(some 3), (.load (some 5) (.t 1)), none, []⟩,
      ⟨(some 4), (.call 22 [(.t 3)]), none, []⟩,
      ⟨(some 5), (.bin .eql (.t 4) (.c (.i .i64 (0)))), none, []⟩,
      ⟨(some 2), (.mov (.t 5)), none, []⟩] [1, 3, 4, 5])
    .ret)),
    6, 1, [.t 2], 2⟩
theorem tr72 : trFunc Tryd.prog [([], [0, 2]), ([], [1, 3, 4, 5])] 1 Tryd.f72 = some (plain1 I72) := by kernel_rfl
theorem ck72 : ckC 2 I72.body = true := by kernel_rfl

/-- 'encore/value.Same'. -/
def I73 : IFunc :=
  ⟨(.seq (.region [⟨(some 2), (.box (.t 0)), none, []⟩,
      ⟨(some 3), (.box (.t 1)), none, []⟩,
      ⟨(some 4), (.mov (.c (.b false))), none, []⟩] [0, 1, 4])
    (.seq (.region [⟨(some 5), (.off (.t 2) 0), none, []⟩,
      ⟨(some 6), (.load none (.t 5)), none, []⟩,
      ⟨(some 7), (.off (.t 3) 0), none, []⟩,
      ⟨(some 8), (.load none (.t 7)), none, []⟩,
      ⟨(some 9), (.bin .eql (.t 6) (.t 8)), none, []⟩,
      ⟨(some 10), (.mov (.t 9)), none, []⟩,
      ⟨(some 11), (.off (.t 2) 1), (some (10, true)), []⟩,
      ⟨(some 12), (.load none (.t 11)), (some (10, true)), []⟩,
      ⟨(some 13), (.off (.t 3) 1), (some (10, true)), []⟩,
      ⟨(some 14), (.load none (.t 13)), (some (10, true)), []⟩,
      ⟨(some 15), (.bin .eql (.t 12) (.t 14)), (some (10, true)), []⟩,
      ⟨(some 16), (.pick (.t 10) (.t 15) (.c (.b false))), none, []⟩,
      ⟨(some 17), (.mov (.t 16)), none, []⟩,
      ⟨(some 18), (.off (.t 2) 2), (some (17, true)), []⟩,
      ⟨(some 19), (.load none (.t 18)), (some (17, true)), []⟩,
      ⟨(some 20), (.off (.t 3) 2), (some (17, true)), []⟩,
      ⟨(some 21), (.load none (.t 20)), (some (17, true)), []⟩,
      ⟨(some 22), (.bin .eql (.t 19) (.t 21)), (some (17, true)), []⟩,
      ⟨(some 23), (.pick (.t 17) (.t 22) (.c (.b false))), none, []⟩,
      ⟨(some 24), (.mov (.t 23)), none, []⟩,
      ⟨(some 25), (.off (.t 2) 4), (some (24, true)), []⟩,
      ⟨(some 26), (.load none (.t 25)), (some (24, true)), []⟩,
      ⟨(some 27), (.off (.t 3) 4), (some (24, true)), []⟩,
      ⟨(some 28), (.load none (.t 27)), (some (24, true)), []⟩,
      ⟨(some 29), (.call 84 [(.t 26), (.t 28)]), (some (24, true)), []⟩,
      ⟨(some 30), (.pick (.t 24) (.t 29) (.c (.b false))), none, []⟩,
      ⟨(some 31), (.mov (.t 30)), none, []⟩,
      ⟨(some 32), (.off (.t 2) 3), (some (31, true)), []⟩,
      ⟨(some 33), (.load none (.t 32)), (some (31, true)), []⟩,
      ⟨(some 34), (.off (.t 3) 3), (some (31, true)), []⟩,
      ⟨(some 35), (.load none (.t 34)), (some (31, true)), []⟩,
      ⟨(some 36), (.call 85 [(.t 33), (.t 35), (.f 73)]), (some (31, true)), []⟩,
      ⟨(some 37), (.pick (.t 31) (.t 36) (.c (.b false))), none, []⟩,
      ⟨(some 4), (.mov (.t 37)), none, []⟩] [2, 3, 5, 6, 7, 8, 9, 10, 11, 12, 13, 14, 15, 16, 17, 18, 19, 20, 21, 22, 23, 24, 25, 26, 27, 28, 29, 30, 31, 32, 33, 34, 35, 36, 37])
    .ret)),
    38, 2, [.t 4], 2⟩
theorem tr73 : trFunc Tryd.prog [([], [0, 1, 4]), ([], [2, 3, 5, 6, 7, 8, 9, 10, 11, 12, 13, 14, 15, 16, 17, 18, 19, 20, 21, 22, 23, 24, 25, 26, 27, 28, 29, 30, 31, 32, 33, 34, 35, 36, 37])] 1 Tryd.f73 = some (plain1 I73) := by kernel_rfl
theorem ck73 : ckC 2 I73.body = true := by kernel_rfl

/-- 'encore/lift.fit$1'. -/
def I74 : IFunc :=
  ⟨(.seq (.region [⟨(some 3), (.box (.t 0)), none, []⟩,
      ⟨(some 4), (.mov (.c (.b false))), none, []⟩] [0, 4])
    (.seq (.region [⟨(some 5), (.load (some 7) (.t 3)), none, []⟩,
      ⟨(some 6), (.load none (.t 1)), none, []⟩,
      ⟨(some 7), (.load none (.t 2)), none, []⟩,
      ⟨(some 8), (.call 51 [(.t 5), (.t 6), (.t 7)]), none, []⟩,
      ⟨(some 9), (.un .not (.t 8)), none, []⟩,
      ⟨(some 4), (.mov (.t 9)), none, []⟩] [1, 2, 3, 5, 6, 7, 8, 9])
    .ret)),
    10, 3, [.t 4], 2⟩
theorem tr74 : trFunc Tryd.prog [([], [0, 4]), ([], [1, 2, 3, 5, 6, 7, 8, 9])] 1 Tryd.f74 = some (plain1 I74) := by kernel_rfl
theorem ck74 : ckC 2 I74.body = true := by kernel_rfl

/-- 'slices.IndexFunc[[]encore/lift.Operand,encore/lift.Operand]'. -/
def L75a : ICode :=
  (.seq (.region [⟨(some 9), (.bin .lss (.t 8) (.t 7)), none, []⟩] [])
    (.seq (.cond (.t 9)
      (.region [] [9])
      (.exit 0))
    (.seq (.block 1
      (.seq (.region [⟨(some 10), (.mov (.t 8)), none, []⟩,
        ⟨(some 5), (.mov (.t 10)), none, []⟩] [10])
      (.seq (.region [⟨(some 11), (.mov (.t 1)), none, []⟩,
        ⟨(some 12), (.mov (.t 0)), none, []⟩,
        ⟨(some 13), (.mov (.t 5)), none, []⟩,
        ⟨(some 14), (.iaddr 7 (.t 12) (.t 13)), none, []⟩,
        ⟨(some 15), (.load (some 7) (.t 14)), none, []⟩,
        ⟨(some 16), (.callv (.t 11) [(.t 15)]), none, []⟩] [11, 12, 13, 14, 15])
      (.cond (.t 16)
        (.seq (.region [⟨(some 17), (.mov (.t 5)), none, []⟩,
          ⟨(some 4), (.mov (.t 17)), none, []⟩] [0, 1, 7, 8, 5, 16, 17])
        .ret)
        (.region [] [5, 16])))))
    (.region [⟨(some 18), (.bin .add (.t 8) (.c (.i .i64 (1)))), none, []⟩,
      ⟨(some 8), (.mov (.t 18)), none, []⟩] [18]))))
def I75 : IFunc :=
  ⟨(.seq (.region [⟨(some 4), (.mov (.c (.i .i64 (0)))), none, []⟩] [4])
    (.seq (.seq (.region [⟨(some 6), (.mov (.t 0)), none, []⟩,
      ⟨(some 7), (.lenk 0 (.t 6)), none, []⟩,
      ⟨(some 8), (.mov (.c (.i .i64 (0)))), none, []⟩] [6])
    (.block 0
      (.loop L75a)))
    (.seq (.region [⟨(some 4), (.mov (.c (.i .i64 (-1)))), none, []⟩] [0, 1, 7, 8, 9])
    .ret))),
    19, 2, [.t 4], 2⟩
theorem tr75 : trFunc Tryd.prog [([], [4]), ([], [6]), ([], []), ([], [9]), ([], [10]), ([], [11, 12, 13, 14, 15]), ([], [0, 1, 7, 8, 5, 16, 17]), ([], [5, 16]), ([], [18]), ([], [0, 1, 7, 8, 9])] 1 Tryd.f75 = some (plain1 I75) := by kernel_rfl
theorem ck75 : ckC 2 I75.body = true := by kernel_rfl

/-- 'encore/guess.makes'. -/
def I76 : IFunc :=
  ⟨(.seq (.region [⟨(some 1), (.box (.t 0)), none, []⟩,
      ⟨(some 2), (.mov (.c (.i .i64 (0)))), none, []⟩] [0, 2])
    (.seq (.seq (.region [⟨(some 3), (.off (.t 1) 0), none, []⟩,
      ⟨(some 4), (.load none (.t 3)), none, []⟩] [3])
    (.block 0
      (.seq (.seq (.region [⟨(some 6), (.bin .eql (.t 4) (.c (.i .i64 (6)))), none, []⟩,
        ⟨(some 5), (.mov (.t 6)), none, []⟩] [6])
      (.cond (.t 5)
        .skip
        (.seq (.region [⟨(some 7), (.bin .eql (.t 4) (.c (.i .i64 (8)))), none, []⟩,
          ⟨(some 5), (.mov (.t 7)), none, []⟩] [7])
        (.cond (.t 5)
          .skip
          (.seq (.region [⟨(some 8), (.bin .eql (.t 4) (.c (.i .i64 (10)))), none, []⟩,
            ⟨(some 5), (.mov (.t 8)), none, []⟩] [8])
          (.cond (.t 5)
            .skip
            (.seq (.region [⟨(some 9), (.bin .eql (.t 4) (.c (.i .i64 (11)))), none, []⟩,
              ⟨(some 5), (.mov (.t 9)), none, []⟩] [9])
            (.cond (.t 5)
              .skip
              (.seq (.region [⟨(some 10), (.bin .eql (.t 4) (.c (.i .i64 (12)))), none, []⟩,
                ⟨(some 5), (.mov (.t 10)), none, []⟩] [10])
              (.cond (.t 5)
                .skip
                (.seq (.region [⟨(some 11), (.bin .eql (.t 4) (.c (.i .i64 (13)))), none, []⟩,
                  ⟨(some 5), (.mov (.t 11)), none, []⟩] [11])
                (.cond (.t 5)
                  .skip
                  (.seq (.region [⟨(some 12), (.bin .eql (.t 4) (.c (.i .i64 (41)))), none, []⟩,
                    ⟨(some 5), (.mov (.t 12)), none, []⟩] [12])
                  (.cond (.t 5)
                    .skip
                    (.seq (.region [⟨(some 13), (.bin .eql (.t 4) (.c (.i .i64 (43)))), none, []⟩,
                      ⟨(some 5), (.mov (.t 13)), none, []⟩] [13])
                    (.cond (.t 5)
                      .skip
                      (.seq (.region [⟨(some 14), (.bin .eql (.t 4) (.c (.i .i64 (44)))), none, []⟩,
                        ⟨(some 5), (.mov (.t 14)), none, []⟩] [14])
                      (.cond (.t 5)
                        .skip
                        (.seq (.region [⟨(some 15), (.bin .eql (.t 4) (.c (.i .i64 (45)))), none, []⟩,
                          ⟨(some 5), (.mov (.t 15)), none, []⟩] [15])
                        (.cond (.t 5)
                          .skip
                          (.region [⟨(some 16), (.bin .eql (.t 4) (.c (.i .i64 (48)))), none, []⟩,
                            ⟨(some 5), (.mov (.t 16)), none, []⟩] [16])))))))))))))))))))))
      (.cond (.t 5)
        (.seq (.region [⟨(some 2), (.mov (.c (.i .i64 (1)))), none, []⟩] [1, 4, 5])
        .ret)
        (.seq (.seq (.region [⟨(some 18), (.bin .eql (.t 4) (.c (.i .i64 (7)))), none, []⟩,
          ⟨(some 17), (.mov (.t 18)), none, []⟩] [5, 18])
        (.cond (.t 17)
          .skip
          (.seq (.region [⟨(some 19), (.bin .eql (.t 4) (.c (.i .i64 (14)))), none, []⟩,
            ⟨(some 17), (.mov (.t 19)), none, []⟩] [19])
          (.cond (.t 17)
            .skip
            (.seq (.region [⟨(some 20), (.bin .eql (.t 4) (.c (.i .i64 (15)))), none, []⟩,
              ⟨(some 17), (.mov (.t 20)), none, []⟩] [20])
            (.cond (.t 17)
              .skip
              (.seq (.region [⟨(some 21), (.bin .eql (.t 4) (.c (.i .i64 (16)))), none, []⟩,
                ⟨(some 17), (.mov (.t 21)), none, []⟩] [21])
              (.cond (.t 17)
                .skip
                (.seq (.region [⟨(some 22), (.bin .eql (.t 4) (.c (.i .i64 (17)))), none, []⟩,
                  ⟨(some 17), (.mov (.t 22)), none, []⟩] [22])
                (.cond (.t 17)
                  .skip
                  (.seq (.region [⟨(some 23), (.bin .eql (.t 4) (.c (.i .i64 (42)))), none, []⟩,
                    ⟨(some 17), (.mov (.t 23)), none, []⟩] [23])
                  (.cond (.t 17)
                    .skip
                    (.seq (.region [⟨(some 24), (.bin .eql (.t 4) (.c (.i .i64 (46)))), none, []⟩,
                      ⟨(some 17), (.mov (.t 24)), none, []⟩] [24])
                    (.cond (.t 17)
                      .skip
                      (.seq (.region [⟨(some 25), (.bin .eql (.t 4) (.c (.i .i64 (47)))), none, []⟩,
                        ⟨(some 17), (.mov (.t 25)), none, []⟩] [25])
                      (.cond (.t 17)
                        .skip
                        (.region [⟨(some 26), (.bin .eql (.t 4) (.c (.i .i64 (49)))), none, []⟩,
                          ⟨(some 17), (.mov (.t 26)), none, []⟩] [26])))))))))))))))))
        (.cond (.t 17)
          (.seq (.region [⟨(some 2), (.mov (.c (.i .i64 (2)))), none, []⟩] [1, 4, 17])
          .ret)
          (.seq (.seq (.region [⟨(some 28), (.bin .eql (.t 4) (.c (.i .i64 (20)))), none, []⟩,
            ⟨(some 27), (.mov (.t 28)), none, []⟩] [17, 28])
          (.cond (.t 27)
            .skip
            (.region [⟨(some 29), (.bin .eql (.t 4) (.c (.i .i64 (18)))), none, []⟩,
              ⟨(some 27), (.mov (.t 29)), none, []⟩] [29])))
          (.cond (.t 27)
            (.seq (.region [⟨(some 2), (.mov (.c (.i .i64 (4)))), none, []⟩] [1, 4, 27])
            .ret)
            (.seq (.region [⟨(some 31), (.bin .eql (.t 4) (.c (.i .i64 (21)))), none, []⟩,
              ⟨(some 30), (.mov (.t 31)), none, []⟩] [27, 31])
            (.cond (.t 30)
              (.seq (.region [⟨(some 2), (.mov (.c (.i .i64 (5)))), none, []⟩] [1, 4, 30])
              .ret)
              (.seq (.region [⟨(some 33), (.bin .eql (.t 4) (.c (.i .i64 (40)))), none, []⟩,
                ⟨(some 32), (.mov (.t 33)), none, []⟩] [4, 30, 33])
              (.cond (.t 32)
                (.seq (.region [⟨(some 34), (.off (.t 1) 1), none, []⟩,
                  ⟨(some 35), (.load none (.t 34)), none, []⟩,
                  ⟨(some 2), (.mov (.t 35)), none, []⟩] [1, 32, 34, 35])
                .ret)
                (.region [] [1, 32])))))))))))))
    (.seq (.region [⟨(some 2), (.mov (.c (.i .i64 (-1)))), none, []⟩] [])
    .ret))),
    36, 1, [.t 2], 2⟩
theorem tr76 : trFunc Tryd.prog [([], [0, 2]), ([], [3]), ([], [6]), ([], []), ([], [7]), ([], []), ([], [8]), ([], []), ([], [9]), ([], []), ([], [10]), ([], []), ([], [11]), ([], []), ([], [12]), ([], []), ([], [13]), ([], []), ([], [14]), ([], []), ([], [15]), ([], []), ([], [16]), ([], [1, 4, 5]), ([], [5, 18]), ([], []), ([], [19]), ([], []), ([], [20]), ([], []), ([], [21]), ([], []), ([], [22]), ([], []), ([], [23]), ([], []), ([], [24]), ([], []), ([], [25]), ([], []), ([], [26]), ([], [1, 4, 17]), ([], [17, 28]), ([], []), ([], [29]), ([], [1, 4, 27]), ([], [27, 31]), ([], [1, 4, 30]), ([], [4, 30, 33]), ([], [1, 32, 34, 35]), ([], [1, 32]), ([], [])] 1 Tryd.f76 = some (plain1 I76) := by kernel_rfl
theorem ck76 : ckC 2 I76.body = true := by kernel_rfl

/-- 'slices.Clone[[]encore/api.Value,encore/api.Value]'. -/
def I77 : IFunc := ⟨cloneCode 5 80, 8, 1, [.t 2], 4⟩
theorem tr77 : trFunc Tryd.prog [([], []), ([], []), ([], []), ([], []), ([], [])] 1 Tryd.f77 = some (plain1 I77) := by kernel_rfl
theorem ck77 : ckC 2 (cloneCode 5 80) = true := by kernel_rfl

/-- '(encore/value.plain).bare'. -/
def I78 : IFunc :=
  ⟨(.seq (.region [⟨(some 2), (.box (.t 0)), none, []⟩,
      ⟨(some 3), (.box (.t 1)), none, []⟩,
      ⟨(some 4), (.mov (.c (.b false))), none, []⟩] [0, 1, 4])
    (.seq (.region [⟨(some 5), (.off (.t 2) 0), none, []⟩,
      ⟨(some 6), (.load none (.t 5)), none, []⟩,
      ⟨(some 7), (.mov (.t 6)), none, []⟩,
      ⟨(some 8), (.off (.t 3) 2), (some (7, false)), []⟩,
      ⟨(some 9), (.load none (.t 8)), (some (7, false)), []⟩,
      ⟨(some 10), (.bin .eql (.t 9) (.c (.s []))), (some (7, false)), []⟩,
      ⟨(some 11), (.pick (.t 7) (.c (.b true)) (.t 10)), none, []⟩,
      ⟨(some 12), (.mov (.t 11)), none, []⟩,
      ⟨(some 13), (.off (.t 2) 1), (some (12, true)), []⟩,
      ⟨(some 14), (.load none (.t 13)), (some (12, true)), []⟩,
      ⟨(some 15), (.mov (.t 14)), (some (12, true)), []⟩,
      ⟨(some 16), (.off (.t 3) 3), (some (15, false)), []⟩,
      ⟨(some 17), (.load none (.t 16)), (some (15, false)), []⟩,
      ⟨(some 18), (.lenk 0 (.t 17)), (some (15, false)), []⟩,
      ⟨(some 19), (.bin .eql (.t 18) (.c (.i .i64 (0)))), (some (15, false)), []⟩,
      ⟨(some 20), (.pick (.t 15) (.c (.b true)) (.t 19)), (some (12, true)), []⟩,
      ⟨(some 21), (.pick (.t 12) (.t 20) (.c (.b false))), none, []⟩,
      ⟨(some 22), (.mov (.t 21)), none, []⟩,
      ⟨(some 23), (.off (.t 2) 2), (some (22, true)), []⟩,
      ⟨(some 24), (.load none (.t 23)), (some (22, true)), []⟩,
      ⟨(some 25), (.mov (.t 24)), (some (22, true)), []⟩,
      ⟨(some 26), (.off (.t 3) 4), (some (25, false)), []⟩,
      ⟨(some 27), (.load none (.t 26)), (some (25, false)), []⟩,
      ⟨(some 28), (.lenk 0 (.t 27)), (some (25, false)), []⟩,
      ⟨(some 29), (.bin .eql (.t 28) (.c (.i .i64 (0)))), (some (25, false)), []⟩,
      ⟨(some 30), (.pick (.t 25) (.c (.b true)) (.t 29)), (some (22, true)), []⟩,
      ⟨(some 31), (.pick (.t 22) (.t 30) (.c (.b false))), none, []⟩,
      ⟨(some 4), (.mov (.t 31)), none, []⟩] [2, 3, 5, 6, 7, 8, 9, 10, 11, 12, 13, 14, 15, 16, 17, 18, 19, 20, 21, 22, 23, 24, 25, 26, 27, 28, 29, 30, 31])
    .ret)),
    32, 2, [.t 4], 2⟩
theorem tr78 : trFunc Tryd.prog [([], [0, 1, 4]), ([], [2, 3, 5, 6, 7, 8, 9, 10, 11, 12, 13, 14, 15, 16, 17, 18, 19, 20, 21, 22, 23, 24, 25, 26, 27, 28, 29, 30, 31])] 1 Tryd.f78 = some (plain1 I78) := by kernel_rfl
theorem ck78 : ckC 2 I78.body = true := by kernel_rfl

/-- 'encore/value.rising'. -/
def L79a : ICode :=
  (.seq (.region [⟨(some 9), (.bin .lss (.t 8) (.t 7)), none, []⟩] [])
    (.seq (.cond (.t 9)
      (.region [] [9])
      (.exit 0))
    (.seq (.block 1
      (.seq (.region [⟨(some 10), (.iaddr 1 (.t 6) (.t 8)), none, []⟩,
        ⟨(some 11), (.load none (.t 10)), none, []⟩,
        ⟨(some 5), (.mov (.t 11)), none, []⟩] [10, 11])
      (.seq (.seq (.region [⟨(some 12), (.mov (.t 5)), none, []⟩,
        ⟨(some 13), (.mov (.t 3)), none, []⟩,
        ⟨(some 14), (.bin .leq (.t 12) (.t 13)), none, []⟩,
        ⟨(some 15), (.mov (.t 14)), none, []⟩,
        ⟨(some 16), (.mov (.t 5)), (some (15, false)), []⟩,
        ⟨(some 17), (.call 86 [(.t 16)]), (some (15, false)), []⟩,
        ⟨(some 18), (.un .not (.t 17)), (some (15, false)), []⟩,
        ⟨(some 19), (.pick (.t 15) (.c (.b true)) (.t 18)), none, []⟩] [3, 12, 13, 14, 15, 16, 17, 18])
      (.cond (.t 19)
        (.seq (.region [⟨(some 2), (.mov (.c (.b false))), none, []⟩] [6, 7, 8, 5, 19])
        .ret)
        (.region [] [19])))
      (.region [⟨(some 20), (.mov (.t 5)), none, []⟩,
        ⟨(some 3), (.mov (.t 20)), none, []⟩] [5, 20]))))
    (.region [⟨(some 21), (.bin .add (.t 8) (.c (.i .i64 (1)))), none, []⟩,
      ⟨(some 8), (.mov (.t 21)), none, []⟩] [21]))))
def I79 : IFunc :=
  ⟨(.seq (.region [⟨(some 2), (.mov (.c (.b false))), none, []⟩] [2])
    (.seq (.region [⟨(some 3), (.mov (.c (.s []))), none, []⟩] [])
    (.seq (.seq (.region [⟨(some 6), (.mov (.t 0)), none, []⟩,
      ⟨(some 7), (.lenk 0 (.t 6)), none, []⟩,
      ⟨(some 8), (.mov (.c (.i .i64 (0)))), none, []⟩] [0])
    (.block 0
      (.loop L79a)))
    (.seq (.region [⟨(some 2), (.mov (.c (.b true))), none, []⟩] [3, 6, 7, 8, 9])
    .ret)))),
    22, 1, [.t 2], 2⟩
theorem tr79 : trFunc Tryd.prog [([], [2]), ([], []), ([], [0]), ([], []), ([], [9]), ([], [10, 11]), ([], [3, 12, 13, 14, 15, 16, 17, 18]), ([], [6, 7, 8, 5, 19]), ([], [19]), ([], [5, 20]), ([], [21]), ([], [3, 6, 7, 8, 9])] 1 Tryd.f79 = some (plain1 I79) := by kernel_rfl
theorem ck79 : ckC 2 I79.body = true := by kernel_rfl


end Go.Proofs.YtdephbcmmhabgaaDoor


