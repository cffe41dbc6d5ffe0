import Derived.Test.YteoliiakbmomeabGreatRows
import Derived.Test.YteoliiakbmomeabGreatM05
import Derived.Test.YteoliiakbmomeabGreatM06
set_option linter.unusedVariables false
set_option linter.unusedSimpArgs false
set_option linter.unusedSectionVars false
/- The functions that the statement reaches, as the interpreter has them, with modes. Conditions: none. -/
namespace Go.Proofs.YteoliiakbmomeabGreat
open Go Go.RI
set_option maxRecDepth 100000
/-- '(*encore/base.Machine).ask'. -/
def I67 : IFunc :=
  ⟨(.seq (.region [⟨(some 3), (.box (.t 1)), none, []⟩] [])
    (.seq (.region [⟨(some 7), (.off (.t 3) 1), none, []⟩,
      ⟨(some 8), (.load none (.t 7)), none, []⟩,
      ⟨(some 9), (.build [(.i .i64 (0)), (.s []), (.i .i64 (0)), (.i .i64 (0)), (.s []), .ns, .ns, .ns] [(0, 1, (.t 8))]), none, []⟩,
      ⟨(some 4), (.alloc [(.i .i64 (0)), (.s []), (.i .i64 (0)), (.i .i64 (0)), (.s []), .ns, .ns, .ns]), none, []⟩,
      ⟨none, (.store 8 (.t 4) (.t 9)), none, []⟩] [])
    (.seq (.region [⟨(some 5), (.mov (.c (.b true))), none, []⟩] [])
    (.seq (.seq (.region [⟨(some 10), (.off (.t 3) 1), none, []⟩,
      ⟨(some 11), (.load none (.t 10)), none, []⟩] [])
    (.block 0
      (.seq (.seq (.region [⟨(some 13), (.bin .eql (.t 11) (.c (.i .i64 (1)))), none, []⟩,
        ⟨(some 12), (.mov (.t 13)), none, []⟩] [])
      (.cond (.t 12)
        .skip
        (.region [⟨(some 14), (.bin .eql (.t 11) (.c (.i .i64 (4)))), none, []⟩,
          ⟨(some 12), (.mov (.t 14)), none, []⟩] [])))
      (.cond (.t 12)
        (.region [⟨(some 15), (.mov (.t 0)), none, []⟩,
          ⟨(some 16), (.nck (.t 15)), none, []⟩,
          ⟨(some 17), (.off (.t 16) 2), none, []⟩,
          ⟨(some 18), (.off (.t 17) 1), none, []⟩,
          ⟨(some 19), (.load none (.t 18)), none, []⟩,
          ⟨(some 20), (.off (.t 3) 2), none, []⟩,
          ⟨(some 21), (.load none (.t 20)), none, []⟩,
          ⟨(some 22), (.iaddr 5 (.t 19) (.t 21)), none, []⟩,
          ⟨(some 23), (.off (.t 22) 2), none, []⟩,
          ⟨(some 24), (.load none (.t 23)), none, []⟩,
          ⟨(some 25), (.mov (.t 0)), none, []⟩,
          ⟨(some 26), (.nck (.t 25)), none, []⟩,
          ⟨(some 27), (.off (.t 26) 0), none, []⟩,
          ⟨(some 28), (.load none (.t 27)), none, []⟩,
          ⟨(some 30), (.off (.t 4) 1), none, []⟩,
          ⟨(some 29), (.call 82 [(.t 28)]), none, [(19, (.load none (.t 18)), none), (21, (.load none (.t 20)), none), (24, (.load none (.t 23)), none)]⟩,
          ⟨none, (.store 1 (.t 30) (.t 24)), none, []⟩,
          ⟨(some 31), (.off (.t 4) 2), none, []⟩,
          ⟨none, (.store 5 (.t 31) (.t 29)), none, []⟩] [])
        (.seq (.region [⟨(some 33), (.bin .eql (.t 11) (.c (.i .i64 (2)))), none, []⟩,
          ⟨(some 32), (.mov (.t 33)), none, []⟩] [])
        (.cond (.t 32)
          (.seq (.region [⟨(some 34), (.mov (.t 0)), none, []⟩,
            ⟨(some 35), (.nck (.t 34)), none, []⟩,
            ⟨(some 36), (.off (.t 35) 0), none, []⟩,
            ⟨(some 37), (.load none (.t 36)), none, []⟩,
            ⟨(some 38), (.call 82 [(.t 37)]), none, []⟩,
            ⟨(some 39), (.off (.t 4) 2), none, []⟩,
            ⟨none, (.store 5 (.t 39) (.t 38)), none, []⟩] [])
          (.region [⟨(some 40), (.off (.t 4) 2), none, []⟩,
            ⟨(some 41), (.off (.t 40) 0), none, []⟩,
            ⟨(some 42), (.load none (.t 41)), none, []⟩,
            ⟨(some 43), (.bin .eql (.t 42) (.c (.i .i64 (1)))), none, []⟩,
            ⟨(some 5), (.mov (.t 43)), none, []⟩] []))
          (.seq (.region [⟨(some 45), (.bin .eql (.t 11) (.c (.i .i64 (3)))), none, []⟩,
            ⟨(some 44), (.mov (.t 45)), none, []⟩] [])
          (.cond (.t 44)
            (.region [⟨(some 46), (.mov (.t 0)), none, []⟩,
              ⟨(some 47), (.nck (.t 46)), none, []⟩,
              ⟨(some 48), (.off (.t 47) 2), none, []⟩,
              ⟨(some 49), (.off (.t 48) 1), none, []⟩,
              ⟨(some 50), (.load none (.t 49)), none, []⟩,
              ⟨(some 51), (.off (.t 3) 2), none, []⟩,
              ⟨(some 52), (.load none (.t 51)), none, []⟩,
              ⟨(some 53), (.iaddr 5 (.t 50) (.t 52)), none, []⟩,
              ⟨(some 54), (.off (.t 53) 2), none, []⟩,
              ⟨(some 55), (.load none (.t 54)), none, []⟩,
              ⟨(some 56), (.off (.t 4) 1), none, []⟩,
              ⟨none, (.store 1 (.t 56) (.t 55)), none, []⟩] [])
            (.seq (.region [⟨(some 58), (.bin .eql (.t 11) (.c (.i .i64 (7)))), none, []⟩,
              ⟨(some 57), (.mov (.t 58)), none, []⟩] [])
            (.cond (.t 57)
              (.region [⟨(some 60), (.mov (.t 0)), none, []⟩,
                ⟨(some 61), (.nck (.t 60)), none, []⟩,
                ⟨(some 62), (.off (.t 61) 0), none, []⟩,
                ⟨(some 63), (.load none (.t 62)), none, []⟩,
                ⟨(some 64), (.call 82 [(.t 63)]), none, []⟩,
                ⟨(some 65), (.bsl 5 1 [(.i .i64 (0)), (.i .i64 (0)), (.s []), .ns, .ns] [(0, 5, (.t 64))]), none, []⟩,
                ⟨(some 66), (.call 91 [(.t 65)]), none, []⟩,
                ⟨(some 59), (.mov (.t 66)), none, []⟩,
                ⟨(some 67), (.ext (.t 59) 0), none, []⟩,
                ⟨(some 68), (.ext (.t 59) 1), none, []⟩,
                ⟨(some 69), (.off (.t 4) 7), none, []⟩,
                ⟨none, (.store 1 (.t 69) (.t 67)), none, []⟩,
                ⟨(some 5), (.mov (.t 68)), none, []⟩] [])
              (.seq (.region [⟨(some 71), (.bin .eql (.t 11) (.c (.i .i64 (8)))), none, []⟩,
                ⟨(some 70), (.mov (.t 71)), none, []⟩] [])
              (.cond (.t 70)
                (.seq (.region [⟨(some 72), (.mov (.t 0)), none, []⟩,
                  ⟨(some 73), (.nck (.t 72)), none, []⟩,
                  ⟨(some 74), (.off (.t 73) 0), none, []⟩,
                  ⟨(some 75), (.load none (.t 74)), none, []⟩,
                  ⟨(some 76), (.call 82 [(.t 75)]), none, []⟩,
                  ⟨(some 6), (.alloc [(.i .i64 (0)), (.i .i64 (0)), (.s []), .ns, .ns]), none, []⟩,
                  ⟨none, (.store 5 (.t 6) (.t 76)), none, []⟩] [])
                (.seq (.region [⟨(some 78), (.off (.t 6) 3), none, []⟩,
                  ⟨(some 79), (.load none (.t 78)), none, []⟩,
                  ⟨(some 80), (.call 91 [(.t 79)]), none, []⟩,
                  ⟨(some 77), (.mov (.t 80)), none, []⟩,
                  ⟨(some 81), (.ext (.t 77) 0), none, []⟩,
                  ⟨(some 82), (.ext (.t 77) 1), none, []⟩,
                  ⟨(some 83), (.off (.t 4) 7), none, []⟩,
                  ⟨none, (.store 1 (.t 83) (.t 81)), none, []⟩,
                  ⟨(some 5), (.mov (.t 82)), none, []⟩] [])
                (.region [⟨(some 84), (.mov (.t 5)), none, []⟩,
                  ⟨(some 85), (.mov (.t 84)), none, []⟩,
                  ⟨(some 86), (.off (.t 6) 0), (some (85, true)), []⟩,
                  ⟨(some 87), (.load none (.t 86)), (some (85, true)), []⟩,
                  ⟨(some 88), (.bin .eql (.t 87) (.c (.i .i64 (4)))), (some (85, true)), []⟩,
                  ⟨(some 89), (.pick (.t 85) (.t 88) (.c (.b false))), none, []⟩,
                  ⟨(some 90), (.mov (.t 89)), none, []⟩,
                  ⟨(some 91), (.off (.t 6) 3), (some (90, true)), []⟩,
                  ⟨(some 92), (.load none (.t 91)), (some (90, true)), []⟩,
                  ⟨(some 93), (.lenk 0 (.t 92)), (some (90, true)), []⟩,
                  ⟨(some 94), (.bin .leq (.t 93) (.c (.i .i64 (8)))), (some (90, true)), []⟩,
                  ⟨(some 95), (.pick (.t 90) (.t 94) (.c (.b false))), none, []⟩,
                  ⟨(some 5), (.mov (.t 95)), none, []⟩] [])))
                .skip))))))))))))
    (.seq (.seq (.region [⟨(some 96), (.mov (.t 5)), none, []⟩,
      ⟨(some 97), (.un .not (.t 96)), none, []⟩] [])
    (.cond (.t 97)
      (.seq (.region [⟨(some 98), (.mov (.t 0)), none, []⟩,
        ⟨(some 99), (.call 69 [(.t 98), (.c (.i .i64 (2)))]), none, []⟩] [])
      .ret)
      .skip))
    (.region [⟨(some 100), (.mov (.t 0)), none, []⟩,
      ⟨(some 101), (.mov (.t 0)), none, []⟩,
      ⟨(some 102), (.load (some 8) (.t 4)), none, []⟩,
      ⟨(some 103), (.nck (.t 100)), none, []⟩,
      ⟨(some 104), (.off (.t 103) 5), none, []⟩,
      ⟨none, (.store 1 (.t 104) (.c (.i .i64 (1)))), none, [(102, (.load (some 8) (.t 4)), none)]⟩,
      ⟨(some 105), (.nck (.t 101)), none, []⟩,
      ⟨(some 106), (.off (.t 105) 7), none, []⟩,
      ⟨none, (.store 8 (.t 106) (.t 102)), none, []⟩] [])))))),
    107, 2, [], 0⟩
theorem tr67 : trFunc Tryz.prog [([], []), ([], []), ([], []), ([], []), ([], []), ([], []), ([], []), ([0, 1, 2, 3, 4, 5, 6, 7, 8, 9, 10, 11, 12, 13, 15, 14, 16, 17, 18], []), ([], []), ([], []), ([], []), ([], []), ([0, 1, 2, 3, 4, 5, 6, 7, 8, 9, 10, 11], []), ([], []), ([], []), ([], []), ([], []), ([], []), ([], []), ([], []), ([], []), ([], []), ([], []), ([0, 1, 2, 3, 4, 5, 6, 7, 8], [])] 0 Tryz.f67 = some (plain1 I67) := by kernel_rfl
theorem ck67 : ckC 1 I67.body = true := by kernel_rfl

/-- 'encore/value.fits'. -/
def L68a : ICode :=
  (.seq (.region [⟨(some 22), (.bin .lss (.t 21) (.t 20)), none, []⟩] [])
    (.seq (.cond (.t 22)
      .skip
      (.exit 0))
    (.seq (.block 1
      (.seq (.region [⟨(some 23), (.iaddr 1 (.t 19) (.t 21)), none, []⟩,
        ⟨(some 24), (.load none (.t 23)), none, []⟩,
        ⟨(some 9), (.mov (.t 24)), none, []⟩] [])
      (.region [⟨(some 25), (.mov (.t 2)), none, []⟩,
        ⟨(some 26), (.mov (.t 9)), none, []⟩,
        ⟨(some 27), (.lenk 1 (.t 26)), none, []⟩,
        ⟨(some 28), (.bin .sub (.t 25) (.t 27)), none, []⟩,
        ⟨(some 2), (.mov (.t 28)), none, []⟩] [])))
    (.region [⟨(some 29), (.bin .add (.t 21) (.c (.i .i64 (1)))), none, []⟩,
      ⟨(some 21), (.mov (.t 29)), none, []⟩] []))))
def L68b : ICode :=
  (.seq (.region [⟨(some 45), (.bin .lss (.t 44) (.t 43)), none, []⟩] [])
    (.seq (.cond (.t 45)
      .skip
      (.exit 2))
    (.seq (.block 3
      (.seq (.region [⟨(some 46), (.mov (.t 44)), none, []⟩,
        ⟨(some 11), (.mov (.t 46)), none, []⟩] [])
      (.seq (.region [⟨(some 48), (.off (.t 3) 3), none, []⟩,
        ⟨(some 49), (.load none (.t 48)), none, []⟩,
        ⟨(some 50), (.mov (.t 11)), none, []⟩,
        ⟨(some 51), (.iaddr 5 (.t 49) (.t 50)), none, []⟩,
        ⟨(some 52), (.load (some 5) (.t 51)), none, []⟩,
        ⟨(some 53), (.mov (.t 1)), none, []⟩,
        ⟨(some 54), (.bin .add (.t 53) (.c (.i .i64 (1)))), none, []⟩,
        ⟨(some 55), (.mov (.t 2)), none, []⟩,
        ⟨(some 56), (.call 68 [(.t 52), (.t 54), (.t 55)]), none, []⟩,
        ⟨(some 47), (.mov (.t 56)), none, []⟩,
        ⟨(some 57), (.ext (.t 47) 0), none, []⟩,
        ⟨(some 58), (.ext (.t 47) 1), none, []⟩,
        ⟨(some 2), (.mov (.t 57)), none, []⟩,
        ⟨(some 10), (.mov (.t 58)), none, []⟩] [])
      (.seq (.region [⟨(some 59), (.mov (.t 10)), none, []⟩,
        ⟨(some 60), (.un .not (.t 59)), none, []⟩] [])
      (.cond (.t 60)
        (.seq (.region [⟨(some 6), (.mov (.c (.i .i64 (0)))), none, []⟩,
          ⟨(some 7), (.mov (.c (.b false))), none, []⟩] [])
        .ret)
        .skip)))))
    (.region [⟨(some 61), (.bin .add (.t 44) (.c (.i .i64 (1)))), none, []⟩,
      ⟨(some 44), (.mov (.t 61)), none, []⟩] []))))
def I68 : IFunc :=
  ⟨(.seq (.region [⟨(some 3), (.box (.t 0)), none, []⟩,
      ⟨(some 6), (.mov (.c (.i .i64 (0)))), none, []⟩,
      ⟨(some 7), (.mov (.c (.b false))), none, []⟩] [])
    (.seq (.region [⟨(some 12), (.mov (.t 2)), none, []⟩,
      ⟨(some 13), (.off (.t 3) 2), none, []⟩,
      ⟨(some 14), (.load none (.t 13)), none, []⟩,
      ⟨(some 15), (.lenk 1 (.t 14)), none, []⟩,
      ⟨(some 16), (.bin .add (.c (.i .i64 (1))) (.t 15)), none, []⟩,
      ⟨(some 17), (.bin .sub (.t 12) (.t 16)), none, []⟩,
      ⟨(some 2), (.mov (.t 17)), none, []⟩] [])
    (.seq (.seq (.region [⟨(some 18), (.off (.t 3) 4), none, []⟩,
      ⟨(some 19), (.load none (.t 18)), none, []⟩,
      ⟨(some 20), (.lenk 0 (.t 19)), none, []⟩,
      ⟨(some 21), (.mov (.c (.i .i64 (0)))), none, []⟩] [])
    (.block 0
      (.loop L68a)))
    (.seq (.seq (.region [⟨(some 30), (.mov (.t 1)), none, []⟩,
      ⟨(some 31), (.bin .geq (.t 30) (.c (.i .i64 (8)))), none, []⟩,
      ⟨(some 32), (.mov (.t 31)), none, []⟩,
      ⟨(some 33), (.mov (.t 2)), (some (32, false)), []⟩,
      ⟨(some 34), (.bin .lss (.t 33) (.c (.i .i64 (0)))), (some (32, false)), []⟩,
      ⟨(some 35), (.pick (.t 32) (.c (.b true)) (.t 34)), none, []⟩,
      ⟨(some 36), (.mov (.t 35)), none, []⟩,
      ⟨(some 37), (.load (some 5) (.t 3)), (some (36, false)), []⟩,
      ⟨(some 38), (.call 92 [(.t 37)]), (some (36, false)), []⟩,
      ⟨(some 39), (.un .not (.t 38)), (some (36, false)), []⟩,
      ⟨(some 40), (.pick (.t 36) (.c (.b true)) (.t 39)), none, []⟩] [])
    (.cond (.t 40)
      (.seq (.region [⟨(some 6), (.mov (.c (.i .i64 (0)))), none, []⟩,
        ⟨(some 7), (.mov (.c (.b false))), none, []⟩] [])
      .ret)
      .skip))
    (.seq (.region [⟨(some 10), (.mov (.c (.b true))), none, []⟩] [])
    (.seq (.seq (.region [⟨(some 41), (.off (.t 3) 3), none, []⟩,
      ⟨(some 42), (.load none (.t 41)), none, []⟩,
      ⟨(some 43), (.lenk 0 (.t 42)), none, []⟩,
      ⟨(some 44), (.mov (.c (.i .i64 (0)))), none, []⟩] [])
    (.block 2
      (.loop L68b)))
    (.seq (.region [⟨(some 62), (.mov (.t 2)), none, []⟩,
      ⟨(some 6), (.mov (.t 62)), none, []⟩,
      ⟨(some 7), (.mov (.c (.b true))), none, []⟩] [])
    .ret))))))),
    63, 3, [.t 6, .t 7], 0⟩
theorem tr68 : trFunc Tryz.prog [([], []), ([], []), ([], []), ([], []), ([], []), ([], []), ([], []), ([], []), ([], []), ([], []), ([], []), ([], []), ([], []), ([], []), ([], []), ([], []), ([], []), ([], []), ([], []), ([], []), ([], []), ([], [])] 0 Tryz.f68 = some (plain1 I68) := by kernel_rfl
theorem ck68 : ckC 1 I68.body = true := by kernel_rfl

/-- '(*encore/base.Machine).throw'. -/
def L69a : ICode :=
  (.seq (.seq (.region [⟨(some 6), (.mov (.t 0)), none, []⟩,
      ⟨(some 7), (.nck (.t 6)), none, []⟩,
      ⟨(some 8), (.off (.t 7) 0), none, []⟩,
      ⟨(some 9), (.load none (.t 8)), none, []⟩,
      ⟨(some 10), (.nck (.t 9)), none, []⟩,
      ⟨(some 11), (.off (.t 10) 0), none, []⟩,
      ⟨(some 12), (.off (.t 11) 4), none, []⟩,
      ⟨(some 13), (.load none (.t 12)), none, []⟩,
      ⟨(some 14), (.lenk 0 (.t 13)), none, []⟩,
      ⟨(some 15), (.bin .eql (.t 14) (.c (.i .i64 (0)))), none, []⟩] [])
    (.cond (.t 15)
      .skip
      (.exit 0)))
    (.block 1
      (.seq (.region [⟨(some 16), (.mov (.t 0)), none, []⟩,
        ⟨(some 17), (.call 90 [(.t 16)]), none, []⟩,
        ⟨(some 18), (.un .not (.t 17)), none, []⟩] [])
      (.cond (.t 18)
        (.seq (.region [⟨(some 19), (.mov (.t 0)), none, []⟩,
          ⟨(some 20), (.mov (.t 0)), none, []⟩,
          ⟨(some 21), (.mov (.t 1)), none, []⟩,
          ⟨(some 22), (.nck (.t 19)), none, []⟩,
          ⟨(some 23), (.off (.t 22) 5), none, []⟩,
          ⟨none, (.store 1 (.t 23) (.c (.i .i64 (3)))), none, []⟩,
          ⟨(some 24), (.nck (.t 20)), none, []⟩,
          ⟨(some 25), (.off (.t 24) 20), none, []⟩,
          ⟨none, (.store 1 (.t 25) (.t 21)), none, []⟩] [])
        .ret)
        .skip))))
def I69 : IFunc :=
  ⟨(.seq (.block 0
      (.loop L69a))
    (.seq (.region [⟨(some 26), (.mov (.t 0)), none, []⟩,
      ⟨(some 27), (.nck (.t 26)), none, []⟩,
      ⟨(some 28), (.off (.t 27) 0), none, []⟩,
      ⟨(some 29), (.load none (.t 28)), none, []⟩,
      ⟨(some 30), (.nck (.t 29)), none, []⟩,
      ⟨(some 31), (.off (.t 30) 0), none, []⟩,
      ⟨(some 32), (.off (.t 31) 4), none, []⟩,
      ⟨(some 33), (.load none (.t 32)), none, []⟩,
      ⟨(some 34), (.lenk 0 (.t 33)), none, []⟩,
      ⟨(some 35), (.bin .sub (.t 34) (.c (.i .i64 (1)))), none, []⟩,
      ⟨(some 4), (.mov (.t 35)), none, []⟩] [])
    (.seq (.region [⟨(some 36), (.mov (.t 0)), none, []⟩,
      ⟨(some 37), (.nck (.t 36)), none, []⟩,
      ⟨(some 38), (.off (.t 37) 0), none, []⟩,
      ⟨(some 39), (.load none (.t 38)), none, []⟩,
      ⟨(some 40), (.nck (.t 39)), none, []⟩,
      ⟨(some 41), (.off (.t 40) 0), none, []⟩,
      ⟨(some 42), (.off (.t 41) 4), none, []⟩,
      ⟨(some 43), (.load none (.t 42)), none, []⟩,
      ⟨(some 44), (.mov (.t 4)), none, []⟩,
      ⟨(some 45), (.iaddr 2 (.t 43) (.t 44)), none, []⟩,
      ⟨(some 46), (.load (some 2) (.t 45)), none, []⟩,
      ⟨(some 5), (.alloc [(.i .i64 (0)), (.i .i64 (0))]), none, []⟩,
      ⟨none, (.store 2 (.t 5) (.t 46)), none, []⟩] [])
    (.seq (.region [⟨(some 47), (.mov (.t 0)), none, []⟩,
      ⟨(some 48), (.nck (.t 47)), none, []⟩,
      ⟨(some 49), (.off (.t 48) 0), none, []⟩,
      ⟨(some 50), (.load none (.t 49)), none, []⟩,
      ⟨(some 51), (.mov (.t 0)), none, []⟩,
      ⟨(some 52), (.nck (.t 51)), none, []⟩,
      ⟨(some 53), (.off (.t 52) 0), none, []⟩,
      ⟨(some 54), (.load none (.t 53)), none, []⟩,
      ⟨(some 55), (.nck (.t 54)), none, []⟩,
      ⟨(some 56), (.off (.t 55) 0), none, []⟩,
      ⟨(some 57), (.off (.t 56) 4), none, []⟩,
      ⟨(some 58), (.load none (.t 57)), none, []⟩,
      ⟨(some 59), (.mov (.t 4)), none, []⟩,
      ⟨(some 60), (.slq 2 (.t 58) none (some (.t 59)) none), none, []⟩,
      ⟨(some 61), (.nck (.t 50)), none, []⟩,
      ⟨(some 62), (.off (.t 61) 0), none, []⟩,
      ⟨(some 63), (.off (.t 62) 4), none, []⟩,
      ⟨none, (.store 1 (.t 63) (.t 60)), none, []⟩] [])
    (.seq (.region [⟨(some 64), (.mov (.t 0)), none, []⟩,
      ⟨(some 65), (.nck (.t 64)), none, []⟩,
      ⟨(some 66), (.off (.t 65) 0), none, []⟩,
      ⟨(some 67), (.load none (.t 66)), none, []⟩,
      ⟨(some 68), (.mov (.t 0)), none, []⟩,
      ⟨(some 69), (.nck (.t 68)), none, []⟩,
      ⟨(some 70), (.off (.t 69) 0), none, []⟩,
      ⟨(some 71), (.load none (.t 70)), none, []⟩,
      ⟨(some 72), (.nck (.t 71)), none, []⟩,
      ⟨(some 73), (.off (.t 72) 0), none, []⟩,
      ⟨(some 74), (.off (.t 73) 3), none, []⟩,
      ⟨(some 75), (.load none (.t 74)), none, []⟩,
      ⟨(some 76), (.off (.t 5) 1), none, []⟩,
      ⟨(some 77), (.load none (.t 76)), none, []⟩,
      ⟨(some 78), (.mov (.t 0)), none, []⟩,
      ⟨(some 79), (.nck (.t 78)), none, []⟩,
      ⟨(some 80), (.off (.t 79) 0), none, []⟩,
      ⟨(some 81), (.load none (.t 80)), none, []⟩,
      ⟨(some 82), (.nck (.t 81)), none, []⟩,
      ⟨(some 83), (.off (.t 82) 0), none, []⟩,
      ⟨(some 84), (.off (.t 83) 3), none, []⟩,
      ⟨(some 85), (.load none (.t 84)), none, []⟩,
      ⟨(some 86), (.lenk 0 (.t 85)), none, []⟩,
      ⟨(some 87), (.mm false (.t 77) [(.t 86)]), none, []⟩,
      ⟨(some 88), (.slq 5 (.t 75) none (some (.t 87)) none), none, []⟩,
      ⟨(some 89), (.nck (.t 67)), none, []⟩,
      ⟨(some 90), (.off (.t 89) 0), none, []⟩,
      ⟨(some 91), (.off (.t 90) 3), none, []⟩,
      ⟨none, (.store 1 (.t 91) (.t 88)), none, []⟩] [])
    (.seq (.region [⟨(some 92), (.mov (.t 0)), none, []⟩,
      ⟨(some 93), (.nck (.t 92)), none, []⟩,
      ⟨(some 94), (.off (.t 93) 0), none, []⟩,
      ⟨(some 95), (.load none (.t 94)), none, []⟩,
      ⟨(some 96), (.off (.t 5) 0), none, []⟩,
      ⟨(some 97), (.load none (.t 96)), none, []⟩,
      ⟨(some 98), (.nck (.t 95)), none, []⟩,
      ⟨(some 99), (.off (.t 98) 0), none, []⟩,
      ⟨(some 100), (.off (.t 99) 1), none, []⟩,
      ⟨none, (.store 1 (.t 100) (.t 97)), none, []⟩] [])
    (.region [⟨(some 101), (.mov (.t 0)), none, []⟩,
      ⟨(some 102), (.nck (.t 101)), none, []⟩,
      ⟨(some 103), (.off (.t 102) 0), none, []⟩,
      ⟨(some 104), (.load none (.t 103)), none, []⟩,
      ⟨(some 105), (.mov (.t 1)), none, []⟩,
      ⟨(some 106), (.build [(.i .i64 (0)), (.i .i64 (0)), (.s []), .ns, .ns] [(0, 1, (.c (.i .i64 (1)))), (1, 1, (.t 105))]), none, []⟩,
      ⟨(some 107), (.call 70 [(.t 104), (.t 106)]), none, []⟩] []))))))),
    108, 2, [], 0⟩
theorem tr69 : trFunc Tryz.prog [([], []), ([], []), ([], []), ([], []), ([], []), ([], []), ([], []), ([0, 1, 2, 3, 4, 5, 6, 7, 8, 9, 10, 11, 12, 13, 14, 15, 16, 17], []), ([0, 1, 2, 3, 4, 5, 6, 7, 8, 9, 10, 11, 12, 13, 14, 15, 16, 17, 18, 19, 20, 21, 22, 23, 24, 25, 26, 27, 28], []), ([0, 1, 2, 3, 4, 5, 6, 7, 8, 9], []), ([], [])] 0 Tryz.f69 = some (plain1 I69) := by kernel_rfl
theorem ck69 : ckC 1 I69.body = true := by kernel_rfl

/-- '(*encore/base.frame).on'. -/
def I70 : IFunc :=
  ⟨(.seq (.region [⟨(some 3), (.box (.t 1)), none, []⟩] [])
    (.region [⟨(some 4), (.mov (.t 0)), none, []⟩,
      ⟨(some 5), (.nck (.t 4)), none, []⟩,
      ⟨(some 6), (.off (.t 5) 0), none, []⟩,
      ⟨(some 7), (.off (.t 6) 3), none, []⟩,
      ⟨(some 8), (.load none (.t 7)), none, []⟩,
      ⟨(some 9), (.load (some 5) (.t 3)), none, []⟩,
      ⟨(some 10), (.lenk 0 (.t 8)), none, []⟩,
      ⟨(some 11), (.bsl 5 1 [(.i .i64 (0)), (.i .i64 (0)), (.s []), .ns, .ns] [(0, 5, (.c (.ag [(.i .i64 (0)), (.i .i64 (0)), (.s []), .ns, .ns])))]), none, []⟩,
      ⟨(some 12), (.app 5 80 (.t 8) (.t 11)), none, []⟩,
      ⟨(some 13), (.iaddr 5 (.t 12) (.t 10)), none, []⟩,
      ⟨(some 14), (.nck (.t 4)), none, []⟩,
      ⟨(some 15), (.off (.t 14) 0), none, []⟩,
      ⟨(some 16), (.off (.t 15) 3), none, []⟩,
      ⟨none, (.store 5 (.t 13) (.t 9)), none, []⟩,
      ⟨none, (.store 1 (.t 16) (.t 12)), none, [(9, (.load (some 5) (.t 13)), none)]⟩] [])),
    17, 2, [], 0⟩
theorem tr70 : trFunc Tryz.prog [([], []), ([0, 1, 2, 3, 4, 5, 6, 7, 8, 9, 11, 12, 13, 10, 14], [])] 0 Tryz.f70 = some (plain1 I70) := by kernel_rfl
theorem ck70 : ckC 1 I70.body = true := by kernel_rfl

/-- 'encore/encoreref07.number'. -/
def I71 : IFunc :=
  ⟨(.seq (.region [⟨(some 4), (.mov (.c (.i .i64 (0)))), none, []⟩] [])
    (.seq (.seq (.region [⟨(some 5), (.mov (.t 0)), none, []⟩,
      ⟨(some 6), (.mov (.t 1)), none, []⟩,
      ⟨(some 7), (.bin .lss (.t 5) (.t 6)), none, []⟩] [])
    (.cond (.t 7)
      (.seq (.region [⟨(some 4), (.mov (.c (.i .i64 (-1)))), none, []⟩] [])
      .ret)
      .skip))
    (.seq (.seq (.region [⟨(some 8), (.mov (.t 0)), none, []⟩,
      ⟨(some 9), (.mov (.t 1)), none, []⟩,
      ⟨(some 10), (.bin .gtr (.t 8) (.t 9)), none, []⟩] [])
    (.cond (.t 10)
      (.seq (.region [⟨(some 4), (.mov (.c (.i .i64 (1)))), none, []⟩] [])
      .ret)
      .skip))
    (.seq (.region [⟨(some 4), (.mov (.c (.i .i64 (0)))), none, []⟩] [])
    .ret)))),
    11, 2, [.t 4], 0⟩
theorem tr71 : trFunc Tryz.prog [([], []), ([], []), ([], []), ([], []), ([], []), ([], []), ([], []), ([], [])] 0 Tryz.f71 = some (plain1 I71) := by kernel_rfl
theorem ck71 : ckC 1 I71.body = true := by kernel_rfl

/-- 'encore/encoreref07.text'. -/
def I72 : IFunc :=
  ⟨(.seq (.region [⟨(some 4), (.mov (.c (.i .i64 (0)))), none, []⟩] [])
    (.seq (.seq (.region [⟨(some 5), (.mov (.t 0)), none, []⟩,
      ⟨(some 6), (.mov (.t 1)), none, []⟩,
      ⟨(some 7), (.bin .lss (.t 5) (.t 6)), none, []⟩] [])
    (.cond (.t 7)
      (.seq (.region [⟨(some 4), (.mov (.c (.i .i64 (-1)))), none, []⟩] [])
      .ret)
      .skip))
    (.seq (.seq (.region [⟨(some 8), (.mov (.t 0)), none, []⟩,
      ⟨(some 9), (.mov (.t 1)), none, []⟩,
      ⟨(some 10), (.bin .gtr (.t 8) (.t 9)), none, []⟩] [])
    (.cond (.t 10)
      (.seq (.region [⟨(some 4), (.mov (.c (.i .i64 (1)))), none, []⟩] [])
      .ret)
      .skip))
    (.seq (.region [⟨(some 4), (.mov (.c (.i .i64 (0)))), none, []⟩] [])
    .ret)))),
    11, 2, [.t 4], 0⟩
theorem tr72 : trFunc Tryz.prog [([], []), ([], []), ([], []), ([], []), ([], []), ([], []), ([], []), ([], [])] 0 Tryz.f72 = some (plain1 I72) := by kernel_rfl
theorem ck72 : ckC 1 I72.body = true := by kernel_rfl

/-- 'encore/code.Check$1'. -/
def I73 : IFunc :=
  ⟨(.seq (.region [⟨(some 1), (.box (.t 0)), none, []⟩,
      ⟨(some 2), (.mov (.c (.b false))), none, []⟩] [])
    (.seq (.region [⟨(some 3), (.off (.t 1) 3), none, []⟩,
      ⟨(some 4), (.load none (.t 3)), none, []⟩,
      ⟨(some 5), (.lenk 0 (.t 4)), none, []⟩,
      ⟨(some 6), (.bin .gtr (.t 5) (.c (.i .i64 (512)))), none, []⟩,
      ⟨(some 2), (.mov (.t 6)), none, []⟩] [])
    .ret)),
    7, 1, [.t 2], 0⟩
theorem tr73 : trFunc Tryz.prog [([], []), ([], [])] 0 Tryz.f73 = some (plain1 I73) := by kernel_rfl
theorem ck73 : ckC 1 I73.body = true := by kernel_rfl

/-- 'slices.ContainsFunc[[]encore/api.Func,encore/api.Func]'. -/
def I74 : IFunc :=
  ⟨(.seq (.region [⟨(some 4), (.mov (.c (.b false))), none, []⟩] [])
    (.seq (.region [⟨(some 5), (.mov (.t 0)), none, []⟩,
      ⟨(some 6), (.mov (.t 1)), none, []⟩,
      ⟨(some 7), (.call 93 [(.t 5), (.t 6)]), none, []⟩,
      ⟨(some 8), (.bin .geq (.t 7) (.c (.i .i64 (0)))), none, []⟩,
      ⟨(some 4), (.mov (.t 8)), none, []⟩] [])
    .ret)),
    9, 2, [.t 4], 0⟩
theorem tr74 : trFunc Tryz.prog [([], []), ([], [])] 0 Tryz.f74 = some (plain1 I74) := by kernel_rfl
theorem ck74 : ckC 1 I74.body = true := by kernel_rfl

/-- 'encore/code.Check$2'. -/
def I75 : IFunc :=
  ⟨(.seq (.region [⟨(some 1), (.box (.t 0)), none, []⟩,
      ⟨(some 2), (.mov (.c (.b false))), none, []⟩] [])
    (.seq (.region [⟨(some 3), (.load (some 5) (.t 1)), none, []⟩,
      ⟨(some 4), (.call 36 [(.t 3)]), none, []⟩,
      ⟨(some 5), (.bin .neq (.t 4) (.c (.i .i64 (0)))), none, []⟩,
      ⟨(some 2), (.mov (.t 5)), none, []⟩] [])
    .ret)),
    6, 1, [.t 2], 0⟩
theorem tr75 : trFunc Tryz.prog [([], []), ([], [])] 0 Tryz.f75 = some (plain1 I75) := by kernel_rfl
theorem ck75 : ckC 1 I75.body = true := by kernel_rfl

/-- 'encore/code.Check$3'. -/
def I76 : IFunc :=
  ⟨(.seq (.region [⟨(some 2), (.box (.t 0)), none, []⟩,
      ⟨(some 3), (.mov (.c (.b false))), none, []⟩] [])
    (.seq (.region [⟨(some 4), (.load (some 4) (.t 2)), none, []⟩,
      ⟨(some 5), (.call 77 [(.t 1), (.t 4)]), none, []⟩,
      ⟨(some 6), (.un .not (.t 5)), none, []⟩,
      ⟨(some 3), (.mov (.t 6)), none, []⟩] [])
    .ret)),
    7, 2, [.t 3], 0⟩
theorem tr76 : trFunc Tryz.prog [([], []), ([], [])] 0 Tryz.f76 = some (plain1 I76) := by kernel_rfl
theorem ck76 : ckC 1 I76.body = true := by kernel_rfl

/-- 'encore/code.head'. -/
def L77a : ICode :=
  (.seq (.region [⟨(some 14), (.bin .lss (.t 13) (.t 12)), none, []⟩] [])
    (.seq (.cond (.t 14)
      .skip
      (.exit 0))
    (.seq (.block 1
      (.seq (.region [⟨(some 15), (.iaddr 4 (.t 11) (.t 13)), none, []⟩,
        ⟨(some 16), (.load (some 4) (.t 15)), none, []⟩,
        ⟨(some 7), (.alloc [(.s []), (.i .i64 (0)), (.i .i64 (0)), .ns]), none, []⟩,
        ⟨none, (.store 4 (.t 7) (.t 16)), none, []⟩] [])
      (.seq (.region [⟨(some 17), (.off (.t 7) 0), none, []⟩,
        ⟨(some 18), (.load none (.t 17)), none, []⟩,
        ⟨(some 19), (.off (.t 3) 0), none, []⟩,
        ⟨(some 20), (.load none (.t 19)), none, []⟩,
        ⟨(some 21), (.bin .eql (.t 18) (.t 20)), none, []⟩] [])
      (.cond (.t 21)
        (.region [⟨(some 22), (.mov (.t 5)), none, []⟩,
          ⟨(some 23), (.bin .add (.t 22) (.c (.i .i64 (1)))), none, []⟩,
          ⟨(some 5), (.mov (.t 23)), none, []⟩] [])
        .skip))))
    (.region [⟨(some 24), (.bin .add (.t 13) (.c (.i .i64 (1)))), none, []⟩,
      ⟨(some 13), (.mov (.t 24)), none, []⟩] []))))
def I77 : IFunc :=
  ⟨(.seq (.region [⟨(some 3), (.box (.t 1)), none, []⟩,
      ⟨(some 4), (.mov (.c (.b false))), none, []⟩] [])
    (.seq (.region [⟨(some 5), (.mov (.c (.i .i64 (0)))), none, []⟩] [])
    (.seq (.seq (.region [⟨(some 8), (.mov (.t 0)), none, []⟩,
      ⟨(some 9), (.nck (.t 8)), none, []⟩,
      ⟨(some 10), (.off (.t 9) 0), none, []⟩,
      ⟨(some 11), (.load none (.t 10)), none, []⟩,
      ⟨(some 12), (.lenk 0 (.t 11)), none, []⟩,
      ⟨(some 13), (.mov (.c (.i .i64 (0)))), none, []⟩] [])
    (.block 0
      (.loop L77a)))
    (.seq (.region [⟨(some 25), (.mov (.t 5)), none, []⟩,
      ⟨(some 26), (.bin .eql (.t 25) (.c (.i .i64 (1)))), none, []⟩,
      ⟨(some 27), (.mov (.t 26)), none, []⟩,
      ⟨(some 28), (.off (.t 3) 0), (some (27, true)), []⟩,
      ⟨(some 29), (.load none (.t 28)), (some (27, true)), []⟩,
      ⟨(some 30), (.call 94 [(.t 29)]), (some (27, true)), []⟩,
      ⟨(some 31), (.pick (.t 27) (.t 30) (.c (.b false))), none, []⟩,
      ⟨(some 32), (.mov (.t 31)), none, []⟩,
      ⟨(some 33), (.off (.t 3) 1), (some (32, true)), []⟩,
      ⟨(some 34), (.load none (.t 33)), (some (32, true)), []⟩,
      ⟨(some 35), (.bin .geq (.t 34) (.c (.i .i64 (0)))), (some (32, true)), []⟩,
      ⟨(some 36), (.pick (.t 32) (.t 35) (.c (.b false))), none, []⟩,
      ⟨(some 37), (.mov (.t 36)), none, []⟩,
      ⟨(some 38), (.off (.t 3) 1), (some (37, true)), []⟩,
      ⟨(some 39), (.load none (.t 38)), (some (37, true)), []⟩,
      ⟨(some 40), (.bin .leq (.t 39) (.c (.i .i64 (8)))), (some (37, true)), []⟩,
      ⟨(some 41), (.pick (.t 37) (.t 40) (.c (.b false))), none, []⟩,
      ⟨(some 42), (.mov (.t 41)), none, []⟩,
      ⟨(some 43), (.off (.t 3) 2), (some (42, true)), []⟩,
      ⟨(some 44), (.load none (.t 43)), (some (42, true)), []⟩,
      ⟨(some 45), (.off (.t 3) 1), (some (42, true)), []⟩,
      ⟨(some 46), (.load none (.t 45)), (some (42, true)), []⟩,
      ⟨(some 47), (.bin .geq (.t 44) (.t 46)), (some (42, true)), []⟩,
      ⟨(some 48), (.pick (.t 42) (.t 47) (.c (.b false))), none, []⟩,
      ⟨(some 49), (.mov (.t 48)), none, []⟩,
      ⟨(some 50), (.off (.t 3) 2), (some (49, true)), []⟩,
      ⟨(some 51), (.load none (.t 50)), (some (49, true)), []⟩,
      ⟨(some 52), (.bin .leq (.t 51) (.c (.i .i64 (32)))), (some (49, true)), []⟩,
      ⟨(some 53), (.pick (.t 49) (.t 52) (.c (.b false))), none, []⟩,
      ⟨(some 54), (.mov (.t 53)), none, []⟩,
      ⟨(some 55), (.off (.t 3) 3), (some (54, true)), []⟩,
      ⟨(some 56), (.load none (.t 55)), (some (54, true)), []⟩,
      ⟨(some 57), (.lenk 0 (.t 56)), (some (54, true)), []⟩,
      ⟨(some 58), (.bin .gtr (.t 57) (.c (.i .i64 (0)))), (some (54, true)), []⟩,
      ⟨(some 59), (.pick (.t 54) (.t 58) (.c (.b false))), none, []⟩,
      ⟨(some 4), (.mov (.t 59)), none, []⟩] [])
    .ret)))),
    60, 2, [.t 4], 0⟩
theorem tr77 : trFunc Tryz.prog [([], []), ([], []), ([], []), ([], []), ([], []), ([], []), ([], []), ([], []), ([], []), ([], []), ([], [])] 0 Tryz.f77 = some (plain1 I77) := by kernel_rfl
theorem ck77 : ckC 1 I77.body = true := by kernel_rfl

/-- '(encore/code.site).fits'. -/
def I78 : IFunc :=
  ⟨(.seq (.region [⟨(some 1), (.box (.t 0)), none, []⟩,
      ⟨(some 2), (.mov (.c (.b false))), none, []⟩] [])
    (.seq (.region [⟨(some 4), (.off (.t 1) 2), none, []⟩,
      ⟨(some 5), (.off (.t 4) 0), none, []⟩,
      ⟨(some 6), (.load none (.t 5)), none, []⟩,
      ⟨(some 7), (.bin .geq (.t 6) (.c (.i .i64 (1)))), none, []⟩,
      ⟨(some 8), (.mov (.t 7)), none, []⟩,
      ⟨(some 9), (.off (.t 1) 2), (some (8, true)), []⟩,
      ⟨(some 10), (.off (.t 9) 0), (some (8, true)), []⟩,
      ⟨(some 11), (.load none (.t 10)), (some (8, true)), []⟩,
      ⟨(some 12), (.bin .leq (.t 11) (.c (.i .i64 (31)))), (some (8, true)), []⟩,
      ⟨(some 13), (.pick (.t 8) (.t 12) (.c (.b false))), none, []⟩,
      ⟨(some 3), (.mov (.t 13)), none, []⟩] [])
    (.seq (.region [⟨(some 14), (.mov (.t 3)), none, []⟩,
      ⟨(some 15), (.mov (.t 14)), none, []⟩,
      ⟨(some 16), (.off (.t 1) 2), (some (15, true)), []⟩,
      ⟨(some 17), (.off (.t 16) 2), (some (15, true)), []⟩,
      ⟨(some 18), (.load none (.t 17)), (some (15, true)), []⟩,
      ⟨(some 19), (.bin .eql (.t 18) (.c (.i .i64 (0)))), (some (15, true)), []⟩,
      ⟨(some 20), (.mov (.t 19)), (some (15, true)), []⟩,
      ⟨(some 21), (.off (.t 1) 2), (some (20, false)), []⟩,
      ⟨(some 22), (.off (.t 21) 0), (some (20, false)), []⟩,
      ⟨(some 23), (.load none (.t 22)), (some (20, false)), []⟩,
      ⟨(some 24), (.bin .eql (.t 23) (.c (.i .i64 (31)))), (some (20, false)), []⟩,
      ⟨(some 25), (.pick (.t 20) (.c (.b true)) (.t 24)), (some (15, true)), []⟩,
      ⟨(some 26), (.pick (.t 15) (.t 25) (.c (.b false))), none, []⟩,
      ⟨(some 27), (.mov (.t 26)), none, []⟩,
      ⟨(some 28), (.load (some 5) (.t 1)), (some (27, true)), []⟩,
      ⟨(some 29), (.call 95 [(.t 28)]), (some (27, true)), []⟩,
      ⟨(some 30), (.callv (.t 29) []), (some (27, true)), []⟩,
      ⟨(some 31), (.pick (.t 27) (.t 30) (.c (.b false))), none, []⟩,
      ⟨(some 2), (.mov (.t 31)), none, []⟩] [])
    .ret))),
    32, 1, [.t 2], 0⟩
theorem tr78 : trFunc Tryz.prog [([], []), ([], []), ([], [])] 0 Tryz.f78 = some (plain1 I78) := by kernel_rfl
theorem ck78 : ckC 1 I78.body = true := by kernel_rfl

/-- '(*encore/verify.look).come'. -/
def I79 : IFunc :=
  ⟨(.seq (.seq (.region [⟨(some 9), (.mov (.t 1)), none, []⟩,
      ⟨(some 10), (.mov (.t 0)), none, []⟩,
      ⟨(some 11), (.nck (.t 10)), none, []⟩,
      ⟨(some 12), (.off (.t 11) 0), none, []⟩,
      ⟨(some 13), (.load none (.t 12)), none, []⟩,
      ⟨(some 14), (.lenk 0 (.t 13)), none, []⟩,
      ⟨(some 15), (.bin .geq (.t 9) (.t 14)), none, []⟩,
      ⟨(some 16), (.mov (.t 15)), none, []⟩,
      ⟨(some 17), (.mov (.t 2)), (some (16, false)), []⟩,
      ⟨(some 18), (.bin .gtr (.t 17) (.c (.i .i64 (32)))), (some (16, false)), []⟩,
      ⟨(some 19), (.pick (.t 16) (.c (.b true)) (.t 18)), none, []⟩] [])
    (.cond (.t 19)
      (.seq (.region [⟨(some 20), (.mov (.t 0)), none, []⟩,
        ⟨(some 21), (.nck (.t 20)), none, []⟩,
        ⟨(some 22), (.off (.t 21) 2), none, []⟩,
        ⟨none, (.store 1 (.t 22) (.c (.b true))), none, []⟩] [])
      .ret)
      .skip))
    (.seq (.region [⟨(some 23), (.mov (.t 0)), none, []⟩,
      ⟨(some 24), (.nck (.t 23)), none, []⟩,
      ⟨(some 25), (.off (.t 24) 0), none, []⟩,
      ⟨(some 26), (.load none (.t 25)), none, []⟩,
      ⟨(some 27), (.mov (.t 1)), none, []⟩,
      ⟨(some 28), (.iaddr 3 (.t 26) (.t 27)), none, []⟩,
      ⟨(some 8), (.mov (.t 28)), none, []⟩] [])
    (.seq (.seq (.region [⟨(some 29), (.mov (.t 8)), none, []⟩,
      ⟨(some 30), (.nck (.t 29)), none, []⟩,
      ⟨(some 31), (.off (.t 30) 0), none, []⟩,
      ⟨(some 32), (.load none (.t 31)), none, []⟩] [])
    (.cond (.t 32)
      (.seq (.region [⟨(some 33), (.mov (.t 0)), none, []⟩,
        ⟨(some 34), (.mov (.t 0)), none, []⟩,
        ⟨(some 35), (.nck (.t 34)), none, []⟩,
        ⟨(some 36), (.off (.t 35) 2), none, []⟩,
        ⟨(some 37), (.load none (.t 36)), none, []⟩,
        ⟨(some 38), (.mov (.t 37)), none, []⟩,
        ⟨(some 39), (.mov (.t 8)), (some (38, false)), []⟩,
        ⟨(some 40), (.nck (.t 39)), (some (38, false)), []⟩,
        ⟨(some 41), (.off (.t 40) 1), (some (38, false)), []⟩,
        ⟨(some 42), (.load none (.t 41)), (some (38, false)), []⟩,
        ⟨(some 43), (.mov (.t 2)), (some (38, false)), []⟩,
        ⟨(some 44), (.bin .neq (.t 42) (.t 43)), (some (38, false)), []⟩,
        ⟨(some 45), (.pick (.t 38) (.c (.b true)) (.t 44)), none, []⟩,
        ⟨(some 46), (.mov (.t 45)), none, []⟩,
        ⟨(some 47), (.mov (.t 8)), (some (46, false)), []⟩,
        ⟨(some 48), (.nck (.t 47)), (some (46, false)), []⟩,
        ⟨(some 49), (.off (.t 48) 2), (some (46, false)), []⟩,
        ⟨(some 50), (.load none (.t 49)), (some (46, false)), []⟩,
        ⟨(some 51), (.mov (.t 3)), (some (46, false)), []⟩,
        ⟨(some 52), (.call 34 [(.t 50), (.t 51)]), (some (46, false)), []⟩,
        ⟨(some 53), (.un .not (.t 52)), (some (46, false)), []⟩,
        ⟨(some 54), (.pick (.t 46) (.c (.b true)) (.t 53)), none, []⟩,
        ⟨(some 55), (.nck (.t 33)), none, []⟩,
        ⟨(some 56), (.off (.t 55) 2), none, []⟩,
        ⟨none, (.store 1 (.t 56) (.t 54)), none, []⟩] [])
      .ret)
      .skip))
    (.seq (.region [⟨(some 57), (.mov (.t 8)), none, []⟩,
      ⟨(some 58), (.mov (.t 2)), none, []⟩,
      ⟨(some 59), (.mov (.t 3)), none, []⟩,
      ⟨(some 60), (.mov (.t 3)), none, []⟩,
      ⟨(some 61), (.lenk 0 (.t 60)), none, []⟩,
      ⟨(some 62), (.mov (.t 3)), none, []⟩,
      ⟨(some 63), (.lenk 0 (.t 62)), none, []⟩,
      ⟨(some 64), (.sl 2 (.t 59) none (some (.t 61)) (some (.t 63))), none, []⟩,
      ⟨(some 65), (.build [(.b false), (.i .i64 (0)), .ns] [(0, 1, (.c (.b true))), (1, 1, (.t 58)), (2, 1, (.t 64))]), none, []⟩,
      ⟨(some 66), (.nck (.t 57)), none, []⟩,
      ⟨none, (.store 3 (.t 66) (.t 65)), none, []⟩] [])
    (.region [⟨(some 67), (.mov (.t 0)), none, []⟩,
      ⟨(some 68), (.mov (.t 0)), none, []⟩,
      ⟨(some 69), (.nck (.t 68)), none, []⟩,
      ⟨(some 70), (.off (.t 69) 1), none, []⟩,
      ⟨(some 71), (.load none (.t 70)), none, []⟩,
      ⟨(some 72), (.mov (.t 1)), none, []⟩,
      ⟨(some 73), (.bsl 1 1 [(.i .i64 (0))] [(0, 1, (.t 72))]), none, []⟩,
      ⟨(some 74), (.app 1 8 (.t 71) (.t 73)), none, []⟩,
      ⟨(some 75), (.nck (.t 67)), none, []⟩,
      ⟨(some 76), (.off (.t 75) 1), none, []⟩,
      ⟨none, (.store 1 (.t 76) (.t 74)), none, []⟩] []))))),
    77, 4, [], 0⟩
theorem tr79 : trFunc Tryz.prog [([], []), ([], []), ([], []), ([], []), ([], []), ([], []), ([], []), ([], []), ([], [])] 0 Tryz.f79 = some (plain1 I79) := by kernel_rfl
theorem ck79 : ckC 1 I79.body = true := by kernel_rfl

/-- '(*encore/verify.look).step'. -/
def I80 : IFunc :=
  ⟨(.seq (.region [⟨(some 5), (.box (.t 1)), none, []⟩,
      ⟨(some 6), (.box (.t 2)), none, []⟩] [])
    (.seq (.region [⟨(some 14), (.mov (.t 0)), none, []⟩,
      ⟨(some 15), (.nck (.t 14)), none, []⟩,
      ⟨(some 16), (.off (.t 15) 0), none, []⟩,
      ⟨(some 17), (.load none (.t 16)), none, []⟩,
      ⟨(some 18), (.mov (.t 3)), none, []⟩,
      ⟨(some 19), (.iaddr 3 (.t 17) (.t 18)), none, []⟩,
      ⟨(some 20), (.load (some 3) (.t 19)), none, []⟩,
      ⟨(some 8), (.alloc [(.b false), (.i .i64 (0)), .ns]), none, []⟩,
      ⟨none, (.store 3 (.t 8) (.t 20)), none, []⟩] [])
    (.seq (.region [⟨(some 22), (.load (some 2) (.t 5)), none, []⟩,
      ⟨(some 23), (.load (some 3) (.t 6)), none, []⟩,
      ⟨(some 24), (.call 96 [(.t 22), (.t 23)]), none, []⟩,
      ⟨(some 21), (.mov (.t 24)), none, []⟩,
      ⟨(some 25), (.ext (.t 21) 0), none, []⟩,
      ⟨(some 26), (.ext (.t 21) 1), none, []⟩,
      ⟨(some 9), (.mov (.t 25)), none, []⟩,
      ⟨(some 10), (.mov (.t 26)), none, []⟩] [])
    (.seq (.region [⟨(some 27), (.off (.t 8) 1), none, []⟩,
      ⟨(some 28), (.load none (.t 27)), none, []⟩,
      ⟨(some 29), (.mov (.t 9)), none, []⟩,
      ⟨(some 30), (.bin .sub (.t 28) (.t 29)), none, []⟩,
      ⟨(some 31), (.mov (.t 10)), none, []⟩,
      ⟨(some 32), (.bin .add (.t 30) (.t 31)), none, []⟩,
      ⟨(some 33), (.off (.t 8) 2), none, []⟩,
      ⟨(some 34), (.load none (.t 33)), none, []⟩,
      ⟨(some 11), (.mov (.t 32)), none, []⟩,
      ⟨(some 12), (.mov (.t 34)), none, []⟩] [])
    (.seq (.seq (.region [⟨(some 35), (.mov (.t 9)), none, []⟩,
      ⟨(some 36), (.off (.t 8) 1), none, []⟩,
      ⟨(some 37), (.load none (.t 36)), none, []⟩,
      ⟨(some 38), (.bin .gtr (.t 35) (.t 37)), none, []⟩,
      ⟨(some 39), (.mov (.t 38)), none, []⟩,
      ⟨(some 40), (.mov (.t 11)), (some (39, false)), []⟩,
      ⟨(some 41), (.bin .gtr (.t 40) (.c (.i .i64 (32)))), (some (39, false)), []⟩,
      ⟨(some 42), (.pick (.t 39) (.c (.b true)) (.t 41)), none, []⟩] [])
    (.cond (.t 42)
      (.seq (.region [⟨(some 43), (.mov (.t 0)), none, []⟩,
        ⟨(some 44), (.nck (.t 43)), none, []⟩,
        ⟨(some 45), (.off (.t 44) 2), none, []⟩,
        ⟨none, (.store 1 (.t 45) (.c (.b true))), none, []⟩] [])
      .ret)
      .skip))
    (.seq (.seq (.region [⟨(some 46), (.mov (.t 12)), none, []⟩,
      ⟨(some 47), (.lenk 0 (.t 46)), none, []⟩,
      ⟨(some 13), (.mov (.t 47)), none, []⟩] [])
    (.seq (.region [⟨(some 48), (.mov (.t 13)), none, []⟩,
      ⟨(some 49), (.bin .gtr (.t 48) (.c (.i .i64 (0)))), none, []⟩,
      ⟨(some 50), (.mov (.t 49)), none, []⟩,
      ⟨(some 51), (.off (.t 8) 1), (some (50, true)), []⟩,
      ⟨(some 52), (.load none (.t 51)), (some (50, true)), []⟩,
      ⟨(some 53), (.mov (.t 9)), (some (50, true)), []⟩,
      ⟨(some 54), (.bin .sub (.t 52) (.t 53)), (some (50, true)), []⟩,
      ⟨(some 55), (.mov (.t 12)), (some (50, true)), []⟩,
      ⟨(some 56), (.mov (.t 13)), (some (50, true)), []⟩,
      ⟨(some 57), (.bin .sub (.t 56) (.c (.i .i64 (1)))), (some (50, true)), []⟩,
      ⟨(some 58), (.iaddr 2 (.t 55) (.t 57)), (some (50, true)), []⟩,
      ⟨(some 59), (.off (.t 58) 1), (some (50, true)), []⟩,
      ⟨(some 60), (.load none (.t 59)), (some (50, true)), []⟩,
      ⟨(some 61), (.bin .lss (.t 54) (.t 60)), (some (50, true)), []⟩,
      ⟨(some 62), (.pick (.t 50) (.t 61) (.c (.b false))), none, []⟩] [])
    (.cond (.t 62)
      (.seq (.region [⟨(some 63), (.mov (.t 0)), none, []⟩,
        ⟨(some 64), (.nck (.t 63)), none, []⟩,
        ⟨(some 65), (.off (.t 64) 2), none, []⟩,
        ⟨none, (.store 1 (.t 65) (.c (.b true))), none, []⟩] [])
      .ret)
      .skip)))
    (.seq (.seq (.region [⟨(some 66), (.off (.t 6) 0), none, []⟩,
      ⟨(some 67), (.load none (.t 66)), none, []⟩] [])
    (.block 0
      (.seq (.seq (.region [⟨(some 69), (.bin .eql (.t 67) (.c (.i .i64 (28)))), none, []⟩,
        ⟨(some 68), (.mov (.t 69)), none, []⟩] [])
      (.cond (.t 68)
        .skip
        (.region [⟨(some 70), (.bin .eql (.t 67) (.c (.i .i64 (30)))), none, []⟩,
          ⟨(some 68), (.mov (.t 70)), none, []⟩] [])))
      (.cond (.t 68)
        .ret
        (.seq (.region [⟨(some 72), (.bin .eql (.t 67) (.c (.i .i64 (24)))), none, []⟩,
          ⟨(some 71), (.mov (.t 72)), none, []⟩] [])
        (.cond (.t 71)
          (.seq (.region [⟨(some 73), (.mov (.t 0)), none, []⟩,
            ⟨(some 74), (.off (.t 6) 1), none, []⟩,
            ⟨(some 75), (.load none (.t 74)), none, []⟩,
            ⟨(some 76), (.mov (.t 11)), none, []⟩,
            ⟨(some 77), (.mov (.t 12)), none, []⟩,
            ⟨(some 78), (.call 79 [(.t 73), (.t 75), (.t 76), (.t 77)]), none, []⟩] [])
          .ret)
          (.seq (.region [⟨(some 80), (.bin .eql (.t 67) (.c (.i .i64 (25)))), none, []⟩,
            ⟨(some 79), (.mov (.t 80)), none, []⟩] [])
          (.cond (.t 79)
            (.region [⟨(some 81), (.mov (.t 0)), none, []⟩,
              ⟨(some 82), (.off (.t 6) 1), none, []⟩,
              ⟨(some 83), (.load none (.t 82)), none, []⟩,
              ⟨(some 84), (.mov (.t 11)), none, []⟩,
              ⟨(some 85), (.mov (.t 12)), none, []⟩,
              ⟨(some 86), (.call 79 [(.t 81), (.t 83), (.t 84), (.t 85)]), none, []⟩] [])
            (.seq (.region [⟨(some 88), (.bin .eql (.t 67) (.c (.i .i64 (26)))), none, []⟩,
              ⟨(some 87), (.mov (.t 88)), none, []⟩] [])
            (.cond (.t 87)
              (.seq (.region [⟨(some 89), (.mov (.t 0)), none, []⟩,
                ⟨(some 90), (.mov (.t 0)), none, []⟩,
                ⟨(some 91), (.nck (.t 90)), none, []⟩,
                ⟨(some 92), (.off (.t 91) 2), none, []⟩,
                ⟨(some 93), (.load none (.t 92)), none, []⟩,
                ⟨(some 94), (.mov (.t 93)), none, []⟩,
                ⟨(some 95), (.mov (.t 12)), (some (94, false)), []⟩,
                ⟨(some 96), (.lenk 0 (.t 95)), (some (94, false)), []⟩,
                ⟨(some 97), (.bin .geq (.t 96) (.c (.i .i64 (8)))), (some (94, false)), []⟩,
                ⟨(some 98), (.pick (.t 94) (.c (.b true)) (.t 97)), none, []⟩,
                ⟨(some 99), (.nck (.t 89)), none, []⟩,
                ⟨(some 100), (.off (.t 99) 2), none, []⟩,
                ⟨none, (.store 1 (.t 100) (.t 98)), none, []⟩] [])
              (.seq (.region [⟨(some 101), (.mov (.t 0)), none, []⟩,
                ⟨(some 102), (.off (.t 6) 1), none, []⟩,
                ⟨(some 103), (.load none (.t 102)), none, []⟩,
                ⟨(some 104), (.mov (.t 11)), none, []⟩,
                ⟨(some 105), (.bin .add (.t 104) (.c (.i .i64 (1)))), none, []⟩,
                ⟨(some 106), (.mov (.t 12)), none, []⟩,
                ⟨(some 107), (.call 79 [(.t 101), (.t 103), (.t 105), (.t 106)]), none, []⟩] [])
              (.region [⟨(some 108), (.mov (.t 12)), none, []⟩,
                ⟨(some 109), (.off (.t 6) 1), none, []⟩,
                ⟨(some 110), (.load none (.t 109)), none, []⟩,
                ⟨(some 111), (.mov (.t 11)), none, []⟩,
                ⟨(some 112), (.build [(.i .i64 (0)), (.i .i64 (0))] [(0, 1, (.t 110)), (1, 1, (.t 111))]), none, []⟩,
                ⟨(some 113), (.bsl 2 1 [(.i .i64 (0)), (.i .i64 (0))] [(0, 2, (.t 112))]), none, []⟩,
                ⟨(some 114), (.app 2 16 (.t 108) (.t 113)), none, []⟩,
                ⟨(some 12), (.mov (.t 114)), none, []⟩] [])))
              (.seq (.region [⟨(some 116), (.bin .eql (.t 67) (.c (.i .i64 (27)))), none, []⟩,
                ⟨(some 115), (.mov (.t 116)), none, []⟩] [])
              (.cond (.t 115)
                (.seq (.seq (.region [⟨(some 117), (.mov (.t 12)), none, []⟩,
                  ⟨(some 118), (.lenk 0 (.t 117)), none, []⟩,
                  ⟨(some 119), (.bin .eql (.t 118) (.c (.i .i64 (0)))), none, []⟩] [])
                (.cond (.t 119)
                  (.seq (.region [⟨(some 120), (.mov (.t 0)), none, []⟩,
                    ⟨(some 121), (.nck (.t 120)), none, []⟩,
                    ⟨(some 122), (.off (.t 121) 2), none, []⟩,
                    ⟨none, (.store 1 (.t 122) (.c (.b true))), none, []⟩] [])
                  .ret)
                  .skip))
                (.region [⟨(some 123), (.mov (.t 12)), none, []⟩,
                  ⟨(some 124), (.mov (.t 12)), none, []⟩,
                  ⟨(some 125), (.lenk 0 (.t 124)), none, []⟩,
                  ⟨(some 126), (.bin .sub (.t 125) (.c (.i .i64 (1)))), none, []⟩,
                  ⟨(some 127), (.sl 2 (.t 123) none (some (.t 126)) none), none, []⟩,
                  ⟨(some 12), (.mov (.t 127)), none, []⟩] []))
                .skip))))))))))))
    (.region [⟨(some 128), (.mov (.t 0)), none, []⟩,
      ⟨(some 129), (.mov (.t 3)), none, []⟩,
      ⟨(some 130), (.bin .add (.t 129) (.c (.i .i64 (1)))), none, []⟩,
      ⟨(some 131), (.mov (.t 11)), none, []⟩,
      ⟨(some 132), (.mov (.t 12)), none, []⟩,
      ⟨(some 133), (.call 79 [(.t 128), (.t 130), (.t 131), (.t 132)]), none, []⟩] [])))))))),
    134, 4, [], 0⟩
theorem tr80 : trFunc Tryz.prog [([], []), ([], []), ([], []), ([0, 1, 2, 3, 4, 5, 6, 7, 8, 9], []), ([], []), ([], []), ([], []), ([], []), ([0, 1, 2, 3, 4, 5, 6, 7, 8, 9, 10, 11, 12, 13, 14], []), ([], []), ([], []), ([], []), ([], []), ([], []), ([], []), ([], []), ([], []), ([], []), ([], []), ([], []), ([], []), ([], []), ([], []), ([], []), ([], []), ([], []), ([], []), ([], []), ([], []), ([], [])] 0 Tryz.f80 = some (plain1 I80) := by kernel_rfl
theorem ck80 : ckC 1 I80.body = true := by kernel_rfl

/-- 'slices.IndexFunc[[]encore/api.Value,encore/api.Value]'. -/
def L81a : ICode :=
  (.seq (.region [⟨(some 9), (.bin .lss (.t 8) (.t 7)), none, []⟩] [])
    (.seq (.cond (.t 9)
      .skip
      (.exit 0))
    (.seq (.block 1
      (.seq (.region [⟨(some 10), (.mov (.t 8)), none, []⟩,
        ⟨(some 5), (.mov (.t 10)), none, []⟩] [])
      (.seq (.region [⟨(some 11), (.mov (.t 1)), none, []⟩,
        ⟨(some 12), (.mov (.t 0)), none, []⟩,
        ⟨(some 13), (.mov (.t 5)), none, []⟩,
        ⟨(some 14), (.iaddr 5 (.t 12) (.t 13)), none, []⟩,
        ⟨(some 15), (.load (some 5) (.t 14)), none, []⟩,
        ⟨(some 16), (.callv (.t 11) [(.t 15)]), none, []⟩] [])
      (.cond (.t 16)
        (.seq (.region [⟨(some 17), (.mov (.t 5)), none, []⟩,
          ⟨(some 4), (.mov (.t 17)), none, []⟩] [])
        .ret)
        .skip))))
    (.region [⟨(some 18), (.bin .add (.t 8) (.c (.i .i64 (1)))), none, []⟩,
      ⟨(some 8), (.mov (.t 18)), none, []⟩] []))))
def I81 : IFunc :=
  ⟨(.seq (.region [⟨(some 4), (.mov (.c (.i .i64 (0)))), none, []⟩] [])
    (.seq (.seq (.region [⟨(some 6), (.mov (.t 0)), none, []⟩,
      ⟨(some 7), (.lenk 0 (.t 6)), none, []⟩,
      ⟨(some 8), (.mov (.c (.i .i64 (0)))), none, []⟩] [])
    (.block 0
      (.loop L81a)))
    (.seq (.region [⟨(some 4), (.mov (.c (.i .i64 (-1)))), none, []⟩] [])
    .ret))),
    19, 2, [.t 4], 0⟩
theorem tr81 : trFunc Tryz.prog [([], []), ([], []), ([], []), ([], []), ([], []), ([], []), ([], []), ([], []), ([], []), ([], [])] 0 Tryz.f81 = some (plain1 I81) := by kernel_rfl
theorem ck81 : ckC 1 I81.body = true := by kernel_rfl

/-- '(*encore/base.frame).one'. -/
def I82 : IFunc :=
  ⟨(.seq (.region [⟨(some 2), (.alloc [(.i .i64 (0)), (.i .i64 (0)), (.s []), .ns, .ns]), none, []⟩] [])
    (.seq (.region [⟨(some 3), (.mov (.t 0)), none, []⟩,
      ⟨(some 4), (.call 84 [(.t 3), (.c (.i .i64 (1)))]), none, []⟩,
      ⟨(some 5), (.iaddr 5 (.t 4) (.c (.i .i64 (0)))), none, []⟩,
      ⟨(some 6), (.load (some 5) (.t 5)), none, []⟩,
      ⟨none, (.store 5 (.t 2) (.t 6)), none, []⟩] [])
    .ret)),
    7, 1, [.c 2 (some 5)], 0⟩
theorem tr82 : trFunc Tryz.prog [([], []), ([], [])] 0 Tryz.f82 = some (plain1 I82) := by kernel_rfl
theorem ck82 : ckC 1 I82.body = true := by kernel_rfl

/-- 'encore/arith.Unary'. -/
def I83 : IFunc :=
  ⟨(.seq (.region [⟨(some 3), (.box (.t 1)), none, []⟩,
      ⟨(some 4), (.alloc [(.i .i64 (0)), (.i .i64 (0)), (.s []), .ns, .ns]), none, []⟩,
      ⟨(some 5), (.mov (.c (.i .i64 (0)))), none, []⟩,
      ⟨(some 6), (.mov (.c (.i .i64 (0)))), none, []⟩] [])
    (.seq (.seq (.region [⟨(some 9), (.load (some 5) (.t 3)), none, []⟩,
      ⟨(some 10), (.bsl 5 1 [(.i .i64 (0)), (.i .i64 (0)), (.s []), .ns, .ns] [(0, 5, (.t 9))]), none, []⟩,
      ⟨(some 11), (.call 97 [(.t 10)]), none, []⟩,
      ⟨(some 12), (.un .not (.t 11)), none, []⟩] [])
    (.cond (.t 12)
      (.seq (.region [⟨(some 13), (.build [(.i .i64 (0)), (.i .i64 (0)), (.s []), .ns, .ns] []), none, []⟩,
        ⟨none, (.store 5 (.t 4) (.t 13)), none, []⟩,
        ⟨(some 5), (.mov (.c (.i .i64 (0)))), none, []⟩,
        ⟨(some 6), (.mov (.c (.i .i64 (2)))), none, []⟩] [])
      .ret)
      .skip))
    (.seq (.region [⟨(some 14), (.build [(.i .i64 (0)), (.i .i64 (0)), (.s []), .ns, .ns] []), none, []⟩,
      ⟨(some 7), (.alloc [(.i .i64 (0)), (.i .i64 (0)), (.s []), .ns, .ns]), none, []⟩,
      ⟨none, (.store 5 (.t 7) (.t 14)), none, []⟩,
      ⟨(some 8), (.mov (.c (.b false))), none, []⟩] [])
    (.seq (.seq (.region [⟨(some 15), (.mov (.t 0)), none, []⟩] [])
    (.block 0
      (.seq (.region [⟨(some 18), (.bin .eql (.t 15) (.c (.i .i64 (6)))), none, []⟩,
        ⟨(some 17), (.mov (.t 18)), none, []⟩] [])
      (.cond (.t 17)
        (.region [⟨(some 19), (.off (.t 3) 1), none, []⟩,
          ⟨(some 20), (.load none (.t 19)), none, []⟩,
          ⟨(some 21), (.un .neg (.t 20)), none, []⟩,
          ⟨(some 23), (.off (.t 3) 0), none, []⟩,
          ⟨(some 24), (.load none (.t 23)), none, []⟩,
          ⟨(some 25), (.bin .eql (.t 24) (.c (.i .i64 (1)))), none, []⟩,
          ⟨(some 22), (.call 98 [(.t 21)]), none, [(24, (.load none (.t 23)), none)]⟩,
          ⟨none, (.store 5 (.t 7) (.t 22)), none, [(24, (.load none (.t 23)), none)]⟩,
          ⟨(some 8), (.mov (.t 25)), none, []⟩] [])
        (.seq (.region [⟨(some 27), (.bin .eql (.t 15) (.c (.i .i64 (7)))), none, []⟩,
          ⟨(some 26), (.mov (.t 27)), none, []⟩] [])
        (.cond (.t 26)
          (.region [⟨(some 28), (.off (.t 3) 1), none, []⟩,
            ⟨(some 29), (.load none (.t 28)), none, []⟩,
            ⟨(some 30), (.bin .eql (.t 29) (.c (.i .i64 (0)))), none, []⟩,
            ⟨(some 32), (.off (.t 3) 0), none, []⟩,
            ⟨(some 33), (.load none (.t 32)), none, []⟩,
            ⟨(some 34), (.bin .eql (.t 33) (.c (.i .i64 (2)))), none, []⟩,
            ⟨(some 31), (.call 99 [(.t 30)]), none, [(33, (.load none (.t 32)), none)]⟩,
            ⟨none, (.store 5 (.t 7) (.t 31)), none, [(33, (.load none (.t 32)), none)]⟩,
            ⟨(some 8), (.mov (.t 34)), none, []⟩] [])
          (.seq (.region [⟨(some 36), (.bin .eql (.t 15) (.c (.i .i64 (8)))), none, []⟩,
            ⟨(some 35), (.mov (.t 36)), none, []⟩] [])
          (.cond (.t 35)
            (.region [⟨(some 37), (.off (.t 3) 2), none, []⟩,
              ⟨(some 38), (.load none (.t 37)), none, []⟩,
              ⟨(some 39), (.lenk 1 (.t 38)), none, []⟩,
              ⟨(some 40), (.off (.t 3) 3), none, []⟩,
              ⟨(some 41), (.load none (.t 40)), none, []⟩,
              ⟨(some 42), (.lenk 0 (.t 41)), none, []⟩,
              ⟨(some 43), (.bin .add (.t 39) (.t 42)), none, []⟩,
              ⟨(some 45), (.off (.t 3) 0), none, []⟩,
              ⟨(some 46), (.load none (.t 45)), none, []⟩,
              ⟨(some 47), (.bin .eql (.t 46) (.c (.i .i64 (3)))), none, []⟩,
              ⟨(some 44), (.call 98 [(.t 43)]), none, [(46, (.load none (.t 45)), none)]⟩,
              ⟨(some 48), (.mov (.t 47)), none, []⟩,
              ⟨(some 49), (.off (.t 3) 0), (some (48, false)), []⟩,
              ⟨(some 50), (.load none (.t 49)), (some (48, false)), []⟩,
              ⟨(some 51), (.bin .eql (.t 50) (.c (.i .i64 (4)))), (some (48, false)), []⟩,
              ⟨(some 52), (.pick (.t 48) (.c (.b true)) (.t 51)), none, []⟩,
              ⟨none, (.store 5 (.t 7) (.t 44)), none, [(50, (.load none (.t 49)), (some (48, false)))]⟩,
              ⟨(some 8), (.mov (.t 52)), none, []⟩] [])
            (.seq (.region [⟨(some 16), (.build [(.i .i64 (0)), (.i .i64 (0)), (.s []), .ns, .ns] []), none, []⟩,
              ⟨none, (.store 5 (.t 4) (.t 16)), none, []⟩,
              ⟨(some 5), (.mov (.c (.i .i64 (0)))), none, []⟩,
              ⟨(some 6), (.mov (.c (.i .i64 (2)))), none, []⟩] [])
            .ret)))))))))
    (.seq (.seq (.region [⟨(some 53), (.mov (.t 8)), none, []⟩,
      ⟨(some 54), (.un .not (.t 53)), none, []⟩] [])
    (.cond (.t 54)
      (.seq (.region [⟨(some 55), (.build [(.i .i64 (0)), (.i .i64 (0)), (.s []), .ns, .ns] []), none, []⟩,
        ⟨none, (.store 5 (.t 4) (.t 55)), none, []⟩,
        ⟨(some 5), (.mov (.c (.i .i64 (2)))), none, []⟩,
        ⟨(some 6), (.mov (.c (.i .i64 (0)))), none, []⟩] [])
      .ret)
      .skip))
    (.seq (.region [⟨(some 56), (.load (some 5) (.t 7)), none, []⟩,
      ⟨none, (.store 5 (.t 4) (.t 56)), none, []⟩,
      ⟨(some 5), (.mov (.c (.i .i64 (0)))), none, []⟩,
      ⟨(some 6), (.mov (.c (.i .i64 (0)))), none, []⟩] [])
    .ret)))))),
    57, 2, [.c 4 (some 5), .t 5, .t 6], 0⟩
theorem tr83 : trFunc Tryz.prog [([], []), ([], []), ([], []), ([], []), ([], []), ([], []), ([], []), ([0, 1, 2, 4, 5, 6, 3, 7, 8], []), ([], []), ([0, 1, 2, 4, 5, 6, 3, 7, 8], []), ([], []), ([0, 1, 2, 3, 4, 5, 6, 8, 9, 10, 7, 11, 12, 13, 14, 15, 16, 17], []), ([], []), ([], []), ([], []), ([], []), ([], [])] 0 Tryz.f83 = some (plain1 I83) := by kernel_rfl
theorem ck83 : ckC 1 I83.body = true := by kernel_rfl

/-- '(*encore/base.frame).off'. -/
def L84a : ICode :=
  (.seq (.seq (.region [⟨(some 35), (.mov (.t 6)), none, []⟩,
      ⟨(some 36), (.lenk 0 (.t 35)), none, []⟩,
      ⟨(some 37), (.mov (.t 1)), none, []⟩,
      ⟨(some 38), (.bin .lss (.t 36) (.t 37)), none, []⟩] [])
    (.cond (.t 38)
      .skip
      (.exit 0)))
    (.block 1
      (.region [⟨(some 39), (.mov (.t 6)), none, []⟩,
        ⟨(some 40), (.build [(.i .i64 (0)), (.i .i64 (0)), (.s []), .ns, .ns] []), none, []⟩,
        ⟨(some 41), (.bsl 5 1 [(.i .i64 (0)), (.i .i64 (0)), (.s []), .ns, .ns] [(0, 5, (.t 40))]), none, []⟩,
        ⟨(some 42), (.app 5 80 (.t 39) (.t 41)), none, []⟩,
        ⟨(some 6), (.mov (.t 42)), none, []⟩] [])))
def I84 : IFunc :=
  ⟨(.seq (.region [⟨(some 4), (.mov (.c .ns)), none, []⟩] [])
    (.seq (.region [⟨(some 7), (.mov (.t 0)), none, []⟩,
      ⟨(some 8), (.nck (.t 7)), none, []⟩,
      ⟨(some 9), (.off (.t 8) 0), none, []⟩,
      ⟨(some 10), (.off (.t 9) 3), none, []⟩,
      ⟨(some 11), (.load none (.t 10)), none, []⟩,
      ⟨(some 12), (.lenk 0 (.t 11)), none, []⟩,
      ⟨(some 13), (.mov (.t 1)), none, []⟩,
      ⟨(some 14), (.bin .sub (.t 12) (.t 13)), none, []⟩,
      ⟨(some 15), (.mm true (.t 14) [(.c (.i .i64 (0)))]), none, []⟩,
      ⟨(some 5), (.mov (.t 15)), none, []⟩] [])
    (.seq (.region [⟨(some 16), (.mov (.t 0)), none, []⟩,
      ⟨(some 17), (.nck (.t 16)), none, []⟩,
      ⟨(some 18), (.off (.t 17) 0), none, []⟩,
      ⟨(some 19), (.off (.t 18) 3), none, []⟩,
      ⟨(some 20), (.load none (.t 19)), none, []⟩,
      ⟨(some 21), (.mov (.t 5)), none, []⟩,
      ⟨(some 22), (.sl 5 (.t 20) (some (.t 21)) none none), none, []⟩,
      ⟨(some 23), (.call 49 [(.t 22)]), none, []⟩,
      ⟨(some 6), (.mov (.t 23)), none, []⟩] [])
    (.seq (.region [⟨(some 24), (.mov (.t 0)), none, []⟩,
      ⟨(some 25), (.mov (.t 0)), none, []⟩,
      ⟨(some 26), (.nck (.t 25)), none, []⟩,
      ⟨(some 27), (.off (.t 26) 0), none, []⟩,
      ⟨(some 28), (.off (.t 27) 3), none, []⟩,
      ⟨(some 29), (.load none (.t 28)), none, []⟩,
      ⟨(some 30), (.mov (.t 5)), none, []⟩,
      ⟨(some 31), (.sl 5 (.t 29) none (some (.t 30)) none), none, []⟩,
      ⟨(some 32), (.nck (.t 24)), none, []⟩,
      ⟨(some 33), (.off (.t 32) 0), none, []⟩,
      ⟨(some 34), (.off (.t 33) 3), none, []⟩,
      ⟨none, (.store 1 (.t 34) (.t 31)), none, []⟩] [])
    (.seq (.block 0
      (.loop L84a))
    (.seq (.region [⟨(some 43), (.mov (.t 6)), none, []⟩,
      ⟨(some 4), (.mov (.t 43)), none, []⟩] [])
    .ret)))))),
    44, 2, [.t 4], 0⟩
theorem tr84 : trFunc Tryz.prog [([], []), ([], []), ([], []), ([], []), ([], []), ([], []), ([], []), ([], [])] 0 Tryz.f84 = some (plain1 I84) := by kernel_rfl
theorem ck84 : ckC 1 I84.body = true := by kernel_rfl

/-- 'encore/arith.Binary'. -/
def I85 : IFunc :=
  ⟨(.seq (.region [⟨(some 4), (.box (.t 1)), none, []⟩,
      ⟨(some 5), (.box (.t 2)), none, []⟩,
      ⟨(some 6), (.alloc [(.i .i64 (0)), (.i .i64 (0)), (.s []), .ns, .ns]), none, []⟩,
      ⟨(some 7), (.mov (.c (.i .i64 (0)))), none, []⟩,
      ⟨(some 8), (.mov (.c (.i .i64 (0)))), none, []⟩] [])
    (.seq (.seq (.region [⟨(some 10), (.mov (.t 0)), none, []⟩,
      ⟨(some 11), (.bin .lss (.t 10) (.c (.i .i64 (9)))), none, []⟩,
      ⟨(some 12), (.mov (.t 11)), none, []⟩,
      ⟨(some 13), (.mov (.t 0)), (some (12, false)), []⟩,
      ⟨(some 14), (.bin .gtr (.t 13) (.c (.i .i64 (19)))), (some (12, false)), []⟩,
      ⟨(some 15), (.pick (.t 12) (.c (.b true)) (.t 14)), none, []⟩,
      ⟨(some 16), (.mov (.t 15)), none, []⟩,
      ⟨(some 17), (.load (some 5) (.t 4)), (some (16, false)), []⟩,
      ⟨(some 18), (.load (some 5) (.t 5)), (some (16, false)), []⟩,
      ⟨(some 19), (.bsl 5 2 [(.i .i64 (0)), (.i .i64 (0)), (.s []), .ns, .ns, (.i .i64 (0)), (.i .i64 (0)), (.s []), .ns, .ns] [(0, 5, (.t 17)), (5, 5, (.t 18))]), (some (16, false)), []⟩,
      ⟨(some 20), (.call 97 [(.t 19)]), (some (16, false)), []⟩,
      ⟨(some 21), (.un .not (.t 20)), (some (16, false)), []⟩,
      ⟨(some 22), (.pick (.t 16) (.c (.b true)) (.t 21)), none, []⟩] [])
    (.cond (.t 22)
      (.seq (.region [⟨(some 23), (.build [(.i .i64 (0)), (.i .i64 (0)), (.s []), .ns, .ns] []), none, []⟩,
        ⟨none, (.store 5 (.t 6) (.t 23)), none, []⟩,
        ⟨(some 7), (.mov (.c (.i .i64 (0)))), none, []⟩,
        ⟨(some 8), (.mov (.c (.i .i64 (2)))), none, []⟩] [])
      .ret)
      .skip))
    (.seq (.region [⟨(some 24), (.off (.t 4) 0), none, []⟩,
      ⟨(some 25), (.load none (.t 24)), none, []⟩,
      ⟨(some 26), (.off (.t 5) 0), none, []⟩,
      ⟨(some 27), (.load none (.t 26)), none, []⟩,
      ⟨(some 28), (.build [(.i .i64 (0)), (.i .i64 (0))] [(0, 1, (.t 25)), (1, 1, (.t 27))]), none, []⟩,
      ⟨(some 9), (.alloc [(.i .i64 (0)), (.i .i64 (0))]), none, []⟩,
      ⟨none, (.store 2 (.t 9) (.t 28)), none, []⟩] [])
    (.seq (.block 0
      (.seq (.region [⟨(some 30), (.mov (.t 0)), none, []⟩,
        ⟨(some 31), (.bin .eql (.t 30) (.c (.i .i64 (14)))), none, []⟩,
        ⟨(some 29), (.mov (.t 31)), none, []⟩] [])
      (.cond (.t 29)
        (.region [⟨(some 32), (.load (some 5) (.t 4)), none, []⟩,
          ⟨(some 33), (.load (some 5) (.t 5)), none, []⟩,
          ⟨(some 34), (.call 100 [(.t 32), (.t 33)]), none, []⟩,
          ⟨(some 35), (.call 99 [(.t 34)]), none, []⟩,
          ⟨none, (.store 5 (.t 6) (.t 35)), none, []⟩] [])
        (.seq (.region [⟨(some 37), (.mov (.t 0)), none, []⟩,
          ⟨(some 38), (.bin .eql (.t 37) (.c (.i .i64 (15)))), none, []⟩,
          ⟨(some 36), (.mov (.t 38)), none, []⟩] [])
        (.cond (.t 36)
          (.region [⟨(some 39), (.load (some 5) (.t 4)), none, []⟩,
            ⟨(some 40), (.load (some 5) (.t 5)), none, []⟩,
            ⟨(some 41), (.call 100 [(.t 39), (.t 40)]), none, []⟩,
            ⟨(some 42), (.un .not (.t 41)), none, []⟩,
            ⟨(some 43), (.call 99 [(.t 42)]), none, []⟩,
            ⟨none, (.store 5 (.t 6) (.t 43)), none, []⟩] [])
          (.seq (.region [⟨(some 45), (.load (some 2) (.t 9)), none, []⟩,
            ⟨(some 46), (.build [(.i .i64 (0)), (.i .i64 (0))] [(0, 1, (.c (.i .i64 (1)))), (1, 1, (.c (.i .i64 (1))))]), none, []⟩,
            ⟨(some 47), (.eqAg [1, 1] false (.t 45) (.t 46)), none, []⟩,
            ⟨(some 44), (.mov (.t 47)), none, []⟩] [])
          (.cond (.t 44)
            (.region [⟨(some 49), (.mov (.t 0)), none, []⟩,
              ⟨(some 50), (.off (.t 4) 1), none, []⟩,
              ⟨(some 51), (.load none (.t 50)), none, []⟩,
              ⟨(some 52), (.off (.t 5) 1), none, []⟩,
              ⟨(some 53), (.load none (.t 52)), none, []⟩,
              ⟨(some 54), (.call 101 [(.t 49), (.t 51), (.t 53)]), none, []⟩,
              ⟨(some 48), (.mov (.t 54)), none, []⟩,
              ⟨(some 55), (.ext (.t 48) 0), none, []⟩,
              ⟨(some 56), (.ext (.t 48) 1), none, []⟩,
              ⟨none, (.store 5 (.t 6) (.t 55)), none, []⟩,
              ⟨(some 7), (.mov (.t 56)), none, []⟩] [])
            (.seq (.region [⟨(some 58), (.load (some 2) (.t 9)), none, []⟩,
              ⟨(some 59), (.build [(.i .i64 (0)), (.i .i64 (0))] [(0, 1, (.c (.i .i64 (3)))), (1, 1, (.c (.i .i64 (3))))]), none, []⟩,
              ⟨(some 60), (.eqAg [1, 1] false (.t 58) (.t 59)), none, []⟩,
              ⟨(some 57), (.mov (.t 60)), none, []⟩] [])
            (.cond (.t 57)
              (.region [⟨(some 62), (.mov (.t 0)), none, []⟩,
                ⟨(some 63), (.off (.t 4) 2), none, []⟩,
                ⟨(some 64), (.load none (.t 63)), none, []⟩,
                ⟨(some 65), (.off (.t 5) 2), none, []⟩,
                ⟨(some 66), (.load none (.t 65)), none, []⟩,
                ⟨(some 67), (.call 102 [(.t 62), (.t 64), (.t 66)]), none, []⟩,
                ⟨(some 61), (.mov (.t 67)), none, []⟩,
                ⟨(some 68), (.ext (.t 61) 0), none, []⟩,
                ⟨(some 69), (.ext (.t 61) 1), none, []⟩,
                ⟨none, (.store 5 (.t 6) (.t 68)), none, []⟩,
                ⟨(some 7), (.mov (.t 69)), none, []⟩] [])
              (.seq (.region [⟨(some 71), (.mov (.t 0)), none, []⟩,
                ⟨(some 72), (.bin .eql (.t 71) (.c (.i .i64 (18)))), none, []⟩,
                ⟨(some 73), (.mov (.t 72)), none, []⟩,
                ⟨(some 74), (.off (.t 4) 0), (some (73, true)), []⟩,
                ⟨(some 75), (.load none (.t 74)), (some (73, true)), []⟩,
                ⟨(some 76), (.bin .eql (.t 75) (.c (.i .i64 (4)))), (some (73, true)), []⟩,
                ⟨(some 77), (.pick (.t 73) (.t 76) (.c (.b false))), none, []⟩,
                ⟨(some 70), (.mov (.t 77)), none, []⟩] [])
              (.cond (.t 70)
                (.region [⟨(some 79), (.load (some 5) (.t 4)), none, []⟩,
                  ⟨(some 80), (.load (some 5) (.t 5)), none, []⟩,
                  ⟨(some 81), (.bsl 5 1 [(.i .i64 (0)), (.i .i64 (0)), (.s []), .ns, .ns] [(0, 5, (.t 80))]), none, []⟩,
                  ⟨(some 82), (.call 103 [(.t 79), (.t 81)]), none, []⟩,
                  ⟨(some 78), (.mov (.t 82)), none, []⟩,
                  ⟨(some 83), (.ext (.t 78) 0), none, []⟩,
                  ⟨(some 84), (.ext (.t 78) 1), none, []⟩,
                  ⟨none, (.store 5 (.t 6) (.t 83)), none, []⟩,
                  ⟨(some 7), (.mov (.t 84)), none, []⟩] [])
                (.seq (.region [⟨(some 86), (.mov (.t 0)), none, []⟩,
                  ⟨(some 87), (.bin .eql (.t 86) (.c (.i .i64 (9)))), none, []⟩,
                  ⟨(some 88), (.mov (.t 87)), none, []⟩,
                  ⟨(some 89), (.load (some 2) (.t 9)), (some (88, true)), []⟩,
                  ⟨(some 90), (.build [(.i .i64 (0)), (.i .i64 (0))] [(0, 1, (.c (.i .i64 (4)))), (1, 1, (.c (.i .i64 (4))))]), (some (88, true)), []⟩,
                  ⟨(some 91), (.eqAg [1, 1] false (.t 89) (.t 90)), (some (88, true)), []⟩,
                  ⟨(some 92), (.pick (.t 88) (.t 91) (.c (.b false))), none, []⟩,
                  ⟨(some 85), (.mov (.t 92)), none, []⟩] [])
                (.cond (.t 85)
                  (.region [⟨(some 94), (.load (some 5) (.t 4)), none, []⟩,
                    ⟨(some 95), (.off (.t 5) 3), none, []⟩,
                    ⟨(some 96), (.load none (.t 95)), none, []⟩,
                    ⟨(some 97), (.call 103 [(.t 94), (.t 96)]), none, []⟩,
                    ⟨(some 93), (.mov (.t 97)), none, []⟩,
                    ⟨(some 98), (.ext (.t 93) 0), none, []⟩,
                    ⟨(some 99), (.ext (.t 93) 1), none, []⟩,
                    ⟨none, (.store 5 (.t 6) (.t 98)), none, []⟩,
                    ⟨(some 7), (.mov (.t 99)), none, []⟩] [])
                  (.seq (.region [⟨(some 101), (.mov (.t 0)), none, []⟩,
                    ⟨(some 102), (.bin .eql (.t 101) (.c (.i .i64 (19)))), none, []⟩,
                    ⟨(some 103), (.mov (.t 102)), none, []⟩,
                    ⟨(some 104), (.load (some 2) (.t 9)), (some (103, true)), []⟩,
                    ⟨(some 105), (.build [(.i .i64 (0)), (.i .i64 (0))] [(0, 1, (.c (.i .i64 (4)))), (1, 1, (.c (.i .i64 (1))))]), (some (103, true)), []⟩,
                    ⟨(some 106), (.eqAg [1, 1] false (.t 104) (.t 105)), (some (103, true)), []⟩,
                    ⟨(some 107), (.pick (.t 103) (.t 106) (.c (.b false))), none, []⟩,
                    ⟨(some 100), (.mov (.t 107)), none, []⟩] [])
                  (.cond (.t 100)
                    (.seq (.seq (.region [⟨(some 108), (.off (.t 5) 1), none, []⟩,
                      ⟨(some 109), (.load none (.t 108)), none, []⟩,
                      ⟨(some 110), (.bin .lss (.t 109) (.c (.i .i64 (0)))), none, []⟩,
                      ⟨(some 111), (.mov (.t 110)), none, []⟩,
                      ⟨(some 112), (.off (.t 5) 1), (some (111, false)), []⟩,
                      ⟨(some 113), (.load none (.t 112)), (some (111, false)), []⟩,
                      ⟨(some 114), (.off (.t 4) 3), (some (111, false)), []⟩,
                      ⟨(some 115), (.load none (.t 114)), (some (111, false)), []⟩,
                      ⟨(some 116), (.lenk 0 (.t 115)), (some (111, false)), []⟩,
                      ⟨(some 117), (.bin .geq (.t 113) (.t 116)), (some (111, false)), []⟩,
                      ⟨(some 118), (.pick (.t 111) (.c (.b true)) (.t 117)), none, []⟩] [])
                    (.cond (.t 118)
                      (.seq (.region [⟨(some 119), (.build [(.i .i64 (0)), (.i .i64 (0)), (.s []), .ns, .ns] []), none, []⟩,
                        ⟨none, (.store 5 (.t 6) (.t 119)), none, []⟩,
                        ⟨(some 7), (.mov (.c (.i .i64 (3)))), none, []⟩,
                        ⟨(some 8), (.mov (.c (.i .i64 (0)))), none, []⟩] [])
                      .ret)
                      .skip))
                    (.region [⟨(some 120), (.off (.t 4) 3), none, []⟩,
                      ⟨(some 121), (.load none (.t 120)), none, []⟩,
                      ⟨(some 122), (.off (.t 5) 1), none, []⟩,
                      ⟨(some 123), (.load none (.t 122)), none, []⟩,
                      ⟨(some 124), (.iaddr 5 (.t 121) (.t 123)), none, []⟩,
                      ⟨(some 125), (.load (some 5) (.t 124)), none, []⟩,
                      ⟨(some 126), (.call 104 [(.t 125)]), none, []⟩,
                      ⟨none, (.store 5 (.t 6) (.t 126)), none, []⟩] []))
                    (.region [⟨(some 7), (.mov (.c (.i .i64 (2)))), none, []⟩] []))))))))))))))))
    (.seq (.region [⟨(some 127), (.load (some 5) (.t 6)), none, []⟩,
      ⟨(some 128), (.mov (.t 7)), none, []⟩,
      ⟨none, (.store 5 (.t 6) (.t 127)), none, []⟩,
      ⟨(some 7), (.mov (.t 128)), none, []⟩,
      ⟨(some 8), (.mov (.c (.i .i64 (0)))), none, []⟩] [])
    .ret))))),
    129, 3, [.c 6 (some 5), .t 7, .t 8], 0⟩
theorem tr85 : trFunc Tryz.prog [([], []), ([], []), ([], []), ([], []), ([], []), ([], []), ([], []), ([], []), ([], []), ([], []), ([], []), ([], []), ([], []), ([], []), ([], []), ([], []), ([], []), ([], []), ([], []), ([], []), ([], []), ([], []), ([], []), ([], [])] 0 Tryz.f85 = some (plain1 I85) := by kernel_rfl
theorem ck85 : ckC 1 I85.body = true := by kernel_rfl

/-- 'encore/arith.List'. -/
def I86 : IFunc :=
  ⟨(.seq (.region [⟨(some 2), (.alloc [(.i .i64 (0)), (.i .i64 (0)), (.s []), .ns, .ns]), none, []⟩,
      ⟨(some 3), (.mov (.c (.i .i64 (0)))), none, []⟩,
      ⟨(some 4), (.mov (.c (.i .i64 (0)))), none, []⟩] [])
    (.seq (.seq (.region [⟨(some 5), (.mov (.t 0)), none, []⟩,
      ⟨(some 6), (.call 97 [(.t 5)]), none, []⟩,
      ⟨(some 7), (.un .not (.t 6)), none, []⟩] [])
    (.cond (.t 7)
      (.seq (.region [⟨(some 8), (.build [(.i .i64 (0)), (.i .i64 (0)), (.s []), .ns, .ns] []), none, []⟩,
        ⟨none, (.store 5 (.t 2) (.t 8)), none, []⟩,
        ⟨(some 3), (.mov (.c (.i .i64 (0)))), none, []⟩,
        ⟨(some 4), (.mov (.c (.i .i64 (2)))), none, []⟩] [])
      .ret)
      .skip))
    (.seq (.region [⟨(some 10), (.mov (.t 0)), none, []⟩,
      ⟨(some 11), (.build [(.i .i64 (0)), (.i .i64 (0)), (.s []), .ns, .ns] [(0, 1, (.c (.i .i64 (4)))), (3, 1, (.t 10))]), none, []⟩,
      ⟨(some 12), (.call 105 [(.t 11)]), none, []⟩,
      ⟨(some 9), (.mov (.t 12)), none, []⟩,
      ⟨(some 13), (.ext (.t 9) 0), none, []⟩,
      ⟨(some 14), (.ext (.t 9) 1), none, []⟩,
      ⟨none, (.store 5 (.t 2) (.t 13)), none, []⟩,
      ⟨(some 3), (.mov (.t 14)), none, []⟩] [])
    (.seq (.region [⟨(some 15), (.load (some 5) (.t 2)), none, []⟩,
      ⟨(some 16), (.mov (.t 3)), none, []⟩,
      ⟨none, (.store 5 (.t 2) (.t 15)), none, []⟩,
      ⟨(some 3), (.mov (.t 16)), none, []⟩,
      ⟨(some 4), (.mov (.c (.i .i64 (0)))), none, []⟩] [])
    .ret)))),
    17, 1, [.c 2 (some 5), .t 3, .t 4], 0⟩
theorem tr86 : trFunc Tryz.prog [([], []), ([], []), ([], []), ([], []), ([], []), ([], [])] 0 Tryz.f86 = some (plain1 I86) := by kernel_rfl
theorem ck86 : ckC 1 I86.body = true := by kernel_rfl

/-- 'encore/arith.Rec'. -/
def I87 : IFunc :=
  ⟨(.seq (.region [⟨(some 4), (.alloc [(.i .i64 (0)), (.i .i64 (0)), (.s []), .ns, .ns]), none, []⟩,
      ⟨(some 5), (.mov (.c (.i .i64 (0)))), none, []⟩,
      ⟨(some 6), (.mov (.c (.i .i64 (0)))), none, []⟩] [])
    (.seq (.seq (.region [⟨(some 7), (.mov (.t 0)), none, []⟩,
      ⟨(some 8), (.call 106 [(.t 7)]), none, []⟩,
      ⟨(some 9), (.un .not (.t 8)), none, []⟩,
      ⟨(some 10), (.mov (.t 9)), none, []⟩,
      ⟨(some 11), (.mov (.t 1)), (some (10, false)), []⟩,
      ⟨(some 12), (.lenk 0 (.t 11)), (some (10, false)), []⟩,
      ⟨(some 13), (.mov (.t 0)), (some (10, false)), []⟩,
      ⟨(some 14), (.lenk 0 (.t 13)), (some (10, false)), []⟩,
      ⟨(some 15), (.bin .neq (.t 12) (.t 14)), (some (10, false)), []⟩,
      ⟨(some 16), (.pick (.t 10) (.c (.b true)) (.t 15)), none, []⟩,
      ⟨(some 17), (.mov (.t 16)), none, []⟩,
      ⟨(some 18), (.mov (.t 1)), (some (17, false)), []⟩,
      ⟨(some 19), (.call 97 [(.t 18)]), (some (17, false)), []⟩,
      ⟨(some 20), (.un .not (.t 19)), (some (17, false)), []⟩,
      ⟨(some 21), (.pick (.t 17) (.c (.b true)) (.t 20)), none, []⟩] [])
    (.cond (.t 21)
      (.seq (.region [⟨(some 22), (.build [(.i .i64 (0)), (.i .i64 (0)), (.s []), .ns, .ns] []), none, []⟩,
        ⟨none, (.store 5 (.t 4) (.t 22)), none, []⟩,
        ⟨(some 5), (.mov (.c (.i .i64 (0)))), none, []⟩,
        ⟨(some 6), (.mov (.c (.i .i64 (2)))), none, []⟩] [])
      .ret)
      .skip))
    (.seq (.region [⟨(some 24), (.mov (.t 0)), none, []⟩,
      ⟨(some 25), (.mov (.t 1)), none, []⟩,
      ⟨(some 26), (.build [(.i .i64 (0)), (.i .i64 (0)), (.s []), .ns, .ns] [(0, 1, (.c (.i .i64 (5)))), (4, 1, (.t 24)), (3, 1, (.t 25))]), none, []⟩,
      ⟨(some 27), (.call 105 [(.t 26)]), none, []⟩,
      ⟨(some 23), (.mov (.t 27)), none, []⟩,
      ⟨(some 28), (.ext (.t 23) 0), none, []⟩,
      ⟨(some 29), (.ext (.t 23) 1), none, []⟩,
      ⟨none, (.store 5 (.t 4) (.t 28)), none, []⟩,
      ⟨(some 5), (.mov (.t 29)), none, []⟩] [])
    (.seq (.region [⟨(some 30), (.load (some 5) (.t 4)), none, []⟩,
      ⟨(some 31), (.mov (.t 5)), none, []⟩,
      ⟨none, (.store 5 (.t 4) (.t 30)), none, []⟩,
      ⟨(some 5), (.mov (.t 31)), none, []⟩,
      ⟨(some 6), (.mov (.c (.i .i64 (0)))), none, []⟩] [])
    .ret)))),
    32, 2, [.c 4 (some 5), .t 5, .t 6], 0⟩
theorem tr87 : trFunc Tryz.prog [([], []), ([], []), ([], []), ([], []), ([], []), ([], [])] 0 Tryz.f87 = some (plain1 I87) := by kernel_rfl
theorem ck87 : ckC 1 I87.body = true := by kernel_rfl

/-- 'encore/arith.Field'. -/
def I88 : IFunc :=
  ⟨(.seq (.region [⟨(some 2), (.box (.t 0)), none, []⟩,
      ⟨(some 4), (.alloc [(.i .i64 (0)), (.i .i64 (0)), (.s []), .ns, .ns]), none, []⟩,
      ⟨(some 5), (.mov (.c (.i .i64 (0)))), none, []⟩,
      ⟨(some 6), (.mov (.c (.i .i64 (0)))), none, []⟩] [])
    (.seq (.seq (.region [⟨(some 9), (.load (some 5) (.t 2)), none, []⟩,
      ⟨(some 10), (.bsl 5 1 [(.i .i64 (0)), (.i .i64 (0)), (.s []), .ns, .ns] [(0, 5, (.t 9))]), none, []⟩,
      ⟨(some 11), (.call 97 [(.t 10)]), none, []⟩,
      ⟨(some 12), (.un .not (.t 11)), none, []⟩,
      ⟨(some 13), (.mov (.t 12)), none, []⟩,
      ⟨(some 14), (.mov (.t 1)), (some (13, false)), []⟩,
      ⟨(some 15), (.bsl 1 1 [(.s [])] [(0, 1, (.t 14))]), (some (13, false)), []⟩,
      ⟨(some 16), (.call 106 [(.t 15)]), (some (13, false)), []⟩,
      ⟨(some 17), (.un .not (.t 16)), (some (13, false)), []⟩,
      ⟨(some 18), (.pick (.t 13) (.c (.b true)) (.t 17)), none, []⟩] [])
    (.cond (.t 18)
      (.seq (.region [⟨(some 19), (.build [(.i .i64 (0)), (.i .i64 (0)), (.s []), .ns, .ns] []), none, []⟩,
        ⟨none, (.store 5 (.t 4) (.t 19)), none, []⟩,
        ⟨(some 5), (.mov (.c (.i .i64 (0)))), none, []⟩,
        ⟨(some 6), (.mov (.c (.i .i64 (2)))), none, []⟩] [])
      .ret)
      .skip))
    (.seq (.seq (.region [⟨(some 20), (.off (.t 2) 0), none, []⟩,
      ⟨(some 21), (.load none (.t 20)), none, []⟩,
      ⟨(some 22), (.bin .neq (.t 21) (.c (.i .i64 (5)))), none, []⟩] [])
    (.cond (.t 22)
      (.seq (.region [⟨(some 23), (.build [(.i .i64 (0)), (.i .i64 (0)), (.s []), .ns, .ns] []), none, []⟩,
        ⟨none, (.store 5 (.t 4) (.t 23)), none, []⟩,
        ⟨(some 5), (.mov (.c (.i .i64 (2)))), none, []⟩,
        ⟨(some 6), (.mov (.c (.i .i64 (0)))), none, []⟩] [])
      .ret)
      .skip))
    (.seq (.region [⟨(some 25), (.off (.t 2) 4), none, []⟩,
      ⟨(some 26), (.load none (.t 25)), none, []⟩,
      ⟨(some 27), (.mov (.t 1)), none, []⟩,
      ⟨(some 28), (.call 107 [(.t 26), (.t 27)]), none, []⟩,
      ⟨(some 24), (.mov (.t 28)), none, []⟩,
      ⟨(some 29), (.ext (.t 24) 0), none, []⟩,
      ⟨(some 30), (.ext (.t 24) 1), none, []⟩,
      ⟨(some 7), (.mov (.t 29)), none, []⟩,
      ⟨(some 8), (.mov (.t 30)), none, []⟩] [])
    (.seq (.seq (.region [⟨(some 31), (.mov (.t 8)), none, []⟩,
      ⟨(some 32), (.un .not (.t 31)), none, []⟩] [])
    (.cond (.t 32)
      (.seq (.region [⟨(some 33), (.build [(.i .i64 (0)), (.i .i64 (0)), (.s []), .ns, .ns] []), none, []⟩,
        ⟨none, (.store 5 (.t 4) (.t 33)), none, []⟩,
        ⟨(some 5), (.mov (.c (.i .i64 (6)))), none, []⟩,
        ⟨(some 6), (.mov (.c (.i .i64 (0)))), none, []⟩] [])
      .ret)
      .skip))
    (.seq (.region [⟨(some 34), (.off (.t 2) 3), none, []⟩,
      ⟨(some 35), (.load none (.t 34)), none, []⟩,
      ⟨(some 36), (.mov (.t 7)), none, []⟩,
      ⟨(some 37), (.iaddr 5 (.t 35) (.t 36)), none, []⟩,
      ⟨(some 38), (.load (some 5) (.t 37)), none, []⟩,
      ⟨(some 39), (.call 104 [(.t 38)]), none, []⟩,
      ⟨none, (.store 5 (.t 4) (.t 39)), none, []⟩,
      ⟨(some 5), (.mov (.c (.i .i64 (0)))), none, []⟩,
      ⟨(some 6), (.mov (.c (.i .i64 (0)))), none, []⟩] [])
    .ret)))))),
    40, 2, [.c 4 (some 5), .t 5, .t 6], 0⟩
theorem tr88 : trFunc Tryz.prog [([], []), ([], []), ([], []), ([], []), ([], []), ([], []), ([], []), ([], []), ([], []), ([], []), ([], []), ([], [])] 0 Tryz.f88 = some (plain1 I88) := by kernel_rfl
theorem ck88 : ckC 1 I88.body = true := by kernel_rfl

/-- 'encore/value.Is'. -/
def I89 : IFunc :=
  ⟨(.seq (.region [⟨(some 2), (.box (.t 0)), none, []⟩,
      ⟨(some 4), (.mov (.c (.b false))), none, []⟩] [])
    (.seq (.region [⟨(some 8), (.mov (.t 1)), none, []⟩,
      ⟨(some 9), (.call 108 [(.t 8)]), none, []⟩,
      ⟨(some 7), (.mov (.t 9)), none, []⟩,
      ⟨(some 10), (.ext (.t 7) 0), none, []⟩,
      ⟨(some 11), (.ext (.t 7) 1), none, []⟩,
      ⟨(some 5), (.alloc [(.i .i64 (0)), .ns, .ns]), none, []⟩,
      ⟨none, (.store 3 (.t 5) (.t 10)), none, []⟩,
      ⟨(some 6), (.mov (.t 11)), none, []⟩] [])
    (.seq (.region [⟨(some 12), (.mov (.t 6)), none, []⟩,
      ⟨(some 13), (.mov (.t 12)), none, []⟩,
      ⟨(some 14), (.load (some 5) (.t 2)), (some (13, true)), []⟩,
      ⟨(some 15), (.call 36 [(.t 14)]), (some (13, true)), []⟩,
      ⟨(some 16), (.bin .eql (.t 15) (.c (.i .i64 (0)))), (some (13, true)), []⟩,
      ⟨(some 17), (.pick (.t 13) (.t 16) (.c (.b false))), none, []⟩,
      ⟨(some 18), (.mov (.t 17)), none, []⟩,
      ⟨(some 19), (.load (some 3) (.t 5)), (some (18, true)), []⟩,
      ⟨(some 20), (.load (some 5) (.t 2)), (some (18, true)), []⟩,
      ⟨(some 21), (.call 109 [(.t 19), (.t 20)]), (some (18, true)), []⟩,
      ⟨(some 22), (.pick (.t 18) (.t 21) (.c (.b false))), none, []⟩,
      ⟨(some 4), (.mov (.t 22)), none, []⟩] [])
    .ret))),
    23, 2, [.t 4], 0⟩
theorem tr89 : trFunc Tryz.prog [([], []), ([], []), ([], [])] 0 Tryz.f89 = some (plain1 I89) := by kernel_rfl
theorem ck89 : ckC 1 I89.body = true := by kernel_rfl

/-- '(*encore/base.Machine).drop'. -/
def I90 : IFunc :=
  ⟨(.seq (.region [⟨(some 2), (.mov (.c (.b false))), none, []⟩] [])
    (.seq (.region [⟨(some 4), (.mov (.t 0)), none, []⟩,
      ⟨(some 5), (.nck (.t 4)), none, []⟩,
      ⟨(some 6), (.off (.t 5) 1), none, []⟩,
      ⟨(some 7), (.load none (.t 6)), none, []⟩,
      ⟨(some 8), (.lenk 0 (.t 7)), none, []⟩,
      ⟨(some 3), (.mov (.t 8)), none, []⟩] [])
    (.seq (.seq (.region [⟨(some 9), (.mov (.t 3)), none, []⟩,
      ⟨(some 10), (.bin .eql (.t 9) (.c (.i .i64 (0)))), none, []⟩] [])
    (.cond (.t 10)
      (.seq (.region [⟨(some 11), (.mov (.t 0)), none, []⟩,
        ⟨(some 12), (.nck (.t 11)), none, []⟩,
        ⟨(some 13), (.off (.t 12) 0), none, []⟩,
        ⟨none, (.store 1 (.t 13) (.c .np)), none, []⟩] [])
      (.seq (.region [⟨(some 2), (.mov (.c (.b false))), none, []⟩] [])
      .ret))
      .skip))
    (.seq (.region [⟨(some 14), (.mov (.t 0)), none, []⟩,
      ⟨(some 15), (.mov (.t 0)), none, []⟩,
      ⟨(some 16), (.mov (.t 0)), none, []⟩,
      ⟨(some 17), (.nck (.t 16)), none, []⟩,
      ⟨(some 18), (.off (.t 17) 1), none, []⟩,
      ⟨(some 19), (.load none (.t 18)), none, []⟩,
      ⟨(some 20), (.mov (.t 3)), none, []⟩,
      ⟨(some 21), (.bin .sub (.t 20) (.c (.i .i64 (1)))), none, []⟩,
      ⟨(some 22), (.iaddr 1 (.t 19) (.t 21)), none, []⟩,
      ⟨(some 23), (.load none (.t 22)), none, []⟩,
      ⟨(some 24), (.mov (.t 0)), none, []⟩,
      ⟨(some 25), (.nck (.t 24)), none, []⟩,
      ⟨(some 26), (.off (.t 25) 1), none, []⟩,
      ⟨(some 27), (.load none (.t 26)), none, []⟩,
      ⟨(some 28), (.mov (.t 3)), none, []⟩,
      ⟨(some 29), (.bin .sub (.t 28) (.c (.i .i64 (1)))), none, []⟩,
      ⟨(some 30), (.slq 1 (.t 27) none (some (.t 29)) none), none, []⟩,
      ⟨(some 31), (.nck (.t 14)), none, []⟩,
      ⟨(some 32), (.off (.t 31) 0), none, []⟩,
      ⟨none, (.store 1 (.t 32) (.t 23)), none, [(30, (.slq 1 (.t 27) none (some (.t 29)) none), none)]⟩,
      ⟨(some 33), (.nck (.t 15)), none, []⟩,
      ⟨(some 34), (.off (.t 33) 1), none, []⟩,
      ⟨none, (.store 1 (.t 34) (.t 30)), none, []⟩] [])
    (.seq (.region [⟨(some 2), (.mov (.c (.b true))), none, []⟩] [])
    .ret))))),
    35, 1, [.t 2], 0⟩
theorem tr90 : trFunc Tryz.prog [([], []), ([], []), ([], []), ([], []), ([], []), ([], []), ([0, 1, 2, 3, 4, 5, 6, 7, 8, 9, 10, 11, 12, 13, 14, 15, 16, 17, 18, 19, 20, 21, 22], []), ([], [])] 0 Tryz.f90 = some (plain1 I90) := by kernel_rfl
theorem ck90 : ckC 1 I90.body = true := by kernel_rfl

/-- 'encore/base.futures'. -/
def L91a : ICode :=
  (.seq (.region [⟨(some 9), (.bin .lss (.t 8) (.t 7)), none, []⟩] [])
    (.seq (.cond (.t 9)
      .skip
      (.exit 0))
    (.seq (.block 1
      (.seq (.region [⟨(some 10), (.iaddr 5 (.t 6) (.t 8)), none, []⟩,
        ⟨(some 11), (.load (some 5) (.t 10)), none, []⟩,
        ⟨(some 5), (.alloc [(.i .i64 (0)), (.i .i64 (0)), (.s []), .ns, .ns]), none, []⟩,
        ⟨none, (.store 5 (.t 5) (.t 11)), none, []⟩] [])
      (.seq (.seq (.region [⟨(some 12), (.off (.t 5) 0), none, []⟩,
        ⟨(some 13), (.load none (.t 12)), none, []⟩,
        ⟨(some 14), (.bin .neq (.t 13) (.c (.i .i64 (6)))), none, []⟩] [])
      (.cond (.t 14)
        (.seq (.region [⟨(some 2), (.mov (.c .ns)), none, []⟩,
          ⟨(some 3), (.mov (.c (.b false))), none, []⟩] [])
        .ret)
        .skip))
      (.region [⟨(some 15), (.mov (.t 2)), none, []⟩,
        ⟨(some 16), (.off (.t 5) 1), none, []⟩,
        ⟨(some 17), (.load none (.t 16)), none, []⟩,
        ⟨(some 18), (.bsl 1 1 [(.i .i64 (0))] [(0, 1, (.t 17))]), none, []⟩,
        ⟨(some 19), (.app 1 8 (.t 15) (.t 18)), none, []⟩,
        ⟨(some 2), (.mov (.t 19)), none, []⟩] []))))
    (.region [⟨(some 20), (.bin .add (.t 8) (.c (.i .i64 (1)))), none, []⟩,
      ⟨(some 8), (.mov (.t 20)), none, []⟩] []))))
def I91 : IFunc :=
  ⟨(.seq (.region [⟨(some 2), (.mov (.c .ns)), none, []⟩,
      ⟨(some 3), (.mov (.c (.b false))), none, []⟩] [])
    (.seq (.seq (.region [⟨(some 6), (.mov (.t 0)), none, []⟩,
      ⟨(some 7), (.lenk 0 (.t 6)), none, []⟩,
      ⟨(some 8), (.mov (.c (.i .i64 (0)))), none, []⟩] [])
    (.block 0
      (.loop L91a)))
    (.seq (.region [⟨(some 21), (.mov (.t 2)), none, []⟩,
      ⟨(some 22), (.mov (.t 2)), none, []⟩,
      ⟨(some 23), (.lenk 0 (.t 22)), none, []⟩,
      ⟨(some 24), (.bin .gtr (.t 23) (.c (.i .i64 (0)))), none, []⟩,
      ⟨(some 2), (.mov (.t 21)), none, []⟩,
      ⟨(some 3), (.mov (.t 24)), none, []⟩] [])
    .ret))),
    25, 1, [.t 2, .t 3], 0⟩
theorem tr91 : trFunc Tryz.prog [([], []), ([], []), ([], []), ([], []), ([], []), ([], []), ([], []), ([], []), ([], []), ([], []), ([], [])] 0 Tryz.f91 = some (plain1 I91) := by kernel_rfl
theorem ck91 : ckC 1 I91.body = true := by kernel_rfl

/-- 'encore/value.own'. -/
def I92 : IFunc :=
  ⟨(.seq (.region [⟨(some 1), (.box (.t 0)), none, []⟩,
      ⟨(some 2), (.mov (.c (.b false))), none, []⟩] [])
    (.seq (.seq (.region [⟨(some 3), (.off (.t 1) 0), none, []⟩,
      ⟨(some 4), (.load none (.t 3)), none, []⟩] [])
    (.block 0
      (.seq (.region [⟨(some 6), (.bin .eql (.t 4) (.c (.i .i64 (0)))), none, []⟩,
        ⟨(some 5), (.mov (.t 6)), none, []⟩] [])
      (.cond (.t 5)
        (.seq (.region [⟨(some 7), (.off (.t 1) 1), none, []⟩,
          ⟨(some 8), (.load none (.t 7)), none, []⟩,
          ⟨(some 9), (.bin .eql (.t 8) (.c (.i .i64 (0)))), none, []⟩,
          ⟨(some 10), (.mov (.t 9)), none, []⟩,
          ⟨(some 11), (.build [(.b false), (.b false), (.b false)] []), (some (10, true)), []⟩,
          ⟨(some 12), (.load (some 5) (.t 1)), (some (10, true)), []⟩,
          ⟨(some 13), (.call 110 [(.t 11), (.t 12)]), (some (10, true)), []⟩,
          ⟨(some 14), (.pick (.t 10) (.t 13) (.c (.b false))), none, []⟩,
          ⟨(some 2), (.mov (.t 14)), none, []⟩] [])
        .ret)
        (.seq (.region [⟨(some 16), (.bin .eql (.t 4) (.c (.i .i64 (1)))), none, []⟩,
          ⟨(some 15), (.mov (.t 16)), none, []⟩] [])
        (.cond (.t 15)
          (.seq (.region [⟨(some 17), (.build [(.b false), (.b false), (.b false)] []), none, []⟩,
            ⟨(some 18), (.load (some 5) (.t 1)), none, []⟩,
            ⟨(some 19), (.call 110 [(.t 17), (.t 18)]), none, []⟩,
            ⟨(some 2), (.mov (.t 19)), none, []⟩] [])
          .ret)
          (.seq (.region [⟨(some 21), (.bin .eql (.t 4) (.c (.i .i64 (2)))), none, []⟩,
            ⟨(some 20), (.mov (.t 21)), none, []⟩] [])
          (.cond (.t 20)
            (.seq (.region [⟨(some 22), (.off (.t 1) 1), none, []⟩,
              ⟨(some 23), (.load none (.t 22)), none, []⟩,
              ⟨(some 24), (.bin .andNot (.t 23) (.c (.i .i64 (1)))), none, []⟩,
              ⟨(some 25), (.bin .eql (.t 24) (.c (.i .i64 (0)))), none, []⟩,
              ⟨(some 26), (.mov (.t 25)), none, []⟩,
              ⟨(some 27), (.build [(.b false), (.b false), (.b false)] []), (some (26, true)), []⟩,
              ⟨(some 28), (.load (some 5) (.t 1)), (some (26, true)), []⟩,
              ⟨(some 29), (.call 110 [(.t 27), (.t 28)]), (some (26, true)), []⟩,
              ⟨(some 30), (.pick (.t 26) (.t 29) (.c (.b false))), none, []⟩,
              ⟨(some 2), (.mov (.t 30)), none, []⟩] [])
            .ret)
            (.seq (.region [⟨(some 32), (.bin .eql (.t 4) (.c (.i .i64 (6)))), none, []⟩,
              ⟨(some 31), (.mov (.t 32)), none, []⟩] [])
            (.cond (.t 31)
              (.seq (.region [⟨(some 33), (.off (.t 1) 1), none, []⟩,
                ⟨(some 34), (.load none (.t 33)), none, []⟩,
                ⟨(some 35), (.bin .geq (.t 34) (.c (.i .i64 (1)))), none, []⟩,
                ⟨(some 36), (.mov (.t 35)), none, []⟩,
                ⟨(some 37), (.off (.t 1) 1), (some (36, true)), []⟩,
                ⟨(some 38), (.load none (.t 37)), (some (36, true)), []⟩,
                ⟨(some 39), (.bin .leq (.t 38) (.c (.i .i64 (64)))), (some (36, true)), []⟩,
                ⟨(some 40), (.pick (.t 36) (.t 39) (.c (.b false))), none, []⟩,
                ⟨(some 41), (.mov (.t 40)), none, []⟩,
                ⟨(some 42), (.build [(.b false), (.b false), (.b false)] []), (some (41, true)), []⟩,
                ⟨(some 43), (.load (some 5) (.t 1)), (some (41, true)), []⟩,
                ⟨(some 44), (.call 110 [(.t 42), (.t 43)]), (some (41, true)), []⟩,
                ⟨(some 45), (.pick (.t 41) (.t 44) (.c (.b false))), none, []⟩,
                ⟨(some 2), (.mov (.t 45)), none, []⟩] [])
              .ret)
              (.seq (.region [⟨(some 47), (.bin .eql (.t 4) (.c (.i .i64 (3)))), none, []⟩,
                ⟨(some 46), (.mov (.t 47)), none, []⟩] [])
              (.cond (.t 46)
                (.seq (.region [⟨(some 48), (.off (.t 1) 1), none, []⟩,
                  ⟨(some 49), (.load none (.t 48)), none, []⟩,
                  ⟨(some 50), (.bin .eql (.t 49) (.c (.i .i64 (0)))), none, []⟩,
                  ⟨(some 51), (.mov (.t 50)), none, []⟩,
                  ⟨(some 52), (.off (.t 1) 2), (some (51, true)), []⟩,
                  ⟨(some 53), (.load none (.t 52)), (some (51, true)), []⟩,
                  ⟨(some 54), (.lenk 1 (.t 53)), (some (51, true)), []⟩,
                  ⟨(some 55), (.bin .leq (.t 54) (.c (.i .i64 (64)))), (some (51, true)), []⟩,
                  ⟨(some 56), (.pick (.t 51) (.t 55) (.c (.b false))), none, []⟩,
                  ⟨(some 57), (.mov (.t 56)), none, []⟩,
                  ⟨(some 58), (.build [(.b false), (.b false), (.b false)] [(0, 1, (.c (.b true)))]), (some (57, true)), []⟩,
                  ⟨(some 59), (.load (some 5) (.t 1)), (some (57, true)), []⟩,
                  ⟨(some 60), (.call 110 [(.t 58), (.t 59)]), (some (57, true)), []⟩,
                  ⟨(some 61), (.pick (.t 57) (.t 60) (.c (.b false))), none, []⟩,
                  ⟨(some 2), (.mov (.t 61)), none, []⟩] [])
                .ret)
                (.seq (.region [⟨(some 63), (.bin .eql (.t 4) (.c (.i .i64 (4)))), none, []⟩,
                  ⟨(some 62), (.mov (.t 63)), none, []⟩] [])
                (.cond (.t 62)
                  (.seq (.region [⟨(some 64), (.off (.t 1) 1), none, []⟩,
                    ⟨(some 65), (.load none (.t 64)), none, []⟩,
                    ⟨(some 66), (.bin .eql (.t 65) (.c (.i .i64 (0)))), none, []⟩,
                    ⟨(some 67), (.mov (.t 66)), none, []⟩,
                    ⟨(some 68), (.off (.t 1) 3), (some (67, true)), []⟩,
                    ⟨(some 69), (.load none (.t 68)), (some (67, true)), []⟩,
                    ⟨(some 70), (.lenk 0 (.t 69)), (some (67, true)), []⟩,
                    ⟨(some 71), (.bin .leq (.t 70) (.c (.i .i64 (32)))), (some (67, true)), []⟩,
                    ⟨(some 72), (.pick (.t 67) (.t 71) (.c (.b false))), none, []⟩,
                    ⟨(some 73), (.mov (.t 72)), none, []⟩,
                    ⟨(some 74), (.build [(.b false), (.b false), (.b false)] [(1, 1, (.c (.b true)))]), (some (73, true)), []⟩,
                    ⟨(some 75), (.load (some 5) (.t 1)), (some (73, true)), []⟩,
                    ⟨(some 76), (.call 110 [(.t 74), (.t 75)]), (some (73, true)), []⟩,
                    ⟨(some 77), (.pick (.t 73) (.t 76) (.c (.b false))), none, []⟩,
                    ⟨(some 2), (.mov (.t 77)), none, []⟩] [])
                  .ret)
                  (.seq (.region [⟨(some 79), (.bin .eql (.t 4) (.c (.i .i64 (5)))), none, []⟩,
                    ⟨(some 78), (.mov (.t 79)), none, []⟩] [])
                  (.cond (.t 78)
                    (.seq (.region [⟨(some 80), (.off (.t 1) 1), none, []⟩,
                      ⟨(some 81), (.load none (.t 80)), none, []⟩,
                      ⟨(some 82), (.bin .eql (.t 81) (.c (.i .i64 (0)))), none, []⟩,
                      ⟨(some 83), (.mov (.t 82)), none, []⟩,
                      ⟨(some 84), (.off (.t 1) 3), (some (83, true)), []⟩,
                      ⟨(some 85), (.load none (.t 84)), (some (83, true)), []⟩,
                      ⟨(some 86), (.lenk 0 (.t 85)), (some (83, true)), []⟩,
                      ⟨(some 87), (.off (.t 1) 4), (some (83, true)), []⟩,
                      ⟨(some 88), (.load none (.t 87)), (some (83, true)), []⟩,
                      ⟨(some 89), (.lenk 0 (.t 88)), (some (83, true)), []⟩,
                      ⟨(some 90), (.bin .eql (.t 86) (.t 89)), (some (83, true)), []⟩,
                      ⟨(some 91), (.pick (.t 83) (.t 90) (.c (.b false))), none, []⟩,
                      ⟨(some 92), (.mov (.t 91)), none, []⟩,
                      ⟨(some 93), (.off (.t 1) 3), (some (92, true)), []⟩,
                      ⟨(some 94), (.load none (.t 93)), (some (92, true)), []⟩,
                      ⟨(some 95), (.lenk 0 (.t 94)), (some (92, true)), []⟩,
                      ⟨(some 96), (.bin .leq (.t 95) (.c (.i .i64 (8)))), (some (92, true)), []⟩,
                      ⟨(some 97), (.pick (.t 92) (.t 96) (.c (.b false))), none, []⟩,
                      ⟨(some 98), (.mov (.t 97)), none, []⟩,
                      ⟨(some 99), (.build [(.b false), (.b false), (.b false)] [(1, 1, (.c (.b true))), (2, 1, (.c (.b true)))]), (some (98, true)), []⟩,
                      ⟨(some 100), (.load (some 5) (.t 1)), (some (98, true)), []⟩,
                      ⟨(some 101), (.call 110 [(.t 99), (.t 100)]), (some (98, true)), []⟩,
                      ⟨(some 102), (.pick (.t 98) (.t 101) (.c (.b false))), none, []⟩,
                      ⟨(some 103), (.mov (.t 102)), none, []⟩,
                      ⟨(some 104), (.off (.t 1) 4), (some (103, true)), []⟩,
                      ⟨(some 105), (.load none (.t 104)), (some (103, true)), []⟩,
                      ⟨(some 106), (.call 111 [(.t 105)]), (some (103, true)), []⟩,
                      ⟨(some 107), (.pick (.t 103) (.t 106) (.c (.b false))), none, []⟩,
                      ⟨(some 2), (.mov (.t 107)), none, []⟩] [])
                    .ret)
                    .skip))))))))))))))))
    (.seq (.region [⟨(some 2), (.mov (.c (.b false))), none, []⟩] [])
    .ret))),
    108, 1, [.t 2], 0⟩
theorem tr92 : trFunc Tryz.prog [([], []), ([], []), ([], []), ([], []), ([], []), ([], []), ([], []), ([], []), ([], []), ([], []), ([], []), ([], []), ([], []), ([], []), ([], []), ([], []), ([], []), ([], [])] 0 Tryz.f92 = some (plain1 I92) := by kernel_rfl
theorem ck92 : ckC 1 I92.body = true := by kernel_rfl

/-- 'slices.IndexFunc[[]encore/api.Func,encore/api.Func]'. -/
def L93a : ICode :=
  (.seq (.region [⟨(some 9), (.bin .lss (.t 8) (.t 7)), none, []⟩] [])
    (.seq (.cond (.t 9)
      .skip
      (.exit 0))
    (.seq (.block 1
      (.seq (.region [⟨(some 10), (.mov (.t 8)), none, []⟩,
        ⟨(some 5), (.mov (.t 10)), none, []⟩] [])
      (.seq (.region [⟨(some 11), (.mov (.t 1)), none, []⟩,
        ⟨(some 12), (.mov (.t 0)), none, []⟩,
        ⟨(some 13), (.mov (.t 5)), none, []⟩,
        ⟨(some 14), (.iaddr 4 (.t 12) (.t 13)), none, []⟩,
        ⟨(some 15), (.load (some 4) (.t 14)), none, []⟩,
        ⟨(some 16), (.callv (.t 11) [(.t 15)]), none, []⟩] [])
      (.cond (.t 16)
        (.seq (.region [⟨(some 17), (.mov (.t 5)), none, []⟩,
          ⟨(some 4), (.mov (.t 17)), none, []⟩] [])
        .ret)
        .skip))))
    (.region [⟨(some 18), (.bin .add (.t 8) (.c (.i .i64 (1)))), none, []⟩,
      ⟨(some 8), (.mov (.t 18)), none, []⟩] []))))
def I93 : IFunc :=
  ⟨(.seq (.region [⟨(some 4), (.mov (.c (.i .i64 (0)))), none, []⟩] [])
    (.seq (.seq (.region [⟨(some 6), (.mov (.t 0)), none, []⟩,
      ⟨(some 7), (.lenk 0 (.t 6)), none, []⟩,
      ⟨(some 8), (.mov (.c (.i .i64 (0)))), none, []⟩] [])
    (.block 0
      (.loop L93a)))
    (.seq (.region [⟨(some 4), (.mov (.c (.i .i64 (-1)))), none, []⟩] [])
    .ret))),
    19, 2, [.t 4], 0⟩
theorem tr93 : trFunc Tryz.prog [([], []), ([], []), ([], []), ([], []), ([], []), ([], []), ([], []), ([], []), ([], []), ([], [])] 0 Tryz.f93 = some (plain1 I93) := by kernel_rfl
theorem ck93 : ckC 1 I93.body = true := by kernel_rfl

/-- 'encore/code.name'. -/
def I94 : IFunc :=
  ⟨(.seq (.region [⟨(some 2), (.mov (.c (.b false))), none, []⟩] [])
    (.seq (.region [⟨(some 3), (.mov (.t 0)), none, []⟩,
      ⟨(some 4), (.bsl 1 1 [(.s [])] [(0, 1, (.t 3))]), none, []⟩,
      ⟨(some 5), (.mksl 5 80 [(.i .i64 (0)), (.i .i64 (0)), (.s []), .ns, .ns] (.c (.i .i64 (1))) (.c (.i .i64 (1)))), none, []⟩,
      ⟨(some 6), (.build [(.i .i64 (0)), (.i .i64 (0)), (.s []), .ns, .ns] [(0, 1, (.c (.i .i64 (5)))), (4, 1, (.t 4)), (3, 1, (.t 5))]), none, []⟩,
      ⟨(some 7), (.call 36 [(.t 6)]), none, []⟩,
      ⟨(some 8), (.bin .eql (.t 7) (.c (.i .i64 (0)))), none, []⟩,
      ⟨(some 2), (.mov (.t 8)), none, []⟩] [])
    .ret)),
    9, 1, [.t 2], 0⟩
theorem tr94 : trFunc Tryz.prog [([], []), ([], [])] 0 Tryz.f94 = some (plain1 I94) := by kernel_rfl
theorem ck94 : ckC 1 I94.body = true := by kernel_rfl

/-- '(encore/code.site).may'. -/
def I95 : IFunc :=
  ⟨(.seq (.region [⟨(some 1), (.box (.t 0)), none, []⟩,
      ⟨(some 2), (.mov (.c .nf)), none, []⟩] [])
    (.seq (.seq (.region [⟨(some 3), (.off (.t 1) 2), none, []⟩,
      ⟨(some 4), (.off (.t 3) 0), none, []⟩,
      ⟨(some 5), (.load none (.t 4)), none, []⟩] [])
    (.block 0
      (.seq (.region [⟨(some 7), (.bin .eql (.t 5) (.c (.i .i64 (1)))), none, []⟩,
        ⟨(some 6), (.mov (.t 7)), none, []⟩] [])
      (.cond (.t 6)
        (.seq (.region [⟨(some 8), (.load (some 5) (.t 1)), none, []⟩,
          ⟨(some 9), (.mkf 112 [(.t 8)] []), none, []⟩,
          ⟨(some 2), (.mov (.t 9)), none, []⟩] [])
        .ret)
        (.seq (.seq (.region [⟨(some 11), (.bin .eql (.t 5) (.c (.i .i64 (2)))), none, []⟩,
          ⟨(some 10), (.mov (.t 11)), none, []⟩] [])
        (.cond (.t 10)
          .skip
          (.region [⟨(some 12), (.bin .eql (.t 5) (.c (.i .i64 (3)))), none, []⟩,
            ⟨(some 10), (.mov (.t 12)), none, []⟩] [])))
        (.cond (.t 10)
          (.seq (.region [⟨(some 13), (.load (some 5) (.t 1)), none, []⟩,
            ⟨(some 14), (.mkf 113 [(.t 13)] []), none, []⟩,
            ⟨(some 2), (.mov (.t 14)), none, []⟩] [])
          .ret)
          (.seq (.region [⟨(some 16), (.bin .eql (.t 5) (.c (.i .i64 (20)))), none, []⟩,
            ⟨(some 15), (.mov (.t 16)), none, []⟩] [])
          (.cond (.t 15)
            (.seq (.region [⟨(some 17), (.load (some 5) (.t 1)), none, []⟩,
              ⟨(some 18), (.mkf 114 [(.t 17)] []), none, []⟩,
              ⟨(some 2), (.mov (.t 18)), none, []⟩] [])
            .ret)
            (.seq (.region [⟨(some 20), (.bin .eql (.t 5) (.c (.i .i64 (21)))), none, []⟩,
              ⟨(some 19), (.mov (.t 20)), none, []⟩] [])
            (.cond (.t 19)
              (.seq (.region [⟨(some 21), (.load (some 5) (.t 1)), none, []⟩,
                ⟨(some 22), (.mkf 115 [(.t 21)] []), none, []⟩,
                ⟨(some 2), (.mov (.t 22)), none, []⟩] [])
              .ret)
              (.seq (.region [⟨(some 24), (.bin .eql (.t 5) (.c (.i .i64 (22)))), none, []⟩,
                ⟨(some 23), (.mov (.t 24)), none, []⟩] [])
              (.cond (.t 23)
                (.seq (.region [⟨(some 25), (.load (some 5) (.t 1)), none, []⟩,
                  ⟨(some 26), (.mkf 116 [(.t 25)] []), none, []⟩,
                  ⟨(some 2), (.mov (.t 26)), none, []⟩] [])
                .ret)
                (.seq (.region [⟨(some 28), (.bin .eql (.t 5) (.c (.i .i64 (23)))), none, []⟩,
                  ⟨(some 27), (.mov (.t 28)), none, []⟩] [])
                (.cond (.t 27)
                  (.seq (.region [⟨(some 29), (.load (some 5) (.t 1)), none, []⟩,
                    ⟨(some 30), (.mkf 117 [(.t 29)] []), none, []⟩,
                    ⟨(some 2), (.mov (.t 30)), none, []⟩] [])
                  .ret)
                  (.seq (.seq (.region [⟨(some 32), (.bin .eql (.t 5) (.c (.i .i64 (24)))), none, []⟩,
                    ⟨(some 31), (.mov (.t 32)), none, []⟩] [])
                  (.cond (.t 31)
                    .skip
                    (.seq (.region [⟨(some 33), (.bin .eql (.t 5) (.c (.i .i64 (25)))), none, []⟩,
                      ⟨(some 31), (.mov (.t 33)), none, []⟩] [])
                    (.cond (.t 31)
                      .skip
                      (.region [⟨(some 34), (.bin .eql (.t 5) (.c (.i .i64 (26)))), none, []⟩,
                        ⟨(some 31), (.mov (.t 34)), none, []⟩] [])))))
                  (.cond (.t 31)
                    (.seq (.region [⟨(some 35), (.load (some 5) (.t 1)), none, []⟩,
                      ⟨(some 36), (.mkf 118 [(.t 35)] []), none, []⟩,
                      ⟨(some 2), (.mov (.t 36)), none, []⟩] [])
                    .ret)
                    (.seq (.region [⟨(some 38), (.bin .eql (.t 5) (.c (.i .i64 (29)))), none, []⟩,
                      ⟨(some 37), (.mov (.t 38)), none, []⟩] [])
                    (.cond (.t 37)
                      (.seq (.region [⟨(some 39), (.load (some 5) (.t 1)), none, []⟩,
                        ⟨(some 40), (.mkf 119 [(.t 39)] []), none, []⟩,
                        ⟨(some 2), (.mov (.t 40)), none, []⟩] [])
                      .ret)
                      (.seq (.region [⟨(some 42), (.bin .eql (.t 5) (.c (.i .i64 (31)))), none, []⟩,
                        ⟨(some 41), (.mov (.t 42)), none, []⟩] [])
                      (.cond (.t 41)
                        (.seq (.region [⟨(some 43), (.load (some 5) (.t 1)), none, []⟩,
                          ⟨(some 44), (.mkf 120 [(.t 43)] []), none, []⟩,
                          ⟨(some 2), (.mov (.t 44)), none, []⟩] [])
                        .ret)
                        .skip))))))))))))))))))))
    (.seq (.region [⟨(some 45), (.load (some 5) (.t 1)), none, []⟩,
      ⟨(some 46), (.mkf 121 [(.t 45)] []), none, []⟩,
      ⟨(some 2), (.mov (.t 46)), none, []⟩] [])
    .ret))),
    47, 1, [.t 2], 0⟩
theorem tr95 : trFunc Tryz.prog [([], []), ([], []), ([], []), ([], []), ([], []), ([], []), ([], []), ([], []), ([], []), ([], []), ([], []), ([], []), ([], []), ([], []), ([], []), ([], []), ([], []), ([], []), ([], []), ([], []), ([], []), ([], []), ([], []), ([], []), ([], []), ([], []), ([], []), ([], [])] 0 Tryz.f95 = some (plain1 I95) := by kernel_rfl
theorem ck95 : ckC 1 I95.body = true := by kernel_rfl

/-- 'encore/code.Moves'. -/
def I96 : IFunc :=
  ⟨(.seq (.region [⟨(some 2), (.box (.t 0)), none, []⟩,
      ⟨(some 3), (.box (.t 1)), none, []⟩,
      ⟨(some 4), (.mov (.c (.i .i64 (0)))), none, []⟩,
      ⟨(some 5), (.mov (.c (.i .i64 (0)))), none, []⟩] [])
    (.seq (.block 0
      (.seq (.region [⟨(some 7), (.off (.t 3) 0), none, []⟩,
        ⟨(some 8), (.load none (.t 7)), none, []⟩,
        ⟨(some 9), (.bin .eql (.t 8) (.c (.i .i64 (1)))), none, []⟩,
        ⟨(some 10), (.mov (.t 9)), none, []⟩,
        ⟨(some 11), (.off (.t 3) 0), (some (10, false)), []⟩,
        ⟨(some 12), (.load none (.t 11)), (some (10, false)), []⟩,
        ⟨(some 13), (.bin .eql (.t 12) (.c (.i .i64 (2)))), (some (10, false)), []⟩,
        ⟨(some 14), (.pick (.t 10) (.c (.b true)) (.t 13)), none, []⟩,
        ⟨(some 6), (.mov (.t 14)), none, []⟩] [])
      (.cond (.t 6)
        (.seq (.region [⟨(some 4), (.mov (.c (.i .i64 (0)))), none, []⟩,
          ⟨(some 5), (.mov (.c (.i .i64 (1)))), none, []⟩] [])
        .ret)
        (.seq (.region [⟨(some 16), (.off (.t 3) 0), none, []⟩,
          ⟨(some 17), (.load none (.t 16)), none, []⟩,
          ⟨(some 18), (.bin .eql (.t 17) (.c (.i .i64 (5)))), none, []⟩,
          ⟨(some 15), (.mov (.t 18)), none, []⟩] [])
        (.cond (.t 15)
          (.seq (.region [⟨(some 4), (.mov (.c (.i .i64 (1)))), none, []⟩,
            ⟨(some 5), (.mov (.c (.i .i64 (2)))), none, []⟩] [])
          .ret)
          (.seq (.seq (.region [⟨(some 20), (.off (.t 3) 0), none, []⟩,
            ⟨(some 21), (.load none (.t 20)), none, []⟩,
            ⟨(some 22), (.bin .eql (.t 21) (.c (.i .i64 (3)))), none, []⟩,
            ⟨(some 19), (.mov (.t 22)), none, []⟩] [])
          (.cond (.t 19)
            .skip
            (.seq (.region [⟨(some 23), (.off (.t 3) 0), none, []⟩,
              ⟨(some 24), (.load none (.t 23)), none, []⟩,
              ⟨(some 25), (.bin .eql (.t 24) (.c (.i .i64 (4)))), none, []⟩,
              ⟨(some 19), (.mov (.t 25)), none, []⟩] [])
            (.cond (.t 19)
              .skip
              (.seq (.region [⟨(some 26), (.off (.t 3) 0), none, []⟩,
                ⟨(some 27), (.load none (.t 26)), none, []⟩,
                ⟨(some 28), (.bin .eql (.t 27) (.c (.i .i64 (25)))), none, []⟩,
                ⟨(some 19), (.mov (.t 28)), none, []⟩] [])
              (.cond (.t 19)
                .skip
                (.seq (.region [⟨(some 29), (.off (.t 3) 0), none, []⟩,
                  ⟨(some 30), (.load none (.t 29)), none, []⟩,
                  ⟨(some 31), (.bin .eql (.t 30) (.c (.i .i64 (28)))), none, []⟩,
                  ⟨(some 19), (.mov (.t 31)), none, []⟩] [])
                (.cond (.t 19)
                  .skip
                  (.region [⟨(some 32), (.off (.t 3) 0), none, []⟩,
                    ⟨(some 33), (.load none (.t 32)), none, []⟩,
                    ⟨(some 34), (.bin .eql (.t 33) (.c (.i .i64 (30)))), none, []⟩,
                    ⟨(some 19), (.mov (.t 34)), none, []⟩] [])))))))))
          (.cond (.t 19)
            (.seq (.region [⟨(some 4), (.mov (.c (.i .i64 (1)))), none, []⟩,
              ⟨(some 5), (.mov (.c (.i .i64 (0)))), none, []⟩] [])
            .ret)
            (.seq (.seq (.region [⟨(some 36), (.off (.t 3) 0), none, []⟩,
              ⟨(some 37), (.load none (.t 36)), none, []⟩,
              ⟨(some 38), (.bin .geq (.t 37) (.c (.i .i64 (6)))), none, []⟩,
              ⟨(some 39), (.mov (.t 38)), none, []⟩,
              ⟨(some 40), (.off (.t 3) 0), (some (39, true)), []⟩,
              ⟨(some 41), (.load none (.t 40)), (some (39, true)), []⟩,
              ⟨(some 42), (.bin .leq (.t 41) (.c (.i .i64 (8)))), (some (39, true)), []⟩,
              ⟨(some 43), (.pick (.t 39) (.t 42) (.c (.b false))), none, []⟩,
              ⟨(some 35), (.mov (.t 43)), none, []⟩] [])
            (.cond (.t 35)
              .skip
              (.seq (.region [⟨(some 44), (.off (.t 3) 0), none, []⟩,
                ⟨(some 45), (.load none (.t 44)), none, []⟩,
                ⟨(some 46), (.bin .eql (.t 45) (.c (.i .i64 (22)))), none, []⟩,
                ⟨(some 35), (.mov (.t 46)), none, []⟩] [])
              (.cond (.t 35)
                .skip
                (.region [⟨(some 47), (.off (.t 3) 0), none, []⟩,
                  ⟨(some 48), (.load none (.t 47)), none, []⟩,
                  ⟨(some 49), (.bin .eql (.t 48) (.c (.i .i64 (23)))), none, []⟩,
                  ⟨(some 35), (.mov (.t 49)), none, []⟩] [])))))
            (.cond (.t 35)
              (.seq (.region [⟨(some 4), (.mov (.c (.i .i64 (1)))), none, []⟩,
                ⟨(some 5), (.mov (.c (.i .i64 (1)))), none, []⟩] [])
              .ret)
              (.seq (.region [⟨(some 51), (.off (.t 3) 0), none, []⟩,
                ⟨(some 52), (.load none (.t 51)), none, []⟩,
                ⟨(some 53), (.bin .geq (.t 52) (.c (.i .i64 (9)))), none, []⟩,
                ⟨(some 54), (.mov (.t 53)), none, []⟩,
                ⟨(some 55), (.off (.t 3) 0), (some (54, true)), []⟩,
                ⟨(some 56), (.load none (.t 55)), (some (54, true)), []⟩,
                ⟨(some 57), (.bin .leq (.t 56) (.c (.i .i64 (19)))), (some (54, true)), []⟩,
                ⟨(some 58), (.pick (.t 54) (.t 57) (.c (.b false))), none, []⟩,
                ⟨(some 50), (.mov (.t 58)), none, []⟩] [])
              (.cond (.t 50)
                (.seq (.region [⟨(some 4), (.mov (.c (.i .i64 (2)))), none, []⟩,
                  ⟨(some 5), (.mov (.c (.i .i64 (1)))), none, []⟩] [])
                .ret)
                (.seq (.region [⟨(some 60), (.off (.t 3) 0), none, []⟩,
                  ⟨(some 61), (.load none (.t 60)), none, []⟩,
                  ⟨(some 62), (.bin .eql (.t 61) (.c (.i .i64 (20)))), none, []⟩,
                  ⟨(some 59), (.mov (.t 62)), none, []⟩] [])
                (.cond (.t 59)
                  (.seq (.region [⟨(some 63), (.off (.t 3) 1), none, []⟩,
                    ⟨(some 64), (.load none (.t 63)), none, []⟩,
                    ⟨(some 4), (.mov (.t 64)), none, []⟩,
                    ⟨(some 5), (.mov (.c (.i .i64 (1)))), none, []⟩] [])
                  .ret)
                  (.seq (.region [⟨(some 66), (.off (.t 3) 0), none, []⟩,
                    ⟨(some 67), (.load none (.t 66)), none, []⟩,
                    ⟨(some 68), (.bin .eql (.t 67) (.c (.i .i64 (21)))), none, []⟩,
                    ⟨(some 65), (.mov (.t 68)), none, []⟩] [])
                  (.cond (.t 65)
                    (.seq (.seq (.region [⟨(some 69), (.off (.t 3) 1), none, []⟩,
                      ⟨(some 70), (.load none (.t 69)), none, []⟩,
                      ⟨(some 71), (.bin .geq (.t 70) (.c (.i .i64 (0)))), none, []⟩,
                      ⟨(some 72), (.mov (.t 71)), none, []⟩,
                      ⟨(some 73), (.off (.t 3) 1), (some (72, true)), []⟩,
                      ⟨(some 74), (.load none (.t 73)), (some (72, true)), []⟩,
                      ⟨(some 75), (.off (.t 2) 1), (some (72, true)), []⟩,
                      ⟨(some 76), (.load none (.t 75)), (some (72, true)), []⟩,
                      ⟨(some 77), (.lenk 0 (.t 76)), (some (72, true)), []⟩,
                      ⟨(some 78), (.bin .lss (.t 74) (.t 77)), (some (72, true)), []⟩,
                      ⟨(some 79), (.pick (.t 72) (.t 78) (.c (.b false))), none, []⟩] [])
                    (.cond (.t 79)
                      (.region [⟨(some 80), (.off (.t 2) 1), none, []⟩,
                        ⟨(some 81), (.load none (.t 80)), none, []⟩,
                        ⟨(some 82), (.off (.t 3) 1), none, []⟩,
                        ⟨(some 83), (.load none (.t 82)), none, []⟩,
                        ⟨(some 84), (.iaddr 5 (.t 81) (.t 83)), none, []⟩,
                        ⟨(some 85), (.off (.t 84) 3), none, []⟩,
                        ⟨(some 86), (.load none (.t 85)), none, []⟩,
                        ⟨(some 87), (.lenk 0 (.t 86)), none, []⟩,
                        ⟨(some 4), (.mov (.t 87)), none, []⟩] [])
                      .skip))
                    (.seq (.region [⟨(some 88), (.mov (.t 4)), none, []⟩,
                      ⟨(some 4), (.mov (.t 88)), none, []⟩,
                      ⟨(some 5), (.mov (.c (.i .i64 (1)))), none, []⟩] [])
                    .ret))
                    (.seq (.region [⟨(some 90), (.off (.t 3) 0), none, []⟩,
                      ⟨(some 91), (.load none (.t 90)), none, []⟩,
                      ⟨(some 92), (.bin .eql (.t 91) (.c (.i .i64 (29)))), none, []⟩,
                      ⟨(some 89), (.mov (.t 92)), none, []⟩] [])
                    (.cond (.t 89)
                      (.seq (.seq (.region [⟨(some 93), (.off (.t 3) 1), none, []⟩,
                        ⟨(some 94), (.load none (.t 93)), none, []⟩,
                        ⟨(some 95), (.bin .geq (.t 94) (.c (.i .i64 (0)))), none, []⟩,
                        ⟨(some 96), (.mov (.t 95)), none, []⟩,
                        ⟨(some 97), (.off (.t 3) 1), (some (96, true)), []⟩,
                        ⟨(some 98), (.load none (.t 97)), (some (96, true)), []⟩,
                        ⟨(some 99), (.off (.t 2) 0), (some (96, true)), []⟩,
                        ⟨(some 100), (.load none (.t 99)), (some (96, true)), []⟩,
                        ⟨(some 101), (.lenk 0 (.t 100)), (some (96, true)), []⟩,
                        ⟨(some 102), (.bin .lss (.t 98) (.t 101)), (some (96, true)), []⟩,
                        ⟨(some 103), (.pick (.t 96) (.t 102) (.c (.b false))), none, []⟩] [])
                      (.cond (.t 103)
                        (.region [⟨(some 104), (.off (.t 2) 0), none, []⟩,
                          ⟨(some 105), (.load none (.t 104)), none, []⟩,
                          ⟨(some 106), (.off (.t 3) 1), none, []⟩,
                          ⟨(some 107), (.load none (.t 106)), none, []⟩,
                          ⟨(some 108), (.iaddr 4 (.t 105) (.t 107)), none, []⟩,
                          ⟨(some 109), (.off (.t 108) 1), none, []⟩,
                          ⟨(some 110), (.load none (.t 109)), none, []⟩,
                          ⟨(some 4), (.mov (.t 110)), none, []⟩] [])
                        .skip))
                      (.seq (.region [⟨(some 111), (.mov (.t 4)), none, []⟩,
                        ⟨(some 4), (.mov (.t 111)), none, []⟩,
                        ⟨(some 5), (.mov (.c (.i .i64 (1)))), none, []⟩] [])
                      .ret))
                      (.seq (.region [⟨(some 113), (.off (.t 3) 0), none, []⟩,
                        ⟨(some 114), (.load none (.t 113)), none, []⟩,
                        ⟨(some 115), (.bin .eql (.t 114) (.c (.i .i64 (31)))), none, []⟩,
                        ⟨(some 112), (.mov (.t 115)), none, []⟩] [])
                      (.cond (.t 112)
                        (.seq (.seq (.region [⟨(some 116), (.off (.t 3) 1), none, []⟩,
                          ⟨(some 117), (.load none (.t 116)), none, []⟩,
                          ⟨(some 118), (.bin .neq (.t 117) (.c (.i .i64 (3)))), none, []⟩,
                          ⟨(some 119), (.mov (.t 118)), none, []⟩,
                          ⟨(some 120), (.off (.t 3) 1), (some (119, true)), []⟩,
                          ⟨(some 121), (.load none (.t 120)), (some (119, true)), []⟩,
                          ⟨(some 122), (.bin .neq (.t 121) (.c (.i .i64 (5)))), (some (119, true)), []⟩,
                          ⟨(some 123), (.pick (.t 119) (.t 122) (.c (.b false))), none, []⟩,
                          ⟨(some 124), (.mov (.t 123)), none, []⟩,
                          ⟨(some 125), (.off (.t 3) 1), (some (124, true)), []⟩,
                          ⟨(some 126), (.load none (.t 125)), (some (124, true)), []⟩,
                          ⟨(some 127), (.bin .neq (.t 126) (.c (.i .i64 (6)))), (some (124, true)), []⟩,
                          ⟨(some 128), (.pick (.t 124) (.t 127) (.c (.b false))), none, []⟩] [])
                        (.cond (.t 128)
                          (.region [⟨(some 4), (.mov (.c (.i .i64 (1)))), none, []⟩] [])
                          .skip))
                        (.seq (.region [⟨(some 129), (.mov (.t 4)), none, []⟩,
                          ⟨(some 4), (.mov (.t 129)), none, []⟩,
                          ⟨(some 5), (.mov (.c (.i .i64 (1)))), none, []⟩] [])
                        .ret))
                        .skip)))))))))))))))))))
    (.seq (.region [⟨(some 4), (.mov (.c (.i .i64 (0)))), none, []⟩,
      ⟨(some 5), (.mov (.c (.i .i64 (0)))), none, []⟩] [])
    .ret))),
    130, 2, [.t 4, .t 5], 0⟩
theorem tr96 : trFunc Tryz.prog [([], []), ([], []), ([], []), ([], []), ([], []), ([], []), ([], []), ([], []), ([], []), ([], []), ([], []), ([], []), ([], []), ([], []), ([], []), ([], []), ([], []), ([], []), ([], []), ([], []), ([], []), ([], []), ([], []), ([], []), ([], []), ([], []), ([], []), ([], []), ([], []), ([], []), ([], []), ([], []), ([], []), ([], []), ([], []), ([], []), ([], []), ([], []), ([], []), ([], []), ([], []), ([], [])] 0 Tryz.f96 = some (plain1 I96) := by kernel_rfl
theorem ck96 : ckC 1 I96.body = true := by kernel_rfl

/-- 'encore/arith.may'. -/
def I97 : IFunc :=
  ⟨(.seq (.region [⟨(some 2), (.mov (.c (.b false))), none, []⟩] [])
    (.seq (.region [⟨(some 3), (.mov (.t 0)), none, []⟩,
      ⟨(some 4), (.call 47 [(.t 3), (.f 122)]), none, []⟩,
      ⟨(some 5), (.un .not (.t 4)), none, []⟩,
      ⟨(some 2), (.mov (.t 5)), none, []⟩] [])
    .ret)),
    6, 1, [.t 2], 0⟩
theorem tr97 : trFunc Tryz.prog [([], []), ([], [])] 0 Tryz.f97 = some (plain1 I97) := by kernel_rfl
theorem ck97 : ckC 1 I97.body = true := by kernel_rfl

/-- 'encore/arith.num'. -/
def I98 : IFunc :=
  ⟨(.seq (.region [⟨(some 2), (.alloc [(.i .i64 (0)), (.i .i64 (0)), (.s []), .ns, .ns]), none, []⟩] [])
    (.seq (.region [⟨(some 3), (.mov (.t 0)), none, []⟩,
      ⟨(some 4), (.build [(.i .i64 (0)), (.i .i64 (0)), (.s []), .ns, .ns] [(0, 1, (.c (.i .i64 (1)))), (1, 1, (.t 3))]), none, []⟩,
      ⟨none, (.store 5 (.t 2) (.t 4)), none, []⟩] [])
    .ret)),
    5, 1, [.c 2 (some 5)], 0⟩
theorem tr98 : trFunc Tryz.prog [([], []), ([], [])] 0 Tryz.f98 = some (plain1 I98) := by kernel_rfl
theorem ck98 : ckC 1 I98.body = true := by kernel_rfl

/-- 'encore/arith.yes'. -/
def I99 : IFunc :=
  ⟨(.seq (.region [⟨(some 2), (.alloc [(.i .i64 (0)), (.i .i64 (0)), (.s []), .ns, .ns]), none, []⟩] [])
    (.seq (.region [⟨(some 4), (.build [(.i .i64 (0)), (.i .i64 (0)), (.s []), .ns, .ns] [(0, 1, (.c (.i .i64 (2))))]), none, []⟩,
      ⟨(some 3), (.alloc [(.i .i64 (0)), (.i .i64 (0)), (.s []), .ns, .ns]), none, []⟩,
      ⟨none, (.store 5 (.t 3) (.t 4)), none, []⟩] [])
    (.seq (.seq (.region [⟨(some 5), (.mov (.t 0)), none, []⟩] [])
    (.cond (.t 5)
      (.region [⟨(some 6), (.off (.t 3) 1), none, []⟩,
        ⟨none, (.store 1 (.t 6) (.c (.i .i64 (1)))), none, []⟩] [])
      .skip))
    (.seq (.region [⟨(some 7), (.load (some 5) (.t 3)), none, []⟩,
      ⟨none, (.store 5 (.t 2) (.t 7)), none, []⟩] [])
    .ret)))),
    8, 1, [.c 2 (some 5)], 0⟩
theorem tr99 : trFunc Tryz.prog [([], []), ([], []), ([], []), ([], []), ([], []), ([], [])] 0 Tryz.f99 = some (plain1 I99) := by kernel_rfl
theorem ck99 : ckC 1 I99.body = true := by kernel_rfl

/-- 'encore/value.Same'. -/
def I100 : IFunc :=
  ⟨(.seq (.region [⟨(some 2), (.box (.t 0)), none, []⟩,
      ⟨(some 3), (.box (.t 1)), none, []⟩,
      ⟨(some 4), (.mov (.c (.b false))), none, []⟩] [])
    (.seq (.region [⟨(some 5), (.off (.t 2) 0), none, []⟩,
      ⟨(some 6), (.load none (.t 5)), none, []⟩,
      ⟨(some 7), (.off (.t 3) 0), none, []⟩,
      ⟨(some 8), (.load none (.t 7)), none, []⟩,
      ⟨(some 9), (.bin .eql (.t 6) (.t 8)), none, []⟩,
      ⟨(some 10), (.mov (.t 9)), none, []⟩,
      ⟨(some 11), (.off (.t 2) 1), (some (10, true)), []⟩,
      ⟨(some 12), (.load none (.t 11)), (some (10, true)), []⟩,
      ⟨(some 13), (.off (.t 3) 1), (some (10, true)), []⟩,
      ⟨(some 14), (.load none (.t 13)), (some (10, true)), []⟩,
      ⟨(some 15), (.bin .eql (.t 12) (.t 14)), (some (10, true)), []⟩,
      ⟨(some 16), (.pick (.t 10) (.t 15) (.c (.b false))), none, []⟩,
      ⟨(some 17), (.mov (.t 16)), none, []⟩,
      ⟨(some 18), (.off (.t 2) 2), (some (17, true)), []⟩,
      ⟨(some 19), (.load none (.t 18)), (some (17, true)), []⟩,
      ⟨(some 20), (.off (.t 3) 2), (some (17, true)), []⟩,
      ⟨(some 21), (.load none (.t 20)), (some (17, true)), []⟩,
      ⟨(some 22), (.bin .eql (.t 19) (.t 21)), (some (17, true)), []⟩,
      ⟨(some 23), (.pick (.t 17) (.t 22) (.c (.b false))), none, []⟩,
      ⟨(some 24), (.mov (.t 23)), none, []⟩,
      ⟨(some 25), (.off (.t 2) 4), (some (24, true)), []⟩,
      ⟨(some 26), (.load none (.t 25)), (some (24, true)), []⟩,
      ⟨(some 27), (.off (.t 3) 4), (some (24, true)), []⟩,
      ⟨(some 28), (.load none (.t 27)), (some (24, true)), []⟩,
      ⟨(some 29), (.call 123 [(.t 26), (.t 28)]), (some (24, true)), []⟩,
      ⟨(some 30), (.pick (.t 24) (.t 29) (.c (.b false))), none, []⟩,
      ⟨(some 31), (.mov (.t 30)), none, []⟩,
      ⟨(some 32), (.off (.t 2) 3), (some (31, true)), []⟩,
      ⟨(some 33), (.load none (.t 32)), (some (31, true)), []⟩,
      ⟨(some 34), (.off (.t 3) 3), (some (31, true)), []⟩,
      ⟨(some 35), (.load none (.t 34)), (some (31, true)), []⟩,
      ⟨(some 36), (.call 124 [(.t 33), (.t 35), (.f 100)]), (some (31, true)), []⟩,
      ⟨(some 37), (.pick (.t 31) (.t 36) (.c (.b false))), none, []⟩,
      ⟨(some 4), (.mov (.t 37)), none, []⟩] [])
    .ret)),
    38, 2, [.t 4], 0⟩
theorem tr100 : trFunc Tryz.prog [([], []), ([], [])] 0 Tryz.f100 = some (plain1 I100) := by kernel_rfl
theorem ck100 : ckC 1 I100.body = true := by kernel_rfl

/-- 'encore/arith.ints'. -/
def I101 : IFunc :=
  ⟨(.seq (.region [⟨(some 6), (.alloc [(.i .i64 (0)), (.i .i64 (0)), (.s []), .ns, .ns]), none, []⟩,
      ⟨(some 7), (.mov (.c (.i .i64 (0)))), none, []⟩] [])
    (.seq (.seq (.region [⟨(some 8), (.mov (.t 0)), none, []⟩] [])
    (.block 0
      (.seq (.block 6
        (.seq (.block 5
          (.seq (.block 4
            (.seq (.block 3
              (.seq (.block 2
                (.seq (.block 1
                  (.seq (.seq (.seq (.region [⟨(some 10), (.bin .eql (.t 8) (.c (.i .i64 (9)))), none, []⟩,
                    ⟨(some 9), (.mov (.t 10)), none, []⟩] [])
                  (.cond (.t 9)
                    (.exit 1)
                    .skip))
                  (.seq (.seq (.region [⟨(some 12), (.bin .eql (.t 8) (.c (.i .i64 (10)))), none, []⟩,
                    ⟨(some 11), (.mov (.t 12)), none, []⟩] [])
                  (.cond (.t 11)
                    (.exit 2)
                    .skip))
                  (.seq (.seq (.region [⟨(some 14), (.bin .eql (.t 8) (.c (.i .i64 (11)))), none, []⟩,
                    ⟨(some 13), (.mov (.t 14)), none, []⟩] [])
                  (.cond (.t 13)
                    (.exit 3)
                    .skip))
                  (.seq (.seq (.region [⟨(some 16), (.bin .eql (.t 8) (.c (.i .i64 (17)))), none, []⟩,
                    ⟨(some 15), (.mov (.t 16)), none, []⟩] [])
                  (.cond (.t 15)
                    (.exit 4)
                    .skip))
                  (.seq (.seq (.region [⟨(some 18), (.bin .eql (.t 8) (.c (.i .i64 (16)))), none, []⟩,
                    ⟨(some 17), (.mov (.t 18)), none, []⟩] [])
                  (.cond (.t 17)
                    (.exit 5)
                    .skip))
                  (.seq (.seq (.region [⟨(some 20), (.bin .eql (.t 8) (.c (.i .i64 (12)))), none, []⟩,
                    ⟨(some 19), (.mov (.t 20)), none, []⟩] [])
                  (.cond (.t 19)
                    .skip
                    (.region [⟨(some 21), (.bin .eql (.t 8) (.c (.i .i64 (13)))), none, []⟩,
                      ⟨(some 19), (.mov (.t 21)), none, []⟩] [])))
                  (.cond (.t 19)
                    (.exit 6)
                    .skip)))))))
                  (.exit 0)))
                (.seq (.seq (.region [⟨(some 22), (.mov (.t 1)), none, []⟩,
                  ⟨(some 23), (.mov (.t 2)), none, []⟩,
                  ⟨(some 24), (.bin .add (.t 22) (.t 23)), none, []⟩,
                  ⟨(some 25), (.call 98 [(.t 24)]), none, []⟩,
                  ⟨none, (.store 5 (.t 6) (.t 25)), none, []⟩,
                  ⟨(some 7), (.mov (.c (.i .i64 (0)))), none, []⟩] [])
                .ret)
                (.exit 0))))
              (.seq (.seq (.region [⟨(some 26), (.mov (.t 1)), none, []⟩,
                ⟨(some 27), (.mov (.t 2)), none, []⟩,
                ⟨(some 28), (.bin .sub (.t 26) (.t 27)), none, []⟩,
                ⟨(some 29), (.call 98 [(.t 28)]), none, []⟩,
                ⟨none, (.store 5 (.t 6) (.t 29)), none, []⟩,
                ⟨(some 7), (.mov (.c (.i .i64 (0)))), none, []⟩] [])
              .ret)
              (.exit 0))))
            (.seq (.seq (.region [⟨(some 30), (.mov (.t 1)), none, []⟩,
              ⟨(some 31), (.mov (.t 2)), none, []⟩,
              ⟨(some 32), (.bin .mul (.t 30) (.t 31)), none, []⟩,
              ⟨(some 33), (.call 98 [(.t 32)]), none, []⟩,
              ⟨none, (.store 5 (.t 6) (.t 33)), none, []⟩,
              ⟨(some 7), (.mov (.c (.i .i64 (0)))), none, []⟩] [])
            .ret)
            (.exit 0))))
          (.seq (.region [⟨(some 34), (.mov (.t 1)), none, []⟩,
            ⟨(some 35), (.mov (.t 2)), none, []⟩,
            ⟨(some 36), (.bin .eql (.t 34) (.t 35)), none, []⟩] [])
          (.cond (.t 36)
            (.seq (.region [⟨(some 37), (.call 99 [(.c (.b true))]), none, []⟩,
              ⟨none, (.store 5 (.t 6) (.t 37)), none, []⟩,
              ⟨(some 7), (.mov (.c (.i .i64 (0)))), none, []⟩] [])
            .ret)
            .skip))))
        (.seq (.seq (.region [⟨(some 38), (.mov (.t 1)), none, []⟩,
          ⟨(some 39), (.mov (.t 2)), none, []⟩,
          ⟨(some 40), (.bin .lss (.t 38) (.t 39)), none, []⟩,
          ⟨(some 41), (.call 99 [(.t 40)]), none, []⟩,
          ⟨none, (.store 5 (.t 6) (.t 41)), none, []⟩,
          ⟨(some 7), (.mov (.c (.i .i64 (0)))), none, []⟩] [])
        .ret)
        (.exit 0))))
      (.seq (.seq (.seq (.region [⟨(some 42), (.mov (.t 2)), none, []⟩,
        ⟨(some 43), (.bin .eql (.t 42) (.c (.i .i64 (0)))), none, []⟩] [])
      (.cond (.t 43)
        (.seq (.region [⟨(some 44), (.build [(.i .i64 (0)), (.i .i64 (0)), (.s []), .ns, .ns] []), none, []⟩,
          ⟨none, (.store 5 (.t 6) (.t 44)), none, []⟩,
          ⟨(some 7), (.mov (.c (.i .i64 (1)))), none, []⟩] [])
        .ret)
        .skip))
      (.seq (.seq (.region [⟨(some 45), (.mov (.t 0)), none, []⟩,
        ⟨(some 46), (.bin .eql (.t 45) (.c (.i .i64 (12)))), none, []⟩] [])
      (.cond (.t 46)
        (.seq (.region [⟨(some 47), (.mov (.t 1)), none, []⟩,
          ⟨(some 48), (.mov (.t 2)), none, []⟩,
          ⟨(some 49), (.bin .quo (.t 47) (.t 48)), none, []⟩,
          ⟨(some 50), (.call 98 [(.t 49)]), none, []⟩,
          ⟨none, (.store 5 (.t 6) (.t 50)), none, []⟩,
          ⟨(some 7), (.mov (.c (.i .i64 (0)))), none, []⟩] [])
        .ret)
        .skip))
      (.seq (.region [⟨(some 51), (.mov (.t 1)), none, []⟩,
        ⟨(some 52), (.mov (.t 2)), none, []⟩,
        ⟨(some 53), (.bin .rem (.t 51) (.t 52)), none, []⟩,
        ⟨(some 54), (.call 98 [(.t 53)]), none, []⟩,
        ⟨none, (.store 5 (.t 6) (.t 54)), none, []⟩,
        ⟨(some 7), (.mov (.c (.i .i64 (0)))), none, []⟩] [])
      .ret)))
      (.exit 0)))))
    (.seq (.region [⟨(some 55), (.build [(.i .i64 (0)), (.i .i64 (0)), (.s []), .ns, .ns] []), none, []⟩,
      ⟨none, (.store 5 (.t 6) (.t 55)), none, []⟩,
      ⟨(some 7), (.mov (.c (.i .i64 (2)))), none, []⟩] [])
    .ret))),
    56, 3, [.c 6 (some 5), .t 7], 0⟩
theorem tr101 : trFunc Tryz.prog [([], []), ([], []), ([], []), ([], []), ([], []), ([], []), ([], []), ([], []), ([], []), ([], []), ([], []), ([], []), ([], []), ([], []), ([], []), ([], []), ([], []), ([], []), ([], []), ([], []), ([], []), ([], []), ([], []), ([], []), ([], []), ([], []), ([], []), ([], []), ([], []), ([], []), ([], [])] 0 Tryz.f101 = some (plain1 I101) := by kernel_rfl
theorem ck101 : ckC 1 I101.body = true := by kernel_rfl

/-- 'encore/arith.texts'. -/
def I102 : IFunc :=
  ⟨(.seq (.region [⟨(some 6), (.alloc [(.i .i64 (0)), (.i .i64 (0)), (.s []), .ns, .ns]), none, []⟩,
      ⟨(some 7), (.mov (.c (.i .i64 (0)))), none, []⟩] [])
    (.seq (.seq (.region [⟨(some 8), (.mov (.t 0)), none, []⟩] [])
    (.block 0
      (.seq (.block 3
        (.seq (.block 2
          (.seq (.block 1
            (.seq (.seq (.seq (.region [⟨(some 10), (.bin .eql (.t 8) (.c (.i .i64 (9)))), none, []⟩,
              ⟨(some 9), (.mov (.t 10)), none, []⟩] [])
            (.cond (.t 9)
              (.exit 1)
              .skip))
            (.seq (.seq (.region [⟨(some 12), (.bin .eql (.t 8) (.c (.i .i64 (17)))), none, []⟩,
              ⟨(some 11), (.mov (.t 12)), none, []⟩] [])
            (.cond (.t 11)
              (.exit 2)
              .skip))
            (.seq (.region [⟨(some 14), (.bin .eql (.t 8) (.c (.i .i64 (16)))), none, []⟩,
              ⟨(some 13), (.mov (.t 14)), none, []⟩] [])
            (.cond (.t 13)
              (.exit 3)
              .skip))))
            (.exit 0)))
          (.seq (.seq (.region [⟨(some 15), (.mov (.t 1)), none, []⟩,
            ⟨(some 16), (.mov (.t 2)), none, []⟩,
            ⟨(some 17), (.bin .add (.t 15) (.t 16)), none, []⟩,
            ⟨(some 18), (.build [(.i .i64 (0)), (.i .i64 (0)), (.s []), .ns, .ns] [(0, 1, (.c (.i .i64 (3)))), (2, 1, (.t 17))]), none, []⟩,
            ⟨(some 19), (.call 105 [(.t 18)]), none, []⟩,
            ⟨(some 20), (.ext (.t 19) 0), none, []⟩,
            ⟨(some 21), (.ext (.t 19) 1), none, []⟩,
            ⟨none, (.store 5 (.t 6) (.t 20)), none, []⟩,
            ⟨(some 7), (.mov (.t 21)), none, []⟩] [])
          .ret)
          (.exit 0))))
        (.seq (.region [⟨(some 22), (.mov (.t 1)), none, []⟩,
          ⟨(some 23), (.mov (.t 2)), none, []⟩,
          ⟨(some 24), (.bin .eql (.t 22) (.t 23)), none, []⟩] [])
        (.cond (.t 24)
          (.seq (.region [⟨(some 25), (.call 99 [(.c (.b true))]), none, []⟩,
            ⟨none, (.store 5 (.t 6) (.t 25)), none, []⟩,
            ⟨(some 7), (.mov (.c (.i .i64 (0)))), none, []⟩] [])
          .ret)
          .skip))))
      (.seq (.seq (.region [⟨(some 26), (.mov (.t 1)), none, []⟩,
        ⟨(some 27), (.mov (.t 2)), none, []⟩,
        ⟨(some 28), (.bin .lss (.t 26) (.t 27)), none, []⟩,
        ⟨(some 29), (.call 99 [(.t 28)]), none, []⟩,
        ⟨none, (.store 5 (.t 6) (.t 29)), none, []⟩,
        ⟨(some 7), (.mov (.c (.i .i64 (0)))), none, []⟩] [])
      .ret)
      (.exit 0)))))
    (.seq (.region [⟨(some 30), (.build [(.i .i64 (0)), (.i .i64 (0)), (.s []), .ns, .ns] []), none, []⟩,
      ⟨none, (.store 5 (.t 6) (.t 30)), none, []⟩,
      ⟨(some 7), (.mov (.c (.i .i64 (2)))), none, []⟩] [])
    .ret))),
    31, 3, [.c 6 (some 5), .t 7], 0⟩
theorem tr102 : trFunc Tryz.prog [([], []), ([], []), ([], []), ([], []), ([], []), ([], []), ([], []), ([], []), ([], []), ([], []), ([], []), ([], []), ([], []), ([], [])] 0 Tryz.f102 = some (plain1 I102) := by kernel_rfl
theorem ck102 : ckC 1 I102.body = true := by kernel_rfl

/-- 'encore/arith.longer'. -/
def I103 : IFunc :=
  ⟨(.seq (.region [⟨(some 2), (.box (.t 0)), none, []⟩,
      ⟨(some 4), (.alloc [(.i .i64 (0)), (.i .i64 (0)), (.s []), .ns, .ns]), none, []⟩,
      ⟨(some 5), (.mov (.c (.i .i64 (0)))), none, []⟩] [])
    (.seq (.region [⟨(some 6), (.off (.t 2) 3), none, []⟩,
      ⟨(some 7), (.load none (.t 6)), none, []⟩,
      ⟨(some 8), (.call 49 [(.t 7)]), none, []⟩,
      ⟨(some 9), (.mov (.t 1)), none, []⟩,
      ⟨(some 10), (.app 5 80 (.t 8) (.t 9)), none, []⟩,
      ⟨(some 11), (.build [(.i .i64 (0)), (.i .i64 (0)), (.s []), .ns, .ns] [(0, 1, (.c (.i .i64 (4)))), (3, 1, (.t 10))]), none, []⟩,
      ⟨(some 12), (.call 105 [(.t 11)]), none, []⟩,
      ⟨(some 13), (.ext (.t 12) 0), none, []⟩,
      ⟨(some 14), (.ext (.t 12) 1), none, []⟩,
      ⟨none, (.store 5 (.t 4) (.t 13)), none, []⟩,
      ⟨(some 5), (.mov (.t 14)), none, []⟩] [])
    .ret)),
    15, 2, [.c 4 (some 5), .t 5], 0⟩
theorem tr103 : trFunc Tryz.prog [([], []), ([], [])] 0 Tryz.f103 = some (plain1 I103) := by kernel_rfl
theorem ck103 : ckC 1 I103.body = true := by kernel_rfl

/-- 'encore/arith.own'. -/
def L104a : ICode :=
  (.seq (.region [⟨(some 16), (.bin .lss (.t 15) (.t 14)), none, []⟩] [])
    (.seq (.cond (.t 16)
      .skip
      (.exit 0))
    (.seq (.block 1
      (.seq (.region [⟨(some 17), (.mov (.t 15)), none, []⟩,
        ⟨(some 3), (.mov (.t 17)), none, []⟩] [])
      (.region [⟨(some 18), (.off (.t 1) 3), none, []⟩,
        ⟨(some 19), (.load none (.t 18)), none, []⟩,
        ⟨(some 20), (.mov (.t 3)), none, []⟩,
        ⟨(some 21), (.off (.t 1) 3), none, []⟩,
        ⟨(some 22), (.load none (.t 21)), none, []⟩,
        ⟨(some 23), (.mov (.t 3)), none, []⟩,
        ⟨(some 24), (.iaddr 5 (.t 22) (.t 23)), none, []⟩,
        ⟨(some 25), (.load (some 5) (.t 24)), none, []⟩,
        ⟨(some 26), (.call 104 [(.t 25)]), none, [(19, (.load none (.t 18)), none)]⟩,
        ⟨(some 27), (.iaddr 5 (.t 19) (.t 20)), none, []⟩,
        ⟨none, (.store 5 (.t 27) (.t 26)), none, []⟩] [])))
    (.region [⟨(some 28), (.bin .add (.t 15) (.c (.i .i64 (1)))), none, []⟩,
      ⟨(some 15), (.mov (.t 28)), none, []⟩] []))))
def I104 : IFunc :=
  ⟨(.seq (.region [⟨(some 1), (.box (.t 0)), none, []⟩,
      ⟨(some 2), (.alloc [(.i .i64 (0)), (.i .i64 (0)), (.s []), .ns, .ns]), none, []⟩] [])
    (.seq (.region [⟨(some 4), (.off (.t 1) 4), none, []⟩,
      ⟨(some 5), (.load none (.t 4)), none, []⟩,
      ⟨(some 7), (.off (.t 1) 3), none, []⟩,
      ⟨(some 8), (.load none (.t 7)), none, []⟩,
      ⟨(some 6), (.call 50 [(.t 5)]), none, [(8, (.load none (.t 7)), none)]⟩,
      ⟨(some 10), (.off (.t 1) 4), none, []⟩,
      ⟨(some 9), (.call 49 [(.t 8)]), none, []⟩,
      ⟨none, (.store 1 (.t 10) (.t 6)), none, []⟩,
      ⟨(some 11), (.off (.t 1) 3), none, []⟩,
      ⟨none, (.store 1 (.t 11) (.t 9)), none, []⟩] [])
    (.seq (.seq (.region [⟨(some 12), (.off (.t 1) 3), none, []⟩,
      ⟨(some 13), (.load none (.t 12)), none, []⟩,
      ⟨(some 14), (.lenk 0 (.t 13)), none, []⟩,
      ⟨(some 15), (.mov (.c (.i .i64 (0)))), none, []⟩] [])
    (.block 0
      (.loop L104a)))
    (.seq (.region [⟨(some 29), (.load (some 5) (.t 1)), none, []⟩,
      ⟨none, (.store 5 (.t 2) (.t 29)), none, []⟩] [])
    .ret)))),
    30, 1, [.c 2 (some 5)], 0⟩
theorem tr104 : trFunc Tryz.prog [([], []), ([0, 1, 3, 4, 2, 6, 5, 7, 8, 9], []), ([], []), ([], []), ([], []), ([], []), ([0, 1, 2, 3, 4, 5, 6, 7, 8, 9, 10], []), ([], []), ([], [])] 0 Tryz.f104 = some (plain1 I104) := by kernel_rfl
theorem ck104 : ckC 1 I104.body = true := by kernel_rfl

/-- 'encore/arith.made'. -/
def I105 : IFunc :=
  ⟨(.seq (.region [⟨(some 1), (.box (.t 0)), none, []⟩,
      ⟨(some 2), (.alloc [(.i .i64 (0)), (.i .i64 (0)), (.s []), .ns, .ns]), none, []⟩,
      ⟨(some 3), (.mov (.c (.i .i64 (0)))), none, []⟩] [])
    (.seq (.seq (.region [⟨(some 4), (.load (some 5) (.t 1)), none, []⟩,
      ⟨(some 5), (.call 36 [(.t 4)]), none, []⟩,
      ⟨(some 6), (.bin .neq (.t 5) (.c (.i .i64 (0)))), none, []⟩] [])
    (.cond (.t 6)
      (.seq (.region [⟨(some 7), (.build [(.i .i64 (0)), (.i .i64 (0)), (.s []), .ns, .ns] []), none, []⟩,
        ⟨none, (.store 5 (.t 2) (.t 7)), none, []⟩,
        ⟨(some 3), (.mov (.c (.i .i64 (4)))), none, []⟩] [])
      .ret)
      .skip))
    (.seq (.region [⟨(some 8), (.load (some 5) (.t 1)), none, []⟩,
      ⟨(some 9), (.call 104 [(.t 8)]), none, []⟩,
      ⟨none, (.store 5 (.t 2) (.t 9)), none, []⟩,
      ⟨(some 3), (.mov (.c (.i .i64 (0)))), none, []⟩] [])
    .ret))),
    10, 1, [.c 2 (some 5), .t 3], 0⟩
theorem tr105 : trFunc Tryz.prog [([], []), ([], []), ([], []), ([], []), ([], [])] 0 Tryz.f105 = some (plain1 I105) := by kernel_rfl
theorem ck105 : ckC 1 I105.body = true := by kernel_rfl

/-- 'encore/arith.named'. -/
def I106 : IFunc :=
  ⟨(.seq (.region [⟨(some 2), (.mov (.c (.b false))), none, []⟩] [])
    (.seq (.region [⟨(some 4), (.mov (.t 0)), none, []⟩,
      ⟨(some 5), (.mov (.t 0)), none, []⟩,
      ⟨(some 6), (.lenk 0 (.t 5)), none, []⟩,
      ⟨(some 7), (.mksl 5 80 [(.i .i64 (0)), (.i .i64 (0)), (.s []), .ns, .ns] (.t 6) (.t 6)), none, []⟩,
      ⟨(some 8), (.build [(.i .i64 (0)), (.i .i64 (0)), (.s []), .ns, .ns] [(0, 1, (.c (.i .i64 (5)))), (4, 1, (.t 4)), (3, 1, (.t 7))]), none, []⟩,
      ⟨(some 3), (.alloc [(.i .i64 (0)), (.i .i64 (0)), (.s []), .ns, .ns]), none, []⟩,
      ⟨none, (.store 5 (.t 3) (.t 8)), none, []⟩] [])
    (.seq (.region [⟨(some 9), (.mov (.t 0)), none, []⟩,
      ⟨(some 10), (.lenk 0 (.t 9)), none, []⟩,
      ⟨(some 11), (.bin .leq (.t 10) (.c (.i .i64 (8)))), none, []⟩,
      ⟨(some 12), (.mov (.t 11)), none, []⟩,
      ⟨(some 13), (.load (some 5) (.t 3)), (some (12, true)), []⟩,
      ⟨(some 14), (.call 36 [(.t 13)]), (some (12, true)), []⟩,
      ⟨(some 15), (.bin .eql (.t 14) (.c (.i .i64 (0)))), (some (12, true)), []⟩,
      ⟨(some 16), (.pick (.t 12) (.t 15) (.c (.b false))), none, []⟩,
      ⟨(some 2), (.mov (.t 16)), none, []⟩] [])
    .ret))),
    17, 1, [.t 2], 0⟩
theorem tr106 : trFunc Tryz.prog [([], []), ([], []), ([], [])] 0 Tryz.f106 = some (plain1 I106) := by kernel_rfl
theorem ck106 : ckC 1 I106.body = true := by kernel_rfl

/-- 'slices.BinarySearch[[]string,string]'. -/
def L107a : ICode :=
  (.seq (.seq (.region [⟨(some 13), (.mov (.t 7)), none, []⟩,
      ⟨(some 14), (.mov (.t 8)), none, []⟩,
      ⟨(some 15), (.bin .lss (.t 13) (.t 14)), none, []⟩] [])
    (.cond (.t 15)
      .skip
      (.exit 0)))
    (.block 1
      (.seq (.region [⟨(some 16), (.mov (.t 7)), none, []⟩,
        ⟨(some 17), (.mov (.t 8)), none, []⟩,
        ⟨(some 18), (.bin .add (.t 16) (.t 17)), none, []⟩,
        ⟨(some 19), (.conv .u64 (.t 18)), none, []⟩,
        ⟨(some 20), (.bin .shr (.t 19) (.c (.i .u64 (1)))), none, []⟩,
        ⟨(some 21), (.conv .i64 (.t 20)), none, []⟩,
        ⟨(some 9), (.mov (.t 21)), none, []⟩] [])
      (.seq (.region [⟨(some 22), (.mov (.t 0)), none, []⟩,
        ⟨(some 23), (.mov (.t 9)), none, []⟩,
        ⟨(some 24), (.iaddr 1 (.t 22) (.t 23)), none, []⟩,
        ⟨(some 25), (.load none (.t 24)), none, []⟩,
        ⟨(some 26), (.mov (.t 1)), none, []⟩,
        ⟨(some 27), (.call 125 [(.t 25), (.t 26)]), none, []⟩] [])
      (.cond (.t 27)
        (.region [⟨(some 28), (.mov (.t 9)), none, []⟩,
          ⟨(some 29), (.bin .add (.t 28) (.c (.i .i64 (1)))), none, []⟩,
          ⟨(some 7), (.mov (.t 29)), none, []⟩] [])
        (.region [⟨(some 30), (.mov (.t 9)), none, []⟩,
          ⟨(some 8), (.mov (.t 30)), none, []⟩] []))))))
def I107 : IFunc :=
  ⟨(.seq (.region [⟨(some 4), (.mov (.c (.i .i64 (0)))), none, []⟩,
      ⟨(some 5), (.mov (.c (.b false))), none, []⟩] [])
    (.seq (.region [⟨(some 10), (.mov (.t 0)), none, []⟩,
      ⟨(some 11), (.lenk 0 (.t 10)), none, []⟩,
      ⟨(some 6), (.mov (.t 11)), none, []⟩] [])
    (.seq (.region [⟨(some 12), (.mov (.t 6)), none, []⟩,
      ⟨(some 7), (.mov (.c (.i .i64 (0)))), none, []⟩,
      ⟨(some 8), (.mov (.t 12)), none, []⟩] [])
    (.seq (.block 0
      (.loop L107a))
    (.seq (.region [⟨(some 31), (.mov (.t 7)), none, []⟩,
      ⟨(some 32), (.mov (.t 7)), none, []⟩,
      ⟨(some 33), (.mov (.t 6)), none, []⟩,
      ⟨(some 34), (.bin .lss (.t 32) (.t 33)), none, []⟩,
      ⟨(some 35), (.mov (.t 34)), none, []⟩,
      ⟨(some 36), (.mov (.t 0)), (some (35, true)), []⟩,
      ⟨(some 37), (.mov (.t 7)), (some (35, true)), []⟩,
      ⟨(some 38), (.iaddr 1 (.t 36) (.t 37)), (some (35, true)), []⟩,
      ⟨(some 39), (.load none (.t 38)), (some (35, true)), []⟩,
      ⟨(some 40), (.mov (.t 1)), (some (35, true)), []⟩,
      ⟨(some 41), (.bin .eql (.t 39) (.t 40)), (some (35, true)), []⟩,
      ⟨(some 42), (.mov (.t 41)), (some (35, true)), []⟩,
      ⟨(some 43), (.mov (.t 0)), (some (42, false)), []⟩,
      ⟨(some 44), (.mov (.t 7)), (some (42, false)), []⟩,
      ⟨(some 45), (.iaddr 1 (.t 43) (.t 44)), (some (42, false)), []⟩,
      ⟨(some 46), (.load none (.t 45)), (some (42, false)), []⟩,
      ⟨(some 47), (.call 126 [(.t 46)]), (some (42, false)), []⟩,
      ⟨(some 48), (.mov (.t 47)), (some (42, false)), []⟩,
      ⟨(some 49), (.mov (.t 1)), (some (48, true)), []⟩,
      ⟨(some 50), (.call 126 [(.t 49)]), (some (48, true)), []⟩,
      ⟨(some 51), (.pick (.t 48) (.t 50) (.c (.b false))), (some (42, false)), []⟩,
      ⟨(some 52), (.pick (.t 42) (.c (.b true)) (.t 51)), (some (35, true)), []⟩,
      ⟨(some 53), (.pick (.t 35) (.t 52) (.c (.b false))), none, []⟩,
      ⟨(some 4), (.mov (.t 31)), none, []⟩,
      ⟨(some 5), (.mov (.t 53)), none, []⟩] [])
    .ret))))),
    54, 2, [.t 4, .t 5], 0⟩
theorem tr107 : trFunc Tryz.prog [([], []), ([], []), ([], []), ([], []), ([], []), ([], []), ([], []), ([], []), ([], []), ([], [])] 0 Tryz.f107 = some (plain1 I107) := by kernel_rfl
theorem ck107 : ckC 1 I107.body = true := by kernel_rfl

/-- 'encore/value.typed'. -/
def I108 : IFunc :=
  ⟨(.seq (.region [⟨(some 2), (.alloc [(.i .i64 (0)), .ns, .ns]), none, []⟩,
      ⟨(some 3), (.mov (.c (.b false))), none, []⟩] [])
    (.seq (.seq (.region [⟨(some 7), (.mov (.t 0)), none, []⟩,
      ⟨(some 8), (.lenk 1 (.t 7)), none, []⟩,
      ⟨(some 9), (.bin .gtr (.t 8) (.c (.i .i64 (64)))), none, []⟩] [])
    (.cond (.t 9)
      (.seq (.region [⟨(some 10), (.build [(.i .i64 (0)), .ns, .ns] []), none, []⟩,
        ⟨none, (.store 3 (.t 2) (.t 10)), none, []⟩,
        ⟨(some 3), (.mov (.c (.b false))), none, []⟩] [])
      .ret)
      .skip))
    (.seq (.region [⟨(some 12), (.mov (.t 0)), none, []⟩,
      ⟨(some 13), (.call 127 [(.t 12)]), none, []⟩,
      ⟨(some 11), (.mov (.t 13)), none, []⟩,
      ⟨(some 14), (.ext (.t 11) 0), none, []⟩,
      ⟨(some 15), (.ext (.t 11) 1), none, []⟩,
      ⟨(some 16), (.ext (.t 11) 2), none, []⟩,
      ⟨(some 4), (.alloc [(.i .i64 (0)), .ns, .ns]), none, []⟩,
      ⟨none, (.store 3 (.t 4) (.t 14)), none, []⟩,
      ⟨(some 5), (.mov (.t 15)), none, []⟩,
      ⟨(some 6), (.mov (.t 16)), none, []⟩] [])
    (.seq (.region [⟨(some 17), (.load (some 3) (.t 4)), none, []⟩,
      ⟨(some 18), (.mov (.t 6)), none, []⟩,
      ⟨(some 19), (.mov (.t 18)), none, []⟩,
      ⟨(some 20), (.mov (.t 5)), (some (19, true)), []⟩,
      ⟨(some 21), (.bin .eql (.t 20) (.c (.s []))), (some (19, true)), []⟩,
      ⟨(some 22), (.pick (.t 19) (.t 21) (.c (.b false))), none, []⟩,
      ⟨none, (.store 3 (.t 2) (.t 17)), none, []⟩,
      ⟨(some 3), (.mov (.t 22)), none, []⟩] [])
    .ret)))),
    23, 1, [.c 2 (some 3), .t 3], 0⟩
theorem tr108 : trFunc Tryz.prog [([], []), ([], []), ([], []), ([], []), ([], []), ([], [])] 0 Tryz.f108 = some (plain1 I108) := by kernel_rfl
theorem ck108 : ckC 1 I108.body = true := by kernel_rfl

/-- '(encore/value.shape).has'. -/
def L109a : ICode :=
  (.seq (.region [⟨(some 24), (.bin .lss (.t 23) (.t 22)), none, []⟩] [])
    (.seq (.cond (.t 24)
      .skip
      (.exit 0))
    (.seq (.block 1
      (.seq (.region [⟨(some 25), (.mov (.t 23)), none, []⟩,
        ⟨(some 26), (.iaddr 5 (.t 21) (.t 23)), none, []⟩,
        ⟨(some 27), (.load (some 5) (.t 26)), none, []⟩,
        ⟨(some 6), (.alloc [(.i .i64 (0)), (.i .i64 (0)), (.s []), .ns, .ns]), none, []⟩,
        ⟨(some 5), (.mov (.t 25)), none, []⟩,
        ⟨none, (.store 5 (.t 6) (.t 27)), none, []⟩] [])
      (.seq (.seq (.region [⟨(some 28), (.off (.t 2) 0), none, []⟩,
        ⟨(some 29), (.load none (.t 28)), none, []⟩,
        ⟨(some 30), (.bin .eql (.t 29) (.c (.i .i64 (4)))), none, []⟩] [])
      (.cond (.t 30)
        (.region [⟨(some 5), (.mov (.c (.i .i64 (0)))), none, []⟩] [])
        .skip))
      (.seq (.region [⟨(some 31), (.off (.t 2) 2), none, []⟩,
        ⟨(some 32), (.load none (.t 31)), none, []⟩,
        ⟨(some 33), (.mov (.t 5)), none, []⟩,
        ⟨(some 34), (.iaddr 3 (.t 32) (.t 33)), none, []⟩,
        ⟨(some 35), (.load (some 3) (.t 34)), none, []⟩,
        ⟨(some 36), (.load (some 5) (.t 6)), none, []⟩,
        ⟨(some 37), (.call 109 [(.t 35), (.t 36)]), none, []⟩,
        ⟨(some 38), (.un .not (.t 37)), none, []⟩] [])
      (.cond (.t 38)
        (.seq (.region [⟨(some 4), (.mov (.c (.b false))), none, []⟩] [])
        .ret)
        .skip)))))
    (.region [⟨(some 39), (.bin .add (.t 23) (.c (.i .i64 (1)))), none, []⟩,
      ⟨(some 23), (.mov (.t 39)), none, []⟩] []))))
def I109 : IFunc :=
  ⟨(.seq (.region [⟨(some 2), (.box (.t 0)), none, []⟩,
      ⟨(some 3), (.box (.t 1)), none, []⟩,
      ⟨(some 4), (.mov (.c (.b false))), none, []⟩] [])
    (.seq (.seq (.region [⟨(some 7), (.off (.t 3) 0), none, []⟩,
      ⟨(some 8), (.load none (.t 7)), none, []⟩,
      ⟨(some 9), (.off (.t 2) 0), none, []⟩,
      ⟨(some 10), (.load none (.t 9)), none, []⟩,
      ⟨(some 11), (.bin .neq (.t 8) (.t 10)), none, []⟩,
      ⟨(some 12), (.mov (.t 11)), none, []⟩,
      ⟨(some 13), (.off (.t 3) 4), (some (12, false)), []⟩,
      ⟨(some 14), (.load none (.t 13)), (some (12, false)), []⟩,
      ⟨(some 15), (.off (.t 2) 1), (some (12, false)), []⟩,
      ⟨(some 16), (.load none (.t 15)), (some (12, false)), []⟩,
      ⟨(some 17), (.call 123 [(.t 14), (.t 16)]), (some (12, false)), []⟩,
      ⟨(some 18), (.un .not (.t 17)), (some (12, false)), []⟩,
      ⟨(some 19), (.pick (.t 12) (.c (.b true)) (.t 18)), none, []⟩] [])
    (.cond (.t 19)
      (.seq (.region [⟨(some 4), (.mov (.c (.b false))), none, []⟩] [])
      .ret)
      .skip))
    (.seq (.seq (.region [⟨(some 20), (.off (.t 3) 3), none, []⟩,
      ⟨(some 21), (.load none (.t 20)), none, []⟩,
      ⟨(some 22), (.lenk 0 (.t 21)), none, []⟩,
      ⟨(some 23), (.mov (.c (.i .i64 (0)))), none, []⟩] [])
    (.block 0
      (.loop L109a)))
    (.seq (.region [⟨(some 4), (.mov (.c (.b true))), none, []⟩] [])
    .ret)))),
    40, 2, [.t 4], 0⟩
theorem tr109 : trFunc Tryz.prog [([], []), ([], []), ([], []), ([], []), ([], []), ([], []), ([], []), ([], []), ([], []), ([], []), ([], []), ([0, 1, 2, 3, 4, 5, 6, 7], []), ([], []), ([], []), ([], []), ([], [])] 0 Tryz.f109 = some (plain1 I109) := by kernel_rfl
theorem ck109 : ckC 1 I109.body = true := by kernel_rfl

/-- '(encore/value.plain).bare'. -/
def I110 : IFunc :=
  ⟨(.seq (.region [⟨(some 2), (.box (.t 0)), none, []⟩,
      ⟨(some 3), (.box (.t 1)), none, []⟩,
      ⟨(some 4), (.mov (.c (.b false))), none, []⟩] [])
    (.seq (.region [⟨(some 5), (.off (.t 2) 0), none, []⟩,
      ⟨(some 6), (.load none (.t 5)), none, []⟩,
      ⟨(some 7), (.mov (.t 6)), none, []⟩,
      ⟨(some 8), (.off (.t 3) 2), (some (7, false)), []⟩,
      ⟨(some 9), (.load none (.t 8)), (some (7, false)), []⟩,
      ⟨(some 10), (.bin .eql (.t 9) (.c (.s []))), (some (7, false)), []⟩,
      ⟨(some 11), (.pick (.t 7) (.c (.b true)) (.t 10)), none, []⟩,
      ⟨(some 12), (.mov (.t 11)), none, []⟩,
      ⟨(some 13), (.off (.t 2) 1), (some (12, true)), []⟩,
      ⟨(some 14), (.load none (.t 13)), (some (12, true)), []⟩,
      ⟨(some 15), (.mov (.t 14)), (some (12, true)), []⟩,
      ⟨(some 16), (.off (.t 3) 3), (some (15, false)), []⟩,
      ⟨(some 17), (.load none (.t 16)), (some (15, false)), []⟩,
      ⟨(some 18), (.lenk 0 (.t 17)), (some (15, false)), []⟩,
      ⟨(some 19), (.bin .eql (.t 18) (.c (.i .i64 (0)))), (some (15, false)), []⟩,
      ⟨(some 20), (.pick (.t 15) (.c (.b true)) (.t 19)), (some (12, true)), []⟩,
      ⟨(some 21), (.pick (.t 12) (.t 20) (.c (.b false))), none, []⟩,
      ⟨(some 22), (.mov (.t 21)), none, []⟩,
      ⟨(some 23), (.off (.t 2) 2), (some (22, true)), []⟩,
      ⟨(some 24), (.load none (.t 23)), (some (22, true)), []⟩,
      ⟨(some 25), (.mov (.t 24)), (some (22, true)), []⟩,
      ⟨(some 26), (.off (.t 3) 4), (some (25, false)), []⟩,
      ⟨(some 27), (.load none (.t 26)), (some (25, false)), []⟩,
      ⟨(some 28), (.lenk 0 (.t 27)), (some (25, false)), []⟩,
      ⟨(some 29), (.bin .eql (.t 28) (.c (.i .i64 (0)))), (some (25, false)), []⟩,
      ⟨(some 30), (.pick (.t 25) (.c (.b true)) (.t 29)), (some (22, true)), []⟩,
      ⟨(some 31), (.pick (.t 22) (.t 30) (.c (.b false))), none, []⟩,
      ⟨(some 4), (.mov (.t 31)), none, []⟩] [])
    .ret)),
    32, 2, [.t 4], 0⟩
theorem tr110 : trFunc Tryz.prog [([], []), ([], [])] 0 Tryz.f110 = some (plain1 I110) := by kernel_rfl
theorem ck110 : ckC 1 I110.body = true := by kernel_rfl

/-- 'encore/value.rising'. -/
def L111a : ICode :=
  (.seq (.region [⟨(some 9), (.bin .lss (.t 8) (.t 7)), none, []⟩] [])
    (.seq (.cond (.t 9)
      .skip
      (.exit 0))
    (.seq (.block 1
      (.seq (.region [⟨(some 10), (.iaddr 1 (.t 6) (.t 8)), none, []⟩,
        ⟨(some 11), (.load none (.t 10)), none, []⟩,
        ⟨(some 5), (.mov (.t 11)), none, []⟩] [])
      (.seq (.seq (.region [⟨(some 12), (.mov (.t 5)), none, []⟩,
        ⟨(some 13), (.mov (.t 3)), none, []⟩,
        ⟨(some 14), (.bin .leq (.t 12) (.t 13)), none, []⟩,
        ⟨(some 15), (.mov (.t 14)), none, []⟩,
        ⟨(some 16), (.mov (.t 5)), (some (15, false)), []⟩,
        ⟨(some 17), (.call 128 [(.t 16)]), (some (15, false)), []⟩,
        ⟨(some 18), (.un .not (.t 17)), (some (15, false)), []⟩,
        ⟨(some 19), (.pick (.t 15) (.c (.b true)) (.t 18)), none, []⟩] [])
      (.cond (.t 19)
        (.seq (.region [⟨(some 2), (.mov (.c (.b false))), none, []⟩] [])
        .ret)
        .skip))
      (.region [⟨(some 20), (.mov (.t 5)), none, []⟩,
        ⟨(some 3), (.mov (.t 20)), none, []⟩] []))))
    (.region [⟨(some 21), (.bin .add (.t 8) (.c (.i .i64 (1)))), none, []⟩,
      ⟨(some 8), (.mov (.t 21)), none, []⟩] []))))
def I111 : IFunc :=
  ⟨(.seq (.region [⟨(some 2), (.mov (.c (.b false))), none, []⟩] [])
    (.seq (.region [⟨(some 3), (.mov (.c (.s []))), none, []⟩] [])
    (.seq (.seq (.region [⟨(some 6), (.mov (.t 0)), none, []⟩,
      ⟨(some 7), (.lenk 0 (.t 6)), none, []⟩,
      ⟨(some 8), (.mov (.c (.i .i64 (0)))), none, []⟩] [])
    (.block 0
      (.loop L111a)))
    (.seq (.region [⟨(some 2), (.mov (.c (.b true))), none, []⟩] [])
    .ret)))),
    22, 1, [.t 2], 0⟩
theorem tr111 : trFunc Tryz.prog [([], []), ([], []), ([], []), ([], []), ([], []), ([], []), ([], []), ([], []), ([], []), ([], []), ([], []), ([], [])] 0 Tryz.f111 = some (plain1 I111) := by kernel_rfl
theorem ck111 : ckC 1 I111.body = true := by kernel_rfl

/-- '(encore/code.site).value'. -/
def I112 : IFunc :=
  ⟨(.seq (.region [⟨(some 1), (.box (.t 0)), none, []⟩,
      ⟨(some 2), (.mov (.c (.b false))), none, []⟩] [])
    (.seq (.region [⟨(some 3), (.off (.t 1) 2), none, []⟩,
      ⟨(some 4), (.off (.t 3) 1), none, []⟩,
      ⟨(some 5), (.load none (.t 4)), none, []⟩,
      ⟨(some 6), (.bin .geq (.t 5) (.c (.i .i64 (0)))), none, []⟩,
      ⟨(some 7), (.mov (.t 6)), none, []⟩,
      ⟨(some 8), (.off (.t 1) 2), (some (7, true)), []⟩,
      ⟨(some 9), (.off (.t 8) 1), (some (7, true)), []⟩,
      ⟨(some 10), (.load none (.t 9)), (some (7, true)), []⟩,
      ⟨(some 11), (.off (.t 1) 0), (some (7, true)), []⟩,
      ⟨(some 12), (.load none (.t 11)), (some (7, true)), []⟩,
      ⟨(some 13), (.nck (.t 12)), (some (7, true)), []⟩,
      ⟨(some 14), (.off (.t 13) 1), (some (7, true)), []⟩,
      ⟨(some 15), (.load none (.t 14)), (some (7, true)), []⟩,
      ⟨(some 16), (.lenk 0 (.t 15)), (some (7, true)), []⟩,
      ⟨(some 17), (.bin .lss (.t 10) (.t 16)), (some (7, true)), []⟩,
      ⟨(some 18), (.pick (.t 7) (.t 17) (.c (.b false))), none, []⟩,
      ⟨(some 2), (.mov (.t 18)), none, []⟩] [])
    .ret)),
    19, 1, [.t 2], 0⟩
theorem tr112 : trFunc Tryz.prog [([], []), ([0, 1, 2, 3, 4, 5, 6, 7, 8, 9, 10, 11, 12, 13, 14, 15, 16], [])] 0 Tryz.f112 = some (plain1 I112) := by kernel_rfl
theorem ck112 : ckC 1 I112.body = true := by kernel_rfl

/-- '(encore/code.site).local'. -/
def I113 : IFunc :=
  ⟨(.seq (.region [⟨(some 1), (.box (.t 0)), none, []⟩,
      ⟨(some 2), (.mov (.c (.b false))), none, []⟩] [])
    (.seq (.region [⟨(some 3), (.off (.t 1) 2), none, []⟩,
      ⟨(some 4), (.off (.t 3) 1), none, []⟩,
      ⟨(some 5), (.load none (.t 4)), none, []⟩,
      ⟨(some 6), (.bin .geq (.t 5) (.c (.i .i64 (0)))), none, []⟩,
      ⟨(some 7), (.mov (.t 6)), none, []⟩,
      ⟨(some 8), (.off (.t 1) 2), (some (7, true)), []⟩,
      ⟨(some 9), (.off (.t 8) 1), (some (7, true)), []⟩,
      ⟨(some 10), (.load none (.t 9)), (some (7, true)), []⟩,
      ⟨(some 11), (.off (.t 1) 1), (some (7, true)), []⟩,
      ⟨(some 12), (.load none (.t 11)), (some (7, true)), []⟩,
      ⟨(some 13), (.nck (.t 12)), (some (7, true)), []⟩,
      ⟨(some 14), (.off (.t 13) 2), (some (7, true)), []⟩,
      ⟨(some 15), (.load none (.t 14)), (some (7, true)), []⟩,
      ⟨(some 16), (.bin .lss (.t 10) (.t 15)), (some (7, true)), []⟩,
      ⟨(some 17), (.pick (.t 7) (.t 16) (.c (.b false))), none, []⟩,
      ⟨(some 2), (.mov (.t 17)), none, []⟩] [])
    .ret)),
    18, 1, [.t 2], 0⟩
theorem tr113 : trFunc Tryz.prog [([], []), ([0, 1, 2, 3, 4, 5, 6, 7, 8, 9, 10, 11, 12, 13, 14, 15], [])] 0 Tryz.f113 = some (plain1 I113) := by kernel_rfl
theorem ck113 : ckC 1 I113.body = true := by kernel_rfl

/-- '(encore/code.site).count'. -/
def I114 : IFunc :=
  ⟨(.seq (.region [⟨(some 1), (.box (.t 0)), none, []⟩,
      ⟨(some 2), (.mov (.c (.b false))), none, []⟩] [])
    (.seq (.region [⟨(some 3), (.off (.t 1) 2), none, []⟩,
      ⟨(some 4), (.off (.t 3) 1), none, []⟩,
      ⟨(some 5), (.load none (.t 4)), none, []⟩,
      ⟨(some 6), (.bin .geq (.t 5) (.c (.i .i64 (0)))), none, []⟩,
      ⟨(some 7), (.mov (.t 6)), none, []⟩,
      ⟨(some 8), (.off (.t 1) 2), (some (7, true)), []⟩,
      ⟨(some 9), (.off (.t 8) 1), (some (7, true)), []⟩,
      ⟨(some 10), (.load none (.t 9)), (some (7, true)), []⟩,
      ⟨(some 11), (.bin .leq (.t 10) (.c (.i .i64 (8)))), (some (7, true)), []⟩,
      ⟨(some 12), (.pick (.t 7) (.t 11) (.c (.b false))), none, []⟩,
      ⟨(some 2), (.mov (.t 12)), none, []⟩] [])
    .ret)),
    13, 1, [.t 2], 0⟩
theorem tr114 : trFunc Tryz.prog [([], []), ([], [])] 0 Tryz.f114 = some (plain1 I114) := by kernel_rfl
theorem ck114 : ckC 1 I114.body = true := by kernel_rfl

/-- '(encore/code.site).fields'. -/
def I115 : IFunc :=
  ⟨(.seq (.region [⟨(some 1), (.box (.t 0)), none, []⟩,
      ⟨(some 2), (.mov (.c (.b false))), none, []⟩] [])
    (.seq (.region [⟨(some 3), (.load (some 5) (.t 1)), none, []⟩,
      ⟨(some 4), (.call 112 [(.t 3)]), none, []⟩,
      ⟨(some 5), (.mov (.t 4)), none, []⟩,
      ⟨(some 6), (.off (.t 1) 0), (some (5, true)), []⟩,
      ⟨(some 7), (.load none (.t 6)), (some (5, true)), []⟩,
      ⟨(some 8), (.nck (.t 7)), (some (5, true)), []⟩,
      ⟨(some 9), (.off (.t 8) 1), (some (5, true)), []⟩,
      ⟨(some 10), (.load none (.t 9)), (some (5, true)), []⟩,
      ⟨(some 11), (.off (.t 1) 2), (some (5, true)), []⟩,
      ⟨(some 12), (.off (.t 11) 1), (some (5, true)), []⟩,
      ⟨(some 13), (.load none (.t 12)), (some (5, true)), []⟩,
      ⟨(some 14), (.iaddr 5 (.t 10) (.t 13)), (some (5, true)), []⟩,
      ⟨(some 15), (.load (some 5) (.t 14)), (some (5, true)), []⟩,
      ⟨(some 16), (.call 129 [(.t 15)]), (some (5, true)), []⟩,
      ⟨(some 17), (.pick (.t 5) (.t 16) (.c (.b false))), none, []⟩,
      ⟨(some 2), (.mov (.t 17)), none, []⟩] [])
    .ret)),
    18, 1, [.t 2], 0⟩
theorem tr115 : trFunc Tryz.prog [([], []), ([0, 1, 2, 3, 4, 5, 6, 7, 8, 9, 10, 11, 12, 13, 14, 15], [])] 0 Tryz.f115 = some (plain1 I115) := by kernel_rfl
theorem ck115 : ckC 1 I115.body = true := by kernel_rfl

/-- '(encore/code.site).field'. -/
def I116 : IFunc :=
  ⟨(.seq (.region [⟨(some 1), (.box (.t 0)), none, []⟩,
      ⟨(some 2), (.mov (.c (.b false))), none, []⟩] [])
    (.seq (.region [⟨(some 3), (.off (.t 1) 0), none, []⟩,
      ⟨(some 4), (.load none (.t 3)), none, []⟩,
      ⟨(some 5), (.off (.t 1) 2), none, []⟩,
      ⟨(some 6), (.off (.t 5) 1), none, []⟩,
      ⟨(some 7), (.load none (.t 6)), none, []⟩,
      ⟨(some 8), (.call 130 [(.t 4), (.t 7)]), none, []⟩,
      ⟨(some 2), (.mov (.t 8)), none, []⟩] [])
    .ret)),
    9, 1, [.t 2], 0⟩
theorem tr116 : trFunc Tryz.prog [([], []), ([], [])] 0 Tryz.f116 = some (plain1 I116) := by kernel_rfl
theorem ck116 : ckC 1 I116.body = true := by kernel_rfl

/-- '(encore/code.site).typed'. -/
def I117 : IFunc :=
  ⟨(.seq (.region [⟨(some 1), (.box (.t 0)), none, []⟩,
      ⟨(some 2), (.mov (.c (.b false))), none, []⟩] [])
    (.seq (.region [⟨(some 6), (.off (.t 1) 0), none, []⟩,
      ⟨(some 7), (.load none (.t 6)), none, []⟩,
      ⟨(some 8), (.off (.t 1) 2), none, []⟩,
      ⟨(some 9), (.off (.t 8) 1), none, []⟩,
      ⟨(some 10), (.load none (.t 9)), none, []⟩,
      ⟨(some 11), (.call 131 [(.t 7), (.t 10)]), none, []⟩,
      ⟨(some 5), (.mov (.t 11)), none, []⟩,
      ⟨(some 12), (.ext (.t 5) 0), none, []⟩,
      ⟨(some 13), (.ext (.t 5) 1), none, []⟩,
      ⟨(some 3), (.mov (.t 12)), none, []⟩,
      ⟨(some 4), (.mov (.t 13)), none, []⟩] [])
    (.seq (.region [⟨(some 14), (.mov (.t 4)), none, []⟩,
      ⟨(some 15), (.mov (.t 14)), none, []⟩,
      ⟨(some 16), (.mov (.t 3)), (some (15, true)), []⟩,
      ⟨(some 17), (.call 132 [(.t 16)]), (some (15, true)), []⟩,
      ⟨(some 18), (.pick (.t 15) (.t 17) (.c (.b false))), none, []⟩,
      ⟨(some 2), (.mov (.t 18)), none, []⟩] [])
    .ret))),
    19, 1, [.t 2], 0⟩
theorem tr117 : trFunc Tryz.prog [([], []), ([], []), ([], [])] 0 Tryz.f117 = some (plain1 I117) := by kernel_rfl
theorem ck117 : ckC 1 I117.body = true := by kernel_rfl

/-- '(encore/code.site).place'. -/
def I118 : IFunc :=
  ⟨(.seq (.region [⟨(some 1), (.box (.t 0)), none, []⟩,
      ⟨(some 2), (.mov (.c (.b false))), none, []⟩] [])
    (.seq (.region [⟨(some 3), (.off (.t 1) 2), none, []⟩,
      ⟨(some 4), (.off (.t 3) 1), none, []⟩,
      ⟨(some 5), (.load none (.t 4)), none, []⟩,
      ⟨(some 6), (.bin .geq (.t 5) (.c (.i .i64 (0)))), none, []⟩,
      ⟨(some 7), (.mov (.t 6)), none, []⟩,
      ⟨(some 8), (.off (.t 1) 2), (some (7, true)), []⟩,
      ⟨(some 9), (.off (.t 8) 1), (some (7, true)), []⟩,
      ⟨(some 10), (.load none (.t 9)), (some (7, true)), []⟩,
      ⟨(some 11), (.off (.t 1) 1), (some (7, true)), []⟩,
      ⟨(some 12), (.load none (.t 11)), (some (7, true)), []⟩,
      ⟨(some 13), (.nck (.t 12)), (some (7, true)), []⟩,
      ⟨(some 14), (.off (.t 13) 3), (some (7, true)), []⟩,
      ⟨(some 15), (.load none (.t 14)), (some (7, true)), []⟩,
      ⟨(some 16), (.lenk 0 (.t 15)), (some (7, true)), []⟩,
      ⟨(some 17), (.bin .lss (.t 10) (.t 16)), (some (7, true)), []⟩,
      ⟨(some 18), (.pick (.t 7) (.t 17) (.c (.b false))), none, []⟩,
      ⟨(some 2), (.mov (.t 18)), none, []⟩] [])
    .ret)),
    19, 1, [.t 2], 0⟩
theorem tr118 : trFunc Tryz.prog [([], []), ([0, 1, 2, 3, 4, 5, 6, 7, 8, 9, 10, 11, 12, 13, 14, 15, 16], [])] 0 Tryz.f118 = some (plain1 I118) := by kernel_rfl
theorem ck118 : ckC 1 I118.body = true := by kernel_rfl

/-- '(encore/code.site).fn'. -/
def I119 : IFunc :=
  ⟨(.seq (.region [⟨(some 1), (.box (.t 0)), none, []⟩,
      ⟨(some 2), (.mov (.c (.b false))), none, []⟩] [])
    (.seq (.region [⟨(some 3), (.off (.t 1) 2), none, []⟩,
      ⟨(some 4), (.off (.t 3) 1), none, []⟩,
      ⟨(some 5), (.load none (.t 4)), none, []⟩,
      ⟨(some 6), (.bin .geq (.t 5) (.c (.i .i64 (0)))), none, []⟩,
      ⟨(some 7), (.mov (.t 6)), none, []⟩,
      ⟨(some 8), (.off (.t 1) 2), (some (7, true)), []⟩,
      ⟨(some 9), (.off (.t 8) 1), (some (7, true)), []⟩,
      ⟨(some 10), (.load none (.t 9)), (some (7, true)), []⟩,
      ⟨(some 11), (.off (.t 1) 0), (some (7, true)), []⟩,
      ⟨(some 12), (.load none (.t 11)), (some (7, true)), []⟩,
      ⟨(some 13), (.nck (.t 12)), (some (7, true)), []⟩,
      ⟨(some 14), (.off (.t 13) 0), (some (7, true)), []⟩,
      ⟨(some 15), (.load none (.t 14)), (some (7, true)), []⟩,
      ⟨(some 16), (.lenk 0 (.t 15)), (some (7, true)), []⟩,
      ⟨(some 17), (.bin .lss (.t 10) (.t 16)), (some (7, true)), []⟩,
      ⟨(some 18), (.pick (.t 7) (.t 17) (.c (.b false))), none, []⟩,
      ⟨(some 2), (.mov (.t 18)), none, []⟩] [])
    .ret)),
    19, 1, [.t 2], 0⟩
theorem tr119 : trFunc Tryz.prog [([], []), ([0, 1, 2, 3, 4, 5, 6, 7, 8, 9, 10, 11, 12, 13, 14, 15, 16], [])] 0 Tryz.f119 = some (plain1 I119) := by kernel_rfl
theorem ck119 : ckC 1 I119.body = true := by kernel_rfl

/-- '(encore/code.site).ask'. -/
def I120 : IFunc :=
  ⟨(.seq (.region [⟨(some 1), (.box (.t 0)), none, []⟩,
      ⟨(some 2), (.mov (.c (.b false))), none, []⟩] [])
    (.seq (.seq (.region [⟨(some 7), (.off (.t 1) 2), none, []⟩,
      ⟨(some 8), (.off (.t 7) 1), none, []⟩,
      ⟨(some 9), (.load none (.t 8)), none, []⟩] [])
    (.block 0
      (.seq (.seq (.region [⟨(some 11), (.bin .eql (.t 9) (.c (.i .i64 (1)))), none, []⟩,
        ⟨(some 10), (.mov (.t 11)), none, []⟩] [])
      (.cond (.t 10)
        .skip
        (.region [⟨(some 12), (.bin .eql (.t 9) (.c (.i .i64 (3)))), none, []⟩,
          ⟨(some 10), (.mov (.t 12)), none, []⟩] [])))
      (.cond (.t 10)
        (.seq (.region [⟨(some 13), (.off (.t 1) 0), none, []⟩,
          ⟨(some 14), (.load none (.t 13)), none, []⟩,
          ⟨(some 15), (.off (.t 1) 2), none, []⟩,
          ⟨(some 16), (.off (.t 15) 2), none, []⟩,
          ⟨(some 17), (.load none (.t 16)), none, []⟩,
          ⟨(some 18), (.call 130 [(.t 14), (.t 17)]), none, []⟩,
          ⟨(some 2), (.mov (.t 18)), none, []⟩] [])
        .ret)
        (.seq (.region [⟨(some 20), (.bin .eql (.t 9) (.c (.i .i64 (4)))), none, []⟩,
          ⟨(some 19), (.mov (.t 20)), none, []⟩] [])
        (.cond (.t 19)
          (.seq (.region [⟨(some 22), (.off (.t 1) 0), none, []⟩,
            ⟨(some 23), (.load none (.t 22)), none, []⟩,
            ⟨(some 24), (.off (.t 1) 2), none, []⟩,
            ⟨(some 25), (.off (.t 24) 2), none, []⟩,
            ⟨(some 26), (.load none (.t 25)), none, []⟩,
            ⟨(some 27), (.call 131 [(.t 23), (.t 26)]), none, []⟩,
            ⟨(some 21), (.mov (.t 27)), none, []⟩,
            ⟨(some 28), (.ext (.t 21) 0), none, []⟩,
            ⟨(some 29), (.ext (.t 21) 1), none, []⟩,
            ⟨(some 3), (.mov (.t 28)), none, []⟩,
            ⟨(some 4), (.mov (.t 29)), none, []⟩] [])
          (.seq (.region [⟨(some 31), (.off (.t 1) 0), none, []⟩,
            ⟨(some 32), (.load none (.t 31)), none, []⟩,
            ⟨(some 33), (.nck (.t 32)), none, []⟩,
            ⟨(some 34), (.load (some 2) (.t 33)), none, []⟩,
            ⟨(some 35), (.mov (.t 3)), none, []⟩,
            ⟨(some 36), (.call 133 [(.t 34), (.t 35)]), none, []⟩,
            ⟨(some 30), (.mov (.t 36)), none, []⟩,
            ⟨(some 37), (.ext (.t 30) 0), none, []⟩,
            ⟨(some 38), (.ext (.t 30) 1), none, []⟩,
            ⟨(some 5), (.mov (.t 37)), none, []⟩,
            ⟨(some 6), (.mov (.t 38)), none, []⟩] [])
          (.seq (.region [⟨(some 39), (.mov (.t 4)), none, []⟩,
            ⟨(some 40), (.mov (.t 39)), none, []⟩,
            ⟨(some 41), (.mov (.t 6)), (some (40, true)), []⟩,
            ⟨(some 42), (.pick (.t 40) (.t 41) (.c (.b false))), none, []⟩,
            ⟨(some 43), (.mov (.t 42)), none, []⟩,
            ⟨(some 44), (.off (.t 1) 0), (some (43, true)), []⟩,
            ⟨(some 45), (.load none (.t 44)), (some (43, true)), []⟩,
            ⟨(some 46), (.nck (.t 45)), (some (43, true)), []⟩,
            ⟨(some 47), (.off (.t 46) 0), (some (43, true)), []⟩,
            ⟨(some 48), (.load none (.t 47)), (some (43, true)), []⟩,
            ⟨(some 49), (.mov (.t 5)), (some (43, true)), []⟩,
            ⟨(some 50), (.iaddr 4 (.t 48) (.t 49)), (some (43, true)), []⟩,
            ⟨(some 51), (.off (.t 50) 1), (some (43, true)), []⟩,
            ⟨(some 52), (.load none (.t 51)), (some (43, true)), []⟩,
            ⟨(some 53), (.bin .eql (.t 52) (.c (.i .i64 (1)))), (some (43, true)), []⟩,
            ⟨(some 54), (.pick (.t 43) (.t 53) (.c (.b false))), none, []⟩,
            ⟨(some 2), (.mov (.t 54)), none, []⟩] [])
          .ret)))
          (.seq (.seq (.region [⟨(some 56), (.bin .eql (.t 9) (.c (.i .i64 (2)))), none, []⟩,
            ⟨(some 55), (.mov (.t 56)), none, []⟩] [])
          (.cond (.t 55)
            .skip
            (.seq (.region [⟨(some 57), (.bin .eql (.t 9) (.c (.i .i64 (5)))), none, []⟩,
              ⟨(some 55), (.mov (.t 57)), none, []⟩] [])
            (.cond (.t 55)
              .skip
              (.seq (.region [⟨(some 58), (.bin .eql (.t 9) (.c (.i .i64 (6)))), none, []⟩,
                ⟨(some 55), (.mov (.t 58)), none, []⟩] [])
              (.cond (.t 55)
                .skip
                (.seq (.region [⟨(some 59), (.bin .eql (.t 9) (.c (.i .i64 (7)))), none, []⟩,
                  ⟨(some 55), (.mov (.t 59)), none, []⟩] [])
                (.cond (.t 55)
                  .skip
                  (.region [⟨(some 60), (.bin .eql (.t 9) (.c (.i .i64 (8)))), none, []⟩,
                    ⟨(some 55), (.mov (.t 60)), none, []⟩] [])))))))))
          (.cond (.t 55)
            (.seq (.region [⟨(some 61), (.off (.t 1) 2), none, []⟩,
              ⟨(some 62), (.off (.t 61) 2), none, []⟩,
              ⟨(some 63), (.load none (.t 62)), none, []⟩,
              ⟨(some 64), (.bin .eql (.t 63) (.c (.i .i64 (0)))), none, []⟩,
              ⟨(some 2), (.mov (.t 64)), none, []⟩] [])
            .ret)
            .skip))))))))
    (.seq (.region [⟨(some 2), (.mov (.c (.b false))), none, []⟩] [])
    .ret))),
    65, 1, [.t 2], 0⟩
theorem tr120 : trFunc Tryz.prog [([], []), ([], []), ([], []), ([], []), ([], []), ([], []), ([], []), ([], []), ([], []), ([], []), ([], []), ([], []), ([], []), ([], []), ([], []), ([], []), ([], []), ([], []), ([], []), ([], []), ([], []), ([], [])] 0 Tryz.f120 = some (plain1 I120) := by kernel_rfl
theorem ck120 : ckC 1 I120.body = true := by kernel_rfl

/-- '(encore/code.site).none'. -/
def I121 : IFunc :=
  ⟨(.seq (.region [⟨(some 1), (.box (.t 0)), none, []⟩,
      ⟨(some 2), (.mov (.c (.b false))), none, []⟩] [])
    (.seq (.region [⟨(some 3), (.off (.t 1) 2), none, []⟩,
      ⟨(some 4), (.off (.t 3) 1), none, []⟩,
      ⟨(some 5), (.load none (.t 4)), none, []⟩,
      ⟨(some 6), (.bin .eql (.t 5) (.c (.i .i64 (0)))), none, []⟩,
      ⟨(some 2), (.mov (.t 6)), none, []⟩] [])
    .ret)),
    7, 1, [.t 2], 0⟩
theorem tr121 : trFunc Tryz.prog [([], []), ([], [])] 0 Tryz.f121 = some (plain1 I121) := by kernel_rfl
theorem ck121 : ckC 1 I121.body = true := by kernel_rfl

/-- 'encore/arith.may$1'. -/
def I122 : IFunc :=
  ⟨(.seq (.region [⟨(some 1), (.box (.t 0)), none, []⟩,
      ⟨(some 2), (.mov (.c (.b false))), none, []⟩] [])
    (.seq (.region [⟨(some 3), (.load (some 5) (.t 1)), none, []⟩,
      ⟨(some 4), (.call 36 [(.t 3)]), none, []⟩,
      ⟨(some 5), (.bin .neq (.t 4) (.c (.i .i64 (0)))), none, []⟩,
      ⟨(some 2), (.mov (.t 5)), none, []⟩] [])
    .ret)),
    6, 1, [.t 2], 0⟩
theorem tr122 : trFunc Tryz.prog [([], []), ([], [])] 0 Tryz.f122 = some (plain1 I122) := by kernel_rfl
theorem ck122 : ckC 1 I122.body = true := by kernel_rfl

/-- 'slices.Equal[[]string,string]'. -/
def L123a : ICode :=
  (.seq (.region [⟨(some 14), (.bin .lss (.t 13) (.t 12)), none, []⟩] [])
    (.seq (.cond (.t 14)
      .skip
      (.exit 0))
    (.seq (.block 1
      (.seq (.region [⟨(some 15), (.mov (.t 13)), none, []⟩,
        ⟨(some 5), (.mov (.t 15)), none, []⟩] [])
      (.seq (.region [⟨(some 16), (.mov (.t 0)), none, []⟩,
        ⟨(some 17), (.mov (.t 5)), none, []⟩,
        ⟨(some 18), (.iaddr 1 (.t 16) (.t 17)), none, []⟩,
        ⟨(some 19), (.load none (.t 18)), none, []⟩,
        ⟨(some 20), (.mov (.t 1)), none, []⟩,
        ⟨(some 21), (.mov (.t 5)), none, []⟩,
        ⟨(some 22), (.iaddr 1 (.t 20) (.t 21)), none, []⟩,
        ⟨(some 23), (.load none (.t 22)), none, []⟩,
        ⟨(some 24), (.bin .neq (.t 19) (.t 23)), none, []⟩] [])
      (.cond (.t 24)
        (.seq (.region [⟨(some 4), (.mov (.c (.b false))), none, []⟩] [])
        .ret)
        .skip))))
    (.region [⟨(some 25), (.bin .add (.t 13) (.c (.i .i64 (1)))), none, []⟩,
      ⟨(some 13), (.mov (.t 25)), none, []⟩] []))))
def I123 : IFunc :=
  ⟨(.seq (.region [⟨(some 4), (.mov (.c (.b false))), none, []⟩] [])
    (.seq (.seq (.region [⟨(some 6), (.mov (.t 0)), none, []⟩,
      ⟨(some 7), (.lenk 0 (.t 6)), none, []⟩,
      ⟨(some 8), (.mov (.t 1)), none, []⟩,
      ⟨(some 9), (.lenk 0 (.t 8)), none, []⟩,
      ⟨(some 10), (.bin .neq (.t 7) (.t 9)), none, []⟩] [])
    (.cond (.t 10)
      (.seq (.region [⟨(some 4), (.mov (.c (.b false))), none, []⟩] [])
      .ret)
      .skip))
    (.seq (.seq (.region [⟨(some 11), (.mov (.t 0)), none, []⟩,
      ⟨(some 12), (.lenk 0 (.t 11)), none, []⟩,
      ⟨(some 13), (.mov (.c (.i .i64 (0)))), none, []⟩] [])
    (.block 0
      (.loop L123a)))
    (.seq (.region [⟨(some 4), (.mov (.c (.b true))), none, []⟩] [])
    .ret)))),
    26, 2, [.t 4], 0⟩
theorem tr123 : trFunc Tryz.prog [([], []), ([], []), ([], []), ([], []), ([], []), ([], []), ([], []), ([], []), ([0, 1, 2, 3, 4, 5, 6, 7, 8], []), ([], []), ([], []), ([], []), ([], [])] 0 Tryz.f123 = some (plain1 I123) := by kernel_rfl
theorem ck123 : ckC 1 I123.body = true := by kernel_rfl

/-- 'slices.EqualFunc[[]encore/api.Value,[]encore/api.Value,encore/api.Value,encore/api.Value]'. -/
def L124a : ICode :=
  (.seq (.region [⟨(some 18), (.bin .lss (.t 17) (.t 16)), none, []⟩] [])
    (.seq (.cond (.t 18)
      .skip
      (.exit 0))
    (.seq (.block 1
      (.seq (.region [⟨(some 19), (.mov (.t 17)), none, []⟩,
        ⟨(some 20), (.iaddr 5 (.t 15) (.t 17)), none, []⟩,
        ⟨(some 21), (.load (some 5) (.t 20)), none, []⟩,
        ⟨(some 8), (.alloc [(.i .i64 (0)), (.i .i64 (0)), (.s []), .ns, .ns]), none, []⟩,
        ⟨(some 7), (.mov (.t 19)), none, []⟩,
        ⟨none, (.store 5 (.t 8) (.t 21)), none, []⟩] [])
      (.seq (.region [⟨(some 22), (.mov (.t 1)), none, []⟩,
        ⟨(some 23), (.mov (.t 7)), none, []⟩,
        ⟨(some 24), (.iaddr 5 (.t 22) (.t 23)), none, []⟩,
        ⟨(some 25), (.load (some 5) (.t 24)), none, []⟩,
        ⟨(some 9), (.alloc [(.i .i64 (0)), (.i .i64 (0)), (.s []), .ns, .ns]), none, []⟩,
        ⟨none, (.store 5 (.t 9) (.t 25)), none, []⟩] [])
      (.seq (.region [⟨(some 26), (.mov (.t 2)), none, []⟩,
        ⟨(some 27), (.load (some 5) (.t 8)), none, []⟩,
        ⟨(some 28), (.load (some 5) (.t 9)), none, []⟩,
        ⟨(some 29), (.callv (.t 26) [(.t 27), (.t 28)]), none, []⟩,
        ⟨(some 30), (.un .not (.t 29)), none, []⟩] [])
      (.cond (.t 30)
        (.seq (.region [⟨(some 6), (.mov (.c (.b false))), none, []⟩] [])
        .ret)
        .skip)))))
    (.region [⟨(some 31), (.bin .add (.t 17) (.c (.i .i64 (1)))), none, []⟩,
      ⟨(some 17), (.mov (.t 31)), none, []⟩] []))))
def I124 : IFunc :=
  ⟨(.seq (.region [⟨(some 6), (.mov (.c (.b false))), none, []⟩] [])
    (.seq (.seq (.region [⟨(some 10), (.mov (.t 0)), none, []⟩,
      ⟨(some 11), (.lenk 0 (.t 10)), none, []⟩,
      ⟨(some 12), (.mov (.t 1)), none, []⟩,
      ⟨(some 13), (.lenk 0 (.t 12)), none, []⟩,
      ⟨(some 14), (.bin .neq (.t 11) (.t 13)), none, []⟩] [])
    (.cond (.t 14)
      (.seq (.region [⟨(some 6), (.mov (.c (.b false))), none, []⟩] [])
      .ret)
      .skip))
    (.seq (.seq (.region [⟨(some 15), (.mov (.t 0)), none, []⟩,
      ⟨(some 16), (.lenk 0 (.t 15)), none, []⟩,
      ⟨(some 17), (.mov (.c (.i .i64 (0)))), none, []⟩] [])
    (.block 0
      (.loop L124a)))
    (.seq (.region [⟨(some 6), (.mov (.c (.b true))), none, []⟩] [])
    .ret)))),
    32, 3, [.t 6], 0⟩
theorem tr124 : trFunc Tryz.prog [([], []), ([], []), ([], []), ([], []), ([], []), ([], []), ([], []), ([], []), ([], []), ([], []), ([], []), ([], []), ([], []), ([], [])] 0 Tryz.f124 = some (plain1 I124) := by kernel_rfl
theorem ck124 : ckC 1 I124.body = true := by kernel_rfl

/-- 'cmp.Less[string]'. -/
def I125 : IFunc :=
  ⟨(.seq (.region [⟨(some 4), (.mov (.c (.b false))), none, []⟩] [])
    (.seq (.region [⟨(some 5), (.mov (.t 0)), none, []⟩,
      ⟨(some 6), (.call 134 [(.t 5)]), none, []⟩,
      ⟨(some 7), (.mov (.t 6)), none, []⟩,
      ⟨(some 8), (.mov (.t 1)), (some (7, true)), []⟩,
      ⟨(some 9), (.call 134 [(.t 8)]), (some (7, true)), []⟩,
      ⟨(some 10), (.un .not (.t 9)), (some (7, true)), []⟩,
      ⟨(some 11), (.pick (.t 7) (.t 10) (.c (.b false))), none, []⟩,
      ⟨(some 12), (.mov (.t 11)), none, []⟩,
      ⟨(some 13), (.mov (.t 0)), (some (12, false)), []⟩,
      ⟨(some 14), (.mov (.t 1)), (some (12, false)), []⟩,
      ⟨(some 15), (.bin .lss (.t 13) (.t 14)), (some (12, false)), []⟩,
      ⟨(some 16), (.pick (.t 12) (.c (.b true)) (.t 15)), none, []⟩,
      ⟨(some 4), (.mov (.t 16)), none, []⟩] [])
    .ret)),
    17, 2, [.t 4], 0⟩
theorem tr125 : trFunc Tryz.prog [([], []), ([], [])] 0 Tryz.f125 = some (plain1 I125) := by kernel_rfl
theorem ck125 : ckC 1 I125.body = true := by kernel_rfl

/-- 'slices.isNaN[string]'. -/
def I126 : IFunc :=
  ⟨(.seq (.region [⟨(some 2), (.mov (.c (.b false))), none, []⟩] [])
    (.seq (.region [⟨(some 3), (.mov (.t 0)), none, []⟩,
      ⟨(some 4), (.mov (.t 0)), none, []⟩,
      ⟨(some 5), (.bin .neq (.t 3) (.t 4)), none, []⟩,
      ⟨(some 2), (.mov (.t 5)), none, []⟩] [])
    .ret)),
    6, 1, [.t 2], 0⟩
theorem tr126 : trFunc Tryz.prog [([], []), ([], [])] 0 Tryz.f126 = some (plain1 I126) := by kernel_rfl
theorem ck126 : ckC 1 I126.body = true := by kernel_rfl

/-- 'encore/value.read'. -/
def L127a : ICode :=
  (.seq (.seq (.region [⟨(some 49), (.mov (.t 9)), none, []⟩,
      ⟨(some 50), (.mov (.t 0)), none, []⟩,
      ⟨(some 51), (.lenk 1 (.t 50)), none, []⟩,
      ⟨(some 52), (.bin .lss (.t 49) (.t 51)), none, []⟩,
      ⟨(some 53), (.mov (.t 52)), none, []⟩,
      ⟨(some 54), (.mov (.t 0)), (some (53, true)), []⟩,
      ⟨(some 55), (.mov (.t 9)), (some (53, true)), []⟩,
      ⟨(some 56), (.idxS (.t 54) (.t 55)), (some (53, true)), []⟩,
      ⟨(some 57), (.bin .geq (.t 56) (.c (.i .u8 (97)))), (some (53, true)), []⟩,
      ⟨(some 58), (.pick (.t 53) (.t 57) (.c (.b false))), none, []⟩,
      ⟨(some 59), (.mov (.t 58)), none, []⟩,
      ⟨(some 60), (.mov (.t 0)), (some (59, true)), []⟩,
      ⟨(some 61), (.mov (.t 9)), (some (59, true)), []⟩,
      ⟨(some 62), (.idxS (.t 60) (.t 61)), (some (59, true)), []⟩,
      ⟨(some 63), (.bin .leq (.t 62) (.c (.i .u8 (122)))), (some (59, true)), []⟩,
      ⟨(some 64), (.pick (.t 59) (.t 63) (.c (.b false))), none, []⟩] [])
    (.cond (.t 64)
      .skip
      (.exit 1)))
    (.block 2
      (.region [⟨(some 65), (.mov (.t 9)), none, []⟩,
        ⟨(some 66), (.bin .add (.t 65) (.c (.i .i64 (1)))), none, []⟩,
        ⟨(some 9), (.mov (.t 66)), none, []⟩] [])))
def I127 : IFunc :=
  ⟨(.seq (.region [⟨(some 2), (.alloc [(.i .i64 (0)), .ns, .ns]), none, []⟩,
      ⟨(some 3), (.mov (.c (.s []))), none, []⟩,
      ⟨(some 4), (.mov (.c (.b false))), none, []⟩] [])
    (.seq (.block 0
      (.seq (.region [⟨(some 12), (.mov (.t 0)), none, []⟩,
        ⟨(some 13), (.call 135 [(.t 12), (.c (.s [91]))]), none, []⟩,
        ⟨(some 11), (.mov (.t 13)), none, []⟩] [])
      (.cond (.t 11)
        (.seq (.region [⟨(some 15), (.mov (.t 0)), none, []⟩,
          ⟨(some 16), (.slS (.t 15) (some (.c (.i .i64 (1)))) none), none, []⟩,
          ⟨(some 17), (.call 127 [(.t 16)]), none, []⟩,
          ⟨(some 14), (.mov (.t 17)), none, []⟩,
          ⟨(some 18), (.ext (.t 14) 0), none, []⟩,
          ⟨(some 19), (.ext (.t 14) 1), none, []⟩,
          ⟨(some 20), (.ext (.t 14) 2), none, []⟩,
          ⟨(some 5), (.alloc [(.i .i64 (0)), .ns, .ns]), none, []⟩,
          ⟨none, (.store 3 (.t 5) (.t 18)), none, []⟩,
          ⟨(some 6), (.mov (.t 19)), none, []⟩,
          ⟨(some 7), (.mov (.t 20)), none, []⟩] [])
        (.seq (.region [⟨(some 22), (.mov (.t 6)), none, []⟩,
          ⟨(some 23), (.call 136 [(.t 22), (.c (.s [93]))]), none, []⟩,
          ⟨(some 21), (.mov (.t 23)), none, []⟩,
          ⟨(some 24), (.ext (.t 21) 0), none, []⟩,
          ⟨(some 25), (.ext (.t 21) 1), none, []⟩,
          ⟨(some 6), (.mov (.t 24)), none, []⟩,
          ⟨(some 8), (.mov (.t 25)), none, []⟩] [])
        (.seq (.region [⟨(some 26), (.load (some 3) (.t 5)), none, []⟩,
          ⟨(some 27), (.bsl 3 1 [(.i .i64 (0)), .ns, .ns] [(0, 3, (.t 26))]), none, []⟩,
          ⟨(some 28), (.build [(.i .i64 (0)), .ns, .ns] [(0, 1, (.c (.i .i64 (4)))), (2, 1, (.t 27))]), none, []⟩,
          ⟨(some 29), (.mov (.t 6)), none, []⟩,
          ⟨(some 30), (.mov (.t 7)), none, []⟩,
          ⟨(some 31), (.mov (.t 30)), none, []⟩,
          ⟨(some 32), (.mov (.t 8)), (some (31, true)), []⟩,
          ⟨(some 33), (.pick (.t 31) (.t 32) (.c (.b false))), none, []⟩,
          ⟨none, (.store 3 (.t 2) (.t 28)), none, []⟩,
          ⟨(some 3), (.mov (.t 29)), none, []⟩,
          ⟨(some 4), (.mov (.t 33)), none, []⟩] [])
        .ret)))
        (.seq (.region [⟨(some 35), (.mov (.t 0)), none, []⟩,
          ⟨(some 36), (.call 135 [(.t 35), (.c (.s [123, 125]))]), none, []⟩,
          ⟨(some 34), (.mov (.t 36)), none, []⟩] [])
        (.cond (.t 34)
          (.seq (.region [⟨(some 37), (.build [(.i .i64 (0)), .ns, .ns] [(0, 1, (.c (.i .i64 (5))))]), none, []⟩,
            ⟨(some 38), (.mov (.t 0)), none, []⟩,
            ⟨(some 39), (.slS (.t 38) (some (.c (.i .i64 (2)))) none), none, []⟩,
            ⟨none, (.store 3 (.t 2) (.t 37)), none, []⟩,
            ⟨(some 3), (.mov (.t 39)), none, []⟩,
            ⟨(some 4), (.mov (.c (.b true))), none, []⟩] [])
          .ret)
          (.seq (.region [⟨(some 41), (.mov (.t 0)), none, []⟩,
            ⟨(some 42), (.call 135 [(.t 41), (.c (.s [123]))]), none, []⟩,
            ⟨(some 40), (.mov (.t 42)), none, []⟩] [])
          (.cond (.t 40)
            (.seq (.region [⟨(some 43), (.mov (.t 0)), none, []⟩,
              ⟨(some 44), (.slS (.t 43) (some (.c (.i .i64 (1)))) none), none, []⟩,
              ⟨(some 45), (.call 137 [(.t 44)]), none, []⟩,
              ⟨(some 46), (.ext (.t 45) 0), none, []⟩,
              ⟨(some 47), (.ext (.t 45) 1), none, []⟩,
              ⟨(some 48), (.ext (.t 45) 2), none, []⟩,
              ⟨none, (.store 3 (.t 2) (.t 46)), none, []⟩,
              ⟨(some 3), (.mov (.t 47)), none, []⟩,
              ⟨(some 4), (.mov (.t 48)), none, []⟩] [])
            .ret)
            .skip)))))))
    (.seq (.region [⟨(some 9), (.mov (.c (.i .i64 (0)))), none, []⟩] [])
    (.seq (.block 1
      (.loop L127a))
    (.seq (.region [⟨(some 67), (.mov (.t 0)), none, []⟩,
      ⟨(some 68), (.mov (.t 9)), none, []⟩,
      ⟨(some 69), (.slS (.t 67) none (some (.t 68))), none, []⟩,
      ⟨(some 70), (.call 138 [(.t 69)]), none, []⟩,
      ⟨(some 10), (.mov (.t 70)), none, []⟩] [])
    (.seq (.region [⟨(some 71), (.mov (.t 10)), none, []⟩,
      ⟨(some 72), (.build [(.i .i64 (0)), .ns, .ns] [(0, 1, (.t 71))]), none, []⟩,
      ⟨(some 73), (.mov (.t 0)), none, []⟩,
      ⟨(some 74), (.mov (.t 9)), none, []⟩,
      ⟨(some 75), (.slS (.t 73) (some (.t 74)) none), none, []⟩,
      ⟨(some 76), (.mov (.t 10)), none, []⟩,
      ⟨(some 77), (.bin .geq (.t 76) (.c (.i .i64 (0)))), none, []⟩,
      ⟨none, (.store 3 (.t 2) (.t 72)), none, []⟩,
      ⟨(some 3), (.mov (.t 75)), none, []⟩,
      ⟨(some 4), (.mov (.t 77)), none, []⟩] [])
    .ret)))))),
    78, 1, [.c 2 (some 3), .t 3, .t 4], 0⟩
theorem tr127 : trFunc Tryz.prog [([], []), ([], []), ([], []), ([], []), ([], []), ([], []), ([0, 1, 2, 3, 4, 5], []), ([], []), ([], []), ([], []), ([], []), ([], []), ([], []), ([], []), ([], []), ([0, 1, 2, 3, 4, 5, 6, 7, 8, 9], [])] 0 Tryz.f127 = some (plain1 I127) := by kernel_rfl
theorem ck127 : ckC 1 I127.body = true := by kernel_rfl

/-- 'encore/value.named'. -/
def L128a : ICode :=
  (.seq (.region [⟨(some 17), (.bin .lss (.t 16) (.t 15)), none, []⟩] [])
    (.seq (.cond (.t 17)
      .skip
      (.exit 0))
    (.seq (.block 1
      (.seq (.region [⟨(some 18), (.mov (.t 16)), none, []⟩,
        ⟨(some 19), (.iaddr 1 (.t 14) (.t 16)), none, []⟩,
        ⟨(some 20), (.load none (.t 19)), none, []⟩,
        ⟨(some 3), (.mov (.t 18)), none, []⟩,
        ⟨(some 4), (.mov (.t 20)), none, []⟩] [])
      (.seq (.region [⟨(some 21), (.mov (.t 4)), none, []⟩,
        ⟨(some 22), (.bin .geq (.t 21) (.c (.i .u8 (97)))), none, []⟩,
        ⟨(some 23), (.mov (.t 22)), none, []⟩,
        ⟨(some 24), (.mov (.t 4)), (some (23, true)), []⟩,
        ⟨(some 25), (.bin .leq (.t 24) (.c (.i .u8 (122)))), (some (23, true)), []⟩,
        ⟨(some 26), (.pick (.t 23) (.t 25) (.c (.b false))), none, []⟩,
        ⟨(some 5), (.mov (.t 26)), none, []⟩] [])
      (.seq (.region [⟨(some 27), (.mov (.t 5)), none, []⟩,
        ⟨(some 28), (.un .not (.t 27)), none, []⟩,
        ⟨(some 29), (.mov (.t 28)), none, []⟩,
        ⟨(some 30), (.mov (.t 3)), (some (29, true)), []⟩,
        ⟨(some 31), (.bin .eql (.t 30) (.c (.i .i64 (0)))), (some (29, true)), []⟩,
        ⟨(some 32), (.mov (.t 31)), (some (29, true)), []⟩,
        ⟨(some 33), (.mov (.t 4)), (some (32, false)), []⟩,
        ⟨(some 34), (.bin .neq (.t 33) (.c (.i .u8 (95)))), (some (32, false)), []⟩,
        ⟨(some 35), (.mov (.t 34)), (some (32, false)), []⟩,
        ⟨(some 36), (.mov (.t 4)), (some (35, true)), []⟩,
        ⟨(some 37), (.bin .lss (.t 36) (.c (.i .u8 (48)))), (some (35, true)), []⟩,
        ⟨(some 38), (.mov (.t 37)), (some (35, true)), []⟩,
        ⟨(some 39), (.mov (.t 4)), (some (38, false)), []⟩,
        ⟨(some 40), (.bin .gtr (.t 39) (.c (.i .u8 (57)))), (some (38, false)), []⟩,
        ⟨(some 41), (.pick (.t 38) (.c (.b true)) (.t 40)), (some (35, true)), []⟩,
        ⟨(some 42), (.pick (.t 35) (.t 41) (.c (.b false))), (some (32, false)), []⟩,
        ⟨(some 43), (.pick (.t 32) (.c (.b true)) (.t 42)), (some (29, true)), []⟩,
        ⟨(some 44), (.pick (.t 29) (.t 43) (.c (.b false))), none, []⟩] [])
      (.cond (.t 44)
        (.seq (.region [⟨(some 2), (.mov (.c (.b false))), none, []⟩] [])
        .ret)
        .skip)))))
    (.region [⟨(some 45), (.bin .add (.t 16) (.c (.i .i64 (1)))), none, []⟩,
      ⟨(some 16), (.mov (.t 45)), none, []⟩] []))))
def I128 : IFunc :=
  ⟨(.seq (.region [⟨(some 2), (.mov (.c (.b false))), none, []⟩] [])
    (.seq (.seq (.region [⟨(some 6), (.mov (.t 0)), none, []⟩,
      ⟨(some 7), (.bin .eql (.t 6) (.c (.s []))), none, []⟩,
      ⟨(some 8), (.mov (.t 7)), none, []⟩,
      ⟨(some 9), (.mov (.t 0)), (some (8, false)), []⟩,
      ⟨(some 10), (.lenk 1 (.t 9)), (some (8, false)), []⟩,
      ⟨(some 11), (.bin .gtr (.t 10) (.c (.i .i64 (16)))), (some (8, false)), []⟩,
      ⟨(some 12), (.pick (.t 8) (.c (.b true)) (.t 11)), none, []⟩] [])
    (.cond (.t 12)
      (.seq (.region [⟨(some 2), (.mov (.c (.b false))), none, []⟩] [])
      .ret)
      .skip))
    (.seq (.seq (.region [⟨(some 13), (.mov (.t 0)), none, []⟩,
      ⟨(some 14), (.s2b (.t 13)), none, []⟩,
      ⟨(some 15), (.lenk 0 (.t 14)), none, []⟩,
      ⟨(some 16), (.mov (.c (.i .i64 (0)))), none, []⟩] [])
    (.block 0
      (.loop L128a)))
    (.seq (.region [⟨(some 2), (.mov (.c (.b true))), none, []⟩] [])
    .ret)))),
    46, 1, [.t 2], 0⟩
theorem tr128 : trFunc Tryz.prog [([], []), ([], []), ([], []), ([], []), ([], []), ([], []), ([], []), ([], []), ([], []), ([], []), ([], []), ([], []), ([], []), ([], [])] 0 Tryz.f128 = some (plain1 I128) := by kernel_rfl
theorem ck128 : ckC 1 I128.body = true := by kernel_rfl

/-- 'encore/code.record'. -/
def L129a : ICode :=
  (.seq (.region [⟨(some 15), (.bin .lss (.t 14) (.t 13)), none, []⟩] [])
    (.seq (.cond (.t 15)
      .skip
      (.exit 0))
    (.seq (.block 1
      (.seq (.region [⟨(some 16), (.iaddr 5 (.t 12) (.t 14)), none, []⟩,
        ⟨(some 17), (.load (some 5) (.t 16)), none, []⟩,
        ⟨(some 5), (.alloc [(.i .i64 (0)), (.i .i64 (0)), (.s []), .ns, .ns]), none, []⟩,
        ⟨none, (.store 5 (.t 5) (.t 17)), none, []⟩] [])
      (.seq (.seq (.region [⟨(some 18), (.off (.t 5) 0), none, []⟩,
        ⟨(some 19), (.load none (.t 18)), none, []⟩,
        ⟨(some 20), (.bin .neq (.t 19) (.c (.i .i64 (3)))), none, []⟩] [])
      (.cond (.t 20)
        (.seq (.region [⟨(some 2), (.mov (.c (.b false))), none, []⟩] [])
        .ret)
        .skip))
      (.region [⟨(some 21), (.off (.t 3) 4), none, []⟩,
        ⟨(some 22), (.load none (.t 21)), none, []⟩,
        ⟨(some 23), (.off (.t 5) 2), none, []⟩,
        ⟨(some 24), (.load none (.t 23)), none, []⟩,
        ⟨(some 25), (.bsl 1 1 [(.s [])] [(0, 1, (.t 24))]), none, []⟩,
        ⟨(some 26), (.app 1 16 (.t 22) (.t 25)), none, []⟩,
        ⟨(some 27), (.off (.t 3) 4), none, []⟩,
        ⟨none, (.store 1 (.t 27) (.t 26)), none, []⟩] []))))
    (.region [⟨(some 28), (.bin .add (.t 14) (.c (.i .i64 (1)))), none, []⟩,
      ⟨(some 14), (.mov (.t 28)), none, []⟩] []))))
def I129 : IFunc :=
  ⟨(.seq (.region [⟨(some 1), (.box (.t 0)), none, []⟩,
      ⟨(some 2), (.mov (.c (.b false))), none, []⟩] [])
    (.seq (.region [⟨(some 6), (.off (.t 1) 3), none, []⟩,
      ⟨(some 7), (.load none (.t 6)), none, []⟩,
      ⟨(some 8), (.lenk 0 (.t 7)), none, []⟩,
      ⟨(some 9), (.mksl 5 80 [(.i .i64 (0)), (.i .i64 (0)), (.s []), .ns, .ns] (.t 8) (.t 8)), none, []⟩,
      ⟨(some 10), (.build [(.i .i64 (0)), (.i .i64 (0)), (.s []), .ns, .ns] [(0, 1, (.c (.i .i64 (5)))), (3, 1, (.t 9))]), none, []⟩,
      ⟨(some 3), (.alloc [(.i .i64 (0)), (.i .i64 (0)), (.s []), .ns, .ns]), none, []⟩,
      ⟨none, (.store 5 (.t 3) (.t 10)), none, []⟩] [])
    (.seq (.seq (.region [⟨(some 11), (.off (.t 1) 3), none, []⟩,
      ⟨(some 12), (.load none (.t 11)), none, []⟩,
      ⟨(some 13), (.lenk 0 (.t 12)), none, []⟩,
      ⟨(some 14), (.mov (.c (.i .i64 (0)))), none, []⟩] [])
    (.block 0
      (.loop L129a)))
    (.seq (.region [⟨(some 29), (.off (.t 1) 0), none, []⟩,
      ⟨(some 30), (.load none (.t 29)), none, []⟩,
      ⟨(some 31), (.bin .eql (.t 30) (.c (.i .i64 (4)))), none, []⟩,
      ⟨(some 32), (.mov (.t 31)), none, []⟩,
      ⟨(some 33), (.off (.t 1) 3), (some (32, true)), []⟩,
      ⟨(some 34), (.load none (.t 33)), (some (32, true)), []⟩,
      ⟨(some 35), (.lenk 0 (.t 34)), (some (32, true)), []⟩,
      ⟨(some 36), (.bin .leq (.t 35) (.c (.i .i64 (8)))), (some (32, true)), []⟩,
      ⟨(some 37), (.pick (.t 32) (.t 36) (.c (.b false))), none, []⟩,
      ⟨(some 38), (.mov (.t 37)), none, []⟩,
      ⟨(some 39), (.load (some 5) (.t 3)), (some (38, true)), []⟩,
      ⟨(some 40), (.call 36 [(.t 39)]), (some (38, true)), []⟩,
      ⟨(some 41), (.bin .eql (.t 40) (.c (.i .i64 (0)))), (some (38, true)), []⟩,
      ⟨(some 42), (.pick (.t 38) (.t 41) (.c (.b false))), none, []⟩,
      ⟨(some 2), (.mov (.t 42)), none, []⟩] [])
    .ret)))),
    43, 1, [.t 2], 0⟩
theorem tr129 : trFunc Tryz.prog [([], []), ([], []), ([], []), ([], []), ([], []), ([], []), ([], []), ([], []), ([], []), ([], []), ([], []), ([], [])] 0 Tryz.f129 = some (plain1 I129) := by kernel_rfl
theorem ck129 : ckC 1 I129.body = true := by kernel_rfl

/-- 'encore/code.named'. -/
def I130 : IFunc :=
  ⟨(.seq (.region [⟨(some 4), (.mov (.c (.b false))), none, []⟩] [])
    (.seq (.region [⟨(some 8), (.mov (.t 0)), none, []⟩,
      ⟨(some 9), (.mov (.t 1)), none, []⟩,
      ⟨(some 10), (.call 131 [(.t 8), (.t 9)]), none, []⟩,
      ⟨(some 7), (.mov (.t 10)), none, []⟩,
      ⟨(some 11), (.ext (.t 7) 0), none, []⟩,
      ⟨(some 12), (.ext (.t 7) 1), none, []⟩,
      ⟨(some 5), (.mov (.t 11)), none, []⟩,
      ⟨(some 6), (.mov (.t 12)), none, []⟩] [])
    (.seq (.region [⟨(some 13), (.mov (.t 6)), none, []⟩,
      ⟨(some 14), (.mov (.t 13)), none, []⟩,
      ⟨(some 15), (.mov (.t 5)), (some (14, true)), []⟩,
      ⟨(some 16), (.call 94 [(.t 15)]), (some (14, true)), []⟩,
      ⟨(some 17), (.pick (.t 14) (.t 16) (.c (.b false))), none, []⟩,
      ⟨(some 4), (.mov (.t 17)), none, []⟩] [])
    .ret))),
    18, 2, [.t 4], 0⟩
theorem tr130 : trFunc Tryz.prog [([], []), ([], []), ([], [])] 0 Tryz.f130 = some (plain1 I130) := by kernel_rfl
theorem ck130 : ckC 1 I130.body = true := by kernel_rfl

/-- 'encore/code.text'. -/
def I131 : IFunc :=
  ⟨(.seq (.region [⟨(some 4), (.mov (.c (.s []))), none, []⟩,
      ⟨(some 5), (.mov (.c (.b false))), none, []⟩] [])
    (.seq (.seq (.region [⟨(some 7), (.mov (.t 1)), none, []⟩,
      ⟨(some 8), (.bin .lss (.t 7) (.c (.i .i64 (0)))), none, []⟩,
      ⟨(some 9), (.mov (.t 8)), none, []⟩,
      ⟨(some 10), (.mov (.t 1)), (some (9, false)), []⟩,
      ⟨(some 11), (.mov (.t 0)), (some (9, false)), []⟩,
      ⟨(some 12), (.nck (.t 11)), (some (9, false)), []⟩,
      ⟨(some 13), (.off (.t 12) 1), (some (9, false)), []⟩,
      ⟨(some 14), (.load none (.t 13)), (some (9, false)), []⟩,
      ⟨(some 15), (.lenk 0 (.t 14)), (some (9, false)), []⟩,
      ⟨(some 16), (.bin .geq (.t 10) (.t 15)), (some (9, false)), []⟩,
      ⟨(some 17), (.pick (.t 9) (.c (.b true)) (.t 16)), none, []⟩] [])
    (.cond (.t 17)
      (.seq (.region [⟨(some 4), (.mov (.c (.s []))), none, []⟩,
        ⟨(some 5), (.mov (.c (.b false))), none, []⟩] [])
      .ret)
      .skip))
    (.seq (.region [⟨(some 18), (.mov (.t 0)), none, []⟩,
      ⟨(some 19), (.nck (.t 18)), none, []⟩,
      ⟨(some 20), (.off (.t 19) 1), none, []⟩,
      ⟨(some 21), (.load none (.t 20)), none, []⟩,
      ⟨(some 22), (.mov (.t 1)), none, []⟩,
      ⟨(some 23), (.iaddr 5 (.t 21) (.t 22)), none, []⟩,
      ⟨(some 24), (.load (some 5) (.t 23)), none, []⟩,
      ⟨(some 6), (.alloc [(.i .i64 (0)), (.i .i64 (0)), (.s []), .ns, .ns]), none, []⟩,
      ⟨none, (.store 5 (.t 6) (.t 24)), none, []⟩] [])
    (.seq (.region [⟨(some 25), (.off (.t 6) 2), none, []⟩,
      ⟨(some 26), (.load none (.t 25)), none, []⟩,
      ⟨(some 27), (.off (.t 6) 0), none, []⟩,
      ⟨(some 28), (.load none (.t 27)), none, []⟩,
      ⟨(some 29), (.bin .eql (.t 28) (.c (.i .i64 (3)))), none, []⟩,
      ⟨(some 4), (.mov (.t 26)), none, []⟩,
      ⟨(some 5), (.mov (.t 29)), none, []⟩] [])
    .ret)))),
    30, 2, [.t 4, .t 5], 0⟩
theorem tr131 : trFunc Tryz.prog [([], []), ([], []), ([], []), ([], []), ([], []), ([0, 1, 2, 3, 4, 5, 6], [])] 0 Tryz.f131 = some (plain1 I131) := by kernel_rfl
theorem ck131 : ckC 1 I131.body = true := by kernel_rfl

/-- 'encore/value.Fits'. -/
def I132 : IFunc :=
  ⟨(.seq (.region [⟨(some 2), (.mov (.c (.b false))), none, []⟩] [])
    (.seq (.region [⟨(some 6), (.mov (.t 0)), none, []⟩,
      ⟨(some 7), (.call 108 [(.t 6)]), none, []⟩,
      ⟨(some 5), (.mov (.t 7)), none, []⟩,
      ⟨(some 8), (.ext (.t 5) 0), none, []⟩,
      ⟨(some 9), (.ext (.t 5) 1), none, []⟩,
      ⟨(some 3), (.alloc [(.i .i64 (0)), .ns, .ns]), none, []⟩,
      ⟨none, (.store 3 (.t 3) (.t 8)), none, []⟩,
      ⟨(some 4), (.mov (.t 9)), none, []⟩] [])
    (.seq (.region [⟨(some 10), (.mov (.t 4)), none, []⟩,
      ⟨(some 2), (.mov (.t 10)), none, []⟩] [])
    .ret))),
    11, 1, [.t 2], 0⟩
theorem tr132 : trFunc Tryz.prog [([], []), ([], []), ([], [])] 0 Tryz.f132 = some (plain1 I132) := by kernel_rfl
theorem ck132 : ckC 1 I132.body = true := by kernel_rfl

/-- 'encore/code.Find'. -/
def I133 : IFunc :=
  ⟨(.seq (.region [⟨(some 2), (.box (.t 0)), none, []⟩,
      ⟨(some 3), (.box (.t 1)), none, []⟩,
      ⟨(some 4), (.mov (.c (.i .i64 (0)))), none, []⟩,
      ⟨(some 5), (.mov (.c (.b false))), none, []⟩] [])
    (.seq (.region [⟨(some 7), (.off (.t 2) 0), none, []⟩,
      ⟨(some 8), (.load none (.t 7)), none, []⟩,
      ⟨(some 9), (.mkf 139 [] [(.t 3)]), none, []⟩,
      ⟨(some 10), (.call 93 [(.t 8), (.t 9)]), none, []⟩,
      ⟨(some 6), (.mov (.t 10)), none, []⟩] [])
    (.seq (.region [⟨(some 11), (.mov (.t 6)), none, []⟩,
      ⟨(some 12), (.mm true (.t 11) [(.c (.i .i64 (0)))]), none, []⟩,
      ⟨(some 13), (.mov (.t 6)), none, []⟩,
      ⟨(some 14), (.bin .geq (.t 13) (.c (.i .i64 (0)))), none, []⟩,
      ⟨(some 4), (.mov (.t 12)), none, []⟩,
      ⟨(some 5), (.mov (.t 14)), none, []⟩] [])
    .ret))),
    15, 2, [.t 4, .t 5], 0⟩
theorem tr133 : trFunc Tryz.prog [([], []), ([], []), ([], [])] 0 Tryz.f133 = some (plain1 I133) := by kernel_rfl
theorem ck133 : ckC 1 I133.body = true := by kernel_rfl

/-- 'cmp.isNaN[string]'. -/
def I134 : IFunc :=
  ⟨(.seq (.region [⟨(some 2), (.mov (.c (.b false))), none, []⟩] [])
    (.seq (.region [⟨(some 3), (.mov (.t 0)), none, []⟩,
      ⟨(some 4), (.mov (.t 0)), none, []⟩,
      ⟨(some 5), (.bin .neq (.t 3) (.t 4)), none, []⟩,
      ⟨(some 2), (.mov (.t 5)), none, []⟩] [])
    .ret)),
    6, 1, [.t 2], 0⟩
theorem tr134 : trFunc Tryz.prog [([], []), ([], [])] 0 Tryz.f134 = some (plain1 I134) := by kernel_rfl
theorem ck134 : ckC 1 I134.body = true := by kernel_rfl

/-- 'strings.HasPrefix'. -/
def I135 : IFunc :=
  ⟨(.seq (.region [⟨(some 4), (.mov (.c (.b false))), none, []⟩] [])
    (.seq (.region [⟨(some 5), (.mov (.t 0)), none, []⟩,
      ⟨(some 6), (.mov (.t 1)), none, []⟩,
      ⟨(some 7), (.call 140 [(.t 5), (.t 6)]), none, []⟩,
      ⟨(some 4), (.mov (.t 7)), none, []⟩] [])
    .ret)),
    8, 2, [.t 4], 0⟩
theorem tr135 : trFunc Tryz.prog [([], []), ([], [])] 0 Tryz.f135 = some (plain1 I135) := by kernel_rfl
theorem ck135 : ckC 1 I135.body = true := by kernel_rfl

/-- 'strings.CutPrefix'. -/
def I136 : IFunc :=
  ⟨(.seq (.region [⟨(some 4), (.mov (.c (.s []))), none, []⟩,
      ⟨(some 5), (.mov (.c (.b false))), none, []⟩] [])
    (.seq (.region [⟨(some 6), (.mov (.t 0)), none, []⟩,
      ⟨(some 7), (.mov (.t 1)), none, []⟩,
      ⟨(some 8), (.call 141 [(.t 6), (.t 7)]), none, []⟩,
      ⟨(some 9), (.ext (.t 8) 0), none, []⟩,
      ⟨(some 10), (.ext (.t 8) 1), none, []⟩,
      ⟨(some 4), (.mov (.t 9)), none, []⟩,
      ⟨(some 5), (.mov (.t 10)), none, []⟩] [])
    .ret)),
    11, 2, [.t 4, .t 5], 0⟩
theorem tr136 : trFunc Tryz.prog [([], []), ([], [])] 0 Tryz.f136 = some (plain1 I136) := by kernel_rfl
theorem ck136 : ckC 1 I136.body = true := by kernel_rfl

/-- 'encore/value.readRec'. -/
def L137a : ICode :=
  (.block 1
      (.seq (.region [⟨(some 13), (.mov (.t 0)), none, []⟩,
        ⟨(some 14), (.call 142 [(.t 13), (.c (.s [58]))]), none, []⟩,
        ⟨(some 12), (.mov (.t 14)), none, []⟩,
        ⟨(some 15), (.ext (.t 12) 0), none, []⟩,
        ⟨(some 16), (.ext (.t 12) 1), none, []⟩,
        ⟨(some 17), (.ext (.t 12) 2), none, []⟩,
        ⟨(some 5), (.mov (.t 15)), none, []⟩,
        ⟨(some 6), (.mov (.t 16)), none, []⟩,
        ⟨(some 7), (.mov (.t 17)), none, []⟩] [])
      (.seq (.region [⟨(some 19), (.mov (.t 6)), none, []⟩,
        ⟨(some 20), (.call 127 [(.t 19)]), none, []⟩,
        ⟨(some 18), (.mov (.t 20)), none, []⟩,
        ⟨(some 21), (.ext (.t 18) 0), none, []⟩,
        ⟨(some 22), (.ext (.t 18) 1), none, []⟩,
        ⟨(some 23), (.ext (.t 18) 2), none, []⟩,
        ⟨(some 8), (.alloc [(.i .i64 (0)), .ns, .ns]), none, []⟩,
        ⟨none, (.store 3 (.t 8) (.t 21)), none, []⟩,
        ⟨(some 9), (.mov (.t 22)), none, []⟩,
        ⟨(some 10), (.mov (.t 23)), none, []⟩] [])
      (.seq (.seq (.region [⟨(some 24), (.mov (.t 7)), none, []⟩,
        ⟨(some 25), (.un .not (.t 24)), none, []⟩,
        ⟨(some 26), (.mov (.t 25)), none, []⟩,
        ⟨(some 27), (.mov (.t 10)), (some (26, false)), []⟩,
        ⟨(some 28), (.un .not (.t 27)), (some (26, false)), []⟩,
        ⟨(some 29), (.pick (.t 26) (.c (.b true)) (.t 28)), none, []⟩,
        ⟨(some 30), (.mov (.t 29)), none, []⟩,
        ⟨(some 31), (.mov (.t 9)), (some (30, false)), []⟩,
        ⟨(some 32), (.bin .eql (.t 31) (.c (.s []))), (some (30, false)), []⟩,
        ⟨(some 33), (.pick (.t 30) (.c (.b true)) (.t 32)), none, []⟩] [])
      (.cond (.t 33)
        (.seq (.region [⟨(some 34), (.build [(.i .i64 (0)), .ns, .ns] []), none, []⟩,
          ⟨none, (.store 3 (.t 2) (.t 34)), none, []⟩,
          ⟨(some 3), (.mov (.c (.s []))), none, []⟩,
          ⟨(some 4), (.mov (.c (.b false))), none, []⟩] [])
        .ret)
        .skip))
      (.seq (.region [⟨(some 35), (.off (.t 2) 1), none, []⟩,
        ⟨(some 36), (.load none (.t 35)), none, []⟩,
        ⟨(some 37), (.mov (.t 5)), none, []⟩,
        ⟨(some 38), (.bsl 1 1 [(.s [])] [(0, 1, (.t 37))]), none, []⟩,
        ⟨(some 40), (.off (.t 2) 2), none, []⟩,
        ⟨(some 41), (.load none (.t 40)), none, []⟩,
        ⟨(some 42), (.load (some 3) (.t 8)), none, []⟩,
        ⟨(some 43), (.bsl 3 1 [(.i .i64 (0)), .ns, .ns] [(0, 3, (.t 42))]), none, []⟩,
        ⟨(some 39), (.app 1 16 (.t 36) (.t 38)), none, [(41, (.load none (.t 40)), none), (42, (.load (some 3) (.t 8)), none)]⟩,
        ⟨(some 45), (.off (.t 2) 1), none, []⟩,
        ⟨(some 44), (.app 3 56 (.t 41) (.t 43)), none, []⟩,
        ⟨none, (.store 1 (.t 45) (.t 39)), none, []⟩,
        ⟨(some 46), (.off (.t 2) 2), none, []⟩,
        ⟨none, (.store 1 (.t 46) (.t 44)), none, []⟩] [])
      (.seq (.region [⟨(some 47), (.mov (.t 9)), none, []⟩,
        ⟨(some 48), (.slS (.t 47) (some (.c (.i .i64 (1)))) none), none, []⟩,
        ⟨(some 0), (.mov (.t 48)), none, []⟩] [])
      (.seq (.seq (.region [⟨(some 49), (.mov (.t 9)), none, []⟩,
        ⟨(some 50), (.idxS (.t 49) (.c (.i .i64 (0)))), none, []⟩] [])
      (.block 2
        (.seq (.region [⟨(some 52), (.bin .eql (.t 50) (.c (.i .u8 (125)))), none, []⟩,
          ⟨(some 51), (.mov (.t 52)), none, []⟩] [])
        (.cond (.t 51)
          (.seq (.region [⟨(some 53), (.load (some 3) (.t 2)), none, []⟩,
            ⟨(some 54), (.mov (.t 0)), none, []⟩,
            ⟨(some 55), (.off (.t 2) 1), none, []⟩,
            ⟨(some 56), (.load none (.t 55)), none, []⟩,
            ⟨(some 57), (.call 111 [(.t 56)]), none, [(53, (.load (some 3) (.t 2)), none)]⟩,
            ⟨none, (.store 3 (.t 2) (.t 53)), none, []⟩,
            ⟨(some 3), (.mov (.t 54)), none, []⟩,
            ⟨(some 4), (.mov (.t 57)), none, []⟩] [])
          .ret)
          (.seq (.region [⟨(some 59), (.bin .eql (.t 50) (.c (.i .u8 (44)))), none, []⟩,
            ⟨(some 58), (.mov (.t 59)), none, []⟩] [])
          (.cond (.t 58)
            (.exit 1)
            .skip))))))
      (.seq (.region [⟨(some 60), (.build [(.i .i64 (0)), .ns, .ns] []), none, []⟩,
        ⟨none, (.store 3 (.t 2) (.t 60)), none, []⟩,
        ⟨(some 3), (.mov (.c (.s []))), none, []⟩,
        ⟨(some 4), (.mov (.c (.b false))), none, []⟩] [])
      .ret))))))))
def I137 : IFunc :=
  ⟨(.seq (.region [⟨(some 2), (.alloc [(.i .i64 (0)), .ns, .ns]), none, []⟩,
      ⟨(some 3), (.mov (.c (.s []))), none, []⟩,
      ⟨(some 4), (.mov (.c (.b false))), none, []⟩] [])
    (.seq (.region [⟨(some 11), (.off (.t 2) 0), none, []⟩,
      ⟨none, (.store 1 (.t 11) (.c (.i .i64 (5)))), none, []⟩] [])
    (.block 0
      (.loop L137a)))),
    61, 1, [.c 2 (some 3), .t 3, .t 4], 0⟩
theorem tr137 : trFunc Tryz.prog [([], []), ([], []), ([], []), ([], []), ([], []), ([], []), ([], []), ([0, 1, 2, 3, 5, 6, 7, 8, 4, 10, 9, 11, 12, 13], []), ([], []), ([], []), ([], []), ([0, 1, 2, 3, 4, 5, 6, 7], []), ([], []), ([], []), ([], [])] 0 Tryz.f137 = some (plain1 I137) := by kernel_rfl
theorem ck137 : ckC 1 I137.body = true := by kernel_rfl

/-- 'encore/value.kindOf'. -/
def I138 : IFunc :=
  ⟨(.seq (.region [⟨(some 2), (.mov (.c (.i .i64 (0)))), none, []⟩] [])
    (.seq (.seq (.region [⟨(some 3), (.mov (.t 0)), none, []⟩] [])
    (.block 0
      (.seq (.region [⟨(some 5), (.bin .eql (.t 3) (.c (.s [110, 111, 110, 101]))), none, []⟩,
        ⟨(some 4), (.mov (.t 5)), none, []⟩] [])
      (.cond (.t 4)
        (.seq (.region [⟨(some 2), (.mov (.c (.i .i64 (0)))), none, []⟩] [])
        .ret)
        (.seq (.region [⟨(some 7), (.bin .eql (.t 3) (.c (.s [105, 110, 116]))), none, []⟩,
          ⟨(some 6), (.mov (.t 7)), none, []⟩] [])
        (.cond (.t 6)
          (.seq (.region [⟨(some 2), (.mov (.c (.i .i64 (1)))), none, []⟩] [])
          .ret)
          (.seq (.region [⟨(some 9), (.bin .eql (.t 3) (.c (.s [98, 111, 111, 108]))), none, []⟩,
            ⟨(some 8), (.mov (.t 9)), none, []⟩] [])
          (.cond (.t 8)
            (.seq (.region [⟨(some 2), (.mov (.c (.i .i64 (2)))), none, []⟩] [])
            .ret)
            (.seq (.region [⟨(some 11), (.bin .eql (.t 3) (.c (.s [116, 101, 120, 116]))), none, []⟩,
              ⟨(some 10), (.mov (.t 11)), none, []⟩] [])
            (.cond (.t 10)
              (.seq (.region [⟨(some 2), (.mov (.c (.i .i64 (3)))), none, []⟩] [])
              .ret)
              (.seq (.region [⟨(some 13), (.bin .eql (.t 3) (.c (.s [102, 117, 116, 117, 114, 101]))), none, []⟩,
                ⟨(some 12), (.mov (.t 13)), none, []⟩] [])
              (.cond (.t 12)
                (.seq (.region [⟨(some 2), (.mov (.c (.i .i64 (6)))), none, []⟩] [])
                .ret)
                .skip))))))))))))
    (.seq (.region [⟨(some 2), (.mov (.c (.i .i64 (-1)))), none, []⟩] [])
    .ret))),
    14, 1, [.t 2], 0⟩
theorem tr138 : trFunc Tryz.prog [([], []), ([], []), ([], []), ([], []), ([], []), ([], []), ([], []), ([], []), ([], []), ([], []), ([], []), ([], []), ([], []), ([], [])] 0 Tryz.f138 = some (plain1 I138) := by kernel_rfl
theorem ck138 : ckC 1 I138.body = true := by kernel_rfl

/-- 'encore/code.Find$1'. -/
def I139 : IFunc :=
  ⟨(.seq (.region [⟨(some 2), (.box (.t 0)), none, []⟩,
      ⟨(some 3), (.mov (.c (.b false))), none, []⟩] [])
    (.seq (.region [⟨(some 4), (.off (.t 2) 0), none, []⟩,
      ⟨(some 5), (.load none (.t 4)), none, []⟩,
      ⟨(some 6), (.load none (.t 1)), none, []⟩,
      ⟨(some 7), (.bin .eql (.t 5) (.t 6)), none, []⟩,
      ⟨(some 3), (.mov (.t 7)), none, []⟩] [])
    .ret)),
    8, 2, [.t 3], 0⟩
theorem tr139 : trFunc Tryz.prog [([], []), ([], [])] 0 Tryz.f139 = some (plain1 I139) := by kernel_rfl
theorem ck139 : ckC 1 I139.body = true := by kernel_rfl

/-- 'internal/stringslite.HasPrefix'. -/
def I140 : IFunc :=
  ⟨(.seq (.region [⟨(some 4), (.mov (.c (.b false))), none, []⟩] [])
    (.seq (.region [⟨(some 5), (.mov (.t 0)), none, []⟩,
      ⟨(some 6), (.lenk 1 (.t 5)), none, []⟩,
      ⟨(some 7), (.mov (.t 1)), none, []⟩,
      ⟨(some 8), (.lenk 1 (.t 7)), none, []⟩,
      ⟨(some 9), (.bin .geq (.t 6) (.t 8)), none, []⟩,
      ⟨(some 10), (.mov (.t 9)), none, []⟩,
      ⟨(some 11), (.mov (.t 0)), (some (10, true)), []⟩,
      ⟨(some 12), (.mov (.t 1)), (some (10, true)), []⟩,
      ⟨(some 13), (.lenk 1 (.t 12)), (some (10, true)), []⟩,
      ⟨(some 14), (.slS (.t 11) none (some (.t 13))), (some (10, true)), []⟩,
      ⟨(some 15), (.mov (.t 1)), (some (10, true)), []⟩,
      ⟨(some 16), (.bin .eql (.t 14) (.t 15)), (some (10, true)), []⟩,
      ⟨(some 17), (.pick (.t 10) (.t 16) (.c (.b false))), none, []⟩,
      ⟨(some 4), (.mov (.t 17)), none, []⟩] [])
    .ret)),
    18, 2, [.t 4], 0⟩
theorem tr140 : trFunc Tryz.prog [([], []), ([], [])] 0 Tryz.f140 = some (plain1 I140) := by kernel_rfl
theorem ck140 : ckC 1 I140.body = true := by kernel_rfl

/-- 'internal/stringslite.CutPrefix'. -/
def I141 : IFunc :=
  ⟨(.seq (.region [⟨(some 4), (.mov (.c (.s []))), none, []⟩,
      ⟨(some 5), (.mov (.c (.b false))), none, []⟩] [])
    (.seq (.seq (.region [⟨(some 6), (.mov (.t 0)), none, []⟩,
      ⟨(some 7), (.mov (.t 1)), none, []⟩,
      ⟨(some 8), (.call 140 [(.t 6), (.t 7)]), none, []⟩,
      ⟨(some 9), (.un .not (.t 8)), none, []⟩] [])
    (.cond (.t 9)
      (.seq (.region [⟨(some 10), (.mov (.t 0)), none, []⟩,
        ⟨(some 4), (.mov (.t 10)), none, []⟩,
        ⟨(some 5), (.mov (.c (.b false))), none, []⟩] [])
      .ret)
      .skip))
    (.seq (.region [⟨(some 11), (.mov (.t 0)), none, []⟩,
      ⟨(some 12), (.mov (.t 1)), none, []⟩,
      ⟨(some 13), (.lenk 1 (.t 12)), none, []⟩,
      ⟨(some 14), (.slS (.t 11) (some (.t 13)) none), none, []⟩,
      ⟨(some 4), (.mov (.t 14)), none, []⟩,
      ⟨(some 5), (.mov (.c (.b true))), none, []⟩] [])
    .ret))),
    15, 2, [.t 4, .t 5], 0⟩
theorem tr141 : trFunc Tryz.prog [([], []), ([], []), ([], []), ([], []), ([], [])] 0 Tryz.f141 = some (plain1 I141) := by kernel_rfl
theorem ck141 : ckC 1 I141.body = true := by kernel_rfl

/-- 'strings.Cut'. -/
def I142 : IFunc :=
  ⟨(.seq (.region [⟨(some 4), (.mov (.c (.s []))), none, []⟩,
      ⟨(some 5), (.mov (.c (.s []))), none, []⟩,
      ⟨(some 6), (.mov (.c (.b false))), none, []⟩] [])
    (.seq (.region [⟨(some 7), (.mov (.t 0)), none, []⟩,
      ⟨(some 8), (.mov (.t 1)), none, []⟩,
      ⟨(some 9), (.call 143 [(.t 7), (.t 8)]), none, []⟩,
      ⟨(some 10), (.ext (.t 9) 0), none, []⟩,
      ⟨(some 11), (.ext (.t 9) 1), none, []⟩,
      ⟨(some 12), (.ext (.t 9) 2), none, []⟩,
      ⟨(some 4), (.mov (.t 10)), none, []⟩,
      ⟨(some 5), (.mov (.t 11)), none, []⟩,
      ⟨(some 6), (.mov (.t 12)), none, []⟩] [])
    .ret)),
    13, 2, [.t 4, .t 5, .t 6], 0⟩
theorem tr142 : trFunc Tryz.prog [([], []), ([], [])] 0 Tryz.f142 = some (plain1 I142) := by kernel_rfl
theorem ck142 : ckC 1 I142.body = true := by kernel_rfl

/-- 'internal/stringslite.Cut'. -/
def I143 : IFunc :=
  ⟨(.seq (.region [⟨(some 4), (.mov (.c (.s []))), none, []⟩,
      ⟨(some 5), (.mov (.c (.s []))), none, []⟩,
      ⟨(some 6), (.mov (.c (.b false))), none, []⟩] [])
    (.seq (.seq (.region [⟨(some 8), (.mov (.t 0)), none, []⟩,
      ⟨(some 9), (.mov (.t 1)), none, []⟩,
      ⟨(some 10), (.call 144 [(.t 8), (.t 9)]), none, []⟩,
      ⟨(some 7), (.mov (.t 10)), none, []⟩] [])
    (.seq (.region [⟨(some 11), (.mov (.t 7)), none, []⟩,
      ⟨(some 12), (.bin .geq (.t 11) (.c (.i .i64 (0)))), none, []⟩] [])
    (.cond (.t 12)
      (.seq (.region [⟨(some 13), (.mov (.t 0)), none, []⟩,
        ⟨(some 14), (.mov (.t 7)), none, []⟩,
        ⟨(some 15), (.slS (.t 13) none (some (.t 14))), none, []⟩,
        ⟨(some 16), (.mov (.t 0)), none, []⟩,
        ⟨(some 17), (.mov (.t 7)), none, []⟩,
        ⟨(some 18), (.mov (.t 1)), none, []⟩,
        ⟨(some 19), (.lenk 1 (.t 18)), none, []⟩,
        ⟨(some 20), (.bin .add (.t 17) (.t 19)), none, []⟩,
        ⟨(some 21), (.slS (.t 16) (some (.t 20)) none), none, []⟩,
        ⟨(some 4), (.mov (.t 15)), none, []⟩,
        ⟨(some 5), (.mov (.t 21)), none, []⟩,
        ⟨(some 6), (.mov (.c (.b true))), none, []⟩] [])
      .ret)
      .skip)))
    (.seq (.region [⟨(some 22), (.mov (.t 0)), none, []⟩,
      ⟨(some 4), (.mov (.t 22)), none, []⟩,
      ⟨(some 5), (.mov (.c (.s []))), none, []⟩,
      ⟨(some 6), (.mov (.c (.b false))), none, []⟩] [])
    .ret))),
    23, 2, [.t 4, .t 5, .t 6], 0⟩
theorem tr143 : trFunc Tryz.prog [([], []), ([], []), ([], []), ([0, 1, 2, 3, 4, 5, 6, 7, 8, 9, 10, 11], []), ([], []), ([], [])] 0 Tryz.f143 = some (plain1 I143) := by kernel_rfl
theorem ck143 : ckC 1 I143.body = true := by kernel_rfl

/-- 'internal/stringslite.Index'. -/
def L144a : ICode :=
  (.seq (.seq (.region [⟨(some 57), (.mov (.t 8)), none, []⟩,
      ⟨(some 58), (.mov (.t 9)), none, []⟩,
      ⟨(some 59), (.bin .lss (.t 57) (.t 58)), none, []⟩] [])
    (.cond (.t 59)
      .skip
      (.exit 1)))
    (.block 2
      (.seq (.seq (.region [⟨(some 60), (.mov (.t 0)), none, []⟩,
        ⟨(some 61), (.mov (.t 8)), none, []⟩,
        ⟨(some 62), (.idxS (.t 60) (.t 61)), none, []⟩,
        ⟨(some 63), (.mov (.t 6)), none, []⟩,
        ⟨(some 64), (.bin .neq (.t 62) (.t 63)), none, []⟩] [])
      (.cond (.t 64)
        (.seq (.region [⟨(some 65), (.mov (.t 0)), none, []⟩,
          ⟨(some 66), (.mov (.t 8)), none, []⟩,
          ⟨(some 67), (.bin .add (.t 66) (.c (.i .i64 (1)))), none, []⟩,
          ⟨(some 68), (.mov (.t 9)), none, []⟩,
          ⟨(some 69), (.slS (.t 65) (some (.t 67)) (some (.t 68))), none, []⟩,
          ⟨(some 70), (.mov (.t 6)), none, []⟩,
          ⟨(some 71), (.call 145 [(.t 69), (.t 70)]), none, []⟩,
          ⟨(some 11), (.mov (.t 71)), none, []⟩] [])
        (.seq (.seq (.region [⟨(some 72), (.mov (.t 11)), none, []⟩,
          ⟨(some 73), (.bin .lss (.t 72) (.c (.i .i64 (0)))), none, []⟩] [])
        (.cond (.t 73)
          (.seq (.region [⟨(some 4), (.mov (.c (.i .i64 (-1)))), none, []⟩] [])
          .ret)
          .skip))
        (.region [⟨(some 74), (.mov (.t 8)), none, []⟩,
          ⟨(some 75), (.mov (.t 11)), none, []⟩,
          ⟨(some 76), (.bin .add (.t 75) (.c (.i .i64 (1)))), none, []⟩,
          ⟨(some 77), (.bin .add (.t 74) (.t 76)), none, []⟩,
          ⟨(some 8), (.mov (.t 77)), none, []⟩] [])))
        .skip))
      (.seq (.seq (.region [⟨(some 78), (.mov (.t 0)), none, []⟩,
        ⟨(some 79), (.mov (.t 8)), none, []⟩,
        ⟨(some 80), (.bin .add (.t 79) (.c (.i .i64 (1)))), none, []⟩,
        ⟨(some 81), (.idxS (.t 78) (.t 80)), none, []⟩,
        ⟨(some 82), (.mov (.t 7)), none, []⟩,
        ⟨(some 83), (.bin .eql (.t 81) (.t 82)), none, []⟩,
        ⟨(some 84), (.mov (.t 83)), none, []⟩,
        ⟨(some 85), (.mov (.t 0)), (some (84, true)), []⟩,
        ⟨(some 86), (.mov (.t 8)), (some (84, true)), []⟩,
        ⟨(some 87), (.mov (.t 8)), (some (84, true)), []⟩,
        ⟨(some 88), (.mov (.t 5)), (some (84, true)), []⟩,
        ⟨(some 89), (.bin .add (.t 87) (.t 88)), (some (84, true)), []⟩,
        ⟨(some 90), (.slS (.t 85) (some (.t 86)) (some (.t 89))), (some (84, true)), []⟩,
        ⟨(some 91), (.mov (.t 1)), (some (84, true)), []⟩,
        ⟨(some 92), (.bin .eql (.t 90) (.t 91)), (some (84, true)), []⟩,
        ⟨(some 93), (.pick (.t 84) (.t 92) (.c (.b false))), none, []⟩] [])
      (.cond (.t 93)
        (.seq (.region [⟨(some 94), (.mov (.t 8)), none, []⟩,
          ⟨(some 4), (.mov (.t 94)), none, []⟩] [])
        .ret)
        .skip))
      (.seq (.region [⟨(some 95), (.mov (.t 8)), none, []⟩,
        ⟨(some 96), (.bin .add (.t 95) (.c (.i .i64 (1)))), none, []⟩,
        ⟨(some 8), (.mov (.t 96)), none, []⟩] [])
      (.seq (.region [⟨(some 97), (.mov (.t 10)), none, []⟩,
        ⟨(some 98), (.bin .add (.t 97) (.c (.i .i64 (1)))), none, []⟩,
        ⟨(some 10), (.mov (.t 98)), none, []⟩] [])
      (.seq (.region [⟨(some 99), (.mov (.t 5)), none, []⟩,
        ⟨(some 100), (.load none (.g 0)), none, []⟩,
        ⟨(some 101), (.bin .leq (.t 99) (.t 100)), none, []⟩,
        ⟨(some 102), (.mov (.t 101)), none, []⟩,
        ⟨(some 103), (.mov (.t 10)), (some (102, true)), []⟩,
        ⟨(some 104), (.mov (.t 8)), (some (102, true)), []⟩,
        ⟨(some 105), (.call 147 [(.t 104)]), (some (102, true)), []⟩,
        ⟨(some 106), (.bin .gtr (.t 103) (.t 105)), (some (102, true)), []⟩,
        ⟨(some 107), (.pick (.t 102) (.t 106) (.c (.b false))), none, []⟩] [])
      (.cond (.t 107)
        (.seq (.region [⟨(some 108), (.mov (.t 0)), none, []⟩,
          ⟨(some 109), (.mov (.t 8)), none, []⟩,
          ⟨(some 110), (.slS (.t 108) (some (.t 109)) none), none, []⟩,
          ⟨(some 111), (.mov (.t 1)), none, []⟩,
          ⟨(some 112), (.call 146 [(.t 110), (.t 111)]), none, []⟩,
          ⟨(some 12), (.mov (.t 112)), none, []⟩] [])
        (.seq (.seq (.region [⟨(some 113), (.mov (.t 12)), none, []⟩,
          ⟨(some 114), (.bin .geq (.t 113) (.c (.i .i64 (0)))), none, []⟩] [])
        (.cond (.t 114)
          (.seq (.region [⟨(some 115), (.mov (.t 12)), none, []⟩,
            ⟨(some 116), (.mov (.t 8)), none, []⟩,
            ⟨(some 117), (.bin .add (.t 115) (.t 116)), none, []⟩,
            ⟨(some 4), (.mov (.t 117)), none, []⟩] [])
          .ret)
          .skip))
        (.seq (.region [⟨(some 4), (.mov (.c (.i .i64 (-1)))), none, []⟩] [])
        .ret)))
        (.seq (.region [⟨(some 118), (.mov (.t 5)), none, []⟩,
          ⟨(some 119), (.load none (.g 0)), none, []⟩,
          ⟨(some 120), (.bin .gtr (.t 118) (.t 119)), none, []⟩,
          ⟨(some 121), (.mov (.t 120)), none, []⟩,
          ⟨(some 122), (.mov (.t 10)), (some (121, true)), []⟩,
          ⟨(some 123), (.mov (.t 8)), (some (121, true)), []⟩,
          ⟨(some 124), (.bin .shr (.t 123) (.c (.i .u64 (4)))), (some (121, true)), []⟩,
          ⟨(some 125), (.bin .add (.c (.i .i64 (4))) (.t 124)), (some (121, true)), []⟩,
          ⟨(some 126), (.bin .geq (.t 122) (.t 125)), (some (121, true)), []⟩,
          ⟨(some 127), (.pick (.t 121) (.t 126) (.c (.b false))), none, []⟩,
          ⟨(some 128), (.mov (.t 127)), none, []⟩,
          ⟨(some 129), (.mov (.t 8)), (some (128, true)), []⟩,
          ⟨(some 130), (.mov (.t 9)), (some (128, true)), []⟩,
          ⟨(some 131), (.bin .lss (.t 129) (.t 130)), (some (128, true)), []⟩,
          ⟨(some 132), (.pick (.t 128) (.t 131) (.c (.b false))), none, []⟩] [])
        (.cond (.t 132)
          (.seq (.region [⟨(some 133), (.mov (.t 0)), none, []⟩,
            ⟨(some 134), (.mov (.t 8)), none, []⟩,
            ⟨(some 135), (.slS (.t 133) (some (.t 134)) none), none, []⟩,
            ⟨(some 136), (.mov (.t 1)), none, []⟩,
            ⟨(some 137), (.call 148 [(.t 135), (.t 136)]), none, []⟩,
            ⟨(some 13), (.mov (.t 137)), none, []⟩] [])
          (.seq (.seq (.region [⟨(some 138), (.mov (.t 13)), none, []⟩,
            ⟨(some 139), (.bin .lss (.t 138) (.c (.i .i64 (0)))), none, []⟩] [])
          (.cond (.t 139)
            (.seq (.region [⟨(some 4), (.mov (.c (.i .i64 (-1)))), none, []⟩] [])
            .ret)
            .skip))
          (.seq (.region [⟨(some 140), (.mov (.t 8)), none, []⟩,
            ⟨(some 141), (.mov (.t 13)), none, []⟩,
            ⟨(some 142), (.bin .add (.t 140) (.t 141)), none, []⟩,
            ⟨(some 4), (.mov (.t 142)), none, []⟩] [])
          .ret)))
          .skip))))))))))
def I144 : IFunc :=
  ⟨(.seq (.region [⟨(some 4), (.mov (.c (.i .i64 (0)))), none, []⟩] [])
    (.seq (.region [⟨(some 14), (.mov (.t 1)), none, []⟩,
      ⟨(some 15), (.lenk 1 (.t 14)), none, []⟩,
      ⟨(some 5), (.mov (.t 15)), none, []⟩] [])
    (.seq (.block 0
      (.seq (.region [⟨(some 17), (.mov (.t 5)), none, []⟩,
        ⟨(some 18), (.bin .eql (.t 17) (.c (.i .i64 (0)))), none, []⟩,
        ⟨(some 19), (.mov (.t 18)), none, []⟩,
        ⟨(some 20), (.mov (.t 1)), (some (19, false)), []⟩,
        ⟨(some 21), (.mov (.t 0)), (some (19, false)), []⟩,
        ⟨(some 22), (.bin .eql (.t 20) (.t 21)), (some (19, false)), []⟩,
        ⟨(some 23), (.pick (.t 19) (.c (.b true)) (.t 22)), none, []⟩,
        ⟨(some 16), (.mov (.t 23)), none, []⟩] [])
      (.cond (.t 16)
        (.seq (.region [⟨(some 4), (.mov (.c (.i .i64 (0)))), none, []⟩] [])
        .ret)
        (.seq (.region [⟨(some 25), (.mov (.t 5)), none, []⟩,
          ⟨(some 26), (.bin .eql (.t 25) (.c (.i .i64 (1)))), none, []⟩,
          ⟨(some 24), (.mov (.t 26)), none, []⟩] [])
        (.cond (.t 24)
          (.seq (.region [⟨(some 27), (.mov (.t 0)), none, []⟩,
            ⟨(some 28), (.mov (.t 1)), none, []⟩,
            ⟨(some 29), (.idxS (.t 28) (.c (.i .i64 (0)))), none, []⟩,
            ⟨(some 30), (.call 145 [(.t 27), (.t 29)]), none, []⟩,
            ⟨(some 4), (.mov (.t 30)), none, []⟩] [])
          .ret)
          (.seq (.region [⟨(some 32), (.mov (.t 5)), none, []⟩,
            ⟨(some 33), (.mov (.t 0)), none, []⟩,
            ⟨(some 34), (.lenk 1 (.t 33)), none, []⟩,
            ⟨(some 35), (.bin .geq (.t 32) (.t 34)), none, []⟩,
            ⟨(some 31), (.mov (.t 35)), none, []⟩] [])
          (.cond (.t 31)
            (.seq (.region [⟨(some 4), (.mov (.c (.i .i64 (-1)))), none, []⟩] [])
            .ret)
            (.seq (.region [⟨(some 37), (.mov (.t 5)), none, []⟩,
              ⟨(some 38), (.load none (.g 0)), none, []⟩,
              ⟨(some 39), (.bin .leq (.t 37) (.t 38)), none, []⟩,
              ⟨(some 40), (.mov (.t 39)), none, []⟩,
              ⟨(some 41), (.mov (.t 0)), (some (40, true)), []⟩,
              ⟨(some 42), (.lenk 1 (.t 41)), (some (40, true)), []⟩,
              ⟨(some 43), (.bin .leq (.t 42) (.c (.i .i64 (64)))), (some (40, true)), []⟩,
              ⟨(some 44), (.pick (.t 40) (.t 43) (.c (.b false))), none, []⟩,
              ⟨(some 36), (.mov (.t 44)), none, []⟩] [])
            (.cond (.t 36)
              (.seq (.region [⟨(some 45), (.mov (.t 0)), none, []⟩,
                ⟨(some 46), (.mov (.t 1)), none, []⟩,
                ⟨(some 47), (.call 146 [(.t 45), (.t 46)]), none, []⟩,
                ⟨(some 4), (.mov (.t 47)), none, []⟩] [])
              .ret)
              .skip)))))))))
    (.seq (.region [⟨(some 48), (.mov (.t 1)), none, []⟩,
      ⟨(some 49), (.idxS (.t 48) (.c (.i .i64 (0)))), none, []⟩,
      ⟨(some 6), (.mov (.t 49)), none, []⟩] [])
    (.seq (.region [⟨(some 50), (.mov (.t 1)), none, []⟩,
      ⟨(some 51), (.idxS (.t 50) (.c (.i .i64 (1)))), none, []⟩,
      ⟨(some 7), (.mov (.t 51)), none, []⟩] [])
    (.seq (.region [⟨(some 8), (.mov (.c (.i .i64 (0)))), none, []⟩] [])
    (.seq (.region [⟨(some 52), (.mov (.t 0)), none, []⟩,
      ⟨(some 53), (.lenk 1 (.t 52)), none, []⟩,
      ⟨(some 54), (.mov (.t 5)), none, []⟩,
      ⟨(some 55), (.bin .sub (.t 53) (.t 54)), none, []⟩,
      ⟨(some 56), (.bin .add (.t 55) (.c (.i .i64 (1)))), none, []⟩,
      ⟨(some 9), (.mov (.t 56)), none, []⟩] [])
    (.seq (.region [⟨(some 10), (.mov (.c (.i .i64 (0)))), none, []⟩] [])
    (.seq (.block 1
      (.loop L144a))
    (.seq (.region [⟨(some 4), (.mov (.c (.i .i64 (-1)))), none, []⟩] [])
    .ret)))))))))),
    143, 2, [.t 4], 0⟩
theorem tr144 : trFunc Tryz.prog [([], []), ([], []), ([], []), ([], []), ([], []), ([], []), ([], []), ([], []), ([], []), ([], []), ([], []), ([], []), ([], []), ([], []), ([], []), ([], []), ([], []), ([], []), ([], []), ([], []), ([], []), ([], []), ([], []), ([], []), ([], []), ([], []), ([], []), ([], []), ([], []), ([], []), ([], []), ([], []), ([], []), ([], []), ([], []), ([], []), ([], []), ([], []), ([], []), ([], []), ([], []), ([], []), ([], []), ([], [])] 0 Tryz.f144 = some (plain1 I144) := by kernel_rfl
theorem ck144 : ckC 1 I144.body = true := by kernel_rfl

/-- 'internal/stringslite.IndexByte'. -/
def I145 : IFunc :=
  ⟨(.seq (.region [⟨(some 4), (.mov (.c (.i .i64 (0)))), none, []⟩] [])
    (.seq (.region [⟨(some 5), (.mov (.t 0)), none, []⟩,
      ⟨(some 6), (.mov (.t 1)), none, []⟩,
      ⟨(some 7), (.call 149 [(.t 5), (.t 6)]), none, []⟩,
      ⟨(some 4), (.mov (.t 7)), none, []⟩] [])
    .ret)),
    8, 2, [.t 4], 0⟩
theorem tr145 : trFunc Tryz.prog [([], []), ([], [])] 0 Tryz.f145 = some (plain1 I145) := by kernel_rfl
theorem ck145 : ckC 1 I145.body = true := by kernel_rfl

/-- 'internal/bytealg.Cutover'. -/
def I147 : IFunc :=
  ⟨(.seq (.region [⟨(some 2), (.mov (.c (.i .i64 (0)))), none, []⟩] [])
    (.seq (.region [⟨(some 3), (.mov (.t 0)), none, []⟩,
      ⟨(some 4), (.bin .add (.t 3) (.c (.i .i64 (16)))), none, []⟩,
      ⟨(some 5), (.bin .quo (.t 4) (.c (.i .i64 (8)))), none, []⟩,
      ⟨(some 2), (.mov (.t 5)), none, []⟩] [])
    .ret)),
    6, 1, [.t 2], 0⟩
theorem tr147 : trFunc Tryz.prog [([], []), ([], [])] 0 Tryz.f147 = some (plain1 I147) := by kernel_rfl
theorem ck147 : ckC 1 I147.body = true := by kernel_rfl

/-- 'internal/bytealg.IndexRabinKarp[string]'. -/
def L148a : ICode :=
  (.seq (.seq (.region [⟨(some 18), (.mov (.t 9)), none, []⟩,
      ⟨(some 19), (.mov (.t 7)), none, []⟩,
      ⟨(some 20), (.bin .lss (.t 18) (.t 19)), none, []⟩] [])
    (.cond (.t 20)
      .skip
      (.exit 0)))
    (.seq (.block 1
      (.region [⟨(some 23), (.mov (.t 8)), none, []⟩,
        ⟨(some 24), (.bin .mul (.t 23) (.c (.i .u32 (16777619)))), none, []⟩,
        ⟨(some 25), (.mov (.t 0)), none, []⟩,
        ⟨(some 26), (.mov (.t 9)), none, []⟩,
        ⟨(some 27), (.idxS (.t 25) (.t 26)), none, []⟩,
        ⟨(some 28), (.conv .u32 (.t 27)), none, []⟩,
        ⟨(some 29), (.bin .add (.t 24) (.t 28)), none, []⟩,
        ⟨(some 8), (.mov (.t 29)), none, []⟩] []))
    (.region [⟨(some 21), (.mov (.t 9)), none, []⟩,
      ⟨(some 22), (.bin .add (.t 21) (.c (.i .i64 (1)))), none, []⟩,
      ⟨(some 9), (.mov (.t 22)), none, []⟩] [])))
def L148b : ICode :=
  (.seq (.seq (.region [⟨(some 41), (.mov (.t 10)), none, []⟩,
      ⟨(some 42), (.mov (.t 0)), none, []⟩,
      ⟨(some 43), (.lenk 1 (.t 42)), none, []⟩,
      ⟨(some 44), (.bin .lss (.t 41) (.t 43)), none, []⟩] [])
    (.cond (.t 44)
      .skip
      (.exit 2)))
    (.block 3
      (.seq (.region [⟨(some 45), (.mov (.t 8)), none, []⟩,
        ⟨(some 46), (.bin .mul (.t 45) (.c (.i .u32 (16777619)))), none, []⟩,
        ⟨(some 8), (.mov (.t 46)), none, []⟩] [])
      (.seq (.region [⟨(some 47), (.mov (.t 8)), none, []⟩,
        ⟨(some 48), (.mov (.t 0)), none, []⟩,
        ⟨(some 49), (.mov (.t 10)), none, []⟩,
        ⟨(some 50), (.idxS (.t 48) (.t 49)), none, []⟩,
        ⟨(some 51), (.conv .u32 (.t 50)), none, []⟩,
        ⟨(some 52), (.bin .add (.t 47) (.t 51)), none, []⟩,
        ⟨(some 8), (.mov (.t 52)), none, []⟩] [])
      (.seq (.region [⟨(some 53), (.mov (.t 8)), none, []⟩,
        ⟨(some 54), (.mov (.t 6)), none, []⟩,
        ⟨(some 55), (.mov (.t 0)), none, []⟩,
        ⟨(some 56), (.mov (.t 10)), none, []⟩,
        ⟨(some 57), (.mov (.t 7)), none, []⟩,
        ⟨(some 58), (.bin .sub (.t 56) (.t 57)), none, []⟩,
        ⟨(some 59), (.idxS (.t 55) (.t 58)), none, []⟩,
        ⟨(some 60), (.conv .u32 (.t 59)), none, []⟩,
        ⟨(some 61), (.bin .mul (.t 54) (.t 60)), none, []⟩,
        ⟨(some 62), (.bin .sub (.t 53) (.t 61)), none, []⟩,
        ⟨(some 8), (.mov (.t 62)), none, []⟩] [])
      (.seq (.region [⟨(some 63), (.mov (.t 10)), none, []⟩,
        ⟨(some 64), (.bin .add (.t 63) (.c (.i .i64 (1)))), none, []⟩,
        ⟨(some 10), (.mov (.t 64)), none, []⟩] [])
      (.seq (.region [⟨(some 65), (.mov (.t 8)), none, []⟩,
        ⟨(some 66), (.mov (.t 5)), none, []⟩,
        ⟨(some 67), (.bin .eql (.t 65) (.t 66)), none, []⟩,
        ⟨(some 68), (.mov (.t 67)), none, []⟩,
        ⟨(some 69), (.mov (.t 0)), (some (68, true)), []⟩,
        ⟨(some 70), (.mov (.t 10)), (some (68, true)), []⟩,
        ⟨(some 71), (.mov (.t 7)), (some (68, true)), []⟩,
        ⟨(some 72), (.bin .sub (.t 70) (.t 71)), (some (68, true)), []⟩,
        ⟨(some 73), (.mov (.t 10)), (some (68, true)), []⟩,
        ⟨(some 74), (.slS (.t 69) (some (.t 72)) (some (.t 73))), (some (68, true)), []⟩,
        ⟨(some 75), (.mov (.t 1)), (some (68, true)), []⟩,
        ⟨(some 76), (.bin .eql (.t 74) (.t 75)), (some (68, true)), []⟩,
        ⟨(some 77), (.pick (.t 68) (.t 76) (.c (.b false))), none, []⟩] [])
      (.cond (.t 77)
        (.seq (.region [⟨(some 78), (.mov (.t 10)), none, []⟩,
          ⟨(some 79), (.mov (.t 7)), none, []⟩,
          ⟨(some 80), (.bin .sub (.t 78) (.t 79)), none, []⟩,
          ⟨(some 4), (.mov (.t 80)), none, []⟩] [])
        .ret)
        .skip))))))))
def I148 : IFunc :=
  ⟨(.seq (.region [⟨(some 4), (.mov (.c (.i .i64 (0)))), none, []⟩] [])
    (.seq (.region [⟨(some 12), (.mov (.t 1)), none, []⟩,
      ⟨(some 13), (.call 150 [(.t 12)]), none, []⟩,
      ⟨(some 11), (.mov (.t 13)), none, []⟩,
      ⟨(some 14), (.ext (.t 11) 0), none, []⟩,
      ⟨(some 15), (.ext (.t 11) 1), none, []⟩,
      ⟨(some 5), (.mov (.t 14)), none, []⟩,
      ⟨(some 6), (.mov (.t 15)), none, []⟩] [])
    (.seq (.region [⟨(some 16), (.mov (.t 1)), none, []⟩,
      ⟨(some 17), (.lenk 1 (.t 16)), none, []⟩,
      ⟨(some 7), (.mov (.t 17)), none, []⟩] [])
    (.seq (.region [⟨(some 8), (.mov (.c (.i .u32 (0)))), none, []⟩] [])
    (.seq (.seq (.region [⟨(some 9), (.mov (.c (.i .i64 (0)))), none, []⟩] [])
    (.block 0
      (.loop L148a)))
    (.seq (.seq (.region [⟨(some 30), (.mov (.t 8)), none, []⟩,
      ⟨(some 31), (.mov (.t 5)), none, []⟩,
      ⟨(some 32), (.bin .eql (.t 30) (.t 31)), none, []⟩,
      ⟨(some 33), (.mov (.t 32)), none, []⟩,
      ⟨(some 34), (.mov (.t 0)), (some (33, true)), []⟩,
      ⟨(some 35), (.mov (.t 7)), (some (33, true)), []⟩,
      ⟨(some 36), (.slS (.t 34) none (some (.t 35))), (some (33, true)), []⟩,
      ⟨(some 37), (.mov (.t 1)), (some (33, true)), []⟩,
      ⟨(some 38), (.bin .eql (.t 36) (.t 37)), (some (33, true)), []⟩,
      ⟨(some 39), (.pick (.t 33) (.t 38) (.c (.b false))), none, []⟩] [])
    (.cond (.t 39)
      (.seq (.region [⟨(some 4), (.mov (.c (.i .i64 (0)))), none, []⟩] [])
      .ret)
      .skip))
    (.seq (.seq (.region [⟨(some 40), (.mov (.t 7)), none, []⟩,
      ⟨(some 10), (.mov (.t 40)), none, []⟩] [])
    (.block 2
      (.loop L148b)))
    (.seq (.region [⟨(some 4), (.mov (.c (.i .i64 (-1)))), none, []⟩] [])
    .ret)))))))),
    81, 2, [.t 4], 0⟩
theorem tr148 : trFunc Tryz.prog [([], []), ([], []), ([], []), ([], []), ([], []), ([], []), ([], []), ([], []), ([], []), ([], []), ([], []), ([], []), ([], []), ([], []), ([], []), ([], []), ([], []), ([], []), ([], []), ([], []), ([], []), ([], []), ([], [])] 0 Tryz.f148 = some (plain1 I148) := by kernel_rfl
theorem ck148 : ckC 1 I148.body = true := by kernel_rfl

/-- 'internal/bytealg.IndexByteString'. -/
def I149 : IFunc := extFn

end Go.Proofs.YteoliiakbmomeabGreat

