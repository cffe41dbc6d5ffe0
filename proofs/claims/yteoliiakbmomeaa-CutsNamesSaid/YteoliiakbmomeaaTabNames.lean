/- The functions that the statement reaches, as the interpreter has them. Conditions: none. -/
import Derived.Test.YteoliiakbmomeaaRows
import Derived.Test.YteoliiakbmomeaaRiFast
import Derived.Test.YteoliiakbmomeaaRiCuts
namespace Go.Proofs.Yteoliiakbmomeaa
open Go Go.RI

/-- 'encore/encorelaw19.CutsNames'. -/
def I3 : IFunc :=
  ⟨(.seq (.region [⟨(some 0), (.mov (.c (.b false))), none, []⟩] [])
    (.seq (.region [⟨(some 15), (.call 4 [(.c (.i .i64 (1))), (.c (.i .i64 (0)))]), none, []⟩,
      ⟨(some 16), (.call 4 [(.c (.i .i64 (1))), (.c (.i .i64 (1)))]), none, []⟩,
      ⟨(some 17), (.call 4 [(.c (.i .i64 (30))), (.c (.i .i64 (0)))]), none, []⟩,
      ⟨(some 1), (.alloc [(.i .i64 (0)), (.i .i64 (0)), (.i .i64 (0))]), none, []⟩,
      ⟨(some 2), (.alloc [(.i .i64 (0)), (.i .i64 (0)), (.i .i64 (0))]), none, []⟩,
      ⟨(some 3), (.alloc [(.i .i64 (0)), (.i .i64 (0)), (.i .i64 (0))]), none, []⟩,
      ⟨none, (.store 3 (.t 1) (.t 15)), none, []⟩,
      ⟨none, (.store 3 (.t 2) (.t 16)), none, []⟩,
      ⟨none, (.store 3 (.t 3) (.t 17)), none, []⟩] [])
    (.seq (.region [⟨(some 18), (.call 4 [(.c (.i .i64 (24))), (.c (.i .i64 (0)))]), none, []⟩,
      ⟨(some 19), (.bsl 3 1 [(.i .i64 (0)), (.i .i64 (0)), (.i .i64 (0))] [(0, 3, (.t 18))]), none, []⟩,
      ⟨(some 20), (.call 6 [(.t 19)]), none, []⟩,
      ⟨(some 21), (.build [(.i .i64 (0)), (.i .i64 (0)), (.i .i64 (0)), (.i .i64 (0))] [(1, 1, (.c (.i .i64 (1)))), (2, 1, (.c (.i .i64 (1))))]), none, []⟩,
      ⟨(some 22), (.bsl 4 1 [(.i .i64 (0)), (.i .i64 (0)), (.i .i64 (0)), (.i .i64 (0))] [(0, 4, (.t 21))]), none, []⟩,
      ⟨(some 23), (.call 5 [(.t 20), (.t 22)]), none, []⟩,
      ⟨(some 4), (.mov (.t 23)), none, []⟩] [])
    (.seq (.region [⟨(some 25), (.load (some 3) (.t 1)), none, []⟩,
      ⟨(some 27), (.load (some 3) (.t 3)), none, []⟩,
      ⟨(some 29), (.load (some 3) (.t 3)), none, []⟩,
      ⟨(some 32), (.build [(.i .i64 (0)), (.i .i64 (0)), (.i .i64 (0)), (.i .i64 (0))] [(0, 1, (.c (.i .i64 (1)))), (1, 1, (.c (.i .i64 (1)))), (2, 1, (.c (.i .i64 (3)))), (3, 1, (.c (.i .i64 (2))))]), none, []⟩,
      ⟨(some 33), (.build [(.i .i64 (0)), (.i .i64 (0)), (.i .i64 (0)), (.i .i64 (0))] [(0, 1, (.c (.i .i64 (4)))), (1, 1, (.c (.i .i64 (1)))), (2, 1, (.c (.i .i64 (3)))), (3, 1, (.c (.i .i64 (5))))]), none, []⟩,
      ⟨(some 34), (.bsl 4 2 [(.i .i64 (0)), (.i .i64 (0)), (.i .i64 (0)), (.i .i64 (0)), (.i .i64 (0)), (.i .i64 (0)), (.i .i64 (0)), (.i .i64 (0))] [(0, 4, (.t 32)), (4, 4, (.t 33))]), none, []⟩,
      ⟨(some 24), (.call 4 [(.c (.i .i64 (26))), (.c (.i .i64 (4)))]), none, [(25, (.load (some 3) (.t 1)), none), (27, (.load (some 3) (.t 3)), none), (29, (.load (some 3) (.t 3)), none)]⟩,
      ⟨(some 26), (.call 4 [(.c (.i .i64 (27))), (.c (.i .i64 (0)))]), none, [(25, (.load (some 3) (.t 1)), none), (27, (.load (some 3) (.t 3)), none), (29, (.load (some 3) (.t 3)), none)]⟩,
      ⟨(some 28), (.call 4 [(.c (.i .i64 (6))), (.c (.i .i64 (0)))]), none, [(25, (.load (some 3) (.t 1)), none), (27, (.load (some 3) (.t 3)), none), (29, (.load (some 3) (.t 3)), none)]⟩,
      ⟨(some 30), (.bsl 3 6 [(.i .i64 (0)), (.i .i64 (0)), (.i .i64 (0)), (.i .i64 (0)), (.i .i64 (0)), (.i .i64 (0)), (.i .i64 (0)), (.i .i64 (0)), (.i .i64 (0)), (.i .i64 (0)), (.i .i64 (0)), (.i .i64 (0)), (.i .i64 (0)), (.i .i64 (0)), (.i .i64 (0)), (.i .i64 (0)), (.i .i64 (0)), (.i .i64 (0))] [(0, 3, (.t 24)), (3, 3, (.t 25)), (6, 3, (.t 26)), (9, 3, (.t 27)), (12, 3, (.t 28)), (15, 3, (.t 29))]), none, []⟩,
      ⟨(some 31), (.call 6 [(.t 30)]), none, []⟩,
      ⟨(some 35), (.call 5 [(.t 31), (.t 34)]), none, []⟩,
      ⟨(some 5), (.mov (.t 35)), none, []⟩] [])
    (.seq (.region [⟨(some 36), (.load (some 3) (.t 1)), none, []⟩,
      ⟨(some 37), (.load (some 3) (.t 3)), none, []⟩,
      ⟨(some 38), (.load (some 3) (.t 1)), none, []⟩,
      ⟨(some 39), (.load (some 3) (.t 3)), none, []⟩,
      ⟨(some 40), (.bsl 3 4 [(.i .i64 (0)), (.i .i64 (0)), (.i .i64 (0)), (.i .i64 (0)), (.i .i64 (0)), (.i .i64 (0)), (.i .i64 (0)), (.i .i64 (0)), (.i .i64 (0)), (.i .i64 (0)), (.i .i64 (0)), (.i .i64 (0))] [(0, 3, (.t 36)), (3, 3, (.t 37)), (6, 3, (.t 38)), (9, 3, (.t 39))]), none, []⟩,
      ⟨(some 41), (.call 6 [(.t 40)]), none, []⟩,
      ⟨(some 42), (.build [(.i .i64 (0)), (.i .i64 (0)), (.i .i64 (0)), (.i .i64 (0))] [(1, 1, (.c (.i .i64 (1)))), (2, 1, (.c (.i .i64 (3)))), (3, 1, (.c (.i .i64 (1))))]), none, []⟩,
      ⟨(some 43), (.bsl 4 1 [(.i .i64 (0)), (.i .i64 (0)), (.i .i64 (0)), (.i .i64 (0))] [(0, 4, (.t 42))]), none, []⟩,
      ⟨(some 44), (.call 5 [(.t 41), (.t 43)]), none, []⟩,
      ⟨(some 6), (.mov (.t 44)), none, []⟩] [])
    (.seq (.region [⟨(some 45), (.load (some 3) (.t 2)), none, []⟩,
      ⟨(some 47), (.load (some 3) (.t 1)), none, []⟩,
      ⟨(some 48), (.load (some 3) (.t 3)), none, []⟩,
      ⟨(some 51), (.build [(.i .i64 (0)), (.i .i64 (0)), (.i .i64 (0)), (.i .i64 (0))] [(1, 1, (.c (.i .i64 (2)))), (2, 1, (.c (.i .i64 (2)))), (3, 1, (.c (.i .i64 (2))))]), none, []⟩,
      ⟨(some 52), (.build [(.i .i64 (0)), (.i .i64 (0)), (.i .i64 (0)), (.i .i64 (0))] [(0, 1, (.c (.i .i64 (2)))), (1, 1, (.c (.i .i64 (1)))), (2, 1, (.c (.i .i64 (3)))), (3, 1, (.c (.i .i64 (3))))]), none, []⟩,
      ⟨(some 53), (.bsl 4 2 [(.i .i64 (0)), (.i .i64 (0)), (.i .i64 (0)), (.i .i64 (0)), (.i .i64 (0)), (.i .i64 (0)), (.i .i64 (0)), (.i .i64 (0))] [(0, 4, (.t 51)), (4, 4, (.t 52))]), none, []⟩,
      ⟨(some 46), (.call 4 [(.c (.i .i64 (25))), (.c (.i .i64 (2)))]), none, [(45, (.load (some 3) (.t 2)), none), (47, (.load (some 3) (.t 1)), none), (48, (.load (some 3) (.t 3)), none)]⟩,
      ⟨(some 49), (.bsl 3 4 [(.i .i64 (0)), (.i .i64 (0)), (.i .i64 (0)), (.i .i64 (0)), (.i .i64 (0)), (.i .i64 (0)), (.i .i64 (0)), (.i .i64 (0)), (.i .i64 (0)), (.i .i64 (0)), (.i .i64 (0)), (.i .i64 (0))] [(0, 3, (.t 45)), (3, 3, (.t 46)), (6, 3, (.t 47)), (9, 3, (.t 48))]), none, []⟩,
      ⟨(some 50), (.call 6 [(.t 49)]), none, []⟩,
      ⟨(some 54), (.call 5 [(.t 50), (.t 53)]), none, []⟩,
      ⟨(some 7), (.mov (.t 54)), none, []⟩] [])
    (.seq (.region [⟨(some 56), (.load (some 3) (.t 3)), none, []⟩,
      ⟨(some 55), (.call 4 [(.c (.i .i64 (29))), (.c (.i .i64 (0)))]), none, [(56, (.load (some 3) (.t 3)), none)]⟩,
      ⟨(some 57), (.bsl 3 2 [(.i .i64 (0)), (.i .i64 (0)), (.i .i64 (0)), (.i .i64 (0)), (.i .i64 (0)), (.i .i64 (0))] [(0, 3, (.t 55)), (3, 3, (.t 56))]), none, []⟩,
      ⟨(some 58), (.call 6 [(.t 57)]), none, []⟩,
      ⟨(some 59), (.call 5 [(.t 58), (.c .ns)]), none, []⟩,
      ⟨(some 8), (.mov (.t 59)), none, []⟩] [])
    (.seq (.region [⟨(some 62), (.load (some 3) (.t 3)), none, []⟩,
      ⟨(some 61), (.call 4 [(.c (.i .i64 (4))), (.c (.i .i64 (0)))]), none, [(62, (.load (some 3) (.t 3)), none)]⟩,
      ⟨(some 63), (.bsl 3 2 [(.i .i64 (0)), (.i .i64 (0)), (.i .i64 (0)), (.i .i64 (0)), (.i .i64 (0)), (.i .i64 (0))] [(0, 3, (.t 61)), (3, 3, (.t 62))]), none, []⟩,
      ⟨(some 64), (.call 6 [(.t 63)]), none, []⟩,
      ⟨(some 65), (.call 7 [(.t 64), (.c (.i .i64 (0)))]), none, []⟩,
      ⟨(some 60), (.mov (.t 65)), none, []⟩,
      ⟨(some 66), (.ext (.t 60) 0), none, []⟩,
      ⟨(some 67), (.ext (.t 60) 1), none, []⟩,
      ⟨(some 9), (.mov (.t 66)), none, []⟩,
      ⟨(some 10), (.mov (.t 67)), none, []⟩] [])
    (.seq (.region [⟨(some 69), (.load (some 3) (.t 1)), none, []⟩,
      ⟨(some 70), (.load (some 3) (.t 3)), none, []⟩,
      ⟨(some 71), (.bsl 3 2 [(.i .i64 (0)), (.i .i64 (0)), (.i .i64 (0)), (.i .i64 (0)), (.i .i64 (0)), (.i .i64 (0))] [(0, 3, (.t 69)), (3, 3, (.t 70))]), none, []⟩,
      ⟨(some 72), (.call 6 [(.t 71)]), none, []⟩,
      ⟨(some 73), (.call 7 [(.t 72), (.c (.i .i64 (1)))]), none, []⟩,
      ⟨(some 68), (.mov (.t 73)), none, []⟩,
      ⟨(some 74), (.ext (.t 68) 0), none, []⟩,
      ⟨(some 75), (.ext (.t 68) 1), none, []⟩,
      ⟨(some 11), (.mov (.t 74)), none, []⟩,
      ⟨(some 12), (.mov (.t 75)), none, []⟩] [])
    (.seq (.region [⟨(some 77), (.call 8 [(.c .ns), (.c (.i .i64 (0)))]), none, []⟩,
      ⟨(some 76), (.mov (.t 77)), none, []⟩,
      ⟨(some 78), (.ext (.t 76) 0), none, []⟩,
      ⟨(some 79), (.ext (.t 76) 1), none, []⟩,
      ⟨(some 13), (.alloc [(.i .i64 (0)), (.i .i64 (0)), (.i .i64 (0)), (.i .i64 (0))]), none, []⟩,
      ⟨none, (.store 4 (.t 13) (.t 78)), none, []⟩,
      ⟨(some 14), (.mov (.t 79)), none, []⟩] [])
    (.seq (.region [⟨(some 80), (.mov (.c (.b true))), none, []⟩,
      ⟨(some 81), (.call 9 []), (some (80, true)), []⟩,
      ⟨(some 82), (.pick (.t 80) (.t 81) (.c (.b false))), none, []⟩,
      ⟨(some 83), (.mov (.t 82)), none, []⟩,
      ⟨(some 84), (.mov (.t 4)), (some (83, true)), []⟩,
      ⟨(some 85), (.pick (.t 83) (.t 84) (.c (.b false))), none, []⟩,
      ⟨(some 86), (.mov (.t 85)), none, []⟩,
      ⟨(some 87), (.mov (.t 5)), (some (86, true)), []⟩,
      ⟨(some 88), (.pick (.t 86) (.t 87) (.c (.b false))), none, []⟩,
      ⟨(some 89), (.mov (.t 88)), none, []⟩,
      ⟨(some 90), (.mov (.t 6)), (some (89, true)), []⟩,
      ⟨(some 91), (.pick (.t 89) (.t 90) (.c (.b false))), none, []⟩,
      ⟨(some 92), (.mov (.t 91)), none, []⟩,
      ⟨(some 93), (.mov (.t 7)), (some (92, true)), []⟩,
      ⟨(some 94), (.pick (.t 92) (.t 93) (.c (.b false))), none, []⟩,
      ⟨(some 95), (.mov (.t 94)), none, []⟩,
      ⟨(some 96), (.mov (.t 8)), (some (95, true)), []⟩,
      ⟨(some 97), (.pick (.t 95) (.t 96) (.c (.b false))), none, []⟩,
      ⟨(some 98), (.mov (.t 97)), none, []⟩,
      ⟨(some 99), (.mov (.t 10)), (some (98, true)), []⟩,
      ⟨(some 100), (.bin .eql (.t 99) (.c (.i .i64 (170)))), (some (98, true)), []⟩,
      ⟨(some 101), (.pick (.t 98) (.t 100) (.c (.b false))), none, []⟩,
      ⟨(some 102), (.mov (.t 101)), none, []⟩,
      ⟨(some 103), (.mov (.t 12)), (some (102, true)), []⟩,
      ⟨(some 104), (.bin .eql (.t 103) (.c (.i .i64 (9)))), (some (102, true)), []⟩,
      ⟨(some 105), (.pick (.t 102) (.t 104) (.c (.b false))), none, []⟩,
      ⟨(some 106), (.mov (.t 105)), none, []⟩,
      ⟨(some 107), (.mov (.t 14)), (some (106, true)), []⟩,
      ⟨(some 108), (.un .not (.t 107)), (some (106, true)), []⟩,
      ⟨(some 109), (.pick (.t 106) (.t 108) (.c (.b false))), none, []⟩,
      ⟨(some 0), (.mov (.t 109)), none, []⟩] [])
    .ret))))))))))),
    110, 0, [.t 0], 0⟩
theorem tr3 : trFunc Try.prog [([], []), ([], []), ([], []), ([1, 3, 5, 8, 9, 10, 0, 2, 4, 6, 7, 11, 12], []), ([], []), ([0, 2, 3, 6, 7, 8, 1, 4, 5, 9, 10], []), ([1, 0, 2, 3, 4, 5], []), ([1, 0, 2, 3, 4, 5, 6, 7, 8, 9], []), ([], []), ([], []), ([], [])] 0 Try.f3 = some I3 := by kernel_rfl

/-- 'encore/encorelaw19.is'. -/
def I4 : IFunc :=
  ⟨(.seq (.region [⟨(some 4), (.alloc [(.i .i64 (0)), (.i .i64 (0)), (.i .i64 (0))]), none, []⟩] [])
    (.seq (.region [⟨(some 5), (.mov (.t 0)), none, []⟩,
      ⟨(some 6), (.mov (.t 1)), none, []⟩,
      ⟨(some 7), (.build [(.i .i64 (0)), (.i .i64 (0)), (.i .i64 (0))] [(0, 1, (.t 5)), (1, 1, (.t 6))]), none, []⟩,
      ⟨none, (.store 3 (.t 4) (.t 7)), none, []⟩] [])
    .ret)),
    8, 2, [.c 4 (some 3)], 0⟩
theorem tr4 : trFunc Try.prog [([], []), ([], [])] 0 Try.f4 = some I4 := by kernel_rfl

/-- 'encore/encorelaw19.cut'. -/
def L5a : ICode :=
  (.seq (.seq (.region [⟨(some 22), (.mov (.t 7)), none, []⟩,
      ⟨(some 23), (.mov (.t 5)), none, []⟩,
      ⟨(some 24), (.lenk 0 (.t 23)), none, []⟩,
      ⟨(some 25), (.bin .lss (.t 22) (.t 24)), none, []⟩] [])
    (.cond (.t 25)
      .skip
      (.exit 0)))
    (.seq (.block 1
      (.seq (.region [⟨(some 28), (.mov (.t 5)), none, []⟩,
        ⟨(some 29), (.mov (.t 7)), none, []⟩,
        ⟨(some 30), (.iaddr 4 (.t 28) (.t 29)), none, []⟩,
        ⟨(some 31), (.load (some 4) (.t 30)), none, []⟩,
        ⟨(some 32), (.mov (.t 1)), none, []⟩,
        ⟨(some 33), (.mov (.t 7)), none, []⟩,
        ⟨(some 34), (.iaddr 4 (.t 32) (.t 33)), none, []⟩,
        ⟨(some 35), (.load (some 4) (.t 34)), none, []⟩,
        ⟨(some 36), (.eqAg [1, 1, 1, 1] true (.t 31) (.t 35)), none, []⟩] [])
      (.cond (.t 36)
        (.seq (.region [⟨(some 4), (.mov (.c (.b false))), none, []⟩] [])
        .ret)
        .skip)))
    (.region [⟨(some 26), (.mov (.t 7)), none, []⟩,
      ⟨(some 27), (.bin .add (.t 26) (.c (.i .i64 (1)))), none, []⟩,
      ⟨(some 7), (.mov (.t 27)), none, []⟩] [])))
def I5 : IFunc :=
  ⟨(.seq (.region [⟨(some 2), (.box (.t 0)), none, []⟩,
      ⟨(some 4), (.mov (.c (.b false))), none, []⟩] [])
    (.seq (.region [⟨(some 9), (.load (some 2) (.t 2)), none, []⟩,
      ⟨(some 10), (.call 7 [(.t 9), (.c (.i .i64 (0)))]), none, []⟩,
      ⟨(some 8), (.mov (.t 10)), none, []⟩,
      ⟨(some 11), (.ext (.t 8) 0), none, []⟩,
      ⟨(some 12), (.ext (.t 8) 1), none, []⟩,
      ⟨(some 5), (.mov (.t 11)), none, []⟩,
      ⟨(some 6), (.mov (.t 12)), none, []⟩] [])
    (.seq (.seq (.region [⟨(some 13), (.mov (.t 6)), none, []⟩,
      ⟨(some 14), (.bin .neq (.t 13) (.c (.i .i64 (0)))), none, []⟩,
      ⟨(some 15), (.mov (.t 14)), none, []⟩,
      ⟨(some 16), (.mov (.t 5)), (some (15, false)), []⟩,
      ⟨(some 17), (.lenk 0 (.t 16)), (some (15, false)), []⟩,
      ⟨(some 18), (.mov (.t 1)), (some (15, false)), []⟩,
      ⟨(some 19), (.lenk 0 (.t 18)), (some (15, false)), []⟩,
      ⟨(some 20), (.bin .neq (.t 17) (.t 19)), (some (15, false)), []⟩,
      ⟨(some 21), (.pick (.t 15) (.c (.b true)) (.t 20)), none, []⟩] [])
    (.cond (.t 21)
      (.seq (.region [⟨(some 4), (.mov (.c (.b false))), none, []⟩] [])
      .ret)
      .skip))
    (.seq (.seq (.region [⟨(some 7), (.mov (.c (.i .i64 (0)))), none, []⟩] [])
    (.block 0
      (.loop L5a)))
    (.seq (.region [⟨(some 4), (.mov (.c (.b true))), none, []⟩] [])
    .ret))))),
    37, 2, [.t 4], 0⟩
theorem tr5 : trFunc Try.prog [([], []), ([], []), ([], []), ([], []), ([], []), ([], []), ([], []), ([], []), ([0, 1, 2, 3, 4, 5, 6, 7, 8], []), ([], []), ([], []), ([], []), ([], [])] 0 Try.f5 = some I5 := by kernel_rfl

/-- 'encore/encorelaw19.of'. -/
def I6 : IFunc :=
  ⟨(.seq (.region [⟨(some 2), (.alloc [.ns, .ns]), none, []⟩] [])
    (.seq (.region [⟨(some 3), (.mov (.t 0)), none, []⟩,
      ⟨(some 4), (.build [(.s []), (.i .i64 (0)), (.i .i64 (0)), .ns] [(0, 1, (.c (.s [109, 97, 105, 110]))), (2, 1, (.c (.i .i64 (1)))), (3, 1, (.t 3))]), none, []⟩,
      ⟨(some 5), (.bsl 4 1 [(.s []), (.i .i64 (0)), (.i .i64 (0)), .ns] [(0, 4, (.t 4))]), none, []⟩,
      ⟨(some 6), (.call 10 [(.c (.i .i64 (1)))]), none, []⟩,
      ⟨(some 7), (.build [(.i .i64 (0)), (.i .i64 (0)), (.s []), .ns, .ns] [(0, 1, (.c (.i .i64 (2)))), (1, 1, (.c (.i .i64 (1))))]), none, []⟩,
      ⟨(some 8), (.bsl 5 2 [(.i .i64 (0)), (.i .i64 (0)), (.s []), .ns, .ns, (.i .i64 (0)), (.i .i64 (0)), (.s []), .ns, .ns] [(0, 5, (.t 6)), (5, 5, (.t 7))]), none, []⟩,
      ⟨(some 9), (.build [.ns, .ns] [(0, 1, (.t 5)), (1, 1, (.t 8))]), none, []⟩,
      ⟨none, (.store 2 (.t 2) (.t 9)), none, []⟩] [])
    .ret)),
    10, 1, [.c 2 (some 2)], 0⟩
theorem tr6 : trFunc Try.prog [([], []), ([], [])] 0 Try.f6 = some I6 := by kernel_rfl

-- 7 encore/cuts.Of LACKING
/-- 'encore/cuts.At'. -/
def I8 : IFunc :=
  ⟨(.seq (.region [⟨(some 3), (.box (.t 1)), none, []⟩,
      ⟨(some 4), (.alloc [(.i .i64 (0)), (.i .i64 (0)), (.i .i64 (0)), (.i .i64 (0))]), none, []⟩,
      ⟨(some 5), (.mov (.c (.b false))), none, []⟩] [])
    (.seq (.region [⟨(some 7), (.mov (.t 0)), none, []⟩,
      ⟨(some 8), (.mkf 15 [] [(.t 3)]), none, []⟩,
      ⟨(some 9), (.call 14 [(.t 7), (.t 8)]), none, []⟩,
      ⟨(some 6), (.mov (.t 9)), none, []⟩] [])
    (.seq (.seq (.region [⟨(some 10), (.mov (.t 6)), none, []⟩,
      ⟨(some 11), (.bin .lss (.t 10) (.c (.i .i64 (0)))), none, []⟩] [])
    (.cond (.t 11)
      (.seq (.region [⟨(some 12), (.build [(.i .i64 (0)), (.i .i64 (0)), (.i .i64 (0)), (.i .i64 (0))] []), none, []⟩,
        ⟨none, (.store 4 (.t 4) (.t 12)), none, []⟩,
        ⟨(some 5), (.mov (.c (.b false))), none, []⟩] [])
      .ret)
      .skip))
    (.seq (.region [⟨(some 13), (.mov (.t 0)), none, []⟩,
      ⟨(some 14), (.mov (.t 6)), none, []⟩,
      ⟨(some 15), (.iaddr 4 (.t 13) (.t 14)), none, []⟩,
      ⟨(some 16), (.load (some 4) (.t 15)), none, []⟩,
      ⟨none, (.store 4 (.t 4) (.t 16)), none, []⟩,
      ⟨(some 5), (.mov (.c (.b true))), none, []⟩] [])
    .ret)))),
    17, 2, [.c 4 (some 4), .t 5], 0⟩
theorem tr8 : trFunc Try.prog [([], []), ([], []), ([], []), ([], []), ([], []), ([], [])] 0 Try.f8 = some I8 := by kernel_rfl

/-- 'encore/encorelaw19.works'. -/
def I9 : IFunc :=
  ⟨(.seq (.region [⟨(some 0), (.mov (.c (.b false))), none, []⟩] [])
    (.seq (.region [⟨(some 9), (.call 4 [(.c (.i .i64 (1))), (.c (.i .i64 (0)))]), none, []⟩,
      ⟨(some 10), (.call 4 [(.c (.i .i64 (1))), (.c (.i .i64 (1)))]), none, []⟩,
      ⟨(some 11), (.call 4 [(.c (.i .i64 (30))), (.c (.i .i64 (0)))]), none, []⟩,
      ⟨(some 1), (.alloc [(.i .i64 (0)), (.i .i64 (0)), (.i .i64 (0))]), none, []⟩,
      ⟨(some 2), (.alloc [(.i .i64 (0)), (.i .i64 (0)), (.i .i64 (0))]), none, []⟩,
      ⟨(some 3), (.alloc [(.i .i64 (0)), (.i .i64 (0)), (.i .i64 (0))]), none, []⟩,
      ⟨none, (.store 3 (.t 1) (.t 9)), none, []⟩,
      ⟨none, (.store 3 (.t 2) (.t 10)), none, []⟩,
      ⟨none, (.store 3 (.t 3) (.t 11)), none, []⟩] [])
    (.seq (.region [⟨(some 12), (.load (some 3) (.t 1)), none, []⟩,
      ⟨(some 13), (.load (some 3) (.t 3)), none, []⟩,
      ⟨(some 14), (.bsl 3 2 [(.i .i64 (0)), (.i .i64 (0)), (.i .i64 (0)), (.i .i64 (0)), (.i .i64 (0)), (.i .i64 (0))] [(0, 3, (.t 12)), (3, 3, (.t 13))]), none, []⟩,
      ⟨(some 15), (.call 6 [(.t 14)]), none, []⟩,
      ⟨(some 16), (.build [(.i .i64 (0)), (.i .i64 (0)), (.i .i64 (0)), (.i .i64 (0))] [(0, 1, (.c (.i .i64 (0)))), (1, 1, (.c (.i .i64 (1)))), (2, 1, (.c (.i .i64 (3)))), (3, 1, (.c (.i .i64 (1))))]), none, []⟩,
      ⟨(some 17), (.bsl 4 1 [(.i .i64 (0)), (.i .i64 (0)), (.i .i64 (0)), (.i .i64 (0))] [(0, 4, (.t 16))]), none, []⟩,
      ⟨(some 18), (.call 5 [(.t 15), (.t 17)]), none, []⟩,
      ⟨(some 4), (.mov (.t 18)), none, []⟩] [])
    (.seq (.region [⟨(some 19), (.load (some 3) (.t 2)), none, []⟩,
      ⟨(some 21), (.load (some 3) (.t 1)), none, []⟩,
      ⟨(some 22), (.load (some 3) (.t 3)), none, []⟩,
      ⟨(some 26), (.build [(.i .i64 (0)), (.i .i64 (0)), (.i .i64 (0)), (.i .i64 (0))] [(1, 1, (.c (.i .i64 (2)))), (2, 1, (.c (.i .i64 (2)))), (3, 1, (.c (.i .i64 (4))))]), none, []⟩,
      ⟨(some 27), (.build [(.i .i64 (0)), (.i .i64 (0)), (.i .i64 (0)), (.i .i64 (0))] [(0, 1, (.c (.i .i64 (2)))), (1, 1, (.c (.i .i64 (1)))), (2, 1, (.c (.i .i64 (3)))), (3, 1, (.c (.i .i64 (3))))]), none, []⟩,
      ⟨(some 28), (.build [(.i .i64 (0)), (.i .i64 (0)), (.i .i64 (0)), (.i .i64 (0))] [(0, 1, (.c (.i .i64 (4)))), (1, 1, (.c (.i .i64 (1)))), (2, 1, (.c (.i .i64 (1))))]), none, []⟩,
      ⟨(some 29), (.bsl 4 3 [(.i .i64 (0)), (.i .i64 (0)), (.i .i64 (0)), (.i .i64 (0)), (.i .i64 (0)), (.i .i64 (0)), (.i .i64 (0)), (.i .i64 (0)), (.i .i64 (0)), (.i .i64 (0)), (.i .i64 (0)), (.i .i64 (0))] [(0, 4, (.t 26)), (4, 4, (.t 27)), (8, 4, (.t 28))]), none, []⟩,
      ⟨(some 20), (.call 4 [(.c (.i .i64 (25))), (.c (.i .i64 (4)))]), none, [(19, (.load (some 3) (.t 2)), none), (21, (.load (some 3) (.t 1)), none), (22, (.load (some 3) (.t 3)), none)]⟩,
      ⟨(some 23), (.call 4 [(.c (.i .i64 (24))), (.c (.i .i64 (0)))]), none, [(19, (.load (some 3) (.t 2)), none), (21, (.load (some 3) (.t 1)), none), (22, (.load (some 3) (.t 3)), none)]⟩,
      ⟨(some 24), (.bsl 3 5 [(.i .i64 (0)), (.i .i64 (0)), (.i .i64 (0)), (.i .i64 (0)), (.i .i64 (0)), (.i .i64 (0)), (.i .i64 (0)), (.i .i64 (0)), (.i .i64 (0)), (.i .i64 (0)), (.i .i64 (0)), (.i .i64 (0)), (.i .i64 (0)), (.i .i64 (0)), (.i .i64 (0))] [(0, 3, (.t 19)), (3, 3, (.t 20)), (6, 3, (.t 21)), (9, 3, (.t 22)), (12, 3, (.t 23))]), none, []⟩,
      ⟨(some 25), (.call 6 [(.t 24)]), none, []⟩,
      ⟨(some 30), (.call 5 [(.t 25), (.t 29)]), none, []⟩,
      ⟨(some 5), (.mov (.t 30)), none, []⟩] [])
    (.seq (.region [⟨(some 31), (.load (some 3) (.t 1)), none, []⟩,
      ⟨(some 33), (.load (some 3) (.t 2)), none, []⟩,
      ⟨(some 36), (.load (some 3) (.t 3)), none, []⟩,
      ⟨(some 39), (.build [(.i .i64 (0)), (.i .i64 (0)), (.i .i64 (0)), (.i .i64 (0))] [(1, 1, (.c (.i .i64 (2)))), (3, 1, (.c (.i .i64 (2))))]), none, []⟩,
      ⟨(some 40), (.build [(.i .i64 (0)), (.i .i64 (0)), (.i .i64 (0)), (.i .i64 (0))] [(0, 1, (.c (.i .i64 (2)))), (1, 1, (.c (.i .i64 (2)))), (2, 1, (.c (.i .i64 (2)))), (3, 1, (.c (.i .i64 (2))))]), none, []⟩,
      ⟨(some 41), (.build [(.i .i64 (0)), (.i .i64 (0)), (.i .i64 (0)), (.i .i64 (0))] [(0, 1, (.c (.i .i64 (4)))), (1, 1, (.c (.i .i64 (1)))), (2, 1, (.c (.i .i64 (3)))), (3, 1, (.c (.i .i64 (5))))]), none, []⟩,
      ⟨(some 42), (.bsl 4 3 [(.i .i64 (0)), (.i .i64 (0)), (.i .i64 (0)), (.i .i64 (0)), (.i .i64 (0)), (.i .i64 (0)), (.i .i64 (0)), (.i .i64 (0)), (.i .i64 (0)), (.i .i64 (0)), (.i .i64 (0)), (.i .i64 (0))] [(0, 4, (.t 39)), (4, 4, (.t 40)), (8, 4, (.t 41))]), none, []⟩,
      ⟨(some 32), (.call 4 [(.c (.i .i64 (3))), (.c (.i .i64 (0)))]), none, [(31, (.load (some 3) (.t 1)), none), (33, (.load (some 3) (.t 2)), none), (36, (.load (some 3) (.t 3)), none)]⟩,
      ⟨(some 34), (.call 4 [(.c (.i .i64 (25))), (.c (.i .i64 (2)))]), none, [(31, (.load (some 3) (.t 1)), none), (33, (.load (some 3) (.t 2)), none), (36, (.load (some 3) (.t 3)), none)]⟩,
      ⟨(some 35), (.call 4 [(.c (.i .i64 (2))), (.c (.i .i64 (0)))]), none, [(31, (.load (some 3) (.t 1)), none), (33, (.load (some 3) (.t 2)), none), (36, (.load (some 3) (.t 3)), none)]⟩,
      ⟨(some 37), (.bsl 3 6 [(.i .i64 (0)), (.i .i64 (0)), (.i .i64 (0)), (.i .i64 (0)), (.i .i64 (0)), (.i .i64 (0)), (.i .i64 (0)), (.i .i64 (0)), (.i .i64 (0)), (.i .i64 (0)), (.i .i64 (0)), (.i .i64 (0)), (.i .i64 (0)), (.i .i64 (0)), (.i .i64 (0)), (.i .i64 (0)), (.i .i64 (0)), (.i .i64 (0))] [(0, 3, (.t 31)), (3, 3, (.t 32)), (6, 3, (.t 33)), (9, 3, (.t 34)), (12, 3, (.t 35)), (15, 3, (.t 36))]), none, []⟩,
      ⟨(some 38), (.call 6 [(.t 37)]), none, []⟩,
      ⟨(some 43), (.call 5 [(.t 38), (.t 42)]), none, []⟩,
      ⟨(some 6), (.mov (.t 43)), none, []⟩] [])
    (.seq (.region [⟨(some 45), (.build [(.i .i64 (0)), (.i .i64 (0)), (.i .i64 (0)), (.i .i64 (0))] [(0, 1, (.c (.i .i64 (3)))), (1, 1, (.c (.i .i64 (1))))]), none, []⟩,
      ⟨(some 46), (.bsl 4 1 [(.i .i64 (0)), (.i .i64 (0)), (.i .i64 (0)), (.i .i64 (0))] [(0, 4, (.t 45))]), none, []⟩,
      ⟨(some 47), (.call 8 [(.t 46), (.c (.i .i64 (3)))]), none, []⟩,
      ⟨(some 44), (.mov (.t 47)), none, []⟩,
      ⟨(some 48), (.ext (.t 44) 0), none, []⟩,
      ⟨(some 49), (.ext (.t 44) 1), none, []⟩,
      ⟨(some 7), (.alloc [(.i .i64 (0)), (.i .i64 (0)), (.i .i64 (0)), (.i .i64 (0))]), none, []⟩,
      ⟨none, (.store 4 (.t 7) (.t 48)), none, []⟩,
      ⟨(some 8), (.mov (.t 49)), none, []⟩] [])
    (.seq (.region [⟨(some 50), (.mov (.t 4)), none, []⟩,
      ⟨(some 51), (.mov (.t 50)), none, []⟩,
      ⟨(some 52), (.mov (.t 5)), (some (51, true)), []⟩,
      ⟨(some 53), (.pick (.t 51) (.t 52) (.c (.b false))), none, []⟩,
      ⟨(some 54), (.mov (.t 53)), none, []⟩,
      ⟨(some 55), (.mov (.t 6)), (some (54, true)), []⟩,
      ⟨(some 56), (.pick (.t 54) (.t 55) (.c (.b false))), none, []⟩,
      ⟨(some 57), (.mov (.t 56)), none, []⟩,
      ⟨(some 58), (.mov (.t 8)), (some (57, true)), []⟩,
      ⟨(some 59), (.pick (.t 57) (.t 58) (.c (.b false))), none, []⟩,
      ⟨(some 60), (.mov (.t 59)), none, []⟩,
      ⟨(some 61), (.off (.t 7) 1), (some (60, true)), []⟩,
      ⟨(some 62), (.load none (.t 61)), (some (60, true)), []⟩,
      ⟨(some 63), (.bin .eql (.t 62) (.c (.i .i64 (1)))), (some (60, true)), []⟩,
      ⟨(some 64), (.pick (.t 60) (.t 63) (.c (.b false))), none, []⟩,
      ⟨(some 0), (.mov (.t 64)), none, []⟩] [])
    .ret))))))),
    65, 0, [.t 0], 0⟩
theorem tr9 : trFunc Try.prog [([], []), ([], []), ([], []), ([0, 2, 3, 7, 8, 9, 10, 1, 4, 5, 6, 11, 12], []), ([0, 2, 5, 8, 9, 10, 11, 1, 3, 4, 6, 7, 12, 13], []), ([], []), ([], [])] 0 Try.f9 = some I9 := by kernel_rfl

/-- 'encore/encorelaw19.num'. -/
def I10 : IFunc :=
  ⟨(.seq (.region [⟨(some 2), (.alloc [(.i .i64 (0)), (.i .i64 (0)), (.s []), .ns, .ns]), none, []⟩] [])
    (.seq (.region [⟨(some 3), (.mov (.t 0)), none, []⟩,
      ⟨(some 4), (.build [(.i .i64 (0)), (.i .i64 (0)), (.s []), .ns, .ns] [(0, 1, (.c (.i .i64 (1)))), (1, 1, (.t 3))]), none, []⟩,
      ⟨none, (.store 5 (.t 2) (.t 4)), none, []⟩] [])
    .ret)),
    5, 1, [.c 2 (some 5)], 0⟩
theorem tr10 : trFunc Try.prog [([], []), ([], [])] 0 Try.f10 = some I10 := by kernel_rfl

/-- 'encore/verify.Func'. -/
def I11 : IFunc :=
  ⟨(.seq (.region [⟨(some 2), (.box (.t 0)), none, []⟩,
      ⟨(some 4), (.mov (.c .ns)), none, []⟩,
      ⟨(some 5), (.mov (.c (.i .i64 (0)))), none, []⟩] [])
    (.seq (.seq (.region [⟨(some 7), (.load (some 2) (.t 2)), none, []⟩,
      ⟨(some 8), (.call 16 [(.t 7)]), none, []⟩,
      ⟨(some 6), (.mov (.t 8)), none, []⟩] [])
    (.seq (.region [⟨(some 9), (.mov (.t 6)), none, []⟩,
      ⟨(some 10), (.bin .neq (.t 9) (.c (.i .i64 (0)))), none, []⟩] [])
    (.cond (.t 10)
      (.seq (.region [⟨(some 11), (.mov (.t 6)), none, []⟩,
        ⟨(some 4), (.mov (.c .ns)), none, []⟩,
        ⟨(some 5), (.mov (.t 11)), none, []⟩] [])
      .ret)
      .skip)))
    (.seq (.seq (.region [⟨(some 12), (.mov (.t 1)), none, []⟩,
      ⟨(some 13), (.bin .lss (.t 12) (.c (.i .i64 (0)))), none, []⟩,
      ⟨(some 14), (.mov (.t 13)), none, []⟩,
      ⟨(some 15), (.mov (.t 1)), (some (14, false)), []⟩,
      ⟨(some 16), (.off (.t 2) 0), (some (14, false)), []⟩,
      ⟨(some 17), (.load none (.t 16)), (some (14, false)), []⟩,
      ⟨(some 18), (.lenk 0 (.t 17)), (some (14, false)), []⟩,
      ⟨(some 19), (.bin .geq (.t 15) (.t 18)), (some (14, false)), []⟩,
      ⟨(some 20), (.pick (.t 14) (.c (.b true)) (.t 19)), none, []⟩] [])
    (.cond (.t 20)
      (.seq (.region [⟨(some 4), (.mov (.c .ns)), none, []⟩,
        ⟨(some 5), (.mov (.c (.i .i64 (9)))), none, []⟩] [])
      .ret)
      .skip))
    (.seq (.region [⟨(some 21), (.load (some 2) (.t 2)), none, []⟩,
      ⟨(some 22), (.off (.t 2) 0), none, []⟩,
      ⟨(some 23), (.load none (.t 22)), none, []⟩,
      ⟨(some 24), (.mov (.t 1)), none, []⟩,
      ⟨(some 25), (.iaddr 4 (.t 23) (.t 24)), none, []⟩,
      ⟨(some 26), (.load (some 4) (.t 25)), none, []⟩,
      ⟨(some 27), (.call 17 [(.t 21), (.t 26)]), none, []⟩,
      ⟨(some 28), (.ext (.t 27) 0), none, []⟩,
      ⟨(some 29), (.ext (.t 27) 1), none, []⟩,
      ⟨(some 4), (.mov (.t 28)), none, []⟩,
      ⟨(some 5), (.mov (.t 29)), none, []⟩] [])
    .ret)))),
    30, 2, [.t 4, .t 5], 0⟩
theorem tr11 : trFunc Try.prog [([], []), ([], []), ([], []), ([], []), ([], []), ([], []), ([], []), ([], []), ([0, 1, 2, 3, 4, 5, 6, 7, 8, 9, 10], [])] 0 Try.f11 = some I11 := by kernel_rfl

/-- 'encore/cuts.blocks'. -/
def I12 : IFunc :=
  ⟨(.seq (.region [⟨(some 2), (.box (.t 0)), none, []⟩,
      ⟨(some 3), (.box (.t 1)), none, []⟩,
      ⟨(some 4), (.mov (.c .nf)), none, []⟩] [])
    (.seq (.region [⟨(some 5), (.mkf 18 [] [(.t 2), (.t 3)]), none, []⟩,
      ⟨(some 4), (.mov (.t 5)), none, []⟩] [])
    .ret)),
    6, 2, [.t 4], 0⟩
theorem tr12 : trFunc Try.prog [([], []), ([], [])] 0 Try.f12 = some I12 := by kernel_rfl

/-- 'encore/cuts.beginnings'. -/
def L13a : ICode :=
  (.seq (.region [⟨(some 13), (.bin .lss (.t 12) (.t 11)), none, []⟩] [])
    (.seq (.cond (.t 13)
      .skip
      (.exit 0))
    (.seq (.block 1
      (.seq (.region [⟨(some 14), (.mov (.t 12)), none, []⟩,
        ⟨(some 15), (.iaddr 3 (.t 10) (.t 12)), none, []⟩,
        ⟨(some 16), (.load (some 3) (.t 15)), none, []⟩,
        ⟨(some 7), (.alloc [(.i .i64 (0)), (.i .i64 (0)), (.i .i64 (0))]), none, []⟩,
        ⟨(some 6), (.mov (.t 14)), none, []⟩,
        ⟨none, (.store 3 (.t 7) (.t 16)), none, []⟩] [])
      (.seq (.seq (.region [⟨(some 17), (.off (.t 7) 0), none, []⟩,
        ⟨(some 18), (.load none (.t 17)), none, []⟩,
        ⟨(some 19), (.call 20 [(.t 18)]), none, []⟩,
        ⟨(some 20), (.mov (.t 19)), none, []⟩,
        ⟨(some 21), (.mov (.t 1)), (some (20, false)), []⟩,
        ⟨(some 22), (.mov (.t 6)), (some (20, false)), []⟩,
        ⟨(some 23), (.iaddr 3 (.t 21) (.t 22)), (some (20, false)), []⟩,
        ⟨(some 24), (.off (.t 23) 0), (some (20, false)), []⟩,
        ⟨(some 25), (.load none (.t 24)), (some (20, false)), []⟩,
        ⟨(some 26), (.un .not (.t 25)), (some (20, false)), []⟩,
        ⟨(some 27), (.pick (.t 20) (.c (.b true)) (.t 26)), none, []⟩] [])
      (.cond (.t 27)
        (.exit 1)
        .skip))
      (.seq (.seq (.region [⟨(some 28), (.load (some 3) (.t 7)), none, []⟩,
        ⟨(some 29), (.call 21 [(.t 28)]), none, []⟩,
        ⟨(some 30), (.mov (.t 29)), none, []⟩,
        ⟨(some 31), (.off (.t 7) 0), (some (30, false)), []⟩,
        ⟨(some 32), (.load none (.t 31)), (some (30, false)), []⟩,
        ⟨(some 33), (.bin .eql (.t 32) (.c (.i .i64 (26)))), (some (30, false)), []⟩,
        ⟨(some 34), (.pick (.t 30) (.c (.b true)) (.t 33)), none, []⟩] [])
      (.cond (.t 34)
        (.region [⟨(some 35), (.mov (.t 5)), none, []⟩,
          ⟨(some 36), (.off (.t 7) 1), none, []⟩,
          ⟨(some 37), (.load none (.t 36)), none, []⟩,
          ⟨none, (.mapup false [1] (.t 35) (.t 37) (.c (.b true))), none, []⟩] [])
        .skip))
      (.seq (.region [⟨(some 38), (.mov (.t 6)), none, []⟩,
        ⟨(some 39), (.bin .add (.t 38) (.c (.i .i64 (1)))), none, []⟩,
        ⟨(some 40), (.mov (.t 0)), none, []⟩,
        ⟨(some 41), (.lenk 0 (.t 40)), none, []⟩,
        ⟨(some 42), (.bin .lss (.t 39) (.t 41)), none, []⟩,
        ⟨(some 43), (.mov (.t 42)), none, []⟩,
        ⟨(some 44), (.mov (.t 1)), (some (43, true)), []⟩,
        ⟨(some 45), (.mov (.t 6)), (some (43, true)), []⟩,
        ⟨(some 46), (.bin .add (.t 45) (.c (.i .i64 (1)))), (some (43, true)), []⟩,
        ⟨(some 47), (.iaddr 3 (.t 44) (.t 46)), (some (43, true)), []⟩,
        ⟨(some 48), (.off (.t 47) 0), (some (43, true)), []⟩,
        ⟨(some 49), (.load none (.t 48)), (some (43, true)), []⟩,
        ⟨(some 50), (.pick (.t 43) (.t 49) (.c (.b false))), none, []⟩] [])
      (.cond (.t 50)
        (.region [⟨(some 51), (.mov (.t 5)), none, []⟩,
          ⟨(some 52), (.mov (.t 6)), none, []⟩,
          ⟨(some 53), (.bin .add (.t 52) (.c (.i .i64 (1)))), none, []⟩,
          ⟨none, (.mapup false [1] (.t 51) (.t 53) (.c (.b true))), none, []⟩] [])
        .skip))))))
    (.region [⟨(some 54), (.bin .add (.t 12) (.c (.i .i64 (1)))), none, []⟩,
      ⟨(some 12), (.mov (.t 54)), none, []⟩] []))))
def I13 : IFunc :=
  ⟨(.seq (.region [⟨(some 4), (.mov (.c .nm)), none, []⟩] [])
    (.seq (.region [⟨(some 8), .mkmap, none, []⟩,
      ⟨none, (.mapup false [1] (.t 8) (.c (.i .i64 (0))) (.c (.b true))), none, []⟩,
      ⟨(some 9), (.mov (.t 8)), none, []⟩,
      ⟨(some 5), (.mov (.t 9)), none, []⟩] [])
    (.seq (.seq (.region [⟨(some 10), (.mov (.t 0)), none, []⟩,
      ⟨(some 11), (.lenk 0 (.t 10)), none, []⟩,
      ⟨(some 12), (.mov (.c (.i .i64 (0)))), none, []⟩] [])
    (.block 0
      (.loop L13a)))
    (.seq (.region [⟨(some 55), (.mov (.t 5)), none, []⟩,
      ⟨(some 4), (.mov (.t 55)), none, []⟩] [])
    .ret)))),
    56, 2, [.t 4], 0⟩
theorem tr13 : trFunc Try.prog [([], []), ([], []), ([], []), ([], []), ([], []), ([], []), ([], []), ([], []), ([], []), ([], []), ([], []), ([], []), ([], []), ([], []), ([], []), ([], [])] 0 Try.f13 = some I13 := by kernel_rfl

/-- 'slices.IndexFunc[[]encore/cuts.Block,encore/cuts.Block]'. -/
def L14a : ICode :=
  (.seq (.region [⟨(some 9), (.bin .lss (.t 8) (.t 7)), none, []⟩] [])
    (.seq (.cond (.t 9)
      .skip
      (.exit 0))
    (.seq (.block 1
      (.seq (.region [⟨(some 10), (.mov (.t 8)), none, []⟩,
        ⟨(some 5), (.mov (.t 10)), none, []⟩] [])
      (.seq (.region [⟨(some 11), (.mov (.t 1)), none, []⟩,
        ⟨(some 12), (.mov (.t 0)), none, []⟩,
        ⟨(some 13), (.mov (.t 5)), none, []⟩,
        ⟨(some 14), (.iaddr 4 (.t 12) (.t 13)), none, []⟩,
        ⟨(some 15), (.load (some 4) (.t 14)), none, []⟩,
        ⟨(some 16), (.callv (.t 11) [(.t 15)]), none, []⟩] [])
      (.cond (.t 16)
        (.seq (.region [⟨(some 17), (.mov (.t 5)), none, []⟩,
          ⟨(some 4), (.mov (.t 17)), none, []⟩] [])
        .ret)
        .skip))))
    (.region [⟨(some 18), (.bin .add (.t 8) (.c (.i .i64 (1)))), none, []⟩,
      ⟨(some 8), (.mov (.t 18)), none, []⟩] []))))
def I14 : IFunc :=
  ⟨(.seq (.region [⟨(some 4), (.mov (.c (.i .i64 (0)))), none, []⟩] [])
    (.seq (.seq (.region [⟨(some 6), (.mov (.t 0)), none, []⟩,
      ⟨(some 7), (.lenk 0 (.t 6)), none, []⟩,
      ⟨(some 8), (.mov (.c (.i .i64 (0)))), none, []⟩] [])
    (.block 0
      (.loop L14a)))
    (.seq (.region [⟨(some 4), (.mov (.c (.i .i64 (-1)))), none, []⟩] [])
    .ret))),
    19, 2, [.t 4], 0⟩
theorem tr14 : trFunc Try.prog [([], []), ([], []), ([], []), ([], []), ([], []), ([], []), ([], []), ([], []), ([], []), ([], [])] 0 Try.f14 = some I14 := by kernel_rfl

/-- 'encore/cuts.At$1'. -/
def I15 : IFunc :=
  ⟨(.seq (.region [⟨(some 2), (.box (.t 0)), none, []⟩,
      ⟨(some 3), (.mov (.c (.b false))), none, []⟩] [])
    (.seq (.region [⟨(some 4), (.off (.t 2) 0), none, []⟩,
      ⟨(some 5), (.load none (.t 4)), none, []⟩,
      ⟨(some 6), (.load none (.t 1)), none, []⟩,
      ⟨(some 7), (.bin .eql (.t 5) (.t 6)), none, []⟩,
      ⟨(some 3), (.mov (.t 7)), none, []⟩] [])
    .ret)),
    8, 2, [.t 3], 0⟩
theorem tr15 : trFunc Try.prog [([], []), ([], [])] 0 Try.f15 = some I15 := by kernel_rfl

/-- 'encore/code.Check'. -/
def L16a : ICode :=
  (.seq (.region [⟨(some 54), (.bin .lss (.t 53) (.t 52)), none, []⟩] [])
    (.seq (.cond (.t 54)
      .skip
      (.exit 2))
    (.seq (.block 3
      (.seq (.region [⟨(some 55), (.iaddr 3 (.t 51) (.t 53)), none, []⟩,
        ⟨(some 56), (.load (some 3) (.t 55)), none, []⟩,
        ⟨(some 9), (.alloc [(.i .i64 (0)), (.i .i64 (0)), (.i .i64 (0))]), none, []⟩,
        ⟨none, (.store 3 (.t 9) (.t 56)), none, []⟩] [])
      (.seq (.region [⟨(some 57), (.load (some 3) (.t 9)), none, []⟩,
        ⟨(some 58), (.build [.np, .np, (.i .i64 (0)), (.i .i64 (0)), (.i .i64 (0))] [(0, 1, (.t 1)), (1, 1, (.t 7)), (2, 3, (.t 57))]), none, []⟩,
        ⟨(some 59), (.call 29 [(.t 58)]), none, []⟩,
        ⟨(some 60), (.un .not (.t 59)), none, []⟩] [])
      (.cond (.t 60)
        (.seq (.region [⟨(some 2), (.mov (.c (.i .i64 (150)))), none, []⟩] [])
        .ret)
        .skip))))
    (.region [⟨(some 61), (.bin .add (.t 53) (.c (.i .i64 (1)))), none, []⟩,
      ⟨(some 53), (.mov (.t 61)), none, []⟩] []))))
def L16b : ICode :=
  (.seq (.region [⟨(some 47), (.bin .lss (.t 46) (.t 45)), none, []⟩] [])
    (.seq (.cond (.t 47)
      .skip
      (.exit 0))
    (.seq (.block 1
      (.seq (.region [⟨(some 48), (.iaddr 4 (.t 44) (.t 46)), none, []⟩,
        ⟨(some 49), (.load (some 4) (.t 48)), none, []⟩,
        ⟨(some 7), (.alloc [(.s []), (.i .i64 (0)), (.i .i64 (0)), .ns]), none, []⟩,
        ⟨none, (.store 4 (.t 7) (.t 49)), none, []⟩] [])
      (.seq (.region [⟨(some 50), (.off (.t 7) 3), none, []⟩,
        ⟨(some 51), (.load none (.t 50)), none, []⟩,
        ⟨(some 52), (.lenk 0 (.t 51)), none, []⟩,
        ⟨(some 53), (.mov (.c (.i .i64 (0)))), none, []⟩] [])
      (.block 2
        (.loop L16a)))))
    (.region [⟨(some 62), (.bin .add (.t 46) (.c (.i .i64 (1)))), none, []⟩,
      ⟨(some 46), (.mov (.t 62)), none, []⟩] []))))
def I16 : IFunc :=
  ⟨(.seq (.region [⟨(some 1), (.box (.t 0)), none, []⟩,
      ⟨(some 2), (.mov (.c (.i .i64 (0)))), none, []⟩] [])
    (.seq (.region [⟨(some 3), (.mov (.f 22)), none, []⟩] [])
    (.seq (.seq (.region [⟨(some 10), (.off (.t 1) 0), none, []⟩,
      ⟨(some 11), (.load none (.t 10)), none, []⟩,
      ⟨(some 12), (.lenk 0 (.t 11)), none, []⟩,
      ⟨(some 13), (.bin .gtr (.t 12) (.c (.i .i64 (16)))), none, []⟩,
      ⟨(some 14), (.mov (.t 13)), none, []⟩,
      ⟨(some 15), (.off (.t 1) 1), (some (14, false)), []⟩,
      ⟨(some 16), (.load none (.t 15)), (some (14, false)), []⟩,
      ⟨(some 17), (.lenk 0 (.t 16)), (some (14, false)), []⟩,
      ⟨(some 18), (.bin .gtr (.t 17) (.c (.i .i64 (256)))), (some (14, false)), []⟩,
      ⟨(some 19), (.pick (.t 14) (.c (.b true)) (.t 18)), none, []⟩,
      ⟨(some 20), (.mov (.t 19)), none, []⟩,
      ⟨(some 21), (.off (.t 1) 0), (some (20, false)), []⟩,
      ⟨(some 22), (.load none (.t 21)), (some (20, false)), []⟩,
      ⟨(some 23), (.mov (.t 3)), (some (20, false)), []⟩,
      ⟨(some 24), (.call 23 [(.t 22), (.t 23)]), (some (20, false)), []⟩,
      ⟨(some 25), (.pick (.t 20) (.c (.b true)) (.t 24)), none, []⟩] [])
    (.cond (.t 25)
      (.seq (.region [⟨(some 2), (.mov (.c (.i .i64 (5)))), none, []⟩] [])
      .ret)
      .skip))
    (.seq (.region [⟨(some 4), (.mov (.f 24)), none, []⟩] [])
    (.seq (.region [⟨(some 26), (.mkf 26 [] [(.t 1)]), none, []⟩,
      ⟨(some 5), (.mov (.t 26)), none, []⟩] [])
    (.seq (.seq (.region [⟨(some 27), (.off (.t 1) 0), none, []⟩,
      ⟨(some 28), (.load none (.t 27)), none, []⟩,
      ⟨(some 29), (.lenk 0 (.t 28)), none, []⟩,
      ⟨(some 30), (.bin .eql (.t 29) (.c (.i .i64 (0)))), none, []⟩,
      ⟨(some 31), (.mov (.t 30)), none, []⟩,
      ⟨(some 32), (.off (.t 1) 1), (some (31, false)), []⟩,
      ⟨(some 33), (.load none (.t 32)), (some (31, false)), []⟩,
      ⟨(some 34), (.mov (.t 4)), (some (31, false)), []⟩,
      ⟨(some 35), (.call 28 [(.t 33), (.t 34)]), (some (31, false)), []⟩,
      ⟨(some 36), (.pick (.t 31) (.c (.b true)) (.t 35)), none, []⟩,
      ⟨(some 37), (.mov (.t 36)), none, []⟩,
      ⟨(some 38), (.off (.t 1) 0), (some (37, false)), []⟩,
      ⟨(some 39), (.load none (.t 38)), (some (37, false)), []⟩,
      ⟨(some 40), (.mov (.t 5)), (some (37, false)), []⟩,
      ⟨(some 41), (.call 23 [(.t 39), (.t 40)]), (some (37, false)), []⟩,
      ⟨(some 42), (.pick (.t 37) (.c (.b true)) (.t 41)), none, []⟩] [])
    (.cond (.t 42)
      (.seq (.region [⟨(some 2), (.mov (.c (.i .i64 (2)))), none, []⟩] [])
      .ret)
      .skip))
    (.seq (.seq (.region [⟨(some 43), (.off (.t 1) 0), none, []⟩,
      ⟨(some 44), (.load none (.t 43)), none, []⟩,
      ⟨(some 45), (.lenk 0 (.t 44)), none, []⟩,
      ⟨(some 46), (.mov (.c (.i .i64 (0)))), none, []⟩] [])
    (.block 0
      (.loop L16b)))
    (.seq (.region [⟨(some 2), (.mov (.c (.i .i64 (0)))), none, []⟩] [])
    .ret)))))))),
    63, 1, [.t 2], 0⟩
theorem tr16 : trFunc Try.prog [([], []), ([], []), ([], []), ([], []), ([], []), ([], []), ([], []), ([], []), ([], []), ([], []), ([], []), ([], []), ([], []), ([], []), ([], []), ([], []), ([], []), ([], []), ([], []), ([], []), ([], []), ([], []), ([], []), ([], [])] 0 Try.f16 = some I16 := by kernel_rfl

/-- 'encore/verify.function'. -/
def L17a : ICode :=
  (.seq (.seq (.region [⟨(some 17), (.mov (.t 6)), none, []⟩,
      ⟨(some 18), (.nck (.t 17)), none, []⟩,
      ⟨(some 19), (.off (.t 18) 1), none, []⟩,
      ⟨(some 20), (.load none (.t 19)), none, []⟩,
      ⟨(some 21), (.lenk 0 (.t 20)), none, []⟩,
      ⟨(some 22), (.bin .gtr (.t 21) (.c (.i .i64 (0)))), none, []⟩] [])
    (.cond (.t 22)
      .skip
      (.exit 0)))
    (.block 1
      (.seq (.region [⟨(some 23), (.mov (.t 6)), none, []⟩,
        ⟨(some 24), (.nck (.t 23)), none, []⟩,
        ⟨(some 25), (.off (.t 24) 1), none, []⟩,
        ⟨(some 26), (.load none (.t 25)), none, []⟩,
        ⟨(some 27), (.mov (.t 6)), none, []⟩,
        ⟨(some 28), (.nck (.t 27)), none, []⟩,
        ⟨(some 29), (.off (.t 28) 1), none, []⟩,
        ⟨(some 30), (.load none (.t 29)), none, []⟩,
        ⟨(some 31), (.lenk 0 (.t 30)), none, []⟩,
        ⟨(some 32), (.bin .sub (.t 31) (.c (.i .i64 (1)))), none, []⟩,
        ⟨(some 33), (.iaddr 1 (.t 26) (.t 32)), none, []⟩,
        ⟨(some 34), (.load none (.t 33)), none, []⟩,
        ⟨(some 7), (.mov (.t 34)), none, []⟩] [])
      (.seq (.region [⟨(some 35), (.mov (.t 6)), none, []⟩,
        ⟨(some 36), (.mov (.t 6)), none, []⟩,
        ⟨(some 37), (.nck (.t 36)), none, []⟩,
        ⟨(some 38), (.off (.t 37) 1), none, []⟩,
        ⟨(some 39), (.load none (.t 38)), none, []⟩,
        ⟨(some 40), (.mov (.t 6)), none, []⟩,
        ⟨(some 41), (.nck (.t 40)), none, []⟩,
        ⟨(some 42), (.off (.t 41) 1), none, []⟩,
        ⟨(some 43), (.load none (.t 42)), none, []⟩,
        ⟨(some 44), (.lenk 0 (.t 43)), none, []⟩,
        ⟨(some 45), (.bin .sub (.t 44) (.c (.i .i64 (1)))), none, []⟩,
        ⟨(some 46), (.slq 1 (.t 39) none (some (.t 45)) none), none, []⟩,
        ⟨(some 47), (.nck (.t 35)), none, []⟩,
        ⟨(some 48), (.off (.t 47) 1), none, []⟩,
        ⟨none, (.store 1 (.t 48) (.t 46)), none, []⟩] [])
      (.seq (.region [⟨(some 49), (.mov (.t 6)), none, []⟩,
        ⟨(some 50), (.load (some 2) (.t 2)), none, []⟩,
        ⟨(some 51), (.off (.t 3) 3), none, []⟩,
        ⟨(some 52), (.load none (.t 51)), none, []⟩,
        ⟨(some 53), (.mov (.t 7)), none, []⟩,
        ⟨(some 54), (.iaddr 3 (.t 52) (.t 53)), none, []⟩,
        ⟨(some 55), (.load (some 3) (.t 54)), none, []⟩,
        ⟨(some 56), (.mov (.t 7)), none, []⟩,
        ⟨(some 57), (.call 31 [(.t 49), (.t 50), (.t 55), (.t 56)]), none, []⟩] [])
      (.seq (.region [⟨(some 58), (.mov (.t 6)), none, []⟩,
        ⟨(some 59), (.nck (.t 58)), none, []⟩,
        ⟨(some 60), (.off (.t 59) 2), none, []⟩,
        ⟨(some 61), (.load none (.t 60)), none, []⟩] [])
      (.cond (.t 61)
        (.exit 0)
        .skip)))))))
def L17b : ICode :=
  (.seq (.region [⟨(some 72), (.bin .lss (.t 71) (.t 70)), none, []⟩] [])
    (.seq (.cond (.t 72)
      .skip
      (.exit 2))
    (.seq (.block 3
      (.seq (.region [⟨(some 73), (.mov (.t 71)), none, []⟩,
        ⟨(some 8), (.mov (.t 73)), none, []⟩] [])
      (.region [⟨(some 74), (.mov (.t 6)), none, []⟩,
        ⟨(some 75), (.nck (.t 74)), none, []⟩,
        ⟨(some 76), (.off (.t 75) 0), none, []⟩,
        ⟨(some 77), (.load none (.t 76)), none, []⟩,
        ⟨(some 78), (.mov (.t 8)), none, []⟩,
        ⟨(some 79), (.mov (.t 6)), none, []⟩,
        ⟨(some 80), (.nck (.t 79)), none, []⟩,
        ⟨(some 81), (.off (.t 80) 0), none, []⟩,
        ⟨(some 82), (.load none (.t 81)), none, []⟩,
        ⟨(some 83), (.mov (.t 8)), none, []⟩,
        ⟨(some 84), (.iaddr 3 (.t 82) (.t 83)), none, []⟩,
        ⟨(some 85), (.off (.t 84) 2), none, []⟩,
        ⟨(some 86), (.load none (.t 85)), none, []⟩,
        ⟨(some 87), (.call 32 [(.t 86)]), none, [(77, (.load none (.t 76)), none)]⟩,
        ⟨(some 88), (.iaddr 3 (.t 77) (.t 78)), none, []⟩,
        ⟨(some 89), (.off (.t 88) 2), none, []⟩,
        ⟨none, (.store 1 (.t 89) (.t 87)), none, []⟩] [])))
    (.region [⟨(some 90), (.bin .add (.t 71) (.c (.i .i64 (1)))), none, []⟩,
      ⟨(some 71), (.mov (.t 90)), none, []⟩] []))))
def I17 : IFunc :=
  ⟨(.seq (.region [⟨(some 2), (.box (.t 0)), none, []⟩,
      ⟨(some 3), (.box (.t 1)), none, []⟩,
      ⟨(some 4), (.mov (.c .ns)), none, []⟩,
      ⟨(some 5), (.mov (.c (.i .i64 (0)))), none, []⟩] [])
    (.seq .skip
    (.seq (.region [⟨(some 9), (.off (.t 3) 3), none, []⟩,
      ⟨(some 10), (.load none (.t 9)), none, []⟩,
      ⟨(some 11), (.lenk 0 (.t 10)), none, []⟩,
      ⟨(some 12), (.mksl 3 40 [(.b false), (.i .i64 (0)), .ns] (.t 11) (.t 11)), none, []⟩,
      ⟨(some 13), (.build [.ns, .ns, (.b false)] [(0, 1, (.t 12))]), none, []⟩,
      ⟨(some 14), (.box (.t 13)), none, []⟩,
      ⟨(some 6), (.mov (.t 14)), none, []⟩] [])
    (.seq (.region [⟨(some 15), (.mov (.t 6)), none, []⟩,
      ⟨(some 16), (.call 30 [(.t 15), (.c (.i .i64 (0))), (.c (.i .i64 (0))), (.c .ns)]), none, []⟩] [])
    (.seq .skip
    (.seq (.block 0
      (.loop L17a))
    (.seq (.seq (.region [⟨(some 62), (.mov (.t 6)), none, []⟩,
      ⟨(some 63), (.nck (.t 62)), none, []⟩,
      ⟨(some 64), (.off (.t 63) 2), none, []⟩,
      ⟨(some 65), (.load none (.t 64)), none, []⟩] [])
    (.cond (.t 65)
      (.seq (.region [⟨(some 4), (.mov (.c .ns)), none, []⟩,
        ⟨(some 5), (.mov (.c (.i .i64 (170)))), none, []⟩] [])
      .ret)
      .skip))
    (.seq (.seq (.region [⟨(some 66), (.mov (.t 6)), none, []⟩,
      ⟨(some 67), (.nck (.t 66)), none, []⟩,
      ⟨(some 68), (.off (.t 67) 0), none, []⟩,
      ⟨(some 69), (.load none (.t 68)), none, []⟩,
      ⟨(some 70), (.lenk 0 (.t 69)), none, []⟩,
      ⟨(some 71), (.mov (.c (.i .i64 (0)))), none, []⟩] [])
    (.block 2
      (.loop L17b)))
    (.seq (.region [⟨(some 91), (.mov (.t 6)), none, []⟩,
      ⟨(some 92), (.nck (.t 91)), none, []⟩,
      ⟨(some 93), (.off (.t 92) 0), none, []⟩,
      ⟨(some 94), (.load none (.t 93)), none, []⟩,
      ⟨(some 4), (.mov (.t 94)), none, []⟩,
      ⟨(some 5), (.mov (.c (.i .i64 (0)))), none, []⟩] [])
    .ret))))))))),
    95, 2, [.t 4, .t 5], 0⟩
theorem tr17 : trFunc Try.prog [([], []), ([], []), ([], []), ([], []), ([], []), ([0, 1, 2, 3, 4, 5, 6, 7, 8, 9, 10, 11, 12], []), ([0, 1, 2, 3, 4, 5, 6, 7, 8, 9, 10, 11, 12, 13, 14], []), ([0, 1, 2, 3, 4, 5, 6, 7, 8], []), ([], []), ([], []), ([], []), ([], []), ([], []), ([], []), ([], []), ([], []), ([], []), ([0, 1, 2, 3, 4, 5, 6, 7, 8, 9, 10, 11, 12, 13, 14, 15, 16], []), ([], []), ([], [])] 0 Try.f17 = some I17 := by kernel_rfl

/-- 'encore/cuts.blocks$1'. -/
def L18a : ICode :=
  (.seq (.region [⟨(some 9), (.bin .lss (.t 8) (.t 7)), none, []⟩] [])
    (.seq (.cond (.t 9)
      .skip
      (.exit 0))
    (.seq (.block 1
      (.seq (.region [⟨(some 10), (.mov (.t 8)), none, []⟩,
        ⟨(some 4), (.mov (.t 10)), none, []⟩] [])
      (.seq (.seq (.region [⟨(some 11), (.load none (.t 2)), none, []⟩,
        ⟨(some 12), (.mov (.t 4)), none, []⟩,
        ⟨(some 13), (.look false [1] (.b false) false (.t 11) (.t 12)), none, []⟩,
        ⟨(some 14), (.un .not (.t 13)), none, []⟩] [])
      (.cond (.t 14)
        (.exit 1)
        .skip))
      (.seq (.region [⟨(some 15), (.load none (.t 1)), none, []⟩,
        ⟨(some 16), (.load none (.t 2)), none, []⟩,
        ⟨(some 17), (.mov (.t 4)), none, []⟩,
        ⟨(some 18), (.call 19 [(.t 15), (.t 16), (.t 17)]), none, []⟩,
        ⟨(some 5), (.alloc [(.i .i64 (0)), (.i .i64 (0)), (.i .i64 (0)), (.i .i64 (0))]), none, []⟩,
        ⟨none, (.store 4 (.t 5) (.t 18)), none, []⟩] [])
      (.seq (.region [⟨(some 19), (.off (.t 5) 1), none, []⟩,
        ⟨(some 20), (.load none (.t 19)), none, []⟩,
        ⟨(some 21), (.bin .gtr (.t 20) (.c (.i .i64 (0)))), none, []⟩,
        ⟨(some 22), (.mov (.t 21)), none, []⟩,
        ⟨(some 23), (.mov (.t 0)), (some (22, true)), []⟩,
        ⟨(some 24), (.load (some 4) (.t 5)), (some (22, true)), []⟩,
        ⟨(some 25), (.callv (.t 23) [(.t 24)]), (some (22, true)), []⟩,
        ⟨(some 26), (.un .not (.t 25)), (some (22, true)), []⟩,
        ⟨(some 27), (.pick (.t 22) (.t 26) (.c (.b false))), none, []⟩] [])
      (.cond (.t 27)
        .ret
        .skip))))))
    (.region [⟨(some 28), (.bin .add (.t 8) (.c (.i .i64 (1)))), none, []⟩,
      ⟨(some 8), (.mov (.t 28)), none, []⟩] []))))
def I18 : IFunc :=
  ⟨(.seq (.region [⟨(some 6), (.load none (.t 1)), none, []⟩,
      ⟨(some 7), (.lenk 0 (.t 6)), none, []⟩,
      ⟨(some 8), (.mov (.c (.i .i64 (0)))), none, []⟩] [])
    (.block 0
      (.loop L18a))),
    29, 3, [], 0⟩
theorem tr18 : trFunc Try.prog [([], []), ([], []), ([], []), ([], []), ([], []), ([], []), ([], []), ([], []), ([], []), ([], [])] 0 Try.f18 = some I18 := by kernel_rfl

/-- 'encore/cuts.block'. -/
def L19a : ICode :=
  (.seq (.seq (.region [⟨(some 13), (.mov (.t 8)), none, []⟩,
      ⟨(some 14), (.mov (.t 0)), none, []⟩,
      ⟨(some 15), (.lenk 0 (.t 14)), none, []⟩,
      ⟨(some 16), (.bin .lss (.t 13) (.t 15)), none, []⟩] [])
    (.cond (.t 16)
      .skip
      (.exit 0)))
    (.seq (.block 1
      (.seq (.region [⟨(some 19), (.mov (.t 0)), none, []⟩,
        ⟨(some 20), (.mov (.t 8)), none, []⟩,
        ⟨(some 21), (.iaddr 3 (.t 19) (.t 20)), none, []⟩,
        ⟨(some 22), (.load (some 3) (.t 21)), none, []⟩,
        ⟨(some 9), (.alloc [(.i .i64 (0)), (.i .i64 (0)), (.i .i64 (0))]), none, []⟩,
        ⟨none, (.store 3 (.t 9) (.t 22)), none, []⟩] [])
      (.seq (.block 2
        (.seq (.region [⟨(some 24), (.mov (.t 8)), none, []⟩,
          ⟨(some 25), (.mov (.t 2)), none, []⟩,
          ⟨(some 26), (.bin .gtr (.t 24) (.t 25)), none, []⟩,
          ⟨(some 27), (.mov (.t 26)), none, []⟩,
          ⟨(some 28), (.mov (.t 1)), (some (27, true)), []⟩,
          ⟨(some 29), (.mov (.t 8)), (some (27, true)), []⟩,
          ⟨(some 30), (.look false [1] (.b false) false (.t 28) (.t 29)), (some (27, true)), []⟩,
          ⟨(some 31), (.pick (.t 27) (.t 30) (.c (.b false))), none, []⟩,
          ⟨(some 23), (.mov (.t 31)), none, []⟩] [])
        (.cond (.t 23)
          (.seq (.region [⟨(some 32), (.mov (.t 8)), none, []⟩,
            ⟨(some 33), (.off (.t 7) 3), none, []⟩,
            ⟨none, (.store 1 (.t 33) (.t 32)), none, []⟩] [])
          (.seq (.region [⟨(some 34), (.load (some 4) (.t 7)), none, []⟩,
            ⟨none, (.store 4 (.t 6) (.t 34)), none, []⟩] [])
          .ret))
          (.seq (.region [⟨(some 36), (.load (some 3) (.t 9)), none, []⟩,
            ⟨(some 37), (.call 21 [(.t 36)]), none, []⟩,
            ⟨(some 35), (.mov (.t 37)), none, []⟩] [])
          (.cond (.t 35)
            (.seq (.region [⟨(some 38), (.off (.t 7) 1), none, []⟩,
              ⟨(some 39), (.load none (.t 38)), none, []⟩,
              ⟨(some 40), (.bin .add (.t 39) (.c (.i .i64 (1)))), none, []⟩,
              ⟨(some 41), (.off (.t 7) 1), none, []⟩,
              ⟨none, (.store 1 (.t 41) (.t 40)), none, []⟩] [])
            (.seq (.region [⟨(some 42), (.off (.t 9) 1), none, []⟩,
              ⟨(some 43), (.load none (.t 42)), none, []⟩,
              ⟨(some 44), (.off (.t 7) 2), none, []⟩,
              ⟨none, (.store 1 (.t 44) (.c (.i .i64 (1)))), none, [(43, (.load none (.t 42)), none)]⟩,
              ⟨(some 45), (.off (.t 7) 3), none, []⟩,
              ⟨none, (.store 1 (.t 45) (.t 43)), none, []⟩] [])
            (.seq (.seq (.region [⟨(some 46), (.off (.t 9) 0), none, []⟩,
              ⟨(some 47), (.load none (.t 46)), none, []⟩,
              ⟨(some 48), (.bin .eql (.t 47) (.c (.i .i64 (25)))), none, []⟩] [])
            (.cond (.t 48)
              (.region [⟨(some 49), (.off (.t 7) 2), none, []⟩,
                ⟨none, (.store 1 (.t 49) (.c (.i .i64 (2)))), none, []⟩] [])
              .skip))
            (.seq (.region [⟨(some 50), (.load (some 4) (.t 7)), none, []⟩,
              ⟨none, (.store 4 (.t 6) (.t 50)), none, []⟩] [])
            .ret))))
            (.seq (.region [⟨(some 52), (.off (.t 9) 0), none, []⟩,
              ⟨(some 53), (.load none (.t 52)), none, []⟩,
              ⟨(some 54), (.call 20 [(.t 53)]), none, []⟩,
              ⟨(some 55), (.un .not (.t 54)), none, []⟩,
              ⟨(some 51), (.mov (.t 55)), none, []⟩] [])
            (.cond (.t 51)
              (.seq (.region [⟨(some 56), (.mov (.t 8)), none, []⟩,
                ⟨(some 57), (.off (.t 7) 2), none, []⟩,
                ⟨none, (.store 1 (.t 57) (.c (.i .i64 (3)))), none, []⟩,
                ⟨(some 58), (.off (.t 7) 3), none, []⟩,
                ⟨none, (.store 1 (.t 58) (.t 56)), none, []⟩] [])
              (.seq (.region [⟨(some 59), (.load (some 4) (.t 7)), none, []⟩,
                ⟨none, (.store 4 (.t 6) (.t 59)), none, []⟩] [])
              .ret))
              .skip)))))))
      (.region [⟨(some 60), (.off (.t 7) 1), none, []⟩,
        ⟨(some 61), (.load none (.t 60)), none, []⟩,
        ⟨(some 62), (.bin .add (.t 61) (.c (.i .i64 (1)))), none, []⟩,
        ⟨(some 63), (.off (.t 7) 1), none, []⟩,
        ⟨none, (.store 1 (.t 63) (.t 62)), none, []⟩] []))))
    (.region [⟨(some 17), (.mov (.t 8)), none, []⟩,
      ⟨(some 18), (.bin .add (.t 17) (.c (.i .i64 (1)))), none, []⟩,
      ⟨(some 8), (.mov (.t 18)), none, []⟩] [])))
def I19 : IFunc :=
  ⟨(.seq (.region [⟨(some 6), (.alloc [(.i .i64 (0)), (.i .i64 (0)), (.i .i64 (0)), (.i .i64 (0))]), none, []⟩] [])
    (.seq (.region [⟨(some 10), (.mov (.t 2)), none, []⟩,
      ⟨(some 11), (.build [(.i .i64 (0)), (.i .i64 (0)), (.i .i64 (0)), (.i .i64 (0))] [(0, 1, (.t 10))]), none, []⟩,
      ⟨(some 7), (.alloc [(.i .i64 (0)), (.i .i64 (0)), (.i .i64 (0)), (.i .i64 (0))]), none, []⟩,
      ⟨none, (.store 4 (.t 7) (.t 11)), none, []⟩] [])
    (.seq (.seq (.region [⟨(some 12), (.mov (.t 2)), none, []⟩,
      ⟨(some 8), (.mov (.t 12)), none, []⟩] [])
    (.block 0
      (.loop L19a)))
    (.seq (.region [⟨(some 64), (.load (some 4) (.t 7)), none, []⟩,
      ⟨none, (.store 4 (.t 6) (.t 64)), none, []⟩] [])
    .ret)))),
    65, 3, [.c 6 (some 4)], 0⟩
theorem tr19 : trFunc Try.prog [([], []), ([], []), ([], []), ([], []), ([], []), ([], []), ([], []), ([], []), ([], []), ([], []), ([], []), ([0, 1, 2, 3, 4, 5], []), ([], []), ([], []), ([], []), ([], []), ([], []), ([], []), ([], []), ([], []), ([], []), ([], []), ([], [])] 0 Try.f19 = some I19 := by kernel_rfl

/-- 'encore/code.Plain'. -/
def I20 : IFunc :=
  ⟨(.seq (.region [⟨(some 2), (.mov (.c (.b false))), none, []⟩] [])
    (.seq (.region [⟨(some 3), (.mov (.t 0)), none, []⟩,
      ⟨(some 4), (.bin .geq (.t 3) (.c (.i .i64 (1)))), none, []⟩,
      ⟨(some 5), (.mov (.t 4)), none, []⟩,
      ⟨(some 6), (.mov (.t 0)), (some (5, true)), []⟩,
      ⟨(some 7), (.bin .leq (.t 6) (.c (.i .i64 (23)))), (some (5, true)), []⟩,
      ⟨(some 8), (.pick (.t 5) (.t 7) (.c (.b false))), none, []⟩,
      ⟨(some 2), (.mov (.t 8)), none, []⟩] [])
    .ret)),
    9, 1, [.t 2], 0⟩
theorem tr20 : trFunc Try.prog [([], []), ([], [])] 0 Try.f20 = some I20 := by kernel_rfl

/-- 'encore/cuts.turn'. -/
def I21 : IFunc :=
  ⟨(.seq (.region [⟨(some 1), (.box (.t 0)), none, []⟩,
      ⟨(some 2), (.mov (.c (.b false))), none, []⟩] [])
    (.seq (.region [⟨(some 3), (.off (.t 1) 0), none, []⟩,
      ⟨(some 4), (.load none (.t 3)), none, []⟩,
      ⟨(some 5), (.bin .eql (.t 4) (.c (.i .i64 (24)))), none, []⟩,
      ⟨(some 6), (.mov (.t 5)), none, []⟩,
      ⟨(some 7), (.off (.t 1) 0), (some (6, false)), []⟩,
      ⟨(some 8), (.load none (.t 7)), (some (6, false)), []⟩,
      ⟨(some 9), (.bin .eql (.t 8) (.c (.i .i64 (25)))), (some (6, false)), []⟩,
      ⟨(some 10), (.pick (.t 6) (.c (.b true)) (.t 9)), none, []⟩,
      ⟨(some 2), (.mov (.t 10)), none, []⟩] [])
    .ret)),
    11, 1, [.t 2], 0⟩
theorem tr21 : trFunc Try.prog [([], []), ([], [])] 0 Try.f21 = some I21 := by kernel_rfl

/-- 'encore/code.Check$1'. -/
def I22 : IFunc :=
  ⟨(.seq (.region [⟨(some 1), (.box (.t 0)), none, []⟩,
      ⟨(some 2), (.mov (.c (.b false))), none, []⟩] [])
    (.seq (.region [⟨(some 3), (.off (.t 1) 3), none, []⟩,
      ⟨(some 4), (.load none (.t 3)), none, []⟩,
      ⟨(some 5), (.lenk 0 (.t 4)), none, []⟩,
      ⟨(some 6), (.bin .gtr (.t 5) (.c (.i .i64 (512)))), none, []⟩,
      ⟨(some 2), (.mov (.t 6)), none, []⟩] [])
    .ret)),
    7, 1, [.t 2], 0⟩
theorem tr22 : trFunc Try.prog [([], []), ([], [])] 0 Try.f22 = some I22 := by kernel_rfl

/-- 'slices.ContainsFunc[[]encore/api.Func,encore/api.Func]'. -/
def I23 : IFunc :=
  ⟨(.seq (.region [⟨(some 4), (.mov (.c (.b false))), none, []⟩] [])
    (.seq (.region [⟨(some 5), (.mov (.t 0)), none, []⟩,
      ⟨(some 6), (.mov (.t 1)), none, []⟩,
      ⟨(some 7), (.call 33 [(.t 5), (.t 6)]), none, []⟩,
      ⟨(some 8), (.bin .geq (.t 7) (.c (.i .i64 (0)))), none, []⟩,
      ⟨(some 4), (.mov (.t 8)), none, []⟩] [])
    .ret)),
    9, 2, [.t 4], 0⟩
theorem tr23 : trFunc Try.prog [([], []), ([], [])] 0 Try.f23 = some I23 := by kernel_rfl

/-- 'encore/code.Check$2'. -/
def I24 : IFunc :=
  ⟨(.seq (.region [⟨(some 1), (.box (.t 0)), none, []⟩,
      ⟨(some 2), (.mov (.c (.b false))), none, []⟩] [])
    (.seq (.region [⟨(some 3), (.load (some 5) (.t 1)), none, []⟩,
      ⟨(some 4), (.call 25 [(.t 3)]), none, []⟩,
      ⟨(some 5), (.bin .neq (.t 4) (.c (.i .i64 (0)))), none, []⟩,
      ⟨(some 2), (.mov (.t 5)), none, []⟩] [])
    .ret)),
    6, 1, [.t 2], 0⟩
theorem tr24 : trFunc Try.prog [([], []), ([], [])] 0 Try.f24 = some I24 := by kernel_rfl

/-- 'encore/value.Check'. -/
def I25 : IFunc :=
  ⟨(.seq (.region [⟨(some 1), (.box (.t 0)), none, []⟩,
      ⟨(some 2), (.mov (.c (.i .i64 (0)))), none, []⟩] [])
    (.seq (.seq (.region [⟨(some 6), (.load (some 5) (.t 1)), none, []⟩,
      ⟨(some 7), (.call 34 [(.t 6), (.c (.i .i64 (0))), (.c (.i .i64 (256)))]), none, []⟩,
      ⟨(some 5), (.mov (.t 7)), none, []⟩,
      ⟨(some 8), (.ext (.t 5) 0), none, []⟩,
      ⟨(some 9), (.ext (.t 5) 1), none, []⟩,
      ⟨(some 3), (.mov (.t 8)), none, []⟩,
      ⟨(some 4), (.mov (.t 9)), none, []⟩] [])
    (.seq (.region [⟨(some 10), (.mov (.t 4)), none, []⟩,
      ⟨(some 11), (.un .not (.t 10)), none, []⟩] [])
    (.cond (.t 11)
      (.seq (.region [⟨(some 2), (.mov (.c (.i .i64 (2)))), none, []⟩] [])
      .ret)
      .skip)))
    (.seq (.region [⟨(some 2), (.mov (.c (.i .i64 (0)))), none, []⟩] [])
    .ret))),
    12, 1, [.t 2], 0⟩
theorem tr25 : trFunc Try.prog [([], []), ([], []), ([], []), ([], []), ([], []), ([], [])] 0 Try.f25 = some I25 := by kernel_rfl

/-- 'encore/code.Check$3'. -/
def I26 : IFunc :=
  ⟨(.seq (.region [⟨(some 2), (.box (.t 0)), none, []⟩,
      ⟨(some 3), (.mov (.c (.b false))), none, []⟩] [])
    (.seq (.region [⟨(some 4), (.load (some 4) (.t 2)), none, []⟩,
      ⟨(some 5), (.call 27 [(.t 1), (.t 4)]), none, []⟩,
      ⟨(some 6), (.un .not (.t 5)), none, []⟩,
      ⟨(some 3), (.mov (.t 6)), none, []⟩] [])
    .ret)),
    7, 2, [.t 3], 0⟩
theorem tr26 : trFunc Try.prog [([], []), ([], [])] 0 Try.f26 = some I26 := by kernel_rfl

/-- 'encore/code.head'. -/
def L27a : ICode :=
  (.seq (.region [⟨(some 14), (.bin .lss (.t 13) (.t 12)), none, []⟩] [])
    (.seq (.cond (.t 14)
      .skip
      (.exit 0))
    (.seq (.block 1
      (.seq (.region [⟨(some 15), (.iaddr 4 (.t 11) (.t 13)), none, []⟩,
        ⟨(some 16), (.load (some 4) (.t 15)), none, []⟩,
        ⟨(some 7), (.alloc [(.s []), (.i .i64 (0)), (.i .i64 (0)), .ns]), none, []⟩,
        ⟨none, (.store 4 (.t 7) (.t 16)), none, []⟩] [])
      (.seq (.region [⟨(some 17), (.off (.t 7) 0), none, []⟩,
        ⟨(some 18), (.load none (.t 17)), none, []⟩,
        ⟨(some 19), (.off (.t 3) 0), none, []⟩,
        ⟨(some 20), (.load none (.t 19)), none, []⟩,
        ⟨(some 21), (.bin .eql (.t 18) (.t 20)), none, []⟩] [])
      (.cond (.t 21)
        (.region [⟨(some 22), (.mov (.t 5)), none, []⟩,
          ⟨(some 23), (.bin .add (.t 22) (.c (.i .i64 (1)))), none, []⟩,
          ⟨(some 5), (.mov (.t 23)), none, []⟩] [])
        .skip))))
    (.region [⟨(some 24), (.bin .add (.t 13) (.c (.i .i64 (1)))), none, []⟩,
      ⟨(some 13), (.mov (.t 24)), none, []⟩] []))))
def I27 : IFunc :=
  ⟨(.seq (.region [⟨(some 3), (.box (.t 1)), none, []⟩,
      ⟨(some 4), (.mov (.c (.b false))), none, []⟩] [])
    (.seq (.region [⟨(some 5), (.mov (.c (.i .i64 (0)))), none, []⟩] [])
    (.seq (.seq (.region [⟨(some 8), (.mov (.t 0)), none, []⟩,
      ⟨(some 9), (.nck (.t 8)), none, []⟩,
      ⟨(some 10), (.off (.t 9) 0), none, []⟩,
      ⟨(some 11), (.load none (.t 10)), none, []⟩,
      ⟨(some 12), (.lenk 0 (.t 11)), none, []⟩,
      ⟨(some 13), (.mov (.c (.i .i64 (0)))), none, []⟩] [])
    (.block 0
      (.loop L27a)))
    (.seq (.region [⟨(some 25), (.mov (.t 5)), none, []⟩,
      ⟨(some 26), (.bin .eql (.t 25) (.c (.i .i64 (1)))), none, []⟩,
      ⟨(some 27), (.mov (.t 26)), none, []⟩,
      ⟨(some 28), (.off (.t 3) 0), (some (27, true)), []⟩,
      ⟨(some 29), (.load none (.t 28)), (some (27, true)), []⟩,
      ⟨(some 30), (.call 35 [(.t 29)]), (some (27, true)), []⟩,
      ⟨(some 31), (.pick (.t 27) (.t 30) (.c (.b false))), none, []⟩,
      ⟨(some 32), (.mov (.t 31)), none, []⟩,
      ⟨(some 33), (.off (.t 3) 1), (some (32, true)), []⟩,
      ⟨(some 34), (.load none (.t 33)), (some (32, true)), []⟩,
      ⟨(some 35), (.bin .geq (.t 34) (.c (.i .i64 (0)))), (some (32, true)), []⟩,
      ⟨(some 36), (.pick (.t 32) (.t 35) (.c (.b false))), none, []⟩,
      ⟨(some 37), (.mov (.t 36)), none, []⟩,
      ⟨(some 38), (.off (.t 3) 1), (some (37, true)), []⟩,
      ⟨(some 39), (.load none (.t 38)), (some (37, true)), []⟩,
      ⟨(some 40), (.bin .leq (.t 39) (.c (.i .i64 (8)))), (some (37, true)), []⟩,
      ⟨(some 41), (.pick (.t 37) (.t 40) (.c (.b false))), none, []⟩,
      ⟨(some 42), (.mov (.t 41)), none, []⟩,
      ⟨(some 43), (.off (.t 3) 2), (some (42, true)), []⟩,
      ⟨(some 44), (.load none (.t 43)), (some (42, true)), []⟩,
      ⟨(some 45), (.off (.t 3) 1), (some (42, true)), []⟩,
      ⟨(some 46), (.load none (.t 45)), (some (42, true)), []⟩,
      ⟨(some 47), (.bin .geq (.t 44) (.t 46)), (some (42, true)), []⟩,
      ⟨(some 48), (.pick (.t 42) (.t 47) (.c (.b false))), none, []⟩,
      ⟨(some 49), (.mov (.t 48)), none, []⟩,
      ⟨(some 50), (.off (.t 3) 2), (some (49, true)), []⟩,
      ⟨(some 51), (.load none (.t 50)), (some (49, true)), []⟩,
      ⟨(some 52), (.bin .leq (.t 51) (.c (.i .i64 (32)))), (some (49, true)), []⟩,
      ⟨(some 53), (.pick (.t 49) (.t 52) (.c (.b false))), none, []⟩,
      ⟨(some 54), (.mov (.t 53)), none, []⟩,
      ⟨(some 55), (.off (.t 3) 3), (some (54, true)), []⟩,
      ⟨(some 56), (.load none (.t 55)), (some (54, true)), []⟩,
      ⟨(some 57), (.lenk 0 (.t 56)), (some (54, true)), []⟩,
      ⟨(some 58), (.bin .gtr (.t 57) (.c (.i .i64 (0)))), (some (54, true)), []⟩,
      ⟨(some 59), (.pick (.t 54) (.t 58) (.c (.b false))), none, []⟩,
      ⟨(some 4), (.mov (.t 59)), none, []⟩] [])
    .ret)))),
    60, 2, [.t 4], 0⟩
theorem tr27 : trFunc Try.prog [([], []), ([], []), ([], []), ([], []), ([], []), ([], []), ([], []), ([], []), ([], []), ([], []), ([], [])] 0 Try.f27 = some I27 := by kernel_rfl

/-- 'slices.ContainsFunc[[]encore/api.Value,encore/api.Value]'. -/
def I28 : IFunc :=
  ⟨(.seq (.region [⟨(some 4), (.mov (.c (.b false))), none, []⟩] [])
    (.seq (.region [⟨(some 5), (.mov (.t 0)), none, []⟩,
      ⟨(some 6), (.mov (.t 1)), none, []⟩,
      ⟨(some 7), (.call 36 [(.t 5), (.t 6)]), none, []⟩,
      ⟨(some 8), (.bin .geq (.t 7) (.c (.i .i64 (0)))), none, []⟩,
      ⟨(some 4), (.mov (.t 8)), none, []⟩] [])
    .ret)),
    9, 2, [.t 4], 0⟩
theorem tr28 : trFunc Try.prog [([], []), ([], [])] 0 Try.f28 = some I28 := by kernel_rfl

/-- '(encore/code.site).fits'. -/
def I29 : IFunc :=
  ⟨(.seq (.region [⟨(some 1), (.box (.t 0)), none, []⟩,
      ⟨(some 2), (.mov (.c (.b false))), none, []⟩] [])
    (.seq (.region [⟨(some 4), (.off (.t 1) 2), none, []⟩,
      ⟨(some 5), (.off (.t 4) 0), none, []⟩,
      ⟨(some 6), (.load none (.t 5)), none, []⟩,
      ⟨(some 7), (.bin .geq (.t 6) (.c (.i .i64 (1)))), none, []⟩,
      ⟨(some 8), (.mov (.t 7)), none, []⟩,
      ⟨(some 9), (.off (.t 1) 2), (some (8, true)), []⟩,
      ⟨(some 10), (.off (.t 9) 0), (some (8, true)), []⟩,
      ⟨(some 11), (.load none (.t 10)), (some (8, true)), []⟩,
      ⟨(some 12), (.bin .leq (.t 11) (.c (.i .i64 (31)))), (some (8, true)), []⟩,
      ⟨(some 13), (.pick (.t 8) (.t 12) (.c (.b false))), none, []⟩,
      ⟨(some 3), (.mov (.t 13)), none, []⟩] [])
    (.seq (.region [⟨(some 14), (.mov (.t 3)), none, []⟩,
      ⟨(some 15), (.mov (.t 14)), none, []⟩,
      ⟨(some 16), (.off (.t 1) 2), (some (15, true)), []⟩,
      ⟨(some 17), (.off (.t 16) 2), (some (15, true)), []⟩,
      ⟨(some 18), (.load none (.t 17)), (some (15, true)), []⟩,
      ⟨(some 19), (.bin .eql (.t 18) (.c (.i .i64 (0)))), (some (15, true)), []⟩,
      ⟨(some 20), (.mov (.t 19)), (some (15, true)), []⟩,
      ⟨(some 21), (.off (.t 1) 2), (some (20, false)), []⟩,
      ⟨(some 22), (.off (.t 21) 0), (some (20, false)), []⟩,
      ⟨(some 23), (.load none (.t 22)), (some (20, false)), []⟩,
      ⟨(some 24), (.bin .eql (.t 23) (.c (.i .i64 (31)))), (some (20, false)), []⟩,
      ⟨(some 25), (.pick (.t 20) (.c (.b true)) (.t 24)), (some (15, true)), []⟩,
      ⟨(some 26), (.pick (.t 15) (.t 25) (.c (.b false))), none, []⟩,
      ⟨(some 27), (.mov (.t 26)), none, []⟩,
      ⟨(some 28), (.load (some 5) (.t 1)), (some (27, true)), []⟩,
      ⟨(some 29), (.call 37 [(.t 28)]), (some (27, true)), []⟩,
      ⟨(some 30), (.callv (.t 29) []), (some (27, true)), []⟩,
      ⟨(some 31), (.pick (.t 27) (.t 30) (.c (.b false))), none, []⟩,
      ⟨(some 2), (.mov (.t 31)), none, []⟩] [])
    .ret))),
    32, 1, [.t 2], 0⟩
theorem tr29 : trFunc Try.prog [([], []), ([], []), ([], [])] 0 Try.f29 = some I29 := by kernel_rfl

/-- '(*encore/verify.look).come'. -/
def I30 : IFunc :=
  ⟨(.seq (.seq (.region [⟨(some 9), (.mov (.t 1)), none, []⟩,
      ⟨(some 10), (.mov (.t 0)), none, []⟩,
      ⟨(some 11), (.nck (.t 10)), none, []⟩,
      ⟨(some 12), (.off (.t 11) 0), none, []⟩,
      ⟨(some 13), (.load none (.t 12)), none, []⟩,
      ⟨(some 14), (.lenk 0 (.t 13)), none, []⟩,
      ⟨(some 15), (.bin .geq (.t 9) (.t 14)), none, []⟩,
      ⟨(some 16), (.mov (.t 15)), none, []⟩,
      ⟨(some 17), (.mov (.t 2)), (some (16, false)), []⟩,
      ⟨(some 18), (.bin .gtr (.t 17) (.c (.i .i64 (32)))), (some (16, false)), []⟩,
      ⟨(some 19), (.pick (.t 16) (.c (.b true)) (.t 18)), none, []⟩] [])
    (.cond (.t 19)
      (.seq (.region [⟨(some 20), (.mov (.t 0)), none, []⟩,
        ⟨(some 21), (.nck (.t 20)), none, []⟩,
        ⟨(some 22), (.off (.t 21) 2), none, []⟩,
        ⟨none, (.store 1 (.t 22) (.c (.b true))), none, []⟩] [])
      .ret)
      .skip))
    (.seq (.region [⟨(some 23), (.mov (.t 0)), none, []⟩,
      ⟨(some 24), (.nck (.t 23)), none, []⟩,
      ⟨(some 25), (.off (.t 24) 0), none, []⟩,
      ⟨(some 26), (.load none (.t 25)), none, []⟩,
      ⟨(some 27), (.mov (.t 1)), none, []⟩,
      ⟨(some 28), (.iaddr 3 (.t 26) (.t 27)), none, []⟩,
      ⟨(some 8), (.mov (.t 28)), none, []⟩] [])
    (.seq (.seq (.region [⟨(some 29), (.mov (.t 8)), none, []⟩,
      ⟨(some 30), (.nck (.t 29)), none, []⟩,
      ⟨(some 31), (.off (.t 30) 0), none, []⟩,
      ⟨(some 32), (.load none (.t 31)), none, []⟩] [])
    (.cond (.t 32)
      (.seq (.region [⟨(some 33), (.mov (.t 0)), none, []⟩,
        ⟨(some 34), (.mov (.t 0)), none, []⟩,
        ⟨(some 35), (.nck (.t 34)), none, []⟩,
        ⟨(some 36), (.off (.t 35) 2), none, []⟩,
        ⟨(some 37), (.load none (.t 36)), none, []⟩,
        ⟨(some 38), (.mov (.t 37)), none, []⟩,
        ⟨(some 39), (.mov (.t 8)), (some (38, false)), []⟩,
        ⟨(some 40), (.nck (.t 39)), (some (38, false)), []⟩,
        ⟨(some 41), (.off (.t 40) 1), (some (38, false)), []⟩,
        ⟨(some 42), (.load none (.t 41)), (some (38, false)), []⟩,
        ⟨(some 43), (.mov (.t 2)), (some (38, false)), []⟩,
        ⟨(some 44), (.bin .neq (.t 42) (.t 43)), (some (38, false)), []⟩,
        ⟨(some 45), (.pick (.t 38) (.c (.b true)) (.t 44)), none, []⟩,
        ⟨(some 46), (.mov (.t 45)), none, []⟩,
        ⟨(some 47), (.mov (.t 8)), (some (46, false)), []⟩,
        ⟨(some 48), (.nck (.t 47)), (some (46, false)), []⟩,
        ⟨(some 49), (.off (.t 48) 2), (some (46, false)), []⟩,
        ⟨(some 50), (.load none (.t 49)), (some (46, false)), []⟩,
        ⟨(some 51), (.mov (.t 3)), (some (46, false)), []⟩,
        ⟨(some 52), (.call 38 [(.t 50), (.t 51)]), (some (46, false)), []⟩,
        ⟨(some 53), (.un .not (.t 52)), (some (46, false)), []⟩,
        ⟨(some 54), (.pick (.t 46) (.c (.b true)) (.t 53)), none, []⟩,
        ⟨(some 55), (.nck (.t 33)), none, []⟩,
        ⟨(some 56), (.off (.t 55) 2), none, []⟩,
        ⟨none, (.store 1 (.t 56) (.t 54)), none, []⟩] [])
      .ret)
      .skip))
    (.seq (.region [⟨(some 57), (.mov (.t 8)), none, []⟩,
      ⟨(some 58), (.mov (.t 2)), none, []⟩,
      ⟨(some 59), (.mov (.t 3)), none, []⟩,
      ⟨(some 60), (.mov (.t 3)), none, []⟩,
      ⟨(some 61), (.lenk 0 (.t 60)), none, []⟩,
      ⟨(some 62), (.mov (.t 3)), none, []⟩,
      ⟨(some 63), (.lenk 0 (.t 62)), none, []⟩,
      ⟨(some 64), (.sl 2 (.t 59) none (some (.t 61)) (some (.t 63))), none, []⟩,
      ⟨(some 65), (.build [(.b false), (.i .i64 (0)), .ns] [(0, 1, (.c (.b true))), (1, 1, (.t 58)), (2, 1, (.t 64))]), none, []⟩,
      ⟨(some 66), (.nck (.t 57)), none, []⟩,
      ⟨none, (.store 3 (.t 66) (.t 65)), none, []⟩] [])
    (.region [⟨(some 67), (.mov (.t 0)), none, []⟩,
      ⟨(some 68), (.mov (.t 0)), none, []⟩,
      ⟨(some 69), (.nck (.t 68)), none, []⟩,
      ⟨(some 70), (.off (.t 69) 1), none, []⟩,
      ⟨(some 71), (.load none (.t 70)), none, []⟩,
      ⟨(some 72), (.mov (.t 1)), none, []⟩,
      ⟨(some 73), (.bsl 1 1 [(.i .i64 (0))] [(0, 1, (.t 72))]), none, []⟩,
      ⟨(some 74), (.app 1 8 (.t 71) (.t 73)), none, []⟩,
      ⟨(some 75), (.nck (.t 67)), none, []⟩,
      ⟨(some 76), (.off (.t 75) 1), none, []⟩,
      ⟨none, (.store 1 (.t 76) (.t 74)), none, []⟩] []))))),
    77, 4, [], 0⟩
theorem tr30 : trFunc Try.prog [([], []), ([], []), ([], []), ([], []), ([], []), ([], []), ([], []), ([], []), ([], [])] 0 Try.f30 = some I30 := by kernel_rfl

/-- '(*encore/verify.look).step'. -/
def I31 : IFunc :=
  ⟨(.seq (.region [⟨(some 5), (.box (.t 1)), none, []⟩,
      ⟨(some 6), (.box (.t 2)), none, []⟩] [])
    (.seq (.region [⟨(some 14), (.mov (.t 0)), none, []⟩,
      ⟨(some 15), (.nck (.t 14)), none, []⟩,
      ⟨(some 16), (.off (.t 15) 0), none, []⟩,
      ⟨(some 17), (.load none (.t 16)), none, []⟩,
      ⟨(some 18), (.mov (.t 3)), none, []⟩,
      ⟨(some 19), (.iaddr 3 (.t 17) (.t 18)), none, []⟩,
      ⟨(some 20), (.load (some 3) (.t 19)), none, []⟩,
      ⟨(some 8), (.alloc [(.b false), (.i .i64 (0)), .ns]), none, []⟩,
      ⟨none, (.store 3 (.t 8) (.t 20)), none, []⟩] [])
    (.seq (.region [⟨(some 22), (.load (some 2) (.t 5)), none, []⟩,
      ⟨(some 23), (.load (some 3) (.t 6)), none, []⟩,
      ⟨(some 24), (.call 39 [(.t 22), (.t 23)]), none, []⟩,
      ⟨(some 21), (.mov (.t 24)), none, []⟩,
      ⟨(some 25), (.ext (.t 21) 0), none, []⟩,
      ⟨(some 26), (.ext (.t 21) 1), none, []⟩,
      ⟨(some 9), (.mov (.t 25)), none, []⟩,
      ⟨(some 10), (.mov (.t 26)), none, []⟩] [])
    (.seq (.region [⟨(some 27), (.off (.t 8) 1), none, []⟩,
      ⟨(some 28), (.load none (.t 27)), none, []⟩,
      ⟨(some 29), (.mov (.t 9)), none, []⟩,
      ⟨(some 30), (.bin .sub (.t 28) (.t 29)), none, []⟩,
      ⟨(some 31), (.mov (.t 10)), none, []⟩,
      ⟨(some 32), (.bin .add (.t 30) (.t 31)), none, []⟩,
      ⟨(some 33), (.off (.t 8) 2), none, []⟩,
      ⟨(some 34), (.load none (.t 33)), none, []⟩,
      ⟨(some 11), (.mov (.t 32)), none, []⟩,
      ⟨(some 12), (.mov (.t 34)), none, []⟩] [])
    (.seq (.seq (.region [⟨(some 35), (.mov (.t 9)), none, []⟩,
      ⟨(some 36), (.off (.t 8) 1), none, []⟩,
      ⟨(some 37), (.load none (.t 36)), none, []⟩,
      ⟨(some 38), (.bin .gtr (.t 35) (.t 37)), none, []⟩,
      ⟨(some 39), (.mov (.t 38)), none, []⟩,
      ⟨(some 40), (.mov (.t 11)), (some (39, false)), []⟩,
      ⟨(some 41), (.bin .gtr (.t 40) (.c (.i .i64 (32)))), (some (39, false)), []⟩,
      ⟨(some 42), (.pick (.t 39) (.c (.b true)) (.t 41)), none, []⟩] [])
    (.cond (.t 42)
      (.seq (.region [⟨(some 43), (.mov (.t 0)), none, []⟩,
        ⟨(some 44), (.nck (.t 43)), none, []⟩,
        ⟨(some 45), (.off (.t 44) 2), none, []⟩,
        ⟨none, (.store 1 (.t 45) (.c (.b true))), none, []⟩] [])
      .ret)
      .skip))
    (.seq (.seq (.region [⟨(some 46), (.mov (.t 12)), none, []⟩,
      ⟨(some 47), (.lenk 0 (.t 46)), none, []⟩,
      ⟨(some 13), (.mov (.t 47)), none, []⟩] [])
    (.seq (.region [⟨(some 48), (.mov (.t 13)), none, []⟩,
      ⟨(some 49), (.bin .gtr (.t 48) (.c (.i .i64 (0)))), none, []⟩,
      ⟨(some 50), (.mov (.t 49)), none, []⟩,
      ⟨(some 51), (.off (.t 8) 1), (some (50, true)), []⟩,
      ⟨(some 52), (.load none (.t 51)), (some (50, true)), []⟩,
      ⟨(some 53), (.mov (.t 9)), (some (50, true)), []⟩,
      ⟨(some 54), (.bin .sub (.t 52) (.t 53)), (some (50, true)), []⟩,
      ⟨(some 55), (.mov (.t 12)), (some (50, true)), []⟩,
      ⟨(some 56), (.mov (.t 13)), (some (50, true)), []⟩,
      ⟨(some 57), (.bin .sub (.t 56) (.c (.i .i64 (1)))), (some (50, true)), []⟩,
      ⟨(some 58), (.iaddr 2 (.t 55) (.t 57)), (some (50, true)), []⟩,
      ⟨(some 59), (.off (.t 58) 1), (some (50, true)), []⟩,
      ⟨(some 60), (.load none (.t 59)), (some (50, true)), []⟩,
      ⟨(some 61), (.bin .lss (.t 54) (.t 60)), (some (50, true)), []⟩,
      ⟨(some 62), (.pick (.t 50) (.t 61) (.c (.b false))), none, []⟩] [])
    (.cond (.t 62)
      (.seq (.region [⟨(some 63), (.mov (.t 0)), none, []⟩,
        ⟨(some 64), (.nck (.t 63)), none, []⟩,
        ⟨(some 65), (.off (.t 64) 2), none, []⟩,
        ⟨none, (.store 1 (.t 65) (.c (.b true))), none, []⟩] [])
      .ret)
      .skip)))
    (.seq (.seq (.region [⟨(some 66), (.off (.t 6) 0), none, []⟩,
      ⟨(some 67), (.load none (.t 66)), none, []⟩] [])
    (.block 0
      (.seq (.seq (.region [⟨(some 69), (.bin .eql (.t 67) (.c (.i .i64 (28)))), none, []⟩,
        ⟨(some 68), (.mov (.t 69)), none, []⟩] [])
      (.cond (.t 68)
        .skip
        (.region [⟨(some 70), (.bin .eql (.t 67) (.c (.i .i64 (30)))), none, []⟩,
          ⟨(some 68), (.mov (.t 70)), none, []⟩] [])))
      (.cond (.t 68)
        .ret
        (.seq (.region [⟨(some 72), (.bin .eql (.t 67) (.c (.i .i64 (24)))), none, []⟩,
          ⟨(some 71), (.mov (.t 72)), none, []⟩] [])
        (.cond (.t 71)
          (.seq (.region [⟨(some 73), (.mov (.t 0)), none, []⟩,
            ⟨(some 74), (.off (.t 6) 1), none, []⟩,
            ⟨(some 75), (.load none (.t 74)), none, []⟩,
            ⟨(some 76), (.mov (.t 11)), none, []⟩,
            ⟨(some 77), (.mov (.t 12)), none, []⟩,
            ⟨(some 78), (.call 30 [(.t 73), (.t 75), (.t 76), (.t 77)]), none, []⟩] [])
          .ret)
          (.seq (.region [⟨(some 80), (.bin .eql (.t 67) (.c (.i .i64 (25)))), none, []⟩,
            ⟨(some 79), (.mov (.t 80)), none, []⟩] [])
          (.cond (.t 79)
            (.region [⟨(some 81), (.mov (.t 0)), none, []⟩,
              ⟨(some 82), (.off (.t 6) 1), none, []⟩,
              ⟨(some 83), (.load none (.t 82)), none, []⟩,
              ⟨(some 84), (.mov (.t 11)), none, []⟩,
              ⟨(some 85), (.mov (.t 12)), none, []⟩,
              ⟨(some 86), (.call 30 [(.t 81), (.t 83), (.t 84), (.t 85)]), none, []⟩] [])
            (.seq (.region [⟨(some 88), (.bin .eql (.t 67) (.c (.i .i64 (26)))), none, []⟩,
              ⟨(some 87), (.mov (.t 88)), none, []⟩] [])
            (.cond (.t 87)
              (.seq (.region [⟨(some 89), (.mov (.t 0)), none, []⟩,
                ⟨(some 90), (.mov (.t 0)), none, []⟩,
                ⟨(some 91), (.nck (.t 90)), none, []⟩,
                ⟨(some 92), (.off (.t 91) 2), none, []⟩,
                ⟨(some 93), (.load none (.t 92)), none, []⟩,
                ⟨(some 94), (.mov (.t 93)), none, []⟩,
                ⟨(some 95), (.mov (.t 12)), (some (94, false)), []⟩,
                ⟨(some 96), (.lenk 0 (.t 95)), (some (94, false)), []⟩,
                ⟨(some 97), (.bin .geq (.t 96) (.c (.i .i64 (8)))), (some (94, false)), []⟩,
                ⟨(some 98), (.pick (.t 94) (.c (.b true)) (.t 97)), none, []⟩,
                ⟨(some 99), (.nck (.t 89)), none, []⟩,
                ⟨(some 100), (.off (.t 99) 2), none, []⟩,
                ⟨none, (.store 1 (.t 100) (.t 98)), none, []⟩] [])
              (.seq (.region [⟨(some 101), (.mov (.t 0)), none, []⟩,
                ⟨(some 102), (.off (.t 6) 1), none, []⟩,
                ⟨(some 103), (.load none (.t 102)), none, []⟩,
                ⟨(some 104), (.mov (.t 11)), none, []⟩,
                ⟨(some 105), (.bin .add (.t 104) (.c (.i .i64 (1)))), none, []⟩,
                ⟨(some 106), (.mov (.t 12)), none, []⟩,
                ⟨(some 107), (.call 30 [(.t 101), (.t 103), (.t 105), (.t 106)]), none, []⟩] [])
              (.region [⟨(some 108), (.mov (.t 12)), none, []⟩,
                ⟨(some 109), (.off (.t 6) 1), none, []⟩,
                ⟨(some 110), (.load none (.t 109)), none, []⟩,
                ⟨(some 111), (.mov (.t 11)), none, []⟩,
                ⟨(some 112), (.build [(.i .i64 (0)), (.i .i64 (0))] [(0, 1, (.t 110)), (1, 1, (.t 111))]), none, []⟩,
                ⟨(some 113), (.bsl 2 1 [(.i .i64 (0)), (.i .i64 (0))] [(0, 2, (.t 112))]), none, []⟩,
                ⟨(some 114), (.app 2 16 (.t 108) (.t 113)), none, []⟩,
                ⟨(some 12), (.mov (.t 114)), none, []⟩] [])))
              (.seq (.region [⟨(some 116), (.bin .eql (.t 67) (.c (.i .i64 (27)))), none, []⟩,
                ⟨(some 115), (.mov (.t 116)), none, []⟩] [])
              (.cond (.t 115)
                (.seq (.seq (.region [⟨(some 117), (.mov (.t 12)), none, []⟩,
                  ⟨(some 118), (.lenk 0 (.t 117)), none, []⟩,
                  ⟨(some 119), (.bin .eql (.t 118) (.c (.i .i64 (0)))), none, []⟩] [])
                (.cond (.t 119)
                  (.seq (.region [⟨(some 120), (.mov (.t 0)), none, []⟩,
                    ⟨(some 121), (.nck (.t 120)), none, []⟩,
                    ⟨(some 122), (.off (.t 121) 2), none, []⟩,
                    ⟨none, (.store 1 (.t 122) (.c (.b true))), none, []⟩] [])
                  .ret)
                  .skip))
                (.region [⟨(some 123), (.mov (.t 12)), none, []⟩,
                  ⟨(some 124), (.mov (.t 12)), none, []⟩,
                  ⟨(some 125), (.lenk 0 (.t 124)), none, []⟩,
                  ⟨(some 126), (.bin .sub (.t 125) (.c (.i .i64 (1)))), none, []⟩,
                  ⟨(some 127), (.sl 2 (.t 123) none (some (.t 126)) none), none, []⟩,
                  ⟨(some 12), (.mov (.t 127)), none, []⟩] []))
                .skip))))))))))))
    (.region [⟨(some 128), (.mov (.t 0)), none, []⟩,
      ⟨(some 129), (.mov (.t 3)), none, []⟩,
      ⟨(some 130), (.bin .add (.t 129) (.c (.i .i64 (1)))), none, []⟩,
      ⟨(some 131), (.mov (.t 11)), none, []⟩,
      ⟨(some 132), (.mov (.t 12)), none, []⟩,
      ⟨(some 133), (.call 30 [(.t 128), (.t 130), (.t 131), (.t 132)]), none, []⟩] [])))))))),
    134, 4, [], 0⟩
theorem tr31 : trFunc Try.prog [([], []), ([], []), ([], []), ([0, 1, 2, 3, 4, 5, 6, 7, 8, 9], []), ([], []), ([], []), ([], []), ([], []), ([0, 1, 2, 3, 4, 5, 6, 7, 8, 9, 10, 11, 12, 13, 14], []), ([], []), ([], []), ([], []), ([], []), ([], []), ([], []), ([], []), ([], []), ([], []), ([], []), ([], []), ([], []), ([], []), ([], []), ([], []), ([], []), ([], []), ([], []), ([], []), ([], []), ([], [])] 0 Try.f31 = some I31 := by kernel_rfl

/-- 'slices.Clone[[]encore/verify.Try,encore/verify.Try]'. -/
def I32 : IFunc :=
  ⟨(.seq (.region [⟨(some 2), (.mov (.c .ns)), none, []⟩] [])
    (.seq (.seq (.region [⟨(some 3), (.mov (.t 0)), none, []⟩,
      ⟨(some 4), (.eqNil 0 false (.t 3) (.c .ns)), none, []⟩] [])
    (.cond (.t 4)
      (.seq (.region [⟨(some 2), (.mov (.c .ns)), none, []⟩] [])
      .ret)
      .skip))
    (.seq (.region [⟨(some 5), (.bsl 2 0 [] []), none, []⟩,
      ⟨(some 6), (.mov (.t 0)), none, []⟩,
      ⟨(some 7), (.app 2 16 (.t 5) (.t 6)), none, []⟩,
      ⟨(some 2), (.mov (.t 7)), none, []⟩] [])
    .ret))),
    8, 1, [.t 2], 0⟩
theorem tr32 : trFunc Try.prog [([], []), ([], []), ([], []), ([], []), ([], [])] 0 Try.f32 = some I32 := by kernel_rfl

/-- 'slices.IndexFunc[[]encore/api.Func,encore/api.Func]'. -/
def L33a : ICode :=
  (.seq (.region [⟨(some 9), (.bin .lss (.t 8) (.t 7)), none, []⟩] [])
    (.seq (.cond (.t 9)
      .skip
      (.exit 0))
    (.seq (.block 1
      (.seq (.region [⟨(some 10), (.mov (.t 8)), none, []⟩,
        ⟨(some 5), (.mov (.t 10)), none, []⟩] [])
      (.seq (.region [⟨(some 11), (.mov (.t 1)), none, []⟩,
        ⟨(some 12), (.mov (.t 0)), none, []⟩,
        ⟨(some 13), (.mov (.t 5)), none, []⟩,
        ⟨(some 14), (.iaddr 4 (.t 12) (.t 13)), none, []⟩,
        ⟨(some 15), (.load (some 4) (.t 14)), none, []⟩,
        ⟨(some 16), (.callv (.t 11) [(.t 15)]), none, []⟩] [])
      (.cond (.t 16)
        (.seq (.region [⟨(some 17), (.mov (.t 5)), none, []⟩,
          ⟨(some 4), (.mov (.t 17)), none, []⟩] [])
        .ret)
        .skip))))
    (.region [⟨(some 18), (.bin .add (.t 8) (.c (.i .i64 (1)))), none, []⟩,
      ⟨(some 8), (.mov (.t 18)), none, []⟩] []))))
def I33 : IFunc :=
  ⟨(.seq (.region [⟨(some 4), (.mov (.c (.i .i64 (0)))), none, []⟩] [])
    (.seq (.seq (.region [⟨(some 6), (.mov (.t 0)), none, []⟩,
      ⟨(some 7), (.lenk 0 (.t 6)), none, []⟩,
      ⟨(some 8), (.mov (.c (.i .i64 (0)))), none, []⟩] [])
    (.block 0
      (.loop L33a)))
    (.seq (.region [⟨(some 4), (.mov (.c (.i .i64 (-1)))), none, []⟩] [])
    .ret))),
    19, 2, [.t 4], 0⟩
theorem tr33 : trFunc Try.prog [([], []), ([], []), ([], []), ([], []), ([], []), ([], []), ([], []), ([], []), ([], []), ([], [])] 0 Try.f33 = some I33 := by kernel_rfl

/-- 'encore/value.fits'. -/
def L34a : ICode :=
  (.seq (.region [⟨(some 22), (.bin .lss (.t 21) (.t 20)), none, []⟩] [])
    (.seq (.cond (.t 22)
      .skip
      (.exit 0))
    (.seq (.block 1
      (.seq (.region [⟨(some 23), (.iaddr 1 (.t 19) (.t 21)), none, []⟩,
        ⟨(some 24), (.load none (.t 23)), none, []⟩,
        ⟨(some 9), (.mov (.t 24)), none, []⟩] [])
      (.region [⟨(some 25), (.mov (.t 2)), none, []⟩,
        ⟨(some 26), (.mov (.t 9)), none, []⟩,
        ⟨(some 27), (.lenk 1 (.t 26)), none, []⟩,
        ⟨(some 28), (.bin .sub (.t 25) (.t 27)), none, []⟩,
        ⟨(some 2), (.mov (.t 28)), none, []⟩] [])))
    (.region [⟨(some 29), (.bin .add (.t 21) (.c (.i .i64 (1)))), none, []⟩,
      ⟨(some 21), (.mov (.t 29)), none, []⟩] []))))
def L34b : ICode :=
  (.seq (.region [⟨(some 45), (.bin .lss (.t 44) (.t 43)), none, []⟩] [])
    (.seq (.cond (.t 45)
      .skip
      (.exit 2))
    (.seq (.block 3
      (.seq (.region [⟨(some 46), (.mov (.t 44)), none, []⟩,
        ⟨(some 11), (.mov (.t 46)), none, []⟩] [])
      (.seq (.region [⟨(some 48), (.off (.t 3) 3), none, []⟩,
        ⟨(some 49), (.load none (.t 48)), none, []⟩,
        ⟨(some 50), (.mov (.t 11)), none, []⟩,
        ⟨(some 51), (.iaddr 5 (.t 49) (.t 50)), none, []⟩,
        ⟨(some 52), (.load (some 5) (.t 51)), none, []⟩,
        ⟨(some 53), (.mov (.t 1)), none, []⟩,
        ⟨(some 54), (.bin .add (.t 53) (.c (.i .i64 (1)))), none, []⟩,
        ⟨(some 55), (.mov (.t 2)), none, []⟩,
        ⟨(some 56), (.call 34 [(.t 52), (.t 54), (.t 55)]), none, []⟩,
        ⟨(some 47), (.mov (.t 56)), none, []⟩,
        ⟨(some 57), (.ext (.t 47) 0), none, []⟩,
        ⟨(some 58), (.ext (.t 47) 1), none, []⟩,
        ⟨(some 2), (.mov (.t 57)), none, []⟩,
        ⟨(some 10), (.mov (.t 58)), none, []⟩] [])
      (.seq (.region [⟨(some 59), (.mov (.t 10)), none, []⟩,
        ⟨(some 60), (.un .not (.t 59)), none, []⟩] [])
      (.cond (.t 60)
        (.seq (.region [⟨(some 6), (.mov (.c (.i .i64 (0)))), none, []⟩,
          ⟨(some 7), (.mov (.c (.b false))), none, []⟩] [])
        .ret)
        .skip)))))
    (.region [⟨(some 61), (.bin .add (.t 44) (.c (.i .i64 (1)))), none, []⟩,
      ⟨(some 44), (.mov (.t 61)), none, []⟩] []))))
def I34 : IFunc :=
  ⟨(.seq (.region [⟨(some 3), (.box (.t 0)), none, []⟩,
      ⟨(some 6), (.mov (.c (.i .i64 (0)))), none, []⟩,
      ⟨(some 7), (.mov (.c (.b false))), none, []⟩] [])
    (.seq (.region [⟨(some 12), (.mov (.t 2)), none, []⟩,
      ⟨(some 13), (.off (.t 3) 2), none, []⟩,
      ⟨(some 14), (.load none (.t 13)), none, []⟩,
      ⟨(some 15), (.lenk 1 (.t 14)), none, []⟩,
      ⟨(some 16), (.bin .add (.c (.i .i64 (1))) (.t 15)), none, []⟩,
      ⟨(some 17), (.bin .sub (.t 12) (.t 16)), none, []⟩,
      ⟨(some 2), (.mov (.t 17)), none, []⟩] [])
    (.seq (.seq (.region [⟨(some 18), (.off (.t 3) 4), none, []⟩,
      ⟨(some 19), (.load none (.t 18)), none, []⟩,
      ⟨(some 20), (.lenk 0 (.t 19)), none, []⟩,
      ⟨(some 21), (.mov (.c (.i .i64 (0)))), none, []⟩] [])
    (.block 0
      (.loop L34a)))
    (.seq (.seq (.region [⟨(some 30), (.mov (.t 1)), none, []⟩,
      ⟨(some 31), (.bin .geq (.t 30) (.c (.i .i64 (8)))), none, []⟩,
      ⟨(some 32), (.mov (.t 31)), none, []⟩,
      ⟨(some 33), (.mov (.t 2)), (some (32, false)), []⟩,
      ⟨(some 34), (.bin .lss (.t 33) (.c (.i .i64 (0)))), (some (32, false)), []⟩,
      ⟨(some 35), (.pick (.t 32) (.c (.b true)) (.t 34)), none, []⟩,
      ⟨(some 36), (.mov (.t 35)), none, []⟩,
      ⟨(some 37), (.load (some 5) (.t 3)), (some (36, false)), []⟩,
      ⟨(some 38), (.call 40 [(.t 37)]), (some (36, false)), []⟩,
      ⟨(some 39), (.un .not (.t 38)), (some (36, false)), []⟩,
      ⟨(some 40), (.pick (.t 36) (.c (.b true)) (.t 39)), none, []⟩] [])
    (.cond (.t 40)
      (.seq (.region [⟨(some 6), (.mov (.c (.i .i64 (0)))), none, []⟩,
        ⟨(some 7), (.mov (.c (.b false))), none, []⟩] [])
      .ret)
      .skip))
    (.seq (.region [⟨(some 10), (.mov (.c (.b true))), none, []⟩] [])
    (.seq (.seq (.region [⟨(some 41), (.off (.t 3) 3), none, []⟩,
      ⟨(some 42), (.load none (.t 41)), none, []⟩,
      ⟨(some 43), (.lenk 0 (.t 42)), none, []⟩,
      ⟨(some 44), (.mov (.c (.i .i64 (0)))), none, []⟩] [])
    (.block 2
      (.loop L34b)))
    (.seq (.region [⟨(some 62), (.mov (.t 2)), none, []⟩,
      ⟨(some 6), (.mov (.t 62)), none, []⟩,
      ⟨(some 7), (.mov (.c (.b true))), none, []⟩] [])
    .ret))))))),
    63, 3, [.t 6, .t 7], 0⟩
theorem tr34 : trFunc Try.prog [([], []), ([], []), ([], []), ([], []), ([], []), ([], []), ([], []), ([], []), ([], []), ([], []), ([], []), ([], []), ([], []), ([], []), ([], []), ([], []), ([], []), ([], []), ([], []), ([], []), ([], []), ([], [])] 0 Try.f34 = some I34 := by kernel_rfl

/-- 'encore/code.name'. -/
def I35 : IFunc :=
  ⟨(.seq (.region [⟨(some 2), (.mov (.c (.b false))), none, []⟩] [])
    (.seq (.region [⟨(some 3), (.mov (.t 0)), none, []⟩,
      ⟨(some 4), (.bsl 1 1 [(.s [])] [(0, 1, (.t 3))]), none, []⟩,
      ⟨(some 5), (.mksl 5 80 [(.i .i64 (0)), (.i .i64 (0)), (.s []), .ns, .ns] (.c (.i .i64 (1))) (.c (.i .i64 (1)))), none, []⟩,
      ⟨(some 6), (.build [(.i .i64 (0)), (.i .i64 (0)), (.s []), .ns, .ns] [(0, 1, (.c (.i .i64 (5)))), (4, 1, (.t 4)), (3, 1, (.t 5))]), none, []⟩,
      ⟨(some 7), (.call 25 [(.t 6)]), none, []⟩,
      ⟨(some 8), (.bin .eql (.t 7) (.c (.i .i64 (0)))), none, []⟩,
      ⟨(some 2), (.mov (.t 8)), none, []⟩] [])
    .ret)),
    9, 1, [.t 2], 0⟩
theorem tr35 : trFunc Try.prog [([], []), ([], [])] 0 Try.f35 = some I35 := by kernel_rfl

/-- 'slices.IndexFunc[[]encore/api.Value,encore/api.Value]'. -/
def L36a : ICode :=
  (.seq (.region [⟨(some 9), (.bin .lss (.t 8) (.t 7)), none, []⟩] [])
    (.seq (.cond (.t 9)
      .skip
      (.exit 0))
    (.seq (.block 1
      (.seq (.region [⟨(some 10), (.mov (.t 8)), none, []⟩,
        ⟨(some 5), (.mov (.t 10)), none, []⟩] [])
      (.seq (.region [⟨(some 11), (.mov (.t 1)), none, []⟩,
        ⟨(some 12), (.mov (.t 0)), none, []⟩,
        ⟨(some 13), (.mov (.t 5)), none, []⟩,
        ⟨(some 14), (.iaddr 5 (.t 12) (.t 13)), none, []⟩,
        ⟨(some 15), (.load (some 5) (.t 14)), none, []⟩,
        ⟨(some 16), (.callv (.t 11) [(.t 15)]), none, []⟩] [])
      (.cond (.t 16)
        (.seq (.region [⟨(some 17), (.mov (.t 5)), none, []⟩,
          ⟨(some 4), (.mov (.t 17)), none, []⟩] [])
        .ret)
        .skip))))
    (.region [⟨(some 18), (.bin .add (.t 8) (.c (.i .i64 (1)))), none, []⟩,
      ⟨(some 8), (.mov (.t 18)), none, []⟩] []))))
def I36 : IFunc :=
  ⟨(.seq (.region [⟨(some 4), (.mov (.c (.i .i64 (0)))), none, []⟩] [])
    (.seq (.seq (.region [⟨(some 6), (.mov (.t 0)), none, []⟩,
      ⟨(some 7), (.lenk 0 (.t 6)), none, []⟩,
      ⟨(some 8), (.mov (.c (.i .i64 (0)))), none, []⟩] [])
    (.block 0
      (.loop L36a)))
    (.seq (.region [⟨(some 4), (.mov (.c (.i .i64 (-1)))), none, []⟩] [])
    .ret))),
    19, 2, [.t 4], 0⟩
theorem tr36 : trFunc Try.prog [([], []), ([], []), ([], []), ([], []), ([], []), ([], []), ([], []), ([], []), ([], []), ([], [])] 0 Try.f36 = some I36 := by kernel_rfl

/-- '(encore/code.site).may'. -/
def I37 : IFunc :=
  ⟨(.seq (.region [⟨(some 1), (.box (.t 0)), none, []⟩,
      ⟨(some 2), (.mov (.c .nf)), none, []⟩] [])
    (.seq (.seq (.region [⟨(some 3), (.off (.t 1) 2), none, []⟩,
      ⟨(some 4), (.off (.t 3) 0), none, []⟩,
      ⟨(some 5), (.load none (.t 4)), none, []⟩] [])
    (.block 0
      (.seq (.region [⟨(some 7), (.bin .eql (.t 5) (.c (.i .i64 (1)))), none, []⟩,
        ⟨(some 6), (.mov (.t 7)), none, []⟩] [])
      (.cond (.t 6)
        (.seq (.region [⟨(some 8), (.load (some 5) (.t 1)), none, []⟩,
          ⟨(some 9), (.mkf 41 [(.t 8)] []), none, []⟩,
          ⟨(some 2), (.mov (.t 9)), none, []⟩] [])
        .ret)
        (.seq (.seq (.region [⟨(some 11), (.bin .eql (.t 5) (.c (.i .i64 (2)))), none, []⟩,
          ⟨(some 10), (.mov (.t 11)), none, []⟩] [])
        (.cond (.t 10)
          .skip
          (.region [⟨(some 12), (.bin .eql (.t 5) (.c (.i .i64 (3)))), none, []⟩,
            ⟨(some 10), (.mov (.t 12)), none, []⟩] [])))
        (.cond (.t 10)
          (.seq (.region [⟨(some 13), (.load (some 5) (.t 1)), none, []⟩,
            ⟨(some 14), (.mkf 42 [(.t 13)] []), none, []⟩,
            ⟨(some 2), (.mov (.t 14)), none, []⟩] [])
          .ret)
          (.seq (.region [⟨(some 16), (.bin .eql (.t 5) (.c (.i .i64 (20)))), none, []⟩,
            ⟨(some 15), (.mov (.t 16)), none, []⟩] [])
          (.cond (.t 15)
            (.seq (.region [⟨(some 17), (.load (some 5) (.t 1)), none, []⟩,
              ⟨(some 18), (.mkf 43 [(.t 17)] []), none, []⟩,
              ⟨(some 2), (.mov (.t 18)), none, []⟩] [])
            .ret)
            (.seq (.region [⟨(some 20), (.bin .eql (.t 5) (.c (.i .i64 (21)))), none, []⟩,
              ⟨(some 19), (.mov (.t 20)), none, []⟩] [])
            (.cond (.t 19)
              (.seq (.region [⟨(some 21), (.load (some 5) (.t 1)), none, []⟩,
                ⟨(some 22), (.mkf 44 [(.t 21)] []), none, []⟩,
                ⟨(some 2), (.mov (.t 22)), none, []⟩] [])
              .ret)
              (.seq (.region [⟨(some 24), (.bin .eql (.t 5) (.c (.i .i64 (22)))), none, []⟩,
                ⟨(some 23), (.mov (.t 24)), none, []⟩] [])
              (.cond (.t 23)
                (.seq (.region [⟨(some 25), (.load (some 5) (.t 1)), none, []⟩,
                  ⟨(some 26), (.mkf 45 [(.t 25)] []), none, []⟩,
                  ⟨(some 2), (.mov (.t 26)), none, []⟩] [])
                .ret)
                (.seq (.region [⟨(some 28), (.bin .eql (.t 5) (.c (.i .i64 (23)))), none, []⟩,
                  ⟨(some 27), (.mov (.t 28)), none, []⟩] [])
                (.cond (.t 27)
                  (.seq (.region [⟨(some 29), (.load (some 5) (.t 1)), none, []⟩,
                    ⟨(some 30), (.mkf 46 [(.t 29)] []), none, []⟩,
                    ⟨(some 2), (.mov (.t 30)), none, []⟩] [])
                  .ret)
                  (.seq (.seq (.region [⟨(some 32), (.bin .eql (.t 5) (.c (.i .i64 (24)))), none, []⟩,
                    ⟨(some 31), (.mov (.t 32)), none, []⟩] [])
                  (.cond (.t 31)
                    .skip
                    (.seq (.region [⟨(some 33), (.bin .eql (.t 5) (.c (.i .i64 (25)))), none, []⟩,
                      ⟨(some 31), (.mov (.t 33)), none, []⟩] [])
                    (.cond (.t 31)
                      .skip
                      (.region [⟨(some 34), (.bin .eql (.t 5) (.c (.i .i64 (26)))), none, []⟩,
                        ⟨(some 31), (.mov (.t 34)), none, []⟩] [])))))
                  (.cond (.t 31)
                    (.seq (.region [⟨(some 35), (.load (some 5) (.t 1)), none, []⟩,
                      ⟨(some 36), (.mkf 47 [(.t 35)] []), none, []⟩,
                      ⟨(some 2), (.mov (.t 36)), none, []⟩] [])
                    .ret)
                    (.seq (.region [⟨(some 38), (.bin .eql (.t 5) (.c (.i .i64 (29)))), none, []⟩,
                      ⟨(some 37), (.mov (.t 38)), none, []⟩] [])
                    (.cond (.t 37)
                      (.seq (.region [⟨(some 39), (.load (some 5) (.t 1)), none, []⟩,
                        ⟨(some 40), (.mkf 48 [(.t 39)] []), none, []⟩,
                        ⟨(some 2), (.mov (.t 40)), none, []⟩] [])
                      .ret)
                      (.seq (.region [⟨(some 42), (.bin .eql (.t 5) (.c (.i .i64 (31)))), none, []⟩,
                        ⟨(some 41), (.mov (.t 42)), none, []⟩] [])
                      (.cond (.t 41)
                        (.seq (.region [⟨(some 43), (.load (some 5) (.t 1)), none, []⟩,
                          ⟨(some 44), (.mkf 49 [(.t 43)] []), none, []⟩,
                          ⟨(some 2), (.mov (.t 44)), none, []⟩] [])
                        .ret)
                        .skip))))))))))))))))))))
    (.seq (.region [⟨(some 45), (.load (some 5) (.t 1)), none, []⟩,
      ⟨(some 46), (.mkf 50 [(.t 45)] []), none, []⟩,
      ⟨(some 2), (.mov (.t 46)), none, []⟩] [])
    .ret))),
    47, 1, [.t 2], 0⟩
theorem tr37 : trFunc Try.prog [([], []), ([], []), ([], []), ([], []), ([], []), ([], []), ([], []), ([], []), ([], []), ([], []), ([], []), ([], []), ([], []), ([], []), ([], []), ([], []), ([], []), ([], []), ([], []), ([], []), ([], []), ([], []), ([], []), ([], []), ([], []), ([], []), ([], []), ([], [])] 0 Try.f37 = some I37 := by kernel_rfl

/-- 'slices.Equal[[]encore/verify.Try,encore/verify.Try]'. -/
def L38a : ICode :=
  (.seq (.region [⟨(some 14), (.bin .lss (.t 13) (.t 12)), none, []⟩] [])
    (.seq (.cond (.t 14)
      .skip
      (.exit 0))
    (.seq (.block 1
      (.seq (.region [⟨(some 15), (.mov (.t 13)), none, []⟩,
        ⟨(some 5), (.mov (.t 15)), none, []⟩] [])
      (.seq (.region [⟨(some 16), (.mov (.t 0)), none, []⟩,
        ⟨(some 17), (.mov (.t 5)), none, []⟩,
        ⟨(some 18), (.iaddr 2 (.t 16) (.t 17)), none, []⟩,
        ⟨(some 19), (.load (some 2) (.t 18)), none, []⟩,
        ⟨(some 20), (.mov (.t 1)), none, []⟩,
        ⟨(some 21), (.mov (.t 5)), none, []⟩,
        ⟨(some 22), (.iaddr 2 (.t 20) (.t 21)), none, []⟩,
        ⟨(some 23), (.load (some 2) (.t 22)), none, []⟩,
        ⟨(some 24), (.eqAg [1, 1] true (.t 19) (.t 23)), none, []⟩] [])
      (.cond (.t 24)
        (.seq (.region [⟨(some 4), (.mov (.c (.b false))), none, []⟩] [])
        .ret)
        .skip))))
    (.region [⟨(some 25), (.bin .add (.t 13) (.c (.i .i64 (1)))), none, []⟩,
      ⟨(some 13), (.mov (.t 25)), none, []⟩] []))))
def I38 : IFunc :=
  ⟨(.seq (.region [⟨(some 4), (.mov (.c (.b false))), none, []⟩] [])
    (.seq (.seq (.region [⟨(some 6), (.mov (.t 0)), none, []⟩,
      ⟨(some 7), (.lenk 0 (.t 6)), none, []⟩,
      ⟨(some 8), (.mov (.t 1)), none, []⟩,
      ⟨(some 9), (.lenk 0 (.t 8)), none, []⟩,
      ⟨(some 10), (.bin .neq (.t 7) (.t 9)), none, []⟩] [])
    (.cond (.t 10)
      (.seq (.region [⟨(some 4), (.mov (.c (.b false))), none, []⟩] [])
      .ret)
      .skip))
    (.seq (.seq (.region [⟨(some 11), (.mov (.t 0)), none, []⟩,
      ⟨(some 12), (.lenk 0 (.t 11)), none, []⟩,
      ⟨(some 13), (.mov (.c (.i .i64 (0)))), none, []⟩] [])
    (.block 0
      (.loop L38a)))
    (.seq (.region [⟨(some 4), (.mov (.c (.b true))), none, []⟩] [])
    .ret)))),
    26, 2, [.t 4], 0⟩
theorem tr38 : trFunc Try.prog [([], []), ([], []), ([], []), ([], []), ([], []), ([], []), ([], []), ([], []), ([0, 1, 2, 3, 4, 5, 6, 7, 8], []), ([], []), ([], []), ([], []), ([], [])] 0 Try.f38 = some I38 := by kernel_rfl

/-- 'encore/code.Moves'. -/
def I39 : IFunc :=
  ⟨(.seq (.region [⟨(some 2), (.box (.t 0)), none, []⟩,
      ⟨(some 3), (.box (.t 1)), none, []⟩,
      ⟨(some 4), (.mov (.c (.i .i64 (0)))), none, []⟩,
      ⟨(some 5), (.mov (.c (.i .i64 (0)))), none, []⟩] [])
    (.seq (.block 0
      (.seq (.region [⟨(some 7), (.off (.t 3) 0), none, []⟩,
        ⟨(some 8), (.load none (.t 7)), none, []⟩,
        ⟨(some 9), (.bin .eql (.t 8) (.c (.i .i64 (1)))), none, []⟩,
        ⟨(some 10), (.mov (.t 9)), none, []⟩,
        ⟨(some 11), (.off (.t 3) 0), (some (10, false)), []⟩,
        ⟨(some 12), (.load none (.t 11)), (some (10, false)), []⟩,
        ⟨(some 13), (.bin .eql (.t 12) (.c (.i .i64 (2)))), (some (10, false)), []⟩,
        ⟨(some 14), (.pick (.t 10) (.c (.b true)) (.t 13)), none, []⟩,
        ⟨(some 6), (.mov (.t 14)), none, []⟩] [])
      (.cond (.t 6)
        (.seq (.region [⟨(some 4), (.mov (.c (.i .i64 (0)))), none, []⟩,
          ⟨(some 5), (.mov (.c (.i .i64 (1)))), none, []⟩] [])
        .ret)
        (.seq (.region [⟨(some 16), (.off (.t 3) 0), none, []⟩,
          ⟨(some 17), (.load none (.t 16)), none, []⟩,
          ⟨(some 18), (.bin .eql (.t 17) (.c (.i .i64 (5)))), none, []⟩,
          ⟨(some 15), (.mov (.t 18)), none, []⟩] [])
        (.cond (.t 15)
          (.seq (.region [⟨(some 4), (.mov (.c (.i .i64 (1)))), none, []⟩,
            ⟨(some 5), (.mov (.c (.i .i64 (2)))), none, []⟩] [])
          .ret)
          (.seq (.seq (.region [⟨(some 20), (.off (.t 3) 0), none, []⟩,
            ⟨(some 21), (.load none (.t 20)), none, []⟩,
            ⟨(some 22), (.bin .eql (.t 21) (.c (.i .i64 (3)))), none, []⟩,
            ⟨(some 19), (.mov (.t 22)), none, []⟩] [])
          (.cond (.t 19)
            .skip
            (.seq (.region [⟨(some 23), (.off (.t 3) 0), none, []⟩,
              ⟨(some 24), (.load none (.t 23)), none, []⟩,
              ⟨(some 25), (.bin .eql (.t 24) (.c (.i .i64 (4)))), none, []⟩,
              ⟨(some 19), (.mov (.t 25)), none, []⟩] [])
            (.cond (.t 19)
              .skip
              (.seq (.region [⟨(some 26), (.off (.t 3) 0), none, []⟩,
                ⟨(some 27), (.load none (.t 26)), none, []⟩,
                ⟨(some 28), (.bin .eql (.t 27) (.c (.i .i64 (25)))), none, []⟩,
                ⟨(some 19), (.mov (.t 28)), none, []⟩] [])
              (.cond (.t 19)
                .skip
                (.seq (.region [⟨(some 29), (.off (.t 3) 0), none, []⟩,
                  ⟨(some 30), (.load none (.t 29)), none, []⟩,
                  ⟨(some 31), (.bin .eql (.t 30) (.c (.i .i64 (28)))), none, []⟩,
                  ⟨(some 19), (.mov (.t 31)), none, []⟩] [])
                (.cond (.t 19)
                  .skip
                  (.region [⟨(some 32), (.off (.t 3) 0), none, []⟩,
                    ⟨(some 33), (.load none (.t 32)), none, []⟩,
                    ⟨(some 34), (.bin .eql (.t 33) (.c (.i .i64 (30)))), none, []⟩,
                    ⟨(some 19), (.mov (.t 34)), none, []⟩] [])))))))))
          (.cond (.t 19)
            (.seq (.region [⟨(some 4), (.mov (.c (.i .i64 (1)))), none, []⟩,
              ⟨(some 5), (.mov (.c (.i .i64 (0)))), none, []⟩] [])
            .ret)
            (.seq (.seq (.region [⟨(some 36), (.off (.t 3) 0), none, []⟩,
              ⟨(some 37), (.load none (.t 36)), none, []⟩,
              ⟨(some 38), (.bin .geq (.t 37) (.c (.i .i64 (6)))), none, []⟩,
              ⟨(some 39), (.mov (.t 38)), none, []⟩,
              ⟨(some 40), (.off (.t 3) 0), (some (39, true)), []⟩,
              ⟨(some 41), (.load none (.t 40)), (some (39, true)), []⟩,
              ⟨(some 42), (.bin .leq (.t 41) (.c (.i .i64 (8)))), (some (39, true)), []⟩,
              ⟨(some 43), (.pick (.t 39) (.t 42) (.c (.b false))), none, []⟩,
              ⟨(some 35), (.mov (.t 43)), none, []⟩] [])
            (.cond (.t 35)
              .skip
              (.seq (.region [⟨(some 44), (.off (.t 3) 0), none, []⟩,
                ⟨(some 45), (.load none (.t 44)), none, []⟩,
                ⟨(some 46), (.bin .eql (.t 45) (.c (.i .i64 (22)))), none, []⟩,
                ⟨(some 35), (.mov (.t 46)), none, []⟩] [])
              (.cond (.t 35)
                .skip
                (.region [⟨(some 47), (.off (.t 3) 0), none, []⟩,
                  ⟨(some 48), (.load none (.t 47)), none, []⟩,
                  ⟨(some 49), (.bin .eql (.t 48) (.c (.i .i64 (23)))), none, []⟩,
                  ⟨(some 35), (.mov (.t 49)), none, []⟩] [])))))
            (.cond (.t 35)
              (.seq (.region [⟨(some 4), (.mov (.c (.i .i64 (1)))), none, []⟩,
                ⟨(some 5), (.mov (.c (.i .i64 (1)))), none, []⟩] [])
              .ret)
              (.seq (.region [⟨(some 51), (.off (.t 3) 0), none, []⟩,
                ⟨(some 52), (.load none (.t 51)), none, []⟩,
                ⟨(some 53), (.bin .geq (.t 52) (.c (.i .i64 (9)))), none, []⟩,
                ⟨(some 54), (.mov (.t 53)), none, []⟩,
                ⟨(some 55), (.off (.t 3) 0), (some (54, true)), []⟩,
                ⟨(some 56), (.load none (.t 55)), (some (54, true)), []⟩,
                ⟨(some 57), (.bin .leq (.t 56) (.c (.i .i64 (19)))), (some (54, true)), []⟩,
                ⟨(some 58), (.pick (.t 54) (.t 57) (.c (.b false))), none, []⟩,
                ⟨(some 50), (.mov (.t 58)), none, []⟩] [])
              (.cond (.t 50)
                (.seq (.region [⟨(some 4), (.mov (.c (.i .i64 (2)))), none, []⟩,
                  ⟨(some 5), (.mov (.c (.i .i64 (1)))), none, []⟩] [])
                .ret)
                (.seq (.region [⟨(some 60), (.off (.t 3) 0), none, []⟩,
                  ⟨(some 61), (.load none (.t 60)), none, []⟩,
                  ⟨(some 62), (.bin .eql (.t 61) (.c (.i .i64 (20)))), none, []⟩,
                  ⟨(some 59), (.mov (.t 62)), none, []⟩] [])
                (.cond (.t 59)
                  (.seq (.region [⟨(some 63), (.off (.t 3) 1), none, []⟩,
                    ⟨(some 64), (.load none (.t 63)), none, []⟩,
                    ⟨(some 4), (.mov (.t 64)), none, []⟩,
                    ⟨(some 5), (.mov (.c (.i .i64 (1)))), none, []⟩] [])
                  .ret)
                  (.seq (.region [⟨(some 66), (.off (.t 3) 0), none, []⟩,
                    ⟨(some 67), (.load none (.t 66)), none, []⟩,
                    ⟨(some 68), (.bin .eql (.t 67) (.c (.i .i64 (21)))), none, []⟩,
                    ⟨(some 65), (.mov (.t 68)), none, []⟩] [])
                  (.cond (.t 65)
                    (.seq (.seq (.region [⟨(some 69), (.off (.t 3) 1), none, []⟩,
                      ⟨(some 70), (.load none (.t 69)), none, []⟩,
                      ⟨(some 71), (.bin .geq (.t 70) (.c (.i .i64 (0)))), none, []⟩,
                      ⟨(some 72), (.mov (.t 71)), none, []⟩,
                      ⟨(some 73), (.off (.t 3) 1), (some (72, true)), []⟩,
                      ⟨(some 74), (.load none (.t 73)), (some (72, true)), []⟩,
                      ⟨(some 75), (.off (.t 2) 1), (some (72, true)), []⟩,
                      ⟨(some 76), (.load none (.t 75)), (some (72, true)), []⟩,
                      ⟨(some 77), (.lenk 0 (.t 76)), (some (72, true)), []⟩,
                      ⟨(some 78), (.bin .lss (.t 74) (.t 77)), (some (72, true)), []⟩,
                      ⟨(some 79), (.pick (.t 72) (.t 78) (.c (.b false))), none, []⟩] [])
                    (.cond (.t 79)
                      (.region [⟨(some 80), (.off (.t 2) 1), none, []⟩,
                        ⟨(some 81), (.load none (.t 80)), none, []⟩,
                        ⟨(some 82), (.off (.t 3) 1), none, []⟩,
                        ⟨(some 83), (.load none (.t 82)), none, []⟩,
                        ⟨(some 84), (.iaddr 5 (.t 81) (.t 83)), none, []⟩,
                        ⟨(some 85), (.off (.t 84) 3), none, []⟩,
                        ⟨(some 86), (.load none (.t 85)), none, []⟩,
                        ⟨(some 87), (.lenk 0 (.t 86)), none, []⟩,
                        ⟨(some 4), (.mov (.t 87)), none, []⟩] [])
                      .skip))
                    (.seq (.region [⟨(some 88), (.mov (.t 4)), none, []⟩,
                      ⟨(some 4), (.mov (.t 88)), none, []⟩,
                      ⟨(some 5), (.mov (.c (.i .i64 (1)))), none, []⟩] [])
                    .ret))
                    (.seq (.region [⟨(some 90), (.off (.t 3) 0), none, []⟩,
                      ⟨(some 91), (.load none (.t 90)), none, []⟩,
                      ⟨(some 92), (.bin .eql (.t 91) (.c (.i .i64 (29)))), none, []⟩,
                      ⟨(some 89), (.mov (.t 92)), none, []⟩] [])
                    (.cond (.t 89)
                      (.seq (.seq (.region [⟨(some 93), (.off (.t 3) 1), none, []⟩,
                        ⟨(some 94), (.load none (.t 93)), none, []⟩,
                        ⟨(some 95), (.bin .geq (.t 94) (.c (.i .i64 (0)))), none, []⟩,
                        ⟨(some 96), (.mov (.t 95)), none, []⟩,
                        ⟨(some 97), (.off (.t 3) 1), (some (96, true)), []⟩,
                        ⟨(some 98), (.load none (.t 97)), (some (96, true)), []⟩,
                        ⟨(some 99), (.off (.t 2) 0), (some (96, true)), []⟩,
                        ⟨(some 100), (.load none (.t 99)), (some (96, true)), []⟩,
                        ⟨(some 101), (.lenk 0 (.t 100)), (some (96, true)), []⟩,
                        ⟨(some 102), (.bin .lss (.t 98) (.t 101)), (some (96, true)), []⟩,
                        ⟨(some 103), (.pick (.t 96) (.t 102) (.c (.b false))), none, []⟩] [])
                      (.cond (.t 103)
                        (.region [⟨(some 104), (.off (.t 2) 0), none, []⟩,
                          ⟨(some 105), (.load none (.t 104)), none, []⟩,
                          ⟨(some 106), (.off (.t 3) 1), none, []⟩,
                          ⟨(some 107), (.load none (.t 106)), none, []⟩,
                          ⟨(some 108), (.iaddr 4 (.t 105) (.t 107)), none, []⟩,
                          ⟨(some 109), (.off (.t 108) 1), none, []⟩,
                          ⟨(some 110), (.load none (.t 109)), none, []⟩,
                          ⟨(some 4), (.mov (.t 110)), none, []⟩] [])
                        .skip))
                      (.seq (.region [⟨(some 111), (.mov (.t 4)), none, []⟩,
                        ⟨(some 4), (.mov (.t 111)), none, []⟩,
                        ⟨(some 5), (.mov (.c (.i .i64 (1)))), none, []⟩] [])
                      .ret))
                      (.seq (.region [⟨(some 113), (.off (.t 3) 0), none, []⟩,
                        ⟨(some 114), (.load none (.t 113)), none, []⟩,
                        ⟨(some 115), (.bin .eql (.t 114) (.c (.i .i64 (31)))), none, []⟩,
                        ⟨(some 112), (.mov (.t 115)), none, []⟩] [])
                      (.cond (.t 112)
                        (.seq (.seq (.region [⟨(some 116), (.off (.t 3) 1), none, []⟩,
                          ⟨(some 117), (.load none (.t 116)), none, []⟩,
                          ⟨(some 118), (.bin .neq (.t 117) (.c (.i .i64 (3)))), none, []⟩,
                          ⟨(some 119), (.mov (.t 118)), none, []⟩,
                          ⟨(some 120), (.off (.t 3) 1), (some (119, true)), []⟩,
                          ⟨(some 121), (.load none (.t 120)), (some (119, true)), []⟩,
                          ⟨(some 122), (.bin .neq (.t 121) (.c (.i .i64 (5)))), (some (119, true)), []⟩,
                          ⟨(some 123), (.pick (.t 119) (.t 122) (.c (.b false))), none, []⟩,
                          ⟨(some 124), (.mov (.t 123)), none, []⟩,
                          ⟨(some 125), (.off (.t 3) 1), (some (124, true)), []⟩,
                          ⟨(some 126), (.load none (.t 125)), (some (124, true)), []⟩,
                          ⟨(some 127), (.bin .neq (.t 126) (.c (.i .i64 (6)))), (some (124, true)), []⟩,
                          ⟨(some 128), (.pick (.t 124) (.t 127) (.c (.b false))), none, []⟩] [])
                        (.cond (.t 128)
                          (.region [⟨(some 4), (.mov (.c (.i .i64 (1)))), none, []⟩] [])
                          .skip))
                        (.seq (.region [⟨(some 129), (.mov (.t 4)), none, []⟩,
                          ⟨(some 4), (.mov (.t 129)), none, []⟩,
                          ⟨(some 5), (.mov (.c (.i .i64 (1)))), none, []⟩] [])
                        .ret))
                        .skip)))))))))))))))))))
    (.seq (.region [⟨(some 4), (.mov (.c (.i .i64 (0)))), none, []⟩,
      ⟨(some 5), (.mov (.c (.i .i64 (0)))), none, []⟩] [])
    .ret))),
    130, 2, [.t 4, .t 5], 0⟩
theorem tr39 : trFunc Try.prog [([], []), ([], []), ([], []), ([], []), ([], []), ([], []), ([], []), ([], []), ([], []), ([], []), ([], []), ([], []), ([], []), ([], []), ([], []), ([], []), ([], []), ([], []), ([], []), ([], []), ([], []), ([], []), ([], []), ([], []), ([], []), ([], []), ([], []), ([], []), ([], []), ([], []), ([], []), ([], []), ([], []), ([], []), ([], []), ([], []), ([], []), ([], []), ([], []), ([], []), ([], []), ([], [])] 0 Try.f39 = some I39 := by kernel_rfl

/-- 'encore/value.own'. -/
def I40 : IFunc :=
  ⟨(.seq (.region [⟨(some 1), (.box (.t 0)), none, []⟩,
      ⟨(some 2), (.mov (.c (.b false))), none, []⟩] [])
    (.seq (.seq (.region [⟨(some 3), (.off (.t 1) 0), none, []⟩,
      ⟨(some 4), (.load none (.t 3)), none, []⟩] [])
    (.block 0
      (.seq (.region [⟨(some 6), (.bin .eql (.t 4) (.c (.i .i64 (0)))), none, []⟩,
        ⟨(some 5), (.mov (.t 6)), none, []⟩] [])
      (.cond (.t 5)
        (.seq (.region [⟨(some 7), (.off (.t 1) 1), none, []⟩,
          ⟨(some 8), (.load none (.t 7)), none, []⟩,
          ⟨(some 9), (.bin .eql (.t 8) (.c (.i .i64 (0)))), none, []⟩,
          ⟨(some 10), (.mov (.t 9)), none, []⟩,
          ⟨(some 11), (.build [(.b false), (.b false), (.b false)] []), (some (10, true)), []⟩,
          ⟨(some 12), (.load (some 5) (.t 1)), (some (10, true)), []⟩,
          ⟨(some 13), (.call 51 [(.t 11), (.t 12)]), (some (10, true)), []⟩,
          ⟨(some 14), (.pick (.t 10) (.t 13) (.c (.b false))), none, []⟩,
          ⟨(some 2), (.mov (.t 14)), none, []⟩] [])
        .ret)
        (.seq (.region [⟨(some 16), (.bin .eql (.t 4) (.c (.i .i64 (1)))), none, []⟩,
          ⟨(some 15), (.mov (.t 16)), none, []⟩] [])
        (.cond (.t 15)
          (.seq (.region [⟨(some 17), (.build [(.b false), (.b false), (.b false)] []), none, []⟩,
            ⟨(some 18), (.load (some 5) (.t 1)), none, []⟩,
            ⟨(some 19), (.call 51 [(.t 17), (.t 18)]), none, []⟩,
            ⟨(some 2), (.mov (.t 19)), none, []⟩] [])
          .ret)
          (.seq (.region [⟨(some 21), (.bin .eql (.t 4) (.c (.i .i64 (2)))), none, []⟩,
            ⟨(some 20), (.mov (.t 21)), none, []⟩] [])
          (.cond (.t 20)
            (.seq (.region [⟨(some 22), (.off (.t 1) 1), none, []⟩,
              ⟨(some 23), (.load none (.t 22)), none, []⟩,
              ⟨(some 24), (.bin .andNot (.t 23) (.c (.i .i64 (1)))), none, []⟩,
              ⟨(some 25), (.bin .eql (.t 24) (.c (.i .i64 (0)))), none, []⟩,
              ⟨(some 26), (.mov (.t 25)), none, []⟩,
              ⟨(some 27), (.build [(.b false), (.b false), (.b false)] []), (some (26, true)), []⟩,
              ⟨(some 28), (.load (some 5) (.t 1)), (some (26, true)), []⟩,
              ⟨(some 29), (.call 51 [(.t 27), (.t 28)]), (some (26, true)), []⟩,
              ⟨(some 30), (.pick (.t 26) (.t 29) (.c (.b false))), none, []⟩,
              ⟨(some 2), (.mov (.t 30)), none, []⟩] [])
            .ret)
            (.seq (.region [⟨(some 32), (.bin .eql (.t 4) (.c (.i .i64 (6)))), none, []⟩,
              ⟨(some 31), (.mov (.t 32)), none, []⟩] [])
            (.cond (.t 31)
              (.seq (.region [⟨(some 33), (.off (.t 1) 1), none, []⟩,
                ⟨(some 34), (.load none (.t 33)), none, []⟩,
                ⟨(some 35), (.bin .geq (.t 34) (.c (.i .i64 (1)))), none, []⟩,
                ⟨(some 36), (.mov (.t 35)), none, []⟩,
                ⟨(some 37), (.off (.t 1) 1), (some (36, true)), []⟩,
                ⟨(some 38), (.load none (.t 37)), (some (36, true)), []⟩,
                ⟨(some 39), (.bin .leq (.t 38) (.c (.i .i64 (64)))), (some (36, true)), []⟩,
                ⟨(some 40), (.pick (.t 36) (.t 39) (.c (.b false))), none, []⟩,
                ⟨(some 41), (.mov (.t 40)), none, []⟩,
                ⟨(some 42), (.build [(.b false), (.b false), (.b false)] []), (some (41, true)), []⟩,
                ⟨(some 43), (.load (some 5) (.t 1)), (some (41, true)), []⟩,
                ⟨(some 44), (.call 51 [(.t 42), (.t 43)]), (some (41, true)), []⟩,
                ⟨(some 45), (.pick (.t 41) (.t 44) (.c (.b false))), none, []⟩,
                ⟨(some 2), (.mov (.t 45)), none, []⟩] [])
              .ret)
              (.seq (.region [⟨(some 47), (.bin .eql (.t 4) (.c (.i .i64 (3)))), none, []⟩,
                ⟨(some 46), (.mov (.t 47)), none, []⟩] [])
              (.cond (.t 46)
                (.seq (.region [⟨(some 48), (.off (.t 1) 1), none, []⟩,
                  ⟨(some 49), (.load none (.t 48)), none, []⟩,
                  ⟨(some 50), (.bin .eql (.t 49) (.c (.i .i64 (0)))), none, []⟩,
                  ⟨(some 51), (.mov (.t 50)), none, []⟩,
                  ⟨(some 52), (.off (.t 1) 2), (some (51, true)), []⟩,
                  ⟨(some 53), (.load none (.t 52)), (some (51, true)), []⟩,
                  ⟨(some 54), (.lenk 1 (.t 53)), (some (51, true)), []⟩,
                  ⟨(some 55), (.bin .leq (.t 54) (.c (.i .i64 (64)))), (some (51, true)), []⟩,
                  ⟨(some 56), (.pick (.t 51) (.t 55) (.c (.b false))), none, []⟩,
                  ⟨(some 57), (.mov (.t 56)), none, []⟩,
                  ⟨(some 58), (.build [(.b false), (.b false), (.b false)] [(0, 1, (.c (.b true)))]), (some (57, true)), []⟩,
                  ⟨(some 59), (.load (some 5) (.t 1)), (some (57, true)), []⟩,
                  ⟨(some 60), (.call 51 [(.t 58), (.t 59)]), (some (57, true)), []⟩,
                  ⟨(some 61), (.pick (.t 57) (.t 60) (.c (.b false))), none, []⟩,
                  ⟨(some 2), (.mov (.t 61)), none, []⟩] [])
                .ret)
                (.seq (.region [⟨(some 63), (.bin .eql (.t 4) (.c (.i .i64 (4)))), none, []⟩,
                  ⟨(some 62), (.mov (.t 63)), none, []⟩] [])
                (.cond (.t 62)
                  (.seq (.region [⟨(some 64), (.off (.t 1) 1), none, []⟩,
                    ⟨(some 65), (.load none (.t 64)), none, []⟩,
                    ⟨(some 66), (.bin .eql (.t 65) (.c (.i .i64 (0)))), none, []⟩,
                    ⟨(some 67), (.mov (.t 66)), none, []⟩,
                    ⟨(some 68), (.off (.t 1) 3), (some (67, true)), []⟩,
                    ⟨(some 69), (.load none (.t 68)), (some (67, true)), []⟩,
                    ⟨(some 70), (.lenk 0 (.t 69)), (some (67, true)), []⟩,
                    ⟨(some 71), (.bin .leq (.t 70) (.c (.i .i64 (32)))), (some (67, true)), []⟩,
                    ⟨(some 72), (.pick (.t 67) (.t 71) (.c (.b false))), none, []⟩,
                    ⟨(some 73), (.mov (.t 72)), none, []⟩,
                    ⟨(some 74), (.build [(.b false), (.b false), (.b false)] [(1, 1, (.c (.b true)))]), (some (73, true)), []⟩,
                    ⟨(some 75), (.load (some 5) (.t 1)), (some (73, true)), []⟩,
                    ⟨(some 76), (.call 51 [(.t 74), (.t 75)]), (some (73, true)), []⟩,
                    ⟨(some 77), (.pick (.t 73) (.t 76) (.c (.b false))), none, []⟩,
                    ⟨(some 2), (.mov (.t 77)), none, []⟩] [])
                  .ret)
                  (.seq (.region [⟨(some 79), (.bin .eql (.t 4) (.c (.i .i64 (5)))), none, []⟩,
                    ⟨(some 78), (.mov (.t 79)), none, []⟩] [])
                  (.cond (.t 78)
                    (.seq (.region [⟨(some 80), (.off (.t 1) 1), none, []⟩,
                      ⟨(some 81), (.load none (.t 80)), none, []⟩,
                      ⟨(some 82), (.bin .eql (.t 81) (.c (.i .i64 (0)))), none, []⟩,
                      ⟨(some 83), (.mov (.t 82)), none, []⟩,
                      ⟨(some 84), (.off (.t 1) 3), (some (83, true)), []⟩,
                      ⟨(some 85), (.load none (.t 84)), (some (83, true)), []⟩,
                      ⟨(some 86), (.lenk 0 (.t 85)), (some (83, true)), []⟩,
                      ⟨(some 87), (.off (.t 1) 4), (some (83, true)), []⟩,
                      ⟨(some 88), (.load none (.t 87)), (some (83, true)), []⟩,
                      ⟨(some 89), (.lenk 0 (.t 88)), (some (83, true)), []⟩,
                      ⟨(some 90), (.bin .eql (.t 86) (.t 89)), (some (83, true)), []⟩,
                      ⟨(some 91), (.pick (.t 83) (.t 90) (.c (.b false))), none, []⟩,
                      ⟨(some 92), (.mov (.t 91)), none, []⟩,
                      ⟨(some 93), (.off (.t 1) 3), (some (92, true)), []⟩,
                      ⟨(some 94), (.load none (.t 93)), (some (92, true)), []⟩,
                      ⟨(some 95), (.lenk 0 (.t 94)), (some (92, true)), []⟩,
                      ⟨(some 96), (.bin .leq (.t 95) (.c (.i .i64 (8)))), (some (92, true)), []⟩,
                      ⟨(some 97), (.pick (.t 92) (.t 96) (.c (.b false))), none, []⟩,
                      ⟨(some 98), (.mov (.t 97)), none, []⟩,
                      ⟨(some 99), (.build [(.b false), (.b false), (.b false)] [(1, 1, (.c (.b true))), (2, 1, (.c (.b true)))]), (some (98, true)), []⟩,
                      ⟨(some 100), (.load (some 5) (.t 1)), (some (98, true)), []⟩,
                      ⟨(some 101), (.call 51 [(.t 99), (.t 100)]), (some (98, true)), []⟩,
                      ⟨(some 102), (.pick (.t 98) (.t 101) (.c (.b false))), none, []⟩,
                      ⟨(some 103), (.mov (.t 102)), none, []⟩,
                      ⟨(some 104), (.off (.t 1) 4), (some (103, true)), []⟩,
                      ⟨(some 105), (.load none (.t 104)), (some (103, true)), []⟩,
                      ⟨(some 106), (.call 52 [(.t 105)]), (some (103, true)), []⟩,
                      ⟨(some 107), (.pick (.t 103) (.t 106) (.c (.b false))), none, []⟩,
                      ⟨(some 2), (.mov (.t 107)), none, []⟩] [])
                    .ret)
                    .skip))))))))))))))))
    (.seq (.region [⟨(some 2), (.mov (.c (.b false))), none, []⟩] [])
    .ret))),
    108, 1, [.t 2], 0⟩
theorem tr40 : trFunc Try.prog [([], []), ([], []), ([], []), ([], []), ([], []), ([], []), ([], []), ([], []), ([], []), ([], []), ([], []), ([], []), ([], []), ([], []), ([], []), ([], []), ([], []), ([], [])] 0 Try.f40 = some I40 := by kernel_rfl

/-- '(encore/code.site).value'. -/
def I41 : IFunc :=
  ⟨(.seq (.region [⟨(some 1), (.box (.t 0)), none, []⟩,
      ⟨(some 2), (.mov (.c (.b false))), none, []⟩] [])
    (.seq (.region [⟨(some 3), (.off (.t 1) 2), none, []⟩,
      ⟨(some 4), (.off (.t 3) 1), none, []⟩,
      ⟨(some 5), (.load none (.t 4)), none, []⟩,
      ⟨(some 6), (.bin .geq (.t 5) (.c (.i .i64 (0)))), none, []⟩,
      ⟨(some 7), (.mov (.t 6)), none, []⟩,
      ⟨(some 8), (.off (.t 1) 2), (some (7, true)), []⟩,
      ⟨(some 9), (.off (.t 8) 1), (some (7, true)), []⟩,
      ⟨(some 10), (.load none (.t 9)), (some (7, true)), []⟩,
      ⟨(some 11), (.off (.t 1) 0), (some (7, true)), []⟩,
      ⟨(some 12), (.load none (.t 11)), (some (7, true)), []⟩,
      ⟨(some 13), (.nck (.t 12)), (some (7, true)), []⟩,
      ⟨(some 14), (.off (.t 13) 1), (some (7, true)), []⟩,
      ⟨(some 15), (.load none (.t 14)), (some (7, true)), []⟩,
      ⟨(some 16), (.lenk 0 (.t 15)), (some (7, true)), []⟩,
      ⟨(some 17), (.bin .lss (.t 10) (.t 16)), (some (7, true)), []⟩,
      ⟨(some 18), (.pick (.t 7) (.t 17) (.c (.b false))), none, []⟩,
      ⟨(some 2), (.mov (.t 18)), none, []⟩] [])
    .ret)),
    19, 1, [.t 2], 0⟩
theorem tr41 : trFunc Try.prog [([], []), ([0, 1, 2, 3, 4, 5, 6, 7, 8, 9, 10, 11, 12, 13, 14, 15, 16], [])] 0 Try.f41 = some I41 := by kernel_rfl

/-- '(encore/code.site).local'. -/
def I42 : IFunc :=
  ⟨(.seq (.region [⟨(some 1), (.box (.t 0)), none, []⟩,
      ⟨(some 2), (.mov (.c (.b false))), none, []⟩] [])
    (.seq (.region [⟨(some 3), (.off (.t 1) 2), none, []⟩,
      ⟨(some 4), (.off (.t 3) 1), none, []⟩,
      ⟨(some 5), (.load none (.t 4)), none, []⟩,
      ⟨(some 6), (.bin .geq (.t 5) (.c (.i .i64 (0)))), none, []⟩,
      ⟨(some 7), (.mov (.t 6)), none, []⟩,
      ⟨(some 8), (.off (.t 1) 2), (some (7, true)), []⟩,
      ⟨(some 9), (.off (.t 8) 1), (some (7, true)), []⟩,
      ⟨(some 10), (.load none (.t 9)), (some (7, true)), []⟩,
      ⟨(some 11), (.off (.t 1) 1), (some (7, true)), []⟩,
      ⟨(some 12), (.load none (.t 11)), (some (7, true)), []⟩,
      ⟨(some 13), (.nck (.t 12)), (some (7, true)), []⟩,
      ⟨(some 14), (.off (.t 13) 2), (some (7, true)), []⟩,
      ⟨(some 15), (.load none (.t 14)), (some (7, true)), []⟩,
      ⟨(some 16), (.bin .lss (.t 10) (.t 15)), (some (7, true)), []⟩,
      ⟨(some 17), (.pick (.t 7) (.t 16) (.c (.b false))), none, []⟩,
      ⟨(some 2), (.mov (.t 17)), none, []⟩] [])
    .ret)),
    18, 1, [.t 2], 0⟩
theorem tr42 : trFunc Try.prog [([], []), ([0, 1, 2, 3, 4, 5, 6, 7, 8, 9, 10, 11, 12, 13, 14, 15], [])] 0 Try.f42 = some I42 := by kernel_rfl

/-- '(encore/code.site).count'. -/
def I43 : IFunc :=
  ⟨(.seq (.region [⟨(some 1), (.box (.t 0)), none, []⟩,
      ⟨(some 2), (.mov (.c (.b false))), none, []⟩] [])
    (.seq (.region [⟨(some 3), (.off (.t 1) 2), none, []⟩,
      ⟨(some 4), (.off (.t 3) 1), none, []⟩,
      ⟨(some 5), (.load none (.t 4)), none, []⟩,
      ⟨(some 6), (.bin .geq (.t 5) (.c (.i .i64 (0)))), none, []⟩,
      ⟨(some 7), (.mov (.t 6)), none, []⟩,
      ⟨(some 8), (.off (.t 1) 2), (some (7, true)), []⟩,
      ⟨(some 9), (.off (.t 8) 1), (some (7, true)), []⟩,
      ⟨(some 10), (.load none (.t 9)), (some (7, true)), []⟩,
      ⟨(some 11), (.bin .leq (.t 10) (.c (.i .i64 (8)))), (some (7, true)), []⟩,
      ⟨(some 12), (.pick (.t 7) (.t 11) (.c (.b false))), none, []⟩,
      ⟨(some 2), (.mov (.t 12)), none, []⟩] [])
    .ret)),
    13, 1, [.t 2], 0⟩
theorem tr43 : trFunc Try.prog [([], []), ([], [])] 0 Try.f43 = some I43 := by kernel_rfl

/-- '(encore/code.site).fields'. -/
def I44 : IFunc :=
  ⟨(.seq (.region [⟨(some 1), (.box (.t 0)), none, []⟩,
      ⟨(some 2), (.mov (.c (.b false))), none, []⟩] [])
    (.seq (.region [⟨(some 3), (.load (some 5) (.t 1)), none, []⟩,
      ⟨(some 4), (.call 41 [(.t 3)]), none, []⟩,
      ⟨(some 5), (.mov (.t 4)), none, []⟩,
      ⟨(some 6), (.off (.t 1) 0), (some (5, true)), []⟩,
      ⟨(some 7), (.load none (.t 6)), (some (5, true)), []⟩,
      ⟨(some 8), (.nck (.t 7)), (some (5, true)), []⟩,
      ⟨(some 9), (.off (.t 8) 1), (some (5, true)), []⟩,
      ⟨(some 10), (.load none (.t 9)), (some (5, true)), []⟩,
      ⟨(some 11), (.off (.t 1) 2), (some (5, true)), []⟩,
      ⟨(some 12), (.off (.t 11) 1), (some (5, true)), []⟩,
      ⟨(some 13), (.load none (.t 12)), (some (5, true)), []⟩,
      ⟨(some 14), (.iaddr 5 (.t 10) (.t 13)), (some (5, true)), []⟩,
      ⟨(some 15), (.load (some 5) (.t 14)), (some (5, true)), []⟩,
      ⟨(some 16), (.call 53 [(.t 15)]), (some (5, true)), []⟩,
      ⟨(some 17), (.pick (.t 5) (.t 16) (.c (.b false))), none, []⟩,
      ⟨(some 2), (.mov (.t 17)), none, []⟩] [])
    .ret)),
    18, 1, [.t 2], 0⟩
theorem tr44 : trFunc Try.prog [([], []), ([0, 1, 2, 3, 4, 5, 6, 7, 8, 9, 10, 11, 12, 13, 14, 15], [])] 0 Try.f44 = some I44 := by kernel_rfl

/-- '(encore/code.site).field'. -/
def I45 : IFunc :=
  ⟨(.seq (.region [⟨(some 1), (.box (.t 0)), none, []⟩,
      ⟨(some 2), (.mov (.c (.b false))), none, []⟩] [])
    (.seq (.region [⟨(some 3), (.off (.t 1) 0), none, []⟩,
      ⟨(some 4), (.load none (.t 3)), none, []⟩,
      ⟨(some 5), (.off (.t 1) 2), none, []⟩,
      ⟨(some 6), (.off (.t 5) 1), none, []⟩,
      ⟨(some 7), (.load none (.t 6)), none, []⟩,
      ⟨(some 8), (.call 54 [(.t 4), (.t 7)]), none, []⟩,
      ⟨(some 2), (.mov (.t 8)), none, []⟩] [])
    .ret)),
    9, 1, [.t 2], 0⟩
theorem tr45 : trFunc Try.prog [([], []), ([], [])] 0 Try.f45 = some I45 := by kernel_rfl

/-- '(encore/code.site).typed'. -/
def I46 : IFunc :=
  ⟨(.seq (.region [⟨(some 1), (.box (.t 0)), none, []⟩,
      ⟨(some 2), (.mov (.c (.b false))), none, []⟩] [])
    (.seq (.region [⟨(some 6), (.off (.t 1) 0), none, []⟩,
      ⟨(some 7), (.load none (.t 6)), none, []⟩,
      ⟨(some 8), (.off (.t 1) 2), none, []⟩,
      ⟨(some 9), (.off (.t 8) 1), none, []⟩,
      ⟨(some 10), (.load none (.t 9)), none, []⟩,
      ⟨(some 11), (.call 55 [(.t 7), (.t 10)]), none, []⟩,
      ⟨(some 5), (.mov (.t 11)), none, []⟩,
      ⟨(some 12), (.ext (.t 5) 0), none, []⟩,
      ⟨(some 13), (.ext (.t 5) 1), none, []⟩,
      ⟨(some 3), (.mov (.t 12)), none, []⟩,
      ⟨(some 4), (.mov (.t 13)), none, []⟩] [])
    (.seq (.region [⟨(some 14), (.mov (.t 4)), none, []⟩,
      ⟨(some 15), (.mov (.t 14)), none, []⟩,
      ⟨(some 16), (.mov (.t 3)), (some (15, true)), []⟩,
      ⟨(some 17), (.call 56 [(.t 16)]), (some (15, true)), []⟩,
      ⟨(some 18), (.pick (.t 15) (.t 17) (.c (.b false))), none, []⟩,
      ⟨(some 2), (.mov (.t 18)), none, []⟩] [])
    .ret))),
    19, 1, [.t 2], 0⟩
theorem tr46 : trFunc Try.prog [([], []), ([], []), ([], [])] 0 Try.f46 = some I46 := by kernel_rfl

/-- '(encore/code.site).place'. -/
def I47 : IFunc :=
  ⟨(.seq (.region [⟨(some 1), (.box (.t 0)), none, []⟩,
      ⟨(some 2), (.mov (.c (.b false))), none, []⟩] [])
    (.seq (.region [⟨(some 3), (.off (.t 1) 2), none, []⟩,
      ⟨(some 4), (.off (.t 3) 1), none, []⟩,
      ⟨(some 5), (.load none (.t 4)), none, []⟩,
      ⟨(some 6), (.bin .geq (.t 5) (.c (.i .i64 (0)))), none, []⟩,
      ⟨(some 7), (.mov (.t 6)), none, []⟩,
      ⟨(some 8), (.off (.t 1) 2), (some (7, true)), []⟩,
      ⟨(some 9), (.off (.t 8) 1), (some (7, true)), []⟩,
      ⟨(some 10), (.load none (.t 9)), (some (7, true)), []⟩,
      ⟨(some 11), (.off (.t 1) 1), (some (7, true)), []⟩,
      ⟨(some 12), (.load none (.t 11)), (some (7, true)), []⟩,
      ⟨(some 13), (.nck (.t 12)), (some (7, true)), []⟩,
      ⟨(some 14), (.off (.t 13) 3), (some (7, true)), []⟩,
      ⟨(some 15), (.load none (.t 14)), (some (7, true)), []⟩,
      ⟨(some 16), (.lenk 0 (.t 15)), (some (7, true)), []⟩,
      ⟨(some 17), (.bin .lss (.t 10) (.t 16)), (some (7, true)), []⟩,
      ⟨(some 18), (.pick (.t 7) (.t 17) (.c (.b false))), none, []⟩,
      ⟨(some 2), (.mov (.t 18)), none, []⟩] [])
    .ret)),
    19, 1, [.t 2], 0⟩
theorem tr47 : trFunc Try.prog [([], []), ([0, 1, 2, 3, 4, 5, 6, 7, 8, 9, 10, 11, 12, 13, 14, 15, 16], [])] 0 Try.f47 = some I47 := by kernel_rfl

/-- '(encore/code.site).fn'. -/
def I48 : IFunc :=
  ⟨(.seq (.region [⟨(some 1), (.box (.t 0)), none, []⟩,
      ⟨(some 2), (.mov (.c (.b false))), none, []⟩] [])
    (.seq (.region [⟨(some 3), (.off (.t 1) 2), none, []⟩,
      ⟨(some 4), (.off (.t 3) 1), none, []⟩,
      ⟨(some 5), (.load none (.t 4)), none, []⟩,
      ⟨(some 6), (.bin .geq (.t 5) (.c (.i .i64 (0)))), none, []⟩,
      ⟨(some 7), (.mov (.t 6)), none, []⟩,
      ⟨(some 8), (.off (.t 1) 2), (some (7, true)), []⟩,
      ⟨(some 9), (.off (.t 8) 1), (some (7, true)), []⟩,
      ⟨(some 10), (.load none (.t 9)), (some (7, true)), []⟩,
      ⟨(some 11), (.off (.t 1) 0), (some (7, true)), []⟩,
      ⟨(some 12), (.load none (.t 11)), (some (7, true)), []⟩,
      ⟨(some 13), (.nck (.t 12)), (some (7, true)), []⟩,
      ⟨(some 14), (.off (.t 13) 0), (some (7, true)), []⟩,
      ⟨(some 15), (.load none (.t 14)), (some (7, true)), []⟩,
      ⟨(some 16), (.lenk 0 (.t 15)), (some (7, true)), []⟩,
      ⟨(some 17), (.bin .lss (.t 10) (.t 16)), (some (7, true)), []⟩,
      ⟨(some 18), (.pick (.t 7) (.t 17) (.c (.b false))), none, []⟩,
      ⟨(some 2), (.mov (.t 18)), none, []⟩] [])
    .ret)),
    19, 1, [.t 2], 0⟩
theorem tr48 : trFunc Try.prog [([], []), ([0, 1, 2, 3, 4, 5, 6, 7, 8, 9, 10, 11, 12, 13, 14, 15, 16], [])] 0 Try.f48 = some I48 := by kernel_rfl

/-- '(encore/code.site).ask'. -/
def I49 : IFunc :=
  ⟨(.seq (.region [⟨(some 1), (.box (.t 0)), none, []⟩,
      ⟨(some 2), (.mov (.c (.b false))), none, []⟩] [])
    (.seq (.seq (.region [⟨(some 7), (.off (.t 1) 2), none, []⟩,
      ⟨(some 8), (.off (.t 7) 1), none, []⟩,
      ⟨(some 9), (.load none (.t 8)), none, []⟩] [])
    (.block 0
      (.seq (.seq (.region [⟨(some 11), (.bin .eql (.t 9) (.c (.i .i64 (1)))), none, []⟩,
        ⟨(some 10), (.mov (.t 11)), none, []⟩] [])
      (.cond (.t 10)
        .skip
        (.region [⟨(some 12), (.bin .eql (.t 9) (.c (.i .i64 (3)))), none, []⟩,
          ⟨(some 10), (.mov (.t 12)), none, []⟩] [])))
      (.cond (.t 10)
        (.seq (.region [⟨(some 13), (.off (.t 1) 0), none, []⟩,
          ⟨(some 14), (.load none (.t 13)), none, []⟩,
          ⟨(some 15), (.off (.t 1) 2), none, []⟩,
          ⟨(some 16), (.off (.t 15) 2), none, []⟩,
          ⟨(some 17), (.load none (.t 16)), none, []⟩,
          ⟨(some 18), (.call 54 [(.t 14), (.t 17)]), none, []⟩,
          ⟨(some 2), (.mov (.t 18)), none, []⟩] [])
        .ret)
        (.seq (.region [⟨(some 20), (.bin .eql (.t 9) (.c (.i .i64 (4)))), none, []⟩,
          ⟨(some 19), (.mov (.t 20)), none, []⟩] [])
        (.cond (.t 19)
          (.seq (.region [⟨(some 22), (.off (.t 1) 0), none, []⟩,
            ⟨(some 23), (.load none (.t 22)), none, []⟩,
            ⟨(some 24), (.off (.t 1) 2), none, []⟩,
            ⟨(some 25), (.off (.t 24) 2), none, []⟩,
            ⟨(some 26), (.load none (.t 25)), none, []⟩,
            ⟨(some 27), (.call 55 [(.t 23), (.t 26)]), none, []⟩,
            ⟨(some 21), (.mov (.t 27)), none, []⟩,
            ⟨(some 28), (.ext (.t 21) 0), none, []⟩,
            ⟨(some 29), (.ext (.t 21) 1), none, []⟩,
            ⟨(some 3), (.mov (.t 28)), none, []⟩,
            ⟨(some 4), (.mov (.t 29)), none, []⟩] [])
          (.seq (.region [⟨(some 31), (.off (.t 1) 0), none, []⟩,
            ⟨(some 32), (.load none (.t 31)), none, []⟩,
            ⟨(some 33), (.nck (.t 32)), none, []⟩,
            ⟨(some 34), (.load (some 2) (.t 33)), none, []⟩,
            ⟨(some 35), (.mov (.t 3)), none, []⟩,
            ⟨(some 36), (.call 57 [(.t 34), (.t 35)]), none, []⟩,
            ⟨(some 30), (.mov (.t 36)), none, []⟩,
            ⟨(some 37), (.ext (.t 30) 0), none, []⟩,
            ⟨(some 38), (.ext (.t 30) 1), none, []⟩,
            ⟨(some 5), (.mov (.t 37)), none, []⟩,
            ⟨(some 6), (.mov (.t 38)), none, []⟩] [])
          (.seq (.region [⟨(some 39), (.mov (.t 4)), none, []⟩,
            ⟨(some 40), (.mov (.t 39)), none, []⟩,
            ⟨(some 41), (.mov (.t 6)), (some (40, true)), []⟩,
            ⟨(some 42), (.pick (.t 40) (.t 41) (.c (.b false))), none, []⟩,
            ⟨(some 43), (.mov (.t 42)), none, []⟩,
            ⟨(some 44), (.off (.t 1) 0), (some (43, true)), []⟩,
            ⟨(some 45), (.load none (.t 44)), (some (43, true)), []⟩,
            ⟨(some 46), (.nck (.t 45)), (some (43, true)), []⟩,
            ⟨(some 47), (.off (.t 46) 0), (some (43, true)), []⟩,
            ⟨(some 48), (.load none (.t 47)), (some (43, true)), []⟩,
            ⟨(some 49), (.mov (.t 5)), (some (43, true)), []⟩,
            ⟨(some 50), (.iaddr 4 (.t 48) (.t 49)), (some (43, true)), []⟩,
            ⟨(some 51), (.off (.t 50) 1), (some (43, true)), []⟩,
            ⟨(some 52), (.load none (.t 51)), (some (43, true)), []⟩,
            ⟨(some 53), (.bin .eql (.t 52) (.c (.i .i64 (1)))), (some (43, true)), []⟩,
            ⟨(some 54), (.pick (.t 43) (.t 53) (.c (.b false))), none, []⟩,
            ⟨(some 2), (.mov (.t 54)), none, []⟩] [])
          .ret)))
          (.seq (.seq (.region [⟨(some 56), (.bin .eql (.t 9) (.c (.i .i64 (2)))), none, []⟩,
            ⟨(some 55), (.mov (.t 56)), none, []⟩] [])
          (.cond (.t 55)
            .skip
            (.seq (.region [⟨(some 57), (.bin .eql (.t 9) (.c (.i .i64 (5)))), none, []⟩,
              ⟨(some 55), (.mov (.t 57)), none, []⟩] [])
            (.cond (.t 55)
              .skip
              (.seq (.region [⟨(some 58), (.bin .eql (.t 9) (.c (.i .i64 (6)))), none, []⟩,
                ⟨(some 55), (.mov (.t 58)), none, []⟩] [])
              (.cond (.t 55)
                .skip
                (.seq (.region [⟨(some 59), (.bin .eql (.t 9) (.c (.i .i64 (7)))), none, []⟩,
                  ⟨(some 55), (.mov (.t 59)), none, []⟩] [])
                (.cond (.t 55)
                  .skip
                  (.region [⟨(some 60), (.bin .eql (.t 9) (.c (.i .i64 (8)))), none, []⟩,
                    ⟨(some 55), (.mov (.t 60)), none, []⟩] [])))))))))
          (.cond (.t 55)
            (.seq (.region [⟨(some 61), (.off (.t 1) 2), none, []⟩,
              ⟨(some 62), (.off (.t 61) 2), none, []⟩,
              ⟨(some 63), (.load none (.t 62)), none, []⟩,
              ⟨(some 64), (.bin .eql (.t 63) (.c (.i .i64 (0)))), none, []⟩,
              ⟨(some 2), (.mov (.t 64)), none, []⟩] [])
            .ret)
            .skip))))))))
    (.seq (.region [⟨(some 2), (.mov (.c (.b false))), none, []⟩] [])
    .ret))),
    65, 1, [.t 2], 0⟩
theorem tr49 : trFunc Try.prog [([], []), ([], []), ([], []), ([], []), ([], []), ([], []), ([], []), ([], []), ([], []), ([], []), ([], []), ([], []), ([], []), ([], []), ([], []), ([], []), ([], []), ([], []), ([], []), ([], []), ([], []), ([], [])] 0 Try.f49 = some I49 := by kernel_rfl

/-- '(encore/code.site).none'. -/
def I50 : IFunc :=
  ⟨(.seq (.region [⟨(some 1), (.box (.t 0)), none, []⟩,
      ⟨(some 2), (.mov (.c (.b false))), none, []⟩] [])
    (.seq (.region [⟨(some 3), (.off (.t 1) 2), none, []⟩,
      ⟨(some 4), (.off (.t 3) 1), none, []⟩,
      ⟨(some 5), (.load none (.t 4)), none, []⟩,
      ⟨(some 6), (.bin .eql (.t 5) (.c (.i .i64 (0)))), none, []⟩,
      ⟨(some 2), (.mov (.t 6)), none, []⟩] [])
    .ret)),
    7, 1, [.t 2], 0⟩
theorem tr50 : trFunc Try.prog [([], []), ([], [])] 0 Try.f50 = some I50 := by kernel_rfl

/-- '(encore/value.plain).bare'. -/
def I51 : IFunc :=
  ⟨(.seq (.region [⟨(some 2), (.box (.t 0)), none, []⟩,
      ⟨(some 3), (.box (.t 1)), none, []⟩,
      ⟨(some 4), (.mov (.c (.b false))), none, []⟩] [])
    (.seq (.region [⟨(some 5), (.off (.t 2) 0), none, []⟩,
      ⟨(some 6), (.load none (.t 5)), none, []⟩,
      ⟨(some 7), (.mov (.t 6)), none, []⟩,
      ⟨(some 8), (.off (.t 3) 2), (some (7, false)), []⟩,
      ⟨(some 9), (.load none (.t 8)), (some (7, false)), []⟩,
      ⟨(some 10), (.bin .eql (.t 9) (.c (.s []))), (some (7, false)), []⟩,
      ⟨(some 11), (.pick (.t 7) (.c (.b true)) (.t 10)), none, []⟩,
      ⟨(some 12), (.mov (.t 11)), none, []⟩,
      ⟨(some 13), (.off (.t 2) 1), (some (12, true)), []⟩,
      ⟨(some 14), (.load none (.t 13)), (some (12, true)), []⟩,
      ⟨(some 15), (.mov (.t 14)), (some (12, true)), []⟩,
      ⟨(some 16), (.off (.t 3) 3), (some (15, false)), []⟩,
      ⟨(some 17), (.load none (.t 16)), (some (15, false)), []⟩,
      ⟨(some 18), (.lenk 0 (.t 17)), (some (15, false)), []⟩,
      ⟨(some 19), (.bin .eql (.t 18) (.c (.i .i64 (0)))), (some (15, false)), []⟩,
      ⟨(some 20), (.pick (.t 15) (.c (.b true)) (.t 19)), (some (12, true)), []⟩,
      ⟨(some 21), (.pick (.t 12) (.t 20) (.c (.b false))), none, []⟩,
      ⟨(some 22), (.mov (.t 21)), none, []⟩,
      ⟨(some 23), (.off (.t 2) 2), (some (22, true)), []⟩,
      ⟨(some 24), (.load none (.t 23)), (some (22, true)), []⟩,
      ⟨(some 25), (.mov (.t 24)), (some (22, true)), []⟩,
      ⟨(some 26), (.off (.t 3) 4), (some (25, false)), []⟩,
      ⟨(some 27), (.load none (.t 26)), (some (25, false)), []⟩,
      ⟨(some 28), (.lenk 0 (.t 27)), (some (25, false)), []⟩,
      ⟨(some 29), (.bin .eql (.t 28) (.c (.i .i64 (0)))), (some (25, false)), []⟩,
      ⟨(some 30), (.pick (.t 25) (.c (.b true)) (.t 29)), (some (22, true)), []⟩,
      ⟨(some 31), (.pick (.t 22) (.t 30) (.c (.b false))), none, []⟩,
      ⟨(some 4), (.mov (.t 31)), none, []⟩] [])
    .ret)),
    32, 2, [.t 4], 0⟩
theorem tr51 : trFunc Try.prog [([], []), ([], [])] 0 Try.f51 = some I51 := by kernel_rfl

/-- 'encore/value.rising'. -/
def L52a : ICode :=
  (.seq (.region [⟨(some 9), (.bin .lss (.t 8) (.t 7)), none, []⟩] [])
    (.seq (.cond (.t 9)
      .skip
      (.exit 0))
    (.seq (.block 1
      (.seq (.region [⟨(some 10), (.iaddr 1 (.t 6) (.t 8)), none, []⟩,
        ⟨(some 11), (.load none (.t 10)), none, []⟩,
        ⟨(some 5), (.mov (.t 11)), none, []⟩] [])
      (.seq (.seq (.region [⟨(some 12), (.mov (.t 5)), none, []⟩,
        ⟨(some 13), (.mov (.t 3)), none, []⟩,
        ⟨(some 14), (.bin .leq (.t 12) (.t 13)), none, []⟩,
        ⟨(some 15), (.mov (.t 14)), none, []⟩,
        ⟨(some 16), (.mov (.t 5)), (some (15, false)), []⟩,
        ⟨(some 17), (.call 58 [(.t 16)]), (some (15, false)), []⟩,
        ⟨(some 18), (.un .not (.t 17)), (some (15, false)), []⟩,
        ⟨(some 19), (.pick (.t 15) (.c (.b true)) (.t 18)), none, []⟩] [])
      (.cond (.t 19)
        (.seq (.region [⟨(some 2), (.mov (.c (.b false))), none, []⟩] [])
        .ret)
        .skip))
      (.region [⟨(some 20), (.mov (.t 5)), none, []⟩,
        ⟨(some 3), (.mov (.t 20)), none, []⟩] []))))
    (.region [⟨(some 21), (.bin .add (.t 8) (.c (.i .i64 (1)))), none, []⟩,
      ⟨(some 8), (.mov (.t 21)), none, []⟩] []))))
def I52 : IFunc :=
  ⟨(.seq (.region [⟨(some 2), (.mov (.c (.b false))), none, []⟩] [])
    (.seq (.region [⟨(some 3), (.mov (.c (.s []))), none, []⟩] [])
    (.seq (.seq (.region [⟨(some 6), (.mov (.t 0)), none, []⟩,
      ⟨(some 7), (.lenk 0 (.t 6)), none, []⟩,
      ⟨(some 8), (.mov (.c (.i .i64 (0)))), none, []⟩] [])
    (.block 0
      (.loop L52a)))
    (.seq (.region [⟨(some 2), (.mov (.c (.b true))), none, []⟩] [])
    .ret)))),
    22, 1, [.t 2], 0⟩
theorem tr52 : trFunc Try.prog [([], []), ([], []), ([], []), ([], []), ([], []), ([], []), ([], []), ([], []), ([], []), ([], []), ([], []), ([], [])] 0 Try.f52 = some I52 := by kernel_rfl

/-- 'encore/code.record'. -/
def L53a : ICode :=
  (.seq (.region [⟨(some 15), (.bin .lss (.t 14) (.t 13)), none, []⟩] [])
    (.seq (.cond (.t 15)
      .skip
      (.exit 0))
    (.seq (.block 1
      (.seq (.region [⟨(some 16), (.iaddr 5 (.t 12) (.t 14)), none, []⟩,
        ⟨(some 17), (.load (some 5) (.t 16)), none, []⟩,
        ⟨(some 5), (.alloc [(.i .i64 (0)), (.i .i64 (0)), (.s []), .ns, .ns]), none, []⟩,
        ⟨none, (.store 5 (.t 5) (.t 17)), none, []⟩] [])
      (.seq (.seq (.region [⟨(some 18), (.off (.t 5) 0), none, []⟩,
        ⟨(some 19), (.load none (.t 18)), none, []⟩,
        ⟨(some 20), (.bin .neq (.t 19) (.c (.i .i64 (3)))), none, []⟩] [])
      (.cond (.t 20)
        (.seq (.region [⟨(some 2), (.mov (.c (.b false))), none, []⟩] [])
        .ret)
        .skip))
      (.region [⟨(some 21), (.off (.t 3) 4), none, []⟩,
        ⟨(some 22), (.load none (.t 21)), none, []⟩,
        ⟨(some 23), (.off (.t 5) 2), none, []⟩,
        ⟨(some 24), (.load none (.t 23)), none, []⟩,
        ⟨(some 25), (.bsl 1 1 [(.s [])] [(0, 1, (.t 24))]), none, []⟩,
        ⟨(some 26), (.app 1 16 (.t 22) (.t 25)), none, []⟩,
        ⟨(some 27), (.off (.t 3) 4), none, []⟩,
        ⟨none, (.store 1 (.t 27) (.t 26)), none, []⟩] []))))
    (.region [⟨(some 28), (.bin .add (.t 14) (.c (.i .i64 (1)))), none, []⟩,
      ⟨(some 14), (.mov (.t 28)), none, []⟩] []))))
def I53 : IFunc :=
  ⟨(.seq (.region [⟨(some 1), (.box (.t 0)), none, []⟩,
      ⟨(some 2), (.mov (.c (.b false))), none, []⟩] [])
    (.seq (.region [⟨(some 6), (.off (.t 1) 3), none, []⟩,
      ⟨(some 7), (.load none (.t 6)), none, []⟩,
      ⟨(some 8), (.lenk 0 (.t 7)), none, []⟩,
      ⟨(some 9), (.mksl 5 80 [(.i .i64 (0)), (.i .i64 (0)), (.s []), .ns, .ns] (.t 8) (.t 8)), none, []⟩,
      ⟨(some 10), (.build [(.i .i64 (0)), (.i .i64 (0)), (.s []), .ns, .ns] [(0, 1, (.c (.i .i64 (5)))), (3, 1, (.t 9))]), none, []⟩,
      ⟨(some 3), (.alloc [(.i .i64 (0)), (.i .i64 (0)), (.s []), .ns, .ns]), none, []⟩,
      ⟨none, (.store 5 (.t 3) (.t 10)), none, []⟩] [])
    (.seq (.seq (.region [⟨(some 11), (.off (.t 1) 3), none, []⟩,
      ⟨(some 12), (.load none (.t 11)), none, []⟩,
      ⟨(some 13), (.lenk 0 (.t 12)), none, []⟩,
      ⟨(some 14), (.mov (.c (.i .i64 (0)))), none, []⟩] [])
    (.block 0
      (.loop L53a)))
    (.seq (.region [⟨(some 29), (.off (.t 1) 0), none, []⟩,
      ⟨(some 30), (.load none (.t 29)), none, []⟩,
      ⟨(some 31), (.bin .eql (.t 30) (.c (.i .i64 (4)))), none, []⟩,
      ⟨(some 32), (.mov (.t 31)), none, []⟩,
      ⟨(some 33), (.off (.t 1) 3), (some (32, true)), []⟩,
      ⟨(some 34), (.load none (.t 33)), (some (32, true)), []⟩,
      ⟨(some 35), (.lenk 0 (.t 34)), (some (32, true)), []⟩,
      ⟨(some 36), (.bin .leq (.t 35) (.c (.i .i64 (8)))), (some (32, true)), []⟩,
      ⟨(some 37), (.pick (.t 32) (.t 36) (.c (.b false))), none, []⟩,
      ⟨(some 38), (.mov (.t 37)), none, []⟩,
      ⟨(some 39), (.load (some 5) (.t 3)), (some (38, true)), []⟩,
      ⟨(some 40), (.call 25 [(.t 39)]), (some (38, true)), []⟩,
      ⟨(some 41), (.bin .eql (.t 40) (.c (.i .i64 (0)))), (some (38, true)), []⟩,
      ⟨(some 42), (.pick (.t 38) (.t 41) (.c (.b false))), none, []⟩,
      ⟨(some 2), (.mov (.t 42)), none, []⟩] [])
    .ret)))),
    43, 1, [.t 2], 0⟩
theorem tr53 : trFunc Try.prog [([], []), ([], []), ([], []), ([], []), ([], []), ([], []), ([], []), ([], []), ([], []), ([], []), ([], []), ([], [])] 0 Try.f53 = some I53 := by kernel_rfl

/-- 'encore/code.named'. -/
def I54 : IFunc :=
  ⟨(.seq (.region [⟨(some 4), (.mov (.c (.b false))), none, []⟩] [])
    (.seq (.region [⟨(some 8), (.mov (.t 0)), none, []⟩,
      ⟨(some 9), (.mov (.t 1)), none, []⟩,
      ⟨(some 10), (.call 55 [(.t 8), (.t 9)]), none, []⟩,
      ⟨(some 7), (.mov (.t 10)), none, []⟩,
      ⟨(some 11), (.ext (.t 7) 0), none, []⟩,
      ⟨(some 12), (.ext (.t 7) 1), none, []⟩,
      ⟨(some 5), (.mov (.t 11)), none, []⟩,
      ⟨(some 6), (.mov (.t 12)), none, []⟩] [])
    (.seq (.region [⟨(some 13), (.mov (.t 6)), none, []⟩,
      ⟨(some 14), (.mov (.t 13)), none, []⟩,
      ⟨(some 15), (.mov (.t 5)), (some (14, true)), []⟩,
      ⟨(some 16), (.call 35 [(.t 15)]), (some (14, true)), []⟩,
      ⟨(some 17), (.pick (.t 14) (.t 16) (.c (.b false))), none, []⟩,
      ⟨(some 4), (.mov (.t 17)), none, []⟩] [])
    .ret))),
    18, 2, [.t 4], 0⟩
theorem tr54 : trFunc Try.prog [([], []), ([], []), ([], [])] 0 Try.f54 = some I54 := by kernel_rfl

/-- 'encore/code.text'. -/
def I55 : IFunc :=
  ⟨(.seq (.region [⟨(some 4), (.mov (.c (.s []))), none, []⟩,
      ⟨(some 5), (.mov (.c (.b false))), none, []⟩] [])
    (.seq (.seq (.region [⟨(some 7), (.mov (.t 1)), none, []⟩,
      ⟨(some 8), (.bin .lss (.t 7) (.c (.i .i64 (0)))), none, []⟩,
      ⟨(some 9), (.mov (.t 8)), none, []⟩,
      ⟨(some 10), (.mov (.t 1)), (some (9, false)), []⟩,
      ⟨(some 11), (.mov (.t 0)), (some (9, false)), []⟩,
      ⟨(some 12), (.nck (.t 11)), (some (9, false)), []⟩,
      ⟨(some 13), (.off (.t 12) 1), (some (9, false)), []⟩,
      ⟨(some 14), (.load none (.t 13)), (some (9, false)), []⟩,
      ⟨(some 15), (.lenk 0 (.t 14)), (some (9, false)), []⟩,
      ⟨(some 16), (.bin .geq (.t 10) (.t 15)), (some (9, false)), []⟩,
      ⟨(some 17), (.pick (.t 9) (.c (.b true)) (.t 16)), none, []⟩] [])
    (.cond (.t 17)
      (.seq (.region [⟨(some 4), (.mov (.c (.s []))), none, []⟩,
        ⟨(some 5), (.mov (.c (.b false))), none, []⟩] [])
      .ret)
      .skip))
    (.seq (.region [⟨(some 18), (.mov (.t 0)), none, []⟩,
      ⟨(some 19), (.nck (.t 18)), none, []⟩,
      ⟨(some 20), (.off (.t 19) 1), none, []⟩,
      ⟨(some 21), (.load none (.t 20)), none, []⟩,
      ⟨(some 22), (.mov (.t 1)), none, []⟩,
      ⟨(some 23), (.iaddr 5 (.t 21) (.t 22)), none, []⟩,
      ⟨(some 24), (.load (some 5) (.t 23)), none, []⟩,
      ⟨(some 6), (.alloc [(.i .i64 (0)), (.i .i64 (0)), (.s []), .ns, .ns]), none, []⟩,
      ⟨none, (.store 5 (.t 6) (.t 24)), none, []⟩] [])
    (.seq (.region [⟨(some 25), (.off (.t 6) 2), none, []⟩,
      ⟨(some 26), (.load none (.t 25)), none, []⟩,
      ⟨(some 27), (.off (.t 6) 0), none, []⟩,
      ⟨(some 28), (.load none (.t 27)), none, []⟩,
      ⟨(some 29), (.bin .eql (.t 28) (.c (.i .i64 (3)))), none, []⟩,
      ⟨(some 4), (.mov (.t 26)), none, []⟩,
      ⟨(some 5), (.mov (.t 29)), none, []⟩] [])
    .ret)))),
    30, 2, [.t 4, .t 5], 0⟩
theorem tr55 : trFunc Try.prog [([], []), ([], []), ([], []), ([], []), ([], []), ([0, 1, 2, 3, 4, 5, 6], [])] 0 Try.f55 = some I55 := by kernel_rfl

/-- 'encore/value.Fits'. -/
def I56 : IFunc :=
  ⟨(.seq (.region [⟨(some 2), (.mov (.c (.b false))), none, []⟩] [])
    (.seq (.region [⟨(some 6), (.mov (.t 0)), none, []⟩,
      ⟨(some 7), (.call 59 [(.t 6)]), none, []⟩,
      ⟨(some 5), (.mov (.t 7)), none, []⟩,
      ⟨(some 8), (.ext (.t 5) 0), none, []⟩,
      ⟨(some 9), (.ext (.t 5) 1), none, []⟩,
      ⟨(some 3), (.alloc [(.i .i64 (0)), .ns, .ns]), none, []⟩,
      ⟨none, (.store 3 (.t 3) (.t 8)), none, []⟩,
      ⟨(some 4), (.mov (.t 9)), none, []⟩] [])
    (.seq (.region [⟨(some 10), (.mov (.t 4)), none, []⟩,
      ⟨(some 2), (.mov (.t 10)), none, []⟩] [])
    .ret))),
    11, 1, [.t 2], 0⟩
theorem tr56 : trFunc Try.prog [([], []), ([], []), ([], [])] 0 Try.f56 = some I56 := by kernel_rfl

/-- 'encore/code.Find'. -/
def I57 : IFunc :=
  ⟨(.seq (.region [⟨(some 2), (.box (.t 0)), none, []⟩,
      ⟨(some 3), (.box (.t 1)), none, []⟩,
      ⟨(some 4), (.mov (.c (.i .i64 (0)))), none, []⟩,
      ⟨(some 5), (.mov (.c (.b false))), none, []⟩] [])
    (.seq (.region [⟨(some 7), (.off (.t 2) 0), none, []⟩,
      ⟨(some 8), (.load none (.t 7)), none, []⟩,
      ⟨(some 9), (.mkf 60 [] [(.t 3)]), none, []⟩,
      ⟨(some 10), (.call 33 [(.t 8), (.t 9)]), none, []⟩,
      ⟨(some 6), (.mov (.t 10)), none, []⟩] [])
    (.seq (.region [⟨(some 11), (.mov (.t 6)), none, []⟩,
      ⟨(some 12), (.mm true (.t 11) [(.c (.i .i64 (0)))]), none, []⟩,
      ⟨(some 13), (.mov (.t 6)), none, []⟩,
      ⟨(some 14), (.bin .geq (.t 13) (.c (.i .i64 (0)))), none, []⟩,
      ⟨(some 4), (.mov (.t 12)), none, []⟩,
      ⟨(some 5), (.mov (.t 14)), none, []⟩] [])
    .ret))),
    15, 2, [.t 4, .t 5], 0⟩
theorem tr57 : trFunc Try.prog [([], []), ([], []), ([], [])] 0 Try.f57 = some I57 := by kernel_rfl

/-- 'encore/value.named'. -/
def L58a : ICode :=
  (.seq (.region [⟨(some 17), (.bin .lss (.t 16) (.t 15)), none, []⟩] [])
    (.seq (.cond (.t 17)
      .skip
      (.exit 0))
    (.seq (.block 1
      (.seq (.region [⟨(some 18), (.mov (.t 16)), none, []⟩,
        ⟨(some 19), (.iaddr 1 (.t 14) (.t 16)), none, []⟩,
        ⟨(some 20), (.load none (.t 19)), none, []⟩,
        ⟨(some 3), (.mov (.t 18)), none, []⟩,
        ⟨(some 4), (.mov (.t 20)), none, []⟩] [])
      (.seq (.region [⟨(some 21), (.mov (.t 4)), none, []⟩,
        ⟨(some 22), (.bin .geq (.t 21) (.c (.i .u8 (97)))), none, []⟩,
        ⟨(some 23), (.mov (.t 22)), none, []⟩,
        ⟨(some 24), (.mov (.t 4)), (some (23, true)), []⟩,
        ⟨(some 25), (.bin .leq (.t 24) (.c (.i .u8 (122)))), (some (23, true)), []⟩,
        ⟨(some 26), (.pick (.t 23) (.t 25) (.c (.b false))), none, []⟩,
        ⟨(some 5), (.mov (.t 26)), none, []⟩] [])
      (.seq (.region [⟨(some 27), (.mov (.t 5)), none, []⟩,
        ⟨(some 28), (.un .not (.t 27)), none, []⟩,
        ⟨(some 29), (.mov (.t 28)), none, []⟩,
        ⟨(some 30), (.mov (.t 3)), (some (29, true)), []⟩,
        ⟨(some 31), (.bin .eql (.t 30) (.c (.i .i64 (0)))), (some (29, true)), []⟩,
        ⟨(some 32), (.mov (.t 31)), (some (29, true)), []⟩,
        ⟨(some 33), (.mov (.t 4)), (some (32, false)), []⟩,
        ⟨(some 34), (.bin .neq (.t 33) (.c (.i .u8 (95)))), (some (32, false)), []⟩,
        ⟨(some 35), (.mov (.t 34)), (some (32, false)), []⟩,
        ⟨(some 36), (.mov (.t 4)), (some (35, true)), []⟩,
        ⟨(some 37), (.bin .lss (.t 36) (.c (.i .u8 (48)))), (some (35, true)), []⟩,
        ⟨(some 38), (.mov (.t 37)), (some (35, true)), []⟩,
        ⟨(some 39), (.mov (.t 4)), (some (38, false)), []⟩,
        ⟨(some 40), (.bin .gtr (.t 39) (.c (.i .u8 (57)))), (some (38, false)), []⟩,
        ⟨(some 41), (.pick (.t 38) (.c (.b true)) (.t 40)), (some (35, true)), []⟩,
        ⟨(some 42), (.pick (.t 35) (.t 41) (.c (.b false))), (some (32, false)), []⟩,
        ⟨(some 43), (.pick (.t 32) (.c (.b true)) (.t 42)), (some (29, true)), []⟩,
        ⟨(some 44), (.pick (.t 29) (.t 43) (.c (.b false))), none, []⟩] [])
      (.cond (.t 44)
        (.seq (.region [⟨(some 2), (.mov (.c (.b false))), none, []⟩] [])
        .ret)
        .skip)))))
    (.region [⟨(some 45), (.bin .add (.t 16) (.c (.i .i64 (1)))), none, []⟩,
      ⟨(some 16), (.mov (.t 45)), none, []⟩] []))))
def I58 : IFunc :=
  ⟨(.seq (.region [⟨(some 2), (.mov (.c (.b false))), none, []⟩] [])
    (.seq (.seq (.region [⟨(some 6), (.mov (.t 0)), none, []⟩,
      ⟨(some 7), (.bin .eql (.t 6) (.c (.s []))), none, []⟩,
      ⟨(some 8), (.mov (.t 7)), none, []⟩,
      ⟨(some 9), (.mov (.t 0)), (some (8, false)), []⟩,
      ⟨(some 10), (.lenk 1 (.t 9)), (some (8, false)), []⟩,
      ⟨(some 11), (.bin .gtr (.t 10) (.c (.i .i64 (16)))), (some (8, false)), []⟩,
      ⟨(some 12), (.pick (.t 8) (.c (.b true)) (.t 11)), none, []⟩] [])
    (.cond (.t 12)
      (.seq (.region [⟨(some 2), (.mov (.c (.b false))), none, []⟩] [])
      .ret)
      .skip))
    (.seq (.seq (.region [⟨(some 13), (.mov (.t 0)), none, []⟩,
      ⟨(some 14), (.s2b (.t 13)), none, []⟩,
      ⟨(some 15), (.lenk 0 (.t 14)), none, []⟩,
      ⟨(some 16), (.mov (.c (.i .i64 (0)))), none, []⟩] [])
    (.block 0
      (.loop L58a)))
    (.seq (.region [⟨(some 2), (.mov (.c (.b true))), none, []⟩] [])
    .ret)))),
    46, 1, [.t 2], 0⟩
theorem tr58 : trFunc Try.prog [([], []), ([], []), ([], []), ([], []), ([], []), ([], []), ([], []), ([], []), ([], []), ([], []), ([], []), ([], []), ([], []), ([], [])] 0 Try.f58 = some I58 := by kernel_rfl

/-- 'encore/value.typed'. -/
def I59 : IFunc :=
  ⟨(.seq (.region [⟨(some 2), (.alloc [(.i .i64 (0)), .ns, .ns]), none, []⟩,
      ⟨(some 3), (.mov (.c (.b false))), none, []⟩] [])
    (.seq (.seq (.region [⟨(some 7), (.mov (.t 0)), none, []⟩,
      ⟨(some 8), (.lenk 1 (.t 7)), none, []⟩,
      ⟨(some 9), (.bin .gtr (.t 8) (.c (.i .i64 (64)))), none, []⟩] [])
    (.cond (.t 9)
      (.seq (.region [⟨(some 10), (.build [(.i .i64 (0)), .ns, .ns] []), none, []⟩,
        ⟨none, (.store 3 (.t 2) (.t 10)), none, []⟩,
        ⟨(some 3), (.mov (.c (.b false))), none, []⟩] [])
      .ret)
      .skip))
    (.seq (.region [⟨(some 12), (.mov (.t 0)), none, []⟩,
      ⟨(some 13), (.call 61 [(.t 12)]), none, []⟩,
      ⟨(some 11), (.mov (.t 13)), none, []⟩,
      ⟨(some 14), (.ext (.t 11) 0), none, []⟩,
      ⟨(some 15), (.ext (.t 11) 1), none, []⟩,
      ⟨(some 16), (.ext (.t 11) 2), none, []⟩,
      ⟨(some 4), (.alloc [(.i .i64 (0)), .ns, .ns]), none, []⟩,
      ⟨none, (.store 3 (.t 4) (.t 14)), none, []⟩,
      ⟨(some 5), (.mov (.t 15)), none, []⟩,
      ⟨(some 6), (.mov (.t 16)), none, []⟩] [])
    (.seq (.region [⟨(some 17), (.load (some 3) (.t 4)), none, []⟩,
      ⟨(some 18), (.mov (.t 6)), none, []⟩,
      ⟨(some 19), (.mov (.t 18)), none, []⟩,
      ⟨(some 20), (.mov (.t 5)), (some (19, true)), []⟩,
      ⟨(some 21), (.bin .eql (.t 20) (.c (.s []))), (some (19, true)), []⟩,
      ⟨(some 22), (.pick (.t 19) (.t 21) (.c (.b false))), none, []⟩,
      ⟨none, (.store 3 (.t 2) (.t 17)), none, []⟩,
      ⟨(some 3), (.mov (.t 22)), none, []⟩] [])
    .ret)))),
    23, 1, [.c 2 (some 3), .t 3], 0⟩
theorem tr59 : trFunc Try.prog [([], []), ([], []), ([], []), ([], []), ([], []), ([], [])] 0 Try.f59 = some I59 := by kernel_rfl

/-- 'encore/code.Find$1'. -/
def I60 : IFunc :=
  ⟨(.seq (.region [⟨(some 2), (.box (.t 0)), none, []⟩,
      ⟨(some 3), (.mov (.c (.b false))), none, []⟩] [])
    (.seq (.region [⟨(some 4), (.off (.t 2) 0), none, []⟩,
      ⟨(some 5), (.load none (.t 4)), none, []⟩,
      ⟨(some 6), (.load none (.t 1)), none, []⟩,
      ⟨(some 7), (.bin .eql (.t 5) (.t 6)), none, []⟩,
      ⟨(some 3), (.mov (.t 7)), none, []⟩] [])
    .ret)),
    8, 2, [.t 3], 0⟩
theorem tr60 : trFunc Try.prog [([], []), ([], [])] 0 Try.f60 = some I60 := by kernel_rfl

/-- 'encore/value.read'. -/
def L61a : ICode :=
  (.seq (.seq (.region [⟨(some 49), (.mov (.t 9)), none, []⟩,
      ⟨(some 50), (.mov (.t 0)), none, []⟩,
      ⟨(some 51), (.lenk 1 (.t 50)), none, []⟩,
      ⟨(some 52), (.bin .lss (.t 49) (.t 51)), none, []⟩,
      ⟨(some 53), (.mov (.t 52)), none, []⟩,
      ⟨(some 54), (.mov (.t 0)), (some (53, true)), []⟩,
      ⟨(some 55), (.mov (.t 9)), (some (53, true)), []⟩,
      ⟨(some 56), (.idxS (.t 54) (.t 55)), (some (53, true)), []⟩,
      ⟨(some 57), (.bin .geq (.t 56) (.c (.i .u8 (97)))), (some (53, true)), []⟩,
      ⟨(some 58), (.pick (.t 53) (.t 57) (.c (.b false))), none, []⟩,
      ⟨(some 59), (.mov (.t 58)), none, []⟩,
      ⟨(some 60), (.mov (.t 0)), (some (59, true)), []⟩,
      ⟨(some 61), (.mov (.t 9)), (some (59, true)), []⟩,
      ⟨(some 62), (.idxS (.t 60) (.t 61)), (some (59, true)), []⟩,
      ⟨(some 63), (.bin .leq (.t 62) (.c (.i .u8 (122)))), (some (59, true)), []⟩,
      ⟨(some 64), (.pick (.t 59) (.t 63) (.c (.b false))), none, []⟩] [])
    (.cond (.t 64)
      .skip
      (.exit 1)))
    (.block 2
      (.region [⟨(some 65), (.mov (.t 9)), none, []⟩,
        ⟨(some 66), (.bin .add (.t 65) (.c (.i .i64 (1)))), none, []⟩,
        ⟨(some 9), (.mov (.t 66)), none, []⟩] [])))
def I61 : IFunc :=
  ⟨(.seq (.region [⟨(some 2), (.alloc [(.i .i64 (0)), .ns, .ns]), none, []⟩,
      ⟨(some 3), (.mov (.c (.s []))), none, []⟩,
      ⟨(some 4), (.mov (.c (.b false))), none, []⟩] [])
    (.seq (.block 0
      (.seq (.region [⟨(some 12), (.mov (.t 0)), none, []⟩,
        ⟨(some 13), (.call 62 [(.t 12), (.c (.s [91]))]), none, []⟩,
        ⟨(some 11), (.mov (.t 13)), none, []⟩] [])
      (.cond (.t 11)
        (.seq (.region [⟨(some 15), (.mov (.t 0)), none, []⟩,
          ⟨(some 16), (.slS (.t 15) (some (.c (.i .i64 (1)))) none), none, []⟩,
          ⟨(some 17), (.call 61 [(.t 16)]), none, []⟩,
          ⟨(some 14), (.mov (.t 17)), none, []⟩,
          ⟨(some 18), (.ext (.t 14) 0), none, []⟩,
          ⟨(some 19), (.ext (.t 14) 1), none, []⟩,
          ⟨(some 20), (.ext (.t 14) 2), none, []⟩,
          ⟨(some 5), (.alloc [(.i .i64 (0)), .ns, .ns]), none, []⟩,
          ⟨none, (.store 3 (.t 5) (.t 18)), none, []⟩,
          ⟨(some 6), (.mov (.t 19)), none, []⟩,
          ⟨(some 7), (.mov (.t 20)), none, []⟩] [])
        (.seq (.region [⟨(some 22), (.mov (.t 6)), none, []⟩,
          ⟨(some 23), (.call 63 [(.t 22), (.c (.s [93]))]), none, []⟩,
          ⟨(some 21), (.mov (.t 23)), none, []⟩,
          ⟨(some 24), (.ext (.t 21) 0), none, []⟩,
          ⟨(some 25), (.ext (.t 21) 1), none, []⟩,
          ⟨(some 6), (.mov (.t 24)), none, []⟩,
          ⟨(some 8), (.mov (.t 25)), none, []⟩] [])
        (.seq (.region [⟨(some 26), (.load (some 3) (.t 5)), none, []⟩,
          ⟨(some 27), (.bsl 3 1 [(.i .i64 (0)), .ns, .ns] [(0, 3, (.t 26))]), none, []⟩,
          ⟨(some 28), (.build [(.i .i64 (0)), .ns, .ns] [(0, 1, (.c (.i .i64 (4)))), (2, 1, (.t 27))]), none, []⟩,
          ⟨(some 29), (.mov (.t 6)), none, []⟩,
          ⟨(some 30), (.mov (.t 7)), none, []⟩,
          ⟨(some 31), (.mov (.t 30)), none, []⟩,
          ⟨(some 32), (.mov (.t 8)), (some (31, true)), []⟩,
          ⟨(some 33), (.pick (.t 31) (.t 32) (.c (.b false))), none, []⟩,
          ⟨none, (.store 3 (.t 2) (.t 28)), none, []⟩,
          ⟨(some 3), (.mov (.t 29)), none, []⟩,
          ⟨(some 4), (.mov (.t 33)), none, []⟩] [])
        .ret)))
        (.seq (.region [⟨(some 35), (.mov (.t 0)), none, []⟩,
          ⟨(some 36), (.call 62 [(.t 35), (.c (.s [123, 125]))]), none, []⟩,
          ⟨(some 34), (.mov (.t 36)), none, []⟩] [])
        (.cond (.t 34)
          (.seq (.region [⟨(some 37), (.build [(.i .i64 (0)), .ns, .ns] [(0, 1, (.c (.i .i64 (5))))]), none, []⟩,
            ⟨(some 38), (.mov (.t 0)), none, []⟩,
            ⟨(some 39), (.slS (.t 38) (some (.c (.i .i64 (2)))) none), none, []⟩,
            ⟨none, (.store 3 (.t 2) (.t 37)), none, []⟩,
            ⟨(some 3), (.mov (.t 39)), none, []⟩,
            ⟨(some 4), (.mov (.c (.b true))), none, []⟩] [])
          .ret)
          (.seq (.region [⟨(some 41), (.mov (.t 0)), none, []⟩,
            ⟨(some 42), (.call 62 [(.t 41), (.c (.s [123]))]), none, []⟩,
            ⟨(some 40), (.mov (.t 42)), none, []⟩] [])
          (.cond (.t 40)
            (.seq (.region [⟨(some 43), (.mov (.t 0)), none, []⟩,
              ⟨(some 44), (.slS (.t 43) (some (.c (.i .i64 (1)))) none), none, []⟩,
              ⟨(some 45), (.call 64 [(.t 44)]), none, []⟩,
              ⟨(some 46), (.ext (.t 45) 0), none, []⟩,
              ⟨(some 47), (.ext (.t 45) 1), none, []⟩,
              ⟨(some 48), (.ext (.t 45) 2), none, []⟩,
              ⟨none, (.store 3 (.t 2) (.t 46)), none, []⟩,
              ⟨(some 3), (.mov (.t 47)), none, []⟩,
              ⟨(some 4), (.mov (.t 48)), none, []⟩] [])
            .ret)
            .skip)))))))
    (.seq (.region [⟨(some 9), (.mov (.c (.i .i64 (0)))), none, []⟩] [])
    (.seq (.block 1
      (.loop L61a))
    (.seq (.region [⟨(some 67), (.mov (.t 0)), none, []⟩,
      ⟨(some 68), (.mov (.t 9)), none, []⟩,
      ⟨(some 69), (.slS (.t 67) none (some (.t 68))), none, []⟩,
      ⟨(some 70), (.call 65 [(.t 69)]), none, []⟩,
      ⟨(some 10), (.mov (.t 70)), none, []⟩] [])
    (.seq (.region [⟨(some 71), (.mov (.t 10)), none, []⟩,
      ⟨(some 72), (.build [(.i .i64 (0)), .ns, .ns] [(0, 1, (.t 71))]), none, []⟩,
      ⟨(some 73), (.mov (.t 0)), none, []⟩,
      ⟨(some 74), (.mov (.t 9)), none, []⟩,
      ⟨(some 75), (.slS (.t 73) (some (.t 74)) none), none, []⟩,
      ⟨(some 76), (.mov (.t 10)), none, []⟩,
      ⟨(some 77), (.bin .geq (.t 76) (.c (.i .i64 (0)))), none, []⟩,
      ⟨none, (.store 3 (.t 2) (.t 72)), none, []⟩,
      ⟨(some 3), (.mov (.t 75)), none, []⟩,
      ⟨(some 4), (.mov (.t 77)), none, []⟩] [])
    .ret)))))),
    78, 1, [.c 2 (some 3), .t 3, .t 4], 0⟩
theorem tr61 : trFunc Try.prog [([], []), ([], []), ([], []), ([], []), ([], []), ([], []), ([0, 1, 2, 3, 4, 5], []), ([], []), ([], []), ([], []), ([], []), ([], []), ([], []), ([], []), ([], []), ([0, 1, 2, 3, 4, 5, 6, 7, 8, 9], [])] 0 Try.f61 = some I61 := by kernel_rfl

/-- 'strings.HasPrefix'. -/
def I62 : IFunc :=
  ⟨(.seq (.region [⟨(some 4), (.mov (.c (.b false))), none, []⟩] [])
    (.seq (.region [⟨(some 5), (.mov (.t 0)), none, []⟩,
      ⟨(some 6), (.mov (.t 1)), none, []⟩,
      ⟨(some 7), (.call 66 [(.t 5), (.t 6)]), none, []⟩,
      ⟨(some 4), (.mov (.t 7)), none, []⟩] [])
    .ret)),
    8, 2, [.t 4], 0⟩
theorem tr62 : trFunc Try.prog [([], []), ([], [])] 0 Try.f62 = some I62 := by kernel_rfl

/-- 'strings.CutPrefix'. -/
def I63 : IFunc :=
  ⟨(.seq (.region [⟨(some 4), (.mov (.c (.s []))), none, []⟩,
      ⟨(some 5), (.mov (.c (.b false))), none, []⟩] [])
    (.seq (.region [⟨(some 6), (.mov (.t 0)), none, []⟩,
      ⟨(some 7), (.mov (.t 1)), none, []⟩,
      ⟨(some 8), (.call 67 [(.t 6), (.t 7)]), none, []⟩,
      ⟨(some 9), (.ext (.t 8) 0), none, []⟩,
      ⟨(some 10), (.ext (.t 8) 1), none, []⟩,
      ⟨(some 4), (.mov (.t 9)), none, []⟩,
      ⟨(some 5), (.mov (.t 10)), none, []⟩] [])
    .ret)),
    11, 2, [.t 4, .t 5], 0⟩
theorem tr63 : trFunc Try.prog [([], []), ([], [])] 0 Try.f63 = some I63 := by kernel_rfl

/-- 'encore/value.readRec'. -/
def L64a : ICode :=
  (.block 1
      (.seq (.region [⟨(some 13), (.mov (.t 0)), none, []⟩,
        ⟨(some 14), (.call 68 [(.t 13), (.c (.s [58]))]), none, []⟩,
        ⟨(some 12), (.mov (.t 14)), none, []⟩,
        ⟨(some 15), (.ext (.t 12) 0), none, []⟩,
        ⟨(some 16), (.ext (.t 12) 1), none, []⟩,
        ⟨(some 17), (.ext (.t 12) 2), none, []⟩,
        ⟨(some 5), (.mov (.t 15)), none, []⟩,
        ⟨(some 6), (.mov (.t 16)), none, []⟩,
        ⟨(some 7), (.mov (.t 17)), none, []⟩] [])
      (.seq (.region [⟨(some 19), (.mov (.t 6)), none, []⟩,
        ⟨(some 20), (.call 61 [(.t 19)]), none, []⟩,
        ⟨(some 18), (.mov (.t 20)), none, []⟩,
        ⟨(some 21), (.ext (.t 18) 0), none, []⟩,
        ⟨(some 22), (.ext (.t 18) 1), none, []⟩,
        ⟨(some 23), (.ext (.t 18) 2), none, []⟩,
        ⟨(some 8), (.alloc [(.i .i64 (0)), .ns, .ns]), none, []⟩,
        ⟨none, (.store 3 (.t 8) (.t 21)), none, []⟩,
        ⟨(some 9), (.mov (.t 22)), none, []⟩,
        ⟨(some 10), (.mov (.t 23)), none, []⟩] [])
      (.seq (.seq (.region [⟨(some 24), (.mov (.t 7)), none, []⟩,
        ⟨(some 25), (.un .not (.t 24)), none, []⟩,
        ⟨(some 26), (.mov (.t 25)), none, []⟩,
        ⟨(some 27), (.mov (.t 10)), (some (26, false)), []⟩,
        ⟨(some 28), (.un .not (.t 27)), (some (26, false)), []⟩,
        ⟨(some 29), (.pick (.t 26) (.c (.b true)) (.t 28)), none, []⟩,
        ⟨(some 30), (.mov (.t 29)), none, []⟩,
        ⟨(some 31), (.mov (.t 9)), (some (30, false)), []⟩,
        ⟨(some 32), (.bin .eql (.t 31) (.c (.s []))), (some (30, false)), []⟩,
        ⟨(some 33), (.pick (.t 30) (.c (.b true)) (.t 32)), none, []⟩] [])
      (.cond (.t 33)
        (.seq (.region [⟨(some 34), (.build [(.i .i64 (0)), .ns, .ns] []), none, []⟩,
          ⟨none, (.store 3 (.t 2) (.t 34)), none, []⟩,
          ⟨(some 3), (.mov (.c (.s []))), none, []⟩,
          ⟨(some 4), (.mov (.c (.b false))), none, []⟩] [])
        .ret)
        .skip))
      (.seq (.region [⟨(some 35), (.off (.t 2) 1), none, []⟩,
        ⟨(some 36), (.load none (.t 35)), none, []⟩,
        ⟨(some 37), (.mov (.t 5)), none, []⟩,
        ⟨(some 38), (.bsl 1 1 [(.s [])] [(0, 1, (.t 37))]), none, []⟩,
        ⟨(some 40), (.off (.t 2) 2), none, []⟩,
        ⟨(some 41), (.load none (.t 40)), none, []⟩,
        ⟨(some 42), (.load (some 3) (.t 8)), none, []⟩,
        ⟨(some 43), (.bsl 3 1 [(.i .i64 (0)), .ns, .ns] [(0, 3, (.t 42))]), none, []⟩,
        ⟨(some 39), (.app 1 16 (.t 36) (.t 38)), none, [(41, (.load none (.t 40)), none), (42, (.load (some 3) (.t 8)), none)]⟩,
        ⟨(some 45), (.off (.t 2) 1), none, []⟩,
        ⟨(some 44), (.app 3 56 (.t 41) (.t 43)), none, []⟩,
        ⟨none, (.store 1 (.t 45) (.t 39)), none, []⟩,
        ⟨(some 46), (.off (.t 2) 2), none, []⟩,
        ⟨none, (.store 1 (.t 46) (.t 44)), none, []⟩] [])
      (.seq (.region [⟨(some 47), (.mov (.t 9)), none, []⟩,
        ⟨(some 48), (.slS (.t 47) (some (.c (.i .i64 (1)))) none), none, []⟩,
        ⟨(some 0), (.mov (.t 48)), none, []⟩] [])
      (.seq (.seq (.region [⟨(some 49), (.mov (.t 9)), none, []⟩,
        ⟨(some 50), (.idxS (.t 49) (.c (.i .i64 (0)))), none, []⟩] [])
      (.block 2
        (.seq (.region [⟨(some 52), (.bin .eql (.t 50) (.c (.i .u8 (125)))), none, []⟩,
          ⟨(some 51), (.mov (.t 52)), none, []⟩] [])
        (.cond (.t 51)
          (.seq (.region [⟨(some 53), (.load (some 3) (.t 2)), none, []⟩,
            ⟨(some 54), (.mov (.t 0)), none, []⟩,
            ⟨(some 55), (.off (.t 2) 1), none, []⟩,
            ⟨(some 56), (.load none (.t 55)), none, []⟩,
            ⟨(some 57), (.call 52 [(.t 56)]), none, [(53, (.load (some 3) (.t 2)), none)]⟩,
            ⟨none, (.store 3 (.t 2) (.t 53)), none, []⟩,
            ⟨(some 3), (.mov (.t 54)), none, []⟩,
            ⟨(some 4), (.mov (.t 57)), none, []⟩] [])
          .ret)
          (.seq (.region [⟨(some 59), (.bin .eql (.t 50) (.c (.i .u8 (44)))), none, []⟩,
            ⟨(some 58), (.mov (.t 59)), none, []⟩] [])
          (.cond (.t 58)
            (.exit 1)
            .skip))))))
      (.seq (.region [⟨(some 60), (.build [(.i .i64 (0)), .ns, .ns] []), none, []⟩,
        ⟨none, (.store 3 (.t 2) (.t 60)), none, []⟩,
        ⟨(some 3), (.mov (.c (.s []))), none, []⟩,
        ⟨(some 4), (.mov (.c (.b false))), none, []⟩] [])
      .ret))))))))
def I64 : IFunc :=
  ⟨(.seq (.region [⟨(some 2), (.alloc [(.i .i64 (0)), .ns, .ns]), none, []⟩,
      ⟨(some 3), (.mov (.c (.s []))), none, []⟩,
      ⟨(some 4), (.mov (.c (.b false))), none, []⟩] [])
    (.seq (.region [⟨(some 11), (.off (.t 2) 0), none, []⟩,
      ⟨none, (.store 1 (.t 11) (.c (.i .i64 (5)))), none, []⟩] [])
    (.block 0
      (.loop L64a)))),
    61, 1, [.c 2 (some 3), .t 3, .t 4], 0⟩
theorem tr64 : trFunc Try.prog [([], []), ([], []), ([], []), ([], []), ([], []), ([], []), ([], []), ([0, 1, 2, 3, 5, 6, 7, 8, 4, 10, 9, 11, 12, 13], []), ([], []), ([], []), ([], []), ([0, 1, 2, 3, 4, 5, 6, 7], []), ([], []), ([], []), ([], [])] 0 Try.f64 = some I64 := by kernel_rfl

/-- 'encore/value.kindOf'. -/
def I65 : IFunc :=
  ⟨(.seq (.region [⟨(some 2), (.mov (.c (.i .i64 (0)))), none, []⟩] [])
    (.seq (.seq (.region [⟨(some 3), (.mov (.t 0)), none, []⟩] [])
    (.block 0
      (.seq (.region [⟨(some 5), (.bin .eql (.t 3) (.c (.s [110, 111, 110, 101]))), none, []⟩,
        ⟨(some 4), (.mov (.t 5)), none, []⟩] [])
      (.cond (.t 4)
        (.seq (.region [⟨(some 2), (.mov (.c (.i .i64 (0)))), none, []⟩] [])
        .ret)
        (.seq (.region [⟨(some 7), (.bin .eql (.t 3) (.c (.s [105, 110, 116]))), none, []⟩,
          ⟨(some 6), (.mov (.t 7)), none, []⟩] [])
        (.cond (.t 6)
          (.seq (.region [⟨(some 2), (.mov (.c (.i .i64 (1)))), none, []⟩] [])
          .ret)
          (.seq (.region [⟨(some 9), (.bin .eql (.t 3) (.c (.s [98, 111, 111, 108]))), none, []⟩,
            ⟨(some 8), (.mov (.t 9)), none, []⟩] [])
          (.cond (.t 8)
            (.seq (.region [⟨(some 2), (.mov (.c (.i .i64 (2)))), none, []⟩] [])
            .ret)
            (.seq (.region [⟨(some 11), (.bin .eql (.t 3) (.c (.s [116, 101, 120, 116]))), none, []⟩,
              ⟨(some 10), (.mov (.t 11)), none, []⟩] [])
            (.cond (.t 10)
              (.seq (.region [⟨(some 2), (.mov (.c (.i .i64 (3)))), none, []⟩] [])
              .ret)
              (.seq (.region [⟨(some 13), (.bin .eql (.t 3) (.c (.s [102, 117, 116, 117, 114, 101]))), none, []⟩,
                ⟨(some 12), (.mov (.t 13)), none, []⟩] [])
              (.cond (.t 12)
                (.seq (.region [⟨(some 2), (.mov (.c (.i .i64 (6)))), none, []⟩] [])
                .ret)
                .skip))))))))))))
    (.seq (.region [⟨(some 2), (.mov (.c (.i .i64 (-1)))), none, []⟩] [])
    .ret))),
    14, 1, [.t 2], 0⟩
theorem tr65 : trFunc Try.prog [([], []), ([], []), ([], []), ([], []), ([], []), ([], []), ([], []), ([], []), ([], []), ([], []), ([], []), ([], []), ([], []), ([], [])] 0 Try.f65 = some I65 := by kernel_rfl

/-- 'internal/stringslite.HasPrefix'. -/
def I66 : IFunc :=
  ⟨(.seq (.region [⟨(some 4), (.mov (.c (.b false))), none, []⟩] [])
    (.seq (.region [⟨(some 5), (.mov (.t 0)), none, []⟩,
      ⟨(some 6), (.lenk 1 (.t 5)), none, []⟩,
      ⟨(some 7), (.mov (.t 1)), none, []⟩,
      ⟨(some 8), (.lenk 1 (.t 7)), none, []⟩,
      ⟨(some 9), (.bin .geq (.t 6) (.t 8)), none, []⟩,
      ⟨(some 10), (.mov (.t 9)), none, []⟩,
      ⟨(some 11), (.mov (.t 0)), (some (10, true)), []⟩,
      ⟨(some 12), (.mov (.t 1)), (some (10, true)), []⟩,
      ⟨(some 13), (.lenk 1 (.t 12)), (some (10, true)), []⟩,
      ⟨(some 14), (.slS (.t 11) none (some (.t 13))), (some (10, true)), []⟩,
      ⟨(some 15), (.mov (.t 1)), (some (10, true)), []⟩,
      ⟨(some 16), (.bin .eql (.t 14) (.t 15)), (some (10, true)), []⟩,
      ⟨(some 17), (.pick (.t 10) (.t 16) (.c (.b false))), none, []⟩,
      ⟨(some 4), (.mov (.t 17)), none, []⟩] [])
    .ret)),
    18, 2, [.t 4], 0⟩
theorem tr66 : trFunc Try.prog [([], []), ([], [])] 0 Try.f66 = some I66 := by kernel_rfl

/-- 'internal/stringslite.CutPrefix'. -/
def I67 : IFunc :=
  ⟨(.seq (.region [⟨(some 4), (.mov (.c (.s []))), none, []⟩,
      ⟨(some 5), (.mov (.c (.b false))), none, []⟩] [])
    (.seq (.seq (.region [⟨(some 6), (.mov (.t 0)), none, []⟩,
      ⟨(some 7), (.mov (.t 1)), none, []⟩,
      ⟨(some 8), (.call 66 [(.t 6), (.t 7)]), none, []⟩,
      ⟨(some 9), (.un .not (.t 8)), none, []⟩] [])
    (.cond (.t 9)
      (.seq (.region [⟨(some 10), (.mov (.t 0)), none, []⟩,
        ⟨(some 4), (.mov (.t 10)), none, []⟩,
        ⟨(some 5), (.mov (.c (.b false))), none, []⟩] [])
      .ret)
      .skip))
    (.seq (.region [⟨(some 11), (.mov (.t 0)), none, []⟩,
      ⟨(some 12), (.mov (.t 1)), none, []⟩,
      ⟨(some 13), (.lenk 1 (.t 12)), none, []⟩,
      ⟨(some 14), (.slS (.t 11) (some (.t 13)) none), none, []⟩,
      ⟨(some 4), (.mov (.t 14)), none, []⟩,
      ⟨(some 5), (.mov (.c (.b true))), none, []⟩] [])
    .ret))),
    15, 2, [.t 4, .t 5], 0⟩
theorem tr67 : trFunc Try.prog [([], []), ([], []), ([], []), ([], []), ([], [])] 0 Try.f67 = some I67 := by kernel_rfl

/-- 'strings.Cut'. -/
def I68 : IFunc :=
  ⟨(.seq (.region [⟨(some 4), (.mov (.c (.s []))), none, []⟩,
      ⟨(some 5), (.mov (.c (.s []))), none, []⟩,
      ⟨(some 6), (.mov (.c (.b false))), none, []⟩] [])
    (.seq (.region [⟨(some 7), (.mov (.t 0)), none, []⟩,
      ⟨(some 8), (.mov (.t 1)), none, []⟩,
      ⟨(some 9), (.call 69 [(.t 7), (.t 8)]), none, []⟩,
      ⟨(some 10), (.ext (.t 9) 0), none, []⟩,
      ⟨(some 11), (.ext (.t 9) 1), none, []⟩,
      ⟨(some 12), (.ext (.t 9) 2), none, []⟩,
      ⟨(some 4), (.mov (.t 10)), none, []⟩,
      ⟨(some 5), (.mov (.t 11)), none, []⟩,
      ⟨(some 6), (.mov (.t 12)), none, []⟩] [])
    .ret)),
    13, 2, [.t 4, .t 5, .t 6], 0⟩
theorem tr68 : trFunc Try.prog [([], []), ([], [])] 0 Try.f68 = some I68 := by kernel_rfl

/-- 'internal/stringslite.Cut'. -/
def I69 : IFunc :=
  ⟨(.seq (.region [⟨(some 4), (.mov (.c (.s []))), none, []⟩,
      ⟨(some 5), (.mov (.c (.s []))), none, []⟩,
      ⟨(some 6), (.mov (.c (.b false))), none, []⟩] [])
    (.seq (.seq (.region [⟨(some 8), (.mov (.t 0)), none, []⟩,
      ⟨(some 9), (.mov (.t 1)), none, []⟩,
      ⟨(some 10), (.call 70 [(.t 8), (.t 9)]), none, []⟩,
      ⟨(some 7), (.mov (.t 10)), none, []⟩] [])
    (.seq (.region [⟨(some 11), (.mov (.t 7)), none, []⟩,
      ⟨(some 12), (.bin .geq (.t 11) (.c (.i .i64 (0)))), none, []⟩] [])
    (.cond (.t 12)
      (.seq (.region [⟨(some 13), (.mov (.t 0)), none, []⟩,
        ⟨(some 14), (.mov (.t 7)), none, []⟩,
        ⟨(some 15), (.slS (.t 13) none (some (.t 14))), none, []⟩,
        ⟨(some 16), (.mov (.t 0)), none, []⟩,
        ⟨(some 17), (.mov (.t 7)), none, []⟩,
        ⟨(some 18), (.mov (.t 1)), none, []⟩,
        ⟨(some 19), (.lenk 1 (.t 18)), none, []⟩,
        ⟨(some 20), (.bin .add (.t 17) (.t 19)), none, []⟩,
        ⟨(some 21), (.slS (.t 16) (some (.t 20)) none), none, []⟩,
        ⟨(some 4), (.mov (.t 15)), none, []⟩,
        ⟨(some 5), (.mov (.t 21)), none, []⟩,
        ⟨(some 6), (.mov (.c (.b true))), none, []⟩] [])
      .ret)
      .skip)))
    (.seq (.region [⟨(some 22), (.mov (.t 0)), none, []⟩,
      ⟨(some 4), (.mov (.t 22)), none, []⟩,
      ⟨(some 5), (.mov (.c (.s []))), none, []⟩,
      ⟨(some 6), (.mov (.c (.b false))), none, []⟩] [])
    .ret))),
    23, 2, [.t 4, .t 5, .t 6], 0⟩
theorem tr69 : trFunc Try.prog [([], []), ([], []), ([], []), ([0, 1, 2, 3, 4, 5, 6, 7, 8, 9, 10, 11], []), ([], []), ([], [])] 0 Try.f69 = some I69 := by kernel_rfl

/-- 'internal/stringslite.Index'. -/
def L70a : ICode :=
  (.seq (.seq (.region [⟨(some 57), (.mov (.t 8)), none, []⟩,
      ⟨(some 58), (.mov (.t 9)), none, []⟩,
      ⟨(some 59), (.bin .lss (.t 57) (.t 58)), none, []⟩] [])
    (.cond (.t 59)
      .skip
      (.exit 1)))
    (.block 2
      (.seq (.seq (.region [⟨(some 60), (.mov (.t 0)), none, []⟩,
        ⟨(some 61), (.mov (.t 8)), none, []⟩,
        ⟨(some 62), (.idxS (.t 60) (.t 61)), none, []⟩,
        ⟨(some 63), (.mov (.t 6)), none, []⟩,
        ⟨(some 64), (.bin .neq (.t 62) (.t 63)), none, []⟩] [])
      (.cond (.t 64)
        (.seq (.region [⟨(some 65), (.mov (.t 0)), none, []⟩,
          ⟨(some 66), (.mov (.t 8)), none, []⟩,
          ⟨(some 67), (.bin .add (.t 66) (.c (.i .i64 (1)))), none, []⟩,
          ⟨(some 68), (.mov (.t 9)), none, []⟩,
          ⟨(some 69), (.slS (.t 65) (some (.t 67)) (some (.t 68))), none, []⟩,
          ⟨(some 70), (.mov (.t 6)), none, []⟩,
          ⟨(some 71), (.call 71 [(.t 69), (.t 70)]), none, []⟩,
          ⟨(some 11), (.mov (.t 71)), none, []⟩] [])
        (.seq (.seq (.region [⟨(some 72), (.mov (.t 11)), none, []⟩,
          ⟨(some 73), (.bin .lss (.t 72) (.c (.i .i64 (0)))), none, []⟩] [])
        (.cond (.t 73)
          (.seq (.region [⟨(some 4), (.mov (.c (.i .i64 (-1)))), none, []⟩] [])
          .ret)
          .skip))
        (.region [⟨(some 74), (.mov (.t 8)), none, []⟩,
          ⟨(some 75), (.mov (.t 11)), none, []⟩,
          ⟨(some 76), (.bin .add (.t 75) (.c (.i .i64 (1)))), none, []⟩,
          ⟨(some 77), (.bin .add (.t 74) (.t 76)), none, []⟩,
          ⟨(some 8), (.mov (.t 77)), none, []⟩] [])))
        .skip))
      (.seq (.seq (.region [⟨(some 78), (.mov (.t 0)), none, []⟩,
        ⟨(some 79), (.mov (.t 8)), none, []⟩,
        ⟨(some 80), (.bin .add (.t 79) (.c (.i .i64 (1)))), none, []⟩,
        ⟨(some 81), (.idxS (.t 78) (.t 80)), none, []⟩,
        ⟨(some 82), (.mov (.t 7)), none, []⟩,
        ⟨(some 83), (.bin .eql (.t 81) (.t 82)), none, []⟩,
        ⟨(some 84), (.mov (.t 83)), none, []⟩,
        ⟨(some 85), (.mov (.t 0)), (some (84, true)), []⟩,
        ⟨(some 86), (.mov (.t 8)), (some (84, true)), []⟩,
        ⟨(some 87), (.mov (.t 8)), (some (84, true)), []⟩,
        ⟨(some 88), (.mov (.t 5)), (some (84, true)), []⟩,
        ⟨(some 89), (.bin .add (.t 87) (.t 88)), (some (84, true)), []⟩,
        ⟨(some 90), (.slS (.t 85) (some (.t 86)) (some (.t 89))), (some (84, true)), []⟩,
        ⟨(some 91), (.mov (.t 1)), (some (84, true)), []⟩,
        ⟨(some 92), (.bin .eql (.t 90) (.t 91)), (some (84, true)), []⟩,
        ⟨(some 93), (.pick (.t 84) (.t 92) (.c (.b false))), none, []⟩] [])
      (.cond (.t 93)
        (.seq (.region [⟨(some 94), (.mov (.t 8)), none, []⟩,
          ⟨(some 4), (.mov (.t 94)), none, []⟩] [])
        .ret)
        .skip))
      (.seq (.region [⟨(some 95), (.mov (.t 8)), none, []⟩,
        ⟨(some 96), (.bin .add (.t 95) (.c (.i .i64 (1)))), none, []⟩,
        ⟨(some 8), (.mov (.t 96)), none, []⟩] [])
      (.seq (.region [⟨(some 97), (.mov (.t 10)), none, []⟩,
        ⟨(some 98), (.bin .add (.t 97) (.c (.i .i64 (1)))), none, []⟩,
        ⟨(some 10), (.mov (.t 98)), none, []⟩] [])
      (.seq (.region [⟨(some 99), (.mov (.t 5)), none, []⟩,
        ⟨(some 100), (.load none (.g 0)), none, []⟩,
        ⟨(some 101), (.bin .leq (.t 99) (.t 100)), none, []⟩,
        ⟨(some 102), (.mov (.t 101)), none, []⟩,
        ⟨(some 103), (.mov (.t 10)), (some (102, true)), []⟩,
        ⟨(some 104), (.mov (.t 8)), (some (102, true)), []⟩,
        ⟨(some 105), (.call 73 [(.t 104)]), (some (102, true)), []⟩,
        ⟨(some 106), (.bin .gtr (.t 103) (.t 105)), (some (102, true)), []⟩,
        ⟨(some 107), (.pick (.t 102) (.t 106) (.c (.b false))), none, []⟩] [])
      (.cond (.t 107)
        (.seq (.region [⟨(some 108), (.mov (.t 0)), none, []⟩,
          ⟨(some 109), (.mov (.t 8)), none, []⟩,
          ⟨(some 110), (.slS (.t 108) (some (.t 109)) none), none, []⟩,
          ⟨(some 111), (.mov (.t 1)), none, []⟩,
          ⟨(some 112), (.call 72 [(.t 110), (.t 111)]), none, []⟩,
          ⟨(some 12), (.mov (.t 112)), none, []⟩] [])
        (.seq (.seq (.region [⟨(some 113), (.mov (.t 12)), none, []⟩,
          ⟨(some 114), (.bin .geq (.t 113) (.c (.i .i64 (0)))), none, []⟩] [])
        (.cond (.t 114)
          (.seq (.region [⟨(some 115), (.mov (.t 12)), none, []⟩,
            ⟨(some 116), (.mov (.t 8)), none, []⟩,
            ⟨(some 117), (.bin .add (.t 115) (.t 116)), none, []⟩,
            ⟨(some 4), (.mov (.t 117)), none, []⟩] [])
          .ret)
          .skip))
        (.seq (.region [⟨(some 4), (.mov (.c (.i .i64 (-1)))), none, []⟩] [])
        .ret)))
        (.seq (.region [⟨(some 118), (.mov (.t 5)), none, []⟩,
          ⟨(some 119), (.load none (.g 0)), none, []⟩,
          ⟨(some 120), (.bin .gtr (.t 118) (.t 119)), none, []⟩,
          ⟨(some 121), (.mov (.t 120)), none, []⟩,
          ⟨(some 122), (.mov (.t 10)), (some (121, true)), []⟩,
          ⟨(some 123), (.mov (.t 8)), (some (121, true)), []⟩,
          ⟨(some 124), (.bin .shr (.t 123) (.c (.i .u64 (4)))), (some (121, true)), []⟩,
          ⟨(some 125), (.bin .add (.c (.i .i64 (4))) (.t 124)), (some (121, true)), []⟩,
          ⟨(some 126), (.bin .geq (.t 122) (.t 125)), (some (121, true)), []⟩,
          ⟨(some 127), (.pick (.t 121) (.t 126) (.c (.b false))), none, []⟩,
          ⟨(some 128), (.mov (.t 127)), none, []⟩,
          ⟨(some 129), (.mov (.t 8)), (some (128, true)), []⟩,
          ⟨(some 130), (.mov (.t 9)), (some (128, true)), []⟩,
          ⟨(some 131), (.bin .lss (.t 129) (.t 130)), (some (128, true)), []⟩,
          ⟨(some 132), (.pick (.t 128) (.t 131) (.c (.b false))), none, []⟩] [])
        (.cond (.t 132)
          (.seq (.region [⟨(some 133), (.mov (.t 0)), none, []⟩,
            ⟨(some 134), (.mov (.t 8)), none, []⟩,
            ⟨(some 135), (.slS (.t 133) (some (.t 134)) none), none, []⟩,
            ⟨(some 136), (.mov (.t 1)), none, []⟩,
            ⟨(some 137), (.call 74 [(.t 135), (.t 136)]), none, []⟩,
            ⟨(some 13), (.mov (.t 137)), none, []⟩] [])
          (.seq (.seq (.region [⟨(some 138), (.mov (.t 13)), none, []⟩,
            ⟨(some 139), (.bin .lss (.t 138) (.c (.i .i64 (0)))), none, []⟩] [])
          (.cond (.t 139)
            (.seq (.region [⟨(some 4), (.mov (.c (.i .i64 (-1)))), none, []⟩] [])
            .ret)
            .skip))
          (.seq (.region [⟨(some 140), (.mov (.t 8)), none, []⟩,
            ⟨(some 141), (.mov (.t 13)), none, []⟩,
            ⟨(some 142), (.bin .add (.t 140) (.t 141)), none, []⟩,
            ⟨(some 4), (.mov (.t 142)), none, []⟩] [])
          .ret)))
          .skip))))))))))
def I70 : IFunc :=
  ⟨(.seq (.region [⟨(some 4), (.mov (.c (.i .i64 (0)))), none, []⟩] [])
    (.seq (.region [⟨(some 14), (.mov (.t 1)), none, []⟩,
      ⟨(some 15), (.lenk 1 (.t 14)), none, []⟩,
      ⟨(some 5), (.mov (.t 15)), none, []⟩] [])
    (.seq (.block 0
      (.seq (.region [⟨(some 17), (.mov (.t 5)), none, []⟩,
        ⟨(some 18), (.bin .eql (.t 17) (.c (.i .i64 (0)))), none, []⟩,
        ⟨(some 19), (.mov (.t 18)), none, []⟩,
        ⟨(some 20), (.mov (.t 1)), (some (19, false)), []⟩,
        ⟨(some 21), (.mov (.t 0)), (some (19, false)), []⟩,
        ⟨(some 22), (.bin .eql (.t 20) (.t 21)), (some (19, false)), []⟩,
        ⟨(some 23), (.pick (.t 19) (.c (.b true)) (.t 22)), none, []⟩,
        ⟨(some 16), (.mov (.t 23)), none, []⟩] [])
      (.cond (.t 16)
        (.seq (.region [⟨(some 4), (.mov (.c (.i .i64 (0)))), none, []⟩] [])
        .ret)
        (.seq (.region [⟨(some 25), (.mov (.t 5)), none, []⟩,
          ⟨(some 26), (.bin .eql (.t 25) (.c (.i .i64 (1)))), none, []⟩,
          ⟨(some 24), (.mov (.t 26)), none, []⟩] [])
        (.cond (.t 24)
          (.seq (.region [⟨(some 27), (.mov (.t 0)), none, []⟩,
            ⟨(some 28), (.mov (.t 1)), none, []⟩,
            ⟨(some 29), (.idxS (.t 28) (.c (.i .i64 (0)))), none, []⟩,
            ⟨(some 30), (.call 71 [(.t 27), (.t 29)]), none, []⟩,
            ⟨(some 4), (.mov (.t 30)), none, []⟩] [])
          .ret)
          (.seq (.region [⟨(some 32), (.mov (.t 5)), none, []⟩,
            ⟨(some 33), (.mov (.t 0)), none, []⟩,
            ⟨(some 34), (.lenk 1 (.t 33)), none, []⟩,
            ⟨(some 35), (.bin .geq (.t 32) (.t 34)), none, []⟩,
            ⟨(some 31), (.mov (.t 35)), none, []⟩] [])
          (.cond (.t 31)
            (.seq (.region [⟨(some 4), (.mov (.c (.i .i64 (-1)))), none, []⟩] [])
            .ret)
            (.seq (.region [⟨(some 37), (.mov (.t 5)), none, []⟩,
              ⟨(some 38), (.load none (.g 0)), none, []⟩,
              ⟨(some 39), (.bin .leq (.t 37) (.t 38)), none, []⟩,
              ⟨(some 40), (.mov (.t 39)), none, []⟩,
              ⟨(some 41), (.mov (.t 0)), (some (40, true)), []⟩,
              ⟨(some 42), (.lenk 1 (.t 41)), (some (40, true)), []⟩,
              ⟨(some 43), (.bin .leq (.t 42) (.c (.i .i64 (64)))), (some (40, true)), []⟩,
              ⟨(some 44), (.pick (.t 40) (.t 43) (.c (.b false))), none, []⟩,
              ⟨(some 36), (.mov (.t 44)), none, []⟩] [])
            (.cond (.t 36)
              (.seq (.region [⟨(some 45), (.mov (.t 0)), none, []⟩,
                ⟨(some 46), (.mov (.t 1)), none, []⟩,
                ⟨(some 47), (.call 72 [(.t 45), (.t 46)]), none, []⟩,
                ⟨(some 4), (.mov (.t 47)), none, []⟩] [])
              .ret)
              .skip)))))))))
    (.seq (.region [⟨(some 48), (.mov (.t 1)), none, []⟩,
      ⟨(some 49), (.idxS (.t 48) (.c (.i .i64 (0)))), none, []⟩,
      ⟨(some 6), (.mov (.t 49)), none, []⟩] [])
    (.seq (.region [⟨(some 50), (.mov (.t 1)), none, []⟩,
      ⟨(some 51), (.idxS (.t 50) (.c (.i .i64 (1)))), none, []⟩,
      ⟨(some 7), (.mov (.t 51)), none, []⟩] [])
    (.seq (.region [⟨(some 8), (.mov (.c (.i .i64 (0)))), none, []⟩] [])
    (.seq (.region [⟨(some 52), (.mov (.t 0)), none, []⟩,
      ⟨(some 53), (.lenk 1 (.t 52)), none, []⟩,
      ⟨(some 54), (.mov (.t 5)), none, []⟩,
      ⟨(some 55), (.bin .sub (.t 53) (.t 54)), none, []⟩,
      ⟨(some 56), (.bin .add (.t 55) (.c (.i .i64 (1)))), none, []⟩,
      ⟨(some 9), (.mov (.t 56)), none, []⟩] [])
    (.seq (.region [⟨(some 10), (.mov (.c (.i .i64 (0)))), none, []⟩] [])
    (.seq (.block 1
      (.loop L70a))
    (.seq (.region [⟨(some 4), (.mov (.c (.i .i64 (-1)))), none, []⟩] [])
    .ret)))))))))),
    143, 2, [.t 4], 0⟩
theorem tr70 : trFunc Try.prog [([], []), ([], []), ([], []), ([], []), ([], []), ([], []), ([], []), ([], []), ([], []), ([], []), ([], []), ([], []), ([], []), ([], []), ([], []), ([], []), ([], []), ([], []), ([], []), ([], []), ([], []), ([], []), ([], []), ([], []), ([], []), ([], []), ([], []), ([], []), ([], []), ([], []), ([], []), ([], []), ([], []), ([], []), ([], []), ([], []), ([], []), ([], []), ([], []), ([], []), ([], []), ([], []), ([], []), ([], [])] 0 Try.f70 = some I70 := by kernel_rfl

/-- 'internal/stringslite.IndexByte'. -/
def I71 : IFunc :=
  ⟨(.seq (.region [⟨(some 4), (.mov (.c (.i .i64 (0)))), none, []⟩] [])
    (.seq (.region [⟨(some 5), (.mov (.t 0)), none, []⟩,
      ⟨(some 6), (.mov (.t 1)), none, []⟩,
      ⟨(some 7), (.call 75 [(.t 5), (.t 6)]), none, []⟩,
      ⟨(some 4), (.mov (.t 7)), none, []⟩] [])
    .ret)),
    8, 2, [.t 4], 0⟩
theorem tr71 : trFunc Try.prog [([], []), ([], [])] 0 Try.f71 = some I71 := by kernel_rfl

/-- 'internal/bytealg.Cutover'. -/
def I73 : IFunc :=
  ⟨(.seq (.region [⟨(some 2), (.mov (.c (.i .i64 (0)))), none, []⟩] [])
    (.seq (.region [⟨(some 3), (.mov (.t 0)), none, []⟩,
      ⟨(some 4), (.bin .add (.t 3) (.c (.i .i64 (16)))), none, []⟩,
      ⟨(some 5), (.bin .quo (.t 4) (.c (.i .i64 (8)))), none, []⟩,
      ⟨(some 2), (.mov (.t 5)), none, []⟩] [])
    .ret)),
    6, 1, [.t 2], 0⟩
theorem tr73 : trFunc Try.prog [([], []), ([], [])] 0 Try.f73 = some I73 := by kernel_rfl

/-- 'internal/bytealg.IndexRabinKarp[string]'. -/
def L74a : ICode :=
  (.seq (.seq (.region [⟨(some 18), (.mov (.t 9)), none, []⟩,
      ⟨(some 19), (.mov (.t 7)), none, []⟩,
      ⟨(some 20), (.bin .lss (.t 18) (.t 19)), none, []⟩] [])
    (.cond (.t 20)
      .skip
      (.exit 0)))
    (.seq (.block 1
      (.region [⟨(some 23), (.mov (.t 8)), none, []⟩,
        ⟨(some 24), (.bin .mul (.t 23) (.c (.i .u32 (16777619)))), none, []⟩,
        ⟨(some 25), (.mov (.t 0)), none, []⟩,
        ⟨(some 26), (.mov (.t 9)), none, []⟩,
        ⟨(some 27), (.idxS (.t 25) (.t 26)), none, []⟩,
        ⟨(some 28), (.conv .u32 (.t 27)), none, []⟩,
        ⟨(some 29), (.bin .add (.t 24) (.t 28)), none, []⟩,
        ⟨(some 8), (.mov (.t 29)), none, []⟩] []))
    (.region [⟨(some 21), (.mov (.t 9)), none, []⟩,
      ⟨(some 22), (.bin .add (.t 21) (.c (.i .i64 (1)))), none, []⟩,
      ⟨(some 9), (.mov (.t 22)), none, []⟩] [])))
def L74b : ICode :=
  (.seq (.seq (.region [⟨(some 41), (.mov (.t 10)), none, []⟩,
      ⟨(some 42), (.mov (.t 0)), none, []⟩,
      ⟨(some 43), (.lenk 1 (.t 42)), none, []⟩,
      ⟨(some 44), (.bin .lss (.t 41) (.t 43)), none, []⟩] [])
    (.cond (.t 44)
      .skip
      (.exit 2)))
    (.block 3
      (.seq (.region [⟨(some 45), (.mov (.t 8)), none, []⟩,
        ⟨(some 46), (.bin .mul (.t 45) (.c (.i .u32 (16777619)))), none, []⟩,
        ⟨(some 8), (.mov (.t 46)), none, []⟩] [])
      (.seq (.region [⟨(some 47), (.mov (.t 8)), none, []⟩,
        ⟨(some 48), (.mov (.t 0)), none, []⟩,
        ⟨(some 49), (.mov (.t 10)), none, []⟩,
        ⟨(some 50), (.idxS (.t 48) (.t 49)), none, []⟩,
        ⟨(some 51), (.conv .u32 (.t 50)), none, []⟩,
        ⟨(some 52), (.bin .add (.t 47) (.t 51)), none, []⟩,
        ⟨(some 8), (.mov (.t 52)), none, []⟩] [])
      (.seq (.region [⟨(some 53), (.mov (.t 8)), none, []⟩,
        ⟨(some 54), (.mov (.t 6)), none, []⟩,
        ⟨(some 55), (.mov (.t 0)), none, []⟩,
        ⟨(some 56), (.mov (.t 10)), none, []⟩,
        ⟨(some 57), (.mov (.t 7)), none, []⟩,
        ⟨(some 58), (.bin .sub (.t 56) (.t 57)), none, []⟩,
        ⟨(some 59), (.idxS (.t 55) (.t 58)), none, []⟩,
        ⟨(some 60), (.conv .u32 (.t 59)), none, []⟩,
        ⟨(some 61), (.bin .mul (.t 54) (.t 60)), none, []⟩,
        ⟨(some 62), (.bin .sub (.t 53) (.t 61)), none, []⟩,
        ⟨(some 8), (.mov (.t 62)), none, []⟩] [])
      (.seq (.region [⟨(some 63), (.mov (.t 10)), none, []⟩,
        ⟨(some 64), (.bin .add (.t 63) (.c (.i .i64 (1)))), none, []⟩,
        ⟨(some 10), (.mov (.t 64)), none, []⟩] [])
      (.seq (.region [⟨(some 65), (.mov (.t 8)), none, []⟩,
        ⟨(some 66), (.mov (.t 5)), none, []⟩,
        ⟨(some 67), (.bin .eql (.t 65) (.t 66)), none, []⟩,
        ⟨(some 68), (.mov (.t 67)), none, []⟩,
        ⟨(some 69), (.mov (.t 0)), (some (68, true)), []⟩,
        ⟨(some 70), (.mov (.t 10)), (some (68, true)), []⟩,
        ⟨(some 71), (.mov (.t 7)), (some (68, true)), []⟩,
        ⟨(some 72), (.bin .sub (.t 70) (.t 71)), (some (68, true)), []⟩,
        ⟨(some 73), (.mov (.t 10)), (some (68, true)), []⟩,
        ⟨(some 74), (.slS (.t 69) (some (.t 72)) (some (.t 73))), (some (68, true)), []⟩,
        ⟨(some 75), (.mov (.t 1)), (some (68, true)), []⟩,
        ⟨(some 76), (.bin .eql (.t 74) (.t 75)), (some (68, true)), []⟩,
        ⟨(some 77), (.pick (.t 68) (.t 76) (.c (.b false))), none, []⟩] [])
      (.cond (.t 77)
        (.seq (.region [⟨(some 78), (.mov (.t 10)), none, []⟩,
          ⟨(some 79), (.mov (.t 7)), none, []⟩,
          ⟨(some 80), (.bin .sub (.t 78) (.t 79)), none, []⟩,
          ⟨(some 4), (.mov (.t 80)), none, []⟩] [])
        .ret)
        .skip))))))))
def I74 : IFunc :=
  ⟨(.seq (.region [⟨(some 4), (.mov (.c (.i .i64 (0)))), none, []⟩] [])
    (.seq (.region [⟨(some 12), (.mov (.t 1)), none, []⟩,
      ⟨(some 13), (.call 76 [(.t 12)]), none, []⟩,
      ⟨(some 11), (.mov (.t 13)), none, []⟩,
      ⟨(some 14), (.ext (.t 11) 0), none, []⟩,
      ⟨(some 15), (.ext (.t 11) 1), none, []⟩,
      ⟨(some 5), (.mov (.t 14)), none, []⟩,
      ⟨(some 6), (.mov (.t 15)), none, []⟩] [])
    (.seq (.region [⟨(some 16), (.mov (.t 1)), none, []⟩,
      ⟨(some 17), (.lenk 1 (.t 16)), none, []⟩,
      ⟨(some 7), (.mov (.t 17)), none, []⟩] [])
    (.seq (.region [⟨(some 8), (.mov (.c (.i .u32 (0)))), none, []⟩] [])
    (.seq (.seq (.region [⟨(some 9), (.mov (.c (.i .i64 (0)))), none, []⟩] [])
    (.block 0
      (.loop L74a)))
    (.seq (.seq (.region [⟨(some 30), (.mov (.t 8)), none, []⟩,
      ⟨(some 31), (.mov (.t 5)), none, []⟩,
      ⟨(some 32), (.bin .eql (.t 30) (.t 31)), none, []⟩,
      ⟨(some 33), (.mov (.t 32)), none, []⟩,
      ⟨(some 34), (.mov (.t 0)), (some (33, true)), []⟩,
      ⟨(some 35), (.mov (.t 7)), (some (33, true)), []⟩,
      ⟨(some 36), (.slS (.t 34) none (some (.t 35))), (some (33, true)), []⟩,
      ⟨(some 37), (.mov (.t 1)), (some (33, true)), []⟩,
      ⟨(some 38), (.bin .eql (.t 36) (.t 37)), (some (33, true)), []⟩,
      ⟨(some 39), (.pick (.t 33) (.t 38) (.c (.b false))), none, []⟩] [])
    (.cond (.t 39)
      (.seq (.region [⟨(some 4), (.mov (.c (.i .i64 (0)))), none, []⟩] [])
      .ret)
      .skip))
    (.seq (.seq (.region [⟨(some 40), (.mov (.t 7)), none, []⟩,
      ⟨(some 10), (.mov (.t 40)), none, []⟩] [])
    (.block 2
      (.loop L74b)))
    (.seq (.region [⟨(some 4), (.mov (.c (.i .i64 (-1)))), none, []⟩] [])
    .ret)))))))),
    81, 2, [.t 4], 0⟩
theorem tr74 : trFunc Try.prog [([], []), ([], []), ([], []), ([], []), ([], []), ([], []), ([], []), ([], []), ([], []), ([], []), ([], []), ([], []), ([], []), ([], []), ([], []), ([], []), ([], []), ([], []), ([], []), ([], []), ([], []), ([], []), ([], [])] 0 Try.f74 = some I74 := by kernel_rfl

-- 75 internal/bytealg.IndexByteString LACKING
/-- 'internal/bytealg.hashStr[string]'. -/
def L76a : ICode :=
  (.seq (.seq (.region [⟨(some 9), (.mov (.t 5)), none, []⟩,
      ⟨(some 10), (.mov (.t 0)), none, []⟩,
      ⟨(some 11), (.lenk 1 (.t 10)), none, []⟩,
      ⟨(some 12), (.bin .lss (.t 9) (.t 11)), none, []⟩] [])
    (.cond (.t 12)
      .skip
      (.exit 0)))
    (.seq (.block 1
      (.region [⟨(some 15), (.mov (.t 4)), none, []⟩,
        ⟨(some 16), (.bin .mul (.t 15) (.c (.i .u32 (16777619)))), none, []⟩,
        ⟨(some 17), (.mov (.t 0)), none, []⟩,
        ⟨(some 18), (.mov (.t 5)), none, []⟩,
        ⟨(some 19), (.idxS (.t 17) (.t 18)), none, []⟩,
        ⟨(some 20), (.conv .u32 (.t 19)), none, []⟩,
        ⟨(some 21), (.bin .add (.t 16) (.t 20)), none, []⟩,
        ⟨(some 4), (.mov (.t 21)), none, []⟩] []))
    (.region [⟨(some 13), (.mov (.t 5)), none, []⟩,
      ⟨(some 14), (.bin .add (.t 13) (.c (.i .i64 (1)))), none, []⟩,
      ⟨(some 5), (.mov (.t 14)), none, []⟩] [])))
def L76b : ICode :=
  (.seq (.seq (.region [⟨(some 24), (.mov (.t 8)), none, []⟩,
      ⟨(some 25), (.bin .gtr (.t 24) (.c (.i .i64 (0)))), none, []⟩] [])
    (.cond (.t 25)
      .skip
      (.exit 2)))
    (.seq (.block 3
      (.seq (.seq (.region [⟨(some 28), (.mov (.t 8)), none, []⟩,
        ⟨(some 29), (.bin .and (.t 28) (.c (.i .i64 (1)))), none, []⟩,
        ⟨(some 30), (.bin .neq (.t 29) (.c (.i .i64 (0)))), none, []⟩] [])
      (.cond (.t 30)
        (.region [⟨(some 31), (.mov (.t 6)), none, []⟩,
          ⟨(some 32), (.mov (.t 7)), none, []⟩,
          ⟨(some 33), (.bin .mul (.t 31) (.t 32)), none, []⟩,
          ⟨(some 6), (.mov (.t 33)), none, []⟩] [])
        .skip))
      (.region [⟨(some 34), (.mov (.t 7)), none, []⟩,
        ⟨(some 35), (.mov (.t 7)), none, []⟩,
        ⟨(some 36), (.bin .mul (.t 34) (.t 35)), none, []⟩,
        ⟨(some 7), (.mov (.t 36)), none, []⟩] [])))
    (.region [⟨(some 26), (.mov (.t 8)), none, []⟩,
      ⟨(some 27), (.bin .shr (.t 26) (.c (.i .u64 (1)))), none, []⟩,
      ⟨(some 8), (.mov (.t 27)), none, []⟩] [])))
def I76 : IFunc :=
  ⟨(.seq (.region [⟨(some 2), (.mov (.c (.i .u32 (0)))), none, []⟩,
      ⟨(some 3), (.mov (.c (.i .u32 (0)))), none, []⟩] [])
    (.seq (.region [⟨(some 4), (.mov (.c (.i .u32 (0)))), none, []⟩] [])
    (.seq (.seq (.region [⟨(some 5), (.mov (.c (.i .i64 (0)))), none, []⟩] [])
    (.block 0
      (.loop L76a)))
    (.seq (.region [⟨(some 6), (.mov (.c (.i .u32 (1)))), none, []⟩,
      ⟨(some 7), (.mov (.c (.i .u32 (16777619)))), none, []⟩] [])
    (.seq (.seq (.region [⟨(some 22), (.mov (.t 0)), none, []⟩,
      ⟨(some 23), (.lenk 1 (.t 22)), none, []⟩,
      ⟨(some 8), (.mov (.t 23)), none, []⟩] [])
    (.block 2
      (.loop L76b)))
    (.seq (.region [⟨(some 37), (.mov (.t 4)), none, []⟩,
      ⟨(some 38), (.mov (.t 6)), none, []⟩,
      ⟨(some 2), (.mov (.t 37)), none, []⟩,
      ⟨(some 3), (.mov (.t 38)), none, []⟩] [])
    .ret)))))),
    39, 1, [.t 2, .t 3], 0⟩
theorem tr76 : trFunc Try.prog [([], []), ([], []), ([], []), ([], []), ([], []), ([], []), ([], []), ([], []), ([], []), ([], []), ([], []), ([], []), ([], []), ([], []), ([], []), ([], []), ([], [])] 0 Try.f76 = some I76 := by kernel_rfl

def tab0 : List (Nat × IFunc) := [(3, I3), (4, I4), (5, I5), (6, I6), (8, I8), (9, I9), (10, I10), (11, I11), (12, I12), (13, I13), (14, I14), (15, I15), (16, I16), (17, I17), (18, I18), (19, I19), (20, I20), (21, I21), (22, I22), (23, I23), (24, I24), (25, I25), (26, I26), (27, I27), (28, I28), (29, I29), (30, I30), (31, I31), (32, I32), (33, I33), (34, I34), (35, I35), (36, I36), (37, I37), (38, I38), (39, I39), (40, I40), (41, I41), (42, I42), (43, I43), (44, I44), (45, I45), (46, I46), (47, I47), (48, I48), (49, I49), (50, I50), (51, I51), (52, I52), (53, I53), (54, I54), (55, I55), (56, I56), (57, I57), (58, I58), (59, I59), (60, I60), (61, I61), (62, I62), (63, I63), (64, I64), (65, I65), (66, I66), (67, I67), (68, I68), (69, I69), (70, I70), (71, I71), (73, I73), (74, I74), (76, I76)]
theorem tab0_all : TabAll Try.prog tab0 :=
  .cons Try.func3 tr3 <| .cons Try.func4 tr4 <| .cons Try.func5 tr5 <| .cons Try.func6 tr6 <| .cons Try.func8 tr8 <| .cons Try.func9 tr9 <| .cons Try.func10 tr10 <| .cons Try.func11 tr11 <| .cons Try.func12 tr12 <| .cons Try.func13 tr13 <| .cons Try.func14 tr14 <| .cons Try.func15 tr15 <| .cons Try.func16 tr16 <| .cons Try.func17 tr17 <| .cons Try.func18 tr18 <| .cons Try.func19 tr19 <| .cons Try.func20 tr20 <| .cons Try.func21 tr21 <| .cons Try.func22 tr22 <| .cons Try.func23 tr23 <| .cons Try.func24 tr24 <| .cons Try.func25 tr25 <| .cons Try.func26 tr26 <| .cons Try.func27 tr27 <| .cons Try.func28 tr28 <| .cons Try.func29 tr29 <| .cons Try.func30 tr30 <| .cons Try.func31 tr31 <| .cons Try.func32 tr32 <| .cons Try.func33 tr33 <| .cons Try.func34 tr34 <| .cons Try.func35 tr35 <| .cons Try.func36 tr36 <| .cons Try.func37 tr37 <| .cons Try.func38 tr38 <| .cons Try.func39 tr39 <| .cons Try.func40 tr40 <| .cons Try.func41 tr41 <| .cons Try.func42 tr42 <| .cons Try.func43 tr43 <| .cons Try.func44 tr44 <| .cons Try.func45 tr45 <| .cons Try.func46 tr46 <| .cons Try.func47 tr47 <| .cons Try.func48 tr48 <| .cons Try.func49 tr49 <| .cons Try.func50 tr50 <| .cons Try.func51 tr51 <| .cons Try.func52 tr52 <| .cons Try.func53 tr53 <| .cons Try.func54 tr54 <| .cons Try.func55 tr55 <| .cons Try.func56 tr56 <| .cons Try.func57 tr57 <| .cons Try.func58 tr58 <| .cons Try.func59 tr59 <| .cons Try.func60 tr60 <| .cons Try.func61 tr61 <| .cons Try.func62 tr62 <| .cons Try.func63 tr63 <| .cons Try.func64 tr64 <| .cons Try.func65 tr65 <| .cons Try.func66 tr66 <| .cons Try.func67 tr67 <| .cons Try.func68 tr68 <| .cons Try.func69 tr69 <| .cons Try.func70 tr70 <| .cons Try.func71 tr71 <| .cons Try.func73 tr73 <| .cons Try.func74 tr74 <| .cons Try.func76 tr76 <| .nil
def tab : List (Nat × IFunc) := (7, ofI 11 13 19 0) :: tab0
theorem cus : CusOK Try.prog (tabIP tab) 7 (ofI 11 13 19 0) :=
  cus_of (hs2 := [([], []), ([], []), ([], [])]) (hsG := [([], []), ([], []), ([], []), ([], []), ([], []), ([], []), ([], []), ([], []), ([], []), ([], [])]) (by decide) Try.func7 (by kernel_rfl) rfl (by kernel_rfl) (by kernel_rfl) (by kernel_rfl) (by kernel_rfl) (by kernel_rfl) (by kernel_rfl) (by kernel_rfl) (by kernel_rfl) (by kernel_rfl) (by kernel_rfl) (by kernel_rfl) (by kernel_rfl) (by kernel_rfl)
    Try.func18 rfl (by kernel_rfl) (by kernel_rfl) (of_decide_eq_true (by kernel_rfl)) (by kernel_rfl) (by kernel_rfl) (blk_ok (mode := 0) (by decide) (show tabIP tab 12 = some I12 from rfl))
theorem tab_ok : TabOK Try.prog (tabIP tab) := tab0_all.okC cus
def IP : FuncId → Option IFunc := tabIP tab
theorem IP_ok : TabOK Try.prog IP := tab_ok
end Go.Proofs.Yteoliiakbmomeaa
