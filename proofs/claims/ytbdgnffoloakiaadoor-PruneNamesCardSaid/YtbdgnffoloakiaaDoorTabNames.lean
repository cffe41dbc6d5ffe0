/- The functions that the statement reaches, as the interpreter has them. Conditions: none. -/
import Derived.Test.YtbdgnffoloakiaaDoorRows
import Derived.Test.YtbdgnffoloakiaaDoorRiFast
namespace Go.Proofs.YtbdgnffoloakiaaDoor
open Go Go.RI

/-- 'encore/encorelaw23.PruneNames'. -/
def I4 : IFunc :=
  ⟨(.seq (.region [⟨(some 0), (.mov (.c (.b false))), none, []⟩] [])
    (.seq (.region [⟨(some 14), (.build [(.i .i64 (0)), (.i .i64 (0)), (.s []), .ns, .ns] [(0, 1, (.c (.i .i64 (3)))), (2, 1, (.c (.s [97])))]), none, []⟩,
      ⟨(some 15), (.build [(.i .i64 (0)), (.i .i64 (0)), (.i .i64 (0)), (.i .i64 (0)), (.s []), .ns, .ns] [(0, 1, (.c (.i .i64 (3)))), (2, 5, (.t 14))]), none, []⟩,
      ⟨(some 1), (.alloc [(.i .i64 (0)), (.i .i64 (0)), (.i .i64 (0)), (.i .i64 (0)), (.s []), .ns, .ns]), none, []⟩,
      ⟨none, (.store 7 (.t 1) (.t 15)), none, []⟩] [])
    (.seq (.region [⟨(some 16), (.load (some 7) (.t 1)), none, []⟩,
      ⟨(some 17), (.call 14 [(.c (.i .i64 (8))), (.c (.i .i64 (0))), (.t 16)]), none, []⟩,
      ⟨(some 18), (.call 15 [(.c (.i .i64 (0)))]), none, []⟩,
      ⟨(some 19), (.call 14 [(.c (.i .i64 (6))), (.c (.i .i64 (0))), (.t 18)]), none, []⟩,
      ⟨(some 20), (.bsl 5 2 [(.i .i64 (0)), (.i .i64 (0)), .ns, (.s []), .ns, (.i .i64 (0)), (.i .i64 (0)), .ns, (.s []), .ns] [(0, 5, (.t 17)), (5, 5, (.t 19))]), none, []⟩,
      ⟨(some 21), (.call 13 [(.c (.i .i64 (1))), (.t 20)]), none, []⟩,
      ⟨(some 22), (.call 15 [(.c (.i .i64 (0)))]), none, []⟩,
      ⟨(some 23), (.call 14 [(.c (.i .i64 (6))), (.c (.i .i64 (0))), (.t 22)]), none, []⟩,
      ⟨(some 24), (.bsl 5 1 [(.i .i64 (0)), (.i .i64 (0)), .ns, (.s []), .ns] [(0, 5, (.t 23))]), none, []⟩,
      ⟨(some 25), (.call 13 [(.c (.i .i64 (1))), (.t 24)]), none, []⟩,
      ⟨(some 26), (.call 12 [(.t 21), (.t 25)]), none, []⟩,
      ⟨(some 2), (.mov (.t 26)), none, []⟩] [])
    (.seq (.region [⟨(some 27), (.call 15 [(.c (.i .i64 (0)))]), none, []⟩,
      ⟨(some 28), (.bsl 7 1 [(.i .i64 (0)), (.i .i64 (0)), (.i .i64 (0)), (.i .i64 (0)), (.s []), .ns, .ns] [(0, 7, (.t 27))]), none, []⟩,
      ⟨(some 29), (.build [(.i .i64 (0)), (.i .i64 (0)), .ns, (.s []), .ns] [(0, 1, (.c (.i .i64 (20)))), (2, 1, (.t 28))]), none, []⟩,
      ⟨(some 30), (.call 16 [(.c (.i .i64 (0)))]), none, []⟩,
      ⟨(some 31), (.call 14 [(.c (.i .i64 (8))), (.c (.i .i64 (0))), (.t 30)]), none, []⟩,
      ⟨(some 32), (.call 15 [(.c (.i .i64 (0)))]), none, []⟩,
      ⟨(some 33), (.call 14 [(.c (.i .i64 (6))), (.c (.i .i64 (0))), (.t 32)]), none, []⟩,
      ⟨(some 34), (.bsl 5 3 [(.i .i64 (0)), (.i .i64 (0)), .ns, (.s []), .ns, (.i .i64 (0)), (.i .i64 (0)), .ns, (.s []), .ns, (.i .i64 (0)), (.i .i64 (0)), .ns, (.s []), .ns] [(0, 5, (.t 29)), (5, 5, (.t 31)), (10, 5, (.t 33))]), none, []⟩,
      ⟨(some 35), (.call 13 [(.c (.i .i64 (1))), (.t 34)]), none, []⟩,
      ⟨(some 3), (.alloc [(.i .i64 (0)), (.i .i64 (0)), (.i .i64 (0)), (.i .i64 (0)), .ns, .ns, (.i .i64 (0)), (.i .i64 (0)), (.i .i64 (0)), (.i .i64 (0)), (.i .i64 (0)), (.i .i64 (0)), (.s []), .ns, .ns, (.i .i64 (0))]), none, []⟩,
      ⟨none, (.store 16 (.t 3) (.t 35)), none, []⟩] [])
    (.seq (.region [⟨(some 36), (.call 15 [(.c (.i .i64 (0)))]), none, []⟩,
      ⟨(some 37), (.bsl 7 1 [(.i .i64 (0)), (.i .i64 (0)), (.i .i64 (0)), (.i .i64 (0)), (.s []), .ns, .ns] [(0, 7, (.t 36))]), none, []⟩,
      ⟨(some 38), (.build [(.i .i64 (0)), (.i .i64 (0)), .ns, (.s []), .ns] [(0, 1, (.c (.i .i64 (20)))), (2, 1, (.t 37))]), none, []⟩,
      ⟨(some 39), (.call 15 [(.c (.i .i64 (0)))]), none, []⟩,
      ⟨(some 40), (.call 14 [(.c (.i .i64 (6))), (.c (.i .i64 (0))), (.t 39)]), none, []⟩,
      ⟨(some 41), (.bsl 5 2 [(.i .i64 (0)), (.i .i64 (0)), .ns, (.s []), .ns, (.i .i64 (0)), (.i .i64 (0)), .ns, (.s []), .ns] [(0, 5, (.t 38)), (5, 5, (.t 40))]), none, []⟩,
      ⟨(some 42), (.call 13 [(.c (.i .i64 (1))), (.t 41)]), none, []⟩,
      ⟨(some 4), (.alloc [(.i .i64 (0)), (.i .i64 (0)), (.i .i64 (0)), (.i .i64 (0)), .ns, .ns, (.i .i64 (0)), (.i .i64 (0)), (.i .i64 (0)), (.i .i64 (0)), (.i .i64 (0)), (.i .i64 (0)), (.s []), .ns, .ns, (.i .i64 (0))]), none, []⟩,
      ⟨none, (.store 16 (.t 4) (.t 42)), none, []⟩] [])
    (.seq (.region [⟨(some 43), (.call 15 [(.c (.i .i64 (0)))]), none, []⟩,
      ⟨(some 44), (.bsl 7 1 [(.i .i64 (0)), (.i .i64 (0)), (.i .i64 (0)), (.i .i64 (0)), (.s []), .ns, .ns] [(0, 7, (.t 43))]), none, []⟩,
      ⟨(some 45), (.build [(.i .i64 (0)), (.i .i64 (0)), .ns, (.s []), .ns] [(0, 1, (.c (.i .i64 (23)))), (3, 1, (.c (.s [105, 110, 116]))), (2, 1, (.t 44))]), none, []⟩,
      ⟨(some 46), (.call 16 [(.c (.i .i64 (0)))]), none, []⟩,
      ⟨(some 47), (.call 14 [(.c (.i .i64 (6))), (.c (.i .i64 (0))), (.t 46)]), none, []⟩,
      ⟨(some 48), (.bsl 5 2 [(.i .i64 (0)), (.i .i64 (0)), .ns, (.s []), .ns, (.i .i64 (0)), (.i .i64 (0)), .ns, (.s []), .ns] [(0, 5, (.t 45)), (5, 5, (.t 47))]), none, []⟩,
      ⟨(some 49), (.call 13 [(.c (.i .i64 (1))), (.t 48)]), none, []⟩,
      ⟨(some 5), (.alloc [(.i .i64 (0)), (.i .i64 (0)), (.i .i64 (0)), (.i .i64 (0)), .ns, .ns, (.i .i64 (0)), (.i .i64 (0)), (.i .i64 (0)), (.i .i64 (0)), (.i .i64 (0)), (.i .i64 (0)), (.s []), .ns, .ns, (.i .i64 (0))]), none, []⟩,
      ⟨none, (.store 16 (.t 5) (.t 49)), none, []⟩] [])
    (.seq (.region [⟨(some 50), (.call 15 [(.c (.i .i64 (0)))]), none, []⟩,
      ⟨(some 51), (.bsl 7 1 [(.i .i64 (0)), (.i .i64 (0)), (.i .i64 (0)), (.i .i64 (0)), (.s []), .ns, .ns] [(0, 7, (.t 50))]), none, []⟩,
      ⟨(some 52), (.build [(.i .i64 (0)), (.i .i64 (0)), .ns, (.s []), .ns] [(0, 1, (.c (.i .i64 (23)))), (3, 1, (.c (.s [105, 110, 116]))), (2, 1, (.t 51))]), none, []⟩,
      ⟨(some 53), (.call 15 [(.c (.i .i64 (0)))]), none, []⟩,
      ⟨(some 54), (.call 14 [(.c (.i .i64 (6))), (.c (.i .i64 (0))), (.t 53)]), none, []⟩,
      ⟨(some 55), (.bsl 5 2 [(.i .i64 (0)), (.i .i64 (0)), .ns, (.s []), .ns, (.i .i64 (0)), (.i .i64 (0)), .ns, (.s []), .ns] [(0, 5, (.t 52)), (5, 5, (.t 54))]), none, []⟩,
      ⟨(some 56), (.call 13 [(.c (.i .i64 (1))), (.t 55)]), none, []⟩,
      ⟨(some 6), (.alloc [(.i .i64 (0)), (.i .i64 (0)), (.i .i64 (0)), (.i .i64 (0)), .ns, .ns, (.i .i64 (0)), (.i .i64 (0)), (.i .i64 (0)), (.i .i64 (0)), (.i .i64 (0)), (.i .i64 (0)), (.s []), .ns, .ns, (.i .i64 (0))]), none, []⟩,
      ⟨none, (.store 16 (.t 6) (.t 56)), none, []⟩] [])
    (.seq (.region [⟨(some 57), (.call 17 [(.c (.i .i64 (3)))]), none, []⟩,
      ⟨(some 58), (.call 14 [(.c (.i .i64 (40))), (.c (.i .i64 (1))), (.t 57)]), none, []⟩,
      ⟨(some 59), (.bsl 5 1 [(.i .i64 (0)), (.i .i64 (0)), .ns, (.s []), .ns] [(0, 5, (.t 58))]), none, []⟩,
      ⟨(some 60), (.call 13 [(.c (.i .i64 (0))), (.t 59)]), none, []⟩,
      ⟨(some 61), (.call 17 [(.c (.i .i64 (3)))]), none, []⟩,
      ⟨(some 62), (.bsl 7 1 [(.i .i64 (0)), (.i .i64 (0)), (.i .i64 (0)), (.i .i64 (0)), (.s []), .ns, .ns] [(0, 7, (.t 61))]), none, []⟩,
      ⟨(some 63), (.build [(.i .i64 (0)), (.i .i64 (0)), (.i .i64 (0)), (.i .i64 (0)), .ns, .ns, (.i .i64 (0)), (.i .i64 (0)), (.i .i64 (0)), (.i .i64 (0)), (.i .i64 (0)), (.i .i64 (0)), (.s []), .ns, .ns, (.i .i64 (0))] [(2, 1, (.c (.i .i64 (1)))), (5, 1, (.t 62))]), none, []⟩,
      ⟨(some 64), (.call 12 [(.t 60), (.t 63)]), none, []⟩,
      ⟨(some 7), (.mov (.t 64)), none, []⟩] [])
    (.seq (.region [⟨(some 65), (.call 15 [(.c (.i .i64 (0)))]), none, []⟩,
      ⟨(some 66), (.call 17 [(.c (.i .i64 (1)))]), none, []⟩,
      ⟨(some 67), (.call 18 [(.c (.i .i64 (14))), (.t 65), (.t 66)]), none, []⟩,
      ⟨(some 68), (.call 15 [(.c (.i .i64 (0)))]), none, []⟩,
      ⟨(some 69), (.call 17 [(.c (.i .i64 (2)))]), none, []⟩,
      ⟨(some 70), (.call 18 [(.c (.i .i64 (14))), (.t 68), (.t 69)]), none, []⟩,
      ⟨(some 71), (.bsl 5 2 [(.i .i64 (0)), (.i .i64 (0)), .ns, (.s []), .ns, (.i .i64 (0)), (.i .i64 (0)), .ns, (.s []), .ns] [(0, 5, (.t 67)), (5, 5, (.t 70))]), none, []⟩,
      ⟨(some 72), (.call 16 [(.c (.i .i64 (1)))]), none, []⟩,
      ⟨(some 73), (.build [(.i .i64 (0)), (.i .i64 (0)), (.i .i64 (0)), (.i .i64 (0)), .ns, .ns, (.i .i64 (0)), (.i .i64 (0)), (.i .i64 (0)), (.i .i64 (0)), (.i .i64 (0)), (.i .i64 (0)), (.s []), .ns, .ns, (.i .i64 (0))] [(2, 1, (.c (.i .i64 (1)))), (3, 1, (.c (.i .i64 (1)))), (6, 1, (.c (.i .i64 (2)))), (4, 1, (.t 71)), (8, 7, (.t 72))]), none, []⟩,
      ⟨(some 8), (.alloc [(.i .i64 (0)), (.i .i64 (0)), (.i .i64 (0)), (.i .i64 (0)), .ns, .ns, (.i .i64 (0)), (.i .i64 (0)), (.i .i64 (0)), (.i .i64 (0)), (.i .i64 (0)), (.i .i64 (0)), (.s []), .ns, .ns, (.i .i64 (0))]), none, []⟩,
      ⟨none, (.store 16 (.t 8) (.t 73)), none, []⟩] [])
    (.seq (.region [⟨(some 74), (.call 15 [(.c (.i .i64 (0)))]), none, []⟩,
      ⟨(some 75), (.call 17 [(.c (.i .i64 (2)))]), none, []⟩,
      ⟨(some 76), (.call 18 [(.c (.i .i64 (14))), (.t 74), (.t 75)]), none, []⟩,
      ⟨(some 77), (.bsl 5 1 [(.i .i64 (0)), (.i .i64 (0)), .ns, (.s []), .ns] [(0, 5, (.t 76))]), none, []⟩,
      ⟨(some 78), (.call 16 [(.c (.i .i64 (0)))]), none, []⟩,
      ⟨(some 79), (.build [(.i .i64 (0)), (.i .i64 (0)), (.i .i64 (0)), (.i .i64 (0)), .ns, .ns, (.i .i64 (0)), (.i .i64 (0)), (.i .i64 (0)), (.i .i64 (0)), (.i .i64 (0)), (.i .i64 (0)), (.s []), .ns, .ns, (.i .i64 (0))] [(2, 1, (.c (.i .i64 (1)))), (3, 1, (.c (.i .i64 (1)))), (6, 1, (.c (.i .i64 (2)))), (4, 1, (.t 77)), (8, 7, (.t 78))]), none, []⟩,
      ⟨(some 9), (.alloc [(.i .i64 (0)), (.i .i64 (0)), (.i .i64 (0)), (.i .i64 (0)), .ns, .ns, (.i .i64 (0)), (.i .i64 (0)), (.i .i64 (0)), (.i .i64 (0)), (.i .i64 (0)), (.i .i64 (0)), (.s []), .ns, .ns, (.i .i64 (0))]), none, []⟩,
      ⟨none, (.store 16 (.t 9) (.t 79)), none, []⟩] [])
    (.seq (.region [⟨(some 80), (.call 15 [(.c (.i .i64 (0)))]), none, []⟩,
      ⟨(some 81), (.call 14 [(.c (.i .i64 (40))), (.c (.i .i64 (1))), (.t 80)]), none, []⟩,
      ⟨(some 82), (.call 15 [(.c (.i .i64 (0)))]), none, []⟩,
      ⟨(some 83), (.call 14 [(.c (.i .i64 (41))), (.c (.i .i64 (0))), (.t 82)]), none, []⟩,
      ⟨(some 84), (.call 16 [(.c (.i .i64 (1)))]), none, []⟩,
      ⟨(some 85), (.call 14 [(.c (.i .i64 (48))), (.c (.i .i64 (2))), (.t 84)]), none, []⟩,
      ⟨(some 86), (.call 15 [(.c (.i .i64 (0)))]), none, []⟩,
      ⟨(some 87), (.call 17 [(.c (.i .i64 (1)))]), none, []⟩,
      ⟨(some 88), (.call 18 [(.c (.i .i64 (14))), (.t 86), (.t 87)]), none, []⟩,
      ⟨(some 89), (.bsl 5 4 [(.i .i64 (0)), (.i .i64 (0)), .ns, (.s []), .ns, (.i .i64 (0)), (.i .i64 (0)), .ns, (.s []), .ns, (.i .i64 (0)), (.i .i64 (0)), .ns, (.s []), .ns, (.i .i64 (0)), (.i .i64 (0)), .ns, (.s []), .ns] [(0, 5, (.t 81)), (5, 5, (.t 83)), (10, 5, (.t 85)), (15, 5, (.t 88))]), none, []⟩,
      ⟨(some 90), (.call 13 [(.c (.i .i64 (1))), (.t 89)]), none, []⟩,
      ⟨(some 91), (.call 15 [(.c (.i .i64 (0)))]), none, []⟩,
      ⟨(some 92), (.call 14 [(.c (.i .i64 (40))), (.c (.i .i64 (1))), (.t 91)]), none, []⟩,
      ⟨(some 93), (.call 15 [(.c (.i .i64 (0)))]), none, []⟩,
      ⟨(some 94), (.call 17 [(.c (.i .i64 (1)))]), none, []⟩,
      ⟨(some 95), (.call 18 [(.c (.i .i64 (14))), (.t 93), (.t 94)]), none, []⟩,
      ⟨(some 96), (.bsl 5 2 [(.i .i64 (0)), (.i .i64 (0)), .ns, (.s []), .ns, (.i .i64 (0)), (.i .i64 (0)), .ns, (.s []), .ns] [(0, 5, (.t 92)), (5, 5, (.t 95))]), none, []⟩,
      ⟨(some 97), (.call 13 [(.c (.i .i64 (1))), (.t 96)]), none, []⟩,
      ⟨(some 98), (.call 12 [(.t 90), (.t 97)]), none, []⟩,
      ⟨(some 10), (.mov (.t 98)), none, []⟩] [])
    (.seq (.region [⟨(some 100), (.build [(.i .i64 (0)), (.i .i64 (0)), (.i .i64 (0)), (.i .i64 (0)), .ns, .ns, (.i .i64 (0)), (.i .i64 (0)), (.i .i64 (0)), (.i .i64 (0)), (.i .i64 (0)), (.i .i64 (0)), (.s []), .ns, .ns, (.i .i64 (0))] [(3, 1, (.c (.i .i64 (-1))))]), none, []⟩,
      ⟨(some 101), (.call 6 [(.t 100)]), none, []⟩,
      ⟨(some 99), (.mov (.t 101)), none, []⟩,
      ⟨(some 102), (.ext (.t 99) 0), none, []⟩,
      ⟨(some 103), (.ext (.t 99) 1), none, []⟩,
      ⟨(some 11), (.alloc [(.i .i64 (0)), (.i .i64 (0)), (.i .i64 (0)), (.i .i64 (0)), .ns, .ns, (.i .i64 (0)), (.i .i64 (0)), (.i .i64 (0)), (.i .i64 (0)), (.i .i64 (0)), (.i .i64 (0)), (.s []), .ns, .ns, (.i .i64 (0))]), none, []⟩,
      ⟨none, (.store 16 (.t 11) (.t 102)), none, []⟩,
      ⟨(some 12), (.mov (.t 103)), none, []⟩] [])
    (.seq (.region [⟨(some 104), (.call 15 [(.c (.i .i64 (0)))]), none, []⟩,
      ⟨(some 105), (.call 14 [(.c (.i .i64 (6))), (.c (.i .i64 (0))), (.t 104)]), none, []⟩,
      ⟨(some 106), (.bsl 5 1 [(.i .i64 (0)), (.i .i64 (0)), .ns, (.s []), .ns] [(0, 5, (.t 105))]), none, []⟩,
      ⟨(some 107), (.call 13 [(.c (.i .i64 (1))), (.t 106)]), none, []⟩,
      ⟨(some 108), (.call 11 [(.t 107), (.c (.i .i64 (0)))]), none, []⟩,
      ⟨(some 109), (.mov (.t 108)), none, []⟩,
      ⟨(some 110), (.call 15 [(.c (.i .i64 (0)))]), (some (109, true)), []⟩,
      ⟨(some 111), (.call 14 [(.c (.i .i64 (40))), (.c (.i .i64 (1))), (.t 110)]), (some (109, true)), []⟩,
      ⟨(some 112), (.call 15 [(.c (.i .i64 (0)))]), (some (109, true)), []⟩,
      ⟨(some 113), (.call 14 [(.c (.i .i64 (6))), (.c (.i .i64 (0))), (.t 112)]), (some (109, true)), []⟩,
      ⟨(some 114), (.bsl 5 2 [(.i .i64 (0)), (.i .i64 (0)), .ns, (.s []), .ns, (.i .i64 (0)), (.i .i64 (0)), .ns, (.s []), .ns] [(0, 5, (.t 111)), (5, 5, (.t 113))]), (some (109, true)), []⟩,
      ⟨(some 115), (.call 13 [(.c (.i .i64 (1))), (.t 114)]), (some (109, true)), []⟩,
      ⟨(some 116), (.call 11 [(.t 115), (.c (.i .i64 (1)))]), (some (109, true)), []⟩,
      ⟨(some 117), (.un .not (.t 116)), (some (109, true)), []⟩,
      ⟨(some 118), (.pick (.t 109) (.t 117) (.c (.b false))), none, []⟩,
      ⟨(some 119), (.mov (.t 118)), none, []⟩,
      ⟨(some 120), (.call 15 [(.c (.i .i64 (0)))]), (some (119, true)), []⟩,
      ⟨(some 121), (.call 14 [(.c (.i .i64 (40))), (.c (.i .i64 (3))), (.t 120)]), (some (119, true)), []⟩,
      ⟨(some 122), (.call 15 [(.c (.i .i64 (0)))]), (some (119, true)), []⟩,
      ⟨(some 123), (.call 14 [(.c (.i .i64 (6))), (.c (.i .i64 (0))), (.t 122)]), (some (119, true)), []⟩,
      ⟨(some 124), (.bsl 5 2 [(.i .i64 (0)), (.i .i64 (0)), .ns, (.s []), .ns, (.i .i64 (0)), (.i .i64 (0)), .ns, (.s []), .ns] [(0, 5, (.t 121)), (5, 5, (.t 123))]), (some (119, true)), []⟩,
      ⟨(some 125), (.call 13 [(.c (.i .i64 (1))), (.t 124)]), (some (119, true)), []⟩,
      ⟨(some 126), (.call 11 [(.t 125), (.c (.i .i64 (1)))]), (some (119, true)), []⟩,
      ⟨(some 127), (.pick (.t 119) (.t 126) (.c (.b false))), none, []⟩,
      ⟨(some 128), (.mov (.t 127)), none, []⟩,
      ⟨(some 129), (.call 17 [(.c (.i .i64 (1)))]), (some (128, true)), []⟩,
      ⟨(some 130), (.call 17 [(.c (.i .i64 (2)))]), (some (128, true)), []⟩,
      ⟨(some 131), (.call 18 [(.c (.i .i64 (9))), (.t 129), (.t 130)]), (some (128, true)), []⟩,
      ⟨(some 132), (.bsl 5 1 [(.i .i64 (0)), (.i .i64 (0)), .ns, (.s []), .ns] [(0, 5, (.t 131))]), (some (128, true)), []⟩,
      ⟨(some 133), (.call 13 [(.c (.i .i64 (0))), (.t 132)]), (some (128, true)), []⟩,
      ⟨(some 134), (.call 11 [(.t 133), (.c (.i .i64 (0)))]), (some (128, true)), []⟩,
      ⟨(some 135), (.pick (.t 128) (.t 134) (.c (.b false))), none, []⟩,
      ⟨(some 136), (.mov (.t 135)), none, []⟩,
      ⟨(some 137), (.call 17 [(.c (.i .i64 (1)))]), (some (136, true)), []⟩,
      ⟨(some 138), (.call 17 [(.c (.i .i64 (2)))]), (some (136, true)), []⟩,
      ⟨(some 139), (.call 18 [(.c (.i .i64 (43))), (.t 137), (.t 138)]), (some (136, true)), []⟩,
      ⟨(some 140), (.bsl 5 1 [(.i .i64 (0)), (.i .i64 (0)), .ns, (.s []), .ns] [(0, 5, (.t 139))]), (some (136, true)), []⟩,
      ⟨(some 141), (.call 13 [(.c (.i .i64 (0))), (.t 140)]), (some (136, true)), []⟩,
      ⟨(some 142), (.call 11 [(.t 141), (.c (.i .i64 (0)))]), (some (136, true)), []⟩,
      ⟨(some 143), (.un .not (.t 142)), (some (136, true)), []⟩,
      ⟨(some 144), (.pick (.t 136) (.t 143) (.c (.b false))), none, []⟩,
      ⟨(some 145), (.mov (.t 144)), none, []⟩,
      ⟨(some 146), (.build [(.i .i64 (0)), (.i .i64 (0)), (.i .i64 (0)), (.i .i64 (0)), .ns, .ns, (.i .i64 (0)), (.i .i64 (0)), (.i .i64 (0)), (.i .i64 (0)), (.i .i64 (0)), (.i .i64 (0)), (.s []), .ns, .ns, (.i .i64 (0))] []), (some (145, true)), []⟩,
      ⟨(some 147), (.call 11 [(.t 146), (.c (.i .i64 (0)))]), (some (145, true)), []⟩,
      ⟨(some 148), (.pick (.t 145) (.t 147) (.c (.b false))), none, []⟩,
      ⟨(some 149), (.mov (.t 148)), none, []⟩,
      ⟨(some 150), (.call 17 [(.c (.i .i64 (1)))]), (some (149, true)), []⟩,
      ⟨(some 151), (.call 17 [(.c (.i .i64 (1)))]), (some (149, true)), []⟩,
      ⟨(some 152), (.call 18 [(.c (.i .i64 (14))), (.t 150), (.t 151)]), (some (149, true)), []⟩,
      ⟨(some 153), (.bsl 5 1 [(.i .i64 (0)), (.i .i64 (0)), .ns, (.s []), .ns] [(0, 5, (.t 152))]), (some (149, true)), []⟩,
      ⟨(some 154), (.call 13 [(.c (.i .i64 (0))), (.t 153)]), (some (149, true)), []⟩,
      ⟨(some 155), (.call 11 [(.t 154), (.c (.i .i64 (-1)))]), (some (149, true)), []⟩,
      ⟨(some 156), (.pick (.t 149) (.t 155) (.c (.b false))), none, []⟩,
      ⟨(some 157), (.mov (.t 156)), none, []⟩,
      ⟨(some 158), (.build [(.i .i64 (0)), (.i .i64 (0)), (.i .i64 (0)), (.i .i64 (0)), .ns, .ns, (.i .i64 (0)), (.i .i64 (0)), (.i .i64 (0)), (.i .i64 (0)), (.i .i64 (0)), (.i .i64 (0)), (.s []), .ns, .ns, (.i .i64 (0))] [(3, 1, (.c (.i .i64 (-1))))]), (some (157, true)), []⟩,
      ⟨(some 159), (.call 11 [(.t 158), (.c (.i .i64 (0)))]), (some (157, true)), []⟩,
      ⟨(some 160), (.pick (.t 157) (.t 159) (.c (.b false))), none, []⟩,
      ⟨(some 13), (.mov (.t 160)), none, []⟩] [])
    (.seq (.region [⟨(some 161), (.mov (.c (.b true))), none, []⟩,
      ⟨(some 162), (.call 5 []), (some (161, true)), []⟩,
      ⟨(some 163), (.pick (.t 161) (.t 162) (.c (.b false))), none, []⟩,
      ⟨(some 164), (.mov (.t 163)), none, []⟩,
      ⟨(some 165), (.mov (.t 2)), (some (164, true)), []⟩,
      ⟨(some 166), (.pick (.t 164) (.t 165) (.c (.b false))), none, []⟩,
      ⟨(some 167), (.mov (.t 166)), none, []⟩,
      ⟨(some 168), (.load (some 16) (.t 3)), (some (167, true)), []⟩,
      ⟨(some 169), (.load (some 16) (.t 4)), (some (167, true)), []⟩,
      ⟨(some 170), (.call 12 [(.t 168), (.t 169)]), (some (167, true)), []⟩,
      ⟨(some 171), (.pick (.t 167) (.t 170) (.c (.b false))), none, []⟩,
      ⟨(some 172), (.mov (.t 171)), none, []⟩,
      ⟨(some 173), (.load (some 16) (.t 5)), (some (172, true)), []⟩,
      ⟨(some 174), (.load (some 16) (.t 6)), (some (172, true)), []⟩,
      ⟨(some 175), (.call 12 [(.t 173), (.t 174)]), (some (172, true)), []⟩,
      ⟨(some 176), (.pick (.t 172) (.t 175) (.c (.b false))), none, []⟩,
      ⟨(some 177), (.mov (.t 176)), none, []⟩,
      ⟨(some 178), (.mov (.t 7)), (some (177, true)), []⟩,
      ⟨(some 179), (.pick (.t 177) (.t 178) (.c (.b false))), none, []⟩,
      ⟨(some 180), (.mov (.t 179)), none, []⟩,
      ⟨(some 181), (.load (some 16) (.t 8)), (some (180, true)), []⟩,
      ⟨(some 182), (.load (some 16) (.t 9)), (some (180, true)), []⟩,
      ⟨(some 183), (.call 12 [(.t 181), (.t 182)]), (some (180, true)), []⟩,
      ⟨(some 184), (.pick (.t 180) (.t 183) (.c (.b false))), none, []⟩,
      ⟨(some 185), (.mov (.t 184)), none, []⟩,
      ⟨(some 186), (.mov (.t 10)), (some (185, true)), []⟩,
      ⟨(some 187), (.pick (.t 185) (.t 186) (.c (.b false))), none, []⟩,
      ⟨(some 188), (.mov (.t 187)), none, []⟩,
      ⟨(some 189), (.mov (.t 12)), (some (188, true)), []⟩,
      ⟨(some 190), (.bin .eql (.t 189) (.c (.i .i64 (2)))), (some (188, true)), []⟩,
      ⟨(some 191), (.pick (.t 188) (.t 190) (.c (.b false))), none, []⟩,
      ⟨(some 192), (.mov (.t 191)), none, []⟩,
      ⟨(some 193), (.mov (.t 13)), (some (192, true)), []⟩,
      ⟨(some 194), (.pick (.t 192) (.t 193) (.c (.b false))), none, []⟩,
      ⟨(some 0), (.mov (.t 194)), none, []⟩] [])
    .ret)))))))))))))),
    195, 0, [.t 0], 0⟩
theorem tr4 : trFunc Tryd.prog [([], []), ([], []), ([], []), ([], []), ([], []), ([], []), ([], []), ([], []), ([], []), ([], []), ([], []), ([], []), ([], []), ([], [])] 0 Tryd.f4 = some I4 := by kernel_rfl

/-- 'encore/encorelaw23.works'. -/
def I5 : IFunc :=
  ⟨(.seq (.region [⟨(some 0), (.mov (.c (.b false))), none, []⟩] [])
    (.seq (.region [⟨(some 6), (.call 15 [(.c (.i .i64 (0)))]), none, []⟩,
      ⟨(some 7), (.call 14 [(.c (.i .i64 (6))), (.c (.i .i64 (0))), (.t 6)]), none, []⟩,
      ⟨(some 1), (.alloc [(.i .i64 (0)), (.i .i64 (0)), .ns, (.s []), .ns]), none, []⟩,
      ⟨none, (.store 5 (.t 1) (.t 7)), none, []⟩] [])
    (.seq (.region [⟨(some 11), (.load (some 5) (.t 1)), none, []⟩,
      ⟨(some 14), (.load (some 5) (.t 1)), none, []⟩,
      ⟨(some 15), (.bsl 5 1 [(.i .i64 (0)), (.i .i64 (0)), .ns, (.s []), .ns] [(0, 5, (.t 14))]), none, []⟩,
      ⟨(some 8), (.call 15 [(.c (.i .i64 (0)))]), none, [(11, (.load (some 5) (.t 1)), none), (14, (.load (some 5) (.t 1)), none)]⟩,
      ⟨(some 9), (.call 17 [(.c (.i .i64 (1)))]), none, [(11, (.load (some 5) (.t 1)), none), (14, (.load (some 5) (.t 1)), none)]⟩,
      ⟨(some 10), (.call 18 [(.c (.i .i64 (14))), (.t 8), (.t 9)]), none, [(11, (.load (some 5) (.t 1)), none), (14, (.load (some 5) (.t 1)), none)]⟩,
      ⟨(some 12), (.bsl 5 2 [(.i .i64 (0)), (.i .i64 (0)), .ns, (.s []), .ns, (.i .i64 (0)), (.i .i64 (0)), .ns, (.s []), .ns] [(0, 5, (.t 10)), (5, 5, (.t 11))]), none, []⟩,
      ⟨(some 13), (.call 13 [(.c (.i .i64 (2))), (.t 12)]), none, [(14, (.load (some 5) (.t 1)), none)]⟩,
      ⟨(some 16), (.call 13 [(.c (.i .i64 (2))), (.t 15)]), none, []⟩,
      ⟨(some 17), (.call 12 [(.t 13), (.t 16)]), none, []⟩,
      ⟨(some 2), (.mov (.t 17)), none, []⟩] [])
    (.seq (.region [⟨(some 18), (.load (some 5) (.t 1)), none, []⟩,
      ⟨(some 19), (.load (some 5) (.t 1)), none, []⟩,
      ⟨(some 25), (.load (some 5) (.t 1)), none, []⟩,
      ⟨(some 20), (.call 16 [(.c (.i .i64 (0)))]), none, [(18, (.load (some 5) (.t 1)), none), (19, (.load (some 5) (.t 1)), none), (25, (.load (some 5) (.t 1)), none)]⟩,
      ⟨(some 21), (.call 16 [(.c (.i .i64 (1)))]), none, [(18, (.load (some 5) (.t 1)), none), (19, (.load (some 5) (.t 1)), none), (25, (.load (some 5) (.t 1)), none)]⟩,
      ⟨(some 22), (.call 18 [(.c (.i .i64 (9))), (.t 20), (.t 21)]), none, [(18, (.load (some 5) (.t 1)), none), (19, (.load (some 5) (.t 1)), none), (25, (.load (some 5) (.t 1)), none)]⟩,
      ⟨(some 23), (.bsl 5 3 [(.i .i64 (0)), (.i .i64 (0)), .ns, (.s []), .ns, (.i .i64 (0)), (.i .i64 (0)), .ns, (.s []), .ns, (.i .i64 (0)), (.i .i64 (0)), .ns, (.s []), .ns] [(0, 5, (.t 18)), (5, 5, (.t 19)), (10, 5, (.t 22))]), none, []⟩,
      ⟨(some 24), (.call 13 [(.c (.i .i64 (2))), (.t 23)]), none, [(25, (.load (some 5) (.t 1)), none)]⟩,
      ⟨(some 26), (.call 16 [(.c (.i .i64 (0)))]), none, [(25, (.load (some 5) (.t 1)), none)]⟩,
      ⟨(some 27), (.call 16 [(.c (.i .i64 (0)))]), none, [(25, (.load (some 5) (.t 1)), none)]⟩,
      ⟨(some 28), (.call 18 [(.c (.i .i64 (9))), (.t 26), (.t 27)]), none, [(25, (.load (some 5) (.t 1)), none)]⟩,
      ⟨(some 29), (.bsl 5 2 [(.i .i64 (0)), (.i .i64 (0)), .ns, (.s []), .ns, (.i .i64 (0)), (.i .i64 (0)), .ns, (.s []), .ns] [(0, 5, (.t 25)), (5, 5, (.t 28))]), none, []⟩,
      ⟨(some 30), (.call 13 [(.c (.i .i64 (2))), (.t 29)]), none, []⟩,
      ⟨(some 31), (.call 12 [(.t 24), (.t 30)]), none, []⟩,
      ⟨(some 3), (.mov (.t 31)), none, []⟩] [])
    (.seq (.region [⟨(some 32), (.call 15 [(.c (.i .i64 (0)))]), none, []⟩,
      ⟨(some 33), (.call 14 [(.c (.i .i64 (40))), (.c (.i .i64 (1))), (.t 32)]), none, []⟩,
      ⟨(some 34), (.call 15 [(.c (.i .i64 (0)))]), none, []⟩,
      ⟨(some 35), (.call 14 [(.c (.i .i64 (40))), (.c (.i .i64 (1))), (.t 34)]), none, []⟩,
      ⟨(some 36), (.call 15 [(.c (.i .i64 (0)))]), none, []⟩,
      ⟨(some 37), (.call 17 [(.c (.i .i64 (1)))]), none, []⟩,
      ⟨(some 38), (.call 18 [(.c (.i .i64 (43))), (.t 36), (.t 37)]), none, []⟩,
      ⟨(some 39), (.bsl 5 3 [(.i .i64 (0)), (.i .i64 (0)), .ns, (.s []), .ns, (.i .i64 (0)), (.i .i64 (0)), .ns, (.s []), .ns, (.i .i64 (0)), (.i .i64 (0)), .ns, (.s []), .ns] [(0, 5, (.t 33)), (5, 5, (.t 35)), (10, 5, (.t 38))]), none, []⟩,
      ⟨(some 40), (.call 13 [(.c (.i .i64 (2))), (.t 39)]), none, []⟩,
      ⟨(some 41), (.call 15 [(.c (.i .i64 (0)))]), none, []⟩,
      ⟨(some 42), (.call 14 [(.c (.i .i64 (40))), (.c (.i .i64 (1))), (.t 41)]), none, []⟩,
      ⟨(some 43), (.call 15 [(.c (.i .i64 (0)))]), none, []⟩,
      ⟨(some 44), (.call 17 [(.c (.i .i64 (1)))]), none, []⟩,
      ⟨(some 45), (.call 18 [(.c (.i .i64 (43))), (.t 43), (.t 44)]), none, []⟩,
      ⟨(some 46), (.bsl 5 2 [(.i .i64 (0)), (.i .i64 (0)), .ns, (.s []), .ns, (.i .i64 (0)), (.i .i64 (0)), .ns, (.s []), .ns] [(0, 5, (.t 42)), (5, 5, (.t 45))]), none, []⟩,
      ⟨(some 47), (.call 13 [(.c (.i .i64 (2))), (.t 46)]), none, []⟩,
      ⟨(some 48), (.call 12 [(.t 40), (.t 47)]), none, []⟩,
      ⟨(some 4), (.mov (.t 48)), none, []⟩] [])
    (.seq (.region [⟨(some 52), (.load (some 5) (.t 1)), none, []⟩,
      ⟨(some 5), (.alloc [(.i .i64 (0)), (.i .i64 (0)), (.i .i64 (0)), (.i .i64 (0)), .ns, .ns, (.i .i64 (0)), (.i .i64 (0)), (.i .i64 (0)), (.i .i64 (0)), (.i .i64 (0)), (.i .i64 (0)), (.s []), .ns, .ns, (.i .i64 (0))]), none, []⟩,
      ⟨(some 49), (.call 15 [(.c (.i .i64 (0)))]), none, [(52, (.load (some 5) (.t 1)), none)]⟩,
      ⟨(some 50), (.call 15 [(.c (.i .i64 (1)))]), none, [(52, (.load (some 5) (.t 1)), none)]⟩,
      ⟨(some 51), (.call 18 [(.c (.i .i64 (12))), (.t 49), (.t 50)]), none, [(52, (.load (some 5) (.t 1)), none)]⟩,
      ⟨(some 53), (.bsl 5 2 [(.i .i64 (0)), (.i .i64 (0)), .ns, (.s []), .ns, (.i .i64 (0)), (.i .i64 (0)), .ns, (.s []), .ns] [(0, 5, (.t 51)), (5, 5, (.t 52))]), none, []⟩,
      ⟨(some 54), (.call 13 [(.c (.i .i64 (2))), (.t 53)]), none, []⟩,
      ⟨none, (.store 16 (.t 5) (.t 54)), none, []⟩] [])
    (.seq (.region [⟨(some 55), (.mov (.t 2)), none, []⟩,
      ⟨(some 56), (.mov (.t 55)), none, []⟩,
      ⟨(some 57), (.mov (.t 3)), (some (56, true)), []⟩,
      ⟨(some 58), (.pick (.t 56) (.t 57) (.c (.b false))), none, []⟩,
      ⟨(some 59), (.mov (.t 58)), none, []⟩,
      ⟨(some 60), (.mov (.t 4)), (some (59, true)), []⟩,
      ⟨(some 61), (.pick (.t 59) (.t 60) (.c (.b false))), none, []⟩,
      ⟨(some 62), (.mov (.t 61)), none, []⟩,
      ⟨(some 63), (.load (some 16) (.t 5)), (some (62, true)), []⟩,
      ⟨(some 64), (.load (some 16) (.t 5)), (some (62, true)), []⟩,
      ⟨(some 65), (.call 12 [(.t 63), (.t 64)]), (some (62, true)), []⟩,
      ⟨(some 66), (.pick (.t 62) (.t 65) (.c (.b false))), none, []⟩,
      ⟨(some 67), (.mov (.t 66)), none, []⟩,
      ⟨(some 68), (.load (some 16) (.t 5)), (some (67, true)), []⟩,
      ⟨(some 69), (.call 11 [(.t 68), (.c (.i .i64 (0)))]), (some (67, true)), []⟩,
      ⟨(some 70), (.pick (.t 67) (.t 69) (.c (.b false))), none, []⟩,
      ⟨(some 71), (.mov (.t 70)), none, []⟩,
      ⟨(some 72), (.call 15 [(.c (.i .i64 (0)))]), (some (71, true)), []⟩,
      ⟨(some 73), (.call 17 [(.c (.i .i64 (1)))]), (some (71, true)), []⟩,
      ⟨(some 74), (.call 18 [(.c (.i .i64 (14))), (.t 72), (.t 73)]), (some (71, true)), []⟩,
      ⟨(some 75), (.bsl 5 1 [(.i .i64 (0)), (.i .i64 (0)), .ns, (.s []), .ns] [(0, 5, (.t 74))]), (some (71, true)), []⟩,
      ⟨(some 76), (.call 13 [(.c (.i .i64 (1))), (.t 75)]), (some (71, true)), []⟩,
      ⟨(some 77), (.call 11 [(.t 76), (.c (.i .i64 (0)))]), (some (71, true)), []⟩,
      ⟨(some 78), (.un .not (.t 77)), (some (71, true)), []⟩,
      ⟨(some 79), (.pick (.t 71) (.t 78) (.c (.b false))), none, []⟩,
      ⟨(some 0), (.mov (.t 79)), none, []⟩] [])
    .ret))))))),
    80, 0, [.t 0], 0⟩
theorem tr5 : trFunc Tryd.prog [([], []), ([], []), ([3, 6, 7, 0, 1, 2, 4, 5, 8, 9, 10], []), ([0, 1, 7, 2, 3, 4, 5, 6, 8, 9, 10, 11, 12, 13, 14], []), ([], []), ([3, 6, 0, 1, 2, 4, 5, 7], []), ([], [])] 0 Tryd.f5 = some I5 := by kernel_rfl

/-- 'encore/prune.Of'. -/
def L6a : ICode :=
  (.seq (.region [⟨(some 29), (.bin .lss (.t 28) (.t 27)), none, []⟩] [])
    (.seq (.cond (.t 29)
      .skip
      (.exit 0))
    (.seq (.block 1
      (.seq (.region [⟨(some 30), (.mov (.t 28)), none, []⟩,
        ⟨(some 31), (.iaddr 1 (.t 26) (.t 28)), none, []⟩,
        ⟨(some 32), (.load none (.t 31)), none, []⟩,
        ⟨(some 8), (.mov (.t 30)), none, []⟩,
        ⟨(some 9), (.mov (.t 32)), none, []⟩] [])
      (.seq (.region [⟨(some 33), (.load none (.t 6)), none, []⟩,
        ⟨(some 34), (.off (.t 1) 4), none, []⟩,
        ⟨(some 35), (.load none (.t 34)), none, []⟩,
        ⟨(some 36), (.lenk 0 (.t 35)), none, []⟩,
        ⟨(some 37), (.build [(.i .i64 (0)), (.i .i64 (0)), (.i .i64 (0)), (.i .i64 (0)), (.s []), .ns, .ns] [(0, 1, (.c (.i .i64 (2)))), (1, 1, (.t 36))]), none, []⟩,
        ⟨(some 38), (.bsl 7 1 [(.i .i64 (0)), (.i .i64 (0)), (.i .i64 (0)), (.i .i64 (0)), (.s []), .ns, .ns] [(0, 7, (.t 37))]), none, []⟩,
        ⟨(some 39), (.app 7 96 (.t 33) (.t 38)), none, []⟩,
        ⟨none, (.store 1 (.t 6) (.t 39)), none, []⟩] [])
      (.seq (.region [⟨(some 40), (.mov (.t 9)), none, []⟩] [])
      (.cond (.t 40)
        (.seq (.region [⟨(some 41), (.mov (.t 5)), none, []⟩,
          ⟨(some 42), (.nck (.t 41)), none, []⟩,
          ⟨(some 43), (.off (.t 42) 0), none, []⟩,
          ⟨(some 44), (.load none (.t 43)), none, []⟩,
          ⟨(some 45), (.mov (.t 8)), none, []⟩,
          ⟨(some 46), (.iaddr 5 (.t 44) (.t 45)), none, []⟩,
          ⟨(some 47), (.load (some 5) (.t 46)), none, []⟩,
          ⟨(some 10), (.alloc [(.i .i64 (0)), (.i .i64 (0)), .ns, (.s []), .ns]), none, []⟩,
          ⟨none, (.store 5 (.t 10) (.t 47)), none, []⟩] [])
        (.seq (.region [⟨(some 48), (.mov (.t 7)), none, []⟩,
          ⟨(some 49), (.off (.t 10) 2), none, []⟩,
          ⟨(some 50), (.load none (.t 49)), none, []⟩,
          ⟨(some 51), (.callv (.t 48) [(.t 50)]), none, []⟩,
          ⟨(some 52), (.off (.t 10) 2), none, []⟩,
          ⟨none, (.store 1 (.t 52) (.t 51)), none, []⟩] [])
        (.region [⟨(some 53), (.off (.t 1) 4), none, []⟩,
          ⟨(some 54), (.load none (.t 53)), none, []⟩,
          ⟨(some 55), (.load (some 5) (.t 10)), none, []⟩,
          ⟨(some 56), (.bsl 5 1 [(.i .i64 (0)), (.i .i64 (0)), .ns, (.s []), .ns] [(0, 5, (.t 55))]), none, []⟩,
          ⟨(some 57), (.app 5 80 (.t 54) (.t 56)), none, []⟩,
          ⟨(some 58), (.off (.t 1) 4), none, []⟩,
          ⟨none, (.store 1 (.t 58) (.t 57)), none, []⟩] [])))
        .skip)))))
    (.region [⟨(some 59), (.bin .add (.t 28) (.c (.i .i64 (1)))), none, []⟩,
      ⟨(some 28), (.mov (.t 59)), none, []⟩] []))))
def I6 : IFunc :=
  ⟨(.seq (.region [⟨(some 1), (.box (.t 0)), none, []⟩,
      ⟨(some 2), (.alloc [(.i .i64 (0)), (.i .i64 (0)), (.i .i64 (0)), (.i .i64 (0)), .ns, .ns, (.i .i64 (0)), (.i .i64 (0)), (.i .i64 (0)), (.i .i64 (0)), (.i .i64 (0)), (.i .i64 (0)), (.s []), .ns, .ns, (.i .i64 (0))]), none, []⟩,
      ⟨(some 3), (.mov (.c (.i .i64 (0)))), none, []⟩] [])
    (.seq (.seq (.region [⟨(some 11), (.load (some 16) (.t 1)), none, []⟩,
      ⟨(some 12), (.call 19 [(.t 11)]), none, []⟩,
      ⟨(some 4), (.mov (.t 12)), none, []⟩] [])
    (.seq (.region [⟨(some 13), (.mov (.t 4)), none, []⟩,
      ⟨(some 14), (.bin .neq (.t 13) (.c (.i .i64 (0)))), none, []⟩] [])
    (.cond (.t 14)
      (.seq (.region [⟨(some 15), (.build [(.i .i64 (0)), (.i .i64 (0)), (.i .i64 (0)), (.i .i64 (0)), .ns, .ns, (.i .i64 (0)), (.i .i64 (0)), (.i .i64 (0)), (.i .i64 (0)), (.i .i64 (0)), (.i .i64 (0)), (.s []), .ns, .ns, (.i .i64 (0))] []), none, []⟩,
        ⟨(some 16), (.mov (.t 4)), none, []⟩,
        ⟨none, (.store 16 (.t 2) (.t 15)), none, []⟩,
        ⟨(some 3), (.mov (.t 16)), none, []⟩] [])
      .ret)
      .skip)))
    (.seq (.region [⟨(some 18), (.load (some 16) (.t 1)), none, []⟩,
      ⟨(some 19), (.call 20 [(.t 18)]), none, []⟩,
      ⟨(some 17), (.mov (.t 19)), none, []⟩,
      ⟨(some 20), (.ext (.t 17) 0), none, []⟩,
      ⟨(some 21), (.ext (.t 17) 1), none, []⟩,
      ⟨(some 5), (.mov (.t 20)), none, []⟩,
      ⟨none, (.store 16 (.t 1) (.t 21)), none, []⟩] [])
    (.seq (.region [⟨(some 22), (.off (.t 1) 4), none, []⟩,
      ⟨none, (.store 1 (.t 22) (.c .ns)), none, []⟩] [])
    (.seq (.region [⟨(some 6), (.alloc [.ns]), none, []⟩] [])
    (.seq (.region [⟨(some 23), (.call 21 [(.t 6)]), none, []⟩,
      ⟨(some 7), (.mov (.t 23)), none, []⟩] [])
    (.seq (.seq (.region [⟨(some 24), (.mov (.t 5)), none, []⟩,
      ⟨(some 25), (.load (some 16) (.t 1)), none, []⟩,
      ⟨(some 26), (.call 22 [(.t 24), (.t 25)]), none, []⟩,
      ⟨(some 27), (.lenk 0 (.t 26)), none, []⟩,
      ⟨(some 28), (.mov (.c (.i .i64 (0)))), none, []⟩] [])
    (.block 0
      (.loop L6a)))
    (.seq (.region [⟨(some 60), (.mov (.t 7)), none, []⟩,
      ⟨(some 61), (.off (.t 1) 5), none, []⟩,
      ⟨(some 62), (.load none (.t 61)), none, []⟩,
      ⟨(some 64), (.mov (.t 7)), none, []⟩,
      ⟨(some 65), (.off (.t 1) 8), none, []⟩,
      ⟨(some 66), (.load (some 7) (.t 65)), none, []⟩,
      ⟨(some 67), (.bsl 7 1 [(.i .i64 (0)), (.i .i64 (0)), (.i .i64 (0)), (.i .i64 (0)), (.s []), .ns, .ns] [(0, 7, (.t 66))]), none, []⟩,
      ⟨(some 63), (.callv (.t 60) [(.t 62)]), none, [(66, (.load (some 7) (.t 65)), none)]⟩,
      ⟨(some 71), (.off (.t 1) 5), none, []⟩,
      ⟨(some 68), (.callv (.t 64) [(.t 67)]), none, []⟩,
      ⟨(some 69), (.iaddr 7 (.t 68) (.c (.i .i64 (0)))), none, []⟩,
      ⟨(some 70), (.load (some 7) (.t 69)), none, []⟩,
      ⟨none, (.store 1 (.t 71) (.t 63)), none, [(70, (.load (some 7) (.t 69)), none)]⟩,
      ⟨(some 72), (.off (.t 1) 8), none, []⟩,
      ⟨none, (.store 7 (.t 72) (.t 70)), none, []⟩] [])
    (.seq (.region [⟨(some 73), (.load (some 16) (.t 1)), none, []⟩,
      ⟨none, (.store 16 (.t 2) (.t 73)), none, []⟩,
      ⟨(some 3), (.mov (.c (.i .i64 (0)))), none, []⟩] [])
    .ret))))))))),
    74, 1, [.c 2 (some 16), .t 3], 0⟩
theorem tr6 : trFunc Tryd.prog [([], []), ([], []), ([], []), ([], []), ([], []), ([], []), ([], []), ([], []), ([], []), ([], []), ([], []), ([], []), ([], []), ([], []), ([], []), ([], []), ([], []), ([], []), ([], []), ([], []), ([0, 1, 2, 4, 5, 6, 7, 3, 11, 8, 9, 10, 12, 13, 14], []), ([], [])] 0 Tryd.f6 = some I6 := by kernel_rfl

/-- 'encore/encorelaw23.told'. -/
def L8a : ICode :=
  (.seq (.seq (.region [⟨(some 20), (.mov (.t 4)), none, []⟩,
      ⟨(some 21), (.off (.t 1) 4), none, []⟩,
      ⟨(some 22), (.load none (.t 21)), none, []⟩,
      ⟨(some 23), (.lenk 0 (.t 22)), none, []⟩,
      ⟨(some 24), (.bin .lss (.t 20) (.t 23)), none, []⟩] [])
    (.cond (.t 24)
      .skip
      (.exit 0)))
    (.seq (.block 1
      (.region [⟨(some 27), (.off (.t 3) 4), none, []⟩,
        ⟨(some 28), (.load none (.t 27)), none, []⟩,
        ⟨(some 29), (.off (.t 1) 4), none, []⟩,
        ⟨(some 30), (.load none (.t 29)), none, []⟩,
        ⟨(some 31), (.mov (.t 4)), none, []⟩,
        ⟨(some 32), (.iaddr 5 (.t 30) (.t 31)), none, []⟩,
        ⟨(some 33), (.off (.t 32) 0), none, []⟩,
        ⟨(some 34), (.load none (.t 33)), none, []⟩,
        ⟨(some 35), (.off (.t 1) 4), none, []⟩,
        ⟨(some 36), (.load none (.t 35)), none, []⟩,
        ⟨(some 37), (.mov (.t 4)), none, []⟩,
        ⟨(some 38), (.iaddr 5 (.t 36) (.t 37)), none, []⟩,
        ⟨(some 39), (.off (.t 38) 1), none, []⟩,
        ⟨(some 40), (.load none (.t 39)), none, []⟩,
        ⟨(some 41), (.off (.t 1) 4), none, []⟩,
        ⟨(some 42), (.load none (.t 41)), none, []⟩,
        ⟨(some 43), (.mov (.t 4)), none, []⟩,
        ⟨(some 44), (.iaddr 5 (.t 42) (.t 43)), none, []⟩,
        ⟨(some 45), (.off (.t 44) 2), none, []⟩,
        ⟨(some 46), (.load none (.t 45)), none, []⟩,
        ⟨(some 48), (.off (.t 1) 4), none, []⟩,
        ⟨(some 49), (.load none (.t 48)), none, []⟩,
        ⟨(some 50), (.mov (.t 4)), none, []⟩,
        ⟨(some 51), (.iaddr 5 (.t 49) (.t 50)), none, []⟩,
        ⟨(some 52), (.off (.t 51) 3), none, []⟩,
        ⟨(some 53), (.load none (.t 52)), none, []⟩,
        ⟨(some 54), (.off (.t 1) 4), none, []⟩,
        ⟨(some 55), (.load none (.t 54)), none, []⟩,
        ⟨(some 56), (.mov (.t 4)), none, []⟩,
        ⟨(some 57), (.iaddr 5 (.t 55) (.t 56)), none, []⟩,
        ⟨(some 58), (.off (.t 57) 4), none, []⟩,
        ⟨(some 59), (.load none (.t 58)), none, []⟩,
        ⟨(some 47), (.call 25 [(.t 46)]), none, [(28, (.load none (.t 27)), none), (30, (.load none (.t 29)), none), (34, (.load none (.t 33)), none), (36, (.load none (.t 35)), none), (40, (.load none (.t 39)), none), (49, (.load none (.t 48)), none), (53, (.load none (.t 52)), none), (55, (.load none (.t 54)), none), (59, (.load none (.t 58)), none)]⟩,
        ⟨(some 60), (.build [(.i .i64 (0)), (.i .i64 (0)), .ns, (.s []), .ns] [(0, 1, (.t 34)), (1, 1, (.t 40)), (2, 1, (.t 47)), (3, 1, (.t 53)), (4, 1, (.t 59))]), none, []⟩,
        ⟨(some 61), (.bsl 5 1 [(.i .i64 (0)), (.i .i64 (0)), .ns, (.s []), .ns] [(0, 5, (.t 60))]), none, []⟩,
        ⟨(some 62), (.app 5 80 (.t 28) (.t 61)), none, []⟩,
        ⟨(some 63), (.off (.t 3) 4), none, []⟩,
        ⟨none, (.store 1 (.t 63) (.t 62)), none, []⟩] []))
    (.region [⟨(some 25), (.mov (.t 4)), none, []⟩,
      ⟨(some 26), (.bin .add (.t 25) (.c (.i .i64 (1)))), none, []⟩,
      ⟨(some 4), (.mov (.t 26)), none, []⟩] [])))
def I8 : IFunc :=
  ⟨(.seq (.region [⟨(some 1), (.box (.t 0)), none, []⟩,
      ⟨(some 2), (.alloc [(.i .i64 (0)), (.i .i64 (0)), (.i .i64 (0)), (.i .i64 (0)), .ns, .ns, (.i .i64 (0)), (.i .i64 (0)), (.i .i64 (0)), (.i .i64 (0)), (.i .i64 (0)), (.i .i64 (0)), (.s []), .ns, .ns, (.i .i64 (0))]), none, []⟩] [])
    (.seq (.region [⟨(some 5), (.off (.t 1) 0), none, []⟩,
      ⟨(some 6), (.load none (.t 5)), none, []⟩,
      ⟨(some 7), (.off (.t 1) 1), none, []⟩,
      ⟨(some 8), (.load none (.t 7)), none, []⟩,
      ⟨(some 9), (.off (.t 1) 2), none, []⟩,
      ⟨(some 10), (.load none (.t 9)), none, []⟩,
      ⟨(some 11), (.off (.t 1) 3), none, []⟩,
      ⟨(some 12), (.load none (.t 11)), none, []⟩,
      ⟨(some 13), (.off (.t 1) 6), none, []⟩,
      ⟨(some 14), (.load none (.t 13)), none, []⟩,
      ⟨(some 15), (.off (.t 1) 7), none, []⟩,
      ⟨(some 16), (.load none (.t 15)), none, []⟩,
      ⟨(some 17), (.off (.t 1) 15), none, []⟩,
      ⟨(some 18), (.load none (.t 17)), none, []⟩,
      ⟨(some 19), (.build [(.i .i64 (0)), (.i .i64 (0)), (.i .i64 (0)), (.i .i64 (0)), .ns, .ns, (.i .i64 (0)), (.i .i64 (0)), (.i .i64 (0)), (.i .i64 (0)), (.i .i64 (0)), (.i .i64 (0)), (.s []), .ns, .ns, (.i .i64 (0))] [(0, 1, (.t 6)), (1, 1, (.t 8)), (2, 1, (.t 10)), (3, 1, (.t 12)), (6, 1, (.t 14)), (7, 1, (.t 16)), (15, 1, (.t 18))]), none, []⟩,
      ⟨(some 3), (.alloc [(.i .i64 (0)), (.i .i64 (0)), (.i .i64 (0)), (.i .i64 (0)), .ns, .ns, (.i .i64 (0)), (.i .i64 (0)), (.i .i64 (0)), (.i .i64 (0)), (.i .i64 (0)), (.i .i64 (0)), (.s []), .ns, .ns, (.i .i64 (0))]), none, []⟩,
      ⟨none, (.store 16 (.t 3) (.t 19)), none, []⟩] [])
    (.seq (.seq (.region [⟨(some 4), (.mov (.c (.i .i64 (0)))), none, []⟩] [])
    (.block 0
      (.loop L8a)))
    (.seq (.region [⟨(some 64), (.off (.t 1) 5), none, []⟩,
      ⟨(some 65), (.load none (.t 64)), none, []⟩,
      ⟨(some 66), (.call 25 [(.t 65)]), none, []⟩,
      ⟨(some 67), (.off (.t 3) 5), none, []⟩,
      ⟨none, (.store 1 (.t 67) (.t 66)), none, []⟩] [])
    (.seq (.region [⟨(some 68), (.off (.t 1) 8), none, []⟩,
      ⟨(some 69), (.off (.t 68) 0), none, []⟩,
      ⟨(some 70), (.load none (.t 69)), none, []⟩,
      ⟨(some 71), (.off (.t 1) 8), none, []⟩,
      ⟨(some 72), (.off (.t 71) 1), none, []⟩,
      ⟨(some 73), (.load none (.t 72)), none, []⟩,
      ⟨(some 74), (.off (.t 1) 8), none, []⟩,
      ⟨(some 75), (.off (.t 74) 2), none, []⟩,
      ⟨(some 76), (.load (some 5) (.t 75)), none, []⟩,
      ⟨(some 77), (.build [(.i .i64 (0)), (.i .i64 (0)), (.i .i64 (0)), (.i .i64 (0)), (.s []), .ns, .ns] [(0, 1, (.t 70)), (1, 1, (.t 73)), (2, 5, (.t 76))]), none, []⟩,
      ⟨(some 78), (.off (.t 3) 8), none, []⟩,
      ⟨none, (.store 7 (.t 78) (.t 77)), none, []⟩] [])
    (.seq (.region [⟨(some 79), (.load (some 16) (.t 3)), none, []⟩,
      ⟨none, (.store 16 (.t 2) (.t 79)), none, []⟩] [])
    .ret)))))),
    80, 1, [.c 2 (some 16)], 0⟩
theorem tr8 : trFunc Tryd.prog [([], []), ([], []), ([], []), ([], []), ([], []), ([0, 1, 2, 3, 4, 5, 6, 7, 8, 9, 10, 11, 12, 13, 14, 15, 16, 17, 18, 19, 21, 22, 23, 24, 25, 26, 27, 28, 29, 30, 31, 32, 20, 33, 34, 35, 36, 37], []), ([], []), ([], []), ([], []), ([], [])] 0 Tryd.f8 = some I8 := by kernel_rfl

/-- 'encore/encoreref20.SameIns'. -/
def I9 : IFunc :=
  ⟨(.seq (.region [⟨(some 2), (.box (.t 0)), none, []⟩,
      ⟨(some 3), (.box (.t 1)), none, []⟩,
      ⟨(some 4), (.mov (.c (.b false))), none, []⟩] [])
    (.seq (.region [⟨(some 5), (.off (.t 2) 0), none, []⟩,
      ⟨(some 6), (.load none (.t 5)), none, []⟩,
      ⟨(some 7), (.off (.t 3) 0), none, []⟩,
      ⟨(some 8), (.load none (.t 7)), none, []⟩,
      ⟨(some 9), (.bin .eql (.t 6) (.t 8)), none, []⟩,
      ⟨(some 10), (.mov (.t 9)), none, []⟩,
      ⟨(some 11), (.off (.t 2) 1), (some (10, true)), []⟩,
      ⟨(some 12), (.load none (.t 11)), (some (10, true)), []⟩,
      ⟨(some 13), (.off (.t 3) 1), (some (10, true)), []⟩,
      ⟨(some 14), (.load none (.t 13)), (some (10, true)), []⟩,
      ⟨(some 15), (.bin .eql (.t 12) (.t 14)), (some (10, true)), []⟩,
      ⟨(some 16), (.pick (.t 10) (.t 15) (.c (.b false))), none, []⟩,
      ⟨(some 17), (.mov (.t 16)), none, []⟩,
      ⟨(some 18), (.off (.t 2) 3), (some (17, true)), []⟩,
      ⟨(some 19), (.load none (.t 18)), (some (17, true)), []⟩,
      ⟨(some 20), (.off (.t 3) 3), (some (17, true)), []⟩,
      ⟨(some 21), (.load none (.t 20)), (some (17, true)), []⟩,
      ⟨(some 22), (.bin .eql (.t 19) (.t 21)), (some (17, true)), []⟩,
      ⟨(some 23), (.pick (.t 17) (.t 22) (.c (.b false))), none, []⟩,
      ⟨(some 24), (.mov (.t 23)), none, []⟩,
      ⟨(some 25), (.off (.t 2) 2), (some (24, true)), []⟩,
      ⟨(some 26), (.load none (.t 25)), (some (24, true)), []⟩,
      ⟨(some 27), (.off (.t 3) 2), (some (24, true)), []⟩,
      ⟨(some 28), (.load none (.t 27)), (some (24, true)), []⟩,
      ⟨(some 29), (.call 26 [(.t 26), (.t 28)]), (some (24, true)), []⟩,
      ⟨(some 30), (.pick (.t 24) (.t 29) (.c (.b false))), none, []⟩,
      ⟨(some 31), (.mov (.t 30)), none, []⟩,
      ⟨(some 32), (.off (.t 2) 4), (some (31, true)), []⟩,
      ⟨(some 33), (.load none (.t 32)), (some (31, true)), []⟩,
      ⟨(some 34), (.off (.t 3) 4), (some (31, true)), []⟩,
      ⟨(some 35), (.load none (.t 34)), (some (31, true)), []⟩,
      ⟨(some 36), (.call 27 [(.t 33), (.t 35)]), (some (31, true)), []⟩,
      ⟨(some 37), (.pick (.t 31) (.t 36) (.c (.b false))), none, []⟩,
      ⟨(some 4), (.mov (.t 37)), none, []⟩] [])
    .ret)),
    38, 2, [.t 4], 0⟩
theorem tr9 : trFunc Tryd.prog [([], []), ([], [])] 0 Tryd.f9 = some I9 := by kernel_rfl

/-- 'encore/prune.Fails'. -/
def L11a : ICode :=
  (.seq (.region [⟨(some 31), (.bin .lss (.t 30) (.t 29)), none, []⟩] [])
    (.seq (.cond (.t 31)
      .skip
      (.exit 0))
    (.seq (.block 1
      (.seq (.region [⟨(some 32), (.iaddr 5 (.t 28) (.t 30)), none, []⟩,
        ⟨(some 33), (.load (some 5) (.t 32)), none, []⟩,
        ⟨(some 7), (.alloc [(.i .i64 (0)), (.i .i64 (0)), .ns, (.s []), .ns]), none, []⟩,
        ⟨none, (.store 5 (.t 7) (.t 33)), none, []⟩] [])
      (.region [⟨(some 34), (.mov (.t 5)), none, []⟩,
        ⟨(some 35), (.load (some 5) (.t 7)), none, []⟩,
        ⟨(some 36), (.call 29 [(.t 34), (.t 35)]), none, []⟩] [])))
    (.region [⟨(some 37), (.bin .add (.t 30) (.c (.i .i64 (1)))), none, []⟩,
      ⟨(some 30), (.mov (.t 37)), none, []⟩] []))))
def I11 : IFunc :=
  ⟨(.seq (.region [⟨(some 2), (.box (.t 0)), none, []⟩,
      ⟨(some 4), (.mov (.c (.b false))), none, []⟩] [])
    (.seq (.seq (.region [⟨(some 8), (.load (some 16) (.t 2)), none, []⟩,
      ⟨(some 9), (.call 19 [(.t 8)]), none, []⟩,
      ⟨(some 10), (.bin .neq (.t 9) (.c (.i .i64 (0)))), none, []⟩,
      ⟨(some 11), (.mov (.t 10)), none, []⟩,
      ⟨(some 12), (.mov (.t 1)), (some (11, false)), []⟩,
      ⟨(some 13), (.bin .lss (.t 12) (.c (.i .i64 (0)))), (some (11, false)), []⟩,
      ⟨(some 14), (.pick (.t 11) (.c (.b true)) (.t 13)), none, []⟩,
      ⟨(some 15), (.mov (.t 14)), none, []⟩,
      ⟨(some 16), (.mov (.t 1)), (some (15, false)), []⟩,
      ⟨(some 17), (.off (.t 2) 4), (some (15, false)), []⟩,
      ⟨(some 18), (.load none (.t 17)), (some (15, false)), []⟩,
      ⟨(some 19), (.lenk 0 (.t 18)), (some (15, false)), []⟩,
      ⟨(some 20), (.bin .geq (.t 16) (.t 19)), (some (15, false)), []⟩,
      ⟨(some 21), (.pick (.t 15) (.c (.b true)) (.t 20)), none, []⟩] [])
    (.cond (.t 21)
      (.seq (.region [⟨(some 4), (.mov (.c (.b true))), none, []⟩] [])
      .ret)
      .skip))
    (.seq (.region [⟨(some 22), (.off (.t 2) 3), none, []⟩,
      ⟨(some 23), (.load none (.t 22)), none, []⟩,
      ⟨(some 24), (.call 28 [(.t 23)]), none, []⟩,
      ⟨(some 5), (.mov (.t 24)), none, []⟩] [])
    (.seq (.seq (.region [⟨(some 25), (.off (.t 2) 4), none, []⟩,
      ⟨(some 26), (.load none (.t 25)), none, []⟩,
      ⟨(some 27), (.mov (.t 1)), none, []⟩,
      ⟨(some 28), (.sl 5 (.t 26) none (some (.t 27)) none), none, []⟩,
      ⟨(some 29), (.lenk 0 (.t 28)), none, []⟩,
      ⟨(some 30), (.mov (.c (.i .i64 (0)))), none, []⟩] [])
    (.block 0
      (.loop L11a)))
    (.seq (.region [⟨(some 38), (.mov (.t 5)), none, []⟩,
      ⟨(some 39), (.off (.t 2) 4), none, []⟩,
      ⟨(some 40), (.load none (.t 39)), none, []⟩,
      ⟨(some 41), (.mov (.t 1)), none, []⟩,
      ⟨(some 42), (.iaddr 5 (.t 40) (.t 41)), none, []⟩,
      ⟨(some 43), (.load (some 5) (.t 42)), none, []⟩,
      ⟨(some 44), (.call 30 [(.t 38), (.t 43)]), none, []⟩,
      ⟨(some 45), (.un .not (.t 44)), none, []⟩,
      ⟨(some 4), (.mov (.t 45)), none, []⟩] [])
    .ret))))),
    46, 2, [.t 4], 0⟩
theorem tr11 : trFunc Tryd.prog [([], []), ([], []), ([], []), ([], []), ([], []), ([], []), ([], []), ([], []), ([], []), ([], []), ([], []), ([], [])] 0 Tryd.f11 = some I11 := by kernel_rfl

/-- 'encore/encorelaw23.pruned'. -/
def I12 : IFunc :=
  ⟨(.seq (.region [⟨(some 2), (.box (.t 0)), none, []⟩,
      ⟨(some 3), (.box (.t 1)), none, []⟩,
      ⟨(some 4), (.mov (.c (.b false))), none, []⟩] [])
    (.seq (.region [⟨(some 8), (.load (some 16) (.t 2)), none, []⟩,
      ⟨(some 9), (.call 6 [(.t 8)]), none, []⟩,
      ⟨(some 7), (.mov (.t 9)), none, []⟩,
      ⟨(some 10), (.ext (.t 7) 0), none, []⟩,
      ⟨(some 11), (.ext (.t 7) 1), none, []⟩,
      ⟨(some 5), (.alloc [(.i .i64 (0)), (.i .i64 (0)), (.i .i64 (0)), (.i .i64 (0)), .ns, .ns, (.i .i64 (0)), (.i .i64 (0)), (.i .i64 (0)), (.i .i64 (0)), (.i .i64 (0)), (.i .i64 (0)), (.s []), .ns, .ns, (.i .i64 (0))]), none, []⟩,
      ⟨none, (.store 16 (.t 5) (.t 10)), none, []⟩,
      ⟨(some 6), (.mov (.t 11)), none, []⟩] [])
    (.seq (.region [⟨(some 12), (.mov (.t 6)), none, []⟩,
      ⟨(some 13), (.bin .eql (.t 12) (.c (.i .i64 (0)))), none, []⟩,
      ⟨(some 14), (.mov (.t 13)), none, []⟩,
      ⟨(some 15), (.load (some 16) (.t 5)), (some (14, true)), []⟩,
      ⟨(some 17), (.load (some 16) (.t 3)), (some (14, true)), []⟩,
      ⟨(some 16), (.call 8 [(.t 15)]), (some (14, true)), [(17, (.load (some 16) (.t 3)), (some (14, true)))]⟩,
      ⟨(some 18), (.call 8 [(.t 17)]), (some (14, true)), []⟩,
      ⟨(some 19), (.call 31 [(.t 16), (.t 18)]), (some (14, true)), []⟩,
      ⟨(some 20), (.pick (.t 14) (.t 19) (.c (.b false))), none, []⟩,
      ⟨(some 4), (.mov (.t 20)), none, []⟩] [])
    .ret))),
    21, 2, [.t 4], 0⟩
theorem tr12 : trFunc Tryd.prog [([], []), ([], []), ([0, 1, 2, 3, 5, 4, 6, 7, 8, 9], [])] 0 Tryd.f12 = some I12 := by kernel_rfl

/-- 'encore/encorelaw23.of'. -/
def I13 : IFunc :=
  ⟨(.seq (.region [⟨(some 4), (.alloc [(.i .i64 (0)), (.i .i64 (0)), (.i .i64 (0)), (.i .i64 (0)), .ns, .ns, (.i .i64 (0)), (.i .i64 (0)), (.i .i64 (0)), (.i .i64 (0)), (.i .i64 (0)), (.i .i64 (0)), (.s []), .ns, .ns, (.i .i64 (0))]), none, []⟩] [])
    (.seq (.region [⟨(some 5), (.mov (.t 0)), none, []⟩,
      ⟨(some 6), (.mov (.t 1)), none, []⟩,
      ⟨(some 7), (.mov (.t 1)), none, []⟩,
      ⟨(some 8), (.lenk 0 (.t 7)), none, []⟩,
      ⟨(some 9), (.bin .sub (.t 8) (.c (.i .i64 (1)))), none, []⟩,
      ⟨(some 10), (.mm true (.t 9) [(.c (.i .i64 (0)))]), none, []⟩,
      ⟨(some 11), (.call 16 [(.t 10)]), none, []⟩,
      ⟨(some 12), (.bsl 7 1 [(.i .i64 (0)), (.i .i64 (0)), (.i .i64 (0)), (.i .i64 (0)), (.s []), .ns, .ns] [(0, 7, (.t 11))]), none, []⟩,
      ⟨(some 13), (.build [(.i .i64 (0)), (.i .i64 (0)), (.i .i64 (0)), (.i .i64 (0)), .ns, .ns, (.i .i64 (0)), (.i .i64 (0)), (.i .i64 (0)), (.i .i64 (0)), (.i .i64 (0)), (.i .i64 (0)), (.s []), .ns, .ns, (.i .i64 (0))] [(2, 1, (.c (.i .i64 (1)))), (3, 1, (.t 5)), (4, 1, (.t 6)), (5, 1, (.t 12))]), none, []⟩,
      ⟨none, (.store 16 (.t 4) (.t 13)), none, []⟩] [])
    .ret)),
    14, 2, [.c 4 (some 16)], 0⟩
theorem tr13 : trFunc Tryd.prog [([], []), ([], [])] 0 Tryd.f13 = some I13 := by kernel_rfl

/-- 'encore/encorelaw23.one'. -/
def I14 : IFunc :=
  ⟨(.seq (.region [⟨(some 5), (.box (.t 2)), none, []⟩,
      ⟨(some 6), (.alloc [(.i .i64 (0)), (.i .i64 (0)), .ns, (.s []), .ns]), none, []⟩] [])
    (.seq (.region [⟨(some 7), (.mov (.t 0)), none, []⟩,
      ⟨(some 8), (.mov (.t 1)), none, []⟩,
      ⟨(some 9), (.load (some 7) (.t 5)), none, []⟩,
      ⟨(some 10), (.bsl 7 1 [(.i .i64 (0)), (.i .i64 (0)), (.i .i64 (0)), (.i .i64 (0)), (.s []), .ns, .ns] [(0, 7, (.t 9))]), none, []⟩,
      ⟨(some 11), (.build [(.i .i64 (0)), (.i .i64 (0)), .ns, (.s []), .ns] [(0, 1, (.t 7)), (1, 1, (.t 8)), (2, 1, (.t 10))]), none, []⟩,
      ⟨none, (.store 5 (.t 6) (.t 11)), none, []⟩] [])
    .ret)),
    12, 3, [.c 6 (some 5)], 0⟩
theorem tr14 : trFunc Tryd.prog [([], []), ([], [])] 0 Tryd.f14 = some I14 := by kernel_rfl

/-- 'encore/encorelaw23.home'. -/
def I15 : IFunc :=
  ⟨(.seq (.region [⟨(some 2), (.alloc [(.i .i64 (0)), (.i .i64 (0)), (.i .i64 (0)), (.i .i64 (0)), (.s []), .ns, .ns]), none, []⟩] [])
    (.seq (.region [⟨(some 3), (.mov (.t 0)), none, []⟩,
      ⟨(some 4), (.build [(.i .i64 (0)), (.i .i64 (0)), (.i .i64 (0)), (.i .i64 (0)), (.s []), .ns, .ns] [(0, 1, (.c (.i .i64 (1)))), (1, 1, (.t 3))]), none, []⟩,
      ⟨none, (.store 7 (.t 2) (.t 4)), none, []⟩] [])
    .ret)),
    5, 1, [.c 2 (some 7)], 0⟩
theorem tr15 : trFunc Tryd.prog [([], []), ([], [])] 0 Tryd.f15 = some I15 := by kernel_rfl

/-- 'encore/encorelaw23.step'. -/
def I16 : IFunc :=
  ⟨(.seq (.region [⟨(some 2), (.alloc [(.i .i64 (0)), (.i .i64 (0)), (.i .i64 (0)), (.i .i64 (0)), (.s []), .ns, .ns]), none, []⟩] [])
    (.seq (.region [⟨(some 3), (.mov (.t 0)), none, []⟩,
      ⟨(some 4), (.build [(.i .i64 (0)), (.i .i64 (0)), (.i .i64 (0)), (.i .i64 (0)), (.s []), .ns, .ns] [(0, 1, (.c (.i .i64 (2)))), (1, 1, (.t 3))]), none, []⟩,
      ⟨none, (.store 7 (.t 2) (.t 4)), none, []⟩] [])
    .ret)),
    5, 1, [.c 2 (some 7)], 0⟩
theorem tr16 : trFunc Tryd.prog [([], []), ([], [])] 0 Tryd.f16 = some I16 := by kernel_rfl

/-- 'encore/encorelaw23.num'. -/
def I17 : IFunc :=
  ⟨(.seq (.region [⟨(some 2), (.alloc [(.i .i64 (0)), (.i .i64 (0)), (.i .i64 (0)), (.i .i64 (0)), (.s []), .ns, .ns]), none, []⟩] [])
    (.seq (.region [⟨(some 3), (.mov (.t 0)), none, []⟩,
      ⟨(some 4), (.build [(.i .i64 (0)), (.i .i64 (0)), (.s []), .ns, .ns] [(0, 1, (.c (.i .i64 (1)))), (1, 1, (.t 3))]), none, []⟩,
      ⟨(some 5), (.build [(.i .i64 (0)), (.i .i64 (0)), (.i .i64 (0)), (.i .i64 (0)), (.s []), .ns, .ns] [(0, 1, (.c (.i .i64 (3)))), (2, 5, (.t 4))]), none, []⟩,
      ⟨none, (.store 7 (.t 2) (.t 5)), none, []⟩] [])
    .ret)),
    6, 1, [.c 2 (some 7)], 0⟩
theorem tr17 : trFunc Tryd.prog [([], []), ([], [])] 0 Tryd.f17 = some I17 := by kernel_rfl

/-- 'encore/encorelaw23.two'. -/
def I18 : IFunc :=
  ⟨(.seq (.region [⟨(some 4), (.box (.t 1)), none, []⟩,
      ⟨(some 5), (.box (.t 2)), none, []⟩,
      ⟨(some 6), (.alloc [(.i .i64 (0)), (.i .i64 (0)), .ns, (.s []), .ns]), none, []⟩] [])
    (.seq (.region [⟨(some 7), (.mov (.t 0)), none, []⟩,
      ⟨(some 8), (.load (some 7) (.t 4)), none, []⟩,
      ⟨(some 9), (.load (some 7) (.t 5)), none, []⟩,
      ⟨(some 10), (.bsl 7 2 [(.i .i64 (0)), (.i .i64 (0)), (.i .i64 (0)), (.i .i64 (0)), (.s []), .ns, .ns, (.i .i64 (0)), (.i .i64 (0)), (.i .i64 (0)), (.i .i64 (0)), (.s []), .ns, .ns] [(0, 7, (.t 8)), (7, 7, (.t 9))]), none, []⟩,
      ⟨(some 11), (.build [(.i .i64 (0)), (.i .i64 (0)), .ns, (.s []), .ns] [(0, 1, (.t 7)), (2, 1, (.t 10))]), none, []⟩,
      ⟨none, (.store 5 (.t 6) (.t 11)), none, []⟩] [])
    .ret)),
    12, 3, [.c 6 (some 5)], 0⟩
theorem tr18 : trFunc Tryd.prog [([], []), ([], [])] 0 Tryd.f18 = some I18 := by kernel_rfl

/-- 'encore/lift.Check'. -/
def L19a : ICode :=
  (.seq (.region [⟨(some 26), (.bin .lss (.t 25) (.t 24)), none, []⟩] [])
    (.seq (.cond (.t 26)
      .skip
      (.exit 0))
    (.seq (.block 1
      (.seq (.region [⟨(some 27), (.iaddr 1 (.t 23) (.t 25)), none, []⟩,
        ⟨(some 28), (.load none (.t 27)), none, []⟩,
        ⟨(some 4), (.mov (.t 28)), none, []⟩] [])
      (.seq (.region [⟨(some 29), (.mov (.t 4)), none, []⟩,
        ⟨(some 30), (.bin .lss (.t 29) (.c (.i .i64 (0)))), none, []⟩] [])
      (.cond (.t 30)
        (.seq (.region [⟨(some 2), (.mov (.c (.i .i64 (2)))), none, []⟩] [])
        .ret)
        .skip))))
    (.region [⟨(some 31), (.bin .add (.t 25) (.c (.i .i64 (1)))), none, []⟩,
      ⟨(some 25), (.mov (.t 31)), none, []⟩] []))))
def L19b : ICode :=
  (.seq (.region [⟨(some 69), (.bin .lss (.t 68) (.t 67)), none, []⟩] [])
    (.seq (.cond (.t 69)
      .skip
      (.exit 2))
    (.seq (.block 3
      (.seq (.region [⟨(some 70), (.mov (.t 68)), none, []⟩,
        ⟨(some 71), (.iaddr 5 (.t 66) (.t 68)), none, []⟩,
        ⟨(some 72), (.load (some 5) (.t 71)), none, []⟩,
        ⟨(some 6), (.alloc [(.i .i64 (0)), (.i .i64 (0)), .ns, (.s []), .ns]), none, []⟩,
        ⟨(some 5), (.mov (.t 70)), none, []⟩,
        ⟨none, (.store 5 (.t 6) (.t 72)), none, []⟩] [])
      (.seq (.region [⟨(some 73), (.load (some 5) (.t 6)), none, []⟩,
        ⟨(some 74), (.off (.t 1) 3), none, []⟩,
        ⟨(some 75), (.load none (.t 74)), none, []⟩,
        ⟨(some 76), (.mov (.t 5)), none, []⟩,
        ⟨(some 77), (.call 32 [(.t 73), (.t 75), (.t 76)]), none, []⟩,
        ⟨(some 78), (.un .not (.t 77)), none, []⟩] [])
      (.cond (.t 78)
        (.seq (.region [⟨(some 2), (.mov (.c (.i .i64 (2)))), none, []⟩] [])
        .ret)
        .skip))))
    (.region [⟨(some 79), (.bin .add (.t 68) (.c (.i .i64 (1)))), none, []⟩,
      ⟨(some 68), (.mov (.t 79)), none, []⟩] []))))
def I19 : IFunc :=
  ⟨(.seq (.region [⟨(some 1), (.box (.t 0)), none, []⟩,
      ⟨(some 2), (.mov (.c (.i .i64 (0)))), none, []⟩] [])
    (.seq (.seq (.region [⟨(some 9), (.off (.t 1) 0), none, []⟩,
      ⟨(some 10), (.load none (.t 9)), none, []⟩,
      ⟨(some 11), (.off (.t 1) 1), none, []⟩,
      ⟨(some 12), (.load none (.t 11)), none, []⟩,
      ⟨(some 13), (.off (.t 1) 2), none, []⟩,
      ⟨(some 14), (.load none (.t 13)), none, []⟩,
      ⟨(some 15), (.off (.t 1) 3), none, []⟩,
      ⟨(some 16), (.load none (.t 15)), none, []⟩,
      ⟨(some 17), (.off (.t 1) 15), none, []⟩,
      ⟨(some 18), (.load none (.t 17)), none, []⟩,
      ⟨(some 19), (.off (.t 1) 6), none, []⟩,
      ⟨(some 20), (.load none (.t 19)), none, []⟩,
      ⟨(some 21), (.off (.t 1) 7), none, []⟩,
      ⟨(some 22), (.load none (.t 21)), none, []⟩,
      ⟨(some 23), (.bsl 1 7 [(.i .i64 (0)), (.i .i64 (0)), (.i .i64 (0)), (.i .i64 (0)), (.i .i64 (0)), (.i .i64 (0)), (.i .i64 (0))] [(0, 1, (.t 10)), (1, 1, (.t 12)), (2, 1, (.t 14)), (3, 1, (.t 16)), (4, 1, (.t 18)), (5, 1, (.t 20)), (6, 1, (.t 22))]), none, []⟩,
      ⟨(some 24), (.lenk 0 (.t 23)), none, []⟩,
      ⟨(some 25), (.mov (.c (.i .i64 (0)))), none, []⟩] [])
    (.block 0
      (.loop L19a)))
    (.seq (.seq (.region [⟨(some 32), (.off (.t 1) 0), none, []⟩,
      ⟨(some 33), (.load none (.t 32)), none, []⟩,
      ⟨(some 34), (.off (.t 1) 1), none, []⟩,
      ⟨(some 35), (.load none (.t 34)), none, []⟩,
      ⟨(some 36), (.off (.t 1) 2), none, []⟩,
      ⟨(some 37), (.load none (.t 36)), none, []⟩,
      ⟨(some 38), (.mm true (.t 33) [(.t 35), (.t 37)]), none, []⟩,
      ⟨(some 39), (.bin .gtr (.t 38) (.c (.i .i64 (9007199254740991)))), none, []⟩] [])
    (.cond (.t 39)
      (.seq (.region [⟨(some 2), (.mov (.c (.i .i64 (2)))), none, []⟩] [])
      .ret)
      .skip))
    (.seq (.seq (.region [⟨(some 40), (.off (.t 1) 3), none, []⟩,
      ⟨(some 41), (.load none (.t 40)), none, []⟩,
      ⟨(some 42), (.bin .gtr (.t 41) (.c (.i .i64 (64)))), none, []⟩,
      ⟨(some 43), (.mov (.t 42)), none, []⟩,
      ⟨(some 44), (.off (.t 1) 15), (some (43, false)), []⟩,
      ⟨(some 45), (.load none (.t 44)), (some (43, false)), []⟩,
      ⟨(some 46), (.bin .gtr (.t 45) (.c (.i .i64 (1)))), (some (43, false)), []⟩,
      ⟨(some 47), (.pick (.t 43) (.c (.b true)) (.t 46)), none, []⟩,
      ⟨(some 48), (.mov (.t 47)), none, []⟩,
      ⟨(some 49), (.off (.t 1) 6), (some (48, false)), []⟩,
      ⟨(some 50), (.load none (.t 49)), (some (48, false)), []⟩,
      ⟨(some 51), (.bin .gtr (.t 50) (.c (.i .i64 (3)))), (some (48, false)), []⟩,
      ⟨(some 52), (.pick (.t 48) (.c (.b true)) (.t 51)), none, []⟩,
      ⟨(some 53), (.mov (.t 52)), none, []⟩,
      ⟨(some 54), (.off (.t 1) 4), (some (53, false)), []⟩,
      ⟨(some 55), (.load none (.t 54)), (some (53, false)), []⟩,
      ⟨(some 56), (.lenk 0 (.t 55)), (some (53, false)), []⟩,
      ⟨(some 57), (.bin .gtr (.t 56) (.c (.i .i64 (4096)))), (some (53, false)), []⟩,
      ⟨(some 58), (.pick (.t 53) (.c (.b true)) (.t 57)), none, []⟩,
      ⟨(some 59), (.mov (.t 58)), none, []⟩,
      ⟨(some 60), (.off (.t 1) 5), (some (59, false)), []⟩,
      ⟨(some 61), (.load none (.t 60)), (some (59, false)), []⟩,
      ⟨(some 62), (.lenk 0 (.t 61)), (some (59, false)), []⟩,
      ⟨(some 63), (.bin .gtr (.t 62) (.c (.i .i64 (64)))), (some (59, false)), []⟩,
      ⟨(some 64), (.pick (.t 59) (.c (.b true)) (.t 63)), none, []⟩] [])
    (.cond (.t 64)
      (.seq (.region [⟨(some 2), (.mov (.c (.i .i64 (2)))), none, []⟩] [])
      .ret)
      .skip))
    (.seq (.seq (.region [⟨(some 65), (.off (.t 1) 4), none, []⟩,
      ⟨(some 66), (.load none (.t 65)), none, []⟩,
      ⟨(some 67), (.lenk 0 (.t 66)), none, []⟩,
      ⟨(some 68), (.mov (.c (.i .i64 (0)))), none, []⟩] [])
    (.block 2
      (.loop L19b)))
    (.seq (.region [⟨(some 80), (.off (.t 1) 6), none, []⟩,
      ⟨(some 81), (.load none (.t 80)), none, []⟩,
      ⟨(some 82), (.bin .eql (.t 81) (.c (.i .i64 (2)))), none, []⟩,
      ⟨(some 83), (.mov (.t 82)), none, []⟩,
      ⟨(some 84), (.off (.t 1) 8), (some (83, true)), []⟩,
      ⟨(some 85), (.load (some 7) (.t 84)), (some (83, true)), []⟩,
      ⟨(some 86), (.off (.t 1) 3), (some (83, true)), []⟩,
      ⟨(some 87), (.load none (.t 86)), (some (83, true)), []⟩,
      ⟨(some 88), (.off (.t 1) 4), (some (83, true)), []⟩,
      ⟨(some 89), (.load none (.t 88)), (some (83, true)), []⟩,
      ⟨(some 90), (.lenk 0 (.t 89)), (some (83, true)), []⟩,
      ⟨(some 91), (.call 33 [(.t 85), (.t 87), (.t 90)]), (some (83, true)), []⟩,
      ⟨(some 92), (.pick (.t 83) (.t 91) (.c (.b false))), none, []⟩,
      ⟨(some 7), (.mov (.t 92)), none, []⟩] [])
    (.seq (.region [⟨(some 93), (.off (.t 1) 6), none, []⟩,
      ⟨(some 94), (.load none (.t 93)), none, []⟩,
      ⟨(some 95), (.bin .neq (.t 94) (.c (.i .i64 (2)))), none, []⟩,
      ⟨(some 96), (.mov (.t 95)), none, []⟩,
      ⟨(some 97), (.off (.t 1) 8), (some (96, true)), []⟩,
      ⟨(some 98), (.off (.t 97) 0), (some (96, true)), []⟩,
      ⟨(some 99), (.load none (.t 98)), (some (96, true)), []⟩,
      ⟨(some 100), (.bin .eql (.t 99) (.c (.i .i64 (0)))), (some (96, true)), []⟩,
      ⟨(some 101), (.pick (.t 96) (.t 100) (.c (.b false))), none, []⟩,
      ⟨(some 102), (.mov (.t 101)), none, []⟩,
      ⟨(some 103), (.off (.t 1) 8), (some (102, true)), []⟩,
      ⟨(some 104), (.off (.t 103) 1), (some (102, true)), []⟩,
      ⟨(some 105), (.load none (.t 104)), (some (102, true)), []⟩,
      ⟨(some 106), (.bin .eql (.t 105) (.c (.i .i64 (0)))), (some (102, true)), []⟩,
      ⟨(some 107), (.pick (.t 102) (.t 106) (.c (.b false))), none, []⟩,
      ⟨(some 108), (.mov (.t 107)), none, []⟩,
      ⟨(some 109), (.off (.t 1) 8), (some (108, true)), []⟩,
      ⟨(some 110), (.off (.t 109) 2), (some (108, true)), []⟩,
      ⟨(some 111), (.load (some 5) (.t 110)), (some (108, true)), []⟩,
      ⟨(some 112), (.call 34 [(.t 111)]), (some (108, true)), []⟩,
      ⟨(some 113), (.pick (.t 108) (.t 112) (.c (.b false))), none, []⟩,
      ⟨(some 8), (.mov (.t 113)), none, []⟩] [])
    (.seq (.seq (.region [⟨(some 114), (.mov (.t 7)), none, []⟩,
      ⟨(some 115), (.un .not (.t 114)), none, []⟩,
      ⟨(some 116), (.mov (.t 115)), none, []⟩,
      ⟨(some 117), (.mov (.t 8)), (some (116, true)), []⟩,
      ⟨(some 118), (.un .not (.t 117)), (some (116, true)), []⟩,
      ⟨(some 119), (.pick (.t 116) (.t 118) (.c (.b false))), none, []⟩,
      ⟨(some 120), (.mov (.t 119)), none, []⟩,
      ⟨(some 121), (.off (.t 1) 5), (some (120, false)), []⟩,
      ⟨(some 122), (.load none (.t 121)), (some (120, false)), []⟩,
      ⟨(some 123), (.off (.t 1) 3), (some (120, false)), []⟩,
      ⟨(some 124), (.load none (.t 123)), (some (120, false)), []⟩,
      ⟨(some 125), (.off (.t 1) 4), (some (120, false)), []⟩,
      ⟨(some 126), (.load none (.t 125)), (some (120, false)), []⟩,
      ⟨(some 127), (.lenk 0 (.t 126)), (some (120, false)), []⟩,
      ⟨(some 128), (.call 35 [(.t 122), (.t 124), (.t 127)]), (some (120, false)), []⟩,
      ⟨(some 129), (.un .not (.t 128)), (some (120, false)), []⟩,
      ⟨(some 130), (.pick (.t 120) (.c (.b true)) (.t 129)), none, []⟩] [])
    (.cond (.t 130)
      (.seq (.region [⟨(some 2), (.mov (.c (.i .i64 (2)))), none, []⟩] [])
      .ret)
      .skip))
    (.seq (.region [⟨(some 2), (.mov (.c (.i .i64 (0)))), none, []⟩] [])
    .ret))))))))),
    131, 1, [.t 2], 0⟩
theorem tr19 : trFunc Tryd.prog [([], []), ([], []), ([], []), ([], []), ([], []), ([], []), ([], []), ([], []), ([], []), ([], []), ([], []), ([], []), ([], []), ([], []), ([], []), ([], []), ([], []), ([], []), ([], []), ([], []), ([], []), ([], []), ([], []), ([], []), ([], []), ([], []), ([], []), ([], []), ([], [])] 0 Tryd.f19 = some I19 := by kernel_rfl

/-- 'encore/prune.once'. -/
def L20a : ICode :=
  (.seq (.region [⟨(some 19), (.bin .lss (.t 18) (.t 17)), none, []⟩] [])
    (.seq (.cond (.t 19)
      .skip
      (.exit 0))
    (.seq (.block 1
      (.seq (.region [⟨(some 20), (.iaddr 5 (.t 16) (.t 18)), none, []⟩,
        ⟨(some 21), (.load (some 5) (.t 20)), none, []⟩,
        ⟨(some 8), (.alloc [(.i .i64 (0)), (.i .i64 (0)), .ns, (.s []), .ns]), none, []⟩,
        ⟨none, (.store 5 (.t 8) (.t 21)), none, []⟩] [])
      (.seq (.region [⟨(some 22), (.mov (.t 6)), none, []⟩,
        ⟨(some 23), (.off (.t 8) 2), none, []⟩,
        ⟨(some 24), (.load none (.t 23)), none, []⟩,
        ⟨(some 26), (.off (.t 8) 4), none, []⟩,
        ⟨(some 27), (.load none (.t 26)), none, []⟩,
        ⟨(some 25), (.callv (.t 22) [(.t 24)]), none, [(27, (.load none (.t 26)), none)]⟩,
        ⟨(some 29), (.off (.t 8) 2), none, []⟩,
        ⟨(some 28), (.call 36 [(.t 27)]), none, []⟩,
        ⟨none, (.store 1 (.t 29) (.t 25)), none, []⟩,
        ⟨(some 30), (.off (.t 8) 4), none, []⟩,
        ⟨none, (.store 1 (.t 30) (.t 28)), none, []⟩] [])
      (.seq (.seq (.region [⟨(some 31), (.off (.t 8) 0), none, []⟩,
        ⟨(some 32), (.load none (.t 31)), none, []⟩,
        ⟨(some 33), (.bin .eql (.t 32) (.c (.i .i64 (40)))), none, []⟩,
        ⟨(some 34), (.mov (.t 33)), none, []⟩,
        ⟨(some 35), (.mov (.t 4)), (some (34, true)), []⟩,
        ⟨(some 36), (.load (some 5) (.t 8)), (some (34, true)), []⟩,
        ⟨(some 37), (.call 30 [(.t 35), (.t 36)]), (some (34, true)), []⟩,
        ⟨(some 38), (.pick (.t 34) (.t 37) (.c (.b false))), none, []⟩] [])
      (.cond (.t 38)
        (.seq (.region [⟨(some 39), (.load none (.t 5)), none, []⟩,
          ⟨(some 40), (.off (.t 8) 2), none, []⟩,
          ⟨(some 41), (.load none (.t 40)), none, []⟩,
          ⟨(some 42), (.iaddr 7 (.t 41) (.c (.i .i64 (0)))), none, []⟩,
          ⟨(some 43), (.load (some 7) (.t 42)), none, []⟩,
          ⟨(some 44), (.bsl 7 1 [(.i .i64 (0)), (.i .i64 (0)), (.i .i64 (0)), (.i .i64 (0)), (.s []), .ns, .ns] [(0, 7, (.t 43))]), none, []⟩,
          ⟨(some 45), (.app 7 96 (.t 39) (.t 44)), none, []⟩,
          ⟨none, (.store 1 (.t 5) (.t 45)), none, []⟩] [])
        (.exit 1))
        .skip))
      (.seq (.region [⟨(some 46), (.mov (.t 4)), none, []⟩,
        ⟨(some 47), (.nck (.t 46)), none, []⟩,
        ⟨(some 48), (.off (.t 47) 0), none, []⟩,
        ⟨(some 49), (.load none (.t 48)), none, []⟩,
        ⟨(some 50), (.mkf 38 [] [(.t 8)]), none, []⟩,
        ⟨(some 51), (.call 37 [(.t 49), (.t 50)]), none, []⟩,
        ⟨(some 9), (.mov (.t 51)), none, []⟩] [])
      (.seq (.seq (.region [⟨(some 52), (.mov (.t 9)), none, []⟩,
        ⟨(some 53), (.bin .lss (.t 52) (.c (.i .i64 (0)))), none, []⟩] [])
      (.cond (.t 53)
        (.seq (.region [⟨(some 54), (.mov (.t 4)), none, []⟩,
          ⟨(some 55), (.nck (.t 54)), none, []⟩,
          ⟨(some 56), (.off (.t 55) 0), none, []⟩,
          ⟨(some 57), (.load none (.t 56)), none, []⟩,
          ⟨(some 58), (.lenk 0 (.t 57)), none, []⟩,
          ⟨(some 9), (.mov (.t 58)), none, []⟩] [])
        (.region [⟨(some 59), (.mov (.t 4)), none, []⟩,
          ⟨(some 60), (.load (some 5) (.t 8)), none, []⟩,
          ⟨(some 61), (.call 29 [(.t 59), (.t 60)]), none, []⟩] []))
        .skip))
      (.seq (.region [⟨(some 62), (.mov (.t 9)), none, []⟩,
        ⟨(some 63), (.build [(.i .i64 (0)), (.i .i64 (0)), (.i .i64 (0)), (.i .i64 (0)), (.s []), .ns, .ns] [(0, 1, (.c (.i .i64 (2)))), (1, 1, (.t 62))]), none, []⟩,
        ⟨(some 10), (.alloc [(.i .i64 (0)), (.i .i64 (0)), (.i .i64 (0)), (.i .i64 (0)), (.s []), .ns, .ns]), none, []⟩,
        ⟨none, (.store 7 (.t 10) (.t 63)), none, []⟩] [])
      (.seq (.seq (.region [⟨(some 64), (.off (.t 8) 0), none, []⟩,
        ⟨(some 65), (.load none (.t 64)), none, []⟩,
        ⟨(some 66), (.bin .eql (.t 65) (.c (.i .i64 (23)))), none, []⟩,
        ⟨(some 67), (.mov (.t 66)), none, []⟩,
        ⟨(some 68), (.off (.t 8) 0), (some (67, false)), []⟩,
        ⟨(some 69), (.load none (.t 68)), (some (67, false)), []⟩,
        ⟨(some 70), (.bin .eql (.t 69) (.c (.i .i64 (40)))), (some (67, false)), []⟩,
        ⟨(some 71), (.pick (.t 67) (.c (.b true)) (.t 70)), none, []⟩] [])
      (.cond (.t 71)
        (.region [⟨(some 72), (.off (.t 8) 2), none, []⟩,
          ⟨(some 73), (.load none (.t 72)), none, []⟩,
          ⟨(some 74), (.iaddr 7 (.t 73) (.c (.i .i64 (0)))), none, []⟩,
          ⟨(some 75), (.load (some 7) (.t 74)), none, []⟩,
          ⟨none, (.store 7 (.t 10) (.t 75)), none, []⟩] [])
        .skip))
      (.region [⟨(some 76), (.load none (.t 5)), none, []⟩,
        ⟨(some 77), (.load (some 7) (.t 10)), none, []⟩,
        ⟨(some 78), (.bsl 7 1 [(.i .i64 (0)), (.i .i64 (0)), (.i .i64 (0)), (.i .i64 (0)), (.s []), .ns, .ns] [(0, 7, (.t 77))]), none, []⟩,
        ⟨(some 79), (.app 7 96 (.t 76) (.t 78)), none, []⟩,
        ⟨none, (.store 1 (.t 5) (.t 79)), none, []⟩] [])))))))))
    (.region [⟨(some 80), (.bin .add (.t 18) (.c (.i .i64 (1)))), none, []⟩,
      ⟨(some 18), (.mov (.t 80)), none, []⟩] []))))
def I20 : IFunc :=
  ⟨(.seq (.region [⟨(some 1), (.box (.t 0)), none, []⟩,
      ⟨(some 2), (.mov (.c .np)), none, []⟩,
      ⟨(some 3), (.alloc [(.i .i64 (0)), (.i .i64 (0)), (.i .i64 (0)), (.i .i64 (0)), .ns, .ns, (.i .i64 (0)), (.i .i64 (0)), (.i .i64 (0)), (.i .i64 (0)), (.i .i64 (0)), (.i .i64 (0)), (.s []), .ns, .ns, (.i .i64 (0))]), none, []⟩] [])
    (.seq (.region [⟨(some 11), (.off (.t 1) 3), none, []⟩,
      ⟨(some 12), (.load none (.t 11)), none, []⟩,
      ⟨(some 13), (.call 28 [(.t 12)]), none, []⟩,
      ⟨(some 4), (.mov (.t 13)), none, []⟩] [])
    (.seq (.region [⟨(some 5), (.alloc [.ns]), none, []⟩] [])
    (.seq (.region [⟨(some 14), (.call 21 [(.t 5)]), none, []⟩,
      ⟨(some 6), (.mov (.t 14)), none, []⟩] [])
    (.seq (.seq (.region [⟨(some 15), (.off (.t 1) 4), none, []⟩,
      ⟨(some 16), (.load none (.t 15)), none, []⟩,
      ⟨(some 17), (.lenk 0 (.t 16)), none, []⟩,
      ⟨(some 18), (.mov (.c (.i .i64 (0)))), none, []⟩] [])
    (.block 0
      (.loop L20a)))
    (.seq (.region [⟨(some 81), (.mov (.t 6)), none, []⟩,
      ⟨(some 82), (.off (.t 1) 5), none, []⟩,
      ⟨(some 83), (.load none (.t 82)), none, []⟩,
      ⟨(some 85), (.mov (.t 6)), none, []⟩,
      ⟨(some 86), (.off (.t 1) 8), none, []⟩,
      ⟨(some 87), (.load (some 7) (.t 86)), none, []⟩,
      ⟨(some 88), (.bsl 7 1 [(.i .i64 (0)), (.i .i64 (0)), (.i .i64 (0)), (.i .i64 (0)), (.s []), .ns, .ns] [(0, 7, (.t 87))]), none, []⟩,
      ⟨(some 84), (.callv (.t 81) [(.t 83)]), none, [(87, (.load (some 7) (.t 86)), none)]⟩,
      ⟨(some 92), (.off (.t 1) 5), none, []⟩,
      ⟨(some 89), (.callv (.t 85) [(.t 88)]), none, []⟩,
      ⟨(some 90), (.iaddr 7 (.t 89) (.c (.i .i64 (0)))), none, []⟩,
      ⟨(some 91), (.load (some 7) (.t 90)), none, []⟩,
      ⟨none, (.store 1 (.t 92) (.t 84)), none, [(91, (.load (some 7) (.t 90)), none)]⟩,
      ⟨(some 93), (.off (.t 1) 8), none, []⟩,
      ⟨none, (.store 7 (.t 93) (.t 91)), none, []⟩] [])
    (.seq (.region [⟨(some 94), (.mov (.t 4)), none, []⟩,
      ⟨(some 95), (.load (some 16) (.t 1)), none, []⟩,
      ⟨(some 2), (.mov (.t 94)), none, []⟩,
      ⟨none, (.store 16 (.t 3) (.t 95)), none, []⟩] [])
    .ret))))))),
    96, 1, [.t 2, .c 3 (some 16)], 0⟩
theorem tr20 : trFunc Tryd.prog [([], []), ([], []), ([], []), ([], []), ([], []), ([], []), ([], []), ([], []), ([0, 1, 2, 4, 5, 3, 7, 6, 8, 9, 10], []), ([], []), ([0, 1, 2, 3, 4, 5, 6, 7], []), ([], []), ([], []), ([], []), ([], []), ([], []), ([], []), ([], []), ([], []), ([], []), ([], []), ([], []), ([], []), ([0, 1, 2, 4, 5, 6, 7, 3, 11, 8, 9, 10, 12, 13, 14], []), ([0, 1, 2, 3], [])] 0 Tryd.f20 = some I20 := by kernel_rfl

/-- 'encore/prune.turner'. -/
def I21 : IFunc :=
  ⟨(.seq (.region [⟨(some 1), (.box (.t 0)), none, []⟩,
      ⟨(some 2), (.mov (.c .nf)), none, []⟩] [])
    (.seq (.region [⟨(some 3), (.mkf 40 [] [(.t 1)]), none, []⟩,
      ⟨(some 2), (.mov (.t 3)), none, []⟩] [])
    .ret)),
    4, 1, [.t 2], 0⟩
theorem tr21 : trFunc Tryd.prog [([], []), ([], [])] 0 Tryd.f21 = some I21 := by kernel_rfl

/-- 'encore/prune.needs'. -/
def L22a : ICode :=
  (.seq (.region [⟨(some 26), (.bin .lss (.t 25) (.t 24)), none, []⟩] [])
    (.seq (.cond (.t 26)
      .skip
      (.exit 0))
    (.seq (.block 1
      (.seq (.region [⟨(some 27), (.mov (.t 25)), none, []⟩,
        ⟨(some 28), (.iaddr 5 (.t 23) (.t 25)), none, []⟩,
        ⟨(some 29), (.load (some 5) (.t 28)), none, []⟩,
        ⟨(some 8), (.alloc [(.i .i64 (0)), (.i .i64 (0)), .ns, (.s []), .ns]), none, []⟩,
        ⟨(some 7), (.mov (.t 27)), none, []⟩,
        ⟨none, (.store 5 (.t 8) (.t 29)), none, []⟩] [])
      (.seq (.region [⟨(some 30), (.load none (.t 5)), none, []⟩,
        ⟨(some 31), (.mov (.t 7)), none, []⟩,
        ⟨(some 32), (.mov (.t 6)), none, []⟩,
        ⟨(some 33), (.load (some 5) (.t 8)), none, []⟩,
        ⟨(some 34), (.call 30 [(.t 32), (.t 33)]), none, [(30, (.load none (.t 5)), none)]⟩,
        ⟨(some 35), (.un .not (.t 34)), none, []⟩,
        ⟨(some 36), (.iaddr 1 (.t 30) (.t 31)), none, []⟩,
        ⟨none, (.store 1 (.t 36) (.t 35)), none, []⟩] [])
      (.region [⟨(some 37), (.mov (.t 6)), none, []⟩,
        ⟨(some 38), (.load (some 5) (.t 8)), none, []⟩,
        ⟨(some 39), (.call 29 [(.t 37), (.t 38)]), none, []⟩] []))))
    (.region [⟨(some 40), (.bin .add (.t 25) (.c (.i .i64 (1)))), none, []⟩,
      ⟨(some 25), (.mov (.t 40)), none, []⟩] []))))
def L22b : ICode :=
  (.seq (.seq (.region [⟨(some 54), (.mov (.t 10)), none, []⟩,
      ⟨(some 55), (.bin .geq (.t 54) (.c (.i .i64 (0)))), none, []⟩] [])
    (.cond (.t 55)
      .skip
      (.exit 2)))
    (.seq (.block 3
      (.seq (.region [⟨(some 58), (.load none (.t 5)), none, []⟩,
        ⟨(some 59), (.mov (.t 10)), none, []⟩,
        ⟨(some 60), (.iaddr 1 (.t 58) (.t 59)), none, []⟩,
        ⟨(some 61), (.load none (.t 60)), none, []⟩] [])
      (.cond (.t 61)
        (.region [⟨(some 62), (.mov (.t 9)), none, []⟩,
          ⟨(some 63), (.mov (.t 0)), none, []⟩,
          ⟨(some 64), (.nck (.t 63)), none, []⟩,
          ⟨(some 65), (.off (.t 64) 0), none, []⟩,
          ⟨(some 66), (.load none (.t 65)), none, []⟩,
          ⟨(some 67), (.mov (.t 10)), none, []⟩,
          ⟨(some 68), (.iaddr 5 (.t 66) (.t 67)), none, []⟩,
          ⟨(some 69), (.off (.t 68) 2), none, []⟩,
          ⟨(some 70), (.load none (.t 69)), none, []⟩,
          ⟨(some 71), (.callv (.t 62) [(.t 70)]), none, []⟩] [])
        .skip)))
    (.region [⟨(some 56), (.mov (.t 10)), none, []⟩,
      ⟨(some 57), (.bin .sub (.t 56) (.c (.i .i64 (1)))), none, []⟩,
      ⟨(some 10), (.mov (.t 57)), none, []⟩] [])))
def I22 : IFunc :=
  ⟨(.seq (.region [⟨(some 3), (.box (.t 1)), none, []⟩,
      ⟨(some 4), (.mov (.c .ns)), none, []⟩] [])
    (.seq (.region [⟨(some 11), (.mov (.t 0)), none, []⟩,
      ⟨(some 12), (.nck (.t 11)), none, []⟩,
      ⟨(some 13), (.off (.t 12) 0), none, []⟩,
      ⟨(some 14), (.load none (.t 13)), none, []⟩,
      ⟨(some 15), (.lenk 0 (.t 14)), none, []⟩,
      ⟨(some 16), (.mksl 1 1 [(.b false)] (.t 15) (.t 15)), none, []⟩,
      ⟨(some 5), (.alloc [.ns]), none, []⟩,
      ⟨none, (.store 1 (.t 5) (.t 16)), none, []⟩] [])
    (.seq (.region [⟨(some 17), (.off (.t 3) 3), none, []⟩,
      ⟨(some 18), (.load none (.t 17)), none, []⟩,
      ⟨(some 19), (.call 28 [(.t 18)]), none, []⟩,
      ⟨(some 6), (.mov (.t 19)), none, []⟩] [])
    (.seq (.seq (.region [⟨(some 20), (.mov (.t 0)), none, []⟩,
      ⟨(some 21), (.nck (.t 20)), none, []⟩,
      ⟨(some 22), (.off (.t 21) 0), none, []⟩,
      ⟨(some 23), (.load none (.t 22)), none, []⟩,
      ⟨(some 24), (.lenk 0 (.t 23)), none, []⟩,
      ⟨(some 25), (.mov (.c (.i .i64 (0)))), none, []⟩] [])
    (.block 0
      (.loop L22a)))
    (.seq (.region [⟨(some 41), (.mkf 42 [] [(.t 5)]), none, []⟩,
      ⟨(some 9), (.mov (.t 41)), none, []⟩] [])
    (.seq (.region [⟨(some 42), (.mov (.t 9)), none, []⟩,
      ⟨(some 43), (.off (.t 3) 5), none, []⟩,
      ⟨(some 44), (.load none (.t 43)), none, []⟩,
      ⟨(some 46), (.off (.t 3) 8), none, []⟩,
      ⟨(some 47), (.load (some 7) (.t 46)), none, []⟩,
      ⟨(some 48), (.bsl 7 1 [(.i .i64 (0)), (.i .i64 (0)), (.i .i64 (0)), (.i .i64 (0)), (.s []), .ns, .ns] [(0, 7, (.t 47))]), none, []⟩,
      ⟨(some 45), (.call 43 [(.t 44)]), none, [(47, (.load (some 7) (.t 46)), none)]⟩,
      ⟨(some 49), (.app 7 96 (.t 45) (.t 48)), none, []⟩,
      ⟨(some 50), (.callv (.t 42) [(.t 49)]), none, []⟩] [])
    (.seq (.seq (.region [⟨(some 51), (.load none (.t 5)), none, []⟩,
      ⟨(some 52), (.lenk 0 (.t 51)), none, []⟩,
      ⟨(some 53), (.bin .sub (.t 52) (.c (.i .i64 (1)))), none, []⟩,
      ⟨(some 10), (.mov (.t 53)), none, []⟩] [])
    (.block 2
      (.loop L22b)))
    (.seq (.region [⟨(some 72), (.load none (.t 5)), none, []⟩,
      ⟨(some 4), (.mov (.t 72)), none, []⟩] [])
    .ret)))))))),
    73, 2, [.t 4], 0⟩
theorem tr22 : trFunc Tryd.prog [([], []), ([], []), ([], []), ([], []), ([], []), ([], []), ([], []), ([0, 1, 2, 3, 4, 5, 6, 7], []), ([], []), ([], []), ([], []), ([0, 1, 2, 4, 5, 6, 3, 7, 8], []), ([], []), ([], []), ([], []), ([], []), ([], []), ([], []), ([], []), ([], [])] 0 Tryd.f22 = some I22 := by kernel_rfl

/-- 'encore/encorelaw23.operands'. -/
def L25a : ICode :=
  (.seq (.seq (.region [⟨(some 5), (.mov (.t 4)), none, []⟩,
      ⟨(some 6), (.mov (.t 0)), none, []⟩,
      ⟨(some 7), (.lenk 0 (.t 6)), none, []⟩,
      ⟨(some 8), (.bin .lss (.t 5) (.t 7)), none, []⟩] [])
    (.cond (.t 8)
      .skip
      (.exit 0)))
    (.seq (.block 1
      (.region [⟨(some 11), (.mov (.t 3)), none, []⟩,
        ⟨(some 12), (.mov (.t 0)), none, []⟩,
        ⟨(some 13), (.mov (.t 4)), none, []⟩,
        ⟨(some 14), (.iaddr 7 (.t 12) (.t 13)), none, []⟩,
        ⟨(some 15), (.off (.t 14) 0), none, []⟩,
        ⟨(some 16), (.load none (.t 15)), none, []⟩,
        ⟨(some 17), (.mov (.t 0)), none, []⟩,
        ⟨(some 18), (.mov (.t 4)), none, []⟩,
        ⟨(some 19), (.iaddr 7 (.t 17) (.t 18)), none, []⟩,
        ⟨(some 20), (.off (.t 19) 1), none, []⟩,
        ⟨(some 21), (.load none (.t 20)), none, []⟩,
        ⟨(some 22), (.mov (.t 0)), none, []⟩,
        ⟨(some 23), (.mov (.t 4)), none, []⟩,
        ⟨(some 24), (.iaddr 7 (.t 22) (.t 23)), none, []⟩,
        ⟨(some 25), (.off (.t 24) 2), none, []⟩,
        ⟨(some 26), (.load (some 5) (.t 25)), none, []⟩,
        ⟨(some 27), (.build [(.i .i64 (0)), (.i .i64 (0)), (.i .i64 (0)), (.i .i64 (0)), (.s []), .ns, .ns] [(0, 1, (.t 16)), (1, 1, (.t 21)), (2, 5, (.t 26))]), none, []⟩,
        ⟨(some 28), (.bsl 7 1 [(.i .i64 (0)), (.i .i64 (0)), (.i .i64 (0)), (.i .i64 (0)), (.s []), .ns, .ns] [(0, 7, (.t 27))]), none, []⟩,
        ⟨(some 29), (.app 7 96 (.t 11) (.t 28)), none, []⟩,
        ⟨(some 3), (.mov (.t 29)), none, []⟩] []))
    (.region [⟨(some 9), (.mov (.t 4)), none, []⟩,
      ⟨(some 10), (.bin .add (.t 9) (.c (.i .i64 (1)))), none, []⟩,
      ⟨(some 4), (.mov (.t 10)), none, []⟩] [])))
def I25 : IFunc :=
  ⟨(.seq (.region [⟨(some 2), (.mov (.c .ns)), none, []⟩] [])
    (.seq (.region [⟨(some 3), (.mov (.c .ns)), none, []⟩] [])
    (.seq (.seq (.region [⟨(some 4), (.mov (.c (.i .i64 (0)))), none, []⟩] [])
    (.block 0
      (.loop L25a)))
    (.seq (.region [⟨(some 30), (.mov (.t 3)), none, []⟩,
      ⟨(some 2), (.mov (.t 30)), none, []⟩] [])
    .ret)))),
    31, 1, [.t 2], 0⟩
theorem tr25 : trFunc Tryd.prog [([], []), ([], []), ([], []), ([], []), ([], []), ([0, 1, 2, 3, 4, 5, 6, 7, 8, 9, 10, 11, 12, 13, 14, 15, 16, 17, 18, 19], []), ([], []), ([], [])] 0 Tryd.f25 = some I25 := by kernel_rfl

/-- 'encore/encoreref20.SameOperands'. -/
def L26a : ICode :=
  (.seq (.seq (.region [⟨(some 11), (.mov (.t 5)), none, []⟩,
      ⟨(some 12), (.mov (.t 0)), none, []⟩,
      ⟨(some 13), (.lenk 0 (.t 12)), none, []⟩,
      ⟨(some 14), (.bin .lss (.t 11) (.t 13)), none, []⟩] [])
    (.cond (.t 14)
      .skip
      (.exit 0)))
    (.seq (.block 1
      (.seq (.region [⟨(some 17), (.mov (.t 0)), none, []⟩,
        ⟨(some 18), (.mov (.t 5)), none, []⟩,
        ⟨(some 19), (.iaddr 7 (.t 17) (.t 18)), none, []⟩,
        ⟨(some 20), (.load (some 7) (.t 19)), none, []⟩,
        ⟨(some 21), (.mov (.t 1)), none, []⟩,
        ⟨(some 22), (.mov (.t 5)), none, []⟩,
        ⟨(some 23), (.iaddr 7 (.t 21) (.t 22)), none, []⟩,
        ⟨(some 24), (.load (some 7) (.t 23)), none, []⟩,
        ⟨(some 25), (.call 47 [(.t 20), (.t 24)]), none, []⟩,
        ⟨(some 26), (.un .not (.t 25)), none, []⟩] [])
      (.cond (.t 26)
        (.seq (.region [⟨(some 4), (.mov (.c (.b false))), none, []⟩] [])
        .ret)
        .skip)))
    (.region [⟨(some 15), (.mov (.t 5)), none, []⟩,
      ⟨(some 16), (.bin .add (.t 15) (.c (.i .i64 (1)))), none, []⟩,
      ⟨(some 5), (.mov (.t 16)), none, []⟩] [])))
def I26 : IFunc :=
  ⟨(.seq (.region [⟨(some 4), (.mov (.c (.b false))), none, []⟩] [])
    (.seq (.seq (.region [⟨(some 6), (.mov (.t 0)), none, []⟩,
      ⟨(some 7), (.lenk 0 (.t 6)), none, []⟩,
      ⟨(some 8), (.mov (.t 1)), none, []⟩,
      ⟨(some 9), (.lenk 0 (.t 8)), none, []⟩,
      ⟨(some 10), (.bin .neq (.t 7) (.t 9)), none, []⟩] [])
    (.cond (.t 10)
      (.seq (.region [⟨(some 4), (.mov (.c (.b false))), none, []⟩] [])
      .ret)
      .skip))
    (.seq (.seq (.region [⟨(some 5), (.mov (.c (.i .i64 (0)))), none, []⟩] [])
    (.block 0
      (.loop L26a)))
    (.seq (.region [⟨(some 4), (.mov (.c (.b true))), none, []⟩] [])
    .ret)))),
    27, 2, [.t 4], 0⟩
theorem tr26 : trFunc Tryd.prog [([], []), ([], []), ([], []), ([], []), ([], []), ([], []), ([], []), ([0, 1, 2, 3, 4, 5, 6, 7, 8, 9], []), ([], []), ([], []), ([], []), ([], [])] 0 Tryd.f26 = some I26 := by kernel_rfl

/-- 'encore/encoreref00.EqTexts'. -/
def L27a : ICode :=
  (.seq (.seq (.region [⟨(some 11), (.mov (.t 5)), none, []⟩,
      ⟨(some 12), (.mov (.t 0)), none, []⟩,
      ⟨(some 13), (.lenk 0 (.t 12)), none, []⟩,
      ⟨(some 14), (.bin .lss (.t 11) (.t 13)), none, []⟩] [])
    (.cond (.t 14)
      .skip
      (.exit 0)))
    (.seq (.block 1
      (.seq (.region [⟨(some 17), (.mov (.t 0)), none, []⟩,
        ⟨(some 18), (.mov (.t 5)), none, []⟩,
        ⟨(some 19), (.iaddr 1 (.t 17) (.t 18)), none, []⟩,
        ⟨(some 20), (.load none (.t 19)), none, []⟩,
        ⟨(some 21), (.mov (.t 1)), none, []⟩,
        ⟨(some 22), (.mov (.t 5)), none, []⟩,
        ⟨(some 23), (.iaddr 1 (.t 21) (.t 22)), none, []⟩,
        ⟨(some 24), (.load none (.t 23)), none, []⟩,
        ⟨(some 25), (.bin .neq (.t 20) (.t 24)), none, []⟩] [])
      (.cond (.t 25)
        (.seq (.region [⟨(some 4), (.mov (.c (.b false))), none, []⟩] [])
        .ret)
        .skip)))
    (.region [⟨(some 15), (.mov (.t 5)), none, []⟩,
      ⟨(some 16), (.bin .add (.t 15) (.c (.i .i64 (1)))), none, []⟩,
      ⟨(some 5), (.mov (.t 16)), none, []⟩] [])))
def I27 : IFunc :=
  ⟨(.seq (.region [⟨(some 4), (.mov (.c (.b false))), none, []⟩] [])
    (.seq (.seq (.region [⟨(some 6), (.mov (.t 0)), none, []⟩,
      ⟨(some 7), (.lenk 0 (.t 6)), none, []⟩,
      ⟨(some 8), (.mov (.t 1)), none, []⟩,
      ⟨(some 9), (.lenk 0 (.t 8)), none, []⟩,
      ⟨(some 10), (.bin .neq (.t 7) (.t 9)), none, []⟩] [])
    (.cond (.t 10)
      (.seq (.region [⟨(some 4), (.mov (.c (.b false))), none, []⟩] [])
      .ret)
      .skip))
    (.seq (.seq (.region [⟨(some 5), (.mov (.c (.i .i64 (0)))), none, []⟩] [])
    (.block 0
      (.loop L27a)))
    (.seq (.region [⟨(some 4), (.mov (.c (.b true))), none, []⟩] [])
    .ret)))),
    26, 2, [.t 4], 0⟩
theorem tr27 : trFunc Tryd.prog [([], []), ([], []), ([], []), ([], []), ([], []), ([], []), ([], []), ([0, 1, 2, 3, 4, 5, 6, 7, 8], []), ([], []), ([], []), ([], []), ([], [])] 0 Tryd.f27 = some I27 := by kernel_rfl

/-- 'encore/prune.begun'. -/
def I28 : IFunc :=
  ⟨(.seq (.region [⟨(some 2), (.mov (.c .np)), none, []⟩] [])
    (.seq (.region [⟨(some 3), (.bsl 1 1 [(.i .i64 (0))] [(0, 1, (.c (.i .i64 (-1))))]), none, []⟩,
      ⟨(some 4), (.mov (.t 0)), none, []⟩,
      ⟨(some 5), (.call 48 [(.t 3), (.t 4)]), none, []⟩,
      ⟨(some 6), (.build [.ns, .ns] [(1, 1, (.t 5))]), none, []⟩,
      ⟨(some 7), (.box (.t 6)), none, []⟩,
      ⟨(some 2), (.mov (.t 7)), none, []⟩] [])
    .ret)),
    8, 1, [.t 2], 0⟩
theorem tr28 : trFunc Tryd.prog [([], []), ([], [])] 0 Tryd.f28 = some I28 := by kernel_rfl

/-- '(*encore/prune.facts).add'. -/
def I29 : IFunc :=
  ⟨(.seq (.region [⟨(some 3), (.box (.t 1)), none, []⟩] [])
    (.seq (.seq (.region [⟨(some 4), (.off (.t 3) 0), none, []⟩,
      ⟨(some 5), (.load none (.t 4)), none, []⟩,
      ⟨(some 6), (.bin .eql (.t 5) (.c (.i .i64 (40)))), none, []⟩,
      ⟨(some 7), (.mov (.t 6)), none, []⟩,
      ⟨(some 8), (.off (.t 3) 2), (some (7, true)), []⟩,
      ⟨(some 9), (.load none (.t 8)), (some (7, true)), []⟩,
      ⟨(some 10), (.iaddr 7 (.t 9) (.c (.i .i64 (0)))), (some (7, true)), []⟩,
      ⟨(some 11), (.off (.t 10) 0), (some (7, true)), []⟩,
      ⟨(some 12), (.load none (.t 11)), (some (7, true)), []⟩,
      ⟨(some 13), (.bin .eql (.t 12) (.c (.i .i64 (1)))), (some (7, true)), []⟩,
      ⟨(some 14), (.pick (.t 7) (.t 13) (.c (.b false))), none, []⟩] [])
    (.cond (.t 14)
      (.region [⟨(some 15), (.mov (.t 0)), none, []⟩,
        ⟨(some 16), (.nck (.t 15)), none, []⟩,
        ⟨(some 17), (.off (.t 16) 1), none, []⟩,
        ⟨(some 18), (.load none (.t 17)), none, []⟩,
        ⟨(some 19), (.off (.t 3) 2), none, []⟩,
        ⟨(some 20), (.load none (.t 19)), none, []⟩,
        ⟨(some 21), (.iaddr 7 (.t 20) (.c (.i .i64 (0)))), none, []⟩,
        ⟨(some 22), (.off (.t 21) 1), none, []⟩,
        ⟨(some 23), (.load none (.t 22)), none, []⟩,
        ⟨(some 24), (.off (.t 3) 1), none, []⟩,
        ⟨(some 25), (.load none (.t 24)), none, []⟩,
        ⟨(some 26), (.iaddr 1 (.t 18) (.t 23)), none, []⟩,
        ⟨none, (.store 1 (.t 26) (.t 25)), none, []⟩] [])
      .skip))
    (.region [⟨(some 27), (.mov (.t 0)), none, []⟩,
      ⟨(some 28), (.mov (.t 0)), none, []⟩,
      ⟨(some 29), (.nck (.t 28)), none, []⟩,
      ⟨(some 30), (.off (.t 29) 0), none, []⟩,
      ⟨(some 31), (.load none (.t 30)), none, []⟩,
      ⟨(some 32), (.load (some 5) (.t 3)), none, []⟩,
      ⟨(some 33), (.bsl 5 1 [(.i .i64 (0)), (.i .i64 (0)), .ns, (.s []), .ns] [(0, 5, (.t 32))]), none, []⟩,
      ⟨(some 34), (.app 5 80 (.t 31) (.t 33)), none, []⟩,
      ⟨(some 35), (.nck (.t 27)), none, []⟩,
      ⟨(some 36), (.off (.t 35) 0), none, []⟩,
      ⟨none, (.store 1 (.t 36) (.t 34)), none, []⟩] []))),
    37, 2, [], 0⟩
theorem tr29 : trFunc Tryd.prog [([], []), ([], []), ([0, 1, 2, 3, 4, 5, 6, 7, 8, 9, 10, 11, 12], []), ([], []), ([0, 1, 2, 3, 4, 5, 6, 7, 8, 9, 10], [])] 0 Tryd.f29 = some I29 := by kernel_rfl

/-- '(*encore/prune.facts).sure'. -/
def I30 : IFunc :=
  ⟨(.seq (.region [⟨(some 3), (.box (.t 1)), none, []⟩,
      ⟨(some 4), (.mov (.c (.b false))), none, []⟩] [])
    (.seq (.seq (.region [⟨(some 5), (.off (.t 3) 0), none, []⟩,
      ⟨(some 6), (.load none (.t 5)), none, []⟩] [])
    (.block 0
      (.seq (.seq (.region [⟨(some 8), (.bin .eql (.t 6) (.c (.i .i64 (14)))), none, []⟩,
        ⟨(some 7), (.mov (.t 8)), none, []⟩] [])
      (.cond (.t 7)
        .skip
        (.region [⟨(some 9), (.bin .eql (.t 6) (.c (.i .i64 (15)))), none, []⟩,
          ⟨(some 7), (.mov (.t 9)), none, []⟩] [])))
      (.cond (.t 7)
        (.seq (.region [⟨(some 4), (.mov (.c (.b true))), none, []⟩] [])
        .ret)
        (.seq (.region [⟨(some 11), (.bin .eql (.t 6) (.c (.i .i64 (40)))), none, []⟩,
          ⟨(some 10), (.mov (.t 11)), none, []⟩] [])
        (.cond (.t 10)
          (.seq (.region [⟨(some 12), (.mov (.t 0)), none, []⟩,
            ⟨(some 13), (.off (.t 3) 2), none, []⟩,
            ⟨(some 14), (.load none (.t 13)), none, []⟩,
            ⟨(some 15), (.off (.t 3) 1), none, []⟩,
            ⟨(some 16), (.load none (.t 15)), none, []⟩,
            ⟨(some 17), (.bsl 1 1 [(.i .i64 (0))] [(0, 1, (.t 16))]), none, []⟩,
            ⟨(some 18), (.call 49 [(.t 12), (.t 14), (.t 17)]), none, []⟩,
            ⟨(some 4), (.mov (.t 18)), none, []⟩] [])
          .ret)
          (.seq (.seq (.region [⟨(some 20), (.bin .eql (.t 6) (.c (.i .i64 (7)))), none, []⟩,
            ⟨(some 19), (.mov (.t 20)), none, []⟩] [])
          (.cond (.t 19)
            .skip
            (.region [⟨(some 21), (.bin .eql (.t 6) (.c (.i .i64 (42)))), none, []⟩,
              ⟨(some 19), (.mov (.t 21)), none, []⟩] [])))
          (.cond (.t 19)
            (.seq (.region [⟨(some 22), (.mov (.t 0)), none, []⟩,
              ⟨(some 23), (.off (.t 3) 2), none, []⟩,
              ⟨(some 24), (.load none (.t 23)), none, []⟩,
              ⟨(some 25), (.bsl 1 1 [(.i .i64 (0))] [(0, 1, (.c (.i .i64 (2))))]), none, []⟩,
              ⟨(some 26), (.call 49 [(.t 22), (.t 24), (.t 25)]), none, []⟩,
              ⟨(some 4), (.mov (.t 26)), none, []⟩] [])
            .ret)
            (.seq (.region [⟨(some 28), (.bin .eql (.t 6) (.c (.i .i64 (8)))), none, []⟩,
              ⟨(some 27), (.mov (.t 28)), none, []⟩] [])
            (.cond (.t 27)
              (.seq (.region [⟨(some 29), (.mov (.t 0)), none, []⟩,
                ⟨(some 30), (.off (.t 3) 2), none, []⟩,
                ⟨(some 31), (.load none (.t 30)), none, []⟩,
                ⟨(some 32), (.bsl 1 2 [(.i .i64 (0)), (.i .i64 (0))] [(0, 1, (.c (.i .i64 (3)))), (1, 1, (.c (.i .i64 (4))))]), none, []⟩,
                ⟨(some 33), (.call 49 [(.t 29), (.t 31), (.t 32)]), none, []⟩,
                ⟨(some 4), (.mov (.t 33)), none, []⟩] [])
              .ret)
              (.seq (.seq (.region [⟨(some 35), (.bin .eql (.t 6) (.c (.i .i64 (6)))), none, []⟩,
                ⟨(some 34), (.mov (.t 35)), none, []⟩] [])
              (.cond (.t 34)
                .skip
                (.seq (.region [⟨(some 36), (.bin .eql (.t 6) (.c (.i .i64 (10)))), none, []⟩,
                  ⟨(some 34), (.mov (.t 36)), none, []⟩] [])
                (.cond (.t 34)
                  .skip
                  (.seq (.region [⟨(some 37), (.bin .eql (.t 6) (.c (.i .i64 (11)))), none, []⟩,
                    ⟨(some 34), (.mov (.t 37)), none, []⟩] [])
                  (.cond (.t 34)
                    .skip
                    (.seq (.region [⟨(some 38), (.bin .eql (.t 6) (.c (.i .i64 (41)))), none, []⟩,
                      ⟨(some 34), (.mov (.t 38)), none, []⟩] [])
                    (.cond (.t 34)
                      .skip
                      (.seq (.region [⟨(some 39), (.bin .eql (.t 6) (.c (.i .i64 (43)))), none, []⟩,
                        ⟨(some 34), (.mov (.t 39)), none, []⟩] [])
                      (.cond (.t 34)
                        .skip
                        (.seq (.region [⟨(some 40), (.bin .eql (.t 6) (.c (.i .i64 (44)))), none, []⟩,
                          ⟨(some 34), (.mov (.t 40)), none, []⟩] [])
                        (.cond (.t 34)
                          .skip
                          (.seq (.region [⟨(some 41), (.bin .eql (.t 6) (.c (.i .i64 (45)))), none, []⟩,
                            ⟨(some 34), (.mov (.t 41)), none, []⟩] [])
                          (.cond (.t 34)
                            .skip
                            (.seq (.region [⟨(some 42), (.bin .eql (.t 6) (.c (.i .i64 (46)))), none, []⟩,
                              ⟨(some 34), (.mov (.t 42)), none, []⟩] [])
                            (.cond (.t 34)
                              .skip
                              (.seq (.region [⟨(some 43), (.bin .eql (.t 6) (.c (.i .i64 (47)))), none, []⟩,
                                ⟨(some 34), (.mov (.t 43)), none, []⟩] [])
                              (.cond (.t 34)
                                .skip
                                (.seq (.region [⟨(some 44), (.bin .eql (.t 6) (.c (.i .i64 (48)))), none, []⟩,
                                  ⟨(some 34), (.mov (.t 44)), none, []⟩] [])
                                (.cond (.t 34)
                                  .skip
                                  (.region [⟨(some 45), (.bin .eql (.t 6) (.c (.i .i64 (49)))), none, []⟩,
                                    ⟨(some 34), (.mov (.t 45)), none, []⟩] [])))))))))))))))))))))
              (.cond (.t 34)
                (.seq (.region [⟨(some 46), (.mov (.t 0)), none, []⟩,
                  ⟨(some 47), (.off (.t 3) 2), none, []⟩,
                  ⟨(some 48), (.load none (.t 47)), none, []⟩,
                  ⟨(some 49), (.bsl 1 1 [(.i .i64 (0))] [(0, 1, (.c (.i .i64 (1))))]), none, []⟩,
                  ⟨(some 50), (.call 49 [(.t 46), (.t 48), (.t 49)]), none, []⟩,
                  ⟨(some 4), (.mov (.t 50)), none, []⟩] [])
                .ret)
                .skip))))))))))))
    (.seq (.region [⟨(some 4), (.mov (.c (.b false))), none, []⟩] [])
    .ret))),
    51, 2, [.t 4], 0⟩
theorem tr30 : trFunc Tryd.prog [([], []), ([], []), ([], []), ([], []), ([], []), ([], []), ([], []), ([], []), ([], []), ([], []), ([], []), ([], []), ([], []), ([], []), ([], []), ([], []), ([], []), ([], []), ([], []), ([], []), ([], []), ([], []), ([], []), ([], []), ([], []), ([], []), ([], []), ([], []), ([], []), ([], []), ([], []), ([], []), ([], []), ([], []), ([], []), ([], []), ([], []), ([], [])] 0 Tryd.f30 = some I30 := by kernel_rfl

/-- 'encore/encoreref20.Same'. -/
def L31a : ICode :=
  (.seq (.seq (.region [⟨(some 62), (.mov (.t 5)), none, []⟩,
      ⟨(some 63), (.off (.t 2) 4), none, []⟩,
      ⟨(some 64), (.load none (.t 63)), none, []⟩,
      ⟨(some 65), (.lenk 0 (.t 64)), none, []⟩,
      ⟨(some 66), (.bin .lss (.t 62) (.t 65)), none, []⟩] [])
    (.cond (.t 66)
      .skip
      (.exit 0)))
    (.seq (.block 1
      (.seq (.region [⟨(some 69), (.off (.t 2) 4), none, []⟩,
        ⟨(some 70), (.load none (.t 69)), none, []⟩,
        ⟨(some 71), (.mov (.t 5)), none, []⟩,
        ⟨(some 72), (.iaddr 5 (.t 70) (.t 71)), none, []⟩,
        ⟨(some 73), (.load (some 5) (.t 72)), none, []⟩,
        ⟨(some 74), (.off (.t 3) 4), none, []⟩,
        ⟨(some 75), (.load none (.t 74)), none, []⟩,
        ⟨(some 76), (.mov (.t 5)), none, []⟩,
        ⟨(some 77), (.iaddr 5 (.t 75) (.t 76)), none, []⟩,
        ⟨(some 78), (.load (some 5) (.t 77)), none, []⟩,
        ⟨(some 79), (.call 9 [(.t 73), (.t 78)]), none, []⟩,
        ⟨(some 80), (.un .not (.t 79)), none, []⟩] [])
      (.cond (.t 80)
        (.seq (.region [⟨(some 4), (.mov (.c (.b false))), none, []⟩] [])
        .ret)
        .skip)))
    (.region [⟨(some 67), (.mov (.t 5)), none, []⟩,
      ⟨(some 68), (.bin .add (.t 67) (.c (.i .i64 (1)))), none, []⟩,
      ⟨(some 5), (.mov (.t 68)), none, []⟩] [])))
def I31 : IFunc :=
  ⟨(.seq (.region [⟨(some 2), (.box (.t 0)), none, []⟩,
      ⟨(some 3), (.box (.t 1)), none, []⟩,
      ⟨(some 4), (.mov (.c (.b false))), none, []⟩] [])
    (.seq (.seq (.region [⟨(some 6), (.off (.t 2) 0), none, []⟩,
      ⟨(some 7), (.load none (.t 6)), none, []⟩,
      ⟨(some 8), (.off (.t 3) 0), none, []⟩,
      ⟨(some 9), (.load none (.t 8)), none, []⟩,
      ⟨(some 10), (.bin .neq (.t 7) (.t 9)), none, []⟩,
      ⟨(some 11), (.mov (.t 10)), none, []⟩,
      ⟨(some 12), (.off (.t 2) 1), (some (11, false)), []⟩,
      ⟨(some 13), (.load none (.t 12)), (some (11, false)), []⟩,
      ⟨(some 14), (.off (.t 3) 1), (some (11, false)), []⟩,
      ⟨(some 15), (.load none (.t 14)), (some (11, false)), []⟩,
      ⟨(some 16), (.bin .neq (.t 13) (.t 15)), (some (11, false)), []⟩,
      ⟨(some 17), (.pick (.t 11) (.c (.b true)) (.t 16)), none, []⟩,
      ⟨(some 18), (.mov (.t 17)), none, []⟩,
      ⟨(some 19), (.off (.t 2) 2), (some (18, false)), []⟩,
      ⟨(some 20), (.load none (.t 19)), (some (18, false)), []⟩,
      ⟨(some 21), (.off (.t 3) 2), (some (18, false)), []⟩,
      ⟨(some 22), (.load none (.t 21)), (some (18, false)), []⟩,
      ⟨(some 23), (.bin .neq (.t 20) (.t 22)), (some (18, false)), []⟩,
      ⟨(some 24), (.pick (.t 18) (.c (.b true)) (.t 23)), none, []⟩,
      ⟨(some 25), (.mov (.t 24)), none, []⟩,
      ⟨(some 26), (.off (.t 2) 3), (some (25, false)), []⟩,
      ⟨(some 27), (.load none (.t 26)), (some (25, false)), []⟩,
      ⟨(some 28), (.off (.t 3) 3), (some (25, false)), []⟩,
      ⟨(some 29), (.load none (.t 28)), (some (25, false)), []⟩,
      ⟨(some 30), (.bin .neq (.t 27) (.t 29)), (some (25, false)), []⟩,
      ⟨(some 31), (.pick (.t 25) (.c (.b true)) (.t 30)), none, []⟩,
      ⟨(some 32), (.mov (.t 31)), none, []⟩,
      ⟨(some 33), (.off (.t 2) 6), (some (32, false)), []⟩,
      ⟨(some 34), (.load none (.t 33)), (some (32, false)), []⟩,
      ⟨(some 35), (.off (.t 3) 6), (some (32, false)), []⟩,
      ⟨(some 36), (.load none (.t 35)), (some (32, false)), []⟩,
      ⟨(some 37), (.bin .neq (.t 34) (.t 36)), (some (32, false)), []⟩,
      ⟨(some 38), (.pick (.t 32) (.c (.b true)) (.t 37)), none, []⟩,
      ⟨(some 39), (.mov (.t 38)), none, []⟩,
      ⟨(some 40), (.off (.t 2) 7), (some (39, false)), []⟩,
      ⟨(some 41), (.load none (.t 40)), (some (39, false)), []⟩,
      ⟨(some 42), (.off (.t 3) 7), (some (39, false)), []⟩,
      ⟨(some 43), (.load none (.t 42)), (some (39, false)), []⟩,
      ⟨(some 44), (.bin .neq (.t 41) (.t 43)), (some (39, false)), []⟩,
      ⟨(some 45), (.pick (.t 39) (.c (.b true)) (.t 44)), none, []⟩,
      ⟨(some 46), (.mov (.t 45)), none, []⟩,
      ⟨(some 47), (.off (.t 2) 15), (some (46, false)), []⟩,
      ⟨(some 48), (.load none (.t 47)), (some (46, false)), []⟩,
      ⟨(some 49), (.off (.t 3) 15), (some (46, false)), []⟩,
      ⟨(some 50), (.load none (.t 49)), (some (46, false)), []⟩,
      ⟨(some 51), (.bin .neq (.t 48) (.t 50)), (some (46, false)), []⟩,
      ⟨(some 52), (.pick (.t 46) (.c (.b true)) (.t 51)), none, []⟩,
      ⟨(some 53), (.mov (.t 52)), none, []⟩,
      ⟨(some 54), (.off (.t 2) 4), (some (53, false)), []⟩,
      ⟨(some 55), (.load none (.t 54)), (some (53, false)), []⟩,
      ⟨(some 56), (.lenk 0 (.t 55)), (some (53, false)), []⟩,
      ⟨(some 57), (.off (.t 3) 4), (some (53, false)), []⟩,
      ⟨(some 58), (.load none (.t 57)), (some (53, false)), []⟩,
      ⟨(some 59), (.lenk 0 (.t 58)), (some (53, false)), []⟩,
      ⟨(some 60), (.bin .neq (.t 56) (.t 59)), (some (53, false)), []⟩,
      ⟨(some 61), (.pick (.t 53) (.c (.b true)) (.t 60)), none, []⟩] [])
    (.cond (.t 61)
      (.seq (.region [⟨(some 4), (.mov (.c (.b false))), none, []⟩] [])
      .ret)
      .skip))
    (.seq (.seq (.region [⟨(some 5), (.mov (.c (.i .i64 (0)))), none, []⟩] [])
    (.block 0
      (.loop L31a)))
    (.seq (.region [⟨(some 81), (.off (.t 2) 5), none, []⟩,
      ⟨(some 82), (.load none (.t 81)), none, []⟩,
      ⟨(some 83), (.off (.t 3) 5), none, []⟩,
      ⟨(some 84), (.load none (.t 83)), none, []⟩,
      ⟨(some 85), (.call 26 [(.t 82), (.t 84)]), none, []⟩,
      ⟨(some 86), (.mov (.t 85)), none, []⟩,
      ⟨(some 87), (.off (.t 2) 8), (some (86, true)), []⟩,
      ⟨(some 88), (.load (some 7) (.t 87)), (some (86, true)), []⟩,
      ⟨(some 89), (.off (.t 3) 8), (some (86, true)), []⟩,
      ⟨(some 90), (.load (some 7) (.t 89)), (some (86, true)), []⟩,
      ⟨(some 91), (.call 47 [(.t 88), (.t 90)]), (some (86, true)), []⟩,
      ⟨(some 92), (.pick (.t 86) (.t 91) (.c (.b false))), none, []⟩,
      ⟨(some 4), (.mov (.t 92)), none, []⟩] [])
    .ret)))),
    93, 2, [.t 4], 0⟩
theorem tr31 : trFunc Tryd.prog [([], []), ([], []), ([], []), ([], []), ([], []), ([], []), ([], []), ([0, 1, 2, 3, 4, 5, 6, 7, 8, 9, 10, 11], []), ([], []), ([], []), ([], []), ([], [])] 0 Tryd.f31 = some I31 := by kernel_rfl

/-- '(encore/lift.Ins).fits'. -/
def I32 : IFunc :=
  ⟨(.seq (.region [⟨(some 3), (.box (.t 0)), none, []⟩,
      ⟨(some 6), (.mov (.c (.b false))), none, []⟩] [])
    (.seq (.region [⟨(some 11), (.load (some 5) (.t 3)), none, []⟩,
      ⟨(some 12), (.call 50 [(.t 11)]), none, []⟩,
      ⟨(some 10), (.mov (.t 12)), none, []⟩,
      ⟨(some 13), (.ext (.t 10) 0), none, []⟩,
      ⟨(some 14), (.ext (.t 10) 1), none, []⟩,
      ⟨(some 15), (.ext (.t 10) 2), none, []⟩,
      ⟨(some 7), (.mov (.t 13)), none, []⟩,
      ⟨(some 8), (.mov (.t 14)), none, []⟩,
      ⟨(some 9), (.mov (.t 15)), none, []⟩] [])
    (.seq (.region [⟨(some 16), (.mov (.t 9)), none, []⟩,
      ⟨(some 17), (.mov (.t 16)), none, []⟩,
      ⟨(some 18), (.off (.t 3) 2), (some (17, true)), []⟩,
      ⟨(some 19), (.load none (.t 18)), (some (17, true)), []⟩,
      ⟨(some 20), (.lenk 0 (.t 19)), (some (17, true)), []⟩,
      ⟨(some 21), (.mov (.t 7)), (some (17, true)), []⟩,
      ⟨(some 22), (.bin .geq (.t 20) (.t 21)), (some (17, true)), []⟩,
      ⟨(some 23), (.pick (.t 17) (.t 22) (.c (.b false))), none, []⟩,
      ⟨(some 24), (.mov (.t 23)), none, []⟩,
      ⟨(some 25), (.off (.t 3) 2), (some (24, true)), []⟩,
      ⟨(some 26), (.load none (.t 25)), (some (24, true)), []⟩,
      ⟨(some 27), (.lenk 0 (.t 26)), (some (24, true)), []⟩,
      ⟨(some 28), (.mov (.t 8)), (some (24, true)), []⟩,
      ⟨(some 29), (.bin .leq (.t 27) (.t 28)), (some (24, true)), []⟩,
      ⟨(some 30), (.pick (.t 24) (.t 29) (.c (.b false))), none, []⟩,
      ⟨(some 31), (.mov (.t 30)), none, []⟩,
      ⟨(some 32), (.off (.t 3) 2), (some (31, true)), []⟩,
      ⟨(some 33), (.load none (.t 32)), (some (31, true)), []⟩,
      ⟨(some 34), (.mov (.t 1)), (some (31, true)), []⟩,
      ⟨(some 35), (.mov (.t 2)), (some (31, true)), []⟩,
      ⟨(some 36), (.call 35 [(.t 33), (.t 34), (.t 35)]), (some (31, true)), []⟩,
      ⟨(some 37), (.pick (.t 31) (.t 36) (.c (.b false))), none, []⟩,
      ⟨(some 6), (.mov (.t 37)), none, []⟩] [])
    .ret))),
    38, 3, [.t 6], 0⟩
theorem tr32 : trFunc Tryd.prog [([], []), ([], []), ([], [])] 0 Tryd.f32 = some I32 := by kernel_rfl

/-- '(encore/lift.Operand).fits'. -/
def I33 : IFunc :=
  ⟨(.seq (.region [⟨(some 3), (.box (.t 0)), none, []⟩,
      ⟨(some 6), (.mov (.c (.b false))), none, []⟩] [])
    (.seq (.seq (.region [⟨(some 7), (.off (.t 3) 0), none, []⟩,
      ⟨(some 8), (.load none (.t 7)), none, []⟩] [])
    (.block 0
      (.seq (.region [⟨(some 10), (.bin .eql (.t 8) (.c (.i .i64 (1)))), none, []⟩,
        ⟨(some 9), (.mov (.t 10)), none, []⟩] [])
      (.cond (.t 9)
        (.seq (.region [⟨(some 11), (.off (.t 3) 1), none, []⟩,
          ⟨(some 12), (.load none (.t 11)), none, []⟩,
          ⟨(some 13), (.bin .geq (.t 12) (.c (.i .i64 (0)))), none, []⟩,
          ⟨(some 14), (.mov (.t 13)), none, []⟩,
          ⟨(some 15), (.off (.t 3) 1), (some (14, true)), []⟩,
          ⟨(some 16), (.load none (.t 15)), (some (14, true)), []⟩,
          ⟨(some 17), (.mov (.t 1)), (some (14, true)), []⟩,
          ⟨(some 18), (.bin .lss (.t 16) (.t 17)), (some (14, true)), []⟩,
          ⟨(some 19), (.pick (.t 14) (.t 18) (.c (.b false))), none, []⟩,
          ⟨(some 20), (.mov (.t 19)), none, []⟩,
          ⟨(some 21), (.off (.t 3) 2), (some (20, true)), []⟩,
          ⟨(some 22), (.load (some 5) (.t 21)), (some (20, true)), []⟩,
          ⟨(some 23), (.call 34 [(.t 22)]), (some (20, true)), []⟩,
          ⟨(some 24), (.pick (.t 20) (.t 23) (.c (.b false))), none, []⟩,
          ⟨(some 6), (.mov (.t 24)), none, []⟩] [])
        .ret)
        (.seq (.region [⟨(some 26), (.bin .eql (.t 8) (.c (.i .i64 (2)))), none, []⟩,
          ⟨(some 25), (.mov (.t 26)), none, []⟩] [])
        (.cond (.t 25)
          (.seq (.region [⟨(some 27), (.off (.t 3) 1), none, []⟩,
            ⟨(some 28), (.load none (.t 27)), none, []⟩,
            ⟨(some 29), (.bin .geq (.t 28) (.c (.i .i64 (0)))), none, []⟩,
            ⟨(some 30), (.mov (.t 29)), none, []⟩,
            ⟨(some 31), (.off (.t 3) 1), (some (30, true)), []⟩,
            ⟨(some 32), (.load none (.t 31)), (some (30, true)), []⟩,
            ⟨(some 33), (.mov (.t 2)), (some (30, true)), []⟩,
            ⟨(some 34), (.bin .lss (.t 32) (.t 33)), (some (30, true)), []⟩,
            ⟨(some 35), (.pick (.t 30) (.t 34) (.c (.b false))), none, []⟩,
            ⟨(some 36), (.mov (.t 35)), none, []⟩,
            ⟨(some 37), (.off (.t 3) 2), (some (36, true)), []⟩,
            ⟨(some 38), (.load (some 5) (.t 37)), (some (36, true)), []⟩,
            ⟨(some 39), (.call 34 [(.t 38)]), (some (36, true)), []⟩,
            ⟨(some 40), (.pick (.t 36) (.t 39) (.c (.b false))), none, []⟩,
            ⟨(some 6), (.mov (.t 40)), none, []⟩] [])
          .ret)
          (.seq (.region [⟨(some 42), (.bin .eql (.t 8) (.c (.i .i64 (3)))), none, []⟩,
            ⟨(some 41), (.mov (.t 42)), none, []⟩] [])
          (.cond (.t 41)
            (.seq (.region [⟨(some 43), (.off (.t 3) 1), none, []⟩,
              ⟨(some 44), (.load none (.t 43)), none, []⟩,
              ⟨(some 45), (.bin .eql (.t 44) (.c (.i .i64 (0)))), none, []⟩,
              ⟨(some 46), (.mov (.t 45)), none, []⟩,
              ⟨(some 47), (.off (.t 3) 2), (some (46, true)), []⟩,
              ⟨(some 48), (.load (some 5) (.t 47)), (some (46, true)), []⟩,
              ⟨(some 49), (.call 51 [(.t 48)]), (some (46, true)), []⟩,
              ⟨(some 50), (.pick (.t 46) (.t 49) (.c (.b false))), none, []⟩,
              ⟨(some 6), (.mov (.t 50)), none, []⟩] [])
            .ret)
            .skip))))))))
    (.seq (.region [⟨(some 6), (.mov (.c (.b false))), none, []⟩] [])
    .ret))),
    51, 3, [.t 6], 0⟩
theorem tr33 : trFunc Tryd.prog [([], []), ([], []), ([], []), ([], []), ([], []), ([], []), ([], []), ([], []), ([], []), ([], [])] 0 Tryd.f33 = some I33 := by kernel_rfl

/-- 'encore/lift.none'. -/
def I34 : IFunc :=
  ⟨(.seq (.region [⟨(some 1), (.box (.t 0)), none, []⟩,
      ⟨(some 2), (.mov (.c (.b false))), none, []⟩] [])
    (.seq (.region [⟨(some 3), (.load (some 5) (.t 1)), none, []⟩,
      ⟨(some 4), (.build [(.i .i64 (0)), (.i .i64 (0)), (.s []), .ns, .ns] []), none, []⟩,
      ⟨(some 5), (.call 52 [(.t 3), (.t 4)]), none, []⟩,
      ⟨(some 2), (.mov (.t 5)), none, []⟩] [])
    .ret)),
    6, 1, [.t 2], 0⟩
theorem tr34 : trFunc Tryd.prog [([], []), ([], [])] 0 Tryd.f34 = some I34 := by kernel_rfl

/-- 'encore/lift.fit'. -/
def I35 : IFunc :=
  ⟨(.seq (.region [⟨(some 4), (.box (.t 1)), none, []⟩,
      ⟨(some 5), (.box (.t 2)), none, []⟩,
      ⟨(some 6), (.mov (.c (.b false))), none, []⟩] [])
    (.seq (.region [⟨(some 7), (.mov (.t 0)), none, []⟩,
      ⟨(some 8), (.mkf 54 [] [(.t 4), (.t 5)]), none, []⟩,
      ⟨(some 9), (.call 53 [(.t 7), (.t 8)]), none, []⟩,
      ⟨(some 10), (.un .not (.t 9)), none, []⟩,
      ⟨(some 6), (.mov (.t 10)), none, []⟩] [])
    .ret)),
    11, 3, [.t 6], 0⟩
theorem tr35 : trFunc Tryd.prog [([], []), ([], [])] 0 Tryd.f35 = some I35 := by kernel_rfl

/-- 'slices.Clone[[]string,string]'. -/
def I36 : IFunc :=
  ⟨(.seq (.region [⟨(some 2), (.mov (.c .ns)), none, []⟩] [])
    (.seq (.seq (.region [⟨(some 3), (.mov (.t 0)), none, []⟩,
      ⟨(some 4), (.eqNil 0 false (.t 3) (.c .ns)), none, []⟩] [])
    (.cond (.t 4)
      (.seq (.region [⟨(some 2), (.mov (.c .ns)), none, []⟩] [])
      .ret)
      .skip))
    (.seq (.region [⟨(some 5), (.bsl 1 0 [] []), none, []⟩,
      ⟨(some 6), (.mov (.t 0)), none, []⟩,
      ⟨(some 7), (.app 1 16 (.t 5) (.t 6)), none, []⟩,
      ⟨(some 2), (.mov (.t 7)), none, []⟩] [])
    .ret))),
    8, 1, [.t 2], 0⟩
theorem tr36 : trFunc Tryd.prog [([], []), ([], []), ([], []), ([], []), ([], [])] 0 Tryd.f36 = some I36 := by kernel_rfl

/-- 'slices.IndexFunc[[]encore/lift.Ins,encore/lift.Ins]'. -/
def L37a : ICode :=
  (.seq (.region [⟨(some 9), (.bin .lss (.t 8) (.t 7)), none, []⟩] [])
    (.seq (.cond (.t 9)
      .skip
      (.exit 0))
    (.seq (.block 1
      (.seq (.region [⟨(some 10), (.mov (.t 8)), none, []⟩,
        ⟨(some 5), (.mov (.t 10)), none, []⟩] [])
      (.seq (.region [⟨(some 11), (.mov (.t 1)), none, []⟩,
        ⟨(some 12), (.mov (.t 0)), none, []⟩,
        ⟨(some 13), (.mov (.t 5)), none, []⟩,
        ⟨(some 14), (.iaddr 5 (.t 12) (.t 13)), none, []⟩,
        ⟨(some 15), (.load (some 5) (.t 14)), none, []⟩,
        ⟨(some 16), (.callv (.t 11) [(.t 15)]), none, []⟩] [])
      (.cond (.t 16)
        (.seq (.region [⟨(some 17), (.mov (.t 5)), none, []⟩,
          ⟨(some 4), (.mov (.t 17)), none, []⟩] [])
        .ret)
        .skip))))
    (.region [⟨(some 18), (.bin .add (.t 8) (.c (.i .i64 (1)))), none, []⟩,
      ⟨(some 8), (.mov (.t 18)), none, []⟩] []))))
def I37 : IFunc :=
  ⟨(.seq (.region [⟨(some 4), (.mov (.c (.i .i64 (0)))), none, []⟩] [])
    (.seq (.seq (.region [⟨(some 6), (.mov (.t 0)), none, []⟩,
      ⟨(some 7), (.lenk 0 (.t 6)), none, []⟩,
      ⟨(some 8), (.mov (.c (.i .i64 (0)))), none, []⟩] [])
    (.block 0
      (.loop L37a)))
    (.seq (.region [⟨(some 4), (.mov (.c (.i .i64 (-1)))), none, []⟩] [])
    .ret))),
    19, 2, [.t 4], 0⟩
theorem tr37 : trFunc Tryd.prog [([], []), ([], []), ([], []), ([], []), ([], []), ([], []), ([], []), ([], []), ([], []), ([], [])] 0 Tryd.f37 = some I37 := by kernel_rfl

/-- 'encore/prune.once$1'. -/
def I38 : IFunc :=
  ⟨(.seq (.region [⟨(some 2), (.box (.t 0)), none, []⟩,
      ⟨(some 3), (.mov (.c (.b false))), none, []⟩] [])
    (.seq (.region [⟨(some 4), (.load (some 5) (.t 1)), none, []⟩,
      ⟨(some 5), (.load (some 5) (.t 2)), none, []⟩,
      ⟨(some 6), (.call 39 [(.t 4), (.t 5)]), none, []⟩,
      ⟨(some 3), (.mov (.t 6)), none, []⟩] [])
    .ret)),
    7, 2, [.t 3], 0⟩
theorem tr38 : trFunc Tryd.prog [([], []), ([], [])] 0 Tryd.f38 = some I38 := by kernel_rfl

/-- 'encore/prune.alike'. -/
def I39 : IFunc :=
  ⟨(.seq (.region [⟨(some 2), (.box (.t 0)), none, []⟩,
      ⟨(some 3), (.box (.t 1)), none, []⟩,
      ⟨(some 4), (.mov (.c (.b false))), none, []⟩] [])
    (.seq (.region [⟨(some 5), (.off (.t 2) 0), none, []⟩,
      ⟨(some 6), (.load none (.t 5)), none, []⟩,
      ⟨(some 7), (.off (.t 2) 1), none, []⟩,
      ⟨(some 8), (.load none (.t 7)), none, []⟩,
      ⟨(some 9), (.off (.t 2) 3), none, []⟩,
      ⟨(some 10), (.load none (.t 9)), none, []⟩,
      ⟨(some 11), (.build [(.i .i64 (0)), (.i .i64 (0)), (.s [])] [(0, 1, (.t 6)), (1, 1, (.t 8)), (2, 1, (.t 10))]), none, []⟩,
      ⟨(some 12), (.off (.t 3) 0), none, []⟩,
      ⟨(some 13), (.load none (.t 12)), none, []⟩,
      ⟨(some 14), (.off (.t 3) 1), none, []⟩,
      ⟨(some 15), (.load none (.t 14)), none, []⟩,
      ⟨(some 16), (.off (.t 3) 3), none, []⟩,
      ⟨(some 17), (.load none (.t 16)), none, []⟩,
      ⟨(some 18), (.build [(.i .i64 (0)), (.i .i64 (0)), (.s [])] [(0, 1, (.t 13)), (1, 1, (.t 15)), (2, 1, (.t 17))]), none, []⟩,
      ⟨(some 19), (.eqAg [1, 1, 2] false (.t 11) (.t 18)), none, []⟩,
      ⟨(some 20), (.mov (.t 19)), none, []⟩,
      ⟨(some 21), (.off (.t 2) 2), (some (20, true)), []⟩,
      ⟨(some 22), (.load none (.t 21)), (some (20, true)), []⟩,
      ⟨(some 23), (.off (.t 3) 2), (some (20, true)), []⟩,
      ⟨(some 24), (.load none (.t 23)), (some (20, true)), []⟩,
      ⟨(some 25), (.call 55 [(.t 22), (.t 24), (.f 56)]), (some (20, true)), []⟩,
      ⟨(some 26), (.pick (.t 20) (.t 25) (.c (.b false))), none, []⟩,
      ⟨(some 27), (.mov (.t 26)), none, []⟩,
      ⟨(some 28), (.off (.t 2) 4), (some (27, true)), []⟩,
      ⟨(some 29), (.load none (.t 28)), (some (27, true)), []⟩,
      ⟨(some 30), (.off (.t 3) 4), (some (27, true)), []⟩,
      ⟨(some 31), (.load none (.t 30)), (some (27, true)), []⟩,
      ⟨(some 32), (.call 57 [(.t 29), (.t 31)]), (some (27, true)), []⟩,
      ⟨(some 33), (.pick (.t 27) (.t 32) (.c (.b false))), none, []⟩,
      ⟨(some 4), (.mov (.t 33)), none, []⟩] [])
    .ret)),
    34, 2, [.t 4], 0⟩
theorem tr39 : trFunc Tryd.prog [([], []), ([], [])] 0 Tryd.f39 = some I39 := by kernel_rfl

/-- 'encore/prune.turner$1'. -/
def L40a : ICode :=
  (.seq (.region [⟨(some 9), (.bin .lss (.t 8) (.t 7)), none, []⟩] [])
    (.seq (.cond (.t 9)
      .skip
      (.exit 0))
    (.seq (.block 1
      (.seq (.region [⟨(some 10), (.iaddr 7 (.t 6) (.t 8)), none, []⟩,
        ⟨(some 11), (.load (some 7) (.t 10)), none, []⟩,
        ⟨(some 5), (.alloc [(.i .i64 (0)), (.i .i64 (0)), (.i .i64 (0)), (.i .i64 (0)), (.s []), .ns, .ns]), none, []⟩,
        ⟨none, (.store 7 (.t 5) (.t 11)), none, []⟩] [])
      (.seq (.seq (.region [⟨(some 12), (.off (.t 5) 0), none, []⟩,
        ⟨(some 13), (.load none (.t 12)), none, []⟩,
        ⟨(some 14), (.bin .eql (.t 13) (.c (.i .i64 (2)))), none, []⟩] [])
      (.cond (.t 14)
        (.region [⟨(some 15), (.load none (.t 1)), none, []⟩,
          ⟨(some 16), (.nck (.t 15)), none, []⟩,
          ⟨(some 17), (.load none (.t 16)), none, []⟩,
          ⟨(some 18), (.off (.t 5) 1), none, []⟩,
          ⟨(some 19), (.load none (.t 18)), none, []⟩,
          ⟨(some 20), (.iaddr 7 (.t 17) (.t 19)), none, []⟩,
          ⟨(some 21), (.load (some 7) (.t 20)), none, []⟩,
          ⟨none, (.store 7 (.t 5) (.t 21)), none, []⟩] [])
        .skip))
      (.seq (.region [⟨(some 22), (.off (.t 5) 2), none, []⟩,
        ⟨(some 23), (.load (some 5) (.t 22)), none, []⟩,
        ⟨(some 24), (.call 41 [(.t 23)]), none, []⟩,
        ⟨(some 25), (.off (.t 5) 2), none, []⟩,
        ⟨none, (.store 5 (.t 25) (.t 24)), none, []⟩] [])
      (.region [⟨(some 26), (.mov (.t 3)), none, []⟩,
        ⟨(some 27), (.load (some 7) (.t 5)), none, []⟩,
        ⟨(some 28), (.bsl 7 1 [(.i .i64 (0)), (.i .i64 (0)), (.i .i64 (0)), (.i .i64 (0)), (.s []), .ns, .ns] [(0, 7, (.t 27))]), none, []⟩,
        ⟨(some 29), (.app 7 96 (.t 26) (.t 28)), none, []⟩,
        ⟨(some 3), (.mov (.t 29)), none, []⟩] [])))))
    (.region [⟨(some 30), (.bin .add (.t 8) (.c (.i .i64 (1)))), none, []⟩,
      ⟨(some 8), (.mov (.t 30)), none, []⟩] []))))
def I40 : IFunc :=
  ⟨(.seq (.region [⟨(some 3), (.mov (.c .ns)), none, []⟩] [])
    (.seq (.seq (.region [⟨(some 6), (.mov (.t 0)), none, []⟩,
      ⟨(some 7), (.lenk 0 (.t 6)), none, []⟩,
      ⟨(some 8), (.mov (.c (.i .i64 (0)))), none, []⟩] [])
    (.block 0
      (.loop L40a)))
    (.seq (.region [⟨(some 31), (.mov (.t 3)), none, []⟩,
      ⟨(some 3), (.mov (.t 31)), none, []⟩] [])
    .ret))),
    32, 2, [.t 3], 0⟩
theorem tr40 : trFunc Tryd.prog [([], []), ([], []), ([], []), ([], []), ([], []), ([], []), ([0, 1, 2, 3, 4, 5, 6, 7], []), ([], []), ([], []), ([], []), ([], []), ([], [])] 0 Tryd.f40 = some I40 := by kernel_rfl

/-- 'encore/prune.own'. -/
def L41a : ICode :=
  (.seq (.region [⟨(some 16), (.bin .lss (.t 15) (.t 14)), none, []⟩] [])
    (.seq (.cond (.t 16)
      .skip
      (.exit 0))
    (.seq (.block 1
      (.seq (.region [⟨(some 17), (.mov (.t 15)), none, []⟩,
        ⟨(some 3), (.mov (.t 17)), none, []⟩] [])
      (.region [⟨(some 18), (.off (.t 1) 3), none, []⟩,
        ⟨(some 19), (.load none (.t 18)), none, []⟩,
        ⟨(some 20), (.mov (.t 3)), none, []⟩,
        ⟨(some 21), (.off (.t 1) 3), none, []⟩,
        ⟨(some 22), (.load none (.t 21)), none, []⟩,
        ⟨(some 23), (.mov (.t 3)), none, []⟩,
        ⟨(some 24), (.iaddr 5 (.t 22) (.t 23)), none, []⟩,
        ⟨(some 25), (.load (some 5) (.t 24)), none, []⟩,
        ⟨(some 26), (.call 41 [(.t 25)]), none, [(19, (.load none (.t 18)), none)]⟩,
        ⟨(some 27), (.iaddr 5 (.t 19) (.t 20)), none, []⟩,
        ⟨none, (.store 5 (.t 27) (.t 26)), none, []⟩] [])))
    (.region [⟨(some 28), (.bin .add (.t 15) (.c (.i .i64 (1)))), none, []⟩,
      ⟨(some 15), (.mov (.t 28)), none, []⟩] []))))
def I41 : IFunc :=
  ⟨(.seq (.region [⟨(some 1), (.box (.t 0)), none, []⟩,
      ⟨(some 2), (.alloc [(.i .i64 (0)), (.i .i64 (0)), (.s []), .ns, .ns]), none, []⟩] [])
    (.seq (.region [⟨(some 4), (.off (.t 1) 4), none, []⟩,
      ⟨(some 5), (.load none (.t 4)), none, []⟩,
      ⟨(some 7), (.off (.t 1) 3), none, []⟩,
      ⟨(some 8), (.load none (.t 7)), none, []⟩,
      ⟨(some 6), (.call 36 [(.t 5)]), none, [(8, (.load none (.t 7)), none)]⟩,
      ⟨(some 10), (.off (.t 1) 4), none, []⟩,
      ⟨(some 9), (.call 58 [(.t 8)]), none, []⟩,
      ⟨none, (.store 1 (.t 10) (.t 6)), none, []⟩,
      ⟨(some 11), (.off (.t 1) 3), none, []⟩,
      ⟨none, (.store 1 (.t 11) (.t 9)), none, []⟩] [])
    (.seq (.seq (.region [⟨(some 12), (.off (.t 1) 3), none, []⟩,
      ⟨(some 13), (.load none (.t 12)), none, []⟩,
      ⟨(some 14), (.lenk 0 (.t 13)), none, []⟩,
      ⟨(some 15), (.mov (.c (.i .i64 (0)))), none, []⟩] [])
    (.block 0
      (.loop L41a)))
    (.seq (.region [⟨(some 29), (.load (some 5) (.t 1)), none, []⟩,
      ⟨none, (.store 5 (.t 2) (.t 29)), none, []⟩] [])
    .ret)))),
    30, 1, [.c 2 (some 5)], 0⟩
theorem tr41 : trFunc Tryd.prog [([], []), ([0, 1, 3, 4, 2, 6, 5, 7, 8, 9], []), ([], []), ([], []), ([], []), ([], []), ([0, 1, 2, 3, 4, 5, 6, 7, 8, 9, 10], []), ([], []), ([], [])] 0 Tryd.f41 = some I41 := by kernel_rfl

/-- 'encore/prune.needs$1'. -/
def L42a : ICode :=
  (.seq (.region [⟨(some 8), (.bin .lss (.t 7) (.t 6)), none, []⟩] [])
    (.seq (.cond (.t 8)
      .skip
      (.exit 0))
    (.seq (.block 1
      (.seq (.region [⟨(some 9), (.iaddr 7 (.t 5) (.t 7)), none, []⟩,
        ⟨(some 10), (.load (some 7) (.t 9)), none, []⟩,
        ⟨(some 4), (.alloc [(.i .i64 (0)), (.i .i64 (0)), (.i .i64 (0)), (.i .i64 (0)), (.s []), .ns, .ns]), none, []⟩,
        ⟨none, (.store 7 (.t 4) (.t 10)), none, []⟩] [])
      (.seq (.region [⟨(some 11), (.off (.t 4) 0), none, []⟩,
        ⟨(some 12), (.load none (.t 11)), none, []⟩,
        ⟨(some 13), (.bin .eql (.t 12) (.c (.i .i64 (2)))), none, []⟩] [])
      (.cond (.t 13)
        (.region [⟨(some 14), (.load none (.t 1)), none, []⟩,
          ⟨(some 15), (.off (.t 4) 1), none, []⟩,
          ⟨(some 16), (.load none (.t 15)), none, []⟩,
          ⟨(some 17), (.iaddr 1 (.t 14) (.t 16)), none, []⟩,
          ⟨none, (.store 1 (.t 17) (.c (.b true))), none, []⟩] [])
        .skip))))
    (.region [⟨(some 18), (.bin .add (.t 7) (.c (.i .i64 (1)))), none, []⟩,
      ⟨(some 7), (.mov (.t 18)), none, []⟩] []))))
def I42 : IFunc :=
  ⟨(.seq (.region [⟨(some 5), (.mov (.t 0)), none, []⟩,
      ⟨(some 6), (.lenk 0 (.t 5)), none, []⟩,
      ⟨(some 7), (.mov (.c (.i .i64 (0)))), none, []⟩] [])
    (.block 0
      (.loop L42a))),
    19, 2, [], 0⟩
theorem tr42 : trFunc Tryd.prog [([], []), ([], []), ([], []), ([], []), ([], []), ([], []), ([], []), ([], [])] 0 Tryd.f42 = some I42 := by kernel_rfl

/-- 'slices.Clone[[]encore/lift.Operand,encore/lift.Operand]'. -/
def I43 : IFunc :=
  ⟨(.seq (.region [⟨(some 2), (.mov (.c .ns)), none, []⟩] [])
    (.seq (.seq (.region [⟨(some 3), (.mov (.t 0)), none, []⟩,
      ⟨(some 4), (.eqNil 0 false (.t 3) (.c .ns)), none, []⟩] [])
    (.cond (.t 4)
      (.seq (.region [⟨(some 2), (.mov (.c .ns)), none, []⟩] [])
      .ret)
      .skip))
    (.seq (.region [⟨(some 5), (.bsl 7 0 [] []), none, []⟩,
      ⟨(some 6), (.mov (.t 0)), none, []⟩,
      ⟨(some 7), (.app 7 96 (.t 5) (.t 6)), none, []⟩,
      ⟨(some 2), (.mov (.t 7)), none, []⟩] [])
    .ret))),
    8, 1, [.t 2], 0⟩
theorem tr43 : trFunc Tryd.prog [([], []), ([], []), ([], []), ([], []), ([], [])] 0 Tryd.f43 = some I43 := by kernel_rfl

/-- 'encore/encoreref20.SameOperand'. -/
def I47 : IFunc :=
  ⟨(.seq (.region [⟨(some 2), (.box (.t 0)), none, []⟩,
      ⟨(some 3), (.box (.t 1)), none, []⟩,
      ⟨(some 4), (.mov (.c (.b false))), none, []⟩] [])
    (.seq (.region [⟨(some 5), (.off (.t 2) 0), none, []⟩,
      ⟨(some 6), (.load none (.t 5)), none, []⟩,
      ⟨(some 7), (.off (.t 3) 0), none, []⟩,
      ⟨(some 8), (.load none (.t 7)), none, []⟩,
      ⟨(some 9), (.bin .eql (.t 6) (.t 8)), none, []⟩,
      ⟨(some 10), (.mov (.t 9)), none, []⟩,
      ⟨(some 11), (.off (.t 2) 1), (some (10, true)), []⟩,
      ⟨(some 12), (.load none (.t 11)), (some (10, true)), []⟩,
      ⟨(some 13), (.off (.t 3) 1), (some (10, true)), []⟩,
      ⟨(some 14), (.load none (.t 13)), (some (10, true)), []⟩,
      ⟨(some 15), (.bin .eql (.t 12) (.t 14)), (some (10, true)), []⟩,
      ⟨(some 16), (.pick (.t 10) (.t 15) (.c (.b false))), none, []⟩,
      ⟨(some 17), (.mov (.t 16)), none, []⟩,
      ⟨(some 18), (.off (.t 2) 2), (some (17, true)), []⟩,
      ⟨(some 19), (.load (some 5) (.t 18)), (some (17, true)), []⟩,
      ⟨(some 20), (.off (.t 3) 2), (some (17, true)), []⟩,
      ⟨(some 21), (.load (some 5) (.t 20)), (some (17, true)), []⟩,
      ⟨(some 22), (.call 60 [(.t 19), (.t 21)]), (some (17, true)), []⟩,
      ⟨(some 23), (.pick (.t 17) (.t 22) (.c (.b false))), none, []⟩,
      ⟨(some 4), (.mov (.t 23)), none, []⟩] [])
    .ret)),
    24, 2, [.t 4], 0⟩
theorem tr47 : trFunc Tryd.prog [([], []), ([], [])] 0 Tryd.f47 = some I47 := by kernel_rfl

/-- 'slices.Repeat[[]int,int]'. -/
def L48a : ICode :=
  (.seq (.seq (.region [⟨(some 34), (.mov (.t 8)), none, []⟩,
      ⟨(some 35), (.mov (.t 7)), none, []⟩,
      ⟨(some 36), (.lenk 0 (.t 35)), none, []⟩,
      ⟨(some 37), (.bin .lss (.t 34) (.t 36)), none, []⟩] [])
    (.cond (.t 37)
      .skip
      (.exit 0)))
    (.block 1
      (.region [⟨(some 38), (.mov (.t 8)), none, []⟩,
        ⟨(some 39), (.mov (.t 7)), none, []⟩,
        ⟨(some 40), (.mov (.t 8)), none, []⟩,
        ⟨(some 41), (.slq 1 (.t 39) (some (.t 40)) none none), none, []⟩,
        ⟨(some 42), (.mov (.t 7)), none, []⟩,
        ⟨(some 43), (.mov (.t 8)), none, []⟩,
        ⟨(some 44), (.slq 1 (.t 42) none (some (.t 43)) none), none, []⟩,
        ⟨(some 45), (.cpy 1 (.t 41) (.t 44)), none, []⟩,
        ⟨(some 46), (.bin .add (.t 38) (.t 45)), none, []⟩,
        ⟨(some 8), (.mov (.t 46)), none, []⟩] [])))
def I48 : IFunc :=
  ⟨(.seq (.region [⟨(some 4), (.mov (.c .ns)), none, []⟩] [])
    (.seq (.seq (.region [⟨(some 9), (.mov (.t 1)), none, []⟩,
      ⟨(some 10), (.bin .lss (.t 9) (.c (.i .i64 (0)))), none, []⟩] [])
    (.cond (.t 10)
      (.region [⟨(some 11), (.iface 9 (.c (.s [99, 97, 110, 110, 111, 116, 32, 98, 101, 32, 110, 101, 103, 97, 116, 105, 118, 101]))), none, []⟩,
        ⟨none, .bad, none, []⟩] [])
      .skip))
    (.seq (.region [⟨(some 13), (.mov (.t 0)), none, []⟩,
      ⟨(some 14), (.lenk 0 (.t 13)), none, []⟩,
      ⟨(some 15), (.conv .u64 (.t 14)), none, []⟩,
      ⟨(some 16), (.mov (.t 1)), none, []⟩,
      ⟨(some 17), (.conv .u64 (.t 16)), none, []⟩,
      ⟨(some 18), (.call 61 [(.t 15), (.t 17)]), none, []⟩,
      ⟨(some 12), (.mov (.t 18)), none, []⟩,
      ⟨(some 19), (.ext (.t 12) 0), none, []⟩,
      ⟨(some 20), (.ext (.t 12) 1), none, []⟩,
      ⟨(some 5), (.mov (.t 19)), none, []⟩,
      ⟨(some 6), (.mov (.t 20)), none, []⟩] [])
    (.seq (.seq (.region [⟨(some 21), (.mov (.t 5)), none, []⟩,
      ⟨(some 22), (.bin .gtr (.t 21) (.c (.i .u64 (0)))), none, []⟩,
      ⟨(some 23), (.mov (.t 22)), none, []⟩,
      ⟨(some 24), (.mov (.t 6)), (some (23, false)), []⟩,
      ⟨(some 25), (.bin .gtr (.t 24) (.c (.i .u64 (9223372036854775807)))), (some (23, false)), []⟩,
      ⟨(some 26), (.pick (.t 23) (.c (.b true)) (.t 25)), none, []⟩] [])
    (.cond (.t 26)
      (.region [⟨(some 27), (.iface 9 (.c (.s [116, 104, 101, 32, 114, 101, 115, 117, 108, 116, 32, 111, 102, 32, 40, 108, 101, 110, 40, 120, 41, 32, 42, 32, 99, 111, 117, 110, 116, 41, 32, 111, 118, 101, 114, 102, 108, 111, 119, 115]))), none, []⟩,
        ⟨none, .bad, none, []⟩] [])
      .skip))
    (.seq (.region [⟨(some 28), (.mov (.t 6)), none, []⟩,
      ⟨(some 29), (.conv .i64 (.t 28)), none, []⟩,
      ⟨(some 30), (.mksl 1 8 [(.i .i64 (0))] (.t 29) (.t 29)), none, []⟩,
      ⟨(some 7), (.mov (.t 30)), none, []⟩] [])
    (.seq (.region [⟨(some 31), (.mov (.t 7)), none, []⟩,
      ⟨(some 32), (.mov (.t 0)), none, []⟩,
      ⟨(some 33), (.cpy 1 (.t 31) (.t 32)), none, []⟩,
      ⟨(some 8), (.mov (.t 33)), none, []⟩] [])
    (.seq (.block 0
      (.loop L48a))
    (.seq (.region [⟨(some 47), (.mov (.t 7)), none, []⟩,
      ⟨(some 4), (.mov (.t 47)), none, []⟩] [])
    .ret)))))))),
    48, 2, [.t 4], 0⟩
theorem tr48 : trFunc Tryd.prog [([], []), ([], []), ([], []), ([], []), ([], []), ([], []), ([], []), ([], []), ([], []), ([], []), ([], []), ([], []), ([0, 1, 2, 3, 4, 5, 6, 7, 8, 9], []), ([], [])] 0 Tryd.f48 = some I48 := by kernel_rfl

/-- '(*encore/prune.facts).all'. -/
def I49 : IFunc :=
  ⟨(.seq (.region [⟨(some 3), (.box (.t 0)), none, []⟩,
      ⟨(some 4), (.box (.t 1)), none, []⟩,
      ⟨(some 6), (.mov (.c (.b false))), none, []⟩] [])
    (.seq (.region [⟨(some 7), (.mov (.t 2)), none, []⟩,
      ⟨(some 8), (.mkf 63 [] [(.t 4), (.t 3)]), none, []⟩,
      ⟨(some 9), (.call 62 [(.t 7), (.t 8)]), none, []⟩,
      ⟨(some 6), (.mov (.t 9)), none, []⟩] [])
    .ret)),
    10, 3, [.t 6], 0⟩
theorem tr49 : trFunc Tryd.prog [([], []), ([], [])] 0 Tryd.f49 = some I49 := by kernel_rfl

/-- '(encore/lift.Ins).needs'. -/
def I50 : IFunc :=
  ⟨(.seq (.region [⟨(some 1), (.box (.t 0)), none, []⟩,
      ⟨(some 2), (.mov (.c (.i .i64 (0)))), none, []⟩,
      ⟨(some 3), (.mov (.c (.i .i64 (0)))), none, []⟩,
      ⟨(some 4), (.mov (.c (.b false))), none, []⟩] [])
    (.seq (.region [⟨(some 6), (.off (.t 1) 1), none, []⟩,
      ⟨(some 7), (.load none (.t 6)), none, []⟩,
      ⟨(some 8), (.off (.t 1) 3), none, []⟩,
      ⟨(some 9), (.load none (.t 8)), none, []⟩,
      ⟨(some 10), (.off (.t 1) 4), none, []⟩,
      ⟨(some 11), (.load none (.t 10)), none, []⟩,
      ⟨(some 12), (.lenk 0 (.t 11)), none, []⟩,
      ⟨(some 13), (.bin .gtr (.t 12) (.c (.i .i64 (0)))), none, []⟩,
      ⟨(some 14), (.build [(.i .i64 (0)), (.s []), (.b false)] [(0, 1, (.t 7)), (1, 1, (.t 9)), (2, 1, (.t 13))]), none, []⟩,
      ⟨(some 5), (.alloc [(.i .i64 (0)), (.s []), (.b false)]), none, []⟩,
      ⟨none, (.store 3 (.t 5) (.t 14)), none, []⟩] [])
    (.seq (.block 0
      (.seq (.region [⟨(some 16), (.off (.t 1) 0), none, []⟩,
        ⟨(some 17), (.load none (.t 16)), none, []⟩,
        ⟨(some 18), (.bin .eql (.t 17) (.c (.i .i64 (20)))), none, []⟩,
        ⟨(some 15), (.mov (.t 18)), none, []⟩] [])
      (.cond (.t 15)
        (.seq (.region [⟨(some 19), (.load (some 3) (.t 5)), none, []⟩,
          ⟨(some 20), (.load (some 3) (.g 0)), none, []⟩,
          ⟨(some 21), (.eqAg [1, 2, 0] false (.t 19) (.t 20)), none, []⟩,
          ⟨(some 2), (.mov (.c (.i .i64 (0)))), none, []⟩,
          ⟨(some 3), (.mov (.c (.i .i64 (8)))), none, []⟩,
          ⟨(some 4), (.mov (.t 21)), none, []⟩] [])
        .ret)
        (.seq (.region [⟨(some 23), (.off (.t 1) 0), none, []⟩,
          ⟨(some 24), (.load none (.t 23)), none, []⟩,
          ⟨(some 25), (.bin .eql (.t 24) (.c (.i .i64 (21)))), none, []⟩,
          ⟨(some 22), (.mov (.t 25)), none, []⟩] [])
        (.cond (.t 22)
          (.seq (.region [⟨(some 26), (.off (.t 1) 4), none, []⟩,
            ⟨(some 27), (.load none (.t 26)), none, []⟩,
            ⟨(some 28), (.lenk 0 (.t 27)), none, []⟩,
            ⟨(some 29), (.off (.t 1) 4), none, []⟩,
            ⟨(some 30), (.load none (.t 29)), none, []⟩,
            ⟨(some 31), (.lenk 0 (.t 30)), none, []⟩,
            ⟨(some 32), (.off (.t 1) 1), none, []⟩,
            ⟨(some 33), (.load none (.t 32)), none, []⟩,
            ⟨(some 34), (.bin .eql (.t 33) (.c (.i .i64 (0)))), none, []⟩,
            ⟨(some 35), (.mov (.t 34)), none, []⟩,
            ⟨(some 36), (.off (.t 1) 3), (some (35, true)), []⟩,
            ⟨(some 37), (.load none (.t 36)), (some (35, true)), []⟩,
            ⟨(some 38), (.bin .eql (.t 37) (.c (.s []))), (some (35, true)), []⟩,
            ⟨(some 39), (.pick (.t 35) (.t 38) (.c (.b false))), none, []⟩,
            ⟨(some 40), (.mov (.t 39)), none, []⟩,
            ⟨(some 41), (.off (.t 1) 4), (some (40, true)), []⟩,
            ⟨(some 42), (.load none (.t 41)), (some (40, true)), []⟩,
            ⟨(some 43), (.call 66 [(.t 42)]), (some (40, true)), [(27, (.load none (.t 26)), none), (28, (.lenk 0 (.t 27)), none), (30, (.load none (.t 29)), none), (31, (.lenk 0 (.t 30)), none)]⟩,
            ⟨(some 44), (.pick (.t 40) (.t 43) (.c (.b false))), none, []⟩,
            ⟨(some 2), (.mov (.t 28)), none, []⟩,
            ⟨(some 3), (.mov (.t 31)), none, []⟩,
            ⟨(some 4), (.mov (.t 44)), none, []⟩] [])
          .ret)
          (.seq (.region [⟨(some 46), (.off (.t 1) 0), none, []⟩,
            ⟨(some 47), (.load none (.t 46)), none, []⟩,
            ⟨(some 48), (.bin .eql (.t 47) (.c (.i .i64 (22)))), none, []⟩,
            ⟨(some 45), (.mov (.t 48)), none, []⟩] [])
          (.cond (.t 45)
            (.seq (.region [⟨(some 49), (.load (some 3) (.t 5)), none, []⟩,
              ⟨(some 50), (.off (.t 1) 3), none, []⟩,
              ⟨(some 51), (.load none (.t 50)), none, []⟩,
              ⟨(some 52), (.build [(.i .i64 (0)), (.s []), (.b false)] [(1, 1, (.t 51))]), none, []⟩,
              ⟨(some 53), (.eqAg [1, 2, 0] false (.t 49) (.t 52)), none, []⟩,
              ⟨(some 54), (.mov (.t 53)), none, []⟩,
              ⟨(some 55), (.off (.t 1) 3), (some (54, true)), []⟩,
              ⟨(some 56), (.load none (.t 55)), (some (54, true)), []⟩,
              ⟨(some 57), (.bsl 1 1 [(.s [])] [(0, 1, (.t 56))]), (some (54, true)), []⟩,
              ⟨(some 58), (.call 66 [(.t 57)]), (some (54, true)), []⟩,
              ⟨(some 59), (.pick (.t 54) (.t 58) (.c (.b false))), none, []⟩,
              ⟨(some 2), (.mov (.c (.i .i64 (1)))), none, []⟩,
              ⟨(some 3), (.mov (.c (.i .i64 (1)))), none, []⟩,
              ⟨(some 4), (.mov (.t 59)), none, []⟩] [])
            .ret)
            (.seq (.region [⟨(some 61), (.off (.t 1) 0), none, []⟩,
              ⟨(some 62), (.load none (.t 61)), none, []⟩,
              ⟨(some 63), (.bin .eql (.t 62) (.c (.i .i64 (23)))), none, []⟩,
              ⟨(some 60), (.mov (.t 63)), none, []⟩] [])
            (.cond (.t 60)
              (.seq (.region [⟨(some 64), (.load (some 3) (.t 5)), none, []⟩,
                ⟨(some 65), (.off (.t 1) 3), none, []⟩,
                ⟨(some 66), (.load none (.t 65)), none, []⟩,
                ⟨(some 67), (.build [(.i .i64 (0)), (.s []), (.b false)] [(1, 1, (.t 66))]), none, []⟩,
                ⟨(some 68), (.eqAg [1, 2, 0] false (.t 64) (.t 67)), none, []⟩,
                ⟨(some 69), (.mov (.t 68)), none, []⟩,
                ⟨(some 70), (.off (.t 1) 3), (some (69, true)), []⟩,
                ⟨(some 71), (.load none (.t 70)), (some (69, true)), []⟩,
                ⟨(some 72), (.call 67 [(.t 71)]), (some (69, true)), []⟩,
                ⟨(some 73), (.pick (.t 69) (.t 72) (.c (.b false))), none, []⟩,
                ⟨(some 2), (.mov (.c (.i .i64 (1)))), none, []⟩,
                ⟨(some 3), (.mov (.c (.i .i64 (1)))), none, []⟩,
                ⟨(some 4), (.mov (.t 73)), none, []⟩] [])
              .ret)
              (.seq (.region [⟨(some 75), (.off (.t 1) 0), none, []⟩,
                ⟨(some 76), (.load none (.t 75)), none, []⟩,
                ⟨(some 77), (.bin .eql (.t 76) (.c (.i .i64 (40)))), none, []⟩,
                ⟨(some 74), (.mov (.t 77)), none, []⟩] [])
              (.cond (.t 74)
                (.seq (.region [⟨(some 78), (.load (some 3) (.t 5)), none, []⟩,
                  ⟨(some 79), (.off (.t 1) 1), none, []⟩,
                  ⟨(some 80), (.load none (.t 79)), none, []⟩,
                  ⟨(some 81), (.build [(.i .i64 (0)), (.s []), (.b false)] [(0, 1, (.t 80))]), none, []⟩,
                  ⟨(some 82), (.eqAg [1, 2, 0] false (.t 78) (.t 81)), none, []⟩,
                  ⟨(some 83), (.mov (.t 82)), none, []⟩,
                  ⟨(some 84), (.off (.t 1) 1), (some (83, true)), []⟩,
                  ⟨(some 85), (.load none (.t 84)), (some (83, true)), []⟩,
                  ⟨(some 86), (.bin .geq (.t 85) (.c (.i .i64 (0)))), (some (83, true)), []⟩,
                  ⟨(some 87), (.pick (.t 83) (.t 86) (.c (.b false))), none, []⟩,
                  ⟨(some 88), (.mov (.t 87)), none, []⟩,
                  ⟨(some 89), (.off (.t 1) 1), (some (88, true)), []⟩,
                  ⟨(some 90), (.load none (.t 89)), (some (88, true)), []⟩,
                  ⟨(some 91), (.bin .leq (.t 90) (.c (.i .i64 (6)))), (some (88, true)), []⟩,
                  ⟨(some 92), (.pick (.t 88) (.t 91) (.c (.b false))), none, []⟩,
                  ⟨(some 2), (.mov (.c (.i .i64 (1)))), none, []⟩,
                  ⟨(some 3), (.mov (.c (.i .i64 (1)))), none, []⟩,
                  ⟨(some 4), (.mov (.t 92)), none, []⟩] [])
                .ret)
                (.seq (.seq (.region [⟨(some 94), (.off (.t 1) 0), none, []⟩,
                  ⟨(some 95), (.load none (.t 94)), none, []⟩,
                  ⟨(some 96), (.bin .eql (.t 95) (.c (.i .i64 (48)))), none, []⟩,
                  ⟨(some 93), (.mov (.t 96)), none, []⟩] [])
                (.cond (.t 93)
                  .skip
                  (.region [⟨(some 97), (.off (.t 1) 0), none, []⟩,
                    ⟨(some 98), (.load none (.t 97)), none, []⟩,
                    ⟨(some 99), (.bin .eql (.t 98) (.c (.i .i64 (49)))), none, []⟩,
                    ⟨(some 93), (.mov (.t 99)), none, []⟩] [])))
                (.cond (.t 93)
                  (.seq (.region [⟨(some 100), (.load (some 3) (.t 5)), none, []⟩,
                    ⟨(some 101), (.off (.t 1) 1), none, []⟩,
                    ⟨(some 102), (.load none (.t 101)), none, []⟩,
                    ⟨(some 103), (.build [(.i .i64 (0)), (.s []), (.b false)] [(0, 1, (.t 102))]), none, []⟩,
                    ⟨(some 104), (.eqAg [1, 2, 0] false (.t 100) (.t 103)), none, []⟩,
                    ⟨(some 2), (.mov (.c (.i .i64 (1)))), none, []⟩,
                    ⟨(some 3), (.mov (.c (.i .i64 (1)))), none, []⟩,
                    ⟨(some 4), (.mov (.t 104)), none, []⟩] [])
                  .ret)
                  (.seq (.seq (.region [⟨(some 106), (.off (.t 1) 0), none, []⟩,
                    ⟨(some 107), (.load none (.t 106)), none, []⟩,
                    ⟨(some 108), (.bin .geq (.t 107) (.c (.i .i64 (43)))), none, []⟩,
                    ⟨(some 109), (.mov (.t 108)), none, []⟩,
                    ⟨(some 110), (.off (.t 1) 0), (some (109, true)), []⟩,
                    ⟨(some 111), (.load none (.t 110)), (some (109, true)), []⟩,
                    ⟨(some 112), (.bin .leq (.t 111) (.c (.i .i64 (47)))), (some (109, true)), []⟩,
                    ⟨(some 113), (.pick (.t 109) (.t 112) (.c (.b false))), none, []⟩,
                    ⟨(some 105), (.mov (.t 113)), none, []⟩] [])
                  (.cond (.t 105)
                    .skip
                    (.region [⟨(some 114), (.off (.t 1) 0), none, []⟩,
                      ⟨(some 115), (.load none (.t 114)), none, []⟩,
                      ⟨(some 116), (.bin .geq (.t 115) (.c (.i .i64 (9)))), none, []⟩,
                      ⟨(some 117), (.mov (.t 116)), none, []⟩,
                      ⟨(some 118), (.off (.t 1) 0), (some (117, true)), []⟩,
                      ⟨(some 119), (.load none (.t 118)), (some (117, true)), []⟩,
                      ⟨(some 120), (.bin .leq (.t 119) (.c (.i .i64 (19)))), (some (117, true)), []⟩,
                      ⟨(some 121), (.pick (.t 117) (.t 120) (.c (.b false))), none, []⟩,
                      ⟨(some 105), (.mov (.t 121)), none, []⟩] [])))
                  (.cond (.t 105)
                    (.seq (.region [⟨(some 122), (.load (some 3) (.t 5)), none, []⟩,
                      ⟨(some 123), (.load (some 3) (.g 0)), none, []⟩,
                      ⟨(some 124), (.eqAg [1, 2, 0] false (.t 122) (.t 123)), none, []⟩,
                      ⟨(some 2), (.mov (.c (.i .i64 (2)))), none, []⟩,
                      ⟨(some 3), (.mov (.c (.i .i64 (2)))), none, []⟩,
                      ⟨(some 4), (.mov (.t 124)), none, []⟩] [])
                    .ret)
                    (.seq (.seq (.region [⟨(some 126), (.off (.t 1) 0), none, []⟩,
                      ⟨(some 127), (.load none (.t 126)), none, []⟩,
                      ⟨(some 128), (.bin .eql (.t 127) (.c (.i .i64 (41)))), none, []⟩,
                      ⟨(some 125), (.mov (.t 128)), none, []⟩] [])
                    (.cond (.t 125)
                      .skip
                      (.seq (.region [⟨(some 129), (.off (.t 1) 0), none, []⟩,
                        ⟨(some 130), (.load none (.t 129)), none, []⟩,
                        ⟨(some 131), (.bin .eql (.t 130) (.c (.i .i64 (42)))), none, []⟩,
                        ⟨(some 125), (.mov (.t 131)), none, []⟩] [])
                      (.cond (.t 125)
                        .skip
                        (.region [⟨(some 132), (.off (.t 1) 0), none, []⟩,
                          ⟨(some 133), (.load none (.t 132)), none, []⟩,
                          ⟨(some 134), (.bin .geq (.t 133) (.c (.i .i64 (6)))), none, []⟩,
                          ⟨(some 135), (.mov (.t 134)), none, []⟩,
                          ⟨(some 136), (.off (.t 1) 0), (some (135, true)), []⟩,
                          ⟨(some 137), (.load none (.t 136)), (some (135, true)), []⟩,
                          ⟨(some 138), (.bin .leq (.t 137) (.c (.i .i64 (8)))), (some (135, true)), []⟩,
                          ⟨(some 139), (.pick (.t 135) (.t 138) (.c (.b false))), none, []⟩,
                          ⟨(some 125), (.mov (.t 139)), none, []⟩] [])))))
                    (.cond (.t 125)
                      (.seq (.region [⟨(some 140), (.load (some 3) (.t 5)), none, []⟩,
                        ⟨(some 141), (.load (some 3) (.g 0)), none, []⟩,
                        ⟨(some 142), (.eqAg [1, 2, 0] false (.t 140) (.t 141)), none, []⟩,
                        ⟨(some 2), (.mov (.c (.i .i64 (1)))), none, []⟩,
                        ⟨(some 3), (.mov (.c (.i .i64 (1)))), none, []⟩,
                        ⟨(some 4), (.mov (.t 142)), none, []⟩] [])
                      .ret)
                      .skip)))))))))))))))))
    (.seq (.region [⟨(some 2), (.mov (.c (.i .i64 (0)))), none, []⟩,
      ⟨(some 3), (.mov (.c (.i .i64 (0)))), none, []⟩,
      ⟨(some 4), (.mov (.c (.b false))), none, []⟩] [])
    .ret)))),
    143, 1, [.t 2, .t 3, .t 4], 0⟩
theorem tr50 : trFunc Tryd.prog [([], []), ([], []), ([], []), ([0, 1, 2, 3, 4, 5], []), ([], []), ([0, 1, 2, 3, 4, 5, 6, 7, 8, 9, 10, 11, 12, 13, 14, 15, 16, 17, 18, 19, 20, 21], []), ([], []), ([], []), ([], []), ([], []), ([], []), ([0, 1, 2, 3, 4, 5, 6, 7, 8, 9, 10, 11, 12, 13, 14, 15, 16, 17], []), ([], []), ([], []), ([], []), ([0, 1, 2, 3, 4, 5, 6, 7], []), ([], []), ([], []), ([], []), ([0, 1, 2, 3, 4, 5], []), ([], []), ([], []), ([], []), ([], []), ([], []), ([0, 1, 2, 3, 4, 5], []), ([], []), ([], [])] 0 Tryd.f50 = some I50 := by kernel_rfl

/-- 'encore/lift.mayBe'. -/
def I51 : IFunc :=
  ⟨(.seq (.region [⟨(some 1), (.box (.t 0)), none, []⟩,
      ⟨(some 2), (.mov (.c (.b false))), none, []⟩] [])
    (.seq (.region [⟨(some 3), (.load (some 5) (.t 1)), none, []⟩,
      ⟨(some 4), (.call 68 [(.t 3)]), none, []⟩,
      ⟨(some 5), (.bin .eql (.t 4) (.c (.i .i64 (0)))), none, []⟩,
      ⟨(some 2), (.mov (.t 5)), none, []⟩] [])
    .ret)),
    6, 1, [.t 2], 0⟩
theorem tr51 : trFunc Tryd.prog [([], []), ([], [])] 0 Tryd.f51 = some I51 := by kernel_rfl

/-- 'encore/value.Same'. -/
def I52 : IFunc :=
  ⟨(.seq (.region [⟨(some 2), (.box (.t 0)), none, []⟩,
      ⟨(some 3), (.box (.t 1)), none, []⟩,
      ⟨(some 4), (.mov (.c (.b false))), none, []⟩] [])
    (.seq (.region [⟨(some 5), (.off (.t 2) 0), none, []⟩,
      ⟨(some 6), (.load none (.t 5)), none, []⟩,
      ⟨(some 7), (.off (.t 3) 0), none, []⟩,
      ⟨(some 8), (.load none (.t 7)), none, []⟩,
      ⟨(some 9), (.bin .eql (.t 6) (.t 8)), none, []⟩,
      ⟨(some 10), (.mov (.t 9)), none, []⟩,
      ⟨(some 11), (.off (.t 2) 1), (some (10, true)), []⟩,
      ⟨(some 12), (.load none (.t 11)), (some (10, true)), []⟩,
      ⟨(some 13), (.off (.t 3) 1), (some (10, true)), []⟩,
      ⟨(some 14), (.load none (.t 13)), (some (10, true)), []⟩,
      ⟨(some 15), (.bin .eql (.t 12) (.t 14)), (some (10, true)), []⟩,
      ⟨(some 16), (.pick (.t 10) (.t 15) (.c (.b false))), none, []⟩,
      ⟨(some 17), (.mov (.t 16)), none, []⟩,
      ⟨(some 18), (.off (.t 2) 2), (some (17, true)), []⟩,
      ⟨(some 19), (.load none (.t 18)), (some (17, true)), []⟩,
      ⟨(some 20), (.off (.t 3) 2), (some (17, true)), []⟩,
      ⟨(some 21), (.load none (.t 20)), (some (17, true)), []⟩,
      ⟨(some 22), (.bin .eql (.t 19) (.t 21)), (some (17, true)), []⟩,
      ⟨(some 23), (.pick (.t 17) (.t 22) (.c (.b false))), none, []⟩,
      ⟨(some 24), (.mov (.t 23)), none, []⟩,
      ⟨(some 25), (.off (.t 2) 4), (some (24, true)), []⟩,
      ⟨(some 26), (.load none (.t 25)), (some (24, true)), []⟩,
      ⟨(some 27), (.off (.t 3) 4), (some (24, true)), []⟩,
      ⟨(some 28), (.load none (.t 27)), (some (24, true)), []⟩,
      ⟨(some 29), (.call 57 [(.t 26), (.t 28)]), (some (24, true)), []⟩,
      ⟨(some 30), (.pick (.t 24) (.t 29) (.c (.b false))), none, []⟩,
      ⟨(some 31), (.mov (.t 30)), none, []⟩,
      ⟨(some 32), (.off (.t 2) 3), (some (31, true)), []⟩,
      ⟨(some 33), (.load none (.t 32)), (some (31, true)), []⟩,
      ⟨(some 34), (.off (.t 3) 3), (some (31, true)), []⟩,
      ⟨(some 35), (.load none (.t 34)), (some (31, true)), []⟩,
      ⟨(some 36), (.call 69 [(.t 33), (.t 35), (.f 52)]), (some (31, true)), []⟩,
      ⟨(some 37), (.pick (.t 31) (.t 36) (.c (.b false))), none, []⟩,
      ⟨(some 4), (.mov (.t 37)), none, []⟩] [])
    .ret)),
    38, 2, [.t 4], 0⟩
theorem tr52 : trFunc Tryd.prog [([], []), ([], [])] 0 Tryd.f52 = some I52 := by kernel_rfl

/-- 'slices.ContainsFunc[[]encore/lift.Operand,encore/lift.Operand]'. -/
def I53 : IFunc :=
  ⟨(.seq (.region [⟨(some 4), (.mov (.c (.b false))), none, []⟩] [])
    (.seq (.region [⟨(some 5), (.mov (.t 0)), none, []⟩,
      ⟨(some 6), (.mov (.t 1)), none, []⟩,
      ⟨(some 7), (.call 70 [(.t 5), (.t 6)]), none, []⟩,
      ⟨(some 8), (.bin .geq (.t 7) (.c (.i .i64 (0)))), none, []⟩,
      ⟨(some 4), (.mov (.t 8)), none, []⟩] [])
    .ret)),
    9, 2, [.t 4], 0⟩
theorem tr53 : trFunc Tryd.prog [([], []), ([], [])] 0 Tryd.f53 = some I53 := by kernel_rfl

/-- 'encore/lift.fit$1'. -/
def I54 : IFunc :=
  ⟨(.seq (.region [⟨(some 3), (.box (.t 0)), none, []⟩,
      ⟨(some 4), (.mov (.c (.b false))), none, []⟩] [])
    (.seq (.region [⟨(some 5), (.load (some 7) (.t 3)), none, []⟩,
      ⟨(some 6), (.load none (.t 1)), none, []⟩,
      ⟨(some 7), (.load none (.t 2)), none, []⟩,
      ⟨(some 8), (.call 33 [(.t 5), (.t 6), (.t 7)]), none, []⟩,
      ⟨(some 9), (.un .not (.t 8)), none, []⟩,
      ⟨(some 4), (.mov (.t 9)), none, []⟩] [])
    .ret)),
    10, 3, [.t 4], 0⟩
theorem tr54 : trFunc Tryd.prog [([], []), ([], [])] 0 Tryd.f54 = some I54 := by kernel_rfl

/-- 'slices.EqualFunc[[]encore/lift.Operand,[]encore/lift.Operand,encore/lift.Operand,encore/lift.Operand]'. -/
def L55a : ICode :=
  (.seq (.region [⟨(some 18), (.bin .lss (.t 17) (.t 16)), none, []⟩] [])
    (.seq (.cond (.t 18)
      .skip
      (.exit 0))
    (.seq (.block 1
      (.seq (.region [⟨(some 19), (.mov (.t 17)), none, []⟩,
        ⟨(some 20), (.iaddr 7 (.t 15) (.t 17)), none, []⟩,
        ⟨(some 21), (.load (some 7) (.t 20)), none, []⟩,
        ⟨(some 8), (.alloc [(.i .i64 (0)), (.i .i64 (0)), (.i .i64 (0)), (.i .i64 (0)), (.s []), .ns, .ns]), none, []⟩,
        ⟨(some 7), (.mov (.t 19)), none, []⟩,
        ⟨none, (.store 7 (.t 8) (.t 21)), none, []⟩] [])
      (.seq (.region [⟨(some 22), (.mov (.t 1)), none, []⟩,
        ⟨(some 23), (.mov (.t 7)), none, []⟩,
        ⟨(some 24), (.iaddr 7 (.t 22) (.t 23)), none, []⟩,
        ⟨(some 25), (.load (some 7) (.t 24)), none, []⟩,
        ⟨(some 9), (.alloc [(.i .i64 (0)), (.i .i64 (0)), (.i .i64 (0)), (.i .i64 (0)), (.s []), .ns, .ns]), none, []⟩,
        ⟨none, (.store 7 (.t 9) (.t 25)), none, []⟩] [])
      (.seq (.region [⟨(some 26), (.mov (.t 2)), none, []⟩,
        ⟨(some 27), (.load (some 7) (.t 8)), none, []⟩,
        ⟨(some 28), (.load (some 7) (.t 9)), none, []⟩,
        ⟨(some 29), (.callv (.t 26) [(.t 27), (.t 28)]), none, []⟩,
        ⟨(some 30), (.un .not (.t 29)), none, []⟩] [])
      (.cond (.t 30)
        (.seq (.region [⟨(some 6), (.mov (.c (.b false))), none, []⟩] [])
        .ret)
        .skip)))))
    (.region [⟨(some 31), (.bin .add (.t 17) (.c (.i .i64 (1)))), none, []⟩,
      ⟨(some 17), (.mov (.t 31)), none, []⟩] []))))
def I55 : IFunc :=
  ⟨(.seq (.region [⟨(some 6), (.mov (.c (.b false))), none, []⟩] [])
    (.seq (.seq (.region [⟨(some 10), (.mov (.t 0)), none, []⟩,
      ⟨(some 11), (.lenk 0 (.t 10)), none, []⟩,
      ⟨(some 12), (.mov (.t 1)), none, []⟩,
      ⟨(some 13), (.lenk 0 (.t 12)), none, []⟩,
      ⟨(some 14), (.bin .neq (.t 11) (.t 13)), none, []⟩] [])
    (.cond (.t 14)
      (.seq (.region [⟨(some 6), (.mov (.c (.b false))), none, []⟩] [])
      .ret)
      .skip))
    (.seq (.seq (.region [⟨(some 15), (.mov (.t 0)), none, []⟩,
      ⟨(some 16), (.lenk 0 (.t 15)), none, []⟩,
      ⟨(some 17), (.mov (.c (.i .i64 (0)))), none, []⟩] [])
    (.block 0
      (.loop L55a)))
    (.seq (.region [⟨(some 6), (.mov (.c (.b true))), none, []⟩] [])
    .ret)))),
    32, 3, [.t 6], 0⟩
theorem tr55 : trFunc Tryd.prog [([], []), ([], []), ([], []), ([], []), ([], []), ([], []), ([], []), ([], []), ([], []), ([], []), ([], []), ([], []), ([], []), ([], [])] 0 Tryd.f55 = some I55 := by kernel_rfl

/-- 'encore/prune.same'. -/
def I56 : IFunc :=
  ⟨(.seq (.region [⟨(some 2), (.box (.t 0)), none, []⟩,
      ⟨(some 3), (.box (.t 1)), none, []⟩,
      ⟨(some 4), (.mov (.c (.b false))), none, []⟩] [])
    (.seq (.region [⟨(some 5), (.off (.t 2) 0), none, []⟩,
      ⟨(some 6), (.load none (.t 5)), none, []⟩,
      ⟨(some 7), (.off (.t 3) 0), none, []⟩,
      ⟨(some 8), (.load none (.t 7)), none, []⟩,
      ⟨(some 9), (.bin .eql (.t 6) (.t 8)), none, []⟩,
      ⟨(some 10), (.mov (.t 9)), none, []⟩,
      ⟨(some 11), (.off (.t 2) 1), (some (10, true)), []⟩,
      ⟨(some 12), (.load none (.t 11)), (some (10, true)), []⟩,
      ⟨(some 13), (.off (.t 3) 1), (some (10, true)), []⟩,
      ⟨(some 14), (.load none (.t 13)), (some (10, true)), []⟩,
      ⟨(some 15), (.bin .eql (.t 12) (.t 14)), (some (10, true)), []⟩,
      ⟨(some 16), (.pick (.t 10) (.t 15) (.c (.b false))), none, []⟩,
      ⟨(some 17), (.mov (.t 16)), none, []⟩,
      ⟨(some 18), (.off (.t 2) 2), (some (17, true)), []⟩,
      ⟨(some 19), (.load (some 5) (.t 18)), (some (17, true)), []⟩,
      ⟨(some 20), (.off (.t 3) 2), (some (17, true)), []⟩,
      ⟨(some 21), (.load (some 5) (.t 20)), (some (17, true)), []⟩,
      ⟨(some 22), (.call 71 [(.t 19), (.t 21)]), (some (17, true)), []⟩,
      ⟨(some 23), (.pick (.t 17) (.t 22) (.c (.b false))), none, []⟩,
      ⟨(some 4), (.mov (.t 23)), none, []⟩] [])
    .ret)),
    24, 2, [.t 4], 0⟩
theorem tr56 : trFunc Tryd.prog [([], []), ([], [])] 0 Tryd.f56 = some I56 := by kernel_rfl

/-- 'slices.Equal[[]string,string]'. -/
def L57a : ICode :=
  (.seq (.region [⟨(some 14), (.bin .lss (.t 13) (.t 12)), none, []⟩] [])
    (.seq (.cond (.t 14)
      .skip
      (.exit 0))
    (.seq (.block 1
      (.seq (.region [⟨(some 15), (.mov (.t 13)), none, []⟩,
        ⟨(some 5), (.mov (.t 15)), none, []⟩] [])
      (.seq (.region [⟨(some 16), (.mov (.t 0)), none, []⟩,
        ⟨(some 17), (.mov (.t 5)), none, []⟩,
        ⟨(some 18), (.iaddr 1 (.t 16) (.t 17)), none, []⟩,
        ⟨(some 19), (.load none (.t 18)), none, []⟩,
        ⟨(some 20), (.mov (.t 1)), none, []⟩,
        ⟨(some 21), (.mov (.t 5)), none, []⟩,
        ⟨(some 22), (.iaddr 1 (.t 20) (.t 21)), none, []⟩,
        ⟨(some 23), (.load none (.t 22)), none, []⟩,
        ⟨(some 24), (.bin .neq (.t 19) (.t 23)), none, []⟩] [])
      (.cond (.t 24)
        (.seq (.region [⟨(some 4), (.mov (.c (.b false))), none, []⟩] [])
        .ret)
        .skip))))
    (.region [⟨(some 25), (.bin .add (.t 13) (.c (.i .i64 (1)))), none, []⟩,
      ⟨(some 13), (.mov (.t 25)), none, []⟩] []))))
def I57 : IFunc :=
  ⟨(.seq (.region [⟨(some 4), (.mov (.c (.b false))), none, []⟩] [])
    (.seq (.seq (.region [⟨(some 6), (.mov (.t 0)), none, []⟩,
      ⟨(some 7), (.lenk 0 (.t 6)), none, []⟩,
      ⟨(some 8), (.mov (.t 1)), none, []⟩,
      ⟨(some 9), (.lenk 0 (.t 8)), none, []⟩,
      ⟨(some 10), (.bin .neq (.t 7) (.t 9)), none, []⟩] [])
    (.cond (.t 10)
      (.seq (.region [⟨(some 4), (.mov (.c (.b false))), none, []⟩] [])
      .ret)
      .skip))
    (.seq (.seq (.region [⟨(some 11), (.mov (.t 0)), none, []⟩,
      ⟨(some 12), (.lenk 0 (.t 11)), none, []⟩,
      ⟨(some 13), (.mov (.c (.i .i64 (0)))), none, []⟩] [])
    (.block 0
      (.loop L57a)))
    (.seq (.region [⟨(some 4), (.mov (.c (.b true))), none, []⟩] [])
    .ret)))),
    26, 2, [.t 4], 0⟩
theorem tr57 : trFunc Tryd.prog [([], []), ([], []), ([], []), ([], []), ([], []), ([], []), ([], []), ([], []), ([0, 1, 2, 3, 4, 5, 6, 7, 8], []), ([], []), ([], []), ([], []), ([], [])] 0 Tryd.f57 = some I57 := by kernel_rfl

/-- 'slices.Clone[[]encore/api.Value,encore/api.Value]'. -/
def I58 : IFunc :=
  ⟨(.seq (.region [⟨(some 2), (.mov (.c .ns)), none, []⟩] [])
    (.seq (.seq (.region [⟨(some 3), (.mov (.t 0)), none, []⟩,
      ⟨(some 4), (.eqNil 0 false (.t 3) (.c .ns)), none, []⟩] [])
    (.cond (.t 4)
      (.seq (.region [⟨(some 2), (.mov (.c .ns)), none, []⟩] [])
      .ret)
      .skip))
    (.seq (.region [⟨(some 5), (.bsl 5 0 [] []), none, []⟩,
      ⟨(some 6), (.mov (.t 0)), none, []⟩,
      ⟨(some 7), (.app 5 80 (.t 5) (.t 6)), none, []⟩,
      ⟨(some 2), (.mov (.t 7)), none, []⟩] [])
    .ret))),
    8, 1, [.t 2], 0⟩
theorem tr58 : trFunc Tryd.prog [([], []), ([], []), ([], []), ([], []), ([], [])] 0 Tryd.f58 = some I58 := by kernel_rfl

/-- 'encore/encoreref07.Same'. -/
def I60 : IFunc :=
  ⟨(.seq (.region [⟨(some 2), (.box (.t 0)), none, []⟩,
      ⟨(some 3), (.box (.t 1)), none, []⟩,
      ⟨(some 4), (.mov (.c (.b false))), none, []⟩] [])
    (.seq (.region [⟨(some 5), (.load (some 5) (.t 2)), none, []⟩,
      ⟨(some 6), (.load (some 5) (.t 3)), none, []⟩,
      ⟨(some 7), (.call 72 [(.t 5), (.t 6)]), none, []⟩,
      ⟨(some 8), (.bin .eql (.t 7) (.c (.i .i64 (0)))), none, []⟩,
      ⟨(some 4), (.mov (.t 8)), none, []⟩] [])
    .ret)),
    9, 2, [.t 4], 0⟩
theorem tr60 : trFunc Tryd.prog [([], []), ([], [])] 0 Tryd.f60 = some I60 := by kernel_rfl

/-- 'math/bits.Mul'. -/
def I61 : IFunc :=
  ⟨(.seq (.region [⟨(some 4), (.mov (.c (.i .u64 (0)))), none, []⟩,
      ⟨(some 5), (.mov (.c (.i .u64 (0)))), none, []⟩] [])
    (.seq (.cond (.c (.b false))
      (.seq (.region [⟨(some 11), (.mov (.t 0)), none, []⟩,
        ⟨(some 12), (.conv .u32 (.t 11)), none, []⟩,
        ⟨(some 13), (.mov (.t 1)), none, []⟩,
        ⟨(some 14), (.conv .u32 (.t 13)), none, []⟩,
        ⟨(some 15), (.call 73 [(.t 12), (.t 14)]), none, []⟩,
        ⟨(some 10), (.mov (.t 15)), none, []⟩,
        ⟨(some 16), (.ext (.t 10) 0), none, []⟩,
        ⟨(some 17), (.ext (.t 10) 1), none, []⟩,
        ⟨(some 6), (.mov (.t 16)), none, []⟩,
        ⟨(some 7), (.mov (.t 17)), none, []⟩] [])
      (.seq (.region [⟨(some 18), (.mov (.t 6)), none, []⟩,
        ⟨(some 19), (.conv .u64 (.t 18)), none, []⟩,
        ⟨(some 20), (.mov (.t 7)), none, []⟩,
        ⟨(some 21), (.conv .u64 (.t 20)), none, []⟩,
        ⟨(some 4), (.mov (.t 19)), none, []⟩,
        ⟨(some 5), (.mov (.t 21)), none, []⟩] [])
      .ret))
      .skip)
    (.seq (.region [⟨(some 23), (.mov (.t 0)), none, []⟩,
      ⟨(some 24), (.mov (.t 1)), none, []⟩,
      ⟨(some 25), (.call 74 [(.t 23), (.t 24)]), none, []⟩,
      ⟨(some 22), (.mov (.t 25)), none, []⟩,
      ⟨(some 26), (.ext (.t 22) 0), none, []⟩,
      ⟨(some 27), (.ext (.t 22) 1), none, []⟩,
      ⟨(some 8), (.mov (.t 26)), none, []⟩,
      ⟨(some 9), (.mov (.t 27)), none, []⟩] [])
    (.seq (.region [⟨(some 28), (.mov (.t 8)), none, []⟩,
      ⟨(some 29), (.mov (.t 9)), none, []⟩,
      ⟨(some 4), (.mov (.t 28)), none, []⟩,
      ⟨(some 5), (.mov (.t 29)), none, []⟩] [])
    .ret)))),
    30, 2, [.t 4, .t 5], 0⟩
theorem tr61 : trFunc Tryd.prog [([], []), ([], []), ([], []), ([], []), ([], []), ([], [])] 0 Tryd.f61 = some I61 := by kernel_rfl

/-- 'slices.ContainsFunc[[]int,int]'. -/
def I62 : IFunc :=
  ⟨(.seq (.region [⟨(some 4), (.mov (.c (.b false))), none, []⟩] [])
    (.seq (.region [⟨(some 5), (.mov (.t 0)), none, []⟩,
      ⟨(some 6), (.mov (.t 1)), none, []⟩,
      ⟨(some 7), (.call 75 [(.t 5), (.t 6)]), none, []⟩,
      ⟨(some 8), (.bin .geq (.t 7) (.c (.i .i64 (0)))), none, []⟩,
      ⟨(some 4), (.mov (.t 8)), none, []⟩] [])
    .ret)),
    9, 2, [.t 4], 0⟩
theorem tr62 : trFunc Tryd.prog [([], []), ([], [])] 0 Tryd.f62 = some I62 := by kernel_rfl

/-- '(*encore/prune.facts).all$1'. -/
def I63 : IFunc :=
  ⟨(.seq (.region [⟨(some 3), (.box (.t 0)), none, []⟩,
      ⟨(some 4), (.mov (.c (.b false))), none, []⟩] [])
    (.seq (.region [⟨(some 5), (.load none (.t 1)), none, []⟩,
      ⟨(some 6), (.mkf 64 [] [(.t 2), (.t 3)]), none, []⟩,
      ⟨(some 7), (.call 53 [(.t 5), (.t 6)]), none, []⟩,
      ⟨(some 8), (.un .not (.t 7)), none, []⟩,
      ⟨(some 4), (.mov (.t 8)), none, []⟩] [])
    .ret)),
    9, 3, [.t 4], 0⟩
theorem tr63 : trFunc Tryd.prog [([], []), ([], [])] 0 Tryd.f63 = some I63 := by kernel_rfl

/-- '(*encore/prune.facts).all$1$1'. -/
def I64 : IFunc :=
  ⟨(.seq (.region [⟨(some 3), (.box (.t 0)), none, []⟩,
      ⟨(some 4), (.mov (.c (.b false))), none, []⟩] [])
    (.seq (.region [⟨(some 5), (.load none (.t 1)), none, []⟩,
      ⟨(some 6), (.load (some 7) (.t 3)), none, []⟩,
      ⟨(some 8), (.load none (.t 2)), none, []⟩,
      ⟨(some 7), (.call 65 [(.t 5), (.t 6)]), none, [(8, (.load none (.t 2)), none)]⟩,
      ⟨(some 9), (.bin .neq (.t 7) (.t 8)), none, []⟩,
      ⟨(some 4), (.mov (.t 9)), none, []⟩] [])
    .ret)),
    10, 3, [.t 4], 0⟩
theorem tr64 : trFunc Tryd.prog [([], []), ([0, 1, 3, 2, 4, 5], [])] 0 Tryd.f64 = some I64 := by kernel_rfl

/-- '(*encore/prune.facts).kind'. -/
def I65 : IFunc :=
  ⟨(.seq (.region [⟨(some 3), (.box (.t 1)), none, []⟩,
      ⟨(some 4), (.mov (.c (.i .i64 (0)))), none, []⟩] [])
    (.seq (.seq (.region [⟨(some 5), (.off (.t 3) 0), none, []⟩,
      ⟨(some 6), (.load none (.t 5)), none, []⟩] [])
    (.block 0
      (.seq (.region [⟨(some 8), (.bin .eql (.t 6) (.c (.i .i64 (1)))), none, []⟩,
        ⟨(some 7), (.mov (.t 8)), none, []⟩] [])
      (.cond (.t 7)
        (.seq (.region [⟨(some 9), (.mov (.t 0)), none, []⟩,
          ⟨(some 10), (.nck (.t 9)), none, []⟩,
          ⟨(some 11), (.off (.t 10) 1), none, []⟩,
          ⟨(some 12), (.load none (.t 11)), none, []⟩,
          ⟨(some 13), (.off (.t 3) 1), none, []⟩,
          ⟨(some 14), (.load none (.t 13)), none, []⟩,
          ⟨(some 15), (.iaddr 1 (.t 12) (.t 14)), none, []⟩,
          ⟨(some 16), (.load none (.t 15)), none, []⟩,
          ⟨(some 4), (.mov (.t 16)), none, []⟩] [])
        .ret)
        (.seq (.region [⟨(some 18), (.bin .eql (.t 6) (.c (.i .i64 (2)))), none, []⟩,
          ⟨(some 17), (.mov (.t 18)), none, []⟩] [])
        (.cond (.t 17)
          (.seq (.region [⟨(some 19), (.mov (.t 0)), none, []⟩,
            ⟨(some 20), (.nck (.t 19)), none, []⟩,
            ⟨(some 21), (.off (.t 20) 0), none, []⟩,
            ⟨(some 22), (.load none (.t 21)), none, []⟩,
            ⟨(some 23), (.off (.t 3) 1), none, []⟩,
            ⟨(some 24), (.load none (.t 23)), none, []⟩,
            ⟨(some 25), (.iaddr 5 (.t 22) (.t 24)), none, []⟩,
            ⟨(some 26), (.load (some 5) (.t 25)), none, []⟩,
            ⟨(some 27), (.call 76 [(.t 26)]), none, []⟩,
            ⟨(some 4), (.mov (.t 27)), none, []⟩] [])
          .ret)
          .skip))))))
    (.seq (.region [⟨(some 28), (.off (.t 3) 2), none, []⟩,
      ⟨(some 29), (.off (.t 28) 0), none, []⟩,
      ⟨(some 30), (.load none (.t 29)), none, []⟩,
      ⟨(some 4), (.mov (.t 30)), none, []⟩] [])
    .ret))),
    31, 2, [.t 4], 0⟩
theorem tr65 : trFunc Tryd.prog [([], []), ([], []), ([], []), ([0, 1, 2, 3, 4, 5, 6, 7, 8], []), ([], []), ([0, 1, 2, 3, 4, 5, 6, 7, 8, 9], []), ([], []), ([], [])] 0 Tryd.f65 = some I65 := by kernel_rfl

/-- 'encore/lift.record'. -/
def I66 : IFunc :=
  ⟨(.seq (.region [⟨(some 2), (.mov (.c (.b false))), none, []⟩] [])
    (.seq (.region [⟨(some 3), (.mov (.t 0)), none, []⟩,
      ⟨(some 4), (.lenk 0 (.t 3)), none, []⟩,
      ⟨(some 5), (.bin .leq (.t 4) (.c (.i .i64 (8)))), none, []⟩,
      ⟨(some 6), (.mov (.t 5)), none, []⟩,
      ⟨(some 7), (.mov (.t 0)), (some (6, true)), []⟩,
      ⟨(some 8), (.mov (.t 0)), (some (6, true)), []⟩,
      ⟨(some 9), (.lenk 0 (.t 8)), (some (6, true)), []⟩,
      ⟨(some 10), (.mksl 5 80 [(.i .i64 (0)), (.i .i64 (0)), (.s []), .ns, .ns] (.t 9) (.t 9)), (some (6, true)), []⟩,
      ⟨(some 11), (.build [(.i .i64 (0)), (.i .i64 (0)), (.s []), .ns, .ns] [(0, 1, (.c (.i .i64 (5)))), (4, 1, (.t 7)), (3, 1, (.t 10))]), (some (6, true)), []⟩,
      ⟨(some 12), (.call 51 [(.t 11)]), (some (6, true)), []⟩,
      ⟨(some 13), (.pick (.t 6) (.t 12) (.c (.b false))), none, []⟩,
      ⟨(some 2), (.mov (.t 13)), none, []⟩] [])
    .ret)),
    14, 1, [.t 2], 0⟩
theorem tr66 : trFunc Tryd.prog [([], []), ([], [])] 0 Tryd.f66 = some I66 := by kernel_rfl

/-- 'encore/value.Fits'. -/
def I67 : IFunc :=
  ⟨(.seq (.region [⟨(some 2), (.mov (.c (.b false))), none, []⟩] [])
    (.seq (.region [⟨(some 6), (.mov (.t 0)), none, []⟩,
      ⟨(some 7), (.call 77 [(.t 6)]), none, []⟩,
      ⟨(some 5), (.mov (.t 7)), none, []⟩,
      ⟨(some 8), (.ext (.t 5) 0), none, []⟩,
      ⟨(some 9), (.ext (.t 5) 1), none, []⟩,
      ⟨(some 3), (.alloc [(.i .i64 (0)), .ns, .ns]), none, []⟩,
      ⟨none, (.store 3 (.t 3) (.t 8)), none, []⟩,
      ⟨(some 4), (.mov (.t 9)), none, []⟩] [])
    (.seq (.region [⟨(some 10), (.mov (.t 4)), none, []⟩,
      ⟨(some 2), (.mov (.t 10)), none, []⟩] [])
    .ret))),
    11, 1, [.t 2], 0⟩
theorem tr67 : trFunc Tryd.prog [([], []), ([], []), ([], [])] 0 Tryd.f67 = some I67 := by kernel_rfl

/-- 'encore/value.Check'. -/
def I68 : IFunc :=
  ⟨(.seq (.region [⟨(some 1), (.box (.t 0)), none, []⟩,
      ⟨(some 2), (.mov (.c (.i .i64 (0)))), none, []⟩] [])
    (.seq (.seq (.region [⟨(some 6), (.load (some 5) (.t 1)), none, []⟩,
      ⟨(some 7), (.call 78 [(.t 6), (.c (.i .i64 (0))), (.c (.i .i64 (256)))]), none, []⟩,
      ⟨(some 5), (.mov (.t 7)), none, []⟩,
      ⟨(some 8), (.ext (.t 5) 0), none, []⟩,
      ⟨(some 9), (.ext (.t 5) 1), none, []⟩,
      ⟨(some 3), (.mov (.t 8)), none, []⟩,
      ⟨(some 4), (.mov (.t 9)), none, []⟩] [])
    (.seq (.region [⟨(some 10), (.mov (.t 4)), none, []⟩,
      ⟨(some 11), (.un .not (.t 10)), none, []⟩] [])
    (.cond (.t 11)
      (.seq (.region [⟨(some 2), (.mov (.c (.i .i64 (2)))), none, []⟩] [])
      .ret)
      .skip)))
    (.seq (.region [⟨(some 2), (.mov (.c (.i .i64 (0)))), none, []⟩] [])
    .ret))),
    12, 1, [.t 2], 0⟩
theorem tr68 : trFunc Tryd.prog [([], []), ([], []), ([], []), ([], []), ([], []), ([], [])] 0 Tryd.f68 = some I68 := by kernel_rfl

/-- 'slices.EqualFunc[[]encore/api.Value,[]encore/api.Value,encore/api.Value,encore/api.Value]'. -/
def L69a : ICode :=
  (.seq (.region [⟨(some 18), (.bin .lss (.t 17) (.t 16)), none, []⟩] [])
    (.seq (.cond (.t 18)
      .skip
      (.exit 0))
    (.seq (.block 1
      (.seq (.region [⟨(some 19), (.mov (.t 17)), none, []⟩,
        ⟨(some 20), (.iaddr 5 (.t 15) (.t 17)), none, []⟩,
        ⟨(some 21), (.load (some 5) (.t 20)), none, []⟩,
        ⟨(some 8), (.alloc [(.i .i64 (0)), (.i .i64 (0)), (.s []), .ns, .ns]), none, []⟩,
        ⟨(some 7), (.mov (.t 19)), none, []⟩,
        ⟨none, (.store 5 (.t 8) (.t 21)), none, []⟩] [])
      (.seq (.region [⟨(some 22), (.mov (.t 1)), none, []⟩,
        ⟨(some 23), (.mov (.t 7)), none, []⟩,
        ⟨(some 24), (.iaddr 5 (.t 22) (.t 23)), none, []⟩,
        ⟨(some 25), (.load (some 5) (.t 24)), none, []⟩,
        ⟨(some 9), (.alloc [(.i .i64 (0)), (.i .i64 (0)), (.s []), .ns, .ns]), none, []⟩,
        ⟨none, (.store 5 (.t 9) (.t 25)), none, []⟩] [])
      (.seq (.region [⟨(some 26), (.mov (.t 2)), none, []⟩,
        ⟨(some 27), (.load (some 5) (.t 8)), none, []⟩,
        ⟨(some 28), (.load (some 5) (.t 9)), none, []⟩,
        ⟨(some 29), (.callv (.t 26) [(.t 27), (.t 28)]), none, []⟩,
        ⟨(some 30), (.un .not (.t 29)), none, []⟩] [])
      (.cond (.t 30)
        (.seq (.region [⟨(some 6), (.mov (.c (.b false))), none, []⟩] [])
        .ret)
        .skip)))))
    (.region [⟨(some 31), (.bin .add (.t 17) (.c (.i .i64 (1)))), none, []⟩,
      ⟨(some 17), (.mov (.t 31)), none, []⟩] []))))
def I69 : IFunc :=
  ⟨(.seq (.region [⟨(some 6), (.mov (.c (.b false))), none, []⟩] [])
    (.seq (.seq (.region [⟨(some 10), (.mov (.t 0)), none, []⟩,
      ⟨(some 11), (.lenk 0 (.t 10)), none, []⟩,
      ⟨(some 12), (.mov (.t 1)), none, []⟩,
      ⟨(some 13), (.lenk 0 (.t 12)), none, []⟩,
      ⟨(some 14), (.bin .neq (.t 11) (.t 13)), none, []⟩] [])
    (.cond (.t 14)
      (.seq (.region [⟨(some 6), (.mov (.c (.b false))), none, []⟩] [])
      .ret)
      .skip))
    (.seq (.seq (.region [⟨(some 15), (.mov (.t 0)), none, []⟩,
      ⟨(some 16), (.lenk 0 (.t 15)), none, []⟩,
      ⟨(some 17), (.mov (.c (.i .i64 (0)))), none, []⟩] [])
    (.block 0
      (.loop L69a)))
    (.seq (.region [⟨(some 6), (.mov (.c (.b true))), none, []⟩] [])
    .ret)))),
    32, 3, [.t 6], 0⟩
theorem tr69 : trFunc Tryd.prog [([], []), ([], []), ([], []), ([], []), ([], []), ([], []), ([], []), ([], []), ([], []), ([], []), ([], []), ([], []), ([], []), ([], [])] 0 Tryd.f69 = some I69 := by kernel_rfl

/-- 'slices.IndexFunc[[]encore/lift.Operand,encore/lift.Operand]'. -/
def L70a : ICode :=
  (.seq (.region [⟨(some 9), (.bin .lss (.t 8) (.t 7)), none, []⟩] [])
    (.seq (.cond (.t 9)
      .skip
      (.exit 0))
    (.seq (.block 1
      (.seq (.region [⟨(some 10), (.mov (.t 8)), none, []⟩,
        ⟨(some 5), (.mov (.t 10)), none, []⟩] [])
      (.seq (.region [⟨(some 11), (.mov (.t 1)), none, []⟩,
        ⟨(some 12), (.mov (.t 0)), none, []⟩,
        ⟨(some 13), (.mov (.t 5)), none, []⟩,
        ⟨(some 14), (.iaddr 7 (.t 12) (.t 13)), none, []⟩,
        ⟨(some 15), (.load (some 7) (.t 14)), none, []⟩,
        ⟨(some 16), (.callv (.t 11) [(.t 15)]), none, []⟩] [])
      (.cond (.t 16)
        (.seq (.region [⟨(some 17), (.mov (.t 5)), none, []⟩,
          ⟨(some 4), (.mov (.t 17)), none, []⟩] [])
        .ret)
        .skip))))
    (.region [⟨(some 18), (.bin .add (.t 8) (.c (.i .i64 (1)))), none, []⟩,
      ⟨(some 8), (.mov (.t 18)), none, []⟩] []))))
def I70 : IFunc :=
  ⟨(.seq (.region [⟨(some 4), (.mov (.c (.i .i64 (0)))), none, []⟩] [])
    (.seq (.seq (.region [⟨(some 6), (.mov (.t 0)), none, []⟩,
      ⟨(some 7), (.lenk 0 (.t 6)), none, []⟩,
      ⟨(some 8), (.mov (.c (.i .i64 (0)))), none, []⟩] [])
    (.block 0
      (.loop L70a)))
    (.seq (.region [⟨(some 4), (.mov (.c (.i .i64 (-1)))), none, []⟩] [])
    .ret))),
    19, 2, [.t 4], 0⟩
theorem tr70 : trFunc Tryd.prog [([], []), ([], []), ([], []), ([], []), ([], []), ([], []), ([], []), ([], []), ([], []), ([], [])] 0 Tryd.f70 = some I70 := by kernel_rfl

/-- 'encore/prune.sameValue'. -/
def I71 : IFunc :=
  ⟨(.seq (.region [⟨(some 2), (.box (.t 0)), none, []⟩,
      ⟨(some 3), (.box (.t 1)), none, []⟩,
      ⟨(some 4), (.mov (.c (.b false))), none, []⟩] [])
    (.seq (.region [⟨(some 5), (.off (.t 2) 0), none, []⟩,
      ⟨(some 6), (.load none (.t 5)), none, []⟩,
      ⟨(some 7), (.off (.t 3) 0), none, []⟩,
      ⟨(some 8), (.load none (.t 7)), none, []⟩,
      ⟨(some 9), (.bin .eql (.t 6) (.t 8)), none, []⟩,
      ⟨(some 10), (.mov (.t 9)), none, []⟩,
      ⟨(some 11), (.off (.t 2) 1), (some (10, true)), []⟩,
      ⟨(some 12), (.load none (.t 11)), (some (10, true)), []⟩,
      ⟨(some 13), (.off (.t 3) 1), (some (10, true)), []⟩,
      ⟨(some 14), (.load none (.t 13)), (some (10, true)), []⟩,
      ⟨(some 15), (.bin .eql (.t 12) (.t 14)), (some (10, true)), []⟩,
      ⟨(some 16), (.pick (.t 10) (.t 15) (.c (.b false))), none, []⟩,
      ⟨(some 17), (.mov (.t 16)), none, []⟩,
      ⟨(some 18), (.off (.t 2) 2), (some (17, true)), []⟩,
      ⟨(some 19), (.load none (.t 18)), (some (17, true)), []⟩,
      ⟨(some 20), (.off (.t 3) 2), (some (17, true)), []⟩,
      ⟨(some 21), (.load none (.t 20)), (some (17, true)), []⟩,
      ⟨(some 22), (.bin .eql (.t 19) (.t 21)), (some (17, true)), []⟩,
      ⟨(some 23), (.pick (.t 17) (.t 22) (.c (.b false))), none, []⟩,
      ⟨(some 24), (.mov (.t 23)), none, []⟩,
      ⟨(some 25), (.off (.t 2) 4), (some (24, true)), []⟩,
      ⟨(some 26), (.load none (.t 25)), (some (24, true)), []⟩,
      ⟨(some 27), (.off (.t 3) 4), (some (24, true)), []⟩,
      ⟨(some 28), (.load none (.t 27)), (some (24, true)), []⟩,
      ⟨(some 29), (.call 57 [(.t 26), (.t 28)]), (some (24, true)), []⟩,
      ⟨(some 30), (.pick (.t 24) (.t 29) (.c (.b false))), none, []⟩,
      ⟨(some 31), (.mov (.t 30)), none, []⟩,
      ⟨(some 32), (.off (.t 2) 3), (some (31, true)), []⟩,
      ⟨(some 33), (.load none (.t 32)), (some (31, true)), []⟩,
      ⟨(some 34), (.off (.t 3) 3), (some (31, true)), []⟩,
      ⟨(some 35), (.load none (.t 34)), (some (31, true)), []⟩,
      ⟨(some 36), (.call 69 [(.t 33), (.t 35), (.f 71)]), (some (31, true)), []⟩,
      ⟨(some 37), (.pick (.t 31) (.t 36) (.c (.b false))), none, []⟩,
      ⟨(some 4), (.mov (.t 37)), none, []⟩] [])
    .ret)),
    38, 2, [.t 4], 0⟩
theorem tr71 : trFunc Tryd.prog [([], []), ([], [])] 0 Tryd.f71 = some I71 := by kernel_rfl

/-- 'encore/encoreref07.Compare'. -/
def L72a : ICode :=
  (.seq (.seq (.region [⟨(some 38), (.mov (.t 5)), none, []⟩,
      ⟨(some 39), (.off (.t 2) 4), none, []⟩,
      ⟨(some 40), (.load none (.t 39)), none, []⟩,
      ⟨(some 41), (.lenk 0 (.t 40)), none, []⟩,
      ⟨(some 42), (.bin .lss (.t 38) (.t 41)), none, []⟩,
      ⟨(some 43), (.mov (.t 42)), none, []⟩,
      ⟨(some 44), (.mov (.t 5)), (some (43, true)), []⟩,
      ⟨(some 45), (.off (.t 3) 4), (some (43, true)), []⟩,
      ⟨(some 46), (.load none (.t 45)), (some (43, true)), []⟩,
      ⟨(some 47), (.lenk 0 (.t 46)), (some (43, true)), []⟩,
      ⟨(some 48), (.bin .lss (.t 44) (.t 47)), (some (43, true)), []⟩,
      ⟨(some 49), (.pick (.t 43) (.t 48) (.c (.b false))), none, []⟩] [])
    (.cond (.t 49)
      .skip
      (.exit 0)))
    (.seq (.block 1
      (.seq (.region [⟨(some 52), (.off (.t 2) 4), none, []⟩,
        ⟨(some 53), (.load none (.t 52)), none, []⟩,
        ⟨(some 54), (.mov (.t 5)), none, []⟩,
        ⟨(some 55), (.iaddr 1 (.t 53) (.t 54)), none, []⟩,
        ⟨(some 56), (.load none (.t 55)), none, []⟩,
        ⟨(some 57), (.off (.t 3) 4), none, []⟩,
        ⟨(some 58), (.load none (.t 57)), none, []⟩,
        ⟨(some 59), (.mov (.t 5)), none, []⟩,
        ⟨(some 60), (.iaddr 1 (.t 58) (.t 59)), none, []⟩,
        ⟨(some 61), (.load none (.t 60)), none, []⟩,
        ⟨(some 62), (.bin .neq (.t 56) (.t 61)), none, []⟩] [])
      (.cond (.t 62)
        (.seq (.region [⟨(some 63), (.off (.t 2) 4), none, []⟩,
          ⟨(some 64), (.load none (.t 63)), none, []⟩,
          ⟨(some 65), (.mov (.t 5)), none, []⟩,
          ⟨(some 66), (.iaddr 1 (.t 64) (.t 65)), none, []⟩,
          ⟨(some 67), (.load none (.t 66)), none, []⟩,
          ⟨(some 68), (.off (.t 3) 4), none, []⟩,
          ⟨(some 69), (.load none (.t 68)), none, []⟩,
          ⟨(some 70), (.mov (.t 5)), none, []⟩,
          ⟨(some 71), (.iaddr 1 (.t 69) (.t 70)), none, []⟩,
          ⟨(some 72), (.load none (.t 71)), none, []⟩,
          ⟨(some 73), (.call 80 [(.t 67), (.t 72)]), none, []⟩,
          ⟨(some 4), (.mov (.t 73)), none, []⟩] [])
        .ret)
        .skip)))
    (.region [⟨(some 50), (.mov (.t 5)), none, []⟩,
      ⟨(some 51), (.bin .add (.t 50) (.c (.i .i64 (1)))), none, []⟩,
      ⟨(some 5), (.mov (.t 51)), none, []⟩] [])))
def L72b : ICode :=
  (.seq (.seq (.region [⟨(some 88), (.mov (.t 6)), none, []⟩,
      ⟨(some 89), (.off (.t 2) 3), none, []⟩,
      ⟨(some 90), (.load none (.t 89)), none, []⟩,
      ⟨(some 91), (.lenk 0 (.t 90)), none, []⟩,
      ⟨(some 92), (.bin .lss (.t 88) (.t 91)), none, []⟩,
      ⟨(some 93), (.mov (.t 92)), none, []⟩,
      ⟨(some 94), (.mov (.t 6)), (some (93, true)), []⟩,
      ⟨(some 95), (.off (.t 3) 3), (some (93, true)), []⟩,
      ⟨(some 96), (.load none (.t 95)), (some (93, true)), []⟩,
      ⟨(some 97), (.lenk 0 (.t 96)), (some (93, true)), []⟩,
      ⟨(some 98), (.bin .lss (.t 94) (.t 97)), (some (93, true)), []⟩,
      ⟨(some 99), (.pick (.t 93) (.t 98) (.c (.b false))), none, []⟩] [])
    (.cond (.t 99)
      .skip
      (.exit 2)))
    (.seq (.block 3
      (.seq (.region [⟨(some 102), (.off (.t 2) 3), none, []⟩,
        ⟨(some 103), (.load none (.t 102)), none, []⟩,
        ⟨(some 104), (.mov (.t 6)), none, []⟩,
        ⟨(some 105), (.iaddr 5 (.t 103) (.t 104)), none, []⟩,
        ⟨(some 106), (.load (some 5) (.t 105)), none, []⟩,
        ⟨(some 107), (.off (.t 3) 3), none, []⟩,
        ⟨(some 108), (.load none (.t 107)), none, []⟩,
        ⟨(some 109), (.mov (.t 6)), none, []⟩,
        ⟨(some 110), (.iaddr 5 (.t 108) (.t 109)), none, []⟩,
        ⟨(some 111), (.load (some 5) (.t 110)), none, []⟩,
        ⟨(some 112), (.call 72 [(.t 106), (.t 111)]), none, []⟩,
        ⟨(some 7), (.mov (.t 112)), none, []⟩] [])
      (.seq (.region [⟨(some 113), (.mov (.t 7)), none, []⟩,
        ⟨(some 114), (.bin .neq (.t 113) (.c (.i .i64 (0)))), none, []⟩] [])
      (.cond (.t 114)
        (.seq (.region [⟨(some 115), (.mov (.t 7)), none, []⟩,
          ⟨(some 4), (.mov (.t 115)), none, []⟩] [])
        .ret)
        .skip))))
    (.region [⟨(some 100), (.mov (.t 6)), none, []⟩,
      ⟨(some 101), (.bin .add (.t 100) (.c (.i .i64 (1)))), none, []⟩,
      ⟨(some 6), (.mov (.t 101)), none, []⟩] [])))
def I72 : IFunc :=
  ⟨(.seq (.region [⟨(some 2), (.box (.t 0)), none, []⟩,
      ⟨(some 3), (.box (.t 1)), none, []⟩,
      ⟨(some 4), (.mov (.c (.i .i64 (0)))), none, []⟩] [])
    (.seq (.seq (.region [⟨(some 8), (.off (.t 2) 0), none, []⟩,
      ⟨(some 9), (.load none (.t 8)), none, []⟩,
      ⟨(some 10), (.off (.t 3) 0), none, []⟩,
      ⟨(some 11), (.load none (.t 10)), none, []⟩,
      ⟨(some 12), (.bin .neq (.t 9) (.t 11)), none, []⟩] [])
    (.cond (.t 12)
      (.seq (.region [⟨(some 13), (.off (.t 2) 0), none, []⟩,
        ⟨(some 14), (.load none (.t 13)), none, []⟩,
        ⟨(some 15), (.off (.t 3) 0), none, []⟩,
        ⟨(some 16), (.load none (.t 15)), none, []⟩,
        ⟨(some 17), (.call 79 [(.t 14), (.t 16)]), none, []⟩,
        ⟨(some 4), (.mov (.t 17)), none, []⟩] [])
      .ret)
      .skip))
    (.seq (.seq (.region [⟨(some 18), (.off (.t 2) 1), none, []⟩,
      ⟨(some 19), (.load none (.t 18)), none, []⟩,
      ⟨(some 20), (.off (.t 3) 1), none, []⟩,
      ⟨(some 21), (.load none (.t 20)), none, []⟩,
      ⟨(some 22), (.bin .neq (.t 19) (.t 21)), none, []⟩] [])
    (.cond (.t 22)
      (.seq (.region [⟨(some 23), (.off (.t 2) 1), none, []⟩,
        ⟨(some 24), (.load none (.t 23)), none, []⟩,
        ⟨(some 25), (.off (.t 3) 1), none, []⟩,
        ⟨(some 26), (.load none (.t 25)), none, []⟩,
        ⟨(some 27), (.call 79 [(.t 24), (.t 26)]), none, []⟩,
        ⟨(some 4), (.mov (.t 27)), none, []⟩] [])
      .ret)
      .skip))
    (.seq (.seq (.region [⟨(some 28), (.off (.t 2) 2), none, []⟩,
      ⟨(some 29), (.load none (.t 28)), none, []⟩,
      ⟨(some 30), (.off (.t 3) 2), none, []⟩,
      ⟨(some 31), (.load none (.t 30)), none, []⟩,
      ⟨(some 32), (.bin .neq (.t 29) (.t 31)), none, []⟩] [])
    (.cond (.t 32)
      (.seq (.region [⟨(some 33), (.off (.t 2) 2), none, []⟩,
        ⟨(some 34), (.load none (.t 33)), none, []⟩,
        ⟨(some 35), (.off (.t 3) 2), none, []⟩,
        ⟨(some 36), (.load none (.t 35)), none, []⟩,
        ⟨(some 37), (.call 80 [(.t 34), (.t 36)]), none, []⟩,
        ⟨(some 4), (.mov (.t 37)), none, []⟩] [])
      .ret)
      .skip))
    (.seq (.seq (.region [⟨(some 5), (.mov (.c (.i .i64 (0)))), none, []⟩] [])
    (.block 0
      (.loop L72a)))
    (.seq (.seq (.region [⟨(some 74), (.off (.t 2) 4), none, []⟩,
      ⟨(some 75), (.load none (.t 74)), none, []⟩,
      ⟨(some 76), (.lenk 0 (.t 75)), none, []⟩,
      ⟨(some 77), (.off (.t 3) 4), none, []⟩,
      ⟨(some 78), (.load none (.t 77)), none, []⟩,
      ⟨(some 79), (.lenk 0 (.t 78)), none, []⟩,
      ⟨(some 80), (.bin .neq (.t 76) (.t 79)), none, []⟩] [])
    (.cond (.t 80)
      (.seq (.region [⟨(some 81), (.off (.t 2) 4), none, []⟩,
        ⟨(some 82), (.load none (.t 81)), none, []⟩,
        ⟨(some 83), (.lenk 0 (.t 82)), none, []⟩,
        ⟨(some 84), (.off (.t 3) 4), none, []⟩,
        ⟨(some 85), (.load none (.t 84)), none, []⟩,
        ⟨(some 86), (.lenk 0 (.t 85)), none, []⟩,
        ⟨(some 87), (.call 79 [(.t 83), (.t 86)]), none, []⟩,
        ⟨(some 4), (.mov (.t 87)), none, []⟩] [])
      .ret)
      .skip))
    (.seq (.seq (.region [⟨(some 6), (.mov (.c (.i .i64 (0)))), none, []⟩] [])
    (.block 2
      (.loop L72b)))
    (.seq (.region [⟨(some 116), (.off (.t 2) 3), none, []⟩,
      ⟨(some 117), (.load none (.t 116)), none, []⟩,
      ⟨(some 118), (.lenk 0 (.t 117)), none, []⟩,
      ⟨(some 119), (.off (.t 3) 3), none, []⟩,
      ⟨(some 120), (.load none (.t 119)), none, []⟩,
      ⟨(some 121), (.lenk 0 (.t 120)), none, []⟩,
      ⟨(some 122), (.call 79 [(.t 118), (.t 121)]), none, []⟩,
      ⟨(some 4), (.mov (.t 122)), none, []⟩] [])
    .ret)))))))),
    123, 2, [.t 4], 0⟩
theorem tr72 : trFunc Tryd.prog [([], []), ([], []), ([], []), ([], []), ([], []), ([], []), ([], []), ([], []), ([], []), ([], []), ([], []), ([], []), ([], []), ([0, 1, 2, 3, 4, 5, 6, 7, 8, 9, 10], []), ([0, 1, 2, 3, 4, 5, 6, 7, 8, 9, 10, 11], []), ([], []), ([], []), ([], []), ([], []), ([], []), ([], []), ([], []), ([], []), ([0, 1, 2, 3, 4, 5, 6, 7, 8, 9, 10, 11], []), ([], []), ([], []), ([], []), ([], []), ([], [])] 0 Tryd.f72 = some I72 := by kernel_rfl

/-- 'math/bits.Mul32'. -/
def I73 : IFunc :=
  ⟨(.seq (.region [⟨(some 4), (.mov (.c (.i .u32 (0)))), none, []⟩,
      ⟨(some 5), (.mov (.c (.i .u32 (0)))), none, []⟩] [])
    (.seq (.region [⟨(some 7), (.mov (.t 0)), none, []⟩,
      ⟨(some 8), (.conv .u64 (.t 7)), none, []⟩,
      ⟨(some 9), (.mov (.t 1)), none, []⟩,
      ⟨(some 10), (.conv .u64 (.t 9)), none, []⟩,
      ⟨(some 11), (.bin .mul (.t 8) (.t 10)), none, []⟩,
      ⟨(some 6), (.mov (.t 11)), none, []⟩] [])
    (.seq (.region [⟨(some 12), (.mov (.t 6)), none, []⟩,
      ⟨(some 13), (.bin .shr (.t 12) (.c (.i .u64 (32)))), none, []⟩,
      ⟨(some 14), (.conv .u32 (.t 13)), none, []⟩,
      ⟨(some 15), (.mov (.t 6)), none, []⟩,
      ⟨(some 16), (.conv .u32 (.t 15)), none, []⟩,
      ⟨(some 4), (.mov (.t 14)), none, []⟩,
      ⟨(some 5), (.mov (.t 16)), none, []⟩] [])
    .ret))),
    17, 2, [.t 4, .t 5], 0⟩
theorem tr73 : trFunc Tryd.prog [([], []), ([], []), ([], [])] 0 Tryd.f73 = some I73 := by kernel_rfl

/-- 'math/bits.Mul64'. -/
def I74 : IFunc :=
  ⟨(.seq (.region [⟨(some 4), (.mov (.c (.i .u64 (0)))), none, []⟩,
      ⟨(some 5), (.mov (.c (.i .u64 (0)))), none, []⟩] [])
    (.seq (.region [⟨(some 14), (.mov (.t 0)), none, []⟩,
      ⟨(some 15), (.bin .and (.t 14) (.c (.i .u64 (4294967295)))), none, []⟩,
      ⟨(some 6), (.mov (.t 15)), none, []⟩] [])
    (.seq (.region [⟨(some 16), (.mov (.t 0)), none, []⟩,
      ⟨(some 17), (.bin .shr (.t 16) (.c (.i .u64 (32)))), none, []⟩,
      ⟨(some 7), (.mov (.t 17)), none, []⟩] [])
    (.seq (.region [⟨(some 18), (.mov (.t 1)), none, []⟩,
      ⟨(some 19), (.bin .and (.t 18) (.c (.i .u64 (4294967295)))), none, []⟩,
      ⟨(some 8), (.mov (.t 19)), none, []⟩] [])
    (.seq (.region [⟨(some 20), (.mov (.t 1)), none, []⟩,
      ⟨(some 21), (.bin .shr (.t 20) (.c (.i .u64 (32)))), none, []⟩,
      ⟨(some 9), (.mov (.t 21)), none, []⟩] [])
    (.seq (.region [⟨(some 22), (.mov (.t 6)), none, []⟩,
      ⟨(some 23), (.mov (.t 8)), none, []⟩,
      ⟨(some 24), (.bin .mul (.t 22) (.t 23)), none, []⟩,
      ⟨(some 10), (.mov (.t 24)), none, []⟩] [])
    (.seq (.region [⟨(some 25), (.mov (.t 7)), none, []⟩,
      ⟨(some 26), (.mov (.t 8)), none, []⟩,
      ⟨(some 27), (.bin .mul (.t 25) (.t 26)), none, []⟩,
      ⟨(some 28), (.mov (.t 10)), none, []⟩,
      ⟨(some 29), (.bin .shr (.t 28) (.c (.i .u64 (32)))), none, []⟩,
      ⟨(some 30), (.bin .add (.t 27) (.t 29)), none, []⟩,
      ⟨(some 11), (.mov (.t 30)), none, []⟩] [])
    (.seq (.region [⟨(some 31), (.mov (.t 11)), none, []⟩,
      ⟨(some 32), (.bin .and (.t 31) (.c (.i .u64 (4294967295)))), none, []⟩,
      ⟨(some 12), (.mov (.t 32)), none, []⟩] [])
    (.seq (.region [⟨(some 33), (.mov (.t 11)), none, []⟩,
      ⟨(some 34), (.bin .shr (.t 33) (.c (.i .u64 (32)))), none, []⟩,
      ⟨(some 13), (.mov (.t 34)), none, []⟩] [])
    (.seq (.region [⟨(some 35), (.mov (.t 12)), none, []⟩,
      ⟨(some 36), (.mov (.t 6)), none, []⟩,
      ⟨(some 37), (.mov (.t 9)), none, []⟩,
      ⟨(some 38), (.bin .mul (.t 36) (.t 37)), none, []⟩,
      ⟨(some 39), (.bin .add (.t 35) (.t 38)), none, []⟩,
      ⟨(some 12), (.mov (.t 39)), none, []⟩] [])
    (.seq (.region [⟨(some 40), (.mov (.t 7)), none, []⟩,
      ⟨(some 41), (.mov (.t 9)), none, []⟩,
      ⟨(some 42), (.bin .mul (.t 40) (.t 41)), none, []⟩,
      ⟨(some 43), (.mov (.t 13)), none, []⟩,
      ⟨(some 44), (.bin .add (.t 42) (.t 43)), none, []⟩,
      ⟨(some 45), (.mov (.t 12)), none, []⟩,
      ⟨(some 46), (.bin .shr (.t 45) (.c (.i .u64 (32)))), none, []⟩,
      ⟨(some 47), (.bin .add (.t 44) (.t 46)), none, []⟩,
      ⟨(some 4), (.mov (.t 47)), none, []⟩] [])
    (.seq (.region [⟨(some 48), (.mov (.t 0)), none, []⟩,
      ⟨(some 49), (.mov (.t 1)), none, []⟩,
      ⟨(some 50), (.bin .mul (.t 48) (.t 49)), none, []⟩,
      ⟨(some 5), (.mov (.t 50)), none, []⟩] [])
    .ret)))))))))))),
    51, 2, [.t 4, .t 5], 0⟩
theorem tr74 : trFunc Tryd.prog [([], []), ([], []), ([], []), ([], []), ([], []), ([], []), ([], []), ([], []), ([], []), ([], []), ([], []), ([], [])] 0 Tryd.f74 = some I74 := by kernel_rfl

/-- 'slices.IndexFunc[[]int,int]'. -/
def L75a : ICode :=
  (.seq (.region [⟨(some 9), (.bin .lss (.t 8) (.t 7)), none, []⟩] [])
    (.seq (.cond (.t 9)
      .skip
      (.exit 0))
    (.seq (.block 1
      (.seq (.region [⟨(some 10), (.mov (.t 8)), none, []⟩,
        ⟨(some 5), (.mov (.t 10)), none, []⟩] [])
      (.seq (.region [⟨(some 11), (.mov (.t 1)), none, []⟩,
        ⟨(some 12), (.mov (.t 0)), none, []⟩,
        ⟨(some 13), (.mov (.t 5)), none, []⟩,
        ⟨(some 14), (.iaddr 1 (.t 12) (.t 13)), none, []⟩,
        ⟨(some 15), (.load none (.t 14)), none, []⟩,
        ⟨(some 16), (.callv (.t 11) [(.t 15)]), none, []⟩] [])
      (.cond (.t 16)
        (.seq (.region [⟨(some 17), (.mov (.t 5)), none, []⟩,
          ⟨(some 4), (.mov (.t 17)), none, []⟩] [])
        .ret)
        .skip))))
    (.region [⟨(some 18), (.bin .add (.t 8) (.c (.i .i64 (1)))), none, []⟩,
      ⟨(some 8), (.mov (.t 18)), none, []⟩] []))))
def I75 : IFunc :=
  ⟨(.seq (.region [⟨(some 4), (.mov (.c (.i .i64 (0)))), none, []⟩] [])
    (.seq (.seq (.region [⟨(some 6), (.mov (.t 0)), none, []⟩,
      ⟨(some 7), (.lenk 0 (.t 6)), none, []⟩,
      ⟨(some 8), (.mov (.c (.i .i64 (0)))), none, []⟩] [])
    (.block 0
      (.loop L75a)))
    (.seq (.region [⟨(some 4), (.mov (.c (.i .i64 (-1)))), none, []⟩] [])
    .ret))),
    19, 2, [.t 4], 0⟩
theorem tr75 : trFunc Tryd.prog [([], []), ([], []), ([], []), ([], []), ([], []), ([], []), ([], []), ([], []), ([], []), ([], [])] 0 Tryd.f75 = some I75 := by kernel_rfl

/-- 'encore/prune.makes'. -/
def I76 : IFunc :=
  ⟨(.seq (.region [⟨(some 1), (.box (.t 0)), none, []⟩,
      ⟨(some 2), (.mov (.c (.i .i64 (0)))), none, []⟩] [])
    (.seq (.seq (.region [⟨(some 3), (.off (.t 1) 0), none, []⟩,
      ⟨(some 4), (.load none (.t 3)), none, []⟩] [])
    (.block 0
      (.seq (.seq (.region [⟨(some 6), (.bin .eql (.t 4) (.c (.i .i64 (6)))), none, []⟩,
        ⟨(some 5), (.mov (.t 6)), none, []⟩] [])
      (.cond (.t 5)
        .skip
        (.seq (.region [⟨(some 7), (.bin .eql (.t 4) (.c (.i .i64 (8)))), none, []⟩,
          ⟨(some 5), (.mov (.t 7)), none, []⟩] [])
        (.cond (.t 5)
          .skip
          (.seq (.region [⟨(some 8), (.bin .eql (.t 4) (.c (.i .i64 (10)))), none, []⟩,
            ⟨(some 5), (.mov (.t 8)), none, []⟩] [])
          (.cond (.t 5)
            .skip
            (.seq (.region [⟨(some 9), (.bin .eql (.t 4) (.c (.i .i64 (11)))), none, []⟩,
              ⟨(some 5), (.mov (.t 9)), none, []⟩] [])
            (.cond (.t 5)
              .skip
              (.seq (.region [⟨(some 10), (.bin .eql (.t 4) (.c (.i .i64 (12)))), none, []⟩,
                ⟨(some 5), (.mov (.t 10)), none, []⟩] [])
              (.cond (.t 5)
                .skip
                (.seq (.region [⟨(some 11), (.bin .eql (.t 4) (.c (.i .i64 (13)))), none, []⟩,
                  ⟨(some 5), (.mov (.t 11)), none, []⟩] [])
                (.cond (.t 5)
                  .skip
                  (.seq (.region [⟨(some 12), (.bin .eql (.t 4) (.c (.i .i64 (41)))), none, []⟩,
                    ⟨(some 5), (.mov (.t 12)), none, []⟩] [])
                  (.cond (.t 5)
                    .skip
                    (.seq (.region [⟨(some 13), (.bin .eql (.t 4) (.c (.i .i64 (43)))), none, []⟩,
                      ⟨(some 5), (.mov (.t 13)), none, []⟩] [])
                    (.cond (.t 5)
                      .skip
                      (.seq (.region [⟨(some 14), (.bin .eql (.t 4) (.c (.i .i64 (44)))), none, []⟩,
                        ⟨(some 5), (.mov (.t 14)), none, []⟩] [])
                      (.cond (.t 5)
                        .skip
                        (.seq (.region [⟨(some 15), (.bin .eql (.t 4) (.c (.i .i64 (45)))), none, []⟩,
                          ⟨(some 5), (.mov (.t 15)), none, []⟩] [])
                        (.cond (.t 5)
                          .skip
                          (.region [⟨(some 16), (.bin .eql (.t 4) (.c (.i .i64 (48)))), none, []⟩,
                            ⟨(some 5), (.mov (.t 16)), none, []⟩] [])))))))))))))))))))))
      (.cond (.t 5)
        (.seq (.region [⟨(some 2), (.mov (.c (.i .i64 (1)))), none, []⟩] [])
        .ret)
        (.seq (.seq (.region [⟨(some 18), (.bin .eql (.t 4) (.c (.i .i64 (7)))), none, []⟩,
          ⟨(some 17), (.mov (.t 18)), none, []⟩] [])
        (.cond (.t 17)
          .skip
          (.seq (.region [⟨(some 19), (.bin .eql (.t 4) (.c (.i .i64 (14)))), none, []⟩,
            ⟨(some 17), (.mov (.t 19)), none, []⟩] [])
          (.cond (.t 17)
            .skip
            (.seq (.region [⟨(some 20), (.bin .eql (.t 4) (.c (.i .i64 (15)))), none, []⟩,
              ⟨(some 17), (.mov (.t 20)), none, []⟩] [])
            (.cond (.t 17)
              .skip
              (.seq (.region [⟨(some 21), (.bin .eql (.t 4) (.c (.i .i64 (16)))), none, []⟩,
                ⟨(some 17), (.mov (.t 21)), none, []⟩] [])
              (.cond (.t 17)
                .skip
                (.seq (.region [⟨(some 22), (.bin .eql (.t 4) (.c (.i .i64 (17)))), none, []⟩,
                  ⟨(some 17), (.mov (.t 22)), none, []⟩] [])
                (.cond (.t 17)
                  .skip
                  (.seq (.region [⟨(some 23), (.bin .eql (.t 4) (.c (.i .i64 (42)))), none, []⟩,
                    ⟨(some 17), (.mov (.t 23)), none, []⟩] [])
                  (.cond (.t 17)
                    .skip
                    (.seq (.region [⟨(some 24), (.bin .eql (.t 4) (.c (.i .i64 (46)))), none, []⟩,
                      ⟨(some 17), (.mov (.t 24)), none, []⟩] [])
                    (.cond (.t 17)
                      .skip
                      (.seq (.region [⟨(some 25), (.bin .eql (.t 4) (.c (.i .i64 (47)))), none, []⟩,
                        ⟨(some 17), (.mov (.t 25)), none, []⟩] [])
                      (.cond (.t 17)
                        .skip
                        (.region [⟨(some 26), (.bin .eql (.t 4) (.c (.i .i64 (49)))), none, []⟩,
                          ⟨(some 17), (.mov (.t 26)), none, []⟩] [])))))))))))))))))
        (.cond (.t 17)
          (.seq (.region [⟨(some 2), (.mov (.c (.i .i64 (2)))), none, []⟩] [])
          .ret)
          (.seq (.seq (.region [⟨(some 28), (.bin .eql (.t 4) (.c (.i .i64 (20)))), none, []⟩,
            ⟨(some 27), (.mov (.t 28)), none, []⟩] [])
          (.cond (.t 27)
            .skip
            (.region [⟨(some 29), (.bin .eql (.t 4) (.c (.i .i64 (18)))), none, []⟩,
              ⟨(some 27), (.mov (.t 29)), none, []⟩] [])))
          (.cond (.t 27)
            (.seq (.region [⟨(some 2), (.mov (.c (.i .i64 (4)))), none, []⟩] [])
            .ret)
            (.seq (.region [⟨(some 31), (.bin .eql (.t 4) (.c (.i .i64 (21)))), none, []⟩,
              ⟨(some 30), (.mov (.t 31)), none, []⟩] [])
            (.cond (.t 30)
              (.seq (.region [⟨(some 2), (.mov (.c (.i .i64 (5)))), none, []⟩] [])
              .ret)
              (.seq (.region [⟨(some 33), (.bin .eql (.t 4) (.c (.i .i64 (40)))), none, []⟩,
                ⟨(some 32), (.mov (.t 33)), none, []⟩] [])
              (.cond (.t 32)
                (.seq (.region [⟨(some 34), (.off (.t 1) 1), none, []⟩,
                  ⟨(some 35), (.load none (.t 34)), none, []⟩,
                  ⟨(some 2), (.mov (.t 35)), none, []⟩] [])
                .ret)
                .skip))))))))))))
    (.seq (.region [⟨(some 2), (.mov (.c (.i .i64 (-1)))), none, []⟩] [])
    .ret))),
    36, 1, [.t 2], 0⟩
theorem tr76 : trFunc Tryd.prog [([], []), ([], []), ([], []), ([], []), ([], []), ([], []), ([], []), ([], []), ([], []), ([], []), ([], []), ([], []), ([], []), ([], []), ([], []), ([], []), ([], []), ([], []), ([], []), ([], []), ([], []), ([], []), ([], []), ([], []), ([], []), ([], []), ([], []), ([], []), ([], []), ([], []), ([], []), ([], []), ([], []), ([], []), ([], []), ([], []), ([], []), ([], []), ([], []), ([], []), ([], []), ([], []), ([], []), ([], []), ([], []), ([], []), ([], []), ([], []), ([], []), ([], []), ([], []), ([], [])] 0 Tryd.f76 = some I76 := by kernel_rfl

/-- 'encore/value.typed'. -/
def I77 : IFunc :=
  ⟨(.seq (.region [⟨(some 2), (.alloc [(.i .i64 (0)), .ns, .ns]), none, []⟩,
      ⟨(some 3), (.mov (.c (.b false))), none, []⟩] [])
    (.seq (.seq (.region [⟨(some 7), (.mov (.t 0)), none, []⟩,
      ⟨(some 8), (.lenk 1 (.t 7)), none, []⟩,
      ⟨(some 9), (.bin .gtr (.t 8) (.c (.i .i64 (64)))), none, []⟩] [])
    (.cond (.t 9)
      (.seq (.region [⟨(some 10), (.build [(.i .i64 (0)), .ns, .ns] []), none, []⟩,
        ⟨none, (.store 3 (.t 2) (.t 10)), none, []⟩,
        ⟨(some 3), (.mov (.c (.b false))), none, []⟩] [])
      .ret)
      .skip))
    (.seq (.region [⟨(some 12), (.mov (.t 0)), none, []⟩,
      ⟨(some 13), (.call 81 [(.t 12)]), none, []⟩,
      ⟨(some 11), (.mov (.t 13)), none, []⟩,
      ⟨(some 14), (.ext (.t 11) 0), none, []⟩,
      ⟨(some 15), (.ext (.t 11) 1), none, []⟩,
      ⟨(some 16), (.ext (.t 11) 2), none, []⟩,
      ⟨(some 4), (.alloc [(.i .i64 (0)), .ns, .ns]), none, []⟩,
      ⟨none, (.store 3 (.t 4) (.t 14)), none, []⟩,
      ⟨(some 5), (.mov (.t 15)), none, []⟩,
      ⟨(some 6), (.mov (.t 16)), none, []⟩] [])
    (.seq (.region [⟨(some 17), (.load (some 3) (.t 4)), none, []⟩,
      ⟨(some 18), (.mov (.t 6)), none, []⟩,
      ⟨(some 19), (.mov (.t 18)), none, []⟩,
      ⟨(some 20), (.mov (.t 5)), (some (19, true)), []⟩,
      ⟨(some 21), (.bin .eql (.t 20) (.c (.s []))), (some (19, true)), []⟩,
      ⟨(some 22), (.pick (.t 19) (.t 21) (.c (.b false))), none, []⟩,
      ⟨none, (.store 3 (.t 2) (.t 17)), none, []⟩,
      ⟨(some 3), (.mov (.t 22)), none, []⟩] [])
    .ret)))),
    23, 1, [.c 2 (some 3), .t 3], 0⟩
theorem tr77 : trFunc Tryd.prog [([], []), ([], []), ([], []), ([], []), ([], []), ([], [])] 0 Tryd.f77 = some I77 := by kernel_rfl

/-- 'encore/value.fits'. -/
def L78a : ICode :=
  (.seq (.region [⟨(some 22), (.bin .lss (.t 21) (.t 20)), none, []⟩] [])
    (.seq (.cond (.t 22)
      .skip
      (.exit 0))
    (.seq (.block 1
      (.seq (.region [⟨(some 23), (.iaddr 1 (.t 19) (.t 21)), none, []⟩,
        ⟨(some 24), (.load none (.t 23)), none, []⟩,
        ⟨(some 9), (.mov (.t 24)), none, []⟩] [])
      (.region [⟨(some 25), (.mov (.t 2)), none, []⟩,
        ⟨(some 26), (.mov (.t 9)), none, []⟩,
        ⟨(some 27), (.lenk 1 (.t 26)), none, []⟩,
        ⟨(some 28), (.bin .sub (.t 25) (.t 27)), none, []⟩,
        ⟨(some 2), (.mov (.t 28)), none, []⟩] [])))
    (.region [⟨(some 29), (.bin .add (.t 21) (.c (.i .i64 (1)))), none, []⟩,
      ⟨(some 21), (.mov (.t 29)), none, []⟩] []))))
def L78b : ICode :=
  (.seq (.region [⟨(some 45), (.bin .lss (.t 44) (.t 43)), none, []⟩] [])
    (.seq (.cond (.t 45)
      .skip
      (.exit 2))
    (.seq (.block 3
      (.seq (.region [⟨(some 46), (.mov (.t 44)), none, []⟩,
        ⟨(some 11), (.mov (.t 46)), none, []⟩] [])
      (.seq (.region [⟨(some 48), (.off (.t 3) 3), none, []⟩,
        ⟨(some 49), (.load none (.t 48)), none, []⟩,
        ⟨(some 50), (.mov (.t 11)), none, []⟩,
        ⟨(some 51), (.iaddr 5 (.t 49) (.t 50)), none, []⟩,
        ⟨(some 52), (.load (some 5) (.t 51)), none, []⟩,
        ⟨(some 53), (.mov (.t 1)), none, []⟩,
        ⟨(some 54), (.bin .add (.t 53) (.c (.i .i64 (1)))), none, []⟩,
        ⟨(some 55), (.mov (.t 2)), none, []⟩,
        ⟨(some 56), (.call 78 [(.t 52), (.t 54), (.t 55)]), none, []⟩,
        ⟨(some 47), (.mov (.t 56)), none, []⟩,
        ⟨(some 57), (.ext (.t 47) 0), none, []⟩,
        ⟨(some 58), (.ext (.t 47) 1), none, []⟩,
        ⟨(some 2), (.mov (.t 57)), none, []⟩,
        ⟨(some 10), (.mov (.t 58)), none, []⟩] [])
      (.seq (.region [⟨(some 59), (.mov (.t 10)), none, []⟩,
        ⟨(some 60), (.un .not (.t 59)), none, []⟩] [])
      (.cond (.t 60)
        (.seq (.region [⟨(some 6), (.mov (.c (.i .i64 (0)))), none, []⟩,
          ⟨(some 7), (.mov (.c (.b false))), none, []⟩] [])
        .ret)
        .skip)))))
    (.region [⟨(some 61), (.bin .add (.t 44) (.c (.i .i64 (1)))), none, []⟩,
      ⟨(some 44), (.mov (.t 61)), none, []⟩] []))))
def I78 : IFunc :=
  ⟨(.seq (.region [⟨(some 3), (.box (.t 0)), none, []⟩,
      ⟨(some 6), (.mov (.c (.i .i64 (0)))), none, []⟩,
      ⟨(some 7), (.mov (.c (.b false))), none, []⟩] [])
    (.seq (.region [⟨(some 12), (.mov (.t 2)), none, []⟩,
      ⟨(some 13), (.off (.t 3) 2), none, []⟩,
      ⟨(some 14), (.load none (.t 13)), none, []⟩,
      ⟨(some 15), (.lenk 1 (.t 14)), none, []⟩,
      ⟨(some 16), (.bin .add (.c (.i .i64 (1))) (.t 15)), none, []⟩,
      ⟨(some 17), (.bin .sub (.t 12) (.t 16)), none, []⟩,
      ⟨(some 2), (.mov (.t 17)), none, []⟩] [])
    (.seq (.seq (.region [⟨(some 18), (.off (.t 3) 4), none, []⟩,
      ⟨(some 19), (.load none (.t 18)), none, []⟩,
      ⟨(some 20), (.lenk 0 (.t 19)), none, []⟩,
      ⟨(some 21), (.mov (.c (.i .i64 (0)))), none, []⟩] [])
    (.block 0
      (.loop L78a)))
    (.seq (.seq (.region [⟨(some 30), (.mov (.t 1)), none, []⟩,
      ⟨(some 31), (.bin .geq (.t 30) (.c (.i .i64 (8)))), none, []⟩,
      ⟨(some 32), (.mov (.t 31)), none, []⟩,
      ⟨(some 33), (.mov (.t 2)), (some (32, false)), []⟩,
      ⟨(some 34), (.bin .lss (.t 33) (.c (.i .i64 (0)))), (some (32, false)), []⟩,
      ⟨(some 35), (.pick (.t 32) (.c (.b true)) (.t 34)), none, []⟩,
      ⟨(some 36), (.mov (.t 35)), none, []⟩,
      ⟨(some 37), (.load (some 5) (.t 3)), (some (36, false)), []⟩,
      ⟨(some 38), (.call 82 [(.t 37)]), (some (36, false)), []⟩,
      ⟨(some 39), (.un .not (.t 38)), (some (36, false)), []⟩,
      ⟨(some 40), (.pick (.t 36) (.c (.b true)) (.t 39)), none, []⟩] [])
    (.cond (.t 40)
      (.seq (.region [⟨(some 6), (.mov (.c (.i .i64 (0)))), none, []⟩,
        ⟨(some 7), (.mov (.c (.b false))), none, []⟩] [])
      .ret)
      .skip))
    (.seq (.region [⟨(some 10), (.mov (.c (.b true))), none, []⟩] [])
    (.seq (.seq (.region [⟨(some 41), (.off (.t 3) 3), none, []⟩,
      ⟨(some 42), (.load none (.t 41)), none, []⟩,
      ⟨(some 43), (.lenk 0 (.t 42)), none, []⟩,
      ⟨(some 44), (.mov (.c (.i .i64 (0)))), none, []⟩] [])
    (.block 2
      (.loop L78b)))
    (.seq (.region [⟨(some 62), (.mov (.t 2)), none, []⟩,
      ⟨(some 6), (.mov (.t 62)), none, []⟩,
      ⟨(some 7), (.mov (.c (.b true))), none, []⟩] [])
    .ret))))))),
    63, 3, [.t 6, .t 7], 0⟩
theorem tr78 : trFunc Tryd.prog [([], []), ([], []), ([], []), ([], []), ([], []), ([], []), ([], []), ([], []), ([], []), ([], []), ([], []), ([], []), ([], []), ([], []), ([], []), ([], []), ([], []), ([], []), ([], []), ([], []), ([], []), ([], [])] 0 Tryd.f78 = some I78 := by kernel_rfl

/-- 'encore/encoreref07.number'. -/
def I79 : IFunc :=
  ⟨(.seq (.region [⟨(some 4), (.mov (.c (.i .i64 (0)))), none, []⟩] [])
    (.seq (.seq (.region [⟨(some 5), (.mov (.t 0)), none, []⟩,
      ⟨(some 6), (.mov (.t 1)), none, []⟩,
      ⟨(some 7), (.bin .lss (.t 5) (.t 6)), none, []⟩] [])
    (.cond (.t 7)
      (.seq (.region [⟨(some 4), (.mov (.c (.i .i64 (-1)))), none, []⟩] [])
      .ret)
      .skip))
    (.seq (.seq (.region [⟨(some 8), (.mov (.t 0)), none, []⟩,
      ⟨(some 9), (.mov (.t 1)), none, []⟩,
      ⟨(some 10), (.bin .gtr (.t 8) (.t 9)), none, []⟩] [])
    (.cond (.t 10)
      (.seq (.region [⟨(some 4), (.mov (.c (.i .i64 (1)))), none, []⟩] [])
      .ret)
      .skip))
    (.seq (.region [⟨(some 4), (.mov (.c (.i .i64 (0)))), none, []⟩] [])
    .ret)))),
    11, 2, [.t 4], 0⟩
theorem tr79 : trFunc Tryd.prog [([], []), ([], []), ([], []), ([], []), ([], []), ([], []), ([], []), ([], [])] 0 Tryd.f79 = some I79 := by kernel_rfl

/-- 'encore/encoreref07.text'. -/
def I80 : IFunc :=
  ⟨(.seq (.region [⟨(some 4), (.mov (.c (.i .i64 (0)))), none, []⟩] [])
    (.seq (.seq (.region [⟨(some 5), (.mov (.t 0)), none, []⟩,
      ⟨(some 6), (.mov (.t 1)), none, []⟩,
      ⟨(some 7), (.bin .lss (.t 5) (.t 6)), none, []⟩] [])
    (.cond (.t 7)
      (.seq (.region [⟨(some 4), (.mov (.c (.i .i64 (-1)))), none, []⟩] [])
      .ret)
      .skip))
    (.seq (.seq (.region [⟨(some 8), (.mov (.t 0)), none, []⟩,
      ⟨(some 9), (.mov (.t 1)), none, []⟩,
      ⟨(some 10), (.bin .gtr (.t 8) (.t 9)), none, []⟩] [])
    (.cond (.t 10)
      (.seq (.region [⟨(some 4), (.mov (.c (.i .i64 (1)))), none, []⟩] [])
      .ret)
      .skip))
    (.seq (.region [⟨(some 4), (.mov (.c (.i .i64 (0)))), none, []⟩] [])
    .ret)))),
    11, 2, [.t 4], 0⟩
theorem tr80 : trFunc Tryd.prog [([], []), ([], []), ([], []), ([], []), ([], []), ([], []), ([], []), ([], [])] 0 Tryd.f80 = some I80 := by kernel_rfl

/-- 'encore/value.read'. -/
def L81a : ICode :=
  (.seq (.seq (.region [⟨(some 49), (.mov (.t 9)), none, []⟩,
      ⟨(some 50), (.mov (.t 0)), none, []⟩,
      ⟨(some 51), (.lenk 1 (.t 50)), none, []⟩,
      ⟨(some 52), (.bin .lss (.t 49) (.t 51)), none, []⟩,
      ⟨(some 53), (.mov (.t 52)), none, []⟩,
      ⟨(some 54), (.mov (.t 0)), (some (53, true)), []⟩,
      ⟨(some 55), (.mov (.t 9)), (some (53, true)), []⟩,
      ⟨(some 56), (.idxS (.t 54) (.t 55)), (some (53, true)), []⟩,
      ⟨(some 57), (.bin .geq (.t 56) (.c (.i .u8 (97)))), (some (53, true)), []⟩,
      ⟨(some 58), (.pick (.t 53) (.t 57) (.c (.b false))), none, []⟩,
      ⟨(some 59), (.mov (.t 58)), none, []⟩,
      ⟨(some 60), (.mov (.t 0)), (some (59, true)), []⟩,
      ⟨(some 61), (.mov (.t 9)), (some (59, true)), []⟩,
      ⟨(some 62), (.idxS (.t 60) (.t 61)), (some (59, true)), []⟩,
      ⟨(some 63), (.bin .leq (.t 62) (.c (.i .u8 (122)))), (some (59, true)), []⟩,
      ⟨(some 64), (.pick (.t 59) (.t 63) (.c (.b false))), none, []⟩] [])
    (.cond (.t 64)
      .skip
      (.exit 1)))
    (.block 2
      (.region [⟨(some 65), (.mov (.t 9)), none, []⟩,
        ⟨(some 66), (.bin .add (.t 65) (.c (.i .i64 (1)))), none, []⟩,
        ⟨(some 9), (.mov (.t 66)), none, []⟩] [])))
def I81 : IFunc :=
  ⟨(.seq (.region [⟨(some 2), (.alloc [(.i .i64 (0)), .ns, .ns]), none, []⟩,
      ⟨(some 3), (.mov (.c (.s []))), none, []⟩,
      ⟨(some 4), (.mov (.c (.b false))), none, []⟩] [])
    (.seq (.block 0
      (.seq (.region [⟨(some 12), (.mov (.t 0)), none, []⟩,
        ⟨(some 13), (.call 83 [(.t 12), (.c (.s [91]))]), none, []⟩,
        ⟨(some 11), (.mov (.t 13)), none, []⟩] [])
      (.cond (.t 11)
        (.seq (.region [⟨(some 15), (.mov (.t 0)), none, []⟩,
          ⟨(some 16), (.slS (.t 15) (some (.c (.i .i64 (1)))) none), none, []⟩,
          ⟨(some 17), (.call 81 [(.t 16)]), none, []⟩,
          ⟨(some 14), (.mov (.t 17)), none, []⟩,
          ⟨(some 18), (.ext (.t 14) 0), none, []⟩,
          ⟨(some 19), (.ext (.t 14) 1), none, []⟩,
          ⟨(some 20), (.ext (.t 14) 2), none, []⟩,
          ⟨(some 5), (.alloc [(.i .i64 (0)), .ns, .ns]), none, []⟩,
          ⟨none, (.store 3 (.t 5) (.t 18)), none, []⟩,
          ⟨(some 6), (.mov (.t 19)), none, []⟩,
          ⟨(some 7), (.mov (.t 20)), none, []⟩] [])
        (.seq (.region [⟨(some 22), (.mov (.t 6)), none, []⟩,
          ⟨(some 23), (.call 84 [(.t 22), (.c (.s [93]))]), none, []⟩,
          ⟨(some 21), (.mov (.t 23)), none, []⟩,
          ⟨(some 24), (.ext (.t 21) 0), none, []⟩,
          ⟨(some 25), (.ext (.t 21) 1), none, []⟩,
          ⟨(some 6), (.mov (.t 24)), none, []⟩,
          ⟨(some 8), (.mov (.t 25)), none, []⟩] [])
        (.seq (.region [⟨(some 26), (.load (some 3) (.t 5)), none, []⟩,
          ⟨(some 27), (.bsl 3 1 [(.i .i64 (0)), .ns, .ns] [(0, 3, (.t 26))]), none, []⟩,
          ⟨(some 28), (.build [(.i .i64 (0)), .ns, .ns] [(0, 1, (.c (.i .i64 (4)))), (2, 1, (.t 27))]), none, []⟩,
          ⟨(some 29), (.mov (.t 6)), none, []⟩,
          ⟨(some 30), (.mov (.t 7)), none, []⟩,
          ⟨(some 31), (.mov (.t 30)), none, []⟩,
          ⟨(some 32), (.mov (.t 8)), (some (31, true)), []⟩,
          ⟨(some 33), (.pick (.t 31) (.t 32) (.c (.b false))), none, []⟩,
          ⟨none, (.store 3 (.t 2) (.t 28)), none, []⟩,
          ⟨(some 3), (.mov (.t 29)), none, []⟩,
          ⟨(some 4), (.mov (.t 33)), none, []⟩] [])
        .ret)))
        (.seq (.region [⟨(some 35), (.mov (.t 0)), none, []⟩,
          ⟨(some 36), (.call 83 [(.t 35), (.c (.s [123, 125]))]), none, []⟩,
          ⟨(some 34), (.mov (.t 36)), none, []⟩] [])
        (.cond (.t 34)
          (.seq (.region [⟨(some 37), (.build [(.i .i64 (0)), .ns, .ns] [(0, 1, (.c (.i .i64 (5))))]), none, []⟩,
            ⟨(some 38), (.mov (.t 0)), none, []⟩,
            ⟨(some 39), (.slS (.t 38) (some (.c (.i .i64 (2)))) none), none, []⟩,
            ⟨none, (.store 3 (.t 2) (.t 37)), none, []⟩,
            ⟨(some 3), (.mov (.t 39)), none, []⟩,
            ⟨(some 4), (.mov (.c (.b true))), none, []⟩] [])
          .ret)
          (.seq (.region [⟨(some 41), (.mov (.t 0)), none, []⟩,
            ⟨(some 42), (.call 83 [(.t 41), (.c (.s [123]))]), none, []⟩,
            ⟨(some 40), (.mov (.t 42)), none, []⟩] [])
          (.cond (.t 40)
            (.seq (.region [⟨(some 43), (.mov (.t 0)), none, []⟩,
              ⟨(some 44), (.slS (.t 43) (some (.c (.i .i64 (1)))) none), none, []⟩,
              ⟨(some 45), (.call 85 [(.t 44)]), none, []⟩,
              ⟨(some 46), (.ext (.t 45) 0), none, []⟩,
              ⟨(some 47), (.ext (.t 45) 1), none, []⟩,
              ⟨(some 48), (.ext (.t 45) 2), none, []⟩,
              ⟨none, (.store 3 (.t 2) (.t 46)), none, []⟩,
              ⟨(some 3), (.mov (.t 47)), none, []⟩,
              ⟨(some 4), (.mov (.t 48)), none, []⟩] [])
            .ret)
            .skip)))))))
    (.seq (.region [⟨(some 9), (.mov (.c (.i .i64 (0)))), none, []⟩] [])
    (.seq (.block 1
      (.loop L81a))
    (.seq (.region [⟨(some 67), (.mov (.t 0)), none, []⟩,
      ⟨(some 68), (.mov (.t 9)), none, []⟩,
      ⟨(some 69), (.slS (.t 67) none (some (.t 68))), none, []⟩,
      ⟨(some 70), (.call 86 [(.t 69)]), none, []⟩,
      ⟨(some 10), (.mov (.t 70)), none, []⟩] [])
    (.seq (.region [⟨(some 71), (.mov (.t 10)), none, []⟩,
      ⟨(some 72), (.build [(.i .i64 (0)), .ns, .ns] [(0, 1, (.t 71))]), none, []⟩,
      ⟨(some 73), (.mov (.t 0)), none, []⟩,
      ⟨(some 74), (.mov (.t 9)), none, []⟩,
      ⟨(some 75), (.slS (.t 73) (some (.t 74)) none), none, []⟩,
      ⟨(some 76), (.mov (.t 10)), none, []⟩,
      ⟨(some 77), (.bin .geq (.t 76) (.c (.i .i64 (0)))), none, []⟩,
      ⟨none, (.store 3 (.t 2) (.t 72)), none, []⟩,
      ⟨(some 3), (.mov (.t 75)), none, []⟩,
      ⟨(some 4), (.mov (.t 77)), none, []⟩] [])
    .ret)))))),
    78, 1, [.c 2 (some 3), .t 3, .t 4], 0⟩
theorem tr81 : trFunc Tryd.prog [([], []), ([], []), ([], []), ([], []), ([], []), ([], []), ([0, 1, 2, 3, 4, 5], []), ([], []), ([], []), ([], []), ([], []), ([], []), ([], []), ([], []), ([], []), ([0, 1, 2, 3, 4, 5, 6, 7, 8, 9], [])] 0 Tryd.f81 = some I81 := by kernel_rfl

/-- 'encore/value.own'. -/
def I82 : IFunc :=
  ⟨(.seq (.region [⟨(some 1), (.box (.t 0)), none, []⟩,
      ⟨(some 2), (.mov (.c (.b false))), none, []⟩] [])
    (.seq (.seq (.region [⟨(some 3), (.off (.t 1) 0), none, []⟩,
      ⟨(some 4), (.load none (.t 3)), none, []⟩] [])
    (.block 0
      (.seq (.region [⟨(some 6), (.bin .eql (.t 4) (.c (.i .i64 (0)))), none, []⟩,
        ⟨(some 5), (.mov (.t 6)), none, []⟩] [])
      (.cond (.t 5)
        (.seq (.region [⟨(some 7), (.off (.t 1) 1), none, []⟩,
          ⟨(some 8), (.load none (.t 7)), none, []⟩,
          ⟨(some 9), (.bin .eql (.t 8) (.c (.i .i64 (0)))), none, []⟩,
          ⟨(some 10), (.mov (.t 9)), none, []⟩,
          ⟨(some 11), (.build [(.b false), (.b false), (.b false)] []), (some (10, true)), []⟩,
          ⟨(some 12), (.load (some 5) (.t 1)), (some (10, true)), []⟩,
          ⟨(some 13), (.call 87 [(.t 11), (.t 12)]), (some (10, true)), []⟩,
          ⟨(some 14), (.pick (.t 10) (.t 13) (.c (.b false))), none, []⟩,
          ⟨(some 2), (.mov (.t 14)), none, []⟩] [])
        .ret)
        (.seq (.region [⟨(some 16), (.bin .eql (.t 4) (.c (.i .i64 (1)))), none, []⟩,
          ⟨(some 15), (.mov (.t 16)), none, []⟩] [])
        (.cond (.t 15)
          (.seq (.region [⟨(some 17), (.build [(.b false), (.b false), (.b false)] []), none, []⟩,
            ⟨(some 18), (.load (some 5) (.t 1)), none, []⟩,
            ⟨(some 19), (.call 87 [(.t 17), (.t 18)]), none, []⟩,
            ⟨(some 2), (.mov (.t 19)), none, []⟩] [])
          .ret)
          (.seq (.region [⟨(some 21), (.bin .eql (.t 4) (.c (.i .i64 (2)))), none, []⟩,
            ⟨(some 20), (.mov (.t 21)), none, []⟩] [])
          (.cond (.t 20)
            (.seq (.region [⟨(some 22), (.off (.t 1) 1), none, []⟩,
              ⟨(some 23), (.load none (.t 22)), none, []⟩,
              ⟨(some 24), (.bin .andNot (.t 23) (.c (.i .i64 (1)))), none, []⟩,
              ⟨(some 25), (.bin .eql (.t 24) (.c (.i .i64 (0)))), none, []⟩,
              ⟨(some 26), (.mov (.t 25)), none, []⟩,
              ⟨(some 27), (.build [(.b false), (.b false), (.b false)] []), (some (26, true)), []⟩,
              ⟨(some 28), (.load (some 5) (.t 1)), (some (26, true)), []⟩,
              ⟨(some 29), (.call 87 [(.t 27), (.t 28)]), (some (26, true)), []⟩,
              ⟨(some 30), (.pick (.t 26) (.t 29) (.c (.b false))), none, []⟩,
              ⟨(some 2), (.mov (.t 30)), none, []⟩] [])
            .ret)
            (.seq (.region [⟨(some 32), (.bin .eql (.t 4) (.c (.i .i64 (6)))), none, []⟩,
              ⟨(some 31), (.mov (.t 32)), none, []⟩] [])
            (.cond (.t 31)
              (.seq (.region [⟨(some 33), (.off (.t 1) 1), none, []⟩,
                ⟨(some 34), (.load none (.t 33)), none, []⟩,
                ⟨(some 35), (.bin .geq (.t 34) (.c (.i .i64 (1)))), none, []⟩,
                ⟨(some 36), (.mov (.t 35)), none, []⟩,
                ⟨(some 37), (.off (.t 1) 1), (some (36, true)), []⟩,
                ⟨(some 38), (.load none (.t 37)), (some (36, true)), []⟩,
                ⟨(some 39), (.bin .leq (.t 38) (.c (.i .i64 (64)))), (some (36, true)), []⟩,
                ⟨(some 40), (.pick (.t 36) (.t 39) (.c (.b false))), none, []⟩,
                ⟨(some 41), (.mov (.t 40)), none, []⟩,
                ⟨(some 42), (.build [(.b false), (.b false), (.b false)] []), (some (41, true)), []⟩,
                ⟨(some 43), (.load (some 5) (.t 1)), (some (41, true)), []⟩,
                ⟨(some 44), (.call 87 [(.t 42), (.t 43)]), (some (41, true)), []⟩,
                ⟨(some 45), (.pick (.t 41) (.t 44) (.c (.b false))), none, []⟩,
                ⟨(some 2), (.mov (.t 45)), none, []⟩] [])
              .ret)
              (.seq (.region [⟨(some 47), (.bin .eql (.t 4) (.c (.i .i64 (3)))), none, []⟩,
                ⟨(some 46), (.mov (.t 47)), none, []⟩] [])
              (.cond (.t 46)
                (.seq (.region [⟨(some 48), (.off (.t 1) 1), none, []⟩,
                  ⟨(some 49), (.load none (.t 48)), none, []⟩,
                  ⟨(some 50), (.bin .eql (.t 49) (.c (.i .i64 (0)))), none, []⟩,
                  ⟨(some 51), (.mov (.t 50)), none, []⟩,
                  ⟨(some 52), (.off (.t 1) 2), (some (51, true)), []⟩,
                  ⟨(some 53), (.load none (.t 52)), (some (51, true)), []⟩,
                  ⟨(some 54), (.lenk 1 (.t 53)), (some (51, true)), []⟩,
                  ⟨(some 55), (.bin .leq (.t 54) (.c (.i .i64 (64)))), (some (51, true)), []⟩,
                  ⟨(some 56), (.pick (.t 51) (.t 55) (.c (.b false))), none, []⟩,
                  ⟨(some 57), (.mov (.t 56)), none, []⟩,
                  ⟨(some 58), (.build [(.b false), (.b false), (.b false)] [(0, 1, (.c (.b true)))]), (some (57, true)), []⟩,
                  ⟨(some 59), (.load (some 5) (.t 1)), (some (57, true)), []⟩,
                  ⟨(some 60), (.call 87 [(.t 58), (.t 59)]), (some (57, true)), []⟩,
                  ⟨(some 61), (.pick (.t 57) (.t 60) (.c (.b false))), none, []⟩,
                  ⟨(some 2), (.mov (.t 61)), none, []⟩] [])
                .ret)
                (.seq (.region [⟨(some 63), (.bin .eql (.t 4) (.c (.i .i64 (4)))), none, []⟩,
                  ⟨(some 62), (.mov (.t 63)), none, []⟩] [])
                (.cond (.t 62)
                  (.seq (.region [⟨(some 64), (.off (.t 1) 1), none, []⟩,
                    ⟨(some 65), (.load none (.t 64)), none, []⟩,
                    ⟨(some 66), (.bin .eql (.t 65) (.c (.i .i64 (0)))), none, []⟩,
                    ⟨(some 67), (.mov (.t 66)), none, []⟩,
                    ⟨(some 68), (.off (.t 1) 3), (some (67, true)), []⟩,
                    ⟨(some 69), (.load none (.t 68)), (some (67, true)), []⟩,
                    ⟨(some 70), (.lenk 0 (.t 69)), (some (67, true)), []⟩,
                    ⟨(some 71), (.bin .leq (.t 70) (.c (.i .i64 (32)))), (some (67, true)), []⟩,
                    ⟨(some 72), (.pick (.t 67) (.t 71) (.c (.b false))), none, []⟩,
                    ⟨(some 73), (.mov (.t 72)), none, []⟩,
                    ⟨(some 74), (.build [(.b false), (.b false), (.b false)] [(1, 1, (.c (.b true)))]), (some (73, true)), []⟩,
                    ⟨(some 75), (.load (some 5) (.t 1)), (some (73, true)), []⟩,
                    ⟨(some 76), (.call 87 [(.t 74), (.t 75)]), (some (73, true)), []⟩,
                    ⟨(some 77), (.pick (.t 73) (.t 76) (.c (.b false))), none, []⟩,
                    ⟨(some 2), (.mov (.t 77)), none, []⟩] [])
                  .ret)
                  (.seq (.region [⟨(some 79), (.bin .eql (.t 4) (.c (.i .i64 (5)))), none, []⟩,
                    ⟨(some 78), (.mov (.t 79)), none, []⟩] [])
                  (.cond (.t 78)
                    (.seq (.region [⟨(some 80), (.off (.t 1) 1), none, []⟩,
                      ⟨(some 81), (.load none (.t 80)), none, []⟩,
                      ⟨(some 82), (.bin .eql (.t 81) (.c (.i .i64 (0)))), none, []⟩,
                      ⟨(some 83), (.mov (.t 82)), none, []⟩,
                      ⟨(some 84), (.off (.t 1) 3), (some (83, true)), []⟩,
                      ⟨(some 85), (.load none (.t 84)), (some (83, true)), []⟩,
                      ⟨(some 86), (.lenk 0 (.t 85)), (some (83, true)), []⟩,
                      ⟨(some 87), (.off (.t 1) 4), (some (83, true)), []⟩,
                      ⟨(some 88), (.load none (.t 87)), (some (83, true)), []⟩,
                      ⟨(some 89), (.lenk 0 (.t 88)), (some (83, true)), []⟩,
                      ⟨(some 90), (.bin .eql (.t 86) (.t 89)), (some (83, true)), []⟩,
                      ⟨(some 91), (.pick (.t 83) (.t 90) (.c (.b false))), none, []⟩,
                      ⟨(some 92), (.mov (.t 91)), none, []⟩,
                      ⟨(some 93), (.off (.t 1) 3), (some (92, true)), []⟩,
                      ⟨(some 94), (.load none (.t 93)), (some (92, true)), []⟩,
                      ⟨(some 95), (.lenk 0 (.t 94)), (some (92, true)), []⟩,
                      ⟨(some 96), (.bin .leq (.t 95) (.c (.i .i64 (8)))), (some (92, true)), []⟩,
                      ⟨(some 97), (.pick (.t 92) (.t 96) (.c (.b false))), none, []⟩,
                      ⟨(some 98), (.mov (.t 97)), none, []⟩,
                      ⟨(some 99), (.build [(.b false), (.b false), (.b false)] [(1, 1, (.c (.b true))), (2, 1, (.c (.b true)))]), (some (98, true)), []⟩,
                      ⟨(some 100), (.load (some 5) (.t 1)), (some (98, true)), []⟩,
                      ⟨(some 101), (.call 87 [(.t 99), (.t 100)]), (some (98, true)), []⟩,
                      ⟨(some 102), (.pick (.t 98) (.t 101) (.c (.b false))), none, []⟩,
                      ⟨(some 103), (.mov (.t 102)), none, []⟩,
                      ⟨(some 104), (.off (.t 1) 4), (some (103, true)), []⟩,
                      ⟨(some 105), (.load none (.t 104)), (some (103, true)), []⟩,
                      ⟨(some 106), (.call 88 [(.t 105)]), (some (103, true)), []⟩,
                      ⟨(some 107), (.pick (.t 103) (.t 106) (.c (.b false))), none, []⟩,
                      ⟨(some 2), (.mov (.t 107)), none, []⟩] [])
                    .ret)
                    .skip))))))))))))))))
    (.seq (.region [⟨(some 2), (.mov (.c (.b false))), none, []⟩] [])
    .ret))),
    108, 1, [.t 2], 0⟩
theorem tr82 : trFunc Tryd.prog [([], []), ([], []), ([], []), ([], []), ([], []), ([], []), ([], []), ([], []), ([], []), ([], []), ([], []), ([], []), ([], []), ([], []), ([], []), ([], []), ([], []), ([], [])] 0 Tryd.f82 = some I82 := by kernel_rfl

/-- 'strings.HasPrefix'. -/
def I83 : IFunc :=
  ⟨(.seq (.region [⟨(some 4), (.mov (.c (.b false))), none, []⟩] [])
    (.seq (.region [⟨(some 5), (.mov (.t 0)), none, []⟩,
      ⟨(some 6), (.mov (.t 1)), none, []⟩,
      ⟨(some 7), (.call 89 [(.t 5), (.t 6)]), none, []⟩,
      ⟨(some 4), (.mov (.t 7)), none, []⟩] [])
    .ret)),
    8, 2, [.t 4], 0⟩
theorem tr83 : trFunc Tryd.prog [([], []), ([], [])] 0 Tryd.f83 = some I83 := by kernel_rfl

/-- 'strings.CutPrefix'. -/
def I84 : IFunc :=
  ⟨(.seq (.region [⟨(some 4), (.mov (.c (.s []))), none, []⟩,
      ⟨(some 5), (.mov (.c (.b false))), none, []⟩] [])
    (.seq (.region [⟨(some 6), (.mov (.t 0)), none, []⟩,
      ⟨(some 7), (.mov (.t 1)), none, []⟩,
      ⟨(some 8), (.call 90 [(.t 6), (.t 7)]), none, []⟩,
      ⟨(some 9), (.ext (.t 8) 0), none, []⟩,
      ⟨(some 10), (.ext (.t 8) 1), none, []⟩,
      ⟨(some 4), (.mov (.t 9)), none, []⟩,
      ⟨(some 5), (.mov (.t 10)), none, []⟩] [])
    .ret)),
    11, 2, [.t 4, .t 5], 0⟩
theorem tr84 : trFunc Tryd.prog [([], []), ([], [])] 0 Tryd.f84 = some I84 := by kernel_rfl

/-- 'encore/value.readRec'. -/
def L85a : ICode :=
  (.block 1
      (.seq (.region [⟨(some 13), (.mov (.t 0)), none, []⟩,
        ⟨(some 14), (.call 91 [(.t 13), (.c (.s [58]))]), none, []⟩,
        ⟨(some 12), (.mov (.t 14)), none, []⟩,
        ⟨(some 15), (.ext (.t 12) 0), none, []⟩,
        ⟨(some 16), (.ext (.t 12) 1), none, []⟩,
        ⟨(some 17), (.ext (.t 12) 2), none, []⟩,
        ⟨(some 5), (.mov (.t 15)), none, []⟩,
        ⟨(some 6), (.mov (.t 16)), none, []⟩,
        ⟨(some 7), (.mov (.t 17)), none, []⟩] [])
      (.seq (.region [⟨(some 19), (.mov (.t 6)), none, []⟩,
        ⟨(some 20), (.call 81 [(.t 19)]), none, []⟩,
        ⟨(some 18), (.mov (.t 20)), none, []⟩,
        ⟨(some 21), (.ext (.t 18) 0), none, []⟩,
        ⟨(some 22), (.ext (.t 18) 1), none, []⟩,
        ⟨(some 23), (.ext (.t 18) 2), none, []⟩,
        ⟨(some 8), (.alloc [(.i .i64 (0)), .ns, .ns]), none, []⟩,
        ⟨none, (.store 3 (.t 8) (.t 21)), none, []⟩,
        ⟨(some 9), (.mov (.t 22)), none, []⟩,
        ⟨(some 10), (.mov (.t 23)), none, []⟩] [])
      (.seq (.seq (.region [⟨(some 24), (.mov (.t 7)), none, []⟩,
        ⟨(some 25), (.un .not (.t 24)), none, []⟩,
        ⟨(some 26), (.mov (.t 25)), none, []⟩,
        ⟨(some 27), (.mov (.t 10)), (some (26, false)), []⟩,
        ⟨(some 28), (.un .not (.t 27)), (some (26, false)), []⟩,
        ⟨(some 29), (.pick (.t 26) (.c (.b true)) (.t 28)), none, []⟩,
        ⟨(some 30), (.mov (.t 29)), none, []⟩,
        ⟨(some 31), (.mov (.t 9)), (some (30, false)), []⟩,
        ⟨(some 32), (.bin .eql (.t 31) (.c (.s []))), (some (30, false)), []⟩,
        ⟨(some 33), (.pick (.t 30) (.c (.b true)) (.t 32)), none, []⟩] [])
      (.cond (.t 33)
        (.seq (.region [⟨(some 34), (.build [(.i .i64 (0)), .ns, .ns] []), none, []⟩,
          ⟨none, (.store 3 (.t 2) (.t 34)), none, []⟩,
          ⟨(some 3), (.mov (.c (.s []))), none, []⟩,
          ⟨(some 4), (.mov (.c (.b false))), none, []⟩] [])
        .ret)
        .skip))
      (.seq (.region [⟨(some 35), (.off (.t 2) 1), none, []⟩,
        ⟨(some 36), (.load none (.t 35)), none, []⟩,
        ⟨(some 37), (.mov (.t 5)), none, []⟩,
        ⟨(some 38), (.bsl 1 1 [(.s [])] [(0, 1, (.t 37))]), none, []⟩,
        ⟨(some 40), (.off (.t 2) 2), none, []⟩,
        ⟨(some 41), (.load none (.t 40)), none, []⟩,
        ⟨(some 42), (.load (some 3) (.t 8)), none, []⟩,
        ⟨(some 43), (.bsl 3 1 [(.i .i64 (0)), .ns, .ns] [(0, 3, (.t 42))]), none, []⟩,
        ⟨(some 39), (.app 1 16 (.t 36) (.t 38)), none, [(41, (.load none (.t 40)), none), (42, (.load (some 3) (.t 8)), none)]⟩,
        ⟨(some 45), (.off (.t 2) 1), none, []⟩,
        ⟨(some 44), (.app 3 56 (.t 41) (.t 43)), none, []⟩,
        ⟨none, (.store 1 (.t 45) (.t 39)), none, []⟩,
        ⟨(some 46), (.off (.t 2) 2), none, []⟩,
        ⟨none, (.store 1 (.t 46) (.t 44)), none, []⟩] [])
      (.seq (.region [⟨(some 47), (.mov (.t 9)), none, []⟩,
        ⟨(some 48), (.slS (.t 47) (some (.c (.i .i64 (1)))) none), none, []⟩,
        ⟨(some 0), (.mov (.t 48)), none, []⟩] [])
      (.seq (.seq (.region [⟨(some 49), (.mov (.t 9)), none, []⟩,
        ⟨(some 50), (.idxS (.t 49) (.c (.i .i64 (0)))), none, []⟩] [])
      (.block 2
        (.seq (.region [⟨(some 52), (.bin .eql (.t 50) (.c (.i .u8 (125)))), none, []⟩,
          ⟨(some 51), (.mov (.t 52)), none, []⟩] [])
        (.cond (.t 51)
          (.seq (.region [⟨(some 53), (.load (some 3) (.t 2)), none, []⟩,
            ⟨(some 54), (.mov (.t 0)), none, []⟩,
            ⟨(some 55), (.off (.t 2) 1), none, []⟩,
            ⟨(some 56), (.load none (.t 55)), none, []⟩,
            ⟨(some 57), (.call 88 [(.t 56)]), none, [(53, (.load (some 3) (.t 2)), none)]⟩,
            ⟨none, (.store 3 (.t 2) (.t 53)), none, []⟩,
            ⟨(some 3), (.mov (.t 54)), none, []⟩,
            ⟨(some 4), (.mov (.t 57)), none, []⟩] [])
          .ret)
          (.seq (.region [⟨(some 59), (.bin .eql (.t 50) (.c (.i .u8 (44)))), none, []⟩,
            ⟨(some 58), (.mov (.t 59)), none, []⟩] [])
          (.cond (.t 58)
            (.exit 1)
            .skip))))))
      (.seq (.region [⟨(some 60), (.build [(.i .i64 (0)), .ns, .ns] []), none, []⟩,
        ⟨none, (.store 3 (.t 2) (.t 60)), none, []⟩,
        ⟨(some 3), (.mov (.c (.s []))), none, []⟩,
        ⟨(some 4), (.mov (.c (.b false))), none, []⟩] [])
      .ret))))))))
def I85 : IFunc :=
  ⟨(.seq (.region [⟨(some 2), (.alloc [(.i .i64 (0)), .ns, .ns]), none, []⟩,
      ⟨(some 3), (.mov (.c (.s []))), none, []⟩,
      ⟨(some 4), (.mov (.c (.b false))), none, []⟩] [])
    (.seq (.region [⟨(some 11), (.off (.t 2) 0), none, []⟩,
      ⟨none, (.store 1 (.t 11) (.c (.i .i64 (5)))), none, []⟩] [])
    (.block 0
      (.loop L85a)))),
    61, 1, [.c 2 (some 3), .t 3, .t 4], 0⟩
theorem tr85 : trFunc Tryd.prog [([], []), ([], []), ([], []), ([], []), ([], []), ([], []), ([], []), ([0, 1, 2, 3, 5, 6, 7, 8, 4, 10, 9, 11, 12, 13], []), ([], []), ([], []), ([], []), ([0, 1, 2, 3, 4, 5, 6, 7], []), ([], []), ([], []), ([], [])] 0 Tryd.f85 = some I85 := by kernel_rfl

/-- 'encore/value.kindOf'. -/
def I86 : IFunc :=
  ⟨(.seq (.region [⟨(some 2), (.mov (.c (.i .i64 (0)))), none, []⟩] [])
    (.seq (.seq (.region [⟨(some 3), (.mov (.t 0)), none, []⟩] [])
    (.block 0
      (.seq (.region [⟨(some 5), (.bin .eql (.t 3) (.c (.s [110, 111, 110, 101]))), none, []⟩,
        ⟨(some 4), (.mov (.t 5)), none, []⟩] [])
      (.cond (.t 4)
        (.seq (.region [⟨(some 2), (.mov (.c (.i .i64 (0)))), none, []⟩] [])
        .ret)
        (.seq (.region [⟨(some 7), (.bin .eql (.t 3) (.c (.s [105, 110, 116]))), none, []⟩,
          ⟨(some 6), (.mov (.t 7)), none, []⟩] [])
        (.cond (.t 6)
          (.seq (.region [⟨(some 2), (.mov (.c (.i .i64 (1)))), none, []⟩] [])
          .ret)
          (.seq (.region [⟨(some 9), (.bin .eql (.t 3) (.c (.s [98, 111, 111, 108]))), none, []⟩,
            ⟨(some 8), (.mov (.t 9)), none, []⟩] [])
          (.cond (.t 8)
            (.seq (.region [⟨(some 2), (.mov (.c (.i .i64 (2)))), none, []⟩] [])
            .ret)
            (.seq (.region [⟨(some 11), (.bin .eql (.t 3) (.c (.s [116, 101, 120, 116]))), none, []⟩,
              ⟨(some 10), (.mov (.t 11)), none, []⟩] [])
            (.cond (.t 10)
              (.seq (.region [⟨(some 2), (.mov (.c (.i .i64 (3)))), none, []⟩] [])
              .ret)
              (.seq (.region [⟨(some 13), (.bin .eql (.t 3) (.c (.s [102, 117, 116, 117, 114, 101]))), none, []⟩,
                ⟨(some 12), (.mov (.t 13)), none, []⟩] [])
              (.cond (.t 12)
                (.seq (.region [⟨(some 2), (.mov (.c (.i .i64 (6)))), none, []⟩] [])
                .ret)
                .skip))))))))))))
    (.seq (.region [⟨(some 2), (.mov (.c (.i .i64 (-1)))), none, []⟩] [])
    .ret))),
    14, 1, [.t 2], 0⟩
theorem tr86 : trFunc Tryd.prog [([], []), ([], []), ([], []), ([], []), ([], []), ([], []), ([], []), ([], []), ([], []), ([], []), ([], []), ([], []), ([], []), ([], [])] 0 Tryd.f86 = some I86 := by kernel_rfl

/-- '(encore/value.plain).bare'. -/
def I87 : IFunc :=
  ⟨(.seq (.region [⟨(some 2), (.box (.t 0)), none, []⟩,
      ⟨(some 3), (.box (.t 1)), none, []⟩,
      ⟨(some 4), (.mov (.c (.b false))), none, []⟩] [])
    (.seq (.region [⟨(some 5), (.off (.t 2) 0), none, []⟩,
      ⟨(some 6), (.load none (.t 5)), none, []⟩,
      ⟨(some 7), (.mov (.t 6)), none, []⟩,
      ⟨(some 8), (.off (.t 3) 2), (some (7, false)), []⟩,
      ⟨(some 9), (.load none (.t 8)), (some (7, false)), []⟩,
      ⟨(some 10), (.bin .eql (.t 9) (.c (.s []))), (some (7, false)), []⟩,
      ⟨(some 11), (.pick (.t 7) (.c (.b true)) (.t 10)), none, []⟩,
      ⟨(some 12), (.mov (.t 11)), none, []⟩,
      ⟨(some 13), (.off (.t 2) 1), (some (12, true)), []⟩,
      ⟨(some 14), (.load none (.t 13)), (some (12, true)), []⟩,
      ⟨(some 15), (.mov (.t 14)), (some (12, true)), []⟩,
      ⟨(some 16), (.off (.t 3) 3), (some (15, false)), []⟩,
      ⟨(some 17), (.load none (.t 16)), (some (15, false)), []⟩,
      ⟨(some 18), (.lenk 0 (.t 17)), (some (15, false)), []⟩,
      ⟨(some 19), (.bin .eql (.t 18) (.c (.i .i64 (0)))), (some (15, false)), []⟩,
      ⟨(some 20), (.pick (.t 15) (.c (.b true)) (.t 19)), (some (12, true)), []⟩,
      ⟨(some 21), (.pick (.t 12) (.t 20) (.c (.b false))), none, []⟩,
      ⟨(some 22), (.mov (.t 21)), none, []⟩,
      ⟨(some 23), (.off (.t 2) 2), (some (22, true)), []⟩,
      ⟨(some 24), (.load none (.t 23)), (some (22, true)), []⟩,
      ⟨(some 25), (.mov (.t 24)), (some (22, true)), []⟩,
      ⟨(some 26), (.off (.t 3) 4), (some (25, false)), []⟩,
      ⟨(some 27), (.load none (.t 26)), (some (25, false)), []⟩,
      ⟨(some 28), (.lenk 0 (.t 27)), (some (25, false)), []⟩,
      ⟨(some 29), (.bin .eql (.t 28) (.c (.i .i64 (0)))), (some (25, false)), []⟩,
      ⟨(some 30), (.pick (.t 25) (.c (.b true)) (.t 29)), (some (22, true)), []⟩,
      ⟨(some 31), (.pick (.t 22) (.t 30) (.c (.b false))), none, []⟩,
      ⟨(some 4), (.mov (.t 31)), none, []⟩] [])
    .ret)),
    32, 2, [.t 4], 0⟩
theorem tr87 : trFunc Tryd.prog [([], []), ([], [])] 0 Tryd.f87 = some I87 := by kernel_rfl

/-- 'encore/value.rising'. -/
def L88a : ICode :=
  (.seq (.region [⟨(some 9), (.bin .lss (.t 8) (.t 7)), none, []⟩] [])
    (.seq (.cond (.t 9)
      .skip
      (.exit 0))
    (.seq (.block 1
      (.seq (.region [⟨(some 10), (.iaddr 1 (.t 6) (.t 8)), none, []⟩,
        ⟨(some 11), (.load none (.t 10)), none, []⟩,
        ⟨(some 5), (.mov (.t 11)), none, []⟩] [])
      (.seq (.seq (.region [⟨(some 12), (.mov (.t 5)), none, []⟩,
        ⟨(some 13), (.mov (.t 3)), none, []⟩,
        ⟨(some 14), (.bin .leq (.t 12) (.t 13)), none, []⟩,
        ⟨(some 15), (.mov (.t 14)), none, []⟩,
        ⟨(some 16), (.mov (.t 5)), (some (15, false)), []⟩,
        ⟨(some 17), (.call 92 [(.t 16)]), (some (15, false)), []⟩,
        ⟨(some 18), (.un .not (.t 17)), (some (15, false)), []⟩,
        ⟨(some 19), (.pick (.t 15) (.c (.b true)) (.t 18)), none, []⟩] [])
      (.cond (.t 19)
        (.seq (.region [⟨(some 2), (.mov (.c (.b false))), none, []⟩] [])
        .ret)
        .skip))
      (.region [⟨(some 20), (.mov (.t 5)), none, []⟩,
        ⟨(some 3), (.mov (.t 20)), none, []⟩] []))))
    (.region [⟨(some 21), (.bin .add (.t 8) (.c (.i .i64 (1)))), none, []⟩,
      ⟨(some 8), (.mov (.t 21)), none, []⟩] []))))
def I88 : IFunc :=
  ⟨(.seq (.region [⟨(some 2), (.mov (.c (.b false))), none, []⟩] [])
    (.seq (.region [⟨(some 3), (.mov (.c (.s []))), none, []⟩] [])
    (.seq (.seq (.region [⟨(some 6), (.mov (.t 0)), none, []⟩,
      ⟨(some 7), (.lenk 0 (.t 6)), none, []⟩,
      ⟨(some 8), (.mov (.c (.i .i64 (0)))), none, []⟩] [])
    (.block 0
      (.loop L88a)))
    (.seq (.region [⟨(some 2), (.mov (.c (.b true))), none, []⟩] [])
    .ret)))),
    22, 1, [.t 2], 0⟩
theorem tr88 : trFunc Tryd.prog [([], []), ([], []), ([], []), ([], []), ([], []), ([], []), ([], []), ([], []), ([], []), ([], []), ([], []), ([], [])] 0 Tryd.f88 = some I88 := by kernel_rfl

/-- 'internal/stringslite.HasPrefix'. -/
def I89 : IFunc :=
  ⟨(.seq (.region [⟨(some 4), (.mov (.c (.b false))), none, []⟩] [])
    (.seq (.region [⟨(some 5), (.mov (.t 0)), none, []⟩,
      ⟨(some 6), (.lenk 1 (.t 5)), none, []⟩,
      ⟨(some 7), (.mov (.t 1)), none, []⟩,
      ⟨(some 8), (.lenk 1 (.t 7)), none, []⟩,
      ⟨(some 9), (.bin .geq (.t 6) (.t 8)), none, []⟩,
      ⟨(some 10), (.mov (.t 9)), none, []⟩,
      ⟨(some 11), (.mov (.t 0)), (some (10, true)), []⟩,
      ⟨(some 12), (.mov (.t 1)), (some (10, true)), []⟩,
      ⟨(some 13), (.lenk 1 (.t 12)), (some (10, true)), []⟩,
      ⟨(some 14), (.slS (.t 11) none (some (.t 13))), (some (10, true)), []⟩,
      ⟨(some 15), (.mov (.t 1)), (some (10, true)), []⟩,
      ⟨(some 16), (.bin .eql (.t 14) (.t 15)), (some (10, true)), []⟩,
      ⟨(some 17), (.pick (.t 10) (.t 16) (.c (.b false))), none, []⟩,
      ⟨(some 4), (.mov (.t 17)), none, []⟩] [])
    .ret)),
    18, 2, [.t 4], 0⟩
theorem tr89 : trFunc Tryd.prog [([], []), ([], [])] 0 Tryd.f89 = some I89 := by kernel_rfl

/-- 'internal/stringslite.CutPrefix'. -/
def I90 : IFunc :=
  ⟨(.seq (.region [⟨(some 4), (.mov (.c (.s []))), none, []⟩,
      ⟨(some 5), (.mov (.c (.b false))), none, []⟩] [])
    (.seq (.seq (.region [⟨(some 6), (.mov (.t 0)), none, []⟩,
      ⟨(some 7), (.mov (.t 1)), none, []⟩,
      ⟨(some 8), (.call 89 [(.t 6), (.t 7)]), none, []⟩,
      ⟨(some 9), (.un .not (.t 8)), none, []⟩] [])
    (.cond (.t 9)
      (.seq (.region [⟨(some 10), (.mov (.t 0)), none, []⟩,
        ⟨(some 4), (.mov (.t 10)), none, []⟩,
        ⟨(some 5), (.mov (.c (.b false))), none, []⟩] [])
      .ret)
      .skip))
    (.seq (.region [⟨(some 11), (.mov (.t 0)), none, []⟩,
      ⟨(some 12), (.mov (.t 1)), none, []⟩,
      ⟨(some 13), (.lenk 1 (.t 12)), none, []⟩,
      ⟨(some 14), (.slS (.t 11) (some (.t 13)) none), none, []⟩,
      ⟨(some 4), (.mov (.t 14)), none, []⟩,
      ⟨(some 5), (.mov (.c (.b true))), none, []⟩] [])
    .ret))),
    15, 2, [.t 4, .t 5], 0⟩
theorem tr90 : trFunc Tryd.prog [([], []), ([], []), ([], []), ([], []), ([], [])] 0 Tryd.f90 = some I90 := by kernel_rfl

/-- 'strings.Cut'. -/
def I91 : IFunc :=
  ⟨(.seq (.region [⟨(some 4), (.mov (.c (.s []))), none, []⟩,
      ⟨(some 5), (.mov (.c (.s []))), none, []⟩,
      ⟨(some 6), (.mov (.c (.b false))), none, []⟩] [])
    (.seq (.region [⟨(some 7), (.mov (.t 0)), none, []⟩,
      ⟨(some 8), (.mov (.t 1)), none, []⟩,
      ⟨(some 9), (.call 93 [(.t 7), (.t 8)]), none, []⟩,
      ⟨(some 10), (.ext (.t 9) 0), none, []⟩,
      ⟨(some 11), (.ext (.t 9) 1), none, []⟩,
      ⟨(some 12), (.ext (.t 9) 2), none, []⟩,
      ⟨(some 4), (.mov (.t 10)), none, []⟩,
      ⟨(some 5), (.mov (.t 11)), none, []⟩,
      ⟨(some 6), (.mov (.t 12)), none, []⟩] [])
    .ret)),
    13, 2, [.t 4, .t 5, .t 6], 0⟩
theorem tr91 : trFunc Tryd.prog [([], []), ([], [])] 0 Tryd.f91 = some I91 := by kernel_rfl

/-- 'encore/value.named'. -/
def L92a : ICode :=
  (.seq (.region [⟨(some 17), (.bin .lss (.t 16) (.t 15)), none, []⟩] [])
    (.seq (.cond (.t 17)
      .skip
      (.exit 0))
    (.seq (.block 1
      (.seq (.region [⟨(some 18), (.mov (.t 16)), none, []⟩,
        ⟨(some 19), (.iaddr 1 (.t 14) (.t 16)), none, []⟩,
        ⟨(some 20), (.load none (.t 19)), none, []⟩,
        ⟨(some 3), (.mov (.t 18)), none, []⟩,
        ⟨(some 4), (.mov (.t 20)), none, []⟩] [])
      (.seq (.region [⟨(some 21), (.mov (.t 4)), none, []⟩,
        ⟨(some 22), (.bin .geq (.t 21) (.c (.i .u8 (97)))), none, []⟩,
        ⟨(some 23), (.mov (.t 22)), none, []⟩,
        ⟨(some 24), (.mov (.t 4)), (some (23, true)), []⟩,
        ⟨(some 25), (.bin .leq (.t 24) (.c (.i .u8 (122)))), (some (23, true)), []⟩,
        ⟨(some 26), (.pick (.t 23) (.t 25) (.c (.b false))), none, []⟩,
        ⟨(some 5), (.mov (.t 26)), none, []⟩] [])
      (.seq (.region [⟨(some 27), (.mov (.t 5)), none, []⟩,
        ⟨(some 28), (.un .not (.t 27)), none, []⟩,
        ⟨(some 29), (.mov (.t 28)), none, []⟩,
        ⟨(some 30), (.mov (.t 3)), (some (29, true)), []⟩,
        ⟨(some 31), (.bin .eql (.t 30) (.c (.i .i64 (0)))), (some (29, true)), []⟩,
        ⟨(some 32), (.mov (.t 31)), (some (29, true)), []⟩,
        ⟨(some 33), (.mov (.t 4)), (some (32, false)), []⟩,
        ⟨(some 34), (.bin .neq (.t 33) (.c (.i .u8 (95)))), (some (32, false)), []⟩,
        ⟨(some 35), (.mov (.t 34)), (some (32, false)), []⟩,
        ⟨(some 36), (.mov (.t 4)), (some (35, true)), []⟩,
        ⟨(some 37), (.bin .lss (.t 36) (.c (.i .u8 (48)))), (some (35, true)), []⟩,
        ⟨(some 38), (.mov (.t 37)), (some (35, true)), []⟩,
        ⟨(some 39), (.mov (.t 4)), (some (38, false)), []⟩,
        ⟨(some 40), (.bin .gtr (.t 39) (.c (.i .u8 (57)))), (some (38, false)), []⟩,
        ⟨(some 41), (.pick (.t 38) (.c (.b true)) (.t 40)), (some (35, true)), []⟩,
        ⟨(some 42), (.pick (.t 35) (.t 41) (.c (.b false))), (some (32, false)), []⟩,
        ⟨(some 43), (.pick (.t 32) (.c (.b true)) (.t 42)), (some (29, true)), []⟩,
        ⟨(some 44), (.pick (.t 29) (.t 43) (.c (.b false))), none, []⟩] [])
      (.cond (.t 44)
        (.seq (.region [⟨(some 2), (.mov (.c (.b false))), none, []⟩] [])
        .ret)
        .skip)))))
    (.region [⟨(some 45), (.bin .add (.t 16) (.c (.i .i64 (1)))), none, []⟩,
      ⟨(some 16), (.mov (.t 45)), none, []⟩] []))))
def I92 : IFunc :=
  ⟨(.seq (.region [⟨(some 2), (.mov (.c (.b false))), none, []⟩] [])
    (.seq (.seq (.region [⟨(some 6), (.mov (.t 0)), none, []⟩,
      ⟨(some 7), (.bin .eql (.t 6) (.c (.s []))), none, []⟩,
      ⟨(some 8), (.mov (.t 7)), none, []⟩,
      ⟨(some 9), (.mov (.t 0)), (some (8, false)), []⟩,
      ⟨(some 10), (.lenk 1 (.t 9)), (some (8, false)), []⟩,
      ⟨(some 11), (.bin .gtr (.t 10) (.c (.i .i64 (16)))), (some (8, false)), []⟩,
      ⟨(some 12), (.pick (.t 8) (.c (.b true)) (.t 11)), none, []⟩] [])
    (.cond (.t 12)
      (.seq (.region [⟨(some 2), (.mov (.c (.b false))), none, []⟩] [])
      .ret)
      .skip))
    (.seq (.seq (.region [⟨(some 13), (.mov (.t 0)), none, []⟩,
      ⟨(some 14), (.s2b (.t 13)), none, []⟩,
      ⟨(some 15), (.lenk 0 (.t 14)), none, []⟩,
      ⟨(some 16), (.mov (.c (.i .i64 (0)))), none, []⟩] [])
    (.block 0
      (.loop L92a)))
    (.seq (.region [⟨(some 2), (.mov (.c (.b true))), none, []⟩] [])
    .ret)))),
    46, 1, [.t 2], 0⟩
theorem tr92 : trFunc Tryd.prog [([], []), ([], []), ([], []), ([], []), ([], []), ([], []), ([], []), ([], []), ([], []), ([], []), ([], []), ([], []), ([], []), ([], [])] 0 Tryd.f92 = some I92 := by kernel_rfl

/-- 'internal/stringslite.Cut'. -/
def I93 : IFunc :=
  ⟨(.seq (.region [⟨(some 4), (.mov (.c (.s []))), none, []⟩,
      ⟨(some 5), (.mov (.c (.s []))), none, []⟩,
      ⟨(some 6), (.mov (.c (.b false))), none, []⟩] [])
    (.seq (.seq (.region [⟨(some 8), (.mov (.t 0)), none, []⟩,
      ⟨(some 9), (.mov (.t 1)), none, []⟩,
      ⟨(some 10), (.call 94 [(.t 8), (.t 9)]), none, []⟩,
      ⟨(some 7), (.mov (.t 10)), none, []⟩] [])
    (.seq (.region [⟨(some 11), (.mov (.t 7)), none, []⟩,
      ⟨(some 12), (.bin .geq (.t 11) (.c (.i .i64 (0)))), none, []⟩] [])
    (.cond (.t 12)
      (.seq (.region [⟨(some 13), (.mov (.t 0)), none, []⟩,
        ⟨(some 14), (.mov (.t 7)), none, []⟩,
        ⟨(some 15), (.slS (.t 13) none (some (.t 14))), none, []⟩,
        ⟨(some 16), (.mov (.t 0)), none, []⟩,
        ⟨(some 17), (.mov (.t 7)), none, []⟩,
        ⟨(some 18), (.mov (.t 1)), none, []⟩,
        ⟨(some 19), (.lenk 1 (.t 18)), none, []⟩,
        ⟨(some 20), (.bin .add (.t 17) (.t 19)), none, []⟩,
        ⟨(some 21), (.slS (.t 16) (some (.t 20)) none), none, []⟩,
        ⟨(some 4), (.mov (.t 15)), none, []⟩,
        ⟨(some 5), (.mov (.t 21)), none, []⟩,
        ⟨(some 6), (.mov (.c (.b true))), none, []⟩] [])
      .ret)
      .skip)))
    (.seq (.region [⟨(some 22), (.mov (.t 0)), none, []⟩,
      ⟨(some 4), (.mov (.t 22)), none, []⟩,
      ⟨(some 5), (.mov (.c (.s []))), none, []⟩,
      ⟨(some 6), (.mov (.c (.b false))), none, []⟩] [])
    .ret))),
    23, 2, [.t 4, .t 5, .t 6], 0⟩
theorem tr93 : trFunc Tryd.prog [([], []), ([], []), ([], []), ([0, 1, 2, 3, 4, 5, 6, 7, 8, 9, 10, 11], []), ([], []), ([], [])] 0 Tryd.f93 = some I93 := by kernel_rfl

/-- 'internal/stringslite.Index'. -/
def L94a : ICode :=
  (.seq (.seq (.region [⟨(some 57), (.mov (.t 8)), none, []⟩,
      ⟨(some 58), (.mov (.t 9)), none, []⟩,
      ⟨(some 59), (.bin .lss (.t 57) (.t 58)), none, []⟩] [])
    (.cond (.t 59)
      .skip
      (.exit 1)))
    (.block 2
      (.seq (.seq (.region [⟨(some 60), (.mov (.t 0)), none, []⟩,
        ⟨(some 61), (.mov (.t 8)), none, []⟩,
        ⟨(some 62), (.idxS (.t 60) (.t 61)), none, []⟩,
        ⟨(some 63), (.mov (.t 6)), none, []⟩,
        ⟨(some 64), (.bin .neq (.t 62) (.t 63)), none, []⟩] [])
      (.cond (.t 64)
        (.seq (.region [⟨(some 65), (.mov (.t 0)), none, []⟩,
          ⟨(some 66), (.mov (.t 8)), none, []⟩,
          ⟨(some 67), (.bin .add (.t 66) (.c (.i .i64 (1)))), none, []⟩,
          ⟨(some 68), (.mov (.t 9)), none, []⟩,
          ⟨(some 69), (.slS (.t 65) (some (.t 67)) (some (.t 68))), none, []⟩,
          ⟨(some 70), (.mov (.t 6)), none, []⟩,
          ⟨(some 71), (.call 95 [(.t 69), (.t 70)]), none, []⟩,
          ⟨(some 11), (.mov (.t 71)), none, []⟩] [])
        (.seq (.seq (.region [⟨(some 72), (.mov (.t 11)), none, []⟩,
          ⟨(some 73), (.bin .lss (.t 72) (.c (.i .i64 (0)))), none, []⟩] [])
        (.cond (.t 73)
          (.seq (.region [⟨(some 4), (.mov (.c (.i .i64 (-1)))), none, []⟩] [])
          .ret)
          .skip))
        (.region [⟨(some 74), (.mov (.t 8)), none, []⟩,
          ⟨(some 75), (.mov (.t 11)), none, []⟩,
          ⟨(some 76), (.bin .add (.t 75) (.c (.i .i64 (1)))), none, []⟩,
          ⟨(some 77), (.bin .add (.t 74) (.t 76)), none, []⟩,
          ⟨(some 8), (.mov (.t 77)), none, []⟩] [])))
        .skip))
      (.seq (.seq (.region [⟨(some 78), (.mov (.t 0)), none, []⟩,
        ⟨(some 79), (.mov (.t 8)), none, []⟩,
        ⟨(some 80), (.bin .add (.t 79) (.c (.i .i64 (1)))), none, []⟩,
        ⟨(some 81), (.idxS (.t 78) (.t 80)), none, []⟩,
        ⟨(some 82), (.mov (.t 7)), none, []⟩,
        ⟨(some 83), (.bin .eql (.t 81) (.t 82)), none, []⟩,
        ⟨(some 84), (.mov (.t 83)), none, []⟩,
        ⟨(some 85), (.mov (.t 0)), (some (84, true)), []⟩,
        ⟨(some 86), (.mov (.t 8)), (some (84, true)), []⟩,
        ⟨(some 87), (.mov (.t 8)), (some (84, true)), []⟩,
        ⟨(some 88), (.mov (.t 5)), (some (84, true)), []⟩,
        ⟨(some 89), (.bin .add (.t 87) (.t 88)), (some (84, true)), []⟩,
        ⟨(some 90), (.slS (.t 85) (some (.t 86)) (some (.t 89))), (some (84, true)), []⟩,
        ⟨(some 91), (.mov (.t 1)), (some (84, true)), []⟩,
        ⟨(some 92), (.bin .eql (.t 90) (.t 91)), (some (84, true)), []⟩,
        ⟨(some 93), (.pick (.t 84) (.t 92) (.c (.b false))), none, []⟩] [])
      (.cond (.t 93)
        (.seq (.region [⟨(some 94), (.mov (.t 8)), none, []⟩,
          ⟨(some 4), (.mov (.t 94)), none, []⟩] [])
        .ret)
        .skip))
      (.seq (.region [⟨(some 95), (.mov (.t 8)), none, []⟩,
        ⟨(some 96), (.bin .add (.t 95) (.c (.i .i64 (1)))), none, []⟩,
        ⟨(some 8), (.mov (.t 96)), none, []⟩] [])
      (.seq (.region [⟨(some 97), (.mov (.t 10)), none, []⟩,
        ⟨(some 98), (.bin .add (.t 97) (.c (.i .i64 (1)))), none, []⟩,
        ⟨(some 10), (.mov (.t 98)), none, []⟩] [])
      (.seq (.region [⟨(some 99), (.mov (.t 5)), none, []⟩,
        ⟨(some 100), (.load none (.g 1)), none, []⟩,
        ⟨(some 101), (.bin .leq (.t 99) (.t 100)), none, []⟩,
        ⟨(some 102), (.mov (.t 101)), none, []⟩,
        ⟨(some 103), (.mov (.t 10)), (some (102, true)), []⟩,
        ⟨(some 104), (.mov (.t 8)), (some (102, true)), []⟩,
        ⟨(some 105), (.call 97 [(.t 104)]), (some (102, true)), []⟩,
        ⟨(some 106), (.bin .gtr (.t 103) (.t 105)), (some (102, true)), []⟩,
        ⟨(some 107), (.pick (.t 102) (.t 106) (.c (.b false))), none, []⟩] [])
      (.cond (.t 107)
        (.seq (.region [⟨(some 108), (.mov (.t 0)), none, []⟩,
          ⟨(some 109), (.mov (.t 8)), none, []⟩,
          ⟨(some 110), (.slS (.t 108) (some (.t 109)) none), none, []⟩,
          ⟨(some 111), (.mov (.t 1)), none, []⟩,
          ⟨(some 112), (.call 96 [(.t 110), (.t 111)]), none, []⟩,
          ⟨(some 12), (.mov (.t 112)), none, []⟩] [])
        (.seq (.seq (.region [⟨(some 113), (.mov (.t 12)), none, []⟩,
          ⟨(some 114), (.bin .geq (.t 113) (.c (.i .i64 (0)))), none, []⟩] [])
        (.cond (.t 114)
          (.seq (.region [⟨(some 115), (.mov (.t 12)), none, []⟩,
            ⟨(some 116), (.mov (.t 8)), none, []⟩,
            ⟨(some 117), (.bin .add (.t 115) (.t 116)), none, []⟩,
            ⟨(some 4), (.mov (.t 117)), none, []⟩] [])
          .ret)
          .skip))
        (.seq (.region [⟨(some 4), (.mov (.c (.i .i64 (-1)))), none, []⟩] [])
        .ret)))
        (.seq (.region [⟨(some 118), (.mov (.t 5)), none, []⟩,
          ⟨(some 119), (.load none (.g 1)), none, []⟩,
          ⟨(some 120), (.bin .gtr (.t 118) (.t 119)), none, []⟩,
          ⟨(some 121), (.mov (.t 120)), none, []⟩,
          ⟨(some 122), (.mov (.t 10)), (some (121, true)), []⟩,
          ⟨(some 123), (.mov (.t 8)), (some (121, true)), []⟩,
          ⟨(some 124), (.bin .shr (.t 123) (.c (.i .u64 (4)))), (some (121, true)), []⟩,
          ⟨(some 125), (.bin .add (.c (.i .i64 (4))) (.t 124)), (some (121, true)), []⟩,
          ⟨(some 126), (.bin .geq (.t 122) (.t 125)), (some (121, true)), []⟩,
          ⟨(some 127), (.pick (.t 121) (.t 126) (.c (.b false))), none, []⟩,
          ⟨(some 128), (.mov (.t 127)), none, []⟩,
          ⟨(some 129), (.mov (.t 8)), (some (128, true)), []⟩,
          ⟨(some 130), (.mov (.t 9)), (some (128, true)), []⟩,
          ⟨(some 131), (.bin .lss (.t 129) (.t 130)), (some (128, true)), []⟩,
          ⟨(some 132), (.pick (.t 128) (.t 131) (.c (.b false))), none, []⟩] [])
        (.cond (.t 132)
          (.seq (.region [⟨(some 133), (.mov (.t 0)), none, []⟩,
            ⟨(some 134), (.mov (.t 8)), none, []⟩,
            ⟨(some 135), (.slS (.t 133) (some (.t 134)) none), none, []⟩,
            ⟨(some 136), (.mov (.t 1)), none, []⟩,
            ⟨(some 137), (.call 98 [(.t 135), (.t 136)]), none, []⟩,
            ⟨(some 13), (.mov (.t 137)), none, []⟩] [])
          (.seq (.seq (.region [⟨(some 138), (.mov (.t 13)), none, []⟩,
            ⟨(some 139), (.bin .lss (.t 138) (.c (.i .i64 (0)))), none, []⟩] [])
          (.cond (.t 139)
            (.seq (.region [⟨(some 4), (.mov (.c (.i .i64 (-1)))), none, []⟩] [])
            .ret)
            .skip))
          (.seq (.region [⟨(some 140), (.mov (.t 8)), none, []⟩,
            ⟨(some 141), (.mov (.t 13)), none, []⟩,
            ⟨(some 142), (.bin .add (.t 140) (.t 141)), none, []⟩,
            ⟨(some 4), (.mov (.t 142)), none, []⟩] [])
          .ret)))
          .skip))))))))))
def I94 : IFunc :=
  ⟨(.seq (.region [⟨(some 4), (.mov (.c (.i .i64 (0)))), none, []⟩] [])
    (.seq (.region [⟨(some 14), (.mov (.t 1)), none, []⟩,
      ⟨(some 15), (.lenk 1 (.t 14)), none, []⟩,
      ⟨(some 5), (.mov (.t 15)), none, []⟩] [])
    (.seq (.block 0
      (.seq (.region [⟨(some 17), (.mov (.t 5)), none, []⟩,
        ⟨(some 18), (.bin .eql (.t 17) (.c (.i .i64 (0)))), none, []⟩,
        ⟨(some 19), (.mov (.t 18)), none, []⟩,
        ⟨(some 20), (.mov (.t 1)), (some (19, false)), []⟩,
        ⟨(some 21), (.mov (.t 0)), (some (19, false)), []⟩,
        ⟨(some 22), (.bin .eql (.t 20) (.t 21)), (some (19, false)), []⟩,
        ⟨(some 23), (.pick (.t 19) (.c (.b true)) (.t 22)), none, []⟩,
        ⟨(some 16), (.mov (.t 23)), none, []⟩] [])
      (.cond (.t 16)
        (.seq (.region [⟨(some 4), (.mov (.c (.i .i64 (0)))), none, []⟩] [])
        .ret)
        (.seq (.region [⟨(some 25), (.mov (.t 5)), none, []⟩,
          ⟨(some 26), (.bin .eql (.t 25) (.c (.i .i64 (1)))), none, []⟩,
          ⟨(some 24), (.mov (.t 26)), none, []⟩] [])
        (.cond (.t 24)
          (.seq (.region [⟨(some 27), (.mov (.t 0)), none, []⟩,
            ⟨(some 28), (.mov (.t 1)), none, []⟩,
            ⟨(some 29), (.idxS (.t 28) (.c (.i .i64 (0)))), none, []⟩,
            ⟨(some 30), (.call 95 [(.t 27), (.t 29)]), none, []⟩,
            ⟨(some 4), (.mov (.t 30)), none, []⟩] [])
          .ret)
          (.seq (.region [⟨(some 32), (.mov (.t 5)), none, []⟩,
            ⟨(some 33), (.mov (.t 0)), none, []⟩,
            ⟨(some 34), (.lenk 1 (.t 33)), none, []⟩,
            ⟨(some 35), (.bin .geq (.t 32) (.t 34)), none, []⟩,
            ⟨(some 31), (.mov (.t 35)), none, []⟩] [])
          (.cond (.t 31)
            (.seq (.region [⟨(some 4), (.mov (.c (.i .i64 (-1)))), none, []⟩] [])
            .ret)
            (.seq (.region [⟨(some 37), (.mov (.t 5)), none, []⟩,
              ⟨(some 38), (.load none (.g 1)), none, []⟩,
              ⟨(some 39), (.bin .leq (.t 37) (.t 38)), none, []⟩,
              ⟨(some 40), (.mov (.t 39)), none, []⟩,
              ⟨(some 41), (.mov (.t 0)), (some (40, true)), []⟩,
              ⟨(some 42), (.lenk 1 (.t 41)), (some (40, true)), []⟩,
              ⟨(some 43), (.bin .leq (.t 42) (.c (.i .i64 (64)))), (some (40, true)), []⟩,
              ⟨(some 44), (.pick (.t 40) (.t 43) (.c (.b false))), none, []⟩,
              ⟨(some 36), (.mov (.t 44)), none, []⟩] [])
            (.cond (.t 36)
              (.seq (.region [⟨(some 45), (.mov (.t 0)), none, []⟩,
                ⟨(some 46), (.mov (.t 1)), none, []⟩,
                ⟨(some 47), (.call 96 [(.t 45), (.t 46)]), none, []⟩,
                ⟨(some 4), (.mov (.t 47)), none, []⟩] [])
              .ret)
              .skip)))))))))
    (.seq (.region [⟨(some 48), (.mov (.t 1)), none, []⟩,
      ⟨(some 49), (.idxS (.t 48) (.c (.i .i64 (0)))), none, []⟩,
      ⟨(some 6), (.mov (.t 49)), none, []⟩] [])
    (.seq (.region [⟨(some 50), (.mov (.t 1)), none, []⟩,
      ⟨(some 51), (.idxS (.t 50) (.c (.i .i64 (1)))), none, []⟩,
      ⟨(some 7), (.mov (.t 51)), none, []⟩] [])
    (.seq (.region [⟨(some 8), (.mov (.c (.i .i64 (0)))), none, []⟩] [])
    (.seq (.region [⟨(some 52), (.mov (.t 0)), none, []⟩,
      ⟨(some 53), (.lenk 1 (.t 52)), none, []⟩,
      ⟨(some 54), (.mov (.t 5)), none, []⟩,
      ⟨(some 55), (.bin .sub (.t 53) (.t 54)), none, []⟩,
      ⟨(some 56), (.bin .add (.t 55) (.c (.i .i64 (1)))), none, []⟩,
      ⟨(some 9), (.mov (.t 56)), none, []⟩] [])
    (.seq (.region [⟨(some 10), (.mov (.c (.i .i64 (0)))), none, []⟩] [])
    (.seq (.block 1
      (.loop L94a))
    (.seq (.region [⟨(some 4), (.mov (.c (.i .i64 (-1)))), none, []⟩] [])
    .ret)))))))))),
    143, 2, [.t 4], 0⟩
theorem tr94 : trFunc Tryd.prog [([], []), ([], []), ([], []), ([], []), ([], []), ([], []), ([], []), ([], []), ([], []), ([], []), ([], []), ([], []), ([], []), ([], []), ([], []), ([], []), ([], []), ([], []), ([], []), ([], []), ([], []), ([], []), ([], []), ([], []), ([], []), ([], []), ([], []), ([], []), ([], []), ([], []), ([], []), ([], []), ([], []), ([], []), ([], []), ([], []), ([], []), ([], []), ([], []), ([], []), ([], []), ([], []), ([], []), ([], [])] 0 Tryd.f94 = some I94 := by kernel_rfl

/-- 'internal/stringslite.IndexByte'. -/
def I95 : IFunc :=
  ⟨(.seq (.region [⟨(some 4), (.mov (.c (.i .i64 (0)))), none, []⟩] [])
    (.seq (.region [⟨(some 5), (.mov (.t 0)), none, []⟩,
      ⟨(some 6), (.mov (.t 1)), none, []⟩,
      ⟨(some 7), (.call 99 [(.t 5), (.t 6)]), none, []⟩,
      ⟨(some 4), (.mov (.t 7)), none, []⟩] [])
    .ret)),
    8, 2, [.t 4], 0⟩
theorem tr95 : trFunc Tryd.prog [([], []), ([], [])] 0 Tryd.f95 = some I95 := by kernel_rfl

/-- 'internal/bytealg.Cutover'. -/
def I97 : IFunc :=
  ⟨(.seq (.region [⟨(some 2), (.mov (.c (.i .i64 (0)))), none, []⟩] [])
    (.seq (.region [⟨(some 3), (.mov (.t 0)), none, []⟩,
      ⟨(some 4), (.bin .add (.t 3) (.c (.i .i64 (16)))), none, []⟩,
      ⟨(some 5), (.bin .quo (.t 4) (.c (.i .i64 (8)))), none, []⟩,
      ⟨(some 2), (.mov (.t 5)), none, []⟩] [])
    .ret)),
    6, 1, [.t 2], 0⟩
theorem tr97 : trFunc Tryd.prog [([], []), ([], [])] 0 Tryd.f97 = some I97 := by kernel_rfl

/-- 'internal/bytealg.IndexRabinKarp[string]'. -/
def L98a : ICode :=
  (.seq (.seq (.region [⟨(some 18), (.mov (.t 9)), none, []⟩,
      ⟨(some 19), (.mov (.t 7)), none, []⟩,
      ⟨(some 20), (.bin .lss (.t 18) (.t 19)), none, []⟩] [])
    (.cond (.t 20)
      .skip
      (.exit 0)))
    (.seq (.block 1
      (.region [⟨(some 23), (.mov (.t 8)), none, []⟩,
        ⟨(some 24), (.bin .mul (.t 23) (.c (.i .u32 (16777619)))), none, []⟩,
        ⟨(some 25), (.mov (.t 0)), none, []⟩,
        ⟨(some 26), (.mov (.t 9)), none, []⟩,
        ⟨(some 27), (.idxS (.t 25) (.t 26)), none, []⟩,
        ⟨(some 28), (.conv .u32 (.t 27)), none, []⟩,
        ⟨(some 29), (.bin .add (.t 24) (.t 28)), none, []⟩,
        ⟨(some 8), (.mov (.t 29)), none, []⟩] []))
    (.region [⟨(some 21), (.mov (.t 9)), none, []⟩,
      ⟨(some 22), (.bin .add (.t 21) (.c (.i .i64 (1)))), none, []⟩,
      ⟨(some 9), (.mov (.t 22)), none, []⟩] [])))
def L98b : ICode :=
  (.seq (.seq (.region [⟨(some 41), (.mov (.t 10)), none, []⟩,
      ⟨(some 42), (.mov (.t 0)), none, []⟩,
      ⟨(some 43), (.lenk 1 (.t 42)), none, []⟩,
      ⟨(some 44), (.bin .lss (.t 41) (.t 43)), none, []⟩] [])
    (.cond (.t 44)
      .skip
      (.exit 2)))
    (.block 3
      (.seq (.region [⟨(some 45), (.mov (.t 8)), none, []⟩,
        ⟨(some 46), (.bin .mul (.t 45) (.c (.i .u32 (16777619)))), none, []⟩,
        ⟨(some 8), (.mov (.t 46)), none, []⟩] [])
      (.seq (.region [⟨(some 47), (.mov (.t 8)), none, []⟩,
        ⟨(some 48), (.mov (.t 0)), none, []⟩,
        ⟨(some 49), (.mov (.t 10)), none, []⟩,
        ⟨(some 50), (.idxS (.t 48) (.t 49)), none, []⟩,
        ⟨(some 51), (.conv .u32 (.t 50)), none, []⟩,
        ⟨(some 52), (.bin .add (.t 47) (.t 51)), none, []⟩,
        ⟨(some 8), (.mov (.t 52)), none, []⟩] [])
      (.seq (.region [⟨(some 53), (.mov (.t 8)), none, []⟩,
        ⟨(some 54), (.mov (.t 6)), none, []⟩,
        ⟨(some 55), (.mov (.t 0)), none, []⟩,
        ⟨(some 56), (.mov (.t 10)), none, []⟩,
        ⟨(some 57), (.mov (.t 7)), none, []⟩,
        ⟨(some 58), (.bin .sub (.t 56) (.t 57)), none, []⟩,
        ⟨(some 59), (.idxS (.t 55) (.t 58)), none, []⟩,
        ⟨(some 60), (.conv .u32 (.t 59)), none, []⟩,
        ⟨(some 61), (.bin .mul (.t 54) (.t 60)), none, []⟩,
        ⟨(some 62), (.bin .sub (.t 53) (.t 61)), none, []⟩,
        ⟨(some 8), (.mov (.t 62)), none, []⟩] [])
      (.seq (.region [⟨(some 63), (.mov (.t 10)), none, []⟩,
        ⟨(some 64), (.bin .add (.t 63) (.c (.i .i64 (1)))), none, []⟩,
        ⟨(some 10), (.mov (.t 64)), none, []⟩] [])
      (.seq (.region [⟨(some 65), (.mov (.t 8)), none, []⟩,
        ⟨(some 66), (.mov (.t 5)), none, []⟩,
        ⟨(some 67), (.bin .eql (.t 65) (.t 66)), none, []⟩,
        ⟨(some 68), (.mov (.t 67)), none, []⟩,
        ⟨(some 69), (.mov (.t 0)), (some (68, true)), []⟩,
        ⟨(some 70), (.mov (.t 10)), (some (68, true)), []⟩,
        ⟨(some 71), (.mov (.t 7)), (some (68, true)), []⟩,
        ⟨(some 72), (.bin .sub (.t 70) (.t 71)), (some (68, true)), []⟩,
        ⟨(some 73), (.mov (.t 10)), (some (68, true)), []⟩,
        ⟨(some 74), (.slS (.t 69) (some (.t 72)) (some (.t 73))), (some (68, true)), []⟩,
        ⟨(some 75), (.mov (.t 1)), (some (68, true)), []⟩,
        ⟨(some 76), (.bin .eql (.t 74) (.t 75)), (some (68, true)), []⟩,
        ⟨(some 77), (.pick (.t 68) (.t 76) (.c (.b false))), none, []⟩] [])
      (.cond (.t 77)
        (.seq (.region [⟨(some 78), (.mov (.t 10)), none, []⟩,
          ⟨(some 79), (.mov (.t 7)), none, []⟩,
          ⟨(some 80), (.bin .sub (.t 78) (.t 79)), none, []⟩,
          ⟨(some 4), (.mov (.t 80)), none, []⟩] [])
        .ret)
        .skip))))))))
def I98 : IFunc :=
  ⟨(.seq (.region [⟨(some 4), (.mov (.c (.i .i64 (0)))), none, []⟩] [])
    (.seq (.region [⟨(some 12), (.mov (.t 1)), none, []⟩,
      ⟨(some 13), (.call 100 [(.t 12)]), none, []⟩,
      ⟨(some 11), (.mov (.t 13)), none, []⟩,
      ⟨(some 14), (.ext (.t 11) 0), none, []⟩,
      ⟨(some 15), (.ext (.t 11) 1), none, []⟩,
      ⟨(some 5), (.mov (.t 14)), none, []⟩,
      ⟨(some 6), (.mov (.t 15)), none, []⟩] [])
    (.seq (.region [⟨(some 16), (.mov (.t 1)), none, []⟩,
      ⟨(some 17), (.lenk 1 (.t 16)), none, []⟩,
      ⟨(some 7), (.mov (.t 17)), none, []⟩] [])
    (.seq (.region [⟨(some 8), (.mov (.c (.i .u32 (0)))), none, []⟩] [])
    (.seq (.seq (.region [⟨(some 9), (.mov (.c (.i .i64 (0)))), none, []⟩] [])
    (.block 0
      (.loop L98a)))
    (.seq (.seq (.region [⟨(some 30), (.mov (.t 8)), none, []⟩,
      ⟨(some 31), (.mov (.t 5)), none, []⟩,
      ⟨(some 32), (.bin .eql (.t 30) (.t 31)), none, []⟩,
      ⟨(some 33), (.mov (.t 32)), none, []⟩,
      ⟨(some 34), (.mov (.t 0)), (some (33, true)), []⟩,
      ⟨(some 35), (.mov (.t 7)), (some (33, true)), []⟩,
      ⟨(some 36), (.slS (.t 34) none (some (.t 35))), (some (33, true)), []⟩,
      ⟨(some 37), (.mov (.t 1)), (some (33, true)), []⟩,
      ⟨(some 38), (.bin .eql (.t 36) (.t 37)), (some (33, true)), []⟩,
      ⟨(some 39), (.pick (.t 33) (.t 38) (.c (.b false))), none, []⟩] [])
    (.cond (.t 39)
      (.seq (.region [⟨(some 4), (.mov (.c (.i .i64 (0)))), none, []⟩] [])
      .ret)
      .skip))
    (.seq (.seq (.region [⟨(some 40), (.mov (.t 7)), none, []⟩,
      ⟨(some 10), (.mov (.t 40)), none, []⟩] [])
    (.block 2
      (.loop L98b)))
    (.seq (.region [⟨(some 4), (.mov (.c (.i .i64 (-1)))), none, []⟩] [])
    .ret)))))))),
    81, 2, [.t 4], 0⟩
theorem tr98 : trFunc Tryd.prog [([], []), ([], []), ([], []), ([], []), ([], []), ([], []), ([], []), ([], []), ([], []), ([], []), ([], []), ([], []), ([], []), ([], []), ([], []), ([], []), ([], []), ([], []), ([], []), ([], []), ([], []), ([], []), ([], [])] 0 Tryd.f98 = some I98 := by kernel_rfl

/-- 'internal/bytealg.hashStr[string]'. -/
def L100a : ICode :=
  (.seq (.seq (.region [⟨(some 9), (.mov (.t 5)), none, []⟩,
      ⟨(some 10), (.mov (.t 0)), none, []⟩,
      ⟨(some 11), (.lenk 1 (.t 10)), none, []⟩,
      ⟨(some 12), (.bin .lss (.t 9) (.t 11)), none, []⟩] [])
    (.cond (.t 12)
      .skip
      (.exit 0)))
    (.seq (.block 1
      (.region [⟨(some 15), (.mov (.t 4)), none, []⟩,
        ⟨(some 16), (.bin .mul (.t 15) (.c (.i .u32 (16777619)))), none, []⟩,
        ⟨(some 17), (.mov (.t 0)), none, []⟩,
        ⟨(some 18), (.mov (.t 5)), none, []⟩,
        ⟨(some 19), (.idxS (.t 17) (.t 18)), none, []⟩,
        ⟨(some 20), (.conv .u32 (.t 19)), none, []⟩,
        ⟨(some 21), (.bin .add (.t 16) (.t 20)), none, []⟩,
        ⟨(some 4), (.mov (.t 21)), none, []⟩] []))
    (.region [⟨(some 13), (.mov (.t 5)), none, []⟩,
      ⟨(some 14), (.bin .add (.t 13) (.c (.i .i64 (1)))), none, []⟩,
      ⟨(some 5), (.mov (.t 14)), none, []⟩] [])))
def L100b : ICode :=
  (.seq (.seq (.region [⟨(some 24), (.mov (.t 8)), none, []⟩,
      ⟨(some 25), (.bin .gtr (.t 24) (.c (.i .i64 (0)))), none, []⟩] [])
    (.cond (.t 25)
      .skip
      (.exit 2)))
    (.seq (.block 3
      (.seq (.seq (.region [⟨(some 28), (.mov (.t 8)), none, []⟩,
        ⟨(some 29), (.bin .and (.t 28) (.c (.i .i64 (1)))), none, []⟩,
        ⟨(some 30), (.bin .neq (.t 29) (.c (.i .i64 (0)))), none, []⟩] [])
      (.cond (.t 30)
        (.region [⟨(some 31), (.mov (.t 6)), none, []⟩,
          ⟨(some 32), (.mov (.t 7)), none, []⟩,
          ⟨(some 33), (.bin .mul (.t 31) (.t 32)), none, []⟩,
          ⟨(some 6), (.mov (.t 33)), none, []⟩] [])
        .skip))
      (.region [⟨(some 34), (.mov (.t 7)), none, []⟩,
        ⟨(some 35), (.mov (.t 7)), none, []⟩,
        ⟨(some 36), (.bin .mul (.t 34) (.t 35)), none, []⟩,
        ⟨(some 7), (.mov (.t 36)), none, []⟩] [])))
    (.region [⟨(some 26), (.mov (.t 8)), none, []⟩,
      ⟨(some 27), (.bin .shr (.t 26) (.c (.i .u64 (1)))), none, []⟩,
      ⟨(some 8), (.mov (.t 27)), none, []⟩] [])))
def I100 : IFunc :=
  ⟨(.seq (.region [⟨(some 2), (.mov (.c (.i .u32 (0)))), none, []⟩,
      ⟨(some 3), (.mov (.c (.i .u32 (0)))), none, []⟩] [])
    (.seq (.region [⟨(some 4), (.mov (.c (.i .u32 (0)))), none, []⟩] [])
    (.seq (.seq (.region [⟨(some 5), (.mov (.c (.i .i64 (0)))), none, []⟩] [])
    (.block 0
      (.loop L100a)))
    (.seq (.region [⟨(some 6), (.mov (.c (.i .u32 (1)))), none, []⟩,
      ⟨(some 7), (.mov (.c (.i .u32 (16777619)))), none, []⟩] [])
    (.seq (.seq (.region [⟨(some 22), (.mov (.t 0)), none, []⟩,
      ⟨(some 23), (.lenk 1 (.t 22)), none, []⟩,
      ⟨(some 8), (.mov (.t 23)), none, []⟩] [])
    (.block 2
      (.loop L100b)))
    (.seq (.region [⟨(some 37), (.mov (.t 4)), none, []⟩,
      ⟨(some 38), (.mov (.t 6)), none, []⟩,
      ⟨(some 2), (.mov (.t 37)), none, []⟩,
      ⟨(some 3), (.mov (.t 38)), none, []⟩] [])
    .ret)))))),
    39, 1, [.t 2, .t 3], 0⟩
theorem tr100 : trFunc Tryd.prog [([], []), ([], []), ([], []), ([], []), ([], []), ([], []), ([], []), ([], []), ([], []), ([], []), ([], []), ([], []), ([], []), ([], []), ([], []), ([], []), ([], [])] 0 Tryd.f100 = some I100 := by kernel_rfl

def tab : List (Nat × IFunc) := [(4, I4), (5, I5), (6, I6), (8, I8), (9, I9), (11, I11), (12, I12), (13, I13), (14, I14), (15, I15), (16, I16), (17, I17), (18, I18), (19, I19), (20, I20), (21, I21), (22, I22), (25, I25), (26, I26), (27, I27), (28, I28), (29, I29), (30, I30), (31, I31), (32, I32), (33, I33), (34, I34), (35, I35), (36, I36), (37, I37), (38, I38), (39, I39), (40, I40), (41, I41), (42, I42), (43, I43), (47, I47), (48, I48), (49, I49), (50, I50), (51, I51), (52, I52), (53, I53), (54, I54), (55, I55), (56, I56), (57, I57), (58, I58), (60, I60), (61, I61), (62, I62), (63, I63), (64, I64), (65, I65), (66, I66), (67, I67), (68, I68), (69, I69), (70, I70), (71, I71), (72, I72), (73, I73), (74, I74), (75, I75), (76, I76), (77, I77), (78, I78), (79, I79), (80, I80), (81, I81), (82, I82), (83, I83), (84, I84), (85, I85), (86, I86), (87, I87), (88, I88), (89, I89), (90, I90), (91, I91), (92, I92), (93, I93), (94, I94), (95, I95), (97, I97), (98, I98), (100, I100)]
theorem tab_all : TabAll Tryd.prog tab :=
  .cons Tryd.func4 tr4 <| .cons Tryd.func5 tr5 <| .cons Tryd.func6 tr6 <| .cons Tryd.func8 tr8 <| .cons Tryd.func9 tr9 <| .cons Tryd.func11 tr11 <| .cons Tryd.func12 tr12 <| .cons Tryd.func13 tr13 <| .cons Tryd.func14 tr14 <| .cons Tryd.func15 tr15 <| .cons Tryd.func16 tr16 <| .cons Tryd.func17 tr17 <| .cons Tryd.func18 tr18 <| .cons Tryd.func19 tr19 <| .cons Tryd.func20 tr20 <| .cons Tryd.func21 tr21 <| .cons Tryd.func22 tr22 <| .cons Tryd.func25 tr25 <| .cons Tryd.func26 tr26 <| .cons Tryd.func27 tr27 <| .cons Tryd.func28 tr28 <| .cons Tryd.func29 tr29 <| .cons Tryd.func30 tr30 <| .cons Tryd.func31 tr31 <| .cons Tryd.func32 tr32 <| .cons Tryd.func33 tr33 <| .cons Tryd.func34 tr34 <| .cons Tryd.func35 tr35 <| .cons Tryd.func36 tr36 <| .cons Tryd.func37 tr37 <| .cons Tryd.func38 tr38 <| .cons Tryd.func39 tr39 <| .cons Tryd.func40 tr40 <| .cons Tryd.func41 tr41 <| .cons Tryd.func42 tr42 <| .cons Tryd.func43 tr43 <| .cons Tryd.func47 tr47 <| .cons Tryd.func48 tr48 <| .cons Tryd.func49 tr49 <| .cons Tryd.func50 tr50 <| .cons Tryd.func51 tr51 <| .cons Tryd.func52 tr52 <| .cons Tryd.func53 tr53 <| .cons Tryd.func54 tr54 <| .cons Tryd.func55 tr55 <| .cons Tryd.func56 tr56 <| .cons Tryd.func57 tr57 <| .cons Tryd.func58 tr58 <| .cons Tryd.func60 tr60 <| .cons Tryd.func61 tr61 <| .cons Tryd.func62 tr62 <| .cons Tryd.func63 tr63 <| .cons Tryd.func64 tr64 <| .cons Tryd.func65 tr65 <| .cons Tryd.func66 tr66 <| .cons Tryd.func67 tr67 <| .cons Tryd.func68 tr68 <| .cons Tryd.func69 tr69 <| .cons Tryd.func70 tr70 <| .cons Tryd.func71 tr71 <| .cons Tryd.func72 tr72 <| .cons Tryd.func73 tr73 <| .cons Tryd.func74 tr74 <| .cons Tryd.func75 tr75 <| .cons Tryd.func76 tr76 <| .cons Tryd.func77 tr77 <| .cons Tryd.func78 tr78 <| .cons Tryd.func79 tr79 <| .cons Tryd.func80 tr80 <| .cons Tryd.func81 tr81 <| .cons Tryd.func82 tr82 <| .cons Tryd.func83 tr83 <| .cons Tryd.func84 tr84 <| .cons Tryd.func85 tr85 <| .cons Tryd.func86 tr86 <| .cons Tryd.func87 tr87 <| .cons Tryd.func88 tr88 <| .cons Tryd.func89 tr89 <| .cons Tryd.func90 tr90 <| .cons Tryd.func91 tr91 <| .cons Tryd.func92 tr92 <| .cons Tryd.func93 tr93 <| .cons Tryd.func94 tr94 <| .cons Tryd.func95 tr95 <| .cons Tryd.func97 tr97 <| .cons Tryd.func98 tr98 <| .cons Tryd.func100 tr100 <| .nil
def IP : FuncId → Option IFunc := tabIP tab
theorem IP_ok : TabOK Tryd.prog IP := tab_all.ok
end Go.Proofs.YtbdgnffoloakiaaDoor
