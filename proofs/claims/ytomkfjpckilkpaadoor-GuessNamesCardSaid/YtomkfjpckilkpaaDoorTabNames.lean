/- The functions that the statement reaches, as the interpreter has them. Conditions: none. -/
import Derived.Test.YtomkfjpckilkpaaDoorRows
import Derived.Test.YtomkfjpckilkpaaDoorRiFast
namespace Go.Proofs.YtomkfjpckilkpaaDoor
open Go Go.RI

/-- 'encore/encorelaw22.GuessNames'. -/
def L6a : ICode :=
  (.seq (.seq (.region [⟨(some 179), (.mov (.t 14)), none, []⟩,
      ⟨(some 180), (.bin .lss (.t 179) (.c (.i .i64 (2)))), none, []⟩] [])
    (.cond (.t 180)
      .skip
      (.exit 0)))
    (.seq (.block 1
      (.seq (.seq (.region [⟨(some 183), (.mov (.t 13)), none, []⟩,
        ⟨(some 184), (.call 9 [(.t 183), (.c (.i .i64 (0))), (.c (.i .i64 (0))), (.c .ns)]), none, []⟩,
        ⟨(some 185), (.bin .neq (.t 184) (.c (.i .i64 (1)))), none, []⟩,
        ⟨(some 186), (.mov (.t 185)), none, []⟩,
        ⟨(some 187), (.mov (.t 13)), (some (186, false)), []⟩,
        ⟨(some 188), (.call 14 [(.t 187), (.c (.i .i64 (0))), (.c (.i .i64 (0)))]), (some (186, false)), []⟩,
        ⟨(some 189), (.bin .neq (.t 188) (.c (.i .i64 (0)))), (some (186, false)), []⟩,
        ⟨(some 190), (.pick (.t 186) (.c (.b true)) (.t 189)), none, []⟩,
        ⟨(some 191), (.mov (.t 190)), none, []⟩,
        ⟨(some 192), (.mov (.t 13)), (some (191, false)), []⟩,
        ⟨(some 193), (.call 13 [(.t 192), (.c (.i .i64 (0))), (.c (.i .i64 (0)))]), (some (191, false)), []⟩,
        ⟨(some 194), (.lenk 0 (.t 193)), (some (191, false)), []⟩,
        ⟨(some 195), (.bin .neq (.t 194) (.c (.i .i64 (0)))), (some (191, false)), []⟩,
        ⟨(some 196), (.pick (.t 191) (.c (.b true)) (.t 195)), none, []⟩] [])
      (.cond (.t 196)
        (.seq (.region [⟨(some 0), (.mov (.c (.b false))), none, []⟩] [])
        .ret)
        .skip))
      (.region [⟨(some 197), (.build [.nm] []), none, []⟩,
        ⟨(some 198), (.box (.t 197)), none, []⟩,
        ⟨(some 13), (.mov (.t 198)), none, []⟩] [])))
    (.region [⟨(some 181), (.mov (.t 14)), none, []⟩,
      ⟨(some 182), (.bin .add (.t 181) (.c (.i .i64 (1)))), none, []⟩,
      ⟨(some 14), (.mov (.t 182)), none, []⟩] [])))
def I6 : IFunc :=
  ⟨(.seq (.region [⟨(some 0), (.mov (.c (.b false))), none, []⟩] [])
    (.seq (.region [⟨(some 15), (.call 25 [(.c (.i .i64 (0)))]), none, []⟩,
      ⟨(some 16), (.call 25 [(.c (.i .i64 (0)))]), none, []⟩,
      ⟨(some 17), (.call 24 [(.c (.i .i64 (9))), (.t 15), (.t 16)]), none, []⟩,
      ⟨(some 18), (.call 26 [(.c (.i .i64 (0)))]), none, []⟩,
      ⟨(some 19), (.call 25 [(.c (.i .i64 (0)))]), none, []⟩,
      ⟨(some 20), (.call 24 [(.c (.i .i64 (11))), (.t 18), (.t 19)]), none, []⟩,
      ⟨(some 21), (.bsl 5 2 [(.i .i64 (0)), (.i .i64 (0)), .ns, (.s []), .ns, (.i .i64 (0)), (.i .i64 (0)), .ns, (.s []), .ns] [(0, 5, (.t 17)), (5, 5, (.t 20))]), none, []⟩,
      ⟨(some 22), (.call 23 [(.c (.i .i64 (1))), (.t 21)]), none, []⟩,
      ⟨(some 23), (.call 25 [(.c (.i .i64 (0)))]), none, []⟩,
      ⟨(some 24), (.call 27 [(.c (.i .i64 (40))), (.c (.i .i64 (1))), (.t 23)]), none, []⟩,
      ⟨(some 25), (.call 25 [(.c (.i .i64 (0)))]), none, []⟩,
      ⟨(some 26), (.call 25 [(.c (.i .i64 (0)))]), none, []⟩,
      ⟨(some 27), (.call 24 [(.c (.i .i64 (43))), (.t 25), (.t 26)]), none, []⟩,
      ⟨(some 28), (.call 26 [(.c (.i .i64 (1)))]), none, []⟩,
      ⟨(some 29), (.call 25 [(.c (.i .i64 (0)))]), none, []⟩,
      ⟨(some 30), (.call 24 [(.c (.i .i64 (45))), (.t 28), (.t 29)]), none, []⟩,
      ⟨(some 31), (.bsl 5 3 [(.i .i64 (0)), (.i .i64 (0)), .ns, (.s []), .ns, (.i .i64 (0)), (.i .i64 (0)), .ns, (.s []), .ns, (.i .i64 (0)), (.i .i64 (0)), .ns, (.s []), .ns] [(0, 5, (.t 24)), (5, 5, (.t 27)), (10, 5, (.t 30))]), none, []⟩,
      ⟨(some 32), (.call 23 [(.c (.i .i64 (1))), (.t 31)]), none, []⟩,
      ⟨(some 33), (.bsl 1 1 [(.i .i64 (0))] [(0, 1, (.c (.i .i64 (1))))]), none, []⟩,
      ⟨(some 34), (.call 22 [(.t 22), (.t 32), (.t 33)]), none, []⟩,
      ⟨(some 1), (.mov (.t 34)), none, []⟩] [])
    (.seq (.region [⟨(some 35), (.call 25 [(.c (.i .i64 (0)))]), none, []⟩,
      ⟨(some 36), (.call 27 [(.c (.i .i64 (7))), (.c (.i .i64 (0))), (.t 35)]), none, []⟩,
      ⟨(some 37), (.bsl 5 1 [(.i .i64 (0)), (.i .i64 (0)), .ns, (.s []), .ns] [(0, 5, (.t 36))]), none, []⟩,
      ⟨(some 38), (.call 23 [(.c (.i .i64 (1))), (.t 37)]), none, []⟩,
      ⟨(some 39), (.call 25 [(.c (.i .i64 (0)))]), none, []⟩,
      ⟨(some 40), (.call 27 [(.c (.i .i64 (40))), (.c (.i .i64 (2))), (.t 39)]), none, []⟩,
      ⟨(some 41), (.call 25 [(.c (.i .i64 (0)))]), none, []⟩,
      ⟨(some 42), (.call 27 [(.c (.i .i64 (42))), (.c (.i .i64 (0))), (.t 41)]), none, []⟩,
      ⟨(some 43), (.bsl 5 2 [(.i .i64 (0)), (.i .i64 (0)), .ns, (.s []), .ns, (.i .i64 (0)), (.i .i64 (0)), .ns, (.s []), .ns] [(0, 5, (.t 40)), (5, 5, (.t 42))]), none, []⟩,
      ⟨(some 44), (.call 23 [(.c (.i .i64 (1))), (.t 43)]), none, []⟩,
      ⟨(some 45), (.bsl 1 1 [(.i .i64 (0))] [(0, 1, (.c (.i .i64 (2))))]), none, []⟩,
      ⟨(some 46), (.call 22 [(.t 38), (.t 44), (.t 45)]), none, []⟩,
      ⟨(some 2), (.mov (.t 46)), none, []⟩] [])
    (.seq (.region [⟨(some 47), (.call 28 [(.c (.i .i64 (1)))]), none, []⟩,
      ⟨(some 48), (.call 28 [(.c (.i .i64 (2)))]), none, []⟩,
      ⟨(some 49), (.call 24 [(.c (.i .i64 (16))), (.t 47), (.t 48)]), none, []⟩,
      ⟨(some 50), (.call 26 [(.c (.i .i64 (0)))]), none, []⟩,
      ⟨(some 51), (.call 27 [(.c (.i .i64 (7))), (.c (.i .i64 (0))), (.t 50)]), none, []⟩,
      ⟨(some 52), (.bsl 5 2 [(.i .i64 (0)), (.i .i64 (0)), .ns, (.s []), .ns, (.i .i64 (0)), (.i .i64 (0)), .ns, (.s []), .ns] [(0, 5, (.t 49)), (5, 5, (.t 51))]), none, []⟩,
      ⟨(some 53), (.call 23 [(.c (.i .i64 (0))), (.t 52)]), none, []⟩,
      ⟨(some 54), (.call 28 [(.c (.i .i64 (1)))]), none, []⟩,
      ⟨(some 55), (.call 28 [(.c (.i .i64 (2)))]), none, []⟩,
      ⟨(some 56), (.call 24 [(.c (.i .i64 (46))), (.t 54), (.t 55)]), none, []⟩,
      ⟨(some 57), (.call 26 [(.c (.i .i64 (0)))]), none, []⟩,
      ⟨(some 58), (.call 27 [(.c (.i .i64 (42))), (.c (.i .i64 (0))), (.t 57)]), none, []⟩,
      ⟨(some 59), (.bsl 5 2 [(.i .i64 (0)), (.i .i64 (0)), .ns, (.s []), .ns, (.i .i64 (0)), (.i .i64 (0)), .ns, (.s []), .ns] [(0, 5, (.t 56)), (5, 5, (.t 58))]), none, []⟩,
      ⟨(some 60), (.call 23 [(.c (.i .i64 (0))), (.t 59)]), none, []⟩,
      ⟨(some 61), (.call 22 [(.t 53), (.t 60), (.c .ns)]), none, []⟩,
      ⟨(some 3), (.mov (.t 61)), none, []⟩] [])
    (.seq (.region [⟨(some 62), (.call 25 [(.c (.i .i64 (0)))]), none, []⟩,
      ⟨(some 63), (.call 28 [(.c (.i .i64 (1)))]), none, []⟩,
      ⟨(some 64), (.call 24 [(.c (.i .i64 (9))), (.t 62), (.t 63)]), none, []⟩,
      ⟨(some 65), (.bsl 5 1 [(.i .i64 (0)), (.i .i64 (0)), .ns, (.s []), .ns] [(0, 5, (.t 64))]), none, []⟩,
      ⟨(some 66), (.call 23 [(.c (.i .i64 (1))), (.t 65)]), none, []⟩,
      ⟨(some 67), (.call 25 [(.c (.i .i64 (0)))]), none, []⟩,
      ⟨(some 68), (.call 28 [(.c (.i .i64 (1)))]), none, []⟩,
      ⟨(some 69), (.call 24 [(.c (.i .i64 (9))), (.t 67), (.t 68)]), none, []⟩,
      ⟨(some 70), (.bsl 5 1 [(.i .i64 (0)), (.i .i64 (0)), .ns, (.s []), .ns] [(0, 5, (.t 69))]), none, []⟩,
      ⟨(some 71), (.call 23 [(.c (.i .i64 (1))), (.t 70)]), none, []⟩,
      ⟨(some 72), (.bsl 1 1 [(.i .i64 (0))] [(0, 1, (.c (.i .i64 (3))))]), none, []⟩,
      ⟨(some 73), (.call 22 [(.t 66), (.t 71), (.t 72)]), none, []⟩,
      ⟨(some 4), (.mov (.t 73)), none, []⟩] [])
    (.seq (.region [⟨(some 74), (.call 25 [(.c (.i .i64 (0)))]), none, []⟩,
      ⟨(some 75), (.call 27 [(.c (.i .i64 (40))), (.c (.i .i64 (1))), (.t 74)]), none, []⟩,
      ⟨(some 76), (.call 25 [(.c (.i .i64 (0)))]), none, []⟩,
      ⟨(some 77), (.call 28 [(.c (.i .i64 (1)))]), none, []⟩,
      ⟨(some 78), (.call 24 [(.c (.i .i64 (17))), (.t 76), (.t 77)]), none, []⟩,
      ⟨(some 79), (.bsl 5 2 [(.i .i64 (0)), (.i .i64 (0)), .ns, (.s []), .ns, (.i .i64 (0)), (.i .i64 (0)), .ns, (.s []), .ns] [(0, 5, (.t 75)), (5, 5, (.t 78))]), none, []⟩,
      ⟨(some 80), (.call 23 [(.c (.i .i64 (1))), (.t 79)]), none, []⟩,
      ⟨(some 81), (.call 25 [(.c (.i .i64 (0)))]), none, []⟩,
      ⟨(some 82), (.call 27 [(.c (.i .i64 (40))), (.c (.i .i64 (1))), (.t 81)]), none, []⟩,
      ⟨(some 83), (.call 25 [(.c (.i .i64 (0)))]), none, []⟩,
      ⟨(some 84), (.call 28 [(.c (.i .i64 (1)))]), none, []⟩,
      ⟨(some 85), (.call 24 [(.c (.i .i64 (47))), (.t 83), (.t 84)]), none, []⟩,
      ⟨(some 86), (.bsl 5 2 [(.i .i64 (0)), (.i .i64 (0)), .ns, (.s []), .ns, (.i .i64 (0)), (.i .i64 (0)), .ns, (.s []), .ns] [(0, 5, (.t 82)), (5, 5, (.t 85))]), none, []⟩,
      ⟨(some 87), (.call 23 [(.c (.i .i64 (1))), (.t 86)]), none, []⟩,
      ⟨(some 88), (.bsl 1 1 [(.i .i64 (0))] [(0, 1, (.c (.i .i64 (1))))]), none, []⟩,
      ⟨(some 89), (.call 22 [(.t 80), (.t 87), (.t 88)]), none, []⟩,
      ⟨(some 5), (.mov (.t 89)), none, []⟩] [])
    (.seq (.region [⟨(some 90), (.call 25 [(.c (.i .i64 (0)))]), none, []⟩,
      ⟨(some 91), (.call 27 [(.c (.i .i64 (40))), (.c (.i .i64 (3))), (.t 90)]), none, []⟩,
      ⟨(some 92), (.call 25 [(.c (.i .i64 (0)))]), none, []⟩,
      ⟨(some 93), (.call 27 [(.c (.i .i64 (6))), (.c (.i .i64 (0))), (.t 92)]), none, []⟩,
      ⟨(some 94), (.bsl 5 2 [(.i .i64 (0)), (.i .i64 (0)), .ns, (.s []), .ns, (.i .i64 (0)), (.i .i64 (0)), .ns, (.s []), .ns] [(0, 5, (.t 91)), (5, 5, (.t 93))]), none, []⟩,
      ⟨(some 95), (.call 23 [(.c (.i .i64 (1))), (.t 94)]), none, []⟩,
      ⟨(some 96), (.call 25 [(.c (.i .i64 (0)))]), none, []⟩,
      ⟨(some 97), (.call 27 [(.c (.i .i64 (40))), (.c (.i .i64 (3))), (.t 96)]), none, []⟩,
      ⟨(some 98), (.call 25 [(.c (.i .i64 (0)))]), none, []⟩,
      ⟨(some 99), (.call 27 [(.c (.i .i64 (6))), (.c (.i .i64 (0))), (.t 98)]), none, []⟩,
      ⟨(some 100), (.bsl 5 2 [(.i .i64 (0)), (.i .i64 (0)), .ns, (.s []), .ns, (.i .i64 (0)), (.i .i64 (0)), .ns, (.s []), .ns] [(0, 5, (.t 97)), (5, 5, (.t 99))]), none, []⟩,
      ⟨(some 101), (.call 23 [(.c (.i .i64 (1))), (.t 100)]), none, []⟩,
      ⟨(some 102), (.bsl 1 1 [(.i .i64 (0))] [(0, 1, (.c (.i .i64 (1))))]), none, []⟩,
      ⟨(some 103), (.call 22 [(.t 95), (.t 101), (.t 102)]), none, []⟩,
      ⟨(some 6), (.mov (.t 103)), none, []⟩] [])
    (.seq (.region [⟨(some 104), (.call 25 [(.c (.i .i64 (0)))]), none, []⟩,
      ⟨(some 105), (.call 28 [(.c (.i .i64 (1)))]), none, []⟩,
      ⟨(some 106), (.call 24 [(.c (.i .i64 (12))), (.t 104), (.t 105)]), none, []⟩,
      ⟨(some 107), (.call 25 [(.c (.i .i64 (0)))]), none, []⟩,
      ⟨(some 108), (.call 28 [(.c (.i .i64 (1)))]), none, []⟩,
      ⟨(some 109), (.call 24 [(.c (.i .i64 (14))), (.t 107), (.t 108)]), none, []⟩,
      ⟨(some 110), (.call 26 [(.c (.i .i64 (0)))]), none, []⟩,
      ⟨(some 111), (.call 28 [(.c (.i .i64 (2)))]), none, []⟩,
      ⟨(some 112), (.call 24 [(.c (.i .i64 (9))), (.t 110), (.t 111)]), none, []⟩,
      ⟨(some 113), (.bsl 5 3 [(.i .i64 (0)), (.i .i64 (0)), .ns, (.s []), .ns, (.i .i64 (0)), (.i .i64 (0)), .ns, (.s []), .ns, (.i .i64 (0)), (.i .i64 (0)), .ns, (.s []), .ns] [(0, 5, (.t 106)), (5, 5, (.t 109)), (10, 5, (.t 112))]), none, []⟩,
      ⟨(some 114), (.call 23 [(.c (.i .i64 (1))), (.t 113)]), none, []⟩,
      ⟨(some 115), (.call 25 [(.c (.i .i64 (0)))]), none, []⟩,
      ⟨(some 116), (.call 28 [(.c (.i .i64 (1)))]), none, []⟩,
      ⟨(some 117), (.call 24 [(.c (.i .i64 (12))), (.t 115), (.t 116)]), none, []⟩,
      ⟨(some 118), (.call 25 [(.c (.i .i64 (0)))]), none, []⟩,
      ⟨(some 119), (.call 28 [(.c (.i .i64 (1)))]), none, []⟩,
      ⟨(some 120), (.call 24 [(.c (.i .i64 (14))), (.t 118), (.t 119)]), none, []⟩,
      ⟨(some 121), (.call 26 [(.c (.i .i64 (0)))]), none, []⟩,
      ⟨(some 122), (.call 28 [(.c (.i .i64 (2)))]), none, []⟩,
      ⟨(some 123), (.call 24 [(.c (.i .i64 (43))), (.t 121), (.t 122)]), none, []⟩,
      ⟨(some 124), (.bsl 5 3 [(.i .i64 (0)), (.i .i64 (0)), .ns, (.s []), .ns, (.i .i64 (0)), (.i .i64 (0)), .ns, (.s []), .ns, (.i .i64 (0)), (.i .i64 (0)), .ns, (.s []), .ns] [(0, 5, (.t 117)), (5, 5, (.t 120)), (10, 5, (.t 123))]), none, []⟩,
      ⟨(some 125), (.call 23 [(.c (.i .i64 (1))), (.t 124)]), none, []⟩,
      ⟨(some 126), (.bsl 1 1 [(.i .i64 (0))] [(0, 1, (.c (.i .i64 (1))))]), none, []⟩,
      ⟨(some 127), (.call 22 [(.t 114), (.t 125), (.t 126)]), none, []⟩,
      ⟨(some 7), (.mov (.t 127)), none, []⟩] [])
    (.seq (.region [⟨(some 129), (.build [(.i .i64 (0)), (.i .i64 (0)), (.i .i64 (0)), (.i .i64 (0)), .ns, .ns, (.i .i64 (0)), (.i .i64 (0)), (.i .i64 (0)), (.i .i64 (0)), (.i .i64 (0)), (.i .i64 (0)), (.s []), .ns, .ns, (.i .i64 (0))] [(3, 1, (.c (.i .i64 (-1))))]), none, []⟩,
      ⟨(some 130), (.call 19 [(.t 129), (.c .ns)]), none, []⟩,
      ⟨(some 128), (.mov (.t 130)), none, []⟩,
      ⟨(some 131), (.ext (.t 128) 0), none, []⟩,
      ⟨(some 132), (.ext (.t 128) 1), none, []⟩,
      ⟨(some 8), (.alloc [(.i .i64 (0)), (.i .i64 (0)), (.i .i64 (0)), (.i .i64 (0)), .ns, .ns, (.i .i64 (0)), (.i .i64 (0)), (.i .i64 (0)), (.i .i64 (0)), (.i .i64 (0)), (.i .i64 (0)), (.s []), .ns, .ns, (.i .i64 (0))]), none, []⟩,
      ⟨none, (.store 16 (.t 8) (.t 131)), none, []⟩,
      ⟨(some 9), (.mov (.t 132)), none, []⟩] [])
    (.seq (.region [⟨(some 133), (.call 7 []), none, []⟩,
      ⟨(some 10), (.mov (.t 133)), none, []⟩] [])
    (.seq (.region [⟨(some 134), (.mov (.t 10)), none, []⟩,
      ⟨(some 135), (.call 9 [(.t 134), (.c (.i .i64 (-1))), (.c (.i .i64 (0))), (.c .ns)]), none, []⟩,
      ⟨(some 136), (.bin .eql (.t 135) (.c (.i .i64 (2)))), none, []⟩,
      ⟨(some 137), (.mov (.t 136)), none, []⟩,
      ⟨(some 138), (.mov (.t 10)), (some (137, true)), []⟩,
      ⟨(some 139), (.call 9 [(.t 138), (.c (.i .i64 (16))), (.c (.i .i64 (0))), (.c .ns)]), (some (137, true)), []⟩,
      ⟨(some 140), (.bin .eql (.t 139) (.c (.i .i64 (2)))), (some (137, true)), []⟩,
      ⟨(some 141), (.pick (.t 137) (.t 140) (.c (.b false))), none, []⟩,
      ⟨(some 142), (.mov (.t 141)), none, []⟩,
      ⟨(some 143), (.mov (.t 10)), (some (142, true)), []⟩,
      ⟨(some 144), (.call 9 [(.t 143), (.c (.i .i64 (0))), (.c (.i .i64 (512))), (.c .ns)]), (some (142, true)), []⟩,
      ⟨(some 145), (.bin .eql (.t 144) (.c (.i .i64 (2)))), (some (142, true)), []⟩,
      ⟨(some 146), (.pick (.t 142) (.t 145) (.c (.b false))), none, []⟩,
      ⟨(some 147), (.mov (.t 146)), none, []⟩,
      ⟨(some 148), (.mov (.t 10)), (some (147, true)), []⟩,
      ⟨(some 149), (.call 9 [(.t 148), (.c (.i .i64 (0))), (.c (.i .i64 (-1))), (.c .ns)]), (some (147, true)), []⟩,
      ⟨(some 150), (.bin .eql (.t 149) (.c (.i .i64 (2)))), (some (147, true)), []⟩,
      ⟨(some 151), (.pick (.t 147) (.t 150) (.c (.b false))), none, []⟩,
      ⟨(some 152), (.mov (.t 151)), none, []⟩,
      ⟨(some 153), (.mov (.t 10)), (some (152, true)), []⟩,
      ⟨(some 154), (.mksl 5 80 [(.i .i64 (0)), (.i .i64 (0)), (.s []), .ns, .ns] (.c (.i .i64 (65))) (.c (.i .i64 (65)))), (some (152, true)), []⟩,
      ⟨(some 155), (.call 9 [(.t 153), (.c (.i .i64 (0))), (.c (.i .i64 (0))), (.t 154)]), (some (152, true)), []⟩,
      ⟨(some 156), (.bin .eql (.t 155) (.c (.i .i64 (2)))), (some (152, true)), []⟩,
      ⟨(some 157), (.pick (.t 152) (.t 156) (.c (.b false))), none, []⟩,
      ⟨(some 158), (.mov (.t 157)), none, []⟩,
      ⟨(some 159), (.mov (.t 10)), (some (158, true)), []⟩,
      ⟨(some 160), (.build [(.i .i64 (0)), (.i .i64 (0)), (.s []), .ns, .ns] [(0, 1, (.c (.i .i64 (9))))]), (some (158, true)), []⟩,
      ⟨(some 161), (.bsl 5 1 [(.i .i64 (0)), (.i .i64 (0)), (.s []), .ns, .ns] [(0, 5, (.t 160))]), (some (158, true)), []⟩,
      ⟨(some 162), (.call 9 [(.t 159), (.c (.i .i64 (0))), (.c (.i .i64 (0))), (.t 161)]), (some (158, true)), []⟩,
      ⟨(some 163), (.bin .eql (.t 162) (.c (.i .i64 (2)))), (some (158, true)), []⟩,
      ⟨(some 164), (.pick (.t 158) (.t 163) (.c (.b false))), none, []⟩,
      ⟨(some 165), (.mov (.t 164)), none, []⟩,
      ⟨(some 166), (.mov (.t 10)), (some (165, true)), []⟩,
      ⟨(some 167), (.mksl 5 80 [(.i .i64 (0)), (.i .i64 (0)), (.s []), .ns, .ns] (.c (.i .i64 (64))) (.c (.i .i64 (64)))), (some (165, true)), []⟩,
      ⟨(some 168), (.call 9 [(.t 166), (.c (.i .i64 (15))), (.c (.i .i64 (511))), (.t 167)]), (some (165, true)), []⟩,
      ⟨(some 169), (.bin .eql (.t 168) (.c (.i .i64 (0)))), (some (165, true)), []⟩,
      ⟨(some 170), (.pick (.t 165) (.t 169) (.c (.b false))), none, []⟩,
      ⟨(some 171), (.mov (.t 170)), none, []⟩,
      ⟨(some 172), (.mov (.t 10)), (some (171, true)), []⟩,
      ⟨(some 173), (.mksl 5 80 [(.i .i64 (0)), (.i .i64 (0)), (.s []), .ns, .ns] (.c (.i .i64 (1))) (.c (.i .i64 (1)))), (some (171, true)), []⟩,
      ⟨(some 174), (.call 9 [(.t 172), (.c (.i .i64 (15))), (.c (.i .i64 (511))), (.t 173)]), (some (171, true)), []⟩,
      ⟨(some 175), (.bin .eql (.t 174) (.c (.i .i64 (0)))), (some (171, true)), []⟩,
      ⟨(some 176), (.pick (.t 171) (.t 175) (.c (.b false))), none, []⟩,
      ⟨(some 11), (.mov (.t 176)), none, []⟩] [])
    (.seq (.region [⟨(some 177), (.mov (.t 10)), none, []⟩,
      ⟨(some 178), (.call 13 [(.t 177), (.c (.i .i64 (15))), (.c (.i .i64 (511)))]), none, []⟩,
      ⟨(some 12), (.mov (.t 178)), none, []⟩] [])
    (.seq (.region [⟨(some 13), (.mov (.c .np)), none, []⟩] [])
    (.seq (.seq (.region [⟨(some 14), (.mov (.c (.i .i64 (0)))), none, []⟩] [])
    (.block 0
      (.loop L6a)))
    (.seq (.region [⟨(some 199), (.mov (.c (.b true))), none, []⟩,
      ⟨(some 200), (.call 18 []), (some (199, true)), []⟩,
      ⟨(some 201), (.pick (.t 199) (.t 200) (.c (.b false))), none, []⟩,
      ⟨(some 202), (.mov (.t 201)), none, []⟩,
      ⟨(some 203), (.mov (.t 1)), (some (202, true)), []⟩,
      ⟨(some 204), (.pick (.t 202) (.t 203) (.c (.b false))), none, []⟩,
      ⟨(some 205), (.mov (.t 204)), none, []⟩,
      ⟨(some 206), (.mov (.t 2)), (some (205, true)), []⟩,
      ⟨(some 207), (.pick (.t 205) (.t 206) (.c (.b false))), none, []⟩,
      ⟨(some 208), (.mov (.t 207)), none, []⟩,
      ⟨(some 209), (.mov (.t 3)), (some (208, true)), []⟩,
      ⟨(some 210), (.pick (.t 208) (.t 209) (.c (.b false))), none, []⟩,
      ⟨(some 211), (.mov (.t 210)), none, []⟩,
      ⟨(some 212), (.mov (.t 4)), (some (211, true)), []⟩,
      ⟨(some 213), (.pick (.t 211) (.t 212) (.c (.b false))), none, []⟩,
      ⟨(some 214), (.mov (.t 213)), none, []⟩,
      ⟨(some 215), (.mov (.t 5)), (some (214, true)), []⟩,
      ⟨(some 216), (.pick (.t 214) (.t 215) (.c (.b false))), none, []⟩,
      ⟨(some 217), (.mov (.t 216)), none, []⟩,
      ⟨(some 218), (.mov (.t 6)), (some (217, true)), []⟩,
      ⟨(some 219), (.pick (.t 217) (.t 218) (.c (.b false))), none, []⟩,
      ⟨(some 220), (.mov (.t 219)), none, []⟩,
      ⟨(some 221), (.mov (.t 7)), (some (220, true)), []⟩,
      ⟨(some 222), (.pick (.t 220) (.t 221) (.c (.b false))), none, []⟩,
      ⟨(some 223), (.mov (.t 222)), none, []⟩,
      ⟨(some 224), (.mov (.t 9)), (some (223, true)), []⟩,
      ⟨(some 225), (.bin .eql (.t 224) (.c (.i .i64 (2)))), (some (223, true)), []⟩,
      ⟨(some 226), (.pick (.t 223) (.t 225) (.c (.b false))), none, []⟩,
      ⟨(some 227), (.mov (.t 226)), none, []⟩,
      ⟨(some 228), (.mov (.t 11)), (some (227, true)), []⟩,
      ⟨(some 229), (.pick (.t 227) (.t 228) (.c (.b false))), none, []⟩,
      ⟨(some 230), (.mov (.t 229)), none, []⟩,
      ⟨(some 231), (.mov (.t 12)), (some (230, true)), []⟩,
      ⟨(some 232), (.lenk 0 (.t 231)), (some (230, true)), []⟩,
      ⟨(some 233), (.bin .eql (.t 232) (.c (.i .i64 (64)))), (some (230, true)), []⟩,
      ⟨(some 234), (.pick (.t 230) (.t 233) (.c (.b false))), none, []⟩,
      ⟨(some 235), (.mov (.t 234)), none, []⟩,
      ⟨(some 236), (.mov (.t 12)), (some (235, true)), []⟩,
      ⟨(some 237), (.iaddr 1 (.t 236) (.c (.i .i64 (0)))), (some (235, true)), []⟩,
      ⟨(some 238), (.load none (.t 237)), (some (235, true)), []⟩,
      ⟨(some 239), (.bin .eql (.t 238) (.c (.i .i64 (0)))), (some (235, true)), []⟩,
      ⟨(some 240), (.pick (.t 235) (.t 239) (.c (.b false))), none, []⟩,
      ⟨(some 241), (.mov (.t 240)), none, []⟩,
      ⟨(some 242), (.mov (.t 12)), (some (241, true)), []⟩,
      ⟨(some 243), (.iaddr 1 (.t 242) (.c (.i .i64 (1)))), (some (241, true)), []⟩,
      ⟨(some 244), (.load none (.t 243)), (some (241, true)), []⟩,
      ⟨(some 245), (.bin .eql (.t 244) (.c (.i .i64 (-1)))), (some (241, true)), []⟩,
      ⟨(some 246), (.pick (.t 241) (.t 245) (.c (.b false))), none, []⟩,
      ⟨(some 247), (.mov (.t 246)), none, []⟩,
      ⟨(some 248), (.mov (.t 12)), (some (247, true)), []⟩,
      ⟨(some 249), (.iaddr 1 (.t 248) (.c (.i .i64 (63)))), (some (247, true)), []⟩,
      ⟨(some 250), (.load none (.t 249)), (some (247, true)), []⟩,
      ⟨(some 251), (.bin .eql (.t 250) (.c (.i .i64 (-1)))), (some (247, true)), []⟩,
      ⟨(some 252), (.pick (.t 247) (.t 251) (.c (.b false))), none, []⟩,
      ⟨(some 253), (.mov (.t 252)), none, []⟩,
      ⟨(some 254), (.mov (.t 10)), (some (253, true)), []⟩,
      ⟨(some 255), (.call 14 [(.t 254), (.c (.i .i64 (0))), (.c (.i .i64 (0)))]), (some (253, true)), []⟩,
      ⟨(some 256), (.bin .eql (.t 255) (.c (.i .i64 (0)))), (some (253, true)), []⟩,
      ⟨(some 257), (.pick (.t 253) (.t 256) (.c (.b false))), none, []⟩,
      ⟨(some 258), (.mov (.t 257)), none, []⟩,
      ⟨(some 259), (.mov (.t 10)), (some (258, true)), []⟩,
      ⟨(some 260), (.call 13 [(.t 259), (.c (.i .i64 (0))), (.c (.i .i64 (0)))]), (some (258, true)), []⟩,
      ⟨(some 261), (.lenk 0 (.t 260)), (some (258, true)), []⟩,
      ⟨(some 262), (.bin .eql (.t 261) (.c (.i .i64 (0)))), (some (258, true)), []⟩,
      ⟨(some 263), (.pick (.t 258) (.t 262) (.c (.b false))), none, []⟩,
      ⟨(some 0), (.mov (.t 263)), none, []⟩] [])
    .ret))))))))))))))),
    264, 0, [.t 0], 0⟩
theorem tr6 : trFunc Tryd.prog [([], []), ([], []), ([], []), ([], []), ([], []), ([], []), ([], []), ([], []), ([], []), ([], []), ([], []), ([], []), ([], []), ([], []), ([], []), ([], []), ([], []), ([], []), ([], []), ([], []), ([], []), ([], [])] 0 Tryd.f6 = some I6 := by kernel_rfl

/-- 'encore/guess.New'. -/
def I7 : IFunc :=
  ⟨(.seq (.region [⟨(some 0), (.mov (.c .np)), none, []⟩] [])
    (.seq (.region [⟨(some 1), .mkmap, none, []⟩,
      ⟨(some 2), (.build [.nm] [(0, 1, (.t 1))]), none, []⟩,
      ⟨(some 3), (.box (.t 2)), none, []⟩,
      ⟨(some 0), (.mov (.t 3)), none, []⟩] [])
    .ret)),
    4, 0, [.t 0], 0⟩
theorem tr7 : trFunc Tryd.prog [([], []), ([], [])] 0 Tryd.f7 = some I7 := by kernel_rfl

/-- '(*encore/guess.Profile).Note'. -/
def L9a : ICode :=
  (.seq (.region [⟨(some 42), (.bin .lss (.t 41) (.t 40)), none, []⟩] [])
    (.seq (.cond (.t 42)
      .skip
      (.exit 0))
    (.seq (.block 1
      (.seq (.region [⟨(some 43), (.mov (.t 41)), none, []⟩,
        ⟨(some 44), (.iaddr 5 (.t 39) (.t 41)), none, []⟩,
        ⟨(some 45), (.load (some 5) (.t 44)), none, []⟩,
        ⟨(some 11), (.alloc [(.i .i64 (0)), (.i .i64 (0)), (.s []), .ns, .ns]), none, []⟩,
        ⟨(some 10), (.mov (.t 43)), none, []⟩,
        ⟨none, (.store 5 (.t 11) (.t 45)), none, []⟩] [])
      (.seq (.seq (.region [⟨(some 46), (.load (some 5) (.t 11)), none, []⟩,
        ⟨(some 47), (.call 30 [(.t 46)]), none, []⟩,
        ⟨(some 48), (.bin .neq (.t 47) (.c (.i .i64 (0)))), none, []⟩] [])
      (.cond (.t 48)
        (.seq (.region [⟨(some 8), (.mov (.c (.i .i64 (2)))), none, []⟩] [])
        .ret)
        .skip))
      (.region [⟨(some 49), (.mov (.t 9)), none, []⟩,
        ⟨(some 50), (.mov (.t 10)), none, []⟩,
        ⟨(some 51), (.off (.t 11) 0), none, []⟩,
        ⟨(some 52), (.load none (.t 51)), none, []⟩,
        ⟨(some 53), (.iaddr 1 (.t 49) (.t 50)), none, []⟩,
        ⟨none, (.store 1 (.t 53) (.t 52)), none, []⟩] []))))
    (.region [⟨(some 54), (.bin .add (.t 41) (.c (.i .i64 (1)))), none, []⟩,
      ⟨(some 41), (.mov (.t 54)), none, []⟩] []))))
def I9 : IFunc :=
  ⟨(.seq (.region [⟨(some 8), (.mov (.c (.i .i64 (0)))), none, []⟩] [])
    (.seq (.seq (.region [⟨(some 15), (.mov (.t 0)), none, []⟩,
      ⟨(some 16), (.call 29 [(.t 15)]), none, []⟩] [])
    (.cond (.t 16)
      (.seq (.region [⟨(some 8), (.mov (.c (.i .i64 (1)))), none, []⟩] [])
      .ret)
      .skip))
    (.seq (.seq (.region [⟨(some 17), (.mov (.t 1)), none, []⟩,
      ⟨(some 18), (.bin .lss (.t 17) (.c (.i .i64 (0)))), none, []⟩,
      ⟨(some 19), (.mov (.t 18)), none, []⟩,
      ⟨(some 20), (.mov (.t 1)), (some (19, false)), []⟩,
      ⟨(some 21), (.bin .geq (.t 20) (.c (.i .i64 (16)))), (some (19, false)), []⟩,
      ⟨(some 22), (.pick (.t 19) (.c (.b true)) (.t 21)), none, []⟩,
      ⟨(some 23), (.mov (.t 22)), none, []⟩,
      ⟨(some 24), (.mov (.t 2)), (some (23, false)), []⟩,
      ⟨(some 25), (.bin .lss (.t 24) (.c (.i .i64 (0)))), (some (23, false)), []⟩,
      ⟨(some 26), (.pick (.t 23) (.c (.b true)) (.t 25)), none, []⟩,
      ⟨(some 27), (.mov (.t 26)), none, []⟩,
      ⟨(some 28), (.mov (.t 2)), (some (27, false)), []⟩,
      ⟨(some 29), (.bin .geq (.t 28) (.c (.i .i64 (512)))), (some (27, false)), []⟩,
      ⟨(some 30), (.pick (.t 27) (.c (.b true)) (.t 29)), none, []⟩,
      ⟨(some 31), (.mov (.t 30)), none, []⟩,
      ⟨(some 32), (.mov (.t 3)), (some (31, false)), []⟩,
      ⟨(some 33), (.lenk 0 (.t 32)), (some (31, false)), []⟩,
      ⟨(some 34), (.bin .gtr (.t 33) (.c (.i .i64 (64)))), (some (31, false)), []⟩,
      ⟨(some 35), (.pick (.t 31) (.c (.b true)) (.t 34)), none, []⟩] [])
    (.cond (.t 35)
      (.seq (.region [⟨(some 8), (.mov (.c (.i .i64 (2)))), none, []⟩] [])
      .ret)
      .skip))
    (.seq (.region [⟨(some 36), (.mov (.t 3)), none, []⟩,
      ⟨(some 37), (.lenk 0 (.t 36)), none, []⟩,
      ⟨(some 38), (.mksl 1 8 [(.i .i64 (0))] (.t 37) (.t 37)), none, []⟩,
      ⟨(some 9), (.mov (.t 38)), none, []⟩] [])
    (.seq (.seq (.region [⟨(some 39), (.mov (.t 3)), none, []⟩,
      ⟨(some 40), (.lenk 0 (.t 39)), none, []⟩,
      ⟨(some 41), (.mov (.c (.i .i64 (0)))), none, []⟩] [])
    (.block 0
      (.loop L9a)))
    (.seq (.region [⟨(some 55), (.mov (.t 1)), none, []⟩,
      ⟨(some 56), (.mov (.t 2)), none, []⟩,
      ⟨(some 57), (.build [(.i .i64 (0)), (.i .i64 (0))] [(0, 1, (.t 55)), (1, 1, (.t 56))]), none, []⟩,
      ⟨(some 12), (.alloc [(.i .i64 (0)), (.i .i64 (0))]), none, []⟩,
      ⟨none, (.store 2 (.t 12) (.t 57)), none, []⟩] [])
    (.seq (.region [⟨(some 59), (.mov (.t 0)), none, []⟩,
      ⟨(some 60), (.nck (.t 59)), none, []⟩,
      ⟨(some 61), (.off (.t 60) 0), none, []⟩,
      ⟨(some 62), (.load none (.t 61)), none, []⟩,
      ⟨(some 63), (.load (some 2) (.t 12)), none, []⟩,
      ⟨(some 64), (.look true [1, 1] (.ag [(.i .i64 (0)), .ns]) true (.t 62) (.t 63)), none, []⟩,
      ⟨(some 58), (.mov (.t 64)), none, []⟩,
      ⟨(some 65), (.ext (.t 58) 0), none, []⟩,
      ⟨(some 66), (.ext (.t 58) 1), none, []⟩,
      ⟨(some 13), (.alloc [(.i .i64 (0)), .ns]), none, []⟩,
      ⟨none, (.store 2 (.t 13) (.t 65)), none, []⟩,
      ⟨(some 14), (.mov (.t 66)), none, []⟩] [])
    (.seq (.seq (.region [⟨(some 67), (.mov (.t 14)), none, []⟩] [])
    (.cond (.t 67)
      (.region [⟨(some 68), (.off (.t 13) 1), none, []⟩,
        ⟨(some 69), (.load none (.t 68)), none, []⟩,
        ⟨(some 70), (.mov (.t 9)), none, []⟩,
        ⟨(some 71), (.call 31 [(.t 69), (.t 70)]), none, []⟩,
        ⟨(some 9), (.mov (.t 71)), none, []⟩] [])
      .skip))
    (.seq (.region [⟨(some 72), (.mov (.t 0)), none, []⟩,
      ⟨(some 73), (.nck (.t 72)), none, []⟩,
      ⟨(some 74), (.off (.t 73) 0), none, []⟩,
      ⟨(some 75), (.load none (.t 74)), none, []⟩,
      ⟨(some 76), (.load (some 2) (.t 12)), none, []⟩,
      ⟨(some 77), (.off (.t 13) 0), none, []⟩,
      ⟨(some 78), (.load none (.t 77)), none, []⟩,
      ⟨(some 79), (.bin .add (.t 78) (.c (.i .i64 (1)))), none, []⟩,
      ⟨(some 80), (.mov (.t 9)), none, []⟩,
      ⟨(some 81), (.build [(.i .i64 (0)), .ns] [(0, 1, (.t 79)), (1, 1, (.t 80))]), none, []⟩,
      ⟨none, (.mapup true [1, 1] (.t 75) (.t 76) (.t 81)), none, []⟩] [])
    (.seq (.region [⟨(some 8), (.mov (.c (.i .i64 (0)))), none, []⟩] [])
    .ret)))))))))),
    82, 4, [.t 8], 0⟩
theorem tr9 : trFunc Tryd.prog [([], []), ([], []), ([], []), ([], []), ([], []), ([], []), ([], []), ([], []), ([], []), ([], []), ([], []), ([], []), ([], []), ([], []), ([], []), ([], []), ([], []), ([], []), ([0, 1, 2, 3, 4, 5, 6, 7, 8, 9, 10, 11], []), ([], []), ([], []), ([], []), ([0, 1, 2, 3, 4, 5, 6, 7, 8, 9, 10], []), ([], [])] 0 Tryd.f9 = some I9 := by kernel_rfl

/-- '(*encore/guess.Profile).Kinds'. -/
def I13 : IFunc :=
  ⟨(.seq (.region [⟨(some 6), (.mov (.c .ns)), none, []⟩] [])
    (.seq (.seq (.region [⟨(some 7), (.mov (.t 0)), none, []⟩,
      ⟨(some 8), (.call 29 [(.t 7)]), none, []⟩] [])
    (.cond (.t 8)
      (.seq (.region [⟨(some 6), (.mov (.c .ns)), none, []⟩] [])
      .ret)
      .skip))
    (.seq (.region [⟨(some 9), (.mov (.t 0)), none, []⟩,
      ⟨(some 10), (.nck (.t 9)), none, []⟩,
      ⟨(some 11), (.off (.t 10) 0), none, []⟩,
      ⟨(some 12), (.load none (.t 11)), none, []⟩,
      ⟨(some 13), (.mov (.t 1)), none, []⟩,
      ⟨(some 14), (.mov (.t 2)), none, []⟩,
      ⟨(some 15), (.build [(.i .i64 (0)), (.i .i64 (0))] [(0, 1, (.t 13)), (1, 1, (.t 14))]), none, []⟩,
      ⟨(some 16), (.look true [1, 1] (.ag [(.i .i64 (0)), .ns]) false (.t 12) (.t 15)), none, []⟩,
      ⟨(some 17), (.part none (.t 16) 1), none, []⟩,
      ⟨(some 18), (.call 36 [(.t 17)]), none, []⟩,
      ⟨(some 6), (.mov (.t 18)), none, []⟩] [])
    .ret))),
    19, 3, [.t 6], 0⟩
theorem tr13 : trFunc Tryd.prog [([], []), ([], []), ([], []), ([], []), ([], [])] 0 Tryd.f13 = some I13 := by kernel_rfl

/-- '(*encore/guess.Profile).Count'. -/
def I14 : IFunc :=
  ⟨(.seq (.region [⟨(some 6), (.mov (.c (.i .i64 (0)))), none, []⟩] [])
    (.seq (.seq (.region [⟨(some 7), (.mov (.t 0)), none, []⟩,
      ⟨(some 8), (.call 29 [(.t 7)]), none, []⟩] [])
    (.cond (.t 8)
      (.seq (.region [⟨(some 6), (.mov (.c (.i .i64 (0)))), none, []⟩] [])
      .ret)
      .skip))
    (.seq (.region [⟨(some 9), (.mov (.t 0)), none, []⟩,
      ⟨(some 10), (.nck (.t 9)), none, []⟩,
      ⟨(some 11), (.off (.t 10) 0), none, []⟩,
      ⟨(some 12), (.load none (.t 11)), none, []⟩,
      ⟨(some 13), (.mov (.t 1)), none, []⟩,
      ⟨(some 14), (.mov (.t 2)), none, []⟩,
      ⟨(some 15), (.build [(.i .i64 (0)), (.i .i64 (0))] [(0, 1, (.t 13)), (1, 1, (.t 14))]), none, []⟩,
      ⟨(some 16), (.look true [1, 1] (.ag [(.i .i64 (0)), .ns]) false (.t 12) (.t 15)), none, []⟩,
      ⟨(some 17), (.part none (.t 16) 0), none, []⟩,
      ⟨(some 6), (.mov (.t 17)), none, []⟩] [])
    .ret))),
    18, 3, [.t 6], 0⟩
theorem tr14 : trFunc Tryd.prog [([], []), ([], []), ([], []), ([], []), ([], [])] 0 Tryd.f14 = some I14 := by kernel_rfl

/-- 'encore/encoreref00.EqInts'. -/
def L16a : ICode :=
  (.seq (.seq (.region [⟨(some 11), (.mov (.t 5)), none, []⟩,
      ⟨(some 12), (.mov (.t 0)), none, []⟩,
      ⟨(some 13), (.lenk 0 (.t 12)), none, []⟩,
      ⟨(some 14), (.bin .lss (.t 11) (.t 13)), none, []⟩] [])
    (.cond (.t 14)
      .skip
      (.exit 0)))
    (.seq (.block 1
      (.seq (.region [⟨(some 17), (.mov (.t 0)), none, []⟩,
        ⟨(some 18), (.mov (.t 5)), none, []⟩,
        ⟨(some 19), (.iaddr 1 (.t 17) (.t 18)), none, []⟩,
        ⟨(some 20), (.load none (.t 19)), none, []⟩,
        ⟨(some 21), (.mov (.t 1)), none, []⟩,
        ⟨(some 22), (.mov (.t 5)), none, []⟩,
        ⟨(some 23), (.iaddr 1 (.t 21) (.t 22)), none, []⟩,
        ⟨(some 24), (.load none (.t 23)), none, []⟩,
        ⟨(some 25), (.bin .neq (.t 20) (.t 24)), none, []⟩] [])
      (.cond (.t 25)
        (.seq (.region [⟨(some 4), (.mov (.c (.b false))), none, []⟩] [])
        .ret)
        .skip)))
    (.region [⟨(some 15), (.mov (.t 5)), none, []⟩,
      ⟨(some 16), (.bin .add (.t 15) (.c (.i .i64 (1)))), none, []⟩,
      ⟨(some 5), (.mov (.t 16)), none, []⟩] [])))
def I16 : IFunc :=
  ⟨(.seq (.region [⟨(some 4), (.mov (.c (.b false))), none, []⟩] [])
    (.seq (.seq (.region [⟨(some 6), (.mov (.t 0)), none, []⟩,
      ⟨(some 7), (.lenk 0 (.t 6)), none, []⟩,
      ⟨(some 8), (.mov (.t 1)), none, []⟩,
      ⟨(some 9), (.lenk 0 (.t 8)), none, []⟩,
      ⟨(some 10), (.bin .neq (.t 7) (.t 9)), none, []⟩] [])
    (.cond (.t 10)
      (.seq (.region [⟨(some 4), (.mov (.c (.b false))), none, []⟩] [])
      .ret)
      .skip))
    (.seq (.seq (.region [⟨(some 5), (.mov (.c (.i .i64 (0)))), none, []⟩] [])
    (.block 0
      (.loop L16a)))
    (.seq (.region [⟨(some 4), (.mov (.c (.b true))), none, []⟩] [])
    .ret)))),
    26, 2, [.t 4], 0⟩
theorem tr16 : trFunc Tryd.prog [([], []), ([], []), ([], []), ([], []), ([], []), ([], []), ([], []), ([0, 1, 2, 3, 4, 5, 6, 7, 8], []), ([], []), ([], []), ([], []), ([], [])] 0 Tryd.f16 = some I16 := by kernel_rfl

/-- 'encore/encorelaw22.works'. -/
def I18 : IFunc :=
  ⟨(.seq (.region [⟨(some 0), (.mov (.c (.b false))), none, []⟩] [])
    (.seq (.region [⟨(some 7), (.call 25 [(.c (.i .i64 (0)))]), none, []⟩,
      ⟨(some 8), (.call 28 [(.c (.i .i64 (1)))]), none, []⟩,
      ⟨(some 9), (.call 24 [(.c (.i .i64 (9))), (.t 7), (.t 8)]), none, []⟩,
      ⟨(some 10), (.bsl 5 1 [(.i .i64 (0)), (.i .i64 (0)), .ns, (.s []), .ns] [(0, 5, (.t 9))]), none, []⟩,
      ⟨(some 11), (.call 23 [(.c (.i .i64 (2))), (.t 10)]), none, []⟩,
      ⟨(some 12), (.call 25 [(.c (.i .i64 (0)))]), none, []⟩,
      ⟨(some 13), (.call 27 [(.c (.i .i64 (40))), (.c (.i .i64 (1))), (.t 12)]), none, []⟩,
      ⟨(some 14), (.call 25 [(.c (.i .i64 (0)))]), none, []⟩,
      ⟨(some 15), (.call 28 [(.c (.i .i64 (1)))]), none, []⟩,
      ⟨(some 16), (.call 24 [(.c (.i .i64 (43))), (.t 14), (.t 15)]), none, []⟩,
      ⟨(some 17), (.bsl 5 2 [(.i .i64 (0)), (.i .i64 (0)), .ns, (.s []), .ns, (.i .i64 (0)), (.i .i64 (0)), .ns, (.s []), .ns] [(0, 5, (.t 13)), (5, 5, (.t 16))]), none, []⟩,
      ⟨(some 18), (.call 23 [(.c (.i .i64 (2))), (.t 17)]), none, []⟩,
      ⟨(some 19), (.bsl 1 1 [(.i .i64 (0))] [(0, 1, (.c (.i .i64 (1))))]), none, []⟩,
      ⟨(some 20), (.call 22 [(.t 11), (.t 18), (.t 19)]), none, []⟩,
      ⟨(some 1), (.mov (.t 20)), none, []⟩] [])
    (.seq (.region [⟨(some 21), (.call 25 [(.c (.i .i64 (0)))]), none, []⟩,
      ⟨(some 22), (.call 25 [(.c (.i .i64 (1)))]), none, []⟩,
      ⟨(some 23), (.call 24 [(.c (.i .i64 (9))), (.t 21), (.t 22)]), none, []⟩,
      ⟨(some 24), (.bsl 5 1 [(.i .i64 (0)), (.i .i64 (0)), .ns, (.s []), .ns] [(0, 5, (.t 23))]), none, []⟩,
      ⟨(some 25), (.call 23 [(.c (.i .i64 (2))), (.t 24)]), none, []⟩,
      ⟨(some 26), (.call 25 [(.c (.i .i64 (0)))]), none, []⟩,
      ⟨(some 27), (.call 27 [(.c (.i .i64 (40))), (.c (.i .i64 (1))), (.t 26)]), none, []⟩,
      ⟨(some 28), (.call 25 [(.c (.i .i64 (0)))]), none, []⟩,
      ⟨(some 29), (.call 25 [(.c (.i .i64 (1)))]), none, []⟩,
      ⟨(some 30), (.call 24 [(.c (.i .i64 (9))), (.t 28), (.t 29)]), none, []⟩,
      ⟨(some 31), (.bsl 5 2 [(.i .i64 (0)), (.i .i64 (0)), .ns, (.s []), .ns, (.i .i64 (0)), (.i .i64 (0)), .ns, (.s []), .ns] [(0, 5, (.t 27)), (5, 5, (.t 30))]), none, []⟩,
      ⟨(some 32), (.call 23 [(.c (.i .i64 (2))), (.t 31)]), none, []⟩,
      ⟨(some 33), (.bsl 1 2 [(.i .i64 (0)), (.i .i64 (0))] [(0, 1, (.c (.i .i64 (1)))), (1, 1, (.c (.i .i64 (-1))))]), none, []⟩,
      ⟨(some 34), (.call 22 [(.t 25), (.t 32), (.t 33)]), none, []⟩,
      ⟨(some 2), (.mov (.t 34)), none, []⟩] [])
    (.seq (.region [⟨(some 35), (.call 25 [(.c (.i .i64 (0)))]), none, []⟩,
      ⟨(some 36), (.call 27 [(.c (.i .i64 (8))), (.c (.i .i64 (0))), (.t 35)]), none, []⟩,
      ⟨(some 37), (.call 26 [(.c (.i .i64 (0)))]), none, []⟩,
      ⟨(some 38), (.call 25 [(.c (.i .i64 (1)))]), none, []⟩,
      ⟨(some 39), (.call 24 [(.c (.i .i64 (10))), (.t 37), (.t 38)]), none, []⟩,
      ⟨(some 40), (.call 25 [(.c (.i .i64 (0)))]), none, []⟩,
      ⟨(some 41), (.call 27 [(.c (.i .i64 (7))), (.c (.i .i64 (0))), (.t 40)]), none, []⟩,
      ⟨(some 42), (.bsl 5 3 [(.i .i64 (0)), (.i .i64 (0)), .ns, (.s []), .ns, (.i .i64 (0)), (.i .i64 (0)), .ns, (.s []), .ns, (.i .i64 (0)), (.i .i64 (0)), .ns, (.s []), .ns] [(0, 5, (.t 36)), (5, 5, (.t 39)), (10, 5, (.t 41))]), none, []⟩,
      ⟨(some 43), (.call 23 [(.c (.i .i64 (2))), (.t 42)]), none, []⟩,
      ⟨(some 44), (.call 25 [(.c (.i .i64 (0)))]), none, []⟩,
      ⟨(some 45), (.call 27 [(.c (.i .i64 (8))), (.c (.i .i64 (0))), (.t 44)]), none, []⟩,
      ⟨(some 46), (.call 25 [(.c (.i .i64 (1)))]), none, []⟩,
      ⟨(some 47), (.call 27 [(.c (.i .i64 (40))), (.c (.i .i64 (1))), (.t 46)]), none, []⟩,
      ⟨(some 48), (.call 26 [(.c (.i .i64 (0)))]), none, []⟩,
      ⟨(some 49), (.call 25 [(.c (.i .i64 (1)))]), none, []⟩,
      ⟨(some 50), (.call 24 [(.c (.i .i64 (44))), (.t 48), (.t 49)]), none, []⟩,
      ⟨(some 51), (.call 25 [(.c (.i .i64 (0)))]), none, []⟩,
      ⟨(some 52), (.call 27 [(.c (.i .i64 (7))), (.c (.i .i64 (0))), (.t 51)]), none, []⟩,
      ⟨(some 53), (.bsl 5 4 [(.i .i64 (0)), (.i .i64 (0)), .ns, (.s []), .ns, (.i .i64 (0)), (.i .i64 (0)), .ns, (.s []), .ns, (.i .i64 (0)), (.i .i64 (0)), .ns, (.s []), .ns, (.i .i64 (0)), (.i .i64 (0)), .ns, (.s []), .ns] [(0, 5, (.t 45)), (5, 5, (.t 47)), (10, 5, (.t 50)), (15, 5, (.t 52))]), none, []⟩,
      ⟨(some 54), (.call 23 [(.c (.i .i64 (2))), (.t 53)]), none, []⟩,
      ⟨(some 55), (.bsl 1 2 [(.i .i64 (0)), (.i .i64 (0))] [(0, 1, (.c (.i .i64 (4)))), (1, 1, (.c (.i .i64 (1))))]), none, []⟩,
      ⟨(some 56), (.call 22 [(.t 43), (.t 54), (.t 55)]), none, []⟩,
      ⟨(some 3), (.mov (.t 56)), none, []⟩] [])
    (.seq (.region [⟨(some 57), (.call 7 []), none, []⟩,
      ⟨(some 4), (.mov (.t 57)), none, []⟩] [])
    (.seq (.region [⟨(some 58), (.mov (.t 4)), none, []⟩,
      ⟨(some 59), (.build [(.i .i64 (0)), (.i .i64 (0)), (.s []), .ns, .ns] [(0, 1, (.c (.i .i64 (1)))), (1, 1, (.c (.i .i64 (5))))]), none, []⟩,
      ⟨(some 60), (.build [(.i .i64 (0)), (.i .i64 (0)), (.s []), .ns, .ns] [(0, 1, (.c (.i .i64 (3)))), (2, 1, (.c (.s [97])))]), none, []⟩,
      ⟨(some 61), (.bsl 5 2 [(.i .i64 (0)), (.i .i64 (0)), (.s []), .ns, .ns, (.i .i64 (0)), (.i .i64 (0)), (.s []), .ns, .ns] [(0, 5, (.t 59)), (5, 5, (.t 60))]), none, []⟩,
      ⟨(some 62), (.call 9 [(.t 58), (.c (.i .i64 (0))), (.c (.i .i64 (3))), (.t 61)]), none, []⟩,
      ⟨(some 5), (.mov (.t 62)), none, []⟩] [])
    (.seq (.region [⟨(some 63), (.mov (.t 4)), none, []⟩,
      ⟨(some 64), (.build [(.i .i64 (0)), (.i .i64 (0)), (.s []), .ns, .ns] [(0, 1, (.c (.i .i64 (1)))), (1, 1, (.c (.i .i64 (6))))]), none, []⟩,
      ⟨(some 65), (.build [(.i .i64 (0)), (.i .i64 (0)), (.s []), .ns, .ns] [(0, 1, (.c (.i .i64 (1)))), (1, 1, (.c (.i .i64 (7))))]), none, []⟩,
      ⟨(some 66), (.bsl 5 2 [(.i .i64 (0)), (.i .i64 (0)), (.s []), .ns, .ns, (.i .i64 (0)), (.i .i64 (0)), (.s []), .ns, .ns] [(0, 5, (.t 64)), (5, 5, (.t 65))]), none, []⟩,
      ⟨(some 67), (.call 9 [(.t 63), (.c (.i .i64 (0))), (.c (.i .i64 (3))), (.t 66)]), none, []⟩,
      ⟨(some 6), (.mov (.t 67)), none, []⟩] [])
    (.seq (.region [⟨(some 68), (.mov (.t 1)), none, []⟩,
      ⟨(some 69), (.mov (.t 68)), none, []⟩,
      ⟨(some 70), (.mov (.t 2)), (some (69, true)), []⟩,
      ⟨(some 71), (.pick (.t 69) (.t 70) (.c (.b false))), none, []⟩,
      ⟨(some 72), (.mov (.t 71)), none, []⟩,
      ⟨(some 73), (.mov (.t 3)), (some (72, true)), []⟩,
      ⟨(some 74), (.pick (.t 72) (.t 73) (.c (.b false))), none, []⟩,
      ⟨(some 75), (.mov (.t 74)), none, []⟩,
      ⟨(some 76), (.mov (.t 5)), (some (75, true)), []⟩,
      ⟨(some 77), (.bin .eql (.t 76) (.c (.i .i64 (0)))), (some (75, true)), []⟩,
      ⟨(some 78), (.pick (.t 75) (.t 77) (.c (.b false))), none, []⟩,
      ⟨(some 79), (.mov (.t 78)), none, []⟩,
      ⟨(some 80), (.mov (.t 6)), (some (79, true)), []⟩,
      ⟨(some 81), (.bin .eql (.t 80) (.c (.i .i64 (0)))), (some (79, true)), []⟩,
      ⟨(some 82), (.pick (.t 79) (.t 81) (.c (.b false))), none, []⟩,
      ⟨(some 83), (.mov (.t 82)), none, []⟩,
      ⟨(some 84), (.mov (.t 4)), (some (83, true)), []⟩,
      ⟨(some 85), (.call 14 [(.t 84), (.c (.i .i64 (0))), (.c (.i .i64 (3)))]), (some (83, true)), []⟩,
      ⟨(some 86), (.bin .eql (.t 85) (.c (.i .i64 (2)))), (some (83, true)), []⟩,
      ⟨(some 87), (.pick (.t 83) (.t 86) (.c (.b false))), none, []⟩,
      ⟨(some 88), (.mov (.t 87)), none, []⟩,
      ⟨(some 89), (.mov (.t 4)), (some (88, true)), []⟩,
      ⟨(some 90), (.call 13 [(.t 89), (.c (.i .i64 (0))), (.c (.i .i64 (3)))]), (some (88, true)), []⟩,
      ⟨(some 91), (.bsl 1 2 [(.i .i64 (0)), (.i .i64 (0))] [(0, 1, (.c (.i .i64 (1)))), (1, 1, (.c (.i .i64 (-1))))]), (some (88, true)), []⟩,
      ⟨(some 92), (.call 16 [(.t 90), (.t 91)]), (some (88, true)), []⟩,
      ⟨(some 93), (.pick (.t 88) (.t 92) (.c (.b false))), none, []⟩,
      ⟨(some 0), (.mov (.t 93)), none, []⟩] [])
    .ret)))))))),
    94, 0, [.t 0], 0⟩
theorem tr18 : trFunc Tryd.prog [([], []), ([], []), ([], []), ([], []), ([], []), ([], []), ([], []), ([], [])] 0 Tryd.f18 = some I18 := by kernel_rfl

/-- 'encore/guess.Of'. -/
def L19a : ICode :=
  (.seq (.region [⟨(some 29), (.bin .lss (.t 28) (.t 27)), none, []⟩] [])
    (.seq (.cond (.t 29)
      .skip
      (.exit 0))
    (.seq (.block 1
      (.seq (.region [⟨(some 30), (.mov (.t 28)), none, []⟩,
        ⟨(some 8), (.mov (.t 30)), none, []⟩] [])
      (.region [⟨(some 31), (.mov (.t 7)), none, []⟩,
        ⟨(some 32), (.nck (.t 31)), none, []⟩,
        ⟨(some 33), (.off (.t 32) 1), none, []⟩,
        ⟨(some 34), (.load none (.t 33)), none, []⟩,
        ⟨(some 35), (.mov (.t 8)), none, []⟩,
        ⟨(some 36), (.iaddr 1 (.t 34) (.t 35)), none, []⟩,
        ⟨none, (.store 1 (.t 36) (.c (.i .i64 (-1)))), none, []⟩] [])))
    (.region [⟨(some 37), (.bin .add (.t 28) (.c (.i .i64 (1)))), none, []⟩,
      ⟨(some 28), (.mov (.t 37)), none, []⟩] []))))
def L19b : ICode :=
  (.seq (.region [⟨(some 42), (.bin .lss (.t 41) (.t 40)), none, []⟩] [])
    (.seq (.cond (.t 42)
      .skip
      (.exit 2))
    (.seq (.block 3
      (.seq (.region [⟨(some 43), (.iaddr 5 (.t 39) (.t 41)), none, []⟩,
        ⟨(some 44), (.load (some 5) (.t 43)), none, []⟩,
        ⟨(some 10), (.alloc [(.i .i64 (0)), (.i .i64 (0)), .ns, (.s []), .ns]), none, []⟩,
        ⟨none, (.store 5 (.t 10) (.t 44)), none, []⟩] [])
      (.region [⟨(some 45), (.mov (.t 7)), none, []⟩,
        ⟨(some 46), (.load (some 5) (.t 10)), none, []⟩,
        ⟨(some 47), (.call 39 [(.t 45), (.t 46)]), none, []⟩] [])))
    (.region [⟨(some 48), (.bin .add (.t 41) (.c (.i .i64 (1)))), none, []⟩,
      ⟨(some 41), (.mov (.t 48)), none, []⟩] []))))
def I19 : IFunc :=
  ⟨(.seq (.region [⟨(some 2), (.box (.t 0)), none, []⟩,
      ⟨(some 4), (.alloc [(.i .i64 (0)), (.i .i64 (0)), (.i .i64 (0)), (.i .i64 (0)), .ns, .ns, (.i .i64 (0)), (.i .i64 (0)), (.i .i64 (0)), (.i .i64 (0)), (.i .i64 (0)), (.i .i64 (0)), (.s []), .ns, .ns, (.i .i64 (0))]), none, []⟩,
      ⟨(some 5), (.mov (.c (.i .i64 (0)))), none, []⟩] [])
    (.seq (.seq (.region [⟨(some 11), (.load (some 16) (.t 2)), none, []⟩,
      ⟨(some 12), (.call 38 [(.t 11)]), none, []⟩,
      ⟨(some 6), (.mov (.t 12)), none, []⟩] [])
    (.seq (.region [⟨(some 13), (.mov (.t 6)), none, []⟩,
      ⟨(some 14), (.bin .neq (.t 13) (.c (.i .i64 (0)))), none, []⟩] [])
    (.cond (.t 14)
      (.seq (.region [⟨(some 15), (.build [(.i .i64 (0)), (.i .i64 (0)), (.i .i64 (0)), (.i .i64 (0)), .ns, .ns, (.i .i64 (0)), (.i .i64 (0)), (.i .i64 (0)), (.i .i64 (0)), (.i .i64 (0)), (.i .i64 (0)), (.s []), .ns, .ns, (.i .i64 (0))] []), none, []⟩,
        ⟨(some 16), (.mov (.t 6)), none, []⟩,
        ⟨none, (.store 16 (.t 4) (.t 15)), none, []⟩,
        ⟨(some 5), (.mov (.t 16)), none, []⟩] [])
      .ret)
      .skip)))
    (.seq (.region [⟨(some 17), (.mov (.t 1)), none, []⟩,
      ⟨(some 18), (.off (.t 2) 3), none, []⟩,
      ⟨(some 19), (.load none (.t 18)), none, []⟩,
      ⟨(some 20), (.mksl 1 8 [(.i .i64 (0))] (.t 19) (.t 19)), none, []⟩,
      ⟨(some 21), (.build [.ns, .ns, .ns, .ns] [(2, 1, (.t 17)), (1, 1, (.t 20))]), none, []⟩,
      ⟨(some 22), (.box (.t 21)), none, []⟩,
      ⟨(some 7), (.mov (.t 22)), none, []⟩] [])
    (.seq (.seq (.region [⟨(some 23), (.mov (.t 7)), none, []⟩,
      ⟨(some 24), (.nck (.t 23)), none, []⟩,
      ⟨(some 25), (.off (.t 24) 1), none, []⟩,
      ⟨(some 26), (.load none (.t 25)), none, []⟩,
      ⟨(some 27), (.lenk 0 (.t 26)), none, []⟩,
      ⟨(some 28), (.mov (.c (.i .i64 (0)))), none, []⟩] [])
    (.block 0
      (.loop L19a)))
    (.seq (.seq (.region [⟨(some 38), (.off (.t 2) 4), none, []⟩,
      ⟨(some 39), (.load none (.t 38)), none, []⟩,
      ⟨(some 40), (.lenk 0 (.t 39)), none, []⟩,
      ⟨(some 41), (.mov (.c (.i .i64 (0)))), none, []⟩] [])
    (.block 2
      (.loop L19b)))
    (.seq (.seq (.region [⟨(some 49), (.mov (.t 7)), none, []⟩,
      ⟨(some 50), (.nck (.t 49)), none, []⟩,
      ⟨(some 51), (.off (.t 50) 0), none, []⟩,
      ⟨(some 52), (.load none (.t 51)), none, []⟩,
      ⟨(some 53), (.lenk 0 (.t 52)), none, []⟩,
      ⟨(some 54), (.bin .gtr (.t 53) (.c (.i .i64 (4096)))), none, []⟩] [])
    (.cond (.t 54)
      (.seq (.region [⟨(some 55), (.build [(.i .i64 (0)), (.i .i64 (0)), (.i .i64 (0)), (.i .i64 (0)), .ns, .ns, (.i .i64 (0)), (.i .i64 (0)), (.i .i64 (0)), (.i .i64 (0)), (.i .i64 (0)), (.i .i64 (0)), (.s []), .ns, .ns, (.i .i64 (0))] []), none, []⟩,
        ⟨none, (.store 16 (.t 4) (.t 55)), none, []⟩,
        ⟨(some 5), (.mov (.c (.i .i64 (5)))), none, []⟩] [])
      .ret)
      .skip))
    (.seq (.region [⟨(some 56), (.mov (.t 7)), none, []⟩,
      ⟨(some 57), (.nck (.t 56)), none, []⟩,
      ⟨(some 58), (.off (.t 57) 0), none, []⟩,
      ⟨(some 59), (.load none (.t 58)), none, []⟩,
      ⟨(some 60), (.mov (.t 7)), none, []⟩,
      ⟨(some 61), (.off (.t 2) 5), none, []⟩,
      ⟨(some 62), (.load none (.t 61)), none, []⟩,
      ⟨(some 64), (.mov (.t 7)), none, []⟩,
      ⟨(some 65), (.off (.t 2) 8), none, []⟩,
      ⟨(some 66), (.load (some 7) (.t 65)), none, []⟩,
      ⟨(some 67), (.bsl 7 1 [(.i .i64 (0)), (.i .i64 (0)), (.i .i64 (0)), (.i .i64 (0)), (.s []), .ns, .ns] [(0, 7, (.t 66))]), none, []⟩,
      ⟨(some 71), (.off (.t 2) 4), none, []⟩,
      ⟨(some 63), (.call 40 [(.t 60), (.t 62)]), none, [(59, (.load none (.t 58)), none), (66, (.load (some 7) (.t 65)), none)]⟩,
      ⟨(some 68), (.call 40 [(.t 64), (.t 67)]), none, [(59, (.load none (.t 58)), none)]⟩,
      ⟨(some 69), (.iaddr 7 (.t 68) (.c (.i .i64 (0)))), none, []⟩,
      ⟨(some 70), (.load (some 7) (.t 69)), none, []⟩,
      ⟨none, (.store 1 (.t 71) (.t 59)), none, [(70, (.load (some 7) (.t 69)), none)]⟩,
      ⟨(some 72), (.off (.t 2) 5), none, []⟩,
      ⟨none, (.store 1 (.t 72) (.t 63)), none, [(70, (.load (some 7) (.t 69)), none)]⟩,
      ⟨(some 73), (.off (.t 2) 8), none, []⟩,
      ⟨none, (.store 7 (.t 73) (.t 70)), none, []⟩] [])
    (.seq (.region [⟨(some 74), (.load (some 16) (.t 2)), none, []⟩,
      ⟨none, (.store 16 (.t 4) (.t 74)), none, []⟩,
      ⟨(some 5), (.mov (.c (.i .i64 (0)))), none, []⟩] [])
    .ret)))))))),
    75, 2, [.c 4 (some 16), .t 5], 0⟩
theorem tr19 : trFunc Tryd.prog [([], []), ([], []), ([], []), ([], []), ([], []), ([], []), ([], []), ([], []), ([], []), ([], []), ([], []), ([], []), ([], []), ([], []), ([], []), ([], []), ([], []), ([], []), ([], []), ([], []), ([], []), ([0, 1, 2, 3, 4, 5, 6, 8, 9, 10, 11, 15, 7, 12, 13, 14, 16, 17, 18, 19, 20], []), ([], [])] 0 Tryd.f19 = some I19 := by kernel_rfl

/-- 'encore/encorelaw22.guessed'. -/
def I22 : IFunc :=
  ⟨(.seq (.region [⟨(some 3), (.box (.t 0)), none, []⟩,
      ⟨(some 4), (.box (.t 1)), none, []⟩,
      ⟨(some 6), (.mov (.c (.b false))), none, []⟩] [])
    (.seq (.region [⟨(some 10), (.load (some 16) (.t 3)), none, []⟩,
      ⟨(some 11), (.mov (.t 2)), none, []⟩,
      ⟨(some 12), (.call 19 [(.t 10), (.t 11)]), none, []⟩,
      ⟨(some 9), (.mov (.t 12)), none, []⟩,
      ⟨(some 13), (.ext (.t 9) 0), none, []⟩,
      ⟨(some 14), (.ext (.t 9) 1), none, []⟩,
      ⟨(some 7), (.alloc [(.i .i64 (0)), (.i .i64 (0)), (.i .i64 (0)), (.i .i64 (0)), .ns, .ns, (.i .i64 (0)), (.i .i64 (0)), (.i .i64 (0)), (.i .i64 (0)), (.i .i64 (0)), (.i .i64 (0)), (.s []), .ns, .ns, (.i .i64 (0))]), none, []⟩,
      ⟨none, (.store 16 (.t 7) (.t 13)), none, []⟩,
      ⟨(some 8), (.mov (.t 14)), none, []⟩] [])
    (.seq (.region [⟨(some 15), (.mov (.t 8)), none, []⟩,
      ⟨(some 16), (.bin .eql (.t 15) (.c (.i .i64 (0)))), none, []⟩,
      ⟨(some 17), (.mov (.t 16)), none, []⟩,
      ⟨(some 18), (.load (some 16) (.t 7)), (some (17, true)), []⟩,
      ⟨(some 20), (.load (some 16) (.t 4)), (some (17, true)), []⟩,
      ⟨(some 19), (.call 44 [(.t 18)]), (some (17, true)), [(20, (.load (some 16) (.t 4)), (some (17, true)))]⟩,
      ⟨(some 21), (.call 44 [(.t 20)]), (some (17, true)), []⟩,
      ⟨(some 22), (.call 43 [(.t 19), (.t 21)]), (some (17, true)), []⟩,
      ⟨(some 23), (.pick (.t 17) (.t 22) (.c (.b false))), none, []⟩,
      ⟨(some 6), (.mov (.t 23)), none, []⟩] [])
    .ret))),
    24, 3, [.t 6], 0⟩
theorem tr22 : trFunc Tryd.prog [([], []), ([], []), ([0, 1, 2, 3, 5, 4, 6, 7, 8, 9], [])] 0 Tryd.f22 = some I22 := by kernel_rfl

/-- 'encore/encorelaw22.of'. -/
def I23 : IFunc :=
  ⟨(.seq (.region [⟨(some 4), (.alloc [(.i .i64 (0)), (.i .i64 (0)), (.i .i64 (0)), (.i .i64 (0)), .ns, .ns, (.i .i64 (0)), (.i .i64 (0)), (.i .i64 (0)), (.i .i64 (0)), (.i .i64 (0)), (.i .i64 (0)), (.s []), .ns, .ns, (.i .i64 (0))]), none, []⟩] [])
    (.seq (.region [⟨(some 5), (.mov (.t 0)), none, []⟩,
      ⟨(some 6), (.mov (.t 1)), none, []⟩,
      ⟨(some 7), (.mov (.t 1)), none, []⟩,
      ⟨(some 8), (.lenk 0 (.t 7)), none, []⟩,
      ⟨(some 9), (.bin .sub (.t 8) (.c (.i .i64 (1)))), none, []⟩,
      ⟨(some 10), (.mm true (.t 9) [(.c (.i .i64 (0)))]), none, []⟩,
      ⟨(some 11), (.call 26 [(.t 10)]), none, []⟩,
      ⟨(some 12), (.bsl 7 1 [(.i .i64 (0)), (.i .i64 (0)), (.i .i64 (0)), (.i .i64 (0)), (.s []), .ns, .ns] [(0, 7, (.t 11))]), none, []⟩,
      ⟨(some 13), (.build [(.i .i64 (0)), (.i .i64 (0)), (.i .i64 (0)), (.i .i64 (0)), .ns, .ns, (.i .i64 (0)), (.i .i64 (0)), (.i .i64 (0)), (.i .i64 (0)), (.i .i64 (0)), (.i .i64 (0)), (.s []), .ns, .ns, (.i .i64 (0))] [(2, 1, (.c (.i .i64 (1)))), (3, 1, (.t 5)), (4, 1, (.t 6)), (5, 1, (.t 12))]), none, []⟩,
      ⟨none, (.store 16 (.t 4) (.t 13)), none, []⟩] [])
    .ret)),
    14, 2, [.c 4 (some 16)], 0⟩
theorem tr23 : trFunc Tryd.prog [([], []), ([], [])] 0 Tryd.f23 = some I23 := by kernel_rfl

/-- 'encore/encorelaw22.two'. -/
def I24 : IFunc :=
  ⟨(.seq (.region [⟨(some 4), (.box (.t 1)), none, []⟩,
      ⟨(some 5), (.box (.t 2)), none, []⟩,
      ⟨(some 6), (.alloc [(.i .i64 (0)), (.i .i64 (0)), .ns, (.s []), .ns]), none, []⟩] [])
    (.seq (.region [⟨(some 7), (.mov (.t 0)), none, []⟩,
      ⟨(some 8), (.load (some 7) (.t 4)), none, []⟩,
      ⟨(some 9), (.load (some 7) (.t 5)), none, []⟩,
      ⟨(some 10), (.bsl 7 2 [(.i .i64 (0)), (.i .i64 (0)), (.i .i64 (0)), (.i .i64 (0)), (.s []), .ns, .ns, (.i .i64 (0)), (.i .i64 (0)), (.i .i64 (0)), (.i .i64 (0)), (.s []), .ns, .ns] [(0, 7, (.t 8)), (7, 7, (.t 9))]), none, []⟩,
      ⟨(some 11), (.build [(.i .i64 (0)), (.i .i64 (0)), .ns, (.s []), .ns] [(0, 1, (.t 7)), (2, 1, (.t 10))]), none, []⟩,
      ⟨none, (.store 5 (.t 6) (.t 11)), none, []⟩] [])
    .ret)),
    12, 3, [.c 6 (some 5)], 0⟩
theorem tr24 : trFunc Tryd.prog [([], []), ([], [])] 0 Tryd.f24 = some I24 := by kernel_rfl

/-- 'encore/encorelaw22.home'. -/
def I25 : IFunc :=
  ⟨(.seq (.region [⟨(some 2), (.alloc [(.i .i64 (0)), (.i .i64 (0)), (.i .i64 (0)), (.i .i64 (0)), (.s []), .ns, .ns]), none, []⟩] [])
    (.seq (.region [⟨(some 3), (.mov (.t 0)), none, []⟩,
      ⟨(some 4), (.build [(.i .i64 (0)), (.i .i64 (0)), (.i .i64 (0)), (.i .i64 (0)), (.s []), .ns, .ns] [(0, 1, (.c (.i .i64 (1)))), (1, 1, (.t 3))]), none, []⟩,
      ⟨none, (.store 7 (.t 2) (.t 4)), none, []⟩] [])
    .ret)),
    5, 1, [.c 2 (some 7)], 0⟩
theorem tr25 : trFunc Tryd.prog [([], []), ([], [])] 0 Tryd.f25 = some I25 := by kernel_rfl

/-- 'encore/encorelaw22.step'. -/
def I26 : IFunc :=
  ⟨(.seq (.region [⟨(some 2), (.alloc [(.i .i64 (0)), (.i .i64 (0)), (.i .i64 (0)), (.i .i64 (0)), (.s []), .ns, .ns]), none, []⟩] [])
    (.seq (.region [⟨(some 3), (.mov (.t 0)), none, []⟩,
      ⟨(some 4), (.build [(.i .i64 (0)), (.i .i64 (0)), (.i .i64 (0)), (.i .i64 (0)), (.s []), .ns, .ns] [(0, 1, (.c (.i .i64 (2)))), (1, 1, (.t 3))]), none, []⟩,
      ⟨none, (.store 7 (.t 2) (.t 4)), none, []⟩] [])
    .ret)),
    5, 1, [.c 2 (some 7)], 0⟩
theorem tr26 : trFunc Tryd.prog [([], []), ([], [])] 0 Tryd.f26 = some I26 := by kernel_rfl

/-- 'encore/encorelaw22.one'. -/
def I27 : IFunc :=
  ⟨(.seq (.region [⟨(some 5), (.box (.t 2)), none, []⟩,
      ⟨(some 6), (.alloc [(.i .i64 (0)), (.i .i64 (0)), .ns, (.s []), .ns]), none, []⟩] [])
    (.seq (.region [⟨(some 7), (.mov (.t 0)), none, []⟩,
      ⟨(some 8), (.mov (.t 1)), none, []⟩,
      ⟨(some 9), (.load (some 7) (.t 5)), none, []⟩,
      ⟨(some 10), (.bsl 7 1 [(.i .i64 (0)), (.i .i64 (0)), (.i .i64 (0)), (.i .i64 (0)), (.s []), .ns, .ns] [(0, 7, (.t 9))]), none, []⟩,
      ⟨(some 11), (.build [(.i .i64 (0)), (.i .i64 (0)), .ns, (.s []), .ns] [(0, 1, (.t 7)), (1, 1, (.t 8)), (2, 1, (.t 10))]), none, []⟩,
      ⟨none, (.store 5 (.t 6) (.t 11)), none, []⟩] [])
    .ret)),
    12, 3, [.c 6 (some 5)], 0⟩
theorem tr27 : trFunc Tryd.prog [([], []), ([], [])] 0 Tryd.f27 = some I27 := by kernel_rfl

/-- 'encore/encorelaw22.num'. -/
def I28 : IFunc :=
  ⟨(.seq (.region [⟨(some 2), (.alloc [(.i .i64 (0)), (.i .i64 (0)), (.i .i64 (0)), (.i .i64 (0)), (.s []), .ns, .ns]), none, []⟩] [])
    (.seq (.region [⟨(some 3), (.mov (.t 0)), none, []⟩,
      ⟨(some 4), (.build [(.i .i64 (0)), (.i .i64 (0)), (.s []), .ns, .ns] [(0, 1, (.c (.i .i64 (1)))), (1, 1, (.t 3))]), none, []⟩,
      ⟨(some 5), (.build [(.i .i64 (0)), (.i .i64 (0)), (.i .i64 (0)), (.i .i64 (0)), (.s []), .ns, .ns] [(0, 1, (.c (.i .i64 (3)))), (2, 5, (.t 4))]), none, []⟩,
      ⟨none, (.store 7 (.t 2) (.t 5)), none, []⟩] [])
    .ret)),
    6, 1, [.c 2 (some 7)], 0⟩
theorem tr28 : trFunc Tryd.prog [([], []), ([], [])] 0 Tryd.f28 = some I28 := by kernel_rfl

/-- '(*encore/guess.Profile).none'. -/
def I29 : IFunc :=
  ⟨(.seq (.region [⟨(some 2), (.mov (.c (.b false))), none, []⟩] [])
    (.seq (.region [⟨(some 3), (.mov (.t 0)), none, []⟩,
      ⟨(some 4), (.eqNil 1 false (.t 3) (.c .np)), none, []⟩,
      ⟨(some 5), (.mov (.t 4)), none, []⟩,
      ⟨(some 6), (.mov (.t 0)), (some (5, false)), []⟩,
      ⟨(some 7), (.nck (.t 6)), (some (5, false)), []⟩,
      ⟨(some 8), (.off (.t 7) 0), (some (5, false)), []⟩,
      ⟨(some 9), (.load none (.t 8)), (some (5, false)), []⟩,
      ⟨(some 10), (.eqNil 2 false (.t 9) (.c .nm)), (some (5, false)), []⟩,
      ⟨(some 11), (.pick (.t 5) (.c (.b true)) (.t 10)), none, []⟩,
      ⟨(some 2), (.mov (.t 11)), none, []⟩] [])
    .ret)),
    12, 1, [.t 2], 0⟩
theorem tr29 : trFunc Tryd.prog [([], []), ([], [])] 0 Tryd.f29 = some I29 := by kernel_rfl

/-- 'encore/value.Check'. -/
def I30 : IFunc :=
  ⟨(.seq (.region [⟨(some 1), (.box (.t 0)), none, []⟩,
      ⟨(some 2), (.mov (.c (.i .i64 (0)))), none, []⟩] [])
    (.seq (.seq (.region [⟨(some 6), (.load (some 5) (.t 1)), none, []⟩,
      ⟨(some 7), (.call 45 [(.t 6), (.c (.i .i64 (0))), (.c (.i .i64 (256)))]), none, []⟩,
      ⟨(some 5), (.mov (.t 7)), none, []⟩,
      ⟨(some 8), (.ext (.t 5) 0), none, []⟩,
      ⟨(some 9), (.ext (.t 5) 1), none, []⟩,
      ⟨(some 3), (.mov (.t 8)), none, []⟩,
      ⟨(some 4), (.mov (.t 9)), none, []⟩] [])
    (.seq (.region [⟨(some 10), (.mov (.t 4)), none, []⟩,
      ⟨(some 11), (.un .not (.t 10)), none, []⟩] [])
    (.cond (.t 11)
      (.seq (.region [⟨(some 2), (.mov (.c (.i .i64 (2)))), none, []⟩] [])
      .ret)
      .skip)))
    (.seq (.region [⟨(some 2), (.mov (.c (.i .i64 (0)))), none, []⟩] [])
    .ret))),
    12, 1, [.t 2], 0⟩
theorem tr30 : trFunc Tryd.prog [([], []), ([], []), ([], []), ([], []), ([], []), ([], [])] 0 Tryd.f30 = some I30 := by kernel_rfl

/-- 'encore/guess.both'. -/
def L31a : ICode :=
  (.seq (.region [⟨(some 25), (.bin .lss (.t 24) (.t 23)), none, []⟩] [])
    (.seq (.cond (.t 25)
      .skip
      (.exit 2))
    (.seq (.block 3
      (.seq (.region [⟨(some 26), (.iaddr 1 (.t 22) (.t 24)), none, []⟩,
        ⟨(some 27), (.load none (.t 26)), none, []⟩,
        ⟨(some 8), (.mov (.t 27)), none, []⟩] [])
      (.seq (.region [⟨(some 28), (.mov (.t 6)), none, []⟩,
        ⟨(some 29), (.mov (.t 8)), none, []⟩,
        ⟨(some 30), (.lenk 0 (.t 29)), none, []⟩,
        ⟨(some 31), (.bin .geq (.t 28) (.t 30)), none, []⟩,
        ⟨(some 32), (.mov (.t 31)), none, []⟩,
        ⟨(some 33), (.mov (.t 8)), (some (32, false)), []⟩,
        ⟨(some 34), (.mov (.t 6)), (some (32, false)), []⟩,
        ⟨(some 35), (.iaddr 1 (.t 33) (.t 34)), (some (32, false)), []⟩,
        ⟨(some 36), (.load none (.t 35)), (some (32, false)), []⟩,
        ⟨(some 37), (.mov (.t 0)), (some (32, false)), []⟩,
        ⟨(some 38), (.mov (.t 6)), (some (32, false)), []⟩,
        ⟨(some 39), (.mov (.t 0)), (some (32, false)), []⟩,
        ⟨(some 40), (.lenk 0 (.t 39)), (some (32, false)), []⟩,
        ⟨(some 41), (.bin .sub (.t 40) (.c (.i .i64 (1)))), (some (32, false)), []⟩,
        ⟨(some 42), (.mm false (.t 38) [(.t 41)]), (some (32, false)), []⟩,
        ⟨(some 43), (.iaddr 1 (.t 37) (.t 42)), (some (32, false)), []⟩,
        ⟨(some 44), (.load none (.t 43)), (some (32, false)), []⟩,
        ⟨(some 45), (.bin .neq (.t 36) (.t 44)), (some (32, false)), []⟩,
        ⟨(some 46), (.pick (.t 32) (.c (.b true)) (.t 45)), none, []⟩] [])
      (.cond (.t 46)
        (.seq (.region [⟨(some 47), (.mov (.t 5)), none, []⟩,
          ⟨(some 48), (.mov (.t 6)), none, []⟩,
          ⟨(some 49), (.iaddr 1 (.t 47) (.t 48)), none, []⟩,
          ⟨none, (.store 1 (.t 49) (.c (.i .i64 (-1)))), none, []⟩] [])
        (.exit 1))
        .skip))))
    (.region [⟨(some 50), (.bin .add (.t 24) (.c (.i .i64 (1)))), none, []⟩,
      ⟨(some 24), (.mov (.t 50)), none, []⟩] []))))
def L31b : ICode :=
  (.seq (.region [⟨(some 18), (.bin .lss (.t 17) (.t 16)), none, []⟩] [])
    (.seq (.cond (.t 18)
      .skip
      (.exit 0))
    (.seq (.block 1
      (.seq (.region [⟨(some 19), (.mov (.t 17)), none, []⟩,
        ⟨(some 6), (.mov (.t 19)), none, []⟩] [])
      (.seq (.seq (.region [⟨(some 20), (.mov (.t 0)), none, []⟩,
        ⟨(some 21), (.mov (.t 1)), none, []⟩,
        ⟨(some 22), (.bsl 1 2 [.ns, .ns] [(0, 1, (.t 20)), (1, 1, (.t 21))]), none, []⟩,
        ⟨(some 23), (.lenk 0 (.t 22)), none, []⟩,
        ⟨(some 24), (.mov (.c (.i .i64 (0)))), none, []⟩] [])
      (.block 2
        (.loop L31a)))
      (.region [⟨(some 51), (.mov (.t 5)), none, []⟩,
        ⟨(some 52), (.mov (.t 6)), none, []⟩,
        ⟨(some 53), (.mov (.t 0)), none, []⟩,
        ⟨(some 54), (.mov (.t 6)), none, []⟩,
        ⟨(some 55), (.iaddr 1 (.t 53) (.t 54)), none, []⟩,
        ⟨(some 56), (.load none (.t 55)), none, []⟩,
        ⟨(some 57), (.iaddr 1 (.t 51) (.t 52)), none, []⟩,
        ⟨none, (.store 1 (.t 57) (.t 56)), none, []⟩] []))))
    (.region [⟨(some 58), (.bin .add (.t 17) (.c (.i .i64 (1)))), none, []⟩,
      ⟨(some 17), (.mov (.t 58)), none, []⟩] []))))
def I31 : IFunc :=
  ⟨(.seq (.region [⟨(some 4), (.mov (.c .ns)), none, []⟩] [])
    (.seq .skip
    (.seq (.region [⟨(some 9), (.mov (.t 0)), none, []⟩,
      ⟨(some 10), (.lenk 0 (.t 9)), none, []⟩,
      ⟨(some 11), (.mov (.t 1)), none, []⟩,
      ⟨(some 12), (.lenk 0 (.t 11)), none, []⟩,
      ⟨(some 13), (.mm true (.t 10) [(.t 12)]), none, []⟩,
      ⟨(some 14), (.mksl 1 8 [(.i .i64 (0))] (.t 13) (.t 13)), none, []⟩,
      ⟨(some 5), (.mov (.t 14)), none, []⟩] [])
    (.seq .skip
    (.seq (.seq (.region [⟨(some 15), (.mov (.t 5)), none, []⟩,
      ⟨(some 16), (.lenk 0 (.t 15)), none, []⟩,
      ⟨(some 17), (.mov (.c (.i .i64 (0)))), none, []⟩] [])
    (.block 0
      (.loop L31b)))
    (.seq (.region [⟨(some 59), (.mov (.t 5)), none, []⟩,
      ⟨(some 4), (.mov (.t 59)), none, []⟩] [])
    .ret)))))),
    60, 2, [.t 4], 0⟩
theorem tr31 : trFunc Tryd.prog [([], []), ([], []), ([], []), ([], []), ([], []), ([], []), ([], []), ([], []), ([], []), ([], []), ([0, 1, 2, 3, 4, 5, 6, 7, 8, 9, 10, 11, 12, 13, 14, 15, 16, 17, 18], []), ([], []), ([], []), ([], []), ([], []), ([], []), ([], [])] 0 Tryd.f31 = some I31 := by kernel_rfl

/-- 'encore/encoreref07.Same'. -/
def I35 : IFunc :=
  ⟨(.seq (.region [⟨(some 2), (.box (.t 0)), none, []⟩,
      ⟨(some 3), (.box (.t 1)), none, []⟩,
      ⟨(some 4), (.mov (.c (.b false))), none, []⟩] [])
    (.seq (.region [⟨(some 5), (.load (some 5) (.t 2)), none, []⟩,
      ⟨(some 6), (.load (some 5) (.t 3)), none, []⟩,
      ⟨(some 7), (.call 50 [(.t 5), (.t 6)]), none, []⟩,
      ⟨(some 8), (.bin .eql (.t 7) (.c (.i .i64 (0)))), none, []⟩,
      ⟨(some 4), (.mov (.t 8)), none, []⟩] [])
    .ret)),
    9, 2, [.t 4], 0⟩
theorem tr35 : trFunc Tryd.prog [([], []), ([], [])] 0 Tryd.f35 = some I35 := by kernel_rfl

/-- 'slices.Clone[[]int,int]'. -/
def I36 : IFunc :=
  ⟨(.seq (.region [⟨(some 2), (.mov (.c .ns)), none, []⟩] [])
    (.seq (.seq (.region [⟨(some 3), (.mov (.t 0)), none, []⟩,
      ⟨(some 4), (.eqNil 0 false (.t 3) (.c .ns)), none, []⟩] [])
    (.cond (.t 4)
      (.seq (.region [⟨(some 2), (.mov (.c .ns)), none, []⟩] [])
      .ret)
      .skip))
    (.seq (.region [⟨(some 5), (.bsl 1 0 [] []), none, []⟩,
      ⟨(some 6), (.mov (.t 0)), none, []⟩,
      ⟨(some 7), (.app 1 8 (.t 5) (.t 6)), none, []⟩,
      ⟨(some 2), (.mov (.t 7)), none, []⟩] [])
    .ret))),
    8, 1, [.t 2], 0⟩
theorem tr36 : trFunc Tryd.prog [([], []), ([], []), ([], []), ([], []), ([], [])] 0 Tryd.f36 = some I36 := by kernel_rfl

/-- 'encore/lift.Check'. -/
def L38a : ICode :=
  (.seq (.region [⟨(some 26), (.bin .lss (.t 25) (.t 24)), none, []⟩] [])
    (.seq (.cond (.t 26)
      .skip
      (.exit 0))
    (.seq (.block 1
      (.seq (.region [⟨(some 27), (.iaddr 1 (.t 23) (.t 25)), none, []⟩,
        ⟨(some 28), (.load none (.t 27)), none, []⟩,
        ⟨(some 4), (.mov (.t 28)), none, []⟩] [])
      (.seq (.region [⟨(some 29), (.mov (.t 4)), none, []⟩,
        ⟨(some 30), (.bin .lss (.t 29) (.c (.i .i64 (0)))), none, []⟩] [])
      (.cond (.t 30)
        (.seq (.region [⟨(some 2), (.mov (.c (.i .i64 (2)))), none, []⟩] [])
        .ret)
        .skip))))
    (.region [⟨(some 31), (.bin .add (.t 25) (.c (.i .i64 (1)))), none, []⟩,
      ⟨(some 25), (.mov (.t 31)), none, []⟩] []))))
def L38b : ICode :=
  (.seq (.region [⟨(some 69), (.bin .lss (.t 68) (.t 67)), none, []⟩] [])
    (.seq (.cond (.t 69)
      .skip
      (.exit 2))
    (.seq (.block 3
      (.seq (.region [⟨(some 70), (.mov (.t 68)), none, []⟩,
        ⟨(some 71), (.iaddr 5 (.t 66) (.t 68)), none, []⟩,
        ⟨(some 72), (.load (some 5) (.t 71)), none, []⟩,
        ⟨(some 6), (.alloc [(.i .i64 (0)), (.i .i64 (0)), .ns, (.s []), .ns]), none, []⟩,
        ⟨(some 5), (.mov (.t 70)), none, []⟩,
        ⟨none, (.store 5 (.t 6) (.t 72)), none, []⟩] [])
      (.seq (.region [⟨(some 73), (.load (some 5) (.t 6)), none, []⟩,
        ⟨(some 74), (.off (.t 1) 3), none, []⟩,
        ⟨(some 75), (.load none (.t 74)), none, []⟩,
        ⟨(some 76), (.mov (.t 5)), none, []⟩,
        ⟨(some 77), (.call 51 [(.t 73), (.t 75), (.t 76)]), none, []⟩,
        ⟨(some 78), (.un .not (.t 77)), none, []⟩] [])
      (.cond (.t 78)
        (.seq (.region [⟨(some 2), (.mov (.c (.i .i64 (2)))), none, []⟩] [])
        .ret)
        .skip))))
    (.region [⟨(some 79), (.bin .add (.t 68) (.c (.i .i64 (1)))), none, []⟩,
      ⟨(some 68), (.mov (.t 79)), none, []⟩] []))))
def I38 : IFunc :=
  ⟨(.seq (.region [⟨(some 1), (.box (.t 0)), none, []⟩,
      ⟨(some 2), (.mov (.c (.i .i64 (0)))), none, []⟩] [])
    (.seq (.seq (.region [⟨(some 9), (.off (.t 1) 0), none, []⟩,
      ⟨(some 10), (.load none (.t 9)), none, []⟩,
      ⟨(some 11), (.off (.t 1) 1), none, []⟩,
      ⟨(some 12), (.load none (.t 11)), none, []⟩,
      ⟨(some 13), (.off (.t 1) 2), none, []⟩,
      ⟨(some 14), (.load none (.t 13)), none, []⟩,
      ⟨(some 15), (.off (.t 1) 3), none, []⟩,
      ⟨(some 16), (.load none (.t 15)), none, []⟩,
      ⟨(some 17), (.off (.t 1) 15), none, []⟩,
      ⟨(some 18), (.load none (.t 17)), none, []⟩,
      ⟨(some 19), (.off (.t 1) 6), none, []⟩,
      ⟨(some 20), (.load none (.t 19)), none, []⟩,
      ⟨(some 21), (.off (.t 1) 7), none, []⟩,
      ⟨(some 22), (.load none (.t 21)), none, []⟩,
      ⟨(some 23), (.bsl 1 7 [(.i .i64 (0)), (.i .i64 (0)), (.i .i64 (0)), (.i .i64 (0)), (.i .i64 (0)), (.i .i64 (0)), (.i .i64 (0))] [(0, 1, (.t 10)), (1, 1, (.t 12)), (2, 1, (.t 14)), (3, 1, (.t 16)), (4, 1, (.t 18)), (5, 1, (.t 20)), (6, 1, (.t 22))]), none, []⟩,
      ⟨(some 24), (.lenk 0 (.t 23)), none, []⟩,
      ⟨(some 25), (.mov (.c (.i .i64 (0)))), none, []⟩] [])
    (.block 0
      (.loop L38a)))
    (.seq (.seq (.region [⟨(some 32), (.off (.t 1) 0), none, []⟩,
      ⟨(some 33), (.load none (.t 32)), none, []⟩,
      ⟨(some 34), (.off (.t 1) 1), none, []⟩,
      ⟨(some 35), (.load none (.t 34)), none, []⟩,
      ⟨(some 36), (.off (.t 1) 2), none, []⟩,
      ⟨(some 37), (.load none (.t 36)), none, []⟩,
      ⟨(some 38), (.mm true (.t 33) [(.t 35), (.t 37)]), none, []⟩,
      ⟨(some 39), (.bin .gtr (.t 38) (.c (.i .i64 (9007199254740991)))), none, []⟩] [])
    (.cond (.t 39)
      (.seq (.region [⟨(some 2), (.mov (.c (.i .i64 (2)))), none, []⟩] [])
      .ret)
      .skip))
    (.seq (.seq (.region [⟨(some 40), (.off (.t 1) 3), none, []⟩,
      ⟨(some 41), (.load none (.t 40)), none, []⟩,
      ⟨(some 42), (.bin .gtr (.t 41) (.c (.i .i64 (64)))), none, []⟩,
      ⟨(some 43), (.mov (.t 42)), none, []⟩,
      ⟨(some 44), (.off (.t 1) 15), (some (43, false)), []⟩,
      ⟨(some 45), (.load none (.t 44)), (some (43, false)), []⟩,
      ⟨(some 46), (.bin .gtr (.t 45) (.c (.i .i64 (1)))), (some (43, false)), []⟩,
      ⟨(some 47), (.pick (.t 43) (.c (.b true)) (.t 46)), none, []⟩,
      ⟨(some 48), (.mov (.t 47)), none, []⟩,
      ⟨(some 49), (.off (.t 1) 6), (some (48, false)), []⟩,
      ⟨(some 50), (.load none (.t 49)), (some (48, false)), []⟩,
      ⟨(some 51), (.bin .gtr (.t 50) (.c (.i .i64 (3)))), (some (48, false)), []⟩,
      ⟨(some 52), (.pick (.t 48) (.c (.b true)) (.t 51)), none, []⟩,
      ⟨(some 53), (.mov (.t 52)), none, []⟩,
      ⟨(some 54), (.off (.t 1) 4), (some (53, false)), []⟩,
      ⟨(some 55), (.load none (.t 54)), (some (53, false)), []⟩,
      ⟨(some 56), (.lenk 0 (.t 55)), (some (53, false)), []⟩,
      ⟨(some 57), (.bin .gtr (.t 56) (.c (.i .i64 (4096)))), (some (53, false)), []⟩,
      ⟨(some 58), (.pick (.t 53) (.c (.b true)) (.t 57)), none, []⟩,
      ⟨(some 59), (.mov (.t 58)), none, []⟩,
      ⟨(some 60), (.off (.t 1) 5), (some (59, false)), []⟩,
      ⟨(some 61), (.load none (.t 60)), (some (59, false)), []⟩,
      ⟨(some 62), (.lenk 0 (.t 61)), (some (59, false)), []⟩,
      ⟨(some 63), (.bin .gtr (.t 62) (.c (.i .i64 (64)))), (some (59, false)), []⟩,
      ⟨(some 64), (.pick (.t 59) (.c (.b true)) (.t 63)), none, []⟩] [])
    (.cond (.t 64)
      (.seq (.region [⟨(some 2), (.mov (.c (.i .i64 (2)))), none, []⟩] [])
      .ret)
      .skip))
    (.seq (.seq (.region [⟨(some 65), (.off (.t 1) 4), none, []⟩,
      ⟨(some 66), (.load none (.t 65)), none, []⟩,
      ⟨(some 67), (.lenk 0 (.t 66)), none, []⟩,
      ⟨(some 68), (.mov (.c (.i .i64 (0)))), none, []⟩] [])
    (.block 2
      (.loop L38b)))
    (.seq (.region [⟨(some 80), (.off (.t 1) 6), none, []⟩,
      ⟨(some 81), (.load none (.t 80)), none, []⟩,
      ⟨(some 82), (.bin .eql (.t 81) (.c (.i .i64 (2)))), none, []⟩,
      ⟨(some 83), (.mov (.t 82)), none, []⟩,
      ⟨(some 84), (.off (.t 1) 8), (some (83, true)), []⟩,
      ⟨(some 85), (.load (some 7) (.t 84)), (some (83, true)), []⟩,
      ⟨(some 86), (.off (.t 1) 3), (some (83, true)), []⟩,
      ⟨(some 87), (.load none (.t 86)), (some (83, true)), []⟩,
      ⟨(some 88), (.off (.t 1) 4), (some (83, true)), []⟩,
      ⟨(some 89), (.load none (.t 88)), (some (83, true)), []⟩,
      ⟨(some 90), (.lenk 0 (.t 89)), (some (83, true)), []⟩,
      ⟨(some 91), (.call 52 [(.t 85), (.t 87), (.t 90)]), (some (83, true)), []⟩,
      ⟨(some 92), (.pick (.t 83) (.t 91) (.c (.b false))), none, []⟩,
      ⟨(some 7), (.mov (.t 92)), none, []⟩] [])
    (.seq (.region [⟨(some 93), (.off (.t 1) 6), none, []⟩,
      ⟨(some 94), (.load none (.t 93)), none, []⟩,
      ⟨(some 95), (.bin .neq (.t 94) (.c (.i .i64 (2)))), none, []⟩,
      ⟨(some 96), (.mov (.t 95)), none, []⟩,
      ⟨(some 97), (.off (.t 1) 8), (some (96, true)), []⟩,
      ⟨(some 98), (.off (.t 97) 0), (some (96, true)), []⟩,
      ⟨(some 99), (.load none (.t 98)), (some (96, true)), []⟩,
      ⟨(some 100), (.bin .eql (.t 99) (.c (.i .i64 (0)))), (some (96, true)), []⟩,
      ⟨(some 101), (.pick (.t 96) (.t 100) (.c (.b false))), none, []⟩,
      ⟨(some 102), (.mov (.t 101)), none, []⟩,
      ⟨(some 103), (.off (.t 1) 8), (some (102, true)), []⟩,
      ⟨(some 104), (.off (.t 103) 1), (some (102, true)), []⟩,
      ⟨(some 105), (.load none (.t 104)), (some (102, true)), []⟩,
      ⟨(some 106), (.bin .eql (.t 105) (.c (.i .i64 (0)))), (some (102, true)), []⟩,
      ⟨(some 107), (.pick (.t 102) (.t 106) (.c (.b false))), none, []⟩,
      ⟨(some 108), (.mov (.t 107)), none, []⟩,
      ⟨(some 109), (.off (.t 1) 8), (some (108, true)), []⟩,
      ⟨(some 110), (.off (.t 109) 2), (some (108, true)), []⟩,
      ⟨(some 111), (.load (some 5) (.t 110)), (some (108, true)), []⟩,
      ⟨(some 112), (.call 53 [(.t 111)]), (some (108, true)), []⟩,
      ⟨(some 113), (.pick (.t 108) (.t 112) (.c (.b false))), none, []⟩,
      ⟨(some 8), (.mov (.t 113)), none, []⟩] [])
    (.seq (.seq (.region [⟨(some 114), (.mov (.t 7)), none, []⟩,
      ⟨(some 115), (.un .not (.t 114)), none, []⟩,
      ⟨(some 116), (.mov (.t 115)), none, []⟩,
      ⟨(some 117), (.mov (.t 8)), (some (116, true)), []⟩,
      ⟨(some 118), (.un .not (.t 117)), (some (116, true)), []⟩,
      ⟨(some 119), (.pick (.t 116) (.t 118) (.c (.b false))), none, []⟩,
      ⟨(some 120), (.mov (.t 119)), none, []⟩,
      ⟨(some 121), (.off (.t 1) 5), (some (120, false)), []⟩,
      ⟨(some 122), (.load none (.t 121)), (some (120, false)), []⟩,
      ⟨(some 123), (.off (.t 1) 3), (some (120, false)), []⟩,
      ⟨(some 124), (.load none (.t 123)), (some (120, false)), []⟩,
      ⟨(some 125), (.off (.t 1) 4), (some (120, false)), []⟩,
      ⟨(some 126), (.load none (.t 125)), (some (120, false)), []⟩,
      ⟨(some 127), (.lenk 0 (.t 126)), (some (120, false)), []⟩,
      ⟨(some 128), (.call 54 [(.t 122), (.t 124), (.t 127)]), (some (120, false)), []⟩,
      ⟨(some 129), (.un .not (.t 128)), (some (120, false)), []⟩,
      ⟨(some 130), (.pick (.t 120) (.c (.b true)) (.t 129)), none, []⟩] [])
    (.cond (.t 130)
      (.seq (.region [⟨(some 2), (.mov (.c (.i .i64 (2)))), none, []⟩] [])
      .ret)
      .skip))
    (.seq (.region [⟨(some 2), (.mov (.c (.i .i64 (0)))), none, []⟩] [])
    .ret))))))))),
    131, 1, [.t 2], 0⟩
theorem tr38 : trFunc Tryd.prog [([], []), ([], []), ([], []), ([], []), ([], []), ([], []), ([], []), ([], []), ([], []), ([], []), ([], []), ([], []), ([], []), ([], []), ([], []), ([], []), ([], []), ([], []), ([], []), ([], []), ([], []), ([], []), ([], []), ([], []), ([], []), ([], []), ([], []), ([], []), ([], [])] 0 Tryd.f38 = some I38 := by kernel_rfl

/-- '(*encore/guess.maker).step'. -/
def L39a : ICode :=
  (.seq (.region [⟨(some 30), (.bin .lss (.t 29) (.t 28)), none, []⟩] [])
    (.seq (.cond (.t 30)
      .skip
      (.exit 0))
    (.seq (.block 1
      (.seq (.region [⟨(some 31), (.iaddr 7 (.t 27) (.t 29)), none, []⟩,
        ⟨(some 32), (.load (some 7) (.t 31)), none, []⟩,
        ⟨(some 8), (.alloc [(.i .i64 (0)), (.i .i64 (0)), (.i .i64 (0)), (.i .i64 (0)), (.s []), .ns, .ns]), none, []⟩,
        ⟨none, (.store 7 (.t 8) (.t 32)), none, []⟩] [])
      (.region [⟨(some 33), (.load none (.t 2)), none, []⟩,
        ⟨(some 34), (.load (some 7) (.t 8)), none, []⟩,
        ⟨(some 35), (.load none (.t 5)), none, []⟩,
        ⟨(some 36), (.call 57 [(.t 33), (.t 34), (.t 35)]), none, []⟩] [])))
    (.region [⟨(some 37), (.bin .add (.t 29) (.c (.i .i64 (1)))), none, []⟩,
      ⟨(some 29), (.mov (.t 37)), none, []⟩] []))))
def I39 : IFunc :=
  ⟨(.seq (.region [⟨(some 2), (.box (.t 0)), none, []⟩,
      ⟨(some 3), (.box (.t 1)), none, []⟩] [])
    (.seq (.region [⟨(some 9), (.load none (.t 2)), none, []⟩,
      ⟨(some 10), (.off (.t 3) 2), none, []⟩,
      ⟨(some 11), (.load none (.t 10)), none, []⟩,
      ⟨(some 13), (.off (.t 3) 4), none, []⟩,
      ⟨(some 14), (.load none (.t 13)), none, []⟩,
      ⟨(some 12), (.call 40 [(.t 9), (.t 11)]), none, [(14, (.load none (.t 13)), none)]⟩,
      ⟨(some 16), (.off (.t 3) 2), none, []⟩,
      ⟨(some 15), (.call 55 [(.t 14)]), none, []⟩,
      ⟨none, (.store 1 (.t 16) (.t 12)), none, []⟩,
      ⟨(some 17), (.off (.t 3) 4), none, []⟩,
      ⟨none, (.store 1 (.t 17) (.t 15)), none, []⟩] [])
    (.seq (.seq (.region [⟨(some 19), (.off (.t 3) 0), none, []⟩,
      ⟨(some 20), (.load none (.t 19)), none, []⟩,
      ⟨(some 21), (.call 56 [(.t 20)]), none, []⟩,
      ⟨(some 18), (.mov (.t 21)), none, []⟩,
      ⟨(some 22), (.ext (.t 18) 0), none, []⟩,
      ⟨(some 23), (.ext (.t 18) 1), none, []⟩,
      ⟨(some 24), (.ext (.t 18) 2), none, []⟩,
      ⟨(some 5), (.alloc [(.i .i64 (0))]), none, []⟩,
      ⟨(some 4), (.mov (.t 22)), none, []⟩,
      ⟨none, (.store 1 (.t 5) (.t 23)), none, []⟩,
      ⟨(some 6), (.mov (.t 24)), none, []⟩] [])
    (.seq (.region [⟨(some 25), (.mov (.t 6)), none, []⟩] [])
    (.cond (.t 25)
      (.seq (.seq (.region [⟨(some 26), (.off (.t 3) 2), none, []⟩,
        ⟨(some 27), (.load none (.t 26)), none, []⟩,
        ⟨(some 28), (.lenk 0 (.t 27)), none, []⟩,
        ⟨(some 29), (.mov (.c (.i .i64 (0)))), none, []⟩] [])
      (.block 0
        (.loop L39a)))
      (.seq (.region [⟨(some 38), (.off (.t 3) 2), none, []⟩,
        ⟨(some 39), (.load none (.t 38)), none, []⟩,
        ⟨(some 40), (.mkf 59 [] [(.t 2), (.t 5)]), none, []⟩,
        ⟨(some 41), (.call 58 [(.t 39), (.t 40)]), none, []⟩,
        ⟨(some 42), (.un .not (.t 41)), none, []⟩] [])
      (.cond (.t 42)
        (.region [⟨(some 43), (.mov (.t 4)), none, []⟩,
          ⟨(some 44), (.off (.t 3) 0), none, []⟩,
          ⟨none, (.store 1 (.t 44) (.t 43)), none, []⟩] [])
        .skip)))
      .skip)))
    (.seq (.seq (.region [⟨(some 45), (.off (.t 3) 0), none, []⟩,
      ⟨(some 46), (.load none (.t 45)), none, []⟩,
      ⟨(some 47), (.bin .eql (.t 46) (.c (.i .i64 (40)))), none, []⟩,
      ⟨(some 48), (.mov (.t 47)), none, []⟩,
      ⟨(some 49), (.off (.t 3) 2), (some (48, true)), []⟩,
      ⟨(some 50), (.load none (.t 49)), (some (48, true)), []⟩,
      ⟨(some 51), (.iaddr 7 (.t 50) (.c (.i .i64 (0)))), (some (48, true)), []⟩,
      ⟨(some 52), (.off (.t 51) 0), (some (48, true)), []⟩,
      ⟨(some 53), (.load none (.t 52)), (some (48, true)), []⟩,
      ⟨(some 54), (.bin .eql (.t 53) (.c (.i .i64 (1)))), (some (48, true)), []⟩,
      ⟨(some 55), (.pick (.t 48) (.t 54) (.c (.b false))), none, []⟩] [])
    (.cond (.t 55)
      (.region [⟨(some 56), (.load none (.t 2)), none, []⟩,
        ⟨(some 57), (.nck (.t 56)), none, []⟩,
        ⟨(some 58), (.off (.t 57) 1), none, []⟩,
        ⟨(some 59), (.load none (.t 58)), none, []⟩,
        ⟨(some 60), (.off (.t 3) 2), none, []⟩,
        ⟨(some 61), (.load none (.t 60)), none, []⟩,
        ⟨(some 62), (.iaddr 7 (.t 61) (.c (.i .i64 (0)))), none, []⟩,
        ⟨(some 63), (.off (.t 62) 1), none, []⟩,
        ⟨(some 64), (.load none (.t 63)), none, []⟩,
        ⟨(some 65), (.off (.t 3) 1), none, []⟩,
        ⟨(some 66), (.load none (.t 65)), none, []⟩,
        ⟨(some 67), (.iaddr 1 (.t 59) (.t 64)), none, []⟩,
        ⟨none, (.store 1 (.t 67) (.t 66)), none, []⟩] [])
      .skip))
    (.seq (.region [⟨(some 68), (.load none (.t 2)), none, []⟩,
      ⟨(some 69), (.load none (.t 2)), none, []⟩,
      ⟨(some 70), (.nck (.t 69)), none, []⟩,
      ⟨(some 71), (.off (.t 70) 3), none, []⟩,
      ⟨(some 72), (.load none (.t 71)), none, []⟩,
      ⟨(some 73), (.load none (.t 2)), none, []⟩,
      ⟨(some 74), (.nck (.t 73)), none, []⟩,
      ⟨(some 75), (.off (.t 74) 0), none, []⟩,
      ⟨(some 76), (.load none (.t 75)), none, []⟩,
      ⟨(some 77), (.lenk 0 (.t 76)), none, []⟩,
      ⟨(some 78), (.bsl 1 1 [(.i .i64 (0))] [(0, 1, (.t 77))]), none, []⟩,
      ⟨(some 79), (.app 1 8 (.t 72) (.t 78)), none, [(68, (.load none (.t 2)), none)]⟩,
      ⟨(some 80), (.nck (.t 68)), none, []⟩,
      ⟨(some 81), (.off (.t 80) 3), none, []⟩,
      ⟨none, (.store 1 (.t 81) (.t 79)), none, []⟩] [])
    (.region [⟨(some 82), (.load none (.t 2)), none, []⟩,
      ⟨(some 83), (.load none (.t 2)), none, []⟩,
      ⟨(some 84), (.nck (.t 83)), none, []⟩,
      ⟨(some 85), (.off (.t 84) 0), none, []⟩,
      ⟨(some 86), (.load none (.t 85)), none, []⟩,
      ⟨(some 87), (.load (some 5) (.t 3)), none, []⟩,
      ⟨(some 88), (.bsl 5 1 [(.i .i64 (0)), (.i .i64 (0)), .ns, (.s []), .ns] [(0, 5, (.t 87))]), none, []⟩,
      ⟨(some 89), (.app 5 80 (.t 86) (.t 88)), none, [(82, (.load none (.t 2)), none)]⟩,
      ⟨(some 90), (.nck (.t 82)), none, []⟩,
      ⟨(some 91), (.off (.t 90) 0), none, []⟩,
      ⟨none, (.store 1 (.t 91) (.t 89)), none, []⟩] [])))))),
    92, 2, [], 0⟩
theorem tr39 : trFunc Tryd.prog [([], []), ([0, 1, 2, 4, 5, 3, 7, 6, 8, 9, 10], []), ([], []), ([], []), ([], []), ([], []), ([], []), ([], []), ([], []), ([], []), ([], []), ([], []), ([], []), ([], []), ([], []), ([0, 1, 2, 3, 4, 5, 6, 7, 8, 9, 10, 11, 12], []), ([], []), ([0, 1, 2, 3, 4, 5, 6, 7, 8, 9, 10, 11, 12, 13, 14], []), ([0, 1, 2, 3, 4, 5, 6, 7, 8, 9, 10], [])] 0 Tryd.f39 = some I39 := by kernel_rfl

/-- '(*encore/guess.maker).moved'. -/
def L40a : ICode :=
  (.seq (.region [⟨(some 10), (.bin .lss (.t 9) (.t 8)), none, []⟩] [])
    (.seq (.cond (.t 10)
      .skip
      (.exit 0))
    (.seq (.block 1
      (.seq (.region [⟨(some 11), (.iaddr 7 (.t 7) (.t 9)), none, []⟩,
        ⟨(some 12), (.load (some 7) (.t 11)), none, []⟩,
        ⟨(some 6), (.alloc [(.i .i64 (0)), (.i .i64 (0)), (.i .i64 (0)), (.i .i64 (0)), (.s []), .ns, .ns]), none, []⟩,
        ⟨none, (.store 7 (.t 6) (.t 12)), none, []⟩] [])
      (.seq (.seq (.region [⟨(some 13), (.off (.t 6) 0), none, []⟩,
        ⟨(some 14), (.load none (.t 13)), none, []⟩,
        ⟨(some 15), (.bin .eql (.t 14) (.c (.i .i64 (2)))), none, []⟩] [])
      (.cond (.t 15)
        (.region [⟨(some 16), (.mov (.t 0)), none, []⟩,
          ⟨(some 17), (.nck (.t 16)), none, []⟩,
          ⟨(some 18), (.off (.t 17) 3), none, []⟩,
          ⟨(some 19), (.load none (.t 18)), none, []⟩,
          ⟨(some 20), (.off (.t 6) 1), none, []⟩,
          ⟨(some 21), (.load none (.t 20)), none, []⟩,
          ⟨(some 22), (.iaddr 1 (.t 19) (.t 21)), none, []⟩,
          ⟨(some 23), (.load none (.t 22)), none, []⟩,
          ⟨(some 24), (.off (.t 6) 1), none, []⟩,
          ⟨none, (.store 1 (.t 24) (.t 23)), none, []⟩] [])
        .skip))
      (.seq (.region [⟨(some 25), (.off (.t 6) 2), none, []⟩,
        ⟨(some 26), (.load (some 5) (.t 25)), none, []⟩,
        ⟨(some 27), (.call 61 [(.t 26)]), none, []⟩,
        ⟨(some 28), (.off (.t 6) 2), none, []⟩,
        ⟨none, (.store 5 (.t 28) (.t 27)), none, []⟩] [])
      (.region [⟨(some 29), (.mov (.t 4)), none, []⟩,
        ⟨(some 30), (.load (some 7) (.t 6)), none, []⟩,
        ⟨(some 31), (.bsl 7 1 [(.i .i64 (0)), (.i .i64 (0)), (.i .i64 (0)), (.i .i64 (0)), (.s []), .ns, .ns] [(0, 7, (.t 30))]), none, []⟩,
        ⟨(some 32), (.app 7 96 (.t 29) (.t 31)), none, []⟩,
        ⟨(some 4), (.mov (.t 32)), none, []⟩] [])))))
    (.region [⟨(some 33), (.bin .add (.t 9) (.c (.i .i64 (1)))), none, []⟩,
      ⟨(some 9), (.mov (.t 33)), none, []⟩] []))))
def I40 : IFunc :=
  ⟨(.seq (.region [⟨(some 4), (.mov (.c .ns)), none, []⟩] [])
    (.seq (.seq (.region [⟨(some 7), (.mov (.t 1)), none, []⟩,
      ⟨(some 8), (.lenk 0 (.t 7)), none, []⟩,
      ⟨(some 9), (.mov (.c (.i .i64 (0)))), none, []⟩] [])
    (.block 0
      (.loop L40a)))
    (.seq (.region [⟨(some 34), (.mov (.t 4)), none, []⟩,
      ⟨(some 4), (.mov (.t 34)), none, []⟩] [])
    .ret))),
    35, 2, [.t 4], 0⟩
theorem tr40 : trFunc Tryd.prog [([], []), ([], []), ([], []), ([], []), ([], []), ([], []), ([0, 1, 2, 3, 4, 5, 6, 7, 8, 9], []), ([], []), ([], []), ([], []), ([], []), ([], [])] 0 Tryd.f40 = some I40 := by kernel_rfl

/-- 'encore/encoreref20.Same'. -/
def L43a : ICode :=
  (.seq (.seq (.region [⟨(some 62), (.mov (.t 5)), none, []⟩,
      ⟨(some 63), (.off (.t 2) 4), none, []⟩,
      ⟨(some 64), (.load none (.t 63)), none, []⟩,
      ⟨(some 65), (.lenk 0 (.t 64)), none, []⟩,
      ⟨(some 66), (.bin .lss (.t 62) (.t 65)), none, []⟩] [])
    (.cond (.t 66)
      .skip
      (.exit 0)))
    (.seq (.block 1
      (.seq (.region [⟨(some 69), (.off (.t 2) 4), none, []⟩,
        ⟨(some 70), (.load none (.t 69)), none, []⟩,
        ⟨(some 71), (.mov (.t 5)), none, []⟩,
        ⟨(some 72), (.iaddr 5 (.t 70) (.t 71)), none, []⟩,
        ⟨(some 73), (.load (some 5) (.t 72)), none, []⟩,
        ⟨(some 74), (.off (.t 3) 4), none, []⟩,
        ⟨(some 75), (.load none (.t 74)), none, []⟩,
        ⟨(some 76), (.mov (.t 5)), none, []⟩,
        ⟨(some 77), (.iaddr 5 (.t 75) (.t 76)), none, []⟩,
        ⟨(some 78), (.load (some 5) (.t 77)), none, []⟩,
        ⟨(some 79), (.call 64 [(.t 73), (.t 78)]), none, []⟩,
        ⟨(some 80), (.un .not (.t 79)), none, []⟩] [])
      (.cond (.t 80)
        (.seq (.region [⟨(some 4), (.mov (.c (.b false))), none, []⟩] [])
        .ret)
        .skip)))
    (.region [⟨(some 67), (.mov (.t 5)), none, []⟩,
      ⟨(some 68), (.bin .add (.t 67) (.c (.i .i64 (1)))), none, []⟩,
      ⟨(some 5), (.mov (.t 68)), none, []⟩] [])))
def I43 : IFunc :=
  ⟨(.seq (.region [⟨(some 2), (.box (.t 0)), none, []⟩,
      ⟨(some 3), (.box (.t 1)), none, []⟩,
      ⟨(some 4), (.mov (.c (.b false))), none, []⟩] [])
    (.seq (.seq (.region [⟨(some 6), (.off (.t 2) 0), none, []⟩,
      ⟨(some 7), (.load none (.t 6)), none, []⟩,
      ⟨(some 8), (.off (.t 3) 0), none, []⟩,
      ⟨(some 9), (.load none (.t 8)), none, []⟩,
      ⟨(some 10), (.bin .neq (.t 7) (.t 9)), none, []⟩,
      ⟨(some 11), (.mov (.t 10)), none, []⟩,
      ⟨(some 12), (.off (.t 2) 1), (some (11, false)), []⟩,
      ⟨(some 13), (.load none (.t 12)), (some (11, false)), []⟩,
      ⟨(some 14), (.off (.t 3) 1), (some (11, false)), []⟩,
      ⟨(some 15), (.load none (.t 14)), (some (11, false)), []⟩,
      ⟨(some 16), (.bin .neq (.t 13) (.t 15)), (some (11, false)), []⟩,
      ⟨(some 17), (.pick (.t 11) (.c (.b true)) (.t 16)), none, []⟩,
      ⟨(some 18), (.mov (.t 17)), none, []⟩,
      ⟨(some 19), (.off (.t 2) 2), (some (18, false)), []⟩,
      ⟨(some 20), (.load none (.t 19)), (some (18, false)), []⟩,
      ⟨(some 21), (.off (.t 3) 2), (some (18, false)), []⟩,
      ⟨(some 22), (.load none (.t 21)), (some (18, false)), []⟩,
      ⟨(some 23), (.bin .neq (.t 20) (.t 22)), (some (18, false)), []⟩,
      ⟨(some 24), (.pick (.t 18) (.c (.b true)) (.t 23)), none, []⟩,
      ⟨(some 25), (.mov (.t 24)), none, []⟩,
      ⟨(some 26), (.off (.t 2) 3), (some (25, false)), []⟩,
      ⟨(some 27), (.load none (.t 26)), (some (25, false)), []⟩,
      ⟨(some 28), (.off (.t 3) 3), (some (25, false)), []⟩,
      ⟨(some 29), (.load none (.t 28)), (some (25, false)), []⟩,
      ⟨(some 30), (.bin .neq (.t 27) (.t 29)), (some (25, false)), []⟩,
      ⟨(some 31), (.pick (.t 25) (.c (.b true)) (.t 30)), none, []⟩,
      ⟨(some 32), (.mov (.t 31)), none, []⟩,
      ⟨(some 33), (.off (.t 2) 6), (some (32, false)), []⟩,
      ⟨(some 34), (.load none (.t 33)), (some (32, false)), []⟩,
      ⟨(some 35), (.off (.t 3) 6), (some (32, false)), []⟩,
      ⟨(some 36), (.load none (.t 35)), (some (32, false)), []⟩,
      ⟨(some 37), (.bin .neq (.t 34) (.t 36)), (some (32, false)), []⟩,
      ⟨(some 38), (.pick (.t 32) (.c (.b true)) (.t 37)), none, []⟩,
      ⟨(some 39), (.mov (.t 38)), none, []⟩,
      ⟨(some 40), (.off (.t 2) 7), (some (39, false)), []⟩,
      ⟨(some 41), (.load none (.t 40)), (some (39, false)), []⟩,
      ⟨(some 42), (.off (.t 3) 7), (some (39, false)), []⟩,
      ⟨(some 43), (.load none (.t 42)), (some (39, false)), []⟩,
      ⟨(some 44), (.bin .neq (.t 41) (.t 43)), (some (39, false)), []⟩,
      ⟨(some 45), (.pick (.t 39) (.c (.b true)) (.t 44)), none, []⟩,
      ⟨(some 46), (.mov (.t 45)), none, []⟩,
      ⟨(some 47), (.off (.t 2) 15), (some (46, false)), []⟩,
      ⟨(some 48), (.load none (.t 47)), (some (46, false)), []⟩,
      ⟨(some 49), (.off (.t 3) 15), (some (46, false)), []⟩,
      ⟨(some 50), (.load none (.t 49)), (some (46, false)), []⟩,
      ⟨(some 51), (.bin .neq (.t 48) (.t 50)), (some (46, false)), []⟩,
      ⟨(some 52), (.pick (.t 46) (.c (.b true)) (.t 51)), none, []⟩,
      ⟨(some 53), (.mov (.t 52)), none, []⟩,
      ⟨(some 54), (.off (.t 2) 4), (some (53, false)), []⟩,
      ⟨(some 55), (.load none (.t 54)), (some (53, false)), []⟩,
      ⟨(some 56), (.lenk 0 (.t 55)), (some (53, false)), []⟩,
      ⟨(some 57), (.off (.t 3) 4), (some (53, false)), []⟩,
      ⟨(some 58), (.load none (.t 57)), (some (53, false)), []⟩,
      ⟨(some 59), (.lenk 0 (.t 58)), (some (53, false)), []⟩,
      ⟨(some 60), (.bin .neq (.t 56) (.t 59)), (some (53, false)), []⟩,
      ⟨(some 61), (.pick (.t 53) (.c (.b true)) (.t 60)), none, []⟩] [])
    (.cond (.t 61)
      (.seq (.region [⟨(some 4), (.mov (.c (.b false))), none, []⟩] [])
      .ret)
      .skip))
    (.seq (.seq (.region [⟨(some 5), (.mov (.c (.i .i64 (0)))), none, []⟩] [])
    (.block 0
      (.loop L43a)))
    (.seq (.region [⟨(some 81), (.off (.t 2) 5), none, []⟩,
      ⟨(some 82), (.load none (.t 81)), none, []⟩,
      ⟨(some 83), (.off (.t 3) 5), none, []⟩,
      ⟨(some 84), (.load none (.t 83)), none, []⟩,
      ⟨(some 85), (.call 65 [(.t 82), (.t 84)]), none, []⟩,
      ⟨(some 86), (.mov (.t 85)), none, []⟩,
      ⟨(some 87), (.off (.t 2) 8), (some (86, true)), []⟩,
      ⟨(some 88), (.load (some 7) (.t 87)), (some (86, true)), []⟩,
      ⟨(some 89), (.off (.t 3) 8), (some (86, true)), []⟩,
      ⟨(some 90), (.load (some 7) (.t 89)), (some (86, true)), []⟩,
      ⟨(some 91), (.call 66 [(.t 88), (.t 90)]), (some (86, true)), []⟩,
      ⟨(some 92), (.pick (.t 86) (.t 91) (.c (.b false))), none, []⟩,
      ⟨(some 4), (.mov (.t 92)), none, []⟩] [])
    .ret)))),
    93, 2, [.t 4], 0⟩
theorem tr43 : trFunc Tryd.prog [([], []), ([], []), ([], []), ([], []), ([], []), ([], []), ([], []), ([0, 1, 2, 3, 4, 5, 6, 7, 8, 9, 10, 11], []), ([], []), ([], []), ([], []), ([], [])] 0 Tryd.f43 = some I43 := by kernel_rfl

/-- 'encore/encorelaw22.told'. -/
def L44a : ICode :=
  (.seq (.seq (.region [⟨(some 20), (.mov (.t 4)), none, []⟩,
      ⟨(some 21), (.off (.t 1) 4), none, []⟩,
      ⟨(some 22), (.load none (.t 21)), none, []⟩,
      ⟨(some 23), (.lenk 0 (.t 22)), none, []⟩,
      ⟨(some 24), (.bin .lss (.t 20) (.t 23)), none, []⟩] [])
    (.cond (.t 24)
      .skip
      (.exit 0)))
    (.seq (.block 1
      (.region [⟨(some 27), (.off (.t 3) 4), none, []⟩,
        ⟨(some 28), (.load none (.t 27)), none, []⟩,
        ⟨(some 29), (.off (.t 1) 4), none, []⟩,
        ⟨(some 30), (.load none (.t 29)), none, []⟩,
        ⟨(some 31), (.mov (.t 4)), none, []⟩,
        ⟨(some 32), (.iaddr 5 (.t 30) (.t 31)), none, []⟩,
        ⟨(some 33), (.off (.t 32) 0), none, []⟩,
        ⟨(some 34), (.load none (.t 33)), none, []⟩,
        ⟨(some 35), (.off (.t 1) 4), none, []⟩,
        ⟨(some 36), (.load none (.t 35)), none, []⟩,
        ⟨(some 37), (.mov (.t 4)), none, []⟩,
        ⟨(some 38), (.iaddr 5 (.t 36) (.t 37)), none, []⟩,
        ⟨(some 39), (.off (.t 38) 1), none, []⟩,
        ⟨(some 40), (.load none (.t 39)), none, []⟩,
        ⟨(some 41), (.off (.t 1) 4), none, []⟩,
        ⟨(some 42), (.load none (.t 41)), none, []⟩,
        ⟨(some 43), (.mov (.t 4)), none, []⟩,
        ⟨(some 44), (.iaddr 5 (.t 42) (.t 43)), none, []⟩,
        ⟨(some 45), (.off (.t 44) 2), none, []⟩,
        ⟨(some 46), (.load none (.t 45)), none, []⟩,
        ⟨(some 48), (.off (.t 1) 4), none, []⟩,
        ⟨(some 49), (.load none (.t 48)), none, []⟩,
        ⟨(some 50), (.mov (.t 4)), none, []⟩,
        ⟨(some 51), (.iaddr 5 (.t 49) (.t 50)), none, []⟩,
        ⟨(some 52), (.off (.t 51) 3), none, []⟩,
        ⟨(some 53), (.load none (.t 52)), none, []⟩,
        ⟨(some 54), (.off (.t 1) 4), none, []⟩,
        ⟨(some 55), (.load none (.t 54)), none, []⟩,
        ⟨(some 56), (.mov (.t 4)), none, []⟩,
        ⟨(some 57), (.iaddr 5 (.t 55) (.t 56)), none, []⟩,
        ⟨(some 58), (.off (.t 57) 4), none, []⟩,
        ⟨(some 59), (.load none (.t 58)), none, []⟩,
        ⟨(some 47), (.call 67 [(.t 46)]), none, [(28, (.load none (.t 27)), none), (30, (.load none (.t 29)), none), (34, (.load none (.t 33)), none), (36, (.load none (.t 35)), none), (40, (.load none (.t 39)), none), (49, (.load none (.t 48)), none), (53, (.load none (.t 52)), none), (55, (.load none (.t 54)), none), (59, (.load none (.t 58)), none)]⟩,
        ⟨(some 60), (.build [(.i .i64 (0)), (.i .i64 (0)), .ns, (.s []), .ns] [(0, 1, (.t 34)), (1, 1, (.t 40)), (2, 1, (.t 47)), (3, 1, (.t 53)), (4, 1, (.t 59))]), none, []⟩,
        ⟨(some 61), (.bsl 5 1 [(.i .i64 (0)), (.i .i64 (0)), .ns, (.s []), .ns] [(0, 5, (.t 60))]), none, []⟩,
        ⟨(some 62), (.app 5 80 (.t 28) (.t 61)), none, []⟩,
        ⟨(some 63), (.off (.t 3) 4), none, []⟩,
        ⟨none, (.store 1 (.t 63) (.t 62)), none, []⟩] []))
    (.region [⟨(some 25), (.mov (.t 4)), none, []⟩,
      ⟨(some 26), (.bin .add (.t 25) (.c (.i .i64 (1)))), none, []⟩,
      ⟨(some 4), (.mov (.t 26)), none, []⟩] [])))
def I44 : IFunc :=
  ⟨(.seq (.region [⟨(some 1), (.box (.t 0)), none, []⟩,
      ⟨(some 2), (.alloc [(.i .i64 (0)), (.i .i64 (0)), (.i .i64 (0)), (.i .i64 (0)), .ns, .ns, (.i .i64 (0)), (.i .i64 (0)), (.i .i64 (0)), (.i .i64 (0)), (.i .i64 (0)), (.i .i64 (0)), (.s []), .ns, .ns, (.i .i64 (0))]), none, []⟩] [])
    (.seq (.region [⟨(some 5), (.off (.t 1) 0), none, []⟩,
      ⟨(some 6), (.load none (.t 5)), none, []⟩,
      ⟨(some 7), (.off (.t 1) 1), none, []⟩,
      ⟨(some 8), (.load none (.t 7)), none, []⟩,
      ⟨(some 9), (.off (.t 1) 2), none, []⟩,
      ⟨(some 10), (.load none (.t 9)), none, []⟩,
      ⟨(some 11), (.off (.t 1) 3), none, []⟩,
      ⟨(some 12), (.load none (.t 11)), none, []⟩,
      ⟨(some 13), (.off (.t 1) 6), none, []⟩,
      ⟨(some 14), (.load none (.t 13)), none, []⟩,
      ⟨(some 15), (.off (.t 1) 7), none, []⟩,
      ⟨(some 16), (.load none (.t 15)), none, []⟩,
      ⟨(some 17), (.off (.t 1) 15), none, []⟩,
      ⟨(some 18), (.load none (.t 17)), none, []⟩,
      ⟨(some 19), (.build [(.i .i64 (0)), (.i .i64 (0)), (.i .i64 (0)), (.i .i64 (0)), .ns, .ns, (.i .i64 (0)), (.i .i64 (0)), (.i .i64 (0)), (.i .i64 (0)), (.i .i64 (0)), (.i .i64 (0)), (.s []), .ns, .ns, (.i .i64 (0))] [(0, 1, (.t 6)), (1, 1, (.t 8)), (2, 1, (.t 10)), (3, 1, (.t 12)), (6, 1, (.t 14)), (7, 1, (.t 16)), (15, 1, (.t 18))]), none, []⟩,
      ⟨(some 3), (.alloc [(.i .i64 (0)), (.i .i64 (0)), (.i .i64 (0)), (.i .i64 (0)), .ns, .ns, (.i .i64 (0)), (.i .i64 (0)), (.i .i64 (0)), (.i .i64 (0)), (.i .i64 (0)), (.i .i64 (0)), (.s []), .ns, .ns, (.i .i64 (0))]), none, []⟩,
      ⟨none, (.store 16 (.t 3) (.t 19)), none, []⟩] [])
    (.seq (.seq (.region [⟨(some 4), (.mov (.c (.i .i64 (0)))), none, []⟩] [])
    (.block 0
      (.loop L44a)))
    (.seq (.region [⟨(some 64), (.off (.t 1) 5), none, []⟩,
      ⟨(some 65), (.load none (.t 64)), none, []⟩,
      ⟨(some 66), (.call 67 [(.t 65)]), none, []⟩,
      ⟨(some 67), (.off (.t 3) 5), none, []⟩,
      ⟨none, (.store 1 (.t 67) (.t 66)), none, []⟩] [])
    (.seq (.region [⟨(some 68), (.off (.t 1) 8), none, []⟩,
      ⟨(some 69), (.off (.t 68) 0), none, []⟩,
      ⟨(some 70), (.load none (.t 69)), none, []⟩,
      ⟨(some 71), (.off (.t 1) 8), none, []⟩,
      ⟨(some 72), (.off (.t 71) 1), none, []⟩,
      ⟨(some 73), (.load none (.t 72)), none, []⟩,
      ⟨(some 74), (.off (.t 1) 8), none, []⟩,
      ⟨(some 75), (.off (.t 74) 2), none, []⟩,
      ⟨(some 76), (.load (some 5) (.t 75)), none, []⟩,
      ⟨(some 77), (.build [(.i .i64 (0)), (.i .i64 (0)), (.i .i64 (0)), (.i .i64 (0)), (.s []), .ns, .ns] [(0, 1, (.t 70)), (1, 1, (.t 73)), (2, 5, (.t 76))]), none, []⟩,
      ⟨(some 78), (.off (.t 3) 8), none, []⟩,
      ⟨none, (.store 7 (.t 78) (.t 77)), none, []⟩] [])
    (.seq (.region [⟨(some 79), (.load (some 16) (.t 3)), none, []⟩,
      ⟨none, (.store 16 (.t 2) (.t 79)), none, []⟩] [])
    .ret)))))),
    80, 1, [.c 2 (some 16)], 0⟩
theorem tr44 : trFunc Tryd.prog [([], []), ([], []), ([], []), ([], []), ([], []), ([0, 1, 2, 3, 4, 5, 6, 7, 8, 9, 10, 11, 12, 13, 14, 15, 16, 17, 18, 19, 21, 22, 23, 24, 25, 26, 27, 28, 29, 30, 31, 32, 20, 33, 34, 35, 36, 37], []), ([], []), ([], []), ([], []), ([], [])] 0 Tryd.f44 = some I44 := by kernel_rfl

/-- 'encore/value.fits'. -/
def L45a : ICode :=
  (.seq (.region [⟨(some 22), (.bin .lss (.t 21) (.t 20)), none, []⟩] [])
    (.seq (.cond (.t 22)
      .skip
      (.exit 0))
    (.seq (.block 1
      (.seq (.region [⟨(some 23), (.iaddr 1 (.t 19) (.t 21)), none, []⟩,
        ⟨(some 24), (.load none (.t 23)), none, []⟩,
        ⟨(some 9), (.mov (.t 24)), none, []⟩] [])
      (.region [⟨(some 25), (.mov (.t 2)), none, []⟩,
        ⟨(some 26), (.mov (.t 9)), none, []⟩,
        ⟨(some 27), (.lenk 1 (.t 26)), none, []⟩,
        ⟨(some 28), (.bin .sub (.t 25) (.t 27)), none, []⟩,
        ⟨(some 2), (.mov (.t 28)), none, []⟩] [])))
    (.region [⟨(some 29), (.bin .add (.t 21) (.c (.i .i64 (1)))), none, []⟩,
      ⟨(some 21), (.mov (.t 29)), none, []⟩] []))))
def L45b : ICode :=
  (.seq (.region [⟨(some 45), (.bin .lss (.t 44) (.t 43)), none, []⟩] [])
    (.seq (.cond (.t 45)
      .skip
      (.exit 2))
    (.seq (.block 3
      (.seq (.region [⟨(some 46), (.mov (.t 44)), none, []⟩,
        ⟨(some 11), (.mov (.t 46)), none, []⟩] [])
      (.seq (.region [⟨(some 48), (.off (.t 3) 3), none, []⟩,
        ⟨(some 49), (.load none (.t 48)), none, []⟩,
        ⟨(some 50), (.mov (.t 11)), none, []⟩,
        ⟨(some 51), (.iaddr 5 (.t 49) (.t 50)), none, []⟩,
        ⟨(some 52), (.load (some 5) (.t 51)), none, []⟩,
        ⟨(some 53), (.mov (.t 1)), none, []⟩,
        ⟨(some 54), (.bin .add (.t 53) (.c (.i .i64 (1)))), none, []⟩,
        ⟨(some 55), (.mov (.t 2)), none, []⟩,
        ⟨(some 56), (.call 45 [(.t 52), (.t 54), (.t 55)]), none, []⟩,
        ⟨(some 47), (.mov (.t 56)), none, []⟩,
        ⟨(some 57), (.ext (.t 47) 0), none, []⟩,
        ⟨(some 58), (.ext (.t 47) 1), none, []⟩,
        ⟨(some 2), (.mov (.t 57)), none, []⟩,
        ⟨(some 10), (.mov (.t 58)), none, []⟩] [])
      (.seq (.region [⟨(some 59), (.mov (.t 10)), none, []⟩,
        ⟨(some 60), (.un .not (.t 59)), none, []⟩] [])
      (.cond (.t 60)
        (.seq (.region [⟨(some 6), (.mov (.c (.i .i64 (0)))), none, []⟩,
          ⟨(some 7), (.mov (.c (.b false))), none, []⟩] [])
        .ret)
        .skip)))))
    (.region [⟨(some 61), (.bin .add (.t 44) (.c (.i .i64 (1)))), none, []⟩,
      ⟨(some 44), (.mov (.t 61)), none, []⟩] []))))
def I45 : IFunc :=
  ⟨(.seq (.region [⟨(some 3), (.box (.t 0)), none, []⟩,
      ⟨(some 6), (.mov (.c (.i .i64 (0)))), none, []⟩,
      ⟨(some 7), (.mov (.c (.b false))), none, []⟩] [])
    (.seq (.region [⟨(some 12), (.mov (.t 2)), none, []⟩,
      ⟨(some 13), (.off (.t 3) 2), none, []⟩,
      ⟨(some 14), (.load none (.t 13)), none, []⟩,
      ⟨(some 15), (.lenk 1 (.t 14)), none, []⟩,
      ⟨(some 16), (.bin .add (.c (.i .i64 (1))) (.t 15)), none, []⟩,
      ⟨(some 17), (.bin .sub (.t 12) (.t 16)), none, []⟩,
      ⟨(some 2), (.mov (.t 17)), none, []⟩] [])
    (.seq (.seq (.region [⟨(some 18), (.off (.t 3) 4), none, []⟩,
      ⟨(some 19), (.load none (.t 18)), none, []⟩,
      ⟨(some 20), (.lenk 0 (.t 19)), none, []⟩,
      ⟨(some 21), (.mov (.c (.i .i64 (0)))), none, []⟩] [])
    (.block 0
      (.loop L45a)))
    (.seq (.seq (.region [⟨(some 30), (.mov (.t 1)), none, []⟩,
      ⟨(some 31), (.bin .geq (.t 30) (.c (.i .i64 (8)))), none, []⟩,
      ⟨(some 32), (.mov (.t 31)), none, []⟩,
      ⟨(some 33), (.mov (.t 2)), (some (32, false)), []⟩,
      ⟨(some 34), (.bin .lss (.t 33) (.c (.i .i64 (0)))), (some (32, false)), []⟩,
      ⟨(some 35), (.pick (.t 32) (.c (.b true)) (.t 34)), none, []⟩,
      ⟨(some 36), (.mov (.t 35)), none, []⟩,
      ⟨(some 37), (.load (some 5) (.t 3)), (some (36, false)), []⟩,
      ⟨(some 38), (.call 68 [(.t 37)]), (some (36, false)), []⟩,
      ⟨(some 39), (.un .not (.t 38)), (some (36, false)), []⟩,
      ⟨(some 40), (.pick (.t 36) (.c (.b true)) (.t 39)), none, []⟩] [])
    (.cond (.t 40)
      (.seq (.region [⟨(some 6), (.mov (.c (.i .i64 (0)))), none, []⟩,
        ⟨(some 7), (.mov (.c (.b false))), none, []⟩] [])
      .ret)
      .skip))
    (.seq (.region [⟨(some 10), (.mov (.c (.b true))), none, []⟩] [])
    (.seq (.seq (.region [⟨(some 41), (.off (.t 3) 3), none, []⟩,
      ⟨(some 42), (.load none (.t 41)), none, []⟩,
      ⟨(some 43), (.lenk 0 (.t 42)), none, []⟩,
      ⟨(some 44), (.mov (.c (.i .i64 (0)))), none, []⟩] [])
    (.block 2
      (.loop L45b)))
    (.seq (.region [⟨(some 62), (.mov (.t 2)), none, []⟩,
      ⟨(some 6), (.mov (.t 62)), none, []⟩,
      ⟨(some 7), (.mov (.c (.b true))), none, []⟩] [])
    .ret))))))),
    63, 3, [.t 6, .t 7], 0⟩
theorem tr45 : trFunc Tryd.prog [([], []), ([], []), ([], []), ([], []), ([], []), ([], []), ([], []), ([], []), ([], []), ([], []), ([], []), ([], []), ([], []), ([], []), ([], []), ([], []), ([], []), ([], []), ([], []), ([], []), ([], []), ([], [])] 0 Tryd.f45 = some I45 := by kernel_rfl

/-- 'encore/encoreref07.Compare'. -/
def L50a : ICode :=
  (.seq (.seq (.region [⟨(some 38), (.mov (.t 5)), none, []⟩,
      ⟨(some 39), (.off (.t 2) 4), none, []⟩,
      ⟨(some 40), (.load none (.t 39)), none, []⟩,
      ⟨(some 41), (.lenk 0 (.t 40)), none, []⟩,
      ⟨(some 42), (.bin .lss (.t 38) (.t 41)), none, []⟩,
      ⟨(some 43), (.mov (.t 42)), none, []⟩,
      ⟨(some 44), (.mov (.t 5)), (some (43, true)), []⟩,
      ⟨(some 45), (.off (.t 3) 4), (some (43, true)), []⟩,
      ⟨(some 46), (.load none (.t 45)), (some (43, true)), []⟩,
      ⟨(some 47), (.lenk 0 (.t 46)), (some (43, true)), []⟩,
      ⟨(some 48), (.bin .lss (.t 44) (.t 47)), (some (43, true)), []⟩,
      ⟨(some 49), (.pick (.t 43) (.t 48) (.c (.b false))), none, []⟩] [])
    (.cond (.t 49)
      .skip
      (.exit 0)))
    (.seq (.block 1
      (.seq (.region [⟨(some 52), (.off (.t 2) 4), none, []⟩,
        ⟨(some 53), (.load none (.t 52)), none, []⟩,
        ⟨(some 54), (.mov (.t 5)), none, []⟩,
        ⟨(some 55), (.iaddr 1 (.t 53) (.t 54)), none, []⟩,
        ⟨(some 56), (.load none (.t 55)), none, []⟩,
        ⟨(some 57), (.off (.t 3) 4), none, []⟩,
        ⟨(some 58), (.load none (.t 57)), none, []⟩,
        ⟨(some 59), (.mov (.t 5)), none, []⟩,
        ⟨(some 60), (.iaddr 1 (.t 58) (.t 59)), none, []⟩,
        ⟨(some 61), (.load none (.t 60)), none, []⟩,
        ⟨(some 62), (.bin .neq (.t 56) (.t 61)), none, []⟩] [])
      (.cond (.t 62)
        (.seq (.region [⟨(some 63), (.off (.t 2) 4), none, []⟩,
          ⟨(some 64), (.load none (.t 63)), none, []⟩,
          ⟨(some 65), (.mov (.t 5)), none, []⟩,
          ⟨(some 66), (.iaddr 1 (.t 64) (.t 65)), none, []⟩,
          ⟨(some 67), (.load none (.t 66)), none, []⟩,
          ⟨(some 68), (.off (.t 3) 4), none, []⟩,
          ⟨(some 69), (.load none (.t 68)), none, []⟩,
          ⟨(some 70), (.mov (.t 5)), none, []⟩,
          ⟨(some 71), (.iaddr 1 (.t 69) (.t 70)), none, []⟩,
          ⟨(some 72), (.load none (.t 71)), none, []⟩,
          ⟨(some 73), (.call 71 [(.t 67), (.t 72)]), none, []⟩,
          ⟨(some 4), (.mov (.t 73)), none, []⟩] [])
        .ret)
        .skip)))
    (.region [⟨(some 50), (.mov (.t 5)), none, []⟩,
      ⟨(some 51), (.bin .add (.t 50) (.c (.i .i64 (1)))), none, []⟩,
      ⟨(some 5), (.mov (.t 51)), none, []⟩] [])))
def L50b : ICode :=
  (.seq (.seq (.region [⟨(some 88), (.mov (.t 6)), none, []⟩,
      ⟨(some 89), (.off (.t 2) 3), none, []⟩,
      ⟨(some 90), (.load none (.t 89)), none, []⟩,
      ⟨(some 91), (.lenk 0 (.t 90)), none, []⟩,
      ⟨(some 92), (.bin .lss (.t 88) (.t 91)), none, []⟩,
      ⟨(some 93), (.mov (.t 92)), none, []⟩,
      ⟨(some 94), (.mov (.t 6)), (some (93, true)), []⟩,
      ⟨(some 95), (.off (.t 3) 3), (some (93, true)), []⟩,
      ⟨(some 96), (.load none (.t 95)), (some (93, true)), []⟩,
      ⟨(some 97), (.lenk 0 (.t 96)), (some (93, true)), []⟩,
      ⟨(some 98), (.bin .lss (.t 94) (.t 97)), (some (93, true)), []⟩,
      ⟨(some 99), (.pick (.t 93) (.t 98) (.c (.b false))), none, []⟩] [])
    (.cond (.t 99)
      .skip
      (.exit 2)))
    (.seq (.block 3
      (.seq (.region [⟨(some 102), (.off (.t 2) 3), none, []⟩,
        ⟨(some 103), (.load none (.t 102)), none, []⟩,
        ⟨(some 104), (.mov (.t 6)), none, []⟩,
        ⟨(some 105), (.iaddr 5 (.t 103) (.t 104)), none, []⟩,
        ⟨(some 106), (.load (some 5) (.t 105)), none, []⟩,
        ⟨(some 107), (.off (.t 3) 3), none, []⟩,
        ⟨(some 108), (.load none (.t 107)), none, []⟩,
        ⟨(some 109), (.mov (.t 6)), none, []⟩,
        ⟨(some 110), (.iaddr 5 (.t 108) (.t 109)), none, []⟩,
        ⟨(some 111), (.load (some 5) (.t 110)), none, []⟩,
        ⟨(some 112), (.call 50 [(.t 106), (.t 111)]), none, []⟩,
        ⟨(some 7), (.mov (.t 112)), none, []⟩] [])
      (.seq (.region [⟨(some 113), (.mov (.t 7)), none, []⟩,
        ⟨(some 114), (.bin .neq (.t 113) (.c (.i .i64 (0)))), none, []⟩] [])
      (.cond (.t 114)
        (.seq (.region [⟨(some 115), (.mov (.t 7)), none, []⟩,
          ⟨(some 4), (.mov (.t 115)), none, []⟩] [])
        .ret)
        .skip))))
    (.region [⟨(some 100), (.mov (.t 6)), none, []⟩,
      ⟨(some 101), (.bin .add (.t 100) (.c (.i .i64 (1)))), none, []⟩,
      ⟨(some 6), (.mov (.t 101)), none, []⟩] [])))
def I50 : IFunc :=
  ⟨(.seq (.region [⟨(some 2), (.box (.t 0)), none, []⟩,
      ⟨(some 3), (.box (.t 1)), none, []⟩,
      ⟨(some 4), (.mov (.c (.i .i64 (0)))), none, []⟩] [])
    (.seq (.seq (.region [⟨(some 8), (.off (.t 2) 0), none, []⟩,
      ⟨(some 9), (.load none (.t 8)), none, []⟩,
      ⟨(some 10), (.off (.t 3) 0), none, []⟩,
      ⟨(some 11), (.load none (.t 10)), none, []⟩,
      ⟨(some 12), (.bin .neq (.t 9) (.t 11)), none, []⟩] [])
    (.cond (.t 12)
      (.seq (.region [⟨(some 13), (.off (.t 2) 0), none, []⟩,
        ⟨(some 14), (.load none (.t 13)), none, []⟩,
        ⟨(some 15), (.off (.t 3) 0), none, []⟩,
        ⟨(some 16), (.load none (.t 15)), none, []⟩,
        ⟨(some 17), (.call 70 [(.t 14), (.t 16)]), none, []⟩,
        ⟨(some 4), (.mov (.t 17)), none, []⟩] [])
      .ret)
      .skip))
    (.seq (.seq (.region [⟨(some 18), (.off (.t 2) 1), none, []⟩,
      ⟨(some 19), (.load none (.t 18)), none, []⟩,
      ⟨(some 20), (.off (.t 3) 1), none, []⟩,
      ⟨(some 21), (.load none (.t 20)), none, []⟩,
      ⟨(some 22), (.bin .neq (.t 19) (.t 21)), none, []⟩] [])
    (.cond (.t 22)
      (.seq (.region [⟨(some 23), (.off (.t 2) 1), none, []⟩,
        ⟨(some 24), (.load none (.t 23)), none, []⟩,
        ⟨(some 25), (.off (.t 3) 1), none, []⟩,
        ⟨(some 26), (.load none (.t 25)), none, []⟩,
        ⟨(some 27), (.call 70 [(.t 24), (.t 26)]), none, []⟩,
        ⟨(some 4), (.mov (.t 27)), none, []⟩] [])
      .ret)
      .skip))
    (.seq (.seq (.region [⟨(some 28), (.off (.t 2) 2), none, []⟩,
      ⟨(some 29), (.load none (.t 28)), none, []⟩,
      ⟨(some 30), (.off (.t 3) 2), none, []⟩,
      ⟨(some 31), (.load none (.t 30)), none, []⟩,
      ⟨(some 32), (.bin .neq (.t 29) (.t 31)), none, []⟩] [])
    (.cond (.t 32)
      (.seq (.region [⟨(some 33), (.off (.t 2) 2), none, []⟩,
        ⟨(some 34), (.load none (.t 33)), none, []⟩,
        ⟨(some 35), (.off (.t 3) 2), none, []⟩,
        ⟨(some 36), (.load none (.t 35)), none, []⟩,
        ⟨(some 37), (.call 71 [(.t 34), (.t 36)]), none, []⟩,
        ⟨(some 4), (.mov (.t 37)), none, []⟩] [])
      .ret)
      .skip))
    (.seq (.seq (.region [⟨(some 5), (.mov (.c (.i .i64 (0)))), none, []⟩] [])
    (.block 0
      (.loop L50a)))
    (.seq (.seq (.region [⟨(some 74), (.off (.t 2) 4), none, []⟩,
      ⟨(some 75), (.load none (.t 74)), none, []⟩,
      ⟨(some 76), (.lenk 0 (.t 75)), none, []⟩,
      ⟨(some 77), (.off (.t 3) 4), none, []⟩,
      ⟨(some 78), (.load none (.t 77)), none, []⟩,
      ⟨(some 79), (.lenk 0 (.t 78)), none, []⟩,
      ⟨(some 80), (.bin .neq (.t 76) (.t 79)), none, []⟩] [])
    (.cond (.t 80)
      (.seq (.region [⟨(some 81), (.off (.t 2) 4), none, []⟩,
        ⟨(some 82), (.load none (.t 81)), none, []⟩,
        ⟨(some 83), (.lenk 0 (.t 82)), none, []⟩,
        ⟨(some 84), (.off (.t 3) 4), none, []⟩,
        ⟨(some 85), (.load none (.t 84)), none, []⟩,
        ⟨(some 86), (.lenk 0 (.t 85)), none, []⟩,
        ⟨(some 87), (.call 70 [(.t 83), (.t 86)]), none, []⟩,
        ⟨(some 4), (.mov (.t 87)), none, []⟩] [])
      .ret)
      .skip))
    (.seq (.seq (.region [⟨(some 6), (.mov (.c (.i .i64 (0)))), none, []⟩] [])
    (.block 2
      (.loop L50b)))
    (.seq (.region [⟨(some 116), (.off (.t 2) 3), none, []⟩,
      ⟨(some 117), (.load none (.t 116)), none, []⟩,
      ⟨(some 118), (.lenk 0 (.t 117)), none, []⟩,
      ⟨(some 119), (.off (.t 3) 3), none, []⟩,
      ⟨(some 120), (.load none (.t 119)), none, []⟩,
      ⟨(some 121), (.lenk 0 (.t 120)), none, []⟩,
      ⟨(some 122), (.call 70 [(.t 118), (.t 121)]), none, []⟩,
      ⟨(some 4), (.mov (.t 122)), none, []⟩] [])
    .ret)))))))),
    123, 2, [.t 4], 0⟩
theorem tr50 : trFunc Tryd.prog [([], []), ([], []), ([], []), ([], []), ([], []), ([], []), ([], []), ([], []), ([], []), ([], []), ([], []), ([], []), ([], []), ([0, 1, 2, 3, 4, 5, 6, 7, 8, 9, 10], []), ([0, 1, 2, 3, 4, 5, 6, 7, 8, 9, 10, 11], []), ([], []), ([], []), ([], []), ([], []), ([], []), ([], []), ([], []), ([], []), ([0, 1, 2, 3, 4, 5, 6, 7, 8, 9, 10, 11], []), ([], []), ([], []), ([], []), ([], []), ([], [])] 0 Tryd.f50 = some I50 := by kernel_rfl

/-- '(encore/lift.Ins).fits'. -/
def I51 : IFunc :=
  ⟨(.seq (.region [⟨(some 3), (.box (.t 0)), none, []⟩,
      ⟨(some 6), (.mov (.c (.b false))), none, []⟩] [])
    (.seq (.region [⟨(some 11), (.load (some 5) (.t 3)), none, []⟩,
      ⟨(some 12), (.call 72 [(.t 11)]), none, []⟩,
      ⟨(some 10), (.mov (.t 12)), none, []⟩,
      ⟨(some 13), (.ext (.t 10) 0), none, []⟩,
      ⟨(some 14), (.ext (.t 10) 1), none, []⟩,
      ⟨(some 15), (.ext (.t 10) 2), none, []⟩,
      ⟨(some 7), (.mov (.t 13)), none, []⟩,
      ⟨(some 8), (.mov (.t 14)), none, []⟩,
      ⟨(some 9), (.mov (.t 15)), none, []⟩] [])
    (.seq (.region [⟨(some 16), (.mov (.t 9)), none, []⟩,
      ⟨(some 17), (.mov (.t 16)), none, []⟩,
      ⟨(some 18), (.off (.t 3) 2), (some (17, true)), []⟩,
      ⟨(some 19), (.load none (.t 18)), (some (17, true)), []⟩,
      ⟨(some 20), (.lenk 0 (.t 19)), (some (17, true)), []⟩,
      ⟨(some 21), (.mov (.t 7)), (some (17, true)), []⟩,
      ⟨(some 22), (.bin .geq (.t 20) (.t 21)), (some (17, true)), []⟩,
      ⟨(some 23), (.pick (.t 17) (.t 22) (.c (.b false))), none, []⟩,
      ⟨(some 24), (.mov (.t 23)), none, []⟩,
      ⟨(some 25), (.off (.t 3) 2), (some (24, true)), []⟩,
      ⟨(some 26), (.load none (.t 25)), (some (24, true)), []⟩,
      ⟨(some 27), (.lenk 0 (.t 26)), (some (24, true)), []⟩,
      ⟨(some 28), (.mov (.t 8)), (some (24, true)), []⟩,
      ⟨(some 29), (.bin .leq (.t 27) (.t 28)), (some (24, true)), []⟩,
      ⟨(some 30), (.pick (.t 24) (.t 29) (.c (.b false))), none, []⟩,
      ⟨(some 31), (.mov (.t 30)), none, []⟩,
      ⟨(some 32), (.off (.t 3) 2), (some (31, true)), []⟩,
      ⟨(some 33), (.load none (.t 32)), (some (31, true)), []⟩,
      ⟨(some 34), (.mov (.t 1)), (some (31, true)), []⟩,
      ⟨(some 35), (.mov (.t 2)), (some (31, true)), []⟩,
      ⟨(some 36), (.call 54 [(.t 33), (.t 34), (.t 35)]), (some (31, true)), []⟩,
      ⟨(some 37), (.pick (.t 31) (.t 36) (.c (.b false))), none, []⟩,
      ⟨(some 6), (.mov (.t 37)), none, []⟩] [])
    .ret))),
    38, 3, [.t 6], 0⟩
theorem tr51 : trFunc Tryd.prog [([], []), ([], []), ([], [])] 0 Tryd.f51 = some I51 := by kernel_rfl

/-- '(encore/lift.Operand).fits'. -/
def I52 : IFunc :=
  ⟨(.seq (.region [⟨(some 3), (.box (.t 0)), none, []⟩,
      ⟨(some 6), (.mov (.c (.b false))), none, []⟩] [])
    (.seq (.seq (.region [⟨(some 7), (.off (.t 3) 0), none, []⟩,
      ⟨(some 8), (.load none (.t 7)), none, []⟩] [])
    (.block 0
      (.seq (.region [⟨(some 10), (.bin .eql (.t 8) (.c (.i .i64 (1)))), none, []⟩,
        ⟨(some 9), (.mov (.t 10)), none, []⟩] [])
      (.cond (.t 9)
        (.seq (.region [⟨(some 11), (.off (.t 3) 1), none, []⟩,
          ⟨(some 12), (.load none (.t 11)), none, []⟩,
          ⟨(some 13), (.bin .geq (.t 12) (.c (.i .i64 (0)))), none, []⟩,
          ⟨(some 14), (.mov (.t 13)), none, []⟩,
          ⟨(some 15), (.off (.t 3) 1), (some (14, true)), []⟩,
          ⟨(some 16), (.load none (.t 15)), (some (14, true)), []⟩,
          ⟨(some 17), (.mov (.t 1)), (some (14, true)), []⟩,
          ⟨(some 18), (.bin .lss (.t 16) (.t 17)), (some (14, true)), []⟩,
          ⟨(some 19), (.pick (.t 14) (.t 18) (.c (.b false))), none, []⟩,
          ⟨(some 20), (.mov (.t 19)), none, []⟩,
          ⟨(some 21), (.off (.t 3) 2), (some (20, true)), []⟩,
          ⟨(some 22), (.load (some 5) (.t 21)), (some (20, true)), []⟩,
          ⟨(some 23), (.call 53 [(.t 22)]), (some (20, true)), []⟩,
          ⟨(some 24), (.pick (.t 20) (.t 23) (.c (.b false))), none, []⟩,
          ⟨(some 6), (.mov (.t 24)), none, []⟩] [])
        .ret)
        (.seq (.region [⟨(some 26), (.bin .eql (.t 8) (.c (.i .i64 (2)))), none, []⟩,
          ⟨(some 25), (.mov (.t 26)), none, []⟩] [])
        (.cond (.t 25)
          (.seq (.region [⟨(some 27), (.off (.t 3) 1), none, []⟩,
            ⟨(some 28), (.load none (.t 27)), none, []⟩,
            ⟨(some 29), (.bin .geq (.t 28) (.c (.i .i64 (0)))), none, []⟩,
            ⟨(some 30), (.mov (.t 29)), none, []⟩,
            ⟨(some 31), (.off (.t 3) 1), (some (30, true)), []⟩,
            ⟨(some 32), (.load none (.t 31)), (some (30, true)), []⟩,
            ⟨(some 33), (.mov (.t 2)), (some (30, true)), []⟩,
            ⟨(some 34), (.bin .lss (.t 32) (.t 33)), (some (30, true)), []⟩,
            ⟨(some 35), (.pick (.t 30) (.t 34) (.c (.b false))), none, []⟩,
            ⟨(some 36), (.mov (.t 35)), none, []⟩,
            ⟨(some 37), (.off (.t 3) 2), (some (36, true)), []⟩,
            ⟨(some 38), (.load (some 5) (.t 37)), (some (36, true)), []⟩,
            ⟨(some 39), (.call 53 [(.t 38)]), (some (36, true)), []⟩,
            ⟨(some 40), (.pick (.t 36) (.t 39) (.c (.b false))), none, []⟩,
            ⟨(some 6), (.mov (.t 40)), none, []⟩] [])
          .ret)
          (.seq (.region [⟨(some 42), (.bin .eql (.t 8) (.c (.i .i64 (3)))), none, []⟩,
            ⟨(some 41), (.mov (.t 42)), none, []⟩] [])
          (.cond (.t 41)
            (.seq (.region [⟨(some 43), (.off (.t 3) 1), none, []⟩,
              ⟨(some 44), (.load none (.t 43)), none, []⟩,
              ⟨(some 45), (.bin .eql (.t 44) (.c (.i .i64 (0)))), none, []⟩,
              ⟨(some 46), (.mov (.t 45)), none, []⟩,
              ⟨(some 47), (.off (.t 3) 2), (some (46, true)), []⟩,
              ⟨(some 48), (.load (some 5) (.t 47)), (some (46, true)), []⟩,
              ⟨(some 49), (.call 73 [(.t 48)]), (some (46, true)), []⟩,
              ⟨(some 50), (.pick (.t 46) (.t 49) (.c (.b false))), none, []⟩,
              ⟨(some 6), (.mov (.t 50)), none, []⟩] [])
            .ret)
            .skip))))))))
    (.seq (.region [⟨(some 6), (.mov (.c (.b false))), none, []⟩] [])
    .ret))),
    51, 3, [.t 6], 0⟩
theorem tr52 : trFunc Tryd.prog [([], []), ([], []), ([], []), ([], []), ([], []), ([], []), ([], []), ([], []), ([], []), ([], [])] 0 Tryd.f52 = some I52 := by kernel_rfl

/-- 'encore/lift.none'. -/
def I53 : IFunc :=
  ⟨(.seq (.region [⟨(some 1), (.box (.t 0)), none, []⟩,
      ⟨(some 2), (.mov (.c (.b false))), none, []⟩] [])
    (.seq (.region [⟨(some 3), (.load (some 5) (.t 1)), none, []⟩,
      ⟨(some 4), (.build [(.i .i64 (0)), (.i .i64 (0)), (.s []), .ns, .ns] []), none, []⟩,
      ⟨(some 5), (.call 74 [(.t 3), (.t 4)]), none, []⟩,
      ⟨(some 2), (.mov (.t 5)), none, []⟩] [])
    .ret)),
    6, 1, [.t 2], 0⟩
theorem tr53 : trFunc Tryd.prog [([], []), ([], [])] 0 Tryd.f53 = some I53 := by kernel_rfl

/-- 'encore/lift.fit'. -/
def I54 : IFunc :=
  ⟨(.seq (.region [⟨(some 4), (.box (.t 1)), none, []⟩,
      ⟨(some 5), (.box (.t 2)), none, []⟩,
      ⟨(some 6), (.mov (.c (.b false))), none, []⟩] [])
    (.seq (.region [⟨(some 7), (.mov (.t 0)), none, []⟩,
      ⟨(some 8), (.mkf 75 [] [(.t 4), (.t 5)]), none, []⟩,
      ⟨(some 9), (.call 58 [(.t 7), (.t 8)]), none, []⟩,
      ⟨(some 10), (.un .not (.t 9)), none, []⟩,
      ⟨(some 6), (.mov (.t 10)), none, []⟩] [])
    .ret)),
    11, 3, [.t 6], 0⟩
theorem tr54 : trFunc Tryd.prog [([], []), ([], [])] 0 Tryd.f54 = some I54 := by kernel_rfl

/-- 'slices.Clone[[]string,string]'. -/
def I55 : IFunc :=
  ⟨(.seq (.region [⟨(some 2), (.mov (.c .ns)), none, []⟩] [])
    (.seq (.seq (.region [⟨(some 3), (.mov (.t 0)), none, []⟩,
      ⟨(some 4), (.eqNil 0 false (.t 3) (.c .ns)), none, []⟩] [])
    (.cond (.t 4)
      (.seq (.region [⟨(some 2), (.mov (.c .ns)), none, []⟩] [])
      .ret)
      .skip))
    (.seq (.region [⟨(some 5), (.bsl 1 0 [] []), none, []⟩,
      ⟨(some 6), (.mov (.t 0)), none, []⟩,
      ⟨(some 7), (.app 1 16 (.t 5) (.t 6)), none, []⟩,
      ⟨(some 2), (.mov (.t 7)), none, []⟩] [])
    .ret))),
    8, 1, [.t 2], 0⟩
theorem tr55 : trFunc Tryd.prog [([], []), ([], []), ([], []), ([], []), ([], [])] 0 Tryd.f55 = some I55 := by kernel_rfl

/-- 'encore/guess.typed'. -/
def I56 : IFunc :=
  ⟨(.seq (.region [⟨(some 2), (.mov (.c (.i .i64 (0)))), none, []⟩,
      ⟨(some 3), (.mov (.c (.i .i64 (0)))), none, []⟩,
      ⟨(some 4), (.mov (.c (.b false))), none, []⟩] [])
    (.seq (.seq (.region [⟨(some 5), (.mov (.t 0)), none, []⟩] [])
    (.block 0
      (.seq (.region [⟨(some 7), (.bin .eql (.t 5) (.c (.i .i64 (6)))), none, []⟩,
        ⟨(some 6), (.mov (.t 7)), none, []⟩] [])
      (.cond (.t 6)
        (.seq (.region [⟨(some 2), (.mov (.c (.i .i64 (41)))), none, []⟩,
          ⟨(some 3), (.mov (.c (.i .i64 (1)))), none, []⟩,
          ⟨(some 4), (.mov (.c (.b true))), none, []⟩] [])
        .ret)
        (.seq (.region [⟨(some 9), (.bin .eql (.t 5) (.c (.i .i64 (7)))), none, []⟩,
          ⟨(some 8), (.mov (.t 9)), none, []⟩] [])
        (.cond (.t 8)
          (.seq (.region [⟨(some 2), (.mov (.c (.i .i64 (42)))), none, []⟩,
            ⟨(some 3), (.mov (.c (.i .i64 (2)))), none, []⟩,
            ⟨(some 4), (.mov (.c (.b true))), none, []⟩] [])
          .ret)
          (.seq (.region [⟨(some 11), (.bin .eql (.t 5) (.c (.i .i64 (9)))), none, []⟩,
            ⟨(some 10), (.mov (.t 11)), none, []⟩] [])
          (.cond (.t 10)
            (.seq (.region [⟨(some 2), (.mov (.c (.i .i64 (43)))), none, []⟩,
              ⟨(some 3), (.mov (.c (.i .i64 (1)))), none, []⟩,
              ⟨(some 4), (.mov (.c (.b true))), none, []⟩] [])
            .ret)
            (.seq (.region [⟨(some 13), (.bin .eql (.t 5) (.c (.i .i64 (10)))), none, []⟩,
              ⟨(some 12), (.mov (.t 13)), none, []⟩] [])
            (.cond (.t 12)
              (.seq (.region [⟨(some 2), (.mov (.c (.i .i64 (44)))), none, []⟩,
                ⟨(some 3), (.mov (.c (.i .i64 (1)))), none, []⟩,
                ⟨(some 4), (.mov (.c (.b true))), none, []⟩] [])
              .ret)
              (.seq (.region [⟨(some 15), (.bin .eql (.t 5) (.c (.i .i64 (11)))), none, []⟩,
                ⟨(some 14), (.mov (.t 15)), none, []⟩] [])
              (.cond (.t 14)
                (.seq (.region [⟨(some 2), (.mov (.c (.i .i64 (45)))), none, []⟩,
                  ⟨(some 3), (.mov (.c (.i .i64 (1)))), none, []⟩,
                  ⟨(some 4), (.mov (.c (.b true))), none, []⟩] [])
                .ret)
                (.seq (.region [⟨(some 17), (.bin .eql (.t 5) (.c (.i .i64 (16)))), none, []⟩,
                  ⟨(some 16), (.mov (.t 17)), none, []⟩] [])
                (.cond (.t 16)
                  (.seq (.region [⟨(some 2), (.mov (.c (.i .i64 (46)))), none, []⟩,
                    ⟨(some 3), (.mov (.c (.i .i64 (1)))), none, []⟩,
                    ⟨(some 4), (.mov (.c (.b true))), none, []⟩] [])
                  .ret)
                  (.seq (.region [⟨(some 19), (.bin .eql (.t 5) (.c (.i .i64 (17)))), none, []⟩,
                    ⟨(some 18), (.mov (.t 19)), none, []⟩] [])
                  (.cond (.t 18)
                    (.seq (.region [⟨(some 2), (.mov (.c (.i .i64 (47)))), none, []⟩,
                      ⟨(some 3), (.mov (.c (.i .i64 (1)))), none, []⟩,
                      ⟨(some 4), (.mov (.c (.b true))), none, []⟩] [])
                    .ret)
                    .skip))))))))))))))))
    (.seq (.region [⟨(some 2), (.mov (.c (.i .i64 (0)))), none, []⟩,
      ⟨(some 3), (.mov (.c (.i .i64 (0)))), none, []⟩,
      ⟨(some 4), (.mov (.c (.b false))), none, []⟩] [])
    .ret))),
    20, 1, [.t 2, .t 3, .t 4], 0⟩
theorem tr56 : trFunc Tryd.prog [([], []), ([], []), ([], []), ([], []), ([], []), ([], []), ([], []), ([], []), ([], []), ([], []), ([], []), ([], []), ([], []), ([], []), ([], []), ([], []), ([], []), ([], [])] 0 Tryd.f56 = some I56 := by kernel_rfl

/-- '(*encore/guess.maker).check'. -/
def I57 : IFunc :=
  ⟨(.seq (.region [⟨(some 4), (.box (.t 1)), none, []⟩] [])
    (.seq (.seq (.region [⟨(some 6), (.off (.t 4) 0), none, []⟩,
      ⟨(some 7), (.load none (.t 6)), none, []⟩,
      ⟨(some 8), (.bin .neq (.t 7) (.c (.i .i64 (1)))), none, []⟩,
      ⟨(some 9), (.mov (.t 8)), none, []⟩,
      ⟨(some 10), (.mov (.t 0)), (some (9, false)), []⟩,
      ⟨(some 11), (.nck (.t 10)), (some (9, false)), []⟩,
      ⟨(some 12), (.off (.t 11) 1), (some (9, false)), []⟩,
      ⟨(some 13), (.load none (.t 12)), (some (9, false)), []⟩,
      ⟨(some 14), (.off (.t 4) 1), (some (9, false)), []⟩,
      ⟨(some 15), (.load none (.t 14)), (some (9, false)), []⟩,
      ⟨(some 16), (.iaddr 1 (.t 13) (.t 15)), (some (9, false)), []⟩,
      ⟨(some 17), (.load none (.t 16)), (some (9, false)), []⟩,
      ⟨(some 18), (.bin .neq (.t 17) (.c (.i .i64 (-1)))), (some (9, false)), []⟩,
      ⟨(some 19), (.pick (.t 9) (.c (.b true)) (.t 18)), none, []⟩,
      ⟨(some 20), (.mov (.t 19)), none, []⟩,
      ⟨(some 21), (.off (.t 4) 1), (some (20, false)), []⟩,
      ⟨(some 22), (.load none (.t 21)), (some (20, false)), []⟩,
      ⟨(some 23), (.mov (.t 0)), (some (20, false)), []⟩,
      ⟨(some 24), (.nck (.t 23)), (some (20, false)), []⟩,
      ⟨(some 25), (.off (.t 24) 2), (some (20, false)), []⟩,
      ⟨(some 26), (.load none (.t 25)), (some (20, false)), []⟩,
      ⟨(some 27), (.lenk 0 (.t 26)), (some (20, false)), []⟩,
      ⟨(some 28), (.bin .geq (.t 22) (.t 27)), (some (20, false)), []⟩,
      ⟨(some 29), (.pick (.t 20) (.c (.b true)) (.t 28)), none, []⟩,
      ⟨(some 30), (.mov (.t 29)), none, []⟩,
      ⟨(some 31), (.mov (.t 0)), (some (30, false)), []⟩,
      ⟨(some 32), (.nck (.t 31)), (some (30, false)), []⟩,
      ⟨(some 33), (.off (.t 32) 2), (some (30, false)), []⟩,
      ⟨(some 34), (.load none (.t 33)), (some (30, false)), []⟩,
      ⟨(some 35), (.off (.t 4) 1), (some (30, false)), []⟩,
      ⟨(some 36), (.load none (.t 35)), (some (30, false)), []⟩,
      ⟨(some 37), (.iaddr 1 (.t 34) (.t 36)), (some (30, false)), []⟩,
      ⟨(some 38), (.load none (.t 37)), (some (30, false)), []⟩,
      ⟨(some 39), (.mov (.t 2)), (some (30, false)), []⟩,
      ⟨(some 40), (.bin .neq (.t 38) (.t 39)), (some (30, false)), []⟩,
      ⟨(some 41), (.pick (.t 30) (.c (.b true)) (.t 40)), none, []⟩] [])
    (.cond (.t 41)
      .ret
      .skip))
    (.seq (.region [⟨(some 42), (.mov (.t 0)), none, []⟩,
      ⟨(some 43), (.mov (.t 0)), none, []⟩,
      ⟨(some 44), (.nck (.t 43)), none, []⟩,
      ⟨(some 45), (.off (.t 44) 0), none, []⟩,
      ⟨(some 46), (.load none (.t 45)), none, []⟩,
      ⟨(some 47), (.mov (.t 2)), none, []⟩,
      ⟨(some 48), (.load (some 7) (.t 4)), none, []⟩,
      ⟨(some 49), (.bsl 7 1 [(.i .i64 (0)), (.i .i64 (0)), (.i .i64 (0)), (.i .i64 (0)), (.s []), .ns, .ns] [(0, 7, (.t 48))]), none, []⟩,
      ⟨(some 50), (.build [(.i .i64 (0)), (.i .i64 (0)), .ns, (.s []), .ns] [(0, 1, (.c (.i .i64 (40)))), (1, 1, (.t 47)), (2, 1, (.t 49))]), none, []⟩,
      ⟨(some 51), (.bsl 5 1 [(.i .i64 (0)), (.i .i64 (0)), .ns, (.s []), .ns] [(0, 5, (.t 50))]), none, []⟩,
      ⟨(some 52), (.app 5 80 (.t 46) (.t 51)), none, []⟩,
      ⟨(some 53), (.nck (.t 42)), none, []⟩,
      ⟨(some 54), (.off (.t 53) 0), none, []⟩,
      ⟨none, (.store 1 (.t 54) (.t 52)), none, []⟩] [])
    (.region [⟨(some 55), (.mov (.t 0)), none, []⟩,
      ⟨(some 56), (.nck (.t 55)), none, []⟩,
      ⟨(some 57), (.off (.t 56) 1), none, []⟩,
      ⟨(some 58), (.load none (.t 57)), none, []⟩,
      ⟨(some 59), (.off (.t 4) 1), none, []⟩,
      ⟨(some 60), (.load none (.t 59)), none, []⟩,
      ⟨(some 61), (.mov (.t 2)), none, []⟩,
      ⟨(some 62), (.iaddr 1 (.t 58) (.t 60)), none, []⟩,
      ⟨none, (.store 1 (.t 62) (.t 61)), none, []⟩] [])))),
    63, 3, [], 0⟩
theorem tr57 : trFunc Tryd.prog [([], []), ([0, 1, 2, 3, 4, 5, 6, 7, 8, 9, 10, 11, 12, 13, 14, 15, 16, 17, 18, 19, 20, 21, 22, 23, 24, 25, 26, 27, 28, 29, 30, 31, 32, 33, 34, 35], []), ([], []), ([0, 1, 2, 3, 4, 5, 6, 7, 8, 9, 10, 11, 12, 13], []), ([0, 1, 2, 3, 4, 5, 6, 7, 8], [])] 0 Tryd.f57 = some I57 := by kernel_rfl

/-- 'slices.ContainsFunc[[]encore/lift.Operand,encore/lift.Operand]'. -/
def I58 : IFunc :=
  ⟨(.seq (.region [⟨(some 4), (.mov (.c (.b false))), none, []⟩] [])
    (.seq (.region [⟨(some 5), (.mov (.t 0)), none, []⟩,
      ⟨(some 6), (.mov (.t 1)), none, []⟩,
      ⟨(some 7), (.call 76 [(.t 5), (.t 6)]), none, []⟩,
      ⟨(some 8), (.bin .geq (.t 7) (.c (.i .i64 (0)))), none, []⟩,
      ⟨(some 4), (.mov (.t 8)), none, []⟩] [])
    .ret)),
    9, 2, [.t 4], 0⟩
theorem tr58 : trFunc Tryd.prog [([], []), ([], [])] 0 Tryd.f58 = some I58 := by kernel_rfl

/-- '(*encore/guess.maker).step$1'. -/
def I59 : IFunc :=
  ⟨(.seq (.region [⟨(some 3), (.box (.t 0)), none, []⟩,
      ⟨(some 4), (.mov (.c (.b false))), none, []⟩] [])
    (.seq (.region [⟨(some 5), (.load none (.t 1)), none, []⟩,
      ⟨(some 6), (.load (some 7) (.t 3)), none, []⟩,
      ⟨(some 8), (.load none (.t 2)), none, []⟩,
      ⟨(some 7), (.call 60 [(.t 5), (.t 6)]), none, [(8, (.load none (.t 2)), none)]⟩,
      ⟨(some 9), (.bin .neq (.t 7) (.t 8)), none, []⟩,
      ⟨(some 4), (.mov (.t 9)), none, []⟩] [])
    .ret)),
    10, 3, [.t 4], 0⟩
theorem tr59 : trFunc Tryd.prog [([], []), ([0, 1, 3, 2, 4, 5], [])] 0 Tryd.f59 = some I59 := by kernel_rfl

/-- '(*encore/guess.maker).known'. -/
def I60 : IFunc :=
  ⟨(.seq (.region [⟨(some 3), (.box (.t 1)), none, []⟩,
      ⟨(some 4), (.mov (.c (.i .i64 (0)))), none, []⟩] [])
    (.seq (.seq (.region [⟨(some 5), (.off (.t 3) 0), none, []⟩,
      ⟨(some 6), (.load none (.t 5)), none, []⟩] [])
    (.block 0
      (.seq (.region [⟨(some 8), (.bin .eql (.t 6) (.c (.i .i64 (1)))), none, []⟩,
        ⟨(some 7), (.mov (.t 8)), none, []⟩] [])
      (.cond (.t 7)
        (.seq (.region [⟨(some 9), (.mov (.t 0)), none, []⟩,
          ⟨(some 10), (.nck (.t 9)), none, []⟩,
          ⟨(some 11), (.off (.t 10) 1), none, []⟩,
          ⟨(some 12), (.load none (.t 11)), none, []⟩,
          ⟨(some 13), (.off (.t 3) 1), none, []⟩,
          ⟨(some 14), (.load none (.t 13)), none, []⟩,
          ⟨(some 15), (.iaddr 1 (.t 12) (.t 14)), none, []⟩,
          ⟨(some 16), (.load none (.t 15)), none, []⟩,
          ⟨(some 4), (.mov (.t 16)), none, []⟩] [])
        .ret)
        (.seq (.region [⟨(some 18), (.bin .eql (.t 6) (.c (.i .i64 (2)))), none, []⟩,
          ⟨(some 17), (.mov (.t 18)), none, []⟩] [])
        (.cond (.t 17)
          (.seq (.region [⟨(some 19), (.mov (.t 0)), none, []⟩,
            ⟨(some 20), (.nck (.t 19)), none, []⟩,
            ⟨(some 21), (.off (.t 20) 0), none, []⟩,
            ⟨(some 22), (.load none (.t 21)), none, []⟩,
            ⟨(some 23), (.off (.t 3) 1), none, []⟩,
            ⟨(some 24), (.load none (.t 23)), none, []⟩,
            ⟨(some 25), (.iaddr 5 (.t 22) (.t 24)), none, []⟩,
            ⟨(some 26), (.load (some 5) (.t 25)), none, []⟩,
            ⟨(some 27), (.call 77 [(.t 26)]), none, []⟩,
            ⟨(some 4), (.mov (.t 27)), none, []⟩] [])
          .ret)
          .skip))))))
    (.seq (.region [⟨(some 28), (.off (.t 3) 2), none, []⟩,
      ⟨(some 29), (.off (.t 28) 0), none, []⟩,
      ⟨(some 30), (.load none (.t 29)), none, []⟩,
      ⟨(some 4), (.mov (.t 30)), none, []⟩] [])
    .ret))),
    31, 2, [.t 4], 0⟩
theorem tr60 : trFunc Tryd.prog [([], []), ([], []), ([], []), ([0, 1, 2, 3, 4, 5, 6, 7, 8], []), ([], []), ([0, 1, 2, 3, 4, 5, 6, 7, 8, 9], []), ([], []), ([], [])] 0 Tryd.f60 = some I60 := by kernel_rfl

/-- 'encore/guess.own'. -/
def L61a : ICode :=
  (.seq (.region [⟨(some 16), (.bin .lss (.t 15) (.t 14)), none, []⟩] [])
    (.seq (.cond (.t 16)
      .skip
      (.exit 0))
    (.seq (.block 1
      (.seq (.region [⟨(some 17), (.mov (.t 15)), none, []⟩,
        ⟨(some 3), (.mov (.t 17)), none, []⟩] [])
      (.region [⟨(some 18), (.off (.t 1) 3), none, []⟩,
        ⟨(some 19), (.load none (.t 18)), none, []⟩,
        ⟨(some 20), (.mov (.t 3)), none, []⟩,
        ⟨(some 21), (.off (.t 1) 3), none, []⟩,
        ⟨(some 22), (.load none (.t 21)), none, []⟩,
        ⟨(some 23), (.mov (.t 3)), none, []⟩,
        ⟨(some 24), (.iaddr 5 (.t 22) (.t 23)), none, []⟩,
        ⟨(some 25), (.load (some 5) (.t 24)), none, []⟩,
        ⟨(some 26), (.call 61 [(.t 25)]), none, [(19, (.load none (.t 18)), none)]⟩,
        ⟨(some 27), (.iaddr 5 (.t 19) (.t 20)), none, []⟩,
        ⟨none, (.store 5 (.t 27) (.t 26)), none, []⟩] [])))
    (.region [⟨(some 28), (.bin .add (.t 15) (.c (.i .i64 (1)))), none, []⟩,
      ⟨(some 15), (.mov (.t 28)), none, []⟩] []))))
def I61 : IFunc :=
  ⟨(.seq (.region [⟨(some 1), (.box (.t 0)), none, []⟩,
      ⟨(some 2), (.alloc [(.i .i64 (0)), (.i .i64 (0)), (.s []), .ns, .ns]), none, []⟩] [])
    (.seq (.region [⟨(some 4), (.off (.t 1) 4), none, []⟩,
      ⟨(some 5), (.load none (.t 4)), none, []⟩,
      ⟨(some 7), (.off (.t 1) 3), none, []⟩,
      ⟨(some 8), (.load none (.t 7)), none, []⟩,
      ⟨(some 6), (.call 55 [(.t 5)]), none, [(8, (.load none (.t 7)), none)]⟩,
      ⟨(some 10), (.off (.t 1) 4), none, []⟩,
      ⟨(some 9), (.call 78 [(.t 8)]), none, []⟩,
      ⟨none, (.store 1 (.t 10) (.t 6)), none, []⟩,
      ⟨(some 11), (.off (.t 1) 3), none, []⟩,
      ⟨none, (.store 1 (.t 11) (.t 9)), none, []⟩] [])
    (.seq (.seq (.region [⟨(some 12), (.off (.t 1) 3), none, []⟩,
      ⟨(some 13), (.load none (.t 12)), none, []⟩,
      ⟨(some 14), (.lenk 0 (.t 13)), none, []⟩,
      ⟨(some 15), (.mov (.c (.i .i64 (0)))), none, []⟩] [])
    (.block 0
      (.loop L61a)))
    (.seq (.region [⟨(some 29), (.load (some 5) (.t 1)), none, []⟩,
      ⟨none, (.store 5 (.t 2) (.t 29)), none, []⟩] [])
    .ret)))),
    30, 1, [.c 2 (some 5)], 0⟩
theorem tr61 : trFunc Tryd.prog [([], []), ([0, 1, 3, 4, 2, 6, 5, 7, 8, 9], []), ([], []), ([], []), ([], []), ([], []), ([0, 1, 2, 3, 4, 5, 6, 7, 8, 9, 10], []), ([], []), ([], [])] 0 Tryd.f61 = some I61 := by kernel_rfl

/-- 'encore/encoreref20.SameIns'. -/
def I64 : IFunc :=
  ⟨(.seq (.region [⟨(some 2), (.box (.t 0)), none, []⟩,
      ⟨(some 3), (.box (.t 1)), none, []⟩,
      ⟨(some 4), (.mov (.c (.b false))), none, []⟩] [])
    (.seq (.region [⟨(some 5), (.off (.t 2) 0), none, []⟩,
      ⟨(some 6), (.load none (.t 5)), none, []⟩,
      ⟨(some 7), (.off (.t 3) 0), none, []⟩,
      ⟨(some 8), (.load none (.t 7)), none, []⟩,
      ⟨(some 9), (.bin .eql (.t 6) (.t 8)), none, []⟩,
      ⟨(some 10), (.mov (.t 9)), none, []⟩,
      ⟨(some 11), (.off (.t 2) 1), (some (10, true)), []⟩,
      ⟨(some 12), (.load none (.t 11)), (some (10, true)), []⟩,
      ⟨(some 13), (.off (.t 3) 1), (some (10, true)), []⟩,
      ⟨(some 14), (.load none (.t 13)), (some (10, true)), []⟩,
      ⟨(some 15), (.bin .eql (.t 12) (.t 14)), (some (10, true)), []⟩,
      ⟨(some 16), (.pick (.t 10) (.t 15) (.c (.b false))), none, []⟩,
      ⟨(some 17), (.mov (.t 16)), none, []⟩,
      ⟨(some 18), (.off (.t 2) 3), (some (17, true)), []⟩,
      ⟨(some 19), (.load none (.t 18)), (some (17, true)), []⟩,
      ⟨(some 20), (.off (.t 3) 3), (some (17, true)), []⟩,
      ⟨(some 21), (.load none (.t 20)), (some (17, true)), []⟩,
      ⟨(some 22), (.bin .eql (.t 19) (.t 21)), (some (17, true)), []⟩,
      ⟨(some 23), (.pick (.t 17) (.t 22) (.c (.b false))), none, []⟩,
      ⟨(some 24), (.mov (.t 23)), none, []⟩,
      ⟨(some 25), (.off (.t 2) 2), (some (24, true)), []⟩,
      ⟨(some 26), (.load none (.t 25)), (some (24, true)), []⟩,
      ⟨(some 27), (.off (.t 3) 2), (some (24, true)), []⟩,
      ⟨(some 28), (.load none (.t 27)), (some (24, true)), []⟩,
      ⟨(some 29), (.call 65 [(.t 26), (.t 28)]), (some (24, true)), []⟩,
      ⟨(some 30), (.pick (.t 24) (.t 29) (.c (.b false))), none, []⟩,
      ⟨(some 31), (.mov (.t 30)), none, []⟩,
      ⟨(some 32), (.off (.t 2) 4), (some (31, true)), []⟩,
      ⟨(some 33), (.load none (.t 32)), (some (31, true)), []⟩,
      ⟨(some 34), (.off (.t 3) 4), (some (31, true)), []⟩,
      ⟨(some 35), (.load none (.t 34)), (some (31, true)), []⟩,
      ⟨(some 36), (.call 79 [(.t 33), (.t 35)]), (some (31, true)), []⟩,
      ⟨(some 37), (.pick (.t 31) (.t 36) (.c (.b false))), none, []⟩,
      ⟨(some 4), (.mov (.t 37)), none, []⟩] [])
    .ret)),
    38, 2, [.t 4], 0⟩
theorem tr64 : trFunc Tryd.prog [([], []), ([], [])] 0 Tryd.f64 = some I64 := by kernel_rfl

/-- 'encore/encoreref20.SameOperands'. -/
def L65a : ICode :=
  (.seq (.seq (.region [⟨(some 11), (.mov (.t 5)), none, []⟩,
      ⟨(some 12), (.mov (.t 0)), none, []⟩,
      ⟨(some 13), (.lenk 0 (.t 12)), none, []⟩,
      ⟨(some 14), (.bin .lss (.t 11) (.t 13)), none, []⟩] [])
    (.cond (.t 14)
      .skip
      (.exit 0)))
    (.seq (.block 1
      (.seq (.region [⟨(some 17), (.mov (.t 0)), none, []⟩,
        ⟨(some 18), (.mov (.t 5)), none, []⟩,
        ⟨(some 19), (.iaddr 7 (.t 17) (.t 18)), none, []⟩,
        ⟨(some 20), (.load (some 7) (.t 19)), none, []⟩,
        ⟨(some 21), (.mov (.t 1)), none, []⟩,
        ⟨(some 22), (.mov (.t 5)), none, []⟩,
        ⟨(some 23), (.iaddr 7 (.t 21) (.t 22)), none, []⟩,
        ⟨(some 24), (.load (some 7) (.t 23)), none, []⟩,
        ⟨(some 25), (.call 66 [(.t 20), (.t 24)]), none, []⟩,
        ⟨(some 26), (.un .not (.t 25)), none, []⟩] [])
      (.cond (.t 26)
        (.seq (.region [⟨(some 4), (.mov (.c (.b false))), none, []⟩] [])
        .ret)
        .skip)))
    (.region [⟨(some 15), (.mov (.t 5)), none, []⟩,
      ⟨(some 16), (.bin .add (.t 15) (.c (.i .i64 (1)))), none, []⟩,
      ⟨(some 5), (.mov (.t 16)), none, []⟩] [])))
def I65 : IFunc :=
  ⟨(.seq (.region [⟨(some 4), (.mov (.c (.b false))), none, []⟩] [])
    (.seq (.seq (.region [⟨(some 6), (.mov (.t 0)), none, []⟩,
      ⟨(some 7), (.lenk 0 (.t 6)), none, []⟩,
      ⟨(some 8), (.mov (.t 1)), none, []⟩,
      ⟨(some 9), (.lenk 0 (.t 8)), none, []⟩,
      ⟨(some 10), (.bin .neq (.t 7) (.t 9)), none, []⟩] [])
    (.cond (.t 10)
      (.seq (.region [⟨(some 4), (.mov (.c (.b false))), none, []⟩] [])
      .ret)
      .skip))
    (.seq (.seq (.region [⟨(some 5), (.mov (.c (.i .i64 (0)))), none, []⟩] [])
    (.block 0
      (.loop L65a)))
    (.seq (.region [⟨(some 4), (.mov (.c (.b true))), none, []⟩] [])
    .ret)))),
    27, 2, [.t 4], 0⟩
theorem tr65 : trFunc Tryd.prog [([], []), ([], []), ([], []), ([], []), ([], []), ([], []), ([], []), ([0, 1, 2, 3, 4, 5, 6, 7, 8, 9], []), ([], []), ([], []), ([], []), ([], [])] 0 Tryd.f65 = some I65 := by kernel_rfl

/-- 'encore/encoreref20.SameOperand'. -/
def I66 : IFunc :=
  ⟨(.seq (.region [⟨(some 2), (.box (.t 0)), none, []⟩,
      ⟨(some 3), (.box (.t 1)), none, []⟩,
      ⟨(some 4), (.mov (.c (.b false))), none, []⟩] [])
    (.seq (.region [⟨(some 5), (.off (.t 2) 0), none, []⟩,
      ⟨(some 6), (.load none (.t 5)), none, []⟩,
      ⟨(some 7), (.off (.t 3) 0), none, []⟩,
      ⟨(some 8), (.load none (.t 7)), none, []⟩,
      ⟨(some 9), (.bin .eql (.t 6) (.t 8)), none, []⟩,
      ⟨(some 10), (.mov (.t 9)), none, []⟩,
      ⟨(some 11), (.off (.t 2) 1), (some (10, true)), []⟩,
      ⟨(some 12), (.load none (.t 11)), (some (10, true)), []⟩,
      ⟨(some 13), (.off (.t 3) 1), (some (10, true)), []⟩,
      ⟨(some 14), (.load none (.t 13)), (some (10, true)), []⟩,
      ⟨(some 15), (.bin .eql (.t 12) (.t 14)), (some (10, true)), []⟩,
      ⟨(some 16), (.pick (.t 10) (.t 15) (.c (.b false))), none, []⟩,
      ⟨(some 17), (.mov (.t 16)), none, []⟩,
      ⟨(some 18), (.off (.t 2) 2), (some (17, true)), []⟩,
      ⟨(some 19), (.load (some 5) (.t 18)), (some (17, true)), []⟩,
      ⟨(some 20), (.off (.t 3) 2), (some (17, true)), []⟩,
      ⟨(some 21), (.load (some 5) (.t 20)), (some (17, true)), []⟩,
      ⟨(some 22), (.call 35 [(.t 19), (.t 21)]), (some (17, true)), []⟩,
      ⟨(some 23), (.pick (.t 17) (.t 22) (.c (.b false))), none, []⟩,
      ⟨(some 4), (.mov (.t 23)), none, []⟩] [])
    .ret)),
    24, 2, [.t 4], 0⟩
theorem tr66 : trFunc Tryd.prog [([], []), ([], [])] 0 Tryd.f66 = some I66 := by kernel_rfl

/-- 'encore/encorelaw22.operands'. -/
def L67a : ICode :=
  (.seq (.seq (.region [⟨(some 5), (.mov (.t 4)), none, []⟩,
      ⟨(some 6), (.mov (.t 0)), none, []⟩,
      ⟨(some 7), (.lenk 0 (.t 6)), none, []⟩,
      ⟨(some 8), (.bin .lss (.t 5) (.t 7)), none, []⟩] [])
    (.cond (.t 8)
      .skip
      (.exit 0)))
    (.seq (.block 1
      (.region [⟨(some 11), (.mov (.t 3)), none, []⟩,
        ⟨(some 12), (.mov (.t 0)), none, []⟩,
        ⟨(some 13), (.mov (.t 4)), none, []⟩,
        ⟨(some 14), (.iaddr 7 (.t 12) (.t 13)), none, []⟩,
        ⟨(some 15), (.off (.t 14) 0), none, []⟩,
        ⟨(some 16), (.load none (.t 15)), none, []⟩,
        ⟨(some 17), (.mov (.t 0)), none, []⟩,
        ⟨(some 18), (.mov (.t 4)), none, []⟩,
        ⟨(some 19), (.iaddr 7 (.t 17) (.t 18)), none, []⟩,
        ⟨(some 20), (.off (.t 19) 1), none, []⟩,
        ⟨(some 21), (.load none (.t 20)), none, []⟩,
        ⟨(some 22), (.mov (.t 0)), none, []⟩,
        ⟨(some 23), (.mov (.t 4)), none, []⟩,
        ⟨(some 24), (.iaddr 7 (.t 22) (.t 23)), none, []⟩,
        ⟨(some 25), (.off (.t 24) 2), none, []⟩,
        ⟨(some 26), (.load (some 5) (.t 25)), none, []⟩,
        ⟨(some 27), (.build [(.i .i64 (0)), (.i .i64 (0)), (.i .i64 (0)), (.i .i64 (0)), (.s []), .ns, .ns] [(0, 1, (.t 16)), (1, 1, (.t 21)), (2, 5, (.t 26))]), none, []⟩,
        ⟨(some 28), (.bsl 7 1 [(.i .i64 (0)), (.i .i64 (0)), (.i .i64 (0)), (.i .i64 (0)), (.s []), .ns, .ns] [(0, 7, (.t 27))]), none, []⟩,
        ⟨(some 29), (.app 7 96 (.t 11) (.t 28)), none, []⟩,
        ⟨(some 3), (.mov (.t 29)), none, []⟩] []))
    (.region [⟨(some 9), (.mov (.t 4)), none, []⟩,
      ⟨(some 10), (.bin .add (.t 9) (.c (.i .i64 (1)))), none, []⟩,
      ⟨(some 4), (.mov (.t 10)), none, []⟩] [])))
def I67 : IFunc :=
  ⟨(.seq (.region [⟨(some 2), (.mov (.c .ns)), none, []⟩] [])
    (.seq (.region [⟨(some 3), (.mov (.c .ns)), none, []⟩] [])
    (.seq (.seq (.region [⟨(some 4), (.mov (.c (.i .i64 (0)))), none, []⟩] [])
    (.block 0
      (.loop L67a)))
    (.seq (.region [⟨(some 30), (.mov (.t 3)), none, []⟩,
      ⟨(some 2), (.mov (.t 30)), none, []⟩] [])
    .ret)))),
    31, 1, [.t 2], 0⟩
theorem tr67 : trFunc Tryd.prog [([], []), ([], []), ([], []), ([], []), ([], []), ([0, 1, 2, 3, 4, 5, 6, 7, 8, 9, 10, 11, 12, 13, 14, 15, 16, 17, 18, 19], []), ([], []), ([], [])] 0 Tryd.f67 = some I67 := by kernel_rfl

/-- 'encore/value.own'. -/
def I68 : IFunc :=
  ⟨(.seq (.region [⟨(some 1), (.box (.t 0)), none, []⟩,
      ⟨(some 2), (.mov (.c (.b false))), none, []⟩] [])
    (.seq (.seq (.region [⟨(some 3), (.off (.t 1) 0), none, []⟩,
      ⟨(some 4), (.load none (.t 3)), none, []⟩] [])
    (.block 0
      (.seq (.region [⟨(some 6), (.bin .eql (.t 4) (.c (.i .i64 (0)))), none, []⟩,
        ⟨(some 5), (.mov (.t 6)), none, []⟩] [])
      (.cond (.t 5)
        (.seq (.region [⟨(some 7), (.off (.t 1) 1), none, []⟩,
          ⟨(some 8), (.load none (.t 7)), none, []⟩,
          ⟨(some 9), (.bin .eql (.t 8) (.c (.i .i64 (0)))), none, []⟩,
          ⟨(some 10), (.mov (.t 9)), none, []⟩,
          ⟨(some 11), (.build [(.b false), (.b false), (.b false)] []), (some (10, true)), []⟩,
          ⟨(some 12), (.load (some 5) (.t 1)), (some (10, true)), []⟩,
          ⟨(some 13), (.call 80 [(.t 11), (.t 12)]), (some (10, true)), []⟩,
          ⟨(some 14), (.pick (.t 10) (.t 13) (.c (.b false))), none, []⟩,
          ⟨(some 2), (.mov (.t 14)), none, []⟩] [])
        .ret)
        (.seq (.region [⟨(some 16), (.bin .eql (.t 4) (.c (.i .i64 (1)))), none, []⟩,
          ⟨(some 15), (.mov (.t 16)), none, []⟩] [])
        (.cond (.t 15)
          (.seq (.region [⟨(some 17), (.build [(.b false), (.b false), (.b false)] []), none, []⟩,
            ⟨(some 18), (.load (some 5) (.t 1)), none, []⟩,
            ⟨(some 19), (.call 80 [(.t 17), (.t 18)]), none, []⟩,
            ⟨(some 2), (.mov (.t 19)), none, []⟩] [])
          .ret)
          (.seq (.region [⟨(some 21), (.bin .eql (.t 4) (.c (.i .i64 (2)))), none, []⟩,
            ⟨(some 20), (.mov (.t 21)), none, []⟩] [])
          (.cond (.t 20)
            (.seq (.region [⟨(some 22), (.off (.t 1) 1), none, []⟩,
              ⟨(some 23), (.load none (.t 22)), none, []⟩,
              ⟨(some 24), (.bin .andNot (.t 23) (.c (.i .i64 (1)))), none, []⟩,
              ⟨(some 25), (.bin .eql (.t 24) (.c (.i .i64 (0)))), none, []⟩,
              ⟨(some 26), (.mov (.t 25)), none, []⟩,
              ⟨(some 27), (.build [(.b false), (.b false), (.b false)] []), (some (26, true)), []⟩,
              ⟨(some 28), (.load (some 5) (.t 1)), (some (26, true)), []⟩,
              ⟨(some 29), (.call 80 [(.t 27), (.t 28)]), (some (26, true)), []⟩,
              ⟨(some 30), (.pick (.t 26) (.t 29) (.c (.b false))), none, []⟩,
              ⟨(some 2), (.mov (.t 30)), none, []⟩] [])
            .ret)
            (.seq (.region [⟨(some 32), (.bin .eql (.t 4) (.c (.i .i64 (6)))), none, []⟩,
              ⟨(some 31), (.mov (.t 32)), none, []⟩] [])
            (.cond (.t 31)
              (.seq (.region [⟨(some 33), (.off (.t 1) 1), none, []⟩,
                ⟨(some 34), (.load none (.t 33)), none, []⟩,
                ⟨(some 35), (.bin .geq (.t 34) (.c (.i .i64 (1)))), none, []⟩,
                ⟨(some 36), (.mov (.t 35)), none, []⟩,
                ⟨(some 37), (.off (.t 1) 1), (some (36, true)), []⟩,
                ⟨(some 38), (.load none (.t 37)), (some (36, true)), []⟩,
                ⟨(some 39), (.bin .leq (.t 38) (.c (.i .i64 (64)))), (some (36, true)), []⟩,
                ⟨(some 40), (.pick (.t 36) (.t 39) (.c (.b false))), none, []⟩,
                ⟨(some 41), (.mov (.t 40)), none, []⟩,
                ⟨(some 42), (.build [(.b false), (.b false), (.b false)] []), (some (41, true)), []⟩,
                ⟨(some 43), (.load (some 5) (.t 1)), (some (41, true)), []⟩,
                ⟨(some 44), (.call 80 [(.t 42), (.t 43)]), (some (41, true)), []⟩,
                ⟨(some 45), (.pick (.t 41) (.t 44) (.c (.b false))), none, []⟩,
                ⟨(some 2), (.mov (.t 45)), none, []⟩] [])
              .ret)
              (.seq (.region [⟨(some 47), (.bin .eql (.t 4) (.c (.i .i64 (3)))), none, []⟩,
                ⟨(some 46), (.mov (.t 47)), none, []⟩] [])
              (.cond (.t 46)
                (.seq (.region [⟨(some 48), (.off (.t 1) 1), none, []⟩,
                  ⟨(some 49), (.load none (.t 48)), none, []⟩,
                  ⟨(some 50), (.bin .eql (.t 49) (.c (.i .i64 (0)))), none, []⟩,
                  ⟨(some 51), (.mov (.t 50)), none, []⟩,
                  ⟨(some 52), (.off (.t 1) 2), (some (51, true)), []⟩,
                  ⟨(some 53), (.load none (.t 52)), (some (51, true)), []⟩,
                  ⟨(some 54), (.lenk 1 (.t 53)), (some (51, true)), []⟩,
                  ⟨(some 55), (.bin .leq (.t 54) (.c (.i .i64 (64)))), (some (51, true)), []⟩,
                  ⟨(some 56), (.pick (.t 51) (.t 55) (.c (.b false))), none, []⟩,
                  ⟨(some 57), (.mov (.t 56)), none, []⟩,
                  ⟨(some 58), (.build [(.b false), (.b false), (.b false)] [(0, 1, (.c (.b true)))]), (some (57, true)), []⟩,
                  ⟨(some 59), (.load (some 5) (.t 1)), (some (57, true)), []⟩,
                  ⟨(some 60), (.call 80 [(.t 58), (.t 59)]), (some (57, true)), []⟩,
                  ⟨(some 61), (.pick (.t 57) (.t 60) (.c (.b false))), none, []⟩,
                  ⟨(some 2), (.mov (.t 61)), none, []⟩] [])
                .ret)
                (.seq (.region [⟨(some 63), (.bin .eql (.t 4) (.c (.i .i64 (4)))), none, []⟩,
                  ⟨(some 62), (.mov (.t 63)), none, []⟩] [])
                (.cond (.t 62)
                  (.seq (.region [⟨(some 64), (.off (.t 1) 1), none, []⟩,
                    ⟨(some 65), (.load none (.t 64)), none, []⟩,
                    ⟨(some 66), (.bin .eql (.t 65) (.c (.i .i64 (0)))), none, []⟩,
                    ⟨(some 67), (.mov (.t 66)), none, []⟩,
                    ⟨(some 68), (.off (.t 1) 3), (some (67, true)), []⟩,
                    ⟨(some 69), (.load none (.t 68)), (some (67, true)), []⟩,
                    ⟨(some 70), (.lenk 0 (.t 69)), (some (67, true)), []⟩,
                    ⟨(some 71), (.bin .leq (.t 70) (.c (.i .i64 (32)))), (some (67, true)), []⟩,
                    ⟨(some 72), (.pick (.t 67) (.t 71) (.c (.b false))), none, []⟩,
                    ⟨(some 73), (.mov (.t 72)), none, []⟩,
                    ⟨(some 74), (.build [(.b false), (.b false), (.b false)] [(1, 1, (.c (.b true)))]), (some (73, true)), []⟩,
                    ⟨(some 75), (.load (some 5) (.t 1)), (some (73, true)), []⟩,
                    ⟨(some 76), (.call 80 [(.t 74), (.t 75)]), (some (73, true)), []⟩,
                    ⟨(some 77), (.pick (.t 73) (.t 76) (.c (.b false))), none, []⟩,
                    ⟨(some 2), (.mov (.t 77)), none, []⟩] [])
                  .ret)
                  (.seq (.region [⟨(some 79), (.bin .eql (.t 4) (.c (.i .i64 (5)))), none, []⟩,
                    ⟨(some 78), (.mov (.t 79)), none, []⟩] [])
                  (.cond (.t 78)
                    (.seq (.region [⟨(some 80), (.off (.t 1) 1), none, []⟩,
                      ⟨(some 81), (.load none (.t 80)), none, []⟩,
                      ⟨(some 82), (.bin .eql (.t 81) (.c (.i .i64 (0)))), none, []⟩,
                      ⟨(some 83), (.mov (.t 82)), none, []⟩,
                      ⟨(some 84), (.off (.t 1) 3), (some (83, true)), []⟩,
                      ⟨(some 85), (.load none (.t 84)), (some (83, true)), []⟩,
                      ⟨(some 86), (.lenk 0 (.t 85)), (some (83, true)), []⟩,
                      ⟨(some 87), (.off (.t 1) 4), (some (83, true)), []⟩,
                      ⟨(some 88), (.load none (.t 87)), (some (83, true)), []⟩,
                      ⟨(some 89), (.lenk 0 (.t 88)), (some (83, true)), []⟩,
                      ⟨(some 90), (.bin .eql (.t 86) (.t 89)), (some (83, true)), []⟩,
                      ⟨(some 91), (.pick (.t 83) (.t 90) (.c (.b false))), none, []⟩,
                      ⟨(some 92), (.mov (.t 91)), none, []⟩,
                      ⟨(some 93), (.off (.t 1) 3), (some (92, true)), []⟩,
                      ⟨(some 94), (.load none (.t 93)), (some (92, true)), []⟩,
                      ⟨(some 95), (.lenk 0 (.t 94)), (some (92, true)), []⟩,
                      ⟨(some 96), (.bin .leq (.t 95) (.c (.i .i64 (8)))), (some (92, true)), []⟩,
                      ⟨(some 97), (.pick (.t 92) (.t 96) (.c (.b false))), none, []⟩,
                      ⟨(some 98), (.mov (.t 97)), none, []⟩,
                      ⟨(some 99), (.build [(.b false), (.b false), (.b false)] [(1, 1, (.c (.b true))), (2, 1, (.c (.b true)))]), (some (98, true)), []⟩,
                      ⟨(some 100), (.load (some 5) (.t 1)), (some (98, true)), []⟩,
                      ⟨(some 101), (.call 80 [(.t 99), (.t 100)]), (some (98, true)), []⟩,
                      ⟨(some 102), (.pick (.t 98) (.t 101) (.c (.b false))), none, []⟩,
                      ⟨(some 103), (.mov (.t 102)), none, []⟩,
                      ⟨(some 104), (.off (.t 1) 4), (some (103, true)), []⟩,
                      ⟨(some 105), (.load none (.t 104)), (some (103, true)), []⟩,
                      ⟨(some 106), (.call 81 [(.t 105)]), (some (103, true)), []⟩,
                      ⟨(some 107), (.pick (.t 103) (.t 106) (.c (.b false))), none, []⟩,
                      ⟨(some 2), (.mov (.t 107)), none, []⟩] [])
                    .ret)
                    .skip))))))))))))))))
    (.seq (.region [⟨(some 2), (.mov (.c (.b false))), none, []⟩] [])
    .ret))),
    108, 1, [.t 2], 0⟩
theorem tr68 : trFunc Tryd.prog [([], []), ([], []), ([], []), ([], []), ([], []), ([], []), ([], []), ([], []), ([], []), ([], []), ([], []), ([], []), ([], []), ([], []), ([], []), ([], []), ([], []), ([], [])] 0 Tryd.f68 = some I68 := by kernel_rfl

/-- 'encore/encoreref07.number'. -/
def I70 : IFunc :=
  ⟨(.seq (.region [⟨(some 4), (.mov (.c (.i .i64 (0)))), none, []⟩] [])
    (.seq (.seq (.region [⟨(some 5), (.mov (.t 0)), none, []⟩,
      ⟨(some 6), (.mov (.t 1)), none, []⟩,
      ⟨(some 7), (.bin .lss (.t 5) (.t 6)), none, []⟩] [])
    (.cond (.t 7)
      (.seq (.region [⟨(some 4), (.mov (.c (.i .i64 (-1)))), none, []⟩] [])
      .ret)
      .skip))
    (.seq (.seq (.region [⟨(some 8), (.mov (.t 0)), none, []⟩,
      ⟨(some 9), (.mov (.t 1)), none, []⟩,
      ⟨(some 10), (.bin .gtr (.t 8) (.t 9)), none, []⟩] [])
    (.cond (.t 10)
      (.seq (.region [⟨(some 4), (.mov (.c (.i .i64 (1)))), none, []⟩] [])
      .ret)
      .skip))
    (.seq (.region [⟨(some 4), (.mov (.c (.i .i64 (0)))), none, []⟩] [])
    .ret)))),
    11, 2, [.t 4], 0⟩
theorem tr70 : trFunc Tryd.prog [([], []), ([], []), ([], []), ([], []), ([], []), ([], []), ([], []), ([], [])] 0 Tryd.f70 = some I70 := by kernel_rfl

/-- 'encore/encoreref07.text'. -/
def I71 : IFunc :=
  ⟨(.seq (.region [⟨(some 4), (.mov (.c (.i .i64 (0)))), none, []⟩] [])
    (.seq (.seq (.region [⟨(some 5), (.mov (.t 0)), none, []⟩,
      ⟨(some 6), (.mov (.t 1)), none, []⟩,
      ⟨(some 7), (.bin .lss (.t 5) (.t 6)), none, []⟩] [])
    (.cond (.t 7)
      (.seq (.region [⟨(some 4), (.mov (.c (.i .i64 (-1)))), none, []⟩] [])
      .ret)
      .skip))
    (.seq (.seq (.region [⟨(some 8), (.mov (.t 0)), none, []⟩,
      ⟨(some 9), (.mov (.t 1)), none, []⟩,
      ⟨(some 10), (.bin .gtr (.t 8) (.t 9)), none, []⟩] [])
    (.cond (.t 10)
      (.seq (.region [⟨(some 4), (.mov (.c (.i .i64 (1)))), none, []⟩] [])
      .ret)
      .skip))
    (.seq (.region [⟨(some 4), (.mov (.c (.i .i64 (0)))), none, []⟩] [])
    .ret)))),
    11, 2, [.t 4], 0⟩
theorem tr71 : trFunc Tryd.prog [([], []), ([], []), ([], []), ([], []), ([], []), ([], []), ([], []), ([], [])] 0 Tryd.f71 = some I71 := by kernel_rfl

/-- '(encore/lift.Ins).needs'. -/
def I72 : IFunc :=
  ⟨(.seq (.region [⟨(some 1), (.box (.t 0)), none, []⟩,
      ⟨(some 2), (.mov (.c (.i .i64 (0)))), none, []⟩,
      ⟨(some 3), (.mov (.c (.i .i64 (0)))), none, []⟩,
      ⟨(some 4), (.mov (.c (.b false))), none, []⟩] [])
    (.seq (.region [⟨(some 6), (.off (.t 1) 1), none, []⟩,
      ⟨(some 7), (.load none (.t 6)), none, []⟩,
      ⟨(some 8), (.off (.t 1) 3), none, []⟩,
      ⟨(some 9), (.load none (.t 8)), none, []⟩,
      ⟨(some 10), (.off (.t 1) 4), none, []⟩,
      ⟨(some 11), (.load none (.t 10)), none, []⟩,
      ⟨(some 12), (.lenk 0 (.t 11)), none, []⟩,
      ⟨(some 13), (.bin .gtr (.t 12) (.c (.i .i64 (0)))), none, []⟩,
      ⟨(some 14), (.build [(.i .i64 (0)), (.s []), (.b false)] [(0, 1, (.t 7)), (1, 1, (.t 9)), (2, 1, (.t 13))]), none, []⟩,
      ⟨(some 5), (.alloc [(.i .i64 (0)), (.s []), (.b false)]), none, []⟩,
      ⟨none, (.store 3 (.t 5) (.t 14)), none, []⟩] [])
    (.seq (.block 0
      (.seq (.region [⟨(some 16), (.off (.t 1) 0), none, []⟩,
        ⟨(some 17), (.load none (.t 16)), none, []⟩,
        ⟨(some 18), (.bin .eql (.t 17) (.c (.i .i64 (20)))), none, []⟩,
        ⟨(some 15), (.mov (.t 18)), none, []⟩] [])
      (.cond (.t 15)
        (.seq (.region [⟨(some 19), (.load (some 3) (.t 5)), none, []⟩,
          ⟨(some 20), (.load (some 3) (.g 0)), none, []⟩,
          ⟨(some 21), (.eqAg [1, 2, 0] false (.t 19) (.t 20)), none, []⟩,
          ⟨(some 2), (.mov (.c (.i .i64 (0)))), none, []⟩,
          ⟨(some 3), (.mov (.c (.i .i64 (8)))), none, []⟩,
          ⟨(some 4), (.mov (.t 21)), none, []⟩] [])
        .ret)
        (.seq (.region [⟨(some 23), (.off (.t 1) 0), none, []⟩,
          ⟨(some 24), (.load none (.t 23)), none, []⟩,
          ⟨(some 25), (.bin .eql (.t 24) (.c (.i .i64 (21)))), none, []⟩,
          ⟨(some 22), (.mov (.t 25)), none, []⟩] [])
        (.cond (.t 22)
          (.seq (.region [⟨(some 26), (.off (.t 1) 4), none, []⟩,
            ⟨(some 27), (.load none (.t 26)), none, []⟩,
            ⟨(some 28), (.lenk 0 (.t 27)), none, []⟩,
            ⟨(some 29), (.off (.t 1) 4), none, []⟩,
            ⟨(some 30), (.load none (.t 29)), none, []⟩,
            ⟨(some 31), (.lenk 0 (.t 30)), none, []⟩,
            ⟨(some 32), (.off (.t 1) 1), none, []⟩,
            ⟨(some 33), (.load none (.t 32)), none, []⟩,
            ⟨(some 34), (.bin .eql (.t 33) (.c (.i .i64 (0)))), none, []⟩,
            ⟨(some 35), (.mov (.t 34)), none, []⟩,
            ⟨(some 36), (.off (.t 1) 3), (some (35, true)), []⟩,
            ⟨(some 37), (.load none (.t 36)), (some (35, true)), []⟩,
            ⟨(some 38), (.bin .eql (.t 37) (.c (.s []))), (some (35, true)), []⟩,
            ⟨(some 39), (.pick (.t 35) (.t 38) (.c (.b false))), none, []⟩,
            ⟨(some 40), (.mov (.t 39)), none, []⟩,
            ⟨(some 41), (.off (.t 1) 4), (some (40, true)), []⟩,
            ⟨(some 42), (.load none (.t 41)), (some (40, true)), []⟩,
            ⟨(some 43), (.call 83 [(.t 42)]), (some (40, true)), [(27, (.load none (.t 26)), none), (28, (.lenk 0 (.t 27)), none), (30, (.load none (.t 29)), none), (31, (.lenk 0 (.t 30)), none)]⟩,
            ⟨(some 44), (.pick (.t 40) (.t 43) (.c (.b false))), none, []⟩,
            ⟨(some 2), (.mov (.t 28)), none, []⟩,
            ⟨(some 3), (.mov (.t 31)), none, []⟩,
            ⟨(some 4), (.mov (.t 44)), none, []⟩] [])
          .ret)
          (.seq (.region [⟨(some 46), (.off (.t 1) 0), none, []⟩,
            ⟨(some 47), (.load none (.t 46)), none, []⟩,
            ⟨(some 48), (.bin .eql (.t 47) (.c (.i .i64 (22)))), none, []⟩,
            ⟨(some 45), (.mov (.t 48)), none, []⟩] [])
          (.cond (.t 45)
            (.seq (.region [⟨(some 49), (.load (some 3) (.t 5)), none, []⟩,
              ⟨(some 50), (.off (.t 1) 3), none, []⟩,
              ⟨(some 51), (.load none (.t 50)), none, []⟩,
              ⟨(some 52), (.build [(.i .i64 (0)), (.s []), (.b false)] [(1, 1, (.t 51))]), none, []⟩,
              ⟨(some 53), (.eqAg [1, 2, 0] false (.t 49) (.t 52)), none, []⟩,
              ⟨(some 54), (.mov (.t 53)), none, []⟩,
              ⟨(some 55), (.off (.t 1) 3), (some (54, true)), []⟩,
              ⟨(some 56), (.load none (.t 55)), (some (54, true)), []⟩,
              ⟨(some 57), (.bsl 1 1 [(.s [])] [(0, 1, (.t 56))]), (some (54, true)), []⟩,
              ⟨(some 58), (.call 83 [(.t 57)]), (some (54, true)), []⟩,
              ⟨(some 59), (.pick (.t 54) (.t 58) (.c (.b false))), none, []⟩,
              ⟨(some 2), (.mov (.c (.i .i64 (1)))), none, []⟩,
              ⟨(some 3), (.mov (.c (.i .i64 (1)))), none, []⟩,
              ⟨(some 4), (.mov (.t 59)), none, []⟩] [])
            .ret)
            (.seq (.region [⟨(some 61), (.off (.t 1) 0), none, []⟩,
              ⟨(some 62), (.load none (.t 61)), none, []⟩,
              ⟨(some 63), (.bin .eql (.t 62) (.c (.i .i64 (23)))), none, []⟩,
              ⟨(some 60), (.mov (.t 63)), none, []⟩] [])
            (.cond (.t 60)
              (.seq (.region [⟨(some 64), (.load (some 3) (.t 5)), none, []⟩,
                ⟨(some 65), (.off (.t 1) 3), none, []⟩,
                ⟨(some 66), (.load none (.t 65)), none, []⟩,
                ⟨(some 67), (.build [(.i .i64 (0)), (.s []), (.b false)] [(1, 1, (.t 66))]), none, []⟩,
                ⟨(some 68), (.eqAg [1, 2, 0] false (.t 64) (.t 67)), none, []⟩,
                ⟨(some 69), (.mov (.t 68)), none, []⟩,
                ⟨(some 70), (.off (.t 1) 3), (some (69, true)), []⟩,
                ⟨(some 71), (.load none (.t 70)), (some (69, true)), []⟩,
                ⟨(some 72), (.call 84 [(.t 71)]), (some (69, true)), []⟩,
                ⟨(some 73), (.pick (.t 69) (.t 72) (.c (.b false))), none, []⟩,
                ⟨(some 2), (.mov (.c (.i .i64 (1)))), none, []⟩,
                ⟨(some 3), (.mov (.c (.i .i64 (1)))), none, []⟩,
                ⟨(some 4), (.mov (.t 73)), none, []⟩] [])
              .ret)
              (.seq (.region [⟨(some 75), (.off (.t 1) 0), none, []⟩,
                ⟨(some 76), (.load none (.t 75)), none, []⟩,
                ⟨(some 77), (.bin .eql (.t 76) (.c (.i .i64 (40)))), none, []⟩,
                ⟨(some 74), (.mov (.t 77)), none, []⟩] [])
              (.cond (.t 74)
                (.seq (.region [⟨(some 78), (.load (some 3) (.t 5)), none, []⟩,
                  ⟨(some 79), (.off (.t 1) 1), none, []⟩,
                  ⟨(some 80), (.load none (.t 79)), none, []⟩,
                  ⟨(some 81), (.build [(.i .i64 (0)), (.s []), (.b false)] [(0, 1, (.t 80))]), none, []⟩,
                  ⟨(some 82), (.eqAg [1, 2, 0] false (.t 78) (.t 81)), none, []⟩,
                  ⟨(some 83), (.mov (.t 82)), none, []⟩,
                  ⟨(some 84), (.off (.t 1) 1), (some (83, true)), []⟩,
                  ⟨(some 85), (.load none (.t 84)), (some (83, true)), []⟩,
                  ⟨(some 86), (.bin .geq (.t 85) (.c (.i .i64 (0)))), (some (83, true)), []⟩,
                  ⟨(some 87), (.pick (.t 83) (.t 86) (.c (.b false))), none, []⟩,
                  ⟨(some 88), (.mov (.t 87)), none, []⟩,
                  ⟨(some 89), (.off (.t 1) 1), (some (88, true)), []⟩,
                  ⟨(some 90), (.load none (.t 89)), (some (88, true)), []⟩,
                  ⟨(some 91), (.bin .leq (.t 90) (.c (.i .i64 (6)))), (some (88, true)), []⟩,
                  ⟨(some 92), (.pick (.t 88) (.t 91) (.c (.b false))), none, []⟩,
                  ⟨(some 2), (.mov (.c (.i .i64 (1)))), none, []⟩,
                  ⟨(some 3), (.mov (.c (.i .i64 (1)))), none, []⟩,
                  ⟨(some 4), (.mov (.t 92)), none, []⟩] [])
                .ret)
                (.seq (.seq (.region [⟨(some 94), (.off (.t 1) 0), none, []⟩,
                  ⟨(some 95), (.load none (.t 94)), none, []⟩,
                  ⟨(some 96), (.bin .eql (.t 95) (.c (.i .i64 (48)))), none, []⟩,
                  ⟨(some 93), (.mov (.t 96)), none, []⟩] [])
                (.cond (.t 93)
                  .skip
                  (.region [⟨(some 97), (.off (.t 1) 0), none, []⟩,
                    ⟨(some 98), (.load none (.t 97)), none, []⟩,
                    ⟨(some 99), (.bin .eql (.t 98) (.c (.i .i64 (49)))), none, []⟩,
                    ⟨(some 93), (.mov (.t 99)), none, []⟩] [])))
                (.cond (.t 93)
                  (.seq (.region [⟨(some 100), (.load (some 3) (.t 5)), none, []⟩,
                    ⟨(some 101), (.off (.t 1) 1), none, []⟩,
                    ⟨(some 102), (.load none (.t 101)), none, []⟩,
                    ⟨(some 103), (.build [(.i .i64 (0)), (.s []), (.b false)] [(0, 1, (.t 102))]), none, []⟩,
                    ⟨(some 104), (.eqAg [1, 2, 0] false (.t 100) (.t 103)), none, []⟩,
                    ⟨(some 2), (.mov (.c (.i .i64 (1)))), none, []⟩,
                    ⟨(some 3), (.mov (.c (.i .i64 (1)))), none, []⟩,
                    ⟨(some 4), (.mov (.t 104)), none, []⟩] [])
                  .ret)
                  (.seq (.seq (.region [⟨(some 106), (.off (.t 1) 0), none, []⟩,
                    ⟨(some 107), (.load none (.t 106)), none, []⟩,
                    ⟨(some 108), (.bin .geq (.t 107) (.c (.i .i64 (43)))), none, []⟩,
                    ⟨(some 109), (.mov (.t 108)), none, []⟩,
                    ⟨(some 110), (.off (.t 1) 0), (some (109, true)), []⟩,
                    ⟨(some 111), (.load none (.t 110)), (some (109, true)), []⟩,
                    ⟨(some 112), (.bin .leq (.t 111) (.c (.i .i64 (47)))), (some (109, true)), []⟩,
                    ⟨(some 113), (.pick (.t 109) (.t 112) (.c (.b false))), none, []⟩,
                    ⟨(some 105), (.mov (.t 113)), none, []⟩] [])
                  (.cond (.t 105)
                    .skip
                    (.region [⟨(some 114), (.off (.t 1) 0), none, []⟩,
                      ⟨(some 115), (.load none (.t 114)), none, []⟩,
                      ⟨(some 116), (.bin .geq (.t 115) (.c (.i .i64 (9)))), none, []⟩,
                      ⟨(some 117), (.mov (.t 116)), none, []⟩,
                      ⟨(some 118), (.off (.t 1) 0), (some (117, true)), []⟩,
                      ⟨(some 119), (.load none (.t 118)), (some (117, true)), []⟩,
                      ⟨(some 120), (.bin .leq (.t 119) (.c (.i .i64 (19)))), (some (117, true)), []⟩,
                      ⟨(some 121), (.pick (.t 117) (.t 120) (.c (.b false))), none, []⟩,
                      ⟨(some 105), (.mov (.t 121)), none, []⟩] [])))
                  (.cond (.t 105)
                    (.seq (.region [⟨(some 122), (.load (some 3) (.t 5)), none, []⟩,
                      ⟨(some 123), (.load (some 3) (.g 0)), none, []⟩,
                      ⟨(some 124), (.eqAg [1, 2, 0] false (.t 122) (.t 123)), none, []⟩,
                      ⟨(some 2), (.mov (.c (.i .i64 (2)))), none, []⟩,
                      ⟨(some 3), (.mov (.c (.i .i64 (2)))), none, []⟩,
                      ⟨(some 4), (.mov (.t 124)), none, []⟩] [])
                    .ret)
                    (.seq (.seq (.region [⟨(some 126), (.off (.t 1) 0), none, []⟩,
                      ⟨(some 127), (.load none (.t 126)), none, []⟩,
                      ⟨(some 128), (.bin .eql (.t 127) (.c (.i .i64 (41)))), none, []⟩,
                      ⟨(some 125), (.mov (.t 128)), none, []⟩] [])
                    (.cond (.t 125)
                      .skip
                      (.seq (.region [⟨(some 129), (.off (.t 1) 0), none, []⟩,
                        ⟨(some 130), (.load none (.t 129)), none, []⟩,
                        ⟨(some 131), (.bin .eql (.t 130) (.c (.i .i64 (42)))), none, []⟩,
                        ⟨(some 125), (.mov (.t 131)), none, []⟩] [])
                      (.cond (.t 125)
                        .skip
                        (.region [⟨(some 132), (.off (.t 1) 0), none, []⟩,
                          ⟨(some 133), (.load none (.t 132)), none, []⟩,
                          ⟨(some 134), (.bin .geq (.t 133) (.c (.i .i64 (6)))), none, []⟩,
                          ⟨(some 135), (.mov (.t 134)), none, []⟩,
                          ⟨(some 136), (.off (.t 1) 0), (some (135, true)), []⟩,
                          ⟨(some 137), (.load none (.t 136)), (some (135, true)), []⟩,
                          ⟨(some 138), (.bin .leq (.t 137) (.c (.i .i64 (8)))), (some (135, true)), []⟩,
                          ⟨(some 139), (.pick (.t 135) (.t 138) (.c (.b false))), none, []⟩,
                          ⟨(some 125), (.mov (.t 139)), none, []⟩] [])))))
                    (.cond (.t 125)
                      (.seq (.region [⟨(some 140), (.load (some 3) (.t 5)), none, []⟩,
                        ⟨(some 141), (.load (some 3) (.g 0)), none, []⟩,
                        ⟨(some 142), (.eqAg [1, 2, 0] false (.t 140) (.t 141)), none, []⟩,
                        ⟨(some 2), (.mov (.c (.i .i64 (1)))), none, []⟩,
                        ⟨(some 3), (.mov (.c (.i .i64 (1)))), none, []⟩,
                        ⟨(some 4), (.mov (.t 142)), none, []⟩] [])
                      .ret)
                      .skip)))))))))))))))))
    (.seq (.region [⟨(some 2), (.mov (.c (.i .i64 (0)))), none, []⟩,
      ⟨(some 3), (.mov (.c (.i .i64 (0)))), none, []⟩,
      ⟨(some 4), (.mov (.c (.b false))), none, []⟩] [])
    .ret)))),
    143, 1, [.t 2, .t 3, .t 4], 0⟩
theorem tr72 : trFunc Tryd.prog [([], []), ([], []), ([], []), ([0, 1, 2, 3, 4, 5], []), ([], []), ([0, 1, 2, 3, 4, 5, 6, 7, 8, 9, 10, 11, 12, 13, 14, 15, 16, 17, 18, 19, 20, 21], []), ([], []), ([], []), ([], []), ([], []), ([], []), ([0, 1, 2, 3, 4, 5, 6, 7, 8, 9, 10, 11, 12, 13, 14, 15, 16, 17], []), ([], []), ([], []), ([], []), ([0, 1, 2, 3, 4, 5, 6, 7], []), ([], []), ([], []), ([], []), ([0, 1, 2, 3, 4, 5], []), ([], []), ([], []), ([], []), ([], []), ([], []), ([0, 1, 2, 3, 4, 5], []), ([], []), ([], [])] 0 Tryd.f72 = some I72 := by kernel_rfl

/-- 'encore/lift.mayBe'. -/
def I73 : IFunc :=
  ⟨(.seq (.region [⟨(some 1), (.box (.t 0)), none, []⟩,
      ⟨(some 2), (.mov (.c (.b false))), none, []⟩] [])
    (.seq (.region [⟨(some 3), (.load (some 5) (.t 1)), none, []⟩,
      ⟨(some 4), (.call 30 [(.t 3)]), none, []⟩,
      ⟨(some 5), (.bin .eql (.t 4) (.c (.i .i64 (0)))), none, []⟩,
      ⟨(some 2), (.mov (.t 5)), none, []⟩] [])
    .ret)),
    6, 1, [.t 2], 0⟩
theorem tr73 : trFunc Tryd.prog [([], []), ([], [])] 0 Tryd.f73 = some I73 := by kernel_rfl

/-- 'encore/value.Same'. -/
def I74 : IFunc :=
  ⟨(.seq (.region [⟨(some 2), (.box (.t 0)), none, []⟩,
      ⟨(some 3), (.box (.t 1)), none, []⟩,
      ⟨(some 4), (.mov (.c (.b false))), none, []⟩] [])
    (.seq (.region [⟨(some 5), (.off (.t 2) 0), none, []⟩,
      ⟨(some 6), (.load none (.t 5)), none, []⟩,
      ⟨(some 7), (.off (.t 3) 0), none, []⟩,
      ⟨(some 8), (.load none (.t 7)), none, []⟩,
      ⟨(some 9), (.bin .eql (.t 6) (.t 8)), none, []⟩,
      ⟨(some 10), (.mov (.t 9)), none, []⟩,
      ⟨(some 11), (.off (.t 2) 1), (some (10, true)), []⟩,
      ⟨(some 12), (.load none (.t 11)), (some (10, true)), []⟩,
      ⟨(some 13), (.off (.t 3) 1), (some (10, true)), []⟩,
      ⟨(some 14), (.load none (.t 13)), (some (10, true)), []⟩,
      ⟨(some 15), (.bin .eql (.t 12) (.t 14)), (some (10, true)), []⟩,
      ⟨(some 16), (.pick (.t 10) (.t 15) (.c (.b false))), none, []⟩,
      ⟨(some 17), (.mov (.t 16)), none, []⟩,
      ⟨(some 18), (.off (.t 2) 2), (some (17, true)), []⟩,
      ⟨(some 19), (.load none (.t 18)), (some (17, true)), []⟩,
      ⟨(some 20), (.off (.t 3) 2), (some (17, true)), []⟩,
      ⟨(some 21), (.load none (.t 20)), (some (17, true)), []⟩,
      ⟨(some 22), (.bin .eql (.t 19) (.t 21)), (some (17, true)), []⟩,
      ⟨(some 23), (.pick (.t 17) (.t 22) (.c (.b false))), none, []⟩,
      ⟨(some 24), (.mov (.t 23)), none, []⟩,
      ⟨(some 25), (.off (.t 2) 4), (some (24, true)), []⟩,
      ⟨(some 26), (.load none (.t 25)), (some (24, true)), []⟩,
      ⟨(some 27), (.off (.t 3) 4), (some (24, true)), []⟩,
      ⟨(some 28), (.load none (.t 27)), (some (24, true)), []⟩,
      ⟨(some 29), (.call 85 [(.t 26), (.t 28)]), (some (24, true)), []⟩,
      ⟨(some 30), (.pick (.t 24) (.t 29) (.c (.b false))), none, []⟩,
      ⟨(some 31), (.mov (.t 30)), none, []⟩,
      ⟨(some 32), (.off (.t 2) 3), (some (31, true)), []⟩,
      ⟨(some 33), (.load none (.t 32)), (some (31, true)), []⟩,
      ⟨(some 34), (.off (.t 3) 3), (some (31, true)), []⟩,
      ⟨(some 35), (.load none (.t 34)), (some (31, true)), []⟩,
      ⟨(some 36), (.call 86 [(.t 33), (.t 35), (.f 74)]), (some (31, true)), []⟩,
      ⟨(some 37), (.pick (.t 31) (.t 36) (.c (.b false))), none, []⟩,
      ⟨(some 4), (.mov (.t 37)), none, []⟩] [])
    .ret)),
    38, 2, [.t 4], 0⟩
theorem tr74 : trFunc Tryd.prog [([], []), ([], [])] 0 Tryd.f74 = some I74 := by kernel_rfl

/-- 'encore/lift.fit$1'. -/
def I75 : IFunc :=
  ⟨(.seq (.region [⟨(some 3), (.box (.t 0)), none, []⟩,
      ⟨(some 4), (.mov (.c (.b false))), none, []⟩] [])
    (.seq (.region [⟨(some 5), (.load (some 7) (.t 3)), none, []⟩,
      ⟨(some 6), (.load none (.t 1)), none, []⟩,
      ⟨(some 7), (.load none (.t 2)), none, []⟩,
      ⟨(some 8), (.call 52 [(.t 5), (.t 6), (.t 7)]), none, []⟩,
      ⟨(some 9), (.un .not (.t 8)), none, []⟩,
      ⟨(some 4), (.mov (.t 9)), none, []⟩] [])
    .ret)),
    10, 3, [.t 4], 0⟩
theorem tr75 : trFunc Tryd.prog [([], []), ([], [])] 0 Tryd.f75 = some I75 := by kernel_rfl

/-- 'slices.IndexFunc[[]encore/lift.Operand,encore/lift.Operand]'. -/
def L76a : ICode :=
  (.seq (.region [⟨(some 9), (.bin .lss (.t 8) (.t 7)), none, []⟩] [])
    (.seq (.cond (.t 9)
      .skip
      (.exit 0))
    (.seq (.block 1
      (.seq (.region [⟨(some 10), (.mov (.t 8)), none, []⟩,
        ⟨(some 5), (.mov (.t 10)), none, []⟩] [])
      (.seq (.region [⟨(some 11), (.mov (.t 1)), none, []⟩,
        ⟨(some 12), (.mov (.t 0)), none, []⟩,
        ⟨(some 13), (.mov (.t 5)), none, []⟩,
        ⟨(some 14), (.iaddr 7 (.t 12) (.t 13)), none, []⟩,
        ⟨(some 15), (.load (some 7) (.t 14)), none, []⟩,
        ⟨(some 16), (.callv (.t 11) [(.t 15)]), none, []⟩] [])
      (.cond (.t 16)
        (.seq (.region [⟨(some 17), (.mov (.t 5)), none, []⟩,
          ⟨(some 4), (.mov (.t 17)), none, []⟩] [])
        .ret)
        .skip))))
    (.region [⟨(some 18), (.bin .add (.t 8) (.c (.i .i64 (1)))), none, []⟩,
      ⟨(some 8), (.mov (.t 18)), none, []⟩] []))))
def I76 : IFunc :=
  ⟨(.seq (.region [⟨(some 4), (.mov (.c (.i .i64 (0)))), none, []⟩] [])
    (.seq (.seq (.region [⟨(some 6), (.mov (.t 0)), none, []⟩,
      ⟨(some 7), (.lenk 0 (.t 6)), none, []⟩,
      ⟨(some 8), (.mov (.c (.i .i64 (0)))), none, []⟩] [])
    (.block 0
      (.loop L76a)))
    (.seq (.region [⟨(some 4), (.mov (.c (.i .i64 (-1)))), none, []⟩] [])
    .ret))),
    19, 2, [.t 4], 0⟩
theorem tr76 : trFunc Tryd.prog [([], []), ([], []), ([], []), ([], []), ([], []), ([], []), ([], []), ([], []), ([], []), ([], [])] 0 Tryd.f76 = some I76 := by kernel_rfl

/-- 'encore/guess.makes'. -/
def I77 : IFunc :=
  ⟨(.seq (.region [⟨(some 1), (.box (.t 0)), none, []⟩,
      ⟨(some 2), (.mov (.c (.i .i64 (0)))), none, []⟩] [])
    (.seq (.seq (.region [⟨(some 3), (.off (.t 1) 0), none, []⟩,
      ⟨(some 4), (.load none (.t 3)), none, []⟩] [])
    (.block 0
      (.seq (.seq (.region [⟨(some 6), (.bin .eql (.t 4) (.c (.i .i64 (6)))), none, []⟩,
        ⟨(some 5), (.mov (.t 6)), none, []⟩] [])
      (.cond (.t 5)
        .skip
        (.seq (.region [⟨(some 7), (.bin .eql (.t 4) (.c (.i .i64 (8)))), none, []⟩,
          ⟨(some 5), (.mov (.t 7)), none, []⟩] [])
        (.cond (.t 5)
          .skip
          (.seq (.region [⟨(some 8), (.bin .eql (.t 4) (.c (.i .i64 (10)))), none, []⟩,
            ⟨(some 5), (.mov (.t 8)), none, []⟩] [])
          (.cond (.t 5)
            .skip
            (.seq (.region [⟨(some 9), (.bin .eql (.t 4) (.c (.i .i64 (11)))), none, []⟩,
              ⟨(some 5), (.mov (.t 9)), none, []⟩] [])
            (.cond (.t 5)
              .skip
              (.seq (.region [⟨(some 10), (.bin .eql (.t 4) (.c (.i .i64 (12)))), none, []⟩,
                ⟨(some 5), (.mov (.t 10)), none, []⟩] [])
              (.cond (.t 5)
                .skip
                (.seq (.region [⟨(some 11), (.bin .eql (.t 4) (.c (.i .i64 (13)))), none, []⟩,
                  ⟨(some 5), (.mov (.t 11)), none, []⟩] [])
                (.cond (.t 5)
                  .skip
                  (.seq (.region [⟨(some 12), (.bin .eql (.t 4) (.c (.i .i64 (41)))), none, []⟩,
                    ⟨(some 5), (.mov (.t 12)), none, []⟩] [])
                  (.cond (.t 5)
                    .skip
                    (.seq (.region [⟨(some 13), (.bin .eql (.t 4) (.c (.i .i64 (43)))), none, []⟩,
                      ⟨(some 5), (.mov (.t 13)), none, []⟩] [])
                    (.cond (.t 5)
                      .skip
                      (.seq (.region [⟨(some 14), (.bin .eql (.t 4) (.c (.i .i64 (44)))), none, []⟩,
                        ⟨(some 5), (.mov (.t 14)), none, []⟩] [])
                      (.cond (.t 5)
                        .skip
                        (.seq (.region [⟨(some 15), (.bin .eql (.t 4) (.c (.i .i64 (45)))), none, []⟩,
                          ⟨(some 5), (.mov (.t 15)), none, []⟩] [])
                        (.cond (.t 5)
                          .skip
                          (.region [⟨(some 16), (.bin .eql (.t 4) (.c (.i .i64 (48)))), none, []⟩,
                            ⟨(some 5), (.mov (.t 16)), none, []⟩] [])))))))))))))))))))))
      (.cond (.t 5)
        (.seq (.region [⟨(some 2), (.mov (.c (.i .i64 (1)))), none, []⟩] [])
        .ret)
        (.seq (.seq (.region [⟨(some 18), (.bin .eql (.t 4) (.c (.i .i64 (7)))), none, []⟩,
          ⟨(some 17), (.mov (.t 18)), none, []⟩] [])
        (.cond (.t 17)
          .skip
          (.seq (.region [⟨(some 19), (.bin .eql (.t 4) (.c (.i .i64 (14)))), none, []⟩,
            ⟨(some 17), (.mov (.t 19)), none, []⟩] [])
          (.cond (.t 17)
            .skip
            (.seq (.region [⟨(some 20), (.bin .eql (.t 4) (.c (.i .i64 (15)))), none, []⟩,
              ⟨(some 17), (.mov (.t 20)), none, []⟩] [])
            (.cond (.t 17)
              .skip
              (.seq (.region [⟨(some 21), (.bin .eql (.t 4) (.c (.i .i64 (16)))), none, []⟩,
                ⟨(some 17), (.mov (.t 21)), none, []⟩] [])
              (.cond (.t 17)
                .skip
                (.seq (.region [⟨(some 22), (.bin .eql (.t 4) (.c (.i .i64 (17)))), none, []⟩,
                  ⟨(some 17), (.mov (.t 22)), none, []⟩] [])
                (.cond (.t 17)
                  .skip
                  (.seq (.region [⟨(some 23), (.bin .eql (.t 4) (.c (.i .i64 (42)))), none, []⟩,
                    ⟨(some 17), (.mov (.t 23)), none, []⟩] [])
                  (.cond (.t 17)
                    .skip
                    (.seq (.region [⟨(some 24), (.bin .eql (.t 4) (.c (.i .i64 (46)))), none, []⟩,
                      ⟨(some 17), (.mov (.t 24)), none, []⟩] [])
                    (.cond (.t 17)
                      .skip
                      (.seq (.region [⟨(some 25), (.bin .eql (.t 4) (.c (.i .i64 (47)))), none, []⟩,
                        ⟨(some 17), (.mov (.t 25)), none, []⟩] [])
                      (.cond (.t 17)
                        .skip
                        (.region [⟨(some 26), (.bin .eql (.t 4) (.c (.i .i64 (49)))), none, []⟩,
                          ⟨(some 17), (.mov (.t 26)), none, []⟩] [])))))))))))))))))
        (.cond (.t 17)
          (.seq (.region [⟨(some 2), (.mov (.c (.i .i64 (2)))), none, []⟩] [])
          .ret)
          (.seq (.seq (.region [⟨(some 28), (.bin .eql (.t 4) (.c (.i .i64 (20)))), none, []⟩,
            ⟨(some 27), (.mov (.t 28)), none, []⟩] [])
          (.cond (.t 27)
            .skip
            (.region [⟨(some 29), (.bin .eql (.t 4) (.c (.i .i64 (18)))), none, []⟩,
              ⟨(some 27), (.mov (.t 29)), none, []⟩] [])))
          (.cond (.t 27)
            (.seq (.region [⟨(some 2), (.mov (.c (.i .i64 (4)))), none, []⟩] [])
            .ret)
            (.seq (.region [⟨(some 31), (.bin .eql (.t 4) (.c (.i .i64 (21)))), none, []⟩,
              ⟨(some 30), (.mov (.t 31)), none, []⟩] [])
            (.cond (.t 30)
              (.seq (.region [⟨(some 2), (.mov (.c (.i .i64 (5)))), none, []⟩] [])
              .ret)
              (.seq (.region [⟨(some 33), (.bin .eql (.t 4) (.c (.i .i64 (40)))), none, []⟩,
                ⟨(some 32), (.mov (.t 33)), none, []⟩] [])
              (.cond (.t 32)
                (.seq (.region [⟨(some 34), (.off (.t 1) 1), none, []⟩,
                  ⟨(some 35), (.load none (.t 34)), none, []⟩,
                  ⟨(some 2), (.mov (.t 35)), none, []⟩] [])
                .ret)
                .skip))))))))))))
    (.seq (.region [⟨(some 2), (.mov (.c (.i .i64 (-1)))), none, []⟩] [])
    .ret))),
    36, 1, [.t 2], 0⟩
theorem tr77 : trFunc Tryd.prog [([], []), ([], []), ([], []), ([], []), ([], []), ([], []), ([], []), ([], []), ([], []), ([], []), ([], []), ([], []), ([], []), ([], []), ([], []), ([], []), ([], []), ([], []), ([], []), ([], []), ([], []), ([], []), ([], []), ([], []), ([], []), ([], []), ([], []), ([], []), ([], []), ([], []), ([], []), ([], []), ([], []), ([], []), ([], []), ([], []), ([], []), ([], []), ([], []), ([], []), ([], []), ([], []), ([], []), ([], []), ([], []), ([], []), ([], []), ([], []), ([], []), ([], []), ([], []), ([], [])] 0 Tryd.f77 = some I77 := by kernel_rfl

/-- 'slices.Clone[[]encore/api.Value,encore/api.Value]'. -/
def I78 : IFunc :=
  ⟨(.seq (.region [⟨(some 2), (.mov (.c .ns)), none, []⟩] [])
    (.seq (.seq (.region [⟨(some 3), (.mov (.t 0)), none, []⟩,
      ⟨(some 4), (.eqNil 0 false (.t 3) (.c .ns)), none, []⟩] [])
    (.cond (.t 4)
      (.seq (.region [⟨(some 2), (.mov (.c .ns)), none, []⟩] [])
      .ret)
      .skip))
    (.seq (.region [⟨(some 5), (.bsl 5 0 [] []), none, []⟩,
      ⟨(some 6), (.mov (.t 0)), none, []⟩,
      ⟨(some 7), (.app 5 80 (.t 5) (.t 6)), none, []⟩,
      ⟨(some 2), (.mov (.t 7)), none, []⟩] [])
    .ret))),
    8, 1, [.t 2], 0⟩
theorem tr78 : trFunc Tryd.prog [([], []), ([], []), ([], []), ([], []), ([], [])] 0 Tryd.f78 = some I78 := by kernel_rfl

/-- 'encore/encoreref00.EqTexts'. -/
def L79a : ICode :=
  (.seq (.seq (.region [⟨(some 11), (.mov (.t 5)), none, []⟩,
      ⟨(some 12), (.mov (.t 0)), none, []⟩,
      ⟨(some 13), (.lenk 0 (.t 12)), none, []⟩,
      ⟨(some 14), (.bin .lss (.t 11) (.t 13)), none, []⟩] [])
    (.cond (.t 14)
      .skip
      (.exit 0)))
    (.seq (.block 1
      (.seq (.region [⟨(some 17), (.mov (.t 0)), none, []⟩,
        ⟨(some 18), (.mov (.t 5)), none, []⟩,
        ⟨(some 19), (.iaddr 1 (.t 17) (.t 18)), none, []⟩,
        ⟨(some 20), (.load none (.t 19)), none, []⟩,
        ⟨(some 21), (.mov (.t 1)), none, []⟩,
        ⟨(some 22), (.mov (.t 5)), none, []⟩,
        ⟨(some 23), (.iaddr 1 (.t 21) (.t 22)), none, []⟩,
        ⟨(some 24), (.load none (.t 23)), none, []⟩,
        ⟨(some 25), (.bin .neq (.t 20) (.t 24)), none, []⟩] [])
      (.cond (.t 25)
        (.seq (.region [⟨(some 4), (.mov (.c (.b false))), none, []⟩] [])
        .ret)
        .skip)))
    (.region [⟨(some 15), (.mov (.t 5)), none, []⟩,
      ⟨(some 16), (.bin .add (.t 15) (.c (.i .i64 (1)))), none, []⟩,
      ⟨(some 5), (.mov (.t 16)), none, []⟩] [])))
def I79 : IFunc :=
  ⟨(.seq (.region [⟨(some 4), (.mov (.c (.b false))), none, []⟩] [])
    (.seq (.seq (.region [⟨(some 6), (.mov (.t 0)), none, []⟩,
      ⟨(some 7), (.lenk 0 (.t 6)), none, []⟩,
      ⟨(some 8), (.mov (.t 1)), none, []⟩,
      ⟨(some 9), (.lenk 0 (.t 8)), none, []⟩,
      ⟨(some 10), (.bin .neq (.t 7) (.t 9)), none, []⟩] [])
    (.cond (.t 10)
      (.seq (.region [⟨(some 4), (.mov (.c (.b false))), none, []⟩] [])
      .ret)
      .skip))
    (.seq (.seq (.region [⟨(some 5), (.mov (.c (.i .i64 (0)))), none, []⟩] [])
    (.block 0
      (.loop L79a)))
    (.seq (.region [⟨(some 4), (.mov (.c (.b true))), none, []⟩] [])
    .ret)))),
    26, 2, [.t 4], 0⟩
theorem tr79 : trFunc Tryd.prog [([], []), ([], []), ([], []), ([], []), ([], []), ([], []), ([], []), ([0, 1, 2, 3, 4, 5, 6, 7, 8], []), ([], []), ([], []), ([], []), ([], [])] 0 Tryd.f79 = some I79 := by kernel_rfl

/-- '(encore/value.plain).bare'. -/
def I80 : IFunc :=
  ⟨(.seq (.region [⟨(some 2), (.box (.t 0)), none, []⟩,
      ⟨(some 3), (.box (.t 1)), none, []⟩,
      ⟨(some 4), (.mov (.c (.b false))), none, []⟩] [])
    (.seq (.region [⟨(some 5), (.off (.t 2) 0), none, []⟩,
      ⟨(some 6), (.load none (.t 5)), none, []⟩,
      ⟨(some 7), (.mov (.t 6)), none, []⟩,
      ⟨(some 8), (.off (.t 3) 2), (some (7, false)), []⟩,
      ⟨(some 9), (.load none (.t 8)), (some (7, false)), []⟩,
      ⟨(some 10), (.bin .eql (.t 9) (.c (.s []))), (some (7, false)), []⟩,
      ⟨(some 11), (.pick (.t 7) (.c (.b true)) (.t 10)), none, []⟩,
      ⟨(some 12), (.mov (.t 11)), none, []⟩,
      ⟨(some 13), (.off (.t 2) 1), (some (12, true)), []⟩,
      ⟨(some 14), (.load none (.t 13)), (some (12, true)), []⟩,
      ⟨(some 15), (.mov (.t 14)), (some (12, true)), []⟩,
      ⟨(some 16), (.off (.t 3) 3), (some (15, false)), []⟩,
      ⟨(some 17), (.load none (.t 16)), (some (15, false)), []⟩,
      ⟨(some 18), (.lenk 0 (.t 17)), (some (15, false)), []⟩,
      ⟨(some 19), (.bin .eql (.t 18) (.c (.i .i64 (0)))), (some (15, false)), []⟩,
      ⟨(some 20), (.pick (.t 15) (.c (.b true)) (.t 19)), (some (12, true)), []⟩,
      ⟨(some 21), (.pick (.t 12) (.t 20) (.c (.b false))), none, []⟩,
      ⟨(some 22), (.mov (.t 21)), none, []⟩,
      ⟨(some 23), (.off (.t 2) 2), (some (22, true)), []⟩,
      ⟨(some 24), (.load none (.t 23)), (some (22, true)), []⟩,
      ⟨(some 25), (.mov (.t 24)), (some (22, true)), []⟩,
      ⟨(some 26), (.off (.t 3) 4), (some (25, false)), []⟩,
      ⟨(some 27), (.load none (.t 26)), (some (25, false)), []⟩,
      ⟨(some 28), (.lenk 0 (.t 27)), (some (25, false)), []⟩,
      ⟨(some 29), (.bin .eql (.t 28) (.c (.i .i64 (0)))), (some (25, false)), []⟩,
      ⟨(some 30), (.pick (.t 25) (.c (.b true)) (.t 29)), (some (22, true)), []⟩,
      ⟨(some 31), (.pick (.t 22) (.t 30) (.c (.b false))), none, []⟩,
      ⟨(some 4), (.mov (.t 31)), none, []⟩] [])
    .ret)),
    32, 2, [.t 4], 0⟩
theorem tr80 : trFunc Tryd.prog [([], []), ([], [])] 0 Tryd.f80 = some I80 := by kernel_rfl

/-- 'encore/value.rising'. -/
def L81a : ICode :=
  (.seq (.region [⟨(some 9), (.bin .lss (.t 8) (.t 7)), none, []⟩] [])
    (.seq (.cond (.t 9)
      .skip
      (.exit 0))
    (.seq (.block 1
      (.seq (.region [⟨(some 10), (.iaddr 1 (.t 6) (.t 8)), none, []⟩,
        ⟨(some 11), (.load none (.t 10)), none, []⟩,
        ⟨(some 5), (.mov (.t 11)), none, []⟩] [])
      (.seq (.seq (.region [⟨(some 12), (.mov (.t 5)), none, []⟩,
        ⟨(some 13), (.mov (.t 3)), none, []⟩,
        ⟨(some 14), (.bin .leq (.t 12) (.t 13)), none, []⟩,
        ⟨(some 15), (.mov (.t 14)), none, []⟩,
        ⟨(some 16), (.mov (.t 5)), (some (15, false)), []⟩,
        ⟨(some 17), (.call 87 [(.t 16)]), (some (15, false)), []⟩,
        ⟨(some 18), (.un .not (.t 17)), (some (15, false)), []⟩,
        ⟨(some 19), (.pick (.t 15) (.c (.b true)) (.t 18)), none, []⟩] [])
      (.cond (.t 19)
        (.seq (.region [⟨(some 2), (.mov (.c (.b false))), none, []⟩] [])
        .ret)
        .skip))
      (.region [⟨(some 20), (.mov (.t 5)), none, []⟩,
        ⟨(some 3), (.mov (.t 20)), none, []⟩] []))))
    (.region [⟨(some 21), (.bin .add (.t 8) (.c (.i .i64 (1)))), none, []⟩,
      ⟨(some 8), (.mov (.t 21)), none, []⟩] []))))
def I81 : IFunc :=
  ⟨(.seq (.region [⟨(some 2), (.mov (.c (.b false))), none, []⟩] [])
    (.seq (.region [⟨(some 3), (.mov (.c (.s []))), none, []⟩] [])
    (.seq (.seq (.region [⟨(some 6), (.mov (.t 0)), none, []⟩,
      ⟨(some 7), (.lenk 0 (.t 6)), none, []⟩,
      ⟨(some 8), (.mov (.c (.i .i64 (0)))), none, []⟩] [])
    (.block 0
      (.loop L81a)))
    (.seq (.region [⟨(some 2), (.mov (.c (.b true))), none, []⟩] [])
    .ret)))),
    22, 1, [.t 2], 0⟩
theorem tr81 : trFunc Tryd.prog [([], []), ([], []), ([], []), ([], []), ([], []), ([], []), ([], []), ([], []), ([], []), ([], []), ([], []), ([], [])] 0 Tryd.f81 = some I81 := by kernel_rfl

/-- 'encore/lift.record'. -/
def I83 : IFunc :=
  ⟨(.seq (.region [⟨(some 2), (.mov (.c (.b false))), none, []⟩] [])
    (.seq (.region [⟨(some 3), (.mov (.t 0)), none, []⟩,
      ⟨(some 4), (.lenk 0 (.t 3)), none, []⟩,
      ⟨(some 5), (.bin .leq (.t 4) (.c (.i .i64 (8)))), none, []⟩,
      ⟨(some 6), (.mov (.t 5)), none, []⟩,
      ⟨(some 7), (.mov (.t 0)), (some (6, true)), []⟩,
      ⟨(some 8), (.mov (.t 0)), (some (6, true)), []⟩,
      ⟨(some 9), (.lenk 0 (.t 8)), (some (6, true)), []⟩,
      ⟨(some 10), (.mksl 5 80 [(.i .i64 (0)), (.i .i64 (0)), (.s []), .ns, .ns] (.t 9) (.t 9)), (some (6, true)), []⟩,
      ⟨(some 11), (.build [(.i .i64 (0)), (.i .i64 (0)), (.s []), .ns, .ns] [(0, 1, (.c (.i .i64 (5)))), (4, 1, (.t 7)), (3, 1, (.t 10))]), (some (6, true)), []⟩,
      ⟨(some 12), (.call 73 [(.t 11)]), (some (6, true)), []⟩,
      ⟨(some 13), (.pick (.t 6) (.t 12) (.c (.b false))), none, []⟩,
      ⟨(some 2), (.mov (.t 13)), none, []⟩] [])
    .ret)),
    14, 1, [.t 2], 0⟩
theorem tr83 : trFunc Tryd.prog [([], []), ([], [])] 0 Tryd.f83 = some I83 := by kernel_rfl

/-- 'encore/value.Fits'. -/
def I84 : IFunc :=
  ⟨(.seq (.region [⟨(some 2), (.mov (.c (.b false))), none, []⟩] [])
    (.seq (.region [⟨(some 6), (.mov (.t 0)), none, []⟩,
      ⟨(some 7), (.call 89 [(.t 6)]), none, []⟩,
      ⟨(some 5), (.mov (.t 7)), none, []⟩,
      ⟨(some 8), (.ext (.t 5) 0), none, []⟩,
      ⟨(some 9), (.ext (.t 5) 1), none, []⟩,
      ⟨(some 3), (.alloc [(.i .i64 (0)), .ns, .ns]), none, []⟩,
      ⟨none, (.store 3 (.t 3) (.t 8)), none, []⟩,
      ⟨(some 4), (.mov (.t 9)), none, []⟩] [])
    (.seq (.region [⟨(some 10), (.mov (.t 4)), none, []⟩,
      ⟨(some 2), (.mov (.t 10)), none, []⟩] [])
    .ret))),
    11, 1, [.t 2], 0⟩
theorem tr84 : trFunc Tryd.prog [([], []), ([], []), ([], [])] 0 Tryd.f84 = some I84 := by kernel_rfl

/-- 'slices.Equal[[]string,string]'. -/
def L85a : ICode :=
  (.seq (.region [⟨(some 14), (.bin .lss (.t 13) (.t 12)), none, []⟩] [])
    (.seq (.cond (.t 14)
      .skip
      (.exit 0))
    (.seq (.block 1
      (.seq (.region [⟨(some 15), (.mov (.t 13)), none, []⟩,
        ⟨(some 5), (.mov (.t 15)), none, []⟩] [])
      (.seq (.region [⟨(some 16), (.mov (.t 0)), none, []⟩,
        ⟨(some 17), (.mov (.t 5)), none, []⟩,
        ⟨(some 18), (.iaddr 1 (.t 16) (.t 17)), none, []⟩,
        ⟨(some 19), (.load none (.t 18)), none, []⟩,
        ⟨(some 20), (.mov (.t 1)), none, []⟩,
        ⟨(some 21), (.mov (.t 5)), none, []⟩,
        ⟨(some 22), (.iaddr 1 (.t 20) (.t 21)), none, []⟩,
        ⟨(some 23), (.load none (.t 22)), none, []⟩,
        ⟨(some 24), (.bin .neq (.t 19) (.t 23)), none, []⟩] [])
      (.cond (.t 24)
        (.seq (.region [⟨(some 4), (.mov (.c (.b false))), none, []⟩] [])
        .ret)
        .skip))))
    (.region [⟨(some 25), (.bin .add (.t 13) (.c (.i .i64 (1)))), none, []⟩,
      ⟨(some 13), (.mov (.t 25)), none, []⟩] []))))
def I85 : IFunc :=
  ⟨(.seq (.region [⟨(some 4), (.mov (.c (.b false))), none, []⟩] [])
    (.seq (.seq (.region [⟨(some 6), (.mov (.t 0)), none, []⟩,
      ⟨(some 7), (.lenk 0 (.t 6)), none, []⟩,
      ⟨(some 8), (.mov (.t 1)), none, []⟩,
      ⟨(some 9), (.lenk 0 (.t 8)), none, []⟩,
      ⟨(some 10), (.bin .neq (.t 7) (.t 9)), none, []⟩] [])
    (.cond (.t 10)
      (.seq (.region [⟨(some 4), (.mov (.c (.b false))), none, []⟩] [])
      .ret)
      .skip))
    (.seq (.seq (.region [⟨(some 11), (.mov (.t 0)), none, []⟩,
      ⟨(some 12), (.lenk 0 (.t 11)), none, []⟩,
      ⟨(some 13), (.mov (.c (.i .i64 (0)))), none, []⟩] [])
    (.block 0
      (.loop L85a)))
    (.seq (.region [⟨(some 4), (.mov (.c (.b true))), none, []⟩] [])
    .ret)))),
    26, 2, [.t 4], 0⟩
theorem tr85 : trFunc Tryd.prog [([], []), ([], []), ([], []), ([], []), ([], []), ([], []), ([], []), ([], []), ([0, 1, 2, 3, 4, 5, 6, 7, 8], []), ([], []), ([], []), ([], []), ([], [])] 0 Tryd.f85 = some I85 := by kernel_rfl

/-- 'slices.EqualFunc[[]encore/api.Value,[]encore/api.Value,encore/api.Value,encore/api.Value]'. -/
def L86a : ICode :=
  (.seq (.region [⟨(some 18), (.bin .lss (.t 17) (.t 16)), none, []⟩] [])
    (.seq (.cond (.t 18)
      .skip
      (.exit 0))
    (.seq (.block 1
      (.seq (.region [⟨(some 19), (.mov (.t 17)), none, []⟩,
        ⟨(some 20), (.iaddr 5 (.t 15) (.t 17)), none, []⟩,
        ⟨(some 21), (.load (some 5) (.t 20)), none, []⟩,
        ⟨(some 8), (.alloc [(.i .i64 (0)), (.i .i64 (0)), (.s []), .ns, .ns]), none, []⟩,
        ⟨(some 7), (.mov (.t 19)), none, []⟩,
        ⟨none, (.store 5 (.t 8) (.t 21)), none, []⟩] [])
      (.seq (.region [⟨(some 22), (.mov (.t 1)), none, []⟩,
        ⟨(some 23), (.mov (.t 7)), none, []⟩,
        ⟨(some 24), (.iaddr 5 (.t 22) (.t 23)), none, []⟩,
        ⟨(some 25), (.load (some 5) (.t 24)), none, []⟩,
        ⟨(some 9), (.alloc [(.i .i64 (0)), (.i .i64 (0)), (.s []), .ns, .ns]), none, []⟩,
        ⟨none, (.store 5 (.t 9) (.t 25)), none, []⟩] [])
      (.seq (.region [⟨(some 26), (.mov (.t 2)), none, []⟩,
        ⟨(some 27), (.load (some 5) (.t 8)), none, []⟩,
        ⟨(some 28), (.load (some 5) (.t 9)), none, []⟩,
        ⟨(some 29), (.callv (.t 26) [(.t 27), (.t 28)]), none, []⟩,
        ⟨(some 30), (.un .not (.t 29)), none, []⟩] [])
      (.cond (.t 30)
        (.seq (.region [⟨(some 6), (.mov (.c (.b false))), none, []⟩] [])
        .ret)
        .skip)))))
    (.region [⟨(some 31), (.bin .add (.t 17) (.c (.i .i64 (1)))), none, []⟩,
      ⟨(some 17), (.mov (.t 31)), none, []⟩] []))))
def I86 : IFunc :=
  ⟨(.seq (.region [⟨(some 6), (.mov (.c (.b false))), none, []⟩] [])
    (.seq (.seq (.region [⟨(some 10), (.mov (.t 0)), none, []⟩,
      ⟨(some 11), (.lenk 0 (.t 10)), none, []⟩,
      ⟨(some 12), (.mov (.t 1)), none, []⟩,
      ⟨(some 13), (.lenk 0 (.t 12)), none, []⟩,
      ⟨(some 14), (.bin .neq (.t 11) (.t 13)), none, []⟩] [])
    (.cond (.t 14)
      (.seq (.region [⟨(some 6), (.mov (.c (.b false))), none, []⟩] [])
      .ret)
      .skip))
    (.seq (.seq (.region [⟨(some 15), (.mov (.t 0)), none, []⟩,
      ⟨(some 16), (.lenk 0 (.t 15)), none, []⟩,
      ⟨(some 17), (.mov (.c (.i .i64 (0)))), none, []⟩] [])
    (.block 0
      (.loop L86a)))
    (.seq (.region [⟨(some 6), (.mov (.c (.b true))), none, []⟩] [])
    .ret)))),
    32, 3, [.t 6], 0⟩
theorem tr86 : trFunc Tryd.prog [([], []), ([], []), ([], []), ([], []), ([], []), ([], []), ([], []), ([], []), ([], []), ([], []), ([], []), ([], []), ([], []), ([], [])] 0 Tryd.f86 = some I86 := by kernel_rfl

/-- 'encore/value.named'. -/
def L87a : ICode :=
  (.seq (.region [⟨(some 17), (.bin .lss (.t 16) (.t 15)), none, []⟩] [])
    (.seq (.cond (.t 17)
      .skip
      (.exit 0))
    (.seq (.block 1
      (.seq (.region [⟨(some 18), (.mov (.t 16)), none, []⟩,
        ⟨(some 19), (.iaddr 1 (.t 14) (.t 16)), none, []⟩,
        ⟨(some 20), (.load none (.t 19)), none, []⟩,
        ⟨(some 3), (.mov (.t 18)), none, []⟩,
        ⟨(some 4), (.mov (.t 20)), none, []⟩] [])
      (.seq (.region [⟨(some 21), (.mov (.t 4)), none, []⟩,
        ⟨(some 22), (.bin .geq (.t 21) (.c (.i .u8 (97)))), none, []⟩,
        ⟨(some 23), (.mov (.t 22)), none, []⟩,
        ⟨(some 24), (.mov (.t 4)), (some (23, true)), []⟩,
        ⟨(some 25), (.bin .leq (.t 24) (.c (.i .u8 (122)))), (some (23, true)), []⟩,
        ⟨(some 26), (.pick (.t 23) (.t 25) (.c (.b false))), none, []⟩,
        ⟨(some 5), (.mov (.t 26)), none, []⟩] [])
      (.seq (.region [⟨(some 27), (.mov (.t 5)), none, []⟩,
        ⟨(some 28), (.un .not (.t 27)), none, []⟩,
        ⟨(some 29), (.mov (.t 28)), none, []⟩,
        ⟨(some 30), (.mov (.t 3)), (some (29, true)), []⟩,
        ⟨(some 31), (.bin .eql (.t 30) (.c (.i .i64 (0)))), (some (29, true)), []⟩,
        ⟨(some 32), (.mov (.t 31)), (some (29, true)), []⟩,
        ⟨(some 33), (.mov (.t 4)), (some (32, false)), []⟩,
        ⟨(some 34), (.bin .neq (.t 33) (.c (.i .u8 (95)))), (some (32, false)), []⟩,
        ⟨(some 35), (.mov (.t 34)), (some (32, false)), []⟩,
        ⟨(some 36), (.mov (.t 4)), (some (35, true)), []⟩,
        ⟨(some 37), (.bin .lss (.t 36) (.c (.i .u8 (48)))), (some (35, true)), []⟩,
        ⟨(some 38), (.mov (.t 37)), (some (35, true)), []⟩,
        ⟨(some 39), (.mov (.t 4)), (some (38, false)), []⟩,
        ⟨(some 40), (.bin .gtr (.t 39) (.c (.i .u8 (57)))), (some (38, false)), []⟩,
        ⟨(some 41), (.pick (.t 38) (.c (.b true)) (.t 40)), (some (35, true)), []⟩,
        ⟨(some 42), (.pick (.t 35) (.t 41) (.c (.b false))), (some (32, false)), []⟩,
        ⟨(some 43), (.pick (.t 32) (.c (.b true)) (.t 42)), (some (29, true)), []⟩,
        ⟨(some 44), (.pick (.t 29) (.t 43) (.c (.b false))), none, []⟩] [])
      (.cond (.t 44)
        (.seq (.region [⟨(some 2), (.mov (.c (.b false))), none, []⟩] [])
        .ret)
        .skip)))))
    (.region [⟨(some 45), (.bin .add (.t 16) (.c (.i .i64 (1)))), none, []⟩,
      ⟨(some 16), (.mov (.t 45)), none, []⟩] []))))
def I87 : IFunc :=
  ⟨(.seq (.region [⟨(some 2), (.mov (.c (.b false))), none, []⟩] [])
    (.seq (.seq (.region [⟨(some 6), (.mov (.t 0)), none, []⟩,
      ⟨(some 7), (.bin .eql (.t 6) (.c (.s []))), none, []⟩,
      ⟨(some 8), (.mov (.t 7)), none, []⟩,
      ⟨(some 9), (.mov (.t 0)), (some (8, false)), []⟩,
      ⟨(some 10), (.lenk 1 (.t 9)), (some (8, false)), []⟩,
      ⟨(some 11), (.bin .gtr (.t 10) (.c (.i .i64 (16)))), (some (8, false)), []⟩,
      ⟨(some 12), (.pick (.t 8) (.c (.b true)) (.t 11)), none, []⟩] [])
    (.cond (.t 12)
      (.seq (.region [⟨(some 2), (.mov (.c (.b false))), none, []⟩] [])
      .ret)
      .skip))
    (.seq (.seq (.region [⟨(some 13), (.mov (.t 0)), none, []⟩,
      ⟨(some 14), (.s2b (.t 13)), none, []⟩,
      ⟨(some 15), (.lenk 0 (.t 14)), none, []⟩,
      ⟨(some 16), (.mov (.c (.i .i64 (0)))), none, []⟩] [])
    (.block 0
      (.loop L87a)))
    (.seq (.region [⟨(some 2), (.mov (.c (.b true))), none, []⟩] [])
    .ret)))),
    46, 1, [.t 2], 0⟩
theorem tr87 : trFunc Tryd.prog [([], []), ([], []), ([], []), ([], []), ([], []), ([], []), ([], []), ([], []), ([], []), ([], []), ([], []), ([], []), ([], []), ([], [])] 0 Tryd.f87 = some I87 := by kernel_rfl

/-- 'encore/value.typed'. -/
def I89 : IFunc :=
  ⟨(.seq (.region [⟨(some 2), (.alloc [(.i .i64 (0)), .ns, .ns]), none, []⟩,
      ⟨(some 3), (.mov (.c (.b false))), none, []⟩] [])
    (.seq (.seq (.region [⟨(some 7), (.mov (.t 0)), none, []⟩,
      ⟨(some 8), (.lenk 1 (.t 7)), none, []⟩,
      ⟨(some 9), (.bin .gtr (.t 8) (.c (.i .i64 (64)))), none, []⟩] [])
    (.cond (.t 9)
      (.seq (.region [⟨(some 10), (.build [(.i .i64 (0)), .ns, .ns] []), none, []⟩,
        ⟨none, (.store 3 (.t 2) (.t 10)), none, []⟩,
        ⟨(some 3), (.mov (.c (.b false))), none, []⟩] [])
      .ret)
      .skip))
    (.seq (.region [⟨(some 12), (.mov (.t 0)), none, []⟩,
      ⟨(some 13), (.call 90 [(.t 12)]), none, []⟩,
      ⟨(some 11), (.mov (.t 13)), none, []⟩,
      ⟨(some 14), (.ext (.t 11) 0), none, []⟩,
      ⟨(some 15), (.ext (.t 11) 1), none, []⟩,
      ⟨(some 16), (.ext (.t 11) 2), none, []⟩,
      ⟨(some 4), (.alloc [(.i .i64 (0)), .ns, .ns]), none, []⟩,
      ⟨none, (.store 3 (.t 4) (.t 14)), none, []⟩,
      ⟨(some 5), (.mov (.t 15)), none, []⟩,
      ⟨(some 6), (.mov (.t 16)), none, []⟩] [])
    (.seq (.region [⟨(some 17), (.load (some 3) (.t 4)), none, []⟩,
      ⟨(some 18), (.mov (.t 6)), none, []⟩,
      ⟨(some 19), (.mov (.t 18)), none, []⟩,
      ⟨(some 20), (.mov (.t 5)), (some (19, true)), []⟩,
      ⟨(some 21), (.bin .eql (.t 20) (.c (.s []))), (some (19, true)), []⟩,
      ⟨(some 22), (.pick (.t 19) (.t 21) (.c (.b false))), none, []⟩,
      ⟨none, (.store 3 (.t 2) (.t 17)), none, []⟩,
      ⟨(some 3), (.mov (.t 22)), none, []⟩] [])
    .ret)))),
    23, 1, [.c 2 (some 3), .t 3], 0⟩
theorem tr89 : trFunc Tryd.prog [([], []), ([], []), ([], []), ([], []), ([], []), ([], [])] 0 Tryd.f89 = some I89 := by kernel_rfl

/-- 'encore/value.read'. -/
def L90a : ICode :=
  (.seq (.seq (.region [⟨(some 49), (.mov (.t 9)), none, []⟩,
      ⟨(some 50), (.mov (.t 0)), none, []⟩,
      ⟨(some 51), (.lenk 1 (.t 50)), none, []⟩,
      ⟨(some 52), (.bin .lss (.t 49) (.t 51)), none, []⟩,
      ⟨(some 53), (.mov (.t 52)), none, []⟩,
      ⟨(some 54), (.mov (.t 0)), (some (53, true)), []⟩,
      ⟨(some 55), (.mov (.t 9)), (some (53, true)), []⟩,
      ⟨(some 56), (.idxS (.t 54) (.t 55)), (some (53, true)), []⟩,
      ⟨(some 57), (.bin .geq (.t 56) (.c (.i .u8 (97)))), (some (53, true)), []⟩,
      ⟨(some 58), (.pick (.t 53) (.t 57) (.c (.b false))), none, []⟩,
      ⟨(some 59), (.mov (.t 58)), none, []⟩,
      ⟨(some 60), (.mov (.t 0)), (some (59, true)), []⟩,
      ⟨(some 61), (.mov (.t 9)), (some (59, true)), []⟩,
      ⟨(some 62), (.idxS (.t 60) (.t 61)), (some (59, true)), []⟩,
      ⟨(some 63), (.bin .leq (.t 62) (.c (.i .u8 (122)))), (some (59, true)), []⟩,
      ⟨(some 64), (.pick (.t 59) (.t 63) (.c (.b false))), none, []⟩] [])
    (.cond (.t 64)
      .skip
      (.exit 1)))
    (.block 2
      (.region [⟨(some 65), (.mov (.t 9)), none, []⟩,
        ⟨(some 66), (.bin .add (.t 65) (.c (.i .i64 (1)))), none, []⟩,
        ⟨(some 9), (.mov (.t 66)), none, []⟩] [])))
def I90 : IFunc :=
  ⟨(.seq (.region [⟨(some 2), (.alloc [(.i .i64 (0)), .ns, .ns]), none, []⟩,
      ⟨(some 3), (.mov (.c (.s []))), none, []⟩,
      ⟨(some 4), (.mov (.c (.b false))), none, []⟩] [])
    (.seq (.block 0
      (.seq (.region [⟨(some 12), (.mov (.t 0)), none, []⟩,
        ⟨(some 13), (.call 91 [(.t 12), (.c (.s [91]))]), none, []⟩,
        ⟨(some 11), (.mov (.t 13)), none, []⟩] [])
      (.cond (.t 11)
        (.seq (.region [⟨(some 15), (.mov (.t 0)), none, []⟩,
          ⟨(some 16), (.slS (.t 15) (some (.c (.i .i64 (1)))) none), none, []⟩,
          ⟨(some 17), (.call 90 [(.t 16)]), none, []⟩,
          ⟨(some 14), (.mov (.t 17)), none, []⟩,
          ⟨(some 18), (.ext (.t 14) 0), none, []⟩,
          ⟨(some 19), (.ext (.t 14) 1), none, []⟩,
          ⟨(some 20), (.ext (.t 14) 2), none, []⟩,
          ⟨(some 5), (.alloc [(.i .i64 (0)), .ns, .ns]), none, []⟩,
          ⟨none, (.store 3 (.t 5) (.t 18)), none, []⟩,
          ⟨(some 6), (.mov (.t 19)), none, []⟩,
          ⟨(some 7), (.mov (.t 20)), none, []⟩] [])
        (.seq (.region [⟨(some 22), (.mov (.t 6)), none, []⟩,
          ⟨(some 23), (.call 92 [(.t 22), (.c (.s [93]))]), none, []⟩,
          ⟨(some 21), (.mov (.t 23)), none, []⟩,
          ⟨(some 24), (.ext (.t 21) 0), none, []⟩,
          ⟨(some 25), (.ext (.t 21) 1), none, []⟩,
          ⟨(some 6), (.mov (.t 24)), none, []⟩,
          ⟨(some 8), (.mov (.t 25)), none, []⟩] [])
        (.seq (.region [⟨(some 26), (.load (some 3) (.t 5)), none, []⟩,
          ⟨(some 27), (.bsl 3 1 [(.i .i64 (0)), .ns, .ns] [(0, 3, (.t 26))]), none, []⟩,
          ⟨(some 28), (.build [(.i .i64 (0)), .ns, .ns] [(0, 1, (.c (.i .i64 (4)))), (2, 1, (.t 27))]), none, []⟩,
          ⟨(some 29), (.mov (.t 6)), none, []⟩,
          ⟨(some 30), (.mov (.t 7)), none, []⟩,
          ⟨(some 31), (.mov (.t 30)), none, []⟩,
          ⟨(some 32), (.mov (.t 8)), (some (31, true)), []⟩,
          ⟨(some 33), (.pick (.t 31) (.t 32) (.c (.b false))), none, []⟩,
          ⟨none, (.store 3 (.t 2) (.t 28)), none, []⟩,
          ⟨(some 3), (.mov (.t 29)), none, []⟩,
          ⟨(some 4), (.mov (.t 33)), none, []⟩] [])
        .ret)))
        (.seq (.region [⟨(some 35), (.mov (.t 0)), none, []⟩,
          ⟨(some 36), (.call 91 [(.t 35), (.c (.s [123, 125]))]), none, []⟩,
          ⟨(some 34), (.mov (.t 36)), none, []⟩] [])
        (.cond (.t 34)
          (.seq (.region [⟨(some 37), (.build [(.i .i64 (0)), .ns, .ns] [(0, 1, (.c (.i .i64 (5))))]), none, []⟩,
            ⟨(some 38), (.mov (.t 0)), none, []⟩,
            ⟨(some 39), (.slS (.t 38) (some (.c (.i .i64 (2)))) none), none, []⟩,
            ⟨none, (.store 3 (.t 2) (.t 37)), none, []⟩,
            ⟨(some 3), (.mov (.t 39)), none, []⟩,
            ⟨(some 4), (.mov (.c (.b true))), none, []⟩] [])
          .ret)
          (.seq (.region [⟨(some 41), (.mov (.t 0)), none, []⟩,
            ⟨(some 42), (.call 91 [(.t 41), (.c (.s [123]))]), none, []⟩,
            ⟨(some 40), (.mov (.t 42)), none, []⟩] [])
          (.cond (.t 40)
            (.seq (.region [⟨(some 43), (.mov (.t 0)), none, []⟩,
              ⟨(some 44), (.slS (.t 43) (some (.c (.i .i64 (1)))) none), none, []⟩,
              ⟨(some 45), (.call 93 [(.t 44)]), none, []⟩,
              ⟨(some 46), (.ext (.t 45) 0), none, []⟩,
              ⟨(some 47), (.ext (.t 45) 1), none, []⟩,
              ⟨(some 48), (.ext (.t 45) 2), none, []⟩,
              ⟨none, (.store 3 (.t 2) (.t 46)), none, []⟩,
              ⟨(some 3), (.mov (.t 47)), none, []⟩,
              ⟨(some 4), (.mov (.t 48)), none, []⟩] [])
            .ret)
            .skip)))))))
    (.seq (.region [⟨(some 9), (.mov (.c (.i .i64 (0)))), none, []⟩] [])
    (.seq (.block 1
      (.loop L90a))
    (.seq (.region [⟨(some 67), (.mov (.t 0)), none, []⟩,
      ⟨(some 68), (.mov (.t 9)), none, []⟩,
      ⟨(some 69), (.slS (.t 67) none (some (.t 68))), none, []⟩,
      ⟨(some 70), (.call 94 [(.t 69)]), none, []⟩,
      ⟨(some 10), (.mov (.t 70)), none, []⟩] [])
    (.seq (.region [⟨(some 71), (.mov (.t 10)), none, []⟩,
      ⟨(some 72), (.build [(.i .i64 (0)), .ns, .ns] [(0, 1, (.t 71))]), none, []⟩,
      ⟨(some 73), (.mov (.t 0)), none, []⟩,
      ⟨(some 74), (.mov (.t 9)), none, []⟩,
      ⟨(some 75), (.slS (.t 73) (some (.t 74)) none), none, []⟩,
      ⟨(some 76), (.mov (.t 10)), none, []⟩,
      ⟨(some 77), (.bin .geq (.t 76) (.c (.i .i64 (0)))), none, []⟩,
      ⟨none, (.store 3 (.t 2) (.t 72)), none, []⟩,
      ⟨(some 3), (.mov (.t 75)), none, []⟩,
      ⟨(some 4), (.mov (.t 77)), none, []⟩] [])
    .ret)))))),
    78, 1, [.c 2 (some 3), .t 3, .t 4], 0⟩
theorem tr90 : trFunc Tryd.prog [([], []), ([], []), ([], []), ([], []), ([], []), ([], []), ([0, 1, 2, 3, 4, 5], []), ([], []), ([], []), ([], []), ([], []), ([], []), ([], []), ([], []), ([], []), ([0, 1, 2, 3, 4, 5, 6, 7, 8, 9], [])] 0 Tryd.f90 = some I90 := by kernel_rfl

/-- 'strings.HasPrefix'. -/
def I91 : IFunc :=
  ⟨(.seq (.region [⟨(some 4), (.mov (.c (.b false))), none, []⟩] [])
    (.seq (.region [⟨(some 5), (.mov (.t 0)), none, []⟩,
      ⟨(some 6), (.mov (.t 1)), none, []⟩,
      ⟨(some 7), (.call 95 [(.t 5), (.t 6)]), none, []⟩,
      ⟨(some 4), (.mov (.t 7)), none, []⟩] [])
    .ret)),
    8, 2, [.t 4], 0⟩
theorem tr91 : trFunc Tryd.prog [([], []), ([], [])] 0 Tryd.f91 = some I91 := by kernel_rfl

/-- 'strings.CutPrefix'. -/
def I92 : IFunc :=
  ⟨(.seq (.region [⟨(some 4), (.mov (.c (.s []))), none, []⟩,
      ⟨(some 5), (.mov (.c (.b false))), none, []⟩] [])
    (.seq (.region [⟨(some 6), (.mov (.t 0)), none, []⟩,
      ⟨(some 7), (.mov (.t 1)), none, []⟩,
      ⟨(some 8), (.call 96 [(.t 6), (.t 7)]), none, []⟩,
      ⟨(some 9), (.ext (.t 8) 0), none, []⟩,
      ⟨(some 10), (.ext (.t 8) 1), none, []⟩,
      ⟨(some 4), (.mov (.t 9)), none, []⟩,
      ⟨(some 5), (.mov (.t 10)), none, []⟩] [])
    .ret)),
    11, 2, [.t 4, .t 5], 0⟩
theorem tr92 : trFunc Tryd.prog [([], []), ([], [])] 0 Tryd.f92 = some I92 := by kernel_rfl

/-- 'encore/value.readRec'. -/
def L93a : ICode :=
  (.block 1
      (.seq (.region [⟨(some 13), (.mov (.t 0)), none, []⟩,
        ⟨(some 14), (.call 97 [(.t 13), (.c (.s [58]))]), none, []⟩,
        ⟨(some 12), (.mov (.t 14)), none, []⟩,
        ⟨(some 15), (.ext (.t 12) 0), none, []⟩,
        ⟨(some 16), (.ext (.t 12) 1), none, []⟩,
        ⟨(some 17), (.ext (.t 12) 2), none, []⟩,
        ⟨(some 5), (.mov (.t 15)), none, []⟩,
        ⟨(some 6), (.mov (.t 16)), none, []⟩,
        ⟨(some 7), (.mov (.t 17)), none, []⟩] [])
      (.seq (.region [⟨(some 19), (.mov (.t 6)), none, []⟩,
        ⟨(some 20), (.call 90 [(.t 19)]), none, []⟩,
        ⟨(some 18), (.mov (.t 20)), none, []⟩,
        ⟨(some 21), (.ext (.t 18) 0), none, []⟩,
        ⟨(some 22), (.ext (.t 18) 1), none, []⟩,
        ⟨(some 23), (.ext (.t 18) 2), none, []⟩,
        ⟨(some 8), (.alloc [(.i .i64 (0)), .ns, .ns]), none, []⟩,
        ⟨none, (.store 3 (.t 8) (.t 21)), none, []⟩,
        ⟨(some 9), (.mov (.t 22)), none, []⟩,
        ⟨(some 10), (.mov (.t 23)), none, []⟩] [])
      (.seq (.seq (.region [⟨(some 24), (.mov (.t 7)), none, []⟩,
        ⟨(some 25), (.un .not (.t 24)), none, []⟩,
        ⟨(some 26), (.mov (.t 25)), none, []⟩,
        ⟨(some 27), (.mov (.t 10)), (some (26, false)), []⟩,
        ⟨(some 28), (.un .not (.t 27)), (some (26, false)), []⟩,
        ⟨(some 29), (.pick (.t 26) (.c (.b true)) (.t 28)), none, []⟩,
        ⟨(some 30), (.mov (.t 29)), none, []⟩,
        ⟨(some 31), (.mov (.t 9)), (some (30, false)), []⟩,
        ⟨(some 32), (.bin .eql (.t 31) (.c (.s []))), (some (30, false)), []⟩,
        ⟨(some 33), (.pick (.t 30) (.c (.b true)) (.t 32)), none, []⟩] [])
      (.cond (.t 33)
        (.seq (.region [⟨(some 34), (.build [(.i .i64 (0)), .ns, .ns] []), none, []⟩,
          ⟨none, (.store 3 (.t 2) (.t 34)), none, []⟩,
          ⟨(some 3), (.mov (.c (.s []))), none, []⟩,
          ⟨(some 4), (.mov (.c (.b false))), none, []⟩] [])
        .ret)
        .skip))
      (.seq (.region [⟨(some 35), (.off (.t 2) 1), none, []⟩,
        ⟨(some 36), (.load none (.t 35)), none, []⟩,
        ⟨(some 37), (.mov (.t 5)), none, []⟩,
        ⟨(some 38), (.bsl 1 1 [(.s [])] [(0, 1, (.t 37))]), none, []⟩,
        ⟨(some 40), (.off (.t 2) 2), none, []⟩,
        ⟨(some 41), (.load none (.t 40)), none, []⟩,
        ⟨(some 42), (.load (some 3) (.t 8)), none, []⟩,
        ⟨(some 43), (.bsl 3 1 [(.i .i64 (0)), .ns, .ns] [(0, 3, (.t 42))]), none, []⟩,
        ⟨(some 39), (.app 1 16 (.t 36) (.t 38)), none, [(41, (.load none (.t 40)), none), (42, (.load (some 3) (.t 8)), none)]⟩,
        ⟨(some 45), (.off (.t 2) 1), none, []⟩,
        ⟨(some 44), (.app 3 56 (.t 41) (.t 43)), none, []⟩,
        ⟨none, (.store 1 (.t 45) (.t 39)), none, []⟩,
        ⟨(some 46), (.off (.t 2) 2), none, []⟩,
        ⟨none, (.store 1 (.t 46) (.t 44)), none, []⟩] [])
      (.seq (.region [⟨(some 47), (.mov (.t 9)), none, []⟩,
        ⟨(some 48), (.slS (.t 47) (some (.c (.i .i64 (1)))) none), none, []⟩,
        ⟨(some 0), (.mov (.t 48)), none, []⟩] [])
      (.seq (.seq (.region [⟨(some 49), (.mov (.t 9)), none, []⟩,
        ⟨(some 50), (.idxS (.t 49) (.c (.i .i64 (0)))), none, []⟩] [])
      (.block 2
        (.seq (.region [⟨(some 52), (.bin .eql (.t 50) (.c (.i .u8 (125)))), none, []⟩,
          ⟨(some 51), (.mov (.t 52)), none, []⟩] [])
        (.cond (.t 51)
          (.seq (.region [⟨(some 53), (.load (some 3) (.t 2)), none, []⟩,
            ⟨(some 54), (.mov (.t 0)), none, []⟩,
            ⟨(some 55), (.off (.t 2) 1), none, []⟩,
            ⟨(some 56), (.load none (.t 55)), none, []⟩,
            ⟨(some 57), (.call 81 [(.t 56)]), none, [(53, (.load (some 3) (.t 2)), none)]⟩,
            ⟨none, (.store 3 (.t 2) (.t 53)), none, []⟩,
            ⟨(some 3), (.mov (.t 54)), none, []⟩,
            ⟨(some 4), (.mov (.t 57)), none, []⟩] [])
          .ret)
          (.seq (.region [⟨(some 59), (.bin .eql (.t 50) (.c (.i .u8 (44)))), none, []⟩,
            ⟨(some 58), (.mov (.t 59)), none, []⟩] [])
          (.cond (.t 58)
            (.exit 1)
            .skip))))))
      (.seq (.region [⟨(some 60), (.build [(.i .i64 (0)), .ns, .ns] []), none, []⟩,
        ⟨none, (.store 3 (.t 2) (.t 60)), none, []⟩,
        ⟨(some 3), (.mov (.c (.s []))), none, []⟩,
        ⟨(some 4), (.mov (.c (.b false))), none, []⟩] [])
      .ret))))))))
def I93 : IFunc :=
  ⟨(.seq (.region [⟨(some 2), (.alloc [(.i .i64 (0)), .ns, .ns]), none, []⟩,
      ⟨(some 3), (.mov (.c (.s []))), none, []⟩,
      ⟨(some 4), (.mov (.c (.b false))), none, []⟩] [])
    (.seq (.region [⟨(some 11), (.off (.t 2) 0), none, []⟩,
      ⟨none, (.store 1 (.t 11) (.c (.i .i64 (5)))), none, []⟩] [])
    (.block 0
      (.loop L93a)))),
    61, 1, [.c 2 (some 3), .t 3, .t 4], 0⟩
theorem tr93 : trFunc Tryd.prog [([], []), ([], []), ([], []), ([], []), ([], []), ([], []), ([], []), ([0, 1, 2, 3, 5, 6, 7, 8, 4, 10, 9, 11, 12, 13], []), ([], []), ([], []), ([], []), ([0, 1, 2, 3, 4, 5, 6, 7], []), ([], []), ([], []), ([], [])] 0 Tryd.f93 = some I93 := by kernel_rfl

/-- 'encore/value.kindOf'. -/
def I94 : IFunc :=
  ⟨(.seq (.region [⟨(some 2), (.mov (.c (.i .i64 (0)))), none, []⟩] [])
    (.seq (.seq (.region [⟨(some 3), (.mov (.t 0)), none, []⟩] [])
    (.block 0
      (.seq (.region [⟨(some 5), (.bin .eql (.t 3) (.c (.s [110, 111, 110, 101]))), none, []⟩,
        ⟨(some 4), (.mov (.t 5)), none, []⟩] [])
      (.cond (.t 4)
        (.seq (.region [⟨(some 2), (.mov (.c (.i .i64 (0)))), none, []⟩] [])
        .ret)
        (.seq (.region [⟨(some 7), (.bin .eql (.t 3) (.c (.s [105, 110, 116]))), none, []⟩,
          ⟨(some 6), (.mov (.t 7)), none, []⟩] [])
        (.cond (.t 6)
          (.seq (.region [⟨(some 2), (.mov (.c (.i .i64 (1)))), none, []⟩] [])
          .ret)
          (.seq (.region [⟨(some 9), (.bin .eql (.t 3) (.c (.s [98, 111, 111, 108]))), none, []⟩,
            ⟨(some 8), (.mov (.t 9)), none, []⟩] [])
          (.cond (.t 8)
            (.seq (.region [⟨(some 2), (.mov (.c (.i .i64 (2)))), none, []⟩] [])
            .ret)
            (.seq (.region [⟨(some 11), (.bin .eql (.t 3) (.c (.s [116, 101, 120, 116]))), none, []⟩,
              ⟨(some 10), (.mov (.t 11)), none, []⟩] [])
            (.cond (.t 10)
              (.seq (.region [⟨(some 2), (.mov (.c (.i .i64 (3)))), none, []⟩] [])
              .ret)
              (.seq (.region [⟨(some 13), (.bin .eql (.t 3) (.c (.s [102, 117, 116, 117, 114, 101]))), none, []⟩,
                ⟨(some 12), (.mov (.t 13)), none, []⟩] [])
              (.cond (.t 12)
                (.seq (.region [⟨(some 2), (.mov (.c (.i .i64 (6)))), none, []⟩] [])
                .ret)
                .skip))))))))))))
    (.seq (.region [⟨(some 2), (.mov (.c (.i .i64 (-1)))), none, []⟩] [])
    .ret))),
    14, 1, [.t 2], 0⟩
theorem tr94 : trFunc Tryd.prog [([], []), ([], []), ([], []), ([], []), ([], []), ([], []), ([], []), ([], []), ([], []), ([], []), ([], []), ([], []), ([], []), ([], [])] 0 Tryd.f94 = some I94 := by kernel_rfl

/-- 'internal/stringslite.HasPrefix'. -/
def I95 : IFunc :=
  ⟨(.seq (.region [⟨(some 4), (.mov (.c (.b false))), none, []⟩] [])
    (.seq (.region [⟨(some 5), (.mov (.t 0)), none, []⟩,
      ⟨(some 6), (.lenk 1 (.t 5)), none, []⟩,
      ⟨(some 7), (.mov (.t 1)), none, []⟩,
      ⟨(some 8), (.lenk 1 (.t 7)), none, []⟩,
      ⟨(some 9), (.bin .geq (.t 6) (.t 8)), none, []⟩,
      ⟨(some 10), (.mov (.t 9)), none, []⟩,
      ⟨(some 11), (.mov (.t 0)), (some (10, true)), []⟩,
      ⟨(some 12), (.mov (.t 1)), (some (10, true)), []⟩,
      ⟨(some 13), (.lenk 1 (.t 12)), (some (10, true)), []⟩,
      ⟨(some 14), (.slS (.t 11) none (some (.t 13))), (some (10, true)), []⟩,
      ⟨(some 15), (.mov (.t 1)), (some (10, true)), []⟩,
      ⟨(some 16), (.bin .eql (.t 14) (.t 15)), (some (10, true)), []⟩,
      ⟨(some 17), (.pick (.t 10) (.t 16) (.c (.b false))), none, []⟩,
      ⟨(some 4), (.mov (.t 17)), none, []⟩] [])
    .ret)),
    18, 2, [.t 4], 0⟩
theorem tr95 : trFunc Tryd.prog [([], []), ([], [])] 0 Tryd.f95 = some I95 := by kernel_rfl

/-- 'internal/stringslite.CutPrefix'. -/
def I96 : IFunc :=
  ⟨(.seq (.region [⟨(some 4), (.mov (.c (.s []))), none, []⟩,
      ⟨(some 5), (.mov (.c (.b false))), none, []⟩] [])
    (.seq (.seq (.region [⟨(some 6), (.mov (.t 0)), none, []⟩,
      ⟨(some 7), (.mov (.t 1)), none, []⟩,
      ⟨(some 8), (.call 95 [(.t 6), (.t 7)]), none, []⟩,
      ⟨(some 9), (.un .not (.t 8)), none, []⟩] [])
    (.cond (.t 9)
      (.seq (.region [⟨(some 10), (.mov (.t 0)), none, []⟩,
        ⟨(some 4), (.mov (.t 10)), none, []⟩,
        ⟨(some 5), (.mov (.c (.b false))), none, []⟩] [])
      .ret)
      .skip))
    (.seq (.region [⟨(some 11), (.mov (.t 0)), none, []⟩,
      ⟨(some 12), (.mov (.t 1)), none, []⟩,
      ⟨(some 13), (.lenk 1 (.t 12)), none, []⟩,
      ⟨(some 14), (.slS (.t 11) (some (.t 13)) none), none, []⟩,
      ⟨(some 4), (.mov (.t 14)), none, []⟩,
      ⟨(some 5), (.mov (.c (.b true))), none, []⟩] [])
    .ret))),
    15, 2, [.t 4, .t 5], 0⟩
theorem tr96 : trFunc Tryd.prog [([], []), ([], []), ([], []), ([], []), ([], [])] 0 Tryd.f96 = some I96 := by kernel_rfl

/-- 'strings.Cut'. -/
def I97 : IFunc :=
  ⟨(.seq (.region [⟨(some 4), (.mov (.c (.s []))), none, []⟩,
      ⟨(some 5), (.mov (.c (.s []))), none, []⟩,
      ⟨(some 6), (.mov (.c (.b false))), none, []⟩] [])
    (.seq (.region [⟨(some 7), (.mov (.t 0)), none, []⟩,
      ⟨(some 8), (.mov (.t 1)), none, []⟩,
      ⟨(some 9), (.call 98 [(.t 7), (.t 8)]), none, []⟩,
      ⟨(some 10), (.ext (.t 9) 0), none, []⟩,
      ⟨(some 11), (.ext (.t 9) 1), none, []⟩,
      ⟨(some 12), (.ext (.t 9) 2), none, []⟩,
      ⟨(some 4), (.mov (.t 10)), none, []⟩,
      ⟨(some 5), (.mov (.t 11)), none, []⟩,
      ⟨(some 6), (.mov (.t 12)), none, []⟩] [])
    .ret)),
    13, 2, [.t 4, .t 5, .t 6], 0⟩
theorem tr97 : trFunc Tryd.prog [([], []), ([], [])] 0 Tryd.f97 = some I97 := by kernel_rfl

/-- 'internal/stringslite.Cut'. -/
def I98 : IFunc :=
  ⟨(.seq (.region [⟨(some 4), (.mov (.c (.s []))), none, []⟩,
      ⟨(some 5), (.mov (.c (.s []))), none, []⟩,
      ⟨(some 6), (.mov (.c (.b false))), none, []⟩] [])
    (.seq (.seq (.region [⟨(some 8), (.mov (.t 0)), none, []⟩,
      ⟨(some 9), (.mov (.t 1)), none, []⟩,
      ⟨(some 10), (.call 99 [(.t 8), (.t 9)]), none, []⟩,
      ⟨(some 7), (.mov (.t 10)), none, []⟩] [])
    (.seq (.region [⟨(some 11), (.mov (.t 7)), none, []⟩,
      ⟨(some 12), (.bin .geq (.t 11) (.c (.i .i64 (0)))), none, []⟩] [])
    (.cond (.t 12)
      (.seq (.region [⟨(some 13), (.mov (.t 0)), none, []⟩,
        ⟨(some 14), (.mov (.t 7)), none, []⟩,
        ⟨(some 15), (.slS (.t 13) none (some (.t 14))), none, []⟩,
        ⟨(some 16), (.mov (.t 0)), none, []⟩,
        ⟨(some 17), (.mov (.t 7)), none, []⟩,
        ⟨(some 18), (.mov (.t 1)), none, []⟩,
        ⟨(some 19), (.lenk 1 (.t 18)), none, []⟩,
        ⟨(some 20), (.bin .add (.t 17) (.t 19)), none, []⟩,
        ⟨(some 21), (.slS (.t 16) (some (.t 20)) none), none, []⟩,
        ⟨(some 4), (.mov (.t 15)), none, []⟩,
        ⟨(some 5), (.mov (.t 21)), none, []⟩,
        ⟨(some 6), (.mov (.c (.b true))), none, []⟩] [])
      .ret)
      .skip)))
    (.seq (.region [⟨(some 22), (.mov (.t 0)), none, []⟩,
      ⟨(some 4), (.mov (.t 22)), none, []⟩,
      ⟨(some 5), (.mov (.c (.s []))), none, []⟩,
      ⟨(some 6), (.mov (.c (.b false))), none, []⟩] [])
    .ret))),
    23, 2, [.t 4, .t 5, .t 6], 0⟩
theorem tr98 : trFunc Tryd.prog [([], []), ([], []), ([], []), ([0, 1, 2, 3, 4, 5, 6, 7, 8, 9, 10, 11], []), ([], []), ([], [])] 0 Tryd.f98 = some I98 := by kernel_rfl

/-- 'internal/stringslite.Index'. -/
def L99a : ICode :=
  (.seq (.seq (.region [⟨(some 57), (.mov (.t 8)), none, []⟩,
      ⟨(some 58), (.mov (.t 9)), none, []⟩,
      ⟨(some 59), (.bin .lss (.t 57) (.t 58)), none, []⟩] [])
    (.cond (.t 59)
      .skip
      (.exit 1)))
    (.block 2
      (.seq (.seq (.region [⟨(some 60), (.mov (.t 0)), none, []⟩,
        ⟨(some 61), (.mov (.t 8)), none, []⟩,
        ⟨(some 62), (.idxS (.t 60) (.t 61)), none, []⟩,
        ⟨(some 63), (.mov (.t 6)), none, []⟩,
        ⟨(some 64), (.bin .neq (.t 62) (.t 63)), none, []⟩] [])
      (.cond (.t 64)
        (.seq (.region [⟨(some 65), (.mov (.t 0)), none, []⟩,
          ⟨(some 66), (.mov (.t 8)), none, []⟩,
          ⟨(some 67), (.bin .add (.t 66) (.c (.i .i64 (1)))), none, []⟩,
          ⟨(some 68), (.mov (.t 9)), none, []⟩,
          ⟨(some 69), (.slS (.t 65) (some (.t 67)) (some (.t 68))), none, []⟩,
          ⟨(some 70), (.mov (.t 6)), none, []⟩,
          ⟨(some 71), (.call 100 [(.t 69), (.t 70)]), none, []⟩,
          ⟨(some 11), (.mov (.t 71)), none, []⟩] [])
        (.seq (.seq (.region [⟨(some 72), (.mov (.t 11)), none, []⟩,
          ⟨(some 73), (.bin .lss (.t 72) (.c (.i .i64 (0)))), none, []⟩] [])
        (.cond (.t 73)
          (.seq (.region [⟨(some 4), (.mov (.c (.i .i64 (-1)))), none, []⟩] [])
          .ret)
          .skip))
        (.region [⟨(some 74), (.mov (.t 8)), none, []⟩,
          ⟨(some 75), (.mov (.t 11)), none, []⟩,
          ⟨(some 76), (.bin .add (.t 75) (.c (.i .i64 (1)))), none, []⟩,
          ⟨(some 77), (.bin .add (.t 74) (.t 76)), none, []⟩,
          ⟨(some 8), (.mov (.t 77)), none, []⟩] [])))
        .skip))
      (.seq (.seq (.region [⟨(some 78), (.mov (.t 0)), none, []⟩,
        ⟨(some 79), (.mov (.t 8)), none, []⟩,
        ⟨(some 80), (.bin .add (.t 79) (.c (.i .i64 (1)))), none, []⟩,
        ⟨(some 81), (.idxS (.t 78) (.t 80)), none, []⟩,
        ⟨(some 82), (.mov (.t 7)), none, []⟩,
        ⟨(some 83), (.bin .eql (.t 81) (.t 82)), none, []⟩,
        ⟨(some 84), (.mov (.t 83)), none, []⟩,
        ⟨(some 85), (.mov (.t 0)), (some (84, true)), []⟩,
        ⟨(some 86), (.mov (.t 8)), (some (84, true)), []⟩,
        ⟨(some 87), (.mov (.t 8)), (some (84, true)), []⟩,
        ⟨(some 88), (.mov (.t 5)), (some (84, true)), []⟩,
        ⟨(some 89), (.bin .add (.t 87) (.t 88)), (some (84, true)), []⟩,
        ⟨(some 90), (.slS (.t 85) (some (.t 86)) (some (.t 89))), (some (84, true)), []⟩,
        ⟨(some 91), (.mov (.t 1)), (some (84, true)), []⟩,
        ⟨(some 92), (.bin .eql (.t 90) (.t 91)), (some (84, true)), []⟩,
        ⟨(some 93), (.pick (.t 84) (.t 92) (.c (.b false))), none, []⟩] [])
      (.cond (.t 93)
        (.seq (.region [⟨(some 94), (.mov (.t 8)), none, []⟩,
          ⟨(some 4), (.mov (.t 94)), none, []⟩] [])
        .ret)
        .skip))
      (.seq (.region [⟨(some 95), (.mov (.t 8)), none, []⟩,
        ⟨(some 96), (.bin .add (.t 95) (.c (.i .i64 (1)))), none, []⟩,
        ⟨(some 8), (.mov (.t 96)), none, []⟩] [])
      (.seq (.region [⟨(some 97), (.mov (.t 10)), none, []⟩,
        ⟨(some 98), (.bin .add (.t 97) (.c (.i .i64 (1)))), none, []⟩,
        ⟨(some 10), (.mov (.t 98)), none, []⟩] [])
      (.seq (.region [⟨(some 99), (.mov (.t 5)), none, []⟩,
        ⟨(some 100), (.load none (.g 1)), none, []⟩,
        ⟨(some 101), (.bin .leq (.t 99) (.t 100)), none, []⟩,
        ⟨(some 102), (.mov (.t 101)), none, []⟩,
        ⟨(some 103), (.mov (.t 10)), (some (102, true)), []⟩,
        ⟨(some 104), (.mov (.t 8)), (some (102, true)), []⟩,
        ⟨(some 105), (.call 102 [(.t 104)]), (some (102, true)), []⟩,
        ⟨(some 106), (.bin .gtr (.t 103) (.t 105)), (some (102, true)), []⟩,
        ⟨(some 107), (.pick (.t 102) (.t 106) (.c (.b false))), none, []⟩] [])
      (.cond (.t 107)
        (.seq (.region [⟨(some 108), (.mov (.t 0)), none, []⟩,
          ⟨(some 109), (.mov (.t 8)), none, []⟩,
          ⟨(some 110), (.slS (.t 108) (some (.t 109)) none), none, []⟩,
          ⟨(some 111), (.mov (.t 1)), none, []⟩,
          ⟨(some 112), (.call 101 [(.t 110), (.t 111)]), none, []⟩,
          ⟨(some 12), (.mov (.t 112)), none, []⟩] [])
        (.seq (.seq (.region [⟨(some 113), (.mov (.t 12)), none, []⟩,
          ⟨(some 114), (.bin .geq (.t 113) (.c (.i .i64 (0)))), none, []⟩] [])
        (.cond (.t 114)
          (.seq (.region [⟨(some 115), (.mov (.t 12)), none, []⟩,
            ⟨(some 116), (.mov (.t 8)), none, []⟩,
            ⟨(some 117), (.bin .add (.t 115) (.t 116)), none, []⟩,
            ⟨(some 4), (.mov (.t 117)), none, []⟩] [])
          .ret)
          .skip))
        (.seq (.region [⟨(some 4), (.mov (.c (.i .i64 (-1)))), none, []⟩] [])
        .ret)))
        (.seq (.region [⟨(some 118), (.mov (.t 5)), none, []⟩,
          ⟨(some 119), (.load none (.g 1)), none, []⟩,
          ⟨(some 120), (.bin .gtr (.t 118) (.t 119)), none, []⟩,
          ⟨(some 121), (.mov (.t 120)), none, []⟩,
          ⟨(some 122), (.mov (.t 10)), (some (121, true)), []⟩,
          ⟨(some 123), (.mov (.t 8)), (some (121, true)), []⟩,
          ⟨(some 124), (.bin .shr (.t 123) (.c (.i .u64 (4)))), (some (121, true)), []⟩,
          ⟨(some 125), (.bin .add (.c (.i .i64 (4))) (.t 124)), (some (121, true)), []⟩,
          ⟨(some 126), (.bin .geq (.t 122) (.t 125)), (some (121, true)), []⟩,
          ⟨(some 127), (.pick (.t 121) (.t 126) (.c (.b false))), none, []⟩,
          ⟨(some 128), (.mov (.t 127)), none, []⟩,
          ⟨(some 129), (.mov (.t 8)), (some (128, true)), []⟩,
          ⟨(some 130), (.mov (.t 9)), (some (128, true)), []⟩,
          ⟨(some 131), (.bin .lss (.t 129) (.t 130)), (some (128, true)), []⟩,
          ⟨(some 132), (.pick (.t 128) (.t 131) (.c (.b false))), none, []⟩] [])
        (.cond (.t 132)
          (.seq (.region [⟨(some 133), (.mov (.t 0)), none, []⟩,
            ⟨(some 134), (.mov (.t 8)), none, []⟩,
            ⟨(some 135), (.slS (.t 133) (some (.t 134)) none), none, []⟩,
            ⟨(some 136), (.mov (.t 1)), none, []⟩,
            ⟨(some 137), (.call 103 [(.t 135), (.t 136)]), none, []⟩,
            ⟨(some 13), (.mov (.t 137)), none, []⟩] [])
          (.seq (.seq (.region [⟨(some 138), (.mov (.t 13)), none, []⟩,
            ⟨(some 139), (.bin .lss (.t 138) (.c (.i .i64 (0)))), none, []⟩] [])
          (.cond (.t 139)
            (.seq (.region [⟨(some 4), (.mov (.c (.i .i64 (-1)))), none, []⟩] [])
            .ret)
            .skip))
          (.seq (.region [⟨(some 140), (.mov (.t 8)), none, []⟩,
            ⟨(some 141), (.mov (.t 13)), none, []⟩,
            ⟨(some 142), (.bin .add (.t 140) (.t 141)), none, []⟩,
            ⟨(some 4), (.mov (.t 142)), none, []⟩] [])
          .ret)))
          .skip))))))))))
def I99 : IFunc :=
  ⟨(.seq (.region [⟨(some 4), (.mov (.c (.i .i64 (0)))), none, []⟩] [])
    (.seq (.region [⟨(some 14), (.mov (.t 1)), none, []⟩,
      ⟨(some 15), (.lenk 1 (.t 14)), none, []⟩,
      ⟨(some 5), (.mov (.t 15)), none, []⟩] [])
    (.seq (.block 0
      (.seq (.region [⟨(some 17), (.mov (.t 5)), none, []⟩,
        ⟨(some 18), (.bin .eql (.t 17) (.c (.i .i64 (0)))), none, []⟩,
        ⟨(some 19), (.mov (.t 18)), none, []⟩,
        ⟨(some 20), (.mov (.t 1)), (some (19, false)), []⟩,
        ⟨(some 21), (.mov (.t 0)), (some (19, false)), []⟩,
        ⟨(some 22), (.bin .eql (.t 20) (.t 21)), (some (19, false)), []⟩,
        ⟨(some 23), (.pick (.t 19) (.c (.b true)) (.t 22)), none, []⟩,
        ⟨(some 16), (.mov (.t 23)), none, []⟩] [])
      (.cond (.t 16)
        (.seq (.region [⟨(some 4), (.mov (.c (.i .i64 (0)))), none, []⟩] [])
        .ret)
        (.seq (.region [⟨(some 25), (.mov (.t 5)), none, []⟩,
          ⟨(some 26), (.bin .eql (.t 25) (.c (.i .i64 (1)))), none, []⟩,
          ⟨(some 24), (.mov (.t 26)), none, []⟩] [])
        (.cond (.t 24)
          (.seq (.region [⟨(some 27), (.mov (.t 0)), none, []⟩,
            ⟨(some 28), (.mov (.t 1)), none, []⟩,
            ⟨(some 29), (.idxS (.t 28) (.c (.i .i64 (0)))), none, []⟩,
            ⟨(some 30), (.call 100 [(.t 27), (.t 29)]), none, []⟩,
            ⟨(some 4), (.mov (.t 30)), none, []⟩] [])
          .ret)
          (.seq (.region [⟨(some 32), (.mov (.t 5)), none, []⟩,
            ⟨(some 33), (.mov (.t 0)), none, []⟩,
            ⟨(some 34), (.lenk 1 (.t 33)), none, []⟩,
            ⟨(some 35), (.bin .geq (.t 32) (.t 34)), none, []⟩,
            ⟨(some 31), (.mov (.t 35)), none, []⟩] [])
          (.cond (.t 31)
            (.seq (.region [⟨(some 4), (.mov (.c (.i .i64 (-1)))), none, []⟩] [])
            .ret)
            (.seq (.region [⟨(some 37), (.mov (.t 5)), none, []⟩,
              ⟨(some 38), (.load none (.g 1)), none, []⟩,
              ⟨(some 39), (.bin .leq (.t 37) (.t 38)), none, []⟩,
              ⟨(some 40), (.mov (.t 39)), none, []⟩,
              ⟨(some 41), (.mov (.t 0)), (some (40, true)), []⟩,
              ⟨(some 42), (.lenk 1 (.t 41)), (some (40, true)), []⟩,
              ⟨(some 43), (.bin .leq (.t 42) (.c (.i .i64 (64)))), (some (40, true)), []⟩,
              ⟨(some 44), (.pick (.t 40) (.t 43) (.c (.b false))), none, []⟩,
              ⟨(some 36), (.mov (.t 44)), none, []⟩] [])
            (.cond (.t 36)
              (.seq (.region [⟨(some 45), (.mov (.t 0)), none, []⟩,
                ⟨(some 46), (.mov (.t 1)), none, []⟩,
                ⟨(some 47), (.call 101 [(.t 45), (.t 46)]), none, []⟩,
                ⟨(some 4), (.mov (.t 47)), none, []⟩] [])
              .ret)
              .skip)))))))))
    (.seq (.region [⟨(some 48), (.mov (.t 1)), none, []⟩,
      ⟨(some 49), (.idxS (.t 48) (.c (.i .i64 (0)))), none, []⟩,
      ⟨(some 6), (.mov (.t 49)), none, []⟩] [])
    (.seq (.region [⟨(some 50), (.mov (.t 1)), none, []⟩,
      ⟨(some 51), (.idxS (.t 50) (.c (.i .i64 (1)))), none, []⟩,
      ⟨(some 7), (.mov (.t 51)), none, []⟩] [])
    (.seq (.region [⟨(some 8), (.mov (.c (.i .i64 (0)))), none, []⟩] [])
    (.seq (.region [⟨(some 52), (.mov (.t 0)), none, []⟩,
      ⟨(some 53), (.lenk 1 (.t 52)), none, []⟩,
      ⟨(some 54), (.mov (.t 5)), none, []⟩,
      ⟨(some 55), (.bin .sub (.t 53) (.t 54)), none, []⟩,
      ⟨(some 56), (.bin .add (.t 55) (.c (.i .i64 (1)))), none, []⟩,
      ⟨(some 9), (.mov (.t 56)), none, []⟩] [])
    (.seq (.region [⟨(some 10), (.mov (.c (.i .i64 (0)))), none, []⟩] [])
    (.seq (.block 1
      (.loop L99a))
    (.seq (.region [⟨(some 4), (.mov (.c (.i .i64 (-1)))), none, []⟩] [])
    .ret)))))))))),
    143, 2, [.t 4], 0⟩
theorem tr99 : trFunc Tryd.prog [([], []), ([], []), ([], []), ([], []), ([], []), ([], []), ([], []), ([], []), ([], []), ([], []), ([], []), ([], []), ([], []), ([], []), ([], []), ([], []), ([], []), ([], []), ([], []), ([], []), ([], []), ([], []), ([], []), ([], []), ([], []), ([], []), ([], []), ([], []), ([], []), ([], []), ([], []), ([], []), ([], []), ([], []), ([], []), ([], []), ([], []), ([], []), ([], []), ([], []), ([], []), ([], []), ([], []), ([], [])] 0 Tryd.f99 = some I99 := by kernel_rfl

/-- 'internal/stringslite.IndexByte'. -/
def I100 : IFunc :=
  ⟨(.seq (.region [⟨(some 4), (.mov (.c (.i .i64 (0)))), none, []⟩] [])
    (.seq (.region [⟨(some 5), (.mov (.t 0)), none, []⟩,
      ⟨(some 6), (.mov (.t 1)), none, []⟩,
      ⟨(some 7), (.call 104 [(.t 5), (.t 6)]), none, []⟩,
      ⟨(some 4), (.mov (.t 7)), none, []⟩] [])
    .ret)),
    8, 2, [.t 4], 0⟩
theorem tr100 : trFunc Tryd.prog [([], []), ([], [])] 0 Tryd.f100 = some I100 := by kernel_rfl

/-- 'internal/bytealg.Cutover'. -/
def I102 : IFunc :=
  ⟨(.seq (.region [⟨(some 2), (.mov (.c (.i .i64 (0)))), none, []⟩] [])
    (.seq (.region [⟨(some 3), (.mov (.t 0)), none, []⟩,
      ⟨(some 4), (.bin .add (.t 3) (.c (.i .i64 (16)))), none, []⟩,
      ⟨(some 5), (.bin .quo (.t 4) (.c (.i .i64 (8)))), none, []⟩,
      ⟨(some 2), (.mov (.t 5)), none, []⟩] [])
    .ret)),
    6, 1, [.t 2], 0⟩
theorem tr102 : trFunc Tryd.prog [([], []), ([], [])] 0 Tryd.f102 = some I102 := by kernel_rfl

/-- 'internal/bytealg.IndexRabinKarp[string]'. -/
def L103a : ICode :=
  (.seq (.seq (.region [⟨(some 18), (.mov (.t 9)), none, []⟩,
      ⟨(some 19), (.mov (.t 7)), none, []⟩,
      ⟨(some 20), (.bin .lss (.t 18) (.t 19)), none, []⟩] [])
    (.cond (.t 20)
      .skip
      (.exit 0)))
    (.seq (.block 1
      (.region [⟨(some 23), (.mov (.t 8)), none, []⟩,
        ⟨(some 24), (.bin .mul (.t 23) (.c (.i .u32 (16777619)))), none, []⟩,
        ⟨(some 25), (.mov (.t 0)), none, []⟩,
        ⟨(some 26), (.mov (.t 9)), none, []⟩,
        ⟨(some 27), (.idxS (.t 25) (.t 26)), none, []⟩,
        ⟨(some 28), (.conv .u32 (.t 27)), none, []⟩,
        ⟨(some 29), (.bin .add (.t 24) (.t 28)), none, []⟩,
        ⟨(some 8), (.mov (.t 29)), none, []⟩] []))
    (.region [⟨(some 21), (.mov (.t 9)), none, []⟩,
      ⟨(some 22), (.bin .add (.t 21) (.c (.i .i64 (1)))), none, []⟩,
      ⟨(some 9), (.mov (.t 22)), none, []⟩] [])))
def L103b : ICode :=
  (.seq (.seq (.region [⟨(some 41), (.mov (.t 10)), none, []⟩,
      ⟨(some 42), (.mov (.t 0)), none, []⟩,
      ⟨(some 43), (.lenk 1 (.t 42)), none, []⟩,
      ⟨(some 44), (.bin .lss (.t 41) (.t 43)), none, []⟩] [])
    (.cond (.t 44)
      .skip
      (.exit 2)))
    (.block 3
      (.seq (.region [⟨(some 45), (.mov (.t 8)), none, []⟩,
        ⟨(some 46), (.bin .mul (.t 45) (.c (.i .u32 (16777619)))), none, []⟩,
        ⟨(some 8), (.mov (.t 46)), none, []⟩] [])
      (.seq (.region [⟨(some 47), (.mov (.t 8)), none, []⟩,
        ⟨(some 48), (.mov (.t 0)), none, []⟩,
        ⟨(some 49), (.mov (.t 10)), none, []⟩,
        ⟨(some 50), (.idxS (.t 48) (.t 49)), none, []⟩,
        ⟨(some 51), (.conv .u32 (.t 50)), none, []⟩,
        ⟨(some 52), (.bin .add (.t 47) (.t 51)), none, []⟩,
        ⟨(some 8), (.mov (.t 52)), none, []⟩] [])
      (.seq (.region [⟨(some 53), (.mov (.t 8)), none, []⟩,
        ⟨(some 54), (.mov (.t 6)), none, []⟩,
        ⟨(some 55), (.mov (.t 0)), none, []⟩,
        ⟨(some 56), (.mov (.t 10)), none, []⟩,
        ⟨(some 57), (.mov (.t 7)), none, []⟩,
        ⟨(some 58), (.bin .sub (.t 56) (.t 57)), none, []⟩,
        ⟨(some 59), (.idxS (.t 55) (.t 58)), none, []⟩,
        ⟨(some 60), (.conv .u32 (.t 59)), none, []⟩,
        ⟨(some 61), (.bin .mul (.t 54) (.t 60)), none, []⟩,
        ⟨(some 62), (.bin .sub (.t 53) (.t 61)), none, []⟩,
        ⟨(some 8), (.mov (.t 62)), none, []⟩] [])
      (.seq (.region [⟨(some 63), (.mov (.t 10)), none, []⟩,
        ⟨(some 64), (.bin .add (.t 63) (.c (.i .i64 (1)))), none, []⟩,
        ⟨(some 10), (.mov (.t 64)), none, []⟩] [])
      (.seq (.region [⟨(some 65), (.mov (.t 8)), none, []⟩,
        ⟨(some 66), (.mov (.t 5)), none, []⟩,
        ⟨(some 67), (.bin .eql (.t 65) (.t 66)), none, []⟩,
        ⟨(some 68), (.mov (.t 67)), none, []⟩,
        ⟨(some 69), (.mov (.t 0)), (some (68, true)), []⟩,
        ⟨(some 70), (.mov (.t 10)), (some (68, true)), []⟩,
        ⟨(some 71), (.mov (.t 7)), (some (68, true)), []⟩,
        ⟨(some 72), (.bin .sub (.t 70) (.t 71)), (some (68, true)), []⟩,
        ⟨(some 73), (.mov (.t 10)), (some (68, true)), []⟩,
        ⟨(some 74), (.slS (.t 69) (some (.t 72)) (some (.t 73))), (some (68, true)), []⟩,
        ⟨(some 75), (.mov (.t 1)), (some (68, true)), []⟩,
        ⟨(some 76), (.bin .eql (.t 74) (.t 75)), (some (68, true)), []⟩,
        ⟨(some 77), (.pick (.t 68) (.t 76) (.c (.b false))), none, []⟩] [])
      (.cond (.t 77)
        (.seq (.region [⟨(some 78), (.mov (.t 10)), none, []⟩,
          ⟨(some 79), (.mov (.t 7)), none, []⟩,
          ⟨(some 80), (.bin .sub (.t 78) (.t 79)), none, []⟩,
          ⟨(some 4), (.mov (.t 80)), none, []⟩] [])
        .ret)
        .skip))))))))
def I103 : IFunc :=
  ⟨(.seq (.region [⟨(some 4), (.mov (.c (.i .i64 (0)))), none, []⟩] [])
    (.seq (.region [⟨(some 12), (.mov (.t 1)), none, []⟩,
      ⟨(some 13), (.call 105 [(.t 12)]), none, []⟩,
      ⟨(some 11), (.mov (.t 13)), none, []⟩,
      ⟨(some 14), (.ext (.t 11) 0), none, []⟩,
      ⟨(some 15), (.ext (.t 11) 1), none, []⟩,
      ⟨(some 5), (.mov (.t 14)), none, []⟩,
      ⟨(some 6), (.mov (.t 15)), none, []⟩] [])
    (.seq (.region [⟨(some 16), (.mov (.t 1)), none, []⟩,
      ⟨(some 17), (.lenk 1 (.t 16)), none, []⟩,
      ⟨(some 7), (.mov (.t 17)), none, []⟩] [])
    (.seq (.region [⟨(some 8), (.mov (.c (.i .u32 (0)))), none, []⟩] [])
    (.seq (.seq (.region [⟨(some 9), (.mov (.c (.i .i64 (0)))), none, []⟩] [])
    (.block 0
      (.loop L103a)))
    (.seq (.seq (.region [⟨(some 30), (.mov (.t 8)), none, []⟩,
      ⟨(some 31), (.mov (.t 5)), none, []⟩,
      ⟨(some 32), (.bin .eql (.t 30) (.t 31)), none, []⟩,
      ⟨(some 33), (.mov (.t 32)), none, []⟩,
      ⟨(some 34), (.mov (.t 0)), (some (33, true)), []⟩,
      ⟨(some 35), (.mov (.t 7)), (some (33, true)), []⟩,
      ⟨(some 36), (.slS (.t 34) none (some (.t 35))), (some (33, true)), []⟩,
      ⟨(some 37), (.mov (.t 1)), (some (33, true)), []⟩,
      ⟨(some 38), (.bin .eql (.t 36) (.t 37)), (some (33, true)), []⟩,
      ⟨(some 39), (.pick (.t 33) (.t 38) (.c (.b false))), none, []⟩] [])
    (.cond (.t 39)
      (.seq (.region [⟨(some 4), (.mov (.c (.i .i64 (0)))), none, []⟩] [])
      .ret)
      .skip))
    (.seq (.seq (.region [⟨(some 40), (.mov (.t 7)), none, []⟩,
      ⟨(some 10), (.mov (.t 40)), none, []⟩] [])
    (.block 2
      (.loop L103b)))
    (.seq (.region [⟨(some 4), (.mov (.c (.i .i64 (-1)))), none, []⟩] [])
    .ret)))))))),
    81, 2, [.t 4], 0⟩
theorem tr103 : trFunc Tryd.prog [([], []), ([], []), ([], []), ([], []), ([], []), ([], []), ([], []), ([], []), ([], []), ([], []), ([], []), ([], []), ([], []), ([], []), ([], []), ([], []), ([], []), ([], []), ([], []), ([], []), ([], []), ([], []), ([], [])] 0 Tryd.f103 = some I103 := by kernel_rfl

/-- 'internal/bytealg.hashStr[string]'. -/
def L105a : ICode :=
  (.seq (.seq (.region [⟨(some 9), (.mov (.t 5)), none, []⟩,
      ⟨(some 10), (.mov (.t 0)), none, []⟩,
      ⟨(some 11), (.lenk 1 (.t 10)), none, []⟩,
      ⟨(some 12), (.bin .lss (.t 9) (.t 11)), none, []⟩] [])
    (.cond (.t 12)
      .skip
      (.exit 0)))
    (.seq (.block 1
      (.region [⟨(some 15), (.mov (.t 4)), none, []⟩,
        ⟨(some 16), (.bin .mul (.t 15) (.c (.i .u32 (16777619)))), none, []⟩,
        ⟨(some 17), (.mov (.t 0)), none, []⟩,
        ⟨(some 18), (.mov (.t 5)), none, []⟩,
        ⟨(some 19), (.idxS (.t 17) (.t 18)), none, []⟩,
        ⟨(some 20), (.conv .u32 (.t 19)), none, []⟩,
        ⟨(some 21), (.bin .add (.t 16) (.t 20)), none, []⟩,
        ⟨(some 4), (.mov (.t 21)), none, []⟩] []))
    (.region [⟨(some 13), (.mov (.t 5)), none, []⟩,
      ⟨(some 14), (.bin .add (.t 13) (.c (.i .i64 (1)))), none, []⟩,
      ⟨(some 5), (.mov (.t 14)), none, []⟩] [])))
def L105b : ICode :=
  (.seq (.seq (.region [⟨(some 24), (.mov (.t 8)), none, []⟩,
      ⟨(some 25), (.bin .gtr (.t 24) (.c (.i .i64 (0)))), none, []⟩] [])
    (.cond (.t 25)
      .skip
      (.exit 2)))
    (.seq (.block 3
      (.seq (.seq (.region [⟨(some 28), (.mov (.t 8)), none, []⟩,
        ⟨(some 29), (.bin .and (.t 28) (.c (.i .i64 (1)))), none, []⟩,
        ⟨(some 30), (.bin .neq (.t 29) (.c (.i .i64 (0)))), none, []⟩] [])
      (.cond (.t 30)
        (.region [⟨(some 31), (.mov (.t 6)), none, []⟩,
          ⟨(some 32), (.mov (.t 7)), none, []⟩,
          ⟨(some 33), (.bin .mul (.t 31) (.t 32)), none, []⟩,
          ⟨(some 6), (.mov (.t 33)), none, []⟩] [])
        .skip))
      (.region [⟨(some 34), (.mov (.t 7)), none, []⟩,
        ⟨(some 35), (.mov (.t 7)), none, []⟩,
        ⟨(some 36), (.bin .mul (.t 34) (.t 35)), none, []⟩,
        ⟨(some 7), (.mov (.t 36)), none, []⟩] [])))
    (.region [⟨(some 26), (.mov (.t 8)), none, []⟩,
      ⟨(some 27), (.bin .shr (.t 26) (.c (.i .u64 (1)))), none, []⟩,
      ⟨(some 8), (.mov (.t 27)), none, []⟩] [])))
def I105 : IFunc :=
  ⟨(.seq (.region [⟨(some 2), (.mov (.c (.i .u32 (0)))), none, []⟩,
      ⟨(some 3), (.mov (.c (.i .u32 (0)))), none, []⟩] [])
    (.seq (.region [⟨(some 4), (.mov (.c (.i .u32 (0)))), none, []⟩] [])
    (.seq (.seq (.region [⟨(some 5), (.mov (.c (.i .i64 (0)))), none, []⟩] [])
    (.block 0
      (.loop L105a)))
    (.seq (.region [⟨(some 6), (.mov (.c (.i .u32 (1)))), none, []⟩,
      ⟨(some 7), (.mov (.c (.i .u32 (16777619)))), none, []⟩] [])
    (.seq (.seq (.region [⟨(some 22), (.mov (.t 0)), none, []⟩,
      ⟨(some 23), (.lenk 1 (.t 22)), none, []⟩,
      ⟨(some 8), (.mov (.t 23)), none, []⟩] [])
    (.block 2
      (.loop L105b)))
    (.seq (.region [⟨(some 37), (.mov (.t 4)), none, []⟩,
      ⟨(some 38), (.mov (.t 6)), none, []⟩,
      ⟨(some 2), (.mov (.t 37)), none, []⟩,
      ⟨(some 3), (.mov (.t 38)), none, []⟩] [])
    .ret)))))),
    39, 1, [.t 2, .t 3], 0⟩
theorem tr105 : trFunc Tryd.prog [([], []), ([], []), ([], []), ([], []), ([], []), ([], []), ([], []), ([], []), ([], []), ([], []), ([], []), ([], []), ([], []), ([], []), ([], []), ([], []), ([], [])] 0 Tryd.f105 = some I105 := by kernel_rfl

def tab : List (Nat × IFunc) := [(6, I6), (7, I7), (9, I9), (13, I13), (14, I14), (16, I16), (18, I18), (19, I19), (22, I22), (23, I23), (24, I24), (25, I25), (26, I26), (27, I27), (28, I28), (29, I29), (30, I30), (31, I31), (35, I35), (36, I36), (38, I38), (39, I39), (40, I40), (43, I43), (44, I44), (45, I45), (50, I50), (51, I51), (52, I52), (53, I53), (54, I54), (55, I55), (56, I56), (57, I57), (58, I58), (59, I59), (60, I60), (61, I61), (64, I64), (65, I65), (66, I66), (67, I67), (68, I68), (70, I70), (71, I71), (72, I72), (73, I73), (74, I74), (75, I75), (76, I76), (77, I77), (78, I78), (79, I79), (80, I80), (81, I81), (83, I83), (84, I84), (85, I85), (86, I86), (87, I87), (89, I89), (90, I90), (91, I91), (92, I92), (93, I93), (94, I94), (95, I95), (96, I96), (97, I97), (98, I98), (99, I99), (100, I100), (102, I102), (103, I103), (105, I105)]
theorem tab_all : TabAll Tryd.prog tab :=
  .cons Tryd.func6 tr6 <| .cons Tryd.func7 tr7 <| .cons Tryd.func9 tr9 <| .cons Tryd.func13 tr13 <| .cons Tryd.func14 tr14 <| .cons Tryd.func16 tr16 <| .cons Tryd.func18 tr18 <| .cons Tryd.func19 tr19 <| .cons Tryd.func22 tr22 <| .cons Tryd.func23 tr23 <| .cons Tryd.func24 tr24 <| .cons Tryd.func25 tr25 <| .cons Tryd.func26 tr26 <| .cons Tryd.func27 tr27 <| .cons Tryd.func28 tr28 <| .cons Tryd.func29 tr29 <| .cons Tryd.func30 tr30 <| .cons Tryd.func31 tr31 <| .cons Tryd.func35 tr35 <| .cons Tryd.func36 tr36 <| .cons Tryd.func38 tr38 <| .cons Tryd.func39 tr39 <| .cons Tryd.func40 tr40 <| .cons Tryd.func43 tr43 <| .cons Tryd.func44 tr44 <| .cons Tryd.func45 tr45 <| .cons Tryd.func50 tr50 <| .cons Tryd.func51 tr51 <| .cons Tryd.func52 tr52 <| .cons Tryd.func53 tr53 <| .cons Tryd.func54 tr54 <| .cons Tryd.func55 tr55 <| .cons Tryd.func56 tr56 <| .cons Tryd.func57 tr57 <| .cons Tryd.func58 tr58 <| .cons Tryd.func59 tr59 <| .cons Tryd.func60 tr60 <| .cons Tryd.func61 tr61 <| .cons Tryd.func64 tr64 <| .cons Tryd.func65 tr65 <| .cons Tryd.func66 tr66 <| .cons Tryd.func67 tr67 <| .cons Tryd.func68 tr68 <| .cons Tryd.func70 tr70 <| .cons Tryd.func71 tr71 <| .cons Tryd.func72 tr72 <| .cons Tryd.func73 tr73 <| .cons Tryd.func74 tr74 <| .cons Tryd.func75 tr75 <| .cons Tryd.func76 tr76 <| .cons Tryd.func77 tr77 <| .cons Tryd.func78 tr78 <| .cons Tryd.func79 tr79 <| .cons Tryd.func80 tr80 <| .cons Tryd.func81 tr81 <| .cons Tryd.func83 tr83 <| .cons Tryd.func84 tr84 <| .cons Tryd.func85 tr85 <| .cons Tryd.func86 tr86 <| .cons Tryd.func87 tr87 <| .cons Tryd.func89 tr89 <| .cons Tryd.func90 tr90 <| .cons Tryd.func91 tr91 <| .cons Tryd.func92 tr92 <| .cons Tryd.func93 tr93 <| .cons Tryd.func94 tr94 <| .cons Tryd.func95 tr95 <| .cons Tryd.func96 tr96 <| .cons Tryd.func97 tr97 <| .cons Tryd.func98 tr98 <| .cons Tryd.func99 tr99 <| .cons Tryd.func100 tr100 <| .cons Tryd.func102 tr102 <| .cons Tryd.func103 tr103 <| .cons Tryd.func105 tr105 <| .nil
def IP : FuncId → Option IFunc := tabIP tab
theorem IP_ok : TabOK Tryd.prog IP := tab_all.ok
end Go.Proofs.YtomkfjpckilkpaaDoor
