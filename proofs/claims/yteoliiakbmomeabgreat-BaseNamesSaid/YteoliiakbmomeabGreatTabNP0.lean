import Derived.Test.YteoliiakbmomeabGreatRows
import Derived.Test.YteoliiakbmomeabGreatM05
import Derived.Test.YteoliiakbmomeabGreatM06
set_option linter.unusedVariables false
set_option linter.unusedSimpArgs false
set_option linter.unusedSectionVars false
/- The functions that the statement reaches, as the interpreter has them, with modes. Conditions: none. -/
namespace Go.Proofs.YteoliiakbmomeabGreat
open Go Go.RI
set_option maxRecDepth 100000

/-- 'encore/encorelaw18.BaseNames'. -/
def L3a : ICode :=
  (.seq (.seq (.region [⟨(some 327), (.mov (.t 29)), none, []⟩,
      ⟨(some 328), (.bin .lss (.t 327) (.c (.i .i64 (2)))), none, []⟩] [])
    (.cond (.t 328)
      .skip
      (.exit 0)))
    (.seq (.block 1
      (.seq (.region [⟨(some 332), (.mov (.t 28)), none, []⟩,
        ⟨(some 333), (.call 12 [(.t 332)]), none, []⟩,
        ⟨(some 331), (.mov (.t 333)), none, []⟩,
        ⟨(some 334), (.ext (.t 331) 0), none, []⟩,
        ⟨(some 335), (.ext (.t 331) 1), none, []⟩,
        ⟨(some 30), (.alloc [(.i .i64 (0)), (.s []), (.i .i64 (0)), (.i .i64 (0)), (.s []), .ns, .ns, .ns]), none, []⟩,
        ⟨none, (.store 8 (.t 30) (.t 334)), none, []⟩,
        ⟨(some 31), (.mov (.t 335)), none, []⟩] [])
      (.seq (.region [⟨(some 337), (.mov (.t 28)), none, []⟩,
        ⟨(some 338), (.call 11 [(.t 337)]), none, []⟩,
        ⟨(some 336), (.mov (.t 338)), none, []⟩,
        ⟨(some 339), (.ext (.t 336) 0), none, []⟩,
        ⟨(some 340), (.ext (.t 336) 1), none, []⟩,
        ⟨(some 341), (.ext (.t 336) 2), none, []⟩,
        ⟨(some 32), (.alloc [(.i .i64 (0)), (.i .i64 (0)), (.s []), .ns, .ns]), none, []⟩,
        ⟨none, (.store 5 (.t 32) (.t 339)), none, []⟩,
        ⟨(some 33), (.mov (.t 340)), none, []⟩,
        ⟨(some 34), (.mov (.t 341)), none, []⟩] [])
      (.seq (.seq (.region [⟨(some 342), (.mov (.t 28)), none, []⟩,
        ⟨(some 343), (.call 16 [(.t 342)]), none, []⟩,
        ⟨(some 344), (.bin .neq (.t 343) (.c (.i .i64 (1)))), none, []⟩,
        ⟨(some 345), (.mov (.t 344)), none, []⟩,
        ⟨(some 346), (.mov (.t 28)), (some (345, false)), []⟩,
        ⟨(some 347), (.call 14 [(.t 346), (.c (.i .i64 (9)))]), (some (345, false)), []⟩,
        ⟨(some 348), (.bin .neq (.t 347) (.c (.i .i64 (0)))), (some (345, false)), []⟩,
        ⟨(some 349), (.pick (.t 345) (.c (.b true)) (.t 348)), none, []⟩,
        ⟨(some 350), (.mov (.t 349)), none, []⟩,
        ⟨(some 351), (.mov (.t 28)), (some (350, false)), []⟩,
        ⟨(some 352), (.call 19 [(.t 351)]), (some (350, false)), []⟩,
        ⟨(some 353), (.bin .neq (.t 352) (.c (.i .i64 (0)))), (some (350, false)), []⟩,
        ⟨(some 354), (.pick (.t 350) (.c (.b true)) (.t 353)), none, []⟩,
        ⟨(some 355), (.mov (.t 354)), none, []⟩,
        ⟨(some 356), (.mov (.t 31)), (some (355, false)), []⟩,
        ⟨(some 357), (.bin .neq (.t 356) (.c (.i .i64 (1)))), (some (355, false)), []⟩,
        ⟨(some 358), (.pick (.t 355) (.c (.b true)) (.t 357)), none, []⟩,
        ⟨(some 359), (.mov (.t 358)), none, []⟩,
        ⟨(some 360), (.mov (.t 28)), (some (359, false)), []⟩,
        ⟨(some 361), (.build [(.i .i64 (0)), (.i .i64 (0)), (.i .i64 (0)), (.s []), .ns, .ns] []), (some (359, false)), []⟩,
        ⟨(some 362), (.call 17 [(.t 360), (.t 361)]), (some (359, false)), []⟩,
        ⟨(some 363), (.bin .neq (.t 362) (.c (.i .i64 (1)))), (some (359, false)), []⟩,
        ⟨(some 364), (.pick (.t 359) (.c (.b true)) (.t 363)), none, []⟩,
        ⟨(some 365), (.mov (.t 364)), none, []⟩,
        ⟨(some 366), (.mov (.t 34)), (some (365, false)), []⟩,
        ⟨(some 367), (.bin .neq (.t 366) (.c (.i .i64 (1)))), (some (365, false)), []⟩,
        ⟨(some 368), (.pick (.t 365) (.c (.b true)) (.t 367)), none, []⟩,
        ⟨(some 369), (.mov (.t 368)), none, []⟩,
        ⟨(some 370), (.mov (.t 28)), (some (369, false)), []⟩,
        ⟨(some 371), (.call 15 [(.t 370)]), (some (369, false)), []⟩,
        ⟨(some 372), (.bin .neq (.t 371) (.c (.i .i64 (0)))), (some (369, false)), []⟩,
        ⟨(some 373), (.pick (.t 369) (.c (.b true)) (.t 372)), none, []⟩,
        ⟨(some 374), (.mov (.t 373)), none, []⟩,
        ⟨(some 375), (.mov (.t 28)), (some (374, false)), []⟩,
        ⟨(some 376), (.call 20 [(.t 375)]), (some (374, false)), []⟩,
        ⟨(some 377), (.lenk 0 (.t 376)), (some (374, false)), []⟩,
        ⟨(some 378), (.bin .neq (.t 377) (.c (.i .i64 (0)))), (some (374, false)), []⟩,
        ⟨(some 379), (.pick (.t 374) (.c (.b true)) (.t 378)), none, []⟩,
        ⟨(some 380), (.mov (.t 379)), none, []⟩,
        ⟨(some 381), (.mov (.t 28)), (some (380, false)), []⟩,
        ⟨(some 382), (.call 13 [(.t 381), (.c (.i .i64 (0))), (.c .ns), (.c .ns), (.c (.i .i64 (0)))]), (some (380, false)), []⟩,
        ⟨(some 383), (.bin .neq (.t 382) (.c (.i .i64 (1)))), (some (380, false)), []⟩,
        ⟨(some 384), (.pick (.t 380) (.c (.b true)) (.t 383)), none, []⟩] [])
      (.cond (.t 384)
        (.seq (.region [⟨(some 0), (.mov (.c (.b false))), none, []⟩] [])
        .ret)
        .skip))
      (.region [⟨(some 385), (.build [.np, .ns, .ns, .ns, .ns, (.i .i64 (0)), (.i .i64 (0)), (.i .i64 (0)), (.s []), (.i .i64 (0)), (.i .i64 (0)), (.s []), .ns, .ns, .ns, (.i .i64 (0)), (.i .i64 (0)), (.s []), .ns, .ns, (.i .i64 (0))] []), none, []⟩,
        ⟨(some 386), (.box (.t 385)), none, []⟩,
        ⟨(some 28), (.mov (.t 386)), none, []⟩] [])))))
    (.region [⟨(some 329), (.mov (.t 29)), none, []⟩,
      ⟨(some 330), (.bin .add (.t 329) (.c (.i .i64 (1)))), none, []⟩,
      ⟨(some 29), (.mov (.t 330)), none, []⟩] [])))
def I3 : IFunc :=
  ⟨(.seq (.region [⟨(some 0), (.mov (.c (.b false))), none, []⟩] [])
    (.seq (.region [⟨(some 36), (.call 4 [(.c (.i .i64 (1))), (.c (.i .i64 (0)))]), none, []⟩,
      ⟨(some 37), (.call 4 [(.c (.i .i64 (30))), (.c (.i .i64 (0)))]), none, []⟩,
      ⟨(some 38), (.call 4 [(.c (.i .i64 (1))), (.c (.i .i64 (2)))]), none, []⟩,
      ⟨(some 1), (.alloc [(.i .i64 (0)), (.i .i64 (0)), (.i .i64 (0))]), none, []⟩,
      ⟨(some 2), (.alloc [(.i .i64 (0)), (.i .i64 (0)), (.i .i64 (0))]), none, []⟩,
      ⟨(some 3), (.alloc [(.i .i64 (0)), (.i .i64 (0)), (.i .i64 (0))]), none, []⟩,
      ⟨none, (.store 3 (.t 1) (.t 36)), none, []⟩,
      ⟨none, (.store 3 (.t 2) (.t 37)), none, []⟩,
      ⟨none, (.store 3 (.t 3) (.t 38)), none, []⟩] [])
    (.seq (.region [⟨(some 40), (.load (some 3) (.t 1)), none, []⟩,
      ⟨(some 43), (.load (some 3) (.t 2)), none, []⟩,
      ⟨(some 39), (.call 6 [(.c (.i .i64 (1)))]), none, [(40, (.load (some 3) (.t 1)), none), (43, (.load (some 3) (.t 2)), none)]⟩,
      ⟨(some 41), (.call 4 [(.c (.i .i64 (3))), (.c (.i .i64 (1)))]), none, [(40, (.load (some 3) (.t 1)), none), (43, (.load (some 3) (.t 2)), none)]⟩,
      ⟨(some 42), (.call 4 [(.c (.i .i64 (2))), (.c (.i .i64 (1)))]), none, [(40, (.load (some 3) (.t 1)), none), (43, (.load (some 3) (.t 2)), none)]⟩,
      ⟨(some 44), (.bsl 3 4 [(.i .i64 (0)), (.i .i64 (0)), (.i .i64 (0)), (.i .i64 (0)), (.i .i64 (0)), (.i .i64 (0)), (.i .i64 (0)), (.i .i64 (0)), (.i .i64 (0)), (.i .i64 (0)), (.i .i64 (0)), (.i .i64 (0))] [(0, 3, (.t 40)), (3, 3, (.t 41)), (6, 3, (.t 42)), (9, 3, (.t 43))]), none, []⟩,
      ⟨(some 45), (.call 5 [(.t 39), (.c (.i .i64 (4))), (.t 44)]), none, []⟩,
      ⟨(some 46), (.mov (.t 45)), none, []⟩,
      ⟨(some 47), (.build [(.i .i64 (0)), (.i .i64 (0)), (.s []), .ns, .ns] []), (some (46, true)), []⟩,
      ⟨(some 49), (.load (some 3) (.t 2)), (some (46, true)), []⟩,
      ⟨(some 48), (.call 4 [(.c (.i .i64 (2))), (.c (.i .i64 (0)))]), (some (46, true)), [(49, (.load (some 3) (.t 2)), (some (46, true)))]⟩,
      ⟨(some 50), (.bsl 3 2 [(.i .i64 (0)), (.i .i64 (0)), (.i .i64 (0)), (.i .i64 (0)), (.i .i64 (0)), (.i .i64 (0))] [(0, 3, (.t 48)), (3, 3, (.t 49))]), (some (46, true)), []⟩,
      ⟨(some 51), (.call 5 [(.t 47), (.c (.i .i64 (2))), (.t 50)]), (some (46, true)), []⟩,
      ⟨(some 52), (.pick (.t 46) (.t 51) (.c (.b false))), none, []⟩,
      ⟨(some 53), (.mov (.t 52)), none, []⟩,
      ⟨(some 55), (.load (some 3) (.t 1)), (some (53, true)), []⟩,
      ⟨(some 58), (.load (some 3) (.t 2)), (some (53, true)), []⟩,
      ⟨(some 54), (.call 6 [(.c (.i .i64 (2)))]), (some (53, true)), [(55, (.load (some 3) (.t 1)), (some (53, true))), (58, (.load (some 3) (.t 2)), (some (53, true)))]⟩,
      ⟨(some 56), (.call 4 [(.c (.i .i64 (5))), (.c (.i .i64 (0)))]), (some (53, true)), [(55, (.load (some 3) (.t 1)), (some (53, true))), (58, (.load (some 3) (.t 2)), (some (53, true)))]⟩,
      ⟨(some 57), (.call 4 [(.c (.i .i64 (9))), (.c (.i .i64 (0)))]), (some (53, true)), [(55, (.load (some 3) (.t 1)), (some (53, true))), (58, (.load (some 3) (.t 2)), (some (53, true)))]⟩,
      ⟨(some 59), (.bsl 3 4 [(.i .i64 (0)), (.i .i64 (0)), (.i .i64 (0)), (.i .i64 (0)), (.i .i64 (0)), (.i .i64 (0)), (.i .i64 (0)), (.i .i64 (0)), (.i .i64 (0)), (.i .i64 (0)), (.i .i64 (0)), (.i .i64 (0))] [(0, 3, (.t 55)), (3, 3, (.t 56)), (6, 3, (.t 57)), (9, 3, (.t 58))]), (some (53, true)), []⟩,
      ⟨(some 60), (.call 5 [(.t 54), (.c (.i .i64 (4))), (.t 59)]), (some (53, true)), []⟩,
      ⟨(some 61), (.pick (.t 53) (.t 60) (.c (.b false))), none, []⟩,
      ⟨(some 62), (.mov (.t 61)), none, []⟩,
      ⟨(some 64), (.load (some 3) (.t 1)), (some (62, true)), []⟩,
      ⟨(some 65), (.load (some 3) (.t 3)), (some (62, true)), []⟩,
      ⟨(some 67), (.load (some 3) (.t 2)), (some (62, true)), []⟩,
      ⟨(some 63), (.call 6 [(.c (.i .i64 (1)))]), (some (62, true)), [(64, (.load (some 3) (.t 1)), (some (62, true))), (65, (.load (some 3) (.t 3)), (some (62, true))), (67, (.load (some 3) (.t 2)), (some (62, true)))]⟩,
      ⟨(some 66), (.call 4 [(.c (.i .i64 (4))), (.c (.i .i64 (0)))]), (some (62, true)), [(64, (.load (some 3) (.t 1)), (some (62, true))), (65, (.load (some 3) (.t 3)), (some (62, true))), (67, (.load (some 3) (.t 2)), (some (62, true)))]⟩,
      ⟨(some 68), (.bsl 3 4 [(.i .i64 (0)), (.i .i64 (0)), (.i .i64 (0)), (.i .i64 (0)), (.i .i64 (0)), (.i .i64 (0)), (.i .i64 (0)), (.i .i64 (0)), (.i .i64 (0)), (.i .i64 (0)), (.i .i64 (0)), (.i .i64 (0))] [(0, 3, (.t 64)), (3, 3, (.t 65)), (6, 3, (.t 66)), (9, 3, (.t 67))]), (some (62, true)), []⟩,
      ⟨(some 69), (.call 5 [(.t 63), (.c (.i .i64 (4))), (.t 68)]), (some (62, true)), []⟩,
      ⟨(some 70), (.pick (.t 62) (.t 69) (.c (.b false))), none, []⟩,
      ⟨(some 71), (.mov (.t 70)), none, []⟩,
      ⟨(some 73), (.load (some 3) (.t 1)), (some (71, true)), []⟩,
      ⟨(some 75), (.load (some 3) (.t 2)), (some (71, true)), []⟩,
      ⟨(some 72), (.call 6 [(.c (.i .i64 (-1)))]), (some (71, true)), [(73, (.load (some 3) (.t 1)), (some (71, true))), (75, (.load (some 3) (.t 2)), (some (71, true)))]⟩,
      ⟨(some 74), (.call 4 [(.c (.i .i64 (6))), (.c (.i .i64 (0)))]), (some (71, true)), [(73, (.load (some 3) (.t 1)), (some (71, true))), (75, (.load (some 3) (.t 2)), (some (71, true)))]⟩,
      ⟨(some 76), (.bsl 3 3 [(.i .i64 (0)), (.i .i64 (0)), (.i .i64 (0)), (.i .i64 (0)), (.i .i64 (0)), (.i .i64 (0)), (.i .i64 (0)), (.i .i64 (0)), (.i .i64 (0))] [(0, 3, (.t 73)), (3, 3, (.t 74)), (6, 3, (.t 75))]), (some (71, true)), []⟩,
      ⟨(some 77), (.call 5 [(.t 72), (.c (.i .i64 (3))), (.t 76)]), (some (71, true)), []⟩,
      ⟨(some 78), (.pick (.t 71) (.t 77) (.c (.b false))), none, []⟩,
      ⟨(some 79), (.mov (.t 78)), none, []⟩,
      ⟨(some 84), (.load (some 3) (.t 1)), (some (79, true)), []⟩,
      ⟨(some 87), (.load (some 3) (.t 2)), (some (79, true)), []⟩,
      ⟨(some 80), (.call 6 [(.c (.i .i64 (1)))]), (some (79, true)), [(84, (.load (some 3) (.t 1)), (some (79, true))), (87, (.load (some 3) (.t 2)), (some (79, true)))]⟩,
      ⟨(some 81), (.call 6 [(.c (.i .i64 (0)))]), (some (79, true)), [(84, (.load (some 3) (.t 1)), (some (79, true))), (87, (.load (some 3) (.t 2)), (some (79, true)))]⟩,
      ⟨(some 82), (.bsl 5 2 [(.i .i64 (0)), (.i .i64 (0)), (.s []), .ns, .ns, (.i .i64 (0)), (.i .i64 (0)), (.s []), .ns, .ns] [(0, 5, (.t 80)), (5, 5, (.t 81))]), (some (79, true)), []⟩,
      ⟨(some 83), (.build [(.i .i64 (0)), (.i .i64 (0)), (.s []), .ns, .ns] [(0, 1, (.c (.i .i64 (4)))), (3, 1, (.t 82))]), (some (79, true)), []⟩,
      ⟨(some 85), (.call 4 [(.c (.i .i64 (1))), (.c (.i .i64 (1)))]), (some (79, true)), [(84, (.load (some 3) (.t 1)), (some (79, true))), (87, (.load (some 3) (.t 2)), (some (79, true)))]⟩,
      ⟨(some 86), (.call 4 [(.c (.i .i64 (20))), (.c (.i .i64 (2)))]), (some (79, true)), [(84, (.load (some 3) (.t 1)), (some (79, true))), (87, (.load (some 3) (.t 2)), (some (79, true)))]⟩,
      ⟨(some 88), (.bsl 3 4 [(.i .i64 (0)), (.i .i64 (0)), (.i .i64 (0)), (.i .i64 (0)), (.i .i64 (0)), (.i .i64 (0)), (.i .i64 (0)), (.i .i64 (0)), (.i .i64 (0)), (.i .i64 (0)), (.i .i64 (0)), (.i .i64 (0))] [(0, 3, (.t 84)), (3, 3, (.t 85)), (6, 3, (.t 86)), (9, 3, (.t 87))]), (some (79, true)), []⟩,
      ⟨(some 89), (.call 5 [(.t 83), (.c (.i .i64 (4))), (.t 88)]), (some (79, true)), []⟩,
      ⟨(some 90), (.pick (.t 79) (.t 89) (.c (.b false))), none, []⟩,
      ⟨(some 91), (.mov (.t 90)), none, []⟩,
      ⟨(some 93), (.load (some 3) (.t 1)), (some (91, true)), []⟩,
      ⟨(some 96), (.load (some 3) (.t 2)), (some (91, true)), []⟩,
      ⟨(some 92), (.call 6 [(.c (.i .i64 (1)))]), (some (91, true)), [(93, (.load (some 3) (.t 1)), (some (91, true))), (96, (.load (some 3) (.t 2)), (some (91, true)))]⟩,
      ⟨(some 94), (.call 4 [(.c (.i .i64 (21))), (.c (.i .i64 (4)))]), (some (91, true)), [(93, (.load (some 3) (.t 1)), (some (91, true))), (96, (.load (some 3) (.t 2)), (some (91, true)))]⟩,
      ⟨(some 95), (.call 4 [(.c (.i .i64 (22))), (.c (.i .i64 (5)))]), (some (91, true)), [(93, (.load (some 3) (.t 1)), (some (91, true))), (96, (.load (some 3) (.t 2)), (some (91, true)))]⟩,
      ⟨(some 97), (.bsl 3 4 [(.i .i64 (0)), (.i .i64 (0)), (.i .i64 (0)), (.i .i64 (0)), (.i .i64 (0)), (.i .i64 (0)), (.i .i64 (0)), (.i .i64 (0)), (.i .i64 (0)), (.i .i64 (0)), (.i .i64 (0)), (.i .i64 (0))] [(0, 3, (.t 93)), (3, 3, (.t 94)), (6, 3, (.t 95)), (9, 3, (.t 96))]), (some (91, true)), []⟩,
      ⟨(some 98), (.call 5 [(.t 92), (.c (.i .i64 (4))), (.t 97)]), (some (91, true)), []⟩,
      ⟨(some 99), (.pick (.t 91) (.t 98) (.c (.b false))), none, []⟩,
      ⟨(some 100), (.mov (.t 99)), none, []⟩,
      ⟨(some 102), (.load (some 3) (.t 1)), (some (100, true)), []⟩,
      ⟨(some 104), (.load (some 3) (.t 2)), (some (100, true)), []⟩,
      ⟨(some 101), (.call 6 [(.c (.i .i64 (1)))]), (some (100, true)), [(102, (.load (some 3) (.t 1)), (some (100, true))), (104, (.load (some 3) (.t 2)), (some (100, true)))]⟩,
      ⟨(some 103), (.call 4 [(.c (.i .i64 (23))), (.c (.i .i64 (3)))]), (some (100, true)), [(102, (.load (some 3) (.t 1)), (some (100, true))), (104, (.load (some 3) (.t 2)), (some (100, true)))]⟩,
      ⟨(some 105), (.bsl 3 3 [(.i .i64 (0)), (.i .i64 (0)), (.i .i64 (0)), (.i .i64 (0)), (.i .i64 (0)), (.i .i64 (0)), (.i .i64 (0)), (.i .i64 (0)), (.i .i64 (0))] [(0, 3, (.t 102)), (3, 3, (.t 103)), (6, 3, (.t 104))]), (some (100, true)), []⟩,
      ⟨(some 106), (.call 5 [(.t 101), (.c (.i .i64 (3))), (.t 105)]), (some (100, true)), []⟩,
      ⟨(some 107), (.pick (.t 100) (.t 106) (.c (.b false))), none, []⟩,
      ⟨(some 108), (.mov (.t 107)), none, []⟩,
      ⟨(some 109), (.load (some 3) (.t 3)), (some (108, true)), []⟩,
      ⟨(some 111), (.load (some 3) (.t 2)), (some (108, true)), []⟩,
      ⟨(some 110), (.call 4 [(.c (.i .i64 (23))), (.c (.i .i64 (3)))]), (some (108, true)), [(109, (.load (some 3) (.t 3)), (some (108, true))), (111, (.load (some 3) (.t 2)), (some (108, true)))]⟩,
      ⟨(some 112), (.bsl 3 3 [(.i .i64 (0)), (.i .i64 (0)), (.i .i64 (0)), (.i .i64 (0)), (.i .i64 (0)), (.i .i64 (0)), (.i .i64 (0)), (.i .i64 (0)), (.i .i64 (0))] [(0, 3, (.t 109)), (3, 3, (.t 110)), (6, 3, (.t 111))]), (some (108, true)), []⟩,
      ⟨(some 113), (.call 7 [(.c (.i .i64 (2))), (.c (.i .i64 (2))), (.t 112)]), (some (108, true)), []⟩,
      ⟨(some 114), (.pick (.t 108) (.t 113) (.c (.b false))), none, []⟩,
      ⟨(some 115), (.mov (.t 114)), none, []⟩,
      ⟨(some 116), (.load (some 3) (.t 1)), (some (115, true)), []⟩,
      ⟨(some 118), (.load (some 3) (.t 2)), (some (115, true)), []⟩,
      ⟨(some 117), (.call 4 [(.c (.i .i64 (22))), (.c (.i .i64 (5)))]), (some (115, true)), [(116, (.load (some 3) (.t 1)), (some (115, true))), (118, (.load (some 3) (.t 2)), (some (115, true)))]⟩,
      ⟨(some 119), (.bsl 3 3 [(.i .i64 (0)), (.i .i64 (0)), (.i .i64 (0)), (.i .i64 (0)), (.i .i64 (0)), (.i .i64 (0)), (.i .i64 (0)), (.i .i64 (0)), (.i .i64 (0))] [(0, 3, (.t 116)), (3, 3, (.t 117)), (6, 3, (.t 118))]), (some (115, true)), []⟩,
      ⟨(some 120), (.call 7 [(.c (.i .i64 (2))), (.c (.i .i64 (2))), (.t 119)]), (some (115, true)), []⟩,
      ⟨(some 121), (.pick (.t 115) (.t 120) (.c (.b false))), none, []⟩,
      ⟨(some 4), (.mov (.t 121)), none, []⟩] [])
    (.seq (.region [⟨(some 123), (.load (some 3) (.t 3)), none, []⟩,
      ⟨(some 126), (.load (some 3) (.t 1)), none, []⟩,
      ⟨(some 127), (.load (some 3) (.t 2)), none, []⟩,
      ⟨(some 129), (.load (some 3) (.t 2)), none, []⟩,
      ⟨(some 122), (.call 6 [(.c (.i .i64 (0)))]), none, [(123, (.load (some 3) (.t 3)), none), (126, (.load (some 3) (.t 1)), none), (127, (.load (some 3) (.t 2)), none), (129, (.load (some 3) (.t 2)), none)]⟩,
      ⟨(some 124), (.call 4 [(.c (.i .i64 (7))), (.c (.i .i64 (0)))]), none, [(123, (.load (some 3) (.t 3)), none), (126, (.load (some 3) (.t 1)), none), (127, (.load (some 3) (.t 2)), none), (129, (.load (some 3) (.t 2)), none)]⟩,
      ⟨(some 125), (.call 4 [(.c (.i .i64 (25))), (.c (.i .i64 (5)))]), none, [(123, (.load (some 3) (.t 3)), none), (126, (.load (some 3) (.t 1)), none), (127, (.load (some 3) (.t 2)), none), (129, (.load (some 3) (.t 2)), none)]⟩,
      ⟨(some 128), (.call 4 [(.c (.i .i64 (1))), (.c (.i .i64 (1)))]), none, [(123, (.load (some 3) (.t 3)), none), (126, (.load (some 3) (.t 1)), none), (127, (.load (some 3) (.t 2)), none), (129, (.load (some 3) (.t 2)), none)]⟩,
      ⟨(some 130), (.bsl 3 7 [(.i .i64 (0)), (.i .i64 (0)), (.i .i64 (0)), (.i .i64 (0)), (.i .i64 (0)), (.i .i64 (0)), (.i .i64 (0)), (.i .i64 (0)), (.i .i64 (0)), (.i .i64 (0)), (.i .i64 (0)), (.i .i64 (0)), (.i .i64 (0)), (.i .i64 (0)), (.i .i64 (0)), (.i .i64 (0)), (.i .i64 (0)), (.i .i64 (0)), (.i .i64 (0)), (.i .i64 (0)), (.i .i64 (0))] [(0, 3, (.t 123)), (3, 3, (.t 124)), (6, 3, (.t 125)), (9, 3, (.t 126)), (12, 3, (.t 127)), (15, 3, (.t 128)), (18, 3, (.t 129))]), none, []⟩,
      ⟨(some 131), (.call 5 [(.t 122), (.c (.i .i64 (5))), (.t 130)]), none, []⟩,
      ⟨(some 132), (.mov (.t 131)), none, []⟩,
      ⟨(some 134), (.load (some 3) (.t 3)), (some (132, true)), []⟩,
      ⟨(some 136), (.load (some 3) (.t 1)), (some (132, true)), []⟩,
      ⟨(some 137), (.load (some 3) (.t 2)), (some (132, true)), []⟩,
      ⟨(some 138), (.load (some 3) (.t 1)), (some (132, true)), []⟩,
      ⟨(some 139), (.load (some 3) (.t 2)), (some (132, true)), []⟩,
      ⟨(some 133), (.call 6 [(.c (.i .i64 (1)))]), (some (132, true)), [(134, (.load (some 3) (.t 3)), (some (132, true))), (136, (.load (some 3) (.t 1)), (some (132, true))), (137, (.load (some 3) (.t 2)), (some (132, true))), (138, (.load (some 3) (.t 1)), (some (132, true))), (139, (.load (some 3) (.t 2)), (some (132, true)))]⟩,
      ⟨(some 135), (.call 4 [(.c (.i .i64 (25))), (.c (.i .i64 (4)))]), (some (132, true)), [(134, (.load (some 3) (.t 3)), (some (132, true))), (136, (.load (some 3) (.t 1)), (some (132, true))), (137, (.load (some 3) (.t 2)), (some (132, true))), (138, (.load (some 3) (.t 1)), (some (132, true))), (139, (.load (some 3) (.t 2)), (some (132, true)))]⟩,
      ⟨(some 140), (.bsl 3 6 [(.i .i64 (0)), (.i .i64 (0)), (.i .i64 (0)), (.i .i64 (0)), (.i .i64 (0)), (.i .i64 (0)), (.i .i64 (0)), (.i .i64 (0)), (.i .i64 (0)), (.i .i64 (0)), (.i .i64 (0)), (.i .i64 (0)), (.i .i64 (0)), (.i .i64 (0)), (.i .i64 (0)), (.i .i64 (0)), (.i .i64 (0)), (.i .i64 (0))] [(0, 3, (.t 134)), (3, 3, (.t 135)), (6, 3, (.t 136)), (9, 3, (.t 137)), (12, 3, (.t 138)), (15, 3, (.t 139))]), (some (132, true)), []⟩,
      ⟨(some 141), (.call 5 [(.t 133), (.c (.i .i64 (4))), (.t 140)]), (some (132, true)), []⟩,
      ⟨(some 142), (.pick (.t 132) (.t 141) (.c (.b false))), none, []⟩,
      ⟨(some 143), (.mov (.t 142)), none, []⟩,
      ⟨(some 144), (.load (some 3) (.t 1)), (some (143, true)), []⟩,
      ⟨(some 146), (.load (some 3) (.t 1)), (some (143, true)), []⟩,
      ⟨(some 147), (.load (some 3) (.t 2)), (some (143, true)), []⟩,
      ⟨(some 145), (.call 4 [(.c (.i .i64 (25))), (.c (.i .i64 (2)))]), (some (143, true)), [(144, (.load (some 3) (.t 1)), (some (143, true))), (146, (.load (some 3) (.t 1)), (some (143, true))), (147, (.load (some 3) (.t 2)), (some (143, true)))]⟩,
      ⟨(some 148), (.bsl 3 4 [(.i .i64 (0)), (.i .i64 (0)), (.i .i64 (0)), (.i .i64 (0)), (.i .i64 (0)), (.i .i64 (0)), (.i .i64 (0)), (.i .i64 (0)), (.i .i64 (0)), (.i .i64 (0)), (.i .i64 (0)), (.i .i64 (0))] [(0, 3, (.t 144)), (3, 3, (.t 145)), (6, 3, (.t 146)), (9, 3, (.t 147))]), (some (143, true)), []⟩,
      ⟨(some 149), (.call 7 [(.c (.i .i64 (2))), (.c (.i .i64 (2))), (.t 148)]), (some (143, true)), []⟩,
      ⟨(some 150), (.pick (.t 143) (.t 149) (.c (.b false))), none, []⟩,
      ⟨(some 151), (.mov (.t 150)), none, []⟩,
      ⟨(some 152), (.load (some 3) (.t 3)), (some (151, true)), []⟩,
      ⟨(some 153), (.call 4 [(.c (.i .i64 (28))), (.c (.i .i64 (0)))]), (some (151, true)), [(152, (.load (some 3) (.t 3)), (some (151, true)))]⟩,
      ⟨(some 154), (.bsl 3 2 [(.i .i64 (0)), (.i .i64 (0)), (.i .i64 (0)), (.i .i64 (0)), (.i .i64 (0)), (.i .i64 (0))] [(0, 3, (.t 152)), (3, 3, (.t 153))]), (some (151, true)), []⟩,
      ⟨(some 155), (.call 7 [(.c (.i .i64 (2))), (.c (.i .i64 (2))), (.t 154)]), (some (151, true)), []⟩,
      ⟨(some 156), (.pick (.t 151) (.t 155) (.c (.b false))), none, []⟩,
      ⟨(some 157), (.mov (.t 156)), none, []⟩,
      ⟨(some 158), (.load (some 3) (.t 1)), (some (157, true)), []⟩,
      ⟨(some 159), (.call 4 [(.c (.i .i64 (28))), (.c (.i .i64 (0)))]), (some (157, true)), [(158, (.load (some 3) (.t 1)), (some (157, true)))]⟩,
      ⟨(some 160), (.bsl 3 2 [(.i .i64 (0)), (.i .i64 (0)), (.i .i64 (0)), (.i .i64 (0)), (.i .i64 (0)), (.i .i64 (0))] [(0, 3, (.t 158)), (3, 3, (.t 159))]), (some (157, true)), []⟩,
      ⟨(some 161), (.call 7 [(.c (.i .i64 (1))), (.c (.i .i64 (2))), (.t 160)]), (some (157, true)), []⟩,
      ⟨(some 162), (.pick (.t 157) (.t 161) (.c (.b false))), none, []⟩,
      ⟨(some 163), (.mov (.t 162)), none, []⟩,
      ⟨(some 164), (.call 4 [(.c (.i .i64 (1))), (.c (.i .i64 (1)))]), (some (163, true)), []⟩,
      ⟨(some 165), (.call 4 [(.c (.i .i64 (28))), (.c (.i .i64 (0)))]), (some (163, true)), []⟩,
      ⟨(some 166), (.bsl 3 2 [(.i .i64 (0)), (.i .i64 (0)), (.i .i64 (0)), (.i .i64 (0)), (.i .i64 (0)), (.i .i64 (0))] [(0, 3, (.t 164)), (3, 3, (.t 165))]), (some (163, true)), []⟩,
      ⟨(some 167), (.call 7 [(.c (.i .i64 (2))), (.c (.i .i64 (2))), (.t 166)]), (some (163, true)), []⟩,
      ⟨(some 168), (.pick (.t 163) (.t 167) (.c (.b false))), none, []⟩,
      ⟨(some 169), (.mov (.t 168)), none, []⟩,
      ⟨(some 172), (.load (some 3) (.t 1)), (some (169, true)), []⟩,
      ⟨(some 175), (.load (some 3) (.t 2)), (some (169, true)), []⟩,
      ⟨(some 170), (.call 6 [(.c (.i .i64 (1)))]), (some (169, true)), [(172, (.load (some 3) (.t 1)), (some (169, true))), (175, (.load (some 3) (.t 2)), (some (169, true)))]⟩,
      ⟨(some 171), (.call 4 [(.c (.i .i64 (26))), (.c (.i .i64 (4)))]), (some (169, true)), [(172, (.load (some 3) (.t 1)), (some (169, true))), (175, (.load (some 3) (.t 2)), (some (169, true)))]⟩,
      ⟨(some 173), (.call 4 [(.c (.i .i64 (27))), (.c (.i .i64 (0)))]), (some (169, true)), [(172, (.load (some 3) (.t 1)), (some (169, true))), (175, (.load (some 3) (.t 2)), (some (169, true)))]⟩,
      ⟨(some 174), (.call 4 [(.c (.i .i64 (24))), (.c (.i .i64 (4)))]), (some (169, true)), [(172, (.load (some 3) (.t 1)), (some (169, true))), (175, (.load (some 3) (.t 2)), (some (169, true)))]⟩,
      ⟨(some 176), (.bsl 3 5 [(.i .i64 (0)), (.i .i64 (0)), (.i .i64 (0)), (.i .i64 (0)), (.i .i64 (0)), (.i .i64 (0)), (.i .i64 (0)), (.i .i64 (0)), (.i .i64 (0)), (.i .i64 (0)), (.i .i64 (0)), (.i .i64 (0)), (.i .i64 (0)), (.i .i64 (0)), (.i .i64 (0))] [(0, 3, (.t 171)), (3, 3, (.t 172)), (6, 3, (.t 173)), (9, 3, (.t 174)), (12, 3, (.t 175))]), (some (169, true)), []⟩,
      ⟨(some 177), (.call 5 [(.t 170), (.c (.i .i64 (5))), (.t 176)]), (some (169, true)), []⟩,
      ⟨(some 178), (.pick (.t 169) (.t 177) (.c (.b false))), none, []⟩,
      ⟨(some 5), (.mov (.t 178)), none, []⟩] [])
    (.seq (.region [⟨(some 180), (.call 4 [(.c (.i .i64 (24))), (.c (.i .i64 (0)))]), none, []⟩,
      ⟨(some 181), (.bsl 3 1 [(.i .i64 (0)), (.i .i64 (0)), (.i .i64 (0))] [(0, 3, (.t 180))]), none, []⟩,
      ⟨(some 182), (.call 8 [(.c (.i .i64 (50))), (.t 181)]), none, []⟩,
      ⟨(some 179), (.mov (.t 182)), none, []⟩,
      ⟨(some 183), (.ext (.t 179) 0), none, []⟩,
      ⟨(some 184), (.ext (.t 179) 1), none, []⟩,
      ⟨(some 185), (.ext (.t 179) 2), none, []⟩,
      ⟨(some 186), (.ext (.t 179) 3), none, []⟩,
      ⟨(some 7), (.alloc [(.i .i64 (0)), (.i .i64 (0)), (.s []), .ns, .ns]), none, []⟩,
      ⟨(some 6), (.mov (.t 183)), none, []⟩,
      ⟨none, (.store 5 (.t 7) (.t 184)), none, []⟩,
      ⟨(some 8), (.mov (.t 185)), none, []⟩,
      ⟨(some 9), (.mov (.t 186)), none, []⟩] [])
    (.seq (.region [⟨(some 189), (.load (some 3) (.t 2)), none, []⟩,
      ⟨(some 188), (.call 4 [(.c (.i .i64 (4))), (.c (.i .i64 (0)))]), none, [(189, (.load (some 3) (.t 2)), none)]⟩,
      ⟨(some 190), (.bsl 3 2 [(.i .i64 (0)), (.i .i64 (0)), (.i .i64 (0)), (.i .i64 (0)), (.i .i64 (0)), (.i .i64 (0))] [(0, 3, (.t 188)), (3, 3, (.t 189))]), none, []⟩,
      ⟨(some 191), (.call 10 [(.t 190)]), none, []⟩,
      ⟨(some 192), (.call 9 [(.t 191), (.c (.i .i64 (0))), (.c .ns)]), none, []⟩,
      ⟨(some 187), (.mov (.t 192)), none, []⟩,
      ⟨(some 193), (.ext (.t 187) 0), none, []⟩,
      ⟨(some 194), (.ext (.t 187) 1), none, []⟩,
      ⟨(some 10), (.mov (.t 193)), none, []⟩,
      ⟨(some 11), (.mov (.t 194)), none, []⟩] [])
    (.seq (.region [⟨(some 196), (.load (some 3) (.t 1)), none, []⟩,
      ⟨(some 197), (.load (some 3) (.t 2)), none, []⟩,
      ⟨(some 198), (.bsl 3 2 [(.i .i64 (0)), (.i .i64 (0)), (.i .i64 (0)), (.i .i64 (0)), (.i .i64 (0)), (.i .i64 (0))] [(0, 3, (.t 196)), (3, 3, (.t 197))]), none, []⟩,
      ⟨(some 199), (.call 10 [(.t 198)]), none, []⟩,
      ⟨(some 200), (.call 9 [(.t 199), (.c (.i .i64 (1))), (.c .ns)]), none, []⟩,
      ⟨(some 195), (.mov (.t 200)), none, []⟩,
      ⟨(some 201), (.ext (.t 195) 0), none, []⟩,
      ⟨(some 202), (.ext (.t 195) 1), none, []⟩,
      ⟨(some 12), (.mov (.t 201)), none, []⟩,
      ⟨(some 13), (.mov (.t 202)), none, []⟩] [])
    (.seq (.region [⟨(some 204), (.load (some 3) (.t 1)), none, []⟩,
      ⟨(some 205), (.load (some 3) (.t 2)), none, []⟩,
      ⟨(some 206), (.bsl 3 2 [(.i .i64 (0)), (.i .i64 (0)), (.i .i64 (0)), (.i .i64 (0)), (.i .i64 (0)), (.i .i64 (0))] [(0, 3, (.t 204)), (3, 3, (.t 205))]), none, []⟩,
      ⟨(some 207), (.call 10 [(.t 206)]), none, []⟩,
      ⟨(some 208), (.call 6 [(.c (.i .i64 (1)))]), none, []⟩,
      ⟨(some 209), (.bsl 5 1 [(.i .i64 (0)), (.i .i64 (0)), (.s []), .ns, .ns] [(0, 5, (.t 208))]), none, []⟩,
      ⟨(some 210), (.call 9 [(.t 207), (.c (.i .i64 (0))), (.t 209)]), none, []⟩,
      ⟨(some 203), (.mov (.t 210)), none, []⟩,
      ⟨(some 211), (.ext (.t 203) 0), none, []⟩,
      ⟨(some 212), (.ext (.t 203) 1), none, []⟩,
      ⟨(some 14), (.mov (.t 211)), none, []⟩,
      ⟨(some 15), (.mov (.t 212)), none, []⟩] [])
    (.seq (.region [⟨(some 214), (.load (some 3) (.t 1)), none, []⟩,
      ⟨(some 215), (.load (some 3) (.t 2)), none, []⟩,
      ⟨(some 216), (.bsl 3 2 [(.i .i64 (0)), (.i .i64 (0)), (.i .i64 (0)), (.i .i64 (0)), (.i .i64 (0)), (.i .i64 (0))] [(0, 3, (.t 214)), (3, 3, (.t 215))]), none, []⟩,
      ⟨(some 217), (.call 10 [(.t 216)]), none, []⟩,
      ⟨(some 218), (.call 9 [(.t 217), (.c (.i .i64 (0))), (.c .ns)]), none, []⟩,
      ⟨(some 213), (.mov (.t 218)), none, []⟩,
      ⟨(some 219), (.ext (.t 213) 0), none, []⟩,
      ⟨(some 220), (.ext (.t 213) 1), none, []⟩,
      ⟨(some 16), (.mov (.t 219)), none, []⟩,
      ⟨(some 17), (.mov (.t 220)), none, []⟩] [])
    (.seq (.seq (.region [⟨(some 221), (.mov (.t 17)), none, []⟩,
      ⟨(some 222), (.bin .neq (.t 221) (.c (.i .i64 (0)))), none, []⟩] [])
    (.cond (.t 222)
      (.seq (.region [⟨(some 0), (.mov (.c (.b false))), none, []⟩] [])
      .ret)
      .skip))
    (.seq (.region [⟨(some 224), (.mov (.t 16)), none, []⟩,
      ⟨(some 225), (.call 11 [(.t 224)]), none, []⟩,
      ⟨(some 223), (.mov (.t 225)), none, []⟩,
      ⟨(some 226), (.ext (.t 223) 0), none, []⟩,
      ⟨(some 227), (.ext (.t 223) 1), none, []⟩,
      ⟨(some 228), (.ext (.t 223) 2), none, []⟩,
      ⟨(some 18), (.alloc [(.i .i64 (0)), (.i .i64 (0)), (.s []), .ns, .ns]), none, []⟩,
      ⟨none, (.store 5 (.t 18) (.t 226)), none, []⟩,
      ⟨(some 19), (.mov (.t 227)), none, []⟩,
      ⟨(some 20), (.mov (.t 228)), none, []⟩] [])
    (.seq (.region [⟨(some 230), (.mov (.t 16)), none, []⟩,
      ⟨(some 231), (.call 12 [(.t 230)]), none, []⟩,
      ⟨(some 229), (.mov (.t 231)), none, []⟩,
      ⟨(some 232), (.ext (.t 229) 0), none, []⟩,
      ⟨(some 233), (.ext (.t 229) 1), none, []⟩,
      ⟨(some 21), (.alloc [(.i .i64 (0)), (.s []), (.i .i64 (0)), (.i .i64 (0)), (.s []), .ns, .ns, .ns]), none, []⟩,
      ⟨none, (.store 8 (.t 21) (.t 232)), none, []⟩,
      ⟨(some 22), (.mov (.t 233)), none, []⟩] [])
    (.seq (.region [⟨(some 234), (.mov (.t 16)), none, []⟩,
      ⟨(some 235), (.call 6 [(.c (.i .i64 (7)))]), none, []⟩,
      ⟨(some 236), (.bsl 5 1 [(.i .i64 (0)), (.i .i64 (0)), (.s []), .ns, .ns] [(0, 5, (.t 235))]), none, []⟩,
      ⟨(some 237), (.call 13 [(.t 234), (.c (.i .i64 (1))), (.c .ns), (.t 236), (.c (.i .i64 (0)))]), none, []⟩,
      ⟨(some 238), (.bin .eql (.t 237) (.c (.i .i64 (2)))), none, []⟩,
      ⟨(some 239), (.mov (.t 238)), none, []⟩,
      ⟨(some 240), (.mov (.t 16)), (some (239, true)), []⟩,
      ⟨(some 241), (.mksl 5 80 [(.i .i64 (0)), (.i .i64 (0)), (.s []), .ns, .ns] (.c (.i .i64 (2))) (.c (.i .i64 (2)))), (some (239, true)), []⟩,
      ⟨(some 242), (.call 13 [(.t 240), (.c (.i .i64 (1))), (.t 241), (.c .ns), (.c (.i .i64 (0)))]), (some (239, true)), []⟩,
      ⟨(some 243), (.bin .eql (.t 242) (.c (.i .i64 (2)))), (some (239, true)), []⟩,
      ⟨(some 244), (.pick (.t 239) (.t 243) (.c (.b false))), none, []⟩,
      ⟨(some 245), (.mov (.t 244)), none, []⟩,
      ⟨(some 246), (.mov (.t 16)), (some (245, true)), []⟩,
      ⟨(some 247), (.mksl 5 80 [(.i .i64 (0)), (.i .i64 (0)), (.s []), .ns, .ns] (.c (.i .i64 (2))) (.c (.i .i64 (2)))), (some (245, true)), []⟩,
      ⟨(some 248), (.call 13 [(.t 246), (.c (.i .i64 (2))), (.t 247), (.c .ns), (.c (.i .i64 (0)))]), (some (245, true)), []⟩,
      ⟨(some 249), (.bin .eql (.t 248) (.c (.i .i64 (2)))), (some (245, true)), []⟩,
      ⟨(some 250), (.pick (.t 245) (.t 249) (.c (.b false))), none, []⟩,
      ⟨(some 251), (.mov (.t 250)), none, []⟩,
      ⟨(some 252), (.mov (.t 16)), (some (251, true)), []⟩,
      ⟨(some 253), (.mksl 5 80 [(.i .i64 (0)), (.i .i64 (0)), (.s []), .ns, .ns] (.c (.i .i64 (2))) (.c (.i .i64 (2)))), (some (251, true)), []⟩,
      ⟨(some 254), (.build [(.i .i64 (0)), (.i .i64 (0)), (.s []), .ns, .ns] [(0, 1, (.c (.i .i64 (9))))]), (some (251, true)), []⟩,
      ⟨(some 255), (.bsl 5 1 [(.i .i64 (0)), (.i .i64 (0)), (.s []), .ns, .ns] [(0, 5, (.t 254))]), (some (251, true)), []⟩,
      ⟨(some 256), (.call 13 [(.t 252), (.c (.i .i64 (1))), (.t 253), (.t 255), (.c (.i .i64 (0)))]), (some (251, true)), []⟩,
      ⟨(some 257), (.bin .eql (.t 256) (.c (.i .i64 (2)))), (some (251, true)), []⟩,
      ⟨(some 258), (.pick (.t 251) (.t 257) (.c (.b false))), none, []⟩,
      ⟨(some 259), (.mov (.t 258)), none, []⟩,
      ⟨(some 260), (.mov (.t 16)), (some (259, true)), []⟩,
      ⟨(some 261), (.mksl 5 80 [(.i .i64 (0)), (.i .i64 (0)), (.s []), .ns, .ns] (.c (.i .i64 (2))) (.c (.i .i64 (2)))), (some (259, true)), []⟩,
      ⟨(some 262), (.call 6 [(.c (.i .i64 (7)))]), (some (259, true)), []⟩,
      ⟨(some 263), (.bsl 5 1 [(.i .i64 (0)), (.i .i64 (0)), (.s []), .ns, .ns] [(0, 5, (.t 262))]), (some (259, true)), []⟩,
      ⟨(some 264), (.call 13 [(.t 260), (.c (.i .i64 (1))), (.t 261), (.t 263), (.c (.i .i64 (-1)))]), (some (259, true)), []⟩,
      ⟨(some 265), (.bin .eql (.t 264) (.c (.i .i64 (2)))), (some (259, true)), []⟩,
      ⟨(some 266), (.pick (.t 259) (.t 265) (.c (.b false))), none, []⟩,
      ⟨(some 267), (.mov (.t 266)), none, []⟩,
      ⟨(some 268), (.mov (.t 16)), (some (267, true)), []⟩,
      ⟨(some 269), (.mksl 5 80 [(.i .i64 (0)), (.i .i64 (0)), (.s []), .ns, .ns] (.c (.i .i64 (2))) (.c (.i .i64 (2)))), (some (267, true)), []⟩,
      ⟨(some 270), (.call 6 [(.c (.i .i64 (7)))]), (some (267, true)), []⟩,
      ⟨(some 271), (.bsl 5 1 [(.i .i64 (0)), (.i .i64 (0)), (.s []), .ns, .ns] [(0, 5, (.t 270))]), (some (267, true)), []⟩,
      ⟨(some 272), (.call 13 [(.t 268), (.c (.i .i64 (1))), (.t 269), (.t 271), (.c (.i .i64 (9007199254740992)))]), (some (267, true)), []⟩,
      ⟨(some 273), (.bin .eql (.t 272) (.c (.i .i64 (2)))), (some (267, true)), []⟩,
      ⟨(some 274), (.pick (.t 267) (.t 273) (.c (.b false))), none, []⟩,
      ⟨(some 275), (.mov (.t 274)), none, []⟩,
      ⟨(some 276), (.mov (.t 16)), (some (275, true)), []⟩,
      ⟨(some 277), (.mksl 5 80 [(.i .i64 (0)), (.i .i64 (0)), (.s []), .ns, .ns] (.c (.i .i64 (2))) (.c (.i .i64 (2)))), (some (275, true)), []⟩,
      ⟨(some 278), (.call 6 [(.c (.i .i64 (7)))]), (some (275, true)), []⟩,
      ⟨(some 279), (.bsl 5 1 [(.i .i64 (0)), (.i .i64 (0)), (.s []), .ns, .ns] [(0, 5, (.t 278))]), (some (275, true)), []⟩,
      ⟨(some 280), (.call 13 [(.t 276), (.c (.i .i64 (1))), (.t 277), (.t 279), (.c (.i .i64 (5)))]), (some (275, true)), []⟩,
      ⟨(some 281), (.bin .eql (.t 280) (.c (.i .i64 (0)))), (some (275, true)), []⟩,
      ⟨(some 282), (.pick (.t 275) (.t 281) (.c (.b false))), none, []⟩,
      ⟨(some 283), (.mov (.t 282)), none, []⟩,
      ⟨(some 284), (.mov (.t 16)), (some (283, true)), []⟩,
      ⟨(some 285), (.call 14 [(.t 284), (.c (.i .i64 (9)))]), (some (283, true)), []⟩,
      ⟨(some 286), (.bin .eql (.t 285) (.c (.i .i64 (1)))), (some (283, true)), []⟩,
      ⟨(some 287), (.pick (.t 283) (.t 286) (.c (.b false))), none, []⟩,
      ⟨(some 288), (.mov (.t 287)), none, []⟩,
      ⟨(some 289), (.mov (.t 16)), (some (288, true)), []⟩,
      ⟨(some 290), (.call 15 [(.t 289)]), (some (288, true)), []⟩,
      ⟨(some 291), (.bin .eql (.t 290) (.c (.i .i64 (6)))), (some (288, true)), []⟩,
      ⟨(some 292), (.pick (.t 288) (.t 291) (.c (.b false))), none, []⟩,
      ⟨(some 23), (.mov (.t 292)), none, []⟩] [])
    (.seq (.region [⟨(some 294), (.mov (.t 16)), none, []⟩,
      ⟨(some 295), (.call 11 [(.t 294)]), none, []⟩,
      ⟨(some 293), (.mov (.t 295)), none, []⟩,
      ⟨(some 296), (.ext (.t 293) 0), none, []⟩,
      ⟨(some 297), (.ext (.t 293) 1), none, []⟩,
      ⟨(some 298), (.ext (.t 293) 2), none, []⟩,
      ⟨(some 24), (.alloc [(.i .i64 (0)), (.i .i64 (0)), (.s []), .ns, .ns]), none, []⟩,
      ⟨none, (.store 5 (.t 24) (.t 296)), none, []⟩,
      ⟨(some 25), (.mov (.t 297)), none, []⟩,
      ⟨(some 26), (.mov (.t 298)), none, []⟩] [])
    (.seq (.region [⟨(some 299), (.mov (.t 16)), none, []⟩,
      ⟨(some 300), (.call 16 [(.t 299)]), none, []⟩,
      ⟨(some 301), (.bin .eql (.t 300) (.c (.i .i64 (180)))), none, []⟩,
      ⟨(some 302), (.mov (.t 301)), none, []⟩,
      ⟨(some 303), (.mov (.t 16)), (some (302, true)), []⟩,
      ⟨(some 304), (.build [(.i .i64 (0)), (.i .i64 (0)), (.i .i64 (0)), (.s []), .ns, .ns] []), (some (302, true)), []⟩,
      ⟨(some 305), (.call 17 [(.t 303), (.t 304)]), (some (302, true)), []⟩,
      ⟨(some 306), (.bin .eql (.t 305) (.c (.i .i64 (180)))), (some (302, true)), []⟩,
      ⟨(some 307), (.pick (.t 302) (.t 306) (.c (.b false))), none, []⟩,
      ⟨(some 308), (.mov (.t 307)), none, []⟩,
      ⟨(some 309), (.mov (.t 16)), (some (308, true)), []⟩,
      ⟨(some 310), (.call 14 [(.t 309), (.c (.i .i64 (9)))]), (some (308, true)), []⟩,
      ⟨(some 311), (.bin .eql (.t 310) (.c (.i .i64 (0)))), (some (308, true)), []⟩,
      ⟨(some 312), (.pick (.t 308) (.t 311) (.c (.b false))), none, []⟩,
      ⟨(some 313), (.mov (.t 312)), none, []⟩,
      ⟨(some 314), (.mov (.t 16)), (some (313, true)), []⟩,
      ⟨(some 315), (.call 14 [(.t 314), (.c (.i .i64 (-1)))]), (some (313, true)), []⟩,
      ⟨(some 316), (.bin .eql (.t 315) (.c (.i .i64 (0)))), (some (313, true)), []⟩,
      ⟨(some 317), (.pick (.t 313) (.t 316) (.c (.b false))), none, []⟩,
      ⟨(some 318), (.mov (.t 317)), none, []⟩,
      ⟨(some 319), (.mov (.t 26)), (some (318, true)), []⟩,
      ⟨(some 320), (.bin .eql (.t 319) (.c (.i .i64 (0)))), (some (318, true)), []⟩,
      ⟨(some 321), (.pick (.t 318) (.t 320) (.c (.b false))), none, []⟩,
      ⟨(some 322), (.mov (.t 321)), none, []⟩,
      ⟨(some 323), (.load (some 5) (.t 24)), (some (322, true)), []⟩,
      ⟨(some 324), (.call 6 [(.c (.i .i64 (7)))]), (some (322, true)), [(323, (.load (some 5) (.t 24)), (some (322, true)))]⟩,
      ⟨(some 325), (.call 18 [(.t 323), (.t 324)]), (some (322, true)), []⟩,
      ⟨(some 326), (.pick (.t 322) (.t 325) (.c (.b false))), none, []⟩,
      ⟨(some 27), (.mov (.t 326)), none, []⟩] [])
    (.seq (.region [⟨(some 28), (.mov (.c .np)), none, []⟩] [])
    (.seq (.seq (.region [⟨(some 29), (.mov (.c (.i .i64 (0)))), none, []⟩] [])
    (.block 0
      (.loop L3a)))
    (.seq (.region [⟨(some 387), (.mov (.t 11)), none, []⟩,
      ⟨(some 388), (.bin .eql (.t 387) (.c (.i .i64 (170)))), none, []⟩,
      ⟨(some 389), (.mov (.t 388)), none, []⟩,
      ⟨(some 390), (.mov (.t 13)), (some (389, true)), []⟩,
      ⟨(some 391), (.bin .eql (.t 390) (.c (.i .i64 (9)))), (some (389, true)), []⟩,
      ⟨(some 392), (.pick (.t 389) (.t 391) (.c (.b false))), none, []⟩,
      ⟨(some 393), (.mov (.t 392)), none, []⟩,
      ⟨(some 394), (.mov (.t 15)), (some (393, true)), []⟩,
      ⟨(some 395), (.bin .eql (.t 394) (.c (.i .i64 (2)))), (some (393, true)), []⟩,
      ⟨(some 396), (.pick (.t 393) (.t 395) (.c (.b false))), none, []⟩,
      ⟨(some 397), (.mov (.t 396)), none, []⟩,
      ⟨(some 398), (.load (some 5) (.t 18)), (some (397, true)), []⟩,
      ⟨(some 399), (.build [(.i .i64 (0)), (.i .i64 (0)), (.s []), .ns, .ns] []), (some (397, true)), []⟩,
      ⟨(some 400), (.call 18 [(.t 398), (.t 399)]), (some (397, true)), []⟩,
      ⟨(some 401), (.pick (.t 397) (.t 400) (.c (.b false))), none, []⟩,
      ⟨(some 402), (.mov (.t 401)), none, []⟩,
      ⟨(some 403), (.mov (.t 20)), (some (402, true)), []⟩,
      ⟨(some 404), (.bin .eql (.t 403) (.c (.i .i64 (180)))), (some (402, true)), []⟩,
      ⟨(some 405), (.pick (.t 402) (.t 404) (.c (.b false))), none, []⟩,
      ⟨(some 406), (.mov (.t 405)), none, []⟩,
      ⟨(some 407), (.mov (.t 22)), (some (406, true)), []⟩,
      ⟨(some 408), (.bin .eql (.t 407) (.c (.i .i64 (180)))), (some (406, true)), []⟩,
      ⟨(some 409), (.pick (.t 406) (.t 408) (.c (.b false))), none, []⟩,
      ⟨(some 35), (.mov (.t 409)), none, []⟩] [])
    (.seq (.region [⟨(some 410), (.mov (.c (.b true))), none, []⟩,
      ⟨(some 411), (.call 21 []), (some (410, true)), []⟩,
      ⟨(some 412), (.pick (.t 410) (.t 411) (.c (.b false))), none, []⟩,
      ⟨(some 413), (.mov (.t 412)), none, []⟩,
      ⟨(some 414), (.mov (.t 4)), (some (413, true)), []⟩,
      ⟨(some 415), (.pick (.t 413) (.t 414) (.c (.b false))), none, []⟩,
      ⟨(some 416), (.mov (.t 415)), none, []⟩,
      ⟨(some 417), (.mov (.t 5)), (some (416, true)), []⟩,
      ⟨(some 418), (.pick (.t 416) (.t 417) (.c (.b false))), none, []⟩,
      ⟨(some 419), (.mov (.t 418)), none, []⟩,
      ⟨(some 420), (.mov (.t 6)), (some (419, true)), []⟩,
      ⟨(some 421), (.bin .eql (.t 420) (.c (.i .i64 (0)))), (some (419, true)), []⟩,
      ⟨(some 422), (.pick (.t 419) (.t 421) (.c (.b false))), none, []⟩,
      ⟨(some 423), (.mov (.t 422)), none, []⟩,
      ⟨(some 424), (.mov (.t 9)), (some (423, true)), []⟩,
      ⟨(some 425), (.bin .eql (.t 424) (.c (.i .i64 (50)))), (some (423, true)), []⟩,
      ⟨(some 426), (.pick (.t 423) (.t 425) (.c (.b false))), none, []⟩,
      ⟨(some 427), (.mov (.t 426)), none, []⟩,
      ⟨(some 428), (.mov (.t 35)), (some (427, true)), []⟩,
      ⟨(some 429), (.pick (.t 427) (.t 428) (.c (.b false))), none, []⟩,
      ⟨(some 430), (.mov (.t 429)), none, []⟩,
      ⟨(some 431), (.mov (.t 23)), (some (430, true)), []⟩,
      ⟨(some 432), (.pick (.t 430) (.t 431) (.c (.b false))), none, []⟩,
      ⟨(some 433), (.mov (.t 432)), none, []⟩,
      ⟨(some 434), (.mov (.t 27)), (some (433, true)), []⟩,
      ⟨(some 435), (.pick (.t 433) (.t 434) (.c (.b false))), none, []⟩,
      ⟨(some 436), (.mov (.t 435)), none, []⟩,
      ⟨(some 437), (.call 22 []), (some (436, true)), []⟩,
      ⟨(some 438), (.pick (.t 436) (.t 437) (.c (.b false))), none, []⟩,
      ⟨(some 439), (.mov (.t 438)), none, []⟩,
      ⟨(some 440), (.call 23 []), (some (439, true)), []⟩,
      ⟨(some 441), (.pick (.t 439) (.t 440) (.c (.b false))), none, []⟩,
      ⟨(some 0), (.mov (.t 441)), none, []⟩] [])
    .ret))))))))))))))))))),
    442, 0, [.t 0], 0⟩
theorem tr3 : trFunc Tryz.prog [([], []), ([], []), ([1, 4, 0, 2, 3, 5, 6, 7, 8, 10, 9, 11, 12, 13, 14, 16, 19, 15, 17, 18, 20, 21, 22, 23, 25, 26, 28, 24, 27, 29, 30, 31, 32, 34, 36, 33, 35, 37, 38, 39, 40, 45, 48, 41, 42, 43, 44, 46, 47, 49, 50, 51, 52, 54, 57, 53, 55, 56, 58, 59, 60, 61, 63, 65, 62, 64, 66, 67, 68, 69, 70, 72, 71, 73, 74, 75, 76, 77, 79, 78, 80, 81, 82, 83], []), ([1, 4, 5, 7, 0, 2, 3, 6, 8, 9, 10, 12, 14, 15, 16, 17, 11, 13, 18, 19, 20, 21, 22, 24, 25, 23, 26, 27, 28, 29, 30, 31, 32, 33, 34, 35, 36, 37, 38, 39, 40, 41, 42, 43, 44, 45, 46, 47, 50, 53, 48, 49, 51, 52, 54, 55, 56, 57], []), ([], []), ([1, 0, 2, 3, 4, 5, 6, 7, 8, 9], []), ([], []), ([], []), ([], []), ([], []), ([], []), ([], []), ([], []), ([], []), ([0, 1, 2, 3, 4, 5, 6, 7, 8, 9, 10, 11, 12, 13, 14, 15, 16, 17, 18, 19, 20, 21, 22, 23, 24, 25, 26, 27, 28, 29, 30, 31, 32, 33, 34, 35, 36, 37, 38, 39, 40, 41, 42, 43, 44, 45, 46, 47, 48, 49, 50, 51, 52, 53, 54, 55, 56, 57, 58, 59], []), ([], []), ([0, 1, 2, 3, 4, 5, 6, 7, 8, 9, 10, 11, 12, 13, 14, 15, 16, 17, 18, 19, 20, 21, 22, 23, 24, 25, 26, 27, 28], []), ([], []), ([], []), ([], []), ([], []), ([], []), ([], []), ([], []), ([], []), ([], []), ([], []), ([], []), ([], []), ([], [])] 0 Tryz.f3 = some (plain1 I3) := by kernel_rfl
theorem ck3 : ckC 1 I3.body = true := by kernel_rfl

/-- 'encore/encorelaw18.is'. -/
def I4 : IFunc :=
  ⟨(.seq (.region [⟨(some 4), (.alloc [(.i .i64 (0)), (.i .i64 (0)), (.i .i64 (0))]), none, []⟩] [])
    (.seq (.region [⟨(some 5), (.mov (.t 0)), none, []⟩,
      ⟨(some 6), (.mov (.t 1)), none, []⟩,
      ⟨(some 7), (.build [(.i .i64 (0)), (.i .i64 (0)), (.i .i64 (0))] [(0, 1, (.t 5)), (1, 1, (.t 6))]), none, []⟩,
      ⟨none, (.store 3 (.t 4) (.t 7)), none, []⟩] [])
    .ret)),
    8, 2, [.c 4 (some 3)], 0⟩
theorem tr4 : trFunc Tryz.prog [([], []), ([], [])] 0 Tryz.f4 = some (plain1 I4) := by kernel_rfl
theorem ck4 : ckC 1 I4.body = true := by kernel_rfl

/-- 'encore/encorelaw18.done'. -/
def I5 : IFunc :=
  ⟨(.seq (.region [⟨(some 3), (.box (.t 0)), none, []⟩,
      ⟨(some 6), (.mov (.c (.b false))), none, []⟩] [])
    (.seq (.region [⟨(some 12), (.mov (.t 2)), none, []⟩,
      ⟨(some 13), (.call 8 [(.c (.i .i64 (100))), (.t 12)]), none, []⟩,
      ⟨(some 11), (.mov (.t 13)), none, []⟩,
      ⟨(some 14), (.ext (.t 11) 0), none, []⟩,
      ⟨(some 15), (.ext (.t 11) 1), none, []⟩,
      ⟨(some 16), (.ext (.t 11) 2), none, []⟩,
      ⟨(some 17), (.ext (.t 11) 3), none, []⟩,
      ⟨(some 8), (.alloc [(.i .i64 (0)), (.i .i64 (0)), (.s []), .ns, .ns]), none, []⟩,
      ⟨(some 7), (.mov (.t 14)), none, []⟩,
      ⟨none, (.store 5 (.t 8) (.t 15)), none, []⟩,
      ⟨(some 9), (.mov (.t 16)), none, []⟩,
      ⟨(some 10), (.mov (.t 17)), none, []⟩] [])
    (.seq (.region [⟨(some 18), (.mov (.t 7)), none, []⟩,
      ⟨(some 19), (.bin .eql (.t 18) (.c (.i .i64 (2)))), none, []⟩,
      ⟨(some 20), (.mov (.t 19)), none, []⟩,
      ⟨(some 21), (.load (some 5) (.t 8)), (some (20, true)), []⟩,
      ⟨(some 22), (.load (some 5) (.t 3)), (some (20, true)), []⟩,
      ⟨(some 23), (.call 18 [(.t 21), (.t 22)]), (some (20, true)), []⟩,
      ⟨(some 24), (.pick (.t 20) (.t 23) (.c (.b false))), none, []⟩,
      ⟨(some 25), (.mov (.t 24)), none, []⟩,
      ⟨(some 26), (.mov (.t 9)), (some (25, true)), []⟩,
      ⟨(some 27), (.bin .eql (.t 26) (.c (.i .i64 (0)))), (some (25, true)), []⟩,
      ⟨(some 28), (.pick (.t 25) (.t 27) (.c (.b false))), none, []⟩,
      ⟨(some 29), (.mov (.t 28)), none, []⟩,
      ⟨(some 30), (.mov (.t 10)), (some (29, true)), []⟩,
      ⟨(some 31), (.mov (.t 1)), (some (29, true)), []⟩,
      ⟨(some 32), (.bin .eql (.t 30) (.t 31)), (some (29, true)), []⟩,
      ⟨(some 33), (.pick (.t 29) (.t 32) (.c (.b false))), none, []⟩,
      ⟨(some 6), (.mov (.t 33)), none, []⟩] [])
    .ret))),
    34, 3, [.t 6], 2⟩
theorem tr5 : trFunc Tryz.prog [([], []), ([], []), ([], [])] 1 Tryz.f5 = some (plain1 I5) := by kernel_rfl
theorem ck5 : ckC 1 I5.body = true := by kernel_rfl

/-- 'encore/encorelaw18.num'. -/
def I6 : IFunc :=
  ⟨(.seq (.region [⟨(some 2), (.alloc [(.i .i64 (0)), (.i .i64 (0)), (.s []), .ns, .ns]), none, []⟩] [])
    (.seq (.region [⟨(some 3), (.mov (.t 0)), none, []⟩,
      ⟨(some 4), (.build [(.i .i64 (0)), (.i .i64 (0)), (.s []), .ns, .ns] [(0, 1, (.c (.i .i64 (1)))), (1, 1, (.t 3))]), none, []⟩,
      ⟨none, (.store 5 (.t 2) (.t 4)), none, []⟩] [])
    .ret)),
    5, 1, [.c 2 (some 5)], 0⟩
theorem tr6 : trFunc Tryz.prog [([], []), ([], [])] 0 Tryz.f6 = some (plain1 I6) := by kernel_rfl
theorem ck6 : ckC 1 I6.body = true := by kernel_rfl

/-- 'encore/encorelaw18.fails'. -/
def I7 : IFunc :=
  ⟨(.seq (.region [⟨(some 6), (.mov (.c (.b false))), none, []⟩] [])
    (.seq (.region [⟨(some 12), (.mov (.t 2)), none, []⟩,
      ⟨(some 13), (.call 8 [(.c (.i .i64 (100))), (.t 12)]), none, []⟩,
      ⟨(some 11), (.mov (.t 13)), none, []⟩,
      ⟨(some 14), (.ext (.t 11) 0), none, []⟩,
      ⟨(some 15), (.ext (.t 11) 1), none, []⟩,
      ⟨(some 16), (.ext (.t 11) 2), none, []⟩,
      ⟨(some 17), (.ext (.t 11) 3), none, []⟩,
      ⟨(some 8), (.alloc [(.i .i64 (0)), (.i .i64 (0)), (.s []), .ns, .ns]), none, []⟩,
      ⟨(some 7), (.mov (.t 14)), none, []⟩,
      ⟨none, (.store 5 (.t 8) (.t 15)), none, []⟩,
      ⟨(some 9), (.mov (.t 16)), none, []⟩,
      ⟨(some 10), (.mov (.t 17)), none, []⟩] [])
    (.seq (.region [⟨(some 18), (.mov (.t 7)), none, []⟩,
      ⟨(some 19), (.bin .eql (.t 18) (.c (.i .i64 (3)))), none, []⟩,
      ⟨(some 20), (.mov (.t 19)), none, []⟩,
      ⟨(some 21), (.mov (.t 9)), (some (20, true)), []⟩,
      ⟨(some 22), (.mov (.t 0)), (some (20, true)), []⟩,
      ⟨(some 23), (.bin .eql (.t 21) (.t 22)), (some (20, true)), []⟩,
      ⟨(some 24), (.pick (.t 20) (.t 23) (.c (.b false))), none, []⟩,
      ⟨(some 25), (.mov (.t 24)), none, []⟩,
      ⟨(some 26), (.load (some 5) (.t 8)), (some (25, true)), []⟩,
      ⟨(some 27), (.build [(.i .i64 (0)), (.i .i64 (0)), (.s []), .ns, .ns] []), (some (25, true)), []⟩,
      ⟨(some 28), (.call 18 [(.t 26), (.t 27)]), (some (25, true)), []⟩,
      ⟨(some 29), (.pick (.t 25) (.t 28) (.c (.b false))), none, []⟩,
      ⟨(some 30), (.mov (.t 29)), none, []⟩,
      ⟨(some 31), (.mov (.t 10)), (some (30, true)), []⟩,
      ⟨(some 32), (.mov (.t 1)), (some (30, true)), []⟩,
      ⟨(some 33), (.bin .eql (.t 31) (.t 32)), (some (30, true)), []⟩,
      ⟨(some 34), (.pick (.t 30) (.t 33) (.c (.b false))), none, []⟩,
      ⟨(some 6), (.mov (.t 34)), none, []⟩] [])
    .ret))),
    35, 3, [.t 6], 2⟩
theorem tr7 : trFunc Tryz.prog [([], []), ([], []), ([], [])] 1 Tryz.f7 = some (plain1 I7) := by kernel_rfl
theorem ck7 : ckC 1 I7.body = true := by kernel_rfl

/-- 'encore/encorelaw18.ends'. -/
def I8 : IFunc :=
  ⟨(.seq (.region [⟨(some 4), (.mov (.c (.i .i64 (0)))), none, []⟩,
      ⟨(some 5), (.alloc [(.i .i64 (0)), (.i .i64 (0)), (.s []), .ns, .ns]), none, []⟩,
      ⟨(some 6), (.mov (.c (.i .i64 (0)))), none, []⟩,
      ⟨(some 7), (.mov (.c (.i .i64 (0)))), none, []⟩] [])
    (.seq (.region [⟨(some 12), (.mov (.t 1)), none, []⟩,
      ⟨(some 13), (.call 10 [(.t 12)]), none, []⟩,
      ⟨(some 14), (.call 9 [(.t 13), (.c (.i .i64 (0))), (.c .ns)]), none, []⟩,
      ⟨(some 11), (.mov (.t 14)), none, []⟩,
      ⟨(some 15), (.ext (.t 11) 0), none, []⟩,
      ⟨(some 16), (.ext (.t 11) 1), none, []⟩,
      ⟨(some 8), (.mov (.t 15)), none, []⟩,
      ⟨(some 9), (.mov (.t 16)), none, []⟩] [])
    (.seq (.seq (.region [⟨(some 17), (.mov (.t 9)), none, []⟩,
      ⟨(some 18), (.bin .neq (.t 17) (.c (.i .i64 (0)))), none, []⟩] [])
    (.cond (.t 18)
      (.seq (.region [⟨(some 19), (.build [(.i .i64 (0)), (.i .i64 (0)), (.s []), .ns, .ns] []), none, []⟩,
        ⟨(some 4), (.mov (.c (.i .i64 (-1)))), none, []⟩,
        ⟨none, (.store 5 (.t 5) (.t 19)), none, []⟩,
        ⟨(some 6), (.mov (.c (.i .i64 (0)))), none, []⟩,
        ⟨(some 7), (.mov (.c (.i .i64 (0)))), none, []⟩] [])
      .ret)
      .skip))
    (.seq (.region [⟨(some 20), (.mov (.t 8)), none, []⟩,
      ⟨(some 21), (.mov (.t 0)), none, []⟩,
      ⟨(some 22), (.call 14 [(.t 20), (.t 21)]), none, []⟩,
      ⟨(some 10), (.mov (.t 22)), none, []⟩] [])
    (.seq (.region [⟨(some 24), (.mov (.t 8)), none, []⟩,
      ⟨(some 25), (.call 11 [(.t 24)]), none, []⟩,
      ⟨(some 23), (.mov (.t 25)), none, []⟩,
      ⟨(some 26), (.ext (.t 23) 0), none, []⟩,
      ⟨(some 27), (.ext (.t 23) 1), none, []⟩,
      ⟨(some 28), (.ext (.t 23) 2), none, []⟩,
      ⟨none, (.store 5 (.t 5) (.t 26)), none, []⟩,
      ⟨(some 6), (.mov (.t 27)), none, []⟩] [])
    (.seq (.seq (.region [⟨(some 29), (.mov (.t 10)), none, []⟩,
      ⟨(some 30), (.mov (.t 8)), none, []⟩,
      ⟨(some 31), (.call 15 [(.t 30)]), none, []⟩,
      ⟨(some 32), (.bin .neq (.t 29) (.t 31)), none, []⟩] [])
    (.cond (.t 32)
      (.seq (.region [⟨(some 33), (.build [(.i .i64 (0)), (.i .i64 (0)), (.s []), .ns, .ns] []), none, []⟩,
        ⟨(some 4), (.mov (.c (.i .i64 (-1)))), none, []⟩,
        ⟨none, (.store 5 (.t 5) (.t 33)), none, []⟩,
        ⟨(some 6), (.mov (.c (.i .i64 (0)))), none, []⟩,
        ⟨(some 7), (.mov (.c (.i .i64 (0)))), none, []⟩] [])
      .ret)
      .skip))
    (.seq (.region [⟨(some 34), (.mov (.t 8)), none, []⟩,
      ⟨(some 36), (.load (some 5) (.t 5)), none, []⟩,
      ⟨(some 37), (.mov (.t 6)), none, []⟩,
      ⟨(some 38), (.mov (.t 10)), none, []⟩,
      ⟨(some 35), (.call 19 [(.t 34)]), none, [(36, (.load (some 5) (.t 5)), none)]⟩,
      ⟨(some 4), (.mov (.t 35)), none, []⟩,
      ⟨none, (.store 5 (.t 5) (.t 36)), none, []⟩,
      ⟨(some 6), (.mov (.t 37)), none, []⟩,
      ⟨(some 7), (.mov (.t 38)), none, []⟩] [])
    .ret))))))),
    39, 2, [.t 4, .c 5 (some 5), .t 6, .t 7], 0⟩
theorem tr8 : trFunc Tryz.prog [([], []), ([], []), ([], []), ([], []), ([], []), ([], []), ([], []), ([], []), ([], []), ([], []), ([0, 2, 3, 4, 1, 5, 6, 7, 8], [])] 0 Tryz.f8 = some (plain1 I8) := by kernel_rfl
theorem ck8 : ckC 1 I8.body = true := by kernel_rfl

/-- 'encore/base.New'. -/
def L9a : ICode :=
  (.seq (.region [⟨(some 56), (.bin .lss (.t 55) (.t 54)), none, []⟩] [])
    (.seq (.cond (.t 56)
      .skip
      (.exit 0))
    (.seq (.block 1
      (.seq (.region [⟨(some 57), (.mov (.t 55)), none, []⟩,
        ⟨(some 10), (.mov (.t 57)), none, []⟩] [])
      (.seq (.region [⟨(some 58), (.off (.t 3) 0), none, []⟩,
        ⟨(some 59), (.load none (.t 58)), none, []⟩,
        ⟨(some 60), (.mov (.t 10)), none, []⟩,
        ⟨(some 61), (.off (.t 3) 0), none, []⟩,
        ⟨(some 62), (.load none (.t 61)), none, []⟩,
        ⟨(some 63), (.mov (.t 10)), none, []⟩,
        ⟨(some 64), (.iaddr 4 (.t 62) (.t 63)), none, []⟩,
        ⟨(some 65), (.off (.t 64) 3), none, []⟩,
        ⟨(some 66), (.load none (.t 65)), none, []⟩,
        ⟨(some 67), (.call 28 [(.t 66)]), none, [(59, (.load none (.t 58)), none)]⟩,
        ⟨(some 68), (.iaddr 4 (.t 59) (.t 60)), none, []⟩,
        ⟨(some 69), (.off (.t 68) 3), none, []⟩,
        ⟨none, (.store 1 (.t 69) (.t 67)), none, []⟩] [])
      (.seq (.region [⟨(some 71), (.load (some 2) (.t 3)), none, []⟩,
        ⟨(some 72), (.mov (.t 10)), none, []⟩,
        ⟨(some 73), (.call 29 [(.t 71), (.t 72)]), none, []⟩,
        ⟨(some 70), (.mov (.t 73)), none, []⟩,
        ⟨(some 74), (.ext (.t 70) 0), none, []⟩,
        ⟨(some 75), (.ext (.t 70) 1), none, []⟩,
        ⟨(some 11), (.mov (.t 74)), none, []⟩,
        ⟨(some 12), (.mov (.t 75)), none, []⟩] [])
      (.seq (.seq (.region [⟨(some 76), (.mov (.t 12)), none, []⟩,
        ⟨(some 77), (.bin .neq (.t 76) (.c (.i .i64 (0)))), none, []⟩] [])
      (.cond (.t 77)
        (.seq (.region [⟨(some 78), (.mov (.t 12)), none, []⟩,
          ⟨(some 6), (.mov (.c .np)), none, []⟩,
          ⟨(some 7), (.mov (.t 78)), none, []⟩] [])
        .ret)
        .skip))
      (.region [⟨(some 79), (.mov (.t 9)), none, []⟩,
        ⟨(some 80), (.mov (.t 9)), none, []⟩,
        ⟨(some 81), (.nck (.t 80)), none, []⟩,
        ⟨(some 82), (.off (.t 81) 4), none, []⟩,
        ⟨(some 83), (.load none (.t 82)), none, []⟩,
        ⟨(some 84), (.mov (.t 11)), none, []⟩,
        ⟨(some 85), (.bsl 1 1 [.ns] [(0, 1, (.t 84))]), none, []⟩,
        ⟨(some 86), (.app 1 24 (.t 83) (.t 85)), none, []⟩,
        ⟨(some 87), (.nck (.t 79)), none, []⟩,
        ⟨(some 88), (.off (.t 87) 4), none, []⟩,
        ⟨none, (.store 1 (.t 88) (.t 86)), none, []⟩] []))))))
    (.region [⟨(some 89), (.bin .add (.t 55) (.c (.i .i64 (1)))), none, []⟩,
      ⟨(some 55), (.mov (.t 89)), none, []⟩] []))))
def I9 : IFunc :=
  ⟨(.seq (.region [⟨(some 3), (.box (.t 0)), none, []⟩,
      ⟨(some 6), (.mov (.c .np)), none, []⟩,
      ⟨(some 7), (.mov (.c (.i .i64 (0)))), none, []⟩] [])
    (.seq (.seq (.region [⟨(some 13), (.load (some 2) (.t 3)), none, []⟩,
      ⟨(some 14), (.call 24 [(.t 13)]), none, []⟩,
      ⟨(some 8), (.mov (.t 14)), none, []⟩] [])
    (.seq (.region [⟨(some 15), (.mov (.t 8)), none, []⟩,
      ⟨(some 16), (.bin .neq (.t 15) (.c (.i .i64 (0)))), none, []⟩] [])
    (.cond (.t 16)
      (.seq (.region [⟨(some 17), (.mov (.t 8)), none, []⟩,
        ⟨(some 6), (.mov (.c .np)), none, []⟩,
        ⟨(some 7), (.mov (.t 17)), none, []⟩] [])
      .ret)
      .skip)))
    (.seq (.seq (.region [⟨(some 18), (.mov (.t 1)), none, []⟩,
      ⟨(some 19), (.bin .lss (.t 18) (.c (.i .i64 (0)))), none, []⟩,
      ⟨(some 20), (.mov (.t 19)), none, []⟩,
      ⟨(some 21), (.mov (.t 1)), (some (20, false)), []⟩,
      ⟨(some 22), (.off (.t 3) 0), (some (20, false)), []⟩,
      ⟨(some 23), (.load none (.t 22)), (some (20, false)), []⟩,
      ⟨(some 24), (.lenk 0 (.t 23)), (some (20, false)), []⟩,
      ⟨(some 25), (.bin .geq (.t 21) (.t 24)), (some (20, false)), []⟩,
      ⟨(some 26), (.pick (.t 20) (.c (.b true)) (.t 25)), none, []⟩] [])
    (.cond (.t 26)
      (.seq (.region [⟨(some 6), (.mov (.c .np)), none, []⟩,
        ⟨(some 7), (.mov (.c (.i .i64 (9)))), none, []⟩] [])
      .ret)
      .skip))
    (.seq (.seq (.region [⟨(some 27), (.mov (.t 2)), none, []⟩,
      ⟨(some 28), (.lenk 0 (.t 27)), none, []⟩,
      ⟨(some 29), (.off (.t 3) 0), none, []⟩,
      ⟨(some 30), (.load none (.t 29)), none, []⟩,
      ⟨(some 31), (.mov (.t 1)), none, []⟩,
      ⟨(some 32), (.iaddr 4 (.t 30) (.t 31)), none, []⟩,
      ⟨(some 33), (.off (.t 32) 1), none, []⟩,
      ⟨(some 34), (.load none (.t 33)), none, []⟩,
      ⟨(some 35), (.bin .neq (.t 28) (.t 34)), none, []⟩,
      ⟨(some 36), (.mov (.t 35)), none, []⟩,
      ⟨(some 37), (.mov (.t 2)), (some (36, false)), []⟩,
      ⟨(some 38), (.call 25 [(.t 37)]), (some (36, false)), []⟩,
      ⟨(some 39), (.un .not (.t 38)), (some (36, false)), []⟩,
      ⟨(some 40), (.pick (.t 36) (.c (.b true)) (.t 39)), none, []⟩] [])
    (.cond (.t 40)
      (.seq (.region [⟨(some 6), (.mov (.c .np)), none, []⟩,
        ⟨(some 7), (.mov (.c (.i .i64 (2)))), none, []⟩] [])
      .ret)
      .skip))
    (.seq (.region [⟨(some 41), (.off (.t 3) 1), none, []⟩,
      ⟨(some 42), (.load none (.t 41)), none, []⟩,
      ⟨(some 44), (.off (.t 3) 0), none, []⟩,
      ⟨(some 45), (.load none (.t 44)), none, []⟩,
      ⟨(some 43), (.call 26 [(.t 42)]), none, [(45, (.load none (.t 44)), none)]⟩,
      ⟨(some 47), (.off (.t 3) 1), none, []⟩,
      ⟨(some 46), (.call 27 [(.t 45)]), none, []⟩,
      ⟨none, (.store 1 (.t 47) (.t 43)), none, []⟩,
      ⟨(some 48), (.off (.t 3) 0), none, []⟩,
      ⟨none, (.store 1 (.t 48) (.t 46)), none, []⟩] [])
    (.seq (.region [⟨(some 49), (.load (some 2) (.t 3)), none, []⟩,
      ⟨(some 50), (.build [.np, .ns, .ns, .ns, .ns, (.i .i64 (0)), (.i .i64 (0)), (.i .i64 (0)), (.s []), (.i .i64 (0)), (.i .i64 (0)), (.s []), .ns, .ns, .ns, (.i .i64 (0)), (.i .i64 (0)), (.s []), .ns, .ns, (.i .i64 (0))] [(2, 2, (.t 49))]), none, []⟩,
      ⟨(some 51), (.box (.t 50)), none, []⟩,
      ⟨(some 9), (.mov (.t 51)), none, []⟩] [])
    (.seq (.seq (.region [⟨(some 52), (.off (.t 3) 0), none, []⟩,
      ⟨(some 53), (.load none (.t 52)), none, []⟩,
      ⟨(some 54), (.lenk 0 (.t 53)), none, []⟩,
      ⟨(some 55), (.mov (.c (.i .i64 (0)))), none, []⟩] [])
    (.block 0
      (.loop L9a)))
    (.seq (.region [⟨(some 90), (.mov (.t 9)), none, []⟩,
      ⟨(some 91), (.mov (.t 9)), none, []⟩,
      ⟨(some 92), (.mov (.t 1)), none, []⟩,
      ⟨(some 93), (.mov (.t 2)), none, []⟩,
      ⟨(some 94), (.call 26 [(.t 93)]), none, []⟩,
      ⟨(some 95), (.call 30 [(.t 91), (.t 92), (.t 94)]), none, []⟩,
      ⟨(some 96), (.nck (.t 90)), none, []⟩,
      ⟨(some 97), (.off (.t 96) 0), none, []⟩,
      ⟨none, (.store 1 (.t 97) (.t 95)), none, []⟩] [])
    (.seq (.region [⟨(some 98), (.mov (.t 9)), none, []⟩,
      ⟨(some 6), (.mov (.t 98)), none, []⟩,
      ⟨(some 7), (.mov (.c (.i .i64 (0)))), none, []⟩] [])
    .ret))))))))),
    99, 3, [.t 6, .t 7], 0⟩
theorem tr9 : trFunc Tryz.prog [([], []), ([], []), ([], []), ([], []), ([], []), ([], []), ([], []), ([], []), ([], []), ([], []), ([], []), ([0, 1, 3, 4, 2, 6, 5, 7, 8, 9], []), ([], []), ([], []), ([], []), ([], []), ([], []), ([0, 1, 2, 3, 4, 5, 6, 7, 8, 9, 10, 11, 12], []), ([], []), ([], []), ([], []), ([], []), ([], []), ([], []), ([], []), ([], [])] 0 Tryz.f9 = some (plain1 I9) := by kernel_rfl
theorem ck9 : ckC 1 I9.body = true := by kernel_rfl

/-- 'encore/encorelaw18.of'. -/
def I10 : IFunc :=
  ⟨(.seq (.region [⟨(some 2), (.alloc [.ns, .ns]), none, []⟩] [])
    (.seq (.region [⟨(some 4), (.build [(.i .i64 (0)), (.i .i64 (0)), (.s []), .ns, .ns] [(0, 1, (.c (.i .i64 (3)))), (2, 1, (.c (.s [97])))]), none, []⟩,
      ⟨(some 3), (.alloc [(.i .i64 (0)), (.i .i64 (0)), (.s []), .ns, .ns]), none, []⟩,
      ⟨none, (.store 5 (.t 3) (.t 4)), none, []⟩] [])
    (.seq (.region [⟨(some 5), (.mov (.t 0)), none, []⟩,
      ⟨(some 6), (.build [(.s []), (.i .i64 (0)), (.i .i64 (0)), .ns] [(0, 1, (.c (.s [109, 97, 105, 110]))), (2, 1, (.c (.i .i64 (2)))), (3, 1, (.t 5))]), none, []⟩,
      ⟨(some 7), (.bsl 4 1 [(.s []), (.i .i64 (0)), (.i .i64 (0)), .ns] [(0, 4, (.t 6))]), none, []⟩,
      ⟨(some 10), (.build [(.i .i64 (0)), (.i .i64 (0)), (.s []), .ns, .ns] [(0, 1, (.c (.i .i64 (2)))), (1, 1, (.c (.i .i64 (1))))]), none, []⟩,
      ⟨(some 11), (.build [(.i .i64 (0)), (.i .i64 (0)), (.s []), .ns, .ns] [(0, 1, (.c (.i .i64 (3)))), (2, 1, (.c (.s [105, 110, 116])))]), none, []⟩,
      ⟨(some 12), (.load (some 5) (.t 3)), none, []⟩,
      ⟨(some 13), (.bsl 5 1 [(.i .i64 (0)), (.i .i64 (0)), (.s []), .ns, .ns] [(0, 5, (.t 12))]), none, []⟩,
      ⟨(some 14), (.build [(.i .i64 (0)), (.i .i64 (0)), (.s []), .ns, .ns] [(0, 1, (.c (.i .i64 (4)))), (3, 1, (.t 13))]), none, []⟩,
      ⟨(some 15), (.load (some 5) (.t 3)), none, []⟩,
      ⟨(some 8), (.call 6 [(.c (.i .i64 (1)))]), none, [(12, (.load (some 5) (.t 3)), none), (15, (.load (some 5) (.t 3)), none)]⟩,
      ⟨(some 9), (.call 6 [(.c (.i .i64 (0)))]), none, [(12, (.load (some 5) (.t 3)), none), (15, (.load (some 5) (.t 3)), none)]⟩,
      ⟨(some 16), (.bsl 5 6 [(.i .i64 (0)), (.i .i64 (0)), (.s []), .ns, .ns, (.i .i64 (0)), (.i .i64 (0)), (.s []), .ns, .ns, (.i .i64 (0)), (.i .i64 (0)), (.s []), .ns, .ns, (.i .i64 (0)), (.i .i64 (0)), (.s []), .ns, .ns, (.i .i64 (0)), (.i .i64 (0)), (.s []), .ns, .ns, (.i .i64 (0)), (.i .i64 (0)), (.s []), .ns, .ns] [(0, 5, (.t 8)), (5, 5, (.t 9)), (10, 5, (.t 10)), (15, 5, (.t 11)), (20, 5, (.t 14)), (25, 5, (.t 15))]), none, []⟩,
      ⟨(some 17), (.build [.ns, .ns] [(0, 1, (.t 7)), (1, 1, (.t 16))]), none, []⟩,
      ⟨none, (.store 2 (.t 2) (.t 17)), none, []⟩] [])
    .ret))),
    18, 1, [.c 2 (some 2)], 0⟩
theorem tr10 : trFunc Tryz.prog [([], []), ([], []), ([0, 1, 2, 5, 6, 7, 8, 9, 10, 3, 4, 11, 12, 13], [])] 0 Tryz.f10 = some (plain1 I10) := by kernel_rfl
theorem ck10 : ckC 1 I10.body = true := by kernel_rfl

/-- '(*encore/base.Machine).Result'. -/
def I11 : IFunc :=
  ⟨(.seq (.region [⟨(some 2), (.alloc [(.i .i64 (0)), (.i .i64 (0)), (.s []), .ns, .ns]), none, []⟩,
      ⟨(some 3), (.mov (.c (.i .i64 (0)))), none, []⟩,
      ⟨(some 4), (.mov (.c (.i .i64 (0)))), none, []⟩] [])
    (.seq (.block 0
      (.seq (.region [⟨(some 6), (.mov (.t 0)), none, []⟩,
        ⟨(some 7), (.call 31 [(.t 6)]), none, []⟩,
        ⟨(some 5), (.mov (.t 7)), none, []⟩] [])
      (.cond (.t 5)
        (.seq (.region [⟨(some 8), (.build [(.i .i64 (0)), (.i .i64 (0)), (.s []), .ns, .ns] []), none, []⟩,
          ⟨none, (.store 5 (.t 2) (.t 8)), none, []⟩,
          ⟨(some 3), (.mov (.c (.i .i64 (0)))), none, []⟩,
          ⟨(some 4), (.mov (.c (.i .i64 (1)))), none, []⟩] [])
        .ret)
        (.seq (.region [⟨(some 10), (.mov (.t 0)), none, []⟩,
          ⟨(some 11), (.nck (.t 10)), none, []⟩,
          ⟨(some 12), (.off (.t 11) 5), none, []⟩,
          ⟨(some 13), (.load none (.t 12)), none, []⟩,
          ⟨(some 14), (.bin .neq (.t 13) (.c (.i .i64 (2)))), none, []⟩,
          ⟨(some 15), (.mov (.t 14)), none, []⟩,
          ⟨(some 16), (.mov (.t 0)), (some (15, true)), []⟩,
          ⟨(some 17), (.nck (.t 16)), (some (15, true)), []⟩,
          ⟨(some 18), (.off (.t 17) 5), (some (15, true)), []⟩,
          ⟨(some 19), (.load none (.t 18)), (some (15, true)), []⟩,
          ⟨(some 20), (.bin .neq (.t 19) (.c (.i .i64 (3)))), (some (15, true)), []⟩,
          ⟨(some 21), (.pick (.t 15) (.t 20) (.c (.b false))), none, []⟩,
          ⟨(some 9), (.mov (.t 21)), none, []⟩] [])
        (.cond (.t 9)
          (.seq (.region [⟨(some 22), (.build [(.i .i64 (0)), (.i .i64 (0)), (.s []), .ns, .ns] []), none, []⟩,
            ⟨none, (.store 5 (.t 2) (.t 22)), none, []⟩,
            ⟨(some 3), (.mov (.c (.i .i64 (0)))), none, []⟩,
            ⟨(some 4), (.mov (.c (.i .i64 (180)))), none, []⟩] [])
          .ret)
          .skip)))))
    (.seq (.region [⟨(some 23), (.mov (.t 0)), none, []⟩,
      ⟨(some 24), (.nck (.t 23)), none, []⟩,
      ⟨(some 25), (.off (.t 24) 15), none, []⟩,
      ⟨(some 26), (.load (some 5) (.t 25)), none, []⟩,
      ⟨(some 28), (.mov (.t 0)), none, []⟩,
      ⟨(some 29), (.nck (.t 28)), none, []⟩,
      ⟨(some 30), (.off (.t 29) 20), none, []⟩,
      ⟨(some 31), (.load none (.t 30)), none, []⟩,
      ⟨(some 27), (.call 32 [(.t 26)]), none, [(31, (.load none (.t 30)), none)]⟩,
      ⟨none, (.store 5 (.t 2) (.t 27)), none, [(31, (.load none (.t 30)), none)]⟩,
      ⟨(some 3), (.mov (.t 31)), none, []⟩,
      ⟨(some 4), (.mov (.c (.i .i64 (0)))), none, []⟩] [])
    .ret))),
    32, 1, [.c 2 (some 5), .t 3, .t 4], 0⟩
theorem tr11 : trFunc Tryz.prog [([], []), ([], []), ([], []), ([], []), ([], []), ([], []), ([0, 1, 2, 3, 5, 6, 7, 8, 4, 9, 10, 11], [])] 0 Tryz.f11 = some (plain1 I11) := by kernel_rfl
theorem ck11 : ckC 1 I11.body = true := by kernel_rfl

/-- '(*encore/base.Machine).Request'. -/
def I12 : IFunc :=
  ⟨(.seq (.region [⟨(some 2), (.alloc [(.i .i64 (0)), (.s []), (.i .i64 (0)), (.i .i64 (0)), (.s []), .ns, .ns, .ns]), none, []⟩,
      ⟨(some 3), (.mov (.c (.i .i64 (0)))), none, []⟩] [])
    (.seq (.block 0
      (.seq (.region [⟨(some 6), (.mov (.t 0)), none, []⟩,
        ⟨(some 7), (.call 31 [(.t 6)]), none, []⟩,
        ⟨(some 5), (.mov (.t 7)), none, []⟩] [])
      (.cond (.t 5)
        (.seq (.region [⟨(some 8), (.build [(.i .i64 (0)), (.s []), (.i .i64 (0)), (.i .i64 (0)), (.s []), .ns, .ns, .ns] []), none, []⟩,
          ⟨none, (.store 8 (.t 2) (.t 8)), none, []⟩,
          ⟨(some 3), (.mov (.c (.i .i64 (1)))), none, []⟩] [])
        .ret)
        (.seq (.region [⟨(some 10), (.mov (.t 0)), none, []⟩,
          ⟨(some 11), (.nck (.t 10)), none, []⟩,
          ⟨(some 12), (.off (.t 11) 5), none, []⟩,
          ⟨(some 13), (.load none (.t 12)), none, []⟩,
          ⟨(some 14), (.bin .neq (.t 13) (.c (.i .i64 (1)))), none, []⟩,
          ⟨(some 9), (.mov (.t 14)), none, []⟩] [])
        (.cond (.t 9)
          (.seq (.region [⟨(some 15), (.build [(.i .i64 (0)), (.s []), (.i .i64 (0)), (.i .i64 (0)), (.s []), .ns, .ns, .ns] []), none, []⟩,
            ⟨none, (.store 8 (.t 2) (.t 15)), none, []⟩,
            ⟨(some 3), (.mov (.c (.i .i64 (180)))), none, []⟩] [])
          .ret)
          .skip)))))
    (.seq (.region [⟨(some 16), (.mov (.t 0)), none, []⟩,
      ⟨(some 17), (.nck (.t 16)), none, []⟩,
      ⟨(some 18), (.off (.t 17) 7), none, []⟩,
      ⟨(some 19), (.load (some 8) (.t 18)), none, []⟩,
      ⟨(some 4), (.alloc [(.i .i64 (0)), (.s []), (.i .i64 (0)), (.i .i64 (0)), (.s []), .ns, .ns, .ns]), none, []⟩,
      ⟨none, (.store 8 (.t 4) (.t 19)), none, []⟩] [])
    (.seq (.region [⟨(some 20), (.off (.t 4) 2), none, []⟩,
      ⟨(some 21), (.load (some 5) (.t 20)), none, []⟩,
      ⟨(some 23), (.off (.t 4) 7), none, []⟩,
      ⟨(some 24), (.load none (.t 23)), none, []⟩,
      ⟨(some 22), (.call 32 [(.t 21)]), none, [(24, (.load none (.t 23)), none)]⟩,
      ⟨(some 26), (.off (.t 4) 2), none, []⟩,
      ⟨(some 25), (.call 33 [(.t 24)]), none, []⟩,
      ⟨none, (.store 5 (.t 26) (.t 22)), none, []⟩,
      ⟨(some 27), (.off (.t 4) 7), none, []⟩,
      ⟨none, (.store 1 (.t 27) (.t 25)), none, []⟩] [])
    (.seq (.region [⟨(some 28), (.load (some 8) (.t 4)), none, []⟩,
      ⟨none, (.store 8 (.t 2) (.t 28)), none, []⟩,
      ⟨(some 3), (.mov (.c (.i .i64 (0)))), none, []⟩] [])
    .ret))))),
    29, 1, [.c 2 (some 8), .t 3], 0⟩
theorem tr12 : trFunc Tryz.prog [([], []), ([], []), ([], []), ([], []), ([], []), ([], []), ([], []), ([0, 1, 3, 4, 2, 6, 5, 7, 8, 9], []), ([], [])] 0 Tryz.f12 = some (plain1 I12) := by kernel_rfl
theorem ck12 : ckC 1 I12.body = true := by kernel_rfl

/-- '(*encore/base.Machine).Put'. -/
def I13 : IFunc :=
  ⟨(.seq (.region [⟨(some 10), (.mov (.c (.i .i64 (0)))), none, []⟩] [])
    (.seq (.block 0
      (.seq (.region [⟨(some 13), (.mov (.t 0)), none, []⟩,
        ⟨(some 14), (.call 31 [(.t 13)]), none, []⟩,
        ⟨(some 12), (.mov (.t 14)), none, []⟩] [])
      (.cond (.t 12)
        (.seq (.region [⟨(some 10), (.mov (.c (.i .i64 (1)))), none, []⟩] [])
        .ret)
        (.seq (.region [⟨(some 16), (.mov (.t 0)), none, []⟩,
          ⟨(some 17), (.nck (.t 16)), none, []⟩,
          ⟨(some 18), (.off (.t 17) 5), none, []⟩,
          ⟨(some 19), (.load none (.t 18)), none, []⟩,
          ⟨(some 20), (.bin .neq (.t 19) (.c (.i .i64 (0)))), none, []⟩,
          ⟨(some 15), (.mov (.t 20)), none, []⟩] [])
        (.cond (.t 15)
          (.seq (.region [⟨(some 10), (.mov (.c (.i .i64 (180)))), none, []⟩] [])
          .ret)
          .skip)))))
    (.seq (.region [⟨(some 21), (.mov (.t 0)), none, []⟩,
      ⟨(some 22), (.nck (.t 21)), none, []⟩,
      ⟨(some 23), (.off (.t 22) 4), none, []⟩,
      ⟨(some 24), (.load none (.t 23)), none, []⟩,
      ⟨(some 25), (.mov (.t 0)), none, []⟩,
      ⟨(some 26), (.nck (.t 25)), none, []⟩,
      ⟨(some 27), (.off (.t 26) 0), none, []⟩,
      ⟨(some 28), (.load none (.t 27)), none, []⟩,
      ⟨(some 29), (.nck (.t 28)), none, []⟩,
      ⟨(some 30), (.off (.t 29) 0), none, []⟩,
      ⟨(some 31), (.off (.t 30) 0), none, []⟩,
      ⟨(some 32), (.load none (.t 31)), none, []⟩,
      ⟨(some 33), (.iaddr 1 (.t 24) (.t 32)), none, []⟩,
      ⟨(some 34), (.load none (.t 33)), none, []⟩,
      ⟨(some 11), (.mov (.t 34)), none, []⟩] [])
    (.seq (.seq (.region [⟨(some 35), (.mov (.t 1)), none, []⟩,
      ⟨(some 36), (.bin .lss (.t 35) (.c (.i .i64 (0)))), none, []⟩,
      ⟨(some 37), (.mov (.t 36)), none, []⟩,
      ⟨(some 38), (.mov (.t 1)), (some (37, false)), []⟩,
      ⟨(some 39), (.mov (.t 11)), (some (37, false)), []⟩,
      ⟨(some 40), (.lenk 0 (.t 39)), (some (37, false)), []⟩,
      ⟨(some 41), (.bin .geq (.t 38) (.t 40)), (some (37, false)), []⟩,
      ⟨(some 42), (.pick (.t 37) (.c (.b true)) (.t 41)), none, []⟩,
      ⟨(some 43), (.mov (.t 42)), none, []⟩,
      ⟨(some 44), (.mov (.t 11)), (some (43, false)), []⟩,
      ⟨(some 45), (.mov (.t 1)), (some (43, false)), []⟩,
      ⟨(some 46), (.iaddr 3 (.t 44) (.t 45)), (some (43, false)), []⟩,
      ⟨(some 47), (.off (.t 46) 0), (some (43, false)), []⟩,
      ⟨(some 48), (.load none (.t 47)), (some (43, false)), []⟩,
      ⟨(some 49), (.un .not (.t 48)), (some (43, false)), []⟩,
      ⟨(some 50), (.pick (.t 43) (.c (.b true)) (.t 49)), none, []⟩,
      ⟨(some 51), (.mov (.t 50)), none, []⟩,
      ⟨(some 52), (.mov (.t 11)), (some (51, false)), []⟩,
      ⟨(some 53), (.mov (.t 1)), (some (51, false)), []⟩,
      ⟨(some 54), (.iaddr 3 (.t 52) (.t 53)), (some (51, false)), []⟩,
      ⟨(some 55), (.off (.t 54) 1), (some (51, false)), []⟩,
      ⟨(some 56), (.load none (.t 55)), (some (51, false)), []⟩,
      ⟨(some 57), (.mov (.t 3)), (some (51, false)), []⟩,
      ⟨(some 58), (.lenk 0 (.t 57)), (some (51, false)), []⟩,
      ⟨(some 59), (.bin .neq (.t 56) (.t 58)), (some (51, false)), []⟩,
      ⟨(some 60), (.pick (.t 51) (.c (.b true)) (.t 59)), none, []⟩,
      ⟨(some 61), (.mov (.t 60)), none, []⟩,
      ⟨(some 62), (.mov (.t 11)), (some (61, false)), []⟩,
      ⟨(some 63), (.mov (.t 1)), (some (61, false)), []⟩,
      ⟨(some 64), (.iaddr 3 (.t 62) (.t 63)), (some (61, false)), []⟩,
      ⟨(some 65), (.off (.t 64) 2), (some (61, false)), []⟩,
      ⟨(some 66), (.load none (.t 65)), (some (61, false)), []⟩,
      ⟨(some 67), (.mov (.t 0)), (some (61, false)), []⟩,
      ⟨(some 68), (.nck (.t 67)), (some (61, false)), []⟩,
      ⟨(some 69), (.off (.t 68) 0), (some (61, false)), []⟩,
      ⟨(some 70), (.load none (.t 69)), (some (61, false)), []⟩,
      ⟨(some 71), (.nck (.t 70)), (some (61, false)), []⟩,
      ⟨(some 72), (.off (.t 71) 0), (some (61, false)), []⟩,
      ⟨(some 73), (.off (.t 72) 4), (some (61, false)), []⟩,
      ⟨(some 74), (.load none (.t 73)), (some (61, false)), []⟩,
      ⟨(some 75), (.call 34 [(.t 66), (.t 74)]), (some (61, false)), []⟩,
      ⟨(some 76), (.un .not (.t 75)), (some (61, false)), []⟩,
      ⟨(some 77), (.pick (.t 61) (.c (.b true)) (.t 76)), none, []⟩] [])
    (.cond (.t 77)
      (.seq (.region [⟨(some 10), (.mov (.c (.i .i64 (2)))), none, []⟩] [])
      .ret)
      .skip))
    (.seq (.seq (.region [⟨(some 78), (.mov (.t 2)), none, []⟩,
      ⟨(some 79), (.lenk 0 (.t 78)), none, []⟩,
      ⟨(some 80), (.mov (.t 0)), none, []⟩,
      ⟨(some 81), (.nck (.t 80)), none, []⟩,
      ⟨(some 82), (.off (.t 81) 0), none, []⟩,
      ⟨(some 83), (.load none (.t 82)), none, []⟩,
      ⟨(some 84), (.nck (.t 83)), none, []⟩,
      ⟨(some 85), (.off (.t 84) 0), none, []⟩,
      ⟨(some 86), (.off (.t 85) 2), none, []⟩,
      ⟨(some 87), (.load none (.t 86)), none, []⟩,
      ⟨(some 88), (.lenk 0 (.t 87)), none, []⟩,
      ⟨(some 89), (.bin .neq (.t 79) (.t 88)), none, []⟩,
      ⟨(some 90), (.mov (.t 89)), none, []⟩,
      ⟨(some 91), (.mov (.t 2)), (some (90, false)), []⟩,
      ⟨(some 92), (.call 25 [(.t 91)]), (some (90, false)), []⟩,
      ⟨(some 93), (.un .not (.t 92)), (some (90, false)), []⟩,
      ⟨(some 94), (.pick (.t 90) (.c (.b true)) (.t 93)), none, []⟩,
      ⟨(some 95), (.mov (.t 94)), none, []⟩,
      ⟨(some 96), (.mov (.t 3)), (some (95, false)), []⟩,
      ⟨(some 97), (.call 25 [(.t 96)]), (some (95, false)), []⟩,
      ⟨(some 98), (.un .not (.t 97)), (some (95, false)), []⟩,
      ⟨(some 99), (.pick (.t 95) (.c (.b true)) (.t 98)), none, []⟩,
      ⟨(some 100), (.mov (.t 99)), none, []⟩,
      ⟨(some 101), (.mov (.t 4)), (some (100, false)), []⟩,
      ⟨(some 102), (.bin .lss (.t 101) (.c (.i .i64 (0)))), (some (100, false)), []⟩,
      ⟨(some 103), (.pick (.t 100) (.c (.b true)) (.t 102)), none, []⟩,
      ⟨(some 104), (.mov (.t 103)), none, []⟩,
      ⟨(some 105), (.mov (.t 4)), (some (104, false)), []⟩,
      ⟨(some 106), (.mov (.t 0)), (some (104, false)), []⟩,
      ⟨(some 107), (.nck (.t 106)), (some (104, false)), []⟩,
      ⟨(some 108), (.off (.t 107) 6), (some (104, false)), []⟩,
      ⟨(some 109), (.load none (.t 108)), (some (104, false)), []⟩,
      ⟨(some 110), (.bin .sub (.c (.i .i64 (9007199254740991))) (.t 109)), (some (104, false)), []⟩,
      ⟨(some 111), (.bin .gtr (.t 105) (.t 110)), (some (104, false)), []⟩,
      ⟨(some 112), (.pick (.t 104) (.c (.b true)) (.t 111)), none, []⟩] [])
    (.cond (.t 112)
      (.seq (.region [⟨(some 10), (.mov (.c (.i .i64 (2)))), none, []⟩] [])
      .ret)
      .skip))
    (.seq (.region [⟨(some 113), (.mov (.t 0)), none, []⟩,
      ⟨(some 114), (.nck (.t 113)), none, []⟩,
      ⟨(some 115), (.off (.t 114) 0), none, []⟩,
      ⟨(some 116), (.load none (.t 115)), none, []⟩,
      ⟨(some 117), (.mov (.t 0)), none, []⟩,
      ⟨(some 118), (.nck (.t 117)), none, []⟩,
      ⟨(some 119), (.off (.t 118) 0), none, []⟩,
      ⟨(some 120), (.load none (.t 119)), none, []⟩,
      ⟨(some 121), (.mov (.t 0)), none, []⟩,
      ⟨(some 122), (.nck (.t 121)), none, []⟩,
      ⟨(some 123), (.off (.t 122) 0), none, []⟩,
      ⟨(some 124), (.load none (.t 123)), none, []⟩,
      ⟨(some 125), (.mov (.t 1)), none, []⟩,
      ⟨(some 126), (.mov (.t 2)), none, []⟩,
      ⟨(some 128), (.mov (.t 3)), none, []⟩,
      ⟨(some 127), (.call 26 [(.t 126)]), none, [(116, (.load none (.t 115)), none), (120, (.load none (.t 119)), none), (124, (.load none (.t 123)), none)]⟩,
      ⟨(some 129), (.call 26 [(.t 128)]), none, [(116, (.load none (.t 115)), none), (120, (.load none (.t 119)), none), (124, (.load none (.t 123)), none)]⟩,
      ⟨(some 130), (.nck (.t 116)), none, []⟩,
      ⟨(some 131), (.off (.t 130) 0), none, []⟩,
      ⟨(some 132), (.off (.t 131) 1), none, []⟩,
      ⟨none, (.store 1 (.t 132) (.t 125)), none, []⟩,
      ⟨(some 133), (.nck (.t 120)), none, []⟩,
      ⟨(some 134), (.off (.t 133) 0), none, []⟩,
      ⟨(some 135), (.off (.t 134) 2), none, []⟩,
      ⟨none, (.store 1 (.t 135) (.t 127)), none, []⟩,
      ⟨(some 136), (.nck (.t 124)), none, []⟩,
      ⟨(some 137), (.off (.t 136) 0), none, []⟩,
      ⟨(some 138), (.off (.t 137) 3), none, []⟩,
      ⟨none, (.store 1 (.t 138) (.t 129)), none, []⟩] [])
    (.seq (.region [⟨(some 139), (.mov (.t 0)), none, []⟩,
      ⟨(some 140), (.nck (.t 139)), none, []⟩,
      ⟨(some 141), (.off (.t 140) 6), none, []⟩,
      ⟨(some 142), (.load none (.t 141)), none, []⟩,
      ⟨(some 143), (.mov (.t 4)), none, []⟩,
      ⟨(some 144), (.bin .add (.t 142) (.t 143)), none, []⟩,
      ⟨(some 145), (.nck (.t 139)), none, []⟩,
      ⟨(some 146), (.off (.t 145) 6), none, []⟩,
      ⟨none, (.store 1 (.t 146) (.t 144)), none, []⟩] [])
    (.seq (.region [⟨(some 10), (.mov (.c (.i .i64 (0)))), none, []⟩] [])
    .ret)))))))),
    147, 5, [.t 10], 0⟩
theorem tr13 : trFunc Tryz.prog [([], []), ([], []), ([], []), ([], []), ([], []), ([], []), ([0, 1, 2, 3, 4, 5, 6, 7, 8, 9, 10, 11, 12, 13, 14], []), ([0, 1, 2, 3, 4, 5, 6, 7, 8, 9, 10, 11, 12, 13, 14, 15, 16, 17, 18, 19, 20, 21, 22, 23, 24, 25, 26, 27, 28, 29, 30, 31, 32, 33, 34, 35, 36, 37, 38, 39, 40, 41, 42], []), ([], []), ([], []), ([], []), ([], []), ([], []), ([0, 1, 2, 3, 4, 5, 6, 7, 8, 9, 10, 11, 12, 13, 15, 14, 16, 17, 18, 19, 20, 21, 22, 23, 24, 25, 26, 27, 28], []), ([], []), ([], [])] 0 Tryz.f13 = some (plain1 I13) := by kernel_rfl
theorem ck13 : ckC 1 I13.body = true := by kernel_rfl

/-- '(*encore/base.Machine).Run'. -/
def L14a : ICode :=
  (.seq (.seq (.region [⟨(some 6), (.mov (.t 5)), none, []⟩,
      ⟨(some 7), (.mov (.t 1)), none, []⟩,
      ⟨(some 8), (.bin .lss (.t 6) (.t 7)), none, []⟩,
      ⟨(some 9), (.mov (.t 8)), none, []⟩,
      ⟨(some 10), (.mov (.t 0)), (some (9, true)), []⟩,
      ⟨(some 11), (.call 16 [(.t 10)]), (some (9, true)), []⟩,
      ⟨(some 12), (.bin .eql (.t 11) (.c (.i .i64 (0)))), (some (9, true)), []⟩,
      ⟨(some 13), (.pick (.t 9) (.t 12) (.c (.b false))), none, []⟩] [])
    (.cond (.t 13)
      .skip
      (.exit 0)))
    (.block 1
      (.region [⟨(some 14), (.mov (.t 5)), none, []⟩,
        ⟨(some 15), (.bin .add (.t 14) (.c (.i .i64 (1)))), none, []⟩,
        ⟨(some 5), (.mov (.t 15)), none, []⟩] [])))
def I14 : IFunc :=
  ⟨(.seq (.region [⟨(some 4), (.mov (.c (.i .i64 (0)))), none, []⟩] [])
    (.seq (.region [⟨(some 5), (.mov (.c (.i .i64 (0)))), none, []⟩] [])
    (.seq (.block 0
      (.loop L14a))
    (.seq (.region [⟨(some 16), (.mov (.t 5)), none, []⟩,
      ⟨(some 4), (.mov (.t 16)), none, []⟩] [])
    .ret)))),
    17, 2, [.t 4], 0⟩
theorem tr14 : trFunc Tryz.prog [([], []), ([], []), ([], []), ([], []), ([], []), ([], [])] 0 Tryz.f14 = some (plain1 I14) := by kernel_rfl
theorem ck14 : ckC 1 I14.body = true := by kernel_rfl

/-- '(*encore/base.Machine).Count'. -/
def I15 : IFunc :=
  ⟨(.seq (.region [⟨(some 2), (.mov (.c (.i .i64 (0)))), none, []⟩] [])
    (.seq (.seq (.region [⟨(some 3), (.mov (.t 0)), none, []⟩,
      ⟨(some 4), (.call 31 [(.t 3)]), none, []⟩] [])
    (.cond (.t 4)
      (.seq (.region [⟨(some 2), (.mov (.c (.i .i64 (0)))), none, []⟩] [])
      .ret)
      .skip))
    (.seq (.region [⟨(some 5), (.mov (.t 0)), none, []⟩,
      ⟨(some 6), (.nck (.t 5)), none, []⟩,
      ⟨(some 7), (.off (.t 6) 6), none, []⟩,
      ⟨(some 8), (.load none (.t 7)), none, []⟩,
      ⟨(some 2), (.mov (.t 8)), none, []⟩] [])
    .ret))),
    9, 1, [.t 2], 0⟩
theorem tr15 : trFunc Tryz.prog [([], []), ([], []), ([], []), ([], []), ([], [])] 0 Tryz.f15 = some (plain1 I15) := by kernel_rfl
theorem ck15 : ckC 1 I15.body = true := by kernel_rfl

/-- '(*encore/base.Machine).Step'. -/
def I16 : IFunc :=
  ⟨(.seq (.region [⟨(some 2), (.mov (.c (.i .i64 (0)))), none, []⟩] [])
    (.seq (.block 0
      (.seq (.region [⟨(some 5), (.mov (.t 0)), none, []⟩,
        ⟨(some 6), (.call 31 [(.t 5)]), none, []⟩,
        ⟨(some 4), (.mov (.t 6)), none, []⟩] [])
      (.cond (.t 4)
        (.seq (.region [⟨(some 2), (.mov (.c (.i .i64 (1)))), none, []⟩] [])
        .ret)
        (.seq (.region [⟨(some 8), (.mov (.t 0)), none, []⟩,
          ⟨(some 9), (.nck (.t 8)), none, []⟩,
          ⟨(some 10), (.off (.t 9) 5), none, []⟩,
          ⟨(some 11), (.load none (.t 10)), none, []⟩,
          ⟨(some 12), (.bin .neq (.t 11) (.c (.i .i64 (0)))), none, []⟩,
          ⟨(some 7), (.mov (.t 12)), none, []⟩] [])
        (.cond (.t 7)
          (.seq (.region [⟨(some 2), (.mov (.c (.i .i64 (180)))), none, []⟩] [])
          .ret)
          .skip)))))
    (.seq (.region [⟨(some 13), (.mov (.t 0)), none, []⟩,
      ⟨(some 14), (.nck (.t 13)), none, []⟩,
      ⟨(some 15), (.off (.t 14) 2), none, []⟩,
      ⟨(some 16), (.off (.t 15) 0), none, []⟩,
      ⟨(some 17), (.load none (.t 16)), none, []⟩,
      ⟨(some 18), (.mov (.t 0)), none, []⟩,
      ⟨(some 19), (.nck (.t 18)), none, []⟩,
      ⟨(some 20), (.off (.t 19) 0), none, []⟩,
      ⟨(some 21), (.load none (.t 20)), none, []⟩,
      ⟨(some 22), (.nck (.t 21)), none, []⟩,
      ⟨(some 23), (.off (.t 22) 0), none, []⟩,
      ⟨(some 24), (.off (.t 23) 0), none, []⟩,
      ⟨(some 25), (.load none (.t 24)), none, []⟩,
      ⟨(some 26), (.iaddr 4 (.t 17) (.t 25)), none, []⟩,
      ⟨(some 27), (.off (.t 26) 3), none, []⟩,
      ⟨(some 28), (.load none (.t 27)), none, []⟩,
      ⟨(some 29), (.mov (.t 0)), none, []⟩,
      ⟨(some 30), (.nck (.t 29)), none, []⟩,
      ⟨(some 31), (.off (.t 30) 0), none, []⟩,
      ⟨(some 32), (.load none (.t 31)), none, []⟩,
      ⟨(some 33), (.nck (.t 32)), none, []⟩,
      ⟨(some 34), (.off (.t 33) 0), none, []⟩,
      ⟨(some 35), (.off (.t 34) 1), none, []⟩,
      ⟨(some 36), (.load none (.t 35)), none, []⟩,
      ⟨(some 37), (.iaddr 3 (.t 28) (.t 36)), none, []⟩,
      ⟨(some 38), (.load (some 3) (.t 37)), none, []⟩,
      ⟨(some 3), (.alloc [(.i .i64 (0)), (.i .i64 (0)), (.i .i64 (0))]), none, []⟩,
      ⟨none, (.store 3 (.t 3) (.t 38)), none, []⟩] [])
    (.seq (.region [⟨(some 39), (.mov (.t 0)), none, []⟩,
      ⟨(some 40), (.nck (.t 39)), none, []⟩,
      ⟨(some 41), (.off (.t 40) 0), none, []⟩,
      ⟨(some 42), (.load none (.t 41)), none, []⟩,
      ⟨(some 43), (.nck (.t 42)), none, []⟩,
      ⟨(some 44), (.off (.t 43) 0), none, []⟩,
      ⟨(some 45), (.off (.t 44) 1), none, []⟩,
      ⟨(some 46), (.load none (.t 45)), none, []⟩,
      ⟨(some 47), (.bin .add (.t 46) (.c (.i .i64 (1)))), none, []⟩,
      ⟨(some 48), (.nck (.t 42)), none, []⟩,
      ⟨(some 49), (.off (.t 48) 0), none, []⟩,
      ⟨(some 50), (.off (.t 49) 1), none, []⟩,
      ⟨none, (.store 1 (.t 50) (.t 47)), none, []⟩] [])
    (.seq (.region [⟨(some 51), (.mov (.t 0)), none, []⟩,
      ⟨(some 52), (.nck (.t 51)), none, []⟩,
      ⟨(some 53), (.off (.t 52) 6), none, []⟩,
      ⟨(some 54), (.load none (.t 53)), none, []⟩,
      ⟨(some 55), (.bin .add (.t 54) (.c (.i .i64 (1)))), none, []⟩,
      ⟨(some 56), (.nck (.t 51)), none, []⟩,
      ⟨(some 57), (.off (.t 56) 6), none, []⟩,
      ⟨none, (.store 1 (.t 57) (.t 55)), none, []⟩] [])
    (.seq (.region [⟨(some 58), (.mov (.t 0)), none, []⟩,
      ⟨(some 59), (.off (.t 3) 0), none, []⟩,
      ⟨(some 60), (.load none (.t 59)), none, []⟩,
      ⟨(some 62), (.load (some 3) (.t 3)), none, []⟩,
      ⟨(some 61), (.call 35 [(.t 58), (.t 60)]), none, [(62, (.load (some 3) (.t 3)), none)]⟩,
      ⟨(some 63), (.callv (.t 61) [(.t 62)]), none, []⟩] [])
    (.seq (.region [⟨(some 2), (.mov (.c (.i .i64 (0)))), none, []⟩] [])
    .ret))))))),
    64, 1, [.t 2], 0⟩
theorem tr16 : trFunc Tryz.prog [([], []), ([], []), ([], []), ([], []), ([], []), ([], []), ([0, 1, 2, 3, 4, 5, 6, 7, 8, 9, 10, 11, 12, 13, 14, 15, 16, 17, 18, 19, 20, 21, 22, 23, 24, 25, 26, 27], []), ([], []), ([], []), ([0, 1, 2, 4, 3, 5], []), ([], [])] 0 Tryz.f16 = some (plain1 I16) := by kernel_rfl
theorem ck16 : ckC 1 I16.body = true := by kernel_rfl

/-- '(*encore/base.Machine).Answer'. -/
def I17 : IFunc :=
  ⟨(.seq (.region [⟨(some 3), (.box (.t 1)), none, []⟩,
      ⟨(some 4), (.mov (.c (.i .i64 (0)))), none, []⟩] [])
    (.seq (.block 0
      (.seq (.region [⟨(some 6), (.mov (.t 0)), none, []⟩,
        ⟨(some 7), (.call 31 [(.t 6)]), none, []⟩,
        ⟨(some 5), (.mov (.t 7)), none, []⟩] [])
      (.cond (.t 5)
        (.seq (.region [⟨(some 4), (.mov (.c (.i .i64 (1)))), none, []⟩] [])
        .ret)
        (.seq (.region [⟨(some 9), (.mov (.t 0)), none, []⟩,
          ⟨(some 10), (.nck (.t 9)), none, []⟩,
          ⟨(some 11), (.off (.t 10) 5), none, []⟩,
          ⟨(some 12), (.load none (.t 11)), none, []⟩,
          ⟨(some 13), (.bin .neq (.t 12) (.c (.i .i64 (1)))), none, []⟩,
          ⟨(some 8), (.mov (.t 13)), none, []⟩] [])
        (.cond (.t 8)
          (.seq (.region [⟨(some 4), (.mov (.c (.i .i64 (180)))), none, []⟩] [])
          .ret)
          (.seq (.region [⟨(some 15), (.off (.t 3) 1), none, []⟩,
            ⟨(some 16), (.load (some 5) (.t 15)), none, []⟩,
            ⟨(some 17), (.call 36 [(.t 16)]), none, []⟩,
            ⟨(some 18), (.bin .neq (.t 17) (.c (.i .i64 (0)))), none, []⟩,
            ⟨(some 14), (.mov (.t 18)), none, []⟩] [])
          (.cond (.t 14)
            (.seq (.region [⟨(some 4), (.mov (.c (.i .i64 (2)))), none, []⟩] [])
            .ret)
            .skip)))))))
    (.seq (.region [⟨(some 19), (.mov (.t 0)), none, []⟩,
      ⟨(some 20), (.mov (.t 0)), none, []⟩,
      ⟨(some 21), (.build [(.i .i64 (0)), (.s []), (.i .i64 (0)), (.i .i64 (0)), (.s []), .ns, .ns, .ns] []), none, []⟩,
      ⟨(some 22), (.nck (.t 19)), none, []⟩,
      ⟨(some 23), (.off (.t 22) 5), none, []⟩,
      ⟨none, (.store 1 (.t 23) (.c (.i .i64 (0)))), none, []⟩,
      ⟨(some 24), (.nck (.t 20)), none, []⟩,
      ⟨(some 25), (.off (.t 24) 7), none, []⟩,
      ⟨none, (.store 8 (.t 25) (.t 21)), none, []⟩] [])
    (.seq (.region [⟨(some 26), (.mov (.t 0)), none, []⟩,
      ⟨(some 27), (.off (.t 3) 1), none, []⟩,
      ⟨(some 28), (.load (some 5) (.t 27)), none, []⟩,
      ⟨(some 30), (.off (.t 3) 0), none, []⟩,
      ⟨(some 31), (.load none (.t 30)), none, []⟩,
      ⟨(some 29), (.call 32 [(.t 28)]), none, [(31, (.load none (.t 30)), none)]⟩,
      ⟨(some 32), (.call 37 [(.t 26), (.t 29), (.t 31), (.c (.i .i64 (0)))]), none, []⟩] [])
    (.seq (.region [⟨(some 4), (.mov (.c (.i .i64 (0)))), none, []⟩] [])
    .ret))))),
    33, 2, [.t 4], 0⟩
theorem tr17 : trFunc Tryz.prog [([], []), ([], []), ([], []), ([], []), ([], []), ([], []), ([], []), ([], []), ([], []), ([0, 1, 2, 4, 5, 3, 6], []), ([], [])] 0 Tryz.f17 = some (plain1 I17) := by kernel_rfl
theorem ck17 : ckC 1 I17.body = true := by kernel_rfl

/-- 'encore/encoreref07.Same'. -/
def I18 : IFunc :=
  ⟨(.seq (.region [⟨(some 2), (.box (.t 0)), none, []⟩,
      ⟨(some 3), (.box (.t 1)), none, []⟩,
      ⟨(some 4), (.mov (.c (.b false))), none, []⟩] [])
    (.seq (.region [⟨(some 5), (.load (some 5) (.t 2)), none, []⟩,
      ⟨(some 6), (.load (some 5) (.t 3)), none, []⟩,
      ⟨(some 7), (.call 38 [(.t 5), (.t 6)]), none, []⟩,
      ⟨(some 8), (.bin .eql (.t 7) (.c (.i .i64 (0)))), none, []⟩,
      ⟨(some 4), (.mov (.t 8)), none, []⟩] [])
    .ret)),
    9, 2, [.t 4], 0⟩
theorem tr18 : trFunc Tryz.prog [([], []), ([], [])] 0 Tryz.f18 = some (plain1 I18) := by kernel_rfl
theorem ck18 : ckC 1 I18.body = true := by kernel_rfl

/-- '(*encore/base.Machine).Status'. -/
def I19 : IFunc :=
  ⟨(.seq (.region [⟨(some 2), (.mov (.c (.i .i64 (0)))), none, []⟩] [])
    (.seq (.seq (.region [⟨(some 3), (.mov (.t 0)), none, []⟩,
      ⟨(some 4), (.call 31 [(.t 3)]), none, []⟩] [])
    (.cond (.t 4)
      (.seq (.region [⟨(some 2), (.mov (.c (.i .i64 (0)))), none, []⟩] [])
      .ret)
      .skip))
    (.seq (.region [⟨(some 5), (.mov (.t 0)), none, []⟩,
      ⟨(some 6), (.nck (.t 5)), none, []⟩,
      ⟨(some 7), (.off (.t 6) 5), none, []⟩,
      ⟨(some 8), (.load none (.t 7)), none, []⟩,
      ⟨(some 2), (.mov (.t 8)), none, []⟩] [])
    .ret))),
    9, 1, [.t 2], 0⟩
theorem tr19 : trFunc Tryz.prog [([], []), ([], []), ([], []), ([], []), ([], [])] 0 Tryz.f19 = some (plain1 I19) := by kernel_rfl
theorem ck19 : ckC 1 I19.body = true := by kernel_rfl

/-- '(*encore/base.Machine).Frames'. -/
def L20a : ICode :=
  (.seq (.region [⟨(some 28), (.bin .lss (.t 27) (.t 26)), none, []⟩] [])
    (.seq (.cond (.t 28)
      .skip
      (.exit 0))
    (.seq (.block 1
      (.seq (.region [⟨(some 29), (.iaddr 1 (.t 25) (.t 27)), none, []⟩,
        ⟨(some 30), (.load none (.t 29)), none, []⟩,
        ⟨(some 5), (.mov (.t 30)), none, []⟩] [])
      (.region [⟨(some 31), (.mov (.t 3)), none, []⟩,
        ⟨(some 32), (.mov (.t 5)), none, []⟩,
        ⟨(some 33), (.nck (.t 32)), none, []⟩,
        ⟨(some 34), (.off (.t 33) 0), none, []⟩,
        ⟨(some 35), (.off (.t 34) 0), none, []⟩,
        ⟨(some 36), (.load none (.t 35)), none, []⟩,
        ⟨(some 37), (.mov (.t 5)), none, []⟩,
        ⟨(some 38), (.nck (.t 37)), none, []⟩,
        ⟨(some 39), (.off (.t 38) 0), none, []⟩,
        ⟨(some 40), (.off (.t 39) 1), none, []⟩,
        ⟨(some 41), (.load none (.t 40)), none, []⟩,
        ⟨(some 42), (.mov (.t 5)), none, []⟩,
        ⟨(some 43), (.nck (.t 42)), none, []⟩,
        ⟨(some 44), (.off (.t 43) 0), none, []⟩,
        ⟨(some 45), (.off (.t 44) 2), none, []⟩,
        ⟨(some 46), (.load none (.t 45)), none, []⟩,
        ⟨(some 48), (.mov (.t 5)), none, []⟩,
        ⟨(some 49), (.nck (.t 48)), none, []⟩,
        ⟨(some 50), (.off (.t 49) 0), none, []⟩,
        ⟨(some 51), (.off (.t 50) 3), none, []⟩,
        ⟨(some 52), (.load none (.t 51)), none, []⟩,
        ⟨(some 54), (.mov (.t 5)), none, []⟩,
        ⟨(some 55), (.nck (.t 54)), none, []⟩,
        ⟨(some 56), (.off (.t 55) 0), none, []⟩,
        ⟨(some 57), (.off (.t 56) 4), none, []⟩,
        ⟨(some 58), (.load none (.t 57)), none, []⟩,
        ⟨(some 47), (.call 26 [(.t 46)]), none, [(36, (.load none (.t 35)), none), (41, (.load none (.t 40)), none), (52, (.load none (.t 51)), none), (58, (.load none (.t 57)), none)]⟩,
        ⟨(some 53), (.call 26 [(.t 52)]), none, [(36, (.load none (.t 35)), none), (41, (.load none (.t 40)), none), (58, (.load none (.t 57)), none)]⟩,
        ⟨(some 59), (.call 40 [(.t 58)]), none, [(36, (.load none (.t 35)), none), (41, (.load none (.t 40)), none)]⟩,
        ⟨(some 60), (.build [(.i .i64 (0)), (.i .i64 (0)), .ns, .ns, .ns] [(0, 1, (.t 36)), (1, 1, (.t 41)), (2, 1, (.t 47)), (3, 1, (.t 53)), (4, 1, (.t 59))]), none, []⟩,
        ⟨(some 61), (.bsl 5 1 [(.i .i64 (0)), (.i .i64 (0)), .ns, .ns, .ns] [(0, 5, (.t 60))]), none, []⟩,
        ⟨(some 62), (.app 5 88 (.t 31) (.t 61)), none, []⟩,
        ⟨(some 3), (.mov (.t 62)), none, []⟩] [])))
    (.region [⟨(some 63), (.bin .add (.t 27) (.c (.i .i64 (1)))), none, []⟩,
      ⟨(some 27), (.mov (.t 63)), none, []⟩] []))))
def I20 : IFunc :=
  ⟨(.seq (.region [⟨(some 2), (.mov (.c .ns)), none, []⟩] [])
    (.seq (.seq (.region [⟨(some 6), (.mov (.t 0)), none, []⟩,
      ⟨(some 7), (.call 31 [(.t 6)]), none, []⟩,
      ⟨(some 8), (.mov (.t 7)), none, []⟩,
      ⟨(some 9), (.mov (.t 0)), (some (8, false)), []⟩,
      ⟨(some 10), (.nck (.t 9)), (some (8, false)), []⟩,
      ⟨(some 11), (.off (.t 10) 0), (some (8, false)), []⟩,
      ⟨(some 12), (.load none (.t 11)), (some (8, false)), []⟩,
      ⟨(some 13), (.eqNil 1 false (.t 12) (.c .np)), (some (8, false)), []⟩,
      ⟨(some 14), (.pick (.t 8) (.c (.b true)) (.t 13)), none, []⟩] [])
    (.cond (.t 14)
      (.seq (.region [⟨(some 2), (.mov (.c .ns)), none, []⟩] [])
      .ret)
      .skip))
    (.seq (.region [⟨(some 3), (.mov (.c .ns)), none, []⟩] [])
    (.seq (.seq (.region [⟨(some 15), (.mov (.t 0)), none, []⟩,
      ⟨(some 16), (.nck (.t 15)), none, []⟩,
      ⟨(some 17), (.off (.t 16) 1), none, []⟩,
      ⟨(some 18), (.load none (.t 17)), none, []⟩,
      ⟨(some 20), (.mov (.t 0)), none, []⟩,
      ⟨(some 21), (.nck (.t 20)), none, []⟩,
      ⟨(some 22), (.off (.t 21) 0), none, []⟩,
      ⟨(some 23), (.load none (.t 22)), none, []⟩,
      ⟨(some 24), (.bsl 1 1 [.np] [(0, 1, (.t 23))]), none, []⟩,
      ⟨(some 27), (.mov (.c (.i .i64 (0)))), none, []⟩,
      ⟨(some 19), (.call 39 [(.t 18)]), none, [(23, (.load none (.t 22)), none)]⟩,
      ⟨(some 25), (.app 1 8 (.t 19) (.t 24)), none, []⟩,
      ⟨(some 26), (.lenk 0 (.t 25)), none, []⟩] [])
    (.block 0
      (.loop L20a)))
    (.seq (.region [⟨(some 64), (.mov (.t 3)), none, []⟩,
      ⟨(some 2), (.mov (.t 64)), none, []⟩] [])
    .ret))))),
    65, 1, [.t 2], 0⟩
theorem tr20 : trFunc Tryz.prog [([], []), ([], []), ([], []), ([], []), ([], []), ([0, 1, 2, 3, 5, 6, 7, 8, 9, 12, 4, 10, 11], []), ([], []), ([], []), ([], []), ([0, 1, 2, 3, 4, 5, 6, 7, 8, 9, 10, 11, 12, 13, 14, 15, 17, 18, 19, 20, 21, 23, 24, 25, 26, 27, 16, 22, 28, 29, 30, 31, 32], []), ([], []), ([], [])] 0 Tryz.f20 = some (plain1 I20) := by kernel_rfl
theorem ck20 : ckC 1 I20.body = true := by kernel_rfl

/-- 'encore/encorelaw18.works'. -/
def I21 : IFunc :=
  ⟨(.seq (.region [⟨(some 0), (.mov (.c (.b false))), none, []⟩] [])
    (.seq (.region [⟨(some 15), (.call 4 [(.c (.i .i64 (1))), (.c (.i .i64 (0)))]), none, []⟩,
      ⟨(some 16), (.call 4 [(.c (.i .i64 (1))), (.c (.i .i64 (1)))]), none, []⟩,
      ⟨(some 17), (.call 4 [(.c (.i .i64 (30))), (.c (.i .i64 (0)))]), none, []⟩,
      ⟨(some 18), (.call 4 [(.c (.i .i64 (12))), (.c (.i .i64 (0)))]), none, []⟩,
      ⟨(some 1), (.alloc [(.i .i64 (0)), (.i .i64 (0)), (.i .i64 (0))]), none, []⟩,
      ⟨(some 2), (.alloc [(.i .i64 (0)), (.i .i64 (0)), (.i .i64 (0))]), none, []⟩,
      ⟨(some 3), (.alloc [(.i .i64 (0)), (.i .i64 (0)), (.i .i64 (0))]), none, []⟩,
      ⟨(some 4), (.alloc [(.i .i64 (0)), (.i .i64 (0)), (.i .i64 (0))]), none, []⟩,
      ⟨none, (.store 3 (.t 1) (.t 15)), none, []⟩,
      ⟨none, (.store 3 (.t 2) (.t 16)), none, []⟩,
      ⟨none, (.store 3 (.t 3) (.t 17)), none, []⟩,
      ⟨none, (.store 3 (.t 4) (.t 18)), none, []⟩] [])
    (.seq (.region [⟨(some 20), (.load (some 3) (.t 1)), none, []⟩,
      ⟨(some 21), (.load (some 3) (.t 3)), none, []⟩,
      ⟨(some 22), (.bsl 3 2 [(.i .i64 (0)), (.i .i64 (0)), (.i .i64 (0)), (.i .i64 (0)), (.i .i64 (0)), (.i .i64 (0))] [(0, 3, (.t 20)), (3, 3, (.t 21))]), none, []⟩,
      ⟨(some 19), (.call 6 [(.c (.i .i64 (1)))]), none, [(20, (.load (some 3) (.t 1)), none), (21, (.load (some 3) (.t 3)), none)]⟩,
      ⟨(some 23), (.call 5 [(.t 19), (.c (.i .i64 (2))), (.t 22)]), none, []⟩,
      ⟨(some 24), (.mov (.t 23)), none, []⟩,
      ⟨(some 25), (.load (some 3) (.t 1)), (some (24, true)), []⟩,
      ⟨(some 26), (.load (some 3) (.t 2)), (some (24, true)), []⟩,
      ⟨(some 27), (.load (some 3) (.t 4)), (some (24, true)), []⟩,
      ⟨(some 28), (.load (some 3) (.t 3)), (some (24, true)), []⟩,
      ⟨(some 29), (.bsl 3 4 [(.i .i64 (0)), (.i .i64 (0)), (.i .i64 (0)), (.i .i64 (0)), (.i .i64 (0)), (.i .i64 (0)), (.i .i64 (0)), (.i .i64 (0)), (.i .i64 (0)), (.i .i64 (0)), (.i .i64 (0)), (.i .i64 (0))] [(0, 3, (.t 25)), (3, 3, (.t 26)), (6, 3, (.t 27)), (9, 3, (.t 28))]), (some (24, true)), []⟩,
      ⟨(some 30), (.call 7 [(.c (.i .i64 (1))), (.c (.i .i64 (3))), (.t 29)]), (some (24, true)), []⟩,
      ⟨(some 31), (.pick (.t 24) (.t 30) (.c (.b false))), none, []⟩,
      ⟨(some 32), (.mov (.t 31)), none, []⟩,
      ⟨(some 35), (.load (some 3) (.t 1)), (some (32, true)), []⟩,
      ⟨(some 36), (.load (some 3) (.t 2)), (some (32, true)), []⟩,
      ⟨(some 37), (.load (some 3) (.t 4)), (some (32, true)), []⟩,
      ⟨(some 38), (.load (some 3) (.t 3)), (some (32, true)), []⟩,
      ⟨(some 39), (.load (some 3) (.t 3)), (some (32, true)), []⟩,
      ⟨(some 33), (.call 6 [(.c (.i .i64 (1)))]), (some (32, true)), [(35, (.load (some 3) (.t 1)), (some (32, true))), (36, (.load (some 3) (.t 2)), (some (32, true))), (37, (.load (some 3) (.t 4)), (some (32, true))), (38, (.load (some 3) (.t 3)), (some (32, true))), (39, (.load (some 3) (.t 3)), (some (32, true)))]⟩,
      ⟨(some 34), (.call 4 [(.c (.i .i64 (26))), (.c (.i .i64 (5)))]), (some (32, true)), [(35, (.load (some 3) (.t 1)), (some (32, true))), (36, (.load (some 3) (.t 2)), (some (32, true))), (37, (.load (some 3) (.t 4)), (some (32, true))), (38, (.load (some 3) (.t 3)), (some (32, true))), (39, (.load (some 3) (.t 3)), (some (32, true)))]⟩,
      ⟨(some 40), (.bsl 3 6 [(.i .i64 (0)), (.i .i64 (0)), (.i .i64 (0)), (.i .i64 (0)), (.i .i64 (0)), (.i .i64 (0)), (.i .i64 (0)), (.i .i64 (0)), (.i .i64 (0)), (.i .i64 (0)), (.i .i64 (0)), (.i .i64 (0)), (.i .i64 (0)), (.i .i64 (0)), (.i .i64 (0)), (.i .i64 (0)), (.i .i64 (0)), (.i .i64 (0))] [(0, 3, (.t 34)), (3, 3, (.t 35)), (6, 3, (.t 36)), (9, 3, (.t 37)), (12, 3, (.t 38)), (15, 3, (.t 39))]), (some (32, true)), []⟩,
      ⟨(some 41), (.call 5 [(.t 33), (.c (.i .i64 (5))), (.t 40)]), (some (32, true)), []⟩,
      ⟨(some 42), (.pick (.t 32) (.t 41) (.c (.b false))), none, []⟩,
      ⟨(some 5), (.mov (.t 42)), none, []⟩] [])
    (.seq (.region [⟨(some 45), (.load (some 3) (.t 3)), none, []⟩,
      ⟨(some 44), (.call 4 [(.c (.i .i64 (31))), (.c (.i .i64 (5)))]), none, [(45, (.load (some 3) (.t 3)), none)]⟩,
      ⟨(some 46), (.bsl 3 2 [(.i .i64 (0)), (.i .i64 (0)), (.i .i64 (0)), (.i .i64 (0)), (.i .i64 (0)), (.i .i64 (0))] [(0, 3, (.t 44)), (3, 3, (.t 45))]), none, []⟩,
      ⟨(some 47), (.call 10 [(.t 46)]), none, []⟩,
      ⟨(some 48), (.call 9 [(.t 47), (.c (.i .i64 (0))), (.c .ns)]), none, []⟩,
      ⟨(some 43), (.mov (.t 48)), none, []⟩,
      ⟨(some 49), (.ext (.t 43) 0), none, []⟩,
      ⟨(some 50), (.ext (.t 43) 1), none, []⟩,
      ⟨(some 6), (.mov (.t 49)), none, []⟩,
      ⟨(some 7), (.mov (.t 50)), none, []⟩] [])
    (.seq (.seq (.region [⟨(some 51), (.mov (.t 5)), none, []⟩,
      ⟨(some 52), (.un .not (.t 51)), none, []⟩,
      ⟨(some 53), (.mov (.t 52)), none, []⟩,
      ⟨(some 54), (.mov (.t 7)), (some (53, false)), []⟩,
      ⟨(some 55), (.bin .neq (.t 54) (.c (.i .i64 (0)))), (some (53, false)), []⟩,
      ⟨(some 56), (.pick (.t 53) (.c (.b true)) (.t 55)), none, []⟩,
      ⟨(some 57), (.mov (.t 56)), none, []⟩,
      ⟨(some 58), (.mov (.t 6)), (some (57, false)), []⟩,
      ⟨(some 59), (.call 14 [(.t 58), (.c (.i .i64 (9)))]), (some (57, false)), []⟩,
      ⟨(some 60), (.bin .neq (.t 59) (.c (.i .i64 (1)))), (some (57, false)), []⟩,
      ⟨(some 61), (.pick (.t 57) (.c (.b true)) (.t 60)), none, []⟩,
      ⟨(some 62), (.mov (.t 61)), none, []⟩,
      ⟨(some 63), (.mov (.t 6)), (some (62, false)), []⟩,
      ⟨(some 64), (.call 19 [(.t 63)]), (some (62, false)), []⟩,
      ⟨(some 65), (.bin .neq (.t 64) (.c (.i .i64 (1)))), (some (62, false)), []⟩,
      ⟨(some 66), (.pick (.t 62) (.c (.b true)) (.t 65)), none, []⟩] [])
    (.cond (.t 66)
      (.seq (.region [⟨(some 0), (.mov (.c (.b false))), none, []⟩] [])
      .ret)
      .skip))
    (.seq (.region [⟨(some 68), (.mov (.t 6)), none, []⟩,
      ⟨(some 69), (.call 12 [(.t 68)]), none, []⟩,
      ⟨(some 67), (.mov (.t 69)), none, []⟩,
      ⟨(some 70), (.ext (.t 67) 0), none, []⟩,
      ⟨(some 71), (.ext (.t 67) 1), none, []⟩,
      ⟨(some 8), (.alloc [(.i .i64 (0)), (.s []), (.i .i64 (0)), (.i .i64 (0)), (.s []), .ns, .ns, .ns]), none, []⟩,
      ⟨none, (.store 8 (.t 8) (.t 70)), none, []⟩,
      ⟨(some 9), (.mov (.t 71)), none, []⟩] [])
    (.seq (.region [⟨(some 72), (.mov (.t 6)), none, []⟩,
      ⟨(some 73), (.call 6 [(.c (.i .i64 (5)))]), none, []⟩,
      ⟨(some 74), (.build [(.i .i64 (0)), (.i .i64 (0)), (.i .i64 (0)), (.s []), .ns, .ns] [(1, 5, (.t 73))]), none, []⟩,
      ⟨(some 75), (.call 17 [(.t 72), (.t 74)]), none, []⟩,
      ⟨(some 10), (.mov (.t 75)), none, []⟩] [])
    (.seq (.region [⟨(some 76), (.mov (.t 6)), none, []⟩,
      ⟨(some 77), (.call 14 [(.t 76), (.c (.i .i64 (9)))]), none, []⟩,
      ⟨(some 11), (.mov (.t 77)), none, []⟩] [])
    (.seq (.region [⟨(some 79), (.mov (.t 6)), none, []⟩,
      ⟨(some 80), (.call 11 [(.t 79)]), none, []⟩,
      ⟨(some 78), (.mov (.t 80)), none, []⟩,
      ⟨(some 81), (.ext (.t 78) 0), none, []⟩,
      ⟨(some 82), (.ext (.t 78) 1), none, []⟩,
      ⟨(some 83), (.ext (.t 78) 2), none, []⟩,
      ⟨(some 12), (.alloc [(.i .i64 (0)), (.i .i64 (0)), (.s []), .ns, .ns]), none, []⟩,
      ⟨none, (.store 5 (.t 12) (.t 81)), none, []⟩,
      ⟨(some 13), (.mov (.t 82)), none, []⟩,
      ⟨(some 14), (.mov (.t 83)), none, []⟩] [])
    (.seq (.region [⟨(some 84), (.mov (.t 9)), none, []⟩,
      ⟨(some 85), (.bin .eql (.t 84) (.c (.i .i64 (0)))), none, []⟩,
      ⟨(some 86), (.mov (.t 85)), none, []⟩,
      ⟨(some 87), (.off (.t 8) 0), (some (86, true)), []⟩,
      ⟨(some 88), (.load none (.t 87)), (some (86, true)), []⟩,
      ⟨(some 89), (.bin .eql (.t 88) (.c (.i .i64 (5)))), (some (86, true)), []⟩,
      ⟨(some 90), (.pick (.t 86) (.t 89) (.c (.b false))), none, []⟩,
      ⟨(some 91), (.mov (.t 90)), none, []⟩,
      ⟨(some 92), (.mov (.t 10)), (some (91, true)), []⟩,
      ⟨(some 93), (.bin .eql (.t 92) (.c (.i .i64 (0)))), (some (91, true)), []⟩,
      ⟨(some 94), (.pick (.t 91) (.t 93) (.c (.b false))), none, []⟩,
      ⟨(some 95), (.mov (.t 94)), none, []⟩,
      ⟨(some 96), (.mov (.t 11)), (some (95, true)), []⟩,
      ⟨(some 97), (.bin .eql (.t 96) (.c (.i .i64 (1)))), (some (95, true)), []⟩,
      ⟨(some 98), (.pick (.t 95) (.t 97) (.c (.b false))), none, []⟩,
      ⟨(some 99), (.mov (.t 98)), none, []⟩,
      ⟨(some 100), (.mov (.t 14)), (some (99, true)), []⟩,
      ⟨(some 101), (.bin .eql (.t 100) (.c (.i .i64 (0)))), (some (99, true)), []⟩,
      ⟨(some 102), (.pick (.t 99) (.t 101) (.c (.b false))), none, []⟩,
      ⟨(some 103), (.mov (.t 102)), none, []⟩,
      ⟨(some 104), (.mov (.t 13)), (some (103, true)), []⟩,
      ⟨(some 105), (.bin .eql (.t 104) (.c (.i .i64 (0)))), (some (103, true)), []⟩,
      ⟨(some 106), (.pick (.t 103) (.t 105) (.c (.b false))), none, []⟩,
      ⟨(some 107), (.mov (.t 106)), none, []⟩,
      ⟨(some 108), (.load (some 5) (.t 12)), (some (107, true)), []⟩,
      ⟨(some 109), (.call 6 [(.c (.i .i64 (5)))]), (some (107, true)), [(108, (.load (some 5) (.t 12)), (some (107, true)))]⟩,
      ⟨(some 110), (.call 18 [(.t 108), (.t 109)]), (some (107, true)), []⟩,
      ⟨(some 111), (.pick (.t 107) (.t 110) (.c (.b false))), none, []⟩,
      ⟨(some 112), (.mov (.t 111)), none, []⟩,
      ⟨(some 113), (.mov (.t 6)), (some (112, true)), []⟩,
      ⟨(some 114), (.call 15 [(.t 113)]), (some (112, true)), []⟩,
      ⟨(some 115), (.bin .eql (.t 114) (.c (.i .i64 (2)))), (some (112, true)), []⟩,
      ⟨(some 116), (.pick (.t 112) (.t 115) (.c (.b false))), none, []⟩,
      ⟨(some 117), (.mov (.t 116)), none, []⟩,
      ⟨(some 118), (.mov (.t 6)), (some (117, true)), []⟩,
      ⟨(some 119), (.call 20 [(.t 118)]), (some (117, true)), []⟩,
      ⟨(some 120), (.lenk 0 (.t 119)), (some (117, true)), []⟩,
      ⟨(some 121), (.bin .eql (.t 120) (.c (.i .i64 (0)))), (some (117, true)), []⟩,
      ⟨(some 122), (.pick (.t 117) (.t 121) (.c (.b false))), none, []⟩,
      ⟨(some 0), (.mov (.t 122)), none, []⟩] [])
    .ret)))))))))),
    123, 0, [.t 0], 2⟩
theorem tr21 : trFunc Tryz.prog [([], []), ([], []), ([1, 2, 3, 0, 4, 5, 6, 7, 8, 9, 10, 11, 12, 13, 16, 17, 18, 19, 20, 14, 15, 21, 22, 23, 24], []), ([1, 0, 2, 3, 4, 5, 6, 7, 8, 9], []), ([], []), ([], []), ([], []), ([], []), ([], []), ([], []), ([], []), ([0, 1, 2, 3, 4, 5, 6, 7, 8, 9, 10, 11, 12, 13, 14, 15, 16, 17, 18, 19, 20, 21, 22, 23, 24, 25, 26, 27, 28, 29, 30, 31, 32, 33, 34, 35, 36, 37, 38, 39], [])] 1 Tryz.f21 = some (plain1 I21) := by kernel_rfl
theorem ck21 : ckC 1 I21.body = true := by kernel_rfl

/-- 'encore/encorelaw18.calls'. -/
def I22 : IFunc :=
  ⟨(.seq (.region [⟨(some 0), (.mov (.c (.b false))), none, []⟩] [])
    (.seq (.region [⟨(some 14), (.call 4 [(.c (.i .i64 (29))), (.c (.i .i64 (0)))]), none, []⟩,
      ⟨(some 15), (.call 4 [(.c (.i .i64 (30))), (.c (.i .i64 (0)))]), none, []⟩,
      ⟨(some 16), (.bsl 3 2 [(.i .i64 (0)), (.i .i64 (0)), (.i .i64 (0)), (.i .i64 (0)), (.i .i64 (0)), (.i .i64 (0))] [(0, 3, (.t 14)), (3, 3, (.t 15))]), none, []⟩,
      ⟨(some 17), (.call 10 [(.t 16)]), none, []⟩,
      ⟨(some 1), (.alloc [.ns, .ns]), none, []⟩,
      ⟨none, (.store 2 (.t 1) (.t 17)), none, []⟩] [])
    (.seq (.region [⟨(some 19), (.load (some 2) (.t 1)), none, []⟩,
      ⟨(some 20), (.call 9 [(.t 19), (.c (.i .i64 (0))), (.c .ns)]), none, []⟩,
      ⟨(some 18), (.mov (.t 20)), none, []⟩,
      ⟨(some 21), (.ext (.t 18) 0), none, []⟩,
      ⟨(some 22), (.ext (.t 18) 1), none, []⟩,
      ⟨(some 2), (.mov (.t 21)), none, []⟩,
      ⟨(some 3), (.mov (.t 22)), none, []⟩] [])
    (.seq (.seq (.region [⟨(some 23), (.mov (.t 3)), none, []⟩,
      ⟨(some 24), (.bin .neq (.t 23) (.c (.i .i64 (0)))), none, []⟩,
      ⟨(some 25), (.mov (.t 24)), none, []⟩,
      ⟨(some 26), (.mov (.t 2)), (some (25, false)), []⟩,
      ⟨(some 27), (.call 14 [(.t 26), (.c (.i .i64 (100)))]), (some (25, false)), []⟩,
      ⟨(some 28), (.bin .neq (.t 27) (.c (.i .i64 (32)))), (some (25, false)), []⟩,
      ⟨(some 29), (.pick (.t 25) (.c (.b true)) (.t 28)), none, []⟩] [])
    (.cond (.t 29)
      (.seq (.region [⟨(some 0), (.mov (.c (.b false))), none, []⟩] [])
      .ret)
      .skip))
    (.seq (.region [⟨(some 31), (.mov (.t 2)), none, []⟩,
      ⟨(some 32), (.call 11 [(.t 31)]), none, []⟩,
      ⟨(some 30), (.mov (.t 32)), none, []⟩,
      ⟨(some 33), (.ext (.t 30) 0), none, []⟩,
      ⟨(some 34), (.ext (.t 30) 1), none, []⟩,
      ⟨(some 35), (.ext (.t 30) 2), none, []⟩,
      ⟨(some 4), (.alloc [(.i .i64 (0)), (.i .i64 (0)), (.s []), .ns, .ns]), none, []⟩,
      ⟨none, (.store 5 (.t 4) (.t 33)), none, []⟩,
      ⟨(some 5), (.mov (.t 34)), none, []⟩,
      ⟨(some 6), (.mov (.t 35)), none, []⟩] [])
    (.seq (.region [⟨(some 36), (.call 4 [(.c (.i .i64 (1))), (.c (.i .i64 (0)))]), none, []⟩,
      ⟨(some 37), (.call 4 [(.c (.i .i64 (1))), (.c (.i .i64 (1)))]), none, []⟩,
      ⟨(some 38), (.call 4 [(.c (.i .i64 (29))), (.c (.i .i64 (1)))]), none, []⟩,
      ⟨(some 39), (.call 4 [(.c (.i .i64 (30))), (.c (.i .i64 (0)))]), none, []⟩,
      ⟨(some 40), (.bsl 3 4 [(.i .i64 (0)), (.i .i64 (0)), (.i .i64 (0)), (.i .i64 (0)), (.i .i64 (0)), (.i .i64 (0)), (.i .i64 (0)), (.i .i64 (0)), (.i .i64 (0)), (.i .i64 (0)), (.i .i64 (0)), (.i .i64 (0))] [(0, 3, (.t 36)), (3, 3, (.t 37)), (6, 3, (.t 38)), (9, 3, (.t 39))]), none, []⟩,
      ⟨(some 41), (.call 10 [(.t 40)]), none, []⟩,
      ⟨(some 7), (.alloc [.ns, .ns]), none, []⟩,
      ⟨none, (.store 2 (.t 7) (.t 41)), none, []⟩] [])
    (.seq (.region [⟨(some 42), (.off (.t 7) 0), none, []⟩,
      ⟨(some 43), (.load none (.t 42)), none, []⟩,
      ⟨(some 44), (.call 4 [(.c (.i .i64 (2))), (.c (.i .i64 (0)))]), none, [(43, (.load none (.t 42)), none)]⟩,
      ⟨(some 45), (.call 4 [(.c (.i .i64 (2))), (.c (.i .i64 (1)))]), none, [(43, (.load none (.t 42)), none)]⟩,
      ⟨(some 46), (.call 4 [(.c (.i .i64 (10))), (.c (.i .i64 (0)))]), none, [(43, (.load none (.t 42)), none)]⟩,
      ⟨(some 47), (.call 4 [(.c (.i .i64 (30))), (.c (.i .i64 (0)))]), none, [(43, (.load none (.t 42)), none)]⟩,
      ⟨(some 48), (.bsl 3 4 [(.i .i64 (0)), (.i .i64 (0)), (.i .i64 (0)), (.i .i64 (0)), (.i .i64 (0)), (.i .i64 (0)), (.i .i64 (0)), (.i .i64 (0)), (.i .i64 (0)), (.i .i64 (0)), (.i .i64 (0)), (.i .i64 (0))] [(0, 3, (.t 44)), (3, 3, (.t 45)), (6, 3, (.t 46)), (9, 3, (.t 47))]), none, []⟩,
      ⟨(some 49), (.build [(.s []), (.i .i64 (0)), (.i .i64 (0)), .ns] [(0, 1, (.c (.s [108, 101, 115, 115]))), (1, 1, (.c (.i .i64 (2)))), (2, 1, (.c (.i .i64 (3)))), (3, 1, (.t 48))]), none, []⟩,
      ⟨(some 50), (.bsl 4 1 [(.s []), (.i .i64 (0)), (.i .i64 (0)), .ns] [(0, 4, (.t 49))]), none, []⟩,
      ⟨(some 51), (.app 4 56 (.t 43) (.t 50)), none, []⟩,
      ⟨(some 52), (.off (.t 7) 0), none, []⟩,
      ⟨none, (.store 1 (.t 52) (.t 51)), none, []⟩] [])
    (.seq (.region [⟨(some 54), (.load (some 2) (.t 7)), none, []⟩,
      ⟨(some 55), (.call 9 [(.t 54), (.c (.i .i64 (0))), (.c .ns)]), none, []⟩,
      ⟨(some 53), (.mov (.t 55)), none, []⟩,
      ⟨(some 56), (.ext (.t 53) 0), none, []⟩,
      ⟨(some 57), (.ext (.t 53) 1), none, []⟩,
      ⟨(some 8), (.mov (.t 56)), none, []⟩,
      ⟨(some 9), (.mov (.t 57)), none, []⟩] [])
    (.seq (.seq (.region [⟨(some 58), (.mov (.t 9)), none, []⟩,
      ⟨(some 59), (.bin .neq (.t 58) (.c (.i .i64 (0)))), none, []⟩,
      ⟨(some 60), (.mov (.t 59)), none, []⟩,
      ⟨(some 61), (.mov (.t 8)), (some (60, false)), []⟩,
      ⟨(some 62), (.call 14 [(.t 61), (.c (.i .i64 (3)))]), (some (60, false)), []⟩,
      ⟨(some 63), (.bin .neq (.t 62) (.c (.i .i64 (3)))), (some (60, false)), []⟩,
      ⟨(some 64), (.pick (.t 60) (.c (.b true)) (.t 63)), none, []⟩] [])
    (.cond (.t 64)
      (.seq (.region [⟨(some 0), (.mov (.c (.b false))), none, []⟩] [])
      .ret)
      .skip))
    (.seq (.region [⟨(some 65), (.mov (.t 8)), none, []⟩,
      ⟨(some 66), (.call 20 [(.t 65)]), none, []⟩,
      ⟨(some 10), (.mov (.t 66)), none, []⟩] [])
    (.seq (.seq (.region [⟨(some 67), (.mov (.t 10)), none, []⟩,
      ⟨(some 68), (.lenk 0 (.t 67)), none, []⟩,
      ⟨(some 69), (.bin .neq (.t 68) (.c (.i .i64 (2)))), none, []⟩,
      ⟨(some 70), (.mov (.t 69)), none, []⟩,
      ⟨(some 71), (.mov (.t 10)), (some (70, false)), []⟩,
      ⟨(some 72), (.iaddr 5 (.t 71) (.c (.i .i64 (0)))), (some (70, false)), []⟩,
      ⟨(some 73), (.off (.t 72) 1), (some (70, false)), []⟩,
      ⟨(some 74), (.load none (.t 73)), (some (70, false)), []⟩,
      ⟨(some 75), (.bin .neq (.t 74) (.c (.i .i64 (3)))), (some (70, false)), []⟩,
      ⟨(some 76), (.pick (.t 70) (.c (.b true)) (.t 75)), none, []⟩,
      ⟨(some 77), (.mov (.t 76)), none, []⟩,
      ⟨(some 78), (.mov (.t 10)), (some (77, false)), []⟩,
      ⟨(some 79), (.iaddr 5 (.t 78) (.c (.i .i64 (0)))), (some (77, false)), []⟩,
      ⟨(some 80), (.off (.t 79) 3), (some (77, false)), []⟩,
      ⟨(some 81), (.load none (.t 80)), (some (77, false)), []⟩,
      ⟨(some 82), (.lenk 0 (.t 81)), (some (77, false)), []⟩,
      ⟨(some 83), (.bin .neq (.t 82) (.c (.i .i64 (0)))), (some (77, false)), []⟩,
      ⟨(some 84), (.pick (.t 77) (.c (.b true)) (.t 83)), none, []⟩,
      ⟨(some 85), (.mov (.t 84)), none, []⟩,
      ⟨(some 86), (.mov (.t 10)), (some (85, false)), []⟩,
      ⟨(some 87), (.iaddr 5 (.t 86) (.c (.i .i64 (1)))), (some (85, false)), []⟩,
      ⟨(some 88), (.off (.t 87) 2), (some (85, false)), []⟩,
      ⟨(some 89), (.load none (.t 88)), (some (85, false)), []⟩,
      ⟨(some 90), (.lenk 0 (.t 89)), (some (85, false)), []⟩,
      ⟨(some 91), (.bin .neq (.t 90) (.c (.i .i64 (3)))), (some (85, false)), []⟩,
      ⟨(some 92), (.pick (.t 85) (.c (.b true)) (.t 91)), none, []⟩,
      ⟨(some 93), (.mov (.t 92)), none, []⟩,
      ⟨(some 94), (.mov (.t 10)), (some (93, false)), []⟩,
      ⟨(some 95), (.iaddr 5 (.t 94) (.c (.i .i64 (1)))), (some (93, false)), []⟩,
      ⟨(some 96), (.off (.t 95) 2), (some (93, false)), []⟩,
      ⟨(some 97), (.load none (.t 96)), (some (93, false)), []⟩,
      ⟨(some 98), (.iaddr 5 (.t 97) (.c (.i .i64 (2)))), (some (93, false)), []⟩,
      ⟨(some 99), (.load (some 5) (.t 98)), (some (93, false)), []⟩,
      ⟨(some 100), (.build [(.i .i64 (0)), (.i .i64 (0)), (.s []), .ns, .ns] []), (some (93, false)), []⟩,
      ⟨(some 101), (.call 18 [(.t 99), (.t 100)]), (some (93, false)), []⟩,
      ⟨(some 102), (.un .not (.t 101)), (some (93, false)), []⟩,
      ⟨(some 103), (.pick (.t 93) (.c (.b true)) (.t 102)), none, []⟩,
      ⟨(some 104), (.mov (.t 103)), none, []⟩,
      ⟨(some 105), (.mov (.t 8)), (some (104, false)), []⟩,
      ⟨(some 106), (.call 14 [(.t 105), (.c (.i .i64 (100)))]), (some (104, false)), []⟩,
      ⟨(some 107), (.bin .neq (.t 106) (.c (.i .i64 (5)))), (some (104, false)), []⟩,
      ⟨(some 108), (.pick (.t 104) (.c (.b true)) (.t 107)), none, []⟩] [])
    (.cond (.t 108)
      (.seq (.region [⟨(some 0), (.mov (.c (.b false))), none, []⟩] [])
      .ret)
      .skip))
    (.seq (.region [⟨(some 110), (.mov (.t 8)), none, []⟩,
      ⟨(some 111), (.call 11 [(.t 110)]), none, []⟩,
      ⟨(some 109), (.mov (.t 111)), none, []⟩,
      ⟨(some 112), (.ext (.t 109) 0), none, []⟩,
      ⟨(some 113), (.ext (.t 109) 1), none, []⟩,
      ⟨(some 114), (.ext (.t 109) 2), none, []⟩,
      ⟨(some 11), (.alloc [(.i .i64 (0)), (.i .i64 (0)), (.s []), .ns, .ns]), none, []⟩,
      ⟨none, (.store 5 (.t 11) (.t 112)), none, []⟩,
      ⟨(some 12), (.mov (.t 113)), none, []⟩,
      ⟨(some 13), (.mov (.t 114)), none, []⟩] [])
    (.seq (.region [⟨(some 115), (.mov (.t 2)), none, []⟩,
      ⟨(some 116), (.call 19 [(.t 115)]), none, []⟩,
      ⟨(some 117), (.bin .eql (.t 116) (.c (.i .i64 (3)))), none, []⟩,
      ⟨(some 118), (.mov (.t 117)), none, []⟩,
      ⟨(some 119), (.mov (.t 5)), (some (118, true)), []⟩,
      ⟨(some 120), (.bin .eql (.t 119) (.c (.i .i64 (5)))), (some (118, true)), []⟩,
      ⟨(some 121), (.pick (.t 118) (.t 120) (.c (.b false))), none, []⟩,
      ⟨(some 122), (.mov (.t 121)), none, []⟩,
      ⟨(some 123), (.load (some 5) (.t 11)), (some (122, true)), []⟩,
      ⟨(some 124), (.call 6 [(.c (.i .i64 (1)))]), (some (122, true)), [(123, (.load (some 5) (.t 11)), (some (122, true)))]⟩,
      ⟨(some 125), (.call 18 [(.t 123), (.t 124)]), (some (122, true)), []⟩,
      ⟨(some 126), (.pick (.t 122) (.t 125) (.c (.b false))), none, []⟩,
      ⟨(some 127), (.mov (.t 126)), none, []⟩,
      ⟨(some 128), (.mov (.t 8)), (some (127, true)), []⟩,
      ⟨(some 129), (.call 15 [(.t 128)]), (some (127, true)), []⟩,
      ⟨(some 130), (.bin .eql (.t 129) (.c (.i .i64 (8)))), (some (127, true)), []⟩,
      ⟨(some 131), (.pick (.t 127) (.t 130) (.c (.b false))), none, []⟩,
      ⟨(some 0), (.mov (.t 131)), none, []⟩] [])
    .ret))))))))))))),
    132, 0, [.t 0], 2⟩
theorem tr22 : trFunc Tryz.prog [([], []), ([], []), ([], []), ([], []), ([], []), ([], []), ([], []), ([], []), ([0, 1, 2, 3, 4, 5, 6, 7, 8, 9, 10, 11], []), ([], []), ([], []), ([], []), ([], []), ([], []), ([], []), ([], []), ([], []), ([], []), ([0, 1, 2, 3, 4, 5, 6, 7, 8, 9, 10, 11, 12, 13, 14, 15, 16, 17], [])] 1 Tryz.f22 = some (plain1 I22) := by kernel_rfl
theorem ck22 : ckC 1 I22.body = true := by kernel_rfl

/-- 'encore/encorelaw18.asks'. -/
def I23 : IFunc :=
  ⟨(.seq (.region [⟨(some 0), (.mov (.c (.b false))), none, []⟩] [])
    (.seq (.region [⟨(some 21), (.call 4 [(.c (.i .i64 (1))), (.c (.i .i64 (0)))]), none, []⟩,
      ⟨(some 22), (.call 4 [(.c (.i .i64 (30))), (.c (.i .i64 (0)))]), none, []⟩,
      ⟨(some 1), (.alloc [(.i .i64 (0)), (.i .i64 (0)), (.i .i64 (0))]), none, []⟩,
      ⟨(some 2), (.alloc [(.i .i64 (0)), (.i .i64 (0)), (.i .i64 (0))]), none, []⟩,
      ⟨none, (.store 3 (.t 1) (.t 21)), none, []⟩,
      ⟨none, (.store 3 (.t 2) (.t 22)), none, []⟩] [])
    (.seq (.region [⟨(some 24), (.load (some 3) (.t 1)), none, []⟩,
      ⟨(some 26), (.load (some 3) (.t 2)), none, []⟩,
      ⟨(some 3), (.alloc [(.i .i64 (0)), (.s []), (.i .i64 (0)), (.i .i64 (0)), (.s []), .ns, .ns, .ns]), none, []⟩,
      ⟨(some 25), (.call 42 [(.c (.i .i64 (1))), (.c (.i .i64 (5)))]), none, [(24, (.load (some 3) (.t 1)), none), (26, (.load (some 3) (.t 2)), none)]⟩,
      ⟨(some 27), (.bsl 3 3 [(.i .i64 (0)), (.i .i64 (0)), (.i .i64 (0)), (.i .i64 (0)), (.i .i64 (0)), (.i .i64 (0)), (.i .i64 (0)), (.i .i64 (0)), (.i .i64 (0))] [(0, 3, (.t 24)), (3, 3, (.t 25)), (6, 3, (.t 26))]), none, []⟩,
      ⟨(some 28), (.call 41 [(.t 27)]), none, []⟩,
      ⟨(some 23), (.mov (.t 28)), none, []⟩,
      ⟨(some 29), (.ext (.t 23) 0), none, []⟩,
      ⟨(some 30), (.ext (.t 23) 1), none, []⟩,
      ⟨none, (.store 8 (.t 3) (.t 29)), none, []⟩,
      ⟨(some 4), (.mov (.t 30)), none, []⟩] [])
    (.seq (.region [⟨(some 32), (.load (some 3) (.t 1)), none, []⟩,
      ⟨(some 34), (.load (some 3) (.t 2)), none, []⟩,
      ⟨(some 5), (.alloc [(.i .i64 (0)), (.s []), (.i .i64 (0)), (.i .i64 (0)), (.s []), .ns, .ns, .ns]), none, []⟩,
      ⟨(some 33), (.call 42 [(.c (.i .i64 (2))), (.c (.i .i64 (0)))]), none, [(32, (.load (some 3) (.t 1)), none), (34, (.load (some 3) (.t 2)), none)]⟩,
      ⟨(some 35), (.bsl 3 3 [(.i .i64 (0)), (.i .i64 (0)), (.i .i64 (0)), (.i .i64 (0)), (.i .i64 (0)), (.i .i64 (0)), (.i .i64 (0)), (.i .i64 (0)), (.i .i64 (0))] [(0, 3, (.t 32)), (3, 3, (.t 33)), (6, 3, (.t 34))]), none, []⟩,
      ⟨(some 36), (.call 41 [(.t 35)]), none, []⟩,
      ⟨(some 31), (.mov (.t 36)), none, []⟩,
      ⟨(some 37), (.ext (.t 31) 0), none, []⟩,
      ⟨(some 38), (.ext (.t 31) 1), none, []⟩,
      ⟨none, (.store 8 (.t 5) (.t 37)), none, []⟩,
      ⟨(some 6), (.mov (.t 38)), none, []⟩] [])
    (.seq (.region [⟨(some 41), (.load (some 3) (.t 2)), none, []⟩,
      ⟨(some 7), (.alloc [(.i .i64 (0)), (.s []), (.i .i64 (0)), (.i .i64 (0)), (.s []), .ns, .ns, .ns]), none, []⟩,
      ⟨(some 40), (.call 42 [(.c (.i .i64 (3))), (.c (.i .i64 (5)))]), none, [(41, (.load (some 3) (.t 2)), none)]⟩,
      ⟨(some 42), (.bsl 3 2 [(.i .i64 (0)), (.i .i64 (0)), (.i .i64 (0)), (.i .i64 (0)), (.i .i64 (0)), (.i .i64 (0))] [(0, 3, (.t 40)), (3, 3, (.t 41))]), none, []⟩,
      ⟨(some 43), (.call 41 [(.t 42)]), none, []⟩,
      ⟨(some 39), (.mov (.t 43)), none, []⟩,
      ⟨(some 44), (.ext (.t 39) 0), none, []⟩,
      ⟨(some 45), (.ext (.t 39) 1), none, []⟩,
      ⟨none, (.store 8 (.t 7) (.t 44)), none, []⟩,
      ⟨(some 8), (.mov (.t 45)), none, []⟩] [])
    (.seq (.region [⟨(some 46), (.mov (.t 4)), none, []⟩,
      ⟨(some 47), (.mov (.t 46)), none, []⟩,
      ⟨(some 48), (.load (some 8) (.t 3)), (some (47, true)), []⟩,
      ⟨(some 49), (.call 6 [(.c (.i .i64 (1)))]), (some (47, true)), [(48, (.load (some 8) (.t 3)), (some (47, true)))]⟩,
      ⟨(some 50), (.build [(.i .i64 (0)), (.s []), (.i .i64 (0)), (.i .i64 (0)), (.s []), .ns, .ns, .ns] [(0, 1, (.c (.i .i64 (1)))), (1, 1, (.c (.s [97]))), (2, 5, (.t 49))]), (some (47, true)), []⟩,
      ⟨(some 51), (.call 43 [(.t 48), (.t 50)]), (some (47, true)), []⟩,
      ⟨(some 52), (.pick (.t 47) (.t 51) (.c (.b false))), none, []⟩,
      ⟨(some 53), (.mov (.t 52)), none, []⟩,
      ⟨(some 54), (.mov (.t 6)), (some (53, true)), []⟩,
      ⟨(some 55), (.pick (.t 53) (.t 54) (.c (.b false))), none, []⟩,
      ⟨(some 56), (.mov (.t 55)), none, []⟩,
      ⟨(some 57), (.load (some 8) (.t 5)), (some (56, true)), []⟩,
      ⟨(some 58), (.call 6 [(.c (.i .i64 (1)))]), (some (56, true)), [(57, (.load (some 8) (.t 5)), (some (56, true)))]⟩,
      ⟨(some 59), (.build [(.i .i64 (0)), (.s []), (.i .i64 (0)), (.i .i64 (0)), (.s []), .ns, .ns, .ns] [(0, 1, (.c (.i .i64 (2)))), (2, 5, (.t 58))]), (some (56, true)), []⟩,
      ⟨(some 60), (.call 43 [(.t 57), (.t 59)]), (some (56, true)), []⟩,
      ⟨(some 61), (.pick (.t 56) (.t 60) (.c (.b false))), none, []⟩,
      ⟨(some 62), (.mov (.t 61)), none, []⟩,
      ⟨(some 63), (.mov (.t 8)), (some (62, true)), []⟩,
      ⟨(some 64), (.pick (.t 62) (.t 63) (.c (.b false))), none, []⟩,
      ⟨(some 65), (.mov (.t 64)), none, []⟩,
      ⟨(some 66), (.load (some 8) (.t 7)), (some (65, true)), []⟩,
      ⟨(some 67), (.build [(.i .i64 (0)), (.s []), (.i .i64 (0)), (.i .i64 (0)), (.s []), .ns, .ns, .ns] [(0, 1, (.c (.i .i64 (3)))), (1, 1, (.c (.s [97])))]), (some (65, true)), []⟩,
      ⟨(some 68), (.call 43 [(.t 66), (.t 67)]), (some (65, true)), []⟩,
      ⟨(some 69), (.pick (.t 65) (.t 68) (.c (.b false))), none, []⟩,
      ⟨(some 9), (.mov (.t 69)), none, []⟩] [])
    (.seq (.region [⟨(some 72), (.load (some 3) (.t 2)), none, []⟩,
      ⟨(some 70), (.call 4 [(.c (.i .i64 (1))), (.c (.i .i64 (2)))]), none, [(72, (.load (some 3) (.t 2)), none)]⟩,
      ⟨(some 71), (.call 42 [(.c (.i .i64 (2))), (.c (.i .i64 (0)))]), none, [(72, (.load (some 3) (.t 2)), none)]⟩,
      ⟨(some 73), (.bsl 3 3 [(.i .i64 (0)), (.i .i64 (0)), (.i .i64 (0)), (.i .i64 (0)), (.i .i64 (0)), (.i .i64 (0)), (.i .i64 (0)), (.i .i64 (0)), (.i .i64 (0))] [(0, 3, (.t 70)), (3, 3, (.t 71)), (6, 3, (.t 72))]), none, []⟩,
      ⟨(some 74), (.call 7 [(.c (.i .i64 (2))), (.c (.i .i64 (2))), (.t 73)]), none, []⟩,
      ⟨(some 75), (.mov (.t 74)), none, []⟩,
      ⟨(some 76), (.load (some 3) (.t 1)), (some (75, true)), []⟩,
      ⟨(some 78), (.load (some 3) (.t 2)), (some (75, true)), []⟩,
      ⟨(some 77), (.call 42 [(.c (.i .i64 (7))), (.c (.i .i64 (0)))]), (some (75, true)), [(76, (.load (some 3) (.t 1)), (some (75, true))), (78, (.load (some 3) (.t 2)), (some (75, true)))]⟩,
      ⟨(some 79), (.bsl 3 3 [(.i .i64 (0)), (.i .i64 (0)), (.i .i64 (0)), (.i .i64 (0)), (.i .i64 (0)), (.i .i64 (0)), (.i .i64 (0)), (.i .i64 (0)), (.i .i64 (0))] [(0, 3, (.t 76)), (3, 3, (.t 77)), (6, 3, (.t 78))]), (some (75, true)), []⟩,
      ⟨(some 80), (.call 7 [(.c (.i .i64 (2))), (.c (.i .i64 (2))), (.t 79)]), (some (75, true)), []⟩,
      ⟨(some 81), (.pick (.t 75) (.t 80) (.c (.b false))), none, []⟩,
      ⟨(some 82), (.mov (.t 81)), none, []⟩,
      ⟨(some 83), (.load (some 3) (.t 1)), (some (82, true)), []⟩,
      ⟨(some 85), (.load (some 3) (.t 2)), (some (82, true)), []⟩,
      ⟨(some 84), (.call 42 [(.c (.i .i64 (8))), (.c (.i .i64 (0)))]), (some (82, true)), [(83, (.load (some 3) (.t 1)), (some (82, true))), (85, (.load (some 3) (.t 2)), (some (82, true)))]⟩,
      ⟨(some 86), (.bsl 3 3 [(.i .i64 (0)), (.i .i64 (0)), (.i .i64 (0)), (.i .i64 (0)), (.i .i64 (0)), (.i .i64 (0)), (.i .i64 (0)), (.i .i64 (0)), (.i .i64 (0))] [(0, 3, (.t 83)), (3, 3, (.t 84)), (6, 3, (.t 85))]), (some (82, true)), []⟩,
      ⟨(some 87), (.call 7 [(.c (.i .i64 (2))), (.c (.i .i64 (2))), (.t 86)]), (some (82, true)), []⟩,
      ⟨(some 88), (.pick (.t 82) (.t 87) (.c (.b false))), none, []⟩,
      ⟨(some 89), (.mov (.t 88)), none, []⟩,
      ⟨(some 92), (.load (some 3) (.t 2)), (some (89, true)), []⟩,
      ⟨(some 90), (.call 4 [(.c (.i .i64 (20))), (.c (.i .i64 (0)))]), (some (89, true)), [(92, (.load (some 3) (.t 2)), (some (89, true)))]⟩,
      ⟨(some 91), (.call 42 [(.c (.i .i64 (8))), (.c (.i .i64 (0)))]), (some (89, true)), [(92, (.load (some 3) (.t 2)), (some (89, true)))]⟩,
      ⟨(some 93), (.bsl 3 3 [(.i .i64 (0)), (.i .i64 (0)), (.i .i64 (0)), (.i .i64 (0)), (.i .i64 (0)), (.i .i64 (0)), (.i .i64 (0)), (.i .i64 (0)), (.i .i64 (0))] [(0, 3, (.t 90)), (3, 3, (.t 91)), (6, 3, (.t 92))]), (some (89, true)), []⟩,
      ⟨(some 94), (.call 7 [(.c (.i .i64 (2))), (.c (.i .i64 (2))), (.t 93)]), (some (89, true)), []⟩,
      ⟨(some 95), (.pick (.t 89) (.t 94) (.c (.b false))), none, []⟩,
      ⟨(some 96), (.mov (.t 95)), none, []⟩,
      ⟨(some 99), (.load (some 3) (.t 2)), (some (96, true)), []⟩,
      ⟨(some 97), (.call 4 [(.c (.i .i64 (1))), (.c (.i .i64 (4)))]), (some (96, true)), [(99, (.load (some 3) (.t 2)), (some (96, true)))]⟩,
      ⟨(some 98), (.call 42 [(.c (.i .i64 (8))), (.c (.i .i64 (0)))]), (some (96, true)), [(99, (.load (some 3) (.t 2)), (some (96, true)))]⟩,
      ⟨(some 100), (.bsl 3 3 [(.i .i64 (0)), (.i .i64 (0)), (.i .i64 (0)), (.i .i64 (0)), (.i .i64 (0)), (.i .i64 (0)), (.i .i64 (0)), (.i .i64 (0)), (.i .i64 (0))] [(0, 3, (.t 97)), (3, 3, (.t 98)), (6, 3, (.t 99))]), (some (96, true)), []⟩,
      ⟨(some 101), (.call 7 [(.c (.i .i64 (2))), (.c (.i .i64 (2))), (.t 100)]), (some (96, true)), []⟩,
      ⟨(some 102), (.pick (.t 96) (.t 101) (.c (.b false))), none, []⟩,
      ⟨(some 10), (.mov (.t 102)), none, []⟩] [])
    (.seq (.region [⟨(some 107), (.load (some 3) (.t 2)), none, []⟩,
      ⟨(some 11), (.alloc [.ns, .ns]), none, []⟩,
      ⟨(some 103), (.call 4 [(.c (.i .i64 (1))), (.c (.i .i64 (6)))]), none, [(107, (.load (some 3) (.t 2)), none)]⟩,
      ⟨(some 104), (.call 4 [(.c (.i .i64 (1))), (.c (.i .i64 (7)))]), none, [(107, (.load (some 3) (.t 2)), none)]⟩,
      ⟨(some 105), (.call 4 [(.c (.i .i64 (20))), (.c (.i .i64 (2)))]), none, [(107, (.load (some 3) (.t 2)), none)]⟩,
      ⟨(some 106), (.call 42 [(.c (.i .i64 (8))), (.c (.i .i64 (0)))]), none, [(107, (.load (some 3) (.t 2)), none)]⟩,
      ⟨(some 108), (.bsl 3 5 [(.i .i64 (0)), (.i .i64 (0)), (.i .i64 (0)), (.i .i64 (0)), (.i .i64 (0)), (.i .i64 (0)), (.i .i64 (0)), (.i .i64 (0)), (.i .i64 (0)), (.i .i64 (0)), (.i .i64 (0)), (.i .i64 (0)), (.i .i64 (0)), (.i .i64 (0)), (.i .i64 (0))] [(0, 3, (.t 103)), (3, 3, (.t 104)), (6, 3, (.t 105)), (9, 3, (.t 106)), (12, 3, (.t 107))]), none, []⟩,
      ⟨(some 109), (.call 10 [(.t 108)]), none, []⟩,
      ⟨none, (.store 2 (.t 11) (.t 109)), none, []⟩] [])
    (.seq (.region [⟨(some 110), (.off (.t 11) 1), none, []⟩,
      ⟨(some 111), (.load none (.t 110)), none, []⟩,
      ⟨(some 112), (.build [(.i .i64 (0)), (.i .i64 (0)), (.s []), .ns, .ns] [(0, 1, (.c (.i .i64 (6)))), (1, 1, (.c (.i .i64 (3))))]), none, []⟩,
      ⟨(some 113), (.build [(.i .i64 (0)), (.i .i64 (0)), (.s []), .ns, .ns] [(0, 1, (.c (.i .i64 (6)))), (1, 1, (.c (.i .i64 (1))))]), none, []⟩,
      ⟨(some 114), (.bsl 5 2 [(.i .i64 (0)), (.i .i64 (0)), (.s []), .ns, .ns, (.i .i64 (0)), (.i .i64 (0)), (.s []), .ns, .ns] [(0, 5, (.t 112)), (5, 5, (.t 113))]), none, []⟩,
      ⟨(some 115), (.app 5 80 (.t 111) (.t 114)), none, []⟩,
      ⟨(some 116), (.off (.t 11) 1), none, []⟩,
      ⟨none, (.store 1 (.t 116) (.t 115)), none, []⟩] [])
    (.seq (.region [⟨(some 118), (.load (some 2) (.t 11)), none, []⟩,
      ⟨(some 119), (.call 9 [(.t 118), (.c (.i .i64 (0))), (.c .ns)]), none, []⟩,
      ⟨(some 117), (.mov (.t 119)), none, []⟩,
      ⟨(some 120), (.ext (.t 117) 0), none, []⟩,
      ⟨(some 121), (.ext (.t 117) 1), none, []⟩,
      ⟨(some 12), (.mov (.t 120)), none, []⟩,
      ⟨(some 13), (.mov (.t 121)), none, []⟩] [])
    (.seq (.seq (.region [⟨(some 122), (.mov (.t 9)), none, []⟩,
      ⟨(some 123), (.un .not (.t 122)), none, []⟩,
      ⟨(some 124), (.mov (.t 123)), none, []⟩,
      ⟨(some 125), (.mov (.t 10)), (some (124, false)), []⟩,
      ⟨(some 126), (.un .not (.t 125)), (some (124, false)), []⟩,
      ⟨(some 127), (.pick (.t 124) (.c (.b true)) (.t 126)), none, []⟩,
      ⟨(some 128), (.mov (.t 127)), none, []⟩,
      ⟨(some 129), (.mov (.t 13)), (some (128, false)), []⟩,
      ⟨(some 130), (.bin .neq (.t 129) (.c (.i .i64 (0)))), (some (128, false)), []⟩,
      ⟨(some 131), (.pick (.t 128) (.c (.b true)) (.t 130)), none, []⟩,
      ⟨(some 132), (.mov (.t 131)), none, []⟩,
      ⟨(some 133), (.mov (.t 12)), (some (132, false)), []⟩,
      ⟨(some 134), (.call 14 [(.t 133), (.c (.i .i64 (100)))]), (some (132, false)), []⟩,
      ⟨(some 135), (.bin .neq (.t 134) (.c (.i .i64 (4)))), (some (132, false)), []⟩,
      ⟨(some 136), (.pick (.t 132) (.c (.b true)) (.t 135)), none, []⟩] [])
    (.cond (.t 136)
      (.seq (.region [⟨(some 0), (.mov (.c (.b false))), none, []⟩] [])
      .ret)
      .skip))
    (.seq (.region [⟨(some 138), (.mov (.t 12)), none, []⟩,
      ⟨(some 139), (.call 12 [(.t 138)]), none, []⟩,
      ⟨(some 137), (.mov (.t 139)), none, []⟩,
      ⟨(some 140), (.ext (.t 137) 0), none, []⟩,
      ⟨(some 141), (.ext (.t 137) 1), none, []⟩,
      ⟨(some 14), (.alloc [(.i .i64 (0)), (.s []), (.i .i64 (0)), (.i .i64 (0)), (.s []), .ns, .ns, .ns]), none, []⟩,
      ⟨none, (.store 8 (.t 14) (.t 140)), none, []⟩,
      ⟨(some 15), (.mov (.t 141)), none, []⟩] [])
    (.seq (.region [⟨(some 142), (.mov (.t 12)), none, []⟩,
      ⟨(some 143), (.build [(.i .i64 (0)), (.i .i64 (0)), (.s []), .ns, .ns] [(0, 1, (.c (.i .i64 (9))))]), none, []⟩,
      ⟨(some 144), (.build [(.i .i64 (0)), (.i .i64 (0)), (.i .i64 (0)), (.s []), .ns, .ns] [(1, 5, (.t 143))]), none, []⟩,
      ⟨(some 145), (.call 17 [(.t 142), (.t 144)]), none, []⟩,
      ⟨(some 16), (.mov (.t 145)), none, []⟩] [])
    (.seq (.region [⟨(some 146), (.mov (.t 12)), none, []⟩,
      ⟨(some 147), (.build [(.i .i64 (0)), (.i .i64 (0)), (.i .i64 (0)), (.s []), .ns, .ns] [(0, 1, (.c (.i .i64 (77))))]), none, []⟩,
      ⟨(some 148), (.call 17 [(.t 146), (.t 147)]), none, []⟩,
      ⟨(some 17), (.mov (.t 148)), none, []⟩] [])
    (.seq (.region [⟨(some 150), (.mov (.t 12)), none, []⟩,
      ⟨(some 151), (.call 11 [(.t 150)]), none, []⟩,
      ⟨(some 149), (.mov (.t 151)), none, []⟩,
      ⟨(some 152), (.ext (.t 149) 0), none, []⟩,
      ⟨(some 153), (.ext (.t 149) 1), none, []⟩,
      ⟨(some 154), (.ext (.t 149) 2), none, []⟩,
      ⟨(some 18), (.alloc [(.i .i64 (0)), (.i .i64 (0)), (.s []), .ns, .ns]), none, []⟩,
      ⟨none, (.store 5 (.t 18) (.t 152)), none, []⟩,
      ⟨(some 19), (.mov (.t 153)), none, []⟩,
      ⟨(some 20), (.mov (.t 154)), none, []⟩] [])
    (.seq (.region [⟨(some 155), (.mov (.t 15)), none, []⟩,
      ⟨(some 156), (.bin .eql (.t 155) (.c (.i .i64 (0)))), none, []⟩,
      ⟨(some 157), (.mov (.t 156)), none, []⟩,
      ⟨(some 158), (.off (.t 14) 7), (some (157, true)), []⟩,
      ⟨(some 159), (.load none (.t 158)), (some (157, true)), []⟩,
      ⟨(some 160), (.bsl 1 2 [(.i .i64 (0)), (.i .i64 (0))] [(0, 1, (.c (.i .i64 (3)))), (1, 1, (.c (.i .i64 (1))))]), (some (157, true)), []⟩,
      ⟨(some 161), (.call 44 [(.t 159), (.t 160)]), (some (157, true)), []⟩,
      ⟨(some 162), (.pick (.t 157) (.t 161) (.c (.b false))), none, []⟩,
      ⟨(some 163), (.mov (.t 162)), none, []⟩,
      ⟨(some 164), (.mov (.t 16)), (some (163, true)), []⟩,
      ⟨(some 165), (.bin .eql (.t 164) (.c (.i .i64 (2)))), (some (163, true)), []⟩,
      ⟨(some 166), (.pick (.t 163) (.t 165) (.c (.b false))), none, []⟩,
      ⟨(some 167), (.mov (.t 166)), none, []⟩,
      ⟨(some 168), (.mov (.t 17)), (some (167, true)), []⟩,
      ⟨(some 169), (.bin .eql (.t 168) (.c (.i .i64 (0)))), (some (167, true)), []⟩,
      ⟨(some 170), (.pick (.t 167) (.t 169) (.c (.b false))), none, []⟩,
      ⟨(some 171), (.mov (.t 170)), none, []⟩,
      ⟨(some 172), (.mov (.t 20)), (some (171, true)), []⟩,
      ⟨(some 173), (.bin .eql (.t 172) (.c (.i .i64 (0)))), (some (171, true)), []⟩,
      ⟨(some 174), (.pick (.t 171) (.t 173) (.c (.b false))), none, []⟩,
      ⟨(some 175), (.mov (.t 174)), none, []⟩,
      ⟨(some 176), (.mov (.t 19)), (some (175, true)), []⟩,
      ⟨(some 177), (.bin .eql (.t 176) (.c (.i .i64 (77)))), (some (175, true)), []⟩,
      ⟨(some 178), (.pick (.t 175) (.t 177) (.c (.b false))), none, []⟩,
      ⟨(some 179), (.mov (.t 178)), none, []⟩,
      ⟨(some 180), (.mov (.t 12)), (some (179, true)), []⟩,
      ⟨(some 181), (.call 19 [(.t 180)]), (some (179, true)), []⟩,
      ⟨(some 182), (.bin .eql (.t 181) (.c (.i .i64 (3)))), (some (179, true)), []⟩,
      ⟨(some 183), (.pick (.t 179) (.t 182) (.c (.b false))), none, []⟩,
      ⟨(some 0), (.mov (.t 183)), none, []⟩] [])
    .ret)))))))))))))))),
    184, 0, [.t 0], 2⟩
theorem tr23 : trFunc Tryz.prog [([], []), ([], []), ([0, 2, 8, 1, 3, 4, 5, 6, 7, 9, 10], []), ([0, 2, 8, 1, 3, 4, 5, 6, 7, 9, 10], []), ([1, 7, 0, 2, 3, 4, 5, 6, 8, 9], []), ([0, 1, 2, 3, 4, 5, 6, 7, 8, 9, 10, 11, 12, 13, 14, 15, 16, 17, 18, 19, 20, 21, 22, 23, 24], []), ([2, 0, 1, 3, 4, 5, 6, 8, 7, 9, 10, 11, 12, 13, 15, 14, 16, 17, 18, 19, 22, 20, 21, 23, 24, 25, 26, 29, 27, 28, 30, 31, 32, 33], []), ([4, 7, 0, 1, 2, 3, 5, 6, 8], []), ([], []), ([], []), ([], []), ([], []), ([], []), ([], []), ([], []), ([], []), ([], []), ([], [])] 1 Tryz.f23 = some (plain1 I23) := by kernel_rfl
theorem ck23 : ckC 1 I23.body = true := by kernel_rfl

/-- 'encore/verify.Program'. -/
def L24a : ICode :=
  (.seq (.region [⟨(some 17), (.bin .lss (.t 16) (.t 15)), none, []⟩] [])
    (.seq (.cond (.t 17)
      .skip
      (.exit 0))
    (.seq (.block 1
      (.seq (.region [⟨(some 18), (.iaddr 4 (.t 14) (.t 16)), none, []⟩,
        ⟨(some 19), (.load (some 4) (.t 18)), none, []⟩,
        ⟨(some 5), (.alloc [(.s []), (.i .i64 (0)), (.i .i64 (0)), .ns]), none, []⟩,
        ⟨none, (.store 4 (.t 5) (.t 19)), none, []⟩] [])
      (.seq (.region [⟨(some 21), (.load (some 2) (.t 1)), none, []⟩,
        ⟨(some 22), (.load (some 4) (.t 5)), none, []⟩,
        ⟨(some 23), (.call 46 [(.t 21), (.t 22)]), none, []⟩,
        ⟨(some 20), (.mov (.t 23)), none, []⟩,
        ⟨(some 24), (.ext (.t 20) 0), none, []⟩,
        ⟨(some 25), (.ext (.t 20) 1), none, []⟩,
        ⟨(some 6), (.mov (.t 24)), none, []⟩,
        ⟨(some 7), (.mov (.t 25)), none, []⟩] [])
      (.seq (.region [⟨(some 26), (.mov (.t 7)), none, []⟩,
        ⟨(some 27), (.bin .neq (.t 26) (.c (.i .i64 (0)))), none, []⟩] [])
      (.cond (.t 27)
        (.seq (.region [⟨(some 28), (.mov (.t 7)), none, []⟩,
          ⟨(some 2), (.mov (.t 28)), none, []⟩] [])
        .ret)
        .skip)))))
    (.region [⟨(some 29), (.bin .add (.t 16) (.c (.i .i64 (1)))), none, []⟩,
      ⟨(some 16), (.mov (.t 29)), none, []⟩] []))))
def I24 : IFunc :=
  ⟨(.seq (.region [⟨(some 1), (.box (.t 0)), none, []⟩,
      ⟨(some 2), (.mov (.c (.i .i64 (0)))), none, []⟩] [])
    (.seq (.seq (.region [⟨(some 8), (.load (some 2) (.t 1)), none, []⟩,
      ⟨(some 9), (.call 45 [(.t 8)]), none, []⟩,
      ⟨(some 3), (.mov (.t 9)), none, []⟩] [])
    (.seq (.region [⟨(some 10), (.mov (.t 3)), none, []⟩,
      ⟨(some 11), (.bin .neq (.t 10) (.c (.i .i64 (0)))), none, []⟩] [])
    (.cond (.t 11)
      (.seq (.region [⟨(some 12), (.mov (.t 3)), none, []⟩,
        ⟨(some 2), (.mov (.t 12)), none, []⟩] [])
      .ret)
      .skip)))
    (.seq (.seq (.region [⟨(some 13), (.off (.t 1) 0), none, []⟩,
      ⟨(some 14), (.load none (.t 13)), none, []⟩,
      ⟨(some 15), (.lenk 0 (.t 14)), none, []⟩,
      ⟨(some 16), (.mov (.c (.i .i64 (0)))), none, []⟩] [])
    (.block 0
      (.loop L24a)))
    (.seq (.region [⟨(some 2), (.mov (.c (.i .i64 (0)))), none, []⟩] [])
    .ret)))),
    30, 1, [.t 2], 0⟩
theorem tr24 : trFunc Tryz.prog [([], []), ([], []), ([], []), ([], []), ([], []), ([], []), ([], []), ([], []), ([], []), ([], []), ([], []), ([], []), ([], []), ([], []), ([], [])] 0 Tryz.f24 = some (plain1 I24) := by kernel_rfl
theorem ck24 : ckC 1 I24.body = true := by kernel_rfl

/-- 'encore/base.may'. -/
def I25 : IFunc :=
  ⟨(.seq (.region [⟨(some 2), (.mov (.c (.b false))), none, []⟩] [])
    (.seq (.region [⟨(some 3), (.mov (.t 0)), none, []⟩,
      ⟨(some 4), (.call 47 [(.t 3), (.f 48)]), none, []⟩,
      ⟨(some 5), (.un .not (.t 4)), none, []⟩,
      ⟨(some 2), (.mov (.t 5)), none, []⟩] [])
    .ret)),
    6, 1, [.t 2], 0⟩
theorem tr25 : trFunc Tryz.prog [([], []), ([], [])] 0 Tryz.f25 = some (plain1 I25) := by kernel_rfl
theorem ck25 : ckC 1 I25.body = true := by kernel_rfl

/-- 'encore/base.all'. -/
def L26a : ICode :=
  (.seq (.region [⟨(some 10), (.bin .lss (.t 9) (.t 8)), none, []⟩] [])
    (.seq (.cond (.t 10)
      .skip
      (.exit 0))
    (.seq (.block 1
      (.seq (.region [⟨(some 11), (.mov (.t 9)), none, []⟩,
        ⟨(some 4), (.mov (.t 11)), none, []⟩] [])
      (.region [⟨(some 12), (.mov (.t 3)), none, []⟩,
        ⟨(some 13), (.mov (.t 4)), none, []⟩,
        ⟨(some 14), (.mov (.t 3)), none, []⟩,
        ⟨(some 15), (.mov (.t 4)), none, []⟩,
        ⟨(some 16), (.iaddr 5 (.t 14) (.t 15)), none, []⟩,
        ⟨(some 17), (.load (some 5) (.t 16)), none, []⟩,
        ⟨(some 18), (.call 32 [(.t 17)]), none, []⟩,
        ⟨(some 19), (.iaddr 5 (.t 12) (.t 13)), none, []⟩,
        ⟨none, (.store 5 (.t 19) (.t 18)), none, []⟩] [])))
    (.region [⟨(some 20), (.bin .add (.t 9) (.c (.i .i64 (1)))), none, []⟩,
      ⟨(some 9), (.mov (.t 20)), none, []⟩] []))))
def I26 : IFunc :=
  ⟨(.seq (.region [⟨(some 2), (.mov (.c .ns)), none, []⟩] [])
    (.seq (.region [⟨(some 5), (.mov (.t 0)), none, []⟩,
      ⟨(some 6), (.call 49 [(.t 5)]), none, []⟩,
      ⟨(some 3), (.mov (.t 6)), none, []⟩] [])
    (.seq (.seq (.region [⟨(some 7), (.mov (.t 3)), none, []⟩,
      ⟨(some 8), (.lenk 0 (.t 7)), none, []⟩,
      ⟨(some 9), (.mov (.c (.i .i64 (0)))), none, []⟩] [])
    (.block 0
      (.loop L26a)))
    (.seq (.region [⟨(some 21), (.mov (.t 3)), none, []⟩,
      ⟨(some 2), (.mov (.t 21)), none, []⟩] [])
    .ret)))),
    22, 1, [.t 2], 0⟩
theorem tr26 : trFunc Tryz.prog [([], []), ([], []), ([], []), ([], []), ([], []), ([], []), ([], []), ([], []), ([], [])] 0 Tryz.f26 = some (plain1 I26) := by kernel_rfl
theorem ck26 : ckC 1 I26.body = true := by kernel_rfl

/-- 'slices.Clone[[]encore/api.Func,encore/api.Func]'. -/
def I27 : IFunc :=
  ⟨(.seq (.region [⟨(some 2), (.mov (.c .ns)), none, []⟩] [])
    (.seq (.seq (.region [⟨(some 3), (.mov (.t 0)), none, []⟩,
      ⟨(some 4), (.eqNil 0 false (.t 3) (.c .ns)), none, []⟩] [])
    (.cond (.t 4)
      (.seq (.region [⟨(some 2), (.mov (.c .ns)), none, []⟩] [])
      .ret)
      .skip))
    (.seq (.region [⟨(some 5), (.bsl 4 0 [] []), none, []⟩,
      ⟨(some 6), (.mov (.t 0)), none, []⟩,
      ⟨(some 7), (.app 4 56 (.t 5) (.t 6)), none, []⟩,
      ⟨(some 2), (.mov (.t 7)), none, []⟩] [])
    .ret))),
    8, 1, [.t 2], 0⟩
theorem tr27 : trFunc Tryz.prog [([], []), ([], []), ([], []), ([], []), ([], [])] 0 Tryz.f27 = some (plain1 I27) := by kernel_rfl
theorem ck27 : ckC 1 I27.body = true := by kernel_rfl

/-- 'slices.Clone[[]encore/api.Instr,encore/api.Instr]'. -/
def I28 : IFunc :=
  ⟨(.seq (.region [⟨(some 2), (.mov (.c .ns)), none, []⟩] [])
    (.seq (.seq (.region [⟨(some 3), (.mov (.t 0)), none, []⟩,
      ⟨(some 4), (.eqNil 0 false (.t 3) (.c .ns)), none, []⟩] [])
    (.cond (.t 4)
      (.seq (.region [⟨(some 2), (.mov (.c .ns)), none, []⟩] [])
      .ret)
      .skip))
    (.seq (.region [⟨(some 5), (.bsl 3 0 [] []), none, []⟩,
      ⟨(some 6), (.mov (.t 0)), none, []⟩,
      ⟨(some 7), (.app 3 24 (.t 5) (.t 6)), none, []⟩,
      ⟨(some 2), (.mov (.t 7)), none, []⟩] [])
    .ret))),
    8, 1, [.t 2], 0⟩
theorem tr28 : trFunc Tryz.prog [([], []), ([], []), ([], []), ([], []), ([], [])] 0 Tryz.f28 = some (plain1 I28) := by kernel_rfl
theorem ck28 : ckC 1 I28.body = true := by kernel_rfl

/-- 'encore/verify.Func'. -/
def I29 : IFunc :=
  ⟨(.seq (.region [⟨(some 2), (.box (.t 0)), none, []⟩,
      ⟨(some 4), (.mov (.c .ns)), none, []⟩,
      ⟨(some 5), (.mov (.c (.i .i64 (0)))), none, []⟩] [])
    (.seq (.seq (.region [⟨(some 7), (.load (some 2) (.t 2)), none, []⟩,
      ⟨(some 8), (.call 45 [(.t 7)]), none, []⟩,
      ⟨(some 6), (.mov (.t 8)), none, []⟩] [])
    (.seq (.region [⟨(some 9), (.mov (.t 6)), none, []⟩,
      ⟨(some 10), (.bin .neq (.t 9) (.c (.i .i64 (0)))), none, []⟩] [])
    (.cond (.t 10)
      (.seq (.region [⟨(some 11), (.mov (.t 6)), none, []⟩,
        ⟨(some 4), (.mov (.c .ns)), none, []⟩,
        ⟨(some 5), (.mov (.t 11)), none, []⟩] [])
      .ret)
      .skip)))
    (.seq (.seq (.region [⟨(some 12), (.mov (.t 1)), none, []⟩,
      ⟨(some 13), (.bin .lss (.t 12) (.c (.i .i64 (0)))), none, []⟩,
      ⟨(some 14), (.mov (.t 13)), none, []⟩,
      ⟨(some 15), (.mov (.t 1)), (some (14, false)), []⟩,
      ⟨(some 16), (.off (.t 2) 0), (some (14, false)), []⟩,
      ⟨(some 17), (.load none (.t 16)), (some (14, false)), []⟩,
      ⟨(some 18), (.lenk 0 (.t 17)), (some (14, false)), []⟩,
      ⟨(some 19), (.bin .geq (.t 15) (.t 18)), (some (14, false)), []⟩,
      ⟨(some 20), (.pick (.t 14) (.c (.b true)) (.t 19)), none, []⟩] [])
    (.cond (.t 20)
      (.seq (.region [⟨(some 4), (.mov (.c .ns)), none, []⟩,
        ⟨(some 5), (.mov (.c (.i .i64 (9)))), none, []⟩] [])
      .ret)
      .skip))
    (.seq (.region [⟨(some 21), (.load (some 2) (.t 2)), none, []⟩,
      ⟨(some 22), (.off (.t 2) 0), none, []⟩,
      ⟨(some 23), (.load none (.t 22)), none, []⟩,
      ⟨(some 24), (.mov (.t 1)), none, []⟩,
      ⟨(some 25), (.iaddr 4 (.t 23) (.t 24)), none, []⟩,
      ⟨(some 26), (.load (some 4) (.t 25)), none, []⟩,
      ⟨(some 27), (.call 46 [(.t 21), (.t 26)]), none, []⟩,
      ⟨(some 28), (.ext (.t 27) 0), none, []⟩,
      ⟨(some 29), (.ext (.t 27) 1), none, []⟩,
      ⟨(some 4), (.mov (.t 28)), none, []⟩,
      ⟨(some 5), (.mov (.t 29)), none, []⟩] [])
    .ret)))),
    30, 2, [.t 4, .t 5], 0⟩
theorem tr29 : trFunc Tryz.prog [([], []), ([], []), ([], []), ([], []), ([], []), ([], []), ([], []), ([], []), ([0, 1, 2, 3, 4, 5, 6, 7, 8, 9, 10], [])] 0 Tryz.f29 = some (plain1 I29) := by kernel_rfl
theorem ck29 : ckC 1 I29.body = true := by kernel_rfl

/-- '(*encore/base.Machine).framed'. -/
def I30 : IFunc :=
  ⟨(.seq (.region [⟨(some 6), (.mov (.c .np)), none, []⟩] [])
    (.seq (.region [⟨(some 8), (.mov (.t 2)), none, []⟩,
      ⟨(some 9), (.mov (.t 0)), none, []⟩,
      ⟨(some 10), (.nck (.t 9)), none, []⟩,
      ⟨(some 11), (.off (.t 10) 2), none, []⟩,
      ⟨(some 12), (.off (.t 11) 0), none, []⟩,
      ⟨(some 13), (.load none (.t 12)), none, []⟩,
      ⟨(some 14), (.mov (.t 1)), none, []⟩,
      ⟨(some 15), (.iaddr 4 (.t 13) (.t 14)), none, []⟩,
      ⟨(some 16), (.off (.t 15) 2), none, []⟩,
      ⟨(some 17), (.load none (.t 16)), none, []⟩,
      ⟨(some 18), (.mov (.t 2)), none, []⟩,
      ⟨(some 19), (.lenk 0 (.t 18)), none, []⟩,
      ⟨(some 20), (.bin .sub (.t 17) (.t 19)), none, []⟩,
      ⟨(some 21), (.appz 5 80 [(.i .i64 (0)), (.i .i64 (0)), (.s []), .ns, .ns] (.t 8) (.t 20)), none, []⟩,
      ⟨(some 7), (.mov (.t 21)), none, []⟩] [])
    (.seq (.region [⟨(some 22), (.mov (.t 1)), none, []⟩,
      ⟨(some 23), (.mov (.t 7)), none, []⟩,
      ⟨(some 24), (.build [(.i .i64 (0)), (.i .i64 (0)), .ns, .ns, .ns] [(0, 1, (.t 22)), (2, 1, (.t 23))]), none, []⟩,
      ⟨(some 25), (.build [(.i .i64 (0)), (.i .i64 (0)), .ns, .ns, .ns] [(0, 5, (.t 24))]), none, []⟩,
      ⟨(some 26), (.box (.t 25)), none, []⟩,
      ⟨(some 6), (.mov (.t 26)), none, []⟩] [])
    .ret))),
    27, 3, [.t 6], 0⟩
theorem tr30 : trFunc Tryz.prog [([], []), ([], []), ([], [])] 0 Tryz.f30 = some (plain1 I30) := by kernel_rfl
theorem ck30 : ckC 1 I30.body = true := by kernel_rfl

/-- '(*encore/base.Machine).none'. -/
def I31 : IFunc :=
  ⟨(.seq (.region [⟨(some 2), (.mov (.c (.b false))), none, []⟩] [])
    (.seq (.region [⟨(some 3), (.mov (.t 0)), none, []⟩,
      ⟨(some 4), (.eqNil 1 false (.t 3) (.c .np)), none, []⟩,
      ⟨(some 5), (.mov (.t 4)), none, []⟩,
      ⟨(some 6), (.mov (.t 0)), (some (5, false)), []⟩,
      ⟨(some 7), (.nck (.t 6)), (some (5, false)), []⟩,
      ⟨(some 8), (.off (.t 7) 4), (some (5, false)), []⟩,
      ⟨(some 9), (.load none (.t 8)), (some (5, false)), []⟩,
      ⟨(some 10), (.lenk 0 (.t 9)), (some (5, false)), []⟩,
      ⟨(some 11), (.bin .eql (.t 10) (.c (.i .i64 (0)))), (some (5, false)), []⟩,
      ⟨(some 12), (.pick (.t 5) (.c (.b true)) (.t 11)), none, []⟩,
      ⟨(some 2), (.mov (.t 12)), none, []⟩] [])
    .ret)),
    13, 1, [.t 2], 0⟩
theorem tr31 : trFunc Tryz.prog [([], []), ([], [])] 0 Tryz.f31 = some (plain1 I31) := by kernel_rfl
theorem ck31 : ckC 1 I31.body = true := by kernel_rfl

/-- 'encore/base.own'. -/
def I32 : IFunc :=
  ⟨(.seq (.region [⟨(some 1), (.box (.t 0)), none, []⟩,
      ⟨(some 2), (.alloc [(.i .i64 (0)), (.i .i64 (0)), (.s []), .ns, .ns]), none, []⟩] [])
    (.seq (.region [⟨(some 3), (.off (.t 1) 4), none, []⟩,
      ⟨(some 4), (.load none (.t 3)), none, []⟩,
      ⟨(some 5), (.call 50 [(.t 4)]), none, []⟩,
      ⟨(some 6), (.off (.t 1) 4), none, []⟩,
      ⟨none, (.store 1 (.t 6) (.t 5)), none, []⟩] [])
    (.seq (.region [⟨(some 7), (.off (.t 1) 3), none, []⟩,
      ⟨(some 8), (.load none (.t 7)), none, []⟩,
      ⟨(some 9), (.call 26 [(.t 8)]), none, []⟩,
      ⟨(some 10), (.off (.t 1) 3), none, []⟩,
      ⟨none, (.store 1 (.t 10) (.t 9)), none, []⟩] [])
    (.seq (.region [⟨(some 11), (.load (some 5) (.t 1)), none, []⟩,
      ⟨none, (.store 5 (.t 2) (.t 11)), none, []⟩] [])
    .ret)))),
    12, 1, [.c 2 (some 5)], 0⟩
theorem tr32 : trFunc Tryz.prog [([], []), ([], []), ([], []), ([], [])] 0 Tryz.f32 = some (plain1 I32) := by kernel_rfl
theorem ck32 : ckC 1 I32.body = true := by kernel_rfl

/-- 'slices.Clone[[]int,int]'. -/
def I33 : IFunc :=
  ⟨(.seq (.region [⟨(some 2), (.mov (.c .ns)), none, []⟩] [])
    (.seq (.seq (.region [⟨(some 3), (.mov (.t 0)), none, []⟩,
      ⟨(some 4), (.eqNil 0 false (.t 3) (.c .ns)), none, []⟩] [])
    (.cond (.t 4)
      (.seq (.region [⟨(some 2), (.mov (.c .ns)), none, []⟩] [])
      .ret)
      .skip))
    (.seq (.region [⟨(some 5), (.bsl 1 0 [] []), none, []⟩,
      ⟨(some 6), (.mov (.t 0)), none, []⟩,
      ⟨(some 7), (.app 1 8 (.t 5) (.t 6)), none, []⟩,
      ⟨(some 2), (.mov (.t 7)), none, []⟩] [])
    .ret))),
    8, 1, [.t 2], 0⟩
theorem tr33 : trFunc Tryz.prog [([], []), ([], []), ([], []), ([], []), ([], [])] 0 Tryz.f33 = some (plain1 I33) := by kernel_rfl
theorem ck33 : ckC 1 I33.body = true := by kernel_rfl

/-- 'slices.Equal[[]encore/verify.Try,encore/verify.Try]'. -/
def L34a : ICode :=
  (.seq (.region [⟨(some 14), (.bin .lss (.t 13) (.t 12)), none, []⟩] [])
    (.seq (.cond (.t 14)
      .skip
      (.exit 0))
    (.seq (.block 1
      (.seq (.region [⟨(some 15), (.mov (.t 13)), none, []⟩,
        ⟨(some 5), (.mov (.t 15)), none, []⟩] [])
      (.seq (.region [⟨(some 16), (.mov (.t 0)), none, []⟩,
        ⟨(some 17), (.mov (.t 5)), none, []⟩,
        ⟨(some 18), (.iaddr 2 (.t 16) (.t 17)), none, []⟩,
        ⟨(some 19), (.load (some 2) (.t 18)), none, []⟩,
        ⟨(some 20), (.mov (.t 1)), none, []⟩,
        ⟨(some 21), (.mov (.t 5)), none, []⟩,
        ⟨(some 22), (.iaddr 2 (.t 20) (.t 21)), none, []⟩,
        ⟨(some 23), (.load (some 2) (.t 22)), none, []⟩,
        ⟨(some 24), (.eqAg [1, 1] true (.t 19) (.t 23)), none, []⟩] [])
      (.cond (.t 24)
        (.seq (.region [⟨(some 4), (.mov (.c (.b false))), none, []⟩] [])
        .ret)
        .skip))))
    (.region [⟨(some 25), (.bin .add (.t 13) (.c (.i .i64 (1)))), none, []⟩,
      ⟨(some 13), (.mov (.t 25)), none, []⟩] []))))
def I34 : IFunc :=
  ⟨(.seq (.region [⟨(some 4), (.mov (.c (.b false))), none, []⟩] [])
    (.seq (.seq (.region [⟨(some 6), (.mov (.t 0)), none, []⟩,
      ⟨(some 7), (.lenk 0 (.t 6)), none, []⟩,
      ⟨(some 8), (.mov (.t 1)), none, []⟩,
      ⟨(some 9), (.lenk 0 (.t 8)), none, []⟩,
      ⟨(some 10), (.bin .neq (.t 7) (.t 9)), none, []⟩] [])
    (.cond (.t 10)
      (.seq (.region [⟨(some 4), (.mov (.c (.b false))), none, []⟩] [])
      .ret)
      .skip))
    (.seq (.seq (.region [⟨(some 11), (.mov (.t 0)), none, []⟩,
      ⟨(some 12), (.lenk 0 (.t 11)), none, []⟩,
      ⟨(some 13), (.mov (.c (.i .i64 (0)))), none, []⟩] [])
    (.block 0
      (.loop L34a)))
    (.seq (.region [⟨(some 4), (.mov (.c (.b true))), none, []⟩] [])
    .ret)))),
    26, 2, [.t 4], 0⟩
theorem tr34 : trFunc Tryz.prog [([], []), ([], []), ([], []), ([], []), ([], []), ([], []), ([], []), ([], []), ([0, 1, 2, 3, 4, 5, 6, 7, 8], []), ([], []), ([], []), ([], []), ([], [])] 0 Tryz.f34 = some (plain1 I34) := by kernel_rfl
theorem ck34 : ckC 1 I34.body = true := by kernel_rfl

/-- '(*encore/base.Machine).does'. -/
def I35 : IFunc :=
  ⟨(.seq (.region [⟨(some 4), (.mov (.c .nf)), none, []⟩] [])
    (.seq (.block 0
      (.seq (.region [⟨(some 6), (.mov (.t 1)), none, []⟩,
        ⟨(some 7), (.bin .eql (.t 6) (.c (.i .i64 (1)))), none, []⟩,
        ⟨(some 8), (.mov (.t 7)), none, []⟩,
        ⟨(some 9), (.mov (.t 1)), (some (8, false)), []⟩,
        ⟨(some 10), (.bin .eql (.t 9) (.c (.i .i64 (2)))), (some (8, false)), []⟩,
        ⟨(some 11), (.pick (.t 8) (.c (.b true)) (.t 10)), none, []⟩,
        ⟨(some 5), (.mov (.t 11)), none, []⟩] [])
      (.cond (.t 5)
        (.seq (.region [⟨(some 12), (.mov (.t 0)), none, []⟩,
          ⟨(some 13), (.mkf 51 [(.t 12)] []), none, []⟩,
          ⟨(some 4), (.mov (.t 13)), none, []⟩] [])
        .ret)
        (.seq (.region [⟨(some 15), (.mov (.t 1)), none, []⟩,
          ⟨(some 16), (.bin .eql (.t 15) (.c (.i .i64 (3)))), none, []⟩,
          ⟨(some 17), (.mov (.t 16)), none, []⟩,
          ⟨(some 18), (.mov (.t 1)), (some (17, false)), []⟩,
          ⟨(some 19), (.bin .eql (.t 18) (.c (.i .i64 (4)))), (some (17, false)), []⟩,
          ⟨(some 20), (.pick (.t 17) (.c (.b true)) (.t 19)), none, []⟩,
          ⟨(some 14), (.mov (.t 20)), none, []⟩] [])
        (.cond (.t 14)
          (.seq (.region [⟨(some 21), (.mov (.t 0)), none, []⟩,
            ⟨(some 22), (.mkf 52 [(.t 21)] []), none, []⟩,
            ⟨(some 4), (.mov (.t 22)), none, []⟩] [])
          .ret)
          (.seq (.region [⟨(some 24), (.mov (.t 1)), none, []⟩,
            ⟨(some 25), (.bin .eql (.t 24) (.c (.i .i64 (5)))), none, []⟩,
            ⟨(some 23), (.mov (.t 25)), none, []⟩] [])
          (.cond (.t 23)
            (.seq (.region [⟨(some 26), (.mov (.t 0)), none, []⟩,
              ⟨(some 27), (.mkf 53 [(.t 26)] []), none, []⟩,
              ⟨(some 4), (.mov (.t 27)), none, []⟩] [])
            .ret)
            (.seq (.region [⟨(some 29), (.mov (.t 1)), none, []⟩,
              ⟨(some 30), (.bin .leq (.t 29) (.c (.i .i64 (8)))), none, []⟩,
              ⟨(some 28), (.mov (.t 30)), none, []⟩] [])
            (.cond (.t 28)
              (.seq (.region [⟨(some 31), (.mov (.t 0)), none, []⟩,
                ⟨(some 32), (.mkf 54 [(.t 31)] []), none, []⟩,
                ⟨(some 4), (.mov (.t 32)), none, []⟩] [])
              .ret)
              (.seq (.region [⟨(some 34), (.mov (.t 1)), none, []⟩,
                ⟨(some 35), (.bin .leq (.t 34) (.c (.i .i64 (19)))), none, []⟩,
                ⟨(some 33), (.mov (.t 35)), none, []⟩] [])
              (.cond (.t 33)
                (.seq (.region [⟨(some 36), (.mov (.t 0)), none, []⟩,
                  ⟨(some 37), (.mkf 55 [(.t 36)] []), none, []⟩,
                  ⟨(some 4), (.mov (.t 37)), none, []⟩] [])
                .ret)
                .skip)))))))))))
    (.seq (.seq (.region [⟨(some 38), (.mov (.t 1)), none, []⟩] [])
    (.block 1
      (.seq (.region [⟨(some 40), (.bin .eql (.t 38) (.c (.i .i64 (20)))), none, []⟩,
        ⟨(some 39), (.mov (.t 40)), none, []⟩] [])
      (.cond (.t 39)
        (.seq (.region [⟨(some 41), (.mov (.t 0)), none, []⟩,
          ⟨(some 42), (.mkf 56 [(.t 41)] []), none, []⟩,
          ⟨(some 4), (.mov (.t 42)), none, []⟩] [])
        .ret)
        (.seq (.region [⟨(some 44), (.bin .eql (.t 38) (.c (.i .i64 (21)))), none, []⟩,
          ⟨(some 43), (.mov (.t 44)), none, []⟩] [])
        (.cond (.t 43)
          (.seq (.region [⟨(some 45), (.mov (.t 0)), none, []⟩,
            ⟨(some 46), (.mkf 57 [(.t 45)] []), none, []⟩,
            ⟨(some 4), (.mov (.t 46)), none, []⟩] [])
          .ret)
          (.seq (.region [⟨(some 48), (.bin .eql (.t 38) (.c (.i .i64 (22)))), none, []⟩,
            ⟨(some 47), (.mov (.t 48)), none, []⟩] [])
          (.cond (.t 47)
            (.seq (.region [⟨(some 49), (.mov (.t 0)), none, []⟩,
              ⟨(some 50), (.mkf 58 [(.t 49)] []), none, []⟩,
              ⟨(some 4), (.mov (.t 50)), none, []⟩] [])
            .ret)
            (.seq (.region [⟨(some 52), (.bin .eql (.t 38) (.c (.i .i64 (23)))), none, []⟩,
              ⟨(some 51), (.mov (.t 52)), none, []⟩] [])
            (.cond (.t 51)
              (.seq (.region [⟨(some 53), (.mov (.t 0)), none, []⟩,
                ⟨(some 54), (.mkf 59 [(.t 53)] []), none, []⟩,
                ⟨(some 4), (.mov (.t 54)), none, []⟩] [])
              .ret)
              (.seq (.region [⟨(some 56), (.bin .eql (.t 38) (.c (.i .i64 (24)))), none, []⟩,
                ⟨(some 55), (.mov (.t 56)), none, []⟩] [])
              (.cond (.t 55)
                (.seq (.region [⟨(some 57), (.mov (.t 0)), none, []⟩,
                  ⟨(some 58), (.mkf 60 [(.t 57)] []), none, []⟩,
                  ⟨(some 4), (.mov (.t 58)), none, []⟩] [])
                .ret)
                (.seq (.region [⟨(some 60), (.bin .eql (.t 38) (.c (.i .i64 (25)))), none, []⟩,
                  ⟨(some 59), (.mov (.t 60)), none, []⟩] [])
                (.cond (.t 59)
                  (.seq (.region [⟨(some 61), (.mov (.t 0)), none, []⟩,
                    ⟨(some 62), (.mkf 61 [(.t 61)] []), none, []⟩,
                    ⟨(some 4), (.mov (.t 62)), none, []⟩] [])
                  .ret)
                  (.seq (.region [⟨(some 64), (.bin .eql (.t 38) (.c (.i .i64 (26)))), none, []⟩,
                    ⟨(some 63), (.mov (.t 64)), none, []⟩] [])
                  (.cond (.t 63)
                    (.seq (.region [⟨(some 65), (.mov (.t 0)), none, []⟩,
                      ⟨(some 66), (.mkf 62 [(.t 65)] []), none, []⟩,
                      ⟨(some 4), (.mov (.t 66)), none, []⟩] [])
                    .ret)
                    (.seq (.region [⟨(some 68), (.bin .eql (.t 38) (.c (.i .i64 (27)))), none, []⟩,
                      ⟨(some 67), (.mov (.t 68)), none, []⟩] [])
                    (.cond (.t 67)
                      (.seq (.region [⟨(some 69), (.mov (.t 0)), none, []⟩,
                        ⟨(some 70), (.mkf 63 [(.t 69)] []), none, []⟩,
                        ⟨(some 4), (.mov (.t 70)), none, []⟩] [])
                      .ret)
                      (.seq (.region [⟨(some 72), (.bin .eql (.t 38) (.c (.i .i64 (28)))), none, []⟩,
                        ⟨(some 71), (.mov (.t 72)), none, []⟩] [])
                      (.cond (.t 71)
                        (.seq (.region [⟨(some 73), (.mov (.t 0)), none, []⟩,
                          ⟨(some 74), (.mkf 64 [(.t 73)] []), none, []⟩,
                          ⟨(some 4), (.mov (.t 74)), none, []⟩] [])
                        .ret)
                        (.seq (.region [⟨(some 76), (.bin .eql (.t 38) (.c (.i .i64 (29)))), none, []⟩,
                          ⟨(some 75), (.mov (.t 76)), none, []⟩] [])
                        (.cond (.t 75)
                          (.seq (.region [⟨(some 77), (.mov (.t 0)), none, []⟩,
                            ⟨(some 78), (.mkf 65 [(.t 77)] []), none, []⟩,
                            ⟨(some 4), (.mov (.t 78)), none, []⟩] [])
                          .ret)
                          (.seq (.region [⟨(some 80), (.bin .eql (.t 38) (.c (.i .i64 (30)))), none, []⟩,
                            ⟨(some 79), (.mov (.t 80)), none, []⟩] [])
                          (.cond (.t 79)
                            (.seq (.region [⟨(some 81), (.mov (.t 0)), none, []⟩,
                              ⟨(some 82), (.mkf 66 [(.t 81)] []), none, []⟩,
                              ⟨(some 4), (.mov (.t 82)), none, []⟩] [])
                            .ret)
                            .skip))))))))))))))))))))))))
    (.seq (.region [⟨(some 83), (.mov (.t 0)), none, []⟩,
      ⟨(some 84), (.mkf 67 [(.t 83)] []), none, []⟩,
      ⟨(some 4), (.mov (.t 84)), none, []⟩] [])
    .ret)))),
    85, 2, [.t 4], 0⟩
theorem tr35 : trFunc Tryz.prog [([], []), ([], []), ([], []), ([], []), ([], []), ([], []), ([], []), ([], []), ([], []), ([], []), ([], []), ([], []), ([], []), ([], []), ([], []), ([], []), ([], []), ([], []), ([], []), ([], []), ([], []), ([], []), ([], []), ([], []), ([], []), ([], []), ([], []), ([], []), ([], []), ([], []), ([], []), ([], []), ([], []), ([], []), ([], []), ([], []), ([], [])] 0 Tryz.f35 = some (plain1 I35) := by kernel_rfl
theorem ck35 : ckC 1 I35.body = true := by kernel_rfl

/-- 'encore/value.Check'. -/
def I36 : IFunc :=
  ⟨(.seq (.region [⟨(some 1), (.box (.t 0)), none, []⟩,
      ⟨(some 2), (.mov (.c (.i .i64 (0)))), none, []⟩] [])
    (.seq (.seq (.region [⟨(some 6), (.load (some 5) (.t 1)), none, []⟩,
      ⟨(some 7), (.call 68 [(.t 6), (.c (.i .i64 (0))), (.c (.i .i64 (256)))]), none, []⟩,
      ⟨(some 5), (.mov (.t 7)), none, []⟩,
      ⟨(some 8), (.ext (.t 5) 0), none, []⟩,
      ⟨(some 9), (.ext (.t 5) 1), none, []⟩,
      ⟨(some 3), (.mov (.t 8)), none, []⟩,
      ⟨(some 4), (.mov (.t 9)), none, []⟩] [])
    (.seq (.region [⟨(some 10), (.mov (.t 4)), none, []⟩,
      ⟨(some 11), (.un .not (.t 10)), none, []⟩] [])
    (.cond (.t 11)
      (.seq (.region [⟨(some 2), (.mov (.c (.i .i64 (2)))), none, []⟩] [])
      .ret)
      .skip)))
    (.seq (.region [⟨(some 2), (.mov (.c (.i .i64 (0)))), none, []⟩] [])
    .ret))),
    12, 1, [.t 2], 0⟩
theorem tr36 : trFunc Tryz.prog [([], []), ([], []), ([], []), ([], []), ([], []), ([], [])] 0 Tryz.f36 = some (plain1 I36) := by kernel_rfl
theorem ck36 : ckC 1 I36.body = true := by kernel_rfl

/-- '(*encore/base.Machine).made'. -/
def I37 : IFunc :=
  ⟨(.seq (.region [⟨(some 5), (.box (.t 1)), none, []⟩] [])
    (.seq (.seq (.region [⟨(some 8), (.mov (.t 2)), none, []⟩,
      ⟨(some 9), (.bin .neq (.t 8) (.c (.i .i64 (0)))), none, []⟩,
      ⟨(some 10), (.mov (.t 9)), none, []⟩,
      ⟨(some 11), (.mov (.t 3)), (some (10, false)), []⟩,
      ⟨(some 12), (.bin .neq (.t 11) (.c (.i .i64 (0)))), (some (10, false)), []⟩,
      ⟨(some 13), (.pick (.t 10) (.c (.b true)) (.t 12)), none, []⟩] [])
    (.cond (.t 13)
      (.seq (.region [⟨(some 14), (.mov (.t 0)), none, []⟩,
        ⟨(some 15), (.mov (.t 2)), none, []⟩,
        ⟨(some 16), (.call 69 [(.t 14), (.t 15)]), none, []⟩] [])
      .ret)
      .skip))
    (.region [⟨(some 17), (.mov (.t 0)), none, []⟩,
      ⟨(some 18), (.nck (.t 17)), none, []⟩,
      ⟨(some 19), (.off (.t 18) 0), none, []⟩,
      ⟨(some 20), (.load none (.t 19)), none, []⟩,
      ⟨(some 21), (.load (some 5) (.t 5)), none, []⟩,
      ⟨(some 22), (.call 70 [(.t 20), (.t 21)]), none, []⟩] []))),
    23, 4, [], 0⟩
theorem tr37 : trFunc Tryz.prog [([], []), ([], []), ([], []), ([], []), ([0, 1, 2, 3, 4, 5], [])] 0 Tryz.f37 = some (plain1 I37) := by kernel_rfl
theorem ck37 : ckC 1 I37.body = true := by kernel_rfl

/-- 'encore/encoreref07.Compare'. -/
def L38a : ICode :=
  (.seq (.seq (.region [⟨(some 38), (.mov (.t 5)), none, []⟩,
      ⟨(some 39), (.off (.t 2) 4), none, []⟩,
      ⟨(some 40), (.load none (.t 39)), none, []⟩,
      ⟨(some 41), (.lenk 0 (.t 40)), none, []⟩,
      ⟨(some 42), (.bin .lss (.t 38) (.t 41)), none, []⟩,
      ⟨(some 43), (.mov (.t 42)), none, []⟩,
      ⟨(some 44), (.mov (.t 5)), (some (43, true)), []⟩,
      ⟨(some 45), (.off (.t 3) 4), (some (43, true)), []⟩,
      ⟨(some 46), (.load none (.t 45)), (some (43, true)), []⟩,
      ⟨(some 47), (.lenk 0 (.t 46)), (some (43, true)), []⟩,
      ⟨(some 48), (.bin .lss (.t 44) (.t 47)), (some (43, true)), []⟩,
      ⟨(some 49), (.pick (.t 43) (.t 48) (.c (.b false))), none, []⟩] [])
    (.cond (.t 49)
      .skip
      (.exit 0)))
    (.seq (.block 1
      (.seq (.region [⟨(some 52), (.off (.t 2) 4), none, []⟩,
        ⟨(some 53), (.load none (.t 52)), none, []⟩,
        ⟨(some 54), (.mov (.t 5)), none, []⟩,
        ⟨(some 55), (.iaddr 1 (.t 53) (.t 54)), none, []⟩,
        ⟨(some 56), (.load none (.t 55)), none, []⟩,
        ⟨(some 57), (.off (.t 3) 4), none, []⟩,
        ⟨(some 58), (.load none (.t 57)), none, []⟩,
        ⟨(some 59), (.mov (.t 5)), none, []⟩,
        ⟨(some 60), (.iaddr 1 (.t 58) (.t 59)), none, []⟩,
        ⟨(some 61), (.load none (.t 60)), none, []⟩,
        ⟨(some 62), (.bin .neq (.t 56) (.t 61)), none, []⟩] [])
      (.cond (.t 62)
        (.seq (.region [⟨(some 63), (.off (.t 2) 4), none, []⟩,
          ⟨(some 64), (.load none (.t 63)), none, []⟩,
          ⟨(some 65), (.mov (.t 5)), none, []⟩,
          ⟨(some 66), (.iaddr 1 (.t 64) (.t 65)), none, []⟩,
          ⟨(some 67), (.load none (.t 66)), none, []⟩,
          ⟨(some 68), (.off (.t 3) 4), none, []⟩,
          ⟨(some 69), (.load none (.t 68)), none, []⟩,
          ⟨(some 70), (.mov (.t 5)), none, []⟩,
          ⟨(some 71), (.iaddr 1 (.t 69) (.t 70)), none, []⟩,
          ⟨(some 72), (.load none (.t 71)), none, []⟩,
          ⟨(some 73), (.call 72 [(.t 67), (.t 72)]), none, []⟩,
          ⟨(some 4), (.mov (.t 73)), none, []⟩] [])
        .ret)
        .skip)))
    (.region [⟨(some 50), (.mov (.t 5)), none, []⟩,
      ⟨(some 51), (.bin .add (.t 50) (.c (.i .i64 (1)))), none, []⟩,
      ⟨(some 5), (.mov (.t 51)), none, []⟩] [])))
def L38b : ICode :=
  (.seq (.seq (.region [⟨(some 88), (.mov (.t 6)), none, []⟩,
      ⟨(some 89), (.off (.t 2) 3), none, []⟩,
      ⟨(some 90), (.load none (.t 89)), none, []⟩,
      ⟨(some 91), (.lenk 0 (.t 90)), none, []⟩,
      ⟨(some 92), (.bin .lss (.t 88) (.t 91)), none, []⟩,
      ⟨(some 93), (.mov (.t 92)), none, []⟩,
      ⟨(some 94), (.mov (.t 6)), (some (93, true)), []⟩,
      ⟨(some 95), (.off (.t 3) 3), (some (93, true)), []⟩,
      ⟨(some 96), (.load none (.t 95)), (some (93, true)), []⟩,
      ⟨(some 97), (.lenk 0 (.t 96)), (some (93, true)), []⟩,
      ⟨(some 98), (.bin .lss (.t 94) (.t 97)), (some (93, true)), []⟩,
      ⟨(some 99), (.pick (.t 93) (.t 98) (.c (.b false))), none, []⟩] [])
    (.cond (.t 99)
      .skip
      (.exit 2)))
    (.seq (.block 3
      (.seq (.region [⟨(some 102), (.off (.t 2) 3), none, []⟩,
        ⟨(some 103), (.load none (.t 102)), none, []⟩,
        ⟨(some 104), (.mov (.t 6)), none, []⟩,
        ⟨(some 105), (.iaddr 5 (.t 103) (.t 104)), none, []⟩,
        ⟨(some 106), (.load (some 5) (.t 105)), none, []⟩,
        ⟨(some 107), (.off (.t 3) 3), none, []⟩,
        ⟨(some 108), (.load none (.t 107)), none, []⟩,
        ⟨(some 109), (.mov (.t 6)), none, []⟩,
        ⟨(some 110), (.iaddr 5 (.t 108) (.t 109)), none, []⟩,
        ⟨(some 111), (.load (some 5) (.t 110)), none, []⟩,
        ⟨(some 112), (.call 38 [(.t 106), (.t 111)]), none, []⟩,
        ⟨(some 7), (.mov (.t 112)), none, []⟩] [])
      (.seq (.region [⟨(some 113), (.mov (.t 7)), none, []⟩,
        ⟨(some 114), (.bin .neq (.t 113) (.c (.i .i64 (0)))), none, []⟩] [])
      (.cond (.t 114)
        (.seq (.region [⟨(some 115), (.mov (.t 7)), none, []⟩,
          ⟨(some 4), (.mov (.t 115)), none, []⟩] [])
        .ret)
        .skip))))
    (.region [⟨(some 100), (.mov (.t 6)), none, []⟩,
      ⟨(some 101), (.bin .add (.t 100) (.c (.i .i64 (1)))), none, []⟩,
      ⟨(some 6), (.mov (.t 101)), none, []⟩] [])))
def I38 : IFunc :=
  ⟨(.seq (.region [⟨(some 2), (.box (.t 0)), none, []⟩,
      ⟨(some 3), (.box (.t 1)), none, []⟩,
      ⟨(some 4), (.mov (.c (.i .i64 (0)))), none, []⟩] [])
    (.seq (.seq (.region [⟨(some 8), (.off (.t 2) 0), none, []⟩,
      ⟨(some 9), (.load none (.t 8)), none, []⟩,
      ⟨(some 10), (.off (.t 3) 0), none, []⟩,
      ⟨(some 11), (.load none (.t 10)), none, []⟩,
      ⟨(some 12), (.bin .neq (.t 9) (.t 11)), none, []⟩] [])
    (.cond (.t 12)
      (.seq (.region [⟨(some 13), (.off (.t 2) 0), none, []⟩,
        ⟨(some 14), (.load none (.t 13)), none, []⟩,
        ⟨(some 15), (.off (.t 3) 0), none, []⟩,
        ⟨(some 16), (.load none (.t 15)), none, []⟩,
        ⟨(some 17), (.call 71 [(.t 14), (.t 16)]), none, []⟩,
        ⟨(some 4), (.mov (.t 17)), none, []⟩] [])
      .ret)
      .skip))
    (.seq (.seq (.region [⟨(some 18), (.off (.t 2) 1), none, []⟩,
      ⟨(some 19), (.load none (.t 18)), none, []⟩,
      ⟨(some 20), (.off (.t 3) 1), none, []⟩,
      ⟨(some 21), (.load none (.t 20)), none, []⟩,
      ⟨(some 22), (.bin .neq (.t 19) (.t 21)), none, []⟩] [])
    (.cond (.t 22)
      (.seq (.region [⟨(some 23), (.off (.t 2) 1), none, []⟩,
        ⟨(some 24), (.load none (.t 23)), none, []⟩,
        ⟨(some 25), (.off (.t 3) 1), none, []⟩,
        ⟨(some 26), (.load none (.t 25)), none, []⟩,
        ⟨(some 27), (.call 71 [(.t 24), (.t 26)]), none, []⟩,
        ⟨(some 4), (.mov (.t 27)), none, []⟩] [])
      .ret)
      .skip))
    (.seq (.seq (.region [⟨(some 28), (.off (.t 2) 2), none, []⟩,
      ⟨(some 29), (.load none (.t 28)), none, []⟩,
      ⟨(some 30), (.off (.t 3) 2), none, []⟩,
      ⟨(some 31), (.load none (.t 30)), none, []⟩,
      ⟨(some 32), (.bin .neq (.t 29) (.t 31)), none, []⟩] [])
    (.cond (.t 32)
      (.seq (.region [⟨(some 33), (.off (.t 2) 2), none, []⟩,
        ⟨(some 34), (.load none (.t 33)), none, []⟩,
        ⟨(some 35), (.off (.t 3) 2), none, []⟩,
        ⟨(some 36), (.load none (.t 35)), none, []⟩,
        ⟨(some 37), (.call 72 [(.t 34), (.t 36)]), none, []⟩,
        ⟨(some 4), (.mov (.t 37)), none, []⟩] [])
      .ret)
      .skip))
    (.seq (.seq (.region [⟨(some 5), (.mov (.c (.i .i64 (0)))), none, []⟩] [])
    (.block 0
      (.loop L38a)))
    (.seq (.seq (.region [⟨(some 74), (.off (.t 2) 4), none, []⟩,
      ⟨(some 75), (.load none (.t 74)), none, []⟩,
      ⟨(some 76), (.lenk 0 (.t 75)), none, []⟩,
      ⟨(some 77), (.off (.t 3) 4), none, []⟩,
      ⟨(some 78), (.load none (.t 77)), none, []⟩,
      ⟨(some 79), (.lenk 0 (.t 78)), none, []⟩,
      ⟨(some 80), (.bin .neq (.t 76) (.t 79)), none, []⟩] [])
    (.cond (.t 80)
      (.seq (.region [⟨(some 81), (.off (.t 2) 4), none, []⟩,
        ⟨(some 82), (.load none (.t 81)), none, []⟩,
        ⟨(some 83), (.lenk 0 (.t 82)), none, []⟩,
        ⟨(some 84), (.off (.t 3) 4), none, []⟩,
        ⟨(some 85), (.load none (.t 84)), none, []⟩,
        ⟨(some 86), (.lenk 0 (.t 85)), none, []⟩,
        ⟨(some 87), (.call 71 [(.t 83), (.t 86)]), none, []⟩,
        ⟨(some 4), (.mov (.t 87)), none, []⟩] [])
      .ret)
      .skip))
    (.seq (.seq (.region [⟨(some 6), (.mov (.c (.i .i64 (0)))), none, []⟩] [])
    (.block 2
      (.loop L38b)))
    (.seq (.region [⟨(some 116), (.off (.t 2) 3), none, []⟩,
      ⟨(some 117), (.load none (.t 116)), none, []⟩,
      ⟨(some 118), (.lenk 0 (.t 117)), none, []⟩,
      ⟨(some 119), (.off (.t 3) 3), none, []⟩,
      ⟨(some 120), (.load none (.t 119)), none, []⟩,
      ⟨(some 121), (.lenk 0 (.t 120)), none, []⟩,
      ⟨(some 122), (.call 71 [(.t 118), (.t 121)]), none, []⟩,
      ⟨(some 4), (.mov (.t 122)), none, []⟩] [])
    .ret)))))))),
    123, 2, [.t 4], 0⟩
theorem tr38 : trFunc Tryz.prog [([], []), ([], []), ([], []), ([], []), ([], []), ([], []), ([], []), ([], []), ([], []), ([], []), ([], []), ([], []), ([], []), ([0, 1, 2, 3, 4, 5, 6, 7, 8, 9, 10], []), ([0, 1, 2, 3, 4, 5, 6, 7, 8, 9, 10, 11], []), ([], []), ([], []), ([], []), ([], []), ([], []), ([], []), ([], []), ([], []), ([0, 1, 2, 3, 4, 5, 6, 7, 8, 9, 10, 11], []), ([], []), ([], []), ([], []), ([], []), ([], [])] 0 Tryz.f38 = some (plain1 I38) := by kernel_rfl
theorem ck38 : ckC 1 I38.body = true := by kernel_rfl

/-- 'slices.Clone[[]*encore/base.frame,*encore/base.frame]'. -/
def I39 : IFunc :=
  ⟨(.seq (.region [⟨(some 2), (.mov (.c .ns)), none, []⟩] [])
    (.seq (.seq (.region [⟨(some 3), (.mov (.t 0)), none, []⟩,
      ⟨(some 4), (.eqNil 0 false (.t 3) (.c .ns)), none, []⟩] [])
    (.cond (.t 4)
      (.seq (.region [⟨(some 2), (.mov (.c .ns)), none, []⟩] [])
      .ret)
      .skip))
    (.seq (.region [⟨(some 5), (.bsl 1 0 [] []), none, []⟩,
      ⟨(some 6), (.mov (.t 0)), none, []⟩,
      ⟨(some 7), (.app 1 8 (.t 5) (.t 6)), none, []⟩,
      ⟨(some 2), (.mov (.t 7)), none, []⟩] [])
    .ret))),
    8, 1, [.t 2], 0⟩
theorem tr39 : trFunc Tryz.prog [([], []), ([], []), ([], []), ([], []), ([], [])] 0 Tryz.f39 = some (plain1 I39) := by kernel_rfl
theorem ck39 : ckC 1 I39.body = true := by kernel_rfl

/-- 'slices.Clone[[]encore/verify.Try,encore/verify.Try]'. -/
def I40 : IFunc :=
  ⟨(.seq (.region [⟨(some 2), (.mov (.c .ns)), none, []⟩] [])
    (.seq (.seq (.region [⟨(some 3), (.mov (.t 0)), none, []⟩,
      ⟨(some 4), (.eqNil 0 false (.t 3) (.c .ns)), none, []⟩] [])
    (.cond (.t 4)
      (.seq (.region [⟨(some 2), (.mov (.c .ns)), none, []⟩] [])
      .ret)
      .skip))
    (.seq (.region [⟨(some 5), (.bsl 2 0 [] []), none, []⟩,
      ⟨(some 6), (.mov (.t 0)), none, []⟩,
      ⟨(some 7), (.app 2 16 (.t 5) (.t 6)), none, []⟩,
      ⟨(some 2), (.mov (.t 7)), none, []⟩] [])
    .ret))),
    8, 1, [.t 2], 0⟩
theorem tr40 : trFunc Tryz.prog [([], []), ([], []), ([], []), ([], []), ([], [])] 0 Tryz.f40 = some (plain1 I40) := by kernel_rfl
theorem ck40 : ckC 1 I40.body = true := by kernel_rfl

/-- 'encore/encorelaw18.asked'. -/
def I41 : IFunc :=
  ⟨(.seq (.region [⟨(some 2), (.alloc [(.i .i64 (0)), (.s []), (.i .i64 (0)), (.i .i64 (0)), (.s []), .ns, .ns, .ns]), none, []⟩,
      ⟨(some 3), (.mov (.c (.b false))), none, []⟩] [])
    (.seq (.region [⟨(some 9), (.mov (.t 0)), none, []⟩,
      ⟨(some 10), (.call 10 [(.t 9)]), none, []⟩,
      ⟨(some 11), (.call 9 [(.t 10), (.c (.i .i64 (0))), (.c .ns)]), none, []⟩,
      ⟨(some 8), (.mov (.t 11)), none, []⟩,
      ⟨(some 12), (.ext (.t 8) 0), none, []⟩,
      ⟨(some 13), (.ext (.t 8) 1), none, []⟩,
      ⟨(some 4), (.mov (.t 12)), none, []⟩,
      ⟨(some 5), (.mov (.t 13)), none, []⟩] [])
    (.seq (.seq (.region [⟨(some 14), (.mov (.t 5)), none, []⟩,
      ⟨(some 15), (.bin .neq (.t 14) (.c (.i .i64 (0)))), none, []⟩] [])
    (.cond (.t 15)
      (.seq (.region [⟨(some 16), (.build [(.i .i64 (0)), (.s []), (.i .i64 (0)), (.i .i64 (0)), (.s []), .ns, .ns, .ns] []), none, []⟩,
        ⟨none, (.store 8 (.t 2) (.t 16)), none, []⟩,
        ⟨(some 3), (.mov (.c (.b false))), none, []⟩] [])
      .ret)
      .skip))
    (.seq (.region [⟨(some 17), (.mov (.t 4)), none, []⟩,
      ⟨(some 18), (.call 14 [(.t 17), (.c (.i .i64 (100)))]), none, []⟩] [])
    (.seq (.region [⟨(some 20), (.mov (.t 4)), none, []⟩,
      ⟨(some 21), (.call 12 [(.t 20)]), none, []⟩,
      ⟨(some 19), (.mov (.t 21)), none, []⟩,
      ⟨(some 22), (.ext (.t 19) 0), none, []⟩,
      ⟨(some 23), (.ext (.t 19) 1), none, []⟩,
      ⟨(some 6), (.alloc [(.i .i64 (0)), (.s []), (.i .i64 (0)), (.i .i64 (0)), (.s []), .ns, .ns, .ns]), none, []⟩,
      ⟨none, (.store 8 (.t 6) (.t 22)), none, []⟩,
      ⟨(some 7), (.mov (.t 23)), none, []⟩] [])
    (.seq (.region [⟨(some 24), (.load (some 8) (.t 6)), none, []⟩,
      ⟨(some 25), (.mov (.t 7)), none, []⟩,
      ⟨(some 26), (.bin .eql (.t 25) (.c (.i .i64 (0)))), none, []⟩,
      ⟨none, (.store 8 (.t 2) (.t 24)), none, []⟩,
      ⟨(some 3), (.mov (.t 26)), none, []⟩] [])
    .ret)))))),
    27, 1, [.c 2 (some 8), .t 3], 0⟩
theorem tr41 : trFunc Tryz.prog [([], []), ([], []), ([], []), ([], []), ([], []), ([], []), ([], []), ([], [])] 0 Tryz.f41 = some (plain1 I41) := by kernel_rfl
theorem ck41 : ckC 1 I41.body = true := by kernel_rfl

/-- 'encore/encorelaw18.ask'. -/
def I42 : IFunc :=
  ⟨(.seq (.region [⟨(some 4), (.alloc [(.i .i64 (0)), (.i .i64 (0)), (.i .i64 (0))]), none, []⟩] [])
    (.seq (.region [⟨(some 5), (.mov (.t 0)), none, []⟩,
      ⟨(some 6), (.mov (.t 1)), none, []⟩,
      ⟨(some 7), (.build [(.i .i64 (0)), (.i .i64 (0)), (.i .i64 (0))] [(0, 1, (.c (.i .i64 (31)))), (1, 1, (.t 5)), (2, 1, (.t 6))]), none, []⟩,
      ⟨none, (.store 3 (.t 4) (.t 7)), none, []⟩] [])
    .ret)),
    8, 2, [.c 4 (some 3)], 0⟩
theorem tr42 : trFunc Tryz.prog [([], []), ([], [])] 0 Tryz.f42 = some (plain1 I42) := by kernel_rfl
theorem ck42 : ckC 1 I42.body = true := by kernel_rfl

/-- 'encore/encoreref18.SameRequest'. -/
def I43 : IFunc :=
  ⟨(.seq (.region [⟨(some 2), (.box (.t 0)), none, []⟩,
      ⟨(some 3), (.box (.t 1)), none, []⟩,
      ⟨(some 4), (.mov (.c (.b false))), none, []⟩] [])
    (.seq (.region [⟨(some 5), (.off (.t 2) 0), none, []⟩,
      ⟨(some 6), (.load none (.t 5)), none, []⟩,
      ⟨(some 7), (.off (.t 3) 0), none, []⟩,
      ⟨(some 8), (.load none (.t 7)), none, []⟩,
      ⟨(some 9), (.bin .eql (.t 6) (.t 8)), none, []⟩,
      ⟨(some 10), (.mov (.t 9)), none, []⟩,
      ⟨(some 11), (.off (.t 2) 1), (some (10, true)), []⟩,
      ⟨(some 12), (.load none (.t 11)), (some (10, true)), []⟩,
      ⟨(some 13), (.off (.t 3) 1), (some (10, true)), []⟩,
      ⟨(some 14), (.load none (.t 13)), (some (10, true)), []⟩,
      ⟨(some 15), (.bin .eql (.t 12) (.t 14)), (some (10, true)), []⟩,
      ⟨(some 16), (.pick (.t 10) (.t 15) (.c (.b false))), none, []⟩,
      ⟨(some 17), (.mov (.t 16)), none, []⟩,
      ⟨(some 18), (.off (.t 2) 2), (some (17, true)), []⟩,
      ⟨(some 19), (.load (some 5) (.t 18)), (some (17, true)), []⟩,
      ⟨(some 20), (.off (.t 3) 2), (some (17, true)), []⟩,
      ⟨(some 21), (.load (some 5) (.t 20)), (some (17, true)), []⟩,
      ⟨(some 22), (.call 18 [(.t 19), (.t 21)]), (some (17, true)), []⟩,
      ⟨(some 23), (.pick (.t 17) (.t 22) (.c (.b false))), none, []⟩,
      ⟨(some 24), (.mov (.t 23)), none, []⟩,
      ⟨(some 25), (.off (.t 2) 7), (some (24, true)), []⟩,
      ⟨(some 26), (.load none (.t 25)), (some (24, true)), []⟩,
      ⟨(some 27), (.off (.t 3) 7), (some (24, true)), []⟩,
      ⟨(some 28), (.load none (.t 27)), (some (24, true)), []⟩,
      ⟨(some 29), (.call 44 [(.t 26), (.t 28)]), (some (24, true)), []⟩,
      ⟨(some 30), (.pick (.t 24) (.t 29) (.c (.b false))), none, []⟩,
      ⟨(some 4), (.mov (.t 30)), none, []⟩] [])
    .ret)),
    31, 2, [.t 4], 0⟩
theorem tr43 : trFunc Tryz.prog [([], []), ([], [])] 0 Tryz.f43 = some (plain1 I43) := by kernel_rfl
theorem ck43 : ckC 1 I43.body = true := by kernel_rfl

/-- 'encore/encoreref00.EqInts'. -/
def L44a : ICode :=
  (.seq (.seq (.region [⟨(some 11), (.mov (.t 5)), none, []⟩,
      ⟨(some 12), (.mov (.t 0)), none, []⟩,
      ⟨(some 13), (.lenk 0 (.t 12)), none, []⟩,
      ⟨(some 14), (.bin .lss (.t 11) (.t 13)), none, []⟩] [])
    (.cond (.t 14)
      .skip
      (.exit 0)))
    (.seq (.block 1
      (.seq (.region [⟨(some 17), (.mov (.t 0)), none, []⟩,
        ⟨(some 18), (.mov (.t 5)), none, []⟩,
        ⟨(some 19), (.iaddr 1 (.t 17) (.t 18)), none, []⟩,
        ⟨(some 20), (.load none (.t 19)), none, []⟩,
        ⟨(some 21), (.mov (.t 1)), none, []⟩,
        ⟨(some 22), (.mov (.t 5)), none, []⟩,
        ⟨(some 23), (.iaddr 1 (.t 21) (.t 22)), none, []⟩,
        ⟨(some 24), (.load none (.t 23)), none, []⟩,
        ⟨(some 25), (.bin .neq (.t 20) (.t 24)), none, []⟩] [])
      (.cond (.t 25)
        (.seq (.region [⟨(some 4), (.mov (.c (.b false))), none, []⟩] [])
        .ret)
        .skip)))
    (.region [⟨(some 15), (.mov (.t 5)), none, []⟩,
      ⟨(some 16), (.bin .add (.t 15) (.c (.i .i64 (1)))), none, []⟩,
      ⟨(some 5), (.mov (.t 16)), none, []⟩] [])))
def I44 : IFunc :=
  ⟨(.seq (.region [⟨(some 4), (.mov (.c (.b false))), none, []⟩] [])
    (.seq (.seq (.region [⟨(some 6), (.mov (.t 0)), none, []⟩,
      ⟨(some 7), (.lenk 0 (.t 6)), none, []⟩,
      ⟨(some 8), (.mov (.t 1)), none, []⟩,
      ⟨(some 9), (.lenk 0 (.t 8)), none, []⟩,
      ⟨(some 10), (.bin .neq (.t 7) (.t 9)), none, []⟩] [])
    (.cond (.t 10)
      (.seq (.region [⟨(some 4), (.mov (.c (.b false))), none, []⟩] [])
      .ret)
      .skip))
    (.seq (.seq (.region [⟨(some 5), (.mov (.c (.i .i64 (0)))), none, []⟩] [])
    (.block 0
      (.loop L44a)))
    (.seq (.region [⟨(some 4), (.mov (.c (.b true))), none, []⟩] [])
    .ret)))),
    26, 2, [.t 4], 0⟩
theorem tr44 : trFunc Tryz.prog [([], []), ([], []), ([], []), ([], []), ([], []), ([], []), ([], []), ([0, 1, 2, 3, 4, 5, 6, 7, 8], []), ([], []), ([], []), ([], []), ([], [])] 0 Tryz.f44 = some (plain1 I44) := by kernel_rfl
theorem ck44 : ckC 1 I44.body = true := by kernel_rfl

/-- 'encore/code.Check'. -/
def L45a : ICode :=
  (.seq (.region [⟨(some 54), (.bin .lss (.t 53) (.t 52)), none, []⟩] [])
    (.seq (.cond (.t 54)
      .skip
      (.exit 2))
    (.seq (.block 3
      (.seq (.region [⟨(some 55), (.iaddr 3 (.t 51) (.t 53)), none, []⟩,
        ⟨(some 56), (.load (some 3) (.t 55)), none, []⟩,
        ⟨(some 9), (.alloc [(.i .i64 (0)), (.i .i64 (0)), (.i .i64 (0))]), none, []⟩,
        ⟨none, (.store 3 (.t 9) (.t 56)), none, []⟩] [])
      (.seq (.region [⟨(some 57), (.load (some 3) (.t 9)), none, []⟩,
        ⟨(some 58), (.build [.np, .np, (.i .i64 (0)), (.i .i64 (0)), (.i .i64 (0))] [(0, 1, (.t 1)), (1, 1, (.t 7)), (2, 3, (.t 57))]), none, []⟩,
        ⟨(some 59), (.call 78 [(.t 58)]), none, []⟩,
        ⟨(some 60), (.un .not (.t 59)), none, []⟩] [])
      (.cond (.t 60)
        (.seq (.region [⟨(some 2), (.mov (.c (.i .i64 (150)))), none, []⟩] [])
        .ret)
        .skip))))
    (.region [⟨(some 61), (.bin .add (.t 53) (.c (.i .i64 (1)))), none, []⟩,
      ⟨(some 53), (.mov (.t 61)), none, []⟩] []))))
def L45b : ICode :=
  (.seq (.region [⟨(some 47), (.bin .lss (.t 46) (.t 45)), none, []⟩] [])
    (.seq (.cond (.t 47)
      .skip
      (.exit 0))
    (.seq (.block 1
      (.seq (.region [⟨(some 48), (.iaddr 4 (.t 44) (.t 46)), none, []⟩,
        ⟨(some 49), (.load (some 4) (.t 48)), none, []⟩,
        ⟨(some 7), (.alloc [(.s []), (.i .i64 (0)), (.i .i64 (0)), .ns]), none, []⟩,
        ⟨none, (.store 4 (.t 7) (.t 49)), none, []⟩] [])
      (.seq (.region [⟨(some 50), (.off (.t 7) 3), none, []⟩,
        ⟨(some 51), (.load none (.t 50)), none, []⟩,
        ⟨(some 52), (.lenk 0 (.t 51)), none, []⟩,
        ⟨(some 53), (.mov (.c (.i .i64 (0)))), none, []⟩] [])
      (.block 2
        (.loop L45a)))))
    (.region [⟨(some 62), (.bin .add (.t 46) (.c (.i .i64 (1)))), none, []⟩,
      ⟨(some 46), (.mov (.t 62)), none, []⟩] []))))
def I45 : IFunc :=
  ⟨(.seq (.region [⟨(some 1), (.box (.t 0)), none, []⟩,
      ⟨(some 2), (.mov (.c (.i .i64 (0)))), none, []⟩] [])
    (.seq (.region [⟨(some 3), (.mov (.f 73)), none, []⟩] [])
    (.seq (.seq (.region [⟨(some 10), (.off (.t 1) 0), none, []⟩,
      ⟨(some 11), (.load none (.t 10)), none, []⟩,
      ⟨(some 12), (.lenk 0 (.t 11)), none, []⟩,
      ⟨(some 13), (.bin .gtr (.t 12) (.c (.i .i64 (16)))), none, []⟩,
      ⟨(some 14), (.mov (.t 13)), none, []⟩,
      ⟨(some 15), (.off (.t 1) 1), (some (14, false)), []⟩,
      ⟨(some 16), (.load none (.t 15)), (some (14, false)), []⟩,
      ⟨(some 17), (.lenk 0 (.t 16)), (some (14, false)), []⟩,
      ⟨(some 18), (.bin .gtr (.t 17) (.c (.i .i64 (256)))), (some (14, false)), []⟩,
      ⟨(some 19), (.pick (.t 14) (.c (.b true)) (.t 18)), none, []⟩,
      ⟨(some 20), (.mov (.t 19)), none, []⟩,
      ⟨(some 21), (.off (.t 1) 0), (some (20, false)), []⟩,
      ⟨(some 22), (.load none (.t 21)), (some (20, false)), []⟩,
      ⟨(some 23), (.mov (.t 3)), (some (20, false)), []⟩,
      ⟨(some 24), (.call 74 [(.t 22), (.t 23)]), (some (20, false)), []⟩,
      ⟨(some 25), (.pick (.t 20) (.c (.b true)) (.t 24)), none, []⟩] [])
    (.cond (.t 25)
      (.seq (.region [⟨(some 2), (.mov (.c (.i .i64 (5)))), none, []⟩] [])
      .ret)
      .skip))
    (.seq (.region [⟨(some 4), (.mov (.f 75)), none, []⟩] [])
    (.seq (.region [⟨(some 26), (.mkf 76 [] [(.t 1)]), none, []⟩,
      ⟨(some 5), (.mov (.t 26)), none, []⟩] [])
    (.seq (.seq (.region [⟨(some 27), (.off (.t 1) 0), none, []⟩,
      ⟨(some 28), (.load none (.t 27)), none, []⟩,
      ⟨(some 29), (.lenk 0 (.t 28)), none, []⟩,
      ⟨(some 30), (.bin .eql (.t 29) (.c (.i .i64 (0)))), none, []⟩,
      ⟨(some 31), (.mov (.t 30)), none, []⟩,
      ⟨(some 32), (.off (.t 1) 1), (some (31, false)), []⟩,
      ⟨(some 33), (.load none (.t 32)), (some (31, false)), []⟩,
      ⟨(some 34), (.mov (.t 4)), (some (31, false)), []⟩,
      ⟨(some 35), (.call 47 [(.t 33), (.t 34)]), (some (31, false)), []⟩,
      ⟨(some 36), (.pick (.t 31) (.c (.b true)) (.t 35)), none, []⟩,
      ⟨(some 37), (.mov (.t 36)), none, []⟩,
      ⟨(some 38), (.off (.t 1) 0), (some (37, false)), []⟩,
      ⟨(some 39), (.load none (.t 38)), (some (37, false)), []⟩,
      ⟨(some 40), (.mov (.t 5)), (some (37, false)), []⟩,
      ⟨(some 41), (.call 74 [(.t 39), (.t 40)]), (some (37, false)), []⟩,
      ⟨(some 42), (.pick (.t 37) (.c (.b true)) (.t 41)), none, []⟩] [])
    (.cond (.t 42)
      (.seq (.region [⟨(some 2), (.mov (.c (.i .i64 (2)))), none, []⟩] [])
      .ret)
      .skip))
    (.seq (.seq (.region [⟨(some 43), (.off (.t 1) 0), none, []⟩,
      ⟨(some 44), (.load none (.t 43)), none, []⟩,
      ⟨(some 45), (.lenk 0 (.t 44)), none, []⟩,
      ⟨(some 46), (.mov (.c (.i .i64 (0)))), none, []⟩] [])
    (.block 0
      (.loop L45b)))
    (.seq (.region [⟨(some 2), (.mov (.c (.i .i64 (0)))), none, []⟩] [])
    .ret)))))))),
    63, 1, [.t 2], 0⟩
theorem tr45 : trFunc Tryz.prog [([], []), ([], []), ([], []), ([], []), ([], []), ([], []), ([], []), ([], []), ([], []), ([], []), ([], []), ([], []), ([], []), ([], []), ([], []), ([], []), ([], []), ([], []), ([], []), ([], []), ([], []), ([], []), ([], []), ([], [])] 0 Tryz.f45 = some (plain1 I45) := by kernel_rfl
theorem ck45 : ckC 1 I45.body = true := by kernel_rfl

/-- 'encore/verify.function'. -/
def L46a : ICode :=
  (.seq (.seq (.region [⟨(some 17), (.mov (.t 6)), none, []⟩,
      ⟨(some 18), (.nck (.t 17)), none, []⟩,
      ⟨(some 19), (.off (.t 18) 1), none, []⟩,
      ⟨(some 20), (.load none (.t 19)), none, []⟩,
      ⟨(some 21), (.lenk 0 (.t 20)), none, []⟩,
      ⟨(some 22), (.bin .gtr (.t 21) (.c (.i .i64 (0)))), none, []⟩] [])
    (.cond (.t 22)
      .skip
      (.exit 0)))
    (.block 1
      (.seq (.region [⟨(some 23), (.mov (.t 6)), none, []⟩,
        ⟨(some 24), (.nck (.t 23)), none, []⟩,
        ⟨(some 25), (.off (.t 24) 1), none, []⟩,
        ⟨(some 26), (.load none (.t 25)), none, []⟩,
        ⟨(some 27), (.mov (.t 6)), none, []⟩,
        ⟨(some 28), (.nck (.t 27)), none, []⟩,
        ⟨(some 29), (.off (.t 28) 1), none, []⟩,
        ⟨(some 30), (.load none (.t 29)), none, []⟩,
        ⟨(some 31), (.lenk 0 (.t 30)), none, []⟩,
        ⟨(some 32), (.bin .sub (.t 31) (.c (.i .i64 (1)))), none, []⟩,
        ⟨(some 33), (.iaddr 1 (.t 26) (.t 32)), none, []⟩,
        ⟨(some 34), (.load none (.t 33)), none, []⟩,
        ⟨(some 7), (.mov (.t 34)), none, []⟩] [])
      (.seq (.region [⟨(some 35), (.mov (.t 6)), none, []⟩,
        ⟨(some 36), (.mov (.t 6)), none, []⟩,
        ⟨(some 37), (.nck (.t 36)), none, []⟩,
        ⟨(some 38), (.off (.t 37) 1), none, []⟩,
        ⟨(some 39), (.load none (.t 38)), none, []⟩,
        ⟨(some 40), (.mov (.t 6)), none, []⟩,
        ⟨(some 41), (.nck (.t 40)), none, []⟩,
        ⟨(some 42), (.off (.t 41) 1), none, []⟩,
        ⟨(some 43), (.load none (.t 42)), none, []⟩,
        ⟨(some 44), (.lenk 0 (.t 43)), none, []⟩,
        ⟨(some 45), (.bin .sub (.t 44) (.c (.i .i64 (1)))), none, []⟩,
        ⟨(some 46), (.slq 1 (.t 39) none (some (.t 45)) none), none, []⟩,
        ⟨(some 47), (.nck (.t 35)), none, []⟩,
        ⟨(some 48), (.off (.t 47) 1), none, []⟩,
        ⟨none, (.store 1 (.t 48) (.t 46)), none, []⟩] [])
      (.seq (.region [⟨(some 49), (.mov (.t 6)), none, []⟩,
        ⟨(some 50), (.load (some 2) (.t 2)), none, []⟩,
        ⟨(some 51), (.off (.t 3) 3), none, []⟩,
        ⟨(some 52), (.load none (.t 51)), none, []⟩,
        ⟨(some 53), (.mov (.t 7)), none, []⟩,
        ⟨(some 54), (.iaddr 3 (.t 52) (.t 53)), none, []⟩,
        ⟨(some 55), (.load (some 3) (.t 54)), none, []⟩,
        ⟨(some 56), (.mov (.t 7)), none, []⟩,
        ⟨(some 57), (.call 80 [(.t 49), (.t 50), (.t 55), (.t 56)]), none, []⟩] [])
      (.seq (.region [⟨(some 58), (.mov (.t 6)), none, []⟩,
        ⟨(some 59), (.nck (.t 58)), none, []⟩,
        ⟨(some 60), (.off (.t 59) 2), none, []⟩,
        ⟨(some 61), (.load none (.t 60)), none, []⟩] [])
      (.cond (.t 61)
        (.exit 0)
        .skip)))))))
def L46b : ICode :=
  (.seq (.region [⟨(some 72), (.bin .lss (.t 71) (.t 70)), none, []⟩] [])
    (.seq (.cond (.t 72)
      .skip
      (.exit 2))
    (.seq (.block 3
      (.seq (.region [⟨(some 73), (.mov (.t 71)), none, []⟩,
        ⟨(some 8), (.mov (.t 73)), none, []⟩] [])
      (.region [⟨(some 74), (.mov (.t 6)), none, []⟩,
        ⟨(some 75), (.nck (.t 74)), none, []⟩,
        ⟨(some 76), (.off (.t 75) 0), none, []⟩,
        ⟨(some 77), (.load none (.t 76)), none, []⟩,
        ⟨(some 78), (.mov (.t 8)), none, []⟩,
        ⟨(some 79), (.mov (.t 6)), none, []⟩,
        ⟨(some 80), (.nck (.t 79)), none, []⟩,
        ⟨(some 81), (.off (.t 80) 0), none, []⟩,
        ⟨(some 82), (.load none (.t 81)), none, []⟩,
        ⟨(some 83), (.mov (.t 8)), none, []⟩,
        ⟨(some 84), (.iaddr 3 (.t 82) (.t 83)), none, []⟩,
        ⟨(some 85), (.off (.t 84) 2), none, []⟩,
        ⟨(some 86), (.load none (.t 85)), none, []⟩,
        ⟨(some 87), (.call 40 [(.t 86)]), none, [(77, (.load none (.t 76)), none)]⟩,
        ⟨(some 88), (.iaddr 3 (.t 77) (.t 78)), none, []⟩,
        ⟨(some 89), (.off (.t 88) 2), none, []⟩,
        ⟨none, (.store 1 (.t 89) (.t 87)), none, []⟩] [])))
    (.region [⟨(some 90), (.bin .add (.t 71) (.c (.i .i64 (1)))), none, []⟩,
      ⟨(some 71), (.mov (.t 90)), none, []⟩] []))))
def I46 : IFunc :=
  ⟨(.seq (.region [⟨(some 2), (.box (.t 0)), none, []⟩,
      ⟨(some 3), (.box (.t 1)), none, []⟩,
      ⟨(some 4), (.mov (.c .ns)), none, []⟩,
      ⟨(some 5), (.mov (.c (.i .i64 (0)))), none, []⟩] [])
    (.seq .skip
    (.seq (.region [⟨(some 9), (.off (.t 3) 3), none, []⟩,
      ⟨(some 10), (.load none (.t 9)), none, []⟩,
      ⟨(some 11), (.lenk 0 (.t 10)), none, []⟩,
      ⟨(some 12), (.mksl 3 40 [(.b false), (.i .i64 (0)), .ns] (.t 11) (.t 11)), none, []⟩,
      ⟨(some 13), (.build [.ns, .ns, (.b false)] [(0, 1, (.t 12))]), none, []⟩,
      ⟨(some 14), (.box (.t 13)), none, []⟩,
      ⟨(some 6), (.mov (.t 14)), none, []⟩] [])
    (.seq (.region [⟨(some 15), (.mov (.t 6)), none, []⟩,
      ⟨(some 16), (.call 79 [(.t 15), (.c (.i .i64 (0))), (.c (.i .i64 (0))), (.c .ns)]), none, []⟩] [])
    (.seq .skip
    (.seq (.block 0
      (.loop L46a))
    (.seq (.seq (.region [⟨(some 62), (.mov (.t 6)), none, []⟩,
      ⟨(some 63), (.nck (.t 62)), none, []⟩,
      ⟨(some 64), (.off (.t 63) 2), none, []⟩,
      ⟨(some 65), (.load none (.t 64)), none, []⟩] [])
    (.cond (.t 65)
      (.seq (.region [⟨(some 4), (.mov (.c .ns)), none, []⟩,
        ⟨(some 5), (.mov (.c (.i .i64 (170)))), none, []⟩] [])
      .ret)
      .skip))
    (.seq (.seq (.region [⟨(some 66), (.mov (.t 6)), none, []⟩,
      ⟨(some 67), (.nck (.t 66)), none, []⟩,
      ⟨(some 68), (.off (.t 67) 0), none, []⟩,
      ⟨(some 69), (.load none (.t 68)), none, []⟩,
      ⟨(some 70), (.lenk 0 (.t 69)), none, []⟩,
      ⟨(some 71), (.mov (.c (.i .i64 (0)))), none, []⟩] [])
    (.block 2
      (.loop L46b)))
    (.seq (.region [⟨(some 91), (.mov (.t 6)), none, []⟩,
      ⟨(some 92), (.nck (.t 91)), none, []⟩,
      ⟨(some 93), (.off (.t 92) 0), none, []⟩,
      ⟨(some 94), (.load none (.t 93)), none, []⟩,
      ⟨(some 4), (.mov (.t 94)), none, []⟩,
      ⟨(some 5), (.mov (.c (.i .i64 (0)))), none, []⟩] [])
    .ret))))))))),
    95, 2, [.t 4, .t 5], 0⟩
theorem tr46 : trFunc Tryz.prog [([], []), ([], []), ([], []), ([], []), ([], []), ([0, 1, 2, 3, 4, 5, 6, 7, 8, 9, 10, 11, 12], []), ([0, 1, 2, 3, 4, 5, 6, 7, 8, 9, 10, 11, 12, 13, 14], []), ([0, 1, 2, 3, 4, 5, 6, 7, 8], []), ([], []), ([], []), ([], []), ([], []), ([], []), ([], []), ([], []), ([], []), ([], []), ([0, 1, 2, 3, 4, 5, 6, 7, 8, 9, 10, 11, 12, 13, 14, 15, 16], []), ([], []), ([], [])] 0 Tryz.f46 = some (plain1 I46) := by kernel_rfl
theorem ck46 : ckC 1 I46.body = true := by kernel_rfl

/-- 'slices.ContainsFunc[[]encore/api.Value,encore/api.Value]'. -/
def I47 : IFunc :=
  ⟨(.seq (.region [⟨(some 4), (.mov (.c (.b false))), none, []⟩] [])
    (.seq (.region [⟨(some 5), (.mov (.t 0)), none, []⟩,
      ⟨(some 6), (.mov (.t 1)), none, []⟩,
      ⟨(some 7), (.call 81 [(.t 5), (.t 6)]), none, []⟩,
      ⟨(some 8), (.bin .geq (.t 7) (.c (.i .i64 (0)))), none, []⟩,
      ⟨(some 4), (.mov (.t 8)), none, []⟩] [])
    .ret)),
    9, 2, [.t 4], 0⟩
theorem tr47 : trFunc Tryz.prog [([], []), ([], [])] 0 Tryz.f47 = some (plain1 I47) := by kernel_rfl
theorem ck47 : ckC 1 I47.body = true := by kernel_rfl

/-- 'encore/base.may$1'. -/
def I48 : IFunc :=
  ⟨(.seq (.region [⟨(some 1), (.box (.t 0)), none, []⟩,
      ⟨(some 2), (.mov (.c (.b false))), none, []⟩] [])
    (.seq (.region [⟨(some 3), (.load (some 5) (.t 1)), none, []⟩,
      ⟨(some 4), (.call 36 [(.t 3)]), none, []⟩,
      ⟨(some 5), (.bin .neq (.t 4) (.c (.i .i64 (0)))), none, []⟩,
      ⟨(some 2), (.mov (.t 5)), none, []⟩] [])
    .ret)),
    6, 1, [.t 2], 0⟩
theorem tr48 : trFunc Tryz.prog [([], []), ([], [])] 0 Tryz.f48 = some (plain1 I48) := by kernel_rfl
theorem ck48 : ckC 1 I48.body = true := by kernel_rfl

/-- 'slices.Clone[[]encore/api.Value,encore/api.Value]'. -/
def I49 : IFunc :=
  ⟨(.seq (.region [⟨(some 2), (.mov (.c .ns)), none, []⟩] [])
    (.seq (.seq (.region [⟨(some 3), (.mov (.t 0)), none, []⟩,
      ⟨(some 4), (.eqNil 0 false (.t 3) (.c .ns)), none, []⟩] [])
    (.cond (.t 4)
      (.seq (.region [⟨(some 2), (.mov (.c .ns)), none, []⟩] [])
      .ret)
      .skip))
    (.seq (.region [⟨(some 5), (.bsl 5 0 [] []), none, []⟩,
      ⟨(some 6), (.mov (.t 0)), none, []⟩,
      ⟨(some 7), (.app 5 80 (.t 5) (.t 6)), none, []⟩,
      ⟨(some 2), (.mov (.t 7)), none, []⟩] [])
    .ret))),
    8, 1, [.t 2], 0⟩
theorem tr49 : trFunc Tryz.prog [([], []), ([], []), ([], []), ([], []), ([], [])] 0 Tryz.f49 = some (plain1 I49) := by kernel_rfl
theorem ck49 : ckC 1 I49.body = true := by kernel_rfl

/-- 'slices.Clone[[]string,string]'. -/
def I50 : IFunc :=
  ⟨(.seq (.region [⟨(some 2), (.mov (.c .ns)), none, []⟩] [])
    (.seq (.seq (.region [⟨(some 3), (.mov (.t 0)), none, []⟩,
      ⟨(some 4), (.eqNil 0 false (.t 3) (.c .ns)), none, []⟩] [])
    (.cond (.t 4)
      (.seq (.region [⟨(some 2), (.mov (.c .ns)), none, []⟩] [])
      .ret)
      .skip))
    (.seq (.region [⟨(some 5), (.bsl 1 0 [] []), none, []⟩,
      ⟨(some 6), (.mov (.t 0)), none, []⟩,
      ⟨(some 7), (.app 1 16 (.t 5) (.t 6)), none, []⟩,
      ⟨(some 2), (.mov (.t 7)), none, []⟩] [])
    .ret))),
    8, 1, [.t 2], 0⟩
theorem tr50 : trFunc Tryz.prog [([], []), ([], []), ([], []), ([], []), ([], [])] 0 Tryz.f50 = some (plain1 I50) := by kernel_rfl
theorem ck50 : ckC 1 I50.body = true := by kernel_rfl

/-- '(*encore/base.Machine).load'. -/
def I51 : IFunc :=
  ⟨(.seq (.region [⟨(some 3), (.box (.t 1)), none, []⟩] [])
    (.seq (.seq (.region [⟨(some 4), (.off (.t 3) 0), none, []⟩,
      ⟨(some 5), (.load none (.t 4)), none, []⟩,
      ⟨(some 6), (.bin .eql (.t 5) (.c (.i .i64 (1)))), none, []⟩] [])
    (.cond (.t 6)
      (.seq (.region [⟨(some 7), (.mov (.t 0)), none, []⟩,
        ⟨(some 8), (.nck (.t 7)), none, []⟩,
        ⟨(some 9), (.off (.t 8) 0), none, []⟩,
        ⟨(some 10), (.load none (.t 9)), none, []⟩,
        ⟨(some 11), (.mov (.t 0)), none, []⟩,
        ⟨(some 12), (.nck (.t 11)), none, []⟩,
        ⟨(some 13), (.off (.t 12) 2), none, []⟩,
        ⟨(some 14), (.off (.t 13) 1), none, []⟩,
        ⟨(some 15), (.load none (.t 14)), none, []⟩,
        ⟨(some 16), (.off (.t 3) 1), none, []⟩,
        ⟨(some 17), (.load none (.t 16)), none, []⟩,
        ⟨(some 18), (.iaddr 5 (.t 15) (.t 17)), none, []⟩,
        ⟨(some 19), (.load (some 5) (.t 18)), none, []⟩,
        ⟨(some 20), (.call 70 [(.t 10), (.t 19)]), none, []⟩] [])
      .ret)
      .skip))
    (.region [⟨(some 21), (.mov (.t 0)), none, []⟩,
      ⟨(some 22), (.nck (.t 21)), none, []⟩,
      ⟨(some 23), (.off (.t 22) 0), none, []⟩,
      ⟨(some 24), (.load none (.t 23)), none, []⟩,
      ⟨(some 25), (.mov (.t 0)), none, []⟩,
      ⟨(some 26), (.nck (.t 25)), none, []⟩,
      ⟨(some 27), (.off (.t 26) 0), none, []⟩,
      ⟨(some 28), (.load none (.t 27)), none, []⟩,
      ⟨(some 29), (.nck (.t 28)), none, []⟩,
      ⟨(some 30), (.off (.t 29) 0), none, []⟩,
      ⟨(some 31), (.off (.t 30) 2), none, []⟩,
      ⟨(some 32), (.load none (.t 31)), none, []⟩,
      ⟨(some 33), (.off (.t 3) 1), none, []⟩,
      ⟨(some 34), (.load none (.t 33)), none, []⟩,
      ⟨(some 35), (.iaddr 5 (.t 32) (.t 34)), none, []⟩,
      ⟨(some 36), (.load (some 5) (.t 35)), none, []⟩,
      ⟨(some 37), (.call 70 [(.t 24), (.t 36)]), none, []⟩] []))),
    38, 2, [], 0⟩
theorem tr51 : trFunc Tryz.prog [([], []), ([], []), ([0, 1, 2, 3, 4, 5, 6, 7, 8, 9, 10, 11, 12, 13], []), ([], []), ([0, 1, 2, 3, 4, 5, 6, 7, 8, 9, 10, 11, 12, 13, 14, 15, 16], [])] 0 Tryz.f51 = some (plain1 I51) := by kernel_rfl
theorem ck51 : ckC 1 I51.body = true := by kernel_rfl

/-- '(*encore/base.Machine).store'. -/
def I52 : IFunc :=
  ⟨(.seq (.region [⟨(some 3), (.box (.t 1)), none, []⟩] [])
    (.seq (.region [⟨(some 5), (.mov (.t 0)), none, []⟩,
      ⟨(some 6), (.nck (.t 5)), none, []⟩,
      ⟨(some 7), (.off (.t 6) 0), none, []⟩,
      ⟨(some 8), (.load none (.t 7)), none, []⟩,
      ⟨(some 9), (.call 82 [(.t 8)]), none, []⟩,
      ⟨(some 4), (.alloc [(.i .i64 (0)), (.i .i64 (0)), (.s []), .ns, .ns]), none, []⟩,
      ⟨none, (.store 5 (.t 4) (.t 9)), none, []⟩] [])
    (.seq (.region [⟨(some 10), (.off (.t 3) 0), none, []⟩,
      ⟨(some 11), (.load none (.t 10)), none, []⟩,
      ⟨(some 12), (.bin .eql (.t 11) (.c (.i .i64 (3)))), none, []⟩] [])
    (.cond (.t 12)
      (.region [⟨(some 13), (.mov (.t 0)), none, []⟩,
        ⟨(some 14), (.nck (.t 13)), none, []⟩,
        ⟨(some 15), (.off (.t 14) 0), none, []⟩,
        ⟨(some 16), (.load none (.t 15)), none, []⟩,
        ⟨(some 17), (.nck (.t 16)), none, []⟩,
        ⟨(some 18), (.off (.t 17) 0), none, []⟩,
        ⟨(some 19), (.off (.t 18) 2), none, []⟩,
        ⟨(some 20), (.load none (.t 19)), none, []⟩,
        ⟨(some 21), (.off (.t 3) 1), none, []⟩,
        ⟨(some 22), (.load none (.t 21)), none, []⟩,
        ⟨(some 23), (.load (some 5) (.t 4)), none, []⟩,
        ⟨(some 24), (.iaddr 5 (.t 20) (.t 22)), none, []⟩,
        ⟨none, (.store 5 (.t 24) (.t 23)), none, []⟩] [])
      .skip)))),
    25, 2, [], 0⟩
theorem tr52 : trFunc Tryz.prog [([], []), ([], []), ([], []), ([0, 1, 2, 3, 4, 5, 6, 7, 8, 9, 10, 11, 12], []), ([], [])] 0 Tryz.f52 = some (plain1 I52) := by kernel_rfl
theorem ck52 : ckC 1 I52.body = true := by kernel_rfl

/-- '(*encore/base.Machine).dup'. -/
def I53 : IFunc :=
  ⟨(.seq (.region [⟨(some 3), (.box (.t 1)), none, []⟩] [])
    (.seq (.region [⟨(some 5), (.mov (.t 0)), none, []⟩,
      ⟨(some 6), (.nck (.t 5)), none, []⟩,
      ⟨(some 7), (.off (.t 6) 0), none, []⟩,
      ⟨(some 8), (.load none (.t 7)), none, []⟩,
      ⟨(some 9), (.call 82 [(.t 8)]), none, []⟩,
      ⟨(some 4), (.alloc [(.i .i64 (0)), (.i .i64 (0)), (.s []), .ns, .ns]), none, []⟩,
      ⟨none, (.store 5 (.t 4) (.t 9)), none, []⟩] [])
    (.seq (.region [⟨(some 10), (.mov (.t 0)), none, []⟩,
      ⟨(some 11), (.nck (.t 10)), none, []⟩,
      ⟨(some 12), (.off (.t 11) 0), none, []⟩,
      ⟨(some 13), (.load none (.t 12)), none, []⟩,
      ⟨(some 14), (.load (some 5) (.t 4)), none, []⟩,
      ⟨(some 15), (.call 70 [(.t 13), (.t 14)]), none, []⟩] [])
    (.region [⟨(some 16), (.mov (.t 0)), none, []⟩,
      ⟨(some 17), (.nck (.t 16)), none, []⟩,
      ⟨(some 18), (.off (.t 17) 0), none, []⟩,
      ⟨(some 19), (.load none (.t 18)), none, []⟩,
      ⟨(some 20), (.load (some 5) (.t 4)), none, []⟩,
      ⟨(some 21), (.call 70 [(.t 19), (.t 20)]), none, []⟩] [])))),
    22, 2, [], 0⟩
theorem tr53 : trFunc Tryz.prog [([], []), ([], []), ([0, 1, 2, 3, 4, 5], []), ([0, 1, 2, 3, 4, 5], [])] 0 Tryz.f53 = some (plain1 I53) := by kernel_rfl
theorem ck53 : ckC 1 I53.body = true := by kernel_rfl

/-- '(*encore/base.Machine).unary'. -/
def I54 : IFunc :=
  ⟨(.seq (.region [⟨(some 3), (.box (.t 1)), none, []⟩] [])
    (.region [⟨(some 4), (.mov (.t 0)), none, []⟩,
      ⟨(some 5), (.off (.t 3) 0), none, []⟩,
      ⟨(some 6), (.load none (.t 5)), none, []⟩,
      ⟨(some 7), (.mov (.t 0)), none, []⟩,
      ⟨(some 8), (.nck (.t 7)), none, []⟩,
      ⟨(some 9), (.off (.t 8) 0), none, []⟩,
      ⟨(some 10), (.load none (.t 9)), none, []⟩,
      ⟨(some 11), (.call 82 [(.t 10)]), none, [(6, (.load none (.t 5)), none)]⟩,
      ⟨(some 12), (.call 83 [(.t 6), (.t 11)]), none, []⟩,
      ⟨(some 13), (.ext (.t 12) 0), none, []⟩,
      ⟨(some 14), (.ext (.t 12) 1), none, []⟩,
      ⟨(some 15), (.ext (.t 12) 2), none, []⟩,
      ⟨(some 16), (.call 37 [(.t 4), (.t 13), (.t 14), (.t 15)]), none, []⟩] [])),
    17, 2, [], 0⟩
theorem tr54 : trFunc Tryz.prog [([], []), ([0, 1, 2, 3, 4, 5, 6, 7, 8, 9, 10, 11, 12], [])] 0 Tryz.f54 = some (plain1 I54) := by kernel_rfl
theorem ck54 : ckC 1 I54.body = true := by kernel_rfl

/-- '(*encore/base.Machine).binary'. -/
def I55 : IFunc :=
  ⟨(.seq (.region [⟨(some 3), (.box (.t 1)), none, []⟩] [])
    (.seq (.region [⟨(some 5), (.mov (.t 0)), none, []⟩,
      ⟨(some 6), (.nck (.t 5)), none, []⟩,
      ⟨(some 7), (.off (.t 6) 0), none, []⟩,
      ⟨(some 8), (.load none (.t 7)), none, []⟩,
      ⟨(some 9), (.call 84 [(.t 8), (.c (.i .i64 (2)))]), none, []⟩,
      ⟨(some 4), (.mov (.t 9)), none, []⟩] [])
    (.region [⟨(some 10), (.mov (.t 0)), none, []⟩,
      ⟨(some 11), (.off (.t 3) 0), none, []⟩,
      ⟨(some 12), (.load none (.t 11)), none, []⟩,
      ⟨(some 13), (.mov (.t 4)), none, []⟩,
      ⟨(some 14), (.iaddr 5 (.t 13) (.c (.i .i64 (0)))), none, []⟩,
      ⟨(some 15), (.load (some 5) (.t 14)), none, []⟩,
      ⟨(some 16), (.mov (.t 4)), none, []⟩,
      ⟨(some 17), (.iaddr 5 (.t 16) (.c (.i .i64 (1)))), none, []⟩,
      ⟨(some 18), (.load (some 5) (.t 17)), none, []⟩,
      ⟨(some 19), (.call 85 [(.t 12), (.t 15), (.t 18)]), none, []⟩,
      ⟨(some 20), (.ext (.t 19) 0), none, []⟩,
      ⟨(some 21), (.ext (.t 19) 1), none, []⟩,
      ⟨(some 22), (.ext (.t 19) 2), none, []⟩,
      ⟨(some 23), (.call 37 [(.t 10), (.t 20), (.t 21), (.t 22)]), none, []⟩] []))),
    24, 2, [], 0⟩
theorem tr55 : trFunc Tryz.prog [([], []), ([], []), ([0, 1, 2, 3, 4, 5, 6, 7, 8, 9, 10, 11, 12, 13], [])] 0 Tryz.f55 = some (plain1 I55) := by kernel_rfl
theorem ck55 : ckC 1 I55.body = true := by kernel_rfl

/-- '(*encore/base.Machine).list'. -/
def I56 : IFunc :=
  ⟨(.seq (.region [⟨(some 3), (.box (.t 1)), none, []⟩] [])
    (.region [⟨(some 4), (.mov (.t 0)), none, []⟩,
      ⟨(some 5), (.mov (.t 0)), none, []⟩,
      ⟨(some 6), (.nck (.t 5)), none, []⟩,
      ⟨(some 7), (.off (.t 6) 0), none, []⟩,
      ⟨(some 8), (.load none (.t 7)), none, []⟩,
      ⟨(some 9), (.off (.t 3) 1), none, []⟩,
      ⟨(some 10), (.load none (.t 9)), none, []⟩,
      ⟨(some 11), (.call 84 [(.t 8), (.t 10)]), none, []⟩,
      ⟨(some 12), (.call 86 [(.t 11)]), none, []⟩,
      ⟨(some 13), (.ext (.t 12) 0), none, []⟩,
      ⟨(some 14), (.ext (.t 12) 1), none, []⟩,
      ⟨(some 15), (.ext (.t 12) 2), none, []⟩,
      ⟨(some 16), (.call 37 [(.t 4), (.t 13), (.t 14), (.t 15)]), none, []⟩] [])),
    17, 2, [], 0⟩
theorem tr56 : trFunc Tryz.prog [([], []), ([0, 1, 2, 3, 4, 5, 6, 7, 8, 9, 10, 11, 12], [])] 0 Tryz.f56 = some (plain1 I56) := by kernel_rfl
theorem ck56 : ckC 1 I56.body = true := by kernel_rfl

/-- '(*encore/base.Machine).record'. -/
def L57a : ICode :=
  (.seq (.region [⟨(some 19), (.bin .lss (.t 18) (.t 17)), none, []⟩] [])
    (.seq (.cond (.t 19)
      .skip
      (.exit 0))
    (.seq (.block 1
      (.seq (.region [⟨(some 20), (.iaddr 5 (.t 16) (.t 18)), none, []⟩,
        ⟨(some 21), (.load (some 5) (.t 20)), none, []⟩,
        ⟨(some 6), (.alloc [(.i .i64 (0)), (.i .i64 (0)), (.s []), .ns, .ns]), none, []⟩,
        ⟨none, (.store 5 (.t 6) (.t 21)), none, []⟩] [])
      (.region [⟨(some 22), (.mov (.t 4)), none, []⟩,
        ⟨(some 23), (.off (.t 6) 2), none, []⟩,
        ⟨(some 24), (.load none (.t 23)), none, []⟩,
        ⟨(some 25), (.bsl 1 1 [(.s [])] [(0, 1, (.t 24))]), none, []⟩,
        ⟨(some 26), (.app 1 16 (.t 22) (.t 25)), none, []⟩,
        ⟨(some 4), (.mov (.t 26)), none, []⟩] [])))
    (.region [⟨(some 27), (.bin .add (.t 18) (.c (.i .i64 (1)))), none, []⟩,
      ⟨(some 18), (.mov (.t 27)), none, []⟩] []))))
def I57 : IFunc :=
  ⟨(.seq (.region [⟨(some 3), (.box (.t 1)), none, []⟩] [])
    (.seq (.region [⟨(some 4), (.mov (.c .ns)), none, []⟩] [])
    (.seq (.seq (.region [⟨(some 7), (.mov (.t 0)), none, []⟩,
      ⟨(some 8), (.nck (.t 7)), none, []⟩,
      ⟨(some 9), (.off (.t 8) 2), none, []⟩,
      ⟨(some 10), (.off (.t 9) 1), none, []⟩,
      ⟨(some 11), (.load none (.t 10)), none, []⟩,
      ⟨(some 12), (.off (.t 3) 1), none, []⟩,
      ⟨(some 13), (.load none (.t 12)), none, []⟩,
      ⟨(some 14), (.iaddr 5 (.t 11) (.t 13)), none, []⟩,
      ⟨(some 15), (.off (.t 14) 3), none, []⟩,
      ⟨(some 16), (.load none (.t 15)), none, []⟩,
      ⟨(some 17), (.lenk 0 (.t 16)), none, []⟩,
      ⟨(some 18), (.mov (.c (.i .i64 (0)))), none, []⟩] [])
    (.block 0
      (.loop L57a)))
    (.region [⟨(some 28), (.mov (.t 0)), none, []⟩,
      ⟨(some 29), (.mov (.t 4)), none, []⟩,
      ⟨(some 30), (.mov (.t 0)), none, []⟩,
      ⟨(some 31), (.nck (.t 30)), none, []⟩,
      ⟨(some 32), (.off (.t 31) 0), none, []⟩,
      ⟨(some 33), (.load none (.t 32)), none, []⟩,
      ⟨(some 34), (.mov (.t 4)), none, []⟩,
      ⟨(some 35), (.lenk 0 (.t 34)), none, []⟩,
      ⟨(some 36), (.call 84 [(.t 33), (.t 35)]), none, []⟩,
      ⟨(some 37), (.call 87 [(.t 29), (.t 36)]), none, []⟩,
      ⟨(some 38), (.ext (.t 37) 0), none, []⟩,
      ⟨(some 39), (.ext (.t 37) 1), none, []⟩,
      ⟨(some 40), (.ext (.t 37) 2), none, []⟩,
      ⟨(some 41), (.call 37 [(.t 28), (.t 38), (.t 39), (.t 40)]), none, []⟩] [])))),
    42, 2, [], 0⟩
theorem tr57 : trFunc Tryz.prog [([], []), ([], []), ([0, 1, 2, 3, 4, 5, 6, 7, 8, 9, 10, 11], []), ([], []), ([], []), ([], []), ([], []), ([], []), ([], [])] 0 Tryz.f57 = some (plain1 I57) := by kernel_rfl
theorem ck57 : ckC 1 I57.body = true := by kernel_rfl

/-- '(*encore/base.Machine).field'. -/
def I58 : IFunc :=
  ⟨(.seq (.region [⟨(some 3), (.box (.t 1)), none, []⟩] [])
    (.region [⟨(some 4), (.mov (.t 0)), none, []⟩,
      ⟨(some 5), (.mov (.t 0)), none, []⟩,
      ⟨(some 6), (.nck (.t 5)), none, []⟩,
      ⟨(some 7), (.off (.t 6) 0), none, []⟩,
      ⟨(some 8), (.load none (.t 7)), none, []⟩,
      ⟨(some 10), (.mov (.t 0)), none, []⟩,
      ⟨(some 11), (.nck (.t 10)), none, []⟩,
      ⟨(some 12), (.off (.t 11) 2), none, []⟩,
      ⟨(some 13), (.off (.t 12) 1), none, []⟩,
      ⟨(some 14), (.load none (.t 13)), none, []⟩,
      ⟨(some 15), (.off (.t 3) 1), none, []⟩,
      ⟨(some 16), (.load none (.t 15)), none, []⟩,
      ⟨(some 17), (.iaddr 5 (.t 14) (.t 16)), none, []⟩,
      ⟨(some 18), (.off (.t 17) 2), none, []⟩,
      ⟨(some 19), (.load none (.t 18)), none, []⟩,
      ⟨(some 9), (.call 82 [(.t 8)]), none, [(14, (.load none (.t 13)), none), (16, (.load none (.t 15)), none), (19, (.load none (.t 18)), none)]⟩,
      ⟨(some 20), (.call 88 [(.t 9), (.t 19)]), none, []⟩,
      ⟨(some 21), (.ext (.t 20) 0), none, []⟩,
      ⟨(some 22), (.ext (.t 20) 1), none, []⟩,
      ⟨(some 23), (.ext (.t 20) 2), none, []⟩,
      ⟨(some 24), (.call 37 [(.t 4), (.t 21), (.t 22), (.t 23)]), none, []⟩] [])),
    25, 2, [], 0⟩
theorem tr58 : trFunc Tryz.prog [([], []), ([0, 1, 2, 3, 4, 6, 7, 8, 9, 10, 11, 12, 13, 14, 15, 5, 16, 17, 18, 19, 20], [])] 0 Tryz.f58 = some (plain1 I58) := by kernel_rfl
theorem ck58 : ckC 1 I58.body = true := by kernel_rfl

/-- '(*encore/base.Machine).typed'. -/
def I59 : IFunc :=
  ⟨(.seq (.region [⟨(some 3), (.box (.t 1)), none, []⟩] [])
    (.seq (.region [⟨(some 5), (.mov (.t 0)), none, []⟩,
      ⟨(some 6), (.nck (.t 5)), none, []⟩,
      ⟨(some 7), (.off (.t 6) 0), none, []⟩,
      ⟨(some 8), (.load none (.t 7)), none, []⟩,
      ⟨(some 9), (.call 82 [(.t 8)]), none, []⟩,
      ⟨(some 4), (.alloc [(.i .i64 (0)), (.i .i64 (0)), (.s []), .ns, .ns]), none, []⟩,
      ⟨none, (.store 5 (.t 4) (.t 9)), none, []⟩] [])
    (.seq (.seq (.region [⟨(some 10), (.load (some 5) (.t 4)), none, []⟩,
      ⟨(some 11), (.mov (.t 0)), none, []⟩,
      ⟨(some 12), (.nck (.t 11)), none, []⟩,
      ⟨(some 13), (.off (.t 12) 2), none, []⟩,
      ⟨(some 14), (.off (.t 13) 1), none, []⟩,
      ⟨(some 15), (.load none (.t 14)), none, []⟩,
      ⟨(some 16), (.off (.t 3) 1), none, []⟩,
      ⟨(some 17), (.load none (.t 16)), none, []⟩,
      ⟨(some 18), (.iaddr 5 (.t 15) (.t 17)), none, []⟩,
      ⟨(some 19), (.off (.t 18) 2), none, []⟩,
      ⟨(some 20), (.load none (.t 19)), none, []⟩,
      ⟨(some 21), (.call 89 [(.t 10), (.t 20)]), none, []⟩,
      ⟨(some 22), (.un .not (.t 21)), none, []⟩] [])
    (.cond (.t 22)
      (.seq (.region [⟨(some 23), (.mov (.t 0)), none, []⟩,
        ⟨(some 24), (.call 69 [(.t 23), (.c (.i .i64 (2)))]), none, []⟩] [])
      .ret)
      .skip))
    (.region [⟨(some 25), (.mov (.t 0)), none, []⟩,
      ⟨(some 26), (.nck (.t 25)), none, []⟩,
      ⟨(some 27), (.off (.t 26) 0), none, []⟩,
      ⟨(some 28), (.load none (.t 27)), none, []⟩,
      ⟨(some 29), (.load (some 5) (.t 4)), none, []⟩,
      ⟨(some 30), (.call 70 [(.t 28), (.t 29)]), none, []⟩] [])))),
    31, 2, [], 0⟩
theorem tr59 : trFunc Tryz.prog [([], []), ([], []), ([0, 1, 2, 3, 4, 5, 6, 7, 8, 9, 10, 11, 12], []), ([], []), ([], []), ([0, 1, 2, 3, 4, 5], [])] 0 Tryz.f59 = some (plain1 I59) := by kernel_rfl
theorem ck59 : ckC 1 I59.body = true := by kernel_rfl

/-- '(*encore/base.Machine).jump'. -/
def I60 : IFunc :=
  ⟨(.seq (.region [⟨(some 3), (.box (.t 1)), none, []⟩] [])
    (.region [⟨(some 4), (.mov (.t 0)), none, []⟩,
      ⟨(some 5), (.nck (.t 4)), none, []⟩,
      ⟨(some 6), (.off (.t 5) 0), none, []⟩,
      ⟨(some 7), (.load none (.t 6)), none, []⟩,
      ⟨(some 8), (.off (.t 3) 1), none, []⟩,
      ⟨(some 9), (.load none (.t 8)), none, []⟩,
      ⟨(some 10), (.nck (.t 7)), none, []⟩,
      ⟨(some 11), (.off (.t 10) 0), none, []⟩,
      ⟨(some 12), (.off (.t 11) 1), none, []⟩,
      ⟨none, (.store 1 (.t 12) (.t 9)), none, []⟩] [])),
    13, 2, [], 0⟩
theorem tr60 : trFunc Tryz.prog [([], []), ([0, 1, 2, 3, 4, 5, 6, 7, 8, 9], [])] 0 Tryz.f60 = some (plain1 I60) := by kernel_rfl
theorem ck60 : ckC 1 I60.body = true := by kernel_rfl

/-- '(*encore/base.Machine).turn'. -/
def I61 : IFunc :=
  ⟨(.seq (.region [⟨(some 3), (.box (.t 1)), none, []⟩] [])
    (.seq (.region [⟨(some 5), (.mov (.t 0)), none, []⟩,
      ⟨(some 6), (.nck (.t 5)), none, []⟩,
      ⟨(some 7), (.off (.t 6) 0), none, []⟩,
      ⟨(some 8), (.load none (.t 7)), none, []⟩,
      ⟨(some 9), (.call 82 [(.t 8)]), none, []⟩,
      ⟨(some 4), (.alloc [(.i .i64 (0)), (.i .i64 (0)), (.s []), .ns, .ns]), none, []⟩,
      ⟨none, (.store 5 (.t 4) (.t 9)), none, []⟩] [])
    (.block 0
      (.seq (.region [⟨(some 11), (.off (.t 4) 0), none, []⟩,
        ⟨(some 12), (.load none (.t 11)), none, []⟩,
        ⟨(some 13), (.bin .neq (.t 12) (.c (.i .i64 (2)))), none, []⟩,
        ⟨(some 10), (.mov (.t 13)), none, []⟩] [])
      (.cond (.t 10)
        (.region [⟨(some 14), (.mov (.t 0)), none, []⟩,
          ⟨(some 15), (.call 69 [(.t 14), (.c (.i .i64 (2)))]), none, []⟩] [])
        (.seq (.region [⟨(some 17), (.off (.t 4) 1), none, []⟩,
          ⟨(some 18), (.load none (.t 17)), none, []⟩,
          ⟨(some 19), (.bin .eql (.t 18) (.c (.i .i64 (0)))), none, []⟩,
          ⟨(some 16), (.mov (.t 19)), none, []⟩] [])
        (.cond (.t 16)
          (.region [⟨(some 20), (.mov (.t 0)), none, []⟩,
            ⟨(some 21), (.nck (.t 20)), none, []⟩,
            ⟨(some 22), (.off (.t 21) 0), none, []⟩,
            ⟨(some 23), (.load none (.t 22)), none, []⟩,
            ⟨(some 24), (.off (.t 3) 1), none, []⟩,
            ⟨(some 25), (.load none (.t 24)), none, []⟩,
            ⟨(some 26), (.nck (.t 23)), none, []⟩,
            ⟨(some 27), (.off (.t 26) 0), none, []⟩,
            ⟨(some 28), (.off (.t 27) 1), none, []⟩,
            ⟨none, (.store 1 (.t 28) (.t 25)), none, []⟩] [])
          .skip))))))),
    29, 2, [], 0⟩
theorem tr61 : trFunc Tryz.prog [([], []), ([], []), ([], []), ([], []), ([], []), ([0, 1, 2, 3, 4, 5, 6, 7, 8, 9], []), ([], [])] 0 Tryz.f61 = some (plain1 I61) := by kernel_rfl
theorem ck61 : ckC 1 I61.body = true := by kernel_rfl

/-- '(*encore/base.Machine).try'. -/
def I62 : IFunc :=
  ⟨(.seq (.region [⟨(some 3), (.box (.t 1)), none, []⟩] [])
    (.region [⟨(some 4), (.mov (.t 0)), none, []⟩,
      ⟨(some 5), (.nck (.t 4)), none, []⟩,
      ⟨(some 6), (.off (.t 5) 0), none, []⟩,
      ⟨(some 7), (.load none (.t 6)), none, []⟩,
      ⟨(some 8), (.mov (.t 0)), none, []⟩,
      ⟨(some 9), (.nck (.t 8)), none, []⟩,
      ⟨(some 10), (.off (.t 9) 0), none, []⟩,
      ⟨(some 11), (.load none (.t 10)), none, []⟩,
      ⟨(some 12), (.nck (.t 11)), none, []⟩,
      ⟨(some 13), (.off (.t 12) 0), none, []⟩,
      ⟨(some 14), (.off (.t 13) 4), none, []⟩,
      ⟨(some 15), (.load none (.t 14)), none, []⟩,
      ⟨(some 17), (.off (.t 3) 1), none, []⟩,
      ⟨(some 18), (.load none (.t 17)), none, []⟩,
      ⟨(some 19), (.mov (.t 0)), none, []⟩,
      ⟨(some 20), (.nck (.t 19)), none, []⟩,
      ⟨(some 21), (.off (.t 20) 0), none, []⟩,
      ⟨(some 22), (.load none (.t 21)), none, []⟩,
      ⟨(some 23), (.nck (.t 22)), none, []⟩,
      ⟨(some 24), (.off (.t 23) 0), none, []⟩,
      ⟨(some 25), (.off (.t 24) 3), none, []⟩,
      ⟨(some 26), (.load none (.t 25)), none, []⟩,
      ⟨(some 27), (.lenk 0 (.t 26)), none, []⟩,
      ⟨(some 28), (.build [(.i .i64 (0)), (.i .i64 (0))] [(0, 1, (.t 18)), (1, 1, (.t 27))]), none, []⟩,
      ⟨(some 29), (.bsl 2 1 [(.i .i64 (0)), (.i .i64 (0))] [(0, 2, (.t 28))]), none, []⟩,
      ⟨(some 16), (.call 40 [(.t 15)]), none, [(7, (.load none (.t 6)), none), (18, (.load none (.t 17)), none), (22, (.load none (.t 21)), none), (26, (.load none (.t 25)), none), (27, (.lenk 0 (.t 26)), none)]⟩,
      ⟨(some 30), (.app 2 16 (.t 16) (.t 29)), none, [(7, (.load none (.t 6)), none)]⟩,
      ⟨(some 31), (.nck (.t 7)), none, []⟩,
      ⟨(some 32), (.off (.t 31) 0), none, []⟩,
      ⟨(some 33), (.off (.t 32) 4), none, []⟩,
      ⟨none, (.store 1 (.t 33) (.t 30)), none, []⟩] [])),
    34, 2, [], 0⟩
theorem tr62 : trFunc Tryz.prog [([], []), ([0, 1, 2, 3, 4, 5, 6, 7, 8, 9, 10, 11, 13, 14, 15, 16, 17, 18, 19, 20, 21, 22, 23, 24, 25, 12, 26, 27, 28, 29, 30], [])] 0 Tryz.f62 = some (plain1 I62) := by kernel_rfl
theorem ck62 : ckC 1 I62.body = true := by kernel_rfl

/-- '(*encore/base.Machine).done'. -/
def I63 : IFunc :=
  ⟨(.seq (.region [⟨(some 3), (.box (.t 1)), none, []⟩] [])
    (.region [⟨(some 4), (.mov (.t 0)), none, []⟩,
      ⟨(some 5), (.nck (.t 4)), none, []⟩,
      ⟨(some 6), (.off (.t 5) 0), none, []⟩,
      ⟨(some 7), (.load none (.t 6)), none, []⟩,
      ⟨(some 8), (.mov (.t 0)), none, []⟩,
      ⟨(some 9), (.nck (.t 8)), none, []⟩,
      ⟨(some 10), (.off (.t 9) 0), none, []⟩,
      ⟨(some 11), (.load none (.t 10)), none, []⟩,
      ⟨(some 12), (.nck (.t 11)), none, []⟩,
      ⟨(some 13), (.off (.t 12) 0), none, []⟩,
      ⟨(some 14), (.off (.t 13) 4), none, []⟩,
      ⟨(some 15), (.load none (.t 14)), none, []⟩,
      ⟨(some 16), (.mov (.t 0)), none, []⟩,
      ⟨(some 17), (.nck (.t 16)), none, []⟩,
      ⟨(some 18), (.off (.t 17) 0), none, []⟩,
      ⟨(some 19), (.load none (.t 18)), none, []⟩,
      ⟨(some 20), (.nck (.t 19)), none, []⟩,
      ⟨(some 21), (.off (.t 20) 0), none, []⟩,
      ⟨(some 22), (.off (.t 21) 4), none, []⟩,
      ⟨(some 23), (.load none (.t 22)), none, []⟩,
      ⟨(some 24), (.lenk 0 (.t 23)), none, []⟩,
      ⟨(some 25), (.bin .sub (.t 24) (.c (.i .i64 (1)))), none, []⟩,
      ⟨(some 26), (.mm true (.t 25) [(.c (.i .i64 (0)))]), none, []⟩,
      ⟨(some 27), (.slq 2 (.t 15) none (some (.t 26)) none), none, []⟩,
      ⟨(some 28), (.nck (.t 7)), none, []⟩,
      ⟨(some 29), (.off (.t 28) 0), none, []⟩,
      ⟨(some 30), (.off (.t 29) 4), none, []⟩,
      ⟨none, (.store 1 (.t 30) (.t 27)), none, []⟩] [])),
    31, 2, [], 0⟩
theorem tr63 : trFunc Tryz.prog [([], []), ([0, 1, 2, 3, 4, 5, 6, 7, 8, 9, 10, 11, 12, 13, 14, 15, 16, 17, 18, 19, 20, 21, 22, 23, 24, 25, 26, 27], [])] 0 Tryz.f63 = some (plain1 I63) := by kernel_rfl
theorem ck63 : ckC 1 I63.body = true := by kernel_rfl

/-- '(*encore/base.Machine).raise'. -/
def I64 : IFunc :=
  ⟨(.seq (.region [⟨(some 3), (.box (.t 1)), none, []⟩] [])
    (.seq (.region [⟨(some 5), (.mov (.t 0)), none, []⟩,
      ⟨(some 6), (.nck (.t 5)), none, []⟩,
      ⟨(some 7), (.off (.t 6) 0), none, []⟩,
      ⟨(some 8), (.load none (.t 7)), none, []⟩,
      ⟨(some 9), (.call 82 [(.t 8)]), none, []⟩,
      ⟨(some 4), (.alloc [(.i .i64 (0)), (.i .i64 (0)), (.s []), .ns, .ns]), none, []⟩,
      ⟨none, (.store 5 (.t 4) (.t 9)), none, []⟩] [])
    (.seq (.seq (.region [⟨(some 10), (.off (.t 4) 0), none, []⟩,
      ⟨(some 11), (.load none (.t 10)), none, []⟩,
      ⟨(some 12), (.bin .neq (.t 11) (.c (.i .i64 (1)))), none, []⟩,
      ⟨(some 13), (.mov (.t 12)), none, []⟩,
      ⟨(some 14), (.off (.t 4) 1), (some (13, false)), []⟩,
      ⟨(some 15), (.load none (.t 14)), (some (13, false)), []⟩,
      ⟨(some 16), (.bin .eql (.t 15) (.c (.i .i64 (0)))), (some (13, false)), []⟩,
      ⟨(some 17), (.pick (.t 13) (.c (.b true)) (.t 16)), none, []⟩] [])
    (.cond (.t 17)
      (.seq (.region [⟨(some 18), (.mov (.t 0)), none, []⟩,
        ⟨(some 19), (.call 69 [(.t 18), (.c (.i .i64 (2)))]), none, []⟩] [])
      .ret)
      .skip))
    (.region [⟨(some 20), (.mov (.t 0)), none, []⟩,
      ⟨(some 21), (.off (.t 4) 1), none, []⟩,
      ⟨(some 22), (.load none (.t 21)), none, []⟩,
      ⟨(some 23), (.call 69 [(.t 20), (.t 22)]), none, []⟩] [])))),
    24, 2, [], 0⟩
theorem tr64 : trFunc Tryz.prog [([], []), ([], []), ([], []), ([], []), ([], []), ([], [])] 0 Tryz.f64 = some (plain1 I64) := by kernel_rfl
theorem ck64 : ckC 1 I64.body = true := by kernel_rfl

/-- '(*encore/base.Machine).call'. -/
def I65 : IFunc :=
  ⟨(.seq (.region [⟨(some 3), (.box (.t 1)), none, []⟩] [])
    (.seq (.region [⟨(some 5), (.mov (.t 0)), none, []⟩,
      ⟨(some 6), (.nck (.t 5)), none, []⟩,
      ⟨(some 7), (.off (.t 6) 0), none, []⟩,
      ⟨(some 8), (.load none (.t 7)), none, []⟩,
      ⟨(some 9), (.mov (.t 0)), none, []⟩,
      ⟨(some 10), (.nck (.t 9)), none, []⟩,
      ⟨(some 11), (.off (.t 10) 2), none, []⟩,
      ⟨(some 12), (.off (.t 11) 0), none, []⟩,
      ⟨(some 13), (.load none (.t 12)), none, []⟩,
      ⟨(some 14), (.off (.t 3) 1), none, []⟩,
      ⟨(some 15), (.load none (.t 14)), none, []⟩,
      ⟨(some 16), (.iaddr 4 (.t 13) (.t 15)), none, []⟩,
      ⟨(some 17), (.off (.t 16) 1), none, []⟩,
      ⟨(some 18), (.load none (.t 17)), none, []⟩,
      ⟨(some 19), (.call 84 [(.t 8), (.t 18)]), none, []⟩,
      ⟨(some 4), (.mov (.t 19)), none, []⟩] [])
    (.seq (.seq (.region [⟨(some 20), (.mov (.t 0)), none, []⟩,
      ⟨(some 21), (.nck (.t 20)), none, []⟩,
      ⟨(some 22), (.off (.t 21) 1), none, []⟩,
      ⟨(some 23), (.load none (.t 22)), none, []⟩,
      ⟨(some 24), (.lenk 0 (.t 23)), none, []⟩,
      ⟨(some 25), (.bin .add (.t 24) (.c (.i .i64 (1)))), none, []⟩,
      ⟨(some 26), (.bin .geq (.t 25) (.c (.i .i64 (32)))), none, []⟩] [])
    (.cond (.t 26)
      (.seq (.region [⟨(some 27), (.mov (.t 0)), none, []⟩,
        ⟨(some 28), (.call 69 [(.t 27), (.c (.i .i64 (5)))]), none, []⟩] [])
      .ret)
      .skip))
    (.seq (.region [⟨(some 29), (.mov (.t 0)), none, []⟩,
      ⟨(some 30), (.mov (.t 0)), none, []⟩,
      ⟨(some 31), (.nck (.t 30)), none, []⟩,
      ⟨(some 32), (.off (.t 31) 1), none, []⟩,
      ⟨(some 33), (.load none (.t 32)), none, []⟩,
      ⟨(some 34), (.mov (.t 0)), none, []⟩,
      ⟨(some 35), (.nck (.t 34)), none, []⟩,
      ⟨(some 36), (.off (.t 35) 0), none, []⟩,
      ⟨(some 37), (.load none (.t 36)), none, []⟩,
      ⟨(some 38), (.bsl 1 1 [.np] [(0, 1, (.t 37))]), none, []⟩,
      ⟨(some 39), (.app 1 8 (.t 33) (.t 38)), none, []⟩,
      ⟨(some 40), (.nck (.t 29)), none, []⟩,
      ⟨(some 41), (.off (.t 40) 1), none, []⟩,
      ⟨none, (.store 1 (.t 41) (.t 39)), none, []⟩] [])
    (.region [⟨(some 42), (.mov (.t 0)), none, []⟩,
      ⟨(some 43), (.mov (.t 0)), none, []⟩,
      ⟨(some 44), (.off (.t 3) 1), none, []⟩,
      ⟨(some 45), (.load none (.t 44)), none, []⟩,
      ⟨(some 46), (.mov (.t 4)), none, []⟩,
      ⟨(some 47), (.call 30 [(.t 43), (.t 45), (.t 46)]), none, []⟩,
      ⟨(some 48), (.nck (.t 42)), none, []⟩,
      ⟨(some 49), (.off (.t 48) 0), none, []⟩,
      ⟨none, (.store 1 (.t 49) (.t 47)), none, []⟩] []))))),
    50, 2, [], 0⟩
theorem tr65 : trFunc Tryz.prog [([], []), ([0, 1, 2, 3, 4, 5, 6, 7, 8, 9, 10, 11, 12, 13, 14, 15], []), ([], []), ([], []), ([], []), ([0, 1, 2, 3, 4, 5, 6, 7, 8, 9, 10, 11, 12, 13], []), ([], [])] 0 Tryz.f65 = some (plain1 I65) := by kernel_rfl
theorem ck65 : ckC 1 I65.body = true := by kernel_rfl

/-- '(*encore/base.Machine).ret'. -/
def I66 : IFunc :=
  ⟨(.seq (.region [⟨(some 3), (.box (.t 1)), none, []⟩] [])
    (.seq (.region [⟨(some 5), (.mov (.t 0)), none, []⟩,
      ⟨(some 6), (.nck (.t 5)), none, []⟩,
      ⟨(some 7), (.off (.t 6) 0), none, []⟩,
      ⟨(some 8), (.load none (.t 7)), none, []⟩,
      ⟨(some 9), (.call 82 [(.t 8)]), none, []⟩,
      ⟨(some 4), (.alloc [(.i .i64 (0)), (.i .i64 (0)), (.s []), .ns, .ns]), none, []⟩,
      ⟨none, (.store 5 (.t 4) (.t 9)), none, []⟩] [])
    (.seq (.seq (.region [⟨(some 10), (.mov (.t 0)), none, []⟩,
      ⟨(some 11), (.call 90 [(.t 10)]), none, []⟩] [])
    (.cond (.t 11)
      (.seq (.region [⟨(some 12), (.mov (.t 0)), none, []⟩,
        ⟨(some 13), (.nck (.t 12)), none, []⟩,
        ⟨(some 14), (.off (.t 13) 0), none, []⟩,
        ⟨(some 15), (.load none (.t 14)), none, []⟩,
        ⟨(some 16), (.load (some 5) (.t 4)), none, []⟩,
        ⟨(some 17), (.call 70 [(.t 15), (.t 16)]), none, []⟩] [])
      .ret)
      .skip))
    (.region [⟨(some 18), (.mov (.t 0)), none, []⟩,
      ⟨(some 19), (.mov (.t 0)), none, []⟩,
      ⟨(some 20), (.load (some 5) (.t 4)), none, []⟩,
      ⟨(some 21), (.nck (.t 18)), none, []⟩,
      ⟨(some 22), (.off (.t 21) 5), none, []⟩,
      ⟨none, (.store 1 (.t 22) (.c (.i .i64 (2)))), none, [(20, (.load (some 5) (.t 4)), none)]⟩,
      ⟨(some 23), (.nck (.t 19)), none, []⟩,
      ⟨(some 24), (.off (.t 23) 15), none, []⟩,
      ⟨none, (.store 5 (.t 24) (.t 20)), none, []⟩] [])))),
    25, 2, [], 0⟩
theorem tr66 : trFunc Tryz.prog [([], []), ([], []), ([], []), ([0, 1, 2, 3, 4, 5], []), ([], []), ([0, 1, 2, 3, 4, 5, 6, 7, 8], [])] 0 Tryz.f66 = some (plain1 I66) := by kernel_rfl
theorem ck66 : ckC 1 I66.body = true := by kernel_rfl


end Go.Proofs.YteoliiakbmomeabGreat

