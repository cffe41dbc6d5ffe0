import Derived.Test.YtbfajkcmehaliaaGreatDoorRows
import Derived.Test.YtbfajkcmehaliaaGreatDoorM07
import Derived.Test.YtbfajkcmehaliaaGreatDoorM04
set_option linter.unusedVariables false
set_option linter.unusedSimpArgs false
set_option linter.unusedSectionVars false
/- The functions that the statement reaches, as the interpreter has them, with modes. Conditions: none. -/
namespace Go.Proofs.YtbfajkcmehaliaaGreatDoor
open Go Go.RI
set_option maxRecDepth 100000
def I3:IFunc :=
  ⟨(.seq (.region [It 4 (.box (.t 1)),
 It 5 (.box (.t 2)),
 It 6 (.mov (.c (.b false)))] [1,2,6])
 (.seq (.seq (.region [It 13 (.call 6 []),
 It 14 (.un .not (.t 13))] [13])
 (.cond (.t 14)
 (.seq (.region [It 6 (.mov (.c (.b false)))] [0,4,5,14])
 .ret)
 (.region [] [14])))
 (.seq (.region [Mv 15 0,
 It 16 (.call 7 [(.t 15),(.c (.i .i64 (5)))]),
 Mv 0 16] [15,16])
 (.seq (.seq (.region [It 17 (.load (some 5) (.t 4)),
 It 18 (.call 8 [(.t 17)]),
 It 19 (.bin .neq (.t 18) (.c i0)),
 Mv 20 19,
 Ig 21 20 false (.load (some 5) (.t 5)),
 Ig 22 20 false (.call 8 [(.t 21)]),
 Ig 23 20 false (.bin .neq (.t 22) (.c i0)),
 It 24 (.pick (.t 20) (.c (.b true)) (.t 23))] [17,18,19,20,21,22,23])
 (.cond (.t 24)
 (.seq (.region [Mv 26 0,
 It 27 (.bin .add (.c (.i .i64 (43))) (.t 26)),
 It 28 (.build [i0,i0,.ns,(.s []),.ns] [(0,1,(.t 27))]),
 It 29 (.load (some 5) (.t 4)),
 It 30 (.load (some 5) (.t 5)),
 It 31 (.bsl 5 2 [i0,i0,(.s []),.ns,.ns,i0,i0,(.s []),.ns,.ns] [(0,5,(.t 29)),(5,5,(.t 30))]),
 It 32 (.call 9 [(.t 28),(.t 31)]),
 Mv 25 32,
 Ex 33 25 0,
 Ex 34 25 1,
 It 7 (.alloc [i0,i0,(.s []),.ns,.ns]),
 ⟨none,(.store 5 (.t 7) (.t 33)),none,[]⟩,
 Mv 8 34] [0,4,5,24,26,27,28,29,30,31,32,25,33,34,7])
 (.seq (.region [Mv 35 8,
 It 36 (.un .not (.t 35)),
 Mv 6 36] [8,35,36])
 .ret))
 (.region [] [24])))
 (.seq (.region [Mv 38 0,
 It 39 (.bin .add (.c (.i .i64 (43))) (.t 38)),
 It 40 (.build [i0,i0,.ns,(.s []),.ns] [(0,1,(.t 39))]),
 It 41 (.load (some 5) (.t 4)),
 It 42 (.load (some 5) (.t 5)),
 It 43 (.bsl 5 2 [i0,i0,(.s []),.ns,.ns,i0,i0,(.s []),.ns,.ns] [(0,5,(.t 41)),(5,5,(.t 42))]),
 It 44 (.call 9 [(.t 40),(.t 43)]),
 Mv 37 44,
 Ex 45 37 0,
 Ex 46 37 1,
 It 9 (.alloc [i0,i0,(.s []),.ns,.ns]),
 ⟨none,(.store 5 (.t 9) (.t 45)),none,[]⟩,
 Mv 10 46] [38,39,40,41,42,43,44,37,45,46])
 (.seq (.region [It 48 (.bsl 1 5 [i0,i0,i0,i0,i0] [(0,1,(.c (.i .i64 (9)))),(1,1,(.c (.i .i64 (10)))),(2,1,(.c (.i .i64 (11)))),(3,1,(.c (.i .i64 (16)))),(4,1,(.c (.i .i64 (17))))]),
 Mv 49 0,
 It 50 (.iaddr 1 (.t 48) (.t 49)),
 Ld 51 50,
 It 52 (.build [i0,i0,.ns,(.s []),.ns] [(0,1,(.t 51))]),
 It 53 (.load (some 5) (.t 4)),
 It 54 (.load (some 5) (.t 5)),
 It 55 (.bsl 5 2 [i0,i0,(.s []),.ns,.ns,i0,i0,(.s []),.ns,.ns] [(0,5,(.t 53)),(5,5,(.t 54))]),
 It 11 (.alloc [i0,i0,(.s []),.ns,.ns]),
 It 56 (.call 9 [(.t 52),(.t 55)]),
 Mv 47 56,
 Ex 57 47 0,
 Ex 58 47 1,
 ⟨none,(.store 5 (.t 11) (.t 57)),none,[]⟩,
 Mv 12 58] [0,48,49,50,51,52,53,54,55,56,47,57,58])
 (.seq (.seq (.region [Of 59 4 0,
 Ld 60 59,
 It 61 (.bin .neq (.t 60) (.c (.i .i64 (1)))),
 Mv 62 61,
 Ig 63 62 false (.off (.t 5) 0),
 Ig 64 62 false (.load none (.t 63)),
 Ig 65 62 false (.bin .neq (.t 64) (.c (.i .i64 (1)))),
 It 66 (.pick (.t 62) (.c (.b true)) (.t 65))] [4,5,59,60,61,62,63,64,65])
 (.cond (.t 66)
 (.seq (.region [Mv 67 10,
 It 68 (.un .not (.t 67)),
 Mv 69 68,
 Ig 70 69 true (.load (some 5) (.t 9)),
 Ig 71 69 true (.build [i0,i0,(.s []),.ns,.ns] []),
 Ig 72 69 true (.call 10 [(.t 70),(.t 71)]),
 It 73 (.pick (.t 69) (.t 72) (.c (.b false))),
 Mv 6 73] [9,10,11,12,66,67,68,69,70,71,72,73])
 .ret)
 (.region [] [66])))
 (.seq (.region [Mv 74 10,
 Mv 75 74,
 Ig 76 75 true (.mov (.t 12)),
 It 77 (.pick (.t 75) (.t 76) (.c (.b false))),
 Mv 78 77,
 Ig 79 78 true (.load (some 5) (.t 9)),
 Ig 80 78 true (.load (some 5) (.t 11)),
 Ig 81 78 true (.call 10 [(.t 79),(.t 80)]),
 It 82 (.pick (.t 78) (.t 81) (.c (.b false))),
 Mv 6 82] [9,10,11,12,74,75,76,77,78,79,80,81,82])
 .ret)))))))),
    83,3,[.t 6],0⟩
theorem tr3:trFunc Tryz.prog (hz [(10,[0,1,2,3,4,5,6,7,12,8,9,10,11,13,14])] I3.body) 0 Tryz.f3=some (plain1 I3):=by kernel_rfl
theorem ck3:ckC 2 I3.body=true:=by kernel_rfl
def I4:IFunc :=
  ⟨(.seq (.region [It 2 (.box (.t 0)),
 It 4 (.mov (.c (.b false)))] [0,4])
 (.seq (.seq (.region [It 13 (.call 6 []),
 It 14 (.un .not (.t 13))] [13])
 (.cond (.t 14)
 (.seq (.region [It 4 (.mov (.c (.b false)))] [1,2,14])
 .ret)
 (.region [] [14])))
 (.seq (.region [Mv 16 1,
 It 17 (.build [i0,i0,.ns,(.s []),.ns] [(0,1,(.c (.i .i64 (48)))),(1,1,(.t 16))]),
 It 18 (.load (some 5) (.t 2)),
 It 19 (.bsl 5 1 [i0,i0,(.s []),.ns,.ns] [(0,5,(.t 18))]),
 It 20 (.call 9 [(.t 17),(.t 19)]),
 Mv 15 20,
 Ex 21 15 0,
 Ex 22 15 1,
 It 5 (.alloc [i0,i0,(.s []),.ns,.ns]),
 ⟨none,(.store 5 (.t 5) (.t 21)),none,[]⟩,
 Mv 6 22] [16,17,18,19,20,15,21,22])
 (.seq (.region [It 24 (.build [i0,i0,.ns,(.s []),.ns] [(0,1,(.c (.i .i64 (43))))]),
 It 25 (.load (some 5) (.t 2)),
 Mv 26 1,
 It 7 (.alloc [i0,i0,(.s []),.ns,.ns]),
 ⟨(some 27),(.call 11 [(.t 26)]),none,[(25,(.load (some 5) (.t 2)),none)]⟩,
 It 28 (.bsl 5 2 [i0,i0,(.s []),.ns,.ns,i0,i0,(.s []),.ns,.ns] [(0,5,(.t 25)),(5,5,(.t 27))]),
 It 29 (.call 9 [(.t 24),(.t 28)]),
 Mv 23 29,
 Ex 30 23 0,
 Ex 31 23 1,
 ⟨none,(.store 5 (.t 7) (.t 30)),none,[]⟩,
 Mv 8 31] [24,25,26,27,28,29,23,30,31])
 (.seq (.region [Mv 33 1,
 It 34 (.build [i0,i0,.ns,(.s []),.ns] [(0,1,(.c (.i .i64 (49)))),(1,1,(.t 33))]),
 It 35 (.load (some 5) (.t 2)),
 It 36 (.bsl 5 1 [i0,i0,(.s []),.ns,.ns] [(0,5,(.t 35))]),
 It 37 (.call 9 [(.t 34),(.t 36)]),
 Mv 32 37,
 Ex 38 32 0,
 Ex 39 32 1,
 It 9 (.alloc [i0,i0,(.s []),.ns,.ns]),
 ⟨none,(.store 5 (.t 9) (.t 38)),none,[]⟩,
 Mv 10 39] [33,34,35,36,37,32,38,39])
 (.seq (.region [It 41 (.build [i0,i0,.ns,(.s []),.ns] [(0,1,(.c (.i .i64 (46))))]),
 It 42 (.load (some 5) (.t 2)),
 Mv 43 1,
 It 11 (.alloc [i0,i0,(.s []),.ns,.ns]),
 ⟨(some 44),(.call 11 [(.t 43)]),none,[(42,(.load (some 5) (.t 2)),none)]⟩,
 It 45 (.bsl 5 2 [i0,i0,(.s []),.ns,.ns,i0,i0,(.s []),.ns,.ns] [(0,5,(.t 42)),(5,5,(.t 44))]),
 It 46 (.call 9 [(.t 41),(.t 45)]),
 Mv 40 46,
 Ex 47 40 0,
 Ex 48 40 1,
 ⟨none,(.store 5 (.t 11) (.t 47)),none,[]⟩,
 Mv 12 48] [1,2,41,42,43,44,45,46,40,47,48])
 (.seq (.region [Mv 49 6,
 Mv 50 8,
 It 51 (.eqB false (.t 49) (.t 50)),
 Mv 52 51,
 Ig 53 52 true (.load (some 5) (.t 5)),
 Ig 54 52 true (.load (some 5) (.t 7)),
 Ig 55 52 true (.call 10 [(.t 53),(.t 54)]),
 It 56 (.pick (.t 52) (.t 55) (.c (.b false))),
 Mv 57 56,
 Ig 58 57 true (.mov (.t 10)),
 Ig 59 57 true (.mov (.t 12)),
 Ig 60 57 true (.eqB false (.t 58) (.t 59)),
 It 61 (.pick (.t 57) (.t 60) (.c (.b false))),
 Mv 62 61,
 Ig 63 62 true (.load (some 5) (.t 9)),
 Ig 64 62 true (.load (some 5) (.t 11)),
 Ig 65 62 true (.call 10 [(.t 63),(.t 64)]),
 It 66 (.pick (.t 62) (.t 65) (.c (.b false))),
 Mv 4 66] [5,6,7,8,9,10,11,12,49,50,51,52,53,54,55,56,57,58,59,60,61,62,63,64,65,66])
 .ret))))))),
    67,2,[.t 4],0⟩
theorem tr4:trFunc Tryz.prog (hz [(5,[0,1,2,9,3,4,5,6,7,8,10,11]),(7,[0,1,2,9,3,4,5,6,7,8,10,11])] I4.body) 0 Tryz.f4=some (plain1 I4):=by kernel_rfl
theorem ck4:ckC 2 I4.body=true:=by kernel_rfl
def I5:IFunc :=
  ⟨(.seq (.region [It 3 (.box (.t 0)),
 It 6 (.mov (.c (.b false)))] [0,6])
 (.seq (.seq (.region [It 14 (.call 6 []),
 It 15 (.un .not (.t 14))] [14])
 (.cond (.t 15)
 (.seq (.region [It 6 (.mov (.c (.b false)))] [1,2,3,15])
 .ret)
 (.region [] [15])))
 (.seq (.region [It 16 (.load (some 16) (.t 3)),
 It 17 (.call 12 [(.t 16)]),
 It 7 (.alloc [i0,i0,i0,i0,.ns,.ns,i0,i0,i0,i0,i0,i0,(.s []),.ns,.ns,i0]),
 ⟨none,(.store 16 (.t 7) (.t 17)),none,[]⟩] [16,17])
 (.seq (.region [It 19 (.load (some 16) (.t 7)),
 Mv 20 1,
 It 21 (.call 13 [(.t 19),(.t 20)]),
 Mv 18 21,
 Ex 22 18 0,
 Ex 23 18 1,
 Ex 24 18 2,
 Mv 8 22,
 Mv 9 23,
 Mv 10 24] [19,20,21,18,22,23,24])
 (.seq (.region [It 25 (.load (some 16) (.t 7)),
 Mv 26 2,
 It 27 (.call 13 [(.t 25),(.t 26)])] [2,25,26,27])
 (.seq (.region [It 29 (.load (some 16) (.t 7)),
 Mv 30 1,
 It 31 (.call 13 [(.t 29),(.t 30)]),
 Mv 28 31,
 Ex 32 28 0,
 Ex 33 28 1,
 Ex 34 28 2,
 Mv 11 32,
 Mv 12 33,
 Mv 13 34] [1,7,29,30,31,28,32,33,34])
 (.seq (.seq (.region [Mv 35 10,
 It 36 (.un .not (.t 35))] [10,35])
 (.cond (.t 36)
 (.seq (.region [Mv 37 13,
 It 38 (.un .not (.t 37)),
 Mv 39 38,
 Ig 40 39 true (.mov (.t 8)),
 Ig 41 39 true (.lenk 0 (.t 40)),
 Ig 42 39 true (.mov (.t 11)),
 Ig 43 39 true (.lenk 0 (.t 42)),
 Ig 44 39 true (.bin .add (.t 41) (.t 43)),
 Ig 45 39 true (.bin .eql (.t 44) (.c i0)),
 It 46 (.pick (.t 39) (.t 45) (.c (.b false))),
 Mv 47 46,
 Ig 48 47 true (.mov (.t 9)),
 Ig 49 47 true (.bin .eql (.t 48) (.c i0)),
 It 50 (.pick (.t 47) (.t 49) (.c (.b false))),
 Mv 51 50,
 Ig 52 51 true (.mov (.t 12)),
 Ig 53 51 true (.bin .eql (.t 52) (.c i0)),
 It 54 (.pick (.t 51) (.t 53) (.c (.b false))),
 Mv 6 54] [3,8,9,11,12,13,36,37,38,39,40,41,42,43,44,45,46,47,48,49,50,51,52,53,54])
 .ret)
 (.region [] [36])))
 (.seq (.region [Mv 55 13,
 Mv 56 55,
 Ig 57 56 true (.mov (.t 9)),
 Ig 58 56 true (.mov (.t 12)),
 Ig 59 56 true (.bin .eql (.t 57) (.t 58)),
 It 60 (.pick (.t 56) (.t 59) (.c (.b false))),
 Mv 61 60,
 Ig 62 61 true (.mov (.t 8)),
 Ig 63 61 true (.mov (.t 11)),
 Ig 64 61 true (.call 14 [(.t 62),(.t 63)]),
 It 65 (.pick (.t 61) (.t 64) (.c (.b false))),
 Mv 66 65,
 Ig 67 66 true (.mov (.t 8)),
 Ig 68 66 true (.lenk 0 (.t 67)),
 Ig 69 66 true (.off (.t 3) 5),
 Ig 70 66 true (.load none (.t 69)),
 Ig 71 66 true (.lenk 0 (.t 70)),
 Ig 72 66 true (.bin .eql (.t 68) (.t 71)),
 It 73 (.pick (.t 66) (.t 72) (.c (.b false))),
 Mv 6 73] [3,8,9,11,12,13,55,56,57,58,59,60,61,62,63,64,65,66,67,68,69,70,71,72,73])
 .ret)))))))),
    74,3,[.t 6],0⟩
theorem tr5:trFunc Tryz.prog (hz [] I5.body) 0 Tryz.f5=some (plain1 I5):=by kernel_rfl
theorem ck5:ckC 2 I5.body=true:=by kernel_rfl
def I6:IFunc :=
  ⟨(.seq (.region [It 0 (.mov (.c (.b false)))] [0])
 (.seq (.region [It 12 (.call 16 []),
 It 13 (.call 15 [(.t 12),(.c i0),(.c i0),(.c (.b false))]),
 Mv 11 13,
 Ex 14 11 0,
 Ex 15 11 1,
 It 1 (.alloc [i0,i0,i0,i0,.ns,.ns,i0,i0,i0,i0,i0,i0,(.s []),.ns,.ns,i0]),
 ⟨none,(.store 16 (.t 1) (.t 14)),none,[]⟩,
 Mv 2 15] [12,13,11,14,15])
 (.seq (.region [It 16 (.call 17 [(.c i0)]),
 It 17 (.call 11 [(.c (.i .i64 (1)))]),
 It 18 (.call 18 [(.t 17)]),
 It 19 (.bsl 7 2 [i0,i0,i0,i0,(.s []),.ns,.ns,i0,i0,i0,i0,(.s []),.ns,.ns] [(0,7,(.t 16)),(7,7,(.t 18))]),
 It 20 (.build [i0,i0,.ns,(.s []),.ns] [(0,1,(.c (.i .i64 (9)))),(2,1,(.t 19))]),
 It 21 (.bsl 5 1 [i0,i0,.ns,(.s []),.ns] [(0,5,(.t 20))]),
 It 22 (.call 19 [(.c i0)]),
 It 23 (.call 19 [(.c i0)]),
 It 24 (.bsl 7 2 [i0,i0,i0,i0,(.s []),.ns,.ns,i0,i0,i0,i0,(.s []),.ns,.ns] [(0,7,(.t 22)),(7,7,(.t 23))]),
 It 25 (.build [i0,i0,i0,i0,.ns,.ns,i0,i0,i0,i0,i0,i0,(.s []),.ns,.ns,i0] [(2,1,(.c (.i .i64 (5)))),(3,1,(.c (.i .i64 (1)))),(4,1,(.t 21)),(5,1,(.t 24)),(6,1,(.c (.i .i64 (3)))),(7,1,(.c (.i .i64 (5))))]),
 It 3 (.alloc [i0,i0,i0,i0,.ns,.ns,i0,i0,i0,i0,i0,i0,(.s []),.ns,.ns,i0]),
 ⟨none,(.store 16 (.t 3) (.t 25)),none,[]⟩] [16,17,18,19,20,21,22,23,24,25])
 (.seq (.region [It 27 (.load (some 16) (.t 1)),
 It 28 (.build [i0,i0,(.s []),.ns,.ns] [(0,1,(.c (.i .i64 (3)))),(2,1,(.c (.s [97])))]),
 It 29 (.bsl 5 1 [i0,i0,(.s []),.ns,.ns] [(0,5,(.t 28))]),
 It 30 (.call 13 [(.t 27),(.t 29)]),
 Mv 26 30,
 Ex 31 26 0,
 Ex 32 26 1,
 Ex 33 26 2,
 Mv 4 31,
 Mv 5 32,
 Mv 6 33] [27,28,29,30,26,31,32,33,4,5])
 (.seq (.seq (.region [Mv 34 2,
 It 35 (.bin .neq (.t 34) (.c i0)),
 Mv 36 35,
 Ig 37 36 false (.load (some 16) (.t 1)),
 Ig 39 36 false (.load (some 16) (.t 3)),
 ⟨(some 38),(.call 21 [(.t 37)]),(some (36,false)),[(39,(.load (some 16) (.t 3)),(some (36,false)))]⟩,
 Ig 40 36 false (.call 20 [(.t 38),(.t 39)]),
 Ig 41 36 false (.un .not (.t 40)),
 It 42 (.pick (.t 36) (.c (.b true)) (.t 41)),
 Mv 43 42,
 Ig 44 43 false (.load (some 16) (.t 1)),
 ⟨(some 45),(.call 11 [(.c (.i .i64 (4)))]),(some (43,false)),[(44,(.load (some 16) (.t 1)),(some (43,false)))]⟩,
 Ig 46 43 false (.bsl 5 1 [i0,i0,(.s []),.ns,.ns] [(0,5,(.t 45))]),
 ⟨(some 47),(.call 11 [(.c (.i .i64 (5)))]),(some (43,false)),[(44,(.load (some 16) (.t 1)),(some (43,false)))]⟩,
 ⟨(some 48),(.call 11 [(.c (.i .i64 (5)))]),(some (43,false)),[(44,(.load (some 16) (.t 1)),(some (43,false)))]⟩,
 Ig 49 43 false (.bsl 5 2 [i0,i0,(.s []),.ns,.ns,i0,i0,(.s []),.ns,.ns] [(0,5,(.t 47)),(5,5,(.t 48))]),
 Ig 50 43 false (.call 22 [(.t 44),(.t 46),(.c (.i .i64 (5))),(.t 49)]),
 Ig 51 43 false (.un .not (.t 50)),
 It 52 (.pick (.t 43) (.c (.b true)) (.t 51)),
 Mv 53 52,
 Ig 54 53 false (.mov (.t 6)),
 It 55 (.pick (.t 53) (.c (.b true)) (.t 54)),
 Mv 56 55,
 Ig 57 56 false (.load (some 16) (.t 1)),
 Ig 58 56 false (.call 23 [(.t 57)]),
 Ig 59 56 false (.bin .neq (.t 58) (.c i0)),
 It 60 (.pick (.t 56) (.c (.b true)) (.t 59))] [1,2,3,6,34,35,36,37,39,38,40,41,42,43,44,45,46,47,48,49,50,51,52,53,54,55,56,57,58,59])
 (.cond (.t 60)
 (.seq (.region [It 0 (.mov (.c (.b false)))] [60])
 .ret)
 (.region [] [60])))
 (.seq (.region [It 62 (.call 25 [(.c (.i .i64 (1))),(.c i0)]),
 It 63 (.call 25 [(.c (.i .i64 (1))),(.c (.i .i64 (1)))]),
 It 64 (.call 25 [(.c (.i .i64 (16))),(.c i0)]),
 It 65 (.call 25 [(.c (.i .i64 (25))),(.c (.i .i64 (5)))]),
 It 66 (.call 25 [(.c (.i .i64 (24))),(.c i0)]),
 It 67 (.call 25 [(.c (.i .i64 (1))),(.c i0)]),
 It 68 (.call 25 [(.c (.i .i64 (30))),(.c i0)]),
 It 69 (.bsl 3 7 [i0,i0,i0,i0,i0,i0,i0,i0,i0,i0,i0,i0,i0,i0,i0,i0,i0,i0,i0,i0,i0] [(0,3,(.t 62)),(3,3,(.t 63)),(6,3,(.t 64)),(9,3,(.t 65)),(12,3,(.t 66)),(15,3,(.t 67)),(18,3,(.t 68))]),
 It 70 (.call 24 [(.t 69)]),
 It 71 (.call 15 [(.t 70),(.c i0),(.c i0),(.c (.b false))]),
 Mv 61 71,
 Ex 72 61 0,
 Ex 73 61 1,
 It 7 (.alloc [i0,i0,i0,i0,.ns,.ns,i0,i0,i0,i0,i0,i0,(.s []),.ns,.ns,i0]),
 ⟨none,(.store 16 (.t 7) (.t 72)),none,[]⟩,
 Mv 8 73] [62,63,64,65,66,67,68,69,70,71,61,72,73])
 (.seq (.region [It 75 (.build [i0,i0,.ns,(.s []),.ns] [(0,1,(.c (.i .i64 (48)))),(1,1,(.c (.i .i64 (3))))]),
 It 76 (.call 11 [(.c (.i .i64 (4)))]),
 It 77 (.bsl 5 1 [i0,i0,(.s []),.ns,.ns] [(0,5,(.t 76))]),
 It 78 (.call 9 [(.t 75),(.t 77)]),
 Mv 74 78,
 Ex 79 74 0,
 Ex 80 74 1,
 It 9 (.alloc [i0,i0,(.s []),.ns,.ns]),
 ⟨none,(.store 5 (.t 9) (.t 79)),none,[]⟩,
 Mv 10 80] [75,76,77,78,74,79,80])
 (.seq (.region [Mv 81 8,
 It 82 (.bin .eql (.t 81) (.c i0)),
 Mv 83 82,
 Ig 84 83 true (.load (some 16) (.t 7)),
 ⟨(some 85),(.call 11 [(.c (.i .i64 (7)))]),(some (83,true)),[(84,(.load (some 16) (.t 7)),(some (83,true)))]⟩,
 Ig 86 83 true (.bsl 5 1 [i0,i0,(.s []),.ns,.ns] [(0,5,(.t 85))]),
 ⟨(some 87),(.call 11 [(.c (.i .i64 (7)))]),(some (83,true)),[(84,(.load (some 16) (.t 7)),(some (83,true)))]⟩,
 Ig 88 83 true (.bsl 5 1 [i0,i0,(.s []),.ns,.ns] [(0,5,(.t 87))]),
 Ig 89 83 true (.call 22 [(.t 84),(.t 86),(.c (.i .i64 (4))),(.t 88)]),
 It 90 (.pick (.t 83) (.t 89) (.c (.b false))),
 Mv 91 90,
 Ig 92 91 true (.off (.t 7) 6),
 Ig 93 91 true (.load none (.t 92)),
 Ig 94 91 true (.bin .eql (.t 93) (.c (.i .i64 (2)))),
 It 95 (.pick (.t 91) (.t 94) (.c (.b false))),
 Mv 96 95,
 Ig 97 96 true (.off (.t 7) 7),
 Ig 98 96 true (.load none (.t 97)),
 Ig 99 96 true (.bin .eql (.t 98) (.c (.i .i64 (5)))),
 It 100 (.pick (.t 96) (.t 99) (.c (.b false))),
 Mv 101 100,
 Ig 102 101 true (.mov (.t 10)),
 It 103 (.pick (.t 101) (.t 102) (.c (.b false))),
 Mv 104 103,
 Ig 105 104 true (.load (some 5) (.t 9)),
 ⟨(some 106),(.call 11 [(.c (.i .i64 (7)))]),(some (104,true)),[(105,(.load (some 5) (.t 9)),(some (104,true)))]⟩,
 Ig 107 104 true (.call 10 [(.t 105),(.t 106)]),
 It 108 (.pick (.t 104) (.t 107) (.c (.b false))),
 Mv 109 108,
 Ig 110 109 true (.call 25 [(.c (.i .i64 (2))),(.c i0)]),
 Ig 111 109 true (.call 25 [(.c (.i .i64 (30))),(.c i0)]),
 Ig 112 109 true (.bsl 3 2 [i0,i0,i0,i0,i0,i0] [(0,3,(.t 110)),(3,3,(.t 111))]),
 Ig 113 109 true (.call 24 [(.t 112)]),
 Ig 114 109 true (.call 26 [(.t 113),(.c i0)]),
 It 115 (.pick (.t 109) (.t 114) (.c (.b false))),
 Mv 0 115] [7,8,9,10,81,82,83,84,85,86,87,88,89,90,91,92,93,94,95,96,97,98,99,100,101,102,103,104,105,106,107,108,109,110,111,112,113,114,115])
 .ret)))))))),
    116,0,[.t 0],2⟩
theorem tr6:trFunc Tryz.prog (hz [(4,[0,1,2,3,5,4,6,7,8,9,10,11,12,13,14,15,16,17,18,19,20,21,22,23,24,25,26]),(9,[0,1,2,3,4,5,6,7,8,9,10,11,12,13,14,15,16,17,18,19,20,21,22,23,24,25,26,27,28,29,30,31,32,33,34,35])] I6.body) 1 Tryz.f6=some (plain1 I6):=by kernel_rfl
theorem ck6:ckC 2 I6.body=true:=by kernel_rfl
def I7:IFunc :=
  ⟨(.seq (.region [It 4 (.mov (.c i0))] [4])
 (.seq (.seq (.region [Mv 5 1,
 It 6 (.bin .leq (.t 5) (.c i0))] [5])
 (.cond (.t 6)
 (.seq (.region [It 4 (.mov (.c i0))] [0,1,6])
 .ret)
 (.region [] [6])))
 (.seq (.region [Mv 7 0,
 Mv 8 1,
 It 9 (.bin .rem (.t 7) (.t 8)),
 Mv 0 9] [7,8,9])
 (.seq (.seq (.region [Mv 10 0,
 It 11 (.bin .lss (.t 10) (.c i0))] [10])
 (.cond (.t 11)
 (.region [Mv 12 0,
 Mv 13 1,
 It 14 (.bin .add (.t 12) (.t 13)),
 Mv 0 14] [1,11,12,13,14])
 (.region [] [1,11])))
 (.seq (.region [Mv 15 0,
 Mv 4 15] [0,15])
 .ret))))),
    16,2,[.t 4],2⟩
theorem tr7:trFunc Tryz.prog (hz [] I7.body) 1 Tryz.f7=some (plain1 I7):=by kernel_rfl
theorem ck7:ckC 2 I7.body=true:=by kernel_rfl
def I8:IFunc :=
  ⟨(.seq (.region [It 1 (.box (.t 0)),
 It 2 (.mov (.c i0))] [0,2])
 (.seq (.seq (.region [It 6 (.load (some 5) (.t 1)),
 It 7 (.call 27 [(.t 6),(.c i0),(.c (.i .i64 (256)))]),
 Mv 5 7,
 Ex 8 5 0,
 Ex 9 5 1,
 Mv 3 8,
 Mv 4 9] [1,6,7,5,8,9,3])
 (.seq (.region [Mv 10 4,
 It 11 (.un .not (.t 10))] [4,10])
 (.cond (.t 11)
 (.seq (.region [It 2 (.mov (.c (.i .i64 (2))))] [11])
 .ret)
 (.region [] [11]))))
 (.seq (.region [It 2 (.mov (.c i0))] [])
 .ret))),
    12,1,[.t 2],2⟩
theorem tr8:trFunc Tryz.prog (hz [] I8.body) 1 Tryz.f8=some (plain1 I8):=by kernel_rfl
theorem ck8:ckC 2 I8.body=true:=by kernel_rfl
def I9:IFunc :=
  ⟨(.seq (.region [It 2 (.box (.t 0)),
 It 4 (.alloc [i0,i0,(.s []),.ns,.ns]),
 It 5 (.mov (.c (.b false)))] [0,5])
 (.seq (.region [It 12 (.load (some 5) (.t 2)),
 It 13 (.call 28 [(.t 12)]),
 Mv 11 13,
 Ex 14 11 0,
 Ex 15 11 1,
 Ex 16 11 2,
 Mv 6 14,
 Mv 7 15,
 Mv 8 16] [12,13,11,14,15,16])
 (.seq (.seq (.region [Mv 17 8,
 It 18 (.un .not (.t 17)),
 Mv 19 18,
 Ig 20 19 false (.mov (.t 1)),
 Ig 21 19 false (.lenk 0 (.t 20)),
 Ig 22 19 false (.mov (.t 6)),
 Ig 23 19 false (.bin .lss (.t 21) (.t 22)),
 It 24 (.pick (.t 19) (.c (.b true)) (.t 23)),
 Mv 25 24,
 Ig 26 25 false (.mov (.t 1)),
 Ig 27 25 false (.lenk 0 (.t 26)),
 Ig 28 25 false (.mov (.t 7)),
 Ig 29 25 false (.bin .gtr (.t 27) (.t 28)),
 It 30 (.pick (.t 25) (.c (.b true)) (.t 29)),
 Mv 31 30,
 Ig 32 31 false (.mov (.t 1)),
 Ig 33 31 false (.call 29 [(.t 32),(.f 30)]),
 It 34 (.pick (.t 31) (.c (.b true)) (.t 33))] [7,8,17,18,19,20,21,22,23,24,25,26,27,28,29,30,31,32,33])
 (.cond (.t 34)
 (.seq (.region [It 35 (.build [i0,i0,(.s []),.ns,.ns] []),
 ⟨none,(.store 5 (.t 4) (.t 35)),none,[]⟩,
 It 5 (.mov (.c (.b false)))] [1,2,6,34,35])
 .ret)
 (.region [] [34])))
 (.seq (.seq (.region [It 37 (.load (some 5) (.t 2)),
 Mv 38 1,
 Of 40 2 0,
 Ld 41 40,
 ⟨(some 39),(.call 32 [(.t 37),(.t 38)]),none,[(41,(.load none (.t 40)),none)]⟩,
 It 42 (.look false [1] .nf true (.t 39) (.t 41)),
 Mv 36 42,
 Ex 43 36 0,
 Ex 44 36 1,
 Mv 9 43,
 Mv 10 44] [37,38,40,41,39,42,36,43,44])
 (.block 0
 (.seq (.region [Mv 59 10,
 Mv 58 59] [10,59])
 (.cond (.t 58)
 (.region [Mv 61 9,
 It 62 (.callv (.t 61) []),
 Mv 60 62,
 Ex 63 60 0,
 Ex 64 60 1,
 ⟨none,(.store 5 (.t 4) (.t 63)),none,[]⟩,
 Mv 5 64] [1,2,6,9,58,61,62,60,63,64])
 (.seq (.region [Mv 66 6,
 It 67 (.bin .eql (.t 66) (.c (.i .i64 (2)))),
 Mv 65 67] [6,9,58,66,67])
 (.cond (.t 65)
 (.region [Of 69 2 0,
 Ld 70 69,
 Mv 71 1,
 It 72 (.iaddr 5 (.t 71) (.c i0)),
 It 73 (.load (some 5) (.t 72)),
 Mv 74 1,
 It 75 (.iaddr 5 (.t 74) (.c (.i .i64 (1)))),
 It 76 (.load (some 5) (.t 75)),
 It 77 (.call 34 [(.t 70),(.t 73),(.t 76)]),
 Ex 78 77 0,
 Ex 79 77 1,
 Ex 80 77 2,
 It 81 (.call 33 [(.t 78),(.t 79),(.t 80)]),
 Mv 68 81,
 Ex 82 68 0,
 Ex 83 68 1,
 ⟨none,(.store 5 (.t 4) (.t 82)),none,[]⟩,
 Mv 5 83] [1,2,65,69,70,71,72,73,74,75,76,77,78,79,80,81,68,82,83])
 (.region [Of 46 2 0,
 Ld 47 46,
 Mv 48 1,
 It 49 (.iaddr 5 (.t 48) (.c i0)),
 It 50 (.load (some 5) (.t 49)),
 It 51 (.call 35 [(.t 47),(.t 50)]),
 Ex 52 51 0,
 Ex 53 51 1,
 Ex 54 51 2,
 It 55 (.call 33 [(.t 52),(.t 53),(.t 54)]),
 Mv 45 55,
 Ex 56 45 0,
 Ex 57 45 1,
 ⟨none,(.store 5 (.t 4) (.t 56)),none,[]⟩,
 Mv 5 57] [1,2,65,46,47,48,49,50,51,52,53,54,55,45,56,57])))))))
 (.seq (.seq (.region [Mv 84 5,
 It 85 (.un .not (.t 84))] [5,84])
 (.cond (.t 85)
 (.seq (.region [It 86 (.build [i0,i0,(.s []),.ns,.ns] []),
 ⟨none,(.store 5 (.t 4) (.t 86)),none,[]⟩,
 It 5 (.mov (.c (.b false)))] [85,86])
 .ret)
 (.region [] [85])))
 (.seq (.region [It 87 (.load (some 5) (.t 4)),
 It 88 (.call 36 [(.t 87)]),
 ⟨none,(.store 5 (.t 4) (.t 88)),none,[]⟩,
 It 5 (.mov (.c (.b true)))] [87,88])
 .ret)))))),
    89,2,[.c 4 (some 5),.t 5],2⟩
theorem tr9:trFunc Tryz.prog (hz [(5,[0,1,3,4,2,5,6,7,8,9,10]),(9,[0,1,2,3,4,5,6,7,8,9,10,11,12,13,14,15,16,17]),(10,[0,1,2,3,4,5,6,7,8,9,10,11,12,13,14])] I9.body) 1 Tryz.f9=some (plain1 I9):=by kernel_rfl
theorem ck9:ckC 2 I9.body=true:=by kernel_rfl
def I10:IFunc :=
  ⟨(.seq (.region [It 2 (.box (.t 0)),
 It 3 (.box (.t 1)),
 It 4 (.mov (.c (.b false)))] [0,1,4])
 (.seq (.region [It 5 (.load (some 5) (.t 2)),
 It 6 (.load (some 5) (.t 3)),
 It 7 (.call 37 [(.t 5),(.t 6)]),
 It 8 (.bin .eql (.t 7) (.c i0)),
 Mv 4 8] [2,3,5,6,7,8])
 .ret)),
    9,2,[.t 4],2⟩
theorem tr10:trFunc Tryz.prog (hz [] I10.body) 1 Tryz.f10=some (plain1 I10):=by kernel_rfl
theorem ck10:ckC 2 I10.body=true:=by kernel_rfl
def I11:IFunc :=
  ⟨(.seq (.region [It 2 (.alloc [i0,i0,(.s []),.ns,.ns])] [])
 (.seq (.region [Mv 3 0,
 It 4 (.build [i0,i0,(.s []),.ns,.ns] [(0,1,(.c (.i .i64 (1)))),(1,1,(.t 3))]),
 ⟨none,(.store 5 (.t 2) (.t 4)),none,[]⟩] [0,3,4])
 .ret)),
    5,1,[.c 2 (some 5)],2⟩
theorem tr11:trFunc Tryz.prog (hz [] I11.body) 1 Tryz.f11=some (plain1 I11):=by kernel_rfl
theorem ck11:ckC 2 I11.body=true:=by kernel_rfl
def L12a:ICode :=
  (.seq (.seq (.region [Mv 23 5,
 Of 24 3 4,
 Ld 25 24,
 It 26 (.lenk 0 (.t 25)),
 It 27 (.bin .lss (.t 23) (.t 26))] [23,24,25,26])
 (.cond (.t 27)
 (.region [] [27])
 (.exit 0)))
 (.seq (.block 1
 (.region [Of 30 4 4,
 Ld 31 30,
 Of 32 3 4,
 Ld 33 32,
 Mv 34 5,
 It 35 (.iaddr 5 (.t 33) (.t 34)),
 It 36 (.load (some 5) (.t 35)),
 ⟨(some 37),(.call 39 [(.t 36)]),none,[(31,(.load none (.t 30)),none)]⟩,
 It 38 (.bsl 5 1 [i0,i0,.ns,(.s []),.ns] [(0,5,(.t 37))]),
 It 39 (.app 5 80 (.t 31) (.t 38)),
 Of 40 4 4,
 ⟨none,(.store 1 (.t 40) (.t 39)),none,[]⟩] [30,31,32,33,34,35,36,37,38,39,40]))
 (.region [Mv 28 5,
 It 29 (.bin .add (.t 28) (.c (.i .i64 (1)))),
 Mv 5 29] [28,29])))
def I12:IFunc :=
  ⟨(.seq (.region [It 1 (.box (.t 0)),
 It 2 (.alloc [i0,i0,i0,i0,.ns,.ns,i0,i0,i0,i0,i0,i0,(.s []),.ns,.ns,i0])] [0])
 (.seq (.region [It 6 (.load (some 16) (.t 1)),
 It 7 (.call 38 [(.t 6)]),
 It 3 (.alloc [i0,i0,i0,i0,.ns,.ns,i0,i0,i0,i0,i0,i0,(.s []),.ns,.ns,i0]),
 ⟨none,(.store 16 (.t 3) (.t 7)),none,[]⟩] [1,6,7])
 (.seq (.region [Of 8 3 0,
 Ld 9 8,
 Of 10 3 1,
 Ld 11 10,
 Of 12 3 2,
 Ld 13 12,
 Of 14 3 3,
 Ld 15 14,
 Of 16 3 6,
 Ld 17 16,
 Of 18 3 7,
 Ld 19 18,
 Of 20 3 15,
 Ld 21 20,
 It 22 (.build [i0,i0,i0,i0,.ns,.ns,i0,i0,i0,i0,i0,i0,(.s []),.ns,.ns,i0] [(0,1,(.t 9)),(1,1,(.t 11)),(2,1,(.t 13)),(3,1,(.t 15)),(6,1,(.t 17)),(7,1,(.t 19)),(15,1,(.t 21))]),
 It 4 (.alloc [i0,i0,i0,i0,.ns,.ns,i0,i0,i0,i0,i0,i0,(.s []),.ns,.ns,i0]),
 ⟨none,(.store 16 (.t 4) (.t 22)),none,[]⟩] [8,9,10,11,12,13,14,15,16,17,18,19,20,21,22])
 (.seq (.seq (.region [It 5 (.mov (.c i0))] [])
 (.block 0
 (.loop L12a)))
 (.seq (.region [Of 41 3 5,
 Ld 42 41,
 It 43 (.call 40 [(.t 42)]),
 Of 44 4 5,
 ⟨none,(.store 1 (.t 44) (.t 43)),none,[]⟩] [5,27,41,42,43,44])
 (.seq (.region [Of 45 3 8,
 Of 46 45 0,
 Ld 47 46,
 Of 48 3 8,
 Of 49 48 1,
 Ld 50 49,
 Of 51 3 8,
 Of 52 51 2,
 It 53 (.load (some 5) (.t 52)),
 It 54 (.build [i0,i0,i0,i0,(.s []),.ns,.ns] [(0,1,(.t 47)),(1,1,(.t 50)),(2,5,(.t 53))]),
 Of 55 4 8,
 ⟨none,(.store 7 (.t 55) (.t 54)),none,[]⟩] [3,45,46,47,48,49,50,51,52,53,54,55])
 (.seq (.region [It 56 (.load (some 16) (.t 4)),
 ⟨none,(.store 16 (.t 2) (.t 56)),none,[]⟩] [4,56])
 .ret))))))),
    57,1,[.c 2 (some 16)],2⟩
theorem tr12:trFunc Tryz.prog (hz [(6,[0,1,2,3,4,5,6,7,8,9,10,11])] I12.body) 1 Tryz.f12=some (plain1 I12):=by kernel_rfl
theorem ck12:ckC 2 I12.body=true:=by kernel_rfl
def L13a:ICode :=
  (.seq (.region [It 45 (.bin .lss (.t 44) (.t 43))] [])
 (.seq (.cond (.t 45)
 (.region [] [45])
 (.exit 2))
 (.seq (.block 3
 (.seq (.region [It 46 (.iaddr 7 (.t 42) (.t 44)),
 It 47 (.load (some 7) (.t 46)),
 It 13 (.alloc [i0,i0,i0,i0,(.s []),.ns,.ns]),
 ⟨none,(.store 7 (.t 13) (.t 47)),none,[]⟩] [46,47])
 (.region [Mv 48 11,
 Mv 49 8,
 It 50 (.load (some 7) (.t 13)),
 It 51 (.callv (.t 49) [(.t 50)]),
 It 52 (.bsl 5 1 [i0,i0,(.s []),.ns,.ns] [(0,5,(.t 51))]),
 It 53 (.app 5 80 (.t 48) (.t 52)),
 Mv 11 53] [13,48,49,50,51,52,53])))
 (.region [It 54 (.bin .add (.t 44) (.c (.i .i64 (1)))),
 Mv 44 54] [54]))))
def L13b:ICode :=
  (.seq (.region [It 38 (.bin .lss (.t 37) (.t 36))] [])
 (.seq (.cond (.t 38)
 (.region [] [38])
 (.exit 0))
 (.seq (.block 1
 (.seq (.region [It 39 (.iaddr 5 (.t 35) (.t 37)),
 It 40 (.load (some 5) (.t 39)),
 It 10 (.alloc [i0,i0,.ns,(.s []),.ns]),
 ⟨none,(.store 5 (.t 10) (.t 40)),none,[]⟩] [39,40])
 (.seq (.region [It 11 (.mov (.c .ns))] [])
 (.seq (.seq (.region [Of 41 10 2,
 Ld 42 41,
 It 43 (.lenk 0 (.t 42)),
 It 44 (.mov (.c i0))] [41])
 (.block 2
 (.loop L13a)))
 (.seq (.region [It 56 (.load (some 5) (.t 10)),
 Mv 57 11,
 It 58 (.call 9 [(.t 56),(.t 57)]),
 Mv 55 58,
 Ex 59 55 0,
 Ex 60 55 1,
 It 14 (.alloc [i0,i0,(.s []),.ns,.ns]),
 ⟨none,(.store 5 (.t 14) (.t 59)),none,[]⟩,
 Mv 15 60] [10,11,42,43,44,45,56,57,58,55,59,60])
 (.seq (.seq (.region [Mv 61 15,
 It 62 (.un .not (.t 61))] [15,61])
 (.cond (.t 62)
 (.seq (.region [It 4 (.mov (.c .ns)),
 It 5 (.mov (.c i0)),
 It 6 (.mov (.c (.b false)))] [2,7,8,35,36,37,14,62])
 .ret)
 (.region [] [62])))
 (.region [Ld 63 7,
 It 64 (.load (some 5) (.t 14)),
 It 65 (.lenk 0 (.t 63)),
 It 66 (.bsl 5 1 [i0,i0,(.s []),.ns,.ns] [(0,5,(.c (.ag [i0,i0,(.s []),.ns,.ns])))]),
 It 67 (.app 5 80 (.t 63) (.t 66)),
 It 68 (.iaddr 5 (.t 67) (.t 65)),
 ⟨none,(.store 5 (.t 68) (.t 64)),none,[]⟩,
 ⟨none,(.store 1 (.t 7) (.t 67)),none,[(64,(.load (some 5) (.t 68)),none)]⟩] [14,63,64,65,66,67,68])))))))
 (.region [It 69 (.bin .add (.t 37) (.c (.i .i64 (1)))),
 Mv 37 69] [69]))))
def L13c:ICode :=
  (.seq (.region [It 94 (.bin .lss (.t 93) (.t 92))] [])
 (.seq (.cond (.t 94)
 (.region [] [94])
 (.exit 4))
 (.seq (.block 5
 (.seq (.region [It 95 (.iaddr 7 (.t 91) (.t 93)),
 It 96 (.load (some 7) (.t 95)),
 It 18 (.alloc [i0,i0,i0,i0,(.s []),.ns,.ns]),
 ⟨none,(.store 7 (.t 18) (.t 96)),none,[]⟩] [95,96])
 (.region [Mv 97 4,
 Mv 98 8,
 It 99 (.load (some 7) (.t 18)),
 It 100 (.callv (.t 98) [(.t 99)]),
 It 101 (.call 36 [(.t 100)]),
 It 102 (.bsl 5 1 [i0,i0,(.s []),.ns,.ns] [(0,5,(.t 101))]),
 It 103 (.app 5 80 (.t 97) (.t 102)),
 Mv 4 103] [18,97,98,99,100,101,102,103])))
 (.region [It 104 (.bin .add (.t 93) (.c (.i .i64 (1)))),
 Mv 93 104] [104]))))
def I13:IFunc :=
  ⟨(.seq (.region [It 2 (.box (.t 0)),
 It 3 (.box (.t 1)),
 It 4 (.mov (.c .ns)),
 It 5 (.mov (.c i0)),
 It 6 (.mov (.c (.b false)))] [0,1,5,6])
 (.seq (.seq (.region [It 19 (.load (some 16) (.t 2)),
 It 20 (.call 23 [(.t 19)]),
 It 21 (.bin .neq (.t 20) (.c i0)),
 Mv 22 21,
 Ig 23 22 false (.load none (.t 3)),
 Ig 24 22 false (.lenk 0 (.t 23)),
 Ig 25 22 false (.off (.t 2) 3),
 Ig 26 22 false (.load none (.t 25)),
 Ig 27 22 false (.bin .neq (.t 24) (.t 26)),
 It 28 (.pick (.t 22) (.c (.b true)) (.t 27)),
 Mv 29 28,
 Ig 30 29 false (.load none (.t 3)),
 Ig 31 29 false (.call 29 [(.t 30),(.f 41)]),
 It 32 (.pick (.t 29) (.c (.b true)) (.t 31))] [19,20,21,22,23,24,25,26,27,28,29,30,31])
 (.cond (.t 32)
 (.seq (.region [It 4 (.mov (.c .ns)),
 It 5 (.mov (.c i0)),
 It 6 (.mov (.c (.b false)))] [2,3,32])
 .ret)
 (.region [] [32])))
 (.seq (.region [It 7 (.alloc [.ns])] [])
 (.seq (.region [It 33 (.mkf 42 [] [(.t 3),(.t 7)]),
 Mv 8 33] [3,33])
 (.seq (.seq (.region [Of 34 2 4,
 Ld 35 34,
 It 36 (.lenk 0 (.t 35)),
 It 37 (.mov (.c i0))] [34])
 (.block 0
 (.loop L13b)))
 (.seq (.region [Of 70 2 7,
 Ld 71 70,
 Mv 5 71] [7,35,36,37,38,70,71])
 (.seq (.seq (.region [Of 72 2 6,
 Ld 73 72,
 It 74 (.bin .eql (.t 73) (.c (.i .i64 (2))))] [72,73])
 (.cond (.t 74)
 (.seq (.region [Mv 75 8,
 Of 76 2 8,
 It 77 (.load (some 7) (.t 76)),
 It 78 (.callv (.t 75) [(.t 77)]),
 It 16 (.alloc [i0,i0,(.s []),.ns,.ns]),
 ⟨none,(.store 5 (.t 16) (.t 78)),none,[]⟩] [74,75,76,77,78])
 (.seq (.seq (.region [Of 79 16 0,
 Ld 80 79,
 It 81 (.bin .neq (.t 80) (.c (.i .i64 (2))))] [79,80])
 (.cond (.t 81)
 (.seq (.region [It 4 (.mov (.c .ns)),
 It 5 (.mov (.c i0)),
 It 6 (.mov (.c (.b false)))] [2,8,16,81])
 .ret)
 (.region [] [81])))
 (.seq (.region [Of 82 16 1,
 Ld 83 82,
 It 84 (.bin .eql (.t 83) (.c (.i .i64 (1))))] [16,82,83])
 (.cond (.t 84)
 (.region [Of 85 2 1,
 Ld 86 85,
 Of 87 2 2,
 Ld 88 87,
 It 89 (.bin .add (.t 86) (.t 88)),
 Mv 5 89] [84,85,86,87,88,89])
 (.region [] [84])))))
 (.region [] [74])))
 (.seq (.seq (.region [Of 90 2 5,
 Ld 91 90,
 It 92 (.lenk 0 (.t 91)),
 It 93 (.mov (.c i0))] [2,90])
 (.block 4
 (.loop L13c)))
 (.seq (.region [Mv 105 4,
 Mv 106 5,
 Mv 4 105,
 Mv 5 106,
 It 6 (.mov (.c (.b true)))] [8,91,92,93,94,105,106])
 .ret))))))))),
    107,2,[.t 4,.t 5,.t 6],2⟩
theorem tr13:trFunc Tryz.prog (hz [(21,[0,1,2,3,4,5,6,7])] I13.body) 1 Tryz.f13=some (plain1 I13):=by kernel_rfl
theorem ck13:ckC 2 I13.body=true:=by kernel_rfl
def L14a:ICode :=
  (.seq (.seq (.region [Mv 11 5,
 Mv 12 0,
 It 13 (.lenk 0 (.t 12)),
 It 14 (.bin .lss (.t 11) (.t 13))] [11,12,13])
 (.cond (.t 14)
 (.region [] [14])
 (.exit 0)))
 (.seq (.block 1
 (.seq (.region [Mv 17 0,
 Mv 18 5,
 It 19 (.iaddr 5 (.t 17) (.t 18)),
 It 20 (.load (some 5) (.t 19)),
 Mv 21 1,
 Mv 22 5,
 It 23 (.iaddr 5 (.t 21) (.t 22)),
 It 24 (.load (some 5) (.t 23)),
 It 25 (.call 10 [(.t 20),(.t 24)]),
 It 26 (.un .not (.t 25))] [17,18,19,20,21,22,23,24,25])
 (.cond (.t 26)
 (.seq (.region [It 4 (.mov (.c (.b false)))] [0,1,5,26])
 .ret)
 (.region [] [26]))))
 (.region [Mv 15 5,
 It 16 (.bin .add (.t 15) (.c (.i .i64 (1)))),
 Mv 5 16] [15,16])))
def I14:IFunc :=
  ⟨(.seq (.region [It 4 (.mov (.c (.b false)))] [4])
 (.seq (.seq (.region [Mv 6 0,
 It 7 (.lenk 0 (.t 6)),
 Mv 8 1,
 It 9 (.lenk 0 (.t 8)),
 It 10 (.bin .neq (.t 7) (.t 9))] [6,7,8,9])
 (.cond (.t 10)
 (.seq (.region [It 4 (.mov (.c (.b false)))] [0,1,10])
 .ret)
 (.region [] [10])))
 (.seq (.seq (.region [It 5 (.mov (.c i0))] [])
 (.block 0
 (.loop L14a)))
 (.seq (.region [It 4 (.mov (.c (.b true)))] [0,1,5,14])
 .ret)))),
    27,2,[.t 4],2⟩
theorem tr14:trFunc Tryz.prog (hz [(7,[0,1,2,3,4,5,6,7,8,9])] I14.body) 1 Tryz.f14=some (plain1 I14):=by kernel_rfl
theorem ck14:ckC 2 I14.body=true:=by kernel_rfl
def L15a:ICode :=
  (.seq (.region [It 74 (.bin .lss (.t 73) (.t 72))] [])
 (.seq (.cond (.t 74)
 (.region [] [74])
 (.exit 0))
 (.seq (.block 1
 (.seq (.region [Mv 75 73,
 Mv 17 75] [75])
 (.region [Mv 76 16,
 Mv 77 17,
 It 78 (.build [i0,i0,i0,i0,(.s []),.ns,.ns] [(0,1,(.c (.i .i64 (1)))),(1,1,(.t 77))]),
 It 79 (.bsl 7 1 [i0,i0,i0,i0,(.s []),.ns,.ns] [(0,7,(.t 78))]),
 It 80 (.call 46 [(.t 76),(.t 79)])] [17,76,77,78,79,80])))
 (.region [It 81 (.bin .add (.t 73) (.c (.i .i64 (1)))),
 Mv 73 81] [81]))))
def L15b:ICode :=
  (.seq (.seq (.region [Mv 109 3] [])
 (.cond (.t 109)
 (.region [] [109])
 (.exit 2)))
 (.seq (.block 3
 (.seq (.region [Mv 116 16,
 Of 117 15 3,
 Ld 118 117,
 It 119 (.call 49 [(.t 116),(.t 118)]),
 Mv 115 119,
 Ex 120 115 0,
 Ex 121 115 1,
 It 18 (.alloc [(.s []),i0,i0,.ns]),
 ⟨none,(.store 4 (.t 18) (.t 120)),none,[]⟩,
 Mv 19 121] [116,117,118,119,115,120,121])
 (.seq (.seq (.region [Mv 122 19,
 It 123 (.un .not (.t 122))] [19,122])
 (.cond (.t 123)
 (.exit 2)
 (.region [] [123])))
 (.seq (.region [Mv 124 16,
 It 125 (.load (some 4) (.t 18)),
 It 126 (.call 50 [(.t 124),(.t 125)])] [18,124,125,126])
 (.seq (.region [Mv 127 16,
 It 128 (.nck (.t 127)),
 Of 129 128 2,
 Of 130 129 7,
 Ld 131 130,
 It 132 (.bin .add (.t 131) (.c (.i .i64 (1)))),
 It 133 (.nck (.t 127)),
 Of 134 133 2,
 Of 135 134 7,
 ⟨none,(.store 1 (.t 135) (.t 132)),none,[]⟩] [127,128,129,130,131,132,133,134,135])
 (.seq (.region [Mv 137 10,
 Mv 138 16,
 It 139 (.nck (.t 138)),
 Of 140 139 2,
 Of 141 140 7,
 Ld 142 141,
 It 143 (.call 45 [(.t 137),(.t 142)]),
 Mv 136 143,
 Ex 144 136 0,
 Ex 145 136 1,
 ⟨none,(.store 4 (.t 13) (.t 144)),none,[]⟩,
 Mv 14 145] [137,138,139,140,141,142,143,136,144,145])
 (.seq (.region [Mv 146 14,
 It 147 (.un .not (.t 146)),
 Mv 148 147,
 Ig 149 148 false (.off (.t 13) 2),
 Ig 150 148 false (.load none (.t 149)),
 Ig 151 148 false (.bin .eql (.t 150) (.c (.i .i64 (2)))),
 It 152 (.pick (.t 148) (.c (.b true)) (.t 151))] [14,146,147,148,149,150,151])
 (.cond (.t 152)
 (.exit 2)
 (.region [] [152])))))))))
 (.region [Mv 110 16,
 Of 111 15 3,
 Ld 112 111,
 It 113 (.load (some 4) (.t 13)),
 It 114 (.call 48 [(.t 110),(.t 112),(.t 113)])] [110,111,112,113,114])))
def I15:IFunc :=
  ⟨(.seq (.region [It 4 (.box (.t 0)),
 It 8 (.alloc [i0,i0,i0,i0,.ns,.ns,i0,i0,i0,i0,i0,i0,(.s []),.ns,.ns,i0]),
 It 9 (.mov (.c i0))] [0,9])
 (.seq (.region [It 21 (.load (some 2) (.t 4)),
 Mv 22 1,
 It 23 (.call 43 [(.t 21),(.t 22)]),
 Mv 20 23,
 Ex 24 20 0,
 Ex 25 20 1,
 Mv 10 24,
 Mv 11 25] [21,22,23,20,24,25])
 (.seq (.seq (.region [Mv 26 11,
 It 27 (.bin .neq (.t 26) (.c i0))] [26])
 (.cond (.t 27)
 (.seq (.region [It 28 (.build [i0,i0,i0,i0,.ns,.ns,i0,i0,i0,i0,i0,i0,(.s []),.ns,.ns,i0] []),
 Mv 29 11,
 ⟨none,(.store 16 (.t 8) (.t 28)),none,[]⟩,
 Mv 9 29] [1,2,3,4,10,11,27,28,29])
 .ret)
 (.region [] [11,27])))
 (.seq (.region [It 31 (.load (some 2) (.t 4)),
 Mv 32 1,
 It 33 (.call 44 [(.t 31),(.t 32)]),
 Mv 30 33,
 Ex 34 30 0,
 Ex 35 30 1,
 Mv 12 34,
 Mv 11 35] [31,32,33,30,34,35])
 (.seq (.seq (.region [Mv 36 11,
 It 37 (.bin .neq (.t 36) (.c i0))] [36])
 (.cond (.t 37)
 (.seq (.region [It 38 (.build [i0,i0,i0,i0,.ns,.ns,i0,i0,i0,i0,i0,i0,(.s []),.ns,.ns,i0] []),
 Mv 39 11,
 ⟨none,(.store 16 (.t 8) (.t 38)),none,[]⟩,
 Mv 9 39] [1,2,3,4,10,12,11,37,38,39])
 .ret)
 (.region [] [11,37])))
 (.seq (.region [Mv 41 10,
 Mv 42 2,
 It 43 (.call 45 [(.t 41),(.t 42)]),
 Mv 40 43,
 Ex 44 40 0,
 Ex 45 40 1,
 It 13 (.alloc [i0,i0,i0,i0]),
 ⟨none,(.store 4 (.t 13) (.t 44)),none,[]⟩,
 Mv 14 45] [41,42,43,40,44,45])
 (.seq (.seq (.region [Mv 46 14,
 It 47 (.un .not (.t 46))] [14,46])
 (.cond (.t 47)
 (.seq (.region [It 48 (.build [i0,i0,i0,i0,.ns,.ns,i0,i0,i0,i0,i0,i0,(.s []),.ns,.ns,i0] []),
 ⟨none,(.store 16 (.t 8) (.t 48)),none,[]⟩,
 It 9 (.mov (.c (.i .i64 (9))))] [1,2,3,4,10,12,13,47,48])
 .ret)
 (.region [] [47])))
 (.seq (.region [Of 49 4 0,
 Ld 50 49,
 Mv 51 1,
 It 52 (.iaddr 4 (.t 50) (.t 51)),
 It 53 (.load (some 4) (.t 52)),
 It 15 (.alloc [(.s []),i0,i0,.ns]),
 ⟨none,(.store 4 (.t 15) (.t 53)),none,[]⟩] [49,50,51,52,53])
 (.seq (.region [It 54 (.load (some 2) (.t 4)),
 Mv 55 1,
 Mv 56 2,
 Of 57 15 2,
 Ld 58 57,
 Mv 59 12,
 Mv 60 2,
 It 61 (.iaddr 3 (.t 59) (.t 60)),
 Of 62 61 1,
 Ld 63 62,
 It 64 (.bin .add (.t 58) (.t 63)),
 It 65 (.build [i0,i0,i0,i0,.ns,.ns,i0,i0,i0,i0,i0,i0,(.s []),.ns,.ns,i0] [(0,1,(.t 55)),(1,1,(.t 56)),(3,1,(.t 64))]),
 It 66 (.build [.ns,.ns,i0,i0,i0,i0,.ns,.ns,i0,i0,i0,i0,i0,i0,(.s []),.ns,.ns,i0,.ns,.ns] [(0,2,(.t 54)),(2,16,(.t 65))]),
 It 67 (.box (.t 66)),
 Mv 16 67] [1,2,4,12,54,55,56,57,58,59,60,61,62,63,64,65,66,67])
 (.seq (.seq (.region [Mv 68 16,
 It 69 (.nck (.t 68)),
 Of 70 69 2,
 Of 71 70 3,
 Ld 72 71,
 It 73 (.mov (.c i0))] [68,69,70,71])
 (.block 0
 (.loop L15a)))
 (.seq (.region [Mv 82 16,
 Mv 83 16,
 Mv 84 16,
 It 85 (.nck (.t 84)),
 Of 86 85 19,
 Ld 87 86,
 Of 88 15 2,
 Ld 89 88,
 It 90 (.slq 7 (.t 87) none (some (.t 89)) none),
 Mv 92 16,
 It 93 (.nck (.t 92)),
 Of 94 93 19,
 Ld 95 94,
 Of 96 15 2,
 Ld 97 96,
 It 98 (.slq 7 (.t 95) (some (.t 97)) none none),
 ⟨(some 91),(.call 47 [(.t 90)]),none,[(95,(.load none (.t 94)),none),(97,(.load none (.t 96)),none),(98,(.slq 7 (.t 95) (some (.t 97)) none none),none)]⟩,
 It 99 (.call 47 [(.t 98)]),
 It 100 (.nck (.t 82)),
 Of 101 100 18,
 ⟨none,(.store 1 (.t 101) (.t 91)),none,[]⟩,
 It 102 (.nck (.t 83)),
 Of 103 102 19,
 ⟨none,(.store 1 (.t 103) (.t 99)),none,[]⟩] [72,73,74,82,83,84,85,86,87,88,89,90,92,93,94,95,96,97,98,91,99,100,101,102,103])
 (.seq (.seq (.region [Mv 104 16,
 Of 105 15 3,
 Ld 106 105,
 It 107 (.load (some 4) (.t 13)),
 It 108 (.call 48 [(.t 104),(.t 106),(.t 107)])] [104,105,106,107,108])
 (.block 2
 (.loop L15b)))
 (.seq (.region [Mv 153 16,
 Mv 154 16,
 It 155 (.nck (.t 154)),
 Of 156 155 18,
 Ld 157 156,
 Mv 158 16,
 It 159 (.nck (.t 158)),
 Of 160 159 19,
 Ld 161 160,
 It 162 (.app 7 96 (.t 157) (.t 161)),
 It 163 (.nck (.t 153)),
 Of 164 163 2,
 Of 165 164 5,
 ⟨none,(.store 1 (.t 165) (.t 162)),none,[]⟩] [3,10,13,15,109,18,123,152,153,154,155,156,157,158,159,160,161,162,163,164,165])
 (.seq (.region [Mv 166 16,
 It 167 (.nck (.t 166)),
 Of 168 167 2,
 It 169 (.load (some 16) (.t 168)),
 ⟨none,(.store 16 (.t 8) (.t 169)),none,[]⟩,
 It 9 (.mov (.c i0))] [16,166,167,168,169])
 .ret)))))))))))))),
    170,4,[.c 8 (some 16),.t 9],2⟩
theorem tr15:trFunc Tryz.prog (hz [(14,[0,1,2,3,4,5,6,7,8,9,10,11,12,13,14]),(21,[0,1,2,3,4,5,6,7,8,10,11,12,13,14,15,16,9,17,18,19,20,21,22,23]),(34,[0,1,2,3,4,5,6,7,8,9,10,11,12,13])] I15.body) 1 Tryz.f15=some (plain1 I15):=by kernel_rfl
theorem ck15:ckC 2 I15.body=true:=by kernel_rfl
def I16:IFunc :=
  ⟨(.seq (.region [It 0 (.alloc [.ns,.ns])] [])
 (.seq (.region [It 1 (.call 25 [(.c (.i .i64 (2))),(.c i0)]),
 It 2 (.call 25 [(.c (.i .i64 (1))),(.c i0)]),
 It 3 (.call 25 [(.c (.i .i64 (9))),(.c i0)]),
 It 4 (.call 25 [(.c (.i .i64 (3))),(.c i0)]),
 It 5 (.call 25 [(.c (.i .i64 (2))),(.c i0)]),
 It 6 (.call 25 [(.c (.i .i64 (30))),(.c i0)]),
 It 7 (.bsl 3 6 [i0,i0,i0,i0,i0,i0,i0,i0,i0,i0,i0,i0,i0,i0,i0,i0,i0,i0] [(0,3,(.t 1)),(3,3,(.t 2)),(6,3,(.t 3)),(9,3,(.t 4)),(12,3,(.t 5)),(15,3,(.t 6))]),
 It 8 (.call 24 [(.t 7)]),
 ⟨none,(.store 2 (.t 0) (.t 8)),none,[]⟩] [1,2,3,4,5,6,7,8])
 .ret)),
    9,0,[.c 0 (some 2)],2⟩
theorem tr16:trFunc Tryz.prog (hz [] I16.body) 1 Tryz.f16=some (plain1 I16):=by kernel_rfl
theorem ck16:ckC 2 I16.body=true:=by kernel_rfl
def I17:IFunc :=
  ⟨(.seq (.region [It 2 (.alloc [i0,i0,i0,i0,(.s []),.ns,.ns])] [])
 (.seq (.region [Mv 3 0,
 It 4 (.build [i0,i0,i0,i0,(.s []),.ns,.ns] [(0,1,(.c (.i .i64 (1)))),(1,1,(.t 3))]),
 ⟨none,(.store 7 (.t 2) (.t 4)),none,[]⟩] [0,3,4])
 .ret)),
    5,1,[.c 2 (some 7)],2⟩
theorem tr17:trFunc Tryz.prog (hz [] I17.body) 1 Tryz.f17=some (plain1 I17):=by kernel_rfl
theorem ck17:ckC 2 I17.body=true:=by kernel_rfl
def I18:IFunc :=
  ⟨(.seq (.region [It 1 (.box (.t 0)),
 It 2 (.alloc [i0,i0,i0,i0,(.s []),.ns,.ns])] [0])
 (.seq (.region [It 3 (.load (some 5) (.t 1)),
 It 4 (.build [i0,i0,i0,i0,(.s []),.ns,.ns] [(0,1,(.c (.i .i64 (3)))),(2,5,(.t 3))]),
 ⟨none,(.store 7 (.t 2) (.t 4)),none,[]⟩] [1,3,4])
 .ret)),
    5,1,[.c 2 (some 7)],2⟩
theorem tr18:trFunc Tryz.prog (hz [] I18.body) 1 Tryz.f18=some (plain1 I18):=by kernel_rfl
theorem ck18:ckC 2 I18.body=true:=by kernel_rfl
def I19:IFunc :=
  ⟨(.seq (.region [It 2 (.alloc [i0,i0,i0,i0,(.s []),.ns,.ns])] [])
 (.seq (.region [Mv 3 0,
 It 4 (.build [i0,i0,i0,i0,(.s []),.ns,.ns] [(0,1,(.c (.i .i64 (2)))),(1,1,(.t 3))]),
 ⟨none,(.store 7 (.t 2) (.t 4)),none,[]⟩] [0,3,4])
 .ret)),
    5,1,[.c 2 (some 7)],2⟩
theorem tr19:trFunc Tryz.prog (hz [] I19.body) 1 Tryz.f19=some (plain1 I19):=by kernel_rfl
theorem ck19:ckC 2 I19.body=true:=by kernel_rfl
def L20a:ICode :=
  (.seq (.seq (.region [Mv 62 5,
 Of 63 2 4,
 Ld 64 63,
 It 65 (.lenk 0 (.t 64)),
 It 66 (.bin .lss (.t 62) (.t 65))] [62,63,64,65])
 (.cond (.t 66)
 (.region [] [66])
 (.exit 0)))
 (.seq (.block 1
 (.seq (.region [Of 69 2 4,
 Ld 70 69,
 Mv 71 5,
 It 72 (.iaddr 5 (.t 70) (.t 71)),
 It 73 (.load (some 5) (.t 72)),
 Of 74 3 4,
 Ld 75 74,
 Mv 76 5,
 It 77 (.iaddr 5 (.t 75) (.t 76)),
 It 78 (.load (some 5) (.t 77)),
 It 79 (.call 51 [(.t 73),(.t 78)]),
 It 80 (.un .not (.t 79))] [69,70,71,72,73,74,75,76,77,78,79])
 (.cond (.t 80)
 (.seq (.region [It 4 (.mov (.c (.b false)))] [2,3,5,80])
 .ret)
 (.region [] [80]))))
 (.region [Mv 67 5,
 It 68 (.bin .add (.t 67) (.c (.i .i64 (1)))),
 Mv 5 68] [67,68])))
def I20:IFunc :=
  ⟨(.seq (.region [It 2 (.box (.t 0)),
 It 3 (.box (.t 1)),
 It 4 (.mov (.c (.b false)))] [0,1,4])
 (.seq (.seq (.region [Of 6 2 0,
 Ld 7 6,
 Of 8 3 0,
 Ld 9 8,
 It 10 (.bin .neq (.t 7) (.t 9)),
 Mv 11 10,
 Ig 12 11 false (.off (.t 2) 1),
 Ig 13 11 false (.load none (.t 12)),
 Ig 14 11 false (.off (.t 3) 1),
 Ig 15 11 false (.load none (.t 14)),
 Ig 16 11 false (.bin .neq (.t 13) (.t 15)),
 It 17 (.pick (.t 11) (.c (.b true)) (.t 16)),
 Mv 18 17,
 Ig 19 18 false (.off (.t 2) 2),
 Ig 20 18 false (.load none (.t 19)),
 Ig 21 18 false (.off (.t 3) 2),
 Ig 22 18 false (.load none (.t 21)),
 Ig 23 18 false (.bin .neq (.t 20) (.t 22)),
 It 24 (.pick (.t 18) (.c (.b true)) (.t 23)),
 Mv 25 24,
 Ig 26 25 false (.off (.t 2) 3),
 Ig 27 25 false (.load none (.t 26)),
 Ig 28 25 false (.off (.t 3) 3),
 Ig 29 25 false (.load none (.t 28)),
 Ig 30 25 false (.bin .neq (.t 27) (.t 29)),
 It 31 (.pick (.t 25) (.c (.b true)) (.t 30)),
 Mv 32 31,
 Ig 33 32 false (.off (.t 2) 6),
 Ig 34 32 false (.load none (.t 33)),
 Ig 35 32 false (.off (.t 3) 6),
 Ig 36 32 false (.load none (.t 35)),
 Ig 37 32 false (.bin .neq (.t 34) (.t 36)),
 It 38 (.pick (.t 32) (.c (.b true)) (.t 37)),
 Mv 39 38,
 Ig 40 39 false (.off (.t 2) 7),
 Ig 41 39 false (.load none (.t 40)),
 Ig 42 39 false (.off (.t 3) 7),
 Ig 43 39 false (.load none (.t 42)),
 Ig 44 39 false (.bin .neq (.t 41) (.t 43)),
 It 45 (.pick (.t 39) (.c (.b true)) (.t 44)),
 Mv 46 45,
 Ig 47 46 false (.off (.t 2) 15),
 Ig 48 46 false (.load none (.t 47)),
 Ig 49 46 false (.off (.t 3) 15),
 Ig 50 46 false (.load none (.t 49)),
 Ig 51 46 false (.bin .neq (.t 48) (.t 50)),
 It 52 (.pick (.t 46) (.c (.b true)) (.t 51)),
 Mv 53 52,
 Ig 54 53 false (.off (.t 2) 4),
 Ig 55 53 false (.load none (.t 54)),
 Ig 56 53 false (.lenk 0 (.t 55)),
 Ig 57 53 false (.off (.t 3) 4),
 Ig 58 53 false (.load none (.t 57)),
 Ig 59 53 false (.lenk 0 (.t 58)),
 Ig 60 53 false (.bin .neq (.t 56) (.t 59)),
 It 61 (.pick (.t 53) (.c (.b true)) (.t 60))] [6,7,8,9,10,11,12,13,14,15,16,17,18,19,20,21,22,23,24,25,26,27,28,29,30,31,32,33,34,35,36,37,38,39,40,41,42,43,44,45,46,47,48,49,50,51,52,53,54,55,56,57,58,59,60])
 (.cond (.t 61)
 (.seq (.region [It 4 (.mov (.c (.b false)))] [2,3,61])
 .ret)
 (.region [] [61])))
 (.seq (.seq (.region [It 5 (.mov (.c i0))] [])
 (.block 0
 (.loop L20a)))
 (.seq (.region [Of 81 2 5,
 Ld 82 81,
 Of 83 3 5,
 Ld 84 83,
 It 85 (.call 52 [(.t 82),(.t 84)]),
 Mv 86 85,
 Ig 87 86 true (.off (.t 2) 8),
 Ig 88 86 true (.load (some 7) (.t 87)),
 Ig 89 86 true (.off (.t 3) 8),
 Ig 90 86 true (.load (some 7) (.t 89)),
 Ig 91 86 true (.call 53 [(.t 88),(.t 90)]),
 It 92 (.pick (.t 86) (.t 91) (.c (.b false))),
 Mv 4 92] [2,3,5,66,81,82,83,84,85,86,87,88,89,90,91,92])
 .ret)))),
    93,2,[.t 4],2⟩
theorem tr20:trFunc Tryz.prog (hz [(7,[0,1,2,3,4,5,6,7,8,9,10,11])] I20.body) 1 Tryz.f20=some (plain1 I20):=by kernel_rfl
theorem ck20:ckC 2 I20.body=true:=by kernel_rfl
def L21a:ICode :=
  (.seq (.seq (.region [Mv 20 4,
 Of 21 1 4,
 Ld 22 21,
 It 23 (.lenk 0 (.t 22)),
 It 24 (.bin .lss (.t 20) (.t 23))] [20,21,22,23])
 (.cond (.t 24)
 (.region [] [24])
 (.exit 0)))
 (.seq (.block 1
 (.region [Of 27 3 4,
 Ld 28 27,
 Of 29 1 4,
 Ld 30 29,
 Mv 31 4,
 It 32 (.iaddr 5 (.t 30) (.t 31)),
 Of 33 32 0,
 Ld 34 33,
 Of 35 1 4,
 Ld 36 35,
 Mv 37 4,
 It 38 (.iaddr 5 (.t 36) (.t 37)),
 Of 39 38 1,
 Ld 40 39,
 Of 41 1 4,
 Ld 42 41,
 Mv 43 4,
 It 44 (.iaddr 5 (.t 42) (.t 43)),
 Of 45 44 2,
 Ld 46 45,
 Of 48 1 4,
 Ld 49 48,
 Mv 50 4,
 It 51 (.iaddr 5 (.t 49) (.t 50)),
 Of 52 51 3,
 Ld 53 52,
 Of 54 1 4,
 Ld 55 54,
 Mv 56 4,
 It 57 (.iaddr 5 (.t 55) (.t 56)),
 Of 58 57 4,
 Ld 59 58,
 ⟨(some 47),(.call 54 [(.t 46)]),none,[(28,(.load none (.t 27)),none),(30,(.load none (.t 29)),none),(34,(.load none (.t 33)),none),(36,(.load none (.t 35)),none),(40,(.load none (.t 39)),none),(49,(.load none (.t 48)),none),(53,(.load none (.t 52)),none),(55,(.load none (.t 54)),none),(59,(.load none (.t 58)),none)]⟩,
 It 60 (.build [i0,i0,.ns,(.s []),.ns] [(0,1,(.t 34)),(1,1,(.t 40)),(2,1,(.t 47)),(3,1,(.t 53)),(4,1,(.t 59))]),
 It 61 (.bsl 5 1 [i0,i0,.ns,(.s []),.ns] [(0,5,(.t 60))]),
 It 62 (.app 5 80 (.t 28) (.t 61)),
 Of 63 3 4,
 ⟨none,(.store 1 (.t 63) (.t 62)),none,[]⟩] [27,28,29,30,31,32,33,34,35,36,37,38,39,40,41,42,43,44,45,46,48,49,50,51,52,53,54,55,56,57,58,59,47,60,61,62,63]))
 (.region [Mv 25 4,
 It 26 (.bin .add (.t 25) (.c (.i .i64 (1)))),
 Mv 4 26] [25,26])))
def I21:IFunc :=
  ⟨(.seq (.region [It 1 (.box (.t 0)),
 It 2 (.alloc [i0,i0,i0,i0,.ns,.ns,i0,i0,i0,i0,i0,i0,(.s []),.ns,.ns,i0])] [0])
 (.seq (.region [Of 5 1 0,
 Ld 6 5,
 Of 7 1 1,
 Ld 8 7,
 Of 9 1 2,
 Ld 10 9,
 Of 11 1 3,
 Ld 12 11,
 Of 13 1 6,
 Ld 14 13,
 Of 15 1 7,
 Ld 16 15,
 Of 17 1 15,
 Ld 18 17,
 It 19 (.build [i0,i0,i0,i0,.ns,.ns,i0,i0,i0,i0,i0,i0,(.s []),.ns,.ns,i0] [(0,1,(.t 6)),(1,1,(.t 8)),(2,1,(.t 10)),(3,1,(.t 12)),(6,1,(.t 14)),(7,1,(.t 16)),(15,1,(.t 18))]),
 It 3 (.alloc [i0,i0,i0,i0,.ns,.ns,i0,i0,i0,i0,i0,i0,(.s []),.ns,.ns,i0]),
 ⟨none,(.store 16 (.t 3) (.t 19)),none,[]⟩] [5,6,7,8,9,10,11,12,13,14,15,16,17,18,19])
 (.seq (.seq (.region [It 4 (.mov (.c i0))] [])
 (.block 0
 (.loop L21a)))
 (.seq (.region [Of 64 1 5,
 Ld 65 64,
 It 66 (.call 54 [(.t 65)]),
 Of 67 3 5,
 ⟨none,(.store 1 (.t 67) (.t 66)),none,[]⟩] [4,24,64,65,66,67])
 (.seq (.region [Of 68 1 8,
 Of 69 68 0,
 Ld 70 69,
 Of 71 1 8,
 Of 72 71 1,
 Ld 73 72,
 Of 74 1 8,
 Of 75 74 2,
 It 76 (.load (some 5) (.t 75)),
 It 77 (.build [i0,i0,i0,i0,(.s []),.ns,.ns] [(0,1,(.t 70)),(1,1,(.t 73)),(2,5,(.t 76))]),
 Of 78 3 8,
 ⟨none,(.store 7 (.t 78) (.t 77)),none,[]⟩] [1,68,69,70,71,72,73,74,75,76,77,78])
 (.seq (.region [It 79 (.load (some 16) (.t 3)),
 ⟨none,(.store 16 (.t 2) (.t 79)),none,[]⟩] [3,79])
 .ret)))))),
    80,1,[.c 2 (some 16)],2⟩
theorem tr21:trFunc Tryz.prog (hz [(5,[0,1,2,3,4,5,6,7,8,9,10,11,12,13,14,15,16,17,18,19,21,22,23,24,25,26,27,28,29,30,31,32,20,33,34,35,36,37])] I21.body) 1 Tryz.f21=some (plain1 I21):=by kernel_rfl
theorem ck21:ckC 2 I21.body=true:=by kernel_rfl
def I22:IFunc :=
  ⟨(.seq (.region [It 4 (.box (.t 0)),
 It 8 (.mov (.c (.b false)))] [0,8])
 (.seq (.region [It 13 (.load (some 16) (.t 4)),
 Mv 14 1,
 It 15 (.call 13 [(.t 13),(.t 14)]),
 Mv 12 15,
 Ex 16 12 0,
 Ex 17 12 1,
 Ex 18 12 2,
 Mv 9 16,
 Mv 10 17,
 Mv 11 18] [1,4,13,14,15,12,16,17,18])
 (.seq (.region [Mv 19 11,
 Mv 20 19,
 Ig 21 20 true (.mov (.t 10)),
 Ig 22 20 true (.mov (.t 2)),
 Ig 23 20 true (.bin .eql (.t 21) (.t 22)),
 It 24 (.pick (.t 20) (.t 23) (.c (.b false))),
 Mv 25 24,
 Ig 26 25 true (.mov (.t 9)),
 Ig 27 25 true (.mov (.t 3)),
 Ig 28 25 true (.call 14 [(.t 26),(.t 27)]),
 It 29 (.pick (.t 25) (.t 28) (.c (.b false))),
 Mv 8 29] [2,3,9,10,11,19,20,21,22,23,24,25,26,27,28,29])
 .ret))),
    30,4,[.t 8],2⟩
theorem tr22:trFunc Tryz.prog (hz [] I22.body) 1 Tryz.f22=some (plain1 I22):=by kernel_rfl
theorem ck22:ckC 2 I22.body=true:=by kernel_rfl
def L23a:ICode :=
  (.seq (.region [It 26 (.bin .lss (.t 25) (.t 24))] [])
 (.seq (.cond (.t 26)
 (.region [] [26])
 (.exit 0))
 (.seq (.block 1
 (.seq (.region [It 27 (.iaddr 1 (.t 23) (.t 25)),
 Ld 28 27,
 Mv 4 28] [27,28])
 (.seq (.region [Mv 29 4,
 It 30 (.bin .lss (.t 29) (.c i0))] [4,29])
 (.cond (.t 30)
 (.seq (.region [It 2 (.mov (.c (.i .i64 (2))))] [1,23,24,25,30])
 .ret)
 (.region [] [30])))))
 (.region [It 31 (.bin .add (.t 25) (.c (.i .i64 (1)))),
 Mv 25 31] [31]))))
def L23b:ICode :=
  (.seq (.region [It 69 (.bin .lss (.t 68) (.t 67))] [])
 (.seq (.cond (.t 69)
 (.region [] [69])
 (.exit 2))
 (.seq (.block 3
 (.seq (.region [Mv 70 68,
 It 71 (.iaddr 5 (.t 66) (.t 68)),
 It 72 (.load (some 5) (.t 71)),
 It 6 (.alloc [i0,i0,.ns,(.s []),.ns]),
 Mv 5 70,
 ⟨none,(.store 5 (.t 6) (.t 72)),none,[]⟩] [70,71,72])
 (.seq (.region [It 73 (.load (some 5) (.t 6)),
 Of 74 1 3,
 Ld 75 74,
 Mv 76 5,
 It 77 (.call 55 [(.t 73),(.t 75),(.t 76)]),
 It 78 (.un .not (.t 77))] [6,5,73,74,75,76,77])
 (.cond (.t 78)
 (.seq (.region [It 2 (.mov (.c (.i .i64 (2))))] [1,66,67,68,78])
 .ret)
 (.region [] [78])))))
 (.region [It 79 (.bin .add (.t 68) (.c (.i .i64 (1)))),
 Mv 68 79] [79]))))
def I23:IFunc :=
  ⟨(.seq (.region [It 1 (.box (.t 0)),
 It 2 (.mov (.c i0))] [0,2])
 (.seq (.seq (.region [Of 9 1 0,
 Ld 10 9,
 Of 11 1 1,
 Ld 12 11,
 Of 13 1 2,
 Ld 14 13,
 Of 15 1 3,
 Ld 16 15,
 Of 17 1 15,
 Ld 18 17,
 Of 19 1 6,
 Ld 20 19,
 Of 21 1 7,
 Ld 22 21,
 It 23 (.bsl 1 7 [i0,i0,i0,i0,i0,i0,i0] [(0,1,(.t 10)),(1,1,(.t 12)),(2,1,(.t 14)),(3,1,(.t 16)),(4,1,(.t 18)),(5,1,(.t 20)),(6,1,(.t 22))]),
 It 24 (.lenk 0 (.t 23)),
 It 25 (.mov (.c i0))] [9,10,11,12,13,14,15,16,17,18,19,20,21,22])
 (.block 0
 (.loop L23a)))
 (.seq (.seq (.region [Of 32 1 0,
 Ld 33 32,
 Of 34 1 1,
 Ld 35 34,
 Of 36 1 2,
 Ld 37 36,
 It 38 (.mm true (.t 33) [(.t 35),(.t 37)]),
 It 39 (.bin .gtr (.t 38) (.c (.i .i64 (9007199254740991))))] [23,24,25,26,32,33,34,35,36,37,38])
 (.cond (.t 39)
 (.seq (.region [It 2 (.mov (.c (.i .i64 (2))))] [1,39])
 .ret)
 (.region [] [39])))
 (.seq (.seq (.region [Of 40 1 3,
 Ld 41 40,
 It 42 (.bin .gtr (.t 41) (.c (.i .i64 (64)))),
 Mv 43 42,
 Ig 44 43 false (.off (.t 1) 15),
 Ig 45 43 false (.load none (.t 44)),
 Ig 46 43 false (.bin .gtr (.t 45) (.c (.i .i64 (1)))),
 It 47 (.pick (.t 43) (.c (.b true)) (.t 46)),
 Mv 48 47,
 Ig 49 48 false (.off (.t 1) 6),
 Ig 50 48 false (.load none (.t 49)),
 Ig 51 48 false (.bin .gtr (.t 50) (.c (.i .i64 (3)))),
 It 52 (.pick (.t 48) (.c (.b true)) (.t 51)),
 Mv 53 52,
 Ig 54 53 false (.off (.t 1) 4),
 Ig 55 53 false (.load none (.t 54)),
 Ig 56 53 false (.lenk 0 (.t 55)),
 Ig 57 53 false (.bin .gtr (.t 56) (.c (.i .i64 (4096)))),
 It 58 (.pick (.t 53) (.c (.b true)) (.t 57)),
 Mv 59 58,
 Ig 60 59 false (.off (.t 1) 5),
 Ig 61 59 false (.load none (.t 60)),
 Ig 62 59 false (.lenk 0 (.t 61)),
 Ig 63 59 false (.bin .gtr (.t 62) (.c (.i .i64 (64)))),
 It 64 (.pick (.t 59) (.c (.b true)) (.t 63))] [40,41,42,43,44,45,46,47,48,49,50,51,52,53,54,55,56,57,58,59,60,61,62,63])
 (.cond (.t 64)
 (.seq (.region [It 2 (.mov (.c (.i .i64 (2))))] [1,64])
 .ret)
 (.region [] [64])))
 (.seq (.seq (.region [Of 65 1 4,
 Ld 66 65,
 It 67 (.lenk 0 (.t 66)),
 It 68 (.mov (.c i0))] [65])
 (.block 2
 (.loop L23b)))
 (.seq (.region [Of 80 1 6,
 Ld 81 80,
 It 82 (.bin .eql (.t 81) (.c (.i .i64 (2)))),
 Mv 83 82,
 Ig 84 83 true (.off (.t 1) 8),
 Ig 85 83 true (.load (some 7) (.t 84)),
 Ig 86 83 true (.off (.t 1) 3),
 Ig 87 83 true (.load none (.t 86)),
 Ig 88 83 true (.off (.t 1) 4),
 Ig 89 83 true (.load none (.t 88)),
 Ig 90 83 true (.lenk 0 (.t 89)),
 Ig 91 83 true (.call 56 [(.t 85),(.t 87),(.t 90)]),
 It 92 (.pick (.t 83) (.t 91) (.c (.b false))),
 Mv 7 92] [66,67,68,69,80,81,82,83,84,85,86,87,88,89,90,91,92])
 (.seq (.region [Of 93 1 6,
 Ld 94 93,
 It 95 (.bin .neq (.t 94) (.c (.i .i64 (2)))),
 Mv 96 95,
 Ig 97 96 true (.off (.t 1) 8),
 Ig 98 96 true (.off (.t 97) 0),
 Ig 99 96 true (.load none (.t 98)),
 Ig 100 96 true (.bin .eql (.t 99) (.c i0)),
 It 101 (.pick (.t 96) (.t 100) (.c (.b false))),
 Mv 102 101,
 Ig 103 102 true (.off (.t 1) 8),
 Ig 104 102 true (.off (.t 103) 1),
 Ig 105 102 true (.load none (.t 104)),
 Ig 106 102 true (.bin .eql (.t 105) (.c i0)),
 It 107 (.pick (.t 102) (.t 106) (.c (.b false))),
 Mv 108 107,
 Ig 109 108 true (.off (.t 1) 8),
 Ig 110 108 true (.off (.t 109) 2),
 Ig 111 108 true (.load (some 5) (.t 110)),
 Ig 112 108 true (.call 57 [(.t 111)]),
 It 113 (.pick (.t 108) (.t 112) (.c (.b false))),
 Mv 8 113] [93,94,95,96,97,98,99,100,101,102,103,104,105,106,107,108,109,110,111,112,113])
 (.seq (.seq (.region [Mv 114 7,
 It 115 (.un .not (.t 114)),
 Mv 116 115,
 Ig 117 116 true (.mov (.t 8)),
 Ig 118 116 true (.un .not (.t 117)),
 It 119 (.pick (.t 116) (.t 118) (.c (.b false))),
 Mv 120 119,
 Ig 121 120 false (.off (.t 1) 5),
 Ig 122 120 false (.load none (.t 121)),
 Ig 123 120 false (.off (.t 1) 3),
 Ig 124 120 false (.load none (.t 123)),
 Ig 125 120 false (.off (.t 1) 4),
 Ig 126 120 false (.load none (.t 125)),
 Ig 127 120 false (.lenk 0 (.t 126)),
 Ig 128 120 false (.call 58 [(.t 122),(.t 124),(.t 127)]),
 Ig 129 120 false (.un .not (.t 128)),
 It 130 (.pick (.t 120) (.c (.b true)) (.t 129))] [1,7,8,114,115,116,117,118,119,120,121,122,123,124,125,126,127,128,129])
 (.cond (.t 130)
 (.seq (.region [It 2 (.mov (.c (.i .i64 (2))))] [130])
 .ret)
 (.region [] [130])))
 (.seq (.region [It 2 (.mov (.c i0))] [])
 .ret))))))))),
    131,1,[.t 2],2⟩
theorem tr23:trFunc Tryz.prog (hz [] I23.body) 1 Tryz.f23=some (plain1 I23):=by kernel_rfl
theorem ck23:ckC 2 I23.body=true:=by kernel_rfl
def I24:IFunc :=
  ⟨(.seq (.region [It 2 (.alloc [.ns,.ns])] [])
 (.seq (.region [Mv 3 0,
 It 4 (.build [(.s []),i0,i0,.ns] [(0,1,(.c (.s [109,97,105,110]))),(2,1,(.c (.i .i64 (1)))),(3,1,(.t 3))]),
 It 5 (.bsl 4 1 [(.s []),i0,i0,.ns] [(0,4,(.t 4))]),
 It 6 (.call 11 [(.c (.i .i64 (1)))]),
 It 7 (.call 11 [(.c (.i .i64 (2)))]),
 It 8 (.bsl 5 2 [i0,i0,(.s []),.ns,.ns,i0,i0,(.s []),.ns,.ns] [(0,5,(.t 6)),(5,5,(.t 7))]),
 It 9 (.build [.ns,.ns] [(0,1,(.t 5)),(1,1,(.t 8))]),
 ⟨none,(.store 2 (.t 2) (.t 9)),none,[]⟩] [0,3,4,5,6,7,8,9])
 .ret)),
    10,1,[.c 2 (some 2)],1⟩
theorem tr24:trFunc Tryz.prog (hz [] I24.body) 1 Tryz.f24=some (plain1 I24):=by kernel_rfl
theorem ck24:ckC 2 I24.body=true:=by kernel_rfl
def I25:IFunc :=
  ⟨(.seq (.region [It 4 (.alloc [i0,i0,i0])] [])
 (.seq (.region [Mv 5 0,
 Mv 6 1,
 It 7 (.build [i0,i0,i0] [(0,1,(.t 5)),(1,1,(.t 6))]),
 ⟨none,(.store 3 (.t 4) (.t 7)),none,[]⟩] [0,1,5,6,7])
 .ret)),
    8,2,[.c 4 (some 3)],2⟩
theorem tr25:trFunc Tryz.prog (hz [] I25.body) 1 Tryz.f25=some (plain1 I25):=by kernel_rfl
theorem ck25:ckC 2 I25.body=true:=by kernel_rfl
def I26:IFunc :=
  ⟨(.seq (.region [It 2 (.box (.t 0)),
 It 4 (.mov (.c (.b false)))] [0,4])
 (.seq (.seq (.region [Mv 9 1,
 It 10 (.bin .lss (.t 9) (.c i0)),
 Mv 11 10,
 Ig 12 11 false (.mov (.t 1)),
 Ig 13 11 false (.off (.t 2) 0),
 Ig 14 11 false (.load none (.t 13)),
 Ig 15 11 false (.lenk 0 (.t 14)),
 Ig 16 11 false (.bin .geq (.t 12) (.t 15)),
 It 17 (.pick (.t 11) (.c (.b true)) (.t 16))] [9,10,11,12,13,14,15,16])
 (.cond (.t 17)
 (.seq (.region [It 4 (.mov (.c (.b false)))] [1,2,17])
 .ret)
 (.region [] [17])))
 (.seq (.seq (.region [It 19 (.load (some 2) (.t 2)),
 Mv 20 1,
 It 21 (.call 44 [(.t 19),(.t 20)]),
 Mv 18 21,
 Ex 22 18 0,
 Ex 23 18 1,
 Mv 5 22,
 Mv 6 23] [19,20,21,18,22,23,5])
 (.seq (.region [Mv 24 6,
 It 25 (.bin .neq (.t 24) (.c i0))] [6,24])
 (.cond (.t 25)
 (.seq (.region [It 4 (.mov (.c (.b false)))] [1,2,25])
 .ret)
 (.region [] [25]))))
 (.seq (.region [Of 26 2 0,
 Ld 27 26,
 Mv 28 1,
 It 29 (.iaddr 4 (.t 27) (.t 28)),
 Of 30 29 3,
 Ld 31 30,
 Mv 7 31] [1,2,26,27,28,29,30,31])
 (.seq (.region [Mv 32 7,
 It 33 (.lenk 0 (.t 32)),
 It 34 (.bin .sub (.t 33) (.c (.i .i64 (1)))),
 Mv 8 34] [32,33,34])
 (.seq (.seq (.region [Mv 35 8,
 It 36 (.bin .lss (.t 35) (.c i0)),
 Mv 37 36,
 Ig 38 37 false (.mov (.t 8)),
 Ig 39 37 false (.bin .geq (.t 38) (.c (.i .i64 (12)))),
 It 40 (.pick (.t 37) (.c (.b true)) (.t 39)),
 Mv 41 40,
 Ig 42 41 false (.mov (.t 7)),
 Ig 43 41 false (.mov (.t 8)),
 Ig 44 41 false (.iaddr 3 (.t 42) (.t 43)),
 Ig 45 41 false (.off (.t 44) 0),
 Ig 46 41 false (.load none (.t 45)),
 Ig 47 41 false (.bin .neq (.t 46) (.c (.i .i64 (30)))),
 It 48 (.pick (.t 41) (.c (.b true)) (.t 47))] [35,36,37,38,39,40,41,42,43,44,45,46,47])
 (.cond (.t 48)
 (.seq (.region [It 4 (.mov (.c (.b false)))] [7,8,48])
 .ret)
 (.region [] [48])))
 (.seq (.region [Mv 49 7,
 Mv 50 8,
 It 51 (.sl 3 (.t 49) none (some (.t 50)) none),
 It 52 (.call 59 [(.t 51),(.f 60)]),
 It 53 (.un .not (.t 52)),
 Mv 4 53] [7,8,49,50,51,52,53])
 .ret))))))),
    54,2,[.t 4],2⟩
theorem tr26:trFunc Tryz.prog (hz [] I26.body) 1 Tryz.f26=some (plain1 I26):=by kernel_rfl
theorem ck26:ckC 2 I26.body=true:=by kernel_rfl
def L27a:ICode :=
  (.seq (.region [It 22 (.bin .lss (.t 21) (.t 20))] [])
 (.seq (.cond (.t 22)
 (.region [] [22])
 (.exit 0))
 (.seq (.block 1
 (.seq (.region [It 23 (.iaddr 1 (.t 19) (.t 21)),
 Ld 24 23,
 Mv 9 24] [23,24])
 (.region [Mv 25 2,
 Mv 26 9,
 It 27 (.lenk 1 (.t 26)),
 It 28 (.bin .sub (.t 25) (.t 27)),
 Mv 2 28] [9,25,26,27,28])))
 (.region [It 29 (.bin .add (.t 21) (.c (.i .i64 (1)))),
 Mv 21 29] [29]))))
def L27b:ICode :=
  (.seq (.region [It 45 (.bin .lss (.t 44) (.t 43))] [])
 (.seq (.cond (.t 45)
 (.region [] [45])
 (.exit 2))
 (.seq (.block 3
 (.seq (.region [Mv 46 44,
 Mv 11 46] [46])
 (.seq (.region [Of 48 3 3,
 Ld 49 48,
 Mv 50 11,
 It 51 (.iaddr 5 (.t 49) (.t 50)),
 It 52 (.load (some 5) (.t 51)),
 Mv 53 1,
 It 54 (.bin .add (.t 53) (.c (.i .i64 (1)))),
 Mv 55 2,
 It 56 (.call 27 [(.t 52),(.t 54),(.t 55)]),
 Mv 47 56,
 Ex 57 47 0,
 Ex 58 47 1,
 Mv 2 57,
 Mv 10 58] [11,48,49,50,51,52,53,54,55,56,47,57,58])
 (.seq (.region [Mv 59 10,
 It 60 (.un .not (.t 59))] [10,59])
 (.cond (.t 60)
 (.seq (.region [It 6 (.mov (.c i0)),
 It 7 (.mov (.c (.b false)))] [1,2,3,43,44,60])
 .ret)
 (.region [] [60]))))))
 (.region [It 61 (.bin .add (.t 44) (.c (.i .i64 (1)))),
 Mv 44 61] [61]))))
def I27:IFunc :=
  ⟨(.seq (.region [It 3 (.box (.t 0)),
 It 6 (.mov (.c i0)),
 It 7 (.mov (.c (.b false)))] [0,6,7])
 (.seq (.region [Mv 12 2,
 Of 13 3 2,
 Ld 14 13,
 It 15 (.lenk 1 (.t 14)),
 It 16 (.bin .add (.c (.i .i64 (1))) (.t 15)),
 It 17 (.bin .sub (.t 12) (.t 16)),
 Mv 2 17] [12,13,14,15,16,17])
 (.seq (.seq (.region [Of 18 3 4,
 Ld 19 18,
 It 20 (.lenk 0 (.t 19)),
 It 21 (.mov (.c i0))] [18])
 (.block 0
 (.loop L27a)))
 (.seq (.seq (.region [Mv 30 1,
 It 31 (.bin .geq (.t 30) (.c (.i .i64 (8)))),
 Mv 32 31,
 Ig 33 32 false (.mov (.t 2)),
 Ig 34 32 false (.bin .lss (.t 33) (.c i0)),
 It 35 (.pick (.t 32) (.c (.b true)) (.t 34)),
 Mv 36 35,
 Ig 37 36 false (.load (some 5) (.t 3)),
 Ig 38 36 false (.call 62 [(.t 37)]),
 Ig 39 36 false (.un .not (.t 38)),
 It 40 (.pick (.t 36) (.c (.b true)) (.t 39))] [19,20,21,22,30,31,32,33,34,35,36,37,38,39])
 (.cond (.t 40)
 (.seq (.region [It 6 (.mov (.c i0)),
 It 7 (.mov (.c (.b false)))] [1,2,3,40])
 .ret)
 (.region [] [40])))
 (.seq (.region [It 10 (.mov (.c (.b true)))] [10])
 (.seq (.seq (.region [Of 41 3 3,
 Ld 42 41,
 It 43 (.lenk 0 (.t 42)),
 It 44 (.mov (.c i0))] [41,42])
 (.block 2
 (.loop L27b)))
 (.seq (.region [Mv 62 2,
 Mv 6 62,
 It 7 (.mov (.c (.b true)))] [1,2,3,43,44,45,62])
 .ret))))))),
    63,3,[.t 6,.t 7],2⟩
theorem tr27:trFunc Tryz.prog (hz [] I27.body) 1 Tryz.f27=some (plain1 I27):=by kernel_rfl
theorem ck27:ckC 2 I27.body=true:=by kernel_rfl
def I28:IFunc :=
  ⟨(.seq (.region [It 1 (.box (.t 0)),
 It 2 (.mov (.c i0)),
 It 3 (.mov (.c i0)),
 It 4 (.mov (.c (.b false)))] [0,2,3,4])
 (.seq (.region [Of 6 1 1,
 Ld 7 6,
 Of 8 1 3,
 Ld 9 8,
 Of 10 1 4,
 Ld 11 10,
 It 12 (.lenk 0 (.t 11)),
 It 13 (.bin .gtr (.t 12) (.c i0)),
 It 14 (.build [i0,(.s []),(.b false)] [(0,1,(.t 7)),(1,1,(.t 9)),(2,1,(.t 13))]),
 It 5 (.alloc [i0,(.s []),(.b false)]),
 ⟨none,(.store 3 (.t 5) (.t 14)),none,[]⟩] [6,7,8,9,10,11,12,13,14])
 (.seq (.block 0
 (.seq (.region [Of 16 1 0,
 Ld 17 16,
 It 18 (.bin .eql (.t 17) (.c (.i .i64 (20)))),
 Mv 15 18] [16,17,18])
 (.cond (.t 15)
 (.seq (.region [It 19 (.load (some 3) (.t 5)),
 It 20 (.load (some 3) (.g 0)),
 It 21 (.eqAg [1,2,0] false (.t 19) (.t 20)),
 It 2 (.mov (.c i0)),
 It 3 (.mov (.c (.i .i64 (8)))),
 Mv 4 21] [1,5,15,19,20,21])
 .ret)
 (.seq (.region [Of 23 1 0,
 Ld 24 23,
 It 25 (.bin .eql (.t 24) (.c (.i .i64 (21)))),
 Mv 22 25] [15,23,24,25])
 (.cond (.t 22)
 (.seq (.region [Of 26 1 4,
 Ld 27 26,
 It 28 (.lenk 0 (.t 27)),
 Of 29 1 4,
 Ld 30 29,
 It 31 (.lenk 0 (.t 30)),
 Of 32 1 1,
 Ld 33 32,
 It 34 (.bin .eql (.t 33) (.c i0)),
 Mv 35 34,
 Ig 36 35 true (.off (.t 1) 3),
 Ig 37 35 true (.load none (.t 36)),
 Ig 38 35 true (.bin .eql (.t 37) (.c (.s []))),
 It 39 (.pick (.t 35) (.t 38) (.c (.b false))),
 Mv 40 39,
 Ig 41 40 true (.off (.t 1) 4),
 Ig 42 40 true (.load none (.t 41)),
 ⟨(some 43),(.call 63 [(.t 42)]),(some (40,true)),[(27,(.load none (.t 26)),none),(28,(.lenk 0 (.t 27)),none),(30,(.load none (.t 29)),none),(31,(.lenk 0 (.t 30)),none)]⟩,
 It 44 (.pick (.t 40) (.t 43) (.c (.b false))),
 Mv 2 28,
 Mv 3 31,
 Mv 4 44] [1,5,22,26,27,28,29,30,31,32,33,34,35,36,37,38,39,40,41,42,43,44])
 .ret)
 (.seq (.region [Of 46 1 0,
 Ld 47 46,
 It 48 (.bin .eql (.t 47) (.c (.i .i64 (22)))),
 Mv 45 48] [22,46,47,48])
 (.cond (.t 45)
 (.seq (.region [It 49 (.load (some 3) (.t 5)),
 Of 50 1 3,
 Ld 51 50,
 It 52 (.build [i0,(.s []),(.b false)] [(1,1,(.t 51))]),
 It 53 (.eqAg [1,2,0] false (.t 49) (.t 52)),
 Mv 54 53,
 Ig 55 54 true (.off (.t 1) 3),
 Ig 56 54 true (.load none (.t 55)),
 Ig 57 54 true (.bsl 1 1 [(.s [])] [(0,1,(.t 56))]),
 Ig 58 54 true (.call 63 [(.t 57)]),
 It 59 (.pick (.t 54) (.t 58) (.c (.b false))),
 It 2 (.mov (.c (.i .i64 (1)))),
 It 3 (.mov (.c (.i .i64 (1)))),
 Mv 4 59] [1,5,45,49,50,51,52,53,54,55,56,57,58,59])
 .ret)
 (.seq (.region [Of 61 1 0,
 Ld 62 61,
 It 63 (.bin .eql (.t 62) (.c (.i .i64 (23)))),
 Mv 60 63] [45,61,62,63])
 (.cond (.t 60)
 (.seq (.region [It 64 (.load (some 3) (.t 5)),
 Of 65 1 3,
 Ld 66 65,
 It 67 (.build [i0,(.s []),(.b false)] [(1,1,(.t 66))]),
 It 68 (.eqAg [1,2,0] false (.t 64) (.t 67)),
 Mv 69 68,
 Ig 70 69 true (.off (.t 1) 3),
 Ig 71 69 true (.load none (.t 70)),
 Ig 72 69 true (.call 64 [(.t 71)]),
 It 73 (.pick (.t 69) (.t 72) (.c (.b false))),
 It 2 (.mov (.c (.i .i64 (1)))),
 It 3 (.mov (.c (.i .i64 (1)))),
 Mv 4 73] [1,5,60,64,65,66,67,68,69,70,71,72,73])
 .ret)
 (.seq (.region [Of 75 1 0,
 Ld 76 75,
 It 77 (.bin .eql (.t 76) (.c (.i .i64 (40)))),
 Mv 74 77] [60,75,76,77])
 (.cond (.t 74)
 (.seq (.region [It 78 (.load (some 3) (.t 5)),
 Of 79 1 1,
 Ld 80 79,
 It 81 (.build [i0,(.s []),(.b false)] [(0,1,(.t 80))]),
 It 82 (.eqAg [1,2,0] false (.t 78) (.t 81)),
 Mv 83 82,
 Ig 84 83 true (.off (.t 1) 1),
 Ig 85 83 true (.load none (.t 84)),
 Ig 86 83 true (.bin .geq (.t 85) (.c i0)),
 It 87 (.pick (.t 83) (.t 86) (.c (.b false))),
 Mv 88 87,
 Ig 89 88 true (.off (.t 1) 1),
 Ig 90 88 true (.load none (.t 89)),
 Ig 91 88 true (.bin .leq (.t 90) (.c (.i .i64 (6)))),
 It 92 (.pick (.t 88) (.t 91) (.c (.b false))),
 It 2 (.mov (.c (.i .i64 (1)))),
 It 3 (.mov (.c (.i .i64 (1)))),
 Mv 4 92] [1,5,74,78,79,80,81,82,83,84,85,86,87,88,89,90,91,92])
 .ret)
 (.seq (.seq (.region [Of 94 1 0,
 Ld 95 94,
 It 96 (.bin .eql (.t 95) (.c (.i .i64 (48)))),
 Mv 93 96] [74,94,95,96])
 (.cond (.t 93)
 .skip
 (.region [Of 97 1 0,
 Ld 98 97,
 It 99 (.bin .eql (.t 98) (.c (.i .i64 (49)))),
 Mv 93 99] [97,98,99])))
 (.cond (.t 93)
 (.seq (.region [It 100 (.load (some 3) (.t 5)),
 Of 101 1 1,
 Ld 102 101,
 It 103 (.build [i0,(.s []),(.b false)] [(0,1,(.t 102))]),
 It 104 (.eqAg [1,2,0] false (.t 100) (.t 103)),
 It 2 (.mov (.c (.i .i64 (1)))),
 It 3 (.mov (.c (.i .i64 (1)))),
 Mv 4 104] [1,5,93,100,101,102,103,104])
 .ret)
 (.seq (.seq (.region [Of 106 1 0,
 Ld 107 106,
 It 108 (.bin .geq (.t 107) (.c (.i .i64 (43)))),
 Mv 109 108,
 Ig 110 109 true (.off (.t 1) 0),
 Ig 111 109 true (.load none (.t 110)),
 Ig 112 109 true (.bin .leq (.t 111) (.c (.i .i64 (47)))),
 It 113 (.pick (.t 109) (.t 112) (.c (.b false))),
 Mv 105 113] [93,106,107,108,109,110,111,112,113])
 (.cond (.t 105)
 .skip
 (.region [Of 114 1 0,
 Ld 115 114,
 It 116 (.bin .geq (.t 115) (.c (.i .i64 (9)))),
 Mv 117 116,
 Ig 118 117 true (.off (.t 1) 0),
 Ig 119 117 true (.load none (.t 118)),
 Ig 120 117 true (.bin .leq (.t 119) (.c (.i .i64 (19)))),
 It 121 (.pick (.t 117) (.t 120) (.c (.b false))),
 Mv 105 121] [114,115,116,117,118,119,120,121])))
 (.cond (.t 105)
 (.seq (.region [It 122 (.load (some 3) (.t 5)),
 It 123 (.load (some 3) (.g 0)),
 It 124 (.eqAg [1,2,0] false (.t 122) (.t 123)),
 It 2 (.mov (.c (.i .i64 (2)))),
 It 3 (.mov (.c (.i .i64 (2)))),
 Mv 4 124] [1,5,105,122,123,124])
 .ret)
 (.seq (.seq (.region [Of 126 1 0,
 Ld 127 126,
 It 128 (.bin .eql (.t 127) (.c (.i .i64 (41)))),
 Mv 125 128] [105,126,127,128])
 (.cond (.t 125)
 (.region [] [1])
 (.seq (.region [Of 129 1 0,
 Ld 130 129,
 It 131 (.bin .eql (.t 130) (.c (.i .i64 (42)))),
 Mv 125 131] [129,130,131])
 (.cond (.t 125)
 (.region [] [1])
 (.region [Of 132 1 0,
 Ld 133 132,
 It 134 (.bin .geq (.t 133) (.c (.i .i64 (6)))),
 Mv 135 134,
 Ig 136 135 true (.off (.t 1) 0),
 Ig 137 135 true (.load none (.t 136)),
 Ig 138 135 true (.bin .leq (.t 137) (.c (.i .i64 (8)))),
 It 139 (.pick (.t 135) (.t 138) (.c (.b false))),
 Mv 125 139] [1,132,133,134,135,136,137,138,139])))))
 (.cond (.t 125)
 (.seq (.region [It 140 (.load (some 3) (.t 5)),
 It 141 (.load (some 3) (.g 0)),
 It 142 (.eqAg [1,2,0] false (.t 140) (.t 141)),
 It 2 (.mov (.c (.i .i64 (1)))),
 It 3 (.mov (.c (.i .i64 (1)))),
 Mv 4 142] [5,125,140,141,142])
 .ret)
 (.region [] [5,125]))))))))))))))))))
 (.seq (.region [It 2 (.mov (.c i0)),
 It 3 (.mov (.c i0)),
 It 4 (.mov (.c (.b false)))] [])
 .ret)))),
    143,1,[.t 2,.t 3,.t 4],2⟩
theorem tr28:trFunc Tryz.prog (hz [(3,[0,1,2,3,4,5]),(5,[0,1,2,3,4,5,6,7,8,9,10,11,12,13,14,15,16,17,18,19,20,21]),(11,[0,1,2,3,4,5,6,7,8,9,10,11,12,13,14,15,16,17]),(15,[0,1,2,3,4,5,6,7]),(19,[0,1,2,3,4,5]),(25,[0,1,2,3,4,5])] I28.body) 1 Tryz.f28=some (plain1 I28):=by kernel_rfl
theorem ck28:ckC 2 I28.body=true:=by kernel_rfl
def I29:IFunc :=
  ⟨(.seq (.region [It 4 (.mov (.c (.b false)))] [4])
 (.seq (.region [Mv 5 0,
 Mv 6 1,
 It 7 (.call 65 [(.t 5),(.t 6)]),
 It 8 (.bin .geq (.t 7) (.c i0)),
 Mv 4 8] [0,1,5,6,7,8])
 .ret)),
    9,2,[.t 4],2⟩
theorem tr29:trFunc Tryz.prog (hz [] I29.body) 1 Tryz.f29=some (plain1 I29):=by kernel_rfl
theorem ck29:ckC 2 I29.body=true:=by kernel_rfl
def I30:IFunc :=
  ⟨(.seq (.region [It 1 (.box (.t 0)),
 It 2 (.mov (.c (.b false)))] [0,2])
 (.seq (.region [It 3 (.load (some 5) (.t 1)),
 It 4 (.call 31 [(.t 3)]),
 It 5 (.un .not (.t 4)),
 Mv 2 5] [1,3,4,5])
 .ret)),
    6,1,[.t 2],2⟩
theorem tr30:trFunc Tryz.prog (hz [] I30.body) 1 Tryz.f30=some (plain1 I30):=by kernel_rfl
theorem ck30:ckC 2 I30.body=true:=by kernel_rfl
def I31:IFunc :=
  ⟨(.seq (.region [It 1 (.box (.t 0)),
 It 2 (.mov (.c (.b false)))] [0,2])
 (.seq (.region [It 3 (.load (some 5) (.t 1)),
 It 4 (.call 8 [(.t 3)]),
 It 5 (.bin .eql (.t 4) (.c i0)),
 Mv 2 5] [1,3,4,5])
 .ret)),
    6,1,[.t 2],2⟩
theorem tr31:trFunc Tryz.prog (hz [] I31.body) 1 Tryz.f31=some (plain1 I31):=by kernel_rfl
theorem ck31:ckC 2 I31.body=true:=by kernel_rfl
def I32:IFunc :=
  ⟨(.seq (.region [It 2 (.box (.t 0)),
 It 3 (.box (.t 1)),
 It 4 (.mov (.c .nm))] [0,1,4])
 (.seq (.region [Of 6 2 1,
 Ld 7 6,
 It 8 (.build [i0,i0,(.s []),.ns,.ns] [(0,1,(.c (.i .i64 (1)))),(1,1,(.t 7))]),
 It 5 (.alloc [i0,i0,(.s []),.ns,.ns]),
 ⟨none,(.store 5 (.t 5) (.t 8)),none,[]⟩] [6,7,8])
 (.seq (.region [It 9 .mkmap,
 It 10 (.mkf 66 [] [(.t 3)]),
 ⟨none,(.mapup false [1] (.t 9) (.c (.i .i64 (20))) (.t 10)),none,[]⟩,
 It 11 (.mkf 68 [] [(.t 2),(.t 3)]),
 ⟨none,(.mapup false [1] (.t 9) (.c (.i .i64 (21))) (.t 11)),none,[]⟩,
 It 12 (.mkf 70 [] [(.t 3),(.t 2)]),
 ⟨none,(.mapup false [1] (.t 9) (.c (.i .i64 (22))) (.t 12)),none,[]⟩,
 It 13 (.mkf 72 [] [(.t 3),(.t 2)]),
 ⟨none,(.mapup false [1] (.t 9) (.c (.i .i64 (23))) (.t 13)),none,[]⟩,
 It 14 (.mkf 74 [] [(.t 3),(.t 2)]),
 ⟨none,(.mapup false [1] (.t 9) (.c (.i .i64 (40))) (.t 14)),none,[]⟩,
 It 15 (.mkf 75 [] [(.t 3)]),
 ⟨none,(.mapup false [1] (.t 9) (.c (.i .i64 (41))) (.t 15)),none,[]⟩,
 It 16 (.mkf 76 [] [(.t 3)]),
 ⟨none,(.mapup false [1] (.t 9) (.c (.i .i64 (42))) (.t 16)),none,[]⟩,
 It 17 (.mkf 77 [] [(.t 3)]),
 ⟨none,(.mapup false [1] (.t 9) (.c (.i .i64 (43))) (.t 17)),none,[]⟩,
 It 18 (.mkf 79 [] [(.t 3)]),
 ⟨none,(.mapup false [1] (.t 9) (.c (.i .i64 (44))) (.t 18)),none,[]⟩,
 It 19 (.mkf 80 [] [(.t 3)]),
 ⟨none,(.mapup false [1] (.t 9) (.c (.i .i64 (45))) (.t 19)),none,[]⟩,
 It 20 (.mkf 81 [] [(.t 3)]),
 ⟨none,(.mapup false [1] (.t 9) (.c (.i .i64 (46))) (.t 20)),none,[]⟩,
 It 21 (.mkf 82 [] [(.t 3)]),
 ⟨none,(.mapup false [1] (.t 9) (.c (.i .i64 (47))) (.t 21)),none,[]⟩,
 It 22 (.mkf 83 [] [(.t 3),(.t 5)]),
 ⟨none,(.mapup false [1] (.t 9) (.c (.i .i64 (48))) (.t 22)),none,[]⟩,
 It 23 (.mkf 84 [] [(.t 3),(.t 5)]),
 ⟨none,(.mapup false [1] (.t 9) (.c (.i .i64 (49))) (.t 23)),none,[]⟩,
 Mv 24 9,
 Mv 4 24] [2,3,5,9,10,11,12,13,14,15,16,17,18,19,20,21,22,23,24])
 .ret))),
    25,2,[.t 4],1⟩
theorem tr32:trFunc Tryz.prog (hz [] I32.body) 1 Tryz.f32=some (plain1 I32):=by kernel_rfl
theorem ck32:ckC 2 I32.body=true:=by kernel_rfl
def I33:IFunc :=
  ⟨(.seq (.region [It 3 (.box (.t 0)),
 It 6 (.alloc [i0,i0,(.s []),.ns,.ns]),
 It 7 (.mov (.c (.b false)))] [0,7])
 (.seq (.region [It 8 (.load (some 5) (.t 3)),
 Mv 9 1,
 It 10 (.bin .eql (.t 9) (.c i0)),
 Mv 11 10,
 Ig 12 11 true (.mov (.t 2)),
 Ig 13 11 true (.bin .eql (.t 12) (.c i0)),
 It 14 (.pick (.t 11) (.t 13) (.c (.b false))),
 ⟨none,(.store 5 (.t 6) (.t 8)),none,[]⟩,
 Mv 7 14] [1,2,3,8,9,10,11,12,13,14])
 .ret)),
    15,3,[.c 6 (some 5),.t 7],2⟩
theorem tr33:trFunc Tryz.prog (hz [] I33.body) 1 Tryz.f33=some (plain1 I33):=by kernel_rfl
theorem ck33:ckC 2 I33.body=true:=by kernel_rfl
def I34:IFunc :=
  ⟨(.seq (.region [It 4 (.box (.t 1)),
 It 5 (.box (.t 2)),
 It 6 (.alloc [i0,i0,(.s []),.ns,.ns]),
 It 7 (.mov (.c i0)),
 It 8 (.mov (.c i0))] [1,2,8])
 (.seq (.seq (.region [Mv 10 0,
 It 11 (.bin .lss (.t 10) (.c (.i .i64 (9)))),
 Mv 12 11,
 Ig 13 12 false (.mov (.t 0)),
 Ig 14 12 false (.bin .gtr (.t 13) (.c (.i .i64 (19)))),
 It 15 (.pick (.t 12) (.c (.b true)) (.t 14)),
 Mv 16 15,
 Ig 17 16 false (.load (some 5) (.t 4)),
 Ig 18 16 false (.load (some 5) (.t 5)),
 Ig 19 16 false (.bsl 5 2 [i0,i0,(.s []),.ns,.ns,i0,i0,(.s []),.ns,.ns] [(0,5,(.t 17)),(5,5,(.t 18))]),
 Ig 20 16 false (.call 85 [(.t 19)]),
 Ig 21 16 false (.un .not (.t 20)),
 It 22 (.pick (.t 16) (.c (.b true)) (.t 21))] [10,11,12,13,14,15,16,17,18,19,20,21])
 (.cond (.t 22)
 (.seq (.region [It 23 (.build [i0,i0,(.s []),.ns,.ns] []),
 ⟨none,(.store 5 (.t 6) (.t 23)),none,[]⟩,
 It 7 (.mov (.c i0)),
 It 8 (.mov (.c (.i .i64 (2))))] [0,4,5,22,23])
 .ret)
 (.region [] [22])))
 (.seq (.region [Of 24 4 0,
 Ld 25 24,
 Of 26 5 0,
 Ld 27 26,
 It 28 (.build [i0,i0] [(0,1,(.t 25)),(1,1,(.t 27))]),
 It 9 (.alloc [i0,i0]),
 ⟨none,(.store 2 (.t 9) (.t 28)),none,[]⟩] [24,25,26,27,28])
 (.seq (.block 0
 (.seq (.region [Mv 30 0,
 It 31 (.bin .eql (.t 30) (.c (.i .i64 (14)))),
 Mv 29 31] [30,31])
 (.cond (.t 29)
 (.region [It 32 (.load (some 5) (.t 4)),
 It 33 (.load (some 5) (.t 5)),
 It 34 (.call 87 [(.t 32),(.t 33)]),
 It 35 (.call 86 [(.t 34)]),
 ⟨none,(.store 5 (.t 6) (.t 35)),none,[]⟩] [0,4,5,9,29,32,33,34,35])
 (.seq (.region [Mv 37 0,
 It 38 (.bin .eql (.t 37) (.c (.i .i64 (15)))),
 Mv 36 38] [29,37,38])
 (.cond (.t 36)
 (.region [It 39 (.load (some 5) (.t 4)),
 It 40 (.load (some 5) (.t 5)),
 It 41 (.call 87 [(.t 39),(.t 40)]),
 It 42 (.un .not (.t 41)),
 It 43 (.call 86 [(.t 42)]),
 ⟨none,(.store 5 (.t 6) (.t 43)),none,[]⟩] [0,4,5,9,36,39,40,41,42,43])
 (.seq (.region [It 45 (.load (some 2) (.t 9)),
 It 46 (.build [i0,i0] [(0,1,(.c (.i .i64 (1)))),(1,1,(.c (.i .i64 (1))))]),
 It 47 (.eqAg [1,1] false (.t 45) (.t 46)),
 Mv 44 47] [36,45,46,47])
 (.cond (.t 44)
 (.region [Mv 49 0,
 Of 50 4 1,
 Ld 51 50,
 Of 52 5 1,
 Ld 53 52,
 It 54 (.call 88 [(.t 49),(.t 51),(.t 53)]),
 Mv 48 54,
 Ex 55 48 0,
 Ex 56 48 1,
 ⟨none,(.store 5 (.t 6) (.t 55)),none,[]⟩,
 Mv 7 56] [0,4,5,9,44,49,50,51,52,53,54,48,55,56])
 (.seq (.region [It 58 (.load (some 2) (.t 9)),
 It 59 (.build [i0,i0] [(0,1,(.c (.i .i64 (3)))),(1,1,(.c (.i .i64 (3))))]),
 It 60 (.eqAg [1,1] false (.t 58) (.t 59)),
 Mv 57 60] [44,58,59,60])
 (.cond (.t 57)
 (.region [Mv 62 0,
 Of 63 4 2,
 Ld 64 63,
 Of 65 5 2,
 Ld 66 65,
 It 67 (.call 89 [(.t 62),(.t 64),(.t 66)]),
 Mv 61 67,
 Ex 68 61 0,
 Ex 69 61 1,
 ⟨none,(.store 5 (.t 6) (.t 68)),none,[]⟩,
 Mv 7 69] [0,4,5,9,57,62,63,64,65,66,67,61,68,69])
 (.seq (.region [Mv 71 0,
 It 72 (.bin .eql (.t 71) (.c (.i .i64 (18)))),
 Mv 73 72,
 Ig 74 73 true (.off (.t 4) 0),
 Ig 75 73 true (.load none (.t 74)),
 Ig 76 73 true (.bin .eql (.t 75) (.c (.i .i64 (4)))),
 It 77 (.pick (.t 73) (.t 76) (.c (.b false))),
 Mv 70 77] [57,71,72,73,74,75,76,77])
 (.cond (.t 70)
 (.region [It 79 (.load (some 5) (.t 4)),
 It 80 (.load (some 5) (.t 5)),
 It 81 (.bsl 5 1 [i0,i0,(.s []),.ns,.ns] [(0,5,(.t 80))]),
 It 82 (.call 90 [(.t 79),(.t 81)]),
 Mv 78 82,
 Ex 83 78 0,
 Ex 84 78 1,
 ⟨none,(.store 5 (.t 6) (.t 83)),none,[]⟩,
 Mv 7 84] [0,4,5,9,70,79,80,81,82,78,83,84])
 (.seq (.region [Mv 86 0,
 It 87 (.bin .eql (.t 86) (.c (.i .i64 (9)))),
 Mv 88 87,
 Ig 89 88 true (.load (some 2) (.t 9)),
 Ig 90 88 true (.build [i0,i0] [(0,1,(.c (.i .i64 (4)))),(1,1,(.c (.i .i64 (4))))]),
 Ig 91 88 true (.eqAg [1,1] false (.t 89) (.t 90)),
 It 92 (.pick (.t 88) (.t 91) (.c (.b false))),
 Mv 85 92] [70,86,87,88,89,90,91,92])
 (.cond (.t 85)
 (.region [It 94 (.load (some 5) (.t 4)),
 Of 95 5 3,
 Ld 96 95,
 It 97 (.call 90 [(.t 94),(.t 96)]),
 Mv 93 97,
 Ex 98 93 0,
 Ex 99 93 1,
 ⟨none,(.store 5 (.t 6) (.t 98)),none,[]⟩,
 Mv 7 99] [0,4,5,9,85,94,95,96,97,93,98,99])
 (.seq (.region [Mv 101 0,
 It 102 (.bin .eql (.t 101) (.c (.i .i64 (19)))),
 Mv 103 102,
 Ig 104 103 true (.load (some 2) (.t 9)),
 Ig 105 103 true (.build [i0,i0] [(0,1,(.c (.i .i64 (4)))),(1,1,(.c (.i .i64 (1))))]),
 Ig 106 103 true (.eqAg [1,1] false (.t 104) (.t 105)),
 It 107 (.pick (.t 103) (.t 106) (.c (.b false))),
 Mv 100 107] [0,9,85,101,102,103,104,105,106,107])
 (.cond (.t 100)
 (.seq (.seq (.region [Of 108 5 1,
 Ld 109 108,
 It 110 (.bin .lss (.t 109) (.c i0)),
 Mv 111 110,
 Ig 112 111 false (.off (.t 5) 1),
 Ig 113 111 false (.load none (.t 112)),
 Ig 114 111 false (.off (.t 4) 3),
 Ig 115 111 false (.load none (.t 114)),
 Ig 116 111 false (.lenk 0 (.t 115)),
 Ig 117 111 false (.bin .geq (.t 113) (.t 116)),
 It 118 (.pick (.t 111) (.c (.b true)) (.t 117))] [100,108,109,110,111,112,113,114,115,116,117])
 (.cond (.t 118)
 (.seq (.region [It 119 (.build [i0,i0,(.s []),.ns,.ns] []),
 ⟨none,(.store 5 (.t 6) (.t 119)),none,[]⟩,
 It 7 (.mov (.c (.i .i64 (3)))),
 It 8 (.mov (.c i0))] [4,5,118,119])
 .ret)
 (.region [] [118])))
 (.region [Of 120 4 3,
 Ld 121 120,
 Of 122 5 1,
 Ld 123 122,
 It 124 (.iaddr 5 (.t 121) (.t 123)),
 It 125 (.load (some 5) (.t 124)),
 It 126 (.call 91 [(.t 125)]),
 ⟨none,(.store 5 (.t 6) (.t 126)),none,[]⟩] [4,5,120,121,122,123,124,125,126]))
 (.region [It 7 (.mov (.c (.i .i64 (2))))] [4,5,100]))))))))))))))))
 (.seq (.region [It 127 (.load (some 5) (.t 6)),
 Mv 128 7,
 ⟨none,(.store 5 (.t 6) (.t 127)),none,[]⟩,
 Mv 7 128,
 It 8 (.mov (.c i0))] [127,128])
 .ret))))),
    129,3,[.c 6 (some 5),.t 7,.t 8],2⟩
theorem tr34:trFunc Tryz.prog (hz [] I34.body) 1 Tryz.f34=some (plain1 I34):=by kernel_rfl
theorem ck34:ckC 2 I34.body=true:=by kernel_rfl
def I35:IFunc :=
  ⟨(.seq (.region [It 3 (.box (.t 1)),
 It 4 (.alloc [i0,i0,(.s []),.ns,.ns]),
 It 5 (.mov (.c i0)),
 It 6 (.mov (.c i0))] [1,5,6])
 (.seq (.seq (.region [It 9 (.load (some 5) (.t 3)),
 It 10 (.bsl 5 1 [i0,i0,(.s []),.ns,.ns] [(0,5,(.t 9))]),
 It 11 (.call 85 [(.t 10)]),
 It 12 (.un .not (.t 11))] [9,10,11])
 (.cond (.t 12)
 (.seq (.region [It 13 (.build [i0,i0,(.s []),.ns,.ns] []),
 ⟨none,(.store 5 (.t 4) (.t 13)),none,[]⟩,
 It 5 (.mov (.c i0)),
 It 6 (.mov (.c (.i .i64 (2))))] [0,3,12,13])
 .ret)
 (.region [] [12])))
 (.seq (.region [It 14 (.build [i0,i0,(.s []),.ns,.ns] []),
 It 7 (.alloc [i0,i0,(.s []),.ns,.ns]),
 ⟨none,(.store 5 (.t 7) (.t 14)),none,[]⟩,
 It 8 (.mov (.c (.b false)))] [14,8])
 (.seq (.seq (.region [Mv 15 0] [0])
 (.block 0
 (.seq (.region [It 18 (.bin .eql (.t 15) (.c (.i .i64 (6)))),
 Mv 17 18] [18])
 (.cond (.t 17)
 (.region [Of 19 3 1,
 Ld 20 19,
 It 21 (.un .neg (.t 20)),
 Of 23 3 0,
 Ld 24 23,
 It 25 (.bin .eql (.t 24) (.c (.i .i64 (1)))),
 ⟨(some 22),(.call 92 [(.t 21)]),none,[(24,(.load none (.t 23)),none)]⟩,
 ⟨none,(.store 5 (.t 7) (.t 22)),none,[(24,(.load none (.t 23)),none)]⟩,
 Mv 8 25] [3,15,17,19,20,21,23,24,25,22])
 (.seq (.region [It 27 (.bin .eql (.t 15) (.c (.i .i64 (7)))),
 Mv 26 27] [17,27])
 (.cond (.t 26)
 (.region [Of 28 3 1,
 Ld 29 28,
 It 30 (.bin .eql (.t 29) (.c i0)),
 Of 32 3 0,
 Ld 33 32,
 It 34 (.bin .eql (.t 33) (.c (.i .i64 (2)))),
 ⟨(some 31),(.call 86 [(.t 30)]),none,[(33,(.load none (.t 32)),none)]⟩,
 ⟨none,(.store 5 (.t 7) (.t 31)),none,[(33,(.load none (.t 32)),none)]⟩,
 Mv 8 34] [3,15,26,28,29,30,32,33,34,31])
 (.seq (.region [It 36 (.bin .eql (.t 15) (.c (.i .i64 (8)))),
 Mv 35 36] [15,26,36])
 (.cond (.t 35)
 (.region [Of 37 3 2,
 Ld 38 37,
 It 39 (.lenk 1 (.t 38)),
 Of 40 3 3,
 Ld 41 40,
 It 42 (.lenk 0 (.t 41)),
 It 43 (.bin .add (.t 39) (.t 42)),
 Of 45 3 0,
 Ld 46 45,
 It 47 (.bin .eql (.t 46) (.c (.i .i64 (3)))),
 ⟨(some 44),(.call 92 [(.t 43)]),none,[(46,(.load none (.t 45)),none)]⟩,
 Mv 48 47,
 Ig 49 48 false (.off (.t 3) 0),
 Ig 50 48 false (.load none (.t 49)),
 Ig 51 48 false (.bin .eql (.t 50) (.c (.i .i64 (4)))),
 It 52 (.pick (.t 48) (.c (.b true)) (.t 51)),
 ⟨none,(.store 5 (.t 7) (.t 44)),none,[(50,(.load none (.t 49)),(some (48,false)))]⟩,
 Mv 8 52] [3,35,37,38,39,40,41,42,43,45,46,47,44,48,49,50,51,52])
 (.seq (.region [It 16 (.build [i0,i0,(.s []),.ns,.ns] []),
 ⟨none,(.store 5 (.t 4) (.t 16)),none,[]⟩,
 It 5 (.mov (.c i0)),
 It 6 (.mov (.c (.i .i64 (2))))] [3,7,35,16])
 .ret)))))))))
 (.seq (.seq (.region [Mv 53 8,
 It 54 (.un .not (.t 53))] [8,53])
 (.cond (.t 54)
 (.seq (.region [It 55 (.build [i0,i0,(.s []),.ns,.ns] []),
 ⟨none,(.store 5 (.t 4) (.t 55)),none,[]⟩,
 It 5 (.mov (.c (.i .i64 (2)))),
 It 6 (.mov (.c i0))] [7,54,55])
 .ret)
 (.region [] [54])))
 (.seq (.region [It 56 (.load (some 5) (.t 7)),
 ⟨none,(.store 5 (.t 4) (.t 56)),none,[]⟩,
 It 5 (.mov (.c i0)),
 It 6 (.mov (.c i0))] [7,56])
 .ret)))))),
    57,2,[.c 4 (some 5),.t 5,.t 6],2⟩
theorem tr35:trFunc Tryz.prog (hz [(7,[0,1,2,4,5,6,3,7,8]),(9,[0,1,2,4,5,6,3,7,8]),(11,[0,1,2,3,4,5,6,8,9,10,7,11,12,13,14,15,16,17])] I35.body) 1 Tryz.f35=some (plain1 I35):=by kernel_rfl
theorem ck35:ckC 2 I35.body=true:=by kernel_rfl
def L36a:ICode :=
  (.seq (.region [It 16 (.bin .lss (.t 15) (.t 14))] [])
 (.seq (.cond (.t 16)
 (.region [] [16])
 (.exit 0))
 (.seq (.block 1
 (.seq (.region [Mv 17 15,
 Mv 3 17] [17])
 (.region [Of 18 1 3,
 Ld 19 18,
 Mv 20 3,
 Of 21 1 3,
 Ld 22 21,
 Mv 23 3,
 It 24 (.iaddr 5 (.t 22) (.t 23)),
 It 25 (.load (some 5) (.t 24)),
 ⟨(some 26),(.call 36 [(.t 25)]),none,[(19,(.load none (.t 18)),none)]⟩,
 It 27 (.iaddr 5 (.t 19) (.t 20)),
 ⟨none,(.store 5 (.t 27) (.t 26)),none,[]⟩] [3,18,19,20,21,22,23,24,25,26,27])))
 (.region [It 28 (.bin .add (.t 15) (.c (.i .i64 (1)))),
 Mv 15 28] [28]))))
def I36:IFunc :=
  ⟨(.seq (.region [It 1 (.box (.t 0)),
 It 2 (.alloc [i0,i0,(.s []),.ns,.ns])] [0])
 (.seq (.region [Of 4 1 4,
 Ld 5 4,
 Of 7 1 3,
 Ld 8 7,
 ⟨(some 6),(.call 93 [(.t 5)]),none,[(8,(.load none (.t 7)),none)]⟩,
 Of 10 1 4,
 It 9 (.call 94 [(.t 8)]),
 ⟨none,(.store 1 (.t 10) (.t 6)),none,[]⟩,
 Of 11 1 3,
 ⟨none,(.store 1 (.t 11) (.t 9)),none,[]⟩] [4,5,7,8,6,10,9,11])
 (.seq (.seq (.region [Of 12 1 3,
 Ld 13 12,
 It 14 (.lenk 0 (.t 13)),
 It 15 (.mov (.c i0))] [12,13])
 (.block 0
 (.loop L36a)))
 (.seq (.region [It 29 (.load (some 5) (.t 1)),
 ⟨none,(.store 5 (.t 2) (.t 29)),none,[]⟩] [1,14,15,16,29])
 .ret)))),
    30,1,[.c 2 (some 5)],2⟩
theorem tr36:trFunc Tryz.prog (hz [(1,[0,1,3,4,2,6,5,7,8,9]),(6,[0,1,2,3,4,5,6,7,8,9,10])] I36.body) 1 Tryz.f36=some (plain1 I36):=by kernel_rfl
theorem ck36:ckC 2 I36.body=true:=by kernel_rfl
def L37a:ICode :=
  (.seq (.seq (.region [Mv 38 5,
 Of 39 2 4,
 Ld 40 39,
 It 41 (.lenk 0 (.t 40)),
 It 42 (.bin .lss (.t 38) (.t 41)),
 Mv 43 42,
 Ig 44 43 true (.mov (.t 5)),
 Ig 45 43 true (.off (.t 3) 4),
 Ig 46 43 true (.load none (.t 45)),
 Ig 47 43 true (.lenk 0 (.t 46)),
 Ig 48 43 true (.bin .lss (.t 44) (.t 47)),
 It 49 (.pick (.t 43) (.t 48) (.c (.b false)))] [38,39,40,41,42,43,44,45,46,47,48])
 (.cond (.t 49)
 (.region [] [49])
 (.exit 0)))
 (.seq (.block 1
 (.seq (.region [Of 52 2 4,
 Ld 53 52,
 Mv 54 5,
 It 55 (.iaddr 1 (.t 53) (.t 54)),
 Ld 56 55,
 Of 57 3 4,
 Ld 58 57,
 Mv 59 5,
 It 60 (.iaddr 1 (.t 58) (.t 59)),
 Ld 61 60,
 It 62 (.bin .neq (.t 56) (.t 61))] [52,53,54,55,56,57,58,59,60,61])
 (.cond (.t 62)
 (.seq (.region [Of 63 2 4,
 Ld 64 63,
 Mv 65 5,
 It 66 (.iaddr 1 (.t 64) (.t 65)),
 Ld 67 66,
 Of 68 3 4,
 Ld 69 68,
 Mv 70 5,
 It 71 (.iaddr 1 (.t 69) (.t 70)),
 Ld 72 71,
 It 73 (.call 96 [(.t 67),(.t 72)]),
 Mv 4 73] [2,3,5,62,63,64,65,66,67,68,69,70,71,72,73])
 .ret)
 (.region [] [62]))))
 (.region [Mv 50 5,
 It 51 (.bin .add (.t 50) (.c (.i .i64 (1)))),
 Mv 5 51] [50,51])))
def L37b:ICode :=
  (.seq (.seq (.region [Mv 88 6,
 Of 89 2 3,
 Ld 90 89,
 It 91 (.lenk 0 (.t 90)),
 It 92 (.bin .lss (.t 88) (.t 91)),
 Mv 93 92,
 Ig 94 93 true (.mov (.t 6)),
 Ig 95 93 true (.off (.t 3) 3),
 Ig 96 93 true (.load none (.t 95)),
 Ig 97 93 true (.lenk 0 (.t 96)),
 Ig 98 93 true (.bin .lss (.t 94) (.t 97)),
 It 99 (.pick (.t 93) (.t 98) (.c (.b false)))] [88,89,90,91,92,93,94,95,96,97,98])
 (.cond (.t 99)
 (.region [] [99])
 (.exit 2)))
 (.seq (.block 3
 (.seq (.region [Of 102 2 3,
 Ld 103 102,
 Mv 104 6,
 It 105 (.iaddr 5 (.t 103) (.t 104)),
 It 106 (.load (some 5) (.t 105)),
 Of 107 3 3,
 Ld 108 107,
 Mv 109 6,
 It 110 (.iaddr 5 (.t 108) (.t 109)),
 It 111 (.load (some 5) (.t 110)),
 It 112 (.call 37 [(.t 106),(.t 111)]),
 Mv 7 112] [102,103,104,105,106,107,108,109,110,111,112])
 (.seq (.region [Mv 113 7,
 It 114 (.bin .neq (.t 113) (.c i0))] [113])
 (.cond (.t 114)
 (.seq (.region [Mv 115 7,
 Mv 4 115] [2,3,6,7,114,115])
 .ret)
 (.region [] [7,114])))))
 (.region [Mv 100 6,
 It 101 (.bin .add (.t 100) (.c (.i .i64 (1)))),
 Mv 6 101] [100,101])))
def I37:IFunc :=
  ⟨(.seq (.region [It 2 (.box (.t 0)),
 It 3 (.box (.t 1)),
 It 4 (.mov (.c i0))] [0,1,4])
 (.seq (.seq (.region [Of 8 2 0,
 Ld 9 8,
 Of 10 3 0,
 Ld 11 10,
 It 12 (.bin .neq (.t 9) (.t 11))] [8,9,10,11])
 (.cond (.t 12)
 (.seq (.region [Of 13 2 0,
 Ld 14 13,
 Of 15 3 0,
 Ld 16 15,
 It 17 (.call 95 [(.t 14),(.t 16)]),
 Mv 4 17] [2,3,12,13,14,15,16,17])
 .ret)
 (.region [] [12])))
 (.seq (.seq (.region [Of 18 2 1,
 Ld 19 18,
 Of 20 3 1,
 Ld 21 20,
 It 22 (.bin .neq (.t 19) (.t 21))] [18,19,20,21])
 (.cond (.t 22)
 (.seq (.region [Of 23 2 1,
 Ld 24 23,
 Of 25 3 1,
 Ld 26 25,
 It 27 (.call 95 [(.t 24),(.t 26)]),
 Mv 4 27] [2,3,22,23,24,25,26,27])
 .ret)
 (.region [] [22])))
 (.seq (.seq (.region [Of 28 2 2,
 Ld 29 28,
 Of 30 3 2,
 Ld 31 30,
 It 32 (.bin .neq (.t 29) (.t 31))] [28,29,30,31])
 (.cond (.t 32)
 (.seq (.region [Of 33 2 2,
 Ld 34 33,
 Of 35 3 2,
 Ld 36 35,
 It 37 (.call 96 [(.t 34),(.t 36)]),
 Mv 4 37] [2,3,32,33,34,35,36,37])
 .ret)
 (.region [] [32])))
 (.seq (.seq (.region [It 5 (.mov (.c i0))] [])
 (.block 0
 (.loop L37a)))
 (.seq (.seq (.region [Of 74 2 4,
 Ld 75 74,
 It 76 (.lenk 0 (.t 75)),
 Of 77 3 4,
 Ld 78 77,
 It 79 (.lenk 0 (.t 78)),
 It 80 (.bin .neq (.t 76) (.t 79))] [5,49,74,75,76,77,78,79])
 (.cond (.t 80)
 (.seq (.region [Of 81 2 4,
 Ld 82 81,
 It 83 (.lenk 0 (.t 82)),
 Of 84 3 4,
 Ld 85 84,
 It 86 (.lenk 0 (.t 85)),
 It 87 (.call 95 [(.t 83),(.t 86)]),
 Mv 4 87] [2,3,80,81,82,83,84,85,86,87])
 .ret)
 (.region [] [80])))
 (.seq (.seq (.region [It 6 (.mov (.c i0))] [])
 (.block 2
 (.loop L37b)))
 (.seq (.region [Of 116 2 3,
 Ld 117 116,
 It 118 (.lenk 0 (.t 117)),
 Of 119 3 3,
 Ld 120 119,
 It 121 (.lenk 0 (.t 120)),
 It 122 (.call 95 [(.t 118),(.t 121)]),
 Mv 4 122] [2,3,6,99,116,117,118,119,120,121,122])
 .ret)))))))),
    123,2,[.t 4],2⟩
theorem tr37:trFunc Tryz.prog (hz [(13,[0,1,2,3,4,5,6,7,8,9,10]),(14,[0,1,2,3,4,5,6,7,8,9,10,11]),(23,[0,1,2,3,4,5,6,7,8,9,10,11])] I37.body) 1 Tryz.f37=some (plain1 I37):=by kernel_rfl
theorem ck37:ckC 2 I37.body=true:=by kernel_rfl
def L38a:ICode :=
  (.seq (.seq (.region [Mv 7 4,
 Of 8 1 4,
 Ld 9 8,
 It 10 (.lenk 0 (.t 9)),
 It 11 (.bin .lss (.t 7) (.t 10))] [7,8,9,10])
 (.cond (.t 11)
 (.region [] [11])
 (.exit 0)))
 (.seq (.block 1
 (.region [Of 14 3 4,
 Ld 15 14,
 Of 16 1 4,
 Ld 17 16,
 Mv 18 4,
 It 19 (.iaddr 5 (.t 17) (.t 18)),
 It 20 (.load (some 5) (.t 19)),
 ⟨(some 21),(.call 97 [(.t 20)]),none,[(15,(.load none (.t 14)),none)]⟩,
 It 22 (.bsl 5 1 [i0,i0,.ns,(.s []),.ns] [(0,5,(.t 21))]),
 It 23 (.app 5 80 (.t 15) (.t 22)),
 Of 24 3 4,
 ⟨none,(.store 1 (.t 24) (.t 23)),none,[]⟩] [14,15,16,17,18,19,20,21,22,23,24]))
 (.region [Mv 12 4,
 It 13 (.bin .add (.t 12) (.c (.i .i64 (1)))),
 Mv 4 13] [12,13])))
def I38:IFunc :=
  ⟨(.seq (.region [It 1 (.box (.t 0)),
 It 2 (.alloc [i0,i0,i0,i0,.ns,.ns,i0,i0,i0,i0,i0,i0,(.s []),.ns,.ns,i0])] [0])
 (.seq (.region [It 5 (.load (some 16) (.t 1)),
 It 3 (.alloc [i0,i0,i0,i0,.ns,.ns,i0,i0,i0,i0,i0,i0,(.s []),.ns,.ns,i0]),
 ⟨none,(.store 16 (.t 3) (.t 5)),none,[]⟩] [5])
 (.seq (.region [Of 6 3 4,
 ⟨none,(.store 1 (.t 6) (.c .ns)),none,[]⟩] [6])
 (.seq (.seq (.region [It 4 (.mov (.c i0))] [])
 (.block 0
 (.loop L38a)))
 (.seq (.region [Of 25 1 5,
 Ld 26 25,
 It 27 (.call 98 [(.t 26)]),
 Of 28 3 5,
 ⟨none,(.store 1 (.t 28) (.t 27)),none,[]⟩] [4,11,25,26,27,28])
 (.seq (.region [Of 29 1 8,
 Of 30 29 2,
 It 31 (.load (some 5) (.t 30)),
 It 32 (.call 99 [(.t 31)]),
 Of 33 3 8,
 Of 34 33 2,
 ⟨none,(.store 5 (.t 34) (.t 32)),none,[]⟩] [1,29,30,31,32,33,34])
 (.seq (.region [It 35 (.load (some 16) (.t 3)),
 ⟨none,(.store 16 (.t 2) (.t 35)),none,[]⟩] [3,35])
 .ret))))))),
    36,1,[.c 2 (some 16)],2⟩
theorem tr38:trFunc Tryz.prog (hz [(6,[0,1,2,3,4,5,6,7,8,9,10,11])] I38.body) 1 Tryz.f38=some (plain1 I38):=by kernel_rfl
theorem ck38:ckC 2 I38.body=true:=by kernel_rfl
def I39:IFunc :=
  ⟨(.seq (.region [It 1 (.box (.t 0)),
 It 2 (.alloc [i0,i0,.ns,(.s []),.ns])] [0])
 (.seq (.region [Of 3 1 0,
 Ld 4 3,
 Of 5 1 1,
 Ld 6 5,
 Of 7 1 2,
 Ld 8 7,
 Of 10 1 3,
 Ld 11 10,
 Of 12 1 4,
 Ld 13 12,
 ⟨(some 9),(.call 40 [(.t 8)]),none,[(4,(.load none (.t 3)),none),(6,(.load none (.t 5)),none),(11,(.load none (.t 10)),none),(13,(.load none (.t 12)),none)]⟩,
 It 14 (.build [i0,i0,.ns,(.s []),.ns] [(0,1,(.t 4)),(1,1,(.t 6)),(2,1,(.t 9)),(3,1,(.t 11)),(4,1,(.t 13))]),
 ⟨none,(.store 5 (.t 2) (.t 14)),none,[]⟩] [1,3,4,5,6,7,8,10,11,12,13,9,14])
 .ret)),
    15,1,[.c 2 (some 5)],2⟩
theorem tr39:trFunc Tryz.prog (hz [(1,[0,1,2,3,4,5,7,8,9,10,6,11,12])] I39.body) 1 Tryz.f39=some (plain1 I39):=by kernel_rfl
theorem ck39:ckC 2 I39.body=true:=by kernel_rfl
def L40a:ICode :=
  (.seq (.seq (.region [Mv 5 4,
 Mv 6 0,
 It 7 (.lenk 0 (.t 6)),
 It 8 (.bin .lss (.t 5) (.t 7))] [5,6,7])
 (.cond (.t 8)
 (.region [] [8])
 (.exit 0)))
 (.seq (.block 1
 (.region [Mv 11 3,
 Mv 12 0,
 Mv 13 4,
 It 14 (.iaddr 7 (.t 12) (.t 13)),
 Of 15 14 0,
 Ld 16 15,
 Mv 17 0,
 Mv 18 4,
 It 19 (.iaddr 7 (.t 17) (.t 18)),
 Of 20 19 1,
 Ld 21 20,
 Mv 22 0,
 Mv 23 4,
 It 24 (.iaddr 7 (.t 22) (.t 23)),
 Of 25 24 2,
 It 26 (.load (some 5) (.t 25)),
 It 27 (.build [i0,i0,i0,i0,(.s []),.ns,.ns] [(0,1,(.t 16)),(1,1,(.t 21)),(2,5,(.t 26))]),
 It 28 (.bsl 7 1 [i0,i0,i0,i0,(.s []),.ns,.ns] [(0,7,(.t 27))]),
 It 29 (.app 7 96 (.t 11) (.t 28)),
 Mv 3 29] [11,12,13,14,15,16,17,18,19,20,21,22,23,24,25,26,27,28,29]))
 (.region [Mv 9 4,
 It 10 (.bin .add (.t 9) (.c (.i .i64 (1)))),
 Mv 4 10] [9,10])))
def I40:IFunc :=
  ⟨(.seq (.region [It 2 (.mov (.c .ns))] [2])
 (.seq (.region [It 3 (.mov (.c .ns))] [])
 (.seq (.seq (.region [It 4 (.mov (.c i0))] [])
 (.block 0
 (.loop L40a)))
 (.seq (.region [Mv 30 3,
 Mv 2 30] [0,3,4,8,30])
 .ret)))),
    31,1,[.t 2],2⟩
theorem tr40:trFunc Tryz.prog (hz [(5,[0,1,2,3,4,5,6,7,8,9,10,11,12,13,14,15,16,17,18,19])] I40.body) 1 Tryz.f40=some (plain1 I40):=by kernel_rfl
theorem ck40:ckC 2 I40.body=true:=by kernel_rfl
def I41:IFunc :=
  ⟨(.seq (.region [It 1 (.box (.t 0)),
 It 2 (.mov (.c (.b false)))] [0,2])
 (.seq (.region [It 3 (.load (some 5) (.t 1)),
 It 4 (.call 31 [(.t 3)]),
 It 5 (.un .not (.t 4)),
 Mv 2 5] [1,3,4,5])
 .ret)),
    6,1,[.t 2],2⟩
theorem tr41:trFunc Tryz.prog (hz [] I41.body) 1 Tryz.f41=some (plain1 I41):=by kernel_rfl
theorem ck41:ckC 2 I41.body=true:=by kernel_rfl
def I42:IFunc :=
  ⟨(.seq (.region [It 3 (.box (.t 0)),
 It 4 (.alloc [i0,i0,(.s []),.ns,.ns])] [0])
 (.seq (.seq (.region [Of 5 3 0,
 Ld 6 5] [5])
 (.block 0
 (.seq (.region [It 8 (.bin .eql (.t 6) (.c (.i .i64 (1)))),
 Mv 7 8] [8])
 (.cond (.t 7)
 (.seq (.region [Ld 9 1,
 Of 10 3 1,
 Ld 11 10,
 It 12 (.iaddr 5 (.t 9) (.t 11)),
 It 13 (.load (some 5) (.t 12)),
 ⟨none,(.store 5 (.t 4) (.t 13)),none,[]⟩] [1,2,3,6,7,9,10,11,12,13])
 .ret)
 (.seq (.region [It 15 (.bin .eql (.t 6) (.c (.i .i64 (2)))),
 Mv 14 15] [1,6,7,15])
 (.cond (.t 14)
 (.seq (.region [Ld 16 2,
 Of 17 3 1,
 Ld 18 17,
 It 19 (.iaddr 5 (.t 16) (.t 18)),
 It 20 (.load (some 5) (.t 19)),
 ⟨none,(.store 5 (.t 4) (.t 20)),none,[]⟩] [2,3,14,16,17,18,19,20])
 .ret)
 (.region [] [2,14])))))))
 (.seq (.region [Of 21 3 2,
 It 22 (.load (some 5) (.t 21)),
 ⟨none,(.store 5 (.t 4) (.t 22)),none,[]⟩] [3,21,22])
 .ret))),
    23,3,[.c 4 (some 5)],2⟩
theorem tr42:trFunc Tryz.prog (hz [] I42.body) 1 Tryz.f42=some (plain1 I42):=by kernel_rfl
theorem ck42:ckC 2 I42.body=true:=by kernel_rfl
-- 43 encore/cuts.Of LACKING
def I44:IFunc :=
  ⟨(.seq (.region [It 2 (.box (.t 0)),
 It 4 (.mov (.c .ns)),
 It 5 (.mov (.c i0))] [0,4,5])
 (.seq (.seq (.region [It 7 (.load (some 2) (.t 2)),
 It 8 (.call 102 [(.t 7)]),
 Mv 6 8] [7,8])
 (.seq (.region [Mv 9 6,
 It 10 (.bin .neq (.t 9) (.c i0))] [9])
 (.cond (.t 10)
 (.seq (.region [Mv 11 6,
 It 4 (.mov (.c .ns)),
 Mv 5 11] [1,2,6,10,11])
 .ret)
 (.region [] [6,10]))))
 (.seq (.seq (.region [Mv 12 1,
 It 13 (.bin .lss (.t 12) (.c i0)),
 Mv 14 13,
 Ig 15 14 false (.mov (.t 1)),
 Ig 16 14 false (.off (.t 2) 0),
 Ig 17 14 false (.load none (.t 16)),
 Ig 18 14 false (.lenk 0 (.t 17)),
 Ig 19 14 false (.bin .geq (.t 15) (.t 18)),
 It 20 (.pick (.t 14) (.c (.b true)) (.t 19))] [12,13,14,15,16,17,18,19])
 (.cond (.t 20)
 (.seq (.region [It 4 (.mov (.c .ns)),
 It 5 (.mov (.c (.i .i64 (9))))] [1,2,20])
 .ret)
 (.region [] [20])))
 (.seq (.region [It 21 (.load (some 2) (.t 2)),
 Of 22 2 0,
 Ld 23 22,
 Mv 24 1,
 It 25 (.iaddr 4 (.t 23) (.t 24)),
 It 26 (.load (some 4) (.t 25)),
 It 27 (.call 103 [(.t 21),(.t 26)]),
 Ex 28 27 0,
 Ex 29 27 1,
 Mv 4 28,
 Mv 5 29] [1,2,21,22,23,24,25,26,27,28,29])
 .ret)))),
    30,2,[.t 4,.t 5],2⟩
theorem tr44:trFunc Tryz.prog (hz [(8,[0,1,2,3,4,5,6,7,8,9,10])] I44.body) 1 Tryz.f44=some (plain1 I44):=by kernel_rfl
theorem ck44:ckC 2 I44.body=true:=by kernel_rfl
def I45:IFunc :=
  ⟨(.seq (.region [It 3 (.box (.t 1)),
 It 4 (.alloc [i0,i0,i0,i0]),
 It 5 (.mov (.c (.b false)))] [1,5])
 (.seq (.region [Mv 7 0,
 It 8 (.mkf 105 [] [(.t 3)]),
 It 9 (.call 104 [(.t 7),(.t 8)]),
 Mv 6 9] [3,7,8,9])
 (.seq (.seq (.region [Mv 10 6,
 It 11 (.bin .lss (.t 10) (.c i0))] [10])
 (.cond (.t 11)
 (.seq (.region [It 12 (.build [i0,i0,i0,i0] []),
 ⟨none,(.store 4 (.t 4) (.t 12)),none,[]⟩,
 It 5 (.mov (.c (.b false)))] [0,6,11,12])
 .ret)
 (.region [] [11])))
 (.seq (.region [Mv 13 0,
 Mv 14 6,
 It 15 (.iaddr 4 (.t 13) (.t 14)),
 It 16 (.load (some 4) (.t 15)),
 ⟨none,(.store 4 (.t 4) (.t 16)),none,[]⟩,
 It 5 (.mov (.c (.b true)))] [0,6,13,14,15,16])
 .ret)))),
    17,2,[.c 4 (some 4),.t 5],2⟩
theorem tr45:trFunc Tryz.prog (hz [] I45.body) 1 Tryz.f45=some (plain1 I45):=by kernel_rfl
theorem ck45:ckC 2 I45.body=true:=by kernel_rfl
def I46:IFunc :=
  ⟨(.region [Mv 4 0,
 Mv 5 0,
 It 6 (.nck (.t 5)),
 Of 7 6 19,
 Ld 8 7,
 Mv 9 1,
 It 10 (.app 7 96 (.t 8) (.t 9)),
 It 11 (.nck (.t 4)),
 Of 12 11 19,
 ⟨none,(.store 1 (.t 12) (.t 10)),none,[]⟩] [0,1,4,5,6,7,8,9,10,11,12]),
    13,2,[],0⟩
theorem tr46:trFunc Tryz.prog (hz [] I46.body) 0 Tryz.f46=some (plain1 I46):=by kernel_rfl
theorem ck46:ckC 2 I46.body=true:=by kernel_rfl
def I47:IFunc:=⟨cloneCode 7 96,8,1,[.t 2],4⟩
theorem tr47:trFunc Tryz.prog [([],[]),([],[]),([],[]),([],[]),([],[])] 1 Tryz.f47=some (plain1 I47):=by kernel_rfl
theorem ck47:ckC 2 (cloneCode 7 96)=true:=by kernel_rfl
def I48:IFunc :=
  ⟨(.seq (.region [It 5 (.box (.t 2))] [2])
 (.seq (.region [Mv 6 0,
 Mv 7 1,
 Of 8 5 0,
 Ld 9 8,
 Of 10 5 0,
 Ld 11 10,
 Of 12 5 1,
 Ld 13 12,
 It 14 (.bin .add (.t 11) (.t 13)),
 It 15 (.sl 3 (.t 7) (some (.t 9)) (some (.t 14)) none),
 It 16 (.call 106 [(.t 6),(.t 15)])] [1,6,7,8,9,10,11,12,13,14,15,16])
 (.seq (.region [Mv 17 0,
 It 18 (.nck (.t 17)),
 Of 19 18 2,
 Of 20 19 2,
 Ld 21 20,
 Of 22 5 1,
 Ld 23 22,
 It 24 (.bin .add (.t 21) (.t 23)),
 It 25 (.nck (.t 17)),
 Of 26 25 2,
 Of 27 26 2,
 ⟨none,(.store 1 (.t 27) (.t 24)),none,[]⟩] [17,18,19,20,21,22,23,24,25,26,27])
 (.seq (.region [Mv 28 0,
 Mv 29 0,
 Of 30 5 2,
 Ld 31 30,
 Of 32 5 3,
 Ld 33 32,
 It 34 (.nck (.t 28)),
 Of 35 34 2,
 Of 36 35 6,
 ⟨none,(.store 1 (.t 36) (.t 31)),none,[(33,(.load none (.t 32)),none)]⟩,
 It 37 (.nck (.t 29)),
 Of 38 37 2,
 Of 39 38 7,
 ⟨none,(.store 1 (.t 39) (.t 33)),none,[]⟩] [28,29,30,31,32,33,34,35,36,37,38,39])
 (.seq (.region [Of 40 5 2,
 Ld 41 40,
 It 42 (.bin .eql (.t 41) (.c (.i .i64 (2))))] [5,40,41])
 (.cond (.t 42)
 (.region [Mv 43 0,
 Mv 44 0,
 It 45 (.call 107 [(.t 44),(.c (.i .i64 (1)))]),
 It 46 (.iaddr 7 (.t 45) (.c i0)),
 It 47 (.load (some 7) (.t 46)),
 It 48 (.nck (.t 43)),
 Of 49 48 2,
 Of 50 49 8,
 ⟨none,(.store 7 (.t 50) (.t 47)),none,[]⟩] [0,42,43,44,45,46,47,48,49,50])
 (.region [] [0,42]))))))),
    51,3,[],0⟩
theorem tr48:trFunc Tryz.prog (hz [(2,[0,1,2,3,4,5,6,7,8,9,10,11]),(3,[0,1,2,3,4,5,6,7,8,9,10,11,12,13])] I48.body) 0 Tryz.f48=some (plain1 I48):=by kernel_rfl
theorem ck48:ckC 2 I48.body=true:=by kernel_rfl
def I49:IFunc :=
  ⟨(.seq (.region [It 4 (.alloc [(.s []),i0,i0,.ns]),
 It 5 (.mov (.c (.b false)))] [5])
 (.seq (.seq (.region [Mv 6 0,
 It 7 (.nck (.t 6)),
 Of 8 7 2,
 Of 9 8 6,
 Ld 10 9,
 It 11 (.bin .neq (.t 10) (.c (.i .i64 (3)))),
 Mv 12 11,
 Ig 13 12 false (.mov (.t 0)),
 Ig 14 12 false (.nck (.t 13)),
 Ig 15 12 false (.off (.t 14) 2),
 Ig 16 12 false (.off (.t 15) 7),
 Ig 17 12 false (.load none (.t 16)),
 Ig 18 12 false (.mov (.t 1)),
 Ig 19 12 false (.lenk 0 (.t 18)),
 Ig 20 12 false (.bin .geq (.t 17) (.t 19)),
 It 21 (.pick (.t 12) (.c (.b true)) (.t 20)),
 Mv 22 21,
 Ig 23 22 false (.mov (.t 1)),
 Ig 24 22 false (.mov (.t 0)),
 Ig 25 22 false (.nck (.t 24)),
 Ig 26 22 false (.off (.t 25) 2),
 Ig 27 22 false (.off (.t 26) 7),
 Ig 28 22 false (.load none (.t 27)),
 Ig 29 22 false (.iaddr 3 (.t 23) (.t 28)),
 Ig 30 22 false (.off (.t 29) 0),
 Ig 31 22 false (.load none (.t 30)),
 Ig 32 22 false (.bin .neq (.t 31) (.c (.i .i64 (29)))),
 It 33 (.pick (.t 22) (.c (.b true)) (.t 32)),
 Mv 34 33,
 Ig 35 34 false (.mov (.t 0)),
 Ig 36 34 false (.nck (.t 35)),
 Ig 37 34 false (.off (.t 36) 0),
 Ig 38 34 false (.load (some 2) (.t 37)),
 Ig 39 34 false (.mov (.t 1)),
 Ig 40 34 false (.mov (.t 0)),
 Ig 41 34 false (.nck (.t 40)),
 Ig 42 34 false (.off (.t 41) 2),
 Ig 43 34 false (.off (.t 42) 7),
 Ig 44 34 false (.load none (.t 43)),
 Ig 45 34 false (.iaddr 3 (.t 39) (.t 44)),
 Ig 46 34 false (.off (.t 45) 1),
 Ig 47 34 false (.load none (.t 46)),
 Ig 48 34 false (.call 26 [(.t 38),(.t 47)]),
 Ig 49 34 false (.un .not (.t 48)),
 It 50 (.pick (.t 34) (.c (.b true)) (.t 49))] [6,7,8,9,10,11,12,13,14,15,16,17,18,19,20,21,22,23,24,25,26,27,28,29,30,31,32,33,34,35,36,37,38,39,40,41,42,43,44,45,46,47,48,49])
 (.cond (.t 50)
 (.seq (.region [It 51 (.build [(.s []),i0,i0,.ns] []),
 ⟨none,(.store 4 (.t 4) (.t 51)),none,[]⟩,
 It 5 (.mov (.c (.b false)))] [0,1,50,51])
 .ret)
 (.region [] [50])))
 (.seq (.region [Mv 52 0,
 It 53 (.nck (.t 52)),
 Of 54 53 0,
 Of 55 54 0,
 Ld 56 55,
 Mv 57 1,
 Mv 58 0,
 It 59 (.nck (.t 58)),
 Of 60 59 2,
 Of 61 60 7,
 Ld 62 61,
 It 63 (.iaddr 3 (.t 57) (.t 62)),
 Of 64 63 1,
 Ld 65 64,
 It 66 (.iaddr 4 (.t 56) (.t 65)),
 It 67 (.load (some 4) (.t 66)),
 ⟨none,(.store 4 (.t 4) (.t 67)),none,[]⟩,
 It 5 (.mov (.c (.b true)))] [0,1,52,53,54,55,56,57,58,59,60,61,62,63,64,65,66,67])
 .ret))),
    68,2,[.c 4 (some 4),.t 5],0⟩
theorem tr49:trFunc Tryz.prog (hz [(1,[0,1,2,3,4,5,6,7,8,9,10,11,12,13,14,15,16,17,18,19,20,21,22,23,24,25,26,27,28,29,30,31,32,33,34,35,36,37,38,39,40,41,42,43,44]),(4,[0,1,2,3,4,5,6,7,8,9,10,11,12,13,14,15,16,17])] I49.body) 0 Tryz.f49=some (plain1 I49):=by kernel_rfl
theorem ck49:ckC 2 I49.body=true:=by kernel_rfl
def L50a:ICode :=
  (.seq (.seq (.region [Mv 24 4,
 It 25 (.nck (.t 24)),
 Of 26 25 18,
 Ld 27 26,
 It 28 (.lenk 0 (.t 27)),
 Of 29 3 2,
 Ld 30 29,
 It 31 (.bin .lss (.t 28) (.t 30))] [24,25,26,27,28,29,30])
 (.cond (.t 31)
 (.region [] [31])
 (.exit 0)))
 (.block 1
 (.region [Mv 32 4,
 Mv 33 4,
 It 34 (.nck (.t 33)),
 Of 35 34 18,
 Ld 36 35,
 It 37 (.build [i0,i0,i0,i0,(.s []),.ns,.ns] [(0,1,(.c (.i .i64 (3))))]),
 It 38 (.bsl 7 1 [i0,i0,i0,i0,(.s []),.ns,.ns] [(0,7,(.t 37))]),
 It 39 (.app 7 96 (.t 36) (.t 38)),
 It 40 (.nck (.t 32)),
 Of 41 40 18,
 ⟨none,(.store 1 (.t 41) (.t 39)),none,[]⟩] [32,33,34,35,36,37,38,39,40,41])))
def I50:IFunc :=
  ⟨(.seq (.region [It 3 (.box (.t 1))] [1])
 (.seq (.region [Mv 5 0,
 It 6 (.nck (.t 5)),
 Of 7 6 0,
 It 8 (.load (some 2) (.t 7)),
 Mv 9 0,
 Of 10 3 1,
 Ld 11 10,
 ⟨(some 12),(.call 107 [(.t 9),(.t 11)]),none,[(8,(.load (some 2) (.t 7)),none)]⟩,
 It 13 (.build [.ns,.ns,i0,i0,i0,i0,.ns,.ns,i0,i0,i0,i0,i0,i0,(.s []),.ns,.ns,i0,.ns,.ns] [(0,2,(.t 8)),(18,1,(.t 12))]),
 It 14 (.box (.t 13)),
 Mv 4 14] [5,6,7,8,9,10,11,12,13,14])
 (.seq (.region [Mv 15 4,
 Mv 16 0,
 It 17 (.nck (.t 16)),
 Of 18 17 2,
 Of 19 18 4,
 Ld 20 19,
 It 21 (.nck (.t 15)),
 Of 22 21 2,
 Of 23 22 4,
 ⟨none,(.store 1 (.t 23) (.t 20)),none,[]⟩] [15,16,17,18,19,20,21,22,23])
 (.seq (.block 0
 (.loop L50a))
 (.seq (.region [Mv 42 4,
 Of 43 3 3,
 Ld 44 43,
 It 45 (.call 106 [(.t 42),(.t 44)])] [31,42,43,44,45])
 (.seq (.region [Mv 46 0,
 Mv 47 4,
 It 48 (.nck (.t 47)),
 Of 49 48 2,
 Of 50 49 4,
 Ld 51 50,
 It 52 (.nck (.t 46)),
 Of 53 52 2,
 Of 54 53 4,
 ⟨none,(.store 1 (.t 54) (.t 51)),none,[]⟩] [46,47,48,49,50,51,52,53,54])
 (.seq (.region [Mv 55 0,
 Mv 56 4,
 It 57 (.call 107 [(.t 56),(.c (.i .i64 (1)))]),
 It 58 (.call 46 [(.t 55),(.t 57)])] [4,55,56,57,58])
 (.seq (.region [Mv 59 0,
 It 60 (.nck (.t 59)),
 Of 61 60 2,
 Of 62 61 2,
 Ld 63 62,
 Of 64 3 3,
 Ld 65 64,
 It 66 (.lenk 0 (.t 65)),
 It 67 (.bin .add (.c (.i .i64 (1))) (.t 66)),
 It 68 (.bin .add (.t 63) (.t 67)),
 It 69 (.nck (.t 59)),
 Of 70 69 2,
 Of 71 70 2,
 ⟨none,(.store 1 (.t 71) (.t 68)),none,[]⟩] [3,59,60,61,62,63,64,65,66,67,68,69,70,71])
 (.region [Mv 72 0,
 It 73 (.nck (.t 72)),
 Of 74 73 2,
 Of 75 74 15,
 ⟨none,(.store 1 (.t 75) (.c (.i .i64 (1)))),none,[]⟩] [0,72,73,74,75]))))))))),
    76,2,[],0⟩
theorem tr50:trFunc Tryz.prog (hz [(1,[0,1,2,3,4,5,6,7,8,9,10]),(3,[0,1,2,3,4,5,6,7]),(9,[0,1,2,3,4,5,6,7,8,9,10,11,12,13])] I50.body) 0 Tryz.f50=some (plain1 I50):=by kernel_rfl
theorem ck50:ckC 2 I50.body=true:=by kernel_rfl
def I51:IFunc :=
  ⟨(.seq (.region [It 2 (.box (.t 0)),
 It 3 (.box (.t 1)),
 It 4 (.mov (.c (.b false)))] [0,1,4])
 (.seq (.region [Of 5 2 0,
 Ld 6 5,
 Of 7 3 0,
 Ld 8 7,
 It 9 (.bin .eql (.t 6) (.t 8)),
 Mv 10 9,
 Ig 11 10 true (.off (.t 2) 1),
 Ig 12 10 true (.load none (.t 11)),
 Ig 13 10 true (.off (.t 3) 1),
 Ig 14 10 true (.load none (.t 13)),
 Ig 15 10 true (.bin .eql (.t 12) (.t 14)),
 It 16 (.pick (.t 10) (.t 15) (.c (.b false))),
 Mv 17 16,
 Ig 18 17 true (.off (.t 2) 3),
 Ig 19 17 true (.load none (.t 18)),
 Ig 20 17 true (.off (.t 3) 3),
 Ig 21 17 true (.load none (.t 20)),
 Ig 22 17 true (.bin .eql (.t 19) (.t 21)),
 It 23 (.pick (.t 17) (.t 22) (.c (.b false))),
 Mv 24 23,
 Ig 25 24 true (.off (.t 2) 2),
 Ig 26 24 true (.load none (.t 25)),
 Ig 27 24 true (.off (.t 3) 2),
 Ig 28 24 true (.load none (.t 27)),
 Ig 29 24 true (.call 52 [(.t 26),(.t 28)]),
 It 30 (.pick (.t 24) (.t 29) (.c (.b false))),
 Mv 31 30,
 Ig 32 31 true (.off (.t 2) 4),
 Ig 33 31 true (.load none (.t 32)),
 Ig 34 31 true (.off (.t 3) 4),
 Ig 35 31 true (.load none (.t 34)),
 Ig 36 31 true (.call 108 [(.t 33),(.t 35)]),
 It 37 (.pick (.t 31) (.t 36) (.c (.b false))),
 Mv 4 37] [2,3,5,6,7,8,9,10,11,12,13,14,15,16,17,18,19,20,21,22,23,24,25,26,27,28,29,30,31,32,33,34,35,36,37])
 .ret)),
    38,2,[.t 4],2⟩
theorem tr51:trFunc Tryz.prog (hz [] I51.body) 1 Tryz.f51=some (plain1 I51):=by kernel_rfl
theorem ck51:ckC 2 I51.body=true:=by kernel_rfl
def L52a:ICode :=
  (.seq (.seq (.region [Mv 11 5,
 Mv 12 0,
 It 13 (.lenk 0 (.t 12)),
 It 14 (.bin .lss (.t 11) (.t 13))] [11,12,13])
 (.cond (.t 14)
 (.region [] [14])
 (.exit 0)))
 (.seq (.block 1
 (.seq (.region [Mv 17 0,
 Mv 18 5,
 It 19 (.iaddr 7 (.t 17) (.t 18)),
 It 20 (.load (some 7) (.t 19)),
 Mv 21 1,
 Mv 22 5,
 It 23 (.iaddr 7 (.t 21) (.t 22)),
 It 24 (.load (some 7) (.t 23)),
 It 25 (.call 53 [(.t 20),(.t 24)]),
 It 26 (.un .not (.t 25))] [17,18,19,20,21,22,23,24,25])
 (.cond (.t 26)
 (.seq (.region [It 4 (.mov (.c (.b false)))] [0,1,5,26])
 .ret)
 (.region [] [26]))))
 (.region [Mv 15 5,
 It 16 (.bin .add (.t 15) (.c (.i .i64 (1)))),
 Mv 5 16] [15,16])))
def I52:IFunc :=
  ⟨(.seq (.region [It 4 (.mov (.c (.b false)))] [4])
 (.seq (.seq (.region [Mv 6 0,
 It 7 (.lenk 0 (.t 6)),
 Mv 8 1,
 It 9 (.lenk 0 (.t 8)),
 It 10 (.bin .neq (.t 7) (.t 9))] [6,7,8,9])
 (.cond (.t 10)
 (.seq (.region [It 4 (.mov (.c (.b false)))] [0,1,10])
 .ret)
 (.region [] [10])))
 (.seq (.seq (.region [It 5 (.mov (.c i0))] [])
 (.block 0
 (.loop L52a)))
 (.seq (.region [It 4 (.mov (.c (.b true)))] [0,1,5,14])
 .ret)))),
    27,2,[.t 4],2⟩
theorem tr52:trFunc Tryz.prog (hz [(7,[0,1,2,3,4,5,6,7,8,9])] I52.body) 1 Tryz.f52=some (plain1 I52):=by kernel_rfl
theorem ck52:ckC 2 I52.body=true:=by kernel_rfl
def I53:IFunc :=
  ⟨(.seq (.region [It 2 (.box (.t 0)),
 It 3 (.box (.t 1)),
 It 4 (.mov (.c (.b false)))] [0,1,4])
 (.seq (.region [Of 5 2 0,
 Ld 6 5,
 Of 7 3 0,
 Ld 8 7,
 It 9 (.bin .eql (.t 6) (.t 8)),
 Mv 10 9,
 Ig 11 10 true (.off (.t 2) 1),
 Ig 12 10 true (.load none (.t 11)),
 Ig 13 10 true (.off (.t 3) 1),
 Ig 14 10 true (.load none (.t 13)),
 Ig 15 10 true (.bin .eql (.t 12) (.t 14)),
 It 16 (.pick (.t 10) (.t 15) (.c (.b false))),
 Mv 17 16,
 Ig 18 17 true (.off (.t 2) 2),
 Ig 19 17 true (.load (some 5) (.t 18)),
 Ig 20 17 true (.off (.t 3) 2),
 Ig 21 17 true (.load (some 5) (.t 20)),
 Ig 22 17 true (.call 10 [(.t 19),(.t 21)]),
 It 23 (.pick (.t 17) (.t 22) (.c (.b false))),
 Mv 4 23] [2,3,5,6,7,8,9,10,11,12,13,14,15,16,17,18,19,20,21,22,23])
 .ret)),
    24,2,[.t 4],2⟩
theorem tr53:trFunc Tryz.prog (hz [] I53.body) 1 Tryz.f53=some (plain1 I53):=by kernel_rfl
theorem ck53:ckC 2 I53.body=true:=by kernel_rfl
def L54a:ICode :=
  (.seq (.seq (.region [Mv 5 4,
 Mv 6 0,
 It 7 (.lenk 0 (.t 6)),
 It 8 (.bin .lss (.t 5) (.t 7))] [5,6,7])
 (.cond (.t 8)
 (.region [] [8])
 (.exit 0)))
 (.seq (.block 1
 (.region [Mv 11 3,
 Mv 12 0,
 Mv 13 4,
 It 14 (.iaddr 7 (.t 12) (.t 13)),
 Of 15 14 0,
 Ld 16 15,
 Mv 17 0,
 Mv 18 4,
 It 19 (.iaddr 7 (.t 17) (.t 18)),
 Of 20 19 1,
 Ld 21 20,
 Mv 22 0,
 Mv 23 4,
 It 24 (.iaddr 7 (.t 22) (.t 23)),
 Of 25 24 2,
 It 26 (.load (some 5) (.t 25)),
 It 27 (.build [i0,i0,i0,i0,(.s []),.ns,.ns] [(0,1,(.t 16)),(1,1,(.t 21)),(2,5,(.t 26))]),
 It 28 (.bsl 7 1 [i0,i0,i0,i0,(.s []),.ns,.ns] [(0,7,(.t 27))]),
 It 29 (.app 7 96 (.t 11) (.t 28)),
 Mv 3 29] [11,12,13,14,15,16,17,18,19,20,21,22,23,24,25,26,27,28,29]))
 (.region [Mv 9 4,
 It 10 (.bin .add (.t 9) (.c (.i .i64 (1)))),
 Mv 4 10] [9,10])))
def I54:IFunc :=
  ⟨(.seq (.region [It 2 (.mov (.c .ns))] [2])
 (.seq (.region [It 3 (.mov (.c .ns))] [])
 (.seq (.seq (.region [It 4 (.mov (.c i0))] [])
 (.block 0
 (.loop L54a)))
 (.seq (.region [Mv 30 3,
 Mv 2 30] [0,3,4,8,30])
 .ret)))),
    31,1,[.t 2],2⟩
theorem tr54:trFunc Tryz.prog (hz [(5,[0,1,2,3,4,5,6,7,8,9,10,11,12,13,14,15,16,17,18,19])] I54.body) 1 Tryz.f54=some (plain1 I54):=by kernel_rfl
theorem ck54:ckC 2 I54.body=true:=by kernel_rfl
def I55:IFunc :=
  ⟨(.seq (.region [It 3 (.box (.t 0)),
 It 6 (.mov (.c (.b false)))] [0,6])
 (.seq (.region [It 11 (.load (some 5) (.t 3)),
 It 12 (.call 28 [(.t 11)]),
 Mv 10 12,
 Ex 13 10 0,
 Ex 14 10 1,
 Ex 15 10 2,
 Mv 7 13,
 Mv 8 14,
 Mv 9 15] [11,12,10,13,14,15])
 (.seq (.region [Mv 16 9,
 Mv 17 16,
 Ig 18 17 true (.off (.t 3) 2),
 Ig 19 17 true (.load none (.t 18)),
 Ig 20 17 true (.lenk 0 (.t 19)),
 Ig 21 17 true (.mov (.t 7)),
 Ig 22 17 true (.bin .geq (.t 20) (.t 21)),
 It 23 (.pick (.t 17) (.t 22) (.c (.b false))),
 Mv 24 23,
 Ig 25 24 true (.off (.t 3) 2),
 Ig 26 24 true (.load none (.t 25)),
 Ig 27 24 true (.lenk 0 (.t 26)),
 Ig 28 24 true (.mov (.t 8)),
 Ig 29 24 true (.bin .leq (.t 27) (.t 28)),
 It 30 (.pick (.t 24) (.t 29) (.c (.b false))),
 Mv 31 30,
 Ig 32 31 true (.off (.t 3) 2),
 Ig 33 31 true (.load none (.t 32)),
 Ig 34 31 true (.mov (.t 1)),
 Ig 35 31 true (.mov (.t 2)),
 Ig 36 31 true (.call 58 [(.t 33),(.t 34),(.t 35)]),
 It 37 (.pick (.t 31) (.t 36) (.c (.b false))),
 Mv 6 37] [1,2,3,7,8,9,16,17,18,19,20,21,22,23,24,25,26,27,28,29,30,31,32,33,34,35,36,37])
 .ret))),
    38,3,[.t 6],2⟩
theorem tr55:trFunc Tryz.prog (hz [] I55.body) 1 Tryz.f55=some (plain1 I55):=by kernel_rfl
theorem ck55:ckC 2 I55.body=true:=by kernel_rfl
def I56:IFunc :=
  ⟨(.seq (.region [It 3 (.box (.t 0)),
 It 6 (.mov (.c (.b false)))] [0,6])
 (.seq (.seq (.region [Of 7 3 0,
 Ld 8 7] [7])
 (.block 0
 (.seq (.region [It 10 (.bin .eql (.t 8) (.c (.i .i64 (1)))),
 Mv 9 10] [10])
 (.cond (.t 9)
 (.seq (.region [Of 11 3 1,
 Ld 12 11,
 It 13 (.bin .geq (.t 12) (.c i0)),
 Mv 14 13,
 Ig 15 14 true (.off (.t 3) 1),
 Ig 16 14 true (.load none (.t 15)),
 Ig 17 14 true (.mov (.t 1)),
 Ig 18 14 true (.bin .lss (.t 16) (.t 17)),
 It 19 (.pick (.t 14) (.t 18) (.c (.b false))),
 Mv 20 19,
 Ig 21 20 true (.off (.t 3) 2),
 Ig 22 20 true (.load (some 5) (.t 21)),
 Ig 23 20 true (.call 57 [(.t 22)]),
 It 24 (.pick (.t 20) (.t 23) (.c (.b false))),
 Mv 6 24] [1,2,3,8,9,11,12,13,14,15,16,17,18,19,20,21,22,23,24])
 .ret)
 (.seq (.region [It 26 (.bin .eql (.t 8) (.c (.i .i64 (2)))),
 Mv 25 26] [1,9,26])
 (.cond (.t 25)
 (.seq (.region [Of 27 3 1,
 Ld 28 27,
 It 29 (.bin .geq (.t 28) (.c i0)),
 Mv 30 29,
 Ig 31 30 true (.off (.t 3) 1),
 Ig 32 30 true (.load none (.t 31)),
 Ig 33 30 true (.mov (.t 2)),
 Ig 34 30 true (.bin .lss (.t 32) (.t 33)),
 It 35 (.pick (.t 30) (.t 34) (.c (.b false))),
 Mv 36 35,
 Ig 37 36 true (.off (.t 3) 2),
 Ig 38 36 true (.load (some 5) (.t 37)),
 Ig 39 36 true (.call 57 [(.t 38)]),
 It 40 (.pick (.t 36) (.t 39) (.c (.b false))),
 Mv 6 40] [2,3,8,25,27,28,29,30,31,32,33,34,35,36,37,38,39,40])
 .ret)
 (.seq (.region [It 42 (.bin .eql (.t 8) (.c (.i .i64 (3)))),
 Mv 41 42] [2,8,25,42])
 (.cond (.t 41)
 (.seq (.region [Of 43 3 1,
 Ld 44 43,
 It 45 (.bin .eql (.t 44) (.c i0)),
 Mv 46 45,
 Ig 47 46 true (.off (.t 3) 2),
 Ig 48 46 true (.load (some 5) (.t 47)),
 Ig 49 46 true (.call 31 [(.t 48)]),
 It 50 (.pick (.t 46) (.t 49) (.c (.b false))),
 Mv 6 50] [3,41,43,44,45,46,47,48,49,50])
 .ret)
 (.region [] [3,41])))))))))
 (.seq (.region [It 6 (.mov (.c (.b false)))] [])
 .ret))),
    51,3,[.t 6],2⟩
theorem tr56:trFunc Tryz.prog (hz [] I56.body) 1 Tryz.f56=some (plain1 I56):=by kernel_rfl
theorem ck56:ckC 2 I56.body=true:=by kernel_rfl
def I57:IFunc :=
  ⟨(.seq (.region [It 1 (.box (.t 0)),
 It 2 (.mov (.c (.b false)))] [0,2])
 (.seq (.region [It 3 (.load (some 5) (.t 1)),
 It 4 (.build [i0,i0,(.s []),.ns,.ns] []),
 It 5 (.call 87 [(.t 3),(.t 4)]),
 Mv 2 5] [1,3,4,5])
 .ret)),
    6,1,[.t 2],2⟩
theorem tr57:trFunc Tryz.prog (hz [] I57.body) 1 Tryz.f57=some (plain1 I57):=by kernel_rfl
theorem ck57:ckC 2 I57.body=true:=by kernel_rfl
def I58:IFunc :=
  ⟨(.seq (.region [It 4 (.box (.t 1)),
 It 5 (.box (.t 2)),
 It 6 (.mov (.c (.b false)))] [1,2,6])
 (.seq (.region [Mv 7 0,
 It 8 (.mkf 110 [] [(.t 4),(.t 5)]),
 It 9 (.call 109 [(.t 7),(.t 8)]),
 It 10 (.un .not (.t 9)),
 Mv 6 10] [0,4,5,7,8,9,10])
 .ret)),
    11,3,[.t 6],2⟩
theorem tr58:trFunc Tryz.prog (hz [] I58.body) 1 Tryz.f58=some (plain1 I58):=by kernel_rfl
theorem ck58:ckC 2 I58.body=true:=by kernel_rfl
def I59:IFunc :=
  ⟨(.seq (.region [It 4 (.mov (.c (.b false)))] [4])
 (.seq (.region [Mv 5 0,
 Mv 6 1,
 It 7 (.call 111 [(.t 5),(.t 6)]),
 It 8 (.bin .geq (.t 7) (.c i0)),
 Mv 4 8] [0,1,5,6,7,8])
 .ret)),
    9,2,[.t 4],2⟩
theorem tr59:trFunc Tryz.prog (hz [] I59.body) 1 Tryz.f59=some (plain1 I59):=by kernel_rfl
theorem ck59:ckC 2 I59.body=true:=by kernel_rfl
def I60:IFunc :=
  ⟨(.seq (.region [It 1 (.box (.t 0)),
 It 2 (.mov (.c (.b false)))] [0,2])
 (.seq (.region [Of 3 1 0,
 Ld 4 3,
 It 5 (.call 61 [(.t 4)]),
 It 6 (.un .not (.t 5)),
 Mv 2 6] [1,3,4,5,6])
 .ret)),
    7,1,[.t 2],2⟩
theorem tr60:trFunc Tryz.prog (hz [] I60.body) 1 Tryz.f60=some (plain1 I60):=by kernel_rfl
theorem ck60:ckC 2 I60.body=true:=by kernel_rfl
def I61:IFunc :=
  ⟨(.seq (.region [It 2 (.mov (.c (.b false)))] [2])
 (.seq (.region [Mv 3 0,
 It 4 (.bin .geq (.t 3) (.c (.i .i64 (1)))),
 Mv 5 4,
 Ig 6 5 true (.mov (.t 0)),
 Ig 7 5 true (.bin .leq (.t 6) (.c (.i .i64 (23)))),
 It 8 (.pick (.t 5) (.t 7) (.c (.b false))),
 Mv 2 8] [0,3,4,5,6,7,8])
 .ret)),
    9,1,[.t 2],2⟩
theorem tr61:trFunc Tryz.prog (hz [] I61.body) 1 Tryz.f61=some (plain1 I61):=by kernel_rfl
theorem ck61:ckC 2 I61.body=true:=by kernel_rfl
def I62:IFunc :=
  ⟨(.seq (.region [It 1 (.box (.t 0)),
 It 2 (.mov (.c (.b false)))] [0,2])
 (.seq (.seq (.region [Of 3 1 0,
 Ld 4 3] [3])
 (.block 0
 (.seq (.region [It 6 (.bin .eql (.t 4) (.c i0)),
 Mv 5 6] [6])
 (.cond (.t 5)
 (.seq (.region [Of 7 1 1,
 Ld 8 7,
 It 9 (.bin .eql (.t 8) (.c i0)),
 Mv 10 9,
 Ig 11 10 true (.build [(.b false),(.b false),(.b false)] []),
 Ig 12 10 true (.load (some 5) (.t 1)),
 Ig 13 10 true (.call 112 [(.t 11),(.t 12)]),
 It 14 (.pick (.t 10) (.t 13) (.c (.b false))),
 Mv 2 14] [1,4,5,7,8,9,10,11,12,13,14])
 .ret)
 (.seq (.region [It 16 (.bin .eql (.t 4) (.c (.i .i64 (1)))),
 Mv 15 16] [5,16])
 (.cond (.t 15)
 (.seq (.region [It 17 (.build [(.b false),(.b false),(.b false)] []),
 It 18 (.load (some 5) (.t 1)),
 It 19 (.call 112 [(.t 17),(.t 18)]),
 Mv 2 19] [1,4,15,17,18,19])
 .ret)
 (.seq (.region [It 21 (.bin .eql (.t 4) (.c (.i .i64 (2)))),
 Mv 20 21] [15,21])
 (.cond (.t 20)
 (.seq (.region [Of 22 1 1,
 Ld 23 22,
 It 24 (.bin .andNot (.t 23) (.c (.i .i64 (1)))),
 It 25 (.bin .eql (.t 24) (.c i0)),
 Mv 26 25,
 Ig 27 26 true (.build [(.b false),(.b false),(.b false)] []),
 Ig 28 26 true (.load (some 5) (.t 1)),
 Ig 29 26 true (.call 112 [(.t 27),(.t 28)]),
 It 30 (.pick (.t 26) (.t 29) (.c (.b false))),
 Mv 2 30] [1,4,20,22,23,24,25,26,27,28,29,30])
 .ret)
 (.seq (.region [It 32 (.bin .eql (.t 4) (.c (.i .i64 (6)))),
 Mv 31 32] [20,32])
 (.cond (.t 31)
 (.seq (.region [Of 33 1 1,
 Ld 34 33,
 It 35 (.bin .geq (.t 34) (.c (.i .i64 (1)))),
 Mv 36 35,
 Ig 37 36 true (.off (.t 1) 1),
 Ig 38 36 true (.load none (.t 37)),
 Ig 39 36 true (.bin .leq (.t 38) (.c (.i .i64 (64)))),
 It 40 (.pick (.t 36) (.t 39) (.c (.b false))),
 Mv 41 40,
 Ig 42 41 true (.build [(.b false),(.b false),(.b false)] []),
 Ig 43 41 true (.load (some 5) (.t 1)),
 Ig 44 41 true (.call 112 [(.t 42),(.t 43)]),
 It 45 (.pick (.t 41) (.t 44) (.c (.b false))),
 Mv 2 45] [1,4,31,33,34,35,36,37,38,39,40,41,42,43,44,45])
 .ret)
 (.seq (.region [It 47 (.bin .eql (.t 4) (.c (.i .i64 (3)))),
 Mv 46 47] [31,47])
 (.cond (.t 46)
 (.seq (.region [Of 48 1 1,
 Ld 49 48,
 It 50 (.bin .eql (.t 49) (.c i0)),
 Mv 51 50,
 Ig 52 51 true (.off (.t 1) 2),
 Ig 53 51 true (.load none (.t 52)),
 Ig 54 51 true (.lenk 1 (.t 53)),
 Ig 55 51 true (.bin .leq (.t 54) (.c (.i .i64 (64)))),
 It 56 (.pick (.t 51) (.t 55) (.c (.b false))),
 Mv 57 56,
 Ig 58 57 true (.build [(.b false),(.b false),(.b false)] [(0,1,(.c (.b true)))]),
 Ig 59 57 true (.load (some 5) (.t 1)),
 Ig 60 57 true (.call 112 [(.t 58),(.t 59)]),
 It 61 (.pick (.t 57) (.t 60) (.c (.b false))),
 Mv 2 61] [1,4,46,48,49,50,51,52,53,54,55,56,57,58,59,60,61])
 .ret)
 (.seq (.region [It 63 (.bin .eql (.t 4) (.c (.i .i64 (4)))),
 Mv 62 63] [46,63])
 (.cond (.t 62)
 (.seq (.region [Of 64 1 1,
 Ld 65 64,
 It 66 (.bin .eql (.t 65) (.c i0)),
 Mv 67 66,
 Ig 68 67 true (.off (.t 1) 3),
 Ig 69 67 true (.load none (.t 68)),
 Ig 70 67 true (.lenk 0 (.t 69)),
 Ig 71 67 true (.bin .leq (.t 70) (.c (.i .i64 (32)))),
 It 72 (.pick (.t 67) (.t 71) (.c (.b false))),
 Mv 73 72,
 Ig 74 73 true (.build [(.b false),(.b false),(.b false)] [(1,1,(.c (.b true)))]),
 Ig 75 73 true (.load (some 5) (.t 1)),
 Ig 76 73 true (.call 112 [(.t 74),(.t 75)]),
 It 77 (.pick (.t 73) (.t 76) (.c (.b false))),
 Mv 2 77] [1,4,62,64,65,66,67,68,69,70,71,72,73,74,75,76,77])
 .ret)
 (.seq (.region [It 79 (.bin .eql (.t 4) (.c (.i .i64 (5)))),
 Mv 78 79] [4,62,79])
 (.cond (.t 78)
 (.seq (.region [Of 80 1 1,
 Ld 81 80,
 It 82 (.bin .eql (.t 81) (.c i0)),
 Mv 83 82,
 Ig 84 83 true (.off (.t 1) 3),
 Ig 85 83 true (.load none (.t 84)),
 Ig 86 83 true (.lenk 0 (.t 85)),
 Ig 87 83 true (.off (.t 1) 4),
 Ig 88 83 true (.load none (.t 87)),
 Ig 89 83 true (.lenk 0 (.t 88)),
 Ig 90 83 true (.bin .eql (.t 86) (.t 89)),
 It 91 (.pick (.t 83) (.t 90) (.c (.b false))),
 Mv 92 91,
 Ig 93 92 true (.off (.t 1) 3),
 Ig 94 92 true (.load none (.t 93)),
 Ig 95 92 true (.lenk 0 (.t 94)),
 Ig 96 92 true (.bin .leq (.t 95) (.c (.i .i64 (8)))),
 It 97 (.pick (.t 92) (.t 96) (.c (.b false))),
 Mv 98 97,
 Ig 99 98 true (.build [(.b false),(.b false),(.b false)] [(1,1,(.c (.b true))),(2,1,(.c (.b true)))]),
 Ig 100 98 true (.load (some 5) (.t 1)),
 Ig 101 98 true (.call 112 [(.t 99),(.t 100)]),
 It 102 (.pick (.t 98) (.t 101) (.c (.b false))),
 Mv 103 102,
 Ig 104 103 true (.off (.t 1) 4),
 Ig 105 103 true (.load none (.t 104)),
 Ig 106 103 true (.call 113 [(.t 105)]),
 It 107 (.pick (.t 103) (.t 106) (.c (.b false))),
 Mv 2 107] [1,78,80,81,82,83,84,85,86,87,88,89,90,91,92,93,94,95,96,97,98,99,100,101,102,103,104,105,106,107])
 .ret)
 (.region [] [1,78])))))))))))))))))
 (.seq (.region [It 2 (.mov (.c (.b false)))] [])
 .ret))),
    108,1,[.t 2],2⟩
theorem tr62:trFunc Tryz.prog (hz [] I62.body) 1 Tryz.f62=some (plain1 I62):=by kernel_rfl
theorem ck62:ckC 2 I62.body=true:=by kernel_rfl
def I63:IFunc :=
  ⟨(.seq (.region [It 2 (.mov (.c (.b false)))] [2])
 (.seq (.region [Mv 3 0,
 It 4 (.lenk 0 (.t 3)),
 It 5 (.bin .leq (.t 4) (.c (.i .i64 (8)))),
 Mv 6 5,
 Ig 7 6 true (.mov (.t 0)),
 Ig 8 6 true (.mov (.t 0)),
 Ig 9 6 true (.lenk 0 (.t 8)),
 Ig 10 6 true (.mksl 5 80 [i0,i0,(.s []),.ns,.ns] (.t 9) (.t 9)),
 Ig 11 6 true (.build [i0,i0,(.s []),.ns,.ns] [(0,1,(.c (.i .i64 (5)))),(4,1,(.t 7)),(3,1,(.t 10))]),
 Ig 12 6 true (.call 31 [(.t 11)]),
 It 13 (.pick (.t 6) (.t 12) (.c (.b false))),
 Mv 2 13] [0,3,4,5,6,7,8,9,10,11,12,13])
 .ret)),
    14,1,[.t 2],2⟩
theorem tr63:trFunc Tryz.prog (hz [] I63.body) 1 Tryz.f63=some (plain1 I63):=by kernel_rfl
theorem ck63:ckC 2 I63.body=true:=by kernel_rfl
def I64:IFunc :=
  ⟨(.seq (.region [It 2 (.mov (.c (.b false)))] [2])
 (.seq (.region [Mv 6 0,
 It 7 (.call 114 [(.t 6)]),
 Mv 5 7,
 Ex 8 5 0,
 Ex 9 5 1,
 It 3 (.alloc [i0,.ns,.ns]),
 ⟨none,(.store 3 (.t 3) (.t 8)),none,[]⟩,
 Mv 4 9] [0,6,7,5,8,9,3])
 (.seq (.region [Mv 10 4,
 Mv 2 10] [4,10])
 .ret))),
    11,1,[.t 2],2⟩
theorem tr64:trFunc Tryz.prog (hz [] I64.body) 1 Tryz.f64=some (plain1 I64):=by kernel_rfl
theorem ck64:ckC 2 I64.body=true:=by kernel_rfl
def L65a:ICode :=
  (.seq (.region [It 9 (.bin .lss (.t 8) (.t 7))] [])
 (.seq (.cond (.t 9)
 (.region [] [9])
 (.exit 0))
 (.seq (.block 1
 (.seq (.region [Mv 10 8,
 Mv 5 10] [10])
 (.seq (.region [Mv 11 1,
 Mv 12 0,
 Mv 13 5,
 It 14 (.iaddr 5 (.t 12) (.t 13)),
 It 15 (.load (some 5) (.t 14)),
 It 16 (.callv (.t 11) [(.t 15)])] [11,12,13,14,15])
 (.cond (.t 16)
 (.seq (.region [Mv 17 5,
 Mv 4 17] [0,1,7,8,5,16,17])
 .ret)
 (.region [] [5,16])))))
 (.region [It 18 (.bin .add (.t 8) (.c (.i .i64 (1)))),
 Mv 8 18] [18]))))
def I65:IFunc :=
  ⟨(.seq (.region [It 4 (.mov (.c i0))] [4])
 (.seq (.seq (.region [Mv 6 0,
 It 7 (.lenk 0 (.t 6)),
 It 8 (.mov (.c i0))] [6])
 (.block 0
 (.loop L65a)))
 (.seq (.region [It 4 (.mov (.c (.i .i64 (-1))))] [0,1,7,8,9])
 .ret))),
    19,2,[.t 4],2⟩
theorem tr65:trFunc Tryz.prog (hz [] I65.body) 1 Tryz.f65=some (plain1 I65):=by kernel_rfl
theorem ck65:ckC 2 I65.body=true:=by kernel_rfl
def I66:IFunc :=
  ⟨(.seq (.region [It 1 (.alloc [i0,i0,(.s []),.ns,.ns]),
 It 2 (.mov (.c (.b false)))] [2])
 (.seq (.region [Ld 3 0,
 It 4 (.call 67 [(.t 3)]),
 Ex 5 4 0,
 Ex 6 4 1,
 Ex 7 4 2,
 It 8 (.call 33 [(.t 5),(.t 6),(.t 7)]),
 Ex 9 8 0,
 Ex 10 8 1,
 ⟨none,(.store 5 (.t 1) (.t 9)),none,[]⟩,
 Mv 2 10] [0,3,4,5,6,7,8,9,10])
 .ret)),
    11,1,[.c 1 (some 5),.t 2],2⟩
theorem tr66:trFunc Tryz.prog (hz [] I66.body) 1 Tryz.f66=some (plain1 I66):=by kernel_rfl
theorem ck66:ckC 2 I66.body=true:=by kernel_rfl
def I67:IFunc :=
  ⟨(.seq (.region [It 2 (.alloc [i0,i0,(.s []),.ns,.ns]),
 It 3 (.mov (.c i0)),
 It 4 (.mov (.c i0))] [3,4])
 (.seq (.seq (.region [Mv 5 0,
 It 6 (.call 85 [(.t 5)]),
 It 7 (.un .not (.t 6))] [5,6])
 (.cond (.t 7)
 (.seq (.region [It 8 (.build [i0,i0,(.s []),.ns,.ns] []),
 ⟨none,(.store 5 (.t 2) (.t 8)),none,[]⟩,
 It 3 (.mov (.c i0)),
 It 4 (.mov (.c (.i .i64 (2))))] [0,7,8])
 .ret)
 (.region [] [7])))
 (.seq (.region [Mv 10 0,
 It 11 (.build [i0,i0,(.s []),.ns,.ns] [(0,1,(.c (.i .i64 (4)))),(3,1,(.t 10))]),
 It 12 (.call 115 [(.t 11)]),
 Mv 9 12,
 Ex 13 9 0,
 Ex 14 9 1,
 ⟨none,(.store 5 (.t 2) (.t 13)),none,[]⟩,
 Mv 3 14] [0,10,11,12,9,13,14])
 (.seq (.region [It 15 (.load (some 5) (.t 2)),
 Mv 16 3,
 ⟨none,(.store 5 (.t 2) (.t 15)),none,[]⟩,
 Mv 3 16,
 It 4 (.mov (.c i0))] [15,16])
 .ret)))),
    17,1,[.c 2 (some 5),.t 3,.t 4],2⟩
theorem tr67:trFunc Tryz.prog (hz [] I67.body) 1 Tryz.f67=some (plain1 I67):=by kernel_rfl
theorem ck67:ckC 2 I67.body=true:=by kernel_rfl
def I68:IFunc :=
  ⟨(.seq (.region [It 2 (.alloc [i0,i0,(.s []),.ns,.ns]),
 It 3 (.mov (.c (.b false)))] [3])
 (.seq (.region [Of 4 0 4,
 Ld 5 4,
 Ld 6 1,
 It 7 (.call 69 [(.t 5),(.t 6)]),
 Ex 8 7 0,
 Ex 9 7 1,
 Ex 10 7 2,
 It 11 (.call 33 [(.t 8),(.t 9),(.t 10)]),
 Ex 12 11 0,
 Ex 13 11 1,
 ⟨none,(.store 5 (.t 2) (.t 12)),none,[]⟩,
 Mv 3 13] [0,1,4,5,6,7,8,9,10,11,12,13])
 .ret)),
    14,2,[.c 2 (some 5),.t 3],2⟩
theorem tr68:trFunc Tryz.prog (hz [] I68.body) 1 Tryz.f68=some (plain1 I68):=by kernel_rfl
theorem ck68:ckC 2 I68.body=true:=by kernel_rfl
def I69:IFunc :=
  ⟨(.seq (.region [It 4 (.alloc [i0,i0,(.s []),.ns,.ns]),
 It 5 (.mov (.c i0)),
 It 6 (.mov (.c i0))] [5,6])
 (.seq (.seq (.region [Mv 7 0,
 It 8 (.call 116 [(.t 7)]),
 It 9 (.un .not (.t 8)),
 Mv 10 9,
 Ig 11 10 false (.mov (.t 1)),
 Ig 12 10 false (.lenk 0 (.t 11)),
 Ig 13 10 false (.mov (.t 0)),
 Ig 14 10 false (.lenk 0 (.t 13)),
 Ig 15 10 false (.bin .neq (.t 12) (.t 14)),
 It 16 (.pick (.t 10) (.c (.b true)) (.t 15)),
 Mv 17 16,
 Ig 18 17 false (.mov (.t 1)),
 Ig 19 17 false (.call 85 [(.t 18)]),
 Ig 20 17 false (.un .not (.t 19)),
 It 21 (.pick (.t 17) (.c (.b true)) (.t 20))] [7,8,9,10,11,12,13,14,15,16,17,18,19,20])
 (.cond (.t 21)
 (.seq (.region [It 22 (.build [i0,i0,(.s []),.ns,.ns] []),
 ⟨none,(.store 5 (.t 4) (.t 22)),none,[]⟩,
 It 5 (.mov (.c i0)),
 It 6 (.mov (.c (.i .i64 (2))))] [0,1,21,22])
 .ret)
 (.region [] [21])))
 (.seq (.region [Mv 24 0,
 Mv 25 1,
 It 26 (.build [i0,i0,(.s []),.ns,.ns] [(0,1,(.c (.i .i64 (5)))),(4,1,(.t 24)),(3,1,(.t 25))]),
 It 27 (.call 115 [(.t 26)]),
 Mv 23 27,
 Ex 28 23 0,
 Ex 29 23 1,
 ⟨none,(.store 5 (.t 4) (.t 28)),none,[]⟩,
 Mv 5 29] [0,1,24,25,26,27,23,28,29])
 (.seq (.region [It 30 (.load (some 5) (.t 4)),
 Mv 31 5,
 ⟨none,(.store 5 (.t 4) (.t 30)),none,[]⟩,
 Mv 5 31,
 It 6 (.mov (.c i0))] [30,31])
 .ret)))),
    32,2,[.c 4 (some 5),.t 5,.t 6],2⟩
theorem tr69:trFunc Tryz.prog (hz [] I69.body) 1 Tryz.f69=some (plain1 I69):=by kernel_rfl
theorem ck69:ckC 2 I69.body=true:=by kernel_rfl
def I70:IFunc :=
  ⟨(.seq (.region [It 2 (.alloc [i0,i0,(.s []),.ns,.ns]),
 It 3 (.mov (.c (.b false)))] [3])
 (.seq (.region [Ld 4 0,
 It 5 (.iaddr 5 (.t 4) (.c i0)),
 It 6 (.load (some 5) (.t 5)),
 Of 7 1 3,
 Ld 8 7,
 It 9 (.call 71 [(.t 6),(.t 8)]),
 Ex 10 9 0,
 Ex 11 9 1,
 Ex 12 9 2,
 It 13 (.call 33 [(.t 10),(.t 11),(.t 12)]),
 Ex 14 13 0,
 Ex 15 13 1,
 ⟨none,(.store 5 (.t 2) (.t 14)),none,[]⟩,
 Mv 3 15] [0,1,4,5,6,7,8,9,10,11,12,13,14,15])
 .ret)),
    16,2,[.c 2 (some 5),.t 3],2⟩
theorem tr70:trFunc Tryz.prog (hz [(1,[0,1,2,3,4,5,6,7,8,9,10,11,12,13])] I70.body) 1 Tryz.f70=some (plain1 I70):=by kernel_rfl
theorem ck70:ckC 2 I70.body=true:=by kernel_rfl
def I71:IFunc :=
  ⟨(.seq (.region [It 2 (.box (.t 0)),
 It 4 (.alloc [i0,i0,(.s []),.ns,.ns]),
 It 5 (.mov (.c i0)),
 It 6 (.mov (.c i0))] [0,5,6])
 (.seq (.seq (.region [It 9 (.load (some 5) (.t 2)),
 It 10 (.bsl 5 1 [i0,i0,(.s []),.ns,.ns] [(0,5,(.t 9))]),
 It 11 (.call 85 [(.t 10)]),
 It 12 (.un .not (.t 11)),
 Mv 13 12,
 Ig 14 13 false (.mov (.t 1)),
 Ig 15 13 false (.bsl 1 1 [(.s [])] [(0,1,(.t 14))]),
 Ig 16 13 false (.call 116 [(.t 15)]),
 Ig 17 13 false (.un .not (.t 16)),
 It 18 (.pick (.t 13) (.c (.b true)) (.t 17))] [9,10,11,12,13,14,15,16,17])
 (.cond (.t 18)
 (.seq (.region [It 19 (.build [i0,i0,(.s []),.ns,.ns] []),
 ⟨none,(.store 5 (.t 4) (.t 19)),none,[]⟩,
 It 5 (.mov (.c i0)),
 It 6 (.mov (.c (.i .i64 (2))))] [1,2,18,19])
 .ret)
 (.region [] [18])))
 (.seq (.seq (.region [Of 20 2 0,
 Ld 21 20,
 It 22 (.bin .neq (.t 21) (.c (.i .i64 (5))))] [20,21])
 (.cond (.t 22)
 (.seq (.region [It 23 (.build [i0,i0,(.s []),.ns,.ns] []),
 ⟨none,(.store 5 (.t 4) (.t 23)),none,[]⟩,
 It 5 (.mov (.c (.i .i64 (2)))),
 It 6 (.mov (.c i0))] [1,2,22,23])
 .ret)
 (.region [] [22])))
 (.seq (.region [Of 25 2 4,
 Ld 26 25,
 Mv 27 1,
 It 28 (.call 117 [(.t 26),(.t 27)]),
 Mv 24 28,
 Ex 29 24 0,
 Ex 30 24 1,
 Mv 7 29,
 Mv 8 30] [1,25,26,27,28,24,29,30])
 (.seq (.seq (.region [Mv 31 8,
 It 32 (.un .not (.t 31))] [8,31])
 (.cond (.t 32)
 (.seq (.region [It 33 (.build [i0,i0,(.s []),.ns,.ns] []),
 ⟨none,(.store 5 (.t 4) (.t 33)),none,[]⟩,
 It 5 (.mov (.c (.i .i64 (6)))),
 It 6 (.mov (.c i0))] [2,7,32,33])
 .ret)
 (.region [] [32])))
 (.seq (.region [Of 34 2 3,
 Ld 35 34,
 Mv 36 7,
 It 37 (.iaddr 5 (.t 35) (.t 36)),
 It 38 (.load (some 5) (.t 37)),
 It 39 (.call 91 [(.t 38)]),
 ⟨none,(.store 5 (.t 4) (.t 39)),none,[]⟩,
 It 5 (.mov (.c i0)),
 It 6 (.mov (.c i0))] [2,7,34,35,36,37,38,39])
 .ret)))))),
    40,2,[.c 4 (some 5),.t 5,.t 6],2⟩
theorem tr71:trFunc Tryz.prog (hz [] I71.body) 1 Tryz.f71=some (plain1 I71):=by kernel_rfl
theorem ck71:ckC 2 I71.body=true:=by kernel_rfl
def I72:IFunc :=
  ⟨(.seq (.region [It 2 (.alloc [i0,i0,(.s []),.ns,.ns]),
 It 3 (.mov (.c (.b false)))] [3])
 (.seq (.region [Ld 4 0,
 It 5 (.iaddr 5 (.t 4) (.c i0)),
 It 6 (.load (some 5) (.t 5)),
 Ld 7 0,
 It 8 (.iaddr 5 (.t 7) (.c i0)),
 It 9 (.load (some 5) (.t 8)),
 Of 10 1 3,
 Ld 11 10,
 ⟨(some 12),(.call 73 [(.t 9),(.t 11)]),none,[(4,(.load none (.t 0)),none),(6,(.load (some 5) (.t 5)),none)]⟩,
 ⟨none,(.store 5 (.t 2) (.t 6)),none,[]⟩,
 Mv 3 12] [0,1,4,5,6,7,8,9,10,11,12])
 .ret)),
    13,2,[.c 2 (some 5),.t 3],2⟩
theorem tr72:trFunc Tryz.prog (hz [(1,[0,1,2,3,4,5,6,7,8,9,10])] I72.body) 1 Tryz.f72=some (plain1 I72):=by kernel_rfl
theorem ck72:ckC 2 I72.body=true:=by kernel_rfl
def I73:IFunc :=
  ⟨(.seq (.region [It 2 (.box (.t 0)),
 It 4 (.mov (.c (.b false)))] [0,4])
 (.seq (.region [Mv 8 1,
 It 9 (.call 114 [(.t 8)]),
 Mv 7 9,
 Ex 10 7 0,
 Ex 11 7 1,
 It 5 (.alloc [i0,.ns,.ns]),
 ⟨none,(.store 3 (.t 5) (.t 10)),none,[]⟩,
 Mv 6 11] [1,8,9,7,10,11])
 (.seq (.region [Mv 12 6,
 Mv 13 12,
 Ig 14 13 true (.load (some 5) (.t 2)),
 Ig 15 13 true (.call 8 [(.t 14)]),
 Ig 16 13 true (.bin .eql (.t 15) (.c i0)),
 It 17 (.pick (.t 13) (.t 16) (.c (.b false))),
 Mv 18 17,
 Ig 19 18 true (.load (some 3) (.t 5)),
 Ig 20 18 true (.load (some 5) (.t 2)),
 Ig 21 18 true (.call 118 [(.t 19),(.t 20)]),
 It 22 (.pick (.t 18) (.t 21) (.c (.b false))),
 Mv 4 22] [2,5,6,12,13,14,15,16,17,18,19,20,21,22])
 .ret))),
    23,2,[.t 4],2⟩
theorem tr73:trFunc Tryz.prog (hz [] I73.body) 1 Tryz.f73=some (plain1 I73):=by kernel_rfl
theorem ck73:ckC 2 I73.body=true:=by kernel_rfl
def I74:IFunc :=
  ⟨(.seq (.region [It 2 (.alloc [i0,i0,(.s []),.ns,.ns]),
 It 3 (.mov (.c (.b false)))] [3])
 (.seq (.region [Ld 4 0,
 It 5 (.iaddr 5 (.t 4) (.c i0)),
 It 6 (.load (some 5) (.t 5)),
 Ld 7 0,
 It 8 (.iaddr 5 (.t 7) (.c i0)),
 Of 9 8 0,
 Ld 10 9,
 Of 11 1 1,
 Ld 12 11,
 It 13 (.bin .eql (.t 10) (.t 12)),
 ⟨none,(.store 5 (.t 2) (.t 6)),none,[(7,(.load none (.t 0)),none),(10,(.load none (.t 9)),none),(12,(.load none (.t 11)),none)]⟩,
 Mv 3 13] [0,1,4,5,6,7,8,9,10,11,12,13])
 .ret)),
    14,2,[.c 2 (some 5),.t 3],2⟩
theorem tr74:trFunc Tryz.prog (hz [(1,[0,1,2,3,4,5,6,7,8,9,10,11])] I74.body) 1 Tryz.f74=some (plain1 I74):=by kernel_rfl
theorem ck74:ckC 2 I74.body=true:=by kernel_rfl
def I75:IFunc :=
  ⟨(.seq (.region [It 1 (.alloc [i0,i0,(.s []),.ns,.ns]),
 It 2 (.mov (.c (.b false)))] [2])
 (.seq (.region [Ld 3 0,
 It 4 (.iaddr 5 (.t 3) (.c i0)),
 It 5 (.load (some 5) (.t 4)),
 It 6 (.call 35 [(.c (.i .i64 (6))),(.t 5)]),
 Ex 7 6 0,
 Ex 8 6 1,
 Ex 9 6 2,
 It 10 (.call 33 [(.t 7),(.t 8),(.t 9)]),
 Ex 11 10 0,
 Ex 12 10 1,
 ⟨none,(.store 5 (.t 1) (.t 11)),none,[]⟩,
 Mv 2 12] [0,3,4,5,6,7,8,9,10,11,12])
 .ret)),
    13,1,[.c 1 (some 5),.t 2],2⟩
theorem tr75:trFunc Tryz.prog (hz [] I75.body) 1 Tryz.f75=some (plain1 I75):=by kernel_rfl
theorem ck75:ckC 2 I75.body=true:=by kernel_rfl
def I76:IFunc :=
  ⟨(.seq (.region [It 1 (.alloc [i0,i0,(.s []),.ns,.ns]),
 It 2 (.mov (.c (.b false)))] [2])
 (.seq (.region [Ld 3 0,
 It 4 (.iaddr 5 (.t 3) (.c i0)),
 It 5 (.load (some 5) (.t 4)),
 It 6 (.call 35 [(.c (.i .i64 (7))),(.t 5)]),
 Ex 7 6 0,
 Ex 8 6 1,
 Ex 9 6 2,
 It 10 (.call 33 [(.t 7),(.t 8),(.t 9)]),
 Ex 11 10 0,
 Ex 12 10 1,
 ⟨none,(.store 5 (.t 1) (.t 11)),none,[]⟩,
 Mv 2 12] [0,3,4,5,6,7,8,9,10,11,12])
 .ret)),
    13,1,[.c 1 (some 5),.t 2],2⟩
theorem tr76:trFunc Tryz.prog (hz [] I76.body) 1 Tryz.f76=some (plain1 I76):=by kernel_rfl
theorem ck76:ckC 2 I76.body=true:=by kernel_rfl
def I77:IFunc :=
  ⟨(.seq (.region [It 1 (.alloc [i0,i0,(.s []),.ns,.ns]),
 It 2 (.mov (.c (.b false)))] [2])
 (.seq (.region [Ld 3 0,
 It 4 (.call 78 [(.c (.i .i64 (9))),(.t 3)]),
 Ex 5 4 0,
 Ex 6 4 1,
 ⟨none,(.store 5 (.t 1) (.t 5)),none,[]⟩,
 Mv 2 6] [0,3,4,5,6])
 .ret)),
    7,1,[.c 1 (some 5),.t 2],2⟩
theorem tr77:trFunc Tryz.prog (hz [] I77.body) 1 Tryz.f77=some (plain1 I77):=by kernel_rfl
theorem ck77:ckC 2 I77.body=true:=by kernel_rfl
def I78:IFunc :=
  ⟨(.seq (.region [It 4 (.alloc [i0,i0,(.s []),.ns,.ns]),
 It 5 (.mov (.c (.b false)))] [5])
 (.seq (.seq (.region [Mv 6 1,
 It 7 (.call 29 [(.t 6),(.f 119)])] [6])
 (.cond (.t 7)
 (.seq (.region [It 8 (.build [i0,i0,(.s []),.ns,.ns] []),
 ⟨none,(.store 5 (.t 4) (.t 8)),none,[]⟩,
 It 5 (.mov (.c (.b false)))] [0,1,7,8])
 .ret)
 (.region [] [7])))
 (.seq (.region [Mv 9 0,
 Mv 10 1,
 It 11 (.iaddr 5 (.t 10) (.c i0)),
 It 12 (.load (some 5) (.t 11)),
 Mv 13 1,
 It 14 (.iaddr 5 (.t 13) (.c (.i .i64 (1)))),
 It 15 (.load (some 5) (.t 14)),
 It 16 (.call 34 [(.t 9),(.t 12),(.t 15)]),
 Ex 17 16 0,
 Ex 18 16 1,
 Ex 19 16 2,
 It 20 (.call 33 [(.t 17),(.t 18),(.t 19)]),
 Ex 21 20 0,
 Ex 22 20 1,
 ⟨none,(.store 5 (.t 4) (.t 21)),none,[]⟩,
 Mv 5 22] [0,1,9,10,11,12,13,14,15,16,17,18,19,20,21,22])
 .ret))),
    23,2,[.c 4 (some 5),.t 5],2⟩
theorem tr78:trFunc Tryz.prog (hz [(4,[0,1,2,3,4,5,6,7,8,9,10,11,12,13,14,15])] I78.body) 1 Tryz.f78=some (plain1 I78):=by kernel_rfl
theorem ck78:ckC 2 I78.body=true:=by kernel_rfl
def I79:IFunc :=
  ⟨(.seq (.region [It 1 (.alloc [i0,i0,(.s []),.ns,.ns]),
 It 2 (.mov (.c (.b false)))] [2])
 (.seq (.region [Ld 3 0,
 It 4 (.call 78 [(.c (.i .i64 (10))),(.t 3)]),
 Ex 5 4 0,
 Ex 6 4 1,
 ⟨none,(.store 5 (.t 1) (.t 5)),none,[]⟩,
 Mv 2 6] [0,3,4,5,6])
 .ret)),
    7,1,[.c 1 (some 5),.t 2],2⟩
theorem tr79:trFunc Tryz.prog (hz [] I79.body) 1 Tryz.f79=some (plain1 I79):=by kernel_rfl
theorem ck79:ckC 2 I79.body=true:=by kernel_rfl
def I80:IFunc :=
  ⟨(.seq (.region [It 1 (.alloc [i0,i0,(.s []),.ns,.ns]),
 It 2 (.mov (.c (.b false)))] [2])
 (.seq (.region [Ld 3 0,
 It 4 (.call 78 [(.c (.i .i64 (11))),(.t 3)]),
 Ex 5 4 0,
 Ex 6 4 1,
 ⟨none,(.store 5 (.t 1) (.t 5)),none,[]⟩,
 Mv 2 6] [0,3,4,5,6])
 .ret)),
    7,1,[.c 1 (some 5),.t 2],2⟩
theorem tr80:trFunc Tryz.prog (hz [] I80.body) 1 Tryz.f80=some (plain1 I80):=by kernel_rfl
theorem ck80:ckC 2 I80.body=true:=by kernel_rfl
def I81:IFunc :=
  ⟨(.seq (.region [It 1 (.alloc [i0,i0,(.s []),.ns,.ns]),
 It 2 (.mov (.c (.b false)))] [2])
 (.seq (.region [Ld 3 0,
 It 4 (.call 78 [(.c (.i .i64 (16))),(.t 3)]),
 Ex 5 4 0,
 Ex 6 4 1,
 ⟨none,(.store 5 (.t 1) (.t 5)),none,[]⟩,
 Mv 2 6] [0,3,4,5,6])
 .ret)),
    7,1,[.c 1 (some 5),.t 2],2⟩
theorem tr81:trFunc Tryz.prog (hz [] I81.body) 1 Tryz.f81=some (plain1 I81):=by kernel_rfl
theorem ck81:ckC 2 I81.body=true:=by kernel_rfl
def I82:IFunc :=
  ⟨(.seq (.region [It 1 (.alloc [i0,i0,(.s []),.ns,.ns]),
 It 2 (.mov (.c (.b false)))] [2])
 (.seq (.region [Ld 3 0,
 It 4 (.call 78 [(.c (.i .i64 (17))),(.t 3)]),
 Ex 5 4 0,
 Ex 6 4 1,
 ⟨none,(.store 5 (.t 1) (.t 5)),none,[]⟩,
 Mv 2 6] [0,3,4,5,6])
 .ret)),
    7,1,[.c 1 (some 5),.t 2],2⟩
theorem tr82:trFunc Tryz.prog (hz [] I82.body) 1 Tryz.f82=some (plain1 I82):=by kernel_rfl
theorem ck82:ckC 2 I82.body=true:=by kernel_rfl
def I83:IFunc :=
  ⟨(.seq (.region [It 2 (.alloc [i0,i0,(.s []),.ns,.ns]),
 It 3 (.mov (.c (.b false)))] [3])
 (.seq (.region [Ld 4 0,
 It 5 (.iaddr 5 (.t 4) (.c i0)),
 It 6 (.load (some 5) (.t 5)),
 It 7 (.load (some 5) (.t 1)),
 It 8 (.bsl 5 2 [i0,i0,(.s []),.ns,.ns,i0,i0,(.s []),.ns,.ns] [(0,5,(.t 6)),(5,5,(.t 7))]),
 It 9 (.call 78 [(.c (.i .i64 (9))),(.t 8)]),
 Ex 10 9 0,
 Ex 11 9 1,
 ⟨none,(.store 5 (.t 2) (.t 10)),none,[]⟩,
 Mv 3 11] [0,1,4,5,6,7,8,9,10,11])
 .ret)),
    12,2,[.c 2 (some 5),.t 3],2⟩
theorem tr83:trFunc Tryz.prog (hz [(1,[0,1,2,3,4,5,6,7,8,9])] I83.body) 1 Tryz.f83=some (plain1 I83):=by kernel_rfl
theorem ck83:ckC 2 I83.body=true:=by kernel_rfl
def I84:IFunc :=
  ⟨(.seq (.region [It 2 (.alloc [i0,i0,(.s []),.ns,.ns]),
 It 3 (.mov (.c (.b false)))] [3])
 (.seq (.region [Ld 4 0,
 It 5 (.iaddr 5 (.t 4) (.c i0)),
 It 6 (.load (some 5) (.t 5)),
 It 7 (.load (some 5) (.t 1)),
 It 8 (.bsl 5 2 [i0,i0,(.s []),.ns,.ns,i0,i0,(.s []),.ns,.ns] [(0,5,(.t 6)),(5,5,(.t 7))]),
 It 9 (.call 78 [(.c (.i .i64 (16))),(.t 8)]),
 Ex 10 9 0,
 Ex 11 9 1,
 ⟨none,(.store 5 (.t 2) (.t 10)),none,[]⟩,
 Mv 3 11] [0,1,4,5,6,7,8,9,10,11])
 .ret)),
    12,2,[.c 2 (some 5),.t 3],2⟩
theorem tr84:trFunc Tryz.prog (hz [(1,[0,1,2,3,4,5,6,7,8,9])] I84.body) 1 Tryz.f84=some (plain1 I84):=by kernel_rfl
theorem ck84:ckC 2 I84.body=true:=by kernel_rfl
def I85:IFunc :=
  ⟨(.seq (.region [It 2 (.mov (.c (.b false)))] [2])
 (.seq (.region [Mv 3 0,
 It 4 (.call 29 [(.t 3),(.f 120)]),
 It 5 (.un .not (.t 4)),
 Mv 2 5] [0,3,4,5])
 .ret)),
    6,1,[.t 2],2⟩
theorem tr85:trFunc Tryz.prog (hz [] I85.body) 1 Tryz.f85=some (plain1 I85):=by kernel_rfl
theorem ck85:ckC 2 I85.body=true:=by kernel_rfl
def I86:IFunc :=
  ⟨(.seq (.region [It 2 (.alloc [i0,i0,(.s []),.ns,.ns])] [])
 (.seq (.region [It 4 (.build [i0,i0,(.s []),.ns,.ns] [(0,1,(.c (.i .i64 (2))))]),
 It 3 (.alloc [i0,i0,(.s []),.ns,.ns]),
 ⟨none,(.store 5 (.t 3) (.t 4)),none,[]⟩] [4])
 (.seq (.seq (.region [Mv 5 0] [0])
 (.cond (.t 5)
 (.region [Of 6 3 1,
 ⟨none,(.store 1 (.t 6) (.c (.i .i64 (1)))),none,[]⟩] [5,6])
 (.region [] [5])))
 (.seq (.region [It 7 (.load (some 5) (.t 3)),
 ⟨none,(.store 5 (.t 2) (.t 7)),none,[]⟩] [3,7])
 .ret)))),
    8,1,[.c 2 (some 5)],2⟩
theorem tr86:trFunc Tryz.prog (hz [] I86.body) 1 Tryz.f86=some (plain1 I86):=by kernel_rfl
theorem ck86:ckC 2 I86.body=true:=by kernel_rfl
def I87:IFunc :=
  ⟨(.seq (.region [It 2 (.box (.t 0)),
 It 3 (.box (.t 1)),
 It 4 (.mov (.c (.b false)))] [0,1,4])
 (.seq (.region [Of 5 2 0,
 Ld 6 5,
 Of 7 3 0,
 Ld 8 7,
 It 9 (.bin .eql (.t 6) (.t 8)),
 Mv 10 9,
 Ig 11 10 true (.off (.t 2) 1),
 Ig 12 10 true (.load none (.t 11)),
 Ig 13 10 true (.off (.t 3) 1),
 Ig 14 10 true (.load none (.t 13)),
 Ig 15 10 true (.bin .eql (.t 12) (.t 14)),
 It 16 (.pick (.t 10) (.t 15) (.c (.b false))),
 Mv 17 16,
 Ig 18 17 true (.off (.t 2) 2),
 Ig 19 17 true (.load none (.t 18)),
 Ig 20 17 true (.off (.t 3) 2),
 Ig 21 17 true (.load none (.t 20)),
 Ig 22 17 true (.bin .eql (.t 19) (.t 21)),
 It 23 (.pick (.t 17) (.t 22) (.c (.b false))),
 Mv 24 23,
 Ig 25 24 true (.off (.t 2) 4),
 Ig 26 24 true (.load none (.t 25)),
 Ig 27 24 true (.off (.t 3) 4),
 Ig 28 24 true (.load none (.t 27)),
 Ig 29 24 true (.call 121 [(.t 26),(.t 28)]),
 It 30 (.pick (.t 24) (.t 29) (.c (.b false))),
 Mv 31 30,
 Ig 32 31 true (.off (.t 2) 3),
 Ig 33 31 true (.load none (.t 32)),
 Ig 34 31 true (.off (.t 3) 3),
 Ig 35 31 true (.load none (.t 34)),
 Ig 36 31 true (.call 122 [(.t 33),(.t 35),(.f 87)]),
 It 37 (.pick (.t 31) (.t 36) (.c (.b false))),
 Mv 4 37] [2,3,5,6,7,8,9,10,11,12,13,14,15,16,17,18,19,20,21,22,23,24,25,26,27,28,29,30,31,32,33,34,35,36,37])
 .ret)),
    38,2,[.t 4],2⟩
theorem tr87:trFunc Tryz.prog (hz [] I87.body) 1 Tryz.f87=some (plain1 I87):=by kernel_rfl
theorem ck87:ckC 2 I87.body=true:=by kernel_rfl
def I88:IFunc :=
  ⟨(.seq (.region [It 6 (.alloc [i0,i0,(.s []),.ns,.ns]),
 It 7 (.mov (.c i0))] [7])
 (.seq (.seq (.region [Mv 8 0] [])
 (.block 0
 (.seq (.block 6
 (.seq (.block 5
 (.seq (.block 4
 (.seq (.block 3
 (.seq (.block 2
 (.seq (.block 1
 (.seq (.seq (.seq (.region [It 10 (.bin .eql (.t 8) (.c (.i .i64 (9)))),
 Mv 9 10] [10])
 (.cond (.t 9)
 (.exit 1)
 (.region [] [9])))
 (.seq (.seq (.region [It 12 (.bin .eql (.t 8) (.c (.i .i64 (10)))),
 Mv 11 12] [12])
 (.cond (.t 11)
 (.exit 2)
 (.region [] [11])))
 (.seq (.seq (.region [It 14 (.bin .eql (.t 8) (.c (.i .i64 (11)))),
 Mv 13 14] [14])
 (.cond (.t 13)
 (.exit 3)
 (.region [] [13])))
 (.seq (.seq (.region [It 16 (.bin .eql (.t 8) (.c (.i .i64 (17)))),
 Mv 15 16] [16])
 (.cond (.t 15)
 (.exit 4)
 (.region [] [15])))
 (.seq (.seq (.region [It 18 (.bin .eql (.t 8) (.c (.i .i64 (16)))),
 Mv 17 18] [18])
 (.cond (.t 17)
 (.exit 5)
 (.region [] [17])))
 (.seq (.seq (.region [It 20 (.bin .eql (.t 8) (.c (.i .i64 (12)))),
 Mv 19 20] [20])
 (.cond (.t 19)
 (.region [] [8])
 (.region [It 21 (.bin .eql (.t 8) (.c (.i .i64 (13)))),
 Mv 19 21] [8,21])))
 (.cond (.t 19)
 (.exit 6)
 (.region [] [0,1,2,19]))))))))
 (.exit 0)))
 (.seq (.seq (.region [Mv 22 1,
 Mv 23 2,
 It 24 (.bin .add (.t 22) (.t 23)),
 It 25 (.call 92 [(.t 24)]),
 ⟨none,(.store 5 (.t 6) (.t 25)),none,[]⟩,
 It 7 (.mov (.c i0))] [0,1,2,8,9,22,23,24,25])
 .ret)
 (.exit 0))))
 (.seq (.seq (.region [Mv 26 1,
 Mv 27 2,
 It 28 (.bin .sub (.t 26) (.t 27)),
 It 29 (.call 92 [(.t 28)]),
 ⟨none,(.store 5 (.t 6) (.t 29)),none,[]⟩,
 It 7 (.mov (.c i0))] [0,1,2,8,11,26,27,28,29])
 .ret)
 (.exit 0))))
 (.seq (.seq (.region [Mv 30 1,
 Mv 31 2,
 It 32 (.bin .mul (.t 30) (.t 31)),
 It 33 (.call 92 [(.t 32)]),
 ⟨none,(.store 5 (.t 6) (.t 33)),none,[]⟩,
 It 7 (.mov (.c i0))] [0,1,2,8,13,30,31,32,33])
 .ret)
 (.exit 0))))
 (.seq (.region [Mv 34 1,
 Mv 35 2,
 It 36 (.bin .eql (.t 34) (.t 35))] [0,8,15,34,35])
 (.cond (.t 36)
 (.seq (.region [It 37 (.call 86 [(.c (.b true))]),
 ⟨none,(.store 5 (.t 6) (.t 37)),none,[]⟩,
 It 7 (.mov (.c i0))] [1,2,36,37])
 .ret)
 (.region [] [36])))))
 (.seq (.seq (.region [Mv 38 1,
 Mv 39 2,
 It 40 (.bin .lss (.t 38) (.t 39)),
 It 41 (.call 86 [(.t 40)]),
 ⟨none,(.store 5 (.t 6) (.t 41)),none,[]⟩,
 It 7 (.mov (.c i0))] [1,2,0,8,17,38,39,40,41])
 .ret)
 (.exit 0))))
 (.seq (.seq (.seq (.region [Mv 42 2,
 It 43 (.bin .eql (.t 42) (.c i0))] [19,42])
 (.cond (.t 43)
 (.seq (.region [It 44 (.build [i0,i0,(.s []),.ns,.ns] []),
 ⟨none,(.store 5 (.t 6) (.t 44)),none,[]⟩,
 It 7 (.mov (.c (.i .i64 (1))))] [0,1,2,43,44])
 .ret)
 (.region [] [43])))
 (.seq (.seq (.region [Mv 45 0,
 It 46 (.bin .eql (.t 45) (.c (.i .i64 (12))))] [0,45])
 (.cond (.t 46)
 (.seq (.region [Mv 47 1,
 Mv 48 2,
 It 49 (.bin .quo (.t 47) (.t 48)),
 It 50 (.call 92 [(.t 49)]),
 ⟨none,(.store 5 (.t 6) (.t 50)),none,[]⟩,
 It 7 (.mov (.c i0))] [1,2,46,47,48,49,50])
 .ret)
 (.region [] [46])))
 (.seq (.region [Mv 51 1,
 Mv 52 2,
 It 53 (.bin .rem (.t 51) (.t 52)),
 It 54 (.call 92 [(.t 53)]),
 ⟨none,(.store 5 (.t 6) (.t 54)),none,[]⟩,
 It 7 (.mov (.c i0))] [1,2,51,52,53,54])
 .ret)))
 (.exit 0)))))
 (.seq (.region [It 55 (.build [i0,i0,(.s []),.ns,.ns] []),
 ⟨none,(.store 5 (.t 6) (.t 55)),none,[]⟩,
 It 7 (.mov (.c (.i .i64 (2))))] [55])
 .ret))),
    56,3,[.c 6 (some 5),.t 7],2⟩
theorem tr88:trFunc Tryz.prog (hz [] I88.body) 1 Tryz.f88=some (plain1 I88):=by kernel_rfl
theorem ck88:ckC 2 I88.body=true:=by kernel_rfl
def I89:IFunc :=
  ⟨(.seq (.region [It 6 (.alloc [i0,i0,(.s []),.ns,.ns]),
 It 7 (.mov (.c i0))] [7])
 (.seq (.seq (.region [Mv 8 0] [0])
 (.block 0
 (.seq (.block 3
 (.seq (.block 2
 (.seq (.block 1
 (.seq (.seq (.seq (.region [It 10 (.bin .eql (.t 8) (.c (.i .i64 (9)))),
 Mv 9 10] [10])
 (.cond (.t 9)
 (.exit 1)
 (.region [] [9])))
 (.seq (.seq (.region [It 12 (.bin .eql (.t 8) (.c (.i .i64 (17)))),
 Mv 11 12] [12])
 (.cond (.t 11)
 (.exit 2)
 (.region [] [11])))
 (.seq (.region [It 14 (.bin .eql (.t 8) (.c (.i .i64 (16)))),
 Mv 13 14] [8,14])
 (.cond (.t 13)
 (.exit 3)
 (.region [] [1,2,13])))))
 (.exit 0)))
 (.seq (.seq (.region [Mv 15 1,
 Mv 16 2,
 It 17 (.bin .add (.t 15) (.t 16)),
 It 18 (.build [i0,i0,(.s []),.ns,.ns] [(0,1,(.c (.i .i64 (3)))),(2,1,(.t 17))]),
 It 19 (.call 115 [(.t 18)]),
 Ex 20 19 0,
 Ex 21 19 1,
 ⟨none,(.store 5 (.t 6) (.t 20)),none,[]⟩,
 Mv 7 21] [1,2,8,9,15,16,17,18,19,20,21])
 .ret)
 (.exit 0))))
 (.seq (.region [Mv 22 1,
 Mv 23 2,
 It 24 (.bin .eql (.t 22) (.t 23))] [8,11,22,23])
 (.cond (.t 24)
 (.seq (.region [It 25 (.call 86 [(.c (.b true))]),
 ⟨none,(.store 5 (.t 6) (.t 25)),none,[]⟩,
 It 7 (.mov (.c i0))] [1,2,24,25])
 .ret)
 (.region [] [24])))))
 (.seq (.seq (.region [Mv 26 1,
 Mv 27 2,
 It 28 (.bin .lss (.t 26) (.t 27)),
 It 29 (.call 86 [(.t 28)]),
 ⟨none,(.store 5 (.t 6) (.t 29)),none,[]⟩,
 It 7 (.mov (.c i0))] [1,2,13,26,27,28,29])
 .ret)
 (.exit 0)))))
 (.seq (.region [It 30 (.build [i0,i0,(.s []),.ns,.ns] []),
 ⟨none,(.store 5 (.t 6) (.t 30)),none,[]⟩,
 It 7 (.mov (.c (.i .i64 (2))))] [30])
 .ret))),
    31,3,[.c 6 (some 5),.t 7],2⟩
theorem tr89:trFunc Tryz.prog (hz [] I89.body) 1 Tryz.f89=some (plain1 I89):=by kernel_rfl
theorem ck89:ckC 2 I89.body=true:=by kernel_rfl
def I90:IFunc :=
  ⟨(.seq (.region [It 2 (.box (.t 0)),
 It 4 (.alloc [i0,i0,(.s []),.ns,.ns]),
 It 5 (.mov (.c i0))] [0,5])
 (.seq (.region [Of 6 2 3,
 Ld 7 6,
 It 8 (.call 94 [(.t 7)]),
 Mv 9 1,
 It 10 (.app 5 80 (.t 8) (.t 9)),
 It 11 (.build [i0,i0,(.s []),.ns,.ns] [(0,1,(.c (.i .i64 (4)))),(3,1,(.t 10))]),
 It 12 (.call 115 [(.t 11)]),
 Ex 13 12 0,
 Ex 14 12 1,
 ⟨none,(.store 5 (.t 4) (.t 13)),none,[]⟩,
 Mv 5 14] [1,2,6,7,8,9,10,11,12,13,14])
 .ret)),
    15,2,[.c 4 (some 5),.t 5],2⟩
theorem tr90:trFunc Tryz.prog (hz [] I90.body) 1 Tryz.f90=some (plain1 I90):=by kernel_rfl
theorem ck90:ckC 2 I90.body=true:=by kernel_rfl
def L91a:ICode :=
  (.seq (.region [It 16 (.bin .lss (.t 15) (.t 14))] [])
 (.seq (.cond (.t 16)
 (.region [] [16])
 (.exit 0))
 (.seq (.block 1
 (.seq (.region [Mv 17 15,
 Mv 3 17] [17])
 (.region [Of 18 1 3,
 Ld 19 18,
 Mv 20 3,
 Of 21 1 3,
 Ld 22 21,
 Mv 23 3,
 It 24 (.iaddr 5 (.t 22) (.t 23)),
 It 25 (.load (some 5) (.t 24)),
 ⟨(some 26),(.call 91 [(.t 25)]),none,[(19,(.load none (.t 18)),none)]⟩,
 It 27 (.iaddr 5 (.t 19) (.t 20)),
 ⟨none,(.store 5 (.t 27) (.t 26)),none,[]⟩] [3,18,19,20,21,22,23,24,25,26,27])))
 (.region [It 28 (.bin .add (.t 15) (.c (.i .i64 (1)))),
 Mv 15 28] [28]))))
def I91:IFunc :=
  ⟨(.seq (.region [It 1 (.box (.t 0)),
 It 2 (.alloc [i0,i0,(.s []),.ns,.ns])] [0])
 (.seq (.region [Of 4 1 4,
 Ld 5 4,
 Of 7 1 3,
 Ld 8 7,
 ⟨(some 6),(.call 93 [(.t 5)]),none,[(8,(.load none (.t 7)),none)]⟩,
 Of 10 1 4,
 It 9 (.call 94 [(.t 8)]),
 ⟨none,(.store 1 (.t 10) (.t 6)),none,[]⟩,
 Of 11 1 3,
 ⟨none,(.store 1 (.t 11) (.t 9)),none,[]⟩] [4,5,7,8,6,10,9,11])
 (.seq (.seq (.region [Of 12 1 3,
 Ld 13 12,
 It 14 (.lenk 0 (.t 13)),
 It 15 (.mov (.c i0))] [12,13])
 (.block 0
 (.loop L91a)))
 (.seq (.region [It 29 (.load (some 5) (.t 1)),
 ⟨none,(.store 5 (.t 2) (.t 29)),none,[]⟩] [1,14,15,16,29])
 .ret)))),
    30,1,[.c 2 (some 5)],2⟩
theorem tr91:trFunc Tryz.prog (hz [(1,[0,1,3,4,2,6,5,7,8,9]),(6,[0,1,2,3,4,5,6,7,8,9,10])] I91.body) 1 Tryz.f91=some (plain1 I91):=by kernel_rfl
theorem ck91:ckC 2 I91.body=true:=by kernel_rfl
def I92:IFunc :=
  ⟨(.seq (.region [It 2 (.alloc [i0,i0,(.s []),.ns,.ns])] [])
 (.seq (.region [Mv 3 0,
 It 4 (.build [i0,i0,(.s []),.ns,.ns] [(0,1,(.c (.i .i64 (1)))),(1,1,(.t 3))]),
 ⟨none,(.store 5 (.t 2) (.t 4)),none,[]⟩] [0,3,4])
 .ret)),
    5,1,[.c 2 (some 5)],2⟩
theorem tr92:trFunc Tryz.prog (hz [] I92.body) 1 Tryz.f92=some (plain1 I92):=by kernel_rfl
theorem ck92:ckC 2 I92.body=true:=by kernel_rfl
def I93:IFunc:=⟨cloneCode 1 16,8,1,[.t 2],4⟩
theorem tr93:trFunc Tryz.prog [([],[]),([],[]),([],[]),([],[]),([],[])] 1 Tryz.f93=some (plain1 I93):=by kernel_rfl
theorem ck93:ckC 2 (cloneCode 1 16)=true:=by kernel_rfl
def I94:IFunc:=⟨cloneCode 5 80,8,1,[.t 2],4⟩
theorem tr94:trFunc Tryz.prog [([],[]),([],[]),([],[]),([],[]),([],[])] 1 Tryz.f94=some (plain1 I94):=by kernel_rfl
theorem ck94:ckC 2 (cloneCode 5 80)=true:=by kernel_rfl
def I95:IFunc :=
  ⟨(.seq (.region [It 4 (.mov (.c i0))] [4])
 (.seq (.seq (.region [Mv 5 0,
 Mv 6 1,
 It 7 (.bin .lss (.t 5) (.t 6))] [5,6])
 (.cond (.t 7)
 (.seq (.region [It 4 (.mov (.c (.i .i64 (-1))))] [0,1,7])
 .ret)
 (.region [] [7])))
 (.seq (.seq (.region [Mv 8 0,
 Mv 9 1,
 It 10 (.bin .gtr (.t 8) (.t 9))] [0,1,8,9])
 (.cond (.t 10)
 (.seq (.region [It 4 (.mov (.c (.i .i64 (1))))] [10])
 .ret)
 (.region [] [10])))
 (.seq (.region [It 4 (.mov (.c i0))] [])
 .ret)))),
    11,2,[.t 4],2⟩
theorem tr95:trFunc Tryz.prog (hz [] I95.body) 1 Tryz.f95=some (plain1 I95):=by kernel_rfl
theorem ck95:ckC 2 I95.body=true:=by kernel_rfl
def I96:IFunc :=
  ⟨(.seq (.region [It 4 (.mov (.c i0))] [4])
 (.seq (.seq (.region [Mv 5 0,
 Mv 6 1,
 It 7 (.bin .lss (.t 5) (.t 6))] [5,6])
 (.cond (.t 7)
 (.seq (.region [It 4 (.mov (.c (.i .i64 (-1))))] [0,1,7])
 .ret)
 (.region [] [7])))
 (.seq (.seq (.region [Mv 8 0,
 Mv 9 1,
 It 10 (.bin .gtr (.t 8) (.t 9))] [0,1,8,9])
 (.cond (.t 10)
 (.seq (.region [It 4 (.mov (.c (.i .i64 (1))))] [10])
 .ret)
 (.region [] [10])))
 (.seq (.region [It 4 (.mov (.c i0))] [])
 .ret)))),
    11,2,[.t 4],2⟩
theorem tr96:trFunc Tryz.prog (hz [] I96.body) 1 Tryz.f96=some (plain1 I96):=by kernel_rfl
theorem ck96:ckC 2 I96.body=true:=by kernel_rfl
def I97:IFunc :=
  ⟨(.seq (.region [It 1 (.box (.t 0)),
 It 2 (.alloc [i0,i0,.ns,(.s []),.ns])] [0])
 (.seq (.region [Of 3 1 0,
 Ld 4 3,
 Of 5 1 1,
 Ld 6 5,
 Of 7 1 2,
 Ld 8 7,
 Of 10 1 3,
 Ld 11 10,
 Of 12 1 4,
 Ld 13 12,
 ⟨(some 9),(.call 98 [(.t 8)]),none,[(4,(.load none (.t 3)),none),(6,(.load none (.t 5)),none),(11,(.load none (.t 10)),none),(13,(.load none (.t 12)),none)]⟩,
 ⟨(some 14),(.call 123 [(.t 13)]),none,[(4,(.load none (.t 3)),none),(6,(.load none (.t 5)),none),(11,(.load none (.t 10)),none)]⟩,
 It 15 (.build [i0,i0,.ns,(.s []),.ns] [(0,1,(.t 4)),(1,1,(.t 6)),(2,1,(.t 9)),(3,1,(.t 11)),(4,1,(.t 14))]),
 ⟨none,(.store 5 (.t 2) (.t 15)),none,[]⟩] [1,3,4,5,6,7,8,10,11,12,13,9,14,15])
 .ret)),
    16,1,[.c 2 (some 5)],2⟩
theorem tr97:trFunc Tryz.prog (hz [(1,[0,1,2,3,4,5,7,8,9,10,6,11,12,13])] I97.body) 1 Tryz.f97=some (plain1 I97):=by kernel_rfl
theorem ck97:ckC 2 I97.body=true:=by kernel_rfl
def L98a:ICode :=
  (.seq (.seq (.region [Mv 5 4,
 Mv 6 0,
 It 7 (.lenk 0 (.t 6)),
 It 8 (.bin .lss (.t 5) (.t 7))] [5,6,7])
 (.cond (.t 8)
 (.region [] [8])
 (.exit 0)))
 (.seq (.block 1
 (.region [Mv 11 3,
 Mv 12 0,
 Mv 13 4,
 It 14 (.iaddr 7 (.t 12) (.t 13)),
 Of 15 14 0,
 Ld 16 15,
 Mv 17 0,
 Mv 18 4,
 It 19 (.iaddr 7 (.t 17) (.t 18)),
 Of 20 19 1,
 Ld 21 20,
 Mv 22 0,
 Mv 23 4,
 It 24 (.iaddr 7 (.t 22) (.t 23)),
 Of 25 24 2,
 It 26 (.load (some 5) (.t 25)),
 ⟨(some 27),(.call 99 [(.t 26)]),none,[(16,(.load none (.t 15)),none),(21,(.load none (.t 20)),none)]⟩,
 It 28 (.build [i0,i0,i0,i0,(.s []),.ns,.ns] [(0,1,(.t 16)),(1,1,(.t 21)),(2,5,(.t 27))]),
 It 29 (.bsl 7 1 [i0,i0,i0,i0,(.s []),.ns,.ns] [(0,7,(.t 28))]),
 It 30 (.app 7 96 (.t 11) (.t 29)),
 Mv 3 30] [11,12,13,14,15,16,17,18,19,20,21,22,23,24,25,26,27,28,29,30]))
 (.region [Mv 9 4,
 It 10 (.bin .add (.t 9) (.c (.i .i64 (1)))),
 Mv 4 10] [9,10])))
def I98:IFunc :=
  ⟨(.seq (.region [It 2 (.mov (.c .ns))] [2])
 (.seq (.region [It 3 (.mov (.c .ns))] [])
 (.seq (.seq (.region [It 4 (.mov (.c i0))] [])
 (.block 0
 (.loop L98a)))
 (.seq (.region [Mv 31 3,
 Mv 2 31] [0,3,4,8,31])
 .ret)))),
    32,1,[.t 2],2⟩
theorem tr98:trFunc Tryz.prog (hz [(5,[0,1,2,3,4,5,6,7,8,9,10,11,12,13,14,15,16,17,18,19,20])] I98.body) 1 Tryz.f98=some (plain1 I98):=by kernel_rfl
theorem ck98:ckC 2 I98.body=true:=by kernel_rfl
def L99a:ICode :=
  (.seq (.seq (.region [Mv 15 4,
 Of 16 1 3,
 Ld 17 16,
 It 18 (.lenk 0 (.t 17)),
 It 19 (.bin .lss (.t 15) (.t 18))] [15,16,17,18])
 (.cond (.t 19)
 (.region [] [19])
 (.exit 0)))
 (.seq (.block 1
 (.region [Of 22 3 3,
 Ld 23 22,
 Of 24 1 3,
 Ld 25 24,
 Mv 26 4,
 It 27 (.iaddr 5 (.t 25) (.t 26)),
 It 28 (.load (some 5) (.t 27)),
 ⟨(some 29),(.call 99 [(.t 28)]),none,[(23,(.load none (.t 22)),none)]⟩,
 It 30 (.bsl 5 1 [i0,i0,(.s []),.ns,.ns] [(0,5,(.t 29))]),
 It 31 (.app 5 80 (.t 23) (.t 30)),
 Of 32 3 3,
 ⟨none,(.store 1 (.t 32) (.t 31)),none,[]⟩] [22,23,24,25,26,27,28,29,30,31,32]))
 (.region [Mv 20 4,
 It 21 (.bin .add (.t 20) (.c (.i .i64 (1)))),
 Mv 4 21] [20,21])))
def I99:IFunc :=
  ⟨(.seq (.region [It 1 (.box (.t 0)),
 It 2 (.alloc [i0,i0,(.s []),.ns,.ns])] [0])
 (.seq (.region [Of 5 1 0,
 Ld 6 5,
 Of 7 1 1,
 Ld 8 7,
 Of 9 1 2,
 Ld 10 9,
 Of 11 1 4,
 Ld 12 11,
 It 3 (.alloc [i0,i0,(.s []),.ns,.ns]),
 ⟨(some 13),(.call 123 [(.t 12)]),none,[(6,(.load none (.t 5)),none),(8,(.load none (.t 7)),none),(10,(.load none (.t 9)),none)]⟩,
 It 14 (.build [i0,i0,(.s []),.ns,.ns] [(0,1,(.t 6)),(1,1,(.t 8)),(2,1,(.t 10)),(4,1,(.t 13))]),
 ⟨none,(.store 5 (.t 3) (.t 14)),none,[]⟩] [5,6,7,8,9,10,11,12,13,14])
 (.seq (.seq (.region [It 4 (.mov (.c i0))] [])
 (.block 0
 (.loop L99a)))
 (.seq (.region [It 33 (.load (some 5) (.t 3)),
 ⟨none,(.store 5 (.t 2) (.t 33)),none,[]⟩] [1,3,4,19,33])
 .ret)))),
    34,1,[.c 2 (some 5)],2⟩
theorem tr99:trFunc Tryz.prog (hz [(1,[0,1,2,3,4,5,6,7,10,8,9,11]),(5,[0,1,2,3,4,5,6,7,8,9,10,11])] I99.body) 1 Tryz.f99=some (plain1 I99):=by kernel_rfl
theorem ck99:ckC 2 I99.body=true:=by kernel_rfl
def I100:IFunc :=
  ⟨(.seq (.region [It 2 (.box (.t 0)),
 It 3 (.box (.t 1)),
 It 4 (.mov (.c .nf))] [0,1,4])
 (.seq (.region [It 5 (.mkf 124 [] [(.t 2),(.t 3)]),
 Mv 4 5] [2,3,5])
 .ret)),
    6,2,[.t 4],0⟩
theorem tr100:trFunc Tryz.prog (hz [] I100.body) 0 Tryz.f100=some (plain1 I100):=by kernel_rfl
theorem ck100:ckC 2 I100.body=true:=by kernel_rfl
def L101a:ICode :=
  (.seq (.region [It 13 (.bin .lss (.t 12) (.t 11))] [])
 (.seq (.cond (.t 13)
 (.region [] [13])
 (.exit 0))
 (.seq (.block 1
 (.seq (.region [Mv 14 12,
 It 15 (.iaddr 3 (.t 10) (.t 12)),
 It 16 (.load (some 3) (.t 15)),
 It 7 (.alloc [i0,i0,i0]),
 Mv 6 14,
 ⟨none,(.store 3 (.t 7) (.t 16)),none,[]⟩] [14,15,16])
 (.seq (.seq (.region [Of 17 7 0,
 Ld 18 17,
 It 19 (.call 61 [(.t 18)]),
 Mv 20 19,
 Ig 21 20 false (.mov (.t 1)),
 Ig 22 20 false (.mov (.t 6)),
 Ig 23 20 false (.iaddr 3 (.t 21) (.t 22)),
 Ig 24 20 false (.off (.t 23) 0),
 Ig 25 20 false (.load none (.t 24)),
 Ig 26 20 false (.un .not (.t 25)),
 It 27 (.pick (.t 20) (.c (.b true)) (.t 26))] [17,18,19,20,21,22,23,24,25,26])
 (.cond (.t 27)
 (.exit 1)
 (.region [] [27])))
 (.seq (.seq (.region [It 28 (.load (some 3) (.t 7)),
 It 29 (.call 126 [(.t 28)]),
 Mv 30 29,
 Ig 31 30 false (.off (.t 7) 0),
 Ig 32 30 false (.load none (.t 31)),
 Ig 33 30 false (.bin .eql (.t 32) (.c (.i .i64 (26)))),
 It 34 (.pick (.t 30) (.c (.b true)) (.t 33))] [28,29,30,31,32,33])
 (.cond (.t 34)
 (.region [Mv 35 5,
 Of 36 7 1,
 Ld 37 36,
 ⟨none,(.mapup false [1] (.t 35) (.t 37) (.c (.b true))),none,[]⟩] [7,34,35,36,37])
 (.region [] [7,34])))
 (.seq (.region [Mv 38 6,
 It 39 (.bin .add (.t 38) (.c (.i .i64 (1)))),
 Mv 40 0,
 It 41 (.lenk 0 (.t 40)),
 It 42 (.bin .lss (.t 39) (.t 41)),
 Mv 43 42,
 Ig 44 43 true (.mov (.t 1)),
 Ig 45 43 true (.mov (.t 6)),
 Ig 46 43 true (.bin .add (.t 45) (.c (.i .i64 (1)))),
 Ig 47 43 true (.iaddr 3 (.t 44) (.t 46)),
 Ig 48 43 true (.off (.t 47) 0),
 Ig 49 43 true (.load none (.t 48)),
 It 50 (.pick (.t 43) (.t 49) (.c (.b false)))] [38,39,40,41,42,43,44,45,46,47,48,49])
 (.cond (.t 50)
 (.region [Mv 51 5,
 Mv 52 6,
 It 53 (.bin .add (.t 52) (.c (.i .i64 (1)))),
 ⟨none,(.mapup false [1] (.t 51) (.t 53) (.c (.b true))),none,[]⟩] [6,50,51,52,53])
 (.region [] [6,50])))))))
 (.region [It 54 (.bin .add (.t 12) (.c (.i .i64 (1)))),
 Mv 12 54] [7,6,27,54]))))
def I101:IFunc :=
  ⟨(.seq (.region [It 4 (.mov (.c .nm))] [4])
 (.seq (.region [It 8 .mkmap,
 ⟨none,(.mapup false [1] (.t 8) (.c i0) (.c (.b true))),none,[]⟩,
 Mv 9 8,
 Mv 5 9] [8,9])
 (.seq (.seq (.region [Mv 10 0,
 It 11 (.lenk 0 (.t 10)),
 It 12 (.mov (.c i0))] [])
 (.block 0
 (.loop L101a)))
 (.seq (.region [Mv 55 5,
 Mv 4 55] [0,1,5,10,11,12,13,55])
 .ret)))),
    56,2,[.t 4],0⟩
theorem tr101:trFunc Tryz.prog (hz [] I101.body) 0 Tryz.f101=some (plain1 I101):=by kernel_rfl
theorem ck101:ckC 2 I101.body=true:=by kernel_rfl
def L102a:ICode :=
  (.seq (.region [It 54 (.bin .lss (.t 53) (.t 52))] [])
 (.seq (.cond (.t 54)
 (.region [] [54])
 (.exit 2))
 (.seq (.block 3
 (.seq (.region [It 55 (.iaddr 3 (.t 51) (.t 53)),
 It 56 (.load (some 3) (.t 55)),
 It 9 (.alloc [i0,i0,i0]),
 ⟨none,(.store 3 (.t 9) (.t 56)),none,[]⟩] [55,56])
 (.seq (.region [It 57 (.load (some 3) (.t 9)),
 It 58 (.build [.np,.np,i0,i0,i0] [(0,1,(.t 1)),(1,1,(.t 7)),(2,3,(.t 57))]),
 It 59 (.call 132 [(.t 58)]),
 It 60 (.un .not (.t 59))] [9,57,58,59])
 (.cond (.t 60)
 (.seq (.region [It 2 (.mov (.c (.i .i64 (150))))] [1,44,45,46,7,51,52,53,60])
 .ret)
 (.region [] [60])))))
 (.region [It 61 (.bin .add (.t 53) (.c (.i .i64 (1)))),
 Mv 53 61] [61]))))
def L102b:ICode :=
  (.seq (.region [It 47 (.bin .lss (.t 46) (.t 45))] [])
 (.seq (.cond (.t 47)
 (.region [] [47])
 (.exit 0))
 (.seq (.block 1
 (.seq (.region [It 48 (.iaddr 4 (.t 44) (.t 46)),
 It 49 (.load (some 4) (.t 48)),
 It 7 (.alloc [(.s []),i0,i0,.ns]),
 ⟨none,(.store 4 (.t 7) (.t 49)),none,[]⟩] [48,49])
 (.seq (.region [Of 50 7 3,
 Ld 51 50,
 It 52 (.lenk 0 (.t 51)),
 It 53 (.mov (.c i0))] [50])
 (.block 2
 (.loop L102a)))))
 (.region [It 62 (.bin .add (.t 46) (.c (.i .i64 (1)))),
 Mv 46 62] [7,51,52,53,54,62]))))
def I102:IFunc :=
  ⟨(.seq (.region [It 1 (.box (.t 0)),
 It 2 (.mov (.c i0))] [0,2])
 (.seq (.region [It 3 (.mov (.f 127))] [])
 (.seq (.seq (.region [Of 10 1 0,
 Ld 11 10,
 It 12 (.lenk 0 (.t 11)),
 It 13 (.bin .gtr (.t 12) (.c (.i .i64 (16)))),
 Mv 14 13,
 Ig 15 14 false (.off (.t 1) 1),
 Ig 16 14 false (.load none (.t 15)),
 Ig 17 14 false (.lenk 0 (.t 16)),
 Ig 18 14 false (.bin .gtr (.t 17) (.c (.i .i64 (256)))),
 It 19 (.pick (.t 14) (.c (.b true)) (.t 18)),
 Mv 20 19,
 Ig 21 20 false (.off (.t 1) 0),
 Ig 22 20 false (.load none (.t 21)),
 Ig 23 20 false (.mov (.t 3)),
 Ig 24 20 false (.call 128 [(.t 22),(.t 23)]),
 It 25 (.pick (.t 20) (.c (.b true)) (.t 24))] [3,10,11,12,13,14,15,16,17,18,19,20,21,22,23,24])
 (.cond (.t 25)
 (.seq (.region [It 2 (.mov (.c (.i .i64 (5))))] [1,25])
 .ret)
 (.region [] [25])))
 (.seq (.region [It 4 (.mov (.f 129))] [])
 (.seq (.region [It 26 (.mkf 130 [] [(.t 1)]),
 Mv 5 26] [26])
 (.seq (.seq (.region [Of 27 1 0,
 Ld 28 27,
 It 29 (.lenk 0 (.t 28)),
 It 30 (.bin .eql (.t 29) (.c i0)),
 Mv 31 30,
 Ig 32 31 false (.off (.t 1) 1),
 Ig 33 31 false (.load none (.t 32)),
 Ig 34 31 false (.mov (.t 4)),
 Ig 35 31 false (.call 29 [(.t 33),(.t 34)]),
 It 36 (.pick (.t 31) (.c (.b true)) (.t 35)),
 Mv 37 36,
 Ig 38 37 false (.off (.t 1) 0),
 Ig 39 37 false (.load none (.t 38)),
 Ig 40 37 false (.mov (.t 5)),
 Ig 41 37 false (.call 128 [(.t 39),(.t 40)]),
 It 42 (.pick (.t 37) (.c (.b true)) (.t 41))] [4,5,27,28,29,30,31,32,33,34,35,36,37,38,39,40,41])
 (.cond (.t 42)
 (.seq (.region [It 2 (.mov (.c (.i .i64 (2))))] [1,42])
 .ret)
 (.region [] [42])))
 (.seq (.seq (.region [Of 43 1 0,
 Ld 44 43,
 It 45 (.lenk 0 (.t 44)),
 It 46 (.mov (.c i0))] [43])
 (.block 0
 (.loop L102b)))
 (.seq (.region [It 2 (.mov (.c i0))] [1,44,45,46,47])
 .ret)))))))),
    63,1,[.t 2],2⟩
theorem tr102:trFunc Tryz.prog (hz [] I102.body) 1 Tryz.f102=some (plain1 I102):=by kernel_rfl
theorem ck102:ckC 2 I102.body=true:=by kernel_rfl
def L103a:ICode :=
  (.seq (.seq (.region [Mv 17 6,
 It 18 (.nck (.t 17)),
 Of 19 18 1,
 Ld 20 19,
 It 21 (.lenk 0 (.t 20)),
 It 22 (.bin .gtr (.t 21) (.c i0))] [17,18,19,20,21])
 (.cond (.t 22)
 (.region [] [22])
 (.exit 0)))
 (.block 1
 (.seq (.region [Mv 23 6,
 It 24 (.nck (.t 23)),
 Of 25 24 1,
 Ld 26 25,
 Mv 27 6,
 It 28 (.nck (.t 27)),
 Of 29 28 1,
 Ld 30 29,
 It 31 (.lenk 0 (.t 30)),
 It 32 (.bin .sub (.t 31) (.c (.i .i64 (1)))),
 It 33 (.iaddr 1 (.t 26) (.t 32)),
 Ld 34 33,
 Mv 7 34] [23,24,25,26,27,28,29,30,31,32,33,34])
 (.seq (.region [Mv 35 6,
 Mv 36 6,
 It 37 (.nck (.t 36)),
 Of 38 37 1,
 Ld 39 38,
 Mv 40 6,
 It 41 (.nck (.t 40)),
 Of 42 41 1,
 Ld 43 42,
 It 44 (.lenk 0 (.t 43)),
 It 45 (.bin .sub (.t 44) (.c (.i .i64 (1)))),
 It 46 (.slq 1 (.t 39) none (some (.t 45)) none),
 It 47 (.nck (.t 35)),
 Of 48 47 1,
 ⟨none,(.store 1 (.t 48) (.t 46)),none,[]⟩] [35,36,37,38,39,40,41,42,43,44,45,46,47,48])
 (.seq (.region [Mv 49 6,
 It 50 (.load (some 2) (.t 2)),
 Of 51 3 3,
 Ld 52 51,
 Mv 53 7,
 It 54 (.iaddr 3 (.t 52) (.t 53)),
 It 55 (.load (some 3) (.t 54)),
 Mv 56 7,
 It 57 (.call 134 [(.t 49),(.t 50),(.t 55),(.t 56)])] [7,49,50,51,52,53,54,55,56,57])
 (.seq (.region [Mv 58 6,
 It 59 (.nck (.t 58)),
 Of 60 59 2,
 Ld 61 60] [58,59,60])
 (.cond (.t 61)
 (.exit 0)
 (.region [] [61]))))))))
def L103b:ICode :=
  (.seq (.region [It 72 (.bin .lss (.t 71) (.t 70))] [])
 (.seq (.cond (.t 72)
 (.region [] [72])
 (.exit 2))
 (.seq (.block 3
 (.seq (.region [Mv 73 71,
 Mv 8 73] [73])
 (.region [Mv 74 6,
 It 75 (.nck (.t 74)),
 Of 76 75 0,
 Ld 77 76,
 Mv 78 8,
 Mv 79 6,
 It 80 (.nck (.t 79)),
 Of 81 80 0,
 Ld 82 81,
 Mv 83 8,
 It 84 (.iaddr 3 (.t 82) (.t 83)),
 Of 85 84 2,
 Ld 86 85,
 ⟨(some 87),(.call 135 [(.t 86)]),none,[(77,(.load none (.t 76)),none)]⟩,
 It 88 (.iaddr 3 (.t 77) (.t 78)),
 Of 89 88 2,
 ⟨none,(.store 1 (.t 89) (.t 87)),none,[]⟩] [8,74,75,76,77,78,79,80,81,82,83,84,85,86,87,88,89])))
 (.region [It 90 (.bin .add (.t 71) (.c (.i .i64 (1)))),
 Mv 71 90] [90]))))
def I103:IFunc :=
  ⟨(.seq (.region [It 2 (.box (.t 0)),
 It 3 (.box (.t 1)),
 It 4 (.mov (.c .ns)),
 It 5 (.mov (.c i0))] [0,1,4,5])
 (.seq .skip
 (.seq (.region [Of 9 3 3,
 Ld 10 9,
 It 11 (.lenk 0 (.t 10)),
 It 12 (.mksl 3 40 [(.b false),i0,.ns] (.t 11) (.t 11)),
 It 13 (.build [.ns,.ns,(.b false)] [(0,1,(.t 12))]),
 It 14 (.box (.t 13)),
 Mv 6 14] [9,10,11,12,13,14])
 (.seq (.region [Mv 15 6,
 It 16 (.call 133 [(.t 15),(.c i0),(.c i0),(.c .ns)])] [15,16])
 (.seq .skip
 (.seq (.block 0
 (.loop L103a))
 (.seq (.seq (.region [Mv 62 6,
 It 63 (.nck (.t 62)),
 Of 64 63 2,
 Ld 65 64] [2,3,22,61,62,63,64])
 (.cond (.t 65)
 (.seq (.region [It 4 (.mov (.c .ns)),
 It 5 (.mov (.c (.i .i64 (170))))] [6,65])
 .ret)
 (.region [] [65])))
 (.seq (.seq (.region [Mv 66 6,
 It 67 (.nck (.t 66)),
 Of 68 67 0,
 Ld 69 68,
 It 70 (.lenk 0 (.t 69)),
 It 71 (.mov (.c i0))] [66,67,68,69])
 (.block 2
 (.loop L103b)))
 (.seq (.region [Mv 91 6,
 It 92 (.nck (.t 91)),
 Of 93 92 0,
 Ld 94 93,
 Mv 4 94,
 It 5 (.mov (.c i0))] [6,70,71,72,91,92,93,94])
 .ret))))))))),
    95,2,[.t 4,.t 5],2⟩
theorem tr103:trFunc Tryz.prog [([],[0,1,4,5]),([],[9,10,11,12,13,14]),([],[15,16]),([],[17,18,19,20,21]),([],[22]),([0,1,2,3,4,5,6,7,8,9,10,11,12],[23,24,25,26,27,28,29,30,31,32,33,34]),([0,1,2,3,4,5,6,7,8,9,10,11,12,13,14],[35,36,37,38,39,40,41,42,43,44,45,46,47,48]),([0,1,2,3,4,5,6,7,8],[7,49,50,51,52,53,54,55,56,57]),([],[58,59,60]),([],[61]),([],[2,3,22,61,62,63,64]),([],[6,65]),([],[65]),([],[66,67,68,69]),([],[]),([],[72]),([],[73]),([0,1,2,3,4,5,6,7,8,9,10,11,12,13,14,15,16],[8,74,75,76,77,78,79,80,81,82,83,84,85,86,87,88,89]),([],[90]),([],[6,70,71,72,91,92,93,94])] 1 Tryz.f103=some (plain1 I103):=by kernel_rfl
theorem ck103:ckC 2 I103.body=true:=by kernel_rfl
def L104a:ICode :=
  (.seq (.region [It 9 (.bin .lss (.t 8) (.t 7))] [])
 (.seq (.cond (.t 9)
 (.region [] [9])
 (.exit 0))
 (.seq (.block 1
 (.seq (.region [Mv 10 8,
 Mv 5 10] [10])
 (.seq (.region [Mv 11 1,
 Mv 12 0,
 Mv 13 5,
 It 14 (.iaddr 4 (.t 12) (.t 13)),
 It 15 (.load (some 4) (.t 14)),
 It 16 (.callv (.t 11) [(.t 15)])] [11,12,13,14,15])
 (.cond (.t 16)
 (.seq (.region [Mv 17 5,
 Mv 4 17] [0,1,7,8,5,16,17])
 .ret)
 (.region [] [5,16])))))
 (.region [It 18 (.bin .add (.t 8) (.c (.i .i64 (1)))),
 Mv 8 18] [18]))))
def I104:IFunc :=
  ⟨(.seq (.region [It 4 (.mov (.c i0))] [4])
 (.seq (.seq (.region [Mv 6 0,
 It 7 (.lenk 0 (.t 6)),
 It 8 (.mov (.c i0))] [6])
 (.block 0
 (.loop L104a)))
 (.seq (.region [It 4 (.mov (.c (.i .i64 (-1))))] [0,1,7,8,9])
 .ret))),
    19,2,[.t 4],0⟩
theorem tr104:trFunc Tryz.prog (hz [] I104.body) 0 Tryz.f104=some (plain1 I104):=by kernel_rfl
theorem ck104:ckC 2 I104.body=true:=by kernel_rfl
def I105:IFunc :=
  ⟨(.seq (.region [It 2 (.box (.t 0)),
 It 3 (.mov (.c (.b false)))] [0,3])
 (.seq (.region [Of 4 2 0,
 Ld 5 4,
 Ld 6 1,
 It 7 (.bin .eql (.t 5) (.t 6)),
 Mv 3 7] [1,2,4,5,6,7])
 .ret)),
    8,2,[.t 3],2⟩
theorem tr105:trFunc Tryz.prog (hz [] I105.body) 1 Tryz.f105=some (plain1 I105):=by kernel_rfl
theorem ck105:ckC 2 I105.body=true:=by kernel_rfl
def L106a:ICode :=
  (.seq (.region [It 9 (.bin .lss (.t 8) (.t 7))] [])
 (.seq (.cond (.t 9)
 (.region [] [9])
 (.exit 0))
 (.seq (.block 1
 (.seq (.region [It 10 (.iaddr 3 (.t 6) (.t 8)),
 It 11 (.load (some 3) (.t 10)),
 It 5 (.alloc [i0,i0,i0]),
 ⟨none,(.store 3 (.t 5) (.t 11)),none,[]⟩] [10,11])
 (.seq (.region [Of 12 5 0,
 Ld 13 12,
 It 14 (.call 61 [(.t 13)])] [12,13])
 (.cond (.t 14)
 (.region [Mv 15 0,
 It 16 (.load (some 3) (.t 5)),
 It 17 (.call 136 [(.t 15),(.t 16)])] [5,14,15,16,17])
 (.region [] [5,14])))))
 (.region [It 18 (.bin .add (.t 8) (.c (.i .i64 (1)))),
 Mv 8 18] [18]))))
def I106:IFunc :=
  ⟨(.seq (.region [Mv 6 1,
 It 7 (.lenk 0 (.t 6)),
 It 8 (.mov (.c i0))] [1])
 (.block 0
 (.loop L106a))),
    19,2,[],0⟩
theorem tr106:trFunc Tryz.prog (hz [] I106.body) 0 Tryz.f106=some (plain1 I106):=by kernel_rfl
theorem ck106:ckC 2 I106.body=true:=by kernel_rfl
def L107a:ICode :=
  (.seq (.seq (.region [Mv 31 6,
 It 32 (.lenk 0 (.t 31)),
 Mv 33 1,
 It 34 (.bin .lss (.t 32) (.t 33))] [31,32,33])
 (.cond (.t 34)
 (.region [] [34])
 (.exit 0)))
 (.block 1
 (.region [Mv 35 6,
 It 36 (.build [i0,i0,i0,i0,(.s []),.ns,.ns] [(0,1,(.c (.i .i64 (3))))]),
 It 37 (.bsl 7 1 [i0,i0,i0,i0,(.s []),.ns,.ns] [(0,7,(.t 36))]),
 It 38 (.app 7 96 (.t 35) (.t 37)),
 Mv 6 38] [35,36,37,38])))
def I107:IFunc :=
  ⟨(.seq (.region [It 4 (.mov (.c .ns))] [4])
 (.seq (.region [Mv 7 0,
 It 8 (.nck (.t 7)),
 Of 9 8 19,
 Ld 10 9,
 It 11 (.lenk 0 (.t 10)),
 Mv 12 1,
 It 13 (.bin .sub (.t 11) (.t 12)),
 It 14 (.mm true (.t 13) [(.c i0)]),
 Mv 5 14] [7,8,9,10,11,12,13,14])
 (.seq (.region [Mv 15 0,
 It 16 (.nck (.t 15)),
 Of 17 16 19,
 Ld 18 17,
 Mv 19 5,
 It 20 (.sl 7 (.t 18) (some (.t 19)) none none),
 It 21 (.call 47 [(.t 20)]),
 Mv 6 21] [15,16,17,18,19,20,21])
 (.seq (.region [Mv 22 0,
 Mv 23 0,
 It 24 (.nck (.t 23)),
 Of 25 24 19,
 Ld 26 25,
 Mv 27 5,
 It 28 (.sl 7 (.t 26) none (some (.t 27)) none),
 It 29 (.nck (.t 22)),
 Of 30 29 19,
 ⟨none,(.store 1 (.t 30) (.t 28)),none,[]⟩] [0,5,22,23,24,25,26,27,28,29,30])
 (.seq (.block 0
 (.loop L107a))
 (.seq (.region [Mv 39 6,
 Mv 4 39] [1,6,34,39])
 .ret)))))),
    40,2,[.t 4],0⟩
theorem tr107:trFunc Tryz.prog (hz [] I107.body) 0 Tryz.f107=some (plain1 I107):=by kernel_rfl
theorem ck107:ckC 2 I107.body=true:=by kernel_rfl
def L108a:ICode :=
  (.seq (.seq (.region [Mv 11 5,
 Mv 12 0,
 It 13 (.lenk 0 (.t 12)),
 It 14 (.bin .lss (.t 11) (.t 13))] [11,12,13])
 (.cond (.t 14)
 (.region [] [14])
 (.exit 0)))
 (.seq (.block 1
 (.seq (.region [Mv 17 0,
 Mv 18 5,
 It 19 (.iaddr 1 (.t 17) (.t 18)),
 Ld 20 19,
 Mv 21 1,
 Mv 22 5,
 It 23 (.iaddr 1 (.t 21) (.t 22)),
 Ld 24 23,
 It 25 (.bin .neq (.t 20) (.t 24))] [17,18,19,20,21,22,23,24])
 (.cond (.t 25)
 (.seq (.region [It 4 (.mov (.c (.b false)))] [0,1,5,25])
 .ret)
 (.region [] [25]))))
 (.region [Mv 15 5,
 It 16 (.bin .add (.t 15) (.c (.i .i64 (1)))),
 Mv 5 16] [15,16])))
def I108:IFunc :=
  ⟨(.seq (.region [It 4 (.mov (.c (.b false)))] [4])
 (.seq (.seq (.region [Mv 6 0,
 It 7 (.lenk 0 (.t 6)),
 Mv 8 1,
 It 9 (.lenk 0 (.t 8)),
 It 10 (.bin .neq (.t 7) (.t 9))] [6,7,8,9])
 (.cond (.t 10)
 (.seq (.region [It 4 (.mov (.c (.b false)))] [0,1,10])
 .ret)
 (.region [] [10])))
 (.seq (.seq (.region [It 5 (.mov (.c i0))] [])
 (.block 0
 (.loop L108a)))
 (.seq (.region [It 4 (.mov (.c (.b true)))] [0,1,5,14])
 .ret)))),
    26,2,[.t 4],2⟩
theorem tr108:trFunc Tryz.prog (hz [(7,[0,1,2,3,4,5,6,7,8])] I108.body) 1 Tryz.f108=some (plain1 I108):=by kernel_rfl
theorem ck108:ckC 2 I108.body=true:=by kernel_rfl
def I109:IFunc :=
  ⟨(.seq (.region [It 4 (.mov (.c (.b false)))] [4])
 (.seq (.region [Mv 5 0,
 Mv 6 1,
 It 7 (.call 137 [(.t 5),(.t 6)]),
 It 8 (.bin .geq (.t 7) (.c i0)),
 Mv 4 8] [0,1,5,6,7,8])
 .ret)),
    9,2,[.t 4],2⟩
theorem tr109:trFunc Tryz.prog (hz [] I109.body) 1 Tryz.f109=some (plain1 I109):=by kernel_rfl
theorem ck109:ckC 2 I109.body=true:=by kernel_rfl
def I110:IFunc :=
  ⟨(.seq (.region [It 3 (.box (.t 0)),
 It 4 (.mov (.c (.b false)))] [0,4])
 (.seq (.region [It 5 (.load (some 7) (.t 3)),
 Ld 6 1,
 Ld 7 2,
 It 8 (.call 56 [(.t 5),(.t 6),(.t 7)]),
 It 9 (.un .not (.t 8)),
 Mv 4 9] [1,2,3,5,6,7,8,9])
 .ret)),
    10,3,[.t 4],2⟩
theorem tr110:trFunc Tryz.prog (hz [] I110.body) 1 Tryz.f110=some (plain1 I110):=by kernel_rfl
theorem ck110:ckC 2 I110.body=true:=by kernel_rfl
def L111a:ICode :=
  (.seq (.region [It 9 (.bin .lss (.t 8) (.t 7))] [])
 (.seq (.cond (.t 9)
 (.region [] [9])
 (.exit 0))
 (.seq (.block 1
 (.seq (.region [Mv 10 8,
 Mv 5 10] [10])
 (.seq (.region [Mv 11 1,
 Mv 12 0,
 Mv 13 5,
 It 14 (.iaddr 3 (.t 12) (.t 13)),
 It 15 (.load (some 3) (.t 14)),
 It 16 (.callv (.t 11) [(.t 15)])] [11,12,13,14,15])
 (.cond (.t 16)
 (.seq (.region [Mv 17 5,
 Mv 4 17] [0,1,7,8,5,16,17])
 .ret)
 (.region [] [5,16])))))
 (.region [It 18 (.bin .add (.t 8) (.c (.i .i64 (1)))),
 Mv 8 18] [18]))))
def I111:IFunc :=
  ⟨(.seq (.region [It 4 (.mov (.c i0))] [4])
 (.seq (.seq (.region [Mv 6 0,
 It 7 (.lenk 0 (.t 6)),
 It 8 (.mov (.c i0))] [6])
 (.block 0
 (.loop L111a)))
 (.seq (.region [It 4 (.mov (.c (.i .i64 (-1))))] [0,1,7,8,9])
 .ret))),
    19,2,[.t 4],2⟩
theorem tr111:trFunc Tryz.prog (hz [] I111.body) 1 Tryz.f111=some (plain1 I111):=by kernel_rfl
theorem ck111:ckC 2 I111.body=true:=by kernel_rfl
def I112:IFunc :=
  ⟨(.seq (.region [It 2 (.box (.t 0)),
 It 3 (.box (.t 1)),
 It 4 (.mov (.c (.b false)))] [0,1,4])
 (.seq (.region [Of 5 2 0,
 Ld 6 5,
 Mv 7 6,
 Ig 8 7 false (.off (.t 3) 2),
 Ig 9 7 false (.load none (.t 8)),
 Ig 10 7 false (.bin .eql (.t 9) (.c (.s []))),
 It 11 (.pick (.t 7) (.c (.b true)) (.t 10)),
 Mv 12 11,
 Ig 13 12 true (.off (.t 2) 1),
 Ig 14 12 true (.load none (.t 13)),
 Ig 15 12 true (.mov (.t 14)),
 Ig 16 15 false (.off (.t 3) 3),
 Ig 17 15 false (.load none (.t 16)),
 Ig 18 15 false (.lenk 0 (.t 17)),
 Ig 19 15 false (.bin .eql (.t 18) (.c i0)),
 Ig 20 12 true (.pick (.t 15) (.c (.b true)) (.t 19)),
 It 21 (.pick (.t 12) (.t 20) (.c (.b false))),
 Mv 22 21,
 Ig 23 22 true (.off (.t 2) 2),
 Ig 24 22 true (.load none (.t 23)),
 Ig 25 22 true (.mov (.t 24)),
 Ig 26 25 false (.off (.t 3) 4),
 Ig 27 25 false (.load none (.t 26)),
 Ig 28 25 false (.lenk 0 (.t 27)),
 Ig 29 25 false (.bin .eql (.t 28) (.c i0)),
 Ig 30 22 true (.pick (.t 25) (.c (.b true)) (.t 29)),
 It 31 (.pick (.t 22) (.t 30) (.c (.b false))),
 Mv 4 31] [2,3,5,6,7,8,9,10,11,12,13,14,15,16,17,18,19,20,21,22,23,24,25,26,27,28,29,30,31])
 .ret)),
    32,2,[.t 4],2⟩
theorem tr112:trFunc Tryz.prog (hz [] I112.body) 1 Tryz.f112=some (plain1 I112):=by kernel_rfl
theorem ck112:ckC 2 I112.body=true:=by kernel_rfl
def L113a:ICode :=
  (.seq (.region [It 9 (.bin .lss (.t 8) (.t 7))] [])
 (.seq (.cond (.t 9)
 (.region [] [9])
 (.exit 0))
 (.seq (.block 1
 (.seq (.region [It 10 (.iaddr 1 (.t 6) (.t 8)),
 Ld 11 10,
 Mv 5 11] [10,11])
 (.seq (.seq (.region [Mv 12 5,
 Mv 13 3,
 It 14 (.bin .leq (.t 12) (.t 13)),
 Mv 15 14,
 Ig 16 15 false (.mov (.t 5)),
 Ig 17 15 false (.call 138 [(.t 16)]),
 Ig 18 15 false (.un .not (.t 17)),
 It 19 (.pick (.t 15) (.c (.b true)) (.t 18))] [3,12,13,14,15,16,17,18])
 (.cond (.t 19)
 (.seq (.region [It 2 (.mov (.c (.b false)))] [6,7,8,5,19])
 .ret)
 (.region [] [19])))
 (.region [Mv 20 5,
 Mv 3 20] [5,20]))))
 (.region [It 21 (.bin .add (.t 8) (.c (.i .i64 (1)))),
 Mv 8 21] [21]))))
def I113:IFunc :=
  ⟨(.seq (.region [It 2 (.mov (.c (.b false)))] [2])
 (.seq (.region [It 3 (.mov (.c (.s [])))] [])
 (.seq (.seq (.region [Mv 6 0,
 It 7 (.lenk 0 (.t 6)),
 It 8 (.mov (.c i0))] [0])
 (.block 0
 (.loop L113a)))
 (.seq (.region [It 2 (.mov (.c (.b true)))] [3,6,7,8,9])
 .ret)))),
    22,1,[.t 2],2⟩
theorem tr113:trFunc Tryz.prog (hz [] I113.body) 1 Tryz.f113=some (plain1 I113):=by kernel_rfl
theorem ck113:ckC 2 I113.body=true:=by kernel_rfl
def I114:IFunc :=
  ⟨(.seq (.region [It 2 (.alloc [i0,.ns,.ns]),
 It 3 (.mov (.c (.b false)))] [3])
 (.seq (.seq (.region [Mv 7 0,
 It 8 (.lenk 1 (.t 7)),
 It 9 (.bin .gtr (.t 8) (.c (.i .i64 (64))))] [7,8])
 (.cond (.t 9)
 (.seq (.region [It 10 (.build [i0,.ns,.ns] []),
 ⟨none,(.store 3 (.t 2) (.t 10)),none,[]⟩,
 It 3 (.mov (.c (.b false)))] [0,9,10])
 .ret)
 (.region [] [9])))
 (.seq (.region [Mv 12 0,
 It 13 (.call 139 [(.t 12)]),
 Mv 11 13,
 Ex 14 11 0,
 Ex 15 11 1,
 Ex 16 11 2,
 It 4 (.alloc [i0,.ns,.ns]),
 ⟨none,(.store 3 (.t 4) (.t 14)),none,[]⟩,
 Mv 5 15,
 Mv 6 16] [0,12,13,11,14,15,16])
 (.seq (.region [It 17 (.load (some 3) (.t 4)),
 Mv 18 6,
 Mv 19 18,
 Ig 20 19 true (.mov (.t 5)),
 Ig 21 19 true (.bin .eql (.t 20) (.c (.s []))),
 It 22 (.pick (.t 19) (.t 21) (.c (.b false))),
 ⟨none,(.store 3 (.t 2) (.t 17)),none,[]⟩,
 Mv 3 22] [4,5,6,17,18,19,20,21,22])
 .ret)))),
    23,1,[.c 2 (some 3),.t 3],2⟩
theorem tr114:trFunc Tryz.prog (hz [] I114.body) 1 Tryz.f114=some (plain1 I114):=by kernel_rfl
theorem ck114:ckC 2 I114.body=true:=by kernel_rfl
def I115:IFunc :=
  ⟨(.seq (.region [It 1 (.box (.t 0)),
 It 2 (.alloc [i0,i0,(.s []),.ns,.ns]),
 It 3 (.mov (.c i0))] [0,3])
 (.seq (.seq (.region [It 4 (.load (some 5) (.t 1)),
 It 5 (.call 8 [(.t 4)]),
 It 6 (.bin .neq (.t 5) (.c i0))] [4,5])
 (.cond (.t 6)
 (.seq (.region [It 7 (.build [i0,i0,(.s []),.ns,.ns] []),
 ⟨none,(.store 5 (.t 2) (.t 7)),none,[]⟩,
 It 3 (.mov (.c (.i .i64 (4))))] [1,6,7])
 .ret)
 (.region [] [6])))
 (.seq (.region [It 8 (.load (some 5) (.t 1)),
 It 9 (.call 91 [(.t 8)]),
 ⟨none,(.store 5 (.t 2) (.t 9)),none,[]⟩,
 It 3 (.mov (.c i0))] [1,8,9])
 .ret))),
    10,1,[.c 2 (some 5),.t 3],2⟩
theorem tr115:trFunc Tryz.prog (hz [] I115.body) 1 Tryz.f115=some (plain1 I115):=by kernel_rfl
theorem ck115:ckC 2 I115.body=true:=by kernel_rfl
def I116:IFunc :=
  ⟨(.seq (.region [It 2 (.mov (.c (.b false)))] [2])
 (.seq (.region [Mv 4 0,
 Mv 5 0,
 It 6 (.lenk 0 (.t 5)),
 It 7 (.mksl 5 80 [i0,i0,(.s []),.ns,.ns] (.t 6) (.t 6)),
 It 8 (.build [i0,i0,(.s []),.ns,.ns] [(0,1,(.c (.i .i64 (5)))),(4,1,(.t 4)),(3,1,(.t 7))]),
 It 3 (.alloc [i0,i0,(.s []),.ns,.ns]),
 ⟨none,(.store 5 (.t 3) (.t 8)),none,[]⟩] [4,5,6,7,8])
 (.seq (.region [Mv 9 0,
 It 10 (.lenk 0 (.t 9)),
 It 11 (.bin .leq (.t 10) (.c (.i .i64 (8)))),
 Mv 12 11,
 Ig 13 12 true (.load (some 5) (.t 3)),
 Ig 14 12 true (.call 8 [(.t 13)]),
 Ig 15 12 true (.bin .eql (.t 14) (.c i0)),
 It 16 (.pick (.t 12) (.t 15) (.c (.b false))),
 Mv 2 16] [0,3,9,10,11,12,13,14,15,16])
 .ret))),
    17,1,[.t 2],2⟩
theorem tr116:trFunc Tryz.prog (hz [] I116.body) 1 Tryz.f116=some (plain1 I116):=by kernel_rfl
theorem ck116:ckC 2 I116.body=true:=by kernel_rfl
def L117a:ICode :=
  (.seq (.seq (.region [Mv 13 7,
 Mv 14 8,
 It 15 (.bin .lss (.t 13) (.t 14))] [13,14])
 (.cond (.t 15)
 (.region [] [15])
 (.exit 0)))
 (.block 1
 (.seq (.region [Mv 16 7,
 Mv 17 8,
 It 18 (.bin .add (.t 16) (.t 17)),
 It 19 (.conv .u64 (.t 18)),
 It 20 (.bin .shr (.t 19) (.c (.i .u64 (1)))),
 It 21 (.conv .i64 (.t 20)),
 Mv 9 21] [16,17,18,19,20,21])
 (.seq (.region [Mv 22 0,
 Mv 23 9,
 It 24 (.iaddr 1 (.t 22) (.t 23)),
 Ld 25 24,
 Mv 26 1,
 It 27 (.call 140 [(.t 25),(.t 26)])] [22,23,24,25,26])
 (.cond (.t 27)
 (.region [Mv 28 9,
 It 29 (.bin .add (.t 28) (.c (.i .i64 (1)))),
 Mv 7 29] [9,27,28,29])
 (.region [Mv 30 9,
 Mv 8 30] [9,27,30]))))))
def I117:IFunc :=
  ⟨(.seq (.region [It 4 (.mov (.c i0)),
 It 5 (.mov (.c (.b false)))] [4,5])
 (.seq (.region [Mv 10 0,
 It 11 (.lenk 0 (.t 10)),
 Mv 6 11] [10,11])
 (.seq (.region [Mv 12 6,
 It 7 (.mov (.c i0)),
 Mv 8 12] [12])
 (.seq (.block 0
 (.loop L117a))
 (.seq (.region [Mv 31 7,
 Mv 32 7,
 Mv 33 6,
 It 34 (.bin .lss (.t 32) (.t 33)),
 Mv 35 34,
 Ig 36 35 true (.mov (.t 0)),
 Ig 37 35 true (.mov (.t 7)),
 Ig 38 35 true (.iaddr 1 (.t 36) (.t 37)),
 Ig 39 35 true (.load none (.t 38)),
 Ig 40 35 true (.mov (.t 1)),
 Ig 41 35 true (.bin .eql (.t 39) (.t 40)),
 Ig 42 35 true (.mov (.t 41)),
 Ig 43 42 false (.mov (.t 0)),
 Ig 44 42 false (.mov (.t 7)),
 Ig 45 42 false (.iaddr 1 (.t 43) (.t 44)),
 Ig 46 42 false (.load none (.t 45)),
 Ig 47 42 false (.call 141 [(.t 46)]),
 Ig 48 42 false (.mov (.t 47)),
 Ig 49 48 true (.mov (.t 1)),
 Ig 50 48 true (.call 141 [(.t 49)]),
 Ig 51 42 false (.pick (.t 48) (.t 50) (.c (.b false))),
 Ig 52 35 true (.pick (.t 42) (.c (.b true)) (.t 51)),
 It 53 (.pick (.t 35) (.t 52) (.c (.b false))),
 Mv 4 31,
 Mv 5 53] [0,1,6,7,8,15,31,32,33,34,35,36,37,38,39,40,41,42,43,44,45,46,47,48,49,50,51,52,53])
 .ret))))),
    54,2,[.t 4,.t 5],2⟩
theorem tr117:trFunc Tryz.prog (hz [] I117.body) 1 Tryz.f117=some (plain1 I117):=by kernel_rfl
theorem ck117:ckC 2 I117.body=true:=by kernel_rfl
def L118a:ICode :=
  (.seq (.region [It 24 (.bin .lss (.t 23) (.t 22))] [])
 (.seq (.cond (.t 24)
 (.region [] [24])
 (.exit 0))
 (.seq (.block 1
 (.seq (.region [Mv 25 23,
 It 26 (.iaddr 5 (.t 21) (.t 23)),
 It 27 (.load (some 5) (.t 26)),
 It 6 (.alloc [i0,i0,(.s []),.ns,.ns]),
 Mv 5 25,
 ⟨none,(.store 5 (.t 6) (.t 27)),none,[]⟩] [25,26,27])
 (.seq (.seq (.region [Of 28 2 0,
 Ld 29 28,
 It 30 (.bin .eql (.t 29) (.c (.i .i64 (4))))] [28,29])
 (.cond (.t 30)
 (.region [It 5 (.mov (.c i0))] [30])
 (.region [] [30])))
 (.seq (.region [Of 31 2 2,
 Ld 32 31,
 Mv 33 5,
 It 34 (.iaddr 3 (.t 32) (.t 33)),
 It 35 (.load (some 3) (.t 34)),
 It 36 (.load (some 5) (.t 6)),
 It 37 (.call 118 [(.t 35),(.t 36)]),
 It 38 (.un .not (.t 37))] [6,5,31,32,33,34,35,36,37])
 (.cond (.t 38)
 (.seq (.region [It 4 (.mov (.c (.b false)))] [2,21,22,23,38])
 .ret)
 (.region [] [38]))))))
 (.region [It 39 (.bin .add (.t 23) (.c (.i .i64 (1)))),
 Mv 23 39] [39]))))
def I118:IFunc :=
  ⟨(.seq (.region [It 2 (.box (.t 0)),
 It 3 (.box (.t 1)),
 It 4 (.mov (.c (.b false)))] [0,1,4])
 (.seq (.seq (.region [Of 7 3 0,
 Ld 8 7,
 Of 9 2 0,
 Ld 10 9,
 It 11 (.bin .neq (.t 8) (.t 10)),
 Mv 12 11,
 Ig 13 12 false (.off (.t 3) 4),
 Ig 14 12 false (.load none (.t 13)),
 Ig 15 12 false (.off (.t 2) 1),
 Ig 16 12 false (.load none (.t 15)),
 Ig 17 12 false (.call 121 [(.t 14),(.t 16)]),
 Ig 18 12 false (.un .not (.t 17)),
 It 19 (.pick (.t 12) (.c (.b true)) (.t 18))] [7,8,9,10,11,12,13,14,15,16,17,18])
 (.cond (.t 19)
 (.seq (.region [It 4 (.mov (.c (.b false)))] [2,3,19])
 .ret)
 (.region [] [19])))
 (.seq (.seq (.region [Of 20 3 3,
 Ld 21 20,
 It 22 (.lenk 0 (.t 21)),
 It 23 (.mov (.c i0))] [3,20])
 (.block 0
 (.loop L118a)))
 (.seq (.region [It 4 (.mov (.c (.b true)))] [2,21,22,23,24])
 .ret)))),
    40,2,[.t 4],2⟩
theorem tr118:trFunc Tryz.prog (hz [(11,[0,1,2,3,4,5,6,7])] I118.body) 1 Tryz.f118=some (plain1 I118):=by kernel_rfl
theorem ck118:ckC 2 I118.body=true:=by kernel_rfl
def I119:IFunc :=
  ⟨(.seq (.region [It 1 (.box (.t 0)),
 It 2 (.mov (.c (.b false)))] [0,2])
 (.seq (.region [Of 3 1 0,
 Ld 4 3,
 It 5 (.bin .neq (.t 4) (.c (.i .i64 (1)))),
 Mv 2 5] [1,3,4,5])
 .ret)),
    6,1,[.t 2],2⟩
theorem tr119:trFunc Tryz.prog (hz [] I119.body) 1 Tryz.f119=some (plain1 I119):=by kernel_rfl
theorem ck119:ckC 2 I119.body=true:=by kernel_rfl
def I120:IFunc :=
  ⟨(.seq (.region [It 1 (.box (.t 0)),
 It 2 (.mov (.c (.b false)))] [0,2])
 (.seq (.region [It 3 (.load (some 5) (.t 1)),
 It 4 (.call 8 [(.t 3)]),
 It 5 (.bin .neq (.t 4) (.c i0)),
 Mv 2 5] [1,3,4,5])
 .ret)),
    6,1,[.t 2],2⟩
theorem tr120:trFunc Tryz.prog (hz [] I120.body) 1 Tryz.f120=some (plain1 I120):=by kernel_rfl
theorem ck120:ckC 2 I120.body=true:=by kernel_rfl
def L121a:ICode :=
  (.seq (.region [It 14 (.bin .lss (.t 13) (.t 12))] [])
 (.seq (.cond (.t 14)
 (.region [] [14])
 (.exit 0))
 (.seq (.block 1
 (.seq (.region [Mv 15 13,
 Mv 5 15] [15])
 (.seq (.region [Mv 16 0,
 Mv 17 5,
 It 18 (.iaddr 1 (.t 16) (.t 17)),
 Ld 19 18,
 Mv 20 1,
 Mv 21 5,
 It 22 (.iaddr 1 (.t 20) (.t 21)),
 Ld 23 22,
 It 24 (.bin .neq (.t 19) (.t 23))] [5,16,17,18,19,20,21,22,23])
 (.cond (.t 24)
 (.seq (.region [It 4 (.mov (.c (.b false)))] [0,1,12,13,24])
 .ret)
 (.region [] [24])))))
 (.region [It 25 (.bin .add (.t 13) (.c (.i .i64 (1)))),
 Mv 13 25] [25]))))
def I121:IFunc :=
  ⟨(.seq (.region [It 4 (.mov (.c (.b false)))] [4])
 (.seq (.seq (.region [Mv 6 0,
 It 7 (.lenk 0 (.t 6)),
 Mv 8 1,
 It 9 (.lenk 0 (.t 8)),
 It 10 (.bin .neq (.t 7) (.t 9))] [6,7,8,9])
 (.cond (.t 10)
 (.seq (.region [It 4 (.mov (.c (.b false)))] [0,1,10])
 .ret)
 (.region [] [10])))
 (.seq (.seq (.region [Mv 11 0,
 It 12 (.lenk 0 (.t 11)),
 It 13 (.mov (.c i0))] [11])
 (.block 0
 (.loop L121a)))
 (.seq (.region [It 4 (.mov (.c (.b true)))] [0,1,12,13,14])
 .ret)))),
    26,2,[.t 4],2⟩
theorem tr121:trFunc Tryz.prog (hz [(8,[0,1,2,3,4,5,6,7,8])] I121.body) 1 Tryz.f121=some (plain1 I121):=by kernel_rfl
theorem ck121:ckC 2 I121.body=true:=by kernel_rfl
def L122a:ICode :=
  (.seq (.region [It 18 (.bin .lss (.t 17) (.t 16))] [])
 (.seq (.cond (.t 18)
 (.region [] [18])
 (.exit 0))
 (.seq (.block 1
 (.seq (.region [Mv 19 17,
 It 20 (.iaddr 5 (.t 15) (.t 17)),
 It 21 (.load (some 5) (.t 20)),
 It 8 (.alloc [i0,i0,(.s []),.ns,.ns]),
 Mv 7 19,
 ⟨none,(.store 5 (.t 8) (.t 21)),none,[]⟩] [19,20,21])
 (.seq (.region [Mv 22 1,
 Mv 23 7,
 It 24 (.iaddr 5 (.t 22) (.t 23)),
 It 25 (.load (some 5) (.t 24)),
 It 9 (.alloc [i0,i0,(.s []),.ns,.ns]),
 ⟨none,(.store 5 (.t 9) (.t 25)),none,[]⟩] [7,22,23,24,25])
 (.seq (.region [Mv 26 2,
 It 27 (.load (some 5) (.t 8)),
 It 28 (.load (some 5) (.t 9)),
 It 29 (.callv (.t 26) [(.t 27),(.t 28)]),
 It 30 (.un .not (.t 29))] [8,9,26,27,28,29])
 (.cond (.t 30)
 (.seq (.region [It 6 (.mov (.c (.b false)))] [1,2,15,16,17,30])
 .ret)
 (.region [] [30]))))))
 (.region [It 31 (.bin .add (.t 17) (.c (.i .i64 (1)))),
 Mv 17 31] [31]))))
def I122:IFunc :=
  ⟨(.seq (.region [It 6 (.mov (.c (.b false)))] [6])
 (.seq (.seq (.region [Mv 10 0,
 It 11 (.lenk 0 (.t 10)),
 Mv 12 1,
 It 13 (.lenk 0 (.t 12)),
 It 14 (.bin .neq (.t 11) (.t 13))] [10,11,12,13])
 (.cond (.t 14)
 (.seq (.region [It 6 (.mov (.c (.b false)))] [0,1,2,14])
 .ret)
 (.region [] [14])))
 (.seq (.seq (.region [Mv 15 0,
 It 16 (.lenk 0 (.t 15)),
 It 17 (.mov (.c i0))] [0])
 (.block 0
 (.loop L122a)))
 (.seq (.region [It 6 (.mov (.c (.b true)))] [1,2,15,16,17,18])
 .ret)))),
    32,3,[.t 6],2⟩
theorem tr122:trFunc Tryz.prog (hz [] I122.body) 1 Tryz.f122=some (plain1 I122):=by kernel_rfl
theorem ck122:ckC 2 I122.body=true:=by kernel_rfl
def I123:IFunc :=
  ⟨(.seq (.region [It 2 (.mov (.c .ns))] [2])
 (.seq (.region [It 3 (.mov (.c .ns))] [])
 (.seq (.region [Mv 4 3,
 Mv 5 0,
 It 6 (.app 1 16 (.t 4) (.t 5)),
 Mv 3 6] [0,4,5,6])
 (.seq (.region [Mv 7 3,
 Mv 2 7] [3,7])
 .ret)))),
    8,1,[.t 2],2⟩
theorem tr123:trFunc Tryz.prog (hz [] I123.body) 1 Tryz.f123=some (plain1 I123):=by kernel_rfl
theorem ck123:ckC 2 I123.body=true:=by kernel_rfl
def L124a:ICode :=
  (.seq (.region [It 9 (.bin .lss (.t 8) (.t 7))] [])
 (.seq (.cond (.t 9)
 (.region [] [9])
 (.exit 0))
 (.seq (.block 1
 (.seq (.region [Mv 10 8,
 Mv 4 10] [10])
 (.seq (.seq (.region [Ld 11 2,
 Mv 12 4,
 It 13 (.look false [1] (.b false) false (.t 11) (.t 12)),
 It 14 (.un .not (.t 13))] [11,12,13])
 (.cond (.t 14)
 (.exit 1)
 (.region [] [14])))
 (.seq (.region [Ld 15 1,
 Ld 16 2,
 Mv 17 4,
 It 18 (.call 125 [(.t 15),(.t 16),(.t 17)]),
 It 5 (.alloc [i0,i0,i0,i0]),
 ⟨none,(.store 4 (.t 5) (.t 18)),none,[]⟩] [4,15,16,17,18])
 (.seq (.region [Of 19 5 1,
 Ld 20 19,
 It 21 (.bin .gtr (.t 20) (.c i0)),
 Mv 22 21,
 Ig 23 22 true (.mov (.t 0)),
 Ig 24 22 true (.load (some 4) (.t 5)),
 Ig 25 22 true (.callv (.t 23) [(.t 24)]),
 Ig 26 22 true (.un .not (.t 25)),
 It 27 (.pick (.t 22) (.t 26) (.c (.b false)))] [5,19,20,21,22,23,24,25,26])
 (.cond (.t 27)
 .ret
 (.region [] [27])))))))
 (.region [It 28 (.bin .add (.t 8) (.c (.i .i64 (1)))),
 Mv 8 28] [4,14,28]))))
def I124:IFunc :=
  ⟨(.seq (.region [Ld 6 1,
 It 7 (.lenk 0 (.t 6)),
 It 8 (.mov (.c i0))] [6])
 (.block 0
 (.loop L124a))),
    29,3,[],0⟩
theorem tr124:trFunc Tryz.prog (hz [] I124.body) 0 Tryz.f124=some (plain1 I124):=by kernel_rfl
theorem ck124:ckC 2 I124.body=true:=by kernel_rfl
def L125a:ICode :=
  (.seq (.seq (.region [Mv 13 8,
 Mv 14 0,
 It 15 (.lenk 0 (.t 14)),
 It 16 (.bin .lss (.t 13) (.t 15))] [13,14,15])
 (.cond (.t 16)
 (.region [] [16])
 (.exit 0)))
 (.seq (.block 1
 (.seq (.region [Mv 19 0,
 Mv 20 8,
 It 21 (.iaddr 3 (.t 19) (.t 20)),
 It 22 (.load (some 3) (.t 21)),
 It 9 (.alloc [i0,i0,i0]),
 ⟨none,(.store 3 (.t 9) (.t 22)),none,[]⟩] [19,20,21,22])
 (.seq (.block 2
 (.seq (.region [Mv 24 8,
 Mv 25 2,
 It 26 (.bin .gtr (.t 24) (.t 25)),
 Mv 27 26,
 Ig 28 27 true (.mov (.t 1)),
 Ig 29 27 true (.mov (.t 8)),
 Ig 30 27 true (.look false [1] (.b false) false (.t 28) (.t 29)),
 It 31 (.pick (.t 27) (.t 30) (.c (.b false))),
 Mv 23 31] [24,25,26,27,28,29,30,31])
 (.cond (.t 23)
 (.seq (.region [Mv 32 8,
 Of 33 7 3,
 ⟨none,(.store 1 (.t 33) (.t 32)),none,[]⟩] [0,1,2,8,9,23,32,33])
 (.seq (.region [It 34 (.load (some 4) (.t 7)),
 ⟨none,(.store 4 (.t 6) (.t 34)),none,[]⟩] [7,34])
 .ret))
 (.seq (.region [It 36 (.load (some 3) (.t 9)),
 It 37 (.call 126 [(.t 36)]),
 Mv 35 37] [23,36,37])
 (.cond (.t 35)
 (.seq (.region [Of 38 7 1,
 Ld 39 38,
 It 40 (.bin .add (.t 39) (.c (.i .i64 (1)))),
 Of 41 7 1,
 ⟨none,(.store 1 (.t 41) (.t 40)),none,[]⟩] [0,1,2,8,35,38,39,40,41])
 (.seq (.region [Of 42 9 1,
 Ld 43 42,
 Of 44 7 2,
 ⟨none,(.store 1 (.t 44) (.c (.i .i64 (1)))),none,[(43,(.load none (.t 42)),none)]⟩,
 Of 45 7 3,
 ⟨none,(.store 1 (.t 45) (.t 43)),none,[]⟩] [42,43,44,45])
 (.seq (.seq (.region [Of 46 9 0,
 Ld 47 46,
 It 48 (.bin .eql (.t 47) (.c (.i .i64 (25))))] [9,46,47])
 (.cond (.t 48)
 (.region [Of 49 7 2,
 ⟨none,(.store 1 (.t 49) (.c (.i .i64 (2)))),none,[]⟩] [48,49])
 (.region [] [48])))
 (.seq (.region [It 50 (.load (some 4) (.t 7)),
 ⟨none,(.store 4 (.t 6) (.t 50)),none,[]⟩] [7,50])
 .ret))))
 (.seq (.region [Of 52 9 0,
 Ld 53 52,
 It 54 (.call 61 [(.t 53)]),
 It 55 (.un .not (.t 54)),
 Mv 51 55] [9,35,52,53,54,55])
 (.cond (.t 51)
 (.seq (.region [Mv 56 8,
 Of 57 7 2,
 ⟨none,(.store 1 (.t 57) (.c (.i .i64 (3)))),none,[]⟩,
 Of 58 7 3,
 ⟨none,(.store 1 (.t 58) (.t 56)),none,[]⟩] [0,1,2,8,51,56,57,58])
 (.seq (.region [It 59 (.load (some 4) (.t 7)),
 ⟨none,(.store 4 (.t 6) (.t 59)),none,[]⟩] [7,59])
 .ret))
 (.region [] [51]))))))))
 (.region [Of 60 7 1,
 Ld 61 60,
 It 62 (.bin .add (.t 61) (.c (.i .i64 (1)))),
 Of 63 7 1,
 ⟨none,(.store 1 (.t 63) (.t 62)),none,[]⟩] [60,61,62,63]))))
 (.region [Mv 17 8,
 It 18 (.bin .add (.t 17) (.c (.i .i64 (1)))),
 Mv 8 18] [17,18])))
def I125:IFunc :=
  ⟨(.seq (.region [It 6 (.alloc [i0,i0,i0,i0])] [])
 (.seq (.region [Mv 10 2,
 It 11 (.build [i0,i0,i0,i0] [(0,1,(.t 10))]),
 It 7 (.alloc [i0,i0,i0,i0]),
 ⟨none,(.store 4 (.t 7) (.t 11)),none,[]⟩] [10,11])
 (.seq (.seq (.region [Mv 12 2,
 Mv 8 12] [12])
 (.block 0
 (.loop L125a)))
 (.seq (.region [It 64 (.load (some 4) (.t 7)),
 ⟨none,(.store 4 (.t 6) (.t 64)),none,[]⟩] [0,1,2,7,8,16,64])
 .ret)))),
    65,3,[.c 6 (some 4)],0⟩
theorem tr125:trFunc Tryz.prog (hz [(11,[0,1,2,3,4,5])] I125.body) 0 Tryz.f125=some (plain1 I125):=by kernel_rfl
theorem ck125:ckC 2 I125.body=true:=by kernel_rfl
def I126:IFunc :=
  ⟨(.seq (.region [It 1 (.box (.t 0)),
 It 2 (.mov (.c (.b false)))] [0,2])
 (.seq (.region [Of 3 1 0,
 Ld 4 3,
 It 5 (.bin .eql (.t 4) (.c (.i .i64 (24)))),
 Mv 6 5,
 Ig 7 6 false (.off (.t 1) 0),
 Ig 8 6 false (.load none (.t 7)),
 Ig 9 6 false (.bin .eql (.t 8) (.c (.i .i64 (25)))),
 It 10 (.pick (.t 6) (.c (.b true)) (.t 9)),
 Mv 2 10] [1,3,4,5,6,7,8,9,10])
 .ret)),
    11,1,[.t 2],0⟩
theorem tr126:trFunc Tryz.prog (hz [] I126.body) 0 Tryz.f126=some (plain1 I126):=by kernel_rfl
theorem ck126:ckC 2 I126.body=true:=by kernel_rfl
def I127:IFunc :=
  ⟨(.seq (.region [It 1 (.box (.t 0)),
 It 2 (.mov (.c (.b false)))] [0,2])
 (.seq (.region [Of 3 1 3,
 Ld 4 3,
 It 5 (.lenk 0 (.t 4)),
 It 6 (.bin .gtr (.t 5) (.c (.i .i64 (512)))),
 Mv 2 6] [1,3,4,5,6])
 .ret)),
    7,1,[.t 2],2⟩
theorem tr127:trFunc Tryz.prog (hz [] I127.body) 1 Tryz.f127=some (plain1 I127):=by kernel_rfl
theorem ck127:ckC 2 I127.body=true:=by kernel_rfl
def I128:IFunc :=
  ⟨(.seq (.region [It 4 (.mov (.c (.b false)))] [4])
 (.seq (.region [Mv 5 0,
 Mv 6 1,
 It 7 (.call 142 [(.t 5),(.t 6)]),
 It 8 (.bin .geq (.t 7) (.c i0)),
 Mv 4 8] [0,1,5,6,7,8])
 .ret)),
    9,2,[.t 4],2⟩
theorem tr128:trFunc Tryz.prog (hz [] I128.body) 1 Tryz.f128=some (plain1 I128):=by kernel_rfl
theorem ck128:ckC 2 I128.body=true:=by kernel_rfl
def I129:IFunc :=
  ⟨(.seq (.region [It 1 (.box (.t 0)),
 It 2 (.mov (.c (.b false)))] [0,2])
 (.seq (.region [It 3 (.load (some 5) (.t 1)),
 It 4 (.call 8 [(.t 3)]),
 It 5 (.bin .neq (.t 4) (.c i0)),
 Mv 2 5] [1,3,4,5])
 .ret)),
    6,1,[.t 2],2⟩
theorem tr129:trFunc Tryz.prog (hz [] I129.body) 1 Tryz.f129=some (plain1 I129):=by kernel_rfl
theorem ck129:ckC 2 I129.body=true:=by kernel_rfl
def I130:IFunc :=
  ⟨(.seq (.region [It 2 (.box (.t 0)),
 It 3 (.mov (.c (.b false)))] [0,3])
 (.seq (.region [It 4 (.load (some 4) (.t 2)),
 It 5 (.call 131 [(.t 1),(.t 4)]),
 It 6 (.un .not (.t 5)),
 Mv 3 6] [1,2,4,5,6])
 .ret)),
    7,2,[.t 3],2⟩
theorem tr130:trFunc Tryz.prog (hz [] I130.body) 1 Tryz.f130=some (plain1 I130):=by kernel_rfl
theorem ck130:ckC 2 I130.body=true:=by kernel_rfl
def L131a:ICode :=
  (.seq (.region [It 14 (.bin .lss (.t 13) (.t 12))] [])
 (.seq (.cond (.t 14)
 (.region [] [14])
 (.exit 0))
 (.seq (.block 1
 (.seq (.region [It 15 (.iaddr 4 (.t 11) (.t 13)),
 It 16 (.load (some 4) (.t 15)),
 It 7 (.alloc [(.s []),i0,i0,.ns]),
 ⟨none,(.store 4 (.t 7) (.t 16)),none,[]⟩] [15,16])
 (.seq (.region [Of 17 7 0,
 Ld 18 17,
 Of 19 3 0,
 Ld 20 19,
 It 21 (.bin .eql (.t 18) (.t 20))] [7,17,18,19,20])
 (.cond (.t 21)
 (.region [Mv 22 5,
 It 23 (.bin .add (.t 22) (.c (.i .i64 (1)))),
 Mv 5 23] [21,22,23])
 (.region [] [21])))))
 (.region [It 24 (.bin .add (.t 13) (.c (.i .i64 (1)))),
 Mv 13 24] [24]))))
def I131:IFunc :=
  ⟨(.seq (.region [It 3 (.box (.t 1)),
 It 4 (.mov (.c (.b false)))] [1,4])
 (.seq (.region [It 5 (.mov (.c i0))] [])
 (.seq (.seq (.region [Mv 8 0,
 It 9 (.nck (.t 8)),
 Of 10 9 0,
 Ld 11 10,
 It 12 (.lenk 0 (.t 11)),
 It 13 (.mov (.c i0))] [0,8,9,10])
 (.block 0
 (.loop L131a)))
 (.seq (.region [Mv 25 5,
 It 26 (.bin .eql (.t 25) (.c (.i .i64 (1)))),
 Mv 27 26,
 Ig 28 27 true (.off (.t 3) 0),
 Ig 29 27 true (.load none (.t 28)),
 Ig 30 27 true (.call 143 [(.t 29)]),
 It 31 (.pick (.t 27) (.t 30) (.c (.b false))),
 Mv 32 31,
 Ig 33 32 true (.off (.t 3) 1),
 Ig 34 32 true (.load none (.t 33)),
 Ig 35 32 true (.bin .geq (.t 34) (.c i0)),
 It 36 (.pick (.t 32) (.t 35) (.c (.b false))),
 Mv 37 36,
 Ig 38 37 true (.off (.t 3) 1),
 Ig 39 37 true (.load none (.t 38)),
 Ig 40 37 true (.bin .leq (.t 39) (.c (.i .i64 (8)))),
 It 41 (.pick (.t 37) (.t 40) (.c (.b false))),
 Mv 42 41,
 Ig 43 42 true (.off (.t 3) 2),
 Ig 44 42 true (.load none (.t 43)),
 Ig 45 42 true (.off (.t 3) 1),
 Ig 46 42 true (.load none (.t 45)),
 Ig 47 42 true (.bin .geq (.t 44) (.t 46)),
 It 48 (.pick (.t 42) (.t 47) (.c (.b false))),
 Mv 49 48,
 Ig 50 49 true (.off (.t 3) 2),
 Ig 51 49 true (.load none (.t 50)),
 Ig 52 49 true (.bin .leq (.t 51) (.c (.i .i64 (32)))),
 It 53 (.pick (.t 49) (.t 52) (.c (.b false))),
 Mv 54 53,
 Ig 55 54 true (.off (.t 3) 3),
 Ig 56 54 true (.load none (.t 55)),
 Ig 57 54 true (.lenk 0 (.t 56)),
 Ig 58 54 true (.bin .gtr (.t 57) (.c i0)),
 It 59 (.pick (.t 54) (.t 58) (.c (.b false))),
 Mv 4 59] [3,5,11,12,13,14,25,26,27,28,29,30,31,32,33,34,35,36,37,38,39,40,41,42,43,44,45,46,47,48,49,50,51,52,53,54,55,56,57,58,59])
 .ret)))),
    60,2,[.t 4],2⟩
theorem tr131:trFunc Tryz.prog (hz [] I131.body) 1 Tryz.f131=some (plain1 I131):=by kernel_rfl
theorem ck131:ckC 2 I131.body=true:=by kernel_rfl
def I132:IFunc :=
  ⟨(.seq (.region [It 1 (.box (.t 0)),
 It 2 (.mov (.c (.b false)))] [0,2])
 (.seq (.region [Of 4 1 2,
 Of 5 4 0,
 Ld 6 5,
 It 7 (.bin .geq (.t 6) (.c (.i .i64 (1)))),
 Mv 8 7,
 Ig 9 8 true (.off (.t 1) 2),
 Ig 10 8 true (.off (.t 9) 0),
 Ig 11 8 true (.load none (.t 10)),
 Ig 12 8 true (.bin .leq (.t 11) (.c (.i .i64 (31)))),
 It 13 (.pick (.t 8) (.t 12) (.c (.b false))),
 Mv 3 13] [4,5,6,7,8,9,10,11,12,13])
 (.seq (.region [Mv 14 3,
 Mv 15 14,
 Ig 16 15 true (.off (.t 1) 2),
 Ig 17 15 true (.off (.t 16) 2),
 Ig 18 15 true (.load none (.t 17)),
 Ig 19 15 true (.bin .eql (.t 18) (.c i0)),
 Ig 20 15 true (.mov (.t 19)),
 Ig 21 20 false (.off (.t 1) 2),
 Ig 22 20 false (.off (.t 21) 0),
 Ig 23 20 false (.load none (.t 22)),
 Ig 24 20 false (.bin .eql (.t 23) (.c (.i .i64 (31)))),
 Ig 25 15 true (.pick (.t 20) (.c (.b true)) (.t 24)),
 It 26 (.pick (.t 15) (.t 25) (.c (.b false))),
 Mv 27 26,
 Ig 28 27 true (.load (some 5) (.t 1)),
 Ig 29 27 true (.call 144 [(.t 28)]),
 Ig 30 27 true (.callv (.t 29) []),
 It 31 (.pick (.t 27) (.t 30) (.c (.b false))),
 Mv 2 31] [1,3,14,15,16,17,18,19,20,21,22,23,24,25,26,27,28,29,30,31])
 .ret))),
    32,1,[.t 2],2⟩
theorem tr132:trFunc Tryz.prog (hz [] I132.body) 1 Tryz.f132=some (plain1 I132):=by kernel_rfl
theorem ck132:ckC 2 I132.body=true:=by kernel_rfl
def I133:IFunc :=
  ⟨(.seq (.seq (.region [Mv 9 1,
 Mv 10 0,
 It 11 (.nck (.t 10)),
 Of 12 11 0,
 Ld 13 12,
 It 14 (.lenk 0 (.t 13)),
 It 15 (.bin .geq (.t 9) (.t 14)),
 Mv 16 15,
 Ig 17 16 false (.mov (.t 2)),
 Ig 18 16 false (.bin .gtr (.t 17) (.c (.i .i64 (32)))),
 It 19 (.pick (.t 16) (.c (.b true)) (.t 18))] [9,10,11,12,13,14,15,16,17,18])
 (.cond (.t 19)
 (.seq (.region [Mv 20 0,
 It 21 (.nck (.t 20)),
 Of 22 21 2,
 ⟨none,(.store 1 (.t 22) (.c (.b true))),none,[]⟩] [0,1,2,3,19,20,21,22])
 .ret)
 (.region [] [19])))
 (.seq (.region [Mv 23 0,
 It 24 (.nck (.t 23)),
 Of 25 24 0,
 Ld 26 25,
 Mv 27 1,
 It 28 (.iaddr 3 (.t 26) (.t 27)),
 Mv 8 28] [23,24,25,26,27,28])
 (.seq (.seq (.region [Mv 29 8,
 It 30 (.nck (.t 29)),
 Of 31 30 0,
 Ld 32 31] [29,30,31])
 (.cond (.t 32)
 (.seq (.region [Mv 33 0,
 Mv 34 0,
 It 35 (.nck (.t 34)),
 Of 36 35 2,
 Ld 37 36,
 Mv 38 37,
 Ig 39 38 false (.mov (.t 8)),
 Ig 40 38 false (.nck (.t 39)),
 Ig 41 38 false (.off (.t 40) 1),
 Ig 42 38 false (.load none (.t 41)),
 Ig 43 38 false (.mov (.t 2)),
 Ig 44 38 false (.bin .neq (.t 42) (.t 43)),
 It 45 (.pick (.t 38) (.c (.b true)) (.t 44)),
 Mv 46 45,
 Ig 47 46 false (.mov (.t 8)),
 Ig 48 46 false (.nck (.t 47)),
 Ig 49 46 false (.off (.t 48) 2),
 Ig 50 46 false (.load none (.t 49)),
 Ig 51 46 false (.mov (.t 3)),
 Ig 52 46 false (.call 145 [(.t 50),(.t 51)]),
 Ig 53 46 false (.un .not (.t 52)),
 It 54 (.pick (.t 46) (.c (.b true)) (.t 53)),
 It 55 (.nck (.t 33)),
 Of 56 55 2,
 ⟨none,(.store 1 (.t 56) (.t 54)),none,[]⟩] [0,1,2,3,8,32,33,34,35,36,37,38,39,40,41,42,43,44,45,46,47,48,49,50,51,52,53,54,55,56])
 .ret)
 (.region [] [32])))
 (.seq (.region [Mv 57 8,
 Mv 58 2,
 Mv 59 3,
 Mv 60 3,
 It 61 (.lenk 0 (.t 60)),
 Mv 62 3,
 It 63 (.lenk 0 (.t 62)),
 It 64 (.sl 2 (.t 59) none (some (.t 61)) (some (.t 63))),
 It 65 (.build [(.b false),i0,.ns] [(0,1,(.c (.b true))),(1,1,(.t 58)),(2,1,(.t 64))]),
 It 66 (.nck (.t 57)),
 ⟨none,(.store 3 (.t 66) (.t 65)),none,[]⟩] [2,3,8,57,58,59,60,61,62,63,64,65,66])
 (.region [Mv 67 0,
 Mv 68 0,
 It 69 (.nck (.t 68)),
 Of 70 69 1,
 Ld 71 70,
 Mv 72 1,
 It 73 (.bsl 1 1 [i0] [(0,1,(.t 72))]),
 It 74 (.app 1 8 (.t 71) (.t 73)),
 It 75 (.nck (.t 67)),
 Of 76 75 1,
 ⟨none,(.store 1 (.t 76) (.t 74)),none,[]⟩] [0,1,67,68,69,70,71,72,73,74,75,76]))))),
    77,4,[],0⟩
theorem tr133:trFunc Tryz.prog (hz [] I133.body) 0 Tryz.f133=some (plain1 I133):=by kernel_rfl
theorem ck133:ckC 2 I133.body=true:=by kernel_rfl
def I134:IFunc :=
  ⟨(.seq (.region [It 5 (.box (.t 1)),
 It 6 (.box (.t 2))] [1,2])
 (.seq (.region [Mv 14 0,
 It 15 (.nck (.t 14)),
 Of 16 15 0,
 Ld 17 16,
 Mv 18 3,
 It 19 (.iaddr 3 (.t 17) (.t 18)),
 It 20 (.load (some 3) (.t 19)),
 It 8 (.alloc [(.b false),i0,.ns]),
 ⟨none,(.store 3 (.t 8) (.t 20)),none,[]⟩] [14,15,16,17,18,19,20])
 (.seq (.region [It 22 (.load (some 2) (.t 5)),
 It 23 (.load (some 3) (.t 6)),
 It 24 (.call 146 [(.t 22),(.t 23)]),
 Mv 21 24,
 Ex 25 21 0,
 Ex 26 21 1,
 Mv 9 25,
 Mv 10 26] [5,22,23,24,21,25,26])
 (.seq (.region [Of 27 8 1,
 Ld 28 27,
 Mv 29 9,
 It 30 (.bin .sub (.t 28) (.t 29)),
 Mv 31 10,
 It 32 (.bin .add (.t 30) (.t 31)),
 Of 33 8 2,
 Ld 34 33,
 Mv 11 32,
 Mv 12 34] [10,27,28,29,30,31,32,33,34])
 (.seq (.seq (.region [Mv 35 9,
 Of 36 8 1,
 Ld 37 36,
 It 38 (.bin .gtr (.t 35) (.t 37)),
 Mv 39 38,
 Ig 40 39 false (.mov (.t 11)),
 Ig 41 39 false (.bin .gtr (.t 40) (.c (.i .i64 (32)))),
 It 42 (.pick (.t 39) (.c (.b true)) (.t 41))] [35,36,37,38,39,40,41])
 (.cond (.t 42)
 (.seq (.region [Mv 43 0,
 It 44 (.nck (.t 43)),
 Of 45 44 2,
 ⟨none,(.store 1 (.t 45) (.c (.b true))),none,[]⟩] [0,3,6,8,9,11,12,42,43,44,45])
 .ret)
 (.region [] [42])))
 (.seq (.seq (.region [Mv 46 12,
 It 47 (.lenk 0 (.t 46)),
 Mv 13 47] [46,47])
 (.seq (.region [Mv 48 13,
 It 49 (.bin .gtr (.t 48) (.c i0)),
 Mv 50 49,
 Ig 51 50 true (.off (.t 8) 1),
 Ig 52 50 true (.load none (.t 51)),
 Ig 53 50 true (.mov (.t 9)),
 Ig 54 50 true (.bin .sub (.t 52) (.t 53)),
 Ig 55 50 true (.mov (.t 12)),
 Ig 56 50 true (.mov (.t 13)),
 Ig 57 50 true (.bin .sub (.t 56) (.c (.i .i64 (1)))),
 Ig 58 50 true (.iaddr 2 (.t 55) (.t 57)),
 Ig 59 50 true (.off (.t 58) 1),
 Ig 60 50 true (.load none (.t 59)),
 Ig 61 50 true (.bin .lss (.t 54) (.t 60)),
 It 62 (.pick (.t 50) (.t 61) (.c (.b false)))] [8,9,13,48,49,50,51,52,53,54,55,56,57,58,59,60,61])
 (.cond (.t 62)
 (.seq (.region [Mv 63 0,
 It 64 (.nck (.t 63)),
 Of 65 64 2,
 ⟨none,(.store 1 (.t 65) (.c (.b true))),none,[]⟩] [0,3,6,11,12,62,63,64,65])
 .ret)
 (.region [] [62]))))
 (.seq (.seq (.region [Of 66 6 0,
 Ld 67 66] [66])
 (.block 0
 (.seq (.seq (.region [It 69 (.bin .eql (.t 67) (.c (.i .i64 (28)))),
 Mv 68 69] [69])
 (.cond (.t 68)
 .skip
 (.region [It 70 (.bin .eql (.t 67) (.c (.i .i64 (30)))),
 Mv 68 70] [70])))
 (.cond (.t 68)
 .ret
 (.seq (.region [It 72 (.bin .eql (.t 67) (.c (.i .i64 (24)))),
 Mv 71 72] [68,72])
 (.cond (.t 71)
 (.seq (.region [Mv 73 0,
 Of 74 6 1,
 Ld 75 74,
 Mv 76 11,
 Mv 77 12,
 It 78 (.call 133 [(.t 73),(.t 75),(.t 76),(.t 77)])] [0,3,6,11,12,67,71,73,74,75,76,77,78])
 .ret)
 (.seq (.region [It 80 (.bin .eql (.t 67) (.c (.i .i64 (25)))),
 Mv 79 80] [71,80])
 (.cond (.t 79)
 (.region [Mv 81 0,
 Of 82 6 1,
 Ld 83 82,
 Mv 84 11,
 Mv 85 12,
 It 86 (.call 133 [(.t 81),(.t 83),(.t 84),(.t 85)])] [6,67,79,81,82,83,84,85,86])
 (.seq (.region [It 88 (.bin .eql (.t 67) (.c (.i .i64 (26)))),
 Mv 87 88] [79,88])
 (.cond (.t 87)
 (.seq (.region [Mv 89 0,
 Mv 90 0,
 It 91 (.nck (.t 90)),
 Of 92 91 2,
 Ld 93 92,
 Mv 94 93,
 Ig 95 94 false (.mov (.t 12)),
 Ig 96 94 false (.lenk 0 (.t 95)),
 Ig 97 94 false (.bin .geq (.t 96) (.c (.i .i64 (8)))),
 It 98 (.pick (.t 94) (.c (.b true)) (.t 97)),
 It 99 (.nck (.t 89)),
 Of 100 99 2,
 ⟨none,(.store 1 (.t 100) (.t 98)),none,[]⟩] [67,87,89,90,91,92,93,94,95,96,97,98,99,100])
 (.seq (.region [Mv 101 0,
 Of 102 6 1,
 Ld 103 102,
 Mv 104 11,
 It 105 (.bin .add (.t 104) (.c (.i .i64 (1)))),
 Mv 106 12,
 It 107 (.call 133 [(.t 101),(.t 103),(.t 105),(.t 106)])] [101,102,103,104,105,106,107])
 (.region [Mv 108 12,
 Of 109 6 1,
 Ld 110 109,
 Mv 111 11,
 It 112 (.build [i0,i0] [(0,1,(.t 110)),(1,1,(.t 111))]),
 It 113 (.bsl 2 1 [i0,i0] [(0,2,(.t 112))]),
 It 114 (.app 2 16 (.t 108) (.t 113)),
 Mv 12 114] [6,108,109,110,111,112,113,114])))
 (.seq (.region [It 116 (.bin .eql (.t 67) (.c (.i .i64 (27)))),
 Mv 115 116] [6,67,87,116])
 (.cond (.t 115)
 (.seq (.seq (.region [Mv 117 12,
 It 118 (.lenk 0 (.t 117)),
 It 119 (.bin .eql (.t 118) (.c i0))] [115,117,118])
 (.cond (.t 119)
 (.seq (.region [Mv 120 0,
 It 121 (.nck (.t 120)),
 Of 122 121 2,
 ⟨none,(.store 1 (.t 122) (.c (.b true))),none,[]⟩] [0,3,11,12,119,120,121,122])
 .ret)
 (.region [] [119])))
 (.region [Mv 123 12,
 Mv 124 12,
 It 125 (.lenk 0 (.t 124)),
 It 126 (.bin .sub (.t 125) (.c (.i .i64 (1)))),
 It 127 (.sl 2 (.t 123) none (some (.t 126)) none),
 Mv 12 127] [123,124,125,126,127]))
 (.region [] [115])))))))))))))
 (.region [Mv 128 0,
 Mv 129 3,
 It 130 (.bin .add (.t 129) (.c (.i .i64 (1)))),
 Mv 131 11,
 Mv 132 12,
 It 133 (.call 133 [(.t 128),(.t 130),(.t 131),(.t 132)])] [0,3,11,12,128,129,130,131,132,133])))))))),
    134,4,[],0⟩
theorem tr134:trFunc Tryz.prog (hz [(3,[0,1,2,3,4,5,6,7,8,9]),(8,[0,1,2,3,4,5,6,7,8,9,10,11,12,13,14])] I134.body) 0 Tryz.f134=some (plain1 I134):=by kernel_rfl
theorem ck134:ckC 2 I134.body=true:=by kernel_rfl
def I135:IFunc:=⟨cloneCode 2 16,8,1,[.t 2],4⟩
theorem tr135:trFunc Tryz.prog [([],[]),([],[]),([],[]),([],[]),([],[])] 1 Tryz.f135=some (plain1 I135):=by kernel_rfl
theorem ck135:ckC 2 (cloneCode 2 16)=true:=by kernel_rfl
def L136a:ICode :=
  (.seq (.region [It 149 (.bin .lss (.t 148) (.t 147))] [])
 (.seq (.cond (.t 149)
 (.region [] [149])
 (.exit 1))
 (.seq (.block 2
 (.seq (.region [It 150 (.iaddr 5 (.t 146) (.t 148)),
 It 151 (.load (some 5) (.t 150)),
 It 9 (.alloc [i0,i0,(.s []),.ns,.ns]),
 ⟨none,(.store 5 (.t 9) (.t 151)),none,[]⟩] [150,151])
 (.region [Mv 152 7,
 Of 153 9 2,
 Ld 154 153,
 It 155 (.bsl 1 1 [(.s [])] [(0,1,(.t 154))]),
 It 156 (.app 1 16 (.t 152) (.t 155)),
 Mv 7 156] [9,152,153,154,155,156])))
 (.region [It 157 (.bin .add (.t 148) (.c (.i .i64 (1)))),
 Mv 148 157] [157]))))
def I136:IFunc :=
  ⟨(.seq (.region [It 3 (.box (.t 1))] [1])
 (.seq (.region [Mv 11 0,
 It 12 (.nck (.t 11)),
 Of 13 12 0,
 It 14 (.load (some 2) (.t 13)),
 It 15 (.load (some 3) (.t 3)),
 It 16 (.call 146 [(.t 14),(.t 15)]),
 Mv 10 16,
 Ex 17 10 0,
 Ex 18 10 1,
 Mv 4 17,
 Mv 5 18] [11,12,13,14,15,16,10,17,18,5])
 (.seq (.region [Mv 19 0,
 Mv 20 4,
 It 21 (.call 107 [(.t 19),(.t 20)]),
 Mv 6 21] [4,19,20,21])
 (.seq (.region [Of 22 3 0,
 Ld 23 22] [22])
 (.block 0
 (.seq (.region [It 31 (.bin .eql (.t 23) (.c (.i .i64 (1)))),
 Mv 30 31] [31])
 (.cond (.t 30)
 (.region [Mv 32 0,
 Mv 33 0,
 It 34 (.nck (.t 33)),
 Of 35 34 0,
 Of 36 35 1,
 Ld 37 36,
 Of 38 3 1,
 Ld 39 38,
 It 40 (.iaddr 5 (.t 37) (.t 39)),
 It 41 (.load (some 5) (.t 40)),
 It 42 (.call 36 [(.t 41)]),
 It 43 (.build [i0,i0,i0,i0,(.s []),.ns,.ns] [(0,1,(.c (.i .i64 (3)))),(2,5,(.t 42))]),
 It 44 (.bsl 7 1 [i0,i0,i0,i0,(.s []),.ns,.ns] [(0,7,(.t 43))]),
 It 45 (.call 46 [(.t 32),(.t 44)])] [0,3,6,23,30,32,33,34,35,36,37,38,39,40,41,42,43,44,45])
 (.seq (.region [It 47 (.bin .eql (.t 23) (.c (.i .i64 (2)))),
 Mv 46 47] [30,47])
 (.cond (.t 46)
 (.region [Mv 48 0,
 Mv 49 0,
 It 50 (.nck (.t 49)),
 Of 51 50 18,
 Ld 52 51,
 Of 53 3 1,
 Ld 54 53,
 It 55 (.iaddr 7 (.t 52) (.t 54)),
 It 56 (.load (some 7) (.t 55)),
 It 57 (.bsl 7 1 [i0,i0,i0,i0,(.s []),.ns,.ns] [(0,7,(.t 56))]),
 It 58 (.call 46 [(.t 48),(.t 57)])] [0,3,6,23,46,48,49,50,51,52,53,54,55,56,57,58])
 (.seq (.region [It 60 (.bin .eql (.t 23) (.c (.i .i64 (3)))),
 Mv 59 60] [46,60])
 (.cond (.t 59)
 (.region [Mv 61 0,
 It 62 (.nck (.t 61)),
 Of 63 62 18,
 Ld 64 63,
 Of 65 3 1,
 Ld 66 65,
 Mv 67 6,
 It 68 (.iaddr 7 (.t 67) (.c i0)),
 It 69 (.load (some 7) (.t 68)),
 It 70 (.iaddr 7 (.t 64) (.t 66)),
 ⟨none,(.store 7 (.t 70) (.t 69)),none,[]⟩] [0,3,6,23,59,61,62,63,64,65,66,67,68,69,70])
 (.seq (.region [It 72 (.bin .eql (.t 23) (.c (.i .i64 (4)))),
 Mv 71 72] [59,72])
 (.cond (.t 71)
 (.region [] [0,3,6,23,71])
 (.seq (.region [It 74 (.bin .eql (.t 23) (.c (.i .i64 (5)))),
 Mv 73 74] [71,74])
 (.cond (.t 73)
 (.region [Mv 75 0,
 Mv 76 6,
 It 77 (.iaddr 7 (.t 76) (.c i0)),
 It 78 (.load (some 7) (.t 77)),
 Mv 79 6,
 It 80 (.iaddr 7 (.t 79) (.c i0)),
 It 81 (.load (some 7) (.t 80)),
 It 82 (.bsl 7 2 [i0,i0,i0,i0,(.s []),.ns,.ns,i0,i0,i0,i0,(.s []),.ns,.ns] [(0,7,(.t 78)),(7,7,(.t 81))]),
 It 83 (.call 46 [(.t 75),(.t 82)])] [0,3,6,23,73,75,76,77,78,79,80,81,82,83])
 (.seq (.region [It 85 (.bin .eql (.t 23) (.c (.i .i64 (23)))),
 Mv 84 85] [73,85])
 (.cond (.t 84)
 (.seq (.region [Mv 86 0,
 Mv 87 0,
 It 88 (.nck (.t 87)),
 Of 89 88 2,
 Of 90 89 4,
 Ld 91 90,
 Of 92 3 0,
 Ld 93 92,
 Mv 94 6,
 Mv 95 0,
 It 96 (.nck (.t 95)),
 Of 97 96 0,
 Of 98 97 1,
 Ld 99 98,
 Of 100 3 1,
 Ld 101 100,
 It 102 (.iaddr 5 (.t 99) (.t 101)),
 Of 103 102 2,
 Ld 104 103,
 It 105 (.build [i0,i0,.ns,(.s []),.ns] [(0,1,(.t 93)),(2,1,(.t 94)),(3,1,(.t 104))]),
 It 106 (.bsl 5 1 [i0,i0,.ns,(.s []),.ns] [(0,5,(.t 105))]),
 It 107 (.app 5 80 (.t 91) (.t 106)),
 It 108 (.nck (.t 86)),
 Of 109 108 2,
 Of 110 109 4,
 ⟨none,(.store 1 (.t 110) (.t 107)),none,[]⟩] [3,23,84,86,87,88,89,90,91,92,93,94,95,96,97,98,99,100,101,102,103,104,105,106,107,108,109,110])
 (.region [Mv 111 0,
 Mv 112 6,
 It 113 (.iaddr 7 (.t 112) (.c i0)),
 It 114 (.load (some 7) (.t 113)),
 It 115 (.bsl 7 1 [i0,i0,i0,i0,(.s []),.ns,.ns] [(0,7,(.t 114))]),
 It 116 (.call 46 [(.t 111),(.t 115)])] [0,6,111,112,113,114,115,116]))
 (.seq (.region [It 118 (.bin .eql (.t 23) (.c (.i .i64 (22)))),
 Mv 117 118] [84,118])
 (.cond (.t 117)
 (.region [Mv 119 0,
 Of 120 3 0,
 Ld 121 120,
 Mv 122 6,
 Mv 123 0,
 It 124 (.nck (.t 123)),
 Of 125 124 0,
 Of 126 125 1,
 Ld 127 126,
 Of 128 3 1,
 Ld 129 128,
 It 130 (.iaddr 5 (.t 127) (.t 129)),
 Of 131 130 2,
 Ld 132 131,
 It 133 (.build [i0,i0,.ns,(.s []),.ns] [(0,1,(.t 121)),(2,1,(.t 122)),(3,1,(.t 132))]),
 It 134 (.call 147 [(.t 119),(.t 133)])] [0,3,6,23,117,119,120,121,122,123,124,125,126,127,128,129,130,131,132,133,134])
 (.seq (.region [It 136 (.bin .eql (.t 23) (.c (.i .i64 (21)))),
 Mv 135 136] [23,117,136])
 (.cond (.t 135)
 (.seq (.region [It 7 (.mov (.c .ns))] [135])
 (.seq (.seq (.region [Mv 137 0,
 It 138 (.nck (.t 137)),
 Of 139 138 0,
 Of 140 139 1,
 Ld 141 140,
 Of 142 3 1,
 Ld 143 142,
 It 144 (.iaddr 5 (.t 141) (.t 143)),
 Of 145 144 3,
 Ld 146 145,
 It 147 (.lenk 0 (.t 146)),
 It 148 (.mov (.c i0))] [137,138,139,140,141,142,143,144,145])
 (.block 1
 (.loop L136a)))
 (.region [Mv 158 0,
 Of 159 3 0,
 Ld 160 159,
 Mv 161 6,
 Mv 162 7,
 It 163 (.build [i0,i0,.ns,(.s []),.ns] [(0,1,(.t 160)),(2,1,(.t 161)),(4,1,(.t 162))]),
 It 164 (.call 147 [(.t 158),(.t 163)])] [0,3,6,7,146,147,148,149,158,159,160,161,162,163,164])))
 (.region [Mv 24 0,
 Of 25 3 0,
 Ld 26 25,
 Mv 27 6,
 It 28 (.build [i0,i0,.ns,(.s []),.ns] [(0,1,(.t 26)),(2,1,(.t 27))]),
 It 29 (.call 147 [(.t 24),(.t 28)])] [0,3,6,135,24,25,26,27,28,29])))))))))))))))))))))),
    165,2,[],0⟩
theorem tr136:trFunc Tryz.prog (hz [(1,[0,1,2,3,4,5,6,7,8,9,10]),(5,[0,1,2,3,4,5,6,7,8,9,10,11,12,13]),(7,[0,1,2,3,4,5,6,7,8,9,10]),(9,[0,1,2,3,4,5,6,7,8,9,10]),(13,[0,1,2,3,4,5,6,7,8]),(15,[0,1,2,3,4,5,6,7,8,9,10,11,12,13,14,15,16,17,18,19,20,21,22,23,24,25]),(18,[0,1,2,3,4,5,6,7,8,9,10,11,12,13,14,15]),(21,[0,1,2,3,4,5,6,7,8,9,10,11])] I136.body) 0 Tryz.f136=some (plain1 I136):=by kernel_rfl
theorem ck136:ckC 2 I136.body=true:=by kernel_rfl
def L137a:ICode :=
  (.seq (.region [It 9 (.bin .lss (.t 8) (.t 7))] [])
 (.seq (.cond (.t 9)
 (.region [] [9])
 (.exit 0))
 (.seq (.block 1
 (.seq (.region [Mv 10 8,
 Mv 5 10] [10])
 (.seq (.region [Mv 11 1,
 Mv 12 0,
 Mv 13 5,
 It 14 (.iaddr 7 (.t 12) (.t 13)),
 It 15 (.load (some 7) (.t 14)),
 It 16 (.callv (.t 11) [(.t 15)])] [11,12,13,14,15])
 (.cond (.t 16)
 (.seq (.region [Mv 17 5,
 Mv 4 17] [0,1,7,8,5,16,17])
 .ret)
 (.region [] [5,16])))))
 (.region [It 18 (.bin .add (.t 8) (.c (.i .i64 (1)))),
 Mv 8 18] [18]))))
def I137:IFunc :=
  ⟨(.seq (.region [It 4 (.mov (.c i0))] [4])
 (.seq (.seq (.region [Mv 6 0,
 It 7 (.lenk 0 (.t 6)),
 It 8 (.mov (.c i0))] [6])
 (.block 0
 (.loop L137a)))
 (.seq (.region [It 4 (.mov (.c (.i .i64 (-1))))] [0,1,7,8,9])
 .ret))),
    19,2,[.t 4],2⟩
theorem tr137:trFunc Tryz.prog (hz [] I137.body) 1 Tryz.f137=some (plain1 I137):=by kernel_rfl
theorem ck137:ckC 2 I137.body=true:=by kernel_rfl
def L138a:ICode :=
  (.seq (.region [It 17 (.bin .lss (.t 16) (.t 15))] [])
 (.seq (.cond (.t 17)
 (.region [] [17])
 (.exit 0))
 (.seq (.block 1
 (.seq (.region [Mv 18 16,
 It 19 (.iaddr 1 (.t 14) (.t 16)),
 Ld 20 19,
 Mv 3 18,
 Mv 4 20] [18,19,20])
 (.seq (.region [Mv 21 4,
 It 22 (.bin .geq (.t 21) (.c (.i .u8 (97)))),
 Mv 23 22,
 Ig 24 23 true (.mov (.t 4)),
 Ig 25 23 true (.bin .leq (.t 24) (.c (.i .u8 (122)))),
 It 26 (.pick (.t 23) (.t 25) (.c (.b false))),
 Mv 5 26] [21,22,23,24,25,26])
 (.seq (.region [Mv 27 5,
 It 28 (.un .not (.t 27)),
 Mv 29 28,
 Ig 30 29 true (.mov (.t 3)),
 Ig 31 29 true (.bin .eql (.t 30) (.c i0)),
 Ig 32 29 true (.mov (.t 31)),
 Ig 33 32 false (.mov (.t 4)),
 Ig 34 32 false (.bin .neq (.t 33) (.c (.i .u8 (95)))),
 Ig 35 32 false (.mov (.t 34)),
 Ig 36 35 true (.mov (.t 4)),
 Ig 37 35 true (.bin .lss (.t 36) (.c (.i .u8 (48)))),
 Ig 38 35 true (.mov (.t 37)),
 Ig 39 38 false (.mov (.t 4)),
 Ig 40 38 false (.bin .gtr (.t 39) (.c (.i .u8 (57)))),
 Ig 41 35 true (.pick (.t 38) (.c (.b true)) (.t 40)),
 Ig 42 32 false (.pick (.t 35) (.t 41) (.c (.b false))),
 Ig 43 29 true (.pick (.t 32) (.c (.b true)) (.t 42)),
 It 44 (.pick (.t 29) (.t 43) (.c (.b false)))] [3,4,5,27,28,29,30,31,32,33,34,35,36,37,38,39,40,41,42,43])
 (.cond (.t 44)
 (.seq (.region [It 2 (.mov (.c (.b false)))] [14,15,16,44])
 .ret)
 (.region [] [44]))))))
 (.region [It 45 (.bin .add (.t 16) (.c (.i .i64 (1)))),
 Mv 16 45] [45]))))
def I138:IFunc :=
  ⟨(.seq (.region [It 2 (.mov (.c (.b false)))] [2])
 (.seq (.seq (.region [Mv 6 0,
 It 7 (.bin .eql (.t 6) (.c (.s []))),
 Mv 8 7,
 Ig 9 8 false (.mov (.t 0)),
 Ig 10 8 false (.lenk 1 (.t 9)),
 Ig 11 8 false (.bin .gtr (.t 10) (.c (.i .i64 (16)))),
 It 12 (.pick (.t 8) (.c (.b true)) (.t 11))] [6,7,8,9,10,11])
 (.cond (.t 12)
 (.seq (.region [It 2 (.mov (.c (.b false)))] [0,12])
 .ret)
 (.region [] [12])))
 (.seq (.seq (.region [Mv 13 0,
 It 14 (.s2b (.t 13)),
 It 15 (.lenk 0 (.t 14)),
 It 16 (.mov (.c i0))] [0,13])
 (.block 0
 (.loop L138a)))
 (.seq (.region [It 2 (.mov (.c (.b true)))] [14,15,16,17])
 .ret)))),
    46,1,[.t 2],2⟩
theorem tr138:trFunc Tryz.prog (hz [] I138.body) 1 Tryz.f138=some (plain1 I138):=by kernel_rfl
theorem ck138:ckC 2 I138.body=true:=by kernel_rfl
def L139a:ICode :=
  (.seq (.seq (.region [Mv 49 9,
 Mv 50 0,
 It 51 (.lenk 1 (.t 50)),
 It 52 (.bin .lss (.t 49) (.t 51)),
 Mv 53 52,
 Ig 54 53 true (.mov (.t 0)),
 Ig 55 53 true (.mov (.t 9)),
 Ig 56 53 true (.idxS (.t 54) (.t 55)),
 Ig 57 53 true (.bin .geq (.t 56) (.c (.i .u8 (97)))),
 It 58 (.pick (.t 53) (.t 57) (.c (.b false))),
 Mv 59 58,
 Ig 60 59 true (.mov (.t 0)),
 Ig 61 59 true (.mov (.t 9)),
 Ig 62 59 true (.idxS (.t 60) (.t 61)),
 Ig 63 59 true (.bin .leq (.t 62) (.c (.i .u8 (122)))),
 It 64 (.pick (.t 59) (.t 63) (.c (.b false)))] [49,50,51,52,53,54,55,56,57,58,59,60,61,62,63])
 (.cond (.t 64)
 (.region [] [64])
 (.exit 1)))
 (.block 2
 (.region [Mv 65 9,
 It 66 (.bin .add (.t 65) (.c (.i .i64 (1)))),
 Mv 9 66] [65,66])))
def I139:IFunc :=
  ⟨(.seq (.region [It 2 (.alloc [i0,.ns,.ns]),
 It 3 (.mov (.c (.s []))),
 It 4 (.mov (.c (.b false)))] [3,4])
 (.seq (.block 0
 (.seq (.region [Mv 12 0,
 It 13 (.call 148 [(.t 12),(.c (.s [91]))]),
 Mv 11 13] [12,13])
 (.cond (.t 11)
 (.seq (.region [Mv 15 0,
 It 16 (.slS (.t 15) (some (.c (.i .i64 (1)))) none),
 It 17 (.call 139 [(.t 16)]),
 Mv 14 17,
 Ex 18 14 0,
 Ex 19 14 1,
 Ex 20 14 2,
 It 5 (.alloc [i0,.ns,.ns]),
 ⟨none,(.store 3 (.t 5) (.t 18)),none,[]⟩,
 Mv 6 19,
 Mv 7 20] [0,11,15,16,17,14,18,19,20])
 (.seq (.region [Mv 22 6,
 It 23 (.call 149 [(.t 22),(.c (.s [93]))]),
 Mv 21 23,
 Ex 24 21 0,
 Ex 25 21 1,
 Mv 6 24,
 Mv 8 25] [22,23,21,24,25])
 (.seq (.region [It 26 (.load (some 3) (.t 5)),
 It 27 (.bsl 3 1 [i0,.ns,.ns] [(0,3,(.t 26))]),
 It 28 (.build [i0,.ns,.ns] [(0,1,(.c (.i .i64 (4)))),(2,1,(.t 27))]),
 Mv 29 6,
 Mv 30 7,
 Mv 31 30,
 Ig 32 31 true (.mov (.t 8)),
 It 33 (.pick (.t 31) (.t 32) (.c (.b false))),
 ⟨none,(.store 3 (.t 2) (.t 28)),none,[]⟩,
 Mv 3 29,
 Mv 4 33] [5,6,7,8,26,27,28,29,30,31,32,33])
 .ret)))
 (.seq (.region [Mv 35 0,
 It 36 (.call 148 [(.t 35),(.c (.s [123,125]))]),
 Mv 34 36] [11,35,36])
 (.cond (.t 34)
 (.seq (.region [It 37 (.build [i0,.ns,.ns] [(0,1,(.c (.i .i64 (5))))]),
 Mv 38 0,
 It 39 (.slS (.t 38) (some (.c (.i .i64 (2)))) none),
 ⟨none,(.store 3 (.t 2) (.t 37)),none,[]⟩,
 Mv 3 39,
 It 4 (.mov (.c (.b true)))] [0,34,37,38,39])
 .ret)
 (.seq (.region [Mv 41 0,
 It 42 (.call 148 [(.t 41),(.c (.s [123]))]),
 Mv 40 42] [34,41,42])
 (.cond (.t 40)
 (.seq (.region [Mv 43 0,
 It 44 (.slS (.t 43) (some (.c (.i .i64 (1)))) none),
 It 45 (.call 150 [(.t 44)]),
 Ex 46 45 0,
 Ex 47 45 1,
 Ex 48 45 2,
 ⟨none,(.store 3 (.t 2) (.t 46)),none,[]⟩,
 Mv 3 47,
 Mv 4 48] [0,40,43,44,45,46,47,48])
 .ret)
 (.region [] [40]))))))))
 (.seq (.region [It 9 (.mov (.c i0))] [])
 (.seq (.block 1
 (.loop L139a))
 (.seq (.region [Mv 67 0,
 Mv 68 9,
 It 69 (.slS (.t 67) none (some (.t 68))),
 It 70 (.call 151 [(.t 69)]),
 Mv 10 70] [64,67,68,69,70])
 (.seq (.region [Mv 71 10,
 It 72 (.build [i0,.ns,.ns] [(0,1,(.t 71))]),
 Mv 73 0,
 Mv 74 9,
 It 75 (.slS (.t 73) (some (.t 74)) none),
 Mv 76 10,
 It 77 (.bin .geq (.t 76) (.c i0)),
 ⟨none,(.store 3 (.t 2) (.t 72)),none,[]⟩,
 Mv 3 75,
 Mv 4 77] [0,9,10,71,72,73,74,75,76,77])
 .ret)))))),
    78,1,[.c 2 (some 3),.t 3,.t 4],2⟩
theorem tr139:trFunc Tryz.prog (hz [(6,[0,1,2,3,4,5]),(15,[0,1,2,3,4,5,6,7,8,9])] I139.body) 1 Tryz.f139=some (plain1 I139):=by kernel_rfl
theorem ck139:ckC 2 I139.body=true:=by kernel_rfl
def I140:IFunc :=
  ⟨(.seq (.region [It 4 (.mov (.c (.b false)))] [4])
 (.seq (.region [Mv 5 0,
 It 6 (.call 152 [(.t 5)]),
 Mv 7 6,
 Ig 8 7 true (.mov (.t 1)),
 Ig 9 7 true (.call 152 [(.t 8)]),
 Ig 10 7 true (.un .not (.t 9)),
 It 11 (.pick (.t 7) (.t 10) (.c (.b false))),
 Mv 12 11,
 Ig 13 12 false (.mov (.t 0)),
 Ig 14 12 false (.mov (.t 1)),
 Ig 15 12 false (.bin .lss (.t 13) (.t 14)),
 It 16 (.pick (.t 12) (.c (.b true)) (.t 15)),
 Mv 4 16] [0,1,5,6,7,8,9,10,11,12,13,14,15,16])
 .ret)),
    17,2,[.t 4],2⟩
theorem tr140:trFunc Tryz.prog (hz [] I140.body) 1 Tryz.f140=some (plain1 I140):=by kernel_rfl
theorem ck140:ckC 2 I140.body=true:=by kernel_rfl
def I141:IFunc :=
  ⟨(.seq (.region [It 2 (.mov (.c (.b false)))] [2])
 (.seq (.region [Mv 3 0,
 Mv 4 0,
 It 5 (.bin .neq (.t 3) (.t 4)),
 Mv 2 5] [0,3,4,5])
 .ret)),
    6,1,[.t 2],2⟩
theorem tr141:trFunc Tryz.prog (hz [] I141.body) 1 Tryz.f141=some (plain1 I141):=by kernel_rfl
theorem ck141:ckC 2 I141.body=true:=by kernel_rfl
def L142a:ICode :=
  (.seq (.region [It 9 (.bin .lss (.t 8) (.t 7))] [])
 (.seq (.cond (.t 9)
 (.region [] [9])
 (.exit 0))
 (.seq (.block 1
 (.seq (.region [Mv 10 8,
 Mv 5 10] [10])
 (.seq (.region [Mv 11 1,
 Mv 12 0,
 Mv 13 5,
 It 14 (.iaddr 4 (.t 12) (.t 13)),
 It 15 (.load (some 4) (.t 14)),
 It 16 (.callv (.t 11) [(.t 15)])] [11,12,13,14,15])
 (.cond (.t 16)
 (.seq (.region [Mv 17 5,
 Mv 4 17] [0,1,7,8,5,16,17])
 .ret)
 (.region [] [5,16])))))
 (.region [It 18 (.bin .add (.t 8) (.c (.i .i64 (1)))),
 Mv 8 18] [18]))))
def I142:IFunc :=
  ⟨(.seq (.region [It 4 (.mov (.c i0))] [4])
 (.seq (.seq (.region [Mv 6 0,
 It 7 (.lenk 0 (.t 6)),
 It 8 (.mov (.c i0))] [6])
 (.block 0
 (.loop L142a)))
 (.seq (.region [It 4 (.mov (.c (.i .i64 (-1))))] [0,1,7,8,9])
 .ret))),
    19,2,[.t 4],2⟩
theorem tr142:trFunc Tryz.prog (hz [] I142.body) 1 Tryz.f142=some (plain1 I142):=by kernel_rfl
theorem ck142:ckC 2 I142.body=true:=by kernel_rfl
def I143:IFunc :=
  ⟨(.seq (.region [It 2 (.mov (.c (.b false)))] [2])
 (.seq (.region [Mv 3 0,
 It 4 (.bsl 1 1 [(.s [])] [(0,1,(.t 3))]),
 It 5 (.mksl 5 80 [i0,i0,(.s []),.ns,.ns] (.c (.i .i64 (1))) (.c (.i .i64 (1)))),
 It 6 (.build [i0,i0,(.s []),.ns,.ns] [(0,1,(.c (.i .i64 (5)))),(4,1,(.t 4)),(3,1,(.t 5))]),
 It 7 (.call 8 [(.t 6)]),
 It 8 (.bin .eql (.t 7) (.c i0)),
 Mv 2 8] [0,3,4,5,6,7,8])
 .ret)),
    9,1,[.t 2],2⟩
theorem tr143:trFunc Tryz.prog (hz [] I143.body) 1 Tryz.f143=some (plain1 I143):=by kernel_rfl
theorem ck143:ckC 2 I143.body=true:=by kernel_rfl
def I144:IFunc :=
  ⟨(.seq (.region [It 1 (.box (.t 0)),
 It 2 (.mov (.c .nf))] [0,2])
 (.seq (.seq (.region [Of 3 1 2,
 Of 4 3 0,
 Ld 5 4] [3,4])
 (.block 0
 (.seq (.region [It 7 (.bin .eql (.t 5) (.c (.i .i64 (1)))),
 Mv 6 7] [7])
 (.cond (.t 6)
 (.seq (.region [It 8 (.load (some 5) (.t 1)),
 It 9 (.mkf 153 [(.t 8)] []),
 Mv 2 9] [1,5,6,8,9])
 .ret)
 (.seq (.seq (.region [It 11 (.bin .eql (.t 5) (.c (.i .i64 (2)))),
 Mv 10 11] [6,11])
 (.cond (.t 10)
 .skip
 (.region [It 12 (.bin .eql (.t 5) (.c (.i .i64 (3)))),
 Mv 10 12] [12])))
 (.cond (.t 10)
 (.seq (.region [It 13 (.load (some 5) (.t 1)),
 It 14 (.mkf 154 [(.t 13)] []),
 Mv 2 14] [1,5,10,13,14])
 .ret)
 (.seq (.region [It 16 (.bin .eql (.t 5) (.c (.i .i64 (20)))),
 Mv 15 16] [10,16])
 (.cond (.t 15)
 (.seq (.region [It 17 (.load (some 5) (.t 1)),
 It 18 (.mkf 155 [(.t 17)] []),
 Mv 2 18] [1,5,15,17,18])
 .ret)
 (.seq (.region [It 20 (.bin .eql (.t 5) (.c (.i .i64 (21)))),
 Mv 19 20] [15,20])
 (.cond (.t 19)
 (.seq (.region [It 21 (.load (some 5) (.t 1)),
 It 22 (.mkf 156 [(.t 21)] []),
 Mv 2 22] [1,5,19,21,22])
 .ret)
 (.seq (.region [It 24 (.bin .eql (.t 5) (.c (.i .i64 (22)))),
 Mv 23 24] [19,24])
 (.cond (.t 23)
 (.seq (.region [It 25 (.load (some 5) (.t 1)),
 It 26 (.mkf 157 [(.t 25)] []),
 Mv 2 26] [1,5,23,25,26])
 .ret)
 (.seq (.region [It 28 (.bin .eql (.t 5) (.c (.i .i64 (23)))),
 Mv 27 28] [23,28])
 (.cond (.t 27)
 (.seq (.region [It 29 (.load (some 5) (.t 1)),
 It 30 (.mkf 158 [(.t 29)] []),
 Mv 2 30] [1,5,27,29,30])
 .ret)
 (.seq (.seq (.region [It 32 (.bin .eql (.t 5) (.c (.i .i64 (24)))),
 Mv 31 32] [27,32])
 (.cond (.t 31)
 .skip
 (.seq (.region [It 33 (.bin .eql (.t 5) (.c (.i .i64 (25)))),
 Mv 31 33] [33])
 (.cond (.t 31)
 .skip
 (.region [It 34 (.bin .eql (.t 5) (.c (.i .i64 (26)))),
 Mv 31 34] [34])))))
 (.cond (.t 31)
 (.seq (.region [It 35 (.load (some 5) (.t 1)),
 It 36 (.mkf 159 [(.t 35)] []),
 Mv 2 36] [1,5,31,35,36])
 .ret)
 (.seq (.region [It 38 (.bin .eql (.t 5) (.c (.i .i64 (29)))),
 Mv 37 38] [31,38])
 (.cond (.t 37)
 (.seq (.region [It 39 (.load (some 5) (.t 1)),
 It 40 (.mkf 160 [(.t 39)] []),
 Mv 2 40] [1,5,37,39,40])
 .ret)
 (.seq (.region [It 42 (.bin .eql (.t 5) (.c (.i .i64 (31)))),
 Mv 41 42] [5,37,42])
 (.cond (.t 41)
 (.seq (.region [It 43 (.load (some 5) (.t 1)),
 It 44 (.mkf 161 [(.t 43)] []),
 Mv 2 44] [1,41,43,44])
 .ret)
 (.region [] [41])))))))))))))))))))))
 (.seq (.region [It 45 (.load (some 5) (.t 1)),
 It 46 (.mkf 162 [(.t 45)] []),
 Mv 2 46] [1,45,46])
 .ret))),
    47,1,[.t 2],1⟩
theorem tr144:trFunc Tryz.prog (hz [] I144.body) 1 Tryz.f144=some (plain1 I144):=by kernel_rfl
theorem ck144:ckC 2 I144.body=true:=by kernel_rfl
def L145a:ICode :=
  (.seq (.region [It 14 (.bin .lss (.t 13) (.t 12))] [])
 (.seq (.cond (.t 14)
 (.region [] [14])
 (.exit 0))
 (.seq (.block 1
 (.seq (.region [Mv 15 13,
 Mv 5 15] [15])
 (.seq (.region [Mv 16 0,
 Mv 17 5,
 It 18 (.iaddr 2 (.t 16) (.t 17)),
 It 19 (.load (some 2) (.t 18)),
 Mv 20 1,
 Mv 21 5,
 It 22 (.iaddr 2 (.t 20) (.t 21)),
 It 23 (.load (some 2) (.t 22)),
 It 24 (.eqAg [1,1] true (.t 19) (.t 23))] [5,16,17,18,19,20,21,22,23])
 (.cond (.t 24)
 (.seq (.region [It 4 (.mov (.c (.b false)))] [0,1,12,13,24])
 .ret)
 (.region [] [24])))))
 (.region [It 25 (.bin .add (.t 13) (.c (.i .i64 (1)))),
 Mv 13 25] [25]))))
def I145:IFunc :=
  ⟨(.seq (.region [It 4 (.mov (.c (.b false)))] [4])
 (.seq (.seq (.region [Mv 6 0,
 It 7 (.lenk 0 (.t 6)),
 Mv 8 1,
 It 9 (.lenk 0 (.t 8)),
 It 10 (.bin .neq (.t 7) (.t 9))] [6,7,8,9])
 (.cond (.t 10)
 (.seq (.region [It 4 (.mov (.c (.b false)))] [0,1,10])
 .ret)
 (.region [] [10])))
 (.seq (.seq (.region [Mv 11 0,
 It 12 (.lenk 0 (.t 11)),
 It 13 (.mov (.c i0))] [11])
 (.block 0
 (.loop L145a)))
 (.seq (.region [It 4 (.mov (.c (.b true)))] [0,1,12,13,14])
 .ret)))),
    26,2,[.t 4],2⟩
theorem tr145:trFunc Tryz.prog (hz [(8,[0,1,2,3,4,5,6,7,8])] I145.body) 1 Tryz.f145=some (plain1 I145):=by kernel_rfl
theorem ck145:ckC 2 I145.body=true:=by kernel_rfl

end Go.Proofs.YtbfajkcmehaliaaGreatDoor

