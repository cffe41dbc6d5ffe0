import Derived.Test.YtkpgolcjiahdfaaGreatDoorRows
import Derived.Test.YtkpgolcjiahdfaaGreatDoorB06
import Derived.Test.YtkpgolcjiahdfaaGreatDoorB04
set_option linter.unusedVariables false
set_option linter.unusedSimpArgs false
set_option linter.unusedSectionVars false
/- The functions that the statement reaches, as the interpreter has them, with modes. Conditions: none. -/
namespace Go.Proofs.YtkpgolcjiahdfaaGreatDoor
open Go Go.RI
set_option maxRecDepth 100000
@[reducible] def Ss(n a b:Nat):RI.Item:=⟨none,.store n (.t a) (.t b),none,[]⟩
@[reducible] def Lm(d n s:Nat):RI.Item:=⟨some d,.load (some n) (.t s),none,[]⟩
@[reducible] def Ia(d n a b:Nat):RI.Item:=⟨some d,.iaddr n (.t a) (.t b),none,[]⟩
@[reducible] def Le(d s:Nat):RI.Item:=⟨some d,.lenk 0 (.t s),none,[]⟩
@[simp] theorem Ss_eq{n a b:Nat}:Ss n a b=⟨none,.store n (.t a) (.t b),none,[]⟩:=rfl
@[simp] theorem Lm_eq{d n s:Nat}:Lm d n s=⟨some d,.load (some n) (.t s),none,[]⟩:=rfl
@[simp] theorem Ia_eq{d n a b:Nat}:Ia d n a b=⟨some d,.iaddr n (.t a) (.t b),none,[]⟩:=rfl
@[simp] theorem Le_eq{d s:Nat}:Le d s=⟨some d,.lenk 0 (.t s),none,[]⟩:=rfl
def I4:IFunc :=
  ⟨(.seq (.region [It 3 (.box (.t 0)),
 It 6 (.mov (.c (.b false)))] [0,6])
 (.seq (.seq (.region [It 15 (.call 5 []),
 It 16 (.un .not (.t 15))] [15])
 (.cond (.t 16)
 (.seq (.region [It 6 (.mov (.c (.b false)))] [1,2,3,16])
 .ret)
 (.region [] [16])))
 (.seq (.seq (.region [Lm 17 16 3,
 It 18 (.call 7 [(.t 17)]),
 Mv 19 1,
 It 20 (.call 10 [(.t 18),(.t 19)])] [17,18,19])
 (.cond (.t 20)
 (.seq (.region [It 6 (.mov (.c (.b true)))] [1,2,3,20])
 .ret)
 (.region [] [20])))
 (.seq (.seq (.region [Mv 21 1,
 It 22 (.bin .lss (.t 21) (.c i0)),
 Mv 23 22,
 Ig 24 23 false (.mov (.t 1)),
 Ig 25 23 false (.off (.t 3) 4),
 Ig 26 23 false (.load none (.t 25)),
 Ig 27 23 false (.lenk 0 (.t 26)),
 Ig 28 23 false (.bin .geq (.t 24) (.t 27)),
 It 29 (.pick (.t 23) (.c (.b true)) (.t 28))] [21,22,23,24,25,26,27,28])
 (.cond (.t 29)
 (.seq (.region [It 6 (.mov (.c (.b false)))] [1,2,3,29])
 .ret)
 (.region [] [29])))
 (.seq (.region [Lm 30 16 3,
 Lm 32 16 3,
 It 7 (.alloc [i0,i0,i0,i0,.ns,.ns,i0,i0,i0,i0,i0,i0,(.s []),.ns,.ns,i0]),
 It 8 (.alloc [i0,i0,i0,i0,.ns,.ns,i0,i0,i0,i0,i0,i0,(.s []),.ns,.ns,i0]),
 ⟨(some 31),(.call 7 [(.t 30)]),none,[(32,(.load (some 16) (.t 3)),none)]⟩,
 It 33 (.call 7 [(.t 32)]),
 Ss 16 7 31,
 Ss 16 8 33] [3,30,32,31,33])
 (.seq (.region [Of 34 7 4,
 Ld 35 34,
 Mv 36 1,
 It 37 (.sl 5 (.t 35) none (some (.t 36)) none),
 It 38 (.build [i0,i0,i0,i0,(.s []),.ns,.ns] []),
 Of 39 7 4,
 Ss 1 39 37,
 Of 40 7 5,
 ⟨none,(.store 1 (.t 40) (.c .ns)),none,[]⟩,
 Of 41 7 6,
 ⟨none,(.store 1 (.t 41) (.c i0)),none,[]⟩,
 Of 42 7 8,
 Ss 7 42 38] [34,35,36,37,38,39,40,41,42])
 (.seq (.region [Of 43 8 4,
 Ld 44 43,
 Mv 45 1,
 It 46 (.bin .add (.t 45) (.c (.i .i64 1))),
 It 47 (.sl 5 (.t 44) none (some (.t 46)) none),
 It 48 (.build [i0,i0,i0,i0,(.s []),.ns,.ns] []),
 Of 49 8 4,
 Ss 1 49 47,
 Of 50 8 5,
 ⟨none,(.store 1 (.t 50) (.c .ns)),none,[]⟩,
 Of 51 8 6,
 ⟨none,(.store 1 (.t 51) (.c i0)),none,[]⟩,
 Of 52 8 8,
 Ss 7 52 48] [1,43,44,45,46,47,48,49,50,51,52])
 (.seq (.region [Lm 54 16 7,
 Mv 55 2,
 It 56 (.call 11 [(.t 54),(.t 55)]),
 Mv 53 56,
 Ex 57 53 0,
 Ex 58 53 1,
 Ex 59 53 2,
 Mv 9 57,
 Mv 10 58,
 Mv 11 59] [7,54,55,56,53,57,58,59,9,10])
 (.seq (.region [Lm 61 16 8,
 Mv 62 2,
 It 63 (.call 11 [(.t 61),(.t 62)]),
 Mv 60 63,
 Ex 64 60 0,
 Ex 65 60 1,
 Ex 66 60 2,
 Mv 12 64,
 Mv 13 65,
 Mv 14 66] [2,8,61,62,63,60,64,65,66,12,13])
 (.seq (.region [Mv 67 11,
 Mv 68 14,
 It 69 (.eqB false (.t 67) (.t 68)),
 Mv 6 69] [11,14,67,68,69])
 .ret)))))))))),
    70,3,[.t 6],0⟩
theorem tr4:trFunc Tryz.prog (hz [(10,[0,2,4,5,1,3,6,7])] I4.body) 0 Tryz.f4=some (plain1 I4):=by kernel_rfl
theorem ck4:ckC 2 I4.body=true:=by kernel_rfl
def I5:IFunc :=
  ⟨(.seq (.region [It 0 (.mov (.c (.b false)))] [0])
 (.seq (.region [It 6 (.call 13 [(.c i0)]),
 It 7 (.call 12 [(.c (.i .i64 6)),(.c i0),(.t 6)]),
 It 1 (.alloc [i0,i0,.ns,(.s []),.ns]),
 Ss 5 1 7] [6,7])
 (.seq (.region [Lm 11 5 1,
 Lm 14 5 1,
 It 15 (.bsl 5 1 [i0,i0,.ns,(.s []),.ns] [(0,5,(.t 14))]),
 ⟨(some 8),(.call 13 [(.c i0)]),none,[(11,(.load (some 5) (.t 1)),none),(14,(.load (some 5) (.t 1)),none)]⟩,
 ⟨(some 9),(.call 17 [(.c (.i .i64 1))]),none,[(11,(.load (some 5) (.t 1)),none),(14,(.load (some 5) (.t 1)),none)]⟩,
 ⟨(some 10),(.call 16 [(.c (.i .i64 14)),(.t 8),(.t 9)]),none,[(11,(.load (some 5) (.t 1)),none),(14,(.load (some 5) (.t 1)),none)]⟩,
 It 12 (.bsl 5 2 [i0,i0,.ns,(.s []),.ns,i0,i0,.ns,(.s []),.ns] [(0,5,(.t 10)),(5,5,(.t 11))]),
 ⟨(some 13),(.call 15 [(.c (.i .i64 2)),(.t 12)]),none,[(14,(.load (some 5) (.t 1)),none)]⟩,
 It 16 (.call 15 [(.c (.i .i64 2)),(.t 15)]),
 It 17 (.call 14 [(.t 13),(.t 16)]),
 Mv 2 17] [11,14,15,8,9,10,12,13,16,17])
 (.seq (.region [Lm 18 5 1,
 Lm 19 5 1,
 Lm 25 5 1,
 ⟨(some 20),(.call 18 [(.c i0)]),none,[(18,(.load (some 5) (.t 1)),none),(19,(.load (some 5) (.t 1)),none),(25,(.load (some 5) (.t 1)),none)]⟩,
 ⟨(some 21),(.call 18 [(.c (.i .i64 1))]),none,[(18,(.load (some 5) (.t 1)),none),(19,(.load (some 5) (.t 1)),none),(25,(.load (some 5) (.t 1)),none)]⟩,
 ⟨(some 22),(.call 16 [(.c (.i .i64 9)),(.t 20),(.t 21)]),none,[(18,(.load (some 5) (.t 1)),none),(19,(.load (some 5) (.t 1)),none),(25,(.load (some 5) (.t 1)),none)]⟩,
 It 23 (.bsl 5 3 [i0,i0,.ns,(.s []),.ns,i0,i0,.ns,(.s []),.ns,i0,i0,.ns,(.s []),.ns] [(0,5,(.t 18)),(5,5,(.t 19)),(10,5,(.t 22))]),
 ⟨(some 24),(.call 15 [(.c (.i .i64 2)),(.t 23)]),none,[(25,(.load (some 5) (.t 1)),none)]⟩,
 ⟨(some 26),(.call 18 [(.c i0)]),none,[(25,(.load (some 5) (.t 1)),none)]⟩,
 ⟨(some 27),(.call 18 [(.c i0)]),none,[(25,(.load (some 5) (.t 1)),none)]⟩,
 ⟨(some 28),(.call 16 [(.c (.i .i64 9)),(.t 26),(.t 27)]),none,[(25,(.load (some 5) (.t 1)),none)]⟩,
 It 29 (.bsl 5 2 [i0,i0,.ns,(.s []),.ns,i0,i0,.ns,(.s []),.ns] [(0,5,(.t 25)),(5,5,(.t 28))]),
 It 30 (.call 15 [(.c (.i .i64 2)),(.t 29)]),
 It 31 (.call 14 [(.t 24),(.t 30)]),
 Mv 3 31] [18,19,25,20,21,22,23,24,26,27,28,29,30,31])
 (.seq (.region [It 32 (.call 13 [(.c i0)]),
 It 33 (.call 12 [(.c (.i .i64 40)),(.c (.i .i64 1)),(.t 32)]),
 It 34 (.call 13 [(.c i0)]),
 It 35 (.call 12 [(.c (.i .i64 40)),(.c (.i .i64 1)),(.t 34)]),
 It 36 (.call 13 [(.c i0)]),
 It 37 (.call 17 [(.c (.i .i64 1))]),
 It 38 (.call 16 [(.c (.i .i64 43)),(.t 36),(.t 37)]),
 It 39 (.bsl 5 3 [i0,i0,.ns,(.s []),.ns,i0,i0,.ns,(.s []),.ns,i0,i0,.ns,(.s []),.ns] [(0,5,(.t 33)),(5,5,(.t 35)),(10,5,(.t 38))]),
 It 40 (.call 15 [(.c (.i .i64 2)),(.t 39)]),
 It 41 (.call 13 [(.c i0)]),
 It 42 (.call 12 [(.c (.i .i64 40)),(.c (.i .i64 1)),(.t 41)]),
 It 43 (.call 13 [(.c i0)]),
 It 44 (.call 17 [(.c (.i .i64 1))]),
 It 45 (.call 16 [(.c (.i .i64 43)),(.t 43),(.t 44)]),
 It 46 (.bsl 5 2 [i0,i0,.ns,(.s []),.ns,i0,i0,.ns,(.s []),.ns] [(0,5,(.t 42)),(5,5,(.t 45))]),
 It 47 (.call 15 [(.c (.i .i64 2)),(.t 46)]),
 It 48 (.call 14 [(.t 40),(.t 47)]),
 Mv 4 48] [32,33,34,35,36,37,38,39,40,41,42,43,44,45,46,47,48])
 (.seq (.region [Lm 52 5 1,
 It 5 (.alloc [i0,i0,i0,i0,.ns,.ns,i0,i0,i0,i0,i0,i0,(.s []),.ns,.ns,i0]),
 ⟨(some 49),(.call 13 [(.c i0)]),none,[(52,(.load (some 5) (.t 1)),none)]⟩,
 ⟨(some 50),(.call 13 [(.c (.i .i64 1))]),none,[(52,(.load (some 5) (.t 1)),none)]⟩,
 ⟨(some 51),(.call 16 [(.c (.i .i64 12)),(.t 49),(.t 50)]),none,[(52,(.load (some 5) (.t 1)),none)]⟩,
 It 53 (.bsl 5 2 [i0,i0,.ns,(.s []),.ns,i0,i0,.ns,(.s []),.ns] [(0,5,(.t 51)),(5,5,(.t 52))]),
 It 54 (.call 15 [(.c (.i .i64 2)),(.t 53)]),
 Ss 16 5 54] [1,52,49,50,51,53,54])
 (.seq (.region [Mv 55 2,
 Mv 56 55,
 Ig 57 56 true (.mov (.t 3)),
 It 58 (.pick (.t 56) (.t 57) (.c (.b false))),
 Mv 59 58,
 Ig 60 59 true (.mov (.t 4)),
 It 61 (.pick (.t 59) (.t 60) (.c (.b false))),
 Mv 62 61,
 Ig 63 62 true (.load (some 16) (.t 5)),
 Ig 64 62 true (.load (some 16) (.t 5)),
 Ig 65 62 true (.call 14 [(.t 63),(.t 64)]),
 It 66 (.pick (.t 62) (.t 65) (.c (.b false))),
 Mv 67 66,
 Ig 68 67 true (.load (some 16) (.t 5)),
 Ig 69 67 true (.call 10 [(.t 68),(.c i0)]),
 It 70 (.pick (.t 67) (.t 69) (.c (.b false))),
 Mv 71 70,
 Ig 72 71 true (.call 13 [(.c i0)]),
 Ig 73 71 true (.call 17 [(.c (.i .i64 1))]),
 Ig 74 71 true (.call 16 [(.c (.i .i64 14)),(.t 72),(.t 73)]),
 Ig 75 71 true (.bsl 5 1 [i0,i0,.ns,(.s []),.ns] [(0,5,(.t 74))]),
 Ig 76 71 true (.call 15 [(.c (.i .i64 1)),(.t 75)]),
 Ig 77 71 true (.call 10 [(.t 76),(.c i0)]),
 Ig 78 71 true (.un .not (.t 77)),
 It 79 (.pick (.t 71) (.t 78) (.c (.b false))),
 Mv 0 79] [2,3,4,5,55,56,57,58,59,60,61,62,63,64,65,66,67,68,69,70,71,72,73,74,75,76,77,78,79])
 .ret))))))),
    80,0,[.t 0],2⟩
theorem tr5:trFunc Tryz.prog (hz [(2,[3,6,7,0,1,2,4,5,8,9,10]),(3,[0,1,7,2,3,4,5,6,8,9,10,11,12,13,14]),(5,[3,6,0,1,2,4,5,7])] I5.body) 1 Tryz.f5=some (plain1 I5):=by kernel_rfl
theorem ck5:ckC 2 I5.body=true:=by kernel_rfl
def L6a:ICode :=
  (.seq (.region [It 29 (.bin .lss (.t 28) (.t 27))] [])
 (.seq (.cond (.t 29)
 (.region [] [29])
 (.exit 0))
 (.seq (.block 1
 (.seq (.region [Mv 30 28,
 Ia 31 1 26 28,
 Ld 32 31,
 Mv 8 30,
 Mv 9 32] [30,31,32])
 (.seq (.region [Ld 33 6,
 Of 34 1 4,
 Ld 35 34,
 Le 36 35,
 It 37 (.build [i0,i0,i0,i0,(.s []),.ns,.ns] [(0,1,(.c (.i .i64 2))),(1,1,(.t 36))]),
 It 38 (.bsl 7 1 [i0,i0,i0,i0,(.s []),.ns,.ns] [(0,7,(.t 37))]),
 It 39 (.app 7 96 (.t 33) (.t 38)),
 Ss 1 6 39] [33,34,35,36,37,38,39])
 (.seq (.region [Mv 40 9] [9])
 (.cond (.t 40)
 (.seq (.region [Mv 41 5,
 It 42 (.nck (.t 41)),
 Of 43 42 0,
 Ld 44 43,
 Mv 45 8,
 Ia 46 5 44 45,
 Lm 47 5 46,
 It 10 (.alloc [i0,i0,.ns,(.s []),.ns]),
 Ss 5 10 47] [8,40,41,42,43,44,45,46,47])
 (.seq (.region [Mv 48 7,
 Of 49 10 2,
 Ld 50 49,
 It 51 (.callv (.t 48) [(.t 50)]),
 Of 52 10 2,
 Ss 1 52 51] [48,49,50,51,52])
 (.region [Of 53 1 4,
 Ld 54 53,
 Lm 55 5 10,
 It 56 (.bsl 5 1 [i0,i0,.ns,(.s []),.ns] [(0,5,(.t 55))]),
 It 57 (.app 5 80 (.t 54) (.t 56)),
 Of 58 1 4,
 Ss 1 58 57] [10,53,54,55,56,57,58])))
 (.region [] [8,40]))))))
 (.region [It 59 (.bin .add (.t 28) (.c (.i .i64 1))),
 Mv 28 59] [59]))))
def I6:IFunc :=
  ⟨(.seq (.region [It 1 (.box (.t 0)),
 It 2 (.alloc [i0,i0,i0,i0,.ns,.ns,i0,i0,i0,i0,i0,i0,(.s []),.ns,.ns,i0]),
 It 3 (.mov (.c i0))] [0,3])
 (.seq (.seq (.region [Lm 11 16 1,
 It 12 (.call 8 [(.t 11)]),
 Mv 4 12] [11,12])
 (.seq (.region [Mv 13 4,
 It 14 (.bin .neq (.t 13) (.c i0))] [13])
 (.cond (.t 14)
 (.seq (.region [It 15 (.build [i0,i0,i0,i0,.ns,.ns,i0,i0,i0,i0,i0,i0,(.s []),.ns,.ns,i0] []),
 Mv 16 4,
 Ss 16 2 15,
 Mv 3 16] [1,4,14,15,16])
 .ret)
 (.region [] [4,14]))))
 (.seq (.region [Lm 18 16 1,
 It 19 (.call 19 [(.t 18)]),
 Mv 17 19,
 Ex 20 17 0,
 Ex 21 17 1,
 Mv 5 20,
 Ss 16 1 21] [18,19,17,20,21])
 (.seq (.region [Of 22 1 4,
 ⟨none,(.store 1 (.t 22) (.c .ns)),none,[]⟩] [22])
 (.seq (.region [It 6 (.alloc [.ns])] [])
 (.seq (.region [It 23 (.call 20 [(.t 6)]),
 Mv 7 23] [23])
 (.seq (.seq (.region [Mv 24 5,
 Lm 25 16 1,
 It 26 (.call 21 [(.t 24),(.t 25)]),
 Le 27 26,
 It 28 (.mov (.c i0))] [24,25])
 (.block 0
 (.loop L6a)))
 (.seq (.region [Mv 60 7,
 Of 61 1 5,
 Ld 62 61,
 Mv 64 7,
 Of 65 1 8,
 Lm 66 7 65,
 It 67 (.bsl 7 1 [i0,i0,i0,i0,(.s []),.ns,.ns] [(0,7,(.t 66))]),
 ⟨(some 63),(.callv (.t 60) [(.t 62)]),none,[(66,(.load (some 7) (.t 65)),none)]⟩,
 Of 71 1 5,
 It 68 (.callv (.t 64) [(.t 67)]),
 It 69 (.iaddr 7 (.t 68) (.c i0)),
 Lm 70 7 69,
 ⟨none,(.store 1 (.t 71) (.t 63)),none,[(70,(.load (some 7) (.t 69)),none)]⟩,
 Of 72 1 8,
 Ss 7 72 70] [5,6,7,26,27,28,29,60,61,62,64,65,66,67,63,71,68,69,70,72])
 (.seq (.region [Lm 73 16 1,
 Ss 16 2 73,
 It 3 (.mov (.c i0))] [1,73])
 .ret))))))))),
    74,1,[.c 2 (some 16),.t 3],2⟩
theorem tr6:trFunc Tryz.prog (hz [(20,[0,1,2,4,5,6,7,3,11,8,9,10,12,13,14])] I6.body) 1 Tryz.f6=some (plain1 I6):=by kernel_rfl
theorem ck6:ckC 2 I6.body=true:=by kernel_rfl
def L7a:ICode :=
  (.seq (.seq (.region [Mv 23 5,
 Of 24 3 4,
 Ld 25 24,
 Le 26 25,
 It 27 (.bin .lss (.t 23) (.t 26))] [23,24,25,26])
 (.cond (.t 27)
 (.region [] [27])
 (.exit 0)))
 (.seq (.block 1
 (.region [Of 30 4 4,
 Ld 31 30,
 Of 32 3 4,
 Ld 33 32,
 Mv 34 5,
 Ia 35 5 33 34,
 Of 36 35 0,
 Ld 37 36,
 Of 38 3 4,
 Ld 39 38,
 Mv 40 5,
 Ia 41 5 39 40,
 Of 42 41 1,
 Ld 43 42,
 Of 44 3 4,
 Ld 45 44,
 Mv 46 5,
 Ia 47 5 45 46,
 Of 48 47 2,
 Ld 49 48,
 Of 51 3 4,
 Ld 52 51,
 Mv 53 5,
 Ia 54 5 52 53,
 Of 55 54 3,
 Ld 56 55,
 Of 57 3 4,
 Ld 58 57,
 Mv 59 5,
 Ia 60 5 58 59,
 Of 61 60 4,
 Ld 62 61,
 ⟨(some 50),(.call 23 [(.t 49)]),none,[(31,(.load none (.t 30)),none),(33,(.load none (.t 32)),none),(37,(.load none (.t 36)),none),(39,(.load none (.t 38)),none),(43,(.load none (.t 42)),none),(52,(.load none (.t 51)),none),(56,(.load none (.t 55)),none),(58,(.load none (.t 57)),none),(62,(.load none (.t 61)),none)]⟩,
 It 63 (.build [i0,i0,.ns,(.s []),.ns] [(0,1,(.t 37)),(1,1,(.t 43)),(2,1,(.t 50)),(3,1,(.t 56)),(4,1,(.t 62))]),
 It 64 (.bsl 5 1 [i0,i0,.ns,(.s []),.ns] [(0,5,(.t 63))]),
 It 65 (.app 5 80 (.t 31) (.t 64)),
 Of 66 4 4,
 Ss 1 66 65] [30,31,32,33,34,35,36,37,38,39,40,41,42,43,44,45,46,47,48,49,51,52,53,54,55,56,57,58,59,60,61,62,50,63,64,65,66]))
 (.region [Mv 28 5,
 It 29 (.bin .add (.t 28) (.c (.i .i64 1))),
 Mv 5 29] [28,29])))
def I7:IFunc :=
  ⟨(.seq (.region [It 1 (.box (.t 0)),
 It 2 (.alloc [i0,i0,i0,i0,.ns,.ns,i0,i0,i0,i0,i0,i0,(.s []),.ns,.ns,i0])] [0])
 (.seq (.region [Lm 6 16 1,
 It 7 (.call 22 [(.t 6)]),
 It 3 (.alloc [i0,i0,i0,i0,.ns,.ns,i0,i0,i0,i0,i0,i0,(.s []),.ns,.ns,i0]),
 Ss 16 3 7] [1,6,7])
 (.seq (.region [Of 8 3 0,
 Ld 9 8,
 Of 10 3 1,
 Ld 11 10,
 Of 12 3 2,
 Ld 13 12,
 Of 14 3 3,
 Ld 15 14,
 Of 16 3 6,
 Ld 17 16,
 Of 18 3 7,
 Ld 19 18,
 Of 20 3 15,
 Ld 21 20,
 It 22 (.build [i0,i0,i0,i0,.ns,.ns,i0,i0,i0,i0,i0,i0,(.s []),.ns,.ns,i0] [(0,1,(.t 9)),(1,1,(.t 11)),(2,1,(.t 13)),(3,1,(.t 15)),(6,1,(.t 17)),(7,1,(.t 19)),(15,1,(.t 21))]),
 It 4 (.alloc [i0,i0,i0,i0,.ns,.ns,i0,i0,i0,i0,i0,i0,(.s []),.ns,.ns,i0]),
 Ss 16 4 22] [8,9,10,11,12,13,14,15,16,17,18,19,20,21,22])
 (.seq (.seq (.region [It 5 (.mov (.c i0))] [])
 (.block 0
 (.loop L7a)))
 (.seq (.region [Of 67 3 5,
 Ld 68 67,
 It 69 (.call 23 [(.t 68)]),
 Of 70 4 5,
 Ss 1 70 69] [5,27,67,68,69,70])
 (.seq (.region [Of 71 3 8,
 Of 72 71 0,
 Ld 73 72,
 Of 74 3 8,
 Of 75 74 1,
 Ld 76 75,
 Of 77 3 8,
 Of 78 77 2,
 Lm 79 5 78,
 It 80 (.build [i0,i0,i0,i0,(.s []),.ns,.ns] [(0,1,(.t 73)),(1,1,(.t 76)),(2,5,(.t 79))]),
 Of 81 4 8,
 Ss 7 81 80] [3,71,72,73,74,75,76,77,78,79,80,81])
 (.seq (.region [Lm 82 16 4,
 Ss 16 2 82] [4,82])
 .ret))))))),
    83,1,[.c 2 (some 16)],2⟩
theorem tr7:trFunc Tryz.prog (hz [(6,[0,1,2,3,4,5,6,7,8,9,10,11,12,13,14,15,16,17,18,19,21,22,23,24,25,26,27,28,29,30,31,32,20,33,34,35,36,37])] I7.body) 1 Tryz.f7=some (plain1 I7):=by kernel_rfl
theorem ck7:ckC 2 I7.body=true:=by kernel_rfl
def L8a:ICode :=
  (.seq (.region [It 26 (.bin .lss (.t 25) (.t 24))] [])
 (.seq (.cond (.t 26)
 (.region [] [26])
 (.exit 0))
 (.seq (.block 1
 (.seq (.region [Ia 27 1 23 25,
 Ld 28 27,
 Mv 4 28] [27,28])
 (.seq (.region [Mv 29 4,
 It 30 (.bin .lss (.t 29) (.c i0))] [4,29])
 (.cond (.t 30)
 (.seq (.region [It 2 (.mov (.c (.i .i64 2)))] [1,23,24,25,30])
 .ret)
 (.region [] [30])))))
 (.region [It 31 (.bin .add (.t 25) (.c (.i .i64 1))),
 Mv 25 31] [31]))))
def L8b:ICode :=
  (.seq (.region [It 69 (.bin .lss (.t 68) (.t 67))] [])
 (.seq (.cond (.t 69)
 (.region [] [69])
 (.exit 2))
 (.seq (.block 3
 (.seq (.region [Mv 70 68,
 Ia 71 5 66 68,
 Lm 72 5 71,
 It 6 (.alloc [i0,i0,.ns,(.s []),.ns]),
 Mv 5 70,
 Ss 5 6 72] [70,71,72])
 (.seq (.region [Lm 73 5 6,
 Of 74 1 3,
 Ld 75 74,
 Mv 76 5,
 It 77 (.call 24 [(.t 73),(.t 75),(.t 76)]),
 It 78 (.un .not (.t 77))] [6,5,73,74,75,76,77])
 (.cond (.t 78)
 (.seq (.region [It 2 (.mov (.c (.i .i64 2)))] [1,66,67,68,78])
 .ret)
 (.region [] [78])))))
 (.region [It 79 (.bin .add (.t 68) (.c (.i .i64 1))),
 Mv 68 79] [79]))))
def I8:IFunc :=
  ⟨(.seq (.region [It 1 (.box (.t 0)),
 It 2 (.mov (.c i0))] [0,2])
 (.seq (.seq (.region [Of 9 1 0,
 Ld 10 9,
 Of 11 1 1,
 Ld 12 11,
 Of 13 1 2,
 Ld 14 13,
 Of 15 1 3,
 Ld 16 15,
 Of 17 1 15,
 Ld 18 17,
 Of 19 1 6,
 Ld 20 19,
 Of 21 1 7,
 Ld 22 21,
 It 23 (.bsl 1 7 [i0,i0,i0,i0,i0,i0,i0] [(0,1,(.t 10)),(1,1,(.t 12)),(2,1,(.t 14)),(3,1,(.t 16)),(4,1,(.t 18)),(5,1,(.t 20)),(6,1,(.t 22))]),
 Le 24 23,
 It 25 (.mov (.c i0))] [9,10,11,12,13,14,15,16,17,18,19,20,21,22])
 (.block 0
 (.loop L8a)))
 (.seq (.seq (.region [Of 32 1 0,
 Ld 33 32,
 Of 34 1 1,
 Ld 35 34,
 Of 36 1 2,
 Ld 37 36,
 It 38 (.mm true (.t 33) [(.t 35),(.t 37)]),
 It 39 (.bin .gtr (.t 38) (.c (.i .i64 9007199254740991)))] [23,24,25,26,32,33,34,35,36,37,38])
 (.cond (.t 39)
 (.seq (.region [It 2 (.mov (.c (.i .i64 2)))] [1,39])
 .ret)
 (.region [] [39])))
 (.seq (.seq (.region [Of 40 1 3,
 Ld 41 40,
 It 42 (.bin .gtr (.t 41) (.c (.i .i64 64))),
 Mv 43 42,
 Ig 44 43 false (.off (.t 1) 15),
 Ig 45 43 false (.load none (.t 44)),
 Ig 46 43 false (.bin .gtr (.t 45) (.c (.i .i64 1))),
 It 47 (.pick (.t 43) (.c (.b true)) (.t 46)),
 Mv 48 47,
 Ig 49 48 false (.off (.t 1) 6),
 Ig 50 48 false (.load none (.t 49)),
 Ig 51 48 false (.bin .gtr (.t 50) (.c (.i .i64 3))),
 It 52 (.pick (.t 48) (.c (.b true)) (.t 51)),
 Mv 53 52,
 Ig 54 53 false (.off (.t 1) 4),
 Ig 55 53 false (.load none (.t 54)),
 Ig 56 53 false (.lenk 0 (.t 55)),
 Ig 57 53 false (.bin .gtr (.t 56) (.c (.i .i64 4096))),
 It 58 (.pick (.t 53) (.c (.b true)) (.t 57)),
 Mv 59 58,
 Ig 60 59 false (.off (.t 1) 5),
 Ig 61 59 false (.load none (.t 60)),
 Ig 62 59 false (.lenk 0 (.t 61)),
 Ig 63 59 false (.bin .gtr (.t 62) (.c (.i .i64 64))),
 It 64 (.pick (.t 59) (.c (.b true)) (.t 63))] [40,41,42,43,44,45,46,47,48,49,50,51,52,53,54,55,56,57,58,59,60,61,62,63])
 (.cond (.t 64)
 (.seq (.region [It 2 (.mov (.c (.i .i64 2)))] [1,64])
 .ret)
 (.region [] [64])))
 (.seq (.seq (.region [Of 65 1 4,
 Ld 66 65,
 Le 67 66,
 It 68 (.mov (.c i0))] [65])
 (.block 2
 (.loop L8b)))
 (.seq (.region [Of 80 1 6,
 Ld 81 80,
 It 82 (.bin .eql (.t 81) (.c (.i .i64 2))),
 Mv 83 82,
 Ig 84 83 true (.off (.t 1) 8),
 Ig 85 83 true (.load (some 7) (.t 84)),
 Ig 86 83 true (.off (.t 1) 3),
 Ig 87 83 true (.load none (.t 86)),
 Ig 88 83 true (.off (.t 1) 4),
 Ig 89 83 true (.load none (.t 88)),
 Ig 90 83 true (.lenk 0 (.t 89)),
 Ig 91 83 true (.call 25 [(.t 85),(.t 87),(.t 90)]),
 It 92 (.pick (.t 83) (.t 91) (.c (.b false))),
 Mv 7 92] [66,67,68,69,80,81,82,83,84,85,86,87,88,89,90,91,92])
 (.seq (.region [Of 93 1 6,
 Ld 94 93,
 It 95 (.bin .neq (.t 94) (.c (.i .i64 2))),
 Mv 96 95,
 Ig 97 96 true (.off (.t 1) 8),
 Ig 98 96 true (.off (.t 97) 0),
 Ig 99 96 true (.load none (.t 98)),
 Ig 100 96 true (.bin .eql (.t 99) (.c i0)),
 It 101 (.pick (.t 96) (.t 100) (.c (.b false))),
 Mv 102 101,
 Ig 103 102 true (.off (.t 1) 8),
 Ig 104 102 true (.off (.t 103) 1),
 Ig 105 102 true (.load none (.t 104)),
 Ig 106 102 true (.bin .eql (.t 105) (.c i0)),
 It 107 (.pick (.t 102) (.t 106) (.c (.b false))),
 Mv 108 107,
 Ig 109 108 true (.off (.t 1) 8),
 Ig 110 108 true (.off (.t 109) 2),
 Ig 111 108 true (.load (some 5) (.t 110)),
 Ig 112 108 true (.call 26 [(.t 111)]),
 It 113 (.pick (.t 108) (.t 112) (.c (.b false))),
 Mv 8 113] [93,94,95,96,97,98,99,100,101,102,103,104,105,106,107,108,109,110,111,112,113])
 (.seq (.seq (.region [Mv 114 7,
 It 115 (.un .not (.t 114)),
 Mv 116 115,
 Ig 117 116 true (.mov (.t 8)),
 Ig 118 116 true (.un .not (.t 117)),
 It 119 (.pick (.t 116) (.t 118) (.c (.b false))),
 Mv 120 119,
 Ig 121 120 false (.off (.t 1) 5),
 Ig 122 120 false (.load none (.t 121)),
 Ig 123 120 false (.off (.t 1) 3),
 Ig 124 120 false (.load none (.t 123)),
 Ig 125 120 false (.off (.t 1) 4),
 Ig 126 120 false (.load none (.t 125)),
 Ig 127 120 false (.lenk 0 (.t 126)),
 Ig 128 120 false (.call 27 [(.t 122),(.t 124),(.t 127)]),
 Ig 129 120 false (.un .not (.t 128)),
 It 130 (.pick (.t 120) (.c (.b true)) (.t 129))] [1,7,8,114,115,116,117,118,119,120,121,122,123,124,125,126,127,128,129])
 (.cond (.t 130)
 (.seq (.region [It 2 (.mov (.c (.i .i64 2)))] [130])
 .ret)
 (.region [] [130])))
 (.seq (.region [It 2 (.mov (.c i0))] [])
 .ret))))))))),
    131,1,[.t 2],2⟩
theorem tr8:trFunc Tryz.prog (hz [] I8.body) 1 Tryz.f8=some (plain1 I8):=by kernel_rfl
theorem ck8:ckC 2 I8.body=true:=by kernel_rfl
def L10a:ICode :=
  (.seq (.region [It 31 (.bin .lss (.t 30) (.t 29))] [])
 (.seq (.cond (.t 31)
 (.region [] [31])
 (.exit 0))
 (.seq (.block 1
 (.seq (.region [Ia 32 5 28 30,
 Lm 33 5 32,
 It 7 (.alloc [i0,i0,.ns,(.s []),.ns]),
 Ss 5 7 33] [32,33])
 (.region [Mv 34 5,
 Lm 35 5 7,
 It 36 (.call 30 [(.t 34),(.t 35)])] [7,34,35,36])))
 (.region [It 37 (.bin .add (.t 30) (.c (.i .i64 1))),
 Mv 30 37] [37]))))
def I10:IFunc :=
  ⟨(.seq (.region [It 2 (.box (.t 0)),
 It 4 (.mov (.c (.b false)))] [0,4])
 (.seq (.seq (.region [Lm 8 16 2,
 It 9 (.call 8 [(.t 8)]),
 It 10 (.bin .neq (.t 9) (.c i0)),
 Mv 11 10,
 Ig 12 11 false (.mov (.t 1)),
 Ig 13 11 false (.bin .lss (.t 12) (.c i0)),
 It 14 (.pick (.t 11) (.c (.b true)) (.t 13)),
 Mv 15 14,
 Ig 16 15 false (.mov (.t 1)),
 Ig 17 15 false (.off (.t 2) 4),
 Ig 18 15 false (.load none (.t 17)),
 Ig 19 15 false (.lenk 0 (.t 18)),
 Ig 20 15 false (.bin .geq (.t 16) (.t 19)),
 It 21 (.pick (.t 15) (.c (.b true)) (.t 20))] [8,9,10,11,12,13,14,15,16,17,18,19,20])
 (.cond (.t 21)
 (.seq (.region [It 4 (.mov (.c (.b true)))] [1,2,21])
 .ret)
 (.region [] [21])))
 (.seq (.region [Of 22 2 3,
 Ld 23 22,
 It 24 (.call 29 [(.t 23)]),
 Mv 5 24] [22,23,24])
 (.seq (.seq (.region [Of 25 2 4,
 Ld 26 25,
 Mv 27 1,
 It 28 (.sl 5 (.t 26) none (some (.t 27)) none),
 Le 29 28,
 It 30 (.mov (.c i0))] [25,26,27])
 (.block 0
 (.loop L10a)))
 (.seq (.region [Mv 38 5,
 Of 39 2 4,
 Ld 40 39,
 Mv 41 1,
 Ia 42 5 40 41,
 Lm 43 5 42,
 It 44 (.call 31 [(.t 38),(.t 43)]),
 It 45 (.un .not (.t 44)),
 Mv 4 45] [1,2,5,28,29,30,31,38,39,40,41,42,43,44,45])
 .ret))))),
    46,2,[.t 4],2⟩
theorem tr10:trFunc Tryz.prog (hz [] I10.body) 1 Tryz.f10=some (plain1 I10):=by kernel_rfl
theorem ck10:ckC 2 I10.body=true:=by kernel_rfl
def L11a:ICode :=
  (.seq (.region [It 45 (.bin .lss (.t 44) (.t 43))] [])
 (.seq (.cond (.t 45)
 (.region [] [45])
 (.exit 2))
 (.seq (.block 3
 (.seq (.region [Ia 46 7 42 44,
 Lm 47 7 46,
 It 13 (.alloc [i0,i0,i0,i0,(.s []),.ns,.ns]),
 Ss 7 13 47] [46,47])
 (.region [Mv 48 11,
 Mv 49 8,
 Lm 50 7 13,
 It 51 (.callv (.t 49) [(.t 50)]),
 It 52 (.bsl 5 1 [i0,i0,(.s []),.ns,.ns] [(0,5,(.t 51))]),
 It 53 (.app 5 80 (.t 48) (.t 52)),
 Mv 11 53] [13,48,49,50,51,52,53])))
 (.region [It 54 (.bin .add (.t 44) (.c (.i .i64 1))),
 Mv 44 54] [54]))))
def L11b:ICode :=
  (.seq (.region [It 38 (.bin .lss (.t 37) (.t 36))] [])
 (.seq (.cond (.t 38)
 (.region [] [38])
 (.exit 0))
 (.seq (.block 1
 (.seq (.region [Ia 39 5 35 37,
 Lm 40 5 39,
 It 10 (.alloc [i0,i0,.ns,(.s []),.ns]),
 Ss 5 10 40] [39,40])
 (.seq (.region [It 11 (.mov (.c .ns))] [])
 (.seq (.seq (.region [Of 41 10 2,
 Ld 42 41,
 Le 43 42,
 It 44 (.mov (.c i0))] [41])
 (.block 2
 (.loop L11a)))
 (.seq (.region [Lm 56 5 10,
 Mv 57 11,
 It 58 (.call 36 [(.t 56),(.t 57)]),
 Mv 55 58,
 Ex 59 55 0,
 Ex 60 55 1,
 It 14 (.alloc [i0,i0,(.s []),.ns,.ns]),
 Ss 5 14 59,
 Mv 15 60] [10,11,42,43,44,45,56,57,58,55,59,60])
 (.seq (.seq (.region [Mv 61 15,
 It 62 (.un .not (.t 61))] [15,61])
 (.cond (.t 62)
 (.seq (.region [It 4 (.mov (.c .ns)),
 It 5 (.mov (.c i0)),
 It 6 (.mov (.c (.b false)))] [2,7,8,35,36,37,14,62])
 .ret)
 (.region [] [62])))
 (.region [Ld 63 7,
 Lm 64 5 14,
 Le 65 63,
 It 66 (.bsl 5 1 [i0,i0,(.s []),.ns,.ns] [(0,5,(.c (.ag [i0,i0,(.s []),.ns,.ns])))]),
 It 67 (.app 5 80 (.t 63) (.t 66)),
 Ia 68 5 67 65,
 Ss 5 68 64,
 ⟨none,(.store 1 (.t 7) (.t 67)),none,[(64,(.load (some 5) (.t 68)),none)]⟩] [14,63,64,65,66,67,68])))))))
 (.region [It 69 (.bin .add (.t 37) (.c (.i .i64 1))),
 Mv 37 69] [69]))))
def L11c:ICode :=
  (.seq (.region [It 94 (.bin .lss (.t 93) (.t 92))] [])
 (.seq (.cond (.t 94)
 (.region [] [94])
 (.exit 4))
 (.seq (.block 5
 (.seq (.region [Ia 95 7 91 93,
 Lm 96 7 95,
 It 18 (.alloc [i0,i0,i0,i0,(.s []),.ns,.ns]),
 Ss 7 18 96] [95,96])
 (.region [Mv 97 4,
 Mv 98 8,
 Lm 99 7 18,
 It 100 (.callv (.t 98) [(.t 99)]),
 It 101 (.call 37 [(.t 100)]),
 It 102 (.bsl 5 1 [i0,i0,(.s []),.ns,.ns] [(0,5,(.t 101))]),
 It 103 (.app 5 80 (.t 97) (.t 102)),
 Mv 4 103] [18,97,98,99,100,101,102,103])))
 (.region [It 104 (.bin .add (.t 93) (.c (.i .i64 1))),
 Mv 93 104] [104]))))
def I11:IFunc :=
  ⟨(.seq (.region [It 2 (.box (.t 0)),
 It 3 (.box (.t 1)),
 It 4 (.mov (.c .ns)),
 It 5 (.mov (.c i0)),
 It 6 (.mov (.c (.b false)))] [0,1,5,6])
 (.seq (.seq (.region [Lm 19 16 2,
 It 20 (.call 8 [(.t 19)]),
 It 21 (.bin .neq (.t 20) (.c i0)),
 Mv 22 21,
 Ig 23 22 false (.load none (.t 3)),
 Ig 24 22 false (.lenk 0 (.t 23)),
 Ig 25 22 false (.off (.t 2) 3),
 Ig 26 22 false (.load none (.t 25)),
 Ig 27 22 false (.bin .neq (.t 24) (.t 26)),
 It 28 (.pick (.t 22) (.c (.b true)) (.t 27)),
 Mv 29 28,
 Ig 30 29 false (.load none (.t 3)),
 Ig 31 29 false (.call 32 [(.t 30),(.f 33)]),
 It 32 (.pick (.t 29) (.c (.b true)) (.t 31))] [19,20,21,22,23,24,25,26,27,28,29,30,31])
 (.cond (.t 32)
 (.seq (.region [It 4 (.mov (.c .ns)),
 It 5 (.mov (.c i0)),
 It 6 (.mov (.c (.b false)))] [2,3,32])
 .ret)
 (.region [] [32])))
 (.seq (.region [It 7 (.alloc [.ns])] [])
 (.seq (.region [It 33 (.mkf 35 [] [(.t 3),(.t 7)]),
 Mv 8 33] [3,33])
 (.seq (.seq (.region [Of 34 2 4,
 Ld 35 34,
 Le 36 35,
 It 37 (.mov (.c i0))] [34])
 (.block 0
 (.loop L11b)))
 (.seq (.region [Of 70 2 7,
 Ld 71 70,
 Mv 5 71] [7,35,36,37,38,70,71])
 (.seq (.seq (.region [Of 72 2 6,
 Ld 73 72,
 It 74 (.bin .eql (.t 73) (.c (.i .i64 2)))] [72,73])
 (.cond (.t 74)
 (.seq (.region [Mv 75 8,
 Of 76 2 8,
 Lm 77 7 76,
 It 78 (.callv (.t 75) [(.t 77)]),
 It 16 (.alloc [i0,i0,(.s []),.ns,.ns]),
 Ss 5 16 78] [74,75,76,77,78])
 (.seq (.seq (.region [Of 79 16 0,
 Ld 80 79,
 It 81 (.bin .neq (.t 80) (.c (.i .i64 2)))] [79,80])
 (.cond (.t 81)
 (.seq (.region [It 4 (.mov (.c .ns)),
 It 5 (.mov (.c i0)),
 It 6 (.mov (.c (.b false)))] [2,8,16,81])
 .ret)
 (.region [] [81])))
 (.seq (.region [Of 82 16 1,
 Ld 83 82,
 It 84 (.bin .eql (.t 83) (.c (.i .i64 1)))] [16,82,83])
 (.cond (.t 84)
 (.region [Of 85 2 1,
 Ld 86 85,
 Of 87 2 2,
 Ld 88 87,
 It 89 (.bin .add (.t 86) (.t 88)),
 Mv 5 89] [84,85,86,87,88,89])
 (.region [] [84])))))
 (.region [] [74])))
 (.seq (.seq (.region [Of 90 2 5,
 Ld 91 90,
 Le 92 91,
 It 93 (.mov (.c i0))] [2,90])
 (.block 4
 (.loop L11c)))
 (.seq (.region [Mv 105 4,
 Mv 106 5,
 Mv 4 105,
 Mv 5 106,
 It 6 (.mov (.c (.b true)))] [8,91,92,93,94,105,106])
 .ret))))))))),
    107,2,[.t 4,.t 5,.t 6],2⟩
theorem tr11:trFunc Tryz.prog (hz [(21,[0,1,2,3,4,5,6,7])] I11.body) 1 Tryz.f11=some (plain1 I11):=by kernel_rfl
theorem ck11:ckC 2 I11.body=true:=by kernel_rfl
def I12:IFunc :=
  ⟨(.seq (.region [It 5 (.box (.t 2)),
 It 6 (.alloc [i0,i0,.ns,(.s []),.ns])] [2])
 (.seq (.region [Mv 7 0,
 Mv 8 1,
 Lm 9 7 5,
 It 10 (.bsl 7 1 [i0,i0,i0,i0,(.s []),.ns,.ns] [(0,7,(.t 9))]),
 It 11 (.build [i0,i0,.ns,(.s []),.ns] [(0,1,(.t 7)),(1,1,(.t 8)),(2,1,(.t 10))]),
 Ss 5 6 11] [0,1,5,7,8,9,10,11])
 .ret)),
    12,3,[.c 6 (some 5)],2⟩
theorem tr12:trFunc Tryz.prog (hz [] I12.body) 1 Tryz.f12=some (plain1 I12):=by kernel_rfl
theorem ck12:ckC 2 I12.body=true:=by kernel_rfl
def I13:IFunc :=
  ⟨(.seq (.region [It 2 (.alloc [i0,i0,i0,i0,(.s []),.ns,.ns])] [])
 (.seq (.region [Mv 3 0,
 It 4 (.build [i0,i0,i0,i0,(.s []),.ns,.ns] [(0,1,(.c (.i .i64 1))),(1,1,(.t 3))]),
 Ss 7 2 4] [0,3,4])
 .ret)),
    5,1,[.c 2 (some 7)],2⟩
theorem tr13:trFunc Tryz.prog (hz [] I13.body) 1 Tryz.f13=some (plain1 I13):=by kernel_rfl
theorem ck13:ckC 2 I13.body=true:=by kernel_rfl
def I14:IFunc :=
  ⟨(.seq (.region [It 2 (.box (.t 0)),
 It 3 (.box (.t 1)),
 It 4 (.mov (.c (.b false)))] [0,1,4])
 (.seq (.region [Lm 8 16 2,
 It 9 (.call 6 [(.t 8)]),
 Mv 7 9,
 Ex 10 7 0,
 Ex 11 7 1,
 It 5 (.alloc [i0,i0,i0,i0,.ns,.ns,i0,i0,i0,i0,i0,i0,(.s []),.ns,.ns,i0]),
 Ss 16 5 10,
 Mv 6 11] [2,8,9,7,10,11])
 (.seq (.region [Mv 12 6,
 It 13 (.bin .eql (.t 12) (.c i0)),
 Mv 14 13,
 Ig 15 14 true (.load (some 16) (.t 5)),
 Ig 17 14 true (.load (some 16) (.t 3)),
 ⟨(some 16),(.call 39 [(.t 15)]),(some (14,true)),[(17,(.load (some 16) (.t 3)),(some (14,true)))]⟩,
 Ig 18 14 true (.call 39 [(.t 17)]),
 Ig 19 14 true (.call 38 [(.t 16),(.t 18)]),
 It 20 (.pick (.t 14) (.t 19) (.c (.b false))),
 Mv 4 20] [3,5,6,12,13,14,15,17,16,18,19,20])
 .ret))),
    21,2,[.t 4],2⟩
theorem tr14:trFunc Tryz.prog (hz [(2,[0,1,2,3,5,4,6,7,8,9])] I14.body) 1 Tryz.f14=some (plain1 I14):=by kernel_rfl
theorem ck14:ckC 2 I14.body=true:=by kernel_rfl
def I15:IFunc :=
  ⟨(.seq (.region [It 4 (.alloc [i0,i0,i0,i0,.ns,.ns,i0,i0,i0,i0,i0,i0,(.s []),.ns,.ns,i0])] [])
 (.seq (.region [Mv 5 0,
 Mv 6 1,
 Mv 7 1,
 Le 8 7,
 It 9 (.bin .sub (.t 8) (.c (.i .i64 1))),
 It 10 (.mm true (.t 9) [(.c i0)]),
 It 11 (.call 18 [(.t 10)]),
 It 12 (.bsl 7 1 [i0,i0,i0,i0,(.s []),.ns,.ns] [(0,7,(.t 11))]),
 It 13 (.build [i0,i0,i0,i0,.ns,.ns,i0,i0,i0,i0,i0,i0,(.s []),.ns,.ns,i0] [(2,1,(.c (.i .i64 1))),(3,1,(.t 5)),(4,1,(.t 6)),(5,1,(.t 12))]),
 Ss 16 4 13] [0,1,5,6,7,8,9,10,11,12,13])
 .ret)),
    14,2,[.c 4 (some 16)],1⟩
theorem tr15:trFunc Tryz.prog (hz [] I15.body) 1 Tryz.f15=some (plain1 I15):=by kernel_rfl
theorem ck15:ckC 2 I15.body=true:=by kernel_rfl
def I16:IFunc :=
  ⟨(.seq (.region [It 4 (.box (.t 1)),
 It 5 (.box (.t 2)),
 It 6 (.alloc [i0,i0,.ns,(.s []),.ns])] [1,2])
 (.seq (.region [Mv 7 0,
 Lm 8 7 4,
 Lm 9 7 5,
 It 10 (.bsl 7 2 [i0,i0,i0,i0,(.s []),.ns,.ns,i0,i0,i0,i0,(.s []),.ns,.ns] [(0,7,(.t 8)),(7,7,(.t 9))]),
 It 11 (.build [i0,i0,.ns,(.s []),.ns] [(0,1,(.t 7)),(2,1,(.t 10))]),
 Ss 5 6 11] [0,4,5,7,8,9,10,11])
 .ret)),
    12,3,[.c 6 (some 5)],2⟩
theorem tr16:trFunc Tryz.prog (hz [] I16.body) 1 Tryz.f16=some (plain1 I16):=by kernel_rfl
theorem ck16:ckC 2 I16.body=true:=by kernel_rfl
def I17:IFunc :=
  ⟨(.seq (.region [It 2 (.alloc [i0,i0,i0,i0,(.s []),.ns,.ns])] [])
 (.seq (.region [Mv 3 0,
 It 4 (.build [i0,i0,(.s []),.ns,.ns] [(0,1,(.c (.i .i64 1))),(1,1,(.t 3))]),
 It 5 (.build [i0,i0,i0,i0,(.s []),.ns,.ns] [(0,1,(.c (.i .i64 3))),(2,5,(.t 4))]),
 Ss 7 2 5] [0,3,4,5])
 .ret)),
    6,1,[.c 2 (some 7)],2⟩
theorem tr17:trFunc Tryz.prog (hz [] I17.body) 1 Tryz.f17=some (plain1 I17):=by kernel_rfl
theorem ck17:ckC 2 I17.body=true:=by kernel_rfl
def I18:IFunc :=
  ⟨(.seq (.region [It 2 (.alloc [i0,i0,i0,i0,(.s []),.ns,.ns])] [])
 (.seq (.region [Mv 3 0,
 It 4 (.build [i0,i0,i0,i0,(.s []),.ns,.ns] [(0,1,(.c (.i .i64 2))),(1,1,(.t 3))]),
 Ss 7 2 4] [0,3,4])
 .ret)),
    5,1,[.c 2 (some 7)],2⟩
theorem tr18:trFunc Tryz.prog (hz [] I18.body) 1 Tryz.f18=some (plain1 I18):=by kernel_rfl
theorem ck18:ckC 2 I18.body=true:=by kernel_rfl
def L19a:ICode :=
  (.seq (.region [It 19 (.bin .lss (.t 18) (.t 17))] [])
 (.seq (.cond (.t 19)
 (.region [] [19])
 (.exit 0))
 (.seq (.block 1
 (.seq (.region [Ia 20 5 16 18,
 Lm 21 5 20,
 It 8 (.alloc [i0,i0,.ns,(.s []),.ns]),
 Ss 5 8 21] [20,21])
 (.seq (.region [Mv 22 6,
 Of 23 8 2,
 Ld 24 23,
 Of 26 8 4,
 Ld 27 26,
 ⟨(some 25),(.callv (.t 22) [(.t 24)]),none,[(27,(.load none (.t 26)),none)]⟩,
 Of 29 8 2,
 It 28 (.call 40 [(.t 27)]),
 Ss 1 29 25,
 Of 30 8 4,
 Ss 1 30 28] [22,23,24,26,27,25,29,28,30])
 (.seq (.seq (.region [Of 31 8 0,
 Ld 32 31,
 It 33 (.bin .eql (.t 32) (.c (.i .i64 40))),
 Mv 34 33,
 Ig 35 34 true (.mov (.t 4)),
 Ig 36 34 true (.load (some 5) (.t 8)),
 Ig 37 34 true (.call 31 [(.t 35),(.t 36)]),
 It 38 (.pick (.t 34) (.t 37) (.c (.b false)))] [31,32,33,34,35,36,37])
 (.cond (.t 38)
 (.seq (.region [Ld 39 5,
 Of 40 8 2,
 Ld 41 40,
 It 42 (.iaddr 7 (.t 41) (.c i0)),
 Lm 43 7 42,
 It 44 (.bsl 7 1 [i0,i0,i0,i0,(.s []),.ns,.ns] [(0,7,(.t 43))]),
 It 45 (.app 7 96 (.t 39) (.t 44)),
 Ss 1 5 45] [8,38,39,40,41,42,43,44,45])
 (.exit 1))
 (.region [] [38])))
 (.seq (.region [Mv 46 4,
 It 47 (.nck (.t 46)),
 Of 48 47 0,
 Ld 49 48,
 It 50 (.mkf 42 [] [(.t 8)]),
 It 51 (.call 41 [(.t 49),(.t 50)]),
 Mv 9 51] [46,47,48,49,50,51])
 (.seq (.seq (.region [Mv 52 9,
 It 53 (.bin .lss (.t 52) (.c i0))] [52])
 (.cond (.t 53)
 (.seq (.region [Mv 54 4,
 It 55 (.nck (.t 54)),
 Of 56 55 0,
 Ld 57 56,
 Le 58 57,
 Mv 9 58] [53,54,55,56,57,58])
 (.region [Mv 59 4,
 Lm 60 5 8,
 It 61 (.call 30 [(.t 59),(.t 60)])] [59,60,61]))
 (.region [] [53])))
 (.seq (.region [Mv 62 9,
 It 63 (.build [i0,i0,i0,i0,(.s []),.ns,.ns] [(0,1,(.c (.i .i64 2))),(1,1,(.t 62))]),
 It 10 (.alloc [i0,i0,i0,i0,(.s []),.ns,.ns]),
 Ss 7 10 63] [9,62,63])
 (.seq (.seq (.region [Of 64 8 0,
 Ld 65 64,
 It 66 (.bin .eql (.t 65) (.c (.i .i64 23))),
 Mv 67 66,
 Ig 68 67 false (.off (.t 8) 0),
 Ig 69 67 false (.load none (.t 68)),
 Ig 70 67 false (.bin .eql (.t 69) (.c (.i .i64 40))),
 It 71 (.pick (.t 67) (.c (.b true)) (.t 70))] [64,65,66,67,68,69,70])
 (.cond (.t 71)
 (.region [Of 72 8 2,
 Ld 73 72,
 It 74 (.iaddr 7 (.t 73) (.c i0)),
 Lm 75 7 74,
 Ss 7 10 75] [8,71,72,73,74,75])
 (.region [] [8,71])))
 (.region [Ld 76 5,
 Lm 77 7 10,
 It 78 (.bsl 7 1 [i0,i0,i0,i0,(.s []),.ns,.ns] [(0,7,(.t 77))]),
 It 79 (.app 7 96 (.t 76) (.t 78)),
 Ss 1 5 79] [10,76,77,78,79])))))))))
 (.region [It 80 (.bin .add (.t 18) (.c (.i .i64 1))),
 Mv 18 80] [80]))))
def I19:IFunc :=
  ⟨(.seq (.region [It 1 (.box (.t 0)),
 It 2 (.mov (.c .np)),
 It 3 (.alloc [i0,i0,i0,i0,.ns,.ns,i0,i0,i0,i0,i0,i0,(.s []),.ns,.ns,i0])] [0,2])
 (.seq (.region [Of 11 1 3,
 Ld 12 11,
 It 13 (.call 29 [(.t 12)]),
 Mv 4 13] [11,12,13])
 (.seq (.region [It 5 (.alloc [.ns])] [])
 (.seq (.region [It 14 (.call 20 [(.t 5)]),
 Mv 6 14] [14])
 (.seq (.seq (.region [Of 15 1 4,
 Ld 16 15,
 Le 17 16,
 It 18 (.mov (.c i0))] [15])
 (.block 0
 (.loop L19a)))
 (.seq (.region [Mv 81 6,
 Of 82 1 5,
 Ld 83 82,
 Mv 85 6,
 Of 86 1 8,
 Lm 87 7 86,
 It 88 (.bsl 7 1 [i0,i0,i0,i0,(.s []),.ns,.ns] [(0,7,(.t 87))]),
 ⟨(some 84),(.callv (.t 81) [(.t 83)]),none,[(87,(.load (some 7) (.t 86)),none)]⟩,
 Of 92 1 5,
 It 89 (.callv (.t 85) [(.t 88)]),
 It 90 (.iaddr 7 (.t 89) (.c i0)),
 Lm 91 7 90,
 ⟨none,(.store 1 (.t 92) (.t 84)),none,[(91,(.load (some 7) (.t 90)),none)]⟩,
 Of 93 1 8,
 Ss 7 93 91] [5,6,16,17,18,19,81,82,83,85,86,87,88,84,92,89,90,91,93])
 (.seq (.region [Mv 94 4,
 Lm 95 16 1,
 Mv 2 94,
 Ss 16 3 95] [1,4,94,95])
 .ret))))))),
    96,1,[.t 2,.c 3 (some 16)],1⟩
theorem tr19:trFunc Tryz.prog (hz [(8,[0,1,2,4,5,3,7,6,8,9,10]),(10,[0,1,2,3,4,5,6,7]),(23,[0,1,2,4,5,6,7,3,11,8,9,10,12,13,14]),(24,[0,1,2,3])] I19.body) 1 Tryz.f19=some (plain1 I19):=by kernel_rfl
theorem ck19:ckC 2 I19.body=true:=by kernel_rfl
def I20:IFunc :=
  ⟨(.seq (.region [It 1 (.box (.t 0)),
 It 2 (.mov (.c .nf))] [0,2])
 (.seq (.region [It 3 (.mkf 44 [] [(.t 1)]),
 Mv 2 3] [1,3])
 .ret)),
    4,1,[.t 2],1⟩
theorem tr20:trFunc Tryz.prog (hz [] I20.body) 1 Tryz.f20=some (plain1 I20):=by kernel_rfl
theorem ck20:ckC 2 I20.body=true:=by kernel_rfl
def L21a:ICode :=
  (.seq (.region [It 26 (.bin .lss (.t 25) (.t 24))] [])
 (.seq (.cond (.t 26)
 (.region [] [26])
 (.exit 0))
 (.seq (.block 1
 (.seq (.region [Mv 27 25,
 Ia 28 5 23 25,
 Lm 29 5 28,
 It 8 (.alloc [i0,i0,.ns,(.s []),.ns]),
 Mv 7 27,
 Ss 5 8 29] [27,28,29])
 (.seq (.region [Ld 30 5,
 Mv 31 7,
 Mv 32 6,
 Lm 33 5 8,
 ⟨(some 34),(.call 31 [(.t 32),(.t 33)]),none,[(30,(.load none (.t 5)),none)]⟩,
 It 35 (.un .not (.t 34)),
 Ia 36 1 30 31,
 Ss 1 36 35] [7,30,31,32,33,34,35,36])
 (.region [Mv 37 6,
 Lm 38 5 8,
 It 39 (.call 30 [(.t 37),(.t 38)])] [8,37,38,39]))))
 (.region [It 40 (.bin .add (.t 25) (.c (.i .i64 1))),
 Mv 25 40] [40]))))
def L21b:ICode :=
  (.seq (.seq (.region [Mv 54 10,
 It 55 (.bin .geq (.t 54) (.c i0))] [54])
 (.cond (.t 55)
 (.region [] [55])
 (.exit 2)))
 (.seq (.block 3
 (.seq (.region [Ld 58 5,
 Mv 59 10,
 Ia 60 1 58 59,
 Ld 61 60] [58,59,60])
 (.cond (.t 61)
 (.region [Mv 62 9,
 Mv 63 0,
 It 64 (.nck (.t 63)),
 Of 65 64 0,
 Ld 66 65,
 Mv 67 10,
 Ia 68 5 66 67,
 Of 69 68 2,
 Ld 70 69,
 It 71 (.callv (.t 62) [(.t 70)])] [61,62,63,64,65,66,67,68,69,70,71])
 (.region [] [61]))))
 (.region [Mv 56 10,
 It 57 (.bin .sub (.t 56) (.c (.i .i64 1))),
 Mv 10 57] [56,57])))
def I21:IFunc :=
  ⟨(.seq (.region [It 3 (.box (.t 1)),
 It 4 (.mov (.c .ns))] [1,4])
 (.seq (.region [Mv 11 0,
 It 12 (.nck (.t 11)),
 Of 13 12 0,
 Ld 14 13,
 Le 15 14,
 It 16 (.mksl 1 1 [(.b false)] (.t 15) (.t 15)),
 It 5 (.alloc [.ns]),
 Ss 1 5 16] [11,12,13,14,15,16])
 (.seq (.region [Of 17 3 3,
 Ld 18 17,
 It 19 (.call 29 [(.t 18)]),
 Mv 6 19] [17,18,19])
 (.seq (.seq (.region [Mv 20 0,
 It 21 (.nck (.t 20)),
 Of 22 21 0,
 Ld 23 22,
 Le 24 23,
 It 25 (.mov (.c i0))] [20,21,22])
 (.block 0
 (.loop L21a)))
 (.seq (.region [It 41 (.mkf 46 [] [(.t 5)]),
 Mv 9 41] [6,23,24,25,26,41])
 (.seq (.region [Mv 42 9,
 Of 43 3 5,
 Ld 44 43,
 Of 46 3 8,
 Lm 47 7 46,
 It 48 (.bsl 7 1 [i0,i0,i0,i0,(.s []),.ns,.ns] [(0,7,(.t 47))]),
 ⟨(some 45),(.call 47 [(.t 44)]),none,[(47,(.load (some 7) (.t 46)),none)]⟩,
 It 49 (.app 7 96 (.t 45) (.t 48)),
 It 50 (.callv (.t 42) [(.t 49)])] [3,42,43,44,46,47,48,45,49,50])
 (.seq (.seq (.region [Ld 51 5,
 Le 52 51,
 It 53 (.bin .sub (.t 52) (.c (.i .i64 1))),
 Mv 10 53] [51,52,53])
 (.block 2
 (.loop L21b)))
 (.seq (.region [Ld 72 5,
 Mv 4 72] [0,5,9,10,55,72])
 .ret)))))))),
    73,2,[.t 4],2⟩
theorem tr21:trFunc Tryz.prog (hz [(7,[0,1,2,3,4,5,6,7]),(11,[0,1,2,4,5,6,3,7,8])] I21.body) 1 Tryz.f21=some (plain1 I21):=by kernel_rfl
theorem ck21:ckC 2 I21.body=true:=by kernel_rfl
def L22a:ICode :=
  (.seq (.seq (.region [Mv 7 4,
 Of 8 1 4,
 Ld 9 8,
 Le 10 9,
 It 11 (.bin .lss (.t 7) (.t 10))] [7,8,9,10])
 (.cond (.t 11)
 (.region [] [11])
 (.exit 0)))
 (.seq (.block 1
 (.region [Of 14 3 4,
 Ld 15 14,
 Of 16 1 4,
 Ld 17 16,
 Mv 18 4,
 Ia 19 5 17 18,
 Lm 20 5 19,
 ⟨(some 21),(.call 48 [(.t 20)]),none,[(15,(.load none (.t 14)),none)]⟩,
 It 22 (.bsl 5 1 [i0,i0,.ns,(.s []),.ns] [(0,5,(.t 21))]),
 It 23 (.app 5 80 (.t 15) (.t 22)),
 Of 24 3 4,
 Ss 1 24 23] [14,15,16,17,18,19,20,21,22,23,24]))
 (.region [Mv 12 4,
 It 13 (.bin .add (.t 12) (.c (.i .i64 1))),
 Mv 4 13] [12,13])))
def I22:IFunc :=
  ⟨(.seq (.region [It 1 (.box (.t 0)),
 It 2 (.alloc [i0,i0,i0,i0,.ns,.ns,i0,i0,i0,i0,i0,i0,(.s []),.ns,.ns,i0])] [0])
 (.seq (.region [Lm 5 16 1,
 It 3 (.alloc [i0,i0,i0,i0,.ns,.ns,i0,i0,i0,i0,i0,i0,(.s []),.ns,.ns,i0]),
 Ss 16 3 5] [5])
 (.seq (.region [Of 6 3 4,
 ⟨none,(.store 1 (.t 6) (.c .ns)),none,[]⟩] [6])
 (.seq (.seq (.region [It 4 (.mov (.c i0))] [])
 (.block 0
 (.loop L22a)))
 (.seq (.region [Of 25 1 5,
 Ld 26 25,
 It 27 (.call 49 [(.t 26)]),
 Of 28 3 5,
 Ss 1 28 27] [4,11,25,26,27,28])
 (.seq (.region [Of 29 1 8,
 Of 30 29 2,
 Lm 31 5 30,
 It 32 (.call 50 [(.t 31)]),
 Of 33 3 8,
 Of 34 33 2,
 Ss 5 34 32] [1,29,30,31,32,33,34])
 (.seq (.region [Lm 35 16 3,
 Ss 16 2 35] [3,35])
 .ret))))))),
    36,1,[.c 2 (some 16)],2⟩
theorem tr22:trFunc Tryz.prog (hz [(6,[0,1,2,3,4,5,6,7,8,9,10,11])] I22.body) 1 Tryz.f22=some (plain1 I22):=by kernel_rfl
theorem ck22:ckC 2 I22.body=true:=by kernel_rfl
def L23a:ICode :=
  (.seq (.seq (.region [Mv 5 4,
 Mv 6 0,
 Le 7 6,
 It 8 (.bin .lss (.t 5) (.t 7))] [5,6,7])
 (.cond (.t 8)
 (.region [] [8])
 (.exit 0)))
 (.seq (.block 1
 (.region [Mv 11 3,
 Mv 12 0,
 Mv 13 4,
 Ia 14 7 12 13,
 Of 15 14 0,
 Ld 16 15,
 Mv 17 0,
 Mv 18 4,
 Ia 19 7 17 18,
 Of 20 19 1,
 Ld 21 20,
 Mv 22 0,
 Mv 23 4,
 Ia 24 7 22 23,
 Of 25 24 2,
 Lm 26 5 25,
 It 27 (.build [i0,i0,i0,i0,(.s []),.ns,.ns] [(0,1,(.t 16)),(1,1,(.t 21)),(2,5,(.t 26))]),
 It 28 (.bsl 7 1 [i0,i0,i0,i0,(.s []),.ns,.ns] [(0,7,(.t 27))]),
 It 29 (.app 7 96 (.t 11) (.t 28)),
 Mv 3 29] [11,12,13,14,15,16,17,18,19,20,21,22,23,24,25,26,27,28,29]))
 (.region [Mv 9 4,
 It 10 (.bin .add (.t 9) (.c (.i .i64 1))),
 Mv 4 10] [9,10])))
def I23:IFunc :=
  ⟨(.seq (.region [It 2 (.mov (.c .ns))] [2])
 (.seq (.region [It 3 (.mov (.c .ns))] [])
 (.seq (.seq (.region [It 4 (.mov (.c i0))] [])
 (.block 0
 (.loop L23a)))
 (.seq (.region [Mv 30 3,
 Mv 2 30] [0,3,4,8,30])
 .ret)))),
    31,1,[.t 2],2⟩
theorem tr23:trFunc Tryz.prog (hz [(5,[0,1,2,3,4,5,6,7,8,9,10,11,12,13,14,15,16,17,18,19])] I23.body) 1 Tryz.f23=some (plain1 I23):=by kernel_rfl
theorem ck23:ckC 2 I23.body=true:=by kernel_rfl
def I24:IFunc :=
  ⟨(.seq (.region [It 3 (.box (.t 0)),
 It 6 (.mov (.c (.b false)))] [0,6])
 (.seq (.region [Lm 11 5 3,
 It 12 (.call 51 [(.t 11)]),
 Mv 10 12,
 Ex 13 10 0,
 Ex 14 10 1,
 Ex 15 10 2,
 Mv 7 13,
 Mv 8 14,
 Mv 9 15] [11,12,10,13,14,15])
 (.seq (.region [Mv 16 9,
 Mv 17 16,
 Ig 18 17 true (.off (.t 3) 2),
 Ig 19 17 true (.load none (.t 18)),
 Ig 20 17 true (.lenk 0 (.t 19)),
 Ig 21 17 true (.mov (.t 7)),
 Ig 22 17 true (.bin .geq (.t 20) (.t 21)),
 It 23 (.pick (.t 17) (.t 22) (.c (.b false))),
 Mv 24 23,
 Ig 25 24 true (.off (.t 3) 2),
 Ig 26 24 true (.load none (.t 25)),
 Ig 27 24 true (.lenk 0 (.t 26)),
 Ig 28 24 true (.mov (.t 8)),
 Ig 29 24 true (.bin .leq (.t 27) (.t 28)),
 It 30 (.pick (.t 24) (.t 29) (.c (.b false))),
 Mv 31 30,
 Ig 32 31 true (.off (.t 3) 2),
 Ig 33 31 true (.load none (.t 32)),
 Ig 34 31 true (.mov (.t 1)),
 Ig 35 31 true (.mov (.t 2)),
 Ig 36 31 true (.call 27 [(.t 33),(.t 34),(.t 35)]),
 It 37 (.pick (.t 31) (.t 36) (.c (.b false))),
 Mv 6 37] [1,2,3,7,8,9,16,17,18,19,20,21,22,23,24,25,26,27,28,29,30,31,32,33,34,35,36,37])
 .ret))),
    38,3,[.t 6],2⟩
theorem tr24:trFunc Tryz.prog (hz [] I24.body) 1 Tryz.f24=some (plain1 I24):=by kernel_rfl
theorem ck24:ckC 2 I24.body=true:=by kernel_rfl
def I25:IFunc :=
  ⟨(.seq (.region [It 3 (.box (.t 0)),
 It 6 (.mov (.c (.b false)))] [0,6])
 (.seq (.seq (.region [Of 7 3 0,
 Ld 8 7] [7])
 (.block 0
 (.seq (.region [It 10 (.bin .eql (.t 8) (.c (.i .i64 1))),
 Mv 9 10] [10])
 (.cond (.t 9)
 (.seq (.region [Of 11 3 1,
 Ld 12 11,
 It 13 (.bin .geq (.t 12) (.c i0)),
 Mv 14 13,
 Ig 15 14 true (.off (.t 3) 1),
 Ig 16 14 true (.load none (.t 15)),
 Ig 17 14 true (.mov (.t 1)),
 Ig 18 14 true (.bin .lss (.t 16) (.t 17)),
 It 19 (.pick (.t 14) (.t 18) (.c (.b false))),
 Mv 20 19,
 Ig 21 20 true (.off (.t 3) 2),
 Ig 22 20 true (.load (some 5) (.t 21)),
 Ig 23 20 true (.call 26 [(.t 22)]),
 It 24 (.pick (.t 20) (.t 23) (.c (.b false))),
 Mv 6 24] [1,2,3,8,9,11,12,13,14,15,16,17,18,19,20,21,22,23,24])
 .ret)
 (.seq (.region [It 26 (.bin .eql (.t 8) (.c (.i .i64 2))),
 Mv 25 26] [1,9,26])
 (.cond (.t 25)
 (.seq (.region [Of 27 3 1,
 Ld 28 27,
 It 29 (.bin .geq (.t 28) (.c i0)),
 Mv 30 29,
 Ig 31 30 true (.off (.t 3) 1),
 Ig 32 30 true (.load none (.t 31)),
 Ig 33 30 true (.mov (.t 2)),
 Ig 34 30 true (.bin .lss (.t 32) (.t 33)),
 It 35 (.pick (.t 30) (.t 34) (.c (.b false))),
 Mv 36 35,
 Ig 37 36 true (.off (.t 3) 2),
 Ig 38 36 true (.load (some 5) (.t 37)),
 Ig 39 36 true (.call 26 [(.t 38)]),
 It 40 (.pick (.t 36) (.t 39) (.c (.b false))),
 Mv 6 40] [2,3,8,25,27,28,29,30,31,32,33,34,35,36,37,38,39,40])
 .ret)
 (.seq (.region [It 42 (.bin .eql (.t 8) (.c (.i .i64 3))),
 Mv 41 42] [2,8,25,42])
 (.cond (.t 41)
 (.seq (.region [Of 43 3 1,
 Ld 44 43,
 It 45 (.bin .eql (.t 44) (.c i0)),
 Mv 46 45,
 Ig 47 46 true (.off (.t 3) 2),
 Ig 48 46 true (.load (some 5) (.t 47)),
 Ig 49 46 true (.call 34 [(.t 48)]),
 It 50 (.pick (.t 46) (.t 49) (.c (.b false))),
 Mv 6 50] [3,41,43,44,45,46,47,48,49,50])
 .ret)
 (.region [] [3,41])))))))))
 (.seq (.region [It 6 (.mov (.c (.b false)))] [])
 .ret))),
    51,3,[.t 6],2⟩
theorem tr25:trFunc Tryz.prog (hz [] I25.body) 1 Tryz.f25=some (plain1 I25):=by kernel_rfl
theorem ck25:ckC 2 I25.body=true:=by kernel_rfl
def I26:IFunc :=
  ⟨(.seq (.region [It 1 (.box (.t 0)),
 It 2 (.mov (.c (.b false)))] [0,2])
 (.seq (.region [Lm 3 5 1,
 It 4 (.build [i0,i0,(.s []),.ns,.ns] []),
 It 5 (.call 52 [(.t 3),(.t 4)]),
 Mv 2 5] [1,3,4,5])
 .ret)),
    6,1,[.t 2],2⟩
theorem tr26:trFunc Tryz.prog (hz [] I26.body) 1 Tryz.f26=some (plain1 I26):=by kernel_rfl
theorem ck26:ckC 2 I26.body=true:=by kernel_rfl
def I27:IFunc :=
  ⟨(.seq (.region [It 4 (.box (.t 1)),
 It 5 (.box (.t 2)),
 It 6 (.mov (.c (.b false)))] [1,2,6])
 (.seq (.region [Mv 7 0,
 It 8 (.mkf 54 [] [(.t 4),(.t 5)]),
 It 9 (.call 53 [(.t 7),(.t 8)]),
 It 10 (.un .not (.t 9)),
 Mv 6 10] [0,4,5,7,8,9,10])
 .ret)),
    11,3,[.t 6],2⟩
theorem tr27:trFunc Tryz.prog (hz [] I27.body) 1 Tryz.f27=some (plain1 I27):=by kernel_rfl
theorem ck27:ckC 2 I27.body=true:=by kernel_rfl
def I29:IFunc :=
  ⟨(.seq (.region [It 2 (.mov (.c .np))] [2])
 (.seq (.region [It 3 (.bsl 1 1 [i0] [(0,1,(.c (.i .i64 (-1))))]),
 Mv 4 0,
 It 5 (.call 56 [(.t 3),(.t 4)]),
 It 6 (.build [.ns,.ns] [(1,1,(.t 5))]),
 It 7 (.box (.t 6)),
 Mv 2 7] [0,3,4,5,6,7])
 .ret)),
    8,1,[.t 2],1⟩
theorem tr29:trFunc Tryz.prog (hz [] I29.body) 1 Tryz.f29=some (plain1 I29):=by kernel_rfl
theorem ck29:ckC 2 I29.body=true:=by kernel_rfl
def I30:IFunc :=
  ⟨(.seq (.region [It 3 (.box (.t 1))] [1])
 (.seq (.seq (.region [Of 4 3 0,
 Ld 5 4,
 It 6 (.bin .eql (.t 5) (.c (.i .i64 40))),
 Mv 7 6,
 Ig 8 7 true (.off (.t 3) 2),
 Ig 9 7 true (.load none (.t 8)),
 Ig 10 7 true (.iaddr 7 (.t 9) (.c i0)),
 Ig 11 7 true (.off (.t 10) 0),
 Ig 12 7 true (.load none (.t 11)),
 Ig 13 7 true (.bin .eql (.t 12) (.c (.i .i64 1))),
 It 14 (.pick (.t 7) (.t 13) (.c (.b false)))] [4,5,6,7,8,9,10,11,12,13])
 (.cond (.t 14)
 (.region [Mv 15 0,
 It 16 (.nck (.t 15)),
 Of 17 16 1,
 Ld 18 17,
 Of 19 3 2,
 Ld 20 19,
 It 21 (.iaddr 7 (.t 20) (.c i0)),
 Of 22 21 1,
 Ld 23 22,
 Of 24 3 1,
 Ld 25 24,
 Ia 26 1 18 23,
 Ss 1 26 25] [14,15,16,17,18,19,20,21,22,23,24,25,26])
 (.region [] [14])))
 (.region [Mv 27 0,
 Mv 28 0,
 It 29 (.nck (.t 28)),
 Of 30 29 0,
 Ld 31 30,
 Lm 32 5 3,
 It 33 (.bsl 5 1 [i0,i0,.ns,(.s []),.ns] [(0,5,(.t 32))]),
 It 34 (.app 5 80 (.t 31) (.t 33)),
 It 35 (.nck (.t 27)),
 Of 36 35 0,
 Ss 1 36 34] [0,3,27,28,29,30,31,32,33,34,35,36]))),
    37,2,[],0⟩
theorem tr30:trFunc Tryz.prog (hz [(2,[0,1,2,3,4,5,6,7,8,9,10,11,12]),(4,[0,1,2,3,4,5,6,7,8,9,10])] I30.body) 0 Tryz.f30=some (plain1 I30):=by kernel_rfl
theorem ck30:ckC 2 I30.body=true:=by kernel_rfl
def I31:IFunc :=
  ⟨(.seq (.region [It 3 (.box (.t 1)),
 It 4 (.mov (.c (.b false)))] [1,4])
 (.seq (.seq (.region [Of 5 3 0,
 Ld 6 5] [5])
 (.block 0
 (.seq (.seq (.region [It 8 (.bin .eql (.t 6) (.c (.i .i64 14))),
 Mv 7 8] [8])
 (.cond (.t 7)
 .skip
 (.region [It 9 (.bin .eql (.t 6) (.c (.i .i64 15))),
 Mv 7 9] [9])))
 (.cond (.t 7)
 (.seq (.region [It 4 (.mov (.c (.b true)))] [0,3,6,7])
 .ret)
 (.seq (.region [It 11 (.bin .eql (.t 6) (.c (.i .i64 40))),
 Mv 10 11] [7,11])
 (.cond (.t 10)
 (.seq (.region [Mv 12 0,
 Of 13 3 2,
 Ld 14 13,
 Of 15 3 1,
 Ld 16 15,
 It 17 (.bsl 1 1 [i0] [(0,1,(.t 16))]),
 It 18 (.call 57 [(.t 12),(.t 14),(.t 17)]),
 Mv 4 18] [0,3,6,10,12,13,14,15,16,17,18])
 .ret)
 (.seq (.seq (.region [It 20 (.bin .eql (.t 6) (.c (.i .i64 7))),
 Mv 19 20] [10,20])
 (.cond (.t 19)
 .skip
 (.region [It 21 (.bin .eql (.t 6) (.c (.i .i64 42))),
 Mv 19 21] [21])))
 (.cond (.t 19)
 (.seq (.region [Mv 22 0,
 Of 23 3 2,
 Ld 24 23,
 It 25 (.bsl 1 1 [i0] [(0,1,(.c (.i .i64 2)))]),
 It 26 (.call 57 [(.t 22),(.t 24),(.t 25)]),
 Mv 4 26] [0,3,6,19,22,23,24,25,26])
 .ret)
 (.seq (.region [It 28 (.bin .eql (.t 6) (.c (.i .i64 8))),
 Mv 27 28] [19,28])
 (.cond (.t 27)
 (.seq (.region [Mv 29 0,
 Of 30 3 2,
 Ld 31 30,
 It 32 (.bsl 1 2 [i0,i0] [(0,1,(.c (.i .i64 3))),(1,1,(.c (.i .i64 4)))]),
 It 33 (.call 57 [(.t 29),(.t 31),(.t 32)]),
 Mv 4 33] [0,3,6,27,29,30,31,32,33])
 .ret)
 (.seq (.seq (.region [It 35 (.bin .eql (.t 6) (.c (.i .i64 6))),
 Mv 34 35] [27,35])
 (.cond (.t 34)
 (.region [] [6])
 (.seq (.region [It 36 (.bin .eql (.t 6) (.c (.i .i64 10))),
 Mv 34 36] [36])
 (.cond (.t 34)
 (.region [] [6])
 (.seq (.region [It 37 (.bin .eql (.t 6) (.c (.i .i64 11))),
 Mv 34 37] [37])
 (.cond (.t 34)
 (.region [] [6])
 (.seq (.region [It 38 (.bin .eql (.t 6) (.c (.i .i64 41))),
 Mv 34 38] [38])
 (.cond (.t 34)
 (.region [] [6])
 (.seq (.region [It 39 (.bin .eql (.t 6) (.c (.i .i64 43))),
 Mv 34 39] [39])
 (.cond (.t 34)
 (.region [] [6])
 (.seq (.region [It 40 (.bin .eql (.t 6) (.c (.i .i64 44))),
 Mv 34 40] [40])
 (.cond (.t 34)
 (.region [] [6])
 (.seq (.region [It 41 (.bin .eql (.t 6) (.c (.i .i64 45))),
 Mv 34 41] [41])
 (.cond (.t 34)
 (.region [] [6])
 (.seq (.region [It 42 (.bin .eql (.t 6) (.c (.i .i64 46))),
 Mv 34 42] [42])
 (.cond (.t 34)
 (.region [] [6])
 (.seq (.region [It 43 (.bin .eql (.t 6) (.c (.i .i64 47))),
 Mv 34 43] [43])
 (.cond (.t 34)
 (.region [] [6])
 (.seq (.region [It 44 (.bin .eql (.t 6) (.c (.i .i64 48))),
 Mv 34 44] [44])
 (.cond (.t 34)
 (.region [] [6])
 (.region [It 45 (.bin .eql (.t 6) (.c (.i .i64 49))),
 Mv 34 45] [6,45])))))))))))))))))))))
 (.cond (.t 34)
 (.seq (.region [Mv 46 0,
 Of 47 3 2,
 Ld 48 47,
 It 49 (.bsl 1 1 [i0] [(0,1,(.c (.i .i64 1)))]),
 It 50 (.call 57 [(.t 46),(.t 48),(.t 49)]),
 Mv 4 50] [0,3,34,46,47,48,49,50])
 .ret)
 (.region [] [0,3,34])))))))))))))
 (.seq (.region [It 4 (.mov (.c (.b false)))] [])
 .ret))),
    51,2,[.t 4],2⟩
theorem tr31:trFunc Tryz.prog (hz [] I31.body) 1 Tryz.f31=some (plain1 I31):=by kernel_rfl
theorem ck31:ckC 2 I31.body=true:=by kernel_rfl
def I32:IFunc :=
  ⟨(.seq (.region [It 4 (.mov (.c (.b false)))] [4])
 (.seq (.region [Mv 5 0,
 Mv 6 1,
 It 7 (.call 58 [(.t 5),(.t 6)]),
 It 8 (.bin .geq (.t 7) (.c i0)),
 Mv 4 8] [0,1,5,6,7,8])
 .ret)),
    9,2,[.t 4],2⟩
theorem tr32:trFunc Tryz.prog (hz [] I32.body) 1 Tryz.f32=some (plain1 I32):=by kernel_rfl
theorem ck32:ckC 2 I32.body=true:=by kernel_rfl
def I33:IFunc :=
  ⟨(.seq (.region [It 1 (.box (.t 0)),
 It 2 (.mov (.c (.b false)))] [0,2])
 (.seq (.region [Lm 3 5 1,
 It 4 (.call 34 [(.t 3)]),
 It 5 (.un .not (.t 4)),
 Mv 2 5] [1,3,4,5])
 .ret)),
    6,1,[.t 2],2⟩
theorem tr33:trFunc Tryz.prog (hz [] I33.body) 1 Tryz.f33=some (plain1 I33):=by kernel_rfl
theorem ck33:ckC 2 I33.body=true:=by kernel_rfl
def I34:IFunc :=
  ⟨(.seq (.region [It 1 (.box (.t 0)),
 It 2 (.mov (.c (.b false)))] [0,2])
 (.seq (.region [Lm 3 5 1,
 It 4 (.call 59 [(.t 3)]),
 It 5 (.bin .eql (.t 4) (.c i0)),
 Mv 2 5] [1,3,4,5])
 .ret)),
    6,1,[.t 2],2⟩
theorem tr34:trFunc Tryz.prog (hz [] I34.body) 1 Tryz.f34=some (plain1 I34):=by kernel_rfl
theorem ck34:ckC 2 I34.body=true:=by kernel_rfl
def I35:IFunc :=
  ⟨(.seq (.region [It 3 (.box (.t 0)),
 It 4 (.alloc [i0,i0,(.s []),.ns,.ns])] [0])
 (.seq (.seq (.region [Of 5 3 0,
 Ld 6 5] [5])
 (.block 0
 (.seq (.region [It 8 (.bin .eql (.t 6) (.c (.i .i64 1))),
 Mv 7 8] [8])
 (.cond (.t 7)
 (.seq (.region [Ld 9 1,
 Of 10 3 1,
 Ld 11 10,
 Ia 12 5 9 11,
 Lm 13 5 12,
 Ss 5 4 13] [1,2,3,6,7,9,10,11,12,13])
 .ret)
 (.seq (.region [It 15 (.bin .eql (.t 6) (.c (.i .i64 2))),
 Mv 14 15] [1,6,7,15])
 (.cond (.t 14)
 (.seq (.region [Ld 16 2,
 Of 17 3 1,
 Ld 18 17,
 Ia 19 5 16 18,
 Lm 20 5 19,
 Ss 5 4 20] [2,3,14,16,17,18,19,20])
 .ret)
 (.region [] [2,14])))))))
 (.seq (.region [Of 21 3 2,
 Lm 22 5 21,
 Ss 5 4 22] [3,21,22])
 .ret))),
    23,3,[.c 4 (some 5)],2⟩
theorem tr35:trFunc Tryz.prog (hz [] I35.body) 1 Tryz.f35=some (plain1 I35):=by kernel_rfl
theorem ck35:ckC 2 I35.body=true:=by kernel_rfl
def I36:IFunc :=
  ⟨(.seq (.region [It 2 (.box (.t 0)),
 It 4 (.alloc [i0,i0,(.s []),.ns,.ns]),
 It 5 (.mov (.c (.b false)))] [0,5])
 (.seq (.region [Lm 12 5 2,
 It 13 (.call 51 [(.t 12)]),
 Mv 11 13,
 Ex 14 11 0,
 Ex 15 11 1,
 Ex 16 11 2,
 Mv 6 14,
 Mv 7 15,
 Mv 8 16] [12,13,11,14,15,16])
 (.seq (.seq (.region [Mv 17 8,
 It 18 (.un .not (.t 17)),
 Mv 19 18,
 Ig 20 19 false (.mov (.t 1)),
 Ig 21 19 false (.lenk 0 (.t 20)),
 Ig 22 19 false (.mov (.t 6)),
 Ig 23 19 false (.bin .lss (.t 21) (.t 22)),
 It 24 (.pick (.t 19) (.c (.b true)) (.t 23)),
 Mv 25 24,
 Ig 26 25 false (.mov (.t 1)),
 Ig 27 25 false (.lenk 0 (.t 26)),
 Ig 28 25 false (.mov (.t 7)),
 Ig 29 25 false (.bin .gtr (.t 27) (.t 28)),
 It 30 (.pick (.t 25) (.c (.b true)) (.t 29)),
 Mv 31 30,
 Ig 32 31 false (.mov (.t 1)),
 Ig 33 31 false (.call 32 [(.t 32),(.f 60)]),
 It 34 (.pick (.t 31) (.c (.b true)) (.t 33))] [7,8,17,18,19,20,21,22,23,24,25,26,27,28,29,30,31,32,33])
 (.cond (.t 34)
 (.seq (.region [It 35 (.build [i0,i0,(.s []),.ns,.ns] []),
 Ss 5 4 35,
 It 5 (.mov (.c (.b false)))] [1,2,6,34,35])
 .ret)
 (.region [] [34])))
 (.seq (.seq (.region [Lm 37 5 2,
 Mv 38 1,
 Of 40 2 0,
 Ld 41 40,
 ⟨(some 39),(.call 61 [(.t 37),(.t 38)]),none,[(41,(.load none (.t 40)),none)]⟩,
 It 42 (.look false [1] .nf true (.t 39) (.t 41)),
 Mv 36 42,
 Ex 43 36 0,
 Ex 44 36 1,
 Mv 9 43,
 Mv 10 44] [37,38,40,41,39,42,36,43,44])
 (.block 0
 (.seq (.region [Mv 59 10,
 Mv 58 59] [10,59])
 (.cond (.t 58)
 (.region [Mv 61 9,
 It 62 (.callv (.t 61) []),
 Mv 60 62,
 Ex 63 60 0,
 Ex 64 60 1,
 Ss 5 4 63,
 Mv 5 64] [1,2,6,9,58,61,62,60,63,64])
 (.seq (.region [Mv 66 6,
 It 67 (.bin .eql (.t 66) (.c (.i .i64 2))),
 Mv 65 67] [6,9,58,66,67])
 (.cond (.t 65)
 (.region [Of 69 2 0,
 Ld 70 69,
 Mv 71 1,
 It 72 (.iaddr 5 (.t 71) (.c i0)),
 Lm 73 5 72,
 Mv 74 1,
 It 75 (.iaddr 5 (.t 74) (.c (.i .i64 1))),
 Lm 76 5 75,
 It 77 (.call 63 [(.t 70),(.t 73),(.t 76)]),
 Ex 78 77 0,
 Ex 79 77 1,
 Ex 80 77 2,
 It 81 (.call 62 [(.t 78),(.t 79),(.t 80)]),
 Mv 68 81,
 Ex 82 68 0,
 Ex 83 68 1,
 Ss 5 4 82,
 Mv 5 83] [1,2,65,69,70,71,72,73,74,75,76,77,78,79,80,81,68,82,83])
 (.region [Of 46 2 0,
 Ld 47 46,
 Mv 48 1,
 It 49 (.iaddr 5 (.t 48) (.c i0)),
 Lm 50 5 49,
 It 51 (.call 64 [(.t 47),(.t 50)]),
 Ex 52 51 0,
 Ex 53 51 1,
 Ex 54 51 2,
 It 55 (.call 62 [(.t 52),(.t 53),(.t 54)]),
 Mv 45 55,
 Ex 56 45 0,
 Ex 57 45 1,
 Ss 5 4 56,
 Mv 5 57] [1,2,65,46,47,48,49,50,51,52,53,54,55,45,56,57])))))))
 (.seq (.seq (.region [Mv 84 5,
 It 85 (.un .not (.t 84))] [5,84])
 (.cond (.t 85)
 (.seq (.region [It 86 (.build [i0,i0,(.s []),.ns,.ns] []),
 Ss 5 4 86,
 It 5 (.mov (.c (.b false)))] [85,86])
 .ret)
 (.region [] [85])))
 (.seq (.region [Lm 87 5 4,
 It 88 (.call 37 [(.t 87)]),
 Ss 5 4 88,
 It 5 (.mov (.c (.b true)))] [87,88])
 .ret)))))),
    89,2,[.c 4 (some 5),.t 5],2⟩
theorem tr36:trFunc Tryz.prog (hz [(5,[0,1,3,4,2,5,6,7,8,9,10]),(9,[0,1,2,3,4,5,6,7,8,9,10,11,12,13,14,15,16,17]),(10,[0,1,2,3,4,5,6,7,8,9,10,11,12,13,14])] I36.body) 1 Tryz.f36=some (plain1 I36):=by kernel_rfl
theorem ck36:ckC 2 I36.body=true:=by kernel_rfl
def L37a:ICode :=
  (.seq (.region [It 16 (.bin .lss (.t 15) (.t 14))] [])
 (.seq (.cond (.t 16)
 (.region [] [16])
 (.exit 0))
 (.seq (.block 1
 (.seq (.region [Mv 17 15,
 Mv 3 17] [17])
 (.region [Of 18 1 3,
 Ld 19 18,
 Mv 20 3,
 Of 21 1 3,
 Ld 22 21,
 Mv 23 3,
 Ia 24 5 22 23,
 Lm 25 5 24,
 ⟨(some 26),(.call 37 [(.t 25)]),none,[(19,(.load none (.t 18)),none)]⟩,
 Ia 27 5 19 20,
 Ss 5 27 26] [3,18,19,20,21,22,23,24,25,26,27])))
 (.region [It 28 (.bin .add (.t 15) (.c (.i .i64 1))),
 Mv 15 28] [28]))))
def I37:IFunc :=
  ⟨(.seq (.region [It 1 (.box (.t 0)),
 It 2 (.alloc [i0,i0,(.s []),.ns,.ns])] [0])
 (.seq (.region [Of 4 1 4,
 Ld 5 4,
 Of 7 1 3,
 Ld 8 7,
 ⟨(some 6),(.call 40 [(.t 5)]),none,[(8,(.load none (.t 7)),none)]⟩,
 Of 10 1 4,
 It 9 (.call 65 [(.t 8)]),
 Ss 1 10 6,
 Of 11 1 3,
 Ss 1 11 9] [4,5,7,8,6,10,9,11])
 (.seq (.seq (.region [Of 12 1 3,
 Ld 13 12,
 Le 14 13,
 It 15 (.mov (.c i0))] [12,13])
 (.block 0
 (.loop L37a)))
 (.seq (.region [Lm 29 5 1,
 Ss 5 2 29] [1,14,15,16,29])
 .ret)))),
    30,1,[.c 2 (some 5)],2⟩
theorem tr37:trFunc Tryz.prog (hz [(1,[0,1,3,4,2,6,5,7,8,9]),(6,[0,1,2,3,4,5,6,7,8,9,10])] I37.body) 1 Tryz.f37=some (plain1 I37):=by kernel_rfl
theorem ck37:ckC 2 I37.body=true:=by kernel_rfl
def L38a:ICode :=
  (.seq (.seq (.region [Mv 62 5,
 Of 63 2 4,
 Ld 64 63,
 Le 65 64,
 It 66 (.bin .lss (.t 62) (.t 65))] [62,63,64,65])
 (.cond (.t 66)
 (.region [] [66])
 (.exit 0)))
 (.seq (.block 1
 (.seq (.region [Of 69 2 4,
 Ld 70 69,
 Mv 71 5,
 Ia 72 5 70 71,
 Lm 73 5 72,
 Of 74 3 4,
 Ld 75 74,
 Mv 76 5,
 Ia 77 5 75 76,
 Lm 78 5 77,
 It 79 (.call 66 [(.t 73),(.t 78)]),
 It 80 (.un .not (.t 79))] [69,70,71,72,73,74,75,76,77,78,79])
 (.cond (.t 80)
 (.seq (.region [It 4 (.mov (.c (.b false)))] [2,3,5,80])
 .ret)
 (.region [] [80]))))
 (.region [Mv 67 5,
 It 68 (.bin .add (.t 67) (.c (.i .i64 1))),
 Mv 5 68] [67,68])))
def I38:IFunc :=
  ⟨(.seq (.region [It 2 (.box (.t 0)),
 It 3 (.box (.t 1)),
 It 4 (.mov (.c (.b false)))] [0,1,4])
 (.seq (.seq (.region [Of 6 2 0,
 Ld 7 6,
 Of 8 3 0,
 Ld 9 8,
 It 10 (.bin .neq (.t 7) (.t 9)),
 Mv 11 10,
 Ig 12 11 false (.off (.t 2) 1),
 Ig 13 11 false (.load none (.t 12)),
 Ig 14 11 false (.off (.t 3) 1),
 Ig 15 11 false (.load none (.t 14)),
 Ig 16 11 false (.bin .neq (.t 13) (.t 15)),
 It 17 (.pick (.t 11) (.c (.b true)) (.t 16)),
 Mv 18 17,
 Ig 19 18 false (.off (.t 2) 2),
 Ig 20 18 false (.load none (.t 19)),
 Ig 21 18 false (.off (.t 3) 2),
 Ig 22 18 false (.load none (.t 21)),
 Ig 23 18 false (.bin .neq (.t 20) (.t 22)),
 It 24 (.pick (.t 18) (.c (.b true)) (.t 23)),
 Mv 25 24,
 Ig 26 25 false (.off (.t 2) 3),
 Ig 27 25 false (.load none (.t 26)),
 Ig 28 25 false (.off (.t 3) 3),
 Ig 29 25 false (.load none (.t 28)),
 Ig 30 25 false (.bin .neq (.t 27) (.t 29)),
 It 31 (.pick (.t 25) (.c (.b true)) (.t 30)),
 Mv 32 31,
 Ig 33 32 false (.off (.t 2) 6),
 Ig 34 32 false (.load none (.t 33)),
 Ig 35 32 false (.off (.t 3) 6),
 Ig 36 32 false (.load none (.t 35)),
 Ig 37 32 false (.bin .neq (.t 34) (.t 36)),
 It 38 (.pick (.t 32) (.c (.b true)) (.t 37)),
 Mv 39 38,
 Ig 40 39 false (.off (.t 2) 7),
 Ig 41 39 false (.load none (.t 40)),
 Ig 42 39 false (.off (.t 3) 7),
 Ig 43 39 false (.load none (.t 42)),
 Ig 44 39 false (.bin .neq (.t 41) (.t 43)),
 It 45 (.pick (.t 39) (.c (.b true)) (.t 44)),
 Mv 46 45,
 Ig 47 46 false (.off (.t 2) 15),
 Ig 48 46 false (.load none (.t 47)),
 Ig 49 46 false (.off (.t 3) 15),
 Ig 50 46 false (.load none (.t 49)),
 Ig 51 46 false (.bin .neq (.t 48) (.t 50)),
 It 52 (.pick (.t 46) (.c (.b true)) (.t 51)),
 Mv 53 52,
 Ig 54 53 false (.off (.t 2) 4),
 Ig 55 53 false (.load none (.t 54)),
 Ig 56 53 false (.lenk 0 (.t 55)),
 Ig 57 53 false (.off (.t 3) 4),
 Ig 58 53 false (.load none (.t 57)),
 Ig 59 53 false (.lenk 0 (.t 58)),
 Ig 60 53 false (.bin .neq (.t 56) (.t 59)),
 It 61 (.pick (.t 53) (.c (.b true)) (.t 60))] [6,7,8,9,10,11,12,13,14,15,16,17,18,19,20,21,22,23,24,25,26,27,28,29,30,31,32,33,34,35,36,37,38,39,40,41,42,43,44,45,46,47,48,49,50,51,52,53,54,55,56,57,58,59,60])
 (.cond (.t 61)
 (.seq (.region [It 4 (.mov (.c (.b false)))] [2,3,61])
 .ret)
 (.region [] [61])))
 (.seq (.seq (.region [It 5 (.mov (.c i0))] [])
 (.block 0
 (.loop L38a)))
 (.seq (.region [Of 81 2 5,
 Ld 82 81,
 Of 83 3 5,
 Ld 84 83,
 It 85 (.call 67 [(.t 82),(.t 84)]),
 Mv 86 85,
 Ig 87 86 true (.off (.t 2) 8),
 Ig 88 86 true (.load (some 7) (.t 87)),
 Ig 89 86 true (.off (.t 3) 8),
 Ig 90 86 true (.load (some 7) (.t 89)),
 Ig 91 86 true (.call 68 [(.t 88),(.t 90)]),
 It 92 (.pick (.t 86) (.t 91) (.c (.b false))),
 Mv 4 92] [2,3,5,66,81,82,83,84,85,86,87,88,89,90,91,92])
 .ret)))),
    93,2,[.t 4],2⟩
theorem tr38:trFunc Tryz.prog (hz [(7,[0,1,2,3,4,5,6,7,8,9,10,11])] I38.body) 1 Tryz.f38=some (plain1 I38):=by kernel_rfl
theorem ck38:ckC 2 I38.body=true:=by kernel_rfl
def L39a:ICode :=
  (.seq (.seq (.region [Mv 20 4,
 Of 21 1 4,
 Ld 22 21,
 Le 23 22,
 It 24 (.bin .lss (.t 20) (.t 23))] [20,21,22,23])
 (.cond (.t 24)
 (.region [] [24])
 (.exit 0)))
 (.seq (.block 1
 (.region [Of 27 3 4,
 Ld 28 27,
 Of 29 1 4,
 Ld 30 29,
 Mv 31 4,
 Ia 32 5 30 31,
 Of 33 32 0,
 Ld 34 33,
 Of 35 1 4,
 Ld 36 35,
 Mv 37 4,
 Ia 38 5 36 37,
 Of 39 38 1,
 Ld 40 39,
 Of 41 1 4,
 Ld 42 41,
 Mv 43 4,
 Ia 44 5 42 43,
 Of 45 44 2,
 Ld 46 45,
 Of 48 1 4,
 Ld 49 48,
 Mv 50 4,
 Ia 51 5 49 50,
 Of 52 51 3,
 Ld 53 52,
 Of 54 1 4,
 Ld 55 54,
 Mv 56 4,
 Ia 57 5 55 56,
 Of 58 57 4,
 Ld 59 58,
 ⟨(some 47),(.call 69 [(.t 46)]),none,[(28,(.load none (.t 27)),none),(30,(.load none (.t 29)),none),(34,(.load none (.t 33)),none),(36,(.load none (.t 35)),none),(40,(.load none (.t 39)),none),(49,(.load none (.t 48)),none),(53,(.load none (.t 52)),none),(55,(.load none (.t 54)),none),(59,(.load none (.t 58)),none)]⟩,
 It 60 (.build [i0,i0,.ns,(.s []),.ns] [(0,1,(.t 34)),(1,1,(.t 40)),(2,1,(.t 47)),(3,1,(.t 53)),(4,1,(.t 59))]),
 It 61 (.bsl 5 1 [i0,i0,.ns,(.s []),.ns] [(0,5,(.t 60))]),
 It 62 (.app 5 80 (.t 28) (.t 61)),
 Of 63 3 4,
 Ss 1 63 62] [27,28,29,30,31,32,33,34,35,36,37,38,39,40,41,42,43,44,45,46,48,49,50,51,52,53,54,55,56,57,58,59,47,60,61,62,63]))
 (.region [Mv 25 4,
 It 26 (.bin .add (.t 25) (.c (.i .i64 1))),
 Mv 4 26] [25,26])))
def I39:IFunc :=
  ⟨(.seq (.region [It 1 (.box (.t 0)),
 It 2 (.alloc [i0,i0,i0,i0,.ns,.ns,i0,i0,i0,i0,i0,i0,(.s []),.ns,.ns,i0])] [0])
 (.seq (.region [Of 5 1 0,
 Ld 6 5,
 Of 7 1 1,
 Ld 8 7,
 Of 9 1 2,
 Ld 10 9,
 Of 11 1 3,
 Ld 12 11,
 Of 13 1 6,
 Ld 14 13,
 Of 15 1 7,
 Ld 16 15,
 Of 17 1 15,
 Ld 18 17,
 It 19 (.build [i0,i0,i0,i0,.ns,.ns,i0,i0,i0,i0,i0,i0,(.s []),.ns,.ns,i0] [(0,1,(.t 6)),(1,1,(.t 8)),(2,1,(.t 10)),(3,1,(.t 12)),(6,1,(.t 14)),(7,1,(.t 16)),(15,1,(.t 18))]),
 It 3 (.alloc [i0,i0,i0,i0,.ns,.ns,i0,i0,i0,i0,i0,i0,(.s []),.ns,.ns,i0]),
 Ss 16 3 19] [5,6,7,8,9,10,11,12,13,14,15,16,17,18,19])
 (.seq (.seq (.region [It 4 (.mov (.c i0))] [])
 (.block 0
 (.loop L39a)))
 (.seq (.region [Of 64 1 5,
 Ld 65 64,
 It 66 (.call 69 [(.t 65)]),
 Of 67 3 5,
 Ss 1 67 66] [4,24,64,65,66,67])
 (.seq (.region [Of 68 1 8,
 Of 69 68 0,
 Ld 70 69,
 Of 71 1 8,
 Of 72 71 1,
 Ld 73 72,
 Of 74 1 8,
 Of 75 74 2,
 Lm 76 5 75,
 It 77 (.build [i0,i0,i0,i0,(.s []),.ns,.ns] [(0,1,(.t 70)),(1,1,(.t 73)),(2,5,(.t 76))]),
 Of 78 3 8,
 Ss 7 78 77] [1,68,69,70,71,72,73,74,75,76,77,78])
 (.seq (.region [Lm 79 16 3,
 Ss 16 2 79] [3,79])
 .ret)))))),
    80,1,[.c 2 (some 16)],2⟩
theorem tr39:trFunc Tryz.prog (hz [(5,[0,1,2,3,4,5,6,7,8,9,10,11,12,13,14,15,16,17,18,19,21,22,23,24,25,26,27,28,29,30,31,32,20,33,34,35,36,37])] I39.body) 1 Tryz.f39=some (plain1 I39):=by kernel_rfl
theorem ck39:ckC 2 I39.body=true:=by kernel_rfl
def I40:IFunc:=⟨cloneCode 1 16,8,1,[.t 2],4⟩
theorem tr40:trFunc Tryz.prog [([],[]),([],[]),([],[]),([],[]),([],[])] 1 Tryz.f40=some (plain1 I40):=by kernel_rfl
theorem ck40:ckC 2 (cloneCode 1 16)=true:=by kernel_rfl
def L41a:ICode :=
  (.seq (.region [It 9 (.bin .lss (.t 8) (.t 7))] [])
 (.seq (.cond (.t 9)
 (.region [] [9])
 (.exit 0))
 (.seq (.block 1
 (.seq (.region [Mv 10 8,
 Mv 5 10] [10])
 (.seq (.region [Mv 11 1,
 Mv 12 0,
 Mv 13 5,
 Ia 14 5 12 13,
 Lm 15 5 14,
 It 16 (.callv (.t 11) [(.t 15)])] [11,12,13,14,15])
 (.cond (.t 16)
 (.seq (.region [Mv 17 5,
 Mv 4 17] [0,1,7,8,5,16,17])
 .ret)
 (.region [] [5,16])))))
 (.region [It 18 (.bin .add (.t 8) (.c (.i .i64 1))),
 Mv 8 18] [18]))))
def I41:IFunc :=
  ⟨(.seq (.region [It 4 (.mov (.c i0))] [4])
 (.seq (.seq (.region [Mv 6 0,
 Le 7 6,
 It 8 (.mov (.c i0))] [6])
 (.block 0
 (.loop L41a)))
 (.seq (.region [It 4 (.mov (.c (.i .i64 (-1))))] [0,1,7,8,9])
 .ret))),
    19,2,[.t 4],2⟩
theorem tr41:trFunc Tryz.prog (hz [] I41.body) 1 Tryz.f41=some (plain1 I41):=by kernel_rfl
theorem ck41:ckC 2 I41.body=true:=by kernel_rfl
def I42:IFunc :=
  ⟨(.seq (.region [It 2 (.box (.t 0)),
 It 3 (.mov (.c (.b false)))] [0,3])
 (.seq (.region [Lm 4 5 1,
 Lm 5 5 2,
 It 6 (.call 43 [(.t 4),(.t 5)]),
 Mv 3 6] [1,2,4,5,6])
 .ret)),
    7,2,[.t 3],2⟩
theorem tr42:trFunc Tryz.prog (hz [] I42.body) 1 Tryz.f42=some (plain1 I42):=by kernel_rfl
theorem ck42:ckC 2 I42.body=true:=by kernel_rfl
def I43:IFunc :=
  ⟨(.seq (.region [It 2 (.box (.t 0)),
 It 3 (.box (.t 1)),
 It 4 (.mov (.c (.b false)))] [0,1,4])
 (.seq (.region [Of 5 2 0,
 Ld 6 5,
 Of 7 2 1,
 Ld 8 7,
 Of 9 2 3,
 Ld 10 9,
 It 11 (.build [i0,i0,(.s [])] [(0,1,(.t 6)),(1,1,(.t 8)),(2,1,(.t 10))]),
 Of 12 3 0,
 Ld 13 12,
 Of 14 3 1,
 Ld 15 14,
 Of 16 3 3,
 Ld 17 16,
 It 18 (.build [i0,i0,(.s [])] [(0,1,(.t 13)),(1,1,(.t 15)),(2,1,(.t 17))]),
 It 19 (.eqAg [1,1,2] false (.t 11) (.t 18)),
 Mv 20 19,
 Ig 21 20 true (.off (.t 2) 2),
 Ig 22 20 true (.load none (.t 21)),
 Ig 23 20 true (.off (.t 3) 2),
 Ig 24 20 true (.load none (.t 23)),
 Ig 25 20 true (.call 70 [(.t 22),(.t 24),(.f 71)]),
 It 26 (.pick (.t 20) (.t 25) (.c (.b false))),
 Mv 27 26,
 Ig 28 27 true (.off (.t 2) 4),
 Ig 29 27 true (.load none (.t 28)),
 Ig 30 27 true (.off (.t 3) 4),
 Ig 31 27 true (.load none (.t 30)),
 Ig 32 27 true (.call 72 [(.t 29),(.t 31)]),
 It 33 (.pick (.t 27) (.t 32) (.c (.b false))),
 Mv 4 33] [2,3,5,6,7,8,9,10,11,12,13,14,15,16,17,18,19,20,21,22,23,24,25,26,27,28,29,30,31,32,33])
 .ret)),
    34,2,[.t 4],2⟩
theorem tr43:trFunc Tryz.prog (hz [] I43.body) 1 Tryz.f43=some (plain1 I43):=by kernel_rfl
theorem ck43:ckC 2 I43.body=true:=by kernel_rfl
def L44a:ICode :=
  (.seq (.region [It 9 (.bin .lss (.t 8) (.t 7))] [])
 (.seq (.cond (.t 9)
 (.region [] [9])
 (.exit 0))
 (.seq (.block 1
 (.seq (.region [Ia 10 7 6 8,
 Lm 11 7 10,
 It 5 (.alloc [i0,i0,i0,i0,(.s []),.ns,.ns]),
 Ss 7 5 11] [10,11])
 (.seq (.seq (.region [Of 12 5 0,
 Ld 13 12,
 It 14 (.bin .eql (.t 13) (.c (.i .i64 2)))] [12,13])
 (.cond (.t 14)
 (.region [Ld 15 1,
 It 16 (.nck (.t 15)),
 Ld 17 16,
 Of 18 5 1,
 Ld 19 18,
 Ia 20 7 17 19,
 Lm 21 7 20,
 Ss 7 5 21] [14,15,16,17,18,19,20,21])
 (.region [] [14])))
 (.seq (.region [Of 22 5 2,
 Lm 23 5 22,
 It 24 (.call 45 [(.t 23)]),
 Of 25 5 2,
 Ss 5 25 24] [22,23,24,25])
 (.region [Mv 26 3,
 Lm 27 7 5,
 It 28 (.bsl 7 1 [i0,i0,i0,i0,(.s []),.ns,.ns] [(0,7,(.t 27))]),
 It 29 (.app 7 96 (.t 26) (.t 28)),
 Mv 3 29] [5,26,27,28,29])))))
 (.region [It 30 (.bin .add (.t 8) (.c (.i .i64 1))),
 Mv 8 30] [30]))))
def I44:IFunc :=
  ⟨(.seq (.region [It 3 (.mov (.c .ns))] [])
 (.seq (.seq (.region [Mv 6 0,
 Le 7 6,
 It 8 (.mov (.c i0))] [0])
 (.block 0
 (.loop L44a)))
 (.seq (.region [Mv 31 3,
 Mv 3 31] [1,6,7,8,9,31])
 .ret))),
    32,2,[.t 3],2⟩
theorem tr44:trFunc Tryz.prog (hz [(6,[0,1,2,3,4,5,6,7])] I44.body) 1 Tryz.f44=some (plain1 I44):=by kernel_rfl
theorem ck44:ckC 2 I44.body=true:=by kernel_rfl
def L45a:ICode :=
  (.seq (.region [It 16 (.bin .lss (.t 15) (.t 14))] [])
 (.seq (.cond (.t 16)
 (.region [] [16])
 (.exit 0))
 (.seq (.block 1
 (.seq (.region [Mv 17 15,
 Mv 3 17] [17])
 (.region [Of 18 1 3,
 Ld 19 18,
 Mv 20 3,
 Of 21 1 3,
 Ld 22 21,
 Mv 23 3,
 Ia 24 5 22 23,
 Lm 25 5 24,
 ⟨(some 26),(.call 45 [(.t 25)]),none,[(19,(.load none (.t 18)),none)]⟩,
 Ia 27 5 19 20,
 Ss 5 27 26] [3,18,19,20,21,22,23,24,25,26,27])))
 (.region [It 28 (.bin .add (.t 15) (.c (.i .i64 1))),
 Mv 15 28] [28]))))
def I45:IFunc :=
  ⟨(.seq (.region [It 1 (.box (.t 0)),
 It 2 (.alloc [i0,i0,(.s []),.ns,.ns])] [0])
 (.seq (.region [Of 4 1 4,
 Ld 5 4,
 Of 7 1 3,
 Ld 8 7,
 ⟨(some 6),(.call 40 [(.t 5)]),none,[(8,(.load none (.t 7)),none)]⟩,
 Of 10 1 4,
 It 9 (.call 65 [(.t 8)]),
 Ss 1 10 6,
 Of 11 1 3,
 Ss 1 11 9] [4,5,7,8,6,10,9,11])
 (.seq (.seq (.region [Of 12 1 3,
 Ld 13 12,
 Le 14 13,
 It 15 (.mov (.c i0))] [12,13])
 (.block 0
 (.loop L45a)))
 (.seq (.region [Lm 29 5 1,
 Ss 5 2 29] [1,14,15,16,29])
 .ret)))),
    30,1,[.c 2 (some 5)],2⟩
theorem tr45:trFunc Tryz.prog (hz [(1,[0,1,3,4,2,6,5,7,8,9]),(6,[0,1,2,3,4,5,6,7,8,9,10])] I45.body) 1 Tryz.f45=some (plain1 I45):=by kernel_rfl
theorem ck45:ckC 2 I45.body=true:=by kernel_rfl
def L46a:ICode :=
  (.seq (.region [It 8 (.bin .lss (.t 7) (.t 6))] [])
 (.seq (.cond (.t 8)
 (.region [] [8])
 (.exit 0))
 (.seq (.block 1
 (.seq (.region [Ia 9 7 5 7,
 Lm 10 7 9,
 It 4 (.alloc [i0,i0,i0,i0,(.s []),.ns,.ns]),
 Ss 7 4 10] [9,10])
 (.seq (.region [Of 11 4 0,
 Ld 12 11,
 It 13 (.bin .eql (.t 12) (.c (.i .i64 2)))] [11,12])
 (.cond (.t 13)
 (.region [Ld 14 1,
 Of 15 4 1,
 Ld 16 15,
 Ia 17 1 14 16,
 ⟨none,(.store 1 (.t 17) (.c (.b true))),none,[]⟩] [4,13,14,15,16,17])
 (.region [] [4,13])))))
 (.region [It 18 (.bin .add (.t 7) (.c (.i .i64 1))),
 Mv 7 18] [18]))))
def I46:IFunc :=
  ⟨(.seq (.region [Mv 5 0,
 Le 6 5,
 It 7 (.mov (.c i0))] [0])
 (.block 0
 (.loop L46a))),
    19,2,[],0⟩
theorem tr46:trFunc Tryz.prog (hz [] I46.body) 0 Tryz.f46=some (plain1 I46):=by kernel_rfl
theorem ck46:ckC 2 I46.body=true:=by kernel_rfl
def I47:IFunc:=⟨cloneCode 7 96,8,1,[.t 2],4⟩
theorem tr47:trFunc Tryz.prog [([],[]),([],[]),([],[]),([],[]),([],[])] 1 Tryz.f47=some (plain1 I47):=by kernel_rfl
theorem ck47:ckC 2 (cloneCode 7 96)=true:=by kernel_rfl
def I48:IFunc :=
  ⟨(.seq (.region [It 1 (.box (.t 0)),
 It 2 (.alloc [i0,i0,.ns,(.s []),.ns])] [0])
 (.seq (.region [Of 3 1 0,
 Ld 4 3,
 Of 5 1 1,
 Ld 6 5,
 Of 7 1 2,
 Ld 8 7,
 Of 10 1 3,
 Ld 11 10,
 Of 12 1 4,
 Ld 13 12,
 ⟨(some 9),(.call 49 [(.t 8)]),none,[(4,(.load none (.t 3)),none),(6,(.load none (.t 5)),none),(11,(.load none (.t 10)),none),(13,(.load none (.t 12)),none)]⟩,
 ⟨(some 14),(.call 73 [(.t 13)]),none,[(4,(.load none (.t 3)),none),(6,(.load none (.t 5)),none),(11,(.load none (.t 10)),none)]⟩,
 It 15 (.build [i0,i0,.ns,(.s []),.ns] [(0,1,(.t 4)),(1,1,(.t 6)),(2,1,(.t 9)),(3,1,(.t 11)),(4,1,(.t 14))]),
 Ss 5 2 15] [1,3,4,5,6,7,8,10,11,12,13,9,14,15])
 .ret)),
    16,1,[.c 2 (some 5)],2⟩
theorem tr48:trFunc Tryz.prog (hz [(1,[0,1,2,3,4,5,7,8,9,10,6,11,12,13])] I48.body) 1 Tryz.f48=some (plain1 I48):=by kernel_rfl
theorem ck48:ckC 2 I48.body=true:=by kernel_rfl
def L49a:ICode :=
  (.seq (.seq (.region [Mv 5 4,
 Mv 6 0,
 Le 7 6,
 It 8 (.bin .lss (.t 5) (.t 7))] [5,6,7])
 (.cond (.t 8)
 (.region [] [8])
 (.exit 0)))
 (.seq (.block 1
 (.region [Mv 11 3,
 Mv 12 0,
 Mv 13 4,
 Ia 14 7 12 13,
 Of 15 14 0,
 Ld 16 15,
 Mv 17 0,
 Mv 18 4,
 Ia 19 7 17 18,
 Of 20 19 1,
 Ld 21 20,
 Mv 22 0,
 Mv 23 4,
 Ia 24 7 22 23,
 Of 25 24 2,
 Lm 26 5 25,
 ⟨(some 27),(.call 50 [(.t 26)]),none,[(16,(.load none (.t 15)),none),(21,(.load none (.t 20)),none)]⟩,
 It 28 (.build [i0,i0,i0,i0,(.s []),.ns,.ns] [(0,1,(.t 16)),(1,1,(.t 21)),(2,5,(.t 27))]),
 It 29 (.bsl 7 1 [i0,i0,i0,i0,(.s []),.ns,.ns] [(0,7,(.t 28))]),
 It 30 (.app 7 96 (.t 11) (.t 29)),
 Mv 3 30] [11,12,13,14,15,16,17,18,19,20,21,22,23,24,25,26,27,28,29,30]))
 (.region [Mv 9 4,
 It 10 (.bin .add (.t 9) (.c (.i .i64 1))),
 Mv 4 10] [9,10])))
def I49:IFunc :=
  ⟨(.seq (.region [It 2 (.mov (.c .ns))] [2])
 (.seq (.region [It 3 (.mov (.c .ns))] [])
 (.seq (.seq (.region [It 4 (.mov (.c i0))] [])
 (.block 0
 (.loop L49a)))
 (.seq (.region [Mv 31 3,
 Mv 2 31] [0,3,4,8,31])
 .ret)))),
    32,1,[.t 2],2⟩
theorem tr49:trFunc Tryz.prog (hz [(5,[0,1,2,3,4,5,6,7,8,9,10,11,12,13,14,15,16,17,18,19,20])] I49.body) 1 Tryz.f49=some (plain1 I49):=by kernel_rfl
theorem ck49:ckC 2 I49.body=true:=by kernel_rfl
def L50a:ICode :=
  (.seq (.seq (.region [Mv 15 4,
 Of 16 1 3,
 Ld 17 16,
 Le 18 17,
 It 19 (.bin .lss (.t 15) (.t 18))] [15,16,17,18])
 (.cond (.t 19)
 (.region [] [19])
 (.exit 0)))
 (.seq (.block 1
 (.region [Of 22 3 3,
 Ld 23 22,
 Of 24 1 3,
 Ld 25 24,
 Mv 26 4,
 Ia 27 5 25 26,
 Lm 28 5 27,
 ⟨(some 29),(.call 50 [(.t 28)]),none,[(23,(.load none (.t 22)),none)]⟩,
 It 30 (.bsl 5 1 [i0,i0,(.s []),.ns,.ns] [(0,5,(.t 29))]),
 It 31 (.app 5 80 (.t 23) (.t 30)),
 Of 32 3 3,
 Ss 1 32 31] [22,23,24,25,26,27,28,29,30,31,32]))
 (.region [Mv 20 4,
 It 21 (.bin .add (.t 20) (.c (.i .i64 1))),
 Mv 4 21] [20,21])))
def I50:IFunc :=
  ⟨(.seq (.region [It 1 (.box (.t 0)),
 It 2 (.alloc [i0,i0,(.s []),.ns,.ns])] [0])
 (.seq (.region [Of 5 1 0,
 Ld 6 5,
 Of 7 1 1,
 Ld 8 7,
 Of 9 1 2,
 Ld 10 9,
 Of 11 1 4,
 Ld 12 11,
 It 3 (.alloc [i0,i0,(.s []),.ns,.ns]),
 ⟨(some 13),(.call 73 [(.t 12)]),none,[(6,(.load none (.t 5)),none),(8,(.load none (.t 7)),none),(10,(.load none (.t 9)),none)]⟩,
 It 14 (.build [i0,i0,(.s []),.ns,.ns] [(0,1,(.t 6)),(1,1,(.t 8)),(2,1,(.t 10)),(4,1,(.t 13))]),
 Ss 5 3 14] [5,6,7,8,9,10,11,12,13,14])
 (.seq (.seq (.region [It 4 (.mov (.c i0))] [])
 (.block 0
 (.loop L50a)))
 (.seq (.region [Lm 33 5 3,
 Ss 5 2 33] [1,3,4,19,33])
 .ret)))),
    34,1,[.c 2 (some 5)],2⟩
theorem tr50:trFunc Tryz.prog (hz [(1,[0,1,2,3,4,5,6,7,10,8,9,11]),(5,[0,1,2,3,4,5,6,7,8,9,10,11])] I50.body) 1 Tryz.f50=some (plain1 I50):=by kernel_rfl
theorem ck50:ckC 2 I50.body=true:=by kernel_rfl
def I51:IFunc :=
  ⟨(.seq (.region [It 1 (.box (.t 0)),
 It 2 (.mov (.c i0)),
 It 3 (.mov (.c i0)),
 It 4 (.mov (.c (.b false)))] [0,2,3,4])
 (.seq (.region [Of 6 1 1,
 Ld 7 6,
 Of 8 1 3,
 Ld 9 8,
 Of 10 1 4,
 Ld 11 10,
 Le 12 11,
 It 13 (.bin .gtr (.t 12) (.c i0)),
 It 14 (.build [i0,(.s []),(.b false)] [(0,1,(.t 7)),(1,1,(.t 9)),(2,1,(.t 13))]),
 It 5 (.alloc [i0,(.s []),(.b false)]),
 Ss 3 5 14] [6,7,8,9,10,11,12,13,14])
 (.seq (.block 0
 (.seq (.region [Of 16 1 0,
 Ld 17 16,
 It 18 (.bin .eql (.t 17) (.c (.i .i64 20))),
 Mv 15 18] [16,17,18])
 (.cond (.t 15)
 (.seq (.region [Lm 19 3 5,
 It 20 (.load (some 3) (.g 0)),
 It 21 (.eqAg [1,2,0] false (.t 19) (.t 20)),
 It 2 (.mov (.c i0)),
 It 3 (.mov (.c (.i .i64 8))),
 Mv 4 21] [1,5,15,19,20,21])
 .ret)
 (.seq (.region [Of 23 1 0,
 Ld 24 23,
 It 25 (.bin .eql (.t 24) (.c (.i .i64 21))),
 Mv 22 25] [15,23,24,25])
 (.cond (.t 22)
 (.seq (.region [Of 26 1 4,
 Ld 27 26,
 Le 28 27,
 Of 29 1 4,
 Ld 30 29,
 Le 31 30,
 Of 32 1 1,
 Ld 33 32,
 It 34 (.bin .eql (.t 33) (.c i0)),
 Mv 35 34,
 Ig 36 35 true (.off (.t 1) 3),
 Ig 37 35 true (.load none (.t 36)),
 Ig 38 35 true (.bin .eql (.t 37) (.c (.s []))),
 It 39 (.pick (.t 35) (.t 38) (.c (.b false))),
 Mv 40 39,
 Ig 41 40 true (.off (.t 1) 4),
 Ig 42 40 true (.load none (.t 41)),
 ⟨(some 43),(.call 74 [(.t 42)]),(some (40,true)),[(27,(.load none (.t 26)),none),(28,(.lenk 0 (.t 27)),none),(30,(.load none (.t 29)),none),(31,(.lenk 0 (.t 30)),none)]⟩,
 It 44 (.pick (.t 40) (.t 43) (.c (.b false))),
 Mv 2 28,
 Mv 3 31,
 Mv 4 44] [1,5,22,26,27,28,29,30,31,32,33,34,35,36,37,38,39,40,41,42,43,44])
 .ret)
 (.seq (.region [Of 46 1 0,
 Ld 47 46,
 It 48 (.bin .eql (.t 47) (.c (.i .i64 22))),
 Mv 45 48] [22,46,47,48])
 (.cond (.t 45)
 (.seq (.region [Lm 49 3 5,
 Of 50 1 3,
 Ld 51 50,
 It 52 (.build [i0,(.s []),(.b false)] [(1,1,(.t 51))]),
 It 53 (.eqAg [1,2,0] false (.t 49) (.t 52)),
 Mv 54 53,
 Ig 55 54 true (.off (.t 1) 3),
 Ig 56 54 true (.load none (.t 55)),
 Ig 57 54 true (.bsl 1 1 [(.s [])] [(0,1,(.t 56))]),
 Ig 58 54 true (.call 74 [(.t 57)]),
 It 59 (.pick (.t 54) (.t 58) (.c (.b false))),
 It 2 (.mov (.c (.i .i64 1))),
 It 3 (.mov (.c (.i .i64 1))),
 Mv 4 59] [1,5,45,49,50,51,52,53,54,55,56,57,58,59])
 .ret)
 (.seq (.region [Of 61 1 0,
 Ld 62 61,
 It 63 (.bin .eql (.t 62) (.c (.i .i64 23))),
 Mv 60 63] [45,61,62,63])
 (.cond (.t 60)
 (.seq (.region [Lm 64 3 5,
 Of 65 1 3,
 Ld 66 65,
 It 67 (.build [i0,(.s []),(.b false)] [(1,1,(.t 66))]),
 It 68 (.eqAg [1,2,0] false (.t 64) (.t 67)),
 Mv 69 68,
 Ig 70 69 true (.off (.t 1) 3),
 Ig 71 69 true (.load none (.t 70)),
 Ig 72 69 true (.call 75 [(.t 71)]),
 It 73 (.pick (.t 69) (.t 72) (.c (.b false))),
 It 2 (.mov (.c (.i .i64 1))),
 It 3 (.mov (.c (.i .i64 1))),
 Mv 4 73] [1,5,60,64,65,66,67,68,69,70,71,72,73])
 .ret)
 (.seq (.region [Of 75 1 0,
 Ld 76 75,
 It 77 (.bin .eql (.t 76) (.c (.i .i64 40))),
 Mv 74 77] [60,75,76,77])
 (.cond (.t 74)
 (.seq (.region [Lm 78 3 5,
 Of 79 1 1,
 Ld 80 79,
 It 81 (.build [i0,(.s []),(.b false)] [(0,1,(.t 80))]),
 It 82 (.eqAg [1,2,0] false (.t 78) (.t 81)),
 Mv 83 82,
 Ig 84 83 true (.off (.t 1) 1),
 Ig 85 83 true (.load none (.t 84)),
 Ig 86 83 true (.bin .geq (.t 85) (.c i0)),
 It 87 (.pick (.t 83) (.t 86) (.c (.b false))),
 Mv 88 87,
 Ig 89 88 true (.off (.t 1) 1),
 Ig 90 88 true (.load none (.t 89)),
 Ig 91 88 true (.bin .leq (.t 90) (.c (.i .i64 6))),
 It 92 (.pick (.t 88) (.t 91) (.c (.b false))),
 It 2 (.mov (.c (.i .i64 1))),
 It 3 (.mov (.c (.i .i64 1))),
 Mv 4 92] [1,5,74,78,79,80,81,82,83,84,85,86,87,88,89,90,91,92])
 .ret)
 (.seq (.seq (.region [Of 94 1 0,
 Ld 95 94,
 It 96 (.bin .eql (.t 95) (.c (.i .i64 48))),
 Mv 93 96] [74,94,95,96])
 (.cond (.t 93)
 .skip
 (.region [Of 97 1 0,
 Ld 98 97,
 It 99 (.bin .eql (.t 98) (.c (.i .i64 49))),
 Mv 93 99] [97,98,99])))
 (.cond (.t 93)
 (.seq (.region [Lm 100 3 5,
 Of 101 1 1,
 Ld 102 101,
 It 103 (.build [i0,(.s []),(.b false)] [(0,1,(.t 102))]),
 It 104 (.eqAg [1,2,0] false (.t 100) (.t 103)),
 It 2 (.mov (.c (.i .i64 1))),
 It 3 (.mov (.c (.i .i64 1))),
 Mv 4 104] [1,5,93,100,101,102,103,104])
 .ret)
 (.seq (.seq (.region [Of 106 1 0,
 Ld 107 106,
 It 108 (.bin .geq (.t 107) (.c (.i .i64 43))),
 Mv 109 108,
 Ig 110 109 true (.off (.t 1) 0),
 Ig 111 109 true (.load none (.t 110)),
 Ig 112 109 true (.bin .leq (.t 111) (.c (.i .i64 47))),
 It 113 (.pick (.t 109) (.t 112) (.c (.b false))),
 Mv 105 113] [93,106,107,108,109,110,111,112,113])
 (.cond (.t 105)
 .skip
 (.region [Of 114 1 0,
 Ld 115 114,
 It 116 (.bin .geq (.t 115) (.c (.i .i64 9))),
 Mv 117 116,
 Ig 118 117 true (.off (.t 1) 0),
 Ig 119 117 true (.load none (.t 118)),
 Ig 120 117 true (.bin .leq (.t 119) (.c (.i .i64 19))),
 It 121 (.pick (.t 117) (.t 120) (.c (.b false))),
 Mv 105 121] [114,115,116,117,118,119,120,121])))
 (.cond (.t 105)
 (.seq (.region [Lm 122 3 5,
 It 123 (.load (some 3) (.g 0)),
 It 124 (.eqAg [1,2,0] false (.t 122) (.t 123)),
 It 2 (.mov (.c (.i .i64 2))),
 It 3 (.mov (.c (.i .i64 2))),
 Mv 4 124] [1,5,105,122,123,124])
 .ret)
 (.seq (.seq (.region [Of 126 1 0,
 Ld 127 126,
 It 128 (.bin .eql (.t 127) (.c (.i .i64 41))),
 Mv 125 128] [105,126,127,128])
 (.cond (.t 125)
 (.region [] [1])
 (.seq (.region [Of 129 1 0,
 Ld 130 129,
 It 131 (.bin .eql (.t 130) (.c (.i .i64 42))),
 Mv 125 131] [129,130,131])
 (.cond (.t 125)
 (.region [] [1])
 (.region [Of 132 1 0,
 Ld 133 132,
 It 134 (.bin .geq (.t 133) (.c (.i .i64 6))),
 Mv 135 134,
 Ig 136 135 true (.off (.t 1) 0),
 Ig 137 135 true (.load none (.t 136)),
 Ig 138 135 true (.bin .leq (.t 137) (.c (.i .i64 8))),
 It 139 (.pick (.t 135) (.t 138) (.c (.b false))),
 Mv 125 139] [1,132,133,134,135,136,137,138,139])))))
 (.cond (.t 125)
 (.seq (.region [Lm 140 3 5,
 It 141 (.load (some 3) (.g 0)),
 It 142 (.eqAg [1,2,0] false (.t 140) (.t 141)),
 It 2 (.mov (.c (.i .i64 1))),
 It 3 (.mov (.c (.i .i64 1))),
 Mv 4 142] [5,125,140,141,142])
 .ret)
 (.region [] [5,125]))))))))))))))))))
 (.seq (.region [It 2 (.mov (.c i0)),
 It 3 (.mov (.c i0)),
 It 4 (.mov (.c (.b false)))] [])
 .ret)))),
    143,1,[.t 2,.t 3,.t 4],2⟩
theorem tr51:trFunc Tryz.prog (hz [(3,[0,1,2,3,4,5]),(5,[0,1,2,3,4,5,6,7,8,9,10,11,12,13,14,15,16,17,18,19,20,21]),(11,[0,1,2,3,4,5,6,7,8,9,10,11,12,13,14,15,16,17]),(15,[0,1,2,3,4,5,6,7]),(19,[0,1,2,3,4,5]),(25,[0,1,2,3,4,5])] I51.body) 1 Tryz.f51=some (plain1 I51):=by kernel_rfl
theorem ck51:ckC 2 I51.body=true:=by kernel_rfl
def I52:IFunc :=
  ⟨(.seq (.region [It 2 (.box (.t 0)),
 It 3 (.box (.t 1)),
 It 4 (.mov (.c (.b false)))] [0,1,4])
 (.seq (.region [Of 5 2 0,
 Ld 6 5,
 Of 7 3 0,
 Ld 8 7,
 It 9 (.bin .eql (.t 6) (.t 8)),
 Mv 10 9,
 Ig 11 10 true (.off (.t 2) 1),
 Ig 12 10 true (.load none (.t 11)),
 Ig 13 10 true (.off (.t 3) 1),
 Ig 14 10 true (.load none (.t 13)),
 Ig 15 10 true (.bin .eql (.t 12) (.t 14)),
 It 16 (.pick (.t 10) (.t 15) (.c (.b false))),
 Mv 17 16,
 Ig 18 17 true (.off (.t 2) 2),
 Ig 19 17 true (.load none (.t 18)),
 Ig 20 17 true (.off (.t 3) 2),
 Ig 21 17 true (.load none (.t 20)),
 Ig 22 17 true (.bin .eql (.t 19) (.t 21)),
 It 23 (.pick (.t 17) (.t 22) (.c (.b false))),
 Mv 24 23,
 Ig 25 24 true (.off (.t 2) 4),
 Ig 26 24 true (.load none (.t 25)),
 Ig 27 24 true (.off (.t 3) 4),
 Ig 28 24 true (.load none (.t 27)),
 Ig 29 24 true (.call 72 [(.t 26),(.t 28)]),
 It 30 (.pick (.t 24) (.t 29) (.c (.b false))),
 Mv 31 30,
 Ig 32 31 true (.off (.t 2) 3),
 Ig 33 31 true (.load none (.t 32)),
 Ig 34 31 true (.off (.t 3) 3),
 Ig 35 31 true (.load none (.t 34)),
 Ig 36 31 true (.call 76 [(.t 33),(.t 35),(.f 52)]),
 It 37 (.pick (.t 31) (.t 36) (.c (.b false))),
 Mv 4 37] [2,3,5,6,7,8,9,10,11,12,13,14,15,16,17,18,19,20,21,22,23,24,25,26,27,28,29,30,31,32,33,34,35,36,37])
 .ret)),
    38,2,[.t 4],2⟩
theorem tr52:trFunc Tryz.prog (hz [] I52.body) 1 Tryz.f52=some (plain1 I52):=by kernel_rfl
theorem ck52:ckC 2 I52.body=true:=by kernel_rfl
def I53:IFunc :=
  ⟨(.seq (.region [It 4 (.mov (.c (.b false)))] [4])
 (.seq (.region [Mv 5 0,
 Mv 6 1,
 It 7 (.call 77 [(.t 5),(.t 6)]),
 It 8 (.bin .geq (.t 7) (.c i0)),
 Mv 4 8] [0,1,5,6,7,8])
 .ret)),
    9,2,[.t 4],2⟩
theorem tr53:trFunc Tryz.prog (hz [] I53.body) 1 Tryz.f53=some (plain1 I53):=by kernel_rfl
theorem ck53:ckC 2 I53.body=true:=by kernel_rfl
def I54:IFunc :=
  ⟨(.seq (.region [It 3 (.box (.t 0)),
 It 4 (.mov (.c (.b false)))] [0,4])
 (.seq (.region [Lm 5 7 3,
 Ld 6 1,
 Ld 7 2,
 It 8 (.call 25 [(.t 5),(.t 6),(.t 7)]),
 It 9 (.un .not (.t 8)),
 Mv 4 9] [1,2,3,5,6,7,8,9])
 .ret)),
    10,3,[.t 4],2⟩
theorem tr54:trFunc Tryz.prog (hz [] I54.body) 1 Tryz.f54=some (plain1 I54):=by kernel_rfl
theorem ck54:ckC 2 I54.body=true:=by kernel_rfl
def I55:IFunc :=
  ⟨(.seq (.region [It 2 (.box (.t 0)),
 It 3 (.box (.t 1)),
 It 4 (.mov (.c (.b false)))] [0,1,4])
 (.seq (.region [Lm 5 5 2,
 Lm 6 5 3,
 It 7 (.call 78 [(.t 5),(.t 6)]),
 It 8 (.bin .eql (.t 7) (.c i0)),
 Mv 4 8] [2,3,5,6,7,8])
 .ret)),
    9,2,[.t 4],2⟩
theorem tr55:trFunc Tryz.prog (hz [] I55.body) 1 Tryz.f55=some (plain1 I55):=by kernel_rfl
theorem ck55:ckC 2 I55.body=true:=by kernel_rfl
def L56a:ICode :=
  (.seq (.seq (.region [Mv 34 8,
 Mv 35 7,
 Le 36 35,
 It 37 (.bin .lss (.t 34) (.t 36))] [34,35,36])
 (.cond (.t 37)
 (.region [] [37])
 (.exit 0)))
 (.block 1
 (.region [Mv 38 8,
 Mv 39 7,
 Mv 40 8,
 It 41 (.slq 1 (.t 39) (some (.t 40)) none none),
 Mv 42 7,
 Mv 43 8,
 It 44 (.slq 1 (.t 42) none (some (.t 43)) none),
 It 45 (.cpy 1 (.t 41) (.t 44)),
 It 46 (.bin .add (.t 38) (.t 45)),
 Mv 8 46] [38,39,40,41,42,43,44,45,46])))
def I56:IFunc :=
  ⟨(.seq (.region [It 4 (.mov (.c .ns))] [4])
 (.seq (.seq (.region [Mv 9 1,
 It 10 (.bin .lss (.t 9) (.c i0))] [9])
 (.cond (.t 10)
 (.region [It 11 (.iface 9 (.c (.s [99,97,110,110,111,116,32,98,101,32,110,101,103,97,116,105,118,101]))),
 ⟨none,.bad,none,[]⟩] [10,11])
 (.region [] [10])))
 (.seq (.region [Mv 13 0,
 Le 14 13,
 It 15 (.conv .u64 (.t 14)),
 Mv 16 1,
 It 17 (.conv .u64 (.t 16)),
 It 18 (.call 79 [(.t 15),(.t 17)]),
 Mv 12 18,
 Ex 19 12 0,
 Ex 20 12 1,
 Mv 5 19,
 Mv 6 20] [1,13,14,15,16,17,18,12,19,20])
 (.seq (.seq (.region [Mv 21 5,
 It 22 (.bin .gtr (.t 21) (.c (.i .u64 (0)))),
 Mv 23 22,
 Ig 24 23 false (.mov (.t 6)),
 Ig 25 23 false (.bin .gtr (.t 24) (.c (.i .u64 (9223372036854775807)))),
 It 26 (.pick (.t 23) (.c (.b true)) (.t 25))] [5,21,22,23,24,25])
 (.cond (.t 26)
 (.region [It 27 (.iface 9 (.c (.s [116,104,101,32,114,101,115,117,108,116,32,111,102,32,40,108,101,110,40,120,41,32,42,32,99,111,117,110,116,41,32,111,118,101,114,102,108,111,119,115]))),
 ⟨none,.bad,none,[]⟩] [26,27])
 (.region [] [26])))
 (.seq (.region [Mv 28 6,
 It 29 (.conv .i64 (.t 28)),
 It 30 (.mksl 1 8 [i0] (.t 29) (.t 29)),
 Mv 7 30] [6,28,29,30])
 (.seq (.region [Mv 31 7,
 Mv 32 0,
 It 33 (.cpy 1 (.t 31) (.t 32)),
 Mv 8 33] [0,31,32,33])
 (.seq (.block 0
 (.loop L56a))
 (.seq (.region [Mv 47 7,
 Mv 4 47] [7,8,37,47])
 .ret)))))))),
    48,2,[.t 4],1⟩
theorem tr56:trFunc Tryz.prog (hz [(12,[0,1,2,3,4,5,6,7,8,9])] I56.body) 1 Tryz.f56=some (plain1 I56):=by kernel_rfl
theorem ck56:ckC 2 I56.body=true:=by kernel_rfl
def I57:IFunc :=
  ⟨(.seq (.region [It 3 (.box (.t 0)),
 It 4 (.box (.t 1)),
 It 6 (.mov (.c (.b false)))] [0,1,6])
 (.seq (.region [Mv 7 2,
 It 8 (.mkf 81 [] [(.t 4),(.t 3)]),
 It 9 (.call 80 [(.t 7),(.t 8)]),
 Mv 6 9] [2,3,4,7,8,9])
 .ret)),
    10,3,[.t 6],2⟩
theorem tr57:trFunc Tryz.prog (hz [] I57.body) 1 Tryz.f57=some (plain1 I57):=by kernel_rfl
theorem ck57:ckC 2 I57.body=true:=by kernel_rfl
def L58a:ICode :=
  (.seq (.region [It 9 (.bin .lss (.t 8) (.t 7))] [])
 (.seq (.cond (.t 9)
 (.region [] [9])
 (.exit 0))
 (.seq (.block 1
 (.seq (.region [Mv 10 8,
 Mv 5 10] [10])
 (.seq (.region [Mv 11 1,
 Mv 12 0,
 Mv 13 5,
 Ia 14 5 12 13,
 Lm 15 5 14,
 It 16 (.callv (.t 11) [(.t 15)])] [11,12,13,14,15])
 (.cond (.t 16)
 (.seq (.region [Mv 17 5,
 Mv 4 17] [0,1,7,8,5,16,17])
 .ret)
 (.region [] [5,16])))))
 (.region [It 18 (.bin .add (.t 8) (.c (.i .i64 1))),
 Mv 8 18] [18]))))
def I58:IFunc :=
  ⟨(.seq (.region [It 4 (.mov (.c i0))] [4])
 (.seq (.seq (.region [Mv 6 0,
 Le 7 6,
 It 8 (.mov (.c i0))] [6])
 (.block 0
 (.loop L58a)))
 (.seq (.region [It 4 (.mov (.c (.i .i64 (-1))))] [0,1,7,8,9])
 .ret))),
    19,2,[.t 4],2⟩
theorem tr58:trFunc Tryz.prog (hz [] I58.body) 1 Tryz.f58=some (plain1 I58):=by kernel_rfl
theorem ck58:ckC 2 I58.body=true:=by kernel_rfl
def I59:IFunc :=
  ⟨(.seq (.region [It 1 (.box (.t 0)),
 It 2 (.mov (.c i0))] [0,2])
 (.seq (.seq (.region [Lm 6 5 1,
 It 7 (.call 84 [(.t 6),(.c i0),(.c (.i .i64 256))]),
 Mv 5 7,
 Ex 8 5 0,
 Ex 9 5 1,
 Mv 3 8,
 Mv 4 9] [1,6,7,5,8,9,3])
 (.seq (.region [Mv 10 4,
 It 11 (.un .not (.t 10))] [4,10])
 (.cond (.t 11)
 (.seq (.region [It 2 (.mov (.c (.i .i64 2)))] [11])
 .ret)
 (.region [] [11]))))
 (.seq (.region [It 2 (.mov (.c i0))] [])
 .ret))),
    12,1,[.t 2],2⟩
theorem tr59:trFunc Tryz.prog (hz [] I59.body) 1 Tryz.f59=some (plain1 I59):=by kernel_rfl
theorem ck59:ckC 2 I59.body=true:=by kernel_rfl
def I60:IFunc :=
  ⟨(.seq (.region [It 1 (.box (.t 0)),
 It 2 (.mov (.c (.b false)))] [0,2])
 (.seq (.region [Lm 3 5 1,
 It 4 (.call 34 [(.t 3)]),
 It 5 (.un .not (.t 4)),
 Mv 2 5] [1,3,4,5])
 .ret)),
    6,1,[.t 2],2⟩
theorem tr60:trFunc Tryz.prog (hz [] I60.body) 1 Tryz.f60=some (plain1 I60):=by kernel_rfl
theorem ck60:ckC 2 I60.body=true:=by kernel_rfl
def I61:IFunc :=
  ⟨(.seq (.region [It 2 (.box (.t 0)),
 It 3 (.box (.t 1)),
 It 4 (.mov (.c .nm))] [0,1,4])
 (.seq (.region [Of 6 2 1,
 Ld 7 6,
 It 8 (.build [i0,i0,(.s []),.ns,.ns] [(0,1,(.c (.i .i64 1))),(1,1,(.t 7))]),
 It 5 (.alloc [i0,i0,(.s []),.ns,.ns]),
 Ss 5 5 8] [6,7,8])
 (.seq (.region [It 9 .mkmap,
 It 10 (.mkf 85 [] [(.t 3)]),
 ⟨none,(.mapup false [1] (.t 9) (.c (.i .i64 20)) (.t 10)),none,[]⟩,
 It 11 (.mkf 87 [] [(.t 2),(.t 3)]),
 ⟨none,(.mapup false [1] (.t 9) (.c (.i .i64 21)) (.t 11)),none,[]⟩,
 It 12 (.mkf 89 [] [(.t 3),(.t 2)]),
 ⟨none,(.mapup false [1] (.t 9) (.c (.i .i64 22)) (.t 12)),none,[]⟩,
 It 13 (.mkf 91 [] [(.t 3),(.t 2)]),
 ⟨none,(.mapup false [1] (.t 9) (.c (.i .i64 23)) (.t 13)),none,[]⟩,
 It 14 (.mkf 93 [] [(.t 3),(.t 2)]),
 ⟨none,(.mapup false [1] (.t 9) (.c (.i .i64 40)) (.t 14)),none,[]⟩,
 It 15 (.mkf 94 [] [(.t 3)]),
 ⟨none,(.mapup false [1] (.t 9) (.c (.i .i64 41)) (.t 15)),none,[]⟩,
 It 16 (.mkf 95 [] [(.t 3)]),
 ⟨none,(.mapup false [1] (.t 9) (.c (.i .i64 42)) (.t 16)),none,[]⟩,
 It 17 (.mkf 96 [] [(.t 3)]),
 ⟨none,(.mapup false [1] (.t 9) (.c (.i .i64 43)) (.t 17)),none,[]⟩,
 It 18 (.mkf 98 [] [(.t 3)]),
 ⟨none,(.mapup false [1] (.t 9) (.c (.i .i64 44)) (.t 18)),none,[]⟩,
 It 19 (.mkf 99 [] [(.t 3)]),
 ⟨none,(.mapup false [1] (.t 9) (.c (.i .i64 45)) (.t 19)),none,[]⟩,
 It 20 (.mkf 100 [] [(.t 3)]),
 ⟨none,(.mapup false [1] (.t 9) (.c (.i .i64 46)) (.t 20)),none,[]⟩,
 It 21 (.mkf 101 [] [(.t 3)]),
 ⟨none,(.mapup false [1] (.t 9) (.c (.i .i64 47)) (.t 21)),none,[]⟩,
 It 22 (.mkf 102 [] [(.t 3),(.t 5)]),
 ⟨none,(.mapup false [1] (.t 9) (.c (.i .i64 48)) (.t 22)),none,[]⟩,
 It 23 (.mkf 103 [] [(.t 3),(.t 5)]),
 ⟨none,(.mapup false [1] (.t 9) (.c (.i .i64 49)) (.t 23)),none,[]⟩,
 Mv 24 9,
 Mv 4 24] [2,3,5,9,10,11,12,13,14,15,16,17,18,19,20,21,22,23,24])
 .ret))),
    25,2,[.t 4],1⟩
theorem tr61:trFunc Tryz.prog (hz [] I61.body) 1 Tryz.f61=some (plain1 I61):=by kernel_rfl
theorem ck61:ckC 2 I61.body=true:=by kernel_rfl
def I62:IFunc :=
  ⟨(.seq (.region [It 3 (.box (.t 0)),
 It 6 (.alloc [i0,i0,(.s []),.ns,.ns]),
 It 7 (.mov (.c (.b false)))] [0,7])
 (.seq (.region [Lm 8 5 3,
 Mv 9 1,
 It 10 (.bin .eql (.t 9) (.c i0)),
 Mv 11 10,
 Ig 12 11 true (.mov (.t 2)),
 Ig 13 11 true (.bin .eql (.t 12) (.c i0)),
 It 14 (.pick (.t 11) (.t 13) (.c (.b false))),
 Ss 5 6 8,
 Mv 7 14] [1,2,3,8,9,10,11,12,13,14])
 .ret)),
    15,3,[.c 6 (some 5),.t 7],2⟩
theorem tr62:trFunc Tryz.prog (hz [] I62.body) 1 Tryz.f62=some (plain1 I62):=by kernel_rfl
theorem ck62:ckC 2 I62.body=true:=by kernel_rfl
def I63:IFunc :=
  ⟨(.seq (.region [It 4 (.box (.t 1)),
 It 5 (.box (.t 2)),
 It 6 (.alloc [i0,i0,(.s []),.ns,.ns]),
 It 7 (.mov (.c i0)),
 It 8 (.mov (.c i0))] [1,2,8])
 (.seq (.seq (.region [Mv 10 0,
 It 11 (.bin .lss (.t 10) (.c (.i .i64 9))),
 Mv 12 11,
 Ig 13 12 false (.mov (.t 0)),
 Ig 14 12 false (.bin .gtr (.t 13) (.c (.i .i64 19))),
 It 15 (.pick (.t 12) (.c (.b true)) (.t 14)),
 Mv 16 15,
 Ig 17 16 false (.load (some 5) (.t 4)),
 Ig 18 16 false (.load (some 5) (.t 5)),
 Ig 19 16 false (.bsl 5 2 [i0,i0,(.s []),.ns,.ns,i0,i0,(.s []),.ns,.ns] [(0,5,(.t 17)),(5,5,(.t 18))]),
 Ig 20 16 false (.call 104 [(.t 19)]),
 Ig 21 16 false (.un .not (.t 20)),
 It 22 (.pick (.t 16) (.c (.b true)) (.t 21))] [10,11,12,13,14,15,16,17,18,19,20,21])
 (.cond (.t 22)
 (.seq (.region [It 23 (.build [i0,i0,(.s []),.ns,.ns] []),
 Ss 5 6 23,
 It 7 (.mov (.c i0)),
 It 8 (.mov (.c (.i .i64 2)))] [0,4,5,22,23])
 .ret)
 (.region [] [22])))
 (.seq (.region [Of 24 4 0,
 Ld 25 24,
 Of 26 5 0,
 Ld 27 26,
 It 28 (.build [i0,i0] [(0,1,(.t 25)),(1,1,(.t 27))]),
 It 9 (.alloc [i0,i0]),
 Ss 2 9 28] [24,25,26,27,28])
 (.seq (.block 0
 (.seq (.region [Mv 30 0,
 It 31 (.bin .eql (.t 30) (.c (.i .i64 14))),
 Mv 29 31] [30,31])
 (.cond (.t 29)
 (.region [Lm 32 5 4,
 Lm 33 5 5,
 It 34 (.call 52 [(.t 32),(.t 33)]),
 It 35 (.call 105 [(.t 34)]),
 Ss 5 6 35] [0,4,5,9,29,32,33,34,35])
 (.seq (.region [Mv 37 0,
 It 38 (.bin .eql (.t 37) (.c (.i .i64 15))),
 Mv 36 38] [29,37,38])
 (.cond (.t 36)
 (.region [Lm 39 5 4,
 Lm 40 5 5,
 It 41 (.call 52 [(.t 39),(.t 40)]),
 It 42 (.un .not (.t 41)),
 It 43 (.call 105 [(.t 42)]),
 Ss 5 6 43] [0,4,5,9,36,39,40,41,42,43])
 (.seq (.region [Lm 45 2 9,
 It 46 (.build [i0,i0] [(0,1,(.c (.i .i64 1))),(1,1,(.c (.i .i64 1)))]),
 It 47 (.eqAg [1,1] false (.t 45) (.t 46)),
 Mv 44 47] [36,45,46,47])
 (.cond (.t 44)
 (.region [Mv 49 0,
 Of 50 4 1,
 Ld 51 50,
 Of 52 5 1,
 Ld 53 52,
 It 54 (.call 106 [(.t 49),(.t 51),(.t 53)]),
 Mv 48 54,
 Ex 55 48 0,
 Ex 56 48 1,
 Ss 5 6 55,
 Mv 7 56] [0,4,5,9,44,49,50,51,52,53,54,48,55,56])
 (.seq (.region [Lm 58 2 9,
 It 59 (.build [i0,i0] [(0,1,(.c (.i .i64 3))),(1,1,(.c (.i .i64 3)))]),
 It 60 (.eqAg [1,1] false (.t 58) (.t 59)),
 Mv 57 60] [44,58,59,60])
 (.cond (.t 57)
 (.region [Mv 62 0,
 Of 63 4 2,
 Ld 64 63,
 Of 65 5 2,
 Ld 66 65,
 It 67 (.call 107 [(.t 62),(.t 64),(.t 66)]),
 Mv 61 67,
 Ex 68 61 0,
 Ex 69 61 1,
 Ss 5 6 68,
 Mv 7 69] [0,4,5,9,57,62,63,64,65,66,67,61,68,69])
 (.seq (.region [Mv 71 0,
 It 72 (.bin .eql (.t 71) (.c (.i .i64 18))),
 Mv 73 72,
 Ig 74 73 true (.off (.t 4) 0),
 Ig 75 73 true (.load none (.t 74)),
 Ig 76 73 true (.bin .eql (.t 75) (.c (.i .i64 4))),
 It 77 (.pick (.t 73) (.t 76) (.c (.b false))),
 Mv 70 77] [57,71,72,73,74,75,76,77])
 (.cond (.t 70)
 (.region [Lm 79 5 4,
 Lm 80 5 5,
 It 81 (.bsl 5 1 [i0,i0,(.s []),.ns,.ns] [(0,5,(.t 80))]),
 It 82 (.call 108 [(.t 79),(.t 81)]),
 Mv 78 82,
 Ex 83 78 0,
 Ex 84 78 1,
 Ss 5 6 83,
 Mv 7 84] [0,4,5,9,70,79,80,81,82,78,83,84])
 (.seq (.region [Mv 86 0,
 It 87 (.bin .eql (.t 86) (.c (.i .i64 9))),
 Mv 88 87,
 Ig 89 88 true (.load (some 2) (.t 9)),
 Ig 90 88 true (.build [i0,i0] [(0,1,(.c (.i .i64 4))),(1,1,(.c (.i .i64 4)))]),
 Ig 91 88 true (.eqAg [1,1] false (.t 89) (.t 90)),
 It 92 (.pick (.t 88) (.t 91) (.c (.b false))),
 Mv 85 92] [70,86,87,88,89,90,91,92])
 (.cond (.t 85)
 (.region [Lm 94 5 4,
 Of 95 5 3,
 Ld 96 95,
 It 97 (.call 108 [(.t 94),(.t 96)]),
 Mv 93 97,
 Ex 98 93 0,
 Ex 99 93 1,
 Ss 5 6 98,
 Mv 7 99] [0,4,5,9,85,94,95,96,97,93,98,99])
 (.seq (.region [Mv 101 0,
 It 102 (.bin .eql (.t 101) (.c (.i .i64 19))),
 Mv 103 102,
 Ig 104 103 true (.load (some 2) (.t 9)),
 Ig 105 103 true (.build [i0,i0] [(0,1,(.c (.i .i64 4))),(1,1,(.c (.i .i64 1)))]),
 Ig 106 103 true (.eqAg [1,1] false (.t 104) (.t 105)),
 It 107 (.pick (.t 103) (.t 106) (.c (.b false))),
 Mv 100 107] [0,9,85,101,102,103,104,105,106,107])
 (.cond (.t 100)
 (.seq (.seq (.region [Of 108 5 1,
 Ld 109 108,
 It 110 (.bin .lss (.t 109) (.c i0)),
 Mv 111 110,
 Ig 112 111 false (.off (.t 5) 1),
 Ig 113 111 false (.load none (.t 112)),
 Ig 114 111 false (.off (.t 4) 3),
 Ig 115 111 false (.load none (.t 114)),
 Ig 116 111 false (.lenk 0 (.t 115)),
 Ig 117 111 false (.bin .geq (.t 113) (.t 116)),
 It 118 (.pick (.t 111) (.c (.b true)) (.t 117))] [100,108,109,110,111,112,113,114,115,116,117])
 (.cond (.t 118)
 (.seq (.region [It 119 (.build [i0,i0,(.s []),.ns,.ns] []),
 Ss 5 6 119,
 It 7 (.mov (.c (.i .i64 3))),
 It 8 (.mov (.c i0))] [4,5,118,119])
 .ret)
 (.region [] [118])))
 (.region [Of 120 4 3,
 Ld 121 120,
 Of 122 5 1,
 Ld 123 122,
 Ia 124 5 121 123,
 Lm 125 5 124,
 It 126 (.call 109 [(.t 125)]),
 Ss 5 6 126] [4,5,120,121,122,123,124,125,126]))
 (.region [It 7 (.mov (.c (.i .i64 2)))] [4,5,100]))))))))))))))))
 (.seq (.region [Lm 127 5 6,
 Mv 128 7,
 Ss 5 6 127,
 Mv 7 128,
 It 8 (.mov (.c i0))] [127,128])
 .ret))))),
    129,3,[.c 6 (some 5),.t 7,.t 8],2⟩
theorem tr63:trFunc Tryz.prog (hz [] I63.body) 1 Tryz.f63=some (plain1 I63):=by kernel_rfl
theorem ck63:ckC 2 I63.body=true:=by kernel_rfl
def I64:IFunc :=
  ⟨(.seq (.region [It 3 (.box (.t 1)),
 It 4 (.alloc [i0,i0,(.s []),.ns,.ns]),
 It 5 (.mov (.c i0)),
 It 6 (.mov (.c i0))] [1,5,6])
 (.seq (.seq (.region [Lm 9 5 3,
 It 10 (.bsl 5 1 [i0,i0,(.s []),.ns,.ns] [(0,5,(.t 9))]),
 It 11 (.call 104 [(.t 10)]),
 It 12 (.un .not (.t 11))] [9,10,11])
 (.cond (.t 12)
 (.seq (.region [It 13 (.build [i0,i0,(.s []),.ns,.ns] []),
 Ss 5 4 13,
 It 5 (.mov (.c i0)),
 It 6 (.mov (.c (.i .i64 2)))] [0,3,12,13])
 .ret)
 (.region [] [12])))
 (.seq (.region [It 14 (.build [i0,i0,(.s []),.ns,.ns] []),
 It 7 (.alloc [i0,i0,(.s []),.ns,.ns]),
 Ss 5 7 14,
 It 8 (.mov (.c (.b false)))] [14,8])
 (.seq (.seq (.region [Mv 15 0] [0])
 (.block 0
 (.seq (.region [It 18 (.bin .eql (.t 15) (.c (.i .i64 6))),
 Mv 17 18] [18])
 (.cond (.t 17)
 (.region [Of 19 3 1,
 Ld 20 19,
 It 21 (.un .neg (.t 20)),
 Of 23 3 0,
 Ld 24 23,
 It 25 (.bin .eql (.t 24) (.c (.i .i64 1))),
 ⟨(some 22),(.call 110 [(.t 21)]),none,[(24,(.load none (.t 23)),none)]⟩,
 ⟨none,(.store 5 (.t 7) (.t 22)),none,[(24,(.load none (.t 23)),none)]⟩,
 Mv 8 25] [3,15,17,19,20,21,23,24,25,22])
 (.seq (.region [It 27 (.bin .eql (.t 15) (.c (.i .i64 7))),
 Mv 26 27] [17,27])
 (.cond (.t 26)
 (.region [Of 28 3 1,
 Ld 29 28,
 It 30 (.bin .eql (.t 29) (.c i0)),
 Of 32 3 0,
 Ld 33 32,
 It 34 (.bin .eql (.t 33) (.c (.i .i64 2))),
 ⟨(some 31),(.call 105 [(.t 30)]),none,[(33,(.load none (.t 32)),none)]⟩,
 ⟨none,(.store 5 (.t 7) (.t 31)),none,[(33,(.load none (.t 32)),none)]⟩,
 Mv 8 34] [3,15,26,28,29,30,32,33,34,31])
 (.seq (.region [It 36 (.bin .eql (.t 15) (.c (.i .i64 8))),
 Mv 35 36] [15,26,36])
 (.cond (.t 35)
 (.region [Of 37 3 2,
 Ld 38 37,
 It 39 (.lenk 1 (.t 38)),
 Of 40 3 3,
 Ld 41 40,
 Le 42 41,
 It 43 (.bin .add (.t 39) (.t 42)),
 Of 45 3 0,
 Ld 46 45,
 It 47 (.bin .eql (.t 46) (.c (.i .i64 3))),
 ⟨(some 44),(.call 110 [(.t 43)]),none,[(46,(.load none (.t 45)),none)]⟩,
 Mv 48 47,
 Ig 49 48 false (.off (.t 3) 0),
 Ig 50 48 false (.load none (.t 49)),
 Ig 51 48 false (.bin .eql (.t 50) (.c (.i .i64 4))),
 It 52 (.pick (.t 48) (.c (.b true)) (.t 51)),
 ⟨none,(.store 5 (.t 7) (.t 44)),none,[(50,(.load none (.t 49)),(some (48,false)))]⟩,
 Mv 8 52] [3,35,37,38,39,40,41,42,43,45,46,47,44,48,49,50,51,52])
 (.seq (.region [It 16 (.build [i0,i0,(.s []),.ns,.ns] []),
 Ss 5 4 16,
 It 5 (.mov (.c i0)),
 It 6 (.mov (.c (.i .i64 2)))] [3,7,35,16])
 .ret)))))))))
 (.seq (.seq (.region [Mv 53 8,
 It 54 (.un .not (.t 53))] [8,53])
 (.cond (.t 54)
 (.seq (.region [It 55 (.build [i0,i0,(.s []),.ns,.ns] []),
 Ss 5 4 55,
 It 5 (.mov (.c (.i .i64 2))),
 It 6 (.mov (.c i0))] [7,54,55])
 .ret)
 (.region [] [54])))
 (.seq (.region [Lm 56 5 7,
 Ss 5 4 56,
 It 5 (.mov (.c i0)),
 It 6 (.mov (.c i0))] [7,56])
 .ret)))))),
    57,2,[.c 4 (some 5),.t 5,.t 6],2⟩
theorem tr64:trFunc Tryz.prog (hz [(7,[0,1,2,4,5,6,3,7,8]),(9,[0,1,2,4,5,6,3,7,8]),(11,[0,1,2,3,4,5,6,8,9,10,7,11,12,13,14,15,16,17])] I64.body) 1 Tryz.f64=some (plain1 I64):=by kernel_rfl
theorem ck64:ckC 2 I64.body=true:=by kernel_rfl
def I65:IFunc:=⟨cloneCode 5 80,8,1,[.t 2],4⟩
theorem tr65:trFunc Tryz.prog [([],[]),([],[]),([],[]),([],[]),([],[])] 1 Tryz.f65=some (plain1 I65):=by kernel_rfl
theorem ck65:ckC 2 (cloneCode 5 80)=true:=by kernel_rfl
def I66:IFunc :=
  ⟨(.seq (.region [It 2 (.box (.t 0)),
 It 3 (.box (.t 1)),
 It 4 (.mov (.c (.b false)))] [0,1,4])
 (.seq (.region [Of 5 2 0,
 Ld 6 5,
 Of 7 3 0,
 Ld 8 7,
 It 9 (.bin .eql (.t 6) (.t 8)),
 Mv 10 9,
 Ig 11 10 true (.off (.t 2) 1),
 Ig 12 10 true (.load none (.t 11)),
 Ig 13 10 true (.off (.t 3) 1),
 Ig 14 10 true (.load none (.t 13)),
 Ig 15 10 true (.bin .eql (.t 12) (.t 14)),
 It 16 (.pick (.t 10) (.t 15) (.c (.b false))),
 Mv 17 16,
 Ig 18 17 true (.off (.t 2) 3),
 Ig 19 17 true (.load none (.t 18)),
 Ig 20 17 true (.off (.t 3) 3),
 Ig 21 17 true (.load none (.t 20)),
 Ig 22 17 true (.bin .eql (.t 19) (.t 21)),
 It 23 (.pick (.t 17) (.t 22) (.c (.b false))),
 Mv 24 23,
 Ig 25 24 true (.off (.t 2) 2),
 Ig 26 24 true (.load none (.t 25)),
 Ig 27 24 true (.off (.t 3) 2),
 Ig 28 24 true (.load none (.t 27)),
 Ig 29 24 true (.call 67 [(.t 26),(.t 28)]),
 It 30 (.pick (.t 24) (.t 29) (.c (.b false))),
 Mv 31 30,
 Ig 32 31 true (.off (.t 2) 4),
 Ig 33 31 true (.load none (.t 32)),
 Ig 34 31 true (.off (.t 3) 4),
 Ig 35 31 true (.load none (.t 34)),
 Ig 36 31 true (.call 111 [(.t 33),(.t 35)]),
 It 37 (.pick (.t 31) (.t 36) (.c (.b false))),
 Mv 4 37] [2,3,5,6,7,8,9,10,11,12,13,14,15,16,17,18,19,20,21,22,23,24,25,26,27,28,29,30,31,32,33,34,35,36,37])
 .ret)),
    38,2,[.t 4],2⟩
theorem tr66:trFunc Tryz.prog (hz [] I66.body) 1 Tryz.f66=some (plain1 I66):=by kernel_rfl
theorem ck66:ckC 2 I66.body=true:=by kernel_rfl
def L67a:ICode :=
  (.seq (.seq (.region [Mv 11 5,
 Mv 12 0,
 Le 13 12,
 It 14 (.bin .lss (.t 11) (.t 13))] [11,12,13])
 (.cond (.t 14)
 (.region [] [14])
 (.exit 0)))
 (.seq (.block 1
 (.seq (.region [Mv 17 0,
 Mv 18 5,
 Ia 19 7 17 18,
 Lm 20 7 19,
 Mv 21 1,
 Mv 22 5,
 Ia 23 7 21 22,
 Lm 24 7 23,
 It 25 (.call 68 [(.t 20),(.t 24)]),
 It 26 (.un .not (.t 25))] [17,18,19,20,21,22,23,24,25])
 (.cond (.t 26)
 (.seq (.region [It 4 (.mov (.c (.b false)))] [0,1,5,26])
 .ret)
 (.region [] [26]))))
 (.region [Mv 15 5,
 It 16 (.bin .add (.t 15) (.c (.i .i64 1))),
 Mv 5 16] [15,16])))
def I67:IFunc :=
  ⟨(.seq (.region [It 4 (.mov (.c (.b false)))] [4])
 (.seq (.seq (.region [Mv 6 0,
 Le 7 6,
 Mv 8 1,
 Le 9 8,
 It 10 (.bin .neq (.t 7) (.t 9))] [6,7,8,9])
 (.cond (.t 10)
 (.seq (.region [It 4 (.mov (.c (.b false)))] [0,1,10])
 .ret)
 (.region [] [10])))
 (.seq (.seq (.region [It 5 (.mov (.c i0))] [])
 (.block 0
 (.loop L67a)))
 (.seq (.region [It 4 (.mov (.c (.b true)))] [0,1,5,14])
 .ret)))),
    27,2,[.t 4],2⟩
theorem tr67:trFunc Tryz.prog (hz [(7,[0,1,2,3,4,5,6,7,8,9])] I67.body) 1 Tryz.f67=some (plain1 I67):=by kernel_rfl
theorem ck67:ckC 2 I67.body=true:=by kernel_rfl
def I68:IFunc :=
  ⟨(.seq (.region [It 2 (.box (.t 0)),
 It 3 (.box (.t 1)),
 It 4 (.mov (.c (.b false)))] [0,1,4])
 (.seq (.region [Of 5 2 0,
 Ld 6 5,
 Of 7 3 0,
 Ld 8 7,
 It 9 (.bin .eql (.t 6) (.t 8)),
 Mv 10 9,
 Ig 11 10 true (.off (.t 2) 1),
 Ig 12 10 true (.load none (.t 11)),
 Ig 13 10 true (.off (.t 3) 1),
 Ig 14 10 true (.load none (.t 13)),
 Ig 15 10 true (.bin .eql (.t 12) (.t 14)),
 It 16 (.pick (.t 10) (.t 15) (.c (.b false))),
 Mv 17 16,
 Ig 18 17 true (.off (.t 2) 2),
 Ig 19 17 true (.load (some 5) (.t 18)),
 Ig 20 17 true (.off (.t 3) 2),
 Ig 21 17 true (.load (some 5) (.t 20)),
 Ig 22 17 true (.call 55 [(.t 19),(.t 21)]),
 It 23 (.pick (.t 17) (.t 22) (.c (.b false))),
 Mv 4 23] [2,3,5,6,7,8,9,10,11,12,13,14,15,16,17,18,19,20,21,22,23])
 .ret)),
    24,2,[.t 4],2⟩
theorem tr68:trFunc Tryz.prog (hz [] I68.body) 1 Tryz.f68=some (plain1 I68):=by kernel_rfl
theorem ck68:ckC 2 I68.body=true:=by kernel_rfl
def L69a:ICode :=
  (.seq (.seq (.region [Mv 5 4,
 Mv 6 0,
 Le 7 6,
 It 8 (.bin .lss (.t 5) (.t 7))] [5,6,7])
 (.cond (.t 8)
 (.region [] [8])
 (.exit 0)))
 (.seq (.block 1
 (.region [Mv 11 3,
 Mv 12 0,
 Mv 13 4,
 Ia 14 7 12 13,
 Of 15 14 0,
 Ld 16 15,
 Mv 17 0,
 Mv 18 4,
 Ia 19 7 17 18,
 Of 20 19 1,
 Ld 21 20,
 Mv 22 0,
 Mv 23 4,
 Ia 24 7 22 23,
 Of 25 24 2,
 Lm 26 5 25,
 It 27 (.build [i0,i0,i0,i0,(.s []),.ns,.ns] [(0,1,(.t 16)),(1,1,(.t 21)),(2,5,(.t 26))]),
 It 28 (.bsl 7 1 [i0,i0,i0,i0,(.s []),.ns,.ns] [(0,7,(.t 27))]),
 It 29 (.app 7 96 (.t 11) (.t 28)),
 Mv 3 29] [11,12,13,14,15,16,17,18,19,20,21,22,23,24,25,26,27,28,29]))
 (.region [Mv 9 4,
 It 10 (.bin .add (.t 9) (.c (.i .i64 1))),
 Mv 4 10] [9,10])))
def I69:IFunc :=
  ⟨(.seq (.region [It 2 (.mov (.c .ns))] [2])
 (.seq (.region [It 3 (.mov (.c .ns))] [])
 (.seq (.seq (.region [It 4 (.mov (.c i0))] [])
 (.block 0
 (.loop L69a)))
 (.seq (.region [Mv 30 3,
 Mv 2 30] [0,3,4,8,30])
 .ret)))),
    31,1,[.t 2],2⟩
theorem tr69:trFunc Tryz.prog (hz [(5,[0,1,2,3,4,5,6,7,8,9,10,11,12,13,14,15,16,17,18,19])] I69.body) 1 Tryz.f69=some (plain1 I69):=by kernel_rfl
theorem ck69:ckC 2 I69.body=true:=by kernel_rfl
def L70a:ICode :=
  (.seq (.region [It 18 (.bin .lss (.t 17) (.t 16))] [])
 (.seq (.cond (.t 18)
 (.region [] [18])
 (.exit 0))
 (.seq (.block 1
 (.seq (.region [Mv 19 17,
 Ia 20 7 15 17,
 Lm 21 7 20,
 It 8 (.alloc [i0,i0,i0,i0,(.s []),.ns,.ns]),
 Mv 7 19,
 Ss 7 8 21] [19,20,21])
 (.seq (.region [Mv 22 1,
 Mv 23 7,
 Ia 24 7 22 23,
 Lm 25 7 24,
 It 9 (.alloc [i0,i0,i0,i0,(.s []),.ns,.ns]),
 Ss 7 9 25] [7,22,23,24,25])
 (.seq (.region [Mv 26 2,
 Lm 27 7 8,
 Lm 28 7 9,
 It 29 (.callv (.t 26) [(.t 27),(.t 28)]),
 It 30 (.un .not (.t 29))] [8,9,26,27,28,29])
 (.cond (.t 30)
 (.seq (.region [It 6 (.mov (.c (.b false)))] [1,2,15,16,17,30])
 .ret)
 (.region [] [30]))))))
 (.region [It 31 (.bin .add (.t 17) (.c (.i .i64 1))),
 Mv 17 31] [31]))))
def I70:IFunc :=
  ⟨(.seq (.region [It 6 (.mov (.c (.b false)))] [6])
 (.seq (.seq (.region [Mv 10 0,
 Le 11 10,
 Mv 12 1,
 Le 13 12,
 It 14 (.bin .neq (.t 11) (.t 13))] [10,11,12,13])
 (.cond (.t 14)
 (.seq (.region [It 6 (.mov (.c (.b false)))] [0,1,2,14])
 .ret)
 (.region [] [14])))
 (.seq (.seq (.region [Mv 15 0,
 Le 16 15,
 It 17 (.mov (.c i0))] [0])
 (.block 0
 (.loop L70a)))
 (.seq (.region [It 6 (.mov (.c (.b true)))] [1,2,15,16,17,18])
 .ret)))),
    32,3,[.t 6],2⟩
theorem tr70:trFunc Tryz.prog (hz [] I70.body) 1 Tryz.f70=some (plain1 I70):=by kernel_rfl
theorem ck70:ckC 2 I70.body=true:=by kernel_rfl
def I71:IFunc :=
  ⟨(.seq (.region [It 2 (.box (.t 0)),
 It 3 (.box (.t 1)),
 It 4 (.mov (.c (.b false)))] [0,1,4])
 (.seq (.region [Of 5 2 0,
 Ld 6 5,
 Of 7 3 0,
 Ld 8 7,
 It 9 (.bin .eql (.t 6) (.t 8)),
 Mv 10 9,
 Ig 11 10 true (.off (.t 2) 1),
 Ig 12 10 true (.load none (.t 11)),
 Ig 13 10 true (.off (.t 3) 1),
 Ig 14 10 true (.load none (.t 13)),
 Ig 15 10 true (.bin .eql (.t 12) (.t 14)),
 It 16 (.pick (.t 10) (.t 15) (.c (.b false))),
 Mv 17 16,
 Ig 18 17 true (.off (.t 2) 2),
 Ig 19 17 true (.load (some 5) (.t 18)),
 Ig 20 17 true (.off (.t 3) 2),
 Ig 21 17 true (.load (some 5) (.t 20)),
 Ig 22 17 true (.call 112 [(.t 19),(.t 21)]),
 It 23 (.pick (.t 17) (.t 22) (.c (.b false))),
 Mv 4 23] [2,3,5,6,7,8,9,10,11,12,13,14,15,16,17,18,19,20,21,22,23])
 .ret)),
    24,2,[.t 4],2⟩
theorem tr71:trFunc Tryz.prog (hz [] I71.body) 1 Tryz.f71=some (plain1 I71):=by kernel_rfl
theorem ck71:ckC 2 I71.body=true:=by kernel_rfl
def L72a:ICode :=
  (.seq (.region [It 14 (.bin .lss (.t 13) (.t 12))] [])
 (.seq (.cond (.t 14)
 (.region [] [14])
 (.exit 0))
 (.seq (.block 1
 (.seq (.region [Mv 15 13,
 Mv 5 15] [15])
 (.seq (.region [Mv 16 0,
 Mv 17 5,
 Ia 18 1 16 17,
 Ld 19 18,
 Mv 20 1,
 Mv 21 5,
 Ia 22 1 20 21,
 Ld 23 22,
 It 24 (.bin .neq (.t 19) (.t 23))] [5,16,17,18,19,20,21,22,23])
 (.cond (.t 24)
 (.seq (.region [It 4 (.mov (.c (.b false)))] [0,1,12,13,24])
 .ret)
 (.region [] [24])))))
 (.region [It 25 (.bin .add (.t 13) (.c (.i .i64 1))),
 Mv 13 25] [25]))))
def I72:IFunc :=
  ⟨(.seq (.region [It 4 (.mov (.c (.b false)))] [4])
 (.seq (.seq (.region [Mv 6 0,
 Le 7 6,
 Mv 8 1,
 Le 9 8,
 It 10 (.bin .neq (.t 7) (.t 9))] [6,7,8,9])
 (.cond (.t 10)
 (.seq (.region [It 4 (.mov (.c (.b false)))] [0,1,10])
 .ret)
 (.region [] [10])))
 (.seq (.seq (.region [Mv 11 0,
 Le 12 11,
 It 13 (.mov (.c i0))] [11])
 (.block 0
 (.loop L72a)))
 (.seq (.region [It 4 (.mov (.c (.b true)))] [0,1,12,13,14])
 .ret)))),
    26,2,[.t 4],2⟩
theorem tr72:trFunc Tryz.prog (hz [(8,[0,1,2,3,4,5,6,7,8])] I72.body) 1 Tryz.f72=some (plain1 I72):=by kernel_rfl
theorem ck72:ckC 2 I72.body=true:=by kernel_rfl
def I73:IFunc :=
  ⟨(.seq (.region [It 2 (.mov (.c .ns))] [2])
 (.seq (.region [It 3 (.mov (.c .ns))] [])
 (.seq (.region [Mv 4 3,
 Mv 5 0,
 It 6 (.app 1 16 (.t 4) (.t 5)),
 Mv 3 6] [0,4,5,6])
 (.seq (.region [Mv 7 3,
 Mv 2 7] [3,7])
 .ret)))),
    8,1,[.t 2],2⟩
theorem tr73:trFunc Tryz.prog (hz [] I73.body) 1 Tryz.f73=some (plain1 I73):=by kernel_rfl
theorem ck73:ckC 2 I73.body=true:=by kernel_rfl
def I74:IFunc :=
  ⟨(.seq (.region [It 2 (.mov (.c (.b false)))] [2])
 (.seq (.region [Mv 3 0,
 Le 4 3,
 It 5 (.bin .leq (.t 4) (.c (.i .i64 8))),
 Mv 6 5,
 Ig 7 6 true (.mov (.t 0)),
 Ig 8 6 true (.mov (.t 0)),
 Ig 9 6 true (.lenk 0 (.t 8)),
 Ig 10 6 true (.mksl 5 80 [i0,i0,(.s []),.ns,.ns] (.t 9) (.t 9)),
 Ig 11 6 true (.build [i0,i0,(.s []),.ns,.ns] [(0,1,(.c (.i .i64 5))),(4,1,(.t 7)),(3,1,(.t 10))]),
 Ig 12 6 true (.call 34 [(.t 11)]),
 It 13 (.pick (.t 6) (.t 12) (.c (.b false))),
 Mv 2 13] [0,3,4,5,6,7,8,9,10,11,12,13])
 .ret)),
    14,1,[.t 2],2⟩
theorem tr74:trFunc Tryz.prog (hz [] I74.body) 1 Tryz.f74=some (plain1 I74):=by kernel_rfl
theorem ck74:ckC 2 I74.body=true:=by kernel_rfl
def I75:IFunc :=
  ⟨(.seq (.region [It 2 (.mov (.c (.b false)))] [2])
 (.seq (.region [Mv 6 0,
 It 7 (.call 113 [(.t 6)]),
 Mv 5 7,
 Ex 8 5 0,
 Ex 9 5 1,
 It 3 (.alloc [i0,.ns,.ns]),
 Ss 3 3 8,
 Mv 4 9] [0,6,7,5,8,9,3])
 (.seq (.region [Mv 10 4,
 Mv 2 10] [4,10])
 .ret))),
    11,1,[.t 2],2⟩
theorem tr75:trFunc Tryz.prog (hz [] I75.body) 1 Tryz.f75=some (plain1 I75):=by kernel_rfl
theorem ck75:ckC 2 I75.body=true:=by kernel_rfl
def L76a:ICode :=
  (.seq (.region [It 18 (.bin .lss (.t 17) (.t 16))] [])
 (.seq (.cond (.t 18)
 (.region [] [18])
 (.exit 0))
 (.seq (.block 1
 (.seq (.region [Mv 19 17,
 Ia 20 5 15 17,
 Lm 21 5 20,
 It 8 (.alloc [i0,i0,(.s []),.ns,.ns]),
 Mv 7 19,
 Ss 5 8 21] [19,20,21])
 (.seq (.region [Mv 22 1,
 Mv 23 7,
 Ia 24 5 22 23,
 Lm 25 5 24,
 It 9 (.alloc [i0,i0,(.s []),.ns,.ns]),
 Ss 5 9 25] [7,22,23,24,25])
 (.seq (.region [Mv 26 2,
 Lm 27 5 8,
 Lm 28 5 9,
 It 29 (.callv (.t 26) [(.t 27),(.t 28)]),
 It 30 (.un .not (.t 29))] [8,9,26,27,28,29])
 (.cond (.t 30)
 (.seq (.region [It 6 (.mov (.c (.b false)))] [1,2,15,16,17,30])
 .ret)
 (.region [] [30]))))))
 (.region [It 31 (.bin .add (.t 17) (.c (.i .i64 1))),
 Mv 17 31] [31]))))
def I76:IFunc :=
  ⟨(.seq (.region [It 6 (.mov (.c (.b false)))] [6])
 (.seq (.seq (.region [Mv 10 0,
 Le 11 10,
 Mv 12 1,
 Le 13 12,
 It 14 (.bin .neq (.t 11) (.t 13))] [10,11,12,13])
 (.cond (.t 14)
 (.seq (.region [It 6 (.mov (.c (.b false)))] [0,1,2,14])
 .ret)
 (.region [] [14])))
 (.seq (.seq (.region [Mv 15 0,
 Le 16 15,
 It 17 (.mov (.c i0))] [0])
 (.block 0
 (.loop L76a)))
 (.seq (.region [It 6 (.mov (.c (.b true)))] [1,2,15,16,17,18])
 .ret)))),
    32,3,[.t 6],2⟩
theorem tr76:trFunc Tryz.prog (hz [] I76.body) 1 Tryz.f76=some (plain1 I76):=by kernel_rfl
theorem ck76:ckC 2 I76.body=true:=by kernel_rfl
def L77a:ICode :=
  (.seq (.region [It 9 (.bin .lss (.t 8) (.t 7))] [])
 (.seq (.cond (.t 9)
 (.region [] [9])
 (.exit 0))
 (.seq (.block 1
 (.seq (.region [Mv 10 8,
 Mv 5 10] [10])
 (.seq (.region [Mv 11 1,
 Mv 12 0,
 Mv 13 5,
 Ia 14 7 12 13,
 Lm 15 7 14,
 It 16 (.callv (.t 11) [(.t 15)])] [11,12,13,14,15])
 (.cond (.t 16)
 (.seq (.region [Mv 17 5,
 Mv 4 17] [0,1,7,8,5,16,17])
 .ret)
 (.region [] [5,16])))))
 (.region [It 18 (.bin .add (.t 8) (.c (.i .i64 1))),
 Mv 8 18] [18]))))
def I77:IFunc :=
  ⟨(.seq (.region [It 4 (.mov (.c i0))] [4])
 (.seq (.seq (.region [Mv 6 0,
 Le 7 6,
 It 8 (.mov (.c i0))] [6])
 (.block 0
 (.loop L77a)))
 (.seq (.region [It 4 (.mov (.c (.i .i64 (-1))))] [0,1,7,8,9])
 .ret))),
    19,2,[.t 4],2⟩
theorem tr77:trFunc Tryz.prog (hz [] I77.body) 1 Tryz.f77=some (plain1 I77):=by kernel_rfl
theorem ck77:ckC 2 I77.body=true:=by kernel_rfl
def L78a:ICode :=
  (.seq (.seq (.region [Mv 38 5,
 Of 39 2 4,
 Ld 40 39,
 Le 41 40,
 It 42 (.bin .lss (.t 38) (.t 41)),
 Mv 43 42,
 Ig 44 43 true (.mov (.t 5)),
 Ig 45 43 true (.off (.t 3) 4),
 Ig 46 43 true (.load none (.t 45)),
 Ig 47 43 true (.lenk 0 (.t 46)),
 Ig 48 43 true (.bin .lss (.t 44) (.t 47)),
 It 49 (.pick (.t 43) (.t 48) (.c (.b false)))] [38,39,40,41,42,43,44,45,46,47,48])
 (.cond (.t 49)
 (.region [] [49])
 (.exit 0)))
 (.seq (.block 1
 (.seq (.region [Of 52 2 4,
 Ld 53 52,
 Mv 54 5,
 Ia 55 1 53 54,
 Ld 56 55,
 Of 57 3 4,
 Ld 58 57,
 Mv 59 5,
 Ia 60 1 58 59,
 Ld 61 60,
 It 62 (.bin .neq (.t 56) (.t 61))] [52,53,54,55,56,57,58,59,60,61])
 (.cond (.t 62)
 (.seq (.region [Of 63 2 4,
 Ld 64 63,
 Mv 65 5,
 Ia 66 1 64 65,
 Ld 67 66,
 Of 68 3 4,
 Ld 69 68,
 Mv 70 5,
 Ia 71 1 69 70,
 Ld 72 71,
 It 73 (.call 115 [(.t 67),(.t 72)]),
 Mv 4 73] [2,3,5,62,63,64,65,66,67,68,69,70,71,72,73])
 .ret)
 (.region [] [62]))))
 (.region [Mv 50 5,
 It 51 (.bin .add (.t 50) (.c (.i .i64 1))),
 Mv 5 51] [50,51])))
def L78b:ICode :=
  (.seq (.seq (.region [Mv 88 6,
 Of 89 2 3,
 Ld 90 89,
 Le 91 90,
 It 92 (.bin .lss (.t 88) (.t 91)),
 Mv 93 92,
 Ig 94 93 true (.mov (.t 6)),
 Ig 95 93 true (.off (.t 3) 3),
 Ig 96 93 true (.load none (.t 95)),
 Ig 97 93 true (.lenk 0 (.t 96)),
 Ig 98 93 true (.bin .lss (.t 94) (.t 97)),
 It 99 (.pick (.t 93) (.t 98) (.c (.b false)))] [88,89,90,91,92,93,94,95,96,97,98])
 (.cond (.t 99)
 (.region [] [99])
 (.exit 2)))
 (.seq (.block 3
 (.seq (.region [Of 102 2 3,
 Ld 103 102,
 Mv 104 6,
 Ia 105 5 103 104,
 Lm 106 5 105,
 Of 107 3 3,
 Ld 108 107,
 Mv 109 6,
 Ia 110 5 108 109,
 Lm 111 5 110,
 It 112 (.call 78 [(.t 106),(.t 111)]),
 Mv 7 112] [102,103,104,105,106,107,108,109,110,111,112])
 (.seq (.region [Mv 113 7,
 It 114 (.bin .neq (.t 113) (.c i0))] [113])
 (.cond (.t 114)
 (.seq (.region [Mv 115 7,
 Mv 4 115] [2,3,6,7,114,115])
 .ret)
 (.region [] [7,114])))))
 (.region [Mv 100 6,
 It 101 (.bin .add (.t 100) (.c (.i .i64 1))),
 Mv 6 101] [100,101])))
def I78:IFunc :=
  ⟨(.seq (.region [It 2 (.box (.t 0)),
 It 3 (.box (.t 1)),
 It 4 (.mov (.c i0))] [0,1,4])
 (.seq (.seq (.region [Of 8 2 0,
 Ld 9 8,
 Of 10 3 0,
 Ld 11 10,
 It 12 (.bin .neq (.t 9) (.t 11))] [8,9,10,11])
 (.cond (.t 12)
 (.seq (.region [Of 13 2 0,
 Ld 14 13,
 Of 15 3 0,
 Ld 16 15,
 It 17 (.call 114 [(.t 14),(.t 16)]),
 Mv 4 17] [2,3,12,13,14,15,16,17])
 .ret)
 (.region [] [12])))
 (.seq (.seq (.region [Of 18 2 1,
 Ld 19 18,
 Of 20 3 1,
 Ld 21 20,
 It 22 (.bin .neq (.t 19) (.t 21))] [18,19,20,21])
 (.cond (.t 22)
 (.seq (.region [Of 23 2 1,
 Ld 24 23,
 Of 25 3 1,
 Ld 26 25,
 It 27 (.call 114 [(.t 24),(.t 26)]),
 Mv 4 27] [2,3,22,23,24,25,26,27])
 .ret)
 (.region [] [22])))
 (.seq (.seq (.region [Of 28 2 2,
 Ld 29 28,
 Of 30 3 2,
 Ld 31 30,
 It 32 (.bin .neq (.t 29) (.t 31))] [28,29,30,31])
 (.cond (.t 32)
 (.seq (.region [Of 33 2 2,
 Ld 34 33,
 Of 35 3 2,
 Ld 36 35,
 It 37 (.call 115 [(.t 34),(.t 36)]),
 Mv 4 37] [2,3,32,33,34,35,36,37])
 .ret)
 (.region [] [32])))
 (.seq (.seq (.region [It 5 (.mov (.c i0))] [])
 (.block 0
 (.loop L78a)))
 (.seq (.seq (.region [Of 74 2 4,
 Ld 75 74,
 Le 76 75,
 Of 77 3 4,
 Ld 78 77,
 Le 79 78,
 It 80 (.bin .neq (.t 76) (.t 79))] [5,49,74,75,76,77,78,79])
 (.cond (.t 80)
 (.seq (.region [Of 81 2 4,
 Ld 82 81,
 Le 83 82,
 Of 84 3 4,
 Ld 85 84,
 Le 86 85,
 It 87 (.call 114 [(.t 83),(.t 86)]),
 Mv 4 87] [2,3,80,81,82,83,84,85,86,87])
 .ret)
 (.region [] [80])))
 (.seq (.seq (.region [It 6 (.mov (.c i0))] [])
 (.block 2
 (.loop L78b)))
 (.seq (.region [Of 116 2 3,
 Ld 117 116,
 Le 118 117,
 Of 119 3 3,
 Ld 120 119,
 Le 121 120,
 It 122 (.call 114 [(.t 118),(.t 121)]),
 Mv 4 122] [2,3,6,99,116,117,118,119,120,121,122])
 .ret)))))))),
    123,2,[.t 4],2⟩
theorem tr78:trFunc Tryz.prog (hz [(13,[0,1,2,3,4,5,6,7,8,9,10]),(14,[0,1,2,3,4,5,6,7,8,9,10,11]),(23,[0,1,2,3,4,5,6,7,8,9,10,11])] I78.body) 1 Tryz.f78=some (plain1 I78):=by kernel_rfl
theorem ck78:ckC 2 I78.body=true:=by kernel_rfl
def I79:IFunc :=
  ⟨(.seq (.region [It 4 (.mov (.c (.i .u64 (0)))),
 It 5 (.mov (.c (.i .u64 (0))))] [4,5])
 (.seq (.cond (.c (.b false))
 (.seq (.region [Mv 11 0,
 It 12 (.conv .u32 (.t 11)),
 Mv 13 1,
 It 14 (.conv .u32 (.t 13)),
 It 15 (.call 116 [(.t 12),(.t 14)]),
 Mv 10 15,
 Ex 16 10 0,
 Ex 17 10 1,
 Mv 6 16,
 Mv 7 17] [0,1,11,12,13,14,15,10,16,17])
 (.seq (.region [Mv 18 6,
 It 19 (.conv .u64 (.t 18)),
 Mv 20 7,
 It 21 (.conv .u64 (.t 20)),
 Mv 4 19,
 Mv 5 21] [6,7,18,19,20,21])
 .ret))
 .skip)
 (.seq (.region [Mv 23 0,
 Mv 24 1,
 It 25 (.call 117 [(.t 23),(.t 24)]),
 Mv 22 25,
 Ex 26 22 0,
 Ex 27 22 1,
 Mv 8 26,
 Mv 9 27] [0,1,23,24,25,22,26,27])
 (.seq (.region [Mv 28 8,
 Mv 29 9,
 Mv 4 28,
 Mv 5 29] [8,9,28,29])
 .ret)))),
    30,2,[.t 4,.t 5],2⟩
theorem tr79:trFunc Tryz.prog (hz [] I79.body) 1 Tryz.f79=some (plain1 I79):=by kernel_rfl
theorem ck79:ckC 2 I79.body=true:=by kernel_rfl
def I80:IFunc :=
  ⟨(.seq (.region [It 4 (.mov (.c (.b false)))] [4])
 (.seq (.region [Mv 5 0,
 Mv 6 1,
 It 7 (.call 118 [(.t 5),(.t 6)]),
 It 8 (.bin .geq (.t 7) (.c i0)),
 Mv 4 8] [0,1,5,6,7,8])
 .ret)),
    9,2,[.t 4],2⟩
theorem tr80:trFunc Tryz.prog (hz [] I80.body) 1 Tryz.f80=some (plain1 I80):=by kernel_rfl
theorem ck80:ckC 2 I80.body=true:=by kernel_rfl
def I81:IFunc :=
  ⟨(.seq (.region [It 3 (.box (.t 0)),
 It 4 (.mov (.c (.b false)))] [0,4])
 (.seq (.region [Ld 5 1,
 It 6 (.mkf 82 [] [(.t 2),(.t 3)]),
 It 7 (.call 53 [(.t 5),(.t 6)]),
 It 8 (.un .not (.t 7)),
 Mv 4 8] [1,2,3,5,6,7,8])
 .ret)),
    9,3,[.t 4],2⟩
theorem tr81:trFunc Tryz.prog (hz [] I81.body) 1 Tryz.f81=some (plain1 I81):=by kernel_rfl
theorem ck81:ckC 2 I81.body=true:=by kernel_rfl
def I82:IFunc :=
  ⟨(.seq (.region [It 3 (.box (.t 0)),
 It 4 (.mov (.c (.b false)))] [0,4])
 (.seq (.region [Ld 5 1,
 Lm 6 7 3,
 Ld 8 2,
 ⟨(some 7),(.call 83 [(.t 5),(.t 6)]),none,[(8,(.load none (.t 2)),none)]⟩,
 It 9 (.bin .neq (.t 7) (.t 8)),
 Mv 4 9] [1,2,3,5,6,8,7,9])
 .ret)),
    10,3,[.t 4],2⟩
theorem tr82:trFunc Tryz.prog (hz [(1,[0,1,3,2,4,5])] I82.body) 1 Tryz.f82=some (plain1 I82):=by kernel_rfl
theorem ck82:ckC 2 I82.body=true:=by kernel_rfl
def I83:IFunc :=
  ⟨(.seq (.region [It 3 (.box (.t 1)),
 It 4 (.mov (.c i0))] [1,4])
 (.seq (.seq (.region [Of 5 3 0,
 Ld 6 5] [5])
 (.block 0
 (.seq (.region [It 8 (.bin .eql (.t 6) (.c (.i .i64 1))),
 Mv 7 8] [8])
 (.cond (.t 7)
 (.seq (.region [Mv 9 0,
 It 10 (.nck (.t 9)),
 Of 11 10 1,
 Ld 12 11,
 Of 13 3 1,
 Ld 14 13,
 Ia 15 1 12 14,
 Ld 16 15,
 Mv 4 16] [0,3,6,7,9,10,11,12,13,14,15,16])
 .ret)
 (.seq (.region [It 18 (.bin .eql (.t 6) (.c (.i .i64 2))),
 Mv 17 18] [6,7,18])
 (.cond (.t 17)
 (.seq (.region [Mv 19 0,
 It 20 (.nck (.t 19)),
 Of 21 20 0,
 Ld 22 21,
 Of 23 3 1,
 Ld 24 23,
 Ia 25 5 22 24,
 Lm 26 5 25,
 It 27 (.call 119 [(.t 26)]),
 Mv 4 27] [0,3,17,19,20,21,22,23,24,25,26,27])
 .ret)
 (.region [] [0,17])))))))
 (.seq (.region [Of 28 3 2,
 Of 29 28 0,
 Ld 30 29,
 Mv 4 30] [3,28,29,30])
 .ret))),
    31,2,[.t 4],2⟩
theorem tr83:trFunc Tryz.prog (hz [(3,[0,1,2,3,4,5,6,7,8]),(5,[0,1,2,3,4,5,6,7,8,9])] I83.body) 1 Tryz.f83=some (plain1 I83):=by kernel_rfl
theorem ck83:ckC 2 I83.body=true:=by kernel_rfl
def L84a:ICode :=
  (.seq (.region [It 22 (.bin .lss (.t 21) (.t 20))] [])
 (.seq (.cond (.t 22)
 (.region [] [22])
 (.exit 0))
 (.seq (.block 1
 (.seq (.region [Ia 23 1 19 21,
 Ld 24 23,
 Mv 9 24] [23,24])
 (.region [Mv 25 2,
 Mv 26 9,
 It 27 (.lenk 1 (.t 26)),
 It 28 (.bin .sub (.t 25) (.t 27)),
 Mv 2 28] [9,25,26,27,28])))
 (.region [It 29 (.bin .add (.t 21) (.c (.i .i64 1))),
 Mv 21 29] [29]))))
def L84b:ICode :=
  (.seq (.region [It 45 (.bin .lss (.t 44) (.t 43))] [])
 (.seq (.cond (.t 45)
 (.region [] [45])
 (.exit 2))
 (.seq (.block 3
 (.seq (.region [Mv 46 44,
 Mv 11 46] [46])
 (.seq (.region [Of 48 3 3,
 Ld 49 48,
 Mv 50 11,
 Ia 51 5 49 50,
 Lm 52 5 51,
 Mv 53 1,
 It 54 (.bin .add (.t 53) (.c (.i .i64 1))),
 Mv 55 2,
 It 56 (.call 84 [(.t 52),(.t 54),(.t 55)]),
 Mv 47 56,
 Ex 57 47 0,
 Ex 58 47 1,
 Mv 2 57,
 Mv 10 58] [11,48,49,50,51,52,53,54,55,56,47,57,58])
 (.seq (.region [Mv 59 10,
 It 60 (.un .not (.t 59))] [10,59])
 (.cond (.t 60)
 (.seq (.region [It 6 (.mov (.c i0)),
 It 7 (.mov (.c (.b false)))] [1,2,3,43,44,60])
 .ret)
 (.region [] [60]))))))
 (.region [It 61 (.bin .add (.t 44) (.c (.i .i64 1))),
 Mv 44 61] [61]))))
def I84:IFunc :=
  ⟨(.seq (.region [It 3 (.box (.t 0)),
 It 6 (.mov (.c i0)),
 It 7 (.mov (.c (.b false)))] [0,6,7])
 (.seq (.region [Mv 12 2,
 Of 13 3 2,
 Ld 14 13,
 It 15 (.lenk 1 (.t 14)),
 It 16 (.bin .add (.c (.i .i64 1)) (.t 15)),
 It 17 (.bin .sub (.t 12) (.t 16)),
 Mv 2 17] [12,13,14,15,16,17])
 (.seq (.seq (.region [Of 18 3 4,
 Ld 19 18,
 Le 20 19,
 It 21 (.mov (.c i0))] [18])
 (.block 0
 (.loop L84a)))
 (.seq (.seq (.region [Mv 30 1,
 It 31 (.bin .geq (.t 30) (.c (.i .i64 8))),
 Mv 32 31,
 Ig 33 32 false (.mov (.t 2)),
 Ig 34 32 false (.bin .lss (.t 33) (.c i0)),
 It 35 (.pick (.t 32) (.c (.b true)) (.t 34)),
 Mv 36 35,
 Ig 37 36 false (.load (some 5) (.t 3)),
 Ig 38 36 false (.call 120 [(.t 37)]),
 Ig 39 36 false (.un .not (.t 38)),
 It 40 (.pick (.t 36) (.c (.b true)) (.t 39))] [19,20,21,22,30,31,32,33,34,35,36,37,38,39])
 (.cond (.t 40)
 (.seq (.region [It 6 (.mov (.c i0)),
 It 7 (.mov (.c (.b false)))] [1,2,3,40])
 .ret)
 (.region [] [40])))
 (.seq (.region [It 10 (.mov (.c (.b true)))] [10])
 (.seq (.seq (.region [Of 41 3 3,
 Ld 42 41,
 Le 43 42,
 It 44 (.mov (.c i0))] [41,42])
 (.block 2
 (.loop L84b)))
 (.seq (.region [Mv 62 2,
 Mv 6 62,
 It 7 (.mov (.c (.b true)))] [1,2,3,43,44,45,62])
 .ret))))))),
    63,3,[.t 6,.t 7],2⟩
theorem tr84:trFunc Tryz.prog (hz [] I84.body) 1 Tryz.f84=some (plain1 I84):=by kernel_rfl
theorem ck84:ckC 2 I84.body=true:=by kernel_rfl
def I85:IFunc :=
  ⟨(.seq (.region [It 1 (.alloc [i0,i0,(.s []),.ns,.ns]),
 It 2 (.mov (.c (.b false)))] [2])
 (.seq (.region [Ld 3 0,
 It 4 (.call 86 [(.t 3)]),
 Ex 5 4 0,
 Ex 6 4 1,
 Ex 7 4 2,
 It 8 (.call 62 [(.t 5),(.t 6),(.t 7)]),
 Ex 9 8 0,
 Ex 10 8 1,
 Ss 5 1 9,
 Mv 2 10] [0,3,4,5,6,7,8,9,10])
 .ret)),
    11,1,[.c 1 (some 5),.t 2],2⟩
theorem tr85:trFunc Tryz.prog (hz [] I85.body) 1 Tryz.f85=some (plain1 I85):=by kernel_rfl
theorem ck85:ckC 2 I85.body=true:=by kernel_rfl
def I86:IFunc :=
  ⟨(.seq (.region [It 2 (.alloc [i0,i0,(.s []),.ns,.ns]),
 It 3 (.mov (.c i0)),
 It 4 (.mov (.c i0))] [3,4])
 (.seq (.seq (.region [Mv 5 0,
 It 6 (.call 104 [(.t 5)]),
 It 7 (.un .not (.t 6))] [5,6])
 (.cond (.t 7)
 (.seq (.region [It 8 (.build [i0,i0,(.s []),.ns,.ns] []),
 Ss 5 2 8,
 It 3 (.mov (.c i0)),
 It 4 (.mov (.c (.i .i64 2)))] [0,7,8])
 .ret)
 (.region [] [7])))
 (.seq (.region [Mv 10 0,
 It 11 (.build [i0,i0,(.s []),.ns,.ns] [(0,1,(.c (.i .i64 4))),(3,1,(.t 10))]),
 It 12 (.call 121 [(.t 11)]),
 Mv 9 12,
 Ex 13 9 0,
 Ex 14 9 1,
 Ss 5 2 13,
 Mv 3 14] [0,10,11,12,9,13,14])
 (.seq (.region [Lm 15 5 2,
 Mv 16 3,
 Ss 5 2 15,
 Mv 3 16,
 It 4 (.mov (.c i0))] [15,16])
 .ret)))),
    17,1,[.c 2 (some 5),.t 3,.t 4],2⟩
theorem tr86:trFunc Tryz.prog (hz [] I86.body) 1 Tryz.f86=some (plain1 I86):=by kernel_rfl
theorem ck86:ckC 2 I86.body=true:=by kernel_rfl
def I87:IFunc :=
  ⟨(.seq (.region [It 2 (.alloc [i0,i0,(.s []),.ns,.ns]),
 It 3 (.mov (.c (.b false)))] [3])
 (.seq (.region [Of 4 0 4,
 Ld 5 4,
 Ld 6 1,
 It 7 (.call 88 [(.t 5),(.t 6)]),
 Ex 8 7 0,
 Ex 9 7 1,
 Ex 10 7 2,
 It 11 (.call 62 [(.t 8),(.t 9),(.t 10)]),
 Ex 12 11 0,
 Ex 13 11 1,
 Ss 5 2 12,
 Mv 3 13] [0,1,4,5,6,7,8,9,10,11,12,13])
 .ret)),
    14,2,[.c 2 (some 5),.t 3],2⟩
theorem tr87:trFunc Tryz.prog (hz [] I87.body) 1 Tryz.f87=some (plain1 I87):=by kernel_rfl
theorem ck87:ckC 2 I87.body=true:=by kernel_rfl
def I88:IFunc :=
  ⟨(.seq (.region [It 4 (.alloc [i0,i0,(.s []),.ns,.ns]),
 It 5 (.mov (.c i0)),
 It 6 (.mov (.c i0))] [5,6])
 (.seq (.seq (.region [Mv 7 0,
 It 8 (.call 122 [(.t 7)]),
 It 9 (.un .not (.t 8)),
 Mv 10 9,
 Ig 11 10 false (.mov (.t 1)),
 Ig 12 10 false (.lenk 0 (.t 11)),
 Ig 13 10 false (.mov (.t 0)),
 Ig 14 10 false (.lenk 0 (.t 13)),
 Ig 15 10 false (.bin .neq (.t 12) (.t 14)),
 It 16 (.pick (.t 10) (.c (.b true)) (.t 15)),
 Mv 17 16,
 Ig 18 17 false (.mov (.t 1)),
 Ig 19 17 false (.call 104 [(.t 18)]),
 Ig 20 17 false (.un .not (.t 19)),
 It 21 (.pick (.t 17) (.c (.b true)) (.t 20))] [7,8,9,10,11,12,13,14,15,16,17,18,19,20])
 (.cond (.t 21)
 (.seq (.region [It 22 (.build [i0,i0,(.s []),.ns,.ns] []),
 Ss 5 4 22,
 It 5 (.mov (.c i0)),
 It 6 (.mov (.c (.i .i64 2)))] [0,1,21,22])
 .ret)
 (.region [] [21])))
 (.seq (.region [Mv 24 0,
 Mv 25 1,
 It 26 (.build [i0,i0,(.s []),.ns,.ns] [(0,1,(.c (.i .i64 5))),(4,1,(.t 24)),(3,1,(.t 25))]),
 It 27 (.call 121 [(.t 26)]),
 Mv 23 27,
 Ex 28 23 0,
 Ex 29 23 1,
 Ss 5 4 28,
 Mv 5 29] [0,1,24,25,26,27,23,28,29])
 (.seq (.region [Lm 30 5 4,
 Mv 31 5,
 Ss 5 4 30,
 Mv 5 31,
 It 6 (.mov (.c i0))] [30,31])
 .ret)))),
    32,2,[.c 4 (some 5),.t 5,.t 6],2⟩
theorem tr88:trFunc Tryz.prog (hz [] I88.body) 1 Tryz.f88=some (plain1 I88):=by kernel_rfl
theorem ck88:ckC 2 I88.body=true:=by kernel_rfl
def I89:IFunc :=
  ⟨(.seq (.region [It 2 (.alloc [i0,i0,(.s []),.ns,.ns]),
 It 3 (.mov (.c (.b false)))] [3])
 (.seq (.region [Ld 4 0,
 It 5 (.iaddr 5 (.t 4) (.c i0)),
 Lm 6 5 5,
 Of 7 1 3,
 Ld 8 7,
 It 9 (.call 90 [(.t 6),(.t 8)]),
 Ex 10 9 0,
 Ex 11 9 1,
 Ex 12 9 2,
 It 13 (.call 62 [(.t 10),(.t 11),(.t 12)]),
 Ex 14 13 0,
 Ex 15 13 1,
 Ss 5 2 14,
 Mv 3 15] [0,1,4,5,6,7,8,9,10,11,12,13,14,15])
 .ret)),
    16,2,[.c 2 (some 5),.t 3],2⟩
theorem tr89:trFunc Tryz.prog (hz [(1,[0,1,2,3,4,5,6,7,8,9,10,11,12,13])] I89.body) 1 Tryz.f89=some (plain1 I89):=by kernel_rfl
theorem ck89:ckC 2 I89.body=true:=by kernel_rfl
def I90:IFunc :=
  ⟨(.seq (.region [It 2 (.box (.t 0)),
 It 4 (.alloc [i0,i0,(.s []),.ns,.ns]),
 It 5 (.mov (.c i0)),
 It 6 (.mov (.c i0))] [0,5,6])
 (.seq (.seq (.region [Lm 9 5 2,
 It 10 (.bsl 5 1 [i0,i0,(.s []),.ns,.ns] [(0,5,(.t 9))]),
 It 11 (.call 104 [(.t 10)]),
 It 12 (.un .not (.t 11)),
 Mv 13 12,
 Ig 14 13 false (.mov (.t 1)),
 Ig 15 13 false (.bsl 1 1 [(.s [])] [(0,1,(.t 14))]),
 Ig 16 13 false (.call 122 [(.t 15)]),
 Ig 17 13 false (.un .not (.t 16)),
 It 18 (.pick (.t 13) (.c (.b true)) (.t 17))] [9,10,11,12,13,14,15,16,17])
 (.cond (.t 18)
 (.seq (.region [It 19 (.build [i0,i0,(.s []),.ns,.ns] []),
 Ss 5 4 19,
 It 5 (.mov (.c i0)),
 It 6 (.mov (.c (.i .i64 2)))] [1,2,18,19])
 .ret)
 (.region [] [18])))
 (.seq (.seq (.region [Of 20 2 0,
 Ld 21 20,
 It 22 (.bin .neq (.t 21) (.c (.i .i64 5)))] [20,21])
 (.cond (.t 22)
 (.seq (.region [It 23 (.build [i0,i0,(.s []),.ns,.ns] []),
 Ss 5 4 23,
 It 5 (.mov (.c (.i .i64 2))),
 It 6 (.mov (.c i0))] [1,2,22,23])
 .ret)
 (.region [] [22])))
 (.seq (.region [Of 25 2 4,
 Ld 26 25,
 Mv 27 1,
 It 28 (.call 123 [(.t 26),(.t 27)]),
 Mv 24 28,
 Ex 29 24 0,
 Ex 30 24 1,
 Mv 7 29,
 Mv 8 30] [1,25,26,27,28,24,29,30])
 (.seq (.seq (.region [Mv 31 8,
 It 32 (.un .not (.t 31))] [8,31])
 (.cond (.t 32)
 (.seq (.region [It 33 (.build [i0,i0,(.s []),.ns,.ns] []),
 Ss 5 4 33,
 It 5 (.mov (.c (.i .i64 6))),
 It 6 (.mov (.c i0))] [2,7,32,33])
 .ret)
 (.region [] [32])))
 (.seq (.region [Of 34 2 3,
 Ld 35 34,
 Mv 36 7,
 Ia 37 5 35 36,
 Lm 38 5 37,
 It 39 (.call 109 [(.t 38)]),
 Ss 5 4 39,
 It 5 (.mov (.c i0)),
 It 6 (.mov (.c i0))] [2,7,34,35,36,37,38,39])
 .ret)))))),
    40,2,[.c 4 (some 5),.t 5,.t 6],2⟩
theorem tr90:trFunc Tryz.prog (hz [] I90.body) 1 Tryz.f90=some (plain1 I90):=by kernel_rfl
theorem ck90:ckC 2 I90.body=true:=by kernel_rfl
def I91:IFunc :=
  ⟨(.seq (.region [It 2 (.alloc [i0,i0,(.s []),.ns,.ns]),
 It 3 (.mov (.c (.b false)))] [3])
 (.seq (.region [Ld 4 0,
 It 5 (.iaddr 5 (.t 4) (.c i0)),
 Lm 6 5 5,
 Ld 7 0,
 It 8 (.iaddr 5 (.t 7) (.c i0)),
 Lm 9 5 8,
 Of 10 1 3,
 Ld 11 10,
 ⟨(some 12),(.call 92 [(.t 9),(.t 11)]),none,[(4,(.load none (.t 0)),none),(6,(.load (some 5) (.t 5)),none)]⟩,
 Ss 5 2 6,
 Mv 3 12] [0,1,4,5,6,7,8,9,10,11,12])
 .ret)),
    13,2,[.c 2 (some 5),.t 3],2⟩
theorem tr91:trFunc Tryz.prog (hz [(1,[0,1,2,3,4,5,6,7,8,9,10])] I91.body) 1 Tryz.f91=some (plain1 I91):=by kernel_rfl
theorem ck91:ckC 2 I91.body=true:=by kernel_rfl
def I92:IFunc :=
  ⟨(.seq (.region [It 2 (.box (.t 0)),
 It 4 (.mov (.c (.b false)))] [0,4])
 (.seq (.region [Mv 8 1,
 It 9 (.call 113 [(.t 8)]),
 Mv 7 9,
 Ex 10 7 0,
 Ex 11 7 1,
 It 5 (.alloc [i0,.ns,.ns]),
 Ss 3 5 10,
 Mv 6 11] [1,8,9,7,10,11])
 (.seq (.region [Mv 12 6,
 Mv 13 12,
 Ig 14 13 true (.load (some 5) (.t 2)),
 Ig 15 13 true (.call 59 [(.t 14)]),
 Ig 16 13 true (.bin .eql (.t 15) (.c i0)),
 It 17 (.pick (.t 13) (.t 16) (.c (.b false))),
 Mv 18 17,
 Ig 19 18 true (.load (some 3) (.t 5)),
 Ig 20 18 true (.load (some 5) (.t 2)),
 Ig 21 18 true (.call 124 [(.t 19),(.t 20)]),
 It 22 (.pick (.t 18) (.t 21) (.c (.b false))),
 Mv 4 22] [2,5,6,12,13,14,15,16,17,18,19,20,21,22])
 .ret))),
    23,2,[.t 4],2⟩
theorem tr92:trFunc Tryz.prog (hz [] I92.body) 1 Tryz.f92=some (plain1 I92):=by kernel_rfl
theorem ck92:ckC 2 I92.body=true:=by kernel_rfl
def I93:IFunc :=
  ⟨(.seq (.region [It 2 (.alloc [i0,i0,(.s []),.ns,.ns]),
 It 3 (.mov (.c (.b false)))] [3])
 (.seq (.region [Ld 4 0,
 It 5 (.iaddr 5 (.t 4) (.c i0)),
 Lm 6 5 5,
 Ld 7 0,
 It 8 (.iaddr 5 (.t 7) (.c i0)),
 Of 9 8 0,
 Ld 10 9,
 Of 11 1 1,
 Ld 12 11,
 It 13 (.bin .eql (.t 10) (.t 12)),
 ⟨none,(.store 5 (.t 2) (.t 6)),none,[(7,(.load none (.t 0)),none),(10,(.load none (.t 9)),none),(12,(.load none (.t 11)),none)]⟩,
 Mv 3 13] [0,1,4,5,6,7,8,9,10,11,12,13])
 .ret)),
    14,2,[.c 2 (some 5),.t 3],2⟩
theorem tr93:trFunc Tryz.prog (hz [(1,[0,1,2,3,4,5,6,7,8,9,10,11])] I93.body) 1 Tryz.f93=some (plain1 I93):=by kernel_rfl
theorem ck93:ckC 2 I93.body=true:=by kernel_rfl
def I94:IFunc :=
  ⟨(.seq (.region [It 1 (.alloc [i0,i0,(.s []),.ns,.ns]),
 It 2 (.mov (.c (.b false)))] [2])
 (.seq (.region [Ld 3 0,
 It 4 (.iaddr 5 (.t 3) (.c i0)),
 Lm 5 5 4,
 It 6 (.call 64 [(.c (.i .i64 6)),(.t 5)]),
 Ex 7 6 0,
 Ex 8 6 1,
 Ex 9 6 2,
 It 10 (.call 62 [(.t 7),(.t 8),(.t 9)]),
 Ex 11 10 0,
 Ex 12 10 1,
 Ss 5 1 11,
 Mv 2 12] [0,3,4,5,6,7,8,9,10,11,12])
 .ret)),
    13,1,[.c 1 (some 5),.t 2],2⟩
theorem tr94:trFunc Tryz.prog (hz [] I94.body) 1 Tryz.f94=some (plain1 I94):=by kernel_rfl
theorem ck94:ckC 2 I94.body=true:=by kernel_rfl
def I95:IFunc :=
  ⟨(.seq (.region [It 1 (.alloc [i0,i0,(.s []),.ns,.ns]),
 It 2 (.mov (.c (.b false)))] [2])
 (.seq (.region [Ld 3 0,
 It 4 (.iaddr 5 (.t 3) (.c i0)),
 Lm 5 5 4,
 It 6 (.call 64 [(.c (.i .i64 7)),(.t 5)]),
 Ex 7 6 0,
 Ex 8 6 1,
 Ex 9 6 2,
 It 10 (.call 62 [(.t 7),(.t 8),(.t 9)]),
 Ex 11 10 0,
 Ex 12 10 1,
 Ss 5 1 11,
 Mv 2 12] [0,3,4,5,6,7,8,9,10,11,12])
 .ret)),
    13,1,[.c 1 (some 5),.t 2],2⟩
theorem tr95:trFunc Tryz.prog (hz [] I95.body) 1 Tryz.f95=some (plain1 I95):=by kernel_rfl
theorem ck95:ckC 2 I95.body=true:=by kernel_rfl
def I96:IFunc :=
  ⟨(.seq (.region [It 1 (.alloc [i0,i0,(.s []),.ns,.ns]),
 It 2 (.mov (.c (.b false)))] [2])
 (.seq (.region [Ld 3 0,
 It 4 (.call 97 [(.c (.i .i64 9)),(.t 3)]),
 Ex 5 4 0,
 Ex 6 4 1,
 Ss 5 1 5,
 Mv 2 6] [0,3,4,5,6])
 .ret)),
    7,1,[.c 1 (some 5),.t 2],2⟩
theorem tr96:trFunc Tryz.prog (hz [] I96.body) 1 Tryz.f96=some (plain1 I96):=by kernel_rfl
theorem ck96:ckC 2 I96.body=true:=by kernel_rfl
def I97:IFunc :=
  ⟨(.seq (.region [It 4 (.alloc [i0,i0,(.s []),.ns,.ns]),
 It 5 (.mov (.c (.b false)))] [5])
 (.seq (.seq (.region [Mv 6 1,
 It 7 (.call 32 [(.t 6),(.f 125)])] [6])
 (.cond (.t 7)
 (.seq (.region [It 8 (.build [i0,i0,(.s []),.ns,.ns] []),
 Ss 5 4 8,
 It 5 (.mov (.c (.b false)))] [0,1,7,8])
 .ret)
 (.region [] [7])))
 (.seq (.region [Mv 9 0,
 Mv 10 1,
 It 11 (.iaddr 5 (.t 10) (.c i0)),
 Lm 12 5 11,
 Mv 13 1,
 It 14 (.iaddr 5 (.t 13) (.c (.i .i64 1))),
 Lm 15 5 14,
 It 16 (.call 63 [(.t 9),(.t 12),(.t 15)]),
 Ex 17 16 0,
 Ex 18 16 1,
 Ex 19 16 2,
 It 20 (.call 62 [(.t 17),(.t 18),(.t 19)]),
 Ex 21 20 0,
 Ex 22 20 1,
 Ss 5 4 21,
 Mv 5 22] [0,1,9,10,11,12,13,14,15,16,17,18,19,20,21,22])
 .ret))),
    23,2,[.c 4 (some 5),.t 5],2⟩
theorem tr97:trFunc Tryz.prog (hz [(4,[0,1,2,3,4,5,6,7,8,9,10,11,12,13,14,15])] I97.body) 1 Tryz.f97=some (plain1 I97):=by kernel_rfl
theorem ck97:ckC 2 I97.body=true:=by kernel_rfl
def I98:IFunc :=
  ⟨(.seq (.region [It 1 (.alloc [i0,i0,(.s []),.ns,.ns]),
 It 2 (.mov (.c (.b false)))] [2])
 (.seq (.region [Ld 3 0,
 It 4 (.call 97 [(.c (.i .i64 10)),(.t 3)]),
 Ex 5 4 0,
 Ex 6 4 1,
 Ss 5 1 5,
 Mv 2 6] [0,3,4,5,6])
 .ret)),
    7,1,[.c 1 (some 5),.t 2],2⟩
theorem tr98:trFunc Tryz.prog (hz [] I98.body) 1 Tryz.f98=some (plain1 I98):=by kernel_rfl
theorem ck98:ckC 2 I98.body=true:=by kernel_rfl
def I99:IFunc :=
  ⟨(.seq (.region [It 1 (.alloc [i0,i0,(.s []),.ns,.ns]),
 It 2 (.mov (.c (.b false)))] [2])
 (.seq (.region [Ld 3 0,
 It 4 (.call 97 [(.c (.i .i64 11)),(.t 3)]),
 Ex 5 4 0,
 Ex 6 4 1,
 Ss 5 1 5,
 Mv 2 6] [0,3,4,5,6])
 .ret)),
    7,1,[.c 1 (some 5),.t 2],2⟩
theorem tr99:trFunc Tryz.prog (hz [] I99.body) 1 Tryz.f99=some (plain1 I99):=by kernel_rfl
theorem ck99:ckC 2 I99.body=true:=by kernel_rfl
def I100:IFunc :=
  ⟨(.seq (.region [It 1 (.alloc [i0,i0,(.s []),.ns,.ns]),
 It 2 (.mov (.c (.b false)))] [2])
 (.seq (.region [Ld 3 0,
 It 4 (.call 97 [(.c (.i .i64 16)),(.t 3)]),
 Ex 5 4 0,
 Ex 6 4 1,
 Ss 5 1 5,
 Mv 2 6] [0,3,4,5,6])
 .ret)),
    7,1,[.c 1 (some 5),.t 2],2⟩
theorem tr100:trFunc Tryz.prog (hz [] I100.body) 1 Tryz.f100=some (plain1 I100):=by kernel_rfl
theorem ck100:ckC 2 I100.body=true:=by kernel_rfl
def I101:IFunc :=
  ⟨(.seq (.region [It 1 (.alloc [i0,i0,(.s []),.ns,.ns]),
 It 2 (.mov (.c (.b false)))] [2])
 (.seq (.region [Ld 3 0,
 It 4 (.call 97 [(.c (.i .i64 17)),(.t 3)]),
 Ex 5 4 0,
 Ex 6 4 1,
 Ss 5 1 5,
 Mv 2 6] [0,3,4,5,6])
 .ret)),
    7,1,[.c 1 (some 5),.t 2],2⟩
theorem tr101:trFunc Tryz.prog (hz [] I101.body) 1 Tryz.f101=some (plain1 I101):=by kernel_rfl
theorem ck101:ckC 2 I101.body=true:=by kernel_rfl
def I102:IFunc :=
  ⟨(.seq (.region [It 2 (.alloc [i0,i0,(.s []),.ns,.ns]),
 It 3 (.mov (.c (.b false)))] [3])
 (.seq (.region [Ld 4 0,
 It 5 (.iaddr 5 (.t 4) (.c i0)),
 Lm 6 5 5,
 Lm 7 5 1,
 It 8 (.bsl 5 2 [i0,i0,(.s []),.ns,.ns,i0,i0,(.s []),.ns,.ns] [(0,5,(.t 6)),(5,5,(.t 7))]),
 It 9 (.call 97 [(.c (.i .i64 9)),(.t 8)]),
 Ex 10 9 0,
 Ex 11 9 1,
 Ss 5 2 10,
 Mv 3 11] [0,1,4,5,6,7,8,9,10,11])
 .ret)),
    12,2,[.c 2 (some 5),.t 3],2⟩
theorem tr102:trFunc Tryz.prog (hz [(1,[0,1,2,3,4,5,6,7,8,9])] I102.body) 1 Tryz.f102=some (plain1 I102):=by kernel_rfl
theorem ck102:ckC 2 I102.body=true:=by kernel_rfl
def I103:IFunc :=
  ⟨(.seq (.region [It 2 (.alloc [i0,i0,(.s []),.ns,.ns]),
 It 3 (.mov (.c (.b false)))] [3])
 (.seq (.region [Ld 4 0,
 It 5 (.iaddr 5 (.t 4) (.c i0)),
 Lm 6 5 5,
 Lm 7 5 1,
 It 8 (.bsl 5 2 [i0,i0,(.s []),.ns,.ns,i0,i0,(.s []),.ns,.ns] [(0,5,(.t 6)),(5,5,(.t 7))]),
 It 9 (.call 97 [(.c (.i .i64 16)),(.t 8)]),
 Ex 10 9 0,
 Ex 11 9 1,
 Ss 5 2 10,
 Mv 3 11] [0,1,4,5,6,7,8,9,10,11])
 .ret)),
    12,2,[.c 2 (some 5),.t 3],2⟩
theorem tr103:trFunc Tryz.prog (hz [(1,[0,1,2,3,4,5,6,7,8,9])] I103.body) 1 Tryz.f103=some (plain1 I103):=by kernel_rfl
theorem ck103:ckC 2 I103.body=true:=by kernel_rfl
def I104:IFunc :=
  ⟨(.seq (.region [It 2 (.mov (.c (.b false)))] [2])
 (.seq (.region [Mv 3 0,
 It 4 (.call 32 [(.t 3),(.f 126)]),
 It 5 (.un .not (.t 4)),
 Mv 2 5] [0,3,4,5])
 .ret)),
    6,1,[.t 2],2⟩
theorem tr104:trFunc Tryz.prog (hz [] I104.body) 1 Tryz.f104=some (plain1 I104):=by kernel_rfl
theorem ck104:ckC 2 I104.body=true:=by kernel_rfl
def I105:IFunc :=
  ⟨(.seq (.region [It 2 (.alloc [i0,i0,(.s []),.ns,.ns])] [])
 (.seq (.region [It 4 (.build [i0,i0,(.s []),.ns,.ns] [(0,1,(.c (.i .i64 2)))]),
 It 3 (.alloc [i0,i0,(.s []),.ns,.ns]),
 Ss 5 3 4] [4])
 (.seq (.seq (.region [Mv 5 0] [0])
 (.cond (.t 5)
 (.region [Of 6 3 1,
 ⟨none,(.store 1 (.t 6) (.c (.i .i64 1))),none,[]⟩] [5,6])
 (.region [] [5])))
 (.seq (.region [Lm 7 5 3,
 Ss 5 2 7] [3,7])
 .ret)))),
    8,1,[.c 2 (some 5)],2⟩
theorem tr105:trFunc Tryz.prog (hz [] I105.body) 1 Tryz.f105=some (plain1 I105):=by kernel_rfl
theorem ck105:ckC 2 I105.body=true:=by kernel_rfl
def I106:IFunc :=
  ⟨(.seq (.region [It 6 (.alloc [i0,i0,(.s []),.ns,.ns]),
 It 7 (.mov (.c i0))] [7])
 (.seq (.seq (.region [Mv 8 0] [])
 (.block 0
 (.seq (.block 6
 (.seq (.block 5
 (.seq (.block 4
 (.seq (.block 3
 (.seq (.block 2
 (.seq (.block 1
 (.seq (.seq (.seq (.region [It 10 (.bin .eql (.t 8) (.c (.i .i64 9))),
 Mv 9 10] [10])
 (.cond (.t 9)
 (.exit 1)
 (.region [] [9])))
 (.seq (.seq (.region [It 12 (.bin .eql (.t 8) (.c (.i .i64 10))),
 Mv 11 12] [12])
 (.cond (.t 11)
 (.exit 2)
 (.region [] [11])))
 (.seq (.seq (.region [It 14 (.bin .eql (.t 8) (.c (.i .i64 11))),
 Mv 13 14] [14])
 (.cond (.t 13)
 (.exit 3)
 (.region [] [13])))
 (.seq (.seq (.region [It 16 (.bin .eql (.t 8) (.c (.i .i64 17))),
 Mv 15 16] [16])
 (.cond (.t 15)
 (.exit 4)
 (.region [] [15])))
 (.seq (.seq (.region [It 18 (.bin .eql (.t 8) (.c (.i .i64 16))),
 Mv 17 18] [18])
 (.cond (.t 17)
 (.exit 5)
 (.region [] [17])))
 (.seq (.seq (.region [It 20 (.bin .eql (.t 8) (.c (.i .i64 12))),
 Mv 19 20] [20])
 (.cond (.t 19)
 (.region [] [8])
 (.region [It 21 (.bin .eql (.t 8) (.c (.i .i64 13))),
 Mv 19 21] [8,21])))
 (.cond (.t 19)
 (.exit 6)
 (.region [] [0,1,2,19]))))))))
 (.exit 0)))
 (.seq (.seq (.region [Mv 22 1,
 Mv 23 2,
 It 24 (.bin .add (.t 22) (.t 23)),
 It 25 (.call 110 [(.t 24)]),
 Ss 5 6 25,
 It 7 (.mov (.c i0))] [0,1,2,8,9,22,23,24,25])
 .ret)
 (.exit 0))))
 (.seq (.seq (.region [Mv 26 1,
 Mv 27 2,
 It 28 (.bin .sub (.t 26) (.t 27)),
 It 29 (.call 110 [(.t 28)]),
 Ss 5 6 29,
 It 7 (.mov (.c i0))] [0,1,2,8,11,26,27,28,29])
 .ret)
 (.exit 0))))
 (.seq (.seq (.region [Mv 30 1,
 Mv 31 2,
 It 32 (.bin .mul (.t 30) (.t 31)),
 It 33 (.call 110 [(.t 32)]),
 Ss 5 6 33,
 It 7 (.mov (.c i0))] [0,1,2,8,13,30,31,32,33])
 .ret)
 (.exit 0))))
 (.seq (.region [Mv 34 1,
 Mv 35 2,
 It 36 (.bin .eql (.t 34) (.t 35))] [0,8,15,34,35])
 (.cond (.t 36)
 (.seq (.region [It 37 (.call 105 [(.c (.b true))]),
 Ss 5 6 37,
 It 7 (.mov (.c i0))] [1,2,36,37])
 .ret)
 (.region [] [36])))))
 (.seq (.seq (.region [Mv 38 1,
 Mv 39 2,
 It 40 (.bin .lss (.t 38) (.t 39)),
 It 41 (.call 105 [(.t 40)]),
 Ss 5 6 41,
 It 7 (.mov (.c i0))] [1,2,0,8,17,38,39,40,41])
 .ret)
 (.exit 0))))
 (.seq (.seq (.seq (.region [Mv 42 2,
 It 43 (.bin .eql (.t 42) (.c i0))] [19,42])
 (.cond (.t 43)
 (.seq (.region [It 44 (.build [i0,i0,(.s []),.ns,.ns] []),
 Ss 5 6 44,
 It 7 (.mov (.c (.i .i64 1)))] [0,1,2,43,44])
 .ret)
 (.region [] [43])))
 (.seq (.seq (.region [Mv 45 0,
 It 46 (.bin .eql (.t 45) (.c (.i .i64 12)))] [0,45])
 (.cond (.t 46)
 (.seq (.region [Mv 47 1,
 Mv 48 2,
 It 49 (.bin .quo (.t 47) (.t 48)),
 It 50 (.call 110 [(.t 49)]),
 Ss 5 6 50,
 It 7 (.mov (.c i0))] [1,2,46,47,48,49,50])
 .ret)
 (.region [] [46])))
 (.seq (.region [Mv 51 1,
 Mv 52 2,
 It 53 (.bin .rem (.t 51) (.t 52)),
 It 54 (.call 110 [(.t 53)]),
 Ss 5 6 54,
 It 7 (.mov (.c i0))] [1,2,51,52,53,54])
 .ret)))
 (.exit 0)))))
 (.seq (.region [It 55 (.build [i0,i0,(.s []),.ns,.ns] []),
 Ss 5 6 55,
 It 7 (.mov (.c (.i .i64 2)))] [55])
 .ret))),
    56,3,[.c 6 (some 5),.t 7],2⟩
theorem tr106:trFunc Tryz.prog (hz [] I106.body) 1 Tryz.f106=some (plain1 I106):=by kernel_rfl
theorem ck106:ckC 2 I106.body=true:=by kernel_rfl
def I107:IFunc :=
  ⟨(.seq (.region [It 6 (.alloc [i0,i0,(.s []),.ns,.ns]),
 It 7 (.mov (.c i0))] [7])
 (.seq (.seq (.region [Mv 8 0] [0])
 (.block 0
 (.seq (.block 3
 (.seq (.block 2
 (.seq (.block 1
 (.seq (.seq (.seq (.region [It 10 (.bin .eql (.t 8) (.c (.i .i64 9))),
 Mv 9 10] [10])
 (.cond (.t 9)
 (.exit 1)
 (.region [] [9])))
 (.seq (.seq (.region [It 12 (.bin .eql (.t 8) (.c (.i .i64 17))),
 Mv 11 12] [12])
 (.cond (.t 11)
 (.exit 2)
 (.region [] [11])))
 (.seq (.region [It 14 (.bin .eql (.t 8) (.c (.i .i64 16))),
 Mv 13 14] [8,14])
 (.cond (.t 13)
 (.exit 3)
 (.region [] [1,2,13])))))
 (.exit 0)))
 (.seq (.seq (.region [Mv 15 1,
 Mv 16 2,
 It 17 (.bin .add (.t 15) (.t 16)),
 It 18 (.build [i0,i0,(.s []),.ns,.ns] [(0,1,(.c (.i .i64 3))),(2,1,(.t 17))]),
 It 19 (.call 121 [(.t 18)]),
 Ex 20 19 0,
 Ex 21 19 1,
 Ss 5 6 20,
 Mv 7 21] [1,2,8,9,15,16,17,18,19,20,21])
 .ret)
 (.exit 0))))
 (.seq (.region [Mv 22 1,
 Mv 23 2,
 It 24 (.bin .eql (.t 22) (.t 23))] [8,11,22,23])
 (.cond (.t 24)
 (.seq (.region [It 25 (.call 105 [(.c (.b true))]),
 Ss 5 6 25,
 It 7 (.mov (.c i0))] [1,2,24,25])
 .ret)
 (.region [] [24])))))
 (.seq (.seq (.region [Mv 26 1,
 Mv 27 2,
 It 28 (.bin .lss (.t 26) (.t 27)),
 It 29 (.call 105 [(.t 28)]),
 Ss 5 6 29,
 It 7 (.mov (.c i0))] [1,2,13,26,27,28,29])
 .ret)
 (.exit 0)))))
 (.seq (.region [It 30 (.build [i0,i0,(.s []),.ns,.ns] []),
 Ss 5 6 30,
 It 7 (.mov (.c (.i .i64 2)))] [30])
 .ret))),
    31,3,[.c 6 (some 5),.t 7],2⟩
theorem tr107:trFunc Tryz.prog (hz [] I107.body) 1 Tryz.f107=some (plain1 I107):=by kernel_rfl
theorem ck107:ckC 2 I107.body=true:=by kernel_rfl
def I108:IFunc :=
  ⟨(.seq (.region [It 2 (.box (.t 0)),
 It 4 (.alloc [i0,i0,(.s []),.ns,.ns]),
 It 5 (.mov (.c i0))] [0,5])
 (.seq (.region [Of 6 2 3,
 Ld 7 6,
 It 8 (.call 65 [(.t 7)]),
 Mv 9 1,
 It 10 (.app 5 80 (.t 8) (.t 9)),
 It 11 (.build [i0,i0,(.s []),.ns,.ns] [(0,1,(.c (.i .i64 4))),(3,1,(.t 10))]),
 It 12 (.call 121 [(.t 11)]),
 Ex 13 12 0,
 Ex 14 12 1,
 Ss 5 4 13,
 Mv 5 14] [1,2,6,7,8,9,10,11,12,13,14])
 .ret)),
    15,2,[.c 4 (some 5),.t 5],2⟩
theorem tr108:trFunc Tryz.prog (hz [] I108.body) 1 Tryz.f108=some (plain1 I108):=by kernel_rfl
theorem ck108:ckC 2 I108.body=true:=by kernel_rfl
def L109a:ICode :=
  (.seq (.region [It 16 (.bin .lss (.t 15) (.t 14))] [])
 (.seq (.cond (.t 16)
 (.region [] [16])
 (.exit 0))
 (.seq (.block 1
 (.seq (.region [Mv 17 15,
 Mv 3 17] [17])
 (.region [Of 18 1 3,
 Ld 19 18,
 Mv 20 3,
 Of 21 1 3,
 Ld 22 21,
 Mv 23 3,
 Ia 24 5 22 23,
 Lm 25 5 24,
 ⟨(some 26),(.call 109 [(.t 25)]),none,[(19,(.load none (.t 18)),none)]⟩,
 Ia 27 5 19 20,
 Ss 5 27 26] [3,18,19,20,21,22,23,24,25,26,27])))
 (.region [It 28 (.bin .add (.t 15) (.c (.i .i64 1))),
 Mv 15 28] [28]))))
def I109:IFunc :=
  ⟨(.seq (.region [It 1 (.box (.t 0)),
 It 2 (.alloc [i0,i0,(.s []),.ns,.ns])] [0])
 (.seq (.region [Of 4 1 4,
 Ld 5 4,
 Of 7 1 3,
 Ld 8 7,
 ⟨(some 6),(.call 40 [(.t 5)]),none,[(8,(.load none (.t 7)),none)]⟩,
 Of 10 1 4,
 It 9 (.call 65 [(.t 8)]),
 Ss 1 10 6,
 Of 11 1 3,
 Ss 1 11 9] [4,5,7,8,6,10,9,11])
 (.seq (.seq (.region [Of 12 1 3,
 Ld 13 12,
 Le 14 13,
 It 15 (.mov (.c i0))] [12,13])
 (.block 0
 (.loop L109a)))
 (.seq (.region [Lm 29 5 1,
 Ss 5 2 29] [1,14,15,16,29])
 .ret)))),
    30,1,[.c 2 (some 5)],2⟩
theorem tr109:trFunc Tryz.prog (hz [(1,[0,1,3,4,2,6,5,7,8,9]),(6,[0,1,2,3,4,5,6,7,8,9,10])] I109.body) 1 Tryz.f109=some (plain1 I109):=by kernel_rfl
theorem ck109:ckC 2 I109.body=true:=by kernel_rfl
def I110:IFunc :=
  ⟨(.seq (.region [It 2 (.alloc [i0,i0,(.s []),.ns,.ns])] [])
 (.seq (.region [Mv 3 0,
 It 4 (.build [i0,i0,(.s []),.ns,.ns] [(0,1,(.c (.i .i64 1))),(1,1,(.t 3))]),
 Ss 5 2 4] [0,3,4])
 .ret)),
    5,1,[.c 2 (some 5)],2⟩
theorem tr110:trFunc Tryz.prog (hz [] I110.body) 1 Tryz.f110=some (plain1 I110):=by kernel_rfl
theorem ck110:ckC 2 I110.body=true:=by kernel_rfl
def L111a:ICode :=
  (.seq (.seq (.region [Mv 11 5,
 Mv 12 0,
 Le 13 12,
 It 14 (.bin .lss (.t 11) (.t 13))] [11,12,13])
 (.cond (.t 14)
 (.region [] [14])
 (.exit 0)))
 (.seq (.block 1
 (.seq (.region [Mv 17 0,
 Mv 18 5,
 Ia 19 1 17 18,
 Ld 20 19,
 Mv 21 1,
 Mv 22 5,
 Ia 23 1 21 22,
 Ld 24 23,
 It 25 (.bin .neq (.t 20) (.t 24))] [17,18,19,20,21,22,23,24])
 (.cond (.t 25)
 (.seq (.region [It 4 (.mov (.c (.b false)))] [0,1,5,25])
 .ret)
 (.region [] [25]))))
 (.region [Mv 15 5,
 It 16 (.bin .add (.t 15) (.c (.i .i64 1))),
 Mv 5 16] [15,16])))
def I111:IFunc :=
  ⟨(.seq (.region [It 4 (.mov (.c (.b false)))] [4])
 (.seq (.seq (.region [Mv 6 0,
 Le 7 6,
 Mv 8 1,
 Le 9 8,
 It 10 (.bin .neq (.t 7) (.t 9))] [6,7,8,9])
 (.cond (.t 10)
 (.seq (.region [It 4 (.mov (.c (.b false)))] [0,1,10])
 .ret)
 (.region [] [10])))
 (.seq (.seq (.region [It 5 (.mov (.c i0))] [])
 (.block 0
 (.loop L111a)))
 (.seq (.region [It 4 (.mov (.c (.b true)))] [0,1,5,14])
 .ret)))),
    26,2,[.t 4],2⟩
theorem tr111:trFunc Tryz.prog (hz [(7,[0,1,2,3,4,5,6,7,8])] I111.body) 1 Tryz.f111=some (plain1 I111):=by kernel_rfl
theorem ck111:ckC 2 I111.body=true:=by kernel_rfl
def I112:IFunc :=
  ⟨(.seq (.region [It 2 (.box (.t 0)),
 It 3 (.box (.t 1)),
 It 4 (.mov (.c (.b false)))] [0,1,4])
 (.seq (.region [Of 5 2 0,
 Ld 6 5,
 Of 7 3 0,
 Ld 8 7,
 It 9 (.bin .eql (.t 6) (.t 8)),
 Mv 10 9,
 Ig 11 10 true (.off (.t 2) 1),
 Ig 12 10 true (.load none (.t 11)),
 Ig 13 10 true (.off (.t 3) 1),
 Ig 14 10 true (.load none (.t 13)),
 Ig 15 10 true (.bin .eql (.t 12) (.t 14)),
 It 16 (.pick (.t 10) (.t 15) (.c (.b false))),
 Mv 17 16,
 Ig 18 17 true (.off (.t 2) 2),
 Ig 19 17 true (.load none (.t 18)),
 Ig 20 17 true (.off (.t 3) 2),
 Ig 21 17 true (.load none (.t 20)),
 Ig 22 17 true (.bin .eql (.t 19) (.t 21)),
 It 23 (.pick (.t 17) (.t 22) (.c (.b false))),
 Mv 24 23,
 Ig 25 24 true (.off (.t 2) 4),
 Ig 26 24 true (.load none (.t 25)),
 Ig 27 24 true (.off (.t 3) 4),
 Ig 28 24 true (.load none (.t 27)),
 Ig 29 24 true (.call 72 [(.t 26),(.t 28)]),
 It 30 (.pick (.t 24) (.t 29) (.c (.b false))),
 Mv 31 30,
 Ig 32 31 true (.off (.t 2) 3),
 Ig 33 31 true (.load none (.t 32)),
 Ig 34 31 true (.off (.t 3) 3),
 Ig 35 31 true (.load none (.t 34)),
 Ig 36 31 true (.call 76 [(.t 33),(.t 35),(.f 112)]),
 It 37 (.pick (.t 31) (.t 36) (.c (.b false))),
 Mv 4 37] [2,3,5,6,7,8,9,10,11,12,13,14,15,16,17,18,19,20,21,22,23,24,25,26,27,28,29,30,31,32,33,34,35,36,37])
 .ret)),
    38,2,[.t 4],2⟩
theorem tr112:trFunc Tryz.prog (hz [] I112.body) 1 Tryz.f112=some (plain1 I112):=by kernel_rfl
theorem ck112:ckC 2 I112.body=true:=by kernel_rfl
def I113:IFunc :=
  ⟨(.seq (.region [It 2 (.alloc [i0,.ns,.ns]),
 It 3 (.mov (.c (.b false)))] [3])
 (.seq (.seq (.region [Mv 7 0,
 It 8 (.lenk 1 (.t 7)),
 It 9 (.bin .gtr (.t 8) (.c (.i .i64 64)))] [7,8])
 (.cond (.t 9)
 (.seq (.region [It 10 (.build [i0,.ns,.ns] []),
 Ss 3 2 10,
 It 3 (.mov (.c (.b false)))] [0,9,10])
 .ret)
 (.region [] [9])))
 (.seq (.region [Mv 12 0,
 It 13 (.call 127 [(.t 12)]),
 Mv 11 13,
 Ex 14 11 0,
 Ex 15 11 1,
 Ex 16 11 2,
 It 4 (.alloc [i0,.ns,.ns]),
 Ss 3 4 14,
 Mv 5 15,
 Mv 6 16] [0,12,13,11,14,15,16])
 (.seq (.region [Lm 17 3 4,
 Mv 18 6,
 Mv 19 18,
 Ig 20 19 true (.mov (.t 5)),
 Ig 21 19 true (.bin .eql (.t 20) (.c (.s []))),
 It 22 (.pick (.t 19) (.t 21) (.c (.b false))),
 Ss 3 2 17,
 Mv 3 22] [4,5,6,17,18,19,20,21,22])
 .ret)))),
    23,1,[.c 2 (some 3),.t 3],2⟩
theorem tr113:trFunc Tryz.prog (hz [] I113.body) 1 Tryz.f113=some (plain1 I113):=by kernel_rfl
theorem ck113:ckC 2 I113.body=true:=by kernel_rfl
def I114:IFunc :=
  ⟨(.seq (.region [It 4 (.mov (.c i0))] [4])
 (.seq (.seq (.region [Mv 5 0,
 Mv 6 1,
 It 7 (.bin .lss (.t 5) (.t 6))] [5,6])
 (.cond (.t 7)
 (.seq (.region [It 4 (.mov (.c (.i .i64 (-1))))] [0,1,7])
 .ret)
 (.region [] [7])))
 (.seq (.seq (.region [Mv 8 0,
 Mv 9 1,
 It 10 (.bin .gtr (.t 8) (.t 9))] [0,1,8,9])
 (.cond (.t 10)
 (.seq (.region [It 4 (.mov (.c (.i .i64 1)))] [10])
 .ret)
 (.region [] [10])))
 (.seq (.region [It 4 (.mov (.c i0))] [])
 .ret)))),
    11,2,[.t 4],2⟩
theorem tr114:trFunc Tryz.prog (hz [] I114.body) 1 Tryz.f114=some (plain1 I114):=by kernel_rfl
theorem ck114:ckC 2 I114.body=true:=by kernel_rfl
def I115:IFunc :=
  ⟨(.seq (.region [It 4 (.mov (.c i0))] [4])
 (.seq (.seq (.region [Mv 5 0,
 Mv 6 1,
 It 7 (.bin .lss (.t 5) (.t 6))] [5,6])
 (.cond (.t 7)
 (.seq (.region [It 4 (.mov (.c (.i .i64 (-1))))] [0,1,7])
 .ret)
 (.region [] [7])))
 (.seq (.seq (.region [Mv 8 0,
 Mv 9 1,
 It 10 (.bin .gtr (.t 8) (.t 9))] [0,1,8,9])
 (.cond (.t 10)
 (.seq (.region [It 4 (.mov (.c (.i .i64 1)))] [10])
 .ret)
 (.region [] [10])))
 (.seq (.region [It 4 (.mov (.c i0))] [])
 .ret)))),
    11,2,[.t 4],2⟩
theorem tr115:trFunc Tryz.prog (hz [] I115.body) 1 Tryz.f115=some (plain1 I115):=by kernel_rfl
theorem ck115:ckC 2 I115.body=true:=by kernel_rfl
def I116:IFunc :=
  ⟨(.seq (.region [It 4 (.mov (.c (.i .u32 (0)))),
 It 5 (.mov (.c (.i .u32 (0))))] [4,5])
 (.seq (.region [Mv 7 0,
 It 8 (.conv .u64 (.t 7)),
 Mv 9 1,
 It 10 (.conv .u64 (.t 9)),
 It 11 (.bin .mul (.t 8) (.t 10)),
 Mv 6 11] [0,1,7,8,9,10,11])
 (.seq (.region [Mv 12 6,
 It 13 (.bin .shr (.t 12) (.c (.i .u64 (32)))),
 It 14 (.conv .u32 (.t 13)),
 Mv 15 6,
 It 16 (.conv .u32 (.t 15)),
 Mv 4 14,
 Mv 5 16] [6,12,13,14,15,16])
 .ret))),
    17,2,[.t 4,.t 5],2⟩
theorem tr116:trFunc Tryz.prog (hz [] I116.body) 1 Tryz.f116=some (plain1 I116):=by kernel_rfl
theorem ck116:ckC 2 I116.body=true:=by kernel_rfl
def I117:IFunc :=
  ⟨(.seq (.region [It 4 (.mov (.c (.i .u64 (0)))),
 It 5 (.mov (.c (.i .u64 (0))))] [4,5])
 (.seq (.region [Mv 14 0,
 It 15 (.bin .and (.t 14) (.c (.i .u64 (4294967295)))),
 Mv 6 15] [14,15])
 (.seq (.region [Mv 16 0,
 It 17 (.bin .shr (.t 16) (.c (.i .u64 (32)))),
 Mv 7 17] [16,17])
 (.seq (.region [Mv 18 1,
 It 19 (.bin .and (.t 18) (.c (.i .u64 (4294967295)))),
 Mv 8 19] [18,19])
 (.seq (.region [Mv 20 1,
 It 21 (.bin .shr (.t 20) (.c (.i .u64 (32)))),
 Mv 9 21] [20,21])
 (.seq (.region [Mv 22 6,
 Mv 23 8,
 It 24 (.bin .mul (.t 22) (.t 23)),
 Mv 10 24] [22,23,24])
 (.seq (.region [Mv 25 7,
 Mv 26 8,
 It 27 (.bin .mul (.t 25) (.t 26)),
 Mv 28 10,
 It 29 (.bin .shr (.t 28) (.c (.i .u64 (32)))),
 It 30 (.bin .add (.t 27) (.t 29)),
 Mv 11 30] [8,10,25,26,27,28,29,30])
 (.seq (.region [Mv 31 11,
 It 32 (.bin .and (.t 31) (.c (.i .u64 (4294967295)))),
 Mv 12 32] [31,32])
 (.seq (.region [Mv 33 11,
 It 34 (.bin .shr (.t 33) (.c (.i .u64 (32)))),
 Mv 13 34] [11,33,34])
 (.seq (.region [Mv 35 12,
 Mv 36 6,
 Mv 37 9,
 It 38 (.bin .mul (.t 36) (.t 37)),
 It 39 (.bin .add (.t 35) (.t 38)),
 Mv 12 39] [6,35,36,37,38,39])
 (.seq (.region [Mv 40 7,
 Mv 41 9,
 It 42 (.bin .mul (.t 40) (.t 41)),
 Mv 43 13,
 It 44 (.bin .add (.t 42) (.t 43)),
 Mv 45 12,
 It 46 (.bin .shr (.t 45) (.c (.i .u64 (32)))),
 It 47 (.bin .add (.t 44) (.t 46)),
 Mv 4 47] [7,9,12,13,40,41,42,43,44,45,46,47])
 (.seq (.region [Mv 48 0,
 Mv 49 1,
 It 50 (.bin .mul (.t 48) (.t 49)),
 Mv 5 50] [0,1,48,49,50])
 .ret)))))))))))),
    51,2,[.t 4,.t 5],2⟩
theorem tr117:trFunc Tryz.prog (hz [] I117.body) 1 Tryz.f117=some (plain1 I117):=by kernel_rfl
theorem ck117:ckC 2 I117.body=true:=by kernel_rfl
def L118a:ICode :=
  (.seq (.region [It 9 (.bin .lss (.t 8) (.t 7))] [])
 (.seq (.cond (.t 9)
 (.region [] [9])
 (.exit 0))
 (.seq (.block 1
 (.seq (.region [Mv 10 8,
 Mv 5 10] [10])
 (.seq (.region [Mv 11 1,
 Mv 12 0,
 Mv 13 5,
 Ia 14 1 12 13,
 Ld 15 14,
 It 16 (.callv (.t 11) [(.t 15)])] [11,12,13,14,15])
 (.cond (.t 16)
 (.seq (.region [Mv 17 5,
 Mv 4 17] [0,1,7,8,5,16,17])
 .ret)
 (.region [] [5,16])))))
 (.region [It 18 (.bin .add (.t 8) (.c (.i .i64 1))),
 Mv 8 18] [18]))))
def I118:IFunc :=
  ⟨(.seq (.region [It 4 (.mov (.c i0))] [4])
 (.seq (.seq (.region [Mv 6 0,
 Le 7 6,
 It 8 (.mov (.c i0))] [6])
 (.block 0
 (.loop L118a)))
 (.seq (.region [It 4 (.mov (.c (.i .i64 (-1))))] [0,1,7,8,9])
 .ret))),
    19,2,[.t 4],2⟩
theorem tr118:trFunc Tryz.prog (hz [] I118.body) 1 Tryz.f118=some (plain1 I118):=by kernel_rfl
theorem ck118:ckC 2 I118.body=true:=by kernel_rfl
def I119:IFunc :=
  ⟨(.seq (.region [It 1 (.box (.t 0)),
 It 2 (.mov (.c i0))] [0,2])
 (.seq (.seq (.region [Of 3 1 0,
 Ld 4 3] [3])
 (.block 0
 (.seq (.seq (.region [It 6 (.bin .eql (.t 4) (.c (.i .i64 6))),
 Mv 5 6] [6])
 (.cond (.t 5)
 .skip
 (.seq (.region [It 7 (.bin .eql (.t 4) (.c (.i .i64 8))),
 Mv 5 7] [7])
 (.cond (.t 5)
 .skip
 (.seq (.region [It 8 (.bin .eql (.t 4) (.c (.i .i64 10))),
 Mv 5 8] [8])
 (.cond (.t 5)
 .skip
 (.seq (.region [It 9 (.bin .eql (.t 4) (.c (.i .i64 11))),
 Mv 5 9] [9])
 (.cond (.t 5)
 .skip
 (.seq (.region [It 10 (.bin .eql (.t 4) (.c (.i .i64 12))),
 Mv 5 10] [10])
 (.cond (.t 5)
 .skip
 (.seq (.region [It 11 (.bin .eql (.t 4) (.c (.i .i64 13))),
 Mv 5 11] [11])
 (.cond (.t 5)
 .skip
 (.seq (.region [It 12 (.bin .eql (.t 4) (.c (.i .i64 41))),
 Mv 5 12] [12])
 (.cond (.t 5)
 .skip
 (.seq (.region [It 13 (.bin .eql (.t 4) (.c (.i .i64 43))),
 Mv 5 13] [13])
 (.cond (.t 5)
 .skip
 (.seq (.region [It 14 (.bin .eql (.t 4) (.c (.i .i64 44))),
 Mv 5 14] [14])
 (.cond (.t 5)
 .skip
 (.seq (.region [It 15 (.bin .eql (.t 4) (.c (.i .i64 45))),
 Mv 5 15] [15])
 (.cond (.t 5)
 .skip
 (.region [It 16 (.bin .eql (.t 4) (.c (.i .i64 48))),
 Mv 5 16] [16])))))))))))))))))))))
 (.cond (.t 5)
 (.seq (.region [It 2 (.mov (.c (.i .i64 1)))] [1,4,5])
 .ret)
 (.seq (.seq (.region [It 18 (.bin .eql (.t 4) (.c (.i .i64 7))),
 Mv 17 18] [5,18])
 (.cond (.t 17)
 .skip
 (.seq (.region [It 19 (.bin .eql (.t 4) (.c (.i .i64 14))),
 Mv 17 19] [19])
 (.cond (.t 17)
 .skip
 (.seq (.region [It 20 (.bin .eql (.t 4) (.c (.i .i64 15))),
 Mv 17 20] [20])
 (.cond (.t 17)
 .skip
 (.seq (.region [It 21 (.bin .eql (.t 4) (.c (.i .i64 16))),
 Mv 17 21] [21])
 (.cond (.t 17)
 .skip
 (.seq (.region [It 22 (.bin .eql (.t 4) (.c (.i .i64 17))),
 Mv 17 22] [22])
 (.cond (.t 17)
 .skip
 (.seq (.region [It 23 (.bin .eql (.t 4) (.c (.i .i64 42))),
 Mv 17 23] [23])
 (.cond (.t 17)
 .skip
 (.seq (.region [It 24 (.bin .eql (.t 4) (.c (.i .i64 46))),
 Mv 17 24] [24])
 (.cond (.t 17)
 .skip
 (.seq (.region [It 25 (.bin .eql (.t 4) (.c (.i .i64 47))),
 Mv 17 25] [25])
 (.cond (.t 17)
 .skip
 (.region [It 26 (.bin .eql (.t 4) (.c (.i .i64 49))),
 Mv 17 26] [26])))))))))))))))))
 (.cond (.t 17)
 (.seq (.region [It 2 (.mov (.c (.i .i64 2)))] [1,4,17])
 .ret)
 (.seq (.seq (.region [It 28 (.bin .eql (.t 4) (.c (.i .i64 20))),
 Mv 27 28] [17,28])
 (.cond (.t 27)
 .skip
 (.region [It 29 (.bin .eql (.t 4) (.c (.i .i64 18))),
 Mv 27 29] [29])))
 (.cond (.t 27)
 (.seq (.region [It 2 (.mov (.c (.i .i64 4)))] [1,4,27])
 .ret)
 (.seq (.region [It 31 (.bin .eql (.t 4) (.c (.i .i64 21))),
 Mv 30 31] [27,31])
 (.cond (.t 30)
 (.seq (.region [It 2 (.mov (.c (.i .i64 5)))] [1,4,30])
 .ret)
 (.seq (.region [It 33 (.bin .eql (.t 4) (.c (.i .i64 40))),
 Mv 32 33] [4,30,33])
 (.cond (.t 32)
 (.seq (.region [Of 34 1 1,
 Ld 35 34,
 Mv 2 35] [1,32,34,35])
 .ret)
 (.region [] [1,32])))))))))))))
 (.seq (.region [It 2 (.mov (.c (.i .i64 (-1))))] [])
 .ret))),
    36,1,[.t 2],2⟩
theorem tr119:trFunc Tryz.prog (hz [] I119.body) 1 Tryz.f119=some (plain1 I119):=by kernel_rfl
theorem ck119:ckC 2 I119.body=true:=by kernel_rfl
def I120:IFunc :=
  ⟨(.seq (.region [It 1 (.box (.t 0)),
 It 2 (.mov (.c (.b false)))] [0,2])
 (.seq (.seq (.region [Of 3 1 0,
 Ld 4 3] [3])
 (.block 0
 (.seq (.region [It 6 (.bin .eql (.t 4) (.c i0)),
 Mv 5 6] [6])
 (.cond (.t 5)
 (.seq (.region [Of 7 1 1,
 Ld 8 7,
 It 9 (.bin .eql (.t 8) (.c i0)),
 Mv 10 9,
 Ig 11 10 true (.build [(.b false),(.b false),(.b false)] []),
 Ig 12 10 true (.load (some 5) (.t 1)),
 Ig 13 10 true (.call 128 [(.t 11),(.t 12)]),
 It 14 (.pick (.t 10) (.t 13) (.c (.b false))),
 Mv 2 14] [1,4,5,7,8,9,10,11,12,13,14])
 .ret)
 (.seq (.region [It 16 (.bin .eql (.t 4) (.c (.i .i64 1))),
 Mv 15 16] [5,16])
 (.cond (.t 15)
 (.seq (.region [It 17 (.build [(.b false),(.b false),(.b false)] []),
 Lm 18 5 1,
 It 19 (.call 128 [(.t 17),(.t 18)]),
 Mv 2 19] [1,4,15,17,18,19])
 .ret)
 (.seq (.region [It 21 (.bin .eql (.t 4) (.c (.i .i64 2))),
 Mv 20 21] [15,21])
 (.cond (.t 20)
 (.seq (.region [Of 22 1 1,
 Ld 23 22,
 It 24 (.bin .andNot (.t 23) (.c (.i .i64 1))),
 It 25 (.bin .eql (.t 24) (.c i0)),
 Mv 26 25,
 Ig 27 26 true (.build [(.b false),(.b false),(.b false)] []),
 Ig 28 26 true (.load (some 5) (.t 1)),
 Ig 29 26 true (.call 128 [(.t 27),(.t 28)]),
 It 30 (.pick (.t 26) (.t 29) (.c (.b false))),
 Mv 2 30] [1,4,20,22,23,24,25,26,27,28,29,30])
 .ret)
 (.seq (.region [It 32 (.bin .eql (.t 4) (.c (.i .i64 6))),
 Mv 31 32] [20,32])
 (.cond (.t 31)
 (.seq (.region [Of 33 1 1,
 Ld 34 33,
 It 35 (.bin .geq (.t 34) (.c (.i .i64 1))),
 Mv 36 35,
 Ig 37 36 true (.off (.t 1) 1),
 Ig 38 36 true (.load none (.t 37)),
 Ig 39 36 true (.bin .leq (.t 38) (.c (.i .i64 64))),
 It 40 (.pick (.t 36) (.t 39) (.c (.b false))),
 Mv 41 40,
 Ig 42 41 true (.build [(.b false),(.b false),(.b false)] []),
 Ig 43 41 true (.load (some 5) (.t 1)),
 Ig 44 41 true (.call 128 [(.t 42),(.t 43)]),
 It 45 (.pick (.t 41) (.t 44) (.c (.b false))),
 Mv 2 45] [1,4,31,33,34,35,36,37,38,39,40,41,42,43,44,45])
 .ret)
 (.seq (.region [It 47 (.bin .eql (.t 4) (.c (.i .i64 3))),
 Mv 46 47] [31,47])
 (.cond (.t 46)
 (.seq (.region [Of 48 1 1,
 Ld 49 48,
 It 50 (.bin .eql (.t 49) (.c i0)),
 Mv 51 50,
 Ig 52 51 true (.off (.t 1) 2),
 Ig 53 51 true (.load none (.t 52)),
 Ig 54 51 true (.lenk 1 (.t 53)),
 Ig 55 51 true (.bin .leq (.t 54) (.c (.i .i64 64))),
 It 56 (.pick (.t 51) (.t 55) (.c (.b false))),
 Mv 57 56,
 Ig 58 57 true (.build [(.b false),(.b false),(.b false)] [(0,1,(.c (.b true)))]),
 Ig 59 57 true (.load (some 5) (.t 1)),
 Ig 60 57 true (.call 128 [(.t 58),(.t 59)]),
 It 61 (.pick (.t 57) (.t 60) (.c (.b false))),
 Mv 2 61] [1,4,46,48,49,50,51,52,53,54,55,56,57,58,59,60,61])
 .ret)
 (.seq (.region [It 63 (.bin .eql (.t 4) (.c (.i .i64 4))),
 Mv 62 63] [46,63])
 (.cond (.t 62)
 (.seq (.region [Of 64 1 1,
 Ld 65 64,
 It 66 (.bin .eql (.t 65) (.c i0)),
 Mv 67 66,
 Ig 68 67 true (.off (.t 1) 3),
 Ig 69 67 true (.load none (.t 68)),
 Ig 70 67 true (.lenk 0 (.t 69)),
 Ig 71 67 true (.bin .leq (.t 70) (.c (.i .i64 32))),
 It 72 (.pick (.t 67) (.t 71) (.c (.b false))),
 Mv 73 72,
 Ig 74 73 true (.build [(.b false),(.b false),(.b false)] [(1,1,(.c (.b true)))]),
 Ig 75 73 true (.load (some 5) (.t 1)),
 Ig 76 73 true (.call 128 [(.t 74),(.t 75)]),
 It 77 (.pick (.t 73) (.t 76) (.c (.b false))),
 Mv 2 77] [1,4,62,64,65,66,67,68,69,70,71,72,73,74,75,76,77])
 .ret)
 (.seq (.region [It 79 (.bin .eql (.t 4) (.c (.i .i64 5))),
 Mv 78 79] [4,62,79])
 (.cond (.t 78)
 (.seq (.region [Of 80 1 1,
 Ld 81 80,
 It 82 (.bin .eql (.t 81) (.c i0)),
 Mv 83 82,
 Ig 84 83 true (.off (.t 1) 3),
 Ig 85 83 true (.load none (.t 84)),
 Ig 86 83 true (.lenk 0 (.t 85)),
 Ig 87 83 true (.off (.t 1) 4),
 Ig 88 83 true (.load none (.t 87)),
 Ig 89 83 true (.lenk 0 (.t 88)),
 Ig 90 83 true (.bin .eql (.t 86) (.t 89)),
 It 91 (.pick (.t 83) (.t 90) (.c (.b false))),
 Mv 92 91,
 Ig 93 92 true (.off (.t 1) 3),
 Ig 94 92 true (.load none (.t 93)),
 Ig 95 92 true (.lenk 0 (.t 94)),
 Ig 96 92 true (.bin .leq (.t 95) (.c (.i .i64 8))),
 It 97 (.pick (.t 92) (.t 96) (.c (.b false))),
 Mv 98 97,
 Ig 99 98 true (.build [(.b false),(.b false),(.b false)] [(1,1,(.c (.b true))),(2,1,(.c (.b true)))]),
 Ig 100 98 true (.load (some 5) (.t 1)),
 Ig 101 98 true (.call 128 [(.t 99),(.t 100)]),
 It 102 (.pick (.t 98) (.t 101) (.c (.b false))),
 Mv 103 102,
 Ig 104 103 true (.off (.t 1) 4),
 Ig 105 103 true (.load none (.t 104)),
 Ig 106 103 true (.call 129 [(.t 105)]),
 It 107 (.pick (.t 103) (.t 106) (.c (.b false))),
 Mv 2 107] [1,78,80,81,82,83,84,85,86,87,88,89,90,91,92,93,94,95,96,97,98,99,100,101,102,103,104,105,106,107])
 .ret)
 (.region [] [1,78])))))))))))))))))
 (.seq (.region [It 2 (.mov (.c (.b false)))] [])
 .ret))),
    108,1,[.t 2],2⟩
theorem tr120:trFunc Tryz.prog (hz [] I120.body) 1 Tryz.f120=some (plain1 I120):=by kernel_rfl
theorem ck120:ckC 2 I120.body=true:=by kernel_rfl
def I121:IFunc :=
  ⟨(.seq (.region [It 1 (.box (.t 0)),
 It 2 (.alloc [i0,i0,(.s []),.ns,.ns]),
 It 3 (.mov (.c i0))] [0,3])
 (.seq (.seq (.region [Lm 4 5 1,
 It 5 (.call 59 [(.t 4)]),
 It 6 (.bin .neq (.t 5) (.c i0))] [4,5])
 (.cond (.t 6)
 (.seq (.region [It 7 (.build [i0,i0,(.s []),.ns,.ns] []),
 Ss 5 2 7,
 It 3 (.mov (.c (.i .i64 4)))] [1,6,7])
 .ret)
 (.region [] [6])))
 (.seq (.region [Lm 8 5 1,
 It 9 (.call 109 [(.t 8)]),
 Ss 5 2 9,
 It 3 (.mov (.c i0))] [1,8,9])
 .ret))),
    10,1,[.c 2 (some 5),.t 3],2⟩
theorem tr121:trFunc Tryz.prog (hz [] I121.body) 1 Tryz.f121=some (plain1 I121):=by kernel_rfl
theorem ck121:ckC 2 I121.body=true:=by kernel_rfl
def I122:IFunc :=
  ⟨(.seq (.region [It 2 (.mov (.c (.b false)))] [2])
 (.seq (.region [Mv 4 0,
 Mv 5 0,
 Le 6 5,
 It 7 (.mksl 5 80 [i0,i0,(.s []),.ns,.ns] (.t 6) (.t 6)),
 It 8 (.build [i0,i0,(.s []),.ns,.ns] [(0,1,(.c (.i .i64 5))),(4,1,(.t 4)),(3,1,(.t 7))]),
 It 3 (.alloc [i0,i0,(.s []),.ns,.ns]),
 Ss 5 3 8] [4,5,6,7,8])
 (.seq (.region [Mv 9 0,
 Le 10 9,
 It 11 (.bin .leq (.t 10) (.c (.i .i64 8))),
 Mv 12 11,
 Ig 13 12 true (.load (some 5) (.t 3)),
 Ig 14 12 true (.call 59 [(.t 13)]),
 Ig 15 12 true (.bin .eql (.t 14) (.c i0)),
 It 16 (.pick (.t 12) (.t 15) (.c (.b false))),
 Mv 2 16] [0,3,9,10,11,12,13,14,15,16])
 .ret))),
    17,1,[.t 2],2⟩
theorem tr122:trFunc Tryz.prog (hz [] I122.body) 1 Tryz.f122=some (plain1 I122):=by kernel_rfl
theorem ck122:ckC 2 I122.body=true:=by kernel_rfl
def L123a:ICode :=
  (.seq (.seq (.region [Mv 13 7,
 Mv 14 8,
 It 15 (.bin .lss (.t 13) (.t 14))] [13,14])
 (.cond (.t 15)
 (.region [] [15])
 (.exit 0)))
 (.block 1
 (.seq (.region [Mv 16 7,
 Mv 17 8,
 It 18 (.bin .add (.t 16) (.t 17)),
 It 19 (.conv .u64 (.t 18)),
 It 20 (.bin .shr (.t 19) (.c (.i .u64 (1)))),
 It 21 (.conv .i64 (.t 20)),
 Mv 9 21] [16,17,18,19,20,21])
 (.seq (.region [Mv 22 0,
 Mv 23 9,
 Ia 24 1 22 23,
 Ld 25 24,
 Mv 26 1,
 It 27 (.call 130 [(.t 25),(.t 26)])] [22,23,24,25,26])
 (.cond (.t 27)
 (.region [Mv 28 9,
 It 29 (.bin .add (.t 28) (.c (.i .i64 1))),
 Mv 7 29] [9,27,28,29])
 (.region [Mv 30 9,
 Mv 8 30] [9,27,30]))))))
def I123:IFunc :=
  ⟨(.seq (.region [It 4 (.mov (.c i0)),
 It 5 (.mov (.c (.b false)))] [4,5])
 (.seq (.region [Mv 10 0,
 Le 11 10,
 Mv 6 11] [10,11])
 (.seq (.region [Mv 12 6,
 It 7 (.mov (.c i0)),
 Mv 8 12] [12])
 (.seq (.block 0
 (.loop L123a))
 (.seq (.region [Mv 31 7,
 Mv 32 7,
 Mv 33 6,
 It 34 (.bin .lss (.t 32) (.t 33)),
 Mv 35 34,
 Ig 36 35 true (.mov (.t 0)),
 Ig 37 35 true (.mov (.t 7)),
 Ig 38 35 true (.iaddr 1 (.t 36) (.t 37)),
 Ig 39 35 true (.load none (.t 38)),
 Ig 40 35 true (.mov (.t 1)),
 Ig 41 35 true (.bin .eql (.t 39) (.t 40)),
 Ig 42 35 true (.mov (.t 41)),
 Ig 43 42 false (.mov (.t 0)),
 Ig 44 42 false (.mov (.t 7)),
 Ig 45 42 false (.iaddr 1 (.t 43) (.t 44)),
 Ig 46 42 false (.load none (.t 45)),
 Ig 47 42 false (.call 131 [(.t 46)]),
 Ig 48 42 false (.mov (.t 47)),
 Ig 49 48 true (.mov (.t 1)),
 Ig 50 48 true (.call 131 [(.t 49)]),
 Ig 51 42 false (.pick (.t 48) (.t 50) (.c (.b false))),
 Ig 52 35 true (.pick (.t 42) (.c (.b true)) (.t 51)),
 It 53 (.pick (.t 35) (.t 52) (.c (.b false))),
 Mv 4 31,
 Mv 5 53] [0,1,6,7,8,15,31,32,33,34,35,36,37,38,39,40,41,42,43,44,45,46,47,48,49,50,51,52,53])
 .ret))))),
    54,2,[.t 4,.t 5],2⟩
theorem tr123:trFunc Tryz.prog (hz [] I123.body) 1 Tryz.f123=some (plain1 I123):=by kernel_rfl
theorem ck123:ckC 2 I123.body=true:=by kernel_rfl
def L124a:ICode :=
  (.seq (.region [It 24 (.bin .lss (.t 23) (.t 22))] [])
 (.seq (.cond (.t 24)
 (.region [] [24])
 (.exit 0))
 (.seq (.block 1
 (.seq (.region [Mv 25 23,
 Ia 26 5 21 23,
 Lm 27 5 26,
 It 6 (.alloc [i0,i0,(.s []),.ns,.ns]),
 Mv 5 25,
 Ss 5 6 27] [25,26,27])
 (.seq (.seq (.region [Of 28 2 0,
 Ld 29 28,
 It 30 (.bin .eql (.t 29) (.c (.i .i64 4)))] [28,29])
 (.cond (.t 30)
 (.region [It 5 (.mov (.c i0))] [30])
 (.region [] [30])))
 (.seq (.region [Of 31 2 2,
 Ld 32 31,
 Mv 33 5,
 Ia 34 3 32 33,
 Lm 35 3 34,
 Lm 36 5 6,
 It 37 (.call 124 [(.t 35),(.t 36)]),
 It 38 (.un .not (.t 37))] [6,5,31,32,33,34,35,36,37])
 (.cond (.t 38)
 (.seq (.region [It 4 (.mov (.c (.b false)))] [2,21,22,23,38])
 .ret)
 (.region [] [38]))))))
 (.region [It 39 (.bin .add (.t 23) (.c (.i .i64 1))),
 Mv 23 39] [39]))))
def I124:IFunc :=
  ⟨(.seq (.region [It 2 (.box (.t 0)),
 It 3 (.box (.t 1)),
 It 4 (.mov (.c (.b false)))] [0,1,4])
 (.seq (.seq (.region [Of 7 3 0,
 Ld 8 7,
 Of 9 2 0,
 Ld 10 9,
 It 11 (.bin .neq (.t 8) (.t 10)),
 Mv 12 11,
 Ig 13 12 false (.off (.t 3) 4),
 Ig 14 12 false (.load none (.t 13)),
 Ig 15 12 false (.off (.t 2) 1),
 Ig 16 12 false (.load none (.t 15)),
 Ig 17 12 false (.call 72 [(.t 14),(.t 16)]),
 Ig 18 12 false (.un .not (.t 17)),
 It 19 (.pick (.t 12) (.c (.b true)) (.t 18))] [7,8,9,10,11,12,13,14,15,16,17,18])
 (.cond (.t 19)
 (.seq (.region [It 4 (.mov (.c (.b false)))] [2,3,19])
 .ret)
 (.region [] [19])))
 (.seq (.seq (.region [Of 20 3 3,
 Ld 21 20,
 Le 22 21,
 It 23 (.mov (.c i0))] [3,20])
 (.block 0
 (.loop L124a)))
 (.seq (.region [It 4 (.mov (.c (.b true)))] [2,21,22,23,24])
 .ret)))),
    40,2,[.t 4],2⟩
theorem tr124:trFunc Tryz.prog (hz [(11,[0,1,2,3,4,5,6,7])] I124.body) 1 Tryz.f124=some (plain1 I124):=by kernel_rfl
theorem ck124:ckC 2 I124.body=true:=by kernel_rfl
def I125:IFunc :=
  ⟨(.seq (.region [It 1 (.box (.t 0)),
 It 2 (.mov (.c (.b false)))] [0,2])
 (.seq (.region [Of 3 1 0,
 Ld 4 3,
 It 5 (.bin .neq (.t 4) (.c (.i .i64 1))),
 Mv 2 5] [1,3,4,5])
 .ret)),
    6,1,[.t 2],2⟩
theorem tr125:trFunc Tryz.prog (hz [] I125.body) 1 Tryz.f125=some (plain1 I125):=by kernel_rfl
theorem ck125:ckC 2 I125.body=true:=by kernel_rfl
def I126:IFunc :=
  ⟨(.seq (.region [It 1 (.box (.t 0)),
 It 2 (.mov (.c (.b false)))] [0,2])
 (.seq (.region [Lm 3 5 1,
 It 4 (.call 59 [(.t 3)]),
 It 5 (.bin .neq (.t 4) (.c i0)),
 Mv 2 5] [1,3,4,5])
 .ret)),
    6,1,[.t 2],2⟩
theorem tr126:trFunc Tryz.prog (hz [] I126.body) 1 Tryz.f126=some (plain1 I126):=by kernel_rfl
theorem ck126:ckC 2 I126.body=true:=by kernel_rfl
def L127a:ICode :=
  (.seq (.seq (.region [Mv 49 9,
 Mv 50 0,
 It 51 (.lenk 1 (.t 50)),
 It 52 (.bin .lss (.t 49) (.t 51)),
 Mv 53 52,
 Ig 54 53 true (.mov (.t 0)),
 Ig 55 53 true (.mov (.t 9)),
 Ig 56 53 true (.idxS (.t 54) (.t 55)),
 Ig 57 53 true (.bin .geq (.t 56) (.c (.i .u8 (97)))),
 It 58 (.pick (.t 53) (.t 57) (.c (.b false))),
 Mv 59 58,
 Ig 60 59 true (.mov (.t 0)),
 Ig 61 59 true (.mov (.t 9)),
 Ig 62 59 true (.idxS (.t 60) (.t 61)),
 Ig 63 59 true (.bin .leq (.t 62) (.c (.i .u8 (122)))),
 It 64 (.pick (.t 59) (.t 63) (.c (.b false)))] [49,50,51,52,53,54,55,56,57,58,59,60,61,62,63])
 (.cond (.t 64)
 (.region [] [64])
 (.exit 1)))
 (.block 2
 (.region [Mv 65 9,
 It 66 (.bin .add (.t 65) (.c (.i .i64 1))),
 Mv 9 66] [65,66])))
def I127:IFunc :=
  ⟨(.seq (.region [It 2 (.alloc [i0,.ns,.ns]),
 It 3 (.mov (.c (.s []))),
 It 4 (.mov (.c (.b false)))] [3,4])
 (.seq (.block 0
 (.seq (.region [Mv 12 0,
 It 13 (.call 132 [(.t 12),(.c (.s [91]))]),
 Mv 11 13] [12,13])
 (.cond (.t 11)
 (.seq (.region [Mv 15 0,
 It 16 (.slS (.t 15) (some (.c (.i .i64 1))) none),
 It 17 (.call 127 [(.t 16)]),
 Mv 14 17,
 Ex 18 14 0,
 Ex 19 14 1,
 Ex 20 14 2,
 It 5 (.alloc [i0,.ns,.ns]),
 Ss 3 5 18,
 Mv 6 19,
 Mv 7 20] [0,11,15,16,17,14,18,19,20])
 (.seq (.region [Mv 22 6,
 It 23 (.call 133 [(.t 22),(.c (.s [93]))]),
 Mv 21 23,
 Ex 24 21 0,
 Ex 25 21 1,
 Mv 6 24,
 Mv 8 25] [22,23,21,24,25])
 (.seq (.region [Lm 26 3 5,
 It 27 (.bsl 3 1 [i0,.ns,.ns] [(0,3,(.t 26))]),
 It 28 (.build [i0,.ns,.ns] [(0,1,(.c (.i .i64 4))),(2,1,(.t 27))]),
 Mv 29 6,
 Mv 30 7,
 Mv 31 30,
 Ig 32 31 true (.mov (.t 8)),
 It 33 (.pick (.t 31) (.t 32) (.c (.b false))),
 Ss 3 2 28,
 Mv 3 29,
 Mv 4 33] [5,6,7,8,26,27,28,29,30,31,32,33])
 .ret)))
 (.seq (.region [Mv 35 0,
 It 36 (.call 132 [(.t 35),(.c (.s [123,125]))]),
 Mv 34 36] [11,35,36])
 (.cond (.t 34)
 (.seq (.region [It 37 (.build [i0,.ns,.ns] [(0,1,(.c (.i .i64 5)))]),
 Mv 38 0,
 It 39 (.slS (.t 38) (some (.c (.i .i64 2))) none),
 Ss 3 2 37,
 Mv 3 39,
 It 4 (.mov (.c (.b true)))] [0,34,37,38,39])
 .ret)
 (.seq (.region [Mv 41 0,
 It 42 (.call 132 [(.t 41),(.c (.s [123]))]),
 Mv 40 42] [34,41,42])
 (.cond (.t 40)
 (.seq (.region [Mv 43 0,
 It 44 (.slS (.t 43) (some (.c (.i .i64 1))) none),
 It 45 (.call 134 [(.t 44)]),
 Ex 46 45 0,
 Ex 47 45 1,
 Ex 48 45 2,
 Ss 3 2 46,
 Mv 3 47,
 Mv 4 48] [0,40,43,44,45,46,47,48])
 .ret)
 (.region [] [40]))))))))
 (.seq (.region [It 9 (.mov (.c i0))] [])
 (.seq (.block 1
 (.loop L127a))
 (.seq (.region [Mv 67 0,
 Mv 68 9,
 It 69 (.slS (.t 67) none (some (.t 68))),
 It 70 (.call 135 [(.t 69)]),
 Mv 10 70] [64,67,68,69,70])
 (.seq (.region [Mv 71 10,
 It 72 (.build [i0,.ns,.ns] [(0,1,(.t 71))]),
 Mv 73 0,
 Mv 74 9,
 It 75 (.slS (.t 73) (some (.t 74)) none),
 Mv 76 10,
 It 77 (.bin .geq (.t 76) (.c i0)),
 Ss 3 2 72,
 Mv 3 75,
 Mv 4 77] [0,9,10,71,72,73,74,75,76,77])
 .ret)))))),
    78,1,[.c 2 (some 3),.t 3,.t 4],2⟩
theorem tr127:trFunc Tryz.prog (hz [(6,[0,1,2,3,4,5]),(15,[0,1,2,3,4,5,6,7,8,9])] I127.body) 1 Tryz.f127=some (plain1 I127):=by kernel_rfl
theorem ck127:ckC 2 I127.body=true:=by kernel_rfl
def I128:IFunc :=
  ⟨(.seq (.region [It 2 (.box (.t 0)),
 It 3 (.box (.t 1)),
 It 4 (.mov (.c (.b false)))] [0,1,4])
 (.seq (.region [Of 5 2 0,
 Ld 6 5,
 Mv 7 6,
 Ig 8 7 false (.off (.t 3) 2),
 Ig 9 7 false (.load none (.t 8)),
 Ig 10 7 false (.bin .eql (.t 9) (.c (.s []))),
 It 11 (.pick (.t 7) (.c (.b true)) (.t 10)),
 Mv 12 11,
 Ig 13 12 true (.off (.t 2) 1),
 Ig 14 12 true (.load none (.t 13)),
 Ig 15 12 true (.mov (.t 14)),
 Ig 16 15 false (.off (.t 3) 3),
 Ig 17 15 false (.load none (.t 16)),
 Ig 18 15 false (.lenk 0 (.t 17)),
 Ig 19 15 false (.bin .eql (.t 18) (.c i0)),
 Ig 20 12 true (.pick (.t 15) (.c (.b true)) (.t 19)),
 It 21 (.pick (.t 12) (.t 20) (.c (.b false))),
 Mv 22 21,
 Ig 23 22 true (.off (.t 2) 2),
 Ig 24 22 true (.load none (.t 23)),
 Ig 25 22 true (.mov (.t 24)),
 Ig 26 25 false (.off (.t 3) 4),
 Ig 27 25 false (.load none (.t 26)),
 Ig 28 25 false (.lenk 0 (.t 27)),
 Ig 29 25 false (.bin .eql (.t 28) (.c i0)),
 Ig 30 22 true (.pick (.t 25) (.c (.b true)) (.t 29)),
 It 31 (.pick (.t 22) (.t 30) (.c (.b false))),
 Mv 4 31] [2,3,5,6,7,8,9,10,11,12,13,14,15,16,17,18,19,20,21,22,23,24,25,26,27,28,29,30,31])
 .ret)),
    32,2,[.t 4],2⟩
theorem tr128:trFunc Tryz.prog (hz [] I128.body) 1 Tryz.f128=some (plain1 I128):=by kernel_rfl
theorem ck128:ckC 2 I128.body=true:=by kernel_rfl
def L129a:ICode :=
  (.seq (.region [It 9 (.bin .lss (.t 8) (.t 7))] [])
 (.seq (.cond (.t 9)
 (.region [] [9])
 (.exit 0))
 (.seq (.block 1
 (.seq (.region [Ia 10 1 6 8,
 Ld 11 10,
 Mv 5 11] [10,11])
 (.seq (.seq (.region [Mv 12 5,
 Mv 13 3,
 It 14 (.bin .leq (.t 12) (.t 13)),
 Mv 15 14,
 Ig 16 15 false (.mov (.t 5)),
 Ig 17 15 false (.call 136 [(.t 16)]),
 Ig 18 15 false (.un .not (.t 17)),
 It 19 (.pick (.t 15) (.c (.b true)) (.t 18))] [3,12,13,14,15,16,17,18])
 (.cond (.t 19)
 (.seq (.region [It 2 (.mov (.c (.b false)))] [6,7,8,5,19])
 .ret)
 (.region [] [19])))
 (.region [Mv 20 5,
 Mv 3 20] [5,20]))))
 (.region [It 21 (.bin .add (.t 8) (.c (.i .i64 1))),
 Mv 8 21] [21]))))
def I129:IFunc :=
  ⟨(.seq (.region [It 2 (.mov (.c (.b false)))] [2])
 (.seq (.region [It 3 (.mov (.c (.s [])))] [])
 (.seq (.seq (.region [Mv 6 0,
 Le 7 6,
 It 8 (.mov (.c i0))] [0])
 (.block 0
 (.loop L129a)))
 (.seq (.region [It 2 (.mov (.c (.b true)))] [3,6,7,8,9])
 .ret)))),
    22,1,[.t 2],2⟩
theorem tr129:trFunc Tryz.prog (hz [] I129.body) 1 Tryz.f129=some (plain1 I129):=by kernel_rfl
theorem ck129:ckC 2 I129.body=true:=by kernel_rfl
def I130:IFunc :=
  ⟨(.seq (.region [It 4 (.mov (.c (.b false)))] [4])
 (.seq (.region [Mv 5 0,
 It 6 (.call 137 [(.t 5)]),
 Mv 7 6,
 Ig 8 7 true (.mov (.t 1)),
 Ig 9 7 true (.call 137 [(.t 8)]),
 Ig 10 7 true (.un .not (.t 9)),
 It 11 (.pick (.t 7) (.t 10) (.c (.b false))),
 Mv 12 11,
 Ig 13 12 false (.mov (.t 0)),
 Ig 14 12 false (.mov (.t 1)),
 Ig 15 12 false (.bin .lss (.t 13) (.t 14)),
 It 16 (.pick (.t 12) (.c (.b true)) (.t 15)),
 Mv 4 16] [0,1,5,6,7,8,9,10,11,12,13,14,15,16])
 .ret)),
    17,2,[.t 4],2⟩
theorem tr130:trFunc Tryz.prog (hz [] I130.body) 1 Tryz.f130=some (plain1 I130):=by kernel_rfl
theorem ck130:ckC 2 I130.body=true:=by kernel_rfl
def I131:IFunc :=
  ⟨(.seq (.region [It 2 (.mov (.c (.b false)))] [2])
 (.seq (.region [Mv 3 0,
 Mv 4 0,
 It 5 (.bin .neq (.t 3) (.t 4)),
 Mv 2 5] [0,3,4,5])
 .ret)),
    6,1,[.t 2],2⟩
theorem tr131:trFunc Tryz.prog (hz [] I131.body) 1 Tryz.f131=some (plain1 I131):=by kernel_rfl
theorem ck131:ckC 2 I131.body=true:=by kernel_rfl
def I132:IFunc :=
  ⟨(.seq (.region [It 4 (.mov (.c (.b false)))] [4])
 (.seq (.region [Mv 5 0,
 Mv 6 1,
 It 7 (.call 138 [(.t 5),(.t 6)]),
 Mv 4 7] [0,1,5,6,7])
 .ret)),
    8,2,[.t 4],2⟩
theorem tr132:trFunc Tryz.prog (hz [] I132.body) 1 Tryz.f132=some (plain1 I132):=by kernel_rfl
theorem ck132:ckC 2 I132.body=true:=by kernel_rfl
def I133:IFunc :=
  ⟨(.seq (.region [It 4 (.mov (.c (.s []))),
 It 5 (.mov (.c (.b false)))] [4,5])
 (.seq (.region [Mv 6 0,
 Mv 7 1,
 It 8 (.call 139 [(.t 6),(.t 7)]),
 Ex 9 8 0,
 Ex 10 8 1,
 Mv 4 9,
 Mv 5 10] [0,1,6,7,8,9,10])
 .ret)),
    11,2,[.t 4,.t 5],2⟩
theorem tr133:trFunc Tryz.prog (hz [] I133.body) 1 Tryz.f133=some (plain1 I133):=by kernel_rfl
theorem ck133:ckC 2 I133.body=true:=by kernel_rfl
def L134a:ICode :=
  (.block 1
 (.seq (.region [Mv 13 0,
 It 14 (.call 140 [(.t 13),(.c (.s [58]))]),
 Mv 12 14,
 Ex 15 12 0,
 Ex 16 12 1,
 Ex 17 12 2,
 Mv 5 15,
 Mv 6 16,
 Mv 7 17] [0,58,13,14,12,15,16,17])
 (.seq (.region [Mv 19 6,
 It 20 (.call 127 [(.t 19)]),
 Mv 18 20,
 Ex 21 18 0,
 Ex 22 18 1,
 Ex 23 18 2,
 It 8 (.alloc [i0,.ns,.ns]),
 Ss 3 8 21,
 Mv 9 22,
 Mv 10 23] [6,19,20,18,21,22,23])
 (.seq (.seq (.region [Mv 24 7,
 It 25 (.un .not (.t 24)),
 Mv 26 25,
 Ig 27 26 false (.mov (.t 10)),
 Ig 28 26 false (.un .not (.t 27)),
 It 29 (.pick (.t 26) (.c (.b true)) (.t 28)),
 Mv 30 29,
 Ig 31 30 false (.mov (.t 9)),
 Ig 32 30 false (.bin .eql (.t 31) (.c (.s []))),
 It 33 (.pick (.t 30) (.c (.b true)) (.t 32))] [7,10,24,25,26,27,28,29,30,31,32])
 (.cond (.t 33)
 (.seq (.region [It 34 (.build [i0,.ns,.ns] []),
 Ss 3 2 34,
 It 3 (.mov (.c (.s []))),
 It 4 (.mov (.c (.b false)))] [5,8,9,33,34])
 .ret)
 (.region [] [33])))
 (.seq (.region [Of 35 2 1,
 Ld 36 35,
 Mv 37 5,
 It 38 (.bsl 1 1 [(.s [])] [(0,1,(.t 37))]),
 Of 40 2 2,
 Ld 41 40,
 Lm 42 3 8,
 It 43 (.bsl 3 1 [i0,.ns,.ns] [(0,3,(.t 42))]),
 ⟨(some 39),(.app 1 16 (.t 36) (.t 38)),none,[(41,(.load none (.t 40)),none),(42,(.load (some 3) (.t 8)),none)]⟩,
 Of 45 2 1,
 It 44 (.app 3 56 (.t 41) (.t 43)),
 Ss 1 45 39,
 Of 46 2 2,
 Ss 1 46 44] [5,8,35,36,37,38,40,41,42,43,39,45,44,46])
 (.seq (.region [Mv 47 9,
 It 48 (.slS (.t 47) (some (.c (.i .i64 1))) none),
 Mv 0 48] [47,48])
 (.seq (.seq (.region [Mv 49 9,
 It 50 (.idxS (.t 49) (.c i0))] [9,49])
 (.block 2
 (.seq (.region [It 52 (.bin .eql (.t 50) (.c (.i .u8 (125)))),
 Mv 51 52] [52])
 (.cond (.t 51)
 (.seq (.region [Lm 53 3 2,
 Mv 54 0,
 Of 55 2 1,
 Ld 56 55,
 ⟨(some 57),(.call 129 [(.t 56)]),none,[(53,(.load (some 3) (.t 2)),none)]⟩,
 Ss 3 2 53,
 Mv 3 54,
 Mv 4 57] [0,50,51,53,54,55,56,57])
 .ret)
 (.seq (.region [It 59 (.bin .eql (.t 50) (.c (.i .u8 (44)))),
 Mv 58 59] [50,51,59])
 (.cond (.t 58)
 (.exit 1)
 (.region [] [0,58])))))))
 (.seq (.region [It 60 (.build [i0,.ns,.ns] []),
 Ss 3 2 60,
 It 3 (.mov (.c (.s []))),
 It 4 (.mov (.c (.b false)))] [60])
 .ret))))))))
def I134:IFunc :=
  ⟨(.seq (.region [It 2 (.alloc [i0,.ns,.ns]),
 It 3 (.mov (.c (.s []))),
 It 4 (.mov (.c (.b false)))] [3,4])
 (.seq (.region [Of 11 2 0,
 ⟨none,(.store 1 (.t 11) (.c (.i .i64 5))),none,[]⟩] [11])
 (.block 0
 (.loop L134a)))),
    61,1,[.c 2 (some 3),.t 3,.t 4],2⟩
theorem tr134:trFunc Tryz.prog (hz [(7,[0,1,2,3,5,6,7,8,4,10,9,11,12,13]),(11,[0,1,2,3,4,5,6,7])] I134.body) 1 Tryz.f134=some (plain1 I134):=by kernel_rfl
theorem ck134:ckC 2 I134.body=true:=by kernel_rfl
def I135:IFunc :=
  ⟨(.seq (.region [It 2 (.mov (.c i0))] [2])
 (.seq (.seq (.region [Mv 3 0] [0])
 (.block 0
 (.seq (.region [It 5 (.bin .eql (.t 3) (.c (.s [110,111,110,101]))),
 Mv 4 5] [5])
 (.cond (.t 4)
 (.seq (.region [It 2 (.mov (.c i0))] [3,4])
 .ret)
 (.seq (.region [It 7 (.bin .eql (.t 3) (.c (.s [105,110,116]))),
 Mv 6 7] [4,7])
 (.cond (.t 6)
 (.seq (.region [It 2 (.mov (.c (.i .i64 1)))] [3,6])
 .ret)
 (.seq (.region [It 9 (.bin .eql (.t 3) (.c (.s [98,111,111,108]))),
 Mv 8 9] [6,9])
 (.cond (.t 8)
 (.seq (.region [It 2 (.mov (.c (.i .i64 2)))] [3,8])
 .ret)
 (.seq (.region [It 11 (.bin .eql (.t 3) (.c (.s [116,101,120,116]))),
 Mv 10 11] [8,11])
 (.cond (.t 10)
 (.seq (.region [It 2 (.mov (.c (.i .i64 3)))] [3,10])
 .ret)
 (.seq (.region [It 13 (.bin .eql (.t 3) (.c (.s [102,117,116,117,114,101]))),
 Mv 12 13] [3,10,13])
 (.cond (.t 12)
 (.seq (.region [It 2 (.mov (.c (.i .i64 6)))] [12])
 .ret)
 (.region [] [12])))))))))))))
 (.seq (.region [It 2 (.mov (.c (.i .i64 (-1))))] [])
 .ret))),
    14,1,[.t 2],2⟩
theorem tr135:trFunc Tryz.prog (hz [] I135.body) 1 Tryz.f135=some (plain1 I135):=by kernel_rfl
theorem ck135:ckC 2 I135.body=true:=by kernel_rfl
def L136a:ICode :=
  (.seq (.region [It 17 (.bin .lss (.t 16) (.t 15))] [])
 (.seq (.cond (.t 17)
 (.region [] [17])
 (.exit 0))
 (.seq (.block 1
 (.seq (.region [Mv 18 16,
 Ia 19 1 14 16,
 Ld 20 19,
 Mv 3 18,
 Mv 4 20] [18,19,20])
 (.seq (.region [Mv 21 4,
 It 22 (.bin .geq (.t 21) (.c (.i .u8 (97)))),
 Mv 23 22,
 Ig 24 23 true (.mov (.t 4)),
 Ig 25 23 true (.bin .leq (.t 24) (.c (.i .u8 (122)))),
 It 26 (.pick (.t 23) (.t 25) (.c (.b false))),
 Mv 5 26] [21,22,23,24,25,26])
 (.seq (.region [Mv 27 5,
 It 28 (.un .not (.t 27)),
 Mv 29 28,
 Ig 30 29 true (.mov (.t 3)),
 Ig 31 29 true (.bin .eql (.t 30) (.c i0)),
 Ig 32 29 true (.mov (.t 31)),
 Ig 33 32 false (.mov (.t 4)),
 Ig 34 32 false (.bin .neq (.t 33) (.c (.i .u8 (95)))),
 Ig 35 32 false (.mov (.t 34)),
 Ig 36 35 true (.mov (.t 4)),
 Ig 37 35 true (.bin .lss (.t 36) (.c (.i .u8 (48)))),
 Ig 38 35 true (.mov (.t 37)),
 Ig 39 38 false (.mov (.t 4)),
 Ig 40 38 false (.bin .gtr (.t 39) (.c (.i .u8 (57)))),
 Ig 41 35 true (.pick (.t 38) (.c (.b true)) (.t 40)),
 Ig 42 32 false (.pick (.t 35) (.t 41) (.c (.b false))),
 Ig 43 29 true (.pick (.t 32) (.c (.b true)) (.t 42)),
 It 44 (.pick (.t 29) (.t 43) (.c (.b false)))] [3,4,5,27,28,29,30,31,32,33,34,35,36,37,38,39,40,41,42,43])
 (.cond (.t 44)
 (.seq (.region [It 2 (.mov (.c (.b false)))] [14,15,16,44])
 .ret)
 (.region [] [44]))))))
 (.region [It 45 (.bin .add (.t 16) (.c (.i .i64 1))),
 Mv 16 45] [45]))))
def I136:IFunc :=
  ⟨(.seq (.region [It 2 (.mov (.c (.b false)))] [2])
 (.seq (.seq (.region [Mv 6 0,
 It 7 (.bin .eql (.t 6) (.c (.s []))),
 Mv 8 7,
 Ig 9 8 false (.mov (.t 0)),
 Ig 10 8 false (.lenk 1 (.t 9)),
 Ig 11 8 false (.bin .gtr (.t 10) (.c (.i .i64 16))),
 It 12 (.pick (.t 8) (.c (.b true)) (.t 11))] [6,7,8,9,10,11])
 (.cond (.t 12)
 (.seq (.region [It 2 (.mov (.c (.b false)))] [0,12])
 .ret)
 (.region [] [12])))
 (.seq (.seq (.region [Mv 13 0,
 It 14 (.s2b (.t 13)),
 Le 15 14,
 It 16 (.mov (.c i0))] [0,13])
 (.block 0
 (.loop L136a)))
 (.seq (.region [It 2 (.mov (.c (.b true)))] [14,15,16,17])
 .ret)))),
    46,1,[.t 2],2⟩
theorem tr136:trFunc Tryz.prog (hz [] I136.body) 1 Tryz.f136=some (plain1 I136):=by kernel_rfl
theorem ck136:ckC 2 I136.body=true:=by kernel_rfl
def I137:IFunc :=
  ⟨(.seq (.region [It 2 (.mov (.c (.b false)))] [2])
 (.seq (.region [Mv 3 0,
 Mv 4 0,
 It 5 (.bin .neq (.t 3) (.t 4)),
 Mv 2 5] [0,3,4,5])
 .ret)),
    6,1,[.t 2],2⟩
theorem tr137:trFunc Tryz.prog (hz [] I137.body) 1 Tryz.f137=some (plain1 I137):=by kernel_rfl
theorem ck137:ckC 2 I137.body=true:=by kernel_rfl
def I138:IFunc :=
  ⟨(.seq (.region [It 4 (.mov (.c (.b false)))] [4])
 (.seq (.region [Mv 5 0,
 It 6 (.lenk 1 (.t 5)),
 Mv 7 1,
 It 8 (.lenk 1 (.t 7)),
 It 9 (.bin .geq (.t 6) (.t 8)),
 Mv 10 9,
 Ig 11 10 true (.mov (.t 0)),
 Ig 12 10 true (.mov (.t 1)),
 Ig 13 10 true (.lenk 1 (.t 12)),
 Ig 14 10 true (.slS (.t 11) none (some (.t 13))),
 Ig 15 10 true (.mov (.t 1)),
 Ig 16 10 true (.bin .eql (.t 14) (.t 15)),
 It 17 (.pick (.t 10) (.t 16) (.c (.b false))),
 Mv 4 17] [0,1,5,6,7,8,9,10,11,12,13,14,15,16,17])
 .ret)),
    18,2,[.t 4],2⟩
theorem tr138:trFunc Tryz.prog (hz [] I138.body) 1 Tryz.f138=some (plain1 I138):=by kernel_rfl
theorem ck138:ckC 2 I138.body=true:=by kernel_rfl
def I139:IFunc :=
  ⟨(.seq (.region [It 4 (.mov (.c (.s []))),
 It 5 (.mov (.c (.b false)))] [4,5])
 (.seq (.seq (.region [Mv 6 0,
 Mv 7 1,
 It 8 (.call 138 [(.t 6),(.t 7)]),
 It 9 (.un .not (.t 8))] [6,7,8])
 (.cond (.t 9)
 (.seq (.region [Mv 10 0,
 Mv 4 10,
 It 5 (.mov (.c (.b false)))] [0,1,9,10])
 .ret)
 (.region [] [9])))
 (.seq (.region [Mv 11 0,
 Mv 12 1,
 It 13 (.lenk 1 (.t 12)),
 It 14 (.slS (.t 11) (some (.t 13)) none),
 Mv 4 14,
 It 5 (.mov (.c (.b true)))] [0,1,11,12,13,14])
 .ret))),
    15,2,[.t 4,.t 5],2⟩
theorem tr139:trFunc Tryz.prog (hz [] I139.body) 1 Tryz.f139=some (plain1 I139):=by kernel_rfl
theorem ck139:ckC 2 I139.body=true:=by kernel_rfl
def I140:IFunc :=
  ⟨(.seq (.region [It 4 (.mov (.c (.s []))),
 It 5 (.mov (.c (.s []))),
 It 6 (.mov (.c (.b false)))] [4,5,6])
 (.seq (.region [Mv 7 0,
 Mv 8 1,
 It 9 (.call 141 [(.t 7),(.t 8)]),
 Ex 10 9 0,
 Ex 11 9 1,
 Ex 12 9 2,
 Mv 4 10,
 Mv 5 11,
 Mv 6 12] [0,1,7,8,9,10,11,12])
 .ret)),
    13,2,[.t 4,.t 5,.t 6],2⟩
theorem tr140:trFunc Tryz.prog (hz [] I140.body) 1 Tryz.f140=some (plain1 I140):=by kernel_rfl
theorem ck140:ckC 2 I140.body=true:=by kernel_rfl
def I141:IFunc :=
  ⟨(.seq (.region [It 4 (.mov (.c (.s []))),
 It 5 (.mov (.c (.s []))),
 It 6 (.mov (.c (.b false)))] [4,5,6])
 (.seq (.seq (.region [Mv 8 0,
 Mv 9 1,
 It 10 (.call 142 [(.t 8),(.t 9)]),
 Mv 7 10] [8,9,10])
 (.seq (.region [Mv 11 7,
 It 12 (.bin .geq (.t 11) (.c i0))] [11])
 (.cond (.t 12)
 (.seq (.region [Mv 13 0,
 Mv 14 7,
 It 15 (.slS (.t 13) none (some (.t 14))),
 Mv 16 0,
 Mv 17 7,
 Mv 18 1,
 It 19 (.lenk 1 (.t 18)),
 It 20 (.bin .add (.t 17) (.t 19)),
 It 21 (.slS (.t 16) (some (.t 20)) none),
 Mv 4 15,
 Mv 5 21,
 It 6 (.mov (.c (.b true)))] [0,1,7,12,13,14,15,16,17,18,19,20,21])
 .ret)
 (.region [] [1,7,12]))))
 (.seq (.region [Mv 22 0,
 Mv 4 22,
 It 5 (.mov (.c (.s []))),
 It 6 (.mov (.c (.b false)))] [0,22])
 .ret))),
    23,2,[.t 4,.t 5,.t 6],2⟩
theorem tr141:trFunc Tryz.prog (hz [(3,[0,1,2,3,4,5,6,7,8,9,10,11])] I141.body) 1 Tryz.f141=some (plain1 I141):=by kernel_rfl
theorem ck141:ckC 2 I141.body=true:=by kernel_rfl
def L142a:ICode :=
  (.seq (.seq (.region [Mv 57 8,
 Mv 58 9,
 It 59 (.bin .lss (.t 57) (.t 58))] [57,58])
 (.cond (.t 59)
 (.region [] [59])
 (.exit 1)))
 (.block 2
 (.seq (.seq (.region [Mv 60 0,
 Mv 61 8,
 It 62 (.idxS (.t 60) (.t 61)),
 Mv 63 6,
 It 64 (.bin .neq (.t 62) (.t 63))] [60,61,62,63])
 (.cond (.t 64)
 (.seq (.region [Mv 65 0,
 Mv 66 8,
 It 67 (.bin .add (.t 66) (.c (.i .i64 1))),
 Mv 68 9,
 It 69 (.slS (.t 65) (some (.t 67)) (some (.t 68))),
 Mv 70 6,
 It 71 (.call 143 [(.t 69),(.t 70)]),
 Mv 11 71] [64,65,66,67,68,69,70,71])
 (.seq (.seq (.region [Mv 72 11,
 It 73 (.bin .lss (.t 72) (.c i0))] [72])
 (.cond (.t 73)
 (.seq (.region [It 4 (.mov (.c (.i .i64 (-1))))] [0,1,5,6,7,8,9,10,11,73])
 .ret)
 (.region [] [73])))
 (.region [Mv 74 8,
 Mv 75 11,
 It 76 (.bin .add (.t 75) (.c (.i .i64 1))),
 It 77 (.bin .add (.t 74) (.t 76)),
 Mv 8 77] [11,74,75,76,77])))
 (.region [] [64])))
 (.seq (.seq (.region [Mv 78 0,
 Mv 79 8,
 It 80 (.bin .add (.t 79) (.c (.i .i64 1))),
 It 81 (.idxS (.t 78) (.t 80)),
 Mv 82 7,
 It 83 (.bin .eql (.t 81) (.t 82)),
 Mv 84 83,
 Ig 85 84 true (.mov (.t 0)),
 Ig 86 84 true (.mov (.t 8)),
 Ig 87 84 true (.mov (.t 8)),
 Ig 88 84 true (.mov (.t 5)),
 Ig 89 84 true (.bin .add (.t 87) (.t 88)),
 Ig 90 84 true (.slS (.t 85) (some (.t 86)) (some (.t 89))),
 Ig 91 84 true (.mov (.t 1)),
 Ig 92 84 true (.bin .eql (.t 90) (.t 91)),
 It 93 (.pick (.t 84) (.t 92) (.c (.b false)))] [78,79,80,81,82,83,84,85,86,87,88,89,90,91,92])
 (.cond (.t 93)
 (.seq (.region [Mv 94 8,
 Mv 4 94] [0,1,5,6,7,8,9,10,93,94])
 .ret)
 (.region [] [93])))
 (.seq (.region [Mv 95 8,
 It 96 (.bin .add (.t 95) (.c (.i .i64 1))),
 Mv 8 96] [95,96])
 (.seq (.region [Mv 97 10,
 It 98 (.bin .add (.t 97) (.c (.i .i64 1))),
 Mv 10 98] [97,98])
 (.seq (.region [Mv 99 5,
 It 100 (.load none (.g 1)),
 It 101 (.bin .leq (.t 99) (.t 100)),
 Mv 102 101,
 Ig 103 102 true (.mov (.t 10)),
 Ig 104 102 true (.mov (.t 8)),
 Ig 105 102 true (.call 145 [(.t 104)]),
 Ig 106 102 true (.bin .gtr (.t 103) (.t 105)),
 It 107 (.pick (.t 102) (.t 106) (.c (.b false)))] [99,100,101,102,103,104,105,106])
 (.cond (.t 107)
 (.seq (.region [Mv 108 0,
 Mv 109 8,
 It 110 (.slS (.t 108) (some (.t 109)) none),
 Mv 111 1,
 It 112 (.call 144 [(.t 110),(.t 111)]),
 Mv 12 112] [0,1,5,6,7,9,10,107,108,109,110,111,112])
 (.seq (.seq (.region [Mv 113 12,
 It 114 (.bin .geq (.t 113) (.c i0))] [113])
 (.cond (.t 114)
 (.seq (.region [Mv 115 12,
 Mv 116 8,
 It 117 (.bin .add (.t 115) (.t 116)),
 Mv 4 117] [8,12,114,115,116,117])
 .ret)
 (.region [] [8,12,114])))
 (.seq (.region [It 4 (.mov (.c (.i .i64 (-1))))] [])
 .ret)))
 (.seq (.region [Mv 118 5,
 It 119 (.load none (.g 1)),
 It 120 (.bin .gtr (.t 118) (.t 119)),
 Mv 121 120,
 Ig 122 121 true (.mov (.t 10)),
 Ig 123 121 true (.mov (.t 8)),
 Ig 124 121 true (.bin .shr (.t 123) (.c (.i .u64 (4)))),
 Ig 125 121 true (.bin .add (.c (.i .i64 4)) (.t 124)),
 Ig 126 121 true (.bin .geq (.t 122) (.t 125)),
 It 127 (.pick (.t 121) (.t 126) (.c (.b false))),
 Mv 128 127,
 Ig 129 128 true (.mov (.t 8)),
 Ig 130 128 true (.mov (.t 9)),
 Ig 131 128 true (.bin .lss (.t 129) (.t 130)),
 It 132 (.pick (.t 128) (.t 131) (.c (.b false)))] [107,118,119,120,121,122,123,124,125,126,127,128,129,130,131])
 (.cond (.t 132)
 (.seq (.region [Mv 133 0,
 Mv 134 8,
 It 135 (.slS (.t 133) (some (.t 134)) none),
 Mv 136 1,
 It 137 (.call 146 [(.t 135),(.t 136)]),
 Mv 13 137] [0,1,5,6,7,9,10,132,133,134,135,136,137])
 (.seq (.seq (.region [Mv 138 13,
 It 139 (.bin .lss (.t 138) (.c i0))] [138])
 (.cond (.t 139)
 (.seq (.region [It 4 (.mov (.c (.i .i64 (-1))))] [8,13,139])
 .ret)
 (.region [] [139])))
 (.seq (.region [Mv 140 8,
 Mv 141 13,
 It 142 (.bin .add (.t 140) (.t 141)),
 Mv 4 142] [8,13,140,141,142])
 .ret)))
 (.region [] [132])))))))))))
def I142:IFunc :=
  ⟨(.seq (.region [It 4 (.mov (.c i0))] [4])
 (.seq (.region [Mv 14 1,
 It 15 (.lenk 1 (.t 14)),
 Mv 5 15] [14,15])
 (.seq (.block 0
 (.seq (.region [Mv 17 5,
 It 18 (.bin .eql (.t 17) (.c i0)),
 Mv 19 18,
 Ig 20 19 false (.mov (.t 1)),
 Ig 21 19 false (.mov (.t 0)),
 Ig 22 19 false (.bin .eql (.t 20) (.t 21)),
 It 23 (.pick (.t 19) (.c (.b true)) (.t 22)),
 Mv 16 23] [17,18,19,20,21,22,23])
 (.cond (.t 16)
 (.seq (.region [It 4 (.mov (.c i0))] [0,1,5,16])
 .ret)
 (.seq (.region [Mv 25 5,
 It 26 (.bin .eql (.t 25) (.c (.i .i64 1))),
 Mv 24 26] [16,25,26])
 (.cond (.t 24)
 (.seq (.region [Mv 27 0,
 Mv 28 1,
 It 29 (.idxS (.t 28) (.c i0)),
 It 30 (.call 143 [(.t 27),(.t 29)]),
 Mv 4 30] [0,1,5,24,27,28,29,30])
 .ret)
 (.seq (.region [Mv 32 5,
 Mv 33 0,
 It 34 (.lenk 1 (.t 33)),
 It 35 (.bin .geq (.t 32) (.t 34)),
 Mv 31 35] [24,32,33,34,35])
 (.cond (.t 31)
 (.seq (.region [It 4 (.mov (.c (.i .i64 (-1))))] [0,1,5,31])
 .ret)
 (.seq (.region [Mv 37 5,
 It 38 (.load none (.g 1)),
 It 39 (.bin .leq (.t 37) (.t 38)),
 Mv 40 39,
 Ig 41 40 true (.mov (.t 0)),
 Ig 42 40 true (.lenk 1 (.t 41)),
 Ig 43 40 true (.bin .leq (.t 42) (.c (.i .i64 64))),
 It 44 (.pick (.t 40) (.t 43) (.c (.b false))),
 Mv 36 44] [31,37,38,39,40,41,42,43,44])
 (.cond (.t 36)
 (.seq (.region [Mv 45 0,
 Mv 46 1,
 It 47 (.call 144 [(.t 45),(.t 46)]),
 Mv 4 47] [0,1,5,36,45,46,47])
 .ret)
 (.region [] [36]))))))))))
 (.seq (.region [Mv 48 1,
 It 49 (.idxS (.t 48) (.c i0)),
 Mv 6 49] [48,49])
 (.seq (.region [Mv 50 1,
 It 51 (.idxS (.t 50) (.c (.i .i64 1))),
 Mv 7 51] [50,51])
 (.seq (.region [It 8 (.mov (.c i0))] [])
 (.seq (.region [Mv 52 0,
 It 53 (.lenk 1 (.t 52)),
 Mv 54 5,
 It 55 (.bin .sub (.t 53) (.t 54)),
 It 56 (.bin .add (.t 55) (.c (.i .i64 1))),
 Mv 9 56] [52,53,54,55,56])
 (.seq (.region [It 10 (.mov (.c i0))] [])
 (.seq (.block 1
 (.loop L142a))
 (.seq (.region [It 4 (.mov (.c (.i .i64 (-1))))] [0,1,5,6,7,8,9,10,59])
 .ret)))))))))),
    143,2,[.t 4],2⟩
theorem tr142:trFunc Tryz.prog (hz [] I142.body) 1 Tryz.f142=some (plain1 I142):=by kernel_rfl
theorem ck142:ckC 2 I142.body=true:=by kernel_rfl
def I143:IFunc :=
  ⟨(.seq (.region [It 4 (.mov (.c i0))] [4])
 (.seq (.region [Mv 5 0,
 Mv 6 1,
 It 7 (.call 147 [(.t 5),(.t 6)]),
 Mv 4 7] [0,1,5,6,7])
 .ret)),
    8,2,[.t 4],2⟩
theorem tr143:trFunc Tryz.prog (hz [] I143.body) 1 Tryz.f143=some (plain1 I143):=by kernel_rfl
theorem ck143:ckC 2 I143.body=true:=by kernel_rfl
def I145:IFunc :=
  ⟨(.seq (.region [It 2 (.mov (.c i0))] [2])
 (.seq (.region [Mv 3 0,
 It 4 (.bin .add (.t 3) (.c (.i .i64 16))),
 It 5 (.bin .quo (.t 4) (.c (.i .i64 8))),
 Mv 2 5] [0,3,4,5])
 .ret)),
    6,1,[.t 2],2⟩
theorem tr145:trFunc Tryz.prog (hz [] I145.body) 1 Tryz.f145=some (plain1 I145):=by kernel_rfl
theorem ck145:ckC 2 I145.body=true:=by kernel_rfl
def L146a:ICode :=
  (.seq (.seq (.region [Mv 18 9,
 Mv 19 7,
 It 20 (.bin .lss (.t 18) (.t 19))] [18,19])
 (.cond (.t 20)
 (.region [] [20])
 (.exit 0)))
 (.seq (.block 1
 (.region [Mv 23 8,
 It 24 (.bin .mul (.t 23) (.c (.i .u32 (16777619)))),
 Mv 25 0,
 Mv 26 9,
 It 27 (.idxS (.t 25) (.t 26)),
 It 28 (.conv .u32 (.t 27)),
 It 29 (.bin .add (.t 24) (.t 28)),
 Mv 8 29] [23,24,25,26,27,28,29]))
 (.region [Mv 21 9,
 It 22 (.bin .add (.t 21) (.c (.i .i64 1))),
 Mv 9 22] [21,22])))
def L146b:ICode :=
  (.seq (.seq (.region [Mv 41 10,
 Mv 42 0,
 It 43 (.lenk 1 (.t 42)),
 It 44 (.bin .lss (.t 41) (.t 43))] [41,42,43])
 (.cond (.t 44)
 (.region [] [44])
 (.exit 2)))
 (.block 3
 (.seq (.region [Mv 45 8,
 It 46 (.bin .mul (.t 45) (.c (.i .u32 (16777619)))),
 Mv 8 46] [45,46])
 (.seq (.region [Mv 47 8,
 Mv 48 0,
 Mv 49 10,
 It 50 (.idxS (.t 48) (.t 49)),
 It 51 (.conv .u32 (.t 50)),
 It 52 (.bin .add (.t 47) (.t 51)),
 Mv 8 52] [47,48,49,50,51,52])
 (.seq (.region [Mv 53 8,
 Mv 54 6,
 Mv 55 0,
 Mv 56 10,
 Mv 57 7,
 It 58 (.bin .sub (.t 56) (.t 57)),
 It 59 (.idxS (.t 55) (.t 58)),
 It 60 (.conv .u32 (.t 59)),
 It 61 (.bin .mul (.t 54) (.t 60)),
 It 62 (.bin .sub (.t 53) (.t 61)),
 Mv 8 62] [53,54,55,56,57,58,59,60,61,62])
 (.seq (.region [Mv 63 10,
 It 64 (.bin .add (.t 63) (.c (.i .i64 1))),
 Mv 10 64] [63,64])
 (.seq (.region [Mv 65 8,
 Mv 66 5,
 It 67 (.bin .eql (.t 65) (.t 66)),
 Mv 68 67,
 Ig 69 68 true (.mov (.t 0)),
 Ig 70 68 true (.mov (.t 10)),
 Ig 71 68 true (.mov (.t 7)),
 Ig 72 68 true (.bin .sub (.t 70) (.t 71)),
 Ig 73 68 true (.mov (.t 10)),
 Ig 74 68 true (.slS (.t 69) (some (.t 72)) (some (.t 73))),
 Ig 75 68 true (.mov (.t 1)),
 Ig 76 68 true (.bin .eql (.t 74) (.t 75)),
 It 77 (.pick (.t 68) (.t 76) (.c (.b false)))] [65,66,67,68,69,70,71,72,73,74,75,76])
 (.cond (.t 77)
 (.seq (.region [Mv 78 10,
 Mv 79 7,
 It 80 (.bin .sub (.t 78) (.t 79)),
 Mv 4 80] [0,1,5,6,7,8,10,77,78,79,80])
 .ret)
 (.region [] [77])))))))))
def I146:IFunc :=
  ⟨(.seq (.region [It 4 (.mov (.c i0))] [4])
 (.seq (.region [Mv 12 1,
 It 13 (.call 148 [(.t 12)]),
 Mv 11 13,
 Ex 14 11 0,
 Ex 15 11 1,
 Mv 5 14,
 Mv 6 15] [12,13,11,14,15])
 (.seq (.region [Mv 16 1,
 It 17 (.lenk 1 (.t 16)),
 Mv 7 17] [16,17])
 (.seq (.region [It 8 (.mov (.c (.i .u32 (0))))] [])
 (.seq (.seq (.region [It 9 (.mov (.c i0))] [])
 (.block 0
 (.loop L146a)))
 (.seq (.seq (.region [Mv 30 8,
 Mv 31 5,
 It 32 (.bin .eql (.t 30) (.t 31)),
 Mv 33 32,
 Ig 34 33 true (.mov (.t 0)),
 Ig 35 33 true (.mov (.t 7)),
 Ig 36 33 true (.slS (.t 34) none (some (.t 35))),
 Ig 37 33 true (.mov (.t 1)),
 Ig 38 33 true (.bin .eql (.t 36) (.t 37)),
 It 39 (.pick (.t 33) (.t 38) (.c (.b false)))] [9,20,30,31,32,33,34,35,36,37,38])
 (.cond (.t 39)
 (.seq (.region [It 4 (.mov (.c i0))] [0,1,5,6,7,8,39])
 .ret)
 (.region [] [39])))
 (.seq (.seq (.region [Mv 40 7,
 Mv 10 40] [40])
 (.block 2
 (.loop L146b)))
 (.seq (.region [It 4 (.mov (.c (.i .i64 (-1))))] [0,1,5,6,7,8,10,44])
 .ret)))))))),
    81,2,[.t 4],2⟩
theorem tr146:trFunc Tryz.prog (hz [] I146.body) 1 Tryz.f146=some (plain1 I146):=by kernel_rfl
theorem ck146:ckC 2 I146.body=true:=by kernel_rfl
def I147:IFunc:=extFn
def L148a:ICode :=
  (.seq (.seq (.region [Mv 9 5,
 Mv 10 0,
 It 11 (.lenk 1 (.t 10)),
 It 12 (.bin .lss (.t 9) (.t 11))] [9,10,11])
 (.cond (.t 12)
 (.region [] [12])
 (.exit 0)))
 (.seq (.block 1
 (.region [Mv 15 4,
 It 16 (.bin .mul (.t 15) (.c (.i .u32 (16777619)))),
 Mv 17 0,
 Mv 18 5,
 It 19 (.idxS (.t 17) (.t 18)),
 It 20 (.conv .u32 (.t 19)),
 It 21 (.bin .add (.t 16) (.t 20)),
 Mv 4 21] [15,16,17,18,19,20,21]))
 (.region [Mv 13 5,
 It 14 (.bin .add (.t 13) (.c (.i .i64 1))),
 Mv 5 14] [13,14])))
def L148b:ICode :=
  (.seq (.seq (.region [Mv 24 8,
 It 25 (.bin .gtr (.t 24) (.c i0))] [24])
 (.cond (.t 25)
 (.region [] [25])
 (.exit 2)))
 (.seq (.block 3
 (.seq (.seq (.region [Mv 28 8,
 It 29 (.bin .and (.t 28) (.c (.i .i64 1))),
 It 30 (.bin .neq (.t 29) (.c i0))] [28,29])
 (.cond (.t 30)
 (.region [Mv 31 6,
 Mv 32 7,
 It 33 (.bin .mul (.t 31) (.t 32)),
 Mv 6 33] [30,31,32,33])
 (.region [] [30])))
 (.region [Mv 34 7,
 Mv 35 7,
 It 36 (.bin .mul (.t 34) (.t 35)),
 Mv 7 36] [34,35,36])))
 (.region [Mv 26 8,
 It 27 (.bin .shr (.t 26) (.c (.i .u64 (1)))),
 Mv 8 27] [26,27])))
def I148:IFunc :=
  ⟨(.seq (.region [It 2 (.mov (.c (.i .u32 (0)))),
 It 3 (.mov (.c (.i .u32 (0))))] [2,3])
 (.seq (.region [It 4 (.mov (.c (.i .u32 (0))))] [])
 (.seq (.seq (.region [It 5 (.mov (.c i0))] [])
 (.block 0
 (.loop L148a)))
 (.seq (.region [It 6 (.mov (.c (.i .u32 (1)))),
 It 7 (.mov (.c (.i .u32 (16777619))))] [5,12])
 (.seq (.seq (.region [Mv 22 0,
 It 23 (.lenk 1 (.t 22)),
 Mv 8 23] [0,22,23])
 (.block 2
 (.loop L148b)))
 (.seq (.region [Mv 37 4,
 Mv 38 6,
 Mv 2 37,
 Mv 3 38] [4,6,7,8,25,37,38])
 .ret)))))),
    39,1,[.t 2,.t 3],2⟩
theorem tr148:trFunc Tryz.prog (hz [] I148.body) 1 Tryz.f148=some (plain1 I148):=by kernel_rfl
theorem ck148:ckC 2 I148.body=true:=by kernel_rfl
def tab:List (Nat×IFunc):=[(4,I4),(5,I5),(6,I6),(7,I7),(8,I8),(10,I10),(11,I11),(12,I12),(13,I13),(14,I14),(15,I15),(16,I16),(17,I17),(18,I18),(19,I19),(20,I20),(21,I21),(22,I22),(23,I23),(24,I24),(25,I25),(26,I26),(27,I27),(29,I29),(30,I30),(31,I31),(32,I32),(33,I33),(34,I34),(35,I35),(36,I36),(37,I37),(38,I38),(39,I39),(40,I40),(41,I41),(42,I42),(43,I43),(44,I44),(45,I45),(46,I46),(47,I47),(48,I48),(49,I49),(50,I50),(51,I51),(52,I52),(53,I53),(54,I54),(55,I55),(56,I56),(57,I57),(58,I58),(59,I59),(60,I60),(61,I61),(62,I62),(63,I63),(64,I64),(65,I65),(66,I66),(67,I67),(68,I68),(69,I69),(70,I70),(71,I71),(72,I72),(73,I73),(74,I74),(75,I75),(76,I76),(77,I77),(78,I78),(79,I79),(80,I80),(81,I81),(82,I82),(83,I83),(84,I84),(85,I85),(86,I86),(87,I87),(88,I88),(89,I89),(90,I90),(91,I91),(92,I92),(93,I93),(94,I94),(95,I95),(96,I96),(97,I97),(98,I98),(99,I99),(100,I100),(101,I101),(102,I102),(103,I103),(104,I104),(105,I105),(106,I106),(107,I107),(108,I108),(109,I109),(110,I110),(111,I111),(112,I112),(113,I113),(114,I114),(115,I115),(116,I116),(117,I117),(118,I118),(119,I119),(120,I120),(121,I121),(122,I122),(123,I123),(124,I124),(125,I125),(126,I126),(127,I127),(128,I128),(129,I129),(130,I130),(131,I131),(132,I132),(133,I133),(134,I134),(135,I135),(136,I136),(137,I137),(138,I138),(139,I139),(140,I140),(141,I141),(142,I142),(143,I143),(145,I145),(146,I146),(147,I147),(148,I148)]
theorem tab_all:TabAll Tryz.prog (plainT tab) :=
 .cons Tryz.func4 tr4<|.cons Tryz.func5 tr5<|.cons Tryz.func6 tr6<|.cons Tryz.func7 tr7<|.cons Tryz.func8 tr8<|.cons Tryz.func10 tr10<|.cons Tryz.func11 tr11<|.cons Tryz.func12 tr12<|.cons Tryz.func13 tr13<|.cons Tryz.func14 tr14<|.cons Tryz.func15 tr15<|.cons Tryz.func16 tr16<|.cons Tryz.func17 tr17<|.cons Tryz.func18 tr18<|.cons Tryz.func19 tr19<|.cons Tryz.func20 tr20<|.cons Tryz.func21 tr21<|.cons Tryz.func22 tr22<|.cons Tryz.func23 tr23<|.cons Tryz.func24 tr24<|.cons Tryz.func25 tr25<|.cons Tryz.func26 tr26<|.cons Tryz.func27 tr27<|.cons Tryz.func29 tr29<|.cons Tryz.func30 tr30<|.cons Tryz.func31 tr31<|.cons Tryz.func32 tr32<|.cons Tryz.func33 tr33<|.cons Tryz.func34 tr34<|.cons Tryz.func35 tr35<|.cons Tryz.func36 tr36<|.cons Tryz.func37 tr37<|.cons Tryz.func38 tr38<|.cons Tryz.func39 tr39<|.cons Tryz.func40 tr40<|.cons Tryz.func41 tr41<|.cons Tryz.func42 tr42<|.cons Tryz.func43 tr43<|.cons Tryz.func44 tr44<|.cons Tryz.func45 tr45<|.cons Tryz.func46 tr46<|.cons Tryz.func47 tr47<|.cons Tryz.func48 tr48<|.cons Tryz.func49 tr49<|.cons Tryz.func50 tr50<|.cons Tryz.func51 tr51<|.cons Tryz.func52 tr52<|.cons Tryz.func53 tr53<|.cons Tryz.func54 tr54<|.cons Tryz.func55 tr55<|.cons Tryz.func56 tr56<|.cons Tryz.func57 tr57<|.cons Tryz.func58 tr58<|.cons Tryz.func59 tr59<|.cons Tryz.func60 tr60<|.cons Tryz.func61 tr61<|.cons Tryz.func62 tr62<|.cons Tryz.func63 tr63<|.cons Tryz.func64 tr64<|.cons Tryz.func65 tr65<|.cons Tryz.func66 tr66<|.cons Tryz.func67 tr67<|.cons Tryz.func68 tr68<|.cons Tryz.func69 tr69<|.cons Tryz.func70 tr70<|.cons Tryz.func71 tr71<|.cons Tryz.func72 tr72<|.cons Tryz.func73 tr73<|.cons Tryz.func74 tr74<|.cons Tryz.func75 tr75<|.cons Tryz.func76 tr76<|.cons Tryz.func77 tr77<|.cons Tryz.func78 tr78<|.cons Tryz.func79 tr79<|.cons Tryz.func80 tr80<|.cons Tryz.func81 tr81<|.cons Tryz.func82 tr82<|.cons Tryz.func83 tr83<|.cons Tryz.func84 tr84<|.cons Tryz.func85 tr85<|.cons Tryz.func86 tr86<|.cons Tryz.func87 tr87<|.cons Tryz.func88 tr88<|.cons Tryz.func89 tr89<|.cons Tryz.func90 tr90<|.cons Tryz.func91 tr91<|.cons Tryz.func92 tr92<|.cons Tryz.func93 tr93<|.cons Tryz.func94 tr94<|.cons Tryz.func95 tr95<|.cons Tryz.func96 tr96<|.cons Tryz.func97 tr97<|.cons Tryz.func98 tr98<|.cons Tryz.func99 tr99<|.cons Tryz.func100 tr100<|.cons Tryz.func101 tr101<|.cons Tryz.func102 tr102<|.cons Tryz.func103 tr103<|.cons Tryz.func104 tr104<|.cons Tryz.func105 tr105<|.cons Tryz.func106 tr106<|.cons Tryz.func107 tr107<|.cons Tryz.func108 tr108<|.cons Tryz.func109 tr109<|.cons Tryz.func110 tr110<|.cons Tryz.func111 tr111<|.cons Tryz.func112 tr112<|.cons Tryz.func113 tr113<|.cons Tryz.func114 tr114<|.cons Tryz.func115 tr115<|.cons Tryz.func116 tr116<|.cons Tryz.func117 tr117<|.cons Tryz.func118 tr118<|.cons Tryz.func119 tr119<|.cons Tryz.func120 tr120<|.cons Tryz.func121 tr121<|.cons Tryz.func122 tr122<|.cons Tryz.func123 tr123<|.cons Tryz.func124 tr124<|.cons Tryz.func125 tr125<|.cons Tryz.func126 tr126<|.cons Tryz.func127 tr127<|.cons Tryz.func128 tr128<|.cons Tryz.func129 tr129<|.cons Tryz.func130 tr130<|.cons Tryz.func131 tr131<|.cons Tryz.func132 tr132<|.cons Tryz.func133 tr133<|.cons Tryz.func134 tr134<|.cons Tryz.func135 tr135<|.cons Tryz.func136 tr136<|.cons Tryz.func137 tr137<|.cons Tryz.func138 tr138<|.cons Tryz.func139 tr139<|.cons Tryz.func140 tr140<|.cons Tryz.func141 tr141<|.cons Tryz.func142 tr142<|.cons Tryz.func143 tr143<|.cons Tryz.func145 tr145<|.cons Tryz.func146 tr146<|.ext Tryz.func147 (by kernel_rfl) (by kernel_rfl) (by kernel_rfl) (by kernel_rfl)<|.cons Tryz.func148 tr148<|.nil
theorem ck_all:CkAll 2 tab :=
 .cons ck4 rfl<|.cons ck5 rfl<|.cons ck6 rfl<|.cons ck7 rfl<|.cons ck8 rfl<|.cons ck10 rfl<|.cons ck11 rfl<|.cons ck12 rfl<|.cons ck13 rfl<|.cons ck14 rfl<|.cons ck15 rfl<|.cons ck16 rfl<|.cons ck17 rfl<|.cons ck18 rfl<|.cons ck19 rfl<|.cons ck20 rfl<|.cons ck21 rfl<|.cons ck22 rfl<|.cons ck23 rfl<|.cons ck24 rfl<|.cons ck25 rfl<|.cons ck26 rfl<|.cons ck27 rfl<|.cons ck29 rfl<|.cons ck30 rfl<|.cons ck31 rfl<|.cons ck32 rfl<|.cons ck33 rfl<|.cons ck34 rfl<|.cons ck35 rfl<|.cons ck36 rfl<|.cons ck37 rfl<|.cons ck38 rfl<|.cons ck39 rfl<|.clone ck40 rfl<|.cons ck41 rfl<|.cons ck42 rfl<|.cons ck43 rfl<|.cons ck44 rfl<|.cons ck45 rfl<|.cons ck46 rfl<|.clone ck47 rfl<|.cons ck48 rfl<|.cons ck49 rfl<|.cons ck50 rfl<|.cons ck51 rfl<|.cons ck52 rfl<|.cons ck53 rfl<|.cons ck54 rfl<|.cons ck55 rfl<|.cons ck56 rfl<|.cons ck57 rfl<|.cons ck58 rfl<|.cons ck59 rfl<|.cons ck60 rfl<|.cons ck61 rfl<|.cons ck62 rfl<|.cons ck63 rfl<|.cons ck64 rfl<|.clone ck65 rfl<|.cons ck66 rfl<|.cons ck67 rfl<|.cons ck68 rfl<|.cons ck69 rfl<|.cons ck70 rfl<|.cons ck71 rfl<|.cons ck72 rfl<|.cons ck73 rfl<|.cons ck74 rfl<|.cons ck75 rfl<|.cons ck76 rfl<|.cons ck77 rfl<|.cons ck78 rfl<|.cons ck79 rfl<|.cons ck80 rfl<|.cons ck81 rfl<|.cons ck82 rfl<|.cons ck83 rfl<|.cons ck84 rfl<|.cons ck85 rfl<|.cons ck86 rfl<|.cons ck87 rfl<|.cons ck88 rfl<|.cons ck89 rfl<|.cons ck90 rfl<|.cons ck91 rfl<|.cons ck92 rfl<|.cons ck93 rfl<|.cons ck94 rfl<|.cons ck95 rfl<|.cons ck96 rfl<|.cons ck97 rfl<|.cons ck98 rfl<|.cons ck99 rfl<|.cons ck100 rfl<|.cons ck101 rfl<|.cons ck102 rfl<|.cons ck103 rfl<|.cons ck104 rfl<|.cons ck105 rfl<|.cons ck106 rfl<|.cons ck107 rfl<|.cons ck108 rfl<|.cons ck109 rfl<|.cons ck110 rfl<|.cons ck111 rfl<|.cons ck112 rfl<|.cons ck113 rfl<|.cons ck114 rfl<|.cons ck115 rfl<|.cons ck116 rfl<|.cons ck117 rfl<|.cons ck118 rfl<|.cons ck119 rfl<|.cons ck120 rfl<|.cons ck121 rfl<|.cons ck122 rfl<|.cons ck123 rfl<|.cons ck124 rfl<|.cons ck125 rfl<|.cons ck126 rfl<|.cons ck127 rfl<|.cons ck128 rfl<|.cons ck129 rfl<|.cons ck130 rfl<|.cons ck131 rfl<|.cons ck132 rfl<|.cons ck133 rfl<|.cons ck134 rfl<|.cons ck135 rfl<|.cons ck136 rfl<|.cons ck137 rfl<|.cons ck138 rfl<|.cons ck139 rfl<|.cons ck140 rfl<|.cons ck141 rfl<|.cons ck142 rfl<|.cons ck143 rfl<|.cons ck145 rfl<|.cons ck146 rfl<|.ext<|.cons ck148 rfl<|.nil
def IP:FuncId→Option IFunc:=tabIP tab
theorem IP_ok:TabOK Tryz.prog (plainP IP):=tab_all.plain
theorem IP_ck:TabCk 2 IP:=ck_all.ck
theorem ip4:IP 4=some I4:=rfl
theorem ip5:IP 5=some I5:=rfl
theorem ip6:IP 6=some I6:=rfl
theorem ip7:IP 7=some I7:=rfl
theorem ip8:IP 8=some I8:=rfl
theorem ip10:IP 10=some I10:=rfl
theorem ip11:IP 11=some I11:=rfl
theorem ip12:IP 12=some I12:=rfl
theorem ip13:IP 13=some I13:=rfl
theorem ip14:IP 14=some I14:=rfl
theorem ip15:IP 15=some I15:=rfl
theorem ip16:IP 16=some I16:=rfl
theorem ip17:IP 17=some I17:=rfl
theorem ip18:IP 18=some I18:=rfl
theorem ip19:IP 19=some I19:=rfl
theorem ip20:IP 20=some I20:=rfl
theorem ip21:IP 21=some I21:=rfl
theorem ip22:IP 22=some I22:=rfl
theorem ip23:IP 23=some I23:=rfl
theorem ip24:IP 24=some I24:=rfl
theorem ip25:IP 25=some I25:=rfl
theorem ip26:IP 26=some I26:=rfl
theorem ip27:IP 27=some I27:=rfl
theorem ip29:IP 29=some I29:=rfl
theorem ip30:IP 30=some I30:=rfl
theorem ip31:IP 31=some I31:=rfl
theorem ip32:IP 32=some I32:=rfl
theorem ip33:IP 33=some I33:=rfl
theorem ip34:IP 34=some I34:=rfl
theorem ip35:IP 35=some I35:=rfl
theorem ip36:IP 36=some I36:=rfl
theorem ip37:IP 37=some I37:=rfl
theorem ip38:IP 38=some I38:=rfl
theorem ip39:IP 39=some I39:=rfl
theorem ip40:IP 40=some I40:=rfl
theorem ip41:IP 41=some I41:=rfl
theorem ip42:IP 42=some I42:=rfl
theorem ip43:IP 43=some I43:=rfl
theorem ip44:IP 44=some I44:=rfl
theorem ip45:IP 45=some I45:=rfl
theorem ip46:IP 46=some I46:=rfl
theorem ip47:IP 47=some I47:=rfl
theorem ip48:IP 48=some I48:=rfl
theorem ip49:IP 49=some I49:=rfl
theorem ip50:IP 50=some I50:=rfl
theorem ip51:IP 51=some I51:=rfl
theorem ip52:IP 52=some I52:=rfl
theorem ip53:IP 53=some I53:=rfl
theorem ip54:IP 54=some I54:=rfl
theorem ip55:IP 55=some I55:=rfl
theorem ip56:IP 56=some I56:=rfl
theorem ip57:IP 57=some I57:=rfl
theorem ip58:IP 58=some I58:=rfl
theorem ip59:IP 59=some I59:=rfl
theorem ip60:IP 60=some I60:=rfl
theorem ip61:IP 61=some I61:=rfl
theorem ip62:IP 62=some I62:=rfl
theorem ip63:IP 63=some I63:=rfl
theorem ip64:IP 64=some I64:=rfl
theorem ip65:IP 65=some I65:=rfl
theorem ip66:IP 66=some I66:=rfl
theorem ip67:IP 67=some I67:=rfl
theorem ip68:IP 68=some I68:=rfl
theorem ip69:IP 69=some I69:=rfl
theorem ip70:IP 70=some I70:=rfl
theorem ip71:IP 71=some I71:=rfl
theorem ip72:IP 72=some I72:=rfl
theorem ip73:IP 73=some I73:=rfl
theorem ip74:IP 74=some I74:=rfl
theorem ip75:IP 75=some I75:=rfl
theorem ip76:IP 76=some I76:=rfl
theorem ip77:IP 77=some I77:=rfl
theorem ip78:IP 78=some I78:=rfl
theorem ip79:IP 79=some I79:=rfl
theorem ip80:IP 80=some I80:=rfl
theorem ip81:IP 81=some I81:=rfl
theorem ip82:IP 82=some I82:=rfl
theorem ip83:IP 83=some I83:=rfl
theorem ip84:IP 84=some I84:=rfl
theorem ip85:IP 85=some I85:=rfl
theorem ip86:IP 86=some I86:=rfl
theorem ip87:IP 87=some I87:=rfl
theorem ip88:IP 88=some I88:=rfl
theorem ip89:IP 89=some I89:=rfl
theorem ip90:IP 90=some I90:=rfl
theorem ip91:IP 91=some I91:=rfl
theorem ip92:IP 92=some I92:=rfl
theorem ip93:IP 93=some I93:=rfl
theorem ip94:IP 94=some I94:=rfl
theorem ip95:IP 95=some I95:=rfl
theorem ip96:IP 96=some I96:=rfl
theorem ip97:IP 97=some I97:=rfl
theorem ip98:IP 98=some I98:=rfl
theorem ip99:IP 99=some I99:=rfl
theorem ip100:IP 100=some I100:=rfl
theorem ip101:IP 101=some I101:=rfl
theorem ip102:IP 102=some I102:=rfl
theorem ip103:IP 103=some I103:=rfl
theorem ip104:IP 104=some I104:=rfl
theorem ip105:IP 105=some I105:=rfl
theorem ip106:IP 106=some I106:=rfl
theorem ip107:IP 107=some I107:=rfl
theorem ip108:IP 108=some I108:=rfl
theorem ip109:IP 109=some I109:=rfl
theorem ip110:IP 110=some I110:=rfl
theorem ip111:IP 111=some I111:=rfl
theorem ip112:IP 112=some I112:=rfl
theorem ip113:IP 113=some I113:=rfl
theorem ip114:IP 114=some I114:=rfl
theorem ip115:IP 115=some I115:=rfl
theorem ip116:IP 116=some I116:=rfl
theorem ip117:IP 117=some I117:=rfl
theorem ip118:IP 118=some I118:=rfl
theorem ip119:IP 119=some I119:=rfl
theorem ip120:IP 120=some I120:=rfl
theorem ip121:IP 121=some I121:=rfl
theorem ip122:IP 122=some I122:=rfl
theorem ip123:IP 123=some I123:=rfl
theorem ip124:IP 124=some I124:=rfl
theorem ip125:IP 125=some I125:=rfl
theorem ip126:IP 126=some I126:=rfl
theorem ip127:IP 127=some I127:=rfl
theorem ip128:IP 128=some I128:=rfl
theorem ip129:IP 129=some I129:=rfl
theorem ip130:IP 130=some I130:=rfl
theorem ip131:IP 131=some I131:=rfl
theorem ip132:IP 132=some I132:=rfl
theorem ip133:IP 133=some I133:=rfl
theorem ip134:IP 134=some I134:=rfl
theorem ip135:IP 135=some I135:=rfl
theorem ip136:IP 136=some I136:=rfl
theorem ip137:IP 137=some I137:=rfl
theorem ip138:IP 138=some I138:=rfl
theorem ip139:IP 139=some I139:=rfl
theorem ip140:IP 140=some I140:=rfl
theorem ip141:IP 141=some I141:=rfl
theorem ip142:IP 142=some I142:=rfl
theorem ip143:IP 143=some I143:=rfl
theorem ip145:IP 145=some I145:=rfl
theorem ip146:IP 146=some I146:=rfl
theorem ip147:IP 147=some I147:=rfl
theorem ip148:IP 148=some I148:=rfl
section
variable {G H:AHeap} {lo:Nat} {l:List AVal} {x:AVal}
@[simp] theorem pu5:theCalls IP G lo 5 l H=given H ((snaps H l).bind (pureR IP G 5)):=calls_pureR ip5 rfl
@[simp] theorem pb5:pureB IP 5=true:=rfl
@[simp] theorem pu6:theCalls IP G lo 6 l H=given H ((snaps H l).bind (pureR IP G 6)):=calls_pureR ip6 rfl
@[simp] theorem pb6:pureB IP 6=true:=rfl
@[simp] theorem pu7:theCalls IP G lo 7 l H=given H ((snaps H l).bind (pureR IP G 7)):=calls_pureR ip7 rfl
@[simp] theorem pb7:pureB IP 7=true:=rfl
@[simp] theorem pu8:theCalls IP G lo 8 l H=given H ((snaps H l).bind (pureR IP G 8)):=calls_pureR ip8 rfl
@[simp] theorem pb8:pureB IP 8=true:=rfl
@[simp] theorem pu10:theCalls IP G lo 10 l H=given H ((snaps H l).bind (pureR IP G 10)):=calls_pureR ip10 rfl
@[simp] theorem pb10:pureB IP 10=true:=rfl
@[simp] theorem pu11:theCalls IP G lo 11 l H=given H ((snaps H l).bind (pureR IP G 11)):=calls_pureR ip11 rfl
@[simp] theorem pb11:pureB IP 11=true:=rfl
@[simp] theorem pu12:theCalls IP G lo 12 l H=given H ((snaps H l).bind (pureR IP G 12)):=calls_pureR ip12 rfl
@[simp] theorem pb12:pureB IP 12=true:=rfl
@[simp] theorem pu13:theCalls IP G lo 13 l H=given H ((snaps H l).bind (pureR IP G 13)):=calls_pureR ip13 rfl
@[simp] theorem pb13:pureB IP 13=true:=rfl
@[simp] theorem pu14:theCalls IP G lo 14 l H=given H ((snaps H l).bind (pureR IP G 14)):=calls_pureR ip14 rfl
@[simp] theorem pb14:pureB IP 14=true:=rfl
@[simp] theorem pb15:pureB IP 15=true:=rfl
@[simp] theorem pu16:theCalls IP G lo 16 l H=given H ((snaps H l).bind (pureR IP G 16)):=calls_pureR ip16 rfl
@[simp] theorem pb16:pureB IP 16=true:=rfl
@[simp] theorem pu17:theCalls IP G lo 17 l H=given H ((snaps H l).bind (pureR IP G 17)):=calls_pureR ip17 rfl
@[simp] theorem pb17:pureB IP 17=true:=rfl
@[simp] theorem pu18:theCalls IP G lo 18 l H=given H ((snaps H l).bind (pureR IP G 18)):=calls_pureR ip18 rfl
@[simp] theorem pb18:pureB IP 18=true:=rfl
@[simp] theorem pb19:pureB IP 19=true:=rfl
@[simp] theorem pb20:pureB IP 20=true:=rfl
@[simp] theorem pu21:theCalls IP G lo 21 l H=given H ((snaps H l).bind (pureR IP G 21)):=calls_pureR ip21 rfl
@[simp] theorem pb21:pureB IP 21=true:=rfl
@[simp] theorem pu22:theCalls IP G lo 22 l H=given H ((snaps H l).bind (pureR IP G 22)):=calls_pureR ip22 rfl
@[simp] theorem pb22:pureB IP 22=true:=rfl
@[simp] theorem pu23:theCalls IP G lo 23 l H=given H ((snaps H l).bind (pureR IP G 23)):=calls_pureR ip23 rfl
@[simp] theorem pb23:pureB IP 23=true:=rfl
@[simp] theorem pu24:theCalls IP G lo 24 l H=given H ((snaps H l).bind (pureR IP G 24)):=calls_pureR ip24 rfl
@[simp] theorem pb24:pureB IP 24=true:=rfl
@[simp] theorem pu25:theCalls IP G lo 25 l H=given H ((snaps H l).bind (pureR IP G 25)):=calls_pureR ip25 rfl
@[simp] theorem pb25:pureB IP 25=true:=rfl
@[simp] theorem pu26:theCalls IP G lo 26 l H=given H ((snaps H l).bind (pureR IP G 26)):=calls_pureR ip26 rfl
@[simp] theorem pb26:pureB IP 26=true:=rfl
@[simp] theorem pu27:theCalls IP G lo 27 l H=given H ((snaps H l).bind (pureR IP G 27)):=calls_pureR ip27 rfl
@[simp] theorem pb27:pureB IP 27=true:=rfl
@[simp] theorem pb29:pureB IP 29=true:=rfl
@[simp] theorem pu31:theCalls IP G lo 31 l H=given H ((snaps H l).bind (pureR IP G 31)):=calls_pureR ip31 rfl
@[simp] theorem pb31:pureB IP 31=true:=rfl
@[simp] theorem pu32:theCalls IP G lo 32 l H=given H ((snaps H l).bind (pureR IP G 32)):=calls_pureR ip32 rfl
@[simp] theorem pb32:pureB IP 32=true:=rfl
@[simp] theorem pu33:theCalls IP G lo 33 l H=given H ((snaps H l).bind (pureR IP G 33)):=calls_pureR ip33 rfl
@[simp] theorem pb33:pureB IP 33=true:=rfl
@[simp] theorem pu34:theCalls IP G lo 34 l H=given H ((snaps H l).bind (pureR IP G 34)):=calls_pureR ip34 rfl
@[simp] theorem pb34:pureB IP 34=true:=rfl
@[simp] theorem pu35:theCalls IP G lo 35 l H=given H ((snaps H l).bind (pureR IP G 35)):=calls_pureR ip35 rfl
@[simp] theorem pb35:pureB IP 35=true:=rfl
@[simp] theorem pu36:theCalls IP G lo 36 l H=given H ((snaps H l).bind (pureR IP G 36)):=calls_pureR ip36 rfl
@[simp] theorem pb36:pureB IP 36=true:=rfl
@[simp] theorem pu37:theCalls IP G lo 37 l H=given H ((snaps H l).bind (pureR IP G 37)):=calls_pureR ip37 rfl
@[simp] theorem pb37:pureB IP 37=true:=rfl
@[simp] theorem pu38:theCalls IP G lo 38 l H=given H ((snaps H l).bind (pureR IP G 38)):=calls_pureR ip38 rfl
@[simp] theorem pb38:pureB IP 38=true:=rfl
@[simp] theorem pu39:theCalls IP G lo 39 l H=given H ((snaps H l).bind (pureR IP G 39)):=calls_pureR ip39 rfl
@[simp] theorem pb39:pureB IP 39=true:=rfl
@[simp] theorem pu40:theCalls IP G lo 40 [x] H=cloneV H 1 16 x:=calls_clone ip40 rfl rfl
@[simp] theorem pb40:pureB IP 40=true:=rfl
@[simp] theorem pu41:theCalls IP G lo 41 l H=given H ((snaps H l).bind (pureR IP G 41)):=calls_pureR ip41 rfl
@[simp] theorem pb41:pureB IP 41=true:=rfl
@[simp] theorem pu42:theCalls IP G lo 42 l H=given H ((snaps H l).bind (pureR IP G 42)):=calls_pureR ip42 rfl
@[simp] theorem pb42:pureB IP 42=true:=rfl
@[simp] theorem pu43:theCalls IP G lo 43 l H=given H ((snaps H l).bind (pureR IP G 43)):=calls_pureR ip43 rfl
@[simp] theorem pb43:pureB IP 43=true:=rfl
@[simp] theorem pu44:theCalls IP G lo 44 l H=given H ((snaps H l).bind (pureR IP G 44)):=calls_pureR ip44 rfl
@[simp] theorem pb44:pureB IP 44=true:=rfl
@[simp] theorem pu45:theCalls IP G lo 45 l H=given H ((snaps H l).bind (pureR IP G 45)):=calls_pureR ip45 rfl
@[simp] theorem pb45:pureB IP 45=true:=rfl
@[simp] theorem pu47:theCalls IP G lo 47 [x] H=cloneV H 7 96 x:=calls_clone ip47 rfl rfl
@[simp] theorem pb47:pureB IP 47=true:=rfl
@[simp] theorem pu48:theCalls IP G lo 48 l H=given H ((snaps H l).bind (pureR IP G 48)):=calls_pureR ip48 rfl
@[simp] theorem pb48:pureB IP 48=true:=rfl
@[simp] theorem pu49:theCalls IP G lo 49 l H=given H ((snaps H l).bind (pureR IP G 49)):=calls_pureR ip49 rfl
@[simp] theorem pb49:pureB IP 49=true:=rfl
@[simp] theorem pu50:theCalls IP G lo 50 l H=given H ((snaps H l).bind (pureR IP G 50)):=calls_pureR ip50 rfl
@[simp] theorem pb50:pureB IP 50=true:=rfl
@[simp] theorem pu51:theCalls IP G lo 51 l H=given H ((snaps H l).bind (pureR IP G 51)):=calls_pureR ip51 rfl
@[simp] theorem pb51:pureB IP 51=true:=rfl
@[simp] theorem pu52:theCalls IP G lo 52 l H=given H ((snaps H l).bind (pureR IP G 52)):=calls_pureR ip52 rfl
@[simp] theorem pb52:pureB IP 52=true:=rfl
@[simp] theorem pu53:theCalls IP G lo 53 l H=given H ((snaps H l).bind (pureR IP G 53)):=calls_pureR ip53 rfl
@[simp] theorem pb53:pureB IP 53=true:=rfl
@[simp] theorem pu54:theCalls IP G lo 54 l H=given H ((snaps H l).bind (pureR IP G 54)):=calls_pureR ip54 rfl
@[simp] theorem pb54:pureB IP 54=true:=rfl
@[simp] theorem pu55:theCalls IP G lo 55 l H=given H ((snaps H l).bind (pureR IP G 55)):=calls_pureR ip55 rfl
@[simp] theorem pb55:pureB IP 55=true:=rfl
@[simp] theorem pb56:pureB IP 56=true:=rfl
@[simp] theorem pu57:theCalls IP G lo 57 l H=given H ((snaps H l).bind (pureR IP G 57)):=calls_pureR ip57 rfl
@[simp] theorem pb57:pureB IP 57=true:=rfl
@[simp] theorem pu58:theCalls IP G lo 58 l H=given H ((snaps H l).bind (pureR IP G 58)):=calls_pureR ip58 rfl
@[simp] theorem pb58:pureB IP 58=true:=rfl
@[simp] theorem pu59:theCalls IP G lo 59 l H=given H ((snaps H l).bind (pureR IP G 59)):=calls_pureR ip59 rfl
@[simp] theorem pb59:pureB IP 59=true:=rfl
@[simp] theorem pu60:theCalls IP G lo 60 l H=given H ((snaps H l).bind (pureR IP G 60)):=calls_pureR ip60 rfl
@[simp] theorem pb60:pureB IP 60=true:=rfl
@[simp] theorem pb61:pureB IP 61=true:=rfl
@[simp] theorem pu62:theCalls IP G lo 62 l H=given H ((snaps H l).bind (pureR IP G 62)):=calls_pureR ip62 rfl
@[simp] theorem pb62:pureB IP 62=true:=rfl
@[simp] theorem pu63:theCalls IP G lo 63 l H=given H ((snaps H l).bind (pureR IP G 63)):=calls_pureR ip63 rfl
@[simp] theorem pb63:pureB IP 63=true:=rfl
@[simp] theorem pu64:theCalls IP G lo 64 l H=given H ((snaps H l).bind (pureR IP G 64)):=calls_pureR ip64 rfl
@[simp] theorem pb64:pureB IP 64=true:=rfl
@[simp] theorem pu65:theCalls IP G lo 65 [x] H=cloneV H 5 80 x:=calls_clone ip65 rfl rfl
@[simp] theorem pb65:pureB IP 65=true:=rfl
@[simp] theorem pu66:theCalls IP G lo 66 l H=given H ((snaps H l).bind (pureR IP G 66)):=calls_pureR ip66 rfl
@[simp] theorem pb66:pureB IP 66=true:=rfl
@[simp] theorem pu67:theCalls IP G lo 67 l H=given H ((snaps H l).bind (pureR IP G 67)):=calls_pureR ip67 rfl
@[simp] theorem pb67:pureB IP 67=true:=rfl
@[simp] theorem pu68:theCalls IP G lo 68 l H=given H ((snaps H l).bind (pureR IP G 68)):=calls_pureR ip68 rfl
@[simp] theorem pb68:pureB IP 68=true:=rfl
@[simp] theorem pu69:theCalls IP G lo 69 l H=given H ((snaps H l).bind (pureR IP G 69)):=calls_pureR ip69 rfl
@[simp] theorem pb69:pureB IP 69=true:=rfl
@[simp] theorem pu70:theCalls IP G lo 70 l H=given H ((snaps H l).bind (pureR IP G 70)):=calls_pureR ip70 rfl
@[simp] theorem pb70:pureB IP 70=true:=rfl
@[simp] theorem pu71:theCalls IP G lo 71 l H=given H ((snaps H l).bind (pureR IP G 71)):=calls_pureR ip71 rfl
@[simp] theorem pb71:pureB IP 71=true:=rfl
@[simp] theorem pu72:theCalls IP G lo 72 l H=given H ((snaps H l).bind (pureR IP G 72)):=calls_pureR ip72 rfl
@[simp] theorem pb72:pureB IP 72=true:=rfl
@[simp] theorem pu73:theCalls IP G lo 73 l H=given H ((snaps H l).bind (pureR IP G 73)):=calls_pureR ip73 rfl
@[simp] theorem pb73:pureB IP 73=true:=rfl
@[simp] theorem pu74:theCalls IP G lo 74 l H=given H ((snaps H l).bind (pureR IP G 74)):=calls_pureR ip74 rfl
@[simp] theorem pb74:pureB IP 74=true:=rfl
@[simp] theorem pu75:theCalls IP G lo 75 l H=given H ((snaps H l).bind (pureR IP G 75)):=calls_pureR ip75 rfl
@[simp] theorem pb75:pureB IP 75=true:=rfl
@[simp] theorem pu76:theCalls IP G lo 76 l H=given H ((snaps H l).bind (pureR IP G 76)):=calls_pureR ip76 rfl
@[simp] theorem pb76:pureB IP 76=true:=rfl
@[simp] theorem pu77:theCalls IP G lo 77 l H=given H ((snaps H l).bind (pureR IP G 77)):=calls_pureR ip77 rfl
@[simp] theorem pb77:pureB IP 77=true:=rfl
@[simp] theorem pu78:theCalls IP G lo 78 l H=given H ((snaps H l).bind (pureR IP G 78)):=calls_pureR ip78 rfl
@[simp] theorem pb78:pureB IP 78=true:=rfl
@[simp] theorem pu79:theCalls IP G lo 79 l H=given H ((snaps H l).bind (pureR IP G 79)):=calls_pureR ip79 rfl
@[simp] theorem pb79:pureB IP 79=true:=rfl
@[simp] theorem pu80:theCalls IP G lo 80 l H=given H ((snaps H l).bind (pureR IP G 80)):=calls_pureR ip80 rfl
@[simp] theorem pb80:pureB IP 80=true:=rfl
@[simp] theorem pu81:theCalls IP G lo 81 l H=given H ((snaps H l).bind (pureR IP G 81)):=calls_pureR ip81 rfl
@[simp] theorem pb81:pureB IP 81=true:=rfl
@[simp] theorem pu82:theCalls IP G lo 82 l H=given H ((snaps H l).bind (pureR IP G 82)):=calls_pureR ip82 rfl
@[simp] theorem pb82:pureB IP 82=true:=rfl
@[simp] theorem pu83:theCalls IP G lo 83 l H=given H ((snaps H l).bind (pureR IP G 83)):=calls_pureR ip83 rfl
@[simp] theorem pb83:pureB IP 83=true:=rfl
@[simp] theorem pu84:theCalls IP G lo 84 l H=given H ((snaps H l).bind (pureR IP G 84)):=calls_pureR ip84 rfl
@[simp] theorem pb84:pureB IP 84=true:=rfl
@[simp] theorem pu85:theCalls IP G lo 85 l H=given H ((snaps H l).bind (pureR IP G 85)):=calls_pureR ip85 rfl
@[simp] theorem pb85:pureB IP 85=true:=rfl
@[simp] theorem pu86:theCalls IP G lo 86 l H=given H ((snaps H l).bind (pureR IP G 86)):=calls_pureR ip86 rfl
@[simp] theorem pb86:pureB IP 86=true:=rfl
@[simp] theorem pu87:theCalls IP G lo 87 l H=given H ((snaps H l).bind (pureR IP G 87)):=calls_pureR ip87 rfl
@[simp] theorem pb87:pureB IP 87=true:=rfl
@[simp] theorem pu88:theCalls IP G lo 88 l H=given H ((snaps H l).bind (pureR IP G 88)):=calls_pureR ip88 rfl
@[simp] theorem pb88:pureB IP 88=true:=rfl
@[simp] theorem pu89:theCalls IP G lo 89 l H=given H ((snaps H l).bind (pureR IP G 89)):=calls_pureR ip89 rfl
@[simp] theorem pb89:pureB IP 89=true:=rfl
@[simp] theorem pu90:theCalls IP G lo 90 l H=given H ((snaps H l).bind (pureR IP G 90)):=calls_pureR ip90 rfl
@[simp] theorem pb90:pureB IP 90=true:=rfl
@[simp] theorem pu91:theCalls IP G lo 91 l H=given H ((snaps H l).bind (pureR IP G 91)):=calls_pureR ip91 rfl
@[simp] theorem pb91:pureB IP 91=true:=rfl
@[simp] theorem pu92:theCalls IP G lo 92 l H=given H ((snaps H l).bind (pureR IP G 92)):=calls_pureR ip92 rfl
@[simp] theorem pb92:pureB IP 92=true:=rfl
@[simp] theorem pu93:theCalls IP G lo 93 l H=given H ((snaps H l).bind (pureR IP G 93)):=calls_pureR ip93 rfl
@[simp] theorem pb93:pureB IP 93=true:=rfl
@[simp] theorem pu94:theCalls IP G lo 94 l H=given H ((snaps H l).bind (pureR IP G 94)):=calls_pureR ip94 rfl
@[simp] theorem pb94:pureB IP 94=true:=rfl
@[simp] theorem pu95:theCalls IP G lo 95 l H=given H ((snaps H l).bind (pureR IP G 95)):=calls_pureR ip95 rfl
@[simp] theorem pb95:pureB IP 95=true:=rfl
@[simp] theorem pu96:theCalls IP G lo 96 l H=given H ((snaps H l).bind (pureR IP G 96)):=calls_pureR ip96 rfl
@[simp] theorem pb96:pureB IP 96=true:=rfl
@[simp] theorem pu97:theCalls IP G lo 97 l H=given H ((snaps H l).bind (pureR IP G 97)):=calls_pureR ip97 rfl
@[simp] theorem pb97:pureB IP 97=true:=rfl
@[simp] theorem pu98:theCalls IP G lo 98 l H=given H ((snaps H l).bind (pureR IP G 98)):=calls_pureR ip98 rfl
@[simp] theorem pb98:pureB IP 98=true:=rfl
@[simp] theorem pu99:theCalls IP G lo 99 l H=given H ((snaps H l).bind (pureR IP G 99)):=calls_pureR ip99 rfl
@[simp] theorem pb99:pureB IP 99=true:=rfl
@[simp] theorem pu100:theCalls IP G lo 100 l H=given H ((snaps H l).bind (pureR IP G 100)):=calls_pureR ip100 rfl
@[simp] theorem pb100:pureB IP 100=true:=rfl
@[simp] theorem pu101:theCalls IP G lo 101 l H=given H ((snaps H l).bind (pureR IP G 101)):=calls_pureR ip101 rfl
@[simp] theorem pb101:pureB IP 101=true:=rfl
@[simp] theorem pu102:theCalls IP G lo 102 l H=given H ((snaps H l).bind (pureR IP G 102)):=calls_pureR ip102 rfl
@[simp] theorem pb102:pureB IP 102=true:=rfl
@[simp] theorem pu103:theCalls IP G lo 103 l H=given H ((snaps H l).bind (pureR IP G 103)):=calls_pureR ip103 rfl
@[simp] theorem pb103:pureB IP 103=true:=rfl
@[simp] theorem pu104:theCalls IP G lo 104 l H=given H ((snaps H l).bind (pureR IP G 104)):=calls_pureR ip104 rfl
@[simp] theorem pb104:pureB IP 104=true:=rfl
@[simp] theorem pu105:theCalls IP G lo 105 l H=given H ((snaps H l).bind (pureR IP G 105)):=calls_pureR ip105 rfl
@[simp] theorem pb105:pureB IP 105=true:=rfl
@[simp] theorem pu106:theCalls IP G lo 106 l H=given H ((snaps H l).bind (pureR IP G 106)):=calls_pureR ip106 rfl
@[simp] theorem pb106:pureB IP 106=true:=rfl
@[simp] theorem pu107:theCalls IP G lo 107 l H=given H ((snaps H l).bind (pureR IP G 107)):=calls_pureR ip107 rfl
@[simp] theorem pb107:pureB IP 107=true:=rfl
@[simp] theorem pu108:theCalls IP G lo 108 l H=given H ((snaps H l).bind (pureR IP G 108)):=calls_pureR ip108 rfl
@[simp] theorem pb108:pureB IP 108=true:=rfl
@[simp] theorem pu109:theCalls IP G lo 109 l H=given H ((snaps H l).bind (pureR IP G 109)):=calls_pureR ip109 rfl
@[simp] theorem pb109:pureB IP 109=true:=rfl
@[simp] theorem pu110:theCalls IP G lo 110 l H=given H ((snaps H l).bind (pureR IP G 110)):=calls_pureR ip110 rfl
@[simp] theorem pb110:pureB IP 110=true:=rfl
@[simp] theorem pu111:theCalls IP G lo 111 l H=given H ((snaps H l).bind (pureR IP G 111)):=calls_pureR ip111 rfl
@[simp] theorem pb111:pureB IP 111=true:=rfl
@[simp] theorem pu112:theCalls IP G lo 112 l H=given H ((snaps H l).bind (pureR IP G 112)):=calls_pureR ip112 rfl
@[simp] theorem pb112:pureB IP 112=true:=rfl
@[simp] theorem pu113:theCalls IP G lo 113 l H=given H ((snaps H l).bind (pureR IP G 113)):=calls_pureR ip113 rfl
@[simp] theorem pb113:pureB IP 113=true:=rfl
@[simp] theorem pu114:theCalls IP G lo 114 l H=given H ((snaps H l).bind (pureR IP G 114)):=calls_pureR ip114 rfl
@[simp] theorem pb114:pureB IP 114=true:=rfl
@[simp] theorem pu115:theCalls IP G lo 115 l H=given H ((snaps H l).bind (pureR IP G 115)):=calls_pureR ip115 rfl
@[simp] theorem pb115:pureB IP 115=true:=rfl
@[simp] theorem pu116:theCalls IP G lo 116 l H=given H ((snaps H l).bind (pureR IP G 116)):=calls_pureR ip116 rfl
@[simp] theorem pb116:pureB IP 116=true:=rfl
@[simp] theorem pu117:theCalls IP G lo 117 l H=given H ((snaps H l).bind (pureR IP G 117)):=calls_pureR ip117 rfl
@[simp] theorem pb117:pureB IP 117=true:=rfl
@[simp] theorem pu118:theCalls IP G lo 118 l H=given H ((snaps H l).bind (pureR IP G 118)):=calls_pureR ip118 rfl
@[simp] theorem pb118:pureB IP 118=true:=rfl
@[simp] theorem pu119:theCalls IP G lo 119 l H=given H ((snaps H l).bind (pureR IP G 119)):=calls_pureR ip119 rfl
@[simp] theorem pb119:pureB IP 119=true:=rfl
@[simp] theorem pu120:theCalls IP G lo 120 l H=given H ((snaps H l).bind (pureR IP G 120)):=calls_pureR ip120 rfl
@[simp] theorem pb120:pureB IP 120=true:=rfl
@[simp] theorem pu121:theCalls IP G lo 121 l H=given H ((snaps H l).bind (pureR IP G 121)):=calls_pureR ip121 rfl
@[simp] theorem pb121:pureB IP 121=true:=rfl
@[simp] theorem pu122:theCalls IP G lo 122 l H=given H ((snaps H l).bind (pureR IP G 122)):=calls_pureR ip122 rfl
@[simp] theorem pb122:pureB IP 122=true:=rfl
@[simp] theorem pu123:theCalls IP G lo 123 l H=given H ((snaps H l).bind (pureR IP G 123)):=calls_pureR ip123 rfl
@[simp] theorem pb123:pureB IP 123=true:=rfl
@[simp] theorem pu124:theCalls IP G lo 124 l H=given H ((snaps H l).bind (pureR IP G 124)):=calls_pureR ip124 rfl
@[simp] theorem pb124:pureB IP 124=true:=rfl
@[simp] theorem pu125:theCalls IP G lo 125 l H=given H ((snaps H l).bind (pureR IP G 125)):=calls_pureR ip125 rfl
@[simp] theorem pb125:pureB IP 125=true:=rfl
@[simp] theorem pu126:theCalls IP G lo 126 l H=given H ((snaps H l).bind (pureR IP G 126)):=calls_pureR ip126 rfl
@[simp] theorem pb126:pureB IP 126=true:=rfl
@[simp] theorem pu127:theCalls IP G lo 127 l H=given H ((snaps H l).bind (pureR IP G 127)):=calls_pureR ip127 rfl
@[simp] theorem pb127:pureB IP 127=true:=rfl
@[simp] theorem pu128:theCalls IP G lo 128 l H=given H ((snaps H l).bind (pureR IP G 128)):=calls_pureR ip128 rfl
@[simp] theorem pb128:pureB IP 128=true:=rfl
@[simp] theorem pu129:theCalls IP G lo 129 l H=given H ((snaps H l).bind (pureR IP G 129)):=calls_pureR ip129 rfl
@[simp] theorem pb129:pureB IP 129=true:=rfl
@[simp] theorem pu130:theCalls IP G lo 130 l H=given H ((snaps H l).bind (pureR IP G 130)):=calls_pureR ip130 rfl
@[simp] theorem pb130:pureB IP 130=true:=rfl
@[simp] theorem pu131:theCalls IP G lo 131 l H=given H ((snaps H l).bind (pureR IP G 131)):=calls_pureR ip131 rfl
@[simp] theorem pb131:pureB IP 131=true:=rfl
@[simp] theorem pu132:theCalls IP G lo 132 l H=given H ((snaps H l).bind (pureR IP G 132)):=calls_pureR ip132 rfl
@[simp] theorem pb132:pureB IP 132=true:=rfl
@[simp] theorem pu133:theCalls IP G lo 133 l H=given H ((snaps H l).bind (pureR IP G 133)):=calls_pureR ip133 rfl
@[simp] theorem pb133:pureB IP 133=true:=rfl
@[simp] theorem pu134:theCalls IP G lo 134 l H=given H ((snaps H l).bind (pureR IP G 134)):=calls_pureR ip134 rfl
@[simp] theorem pb134:pureB IP 134=true:=rfl
@[simp] theorem pu135:theCalls IP G lo 135 l H=given H ((snaps H l).bind (pureR IP G 135)):=calls_pureR ip135 rfl
@[simp] theorem pb135:pureB IP 135=true:=rfl
@[simp] theorem pu136:theCalls IP G lo 136 l H=given H ((snaps H l).bind (pureR IP G 136)):=calls_pureR ip136 rfl
@[simp] theorem pb136:pureB IP 136=true:=rfl
@[simp] theorem pu137:theCalls IP G lo 137 l H=given H ((snaps H l).bind (pureR IP G 137)):=calls_pureR ip137 rfl
@[simp] theorem pb137:pureB IP 137=true:=rfl
@[simp] theorem pu138:theCalls IP G lo 138 l H=given H ((snaps H l).bind (pureR IP G 138)):=calls_pureR ip138 rfl
@[simp] theorem pb138:pureB IP 138=true:=rfl
@[simp] theorem pu139:theCalls IP G lo 139 l H=given H ((snaps H l).bind (pureR IP G 139)):=calls_pureR ip139 rfl
@[simp] theorem pb139:pureB IP 139=true:=rfl
@[simp] theorem pu140:theCalls IP G lo 140 l H=given H ((snaps H l).bind (pureR IP G 140)):=calls_pureR ip140 rfl
@[simp] theorem pb140:pureB IP 140=true:=rfl
@[simp] theorem pu141:theCalls IP G lo 141 l H=given H ((snaps H l).bind (pureR IP G 141)):=calls_pureR ip141 rfl
@[simp] theorem pb141:pureB IP 141=true:=rfl
@[simp] theorem pu142:theCalls IP G lo 142 l H=given H ((snaps H l).bind (pureR IP G 142)):=calls_pureR ip142 rfl
@[simp] theorem pb142:pureB IP 142=true:=rfl
@[simp] theorem pu143:theCalls IP G lo 143 l H=given H ((snaps H l).bind (pureR IP G 143)):=calls_pureR ip143 rfl
@[simp] theorem pb143:pureB IP 143=true:=rfl
@[simp] theorem pu145:theCalls IP G lo 145 l H=given H ((snaps H l).bind (pureR IP G 145)):=calls_pureR ip145 rfl
@[simp] theorem pb145:pureB IP 145=true:=rfl
@[simp] theorem pu146:theCalls IP G lo 146 l H=given H ((snaps H l).bind (pureR IP G 146)):=calls_pureR ip146 rfl
@[simp] theorem pb146:pureB IP 146=true:=rfl
@[simp] theorem pu147:theCalls IP G lo 147 l H=given H (idxB l):=calls_ext ip147 rfl rfl
@[simp] theorem pb147:pureB IP 147=true:=rfl
@[simp] theorem pu148:theCalls IP G lo 148 l H=given H ((snaps H l).bind (pureR IP G 148)):=calls_pureR ip148 rfl
@[simp] theorem pb148:pureB IP 148=true:=rfl
end
end Go.Proofs.YtkpgolcjiahdfaaGreatDoor
