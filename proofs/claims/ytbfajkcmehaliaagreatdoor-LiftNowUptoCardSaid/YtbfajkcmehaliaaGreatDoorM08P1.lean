import Derived.Test.YtbfajkcmehaliaaGreatDoorRows
import Derived.Test.YtbfajkcmehaliaaGreatDoorM07
import Derived.Test.YtbfajkcmehaliaaGreatDoorM04
set_option linter.unusedVariables false
set_option linter.unusedSimpArgs false
set_option linter.unusedSectionVars false
/- The functions that the statement reaches, as the interpreter has them, with modes. Conditions: none. -/
namespace Go.Proofs.YtbfajkcmehaliaaGreatDoor
open Go Go.RI
set_option maxRecDepth 100000
def I146:IFunc :=
  ⟨(.seq (.region [It 2 (.box (.t 0)),
 It 3 (.box (.t 1)),
 It 4 (.mov (.c i0)),
 It 5 (.mov (.c i0))] [0,1,5])
 (.seq (.block 0
 (.seq (.region [Of 7 3 0,
 Ld 8 7,
 It 9 (.bin .eql (.t 8) (.c (.i .i64 (1)))),
 Mv 10 9,
 Ig 11 10 false (.off (.t 3) 0),
 Ig 12 10 false (.load none (.t 11)),
 Ig 13 10 false (.bin .eql (.t 12) (.c (.i .i64 (2)))),
 It 14 (.pick (.t 10) (.c (.b true)) (.t 13)),
 Mv 6 14] [7,8,9,10,11,12,13,14])
 (.cond (.t 6)
 (.seq (.region [It 4 (.mov (.c i0)),
 It 5 (.mov (.c (.i .i64 (1))))] [2,3,6])
 .ret)
 (.seq (.region [Of 16 3 0,
 Ld 17 16,
 It 18 (.bin .eql (.t 17) (.c (.i .i64 (5)))),
 Mv 15 18] [6,16,17,18])
 (.cond (.t 15)
 (.seq (.region [It 4 (.mov (.c (.i .i64 (1)))),
 It 5 (.mov (.c (.i .i64 (2))))] [2,3,15])
 .ret)
 (.seq (.seq (.region [Of 20 3 0,
 Ld 21 20,
 It 22 (.bin .eql (.t 21) (.c (.i .i64 (3)))),
 Mv 19 22] [15,20,21,22])
 (.cond (.t 19)
 .skip
 (.seq (.region [Of 23 3 0,
 Ld 24 23,
 It 25 (.bin .eql (.t 24) (.c (.i .i64 (4)))),
 Mv 19 25] [23,24,25])
 (.cond (.t 19)
 .skip
 (.seq (.region [Of 26 3 0,
 Ld 27 26,
 It 28 (.bin .eql (.t 27) (.c (.i .i64 (25)))),
 Mv 19 28] [26,27,28])
 (.cond (.t 19)
 .skip
 (.seq (.region [Of 29 3 0,
 Ld 30 29,
 It 31 (.bin .eql (.t 30) (.c (.i .i64 (28)))),
 Mv 19 31] [29,30,31])
 (.cond (.t 19)
 .skip
 (.region [Of 32 3 0,
 Ld 33 32,
 It 34 (.bin .eql (.t 33) (.c (.i .i64 (30)))),
 Mv 19 34] [32,33,34])))))))))
 (.cond (.t 19)
 (.seq (.region [It 4 (.mov (.c (.i .i64 (1)))),
 It 5 (.mov (.c i0))] [2,3,19])
 .ret)
 (.seq (.seq (.region [Of 36 3 0,
 Ld 37 36,
 It 38 (.bin .geq (.t 37) (.c (.i .i64 (6)))),
 Mv 39 38,
 Ig 40 39 true (.off (.t 3) 0),
 Ig 41 39 true (.load none (.t 40)),
 Ig 42 39 true (.bin .leq (.t 41) (.c (.i .i64 (8)))),
 It 43 (.pick (.t 39) (.t 42) (.c (.b false))),
 Mv 35 43] [19,36,37,38,39,40,41,42,43])
 (.cond (.t 35)
 .skip
 (.seq (.region [Of 44 3 0,
 Ld 45 44,
 It 46 (.bin .eql (.t 45) (.c (.i .i64 (22)))),
 Mv 35 46] [44,45,46])
 (.cond (.t 35)
 .skip
 (.region [Of 47 3 0,
 Ld 48 47,
 It 49 (.bin .eql (.t 48) (.c (.i .i64 (23)))),
 Mv 35 49] [47,48,49])))))
 (.cond (.t 35)
 (.seq (.region [It 4 (.mov (.c (.i .i64 (1)))),
 It 5 (.mov (.c (.i .i64 (1))))] [2,3,35])
 .ret)
 (.seq (.region [Of 51 3 0,
 Ld 52 51,
 It 53 (.bin .geq (.t 52) (.c (.i .i64 (9)))),
 Mv 54 53,
 Ig 55 54 true (.off (.t 3) 0),
 Ig 56 54 true (.load none (.t 55)),
 Ig 57 54 true (.bin .leq (.t 56) (.c (.i .i64 (19)))),
 It 58 (.pick (.t 54) (.t 57) (.c (.b false))),
 Mv 50 58] [35,51,52,53,54,55,56,57,58])
 (.cond (.t 50)
 (.seq (.region [It 4 (.mov (.c (.i .i64 (2)))),
 It 5 (.mov (.c (.i .i64 (1))))] [2,3,50])
 .ret)
 (.seq (.region [Of 60 3 0,
 Ld 61 60,
 It 62 (.bin .eql (.t 61) (.c (.i .i64 (20)))),
 Mv 59 62] [50,60,61,62])
 (.cond (.t 59)
 (.seq (.region [Of 63 3 1,
 Ld 64 63,
 Mv 4 64,
 It 5 (.mov (.c (.i .i64 (1))))] [2,3,59,63,64])
 .ret)
 (.seq (.region [Of 66 3 0,
 Ld 67 66,
 It 68 (.bin .eql (.t 67) (.c (.i .i64 (21)))),
 Mv 65 68] [59,66,67,68])
 (.cond (.t 65)
 (.seq (.seq (.region [Of 69 3 1,
 Ld 70 69,
 It 71 (.bin .geq (.t 70) (.c i0)),
 Mv 72 71,
 Ig 73 72 true (.off (.t 3) 1),
 Ig 74 72 true (.load none (.t 73)),
 Ig 75 72 true (.off (.t 2) 1),
 Ig 76 72 true (.load none (.t 75)),
 Ig 77 72 true (.lenk 0 (.t 76)),
 Ig 78 72 true (.bin .lss (.t 74) (.t 77)),
 It 79 (.pick (.t 72) (.t 78) (.c (.b false)))] [65,69,70,71,72,73,74,75,76,77,78])
 (.cond (.t 79)
 (.region [Of 80 2 1,
 Ld 81 80,
 Of 82 3 1,
 Ld 83 82,
 It 84 (.iaddr 5 (.t 81) (.t 83)),
 Of 85 84 3,
 Ld 86 85,
 It 87 (.lenk 0 (.t 86)),
 Mv 4 87] [2,3,79,80,81,82,83,84,85,86,87])
 (.region [] [2,3,79])))
 (.seq (.region [Mv 88 4,
 Mv 4 88,
 It 5 (.mov (.c (.i .i64 (1))))] [88])
 .ret))
 (.seq (.region [Of 90 3 0,
 Ld 91 90,
 It 92 (.bin .eql (.t 91) (.c (.i .i64 (29)))),
 Mv 89 92] [65,90,91,92])
 (.cond (.t 89)
 (.seq (.seq (.region [Of 93 3 1,
 Ld 94 93,
 It 95 (.bin .geq (.t 94) (.c i0)),
 Mv 96 95,
 Ig 97 96 true (.off (.t 3) 1),
 Ig 98 96 true (.load none (.t 97)),
 Ig 99 96 true (.off (.t 2) 0),
 Ig 100 96 true (.load none (.t 99)),
 Ig 101 96 true (.lenk 0 (.t 100)),
 Ig 102 96 true (.bin .lss (.t 98) (.t 101)),
 It 103 (.pick (.t 96) (.t 102) (.c (.b false)))] [89,93,94,95,96,97,98,99,100,101,102])
 (.cond (.t 103)
 (.region [Of 104 2 0,
 Ld 105 104,
 Of 106 3 1,
 Ld 107 106,
 It 108 (.iaddr 4 (.t 105) (.t 107)),
 Of 109 108 1,
 Ld 110 109,
 Mv 4 110] [2,3,103,104,105,106,107,108,109,110])
 (.region [] [2,3,103])))
 (.seq (.region [Mv 111 4,
 Mv 4 111,
 It 5 (.mov (.c (.i .i64 (1))))] [111])
 .ret))
 (.seq (.region [Of 113 3 0,
 Ld 114 113,
 It 115 (.bin .eql (.t 114) (.c (.i .i64 (31)))),
 Mv 112 115] [2,89,113,114,115])
 (.cond (.t 112)
 (.seq (.seq (.region [Of 116 3 1,
 Ld 117 116,
 It 118 (.bin .neq (.t 117) (.c (.i .i64 (3)))),
 Mv 119 118,
 Ig 120 119 true (.off (.t 3) 1),
 Ig 121 119 true (.load none (.t 120)),
 Ig 122 119 true (.bin .neq (.t 121) (.c (.i .i64 (5)))),
 It 123 (.pick (.t 119) (.t 122) (.c (.b false))),
 Mv 124 123,
 Ig 125 124 true (.off (.t 3) 1),
 Ig 126 124 true (.load none (.t 125)),
 Ig 127 124 true (.bin .neq (.t 126) (.c (.i .i64 (6)))),
 It 128 (.pick (.t 124) (.t 127) (.c (.b false)))] [3,112,116,117,118,119,120,121,122,123,124,125,126,127])
 (.cond (.t 128)
 (.region [It 4 (.mov (.c (.i .i64 (1))))] [128])
 (.region [] [128])))
 (.seq (.region [Mv 129 4,
 Mv 4 129,
 It 5 (.mov (.c (.i .i64 (1))))] [129])
 .ret))
 (.region [] [3,4,112]))))))))))))))))))))
 (.seq (.region [It 4 (.mov (.c i0)),
 It 5 (.mov (.c i0))] [])
 .ret))),
    130,2,[.t 4,.t 5],2⟩
theorem tr146:trFunc Tryz.prog (hz [] I146.body) 1 Tryz.f146=some (plain1 I146):=by kernel_rfl
theorem ck146:ckC 2 I146.body=true:=by kernel_rfl
def I147:IFunc :=
  ⟨(.seq (.region [It 3 (.box (.t 1))] [1])
 (.seq (.region [Mv 4 0,
 Mv 5 0,
 It 6 (.nck (.t 5)),
 Of 7 6 2,
 Of 8 7 4,
 Ld 9 8,
 It 10 (.lenk 0 (.t 9)),
 It 11 (.build [i0,i0,i0,i0,(.s []),.ns,.ns] [(0,1,(.c (.i .i64 (2)))),(1,1,(.t 10))]),
 It 12 (.bsl 7 1 [i0,i0,i0,i0,(.s []),.ns,.ns] [(0,7,(.t 11))]),
 It 13 (.call 46 [(.t 4),(.t 12)])] [4,5,6,7,8,9,10,11,12,13])
 (.region [Mv 14 0,
 Mv 15 0,
 It 16 (.nck (.t 15)),
 Of 17 16 2,
 Of 18 17 4,
 Ld 19 18,
 It 20 (.load (some 5) (.t 3)),
 It 21 (.bsl 5 1 [i0,i0,.ns,(.s []),.ns] [(0,5,(.t 20))]),
 It 22 (.app 5 80 (.t 19) (.t 21)),
 It 23 (.nck (.t 14)),
 Of 24 23 2,
 Of 25 24 4,
 ⟨none,(.store 1 (.t 25) (.t 22)),none,[]⟩] [0,3,14,15,16,17,18,19,20,21,22,23,24,25]))),
    26,2,[],0⟩
theorem tr147:trFunc Tryz.prog (hz [(2,[0,1,2,3,4,5,6,7,8,9,10,11,12])] I147.body) 0 Tryz.f147=some (plain1 I147):=by kernel_rfl
theorem ck147:ckC 2 I147.body=true:=by kernel_rfl
def I148:IFunc :=
  ⟨(.seq (.region [It 4 (.mov (.c (.b false)))] [4])
 (.seq (.region [Mv 5 0,
 Mv 6 1,
 It 7 (.call 163 [(.t 5),(.t 6)]),
 Mv 4 7] [0,1,5,6,7])
 .ret)),
    8,2,[.t 4],2⟩
theorem tr148:trFunc Tryz.prog (hz [] I148.body) 1 Tryz.f148=some (plain1 I148):=by kernel_rfl
theorem ck148:ckC 2 I148.body=true:=by kernel_rfl
def I149:IFunc :=
  ⟨(.seq (.region [It 4 (.mov (.c (.s []))),
 It 5 (.mov (.c (.b false)))] [4,5])
 (.seq (.region [Mv 6 0,
 Mv 7 1,
 It 8 (.call 164 [(.t 6),(.t 7)]),
 Ex 9 8 0,
 Ex 10 8 1,
 Mv 4 9,
 Mv 5 10] [0,1,6,7,8,9,10])
 .ret)),
    11,2,[.t 4,.t 5],2⟩
theorem tr149:trFunc Tryz.prog (hz [] I149.body) 1 Tryz.f149=some (plain1 I149):=by kernel_rfl
theorem ck149:ckC 2 I149.body=true:=by kernel_rfl
def L150a:ICode :=
  (.block 1
 (.seq (.region [Mv 13 0,
 It 14 (.call 165 [(.t 13),(.c (.s [58]))]),
 Mv 12 14,
 Ex 15 12 0,
 Ex 16 12 1,
 Ex 17 12 2,
 Mv 5 15,
 Mv 6 16,
 Mv 7 17] [0,58,13,14,12,15,16,17])
 (.seq (.region [Mv 19 6,
 It 20 (.call 139 [(.t 19)]),
 Mv 18 20,
 Ex 21 18 0,
 Ex 22 18 1,
 Ex 23 18 2,
 It 8 (.alloc [i0,.ns,.ns]),
 ⟨none,(.store 3 (.t 8) (.t 21)),none,[]⟩,
 Mv 9 22,
 Mv 10 23] [6,19,20,18,21,22,23])
 (.seq (.seq (.region [Mv 24 7,
 It 25 (.un .not (.t 24)),
 Mv 26 25,
 Ig 27 26 false (.mov (.t 10)),
 Ig 28 26 false (.un .not (.t 27)),
 It 29 (.pick (.t 26) (.c (.b true)) (.t 28)),
 Mv 30 29,
 Ig 31 30 false (.mov (.t 9)),
 Ig 32 30 false (.bin .eql (.t 31) (.c (.s []))),
 It 33 (.pick (.t 30) (.c (.b true)) (.t 32))] [7,10,24,25,26,27,28,29,30,31,32])
 (.cond (.t 33)
 (.seq (.region [It 34 (.build [i0,.ns,.ns] []),
 ⟨none,(.store 3 (.t 2) (.t 34)),none,[]⟩,
 It 3 (.mov (.c (.s []))),
 It 4 (.mov (.c (.b false)))] [5,8,9,33,34])
 .ret)
 (.region [] [33])))
 (.seq (.region [Of 35 2 1,
 Ld 36 35,
 Mv 37 5,
 It 38 (.bsl 1 1 [(.s [])] [(0,1,(.t 37))]),
 Of 40 2 2,
 Ld 41 40,
 It 42 (.load (some 3) (.t 8)),
 It 43 (.bsl 3 1 [i0,.ns,.ns] [(0,3,(.t 42))]),
 ⟨(some 39),(.app 1 16 (.t 36) (.t 38)),none,[(41,(.load none (.t 40)),none),(42,(.load (some 3) (.t 8)),none)]⟩,
 Of 45 2 1,
 It 44 (.app 3 56 (.t 41) (.t 43)),
 ⟨none,(.store 1 (.t 45) (.t 39)),none,[]⟩,
 Of 46 2 2,
 ⟨none,(.store 1 (.t 46) (.t 44)),none,[]⟩] [5,8,35,36,37,38,40,41,42,43,39,45,44,46])
 (.seq (.region [Mv 47 9,
 It 48 (.slS (.t 47) (some (.c (.i .i64 (1)))) none),
 Mv 0 48] [47,48])
 (.seq (.seq (.region [Mv 49 9,
 It 50 (.idxS (.t 49) (.c i0))] [9,49])
 (.block 2
 (.seq (.region [It 52 (.bin .eql (.t 50) (.c (.i .u8 (125)))),
 Mv 51 52] [52])
 (.cond (.t 51)
 (.seq (.region [It 53 (.load (some 3) (.t 2)),
 Mv 54 0,
 Of 55 2 1,
 Ld 56 55,
 ⟨(some 57),(.call 113 [(.t 56)]),none,[(53,(.load (some 3) (.t 2)),none)]⟩,
 ⟨none,(.store 3 (.t 2) (.t 53)),none,[]⟩,
 Mv 3 54,
 Mv 4 57] [0,50,51,53,54,55,56,57])
 .ret)
 (.seq (.region [It 59 (.bin .eql (.t 50) (.c (.i .u8 (44)))),
 Mv 58 59] [50,51,59])
 (.cond (.t 58)
 (.exit 1)
 (.region [] [0,58])))))))
 (.seq (.region [It 60 (.build [i0,.ns,.ns] []),
 ⟨none,(.store 3 (.t 2) (.t 60)),none,[]⟩,
 It 3 (.mov (.c (.s []))),
 It 4 (.mov (.c (.b false)))] [60])
 .ret))))))))
def I150:IFunc :=
  ⟨(.seq (.region [It 2 (.alloc [i0,.ns,.ns]),
 It 3 (.mov (.c (.s []))),
 It 4 (.mov (.c (.b false)))] [3,4])
 (.seq (.region [Of 11 2 0,
 ⟨none,(.store 1 (.t 11) (.c (.i .i64 (5)))),none,[]⟩] [11])
 (.block 0
 (.loop L150a)))),
    61,1,[.c 2 (some 3),.t 3,.t 4],2⟩
theorem tr150:trFunc Tryz.prog (hz [(7,[0,1,2,3,5,6,7,8,4,10,9,11,12,13]),(11,[0,1,2,3,4,5,6,7])] I150.body) 1 Tryz.f150=some (plain1 I150):=by kernel_rfl
theorem ck150:ckC 2 I150.body=true:=by kernel_rfl
def I151:IFunc :=
  ⟨(.seq (.region [It 2 (.mov (.c i0))] [2])
 (.seq (.seq (.region [Mv 3 0] [0])
 (.block 0
 (.seq (.region [It 5 (.bin .eql (.t 3) (.c (.s [110,111,110,101]))),
 Mv 4 5] [5])
 (.cond (.t 4)
 (.seq (.region [It 2 (.mov (.c i0))] [3,4])
 .ret)
 (.seq (.region [It 7 (.bin .eql (.t 3) (.c (.s [105,110,116]))),
 Mv 6 7] [4,7])
 (.cond (.t 6)
 (.seq (.region [It 2 (.mov (.c (.i .i64 (1))))] [3,6])
 .ret)
 (.seq (.region [It 9 (.bin .eql (.t 3) (.c (.s [98,111,111,108]))),
 Mv 8 9] [6,9])
 (.cond (.t 8)
 (.seq (.region [It 2 (.mov (.c (.i .i64 (2))))] [3,8])
 .ret)
 (.seq (.region [It 11 (.bin .eql (.t 3) (.c (.s [116,101,120,116]))),
 Mv 10 11] [8,11])
 (.cond (.t 10)
 (.seq (.region [It 2 (.mov (.c (.i .i64 (3))))] [3,10])
 .ret)
 (.seq (.region [It 13 (.bin .eql (.t 3) (.c (.s [102,117,116,117,114,101]))),
 Mv 12 13] [3,10,13])
 (.cond (.t 12)
 (.seq (.region [It 2 (.mov (.c (.i .i64 (6))))] [12])
 .ret)
 (.region [] [12])))))))))))))
 (.seq (.region [It 2 (.mov (.c (.i .i64 (-1))))] [])
 .ret))),
    14,1,[.t 2],2⟩
theorem tr151:trFunc Tryz.prog (hz [] I151.body) 1 Tryz.f151=some (plain1 I151):=by kernel_rfl
theorem ck151:ckC 2 I151.body=true:=by kernel_rfl
def I152:IFunc :=
  ⟨(.seq (.region [It 2 (.mov (.c (.b false)))] [2])
 (.seq (.region [Mv 3 0,
 Mv 4 0,
 It 5 (.bin .neq (.t 3) (.t 4)),
 Mv 2 5] [0,3,4,5])
 .ret)),
    6,1,[.t 2],2⟩
theorem tr152:trFunc Tryz.prog (hz [] I152.body) 1 Tryz.f152=some (plain1 I152):=by kernel_rfl
theorem ck152:ckC 2 I152.body=true:=by kernel_rfl
def I153:IFunc :=
  ⟨(.seq (.region [It 1 (.box (.t 0)),
 It 2 (.mov (.c (.b false)))] [0,2])
 (.seq (.region [Of 3 1 2,
 Of 4 3 1,
 Ld 5 4,
 It 6 (.bin .geq (.t 5) (.c i0)),
 Mv 7 6,
 Ig 8 7 true (.off (.t 1) 2),
 Ig 9 7 true (.off (.t 8) 1),
 Ig 10 7 true (.load none (.t 9)),
 Ig 11 7 true (.off (.t 1) 0),
 Ig 12 7 true (.load none (.t 11)),
 Ig 13 7 true (.nck (.t 12)),
 Ig 14 7 true (.off (.t 13) 1),
 Ig 15 7 true (.load none (.t 14)),
 Ig 16 7 true (.lenk 0 (.t 15)),
 Ig 17 7 true (.bin .lss (.t 10) (.t 16)),
 It 18 (.pick (.t 7) (.t 17) (.c (.b false))),
 Mv 2 18] [1,3,4,5,6,7,8,9,10,11,12,13,14,15,16,17,18])
 .ret)),
    19,1,[.t 2],2⟩
theorem tr153:trFunc Tryz.prog (hz [(1,[0,1,2,3,4,5,6,7,8,9,10,11,12,13,14,15,16])] I153.body) 1 Tryz.f153=some (plain1 I153):=by kernel_rfl
theorem ck153:ckC 2 I153.body=true:=by kernel_rfl
def I154:IFunc :=
  ⟨(.seq (.region [It 1 (.box (.t 0)),
 It 2 (.mov (.c (.b false)))] [0,2])
 (.seq (.region [Of 3 1 2,
 Of 4 3 1,
 Ld 5 4,
 It 6 (.bin .geq (.t 5) (.c i0)),
 Mv 7 6,
 Ig 8 7 true (.off (.t 1) 2),
 Ig 9 7 true (.off (.t 8) 1),
 Ig 10 7 true (.load none (.t 9)),
 Ig 11 7 true (.off (.t 1) 1),
 Ig 12 7 true (.load none (.t 11)),
 Ig 13 7 true (.nck (.t 12)),
 Ig 14 7 true (.off (.t 13) 2),
 Ig 15 7 true (.load none (.t 14)),
 Ig 16 7 true (.bin .lss (.t 10) (.t 15)),
 It 17 (.pick (.t 7) (.t 16) (.c (.b false))),
 Mv 2 17] [1,3,4,5,6,7,8,9,10,11,12,13,14,15,16,17])
 .ret)),
    18,1,[.t 2],2⟩
theorem tr154:trFunc Tryz.prog (hz [(1,[0,1,2,3,4,5,6,7,8,9,10,11,12,13,14,15])] I154.body) 1 Tryz.f154=some (plain1 I154):=by kernel_rfl
theorem ck154:ckC 2 I154.body=true:=by kernel_rfl
def I155:IFunc :=
  ⟨(.seq (.region [It 1 (.box (.t 0)),
 It 2 (.mov (.c (.b false)))] [0,2])
 (.seq (.region [Of 3 1 2,
 Of 4 3 1,
 Ld 5 4,
 It 6 (.bin .geq (.t 5) (.c i0)),
 Mv 7 6,
 Ig 8 7 true (.off (.t 1) 2),
 Ig 9 7 true (.off (.t 8) 1),
 Ig 10 7 true (.load none (.t 9)),
 Ig 11 7 true (.bin .leq (.t 10) (.c (.i .i64 (8)))),
 It 12 (.pick (.t 7) (.t 11) (.c (.b false))),
 Mv 2 12] [1,3,4,5,6,7,8,9,10,11,12])
 .ret)),
    13,1,[.t 2],2⟩
theorem tr155:trFunc Tryz.prog (hz [] I155.body) 1 Tryz.f155=some (plain1 I155):=by kernel_rfl
theorem ck155:ckC 2 I155.body=true:=by kernel_rfl
def I156:IFunc :=
  ⟨(.seq (.region [It 1 (.box (.t 0)),
 It 2 (.mov (.c (.b false)))] [0,2])
 (.seq (.region [It 3 (.load (some 5) (.t 1)),
 It 4 (.call 153 [(.t 3)]),
 Mv 5 4,
 Ig 6 5 true (.off (.t 1) 0),
 Ig 7 5 true (.load none (.t 6)),
 Ig 8 5 true (.nck (.t 7)),
 Ig 9 5 true (.off (.t 8) 1),
 Ig 10 5 true (.load none (.t 9)),
 Ig 11 5 true (.off (.t 1) 2),
 Ig 12 5 true (.off (.t 11) 1),
 Ig 13 5 true (.load none (.t 12)),
 Ig 14 5 true (.iaddr 5 (.t 10) (.t 13)),
 Ig 15 5 true (.load (some 5) (.t 14)),
 Ig 16 5 true (.call 166 [(.t 15)]),
 It 17 (.pick (.t 5) (.t 16) (.c (.b false))),
 Mv 2 17] [1,3,4,5,6,7,8,9,10,11,12,13,14,15,16,17])
 .ret)),
    18,1,[.t 2],2⟩
theorem tr156:trFunc Tryz.prog (hz [(1,[0,1,2,3,4,5,6,7,8,9,10,11,12,13,14,15])] I156.body) 1 Tryz.f156=some (plain1 I156):=by kernel_rfl
theorem ck156:ckC 2 I156.body=true:=by kernel_rfl
def I157:IFunc :=
  ⟨(.seq (.region [It 1 (.box (.t 0)),
 It 2 (.mov (.c (.b false)))] [0,2])
 (.seq (.region [Of 3 1 0,
 Ld 4 3,
 Of 5 1 2,
 Of 6 5 1,
 Ld 7 6,
 It 8 (.call 167 [(.t 4),(.t 7)]),
 Mv 2 8] [1,3,4,5,6,7,8])
 .ret)),
    9,1,[.t 2],2⟩
theorem tr157:trFunc Tryz.prog (hz [] I157.body) 1 Tryz.f157=some (plain1 I157):=by kernel_rfl
theorem ck157:ckC 2 I157.body=true:=by kernel_rfl
def I158:IFunc :=
  ⟨(.seq (.region [It 1 (.box (.t 0)),
 It 2 (.mov (.c (.b false)))] [0,2])
 (.seq (.region [Of 6 1 0,
 Ld 7 6,
 Of 8 1 2,
 Of 9 8 1,
 Ld 10 9,
 It 11 (.call 168 [(.t 7),(.t 10)]),
 Mv 5 11,
 Ex 12 5 0,
 Ex 13 5 1,
 Mv 3 12,
 Mv 4 13] [1,6,7,8,9,10,11,5,12,13])
 (.seq (.region [Mv 14 4,
 Mv 15 14,
 Ig 16 15 true (.mov (.t 3)),
 Ig 17 15 true (.call 64 [(.t 16)]),
 It 18 (.pick (.t 15) (.t 17) (.c (.b false))),
 Mv 2 18] [3,4,14,15,16,17,18])
 .ret))),
    19,1,[.t 2],2⟩
theorem tr158:trFunc Tryz.prog (hz [] I158.body) 1 Tryz.f158=some (plain1 I158):=by kernel_rfl
theorem ck158:ckC 2 I158.body=true:=by kernel_rfl
def I159:IFunc :=
  ⟨(.seq (.region [It 1 (.box (.t 0)),
 It 2 (.mov (.c (.b false)))] [0,2])
 (.seq (.region [Of 3 1 2,
 Of 4 3 1,
 Ld 5 4,
 It 6 (.bin .geq (.t 5) (.c i0)),
 Mv 7 6,
 Ig 8 7 true (.off (.t 1) 2),
 Ig 9 7 true (.off (.t 8) 1),
 Ig 10 7 true (.load none (.t 9)),
 Ig 11 7 true (.off (.t 1) 1),
 Ig 12 7 true (.load none (.t 11)),
 Ig 13 7 true (.nck (.t 12)),
 Ig 14 7 true (.off (.t 13) 3),
 Ig 15 7 true (.load none (.t 14)),
 Ig 16 7 true (.lenk 0 (.t 15)),
 Ig 17 7 true (.bin .lss (.t 10) (.t 16)),
 It 18 (.pick (.t 7) (.t 17) (.c (.b false))),
 Mv 2 18] [1,3,4,5,6,7,8,9,10,11,12,13,14,15,16,17,18])
 .ret)),
    19,1,[.t 2],2⟩
theorem tr159:trFunc Tryz.prog (hz [(1,[0,1,2,3,4,5,6,7,8,9,10,11,12,13,14,15,16])] I159.body) 1 Tryz.f159=some (plain1 I159):=by kernel_rfl
theorem ck159:ckC 2 I159.body=true:=by kernel_rfl
def I160:IFunc :=
  ⟨(.seq (.region [It 1 (.box (.t 0)),
 It 2 (.mov (.c (.b false)))] [0,2])
 (.seq (.region [Of 3 1 2,
 Of 4 3 1,
 Ld 5 4,
 It 6 (.bin .geq (.t 5) (.c i0)),
 Mv 7 6,
 Ig 8 7 true (.off (.t 1) 2),
 Ig 9 7 true (.off (.t 8) 1),
 Ig 10 7 true (.load none (.t 9)),
 Ig 11 7 true (.off (.t 1) 0),
 Ig 12 7 true (.load none (.t 11)),
 Ig 13 7 true (.nck (.t 12)),
 Ig 14 7 true (.off (.t 13) 0),
 Ig 15 7 true (.load none (.t 14)),
 Ig 16 7 true (.lenk 0 (.t 15)),
 Ig 17 7 true (.bin .lss (.t 10) (.t 16)),
 It 18 (.pick (.t 7) (.t 17) (.c (.b false))),
 Mv 2 18] [1,3,4,5,6,7,8,9,10,11,12,13,14,15,16,17,18])
 .ret)),
    19,1,[.t 2],2⟩
theorem tr160:trFunc Tryz.prog (hz [(1,[0,1,2,3,4,5,6,7,8,9,10,11,12,13,14,15,16])] I160.body) 1 Tryz.f160=some (plain1 I160):=by kernel_rfl
theorem ck160:ckC 2 I160.body=true:=by kernel_rfl
def I161:IFunc :=
  ⟨(.seq (.region [It 1 (.box (.t 0)),
 It 2 (.mov (.c (.b false)))] [0,2])
 (.seq (.seq (.region [Of 7 1 2,
 Of 8 7 1,
 Ld 9 8] [7,8])
 (.block 0
 (.seq (.seq (.region [It 11 (.bin .eql (.t 9) (.c (.i .i64 (1)))),
 Mv 10 11] [11])
 (.cond (.t 10)
 .skip
 (.region [It 12 (.bin .eql (.t 9) (.c (.i .i64 (3)))),
 Mv 10 12] [12])))
 (.cond (.t 10)
 (.seq (.region [Of 13 1 0,
 Ld 14 13,
 Of 15 1 2,
 Of 16 15 2,
 Ld 17 16,
 It 18 (.call 167 [(.t 14),(.t 17)]),
 Mv 2 18] [1,9,10,13,14,15,16,17,18])
 .ret)
 (.seq (.region [It 20 (.bin .eql (.t 9) (.c (.i .i64 (4)))),
 Mv 19 20] [10,20])
 (.cond (.t 19)
 (.seq (.region [Of 22 1 0,
 Ld 23 22,
 Of 24 1 2,
 Of 25 24 2,
 Ld 26 25,
 It 27 (.call 168 [(.t 23),(.t 26)]),
 Mv 21 27,
 Ex 28 21 0,
 Ex 29 21 1,
 Mv 3 28,
 Mv 4 29] [9,19,22,23,24,25,26,27,21,28,29])
 (.seq (.region [Of 31 1 0,
 Ld 32 31,
 It 33 (.nck (.t 32)),
 It 34 (.load (some 2) (.t 33)),
 Mv 35 3,
 It 36 (.call 169 [(.t 34),(.t 35)]),
 Mv 30 36,
 Ex 37 30 0,
 Ex 38 30 1,
 Mv 5 37,
 Mv 6 38] [3,31,32,33,34,35,36,30,37,38])
 (.seq (.region [Mv 39 4,
 Mv 40 39,
 Ig 41 40 true (.mov (.t 6)),
 It 42 (.pick (.t 40) (.t 41) (.c (.b false))),
 Mv 43 42,
 Ig 44 43 true (.off (.t 1) 0),
 Ig 45 43 true (.load none (.t 44)),
 Ig 46 43 true (.nck (.t 45)),
 Ig 47 43 true (.off (.t 46) 0),
 Ig 48 43 true (.load none (.t 47)),
 Ig 49 43 true (.mov (.t 5)),
 Ig 50 43 true (.iaddr 4 (.t 48) (.t 49)),
 Ig 51 43 true (.off (.t 50) 1),
 Ig 52 43 true (.load none (.t 51)),
 Ig 53 43 true (.bin .eql (.t 52) (.c (.i .i64 (1)))),
 It 54 (.pick (.t 43) (.t 53) (.c (.b false))),
 Mv 2 54] [1,4,5,6,39,40,41,42,43,44,45,46,47,48,49,50,51,52,53,54])
 .ret)))
 (.seq (.seq (.region [It 56 (.bin .eql (.t 9) (.c (.i .i64 (2)))),
 Mv 55 56] [19,56])
 (.cond (.t 55)
 (.region [] [9])
 (.seq (.region [It 57 (.bin .eql (.t 9) (.c (.i .i64 (5)))),
 Mv 55 57] [57])
 (.cond (.t 55)
 (.region [] [9])
 (.seq (.region [It 58 (.bin .eql (.t 9) (.c (.i .i64 (6)))),
 Mv 55 58] [58])
 (.cond (.t 55)
 (.region [] [9])
 (.seq (.region [It 59 (.bin .eql (.t 9) (.c (.i .i64 (7)))),
 Mv 55 59] [59])
 (.cond (.t 55)
 (.region [] [9])
 (.region [It 60 (.bin .eql (.t 9) (.c (.i .i64 (8)))),
 Mv 55 60] [9,60])))))))))
 (.cond (.t 55)
 (.seq (.region [Of 61 1 2,
 Of 62 61 2,
 Ld 63 62,
 It 64 (.bin .eql (.t 63) (.c i0)),
 Mv 2 64] [1,55,61,62,63,64])
 .ret)
 (.region [] [1,55])))))))))
 (.seq (.region [It 2 (.mov (.c (.b false)))] [])
 .ret))),
    65,1,[.t 2],2⟩
theorem tr161:trFunc Tryz.prog (hz [] I161.body) 1 Tryz.f161=some (plain1 I161):=by kernel_rfl
theorem ck161:ckC 2 I161.body=true:=by kernel_rfl
def I162:IFunc :=
  ⟨(.seq (.region [It 1 (.box (.t 0)),
 It 2 (.mov (.c (.b false)))] [0,2])
 (.seq (.region [Of 3 1 2,
 Of 4 3 1,
 Ld 5 4,
 It 6 (.bin .eql (.t 5) (.c i0)),
 Mv 2 6] [1,3,4,5,6])
 .ret)),
    7,1,[.t 2],2⟩
theorem tr162:trFunc Tryz.prog (hz [] I162.body) 1 Tryz.f162=some (plain1 I162):=by kernel_rfl
theorem ck162:ckC 2 I162.body=true:=by kernel_rfl
def I163:IFunc :=
  ⟨(.seq (.region [It 4 (.mov (.c (.b false)))] [4])
 (.seq (.region [Mv 5 0,
 It 6 (.lenk 1 (.t 5)),
 Mv 7 1,
 It 8 (.lenk 1 (.t 7)),
 It 9 (.bin .geq (.t 6) (.t 8)),
 Mv 10 9,
 Ig 11 10 true (.mov (.t 0)),
 Ig 12 10 true (.mov (.t 1)),
 Ig 13 10 true (.lenk 1 (.t 12)),
 Ig 14 10 true (.slS (.t 11) none (some (.t 13))),
 Ig 15 10 true (.mov (.t 1)),
 Ig 16 10 true (.bin .eql (.t 14) (.t 15)),
 It 17 (.pick (.t 10) (.t 16) (.c (.b false))),
 Mv 4 17] [0,1,5,6,7,8,9,10,11,12,13,14,15,16,17])
 .ret)),
    18,2,[.t 4],2⟩
theorem tr163:trFunc Tryz.prog (hz [] I163.body) 1 Tryz.f163=some (plain1 I163):=by kernel_rfl
theorem ck163:ckC 2 I163.body=true:=by kernel_rfl
def I164:IFunc :=
  ⟨(.seq (.region [It 4 (.mov (.c (.s []))),
 It 5 (.mov (.c (.b false)))] [4,5])
 (.seq (.seq (.region [Mv 6 0,
 Mv 7 1,
 It 8 (.call 163 [(.t 6),(.t 7)]),
 It 9 (.un .not (.t 8))] [6,7,8])
 (.cond (.t 9)
 (.seq (.region [Mv 10 0,
 Mv 4 10,
 It 5 (.mov (.c (.b false)))] [0,1,9,10])
 .ret)
 (.region [] [9])))
 (.seq (.region [Mv 11 0,
 Mv 12 1,
 It 13 (.lenk 1 (.t 12)),
 It 14 (.slS (.t 11) (some (.t 13)) none),
 Mv 4 14,
 It 5 (.mov (.c (.b true)))] [0,1,11,12,13,14])
 .ret))),
    15,2,[.t 4,.t 5],2⟩
theorem tr164:trFunc Tryz.prog (hz [] I164.body) 1 Tryz.f164=some (plain1 I164):=by kernel_rfl
theorem ck164:ckC 2 I164.body=true:=by kernel_rfl
def I165:IFunc :=
  ⟨(.seq (.region [It 4 (.mov (.c (.s []))),
 It 5 (.mov (.c (.s []))),
 It 6 (.mov (.c (.b false)))] [4,5,6])
 (.seq (.region [Mv 7 0,
 Mv 8 1,
 It 9 (.call 170 [(.t 7),(.t 8)]),
 Ex 10 9 0,
 Ex 11 9 1,
 Ex 12 9 2,
 Mv 4 10,
 Mv 5 11,
 Mv 6 12] [0,1,7,8,9,10,11,12])
 .ret)),
    13,2,[.t 4,.t 5,.t 6],2⟩
theorem tr165:trFunc Tryz.prog (hz [] I165.body) 1 Tryz.f165=some (plain1 I165):=by kernel_rfl
theorem ck165:ckC 2 I165.body=true:=by kernel_rfl
def L166a:ICode :=
  (.seq (.region [It 15 (.bin .lss (.t 14) (.t 13))] [])
 (.seq (.cond (.t 15)
 (.region [] [15])
 (.exit 0))
 (.seq (.block 1
 (.seq (.region [It 16 (.iaddr 5 (.t 12) (.t 14)),
 It 17 (.load (some 5) (.t 16)),
 It 5 (.alloc [i0,i0,(.s []),.ns,.ns]),
 ⟨none,(.store 5 (.t 5) (.t 17)),none,[]⟩] [16,17])
 (.seq (.seq (.region [Of 18 5 0,
 Ld 19 18,
 It 20 (.bin .neq (.t 19) (.c (.i .i64 (3))))] [18,19])
 (.cond (.t 20)
 (.seq (.region [It 2 (.mov (.c (.b false)))] [1,3,12,13,14,5,20])
 .ret)
 (.region [] [20])))
 (.region [Of 21 3 4,
 Ld 22 21,
 Of 23 5 2,
 Ld 24 23,
 It 25 (.bsl 1 1 [(.s [])] [(0,1,(.t 24))]),
 It 26 (.app 1 16 (.t 22) (.t 25)),
 Of 27 3 4,
 ⟨none,(.store 1 (.t 27) (.t 26)),none,[]⟩] [5,21,22,23,24,25,26,27]))))
 (.region [It 28 (.bin .add (.t 14) (.c (.i .i64 (1)))),
 Mv 14 28] [28]))))
def I166:IFunc :=
  ⟨(.seq (.region [It 1 (.box (.t 0)),
 It 2 (.mov (.c (.b false)))] [0,2])
 (.seq (.region [Of 6 1 3,
 Ld 7 6,
 It 8 (.lenk 0 (.t 7)),
 It 9 (.mksl 5 80 [i0,i0,(.s []),.ns,.ns] (.t 8) (.t 8)),
 It 10 (.build [i0,i0,(.s []),.ns,.ns] [(0,1,(.c (.i .i64 (5)))),(3,1,(.t 9))]),
 It 3 (.alloc [i0,i0,(.s []),.ns,.ns]),
 ⟨none,(.store 5 (.t 3) (.t 10)),none,[]⟩] [6,7,8,9,10])
 (.seq (.seq (.region [Of 11 1 3,
 Ld 12 11,
 It 13 (.lenk 0 (.t 12)),
 It 14 (.mov (.c i0))] [11])
 (.block 0
 (.loop L166a)))
 (.seq (.region [Of 29 1 0,
 Ld 30 29,
 It 31 (.bin .eql (.t 30) (.c (.i .i64 (4)))),
 Mv 32 31,
 Ig 33 32 true (.off (.t 1) 3),
 Ig 34 32 true (.load none (.t 33)),
 Ig 35 32 true (.lenk 0 (.t 34)),
 Ig 36 32 true (.bin .leq (.t 35) (.c (.i .i64 (8)))),
 It 37 (.pick (.t 32) (.t 36) (.c (.b false))),
 Mv 38 37,
 Ig 39 38 true (.load (some 5) (.t 3)),
 Ig 40 38 true (.call 8 [(.t 39)]),
 Ig 41 38 true (.bin .eql (.t 40) (.c i0)),
 It 42 (.pick (.t 38) (.t 41) (.c (.b false))),
 Mv 2 42] [1,3,12,13,14,15,29,30,31,32,33,34,35,36,37,38,39,40,41,42])
 .ret)))),
    43,1,[.t 2],2⟩
theorem tr166:trFunc Tryz.prog (hz [] I166.body) 1 Tryz.f166=some (plain1 I166):=by kernel_rfl
theorem ck166:ckC 2 I166.body=true:=by kernel_rfl
def I167:IFunc :=
  ⟨(.seq (.region [It 4 (.mov (.c (.b false)))] [4])
 (.seq (.region [Mv 8 0,
 Mv 9 1,
 It 10 (.call 168 [(.t 8),(.t 9)]),
 Mv 7 10,
 Ex 11 7 0,
 Ex 12 7 1,
 Mv 5 11,
 Mv 6 12] [0,1,8,9,10,7,11,12])
 (.seq (.region [Mv 13 6,
 Mv 14 13,
 Ig 15 14 true (.mov (.t 5)),
 Ig 16 14 true (.call 143 [(.t 15)]),
 It 17 (.pick (.t 14) (.t 16) (.c (.b false))),
 Mv 4 17] [5,6,13,14,15,16,17])
 .ret))),
    18,2,[.t 4],2⟩
theorem tr167:trFunc Tryz.prog (hz [] I167.body) 1 Tryz.f167=some (plain1 I167):=by kernel_rfl
theorem ck167:ckC 2 I167.body=true:=by kernel_rfl
def I168:IFunc :=
  ⟨(.seq (.region [It 4 (.mov (.c (.s []))),
 It 5 (.mov (.c (.b false)))] [4,5])
 (.seq (.seq (.region [Mv 7 1,
 It 8 (.bin .lss (.t 7) (.c i0)),
 Mv 9 8,
 Ig 10 9 false (.mov (.t 1)),
 Ig 11 9 false (.mov (.t 0)),
 Ig 12 9 false (.nck (.t 11)),
 Ig 13 9 false (.off (.t 12) 1),
 Ig 14 9 false (.load none (.t 13)),
 Ig 15 9 false (.lenk 0 (.t 14)),
 Ig 16 9 false (.bin .geq (.t 10) (.t 15)),
 It 17 (.pick (.t 9) (.c (.b true)) (.t 16))] [7,8,9,10,11,12,13,14,15,16])
 (.cond (.t 17)
 (.seq (.region [It 4 (.mov (.c (.s []))),
 It 5 (.mov (.c (.b false)))] [0,1,17])
 .ret)
 (.region [] [17])))
 (.seq (.region [Mv 18 0,
 It 19 (.nck (.t 18)),
 Of 20 19 1,
 Ld 21 20,
 Mv 22 1,
 It 23 (.iaddr 5 (.t 21) (.t 22)),
 It 24 (.load (some 5) (.t 23)),
 It 6 (.alloc [i0,i0,(.s []),.ns,.ns]),
 ⟨none,(.store 5 (.t 6) (.t 24)),none,[]⟩] [0,1,18,19,20,21,22,23,24])
 (.seq (.region [Of 25 6 2,
 Ld 26 25,
 Of 27 6 0,
 Ld 28 27,
 It 29 (.bin .eql (.t 28) (.c (.i .i64 (3)))),
 Mv 4 26,
 Mv 5 29] [6,25,26,27,28,29])
 .ret)))),
    30,2,[.t 4,.t 5],2⟩
theorem tr168:trFunc Tryz.prog (hz [(5,[0,1,2,3,4,5,6])] I168.body) 1 Tryz.f168=some (plain1 I168):=by kernel_rfl
theorem ck168:ckC 2 I168.body=true:=by kernel_rfl
def I169:IFunc :=
  ⟨(.seq (.region [It 2 (.box (.t 0)),
 It 3 (.box (.t 1)),
 It 4 (.mov (.c i0)),
 It 5 (.mov (.c (.b false)))] [0,1,4,5])
 (.seq (.region [Of 7 2 0,
 Ld 8 7,
 It 9 (.mkf 171 [] [(.t 3)]),
 It 10 (.call 142 [(.t 8),(.t 9)]),
 Mv 6 10] [2,3,7,8,9,10])
 (.seq (.region [Mv 11 6,
 It 12 (.mm true (.t 11) [(.c i0)]),
 Mv 13 6,
 It 14 (.bin .geq (.t 13) (.c i0)),
 Mv 4 12,
 Mv 5 14] [6,11,12,13,14])
 .ret))),
    15,2,[.t 4,.t 5],2⟩
theorem tr169:trFunc Tryz.prog (hz [] I169.body) 1 Tryz.f169=some (plain1 I169):=by kernel_rfl
theorem ck169:ckC 2 I169.body=true:=by kernel_rfl
def I170:IFunc :=
  ⟨(.seq (.region [It 4 (.mov (.c (.s []))),
 It 5 (.mov (.c (.s []))),
 It 6 (.mov (.c (.b false)))] [4,5,6])
 (.seq (.seq (.region [Mv 8 0,
 Mv 9 1,
 It 10 (.call 172 [(.t 8),(.t 9)]),
 Mv 7 10] [8,9,10])
 (.seq (.region [Mv 11 7,
 It 12 (.bin .geq (.t 11) (.c i0))] [11])
 (.cond (.t 12)
 (.seq (.region [Mv 13 0,
 Mv 14 7,
 It 15 (.slS (.t 13) none (some (.t 14))),
 Mv 16 0,
 Mv 17 7,
 Mv 18 1,
 It 19 (.lenk 1 (.t 18)),
 It 20 (.bin .add (.t 17) (.t 19)),
 It 21 (.slS (.t 16) (some (.t 20)) none),
 Mv 4 15,
 Mv 5 21,
 It 6 (.mov (.c (.b true)))] [0,1,7,12,13,14,15,16,17,18,19,20,21])
 .ret)
 (.region [] [1,7,12]))))
 (.seq (.region [Mv 22 0,
 Mv 4 22,
 It 5 (.mov (.c (.s []))),
 It 6 (.mov (.c (.b false)))] [0,22])
 .ret))),
    23,2,[.t 4,.t 5,.t 6],2⟩
theorem tr170:trFunc Tryz.prog (hz [(3,[0,1,2,3,4,5,6,7,8,9,10,11])] I170.body) 1 Tryz.f170=some (plain1 I170):=by kernel_rfl
theorem ck170:ckC 2 I170.body=true:=by kernel_rfl
def I171:IFunc :=
  ⟨(.seq (.region [It 2 (.box (.t 0)),
 It 3 (.mov (.c (.b false)))] [0,3])
 (.seq (.region [Of 4 2 0,
 Ld 5 4,
 Ld 6 1,
 It 7 (.bin .eql (.t 5) (.t 6)),
 Mv 3 7] [1,2,4,5,6,7])
 .ret)),
    8,2,[.t 3],2⟩
theorem tr171:trFunc Tryz.prog (hz [] I171.body) 1 Tryz.f171=some (plain1 I171):=by kernel_rfl
theorem ck171:ckC 2 I171.body=true:=by kernel_rfl
def L172a:ICode :=
  (.seq (.seq (.region [Mv 57 8,
 Mv 58 9,
 It 59 (.bin .lss (.t 57) (.t 58))] [57,58])
 (.cond (.t 59)
 (.region [] [59])
 (.exit 1)))
 (.block 2
 (.seq (.seq (.region [Mv 60 0,
 Mv 61 8,
 It 62 (.idxS (.t 60) (.t 61)),
 Mv 63 6,
 It 64 (.bin .neq (.t 62) (.t 63))] [60,61,62,63])
 (.cond (.t 64)
 (.seq (.region [Mv 65 0,
 Mv 66 8,
 It 67 (.bin .add (.t 66) (.c (.i .i64 (1)))),
 Mv 68 9,
 It 69 (.slS (.t 65) (some (.t 67)) (some (.t 68))),
 Mv 70 6,
 It 71 (.call 173 [(.t 69),(.t 70)]),
 Mv 11 71] [64,65,66,67,68,69,70,71])
 (.seq (.seq (.region [Mv 72 11,
 It 73 (.bin .lss (.t 72) (.c i0))] [72])
 (.cond (.t 73)
 (.seq (.region [It 4 (.mov (.c (.i .i64 (-1))))] [0,1,5,6,7,8,9,10,11,73])
 .ret)
 (.region [] [73])))
 (.region [Mv 74 8,
 Mv 75 11,
 It 76 (.bin .add (.t 75) (.c (.i .i64 (1)))),
 It 77 (.bin .add (.t 74) (.t 76)),
 Mv 8 77] [11,74,75,76,77])))
 (.region [] [64])))
 (.seq (.seq (.region [Mv 78 0,
 Mv 79 8,
 It 80 (.bin .add (.t 79) (.c (.i .i64 (1)))),
 It 81 (.idxS (.t 78) (.t 80)),
 Mv 82 7,
 It 83 (.bin .eql (.t 81) (.t 82)),
 Mv 84 83,
 Ig 85 84 true (.mov (.t 0)),
 Ig 86 84 true (.mov (.t 8)),
 Ig 87 84 true (.mov (.t 8)),
 Ig 88 84 true (.mov (.t 5)),
 Ig 89 84 true (.bin .add (.t 87) (.t 88)),
 Ig 90 84 true (.slS (.t 85) (some (.t 86)) (some (.t 89))),
 Ig 91 84 true (.mov (.t 1)),
 Ig 92 84 true (.bin .eql (.t 90) (.t 91)),
 It 93 (.pick (.t 84) (.t 92) (.c (.b false)))] [78,79,80,81,82,83,84,85,86,87,88,89,90,91,92])
 (.cond (.t 93)
 (.seq (.region [Mv 94 8,
 Mv 4 94] [0,1,5,6,7,8,9,10,93,94])
 .ret)
 (.region [] [93])))
 (.seq (.region [Mv 95 8,
 It 96 (.bin .add (.t 95) (.c (.i .i64 (1)))),
 Mv 8 96] [95,96])
 (.seq (.region [Mv 97 10,
 It 98 (.bin .add (.t 97) (.c (.i .i64 (1)))),
 Mv 10 98] [97,98])
 (.seq (.region [Mv 99 5,
 It 100 (.load none (.g 1)),
 It 101 (.bin .leq (.t 99) (.t 100)),
 Mv 102 101,
 Ig 103 102 true (.mov (.t 10)),
 Ig 104 102 true (.mov (.t 8)),
 Ig 105 102 true (.call 175 [(.t 104)]),
 Ig 106 102 true (.bin .gtr (.t 103) (.t 105)),
 It 107 (.pick (.t 102) (.t 106) (.c (.b false)))] [99,100,101,102,103,104,105,106])
 (.cond (.t 107)
 (.seq (.region [Mv 108 0,
 Mv 109 8,
 It 110 (.slS (.t 108) (some (.t 109)) none),
 Mv 111 1,
 It 112 (.call 174 [(.t 110),(.t 111)]),
 Mv 12 112] [0,1,5,6,7,9,10,107,108,109,110,111,112])
 (.seq (.seq (.region [Mv 113 12,
 It 114 (.bin .geq (.t 113) (.c i0))] [113])
 (.cond (.t 114)
 (.seq (.region [Mv 115 12,
 Mv 116 8,
 It 117 (.bin .add (.t 115) (.t 116)),
 Mv 4 117] [8,12,114,115,116,117])
 .ret)
 (.region [] [8,12,114])))
 (.seq (.region [It 4 (.mov (.c (.i .i64 (-1))))] [])
 .ret)))
 (.seq (.region [Mv 118 5,
 It 119 (.load none (.g 1)),
 It 120 (.bin .gtr (.t 118) (.t 119)),
 Mv 121 120,
 Ig 122 121 true (.mov (.t 10)),
 Ig 123 121 true (.mov (.t 8)),
 Ig 124 121 true (.bin .shr (.t 123) (.c (.i .u64 (4)))),
 Ig 125 121 true (.bin .add (.c (.i .i64 (4))) (.t 124)),
 Ig 126 121 true (.bin .geq (.t 122) (.t 125)),
 It 127 (.pick (.t 121) (.t 126) (.c (.b false))),
 Mv 128 127,
 Ig 129 128 true (.mov (.t 8)),
 Ig 130 128 true (.mov (.t 9)),
 Ig 131 128 true (.bin .lss (.t 129) (.t 130)),
 It 132 (.pick (.t 128) (.t 131) (.c (.b false)))] [107,118,119,120,121,122,123,124,125,126,127,128,129,130,131])
 (.cond (.t 132)
 (.seq (.region [Mv 133 0,
 Mv 134 8,
 It 135 (.slS (.t 133) (some (.t 134)) none),
 Mv 136 1,
 It 137 (.call 176 [(.t 135),(.t 136)]),
 Mv 13 137] [0,1,5,6,7,9,10,132,133,134,135,136,137])
 (.seq (.seq (.region [Mv 138 13,
 It 139 (.bin .lss (.t 138) (.c i0))] [138])
 (.cond (.t 139)
 (.seq (.region [It 4 (.mov (.c (.i .i64 (-1))))] [8,13,139])
 .ret)
 (.region [] [139])))
 (.seq (.region [Mv 140 8,
 Mv 141 13,
 It 142 (.bin .add (.t 140) (.t 141)),
 Mv 4 142] [8,13,140,141,142])
 .ret)))
 (.region [] [132])))))))))))
def I172:IFunc :=
  ⟨(.seq (.region [It 4 (.mov (.c i0))] [4])
 (.seq (.region [Mv 14 1,
 It 15 (.lenk 1 (.t 14)),
 Mv 5 15] [14,15])
 (.seq (.block 0
 (.seq (.region [Mv 17 5,
 It 18 (.bin .eql (.t 17) (.c i0)),
 Mv 19 18,
 Ig 20 19 false (.mov (.t 1)),
 Ig 21 19 false (.mov (.t 0)),
 Ig 22 19 false (.bin .eql (.t 20) (.t 21)),
 It 23 (.pick (.t 19) (.c (.b true)) (.t 22)),
 Mv 16 23] [17,18,19,20,21,22,23])
 (.cond (.t 16)
 (.seq (.region [It 4 (.mov (.c i0))] [0,1,5,16])
 .ret)
 (.seq (.region [Mv 25 5,
 It 26 (.bin .eql (.t 25) (.c (.i .i64 (1)))),
 Mv 24 26] [16,25,26])
 (.cond (.t 24)
 (.seq (.region [Mv 27 0,
 Mv 28 1,
 It 29 (.idxS (.t 28) (.c i0)),
 It 30 (.call 173 [(.t 27),(.t 29)]),
 Mv 4 30] [0,1,5,24,27,28,29,30])
 .ret)
 (.seq (.region [Mv 32 5,
 Mv 33 0,
 It 34 (.lenk 1 (.t 33)),
 It 35 (.bin .geq (.t 32) (.t 34)),
 Mv 31 35] [24,32,33,34,35])
 (.cond (.t 31)
 (.seq (.region [It 4 (.mov (.c (.i .i64 (-1))))] [0,1,5,31])
 .ret)
 (.seq (.region [Mv 37 5,
 It 38 (.load none (.g 1)),
 It 39 (.bin .leq (.t 37) (.t 38)),
 Mv 40 39,
 Ig 41 40 true (.mov (.t 0)),
 Ig 42 40 true (.lenk 1 (.t 41)),
 Ig 43 40 true (.bin .leq (.t 42) (.c (.i .i64 (64)))),
 It 44 (.pick (.t 40) (.t 43) (.c (.b false))),
 Mv 36 44] [31,37,38,39,40,41,42,43,44])
 (.cond (.t 36)
 (.seq (.region [Mv 45 0,
 Mv 46 1,
 It 47 (.call 174 [(.t 45),(.t 46)]),
 Mv 4 47] [0,1,5,36,45,46,47])
 .ret)
 (.region [] [36]))))))))))
 (.seq (.region [Mv 48 1,
 It 49 (.idxS (.t 48) (.c i0)),
 Mv 6 49] [48,49])
 (.seq (.region [Mv 50 1,
 It 51 (.idxS (.t 50) (.c (.i .i64 (1)))),
 Mv 7 51] [50,51])
 (.seq (.region [It 8 (.mov (.c i0))] [])
 (.seq (.region [Mv 52 0,
 It 53 (.lenk 1 (.t 52)),
 Mv 54 5,
 It 55 (.bin .sub (.t 53) (.t 54)),
 It 56 (.bin .add (.t 55) (.c (.i .i64 (1)))),
 Mv 9 56] [52,53,54,55,56])
 (.seq (.region [It 10 (.mov (.c i0))] [])
 (.seq (.block 1
 (.loop L172a))
 (.seq (.region [It 4 (.mov (.c (.i .i64 (-1))))] [0,1,5,6,7,8,9,10,59])
 .ret)))))))))),
    143,2,[.t 4],2⟩
theorem tr172:trFunc Tryz.prog (hz [] I172.body) 1 Tryz.f172=some (plain1 I172):=by kernel_rfl
theorem ck172:ckC 2 I172.body=true:=by kernel_rfl
def I173:IFunc :=
  ⟨(.seq (.region [It 4 (.mov (.c i0))] [4])
 (.seq (.region [Mv 5 0,
 Mv 6 1,
 It 7 (.call 177 [(.t 5),(.t 6)]),
 Mv 4 7] [0,1,5,6,7])
 .ret)),
    8,2,[.t 4],2⟩
theorem tr173:trFunc Tryz.prog (hz [] I173.body) 1 Tryz.f173=some (plain1 I173):=by kernel_rfl
theorem ck173:ckC 2 I173.body=true:=by kernel_rfl
def I175:IFunc :=
  ⟨(.seq (.region [It 2 (.mov (.c i0))] [2])
 (.seq (.region [Mv 3 0,
 It 4 (.bin .add (.t 3) (.c (.i .i64 (16)))),
 It 5 (.bin .quo (.t 4) (.c (.i .i64 (8)))),
 Mv 2 5] [0,3,4,5])
 .ret)),
    6,1,[.t 2],2⟩
theorem tr175:trFunc Tryz.prog (hz [] I175.body) 1 Tryz.f175=some (plain1 I175):=by kernel_rfl
theorem ck175:ckC 2 I175.body=true:=by kernel_rfl
def L176a:ICode :=
  (.seq (.seq (.region [Mv 18 9,
 Mv 19 7,
 It 20 (.bin .lss (.t 18) (.t 19))] [18,19])
 (.cond (.t 20)
 (.region [] [20])
 (.exit 0)))
 (.seq (.block 1
 (.region [Mv 23 8,
 It 24 (.bin .mul (.t 23) (.c (.i .u32 (16777619)))),
 Mv 25 0,
 Mv 26 9,
 It 27 (.idxS (.t 25) (.t 26)),
 It 28 (.conv .u32 (.t 27)),
 It 29 (.bin .add (.t 24) (.t 28)),
 Mv 8 29] [23,24,25,26,27,28,29]))
 (.region [Mv 21 9,
 It 22 (.bin .add (.t 21) (.c (.i .i64 (1)))),
 Mv 9 22] [21,22])))
def L176b:ICode :=
  (.seq (.seq (.region [Mv 41 10,
 Mv 42 0,
 It 43 (.lenk 1 (.t 42)),
 It 44 (.bin .lss (.t 41) (.t 43))] [41,42,43])
 (.cond (.t 44)
 (.region [] [44])
 (.exit 2)))
 (.block 3
 (.seq (.region [Mv 45 8,
 It 46 (.bin .mul (.t 45) (.c (.i .u32 (16777619)))),
 Mv 8 46] [45,46])
 (.seq (.region [Mv 47 8,
 Mv 48 0,
 Mv 49 10,
 It 50 (.idxS (.t 48) (.t 49)),
 It 51 (.conv .u32 (.t 50)),
 It 52 (.bin .add (.t 47) (.t 51)),
 Mv 8 52] [47,48,49,50,51,52])
 (.seq (.region [Mv 53 8,
 Mv 54 6,
 Mv 55 0,
 Mv 56 10,
 Mv 57 7,
 It 58 (.bin .sub (.t 56) (.t 57)),
 It 59 (.idxS (.t 55) (.t 58)),
 It 60 (.conv .u32 (.t 59)),
 It 61 (.bin .mul (.t 54) (.t 60)),
 It 62 (.bin .sub (.t 53) (.t 61)),
 Mv 8 62] [53,54,55,56,57,58,59,60,61,62])
 (.seq (.region [Mv 63 10,
 It 64 (.bin .add (.t 63) (.c (.i .i64 (1)))),
 Mv 10 64] [63,64])
 (.seq (.region [Mv 65 8,
 Mv 66 5,
 It 67 (.bin .eql (.t 65) (.t 66)),
 Mv 68 67,
 Ig 69 68 true (.mov (.t 0)),
 Ig 70 68 true (.mov (.t 10)),
 Ig 71 68 true (.mov (.t 7)),
 Ig 72 68 true (.bin .sub (.t 70) (.t 71)),
 Ig 73 68 true (.mov (.t 10)),
 Ig 74 68 true (.slS (.t 69) (some (.t 72)) (some (.t 73))),
 Ig 75 68 true (.mov (.t 1)),
 Ig 76 68 true (.bin .eql (.t 74) (.t 75)),
 It 77 (.pick (.t 68) (.t 76) (.c (.b false)))] [65,66,67,68,69,70,71,72,73,74,75,76])
 (.cond (.t 77)
 (.seq (.region [Mv 78 10,
 Mv 79 7,
 It 80 (.bin .sub (.t 78) (.t 79)),
 Mv 4 80] [0,1,5,6,7,8,10,77,78,79,80])
 .ret)
 (.region [] [77])))))))))
def I176:IFunc :=
  ⟨(.seq (.region [It 4 (.mov (.c i0))] [4])
 (.seq (.region [Mv 12 1,
 It 13 (.call 178 [(.t 12)]),
 Mv 11 13,
 Ex 14 11 0,
 Ex 15 11 1,
 Mv 5 14,
 Mv 6 15] [12,13,11,14,15])
 (.seq (.region [Mv 16 1,
 It 17 (.lenk 1 (.t 16)),
 Mv 7 17] [16,17])
 (.seq (.region [It 8 (.mov (.c (.i .u32 (0))))] [])
 (.seq (.seq (.region [It 9 (.mov (.c i0))] [])
 (.block 0
 (.loop L176a)))
 (.seq (.seq (.region [Mv 30 8,
 Mv 31 5,
 It 32 (.bin .eql (.t 30) (.t 31)),
 Mv 33 32,
 Ig 34 33 true (.mov (.t 0)),
 Ig 35 33 true (.mov (.t 7)),
 Ig 36 33 true (.slS (.t 34) none (some (.t 35))),
 Ig 37 33 true (.mov (.t 1)),
 Ig 38 33 true (.bin .eql (.t 36) (.t 37)),
 It 39 (.pick (.t 33) (.t 38) (.c (.b false)))] [9,20,30,31,32,33,34,35,36,37,38])
 (.cond (.t 39)
 (.seq (.region [It 4 (.mov (.c i0))] [0,1,5,6,7,8,39])
 .ret)
 (.region [] [39])))
 (.seq (.seq (.region [Mv 40 7,
 Mv 10 40] [40])
 (.block 2
 (.loop L176b)))
 (.seq (.region [It 4 (.mov (.c (.i .i64 (-1))))] [0,1,5,6,7,8,10,44])
 .ret)))))))),
    81,2,[.t 4],2⟩
theorem tr176:trFunc Tryz.prog (hz [] I176.body) 1 Tryz.f176=some (plain1 I176):=by kernel_rfl
theorem ck176:ckC 2 I176.body=true:=by kernel_rfl
def I177:IFunc:=extFn
def L178a:ICode :=
  (.seq (.seq (.region [Mv 9 5,
 Mv 10 0,
 It 11 (.lenk 1 (.t 10)),
 It 12 (.bin .lss (.t 9) (.t 11))] [9,10,11])
 (.cond (.t 12)
 (.region [] [12])
 (.exit 0)))
 (.seq (.block 1
 (.region [Mv 15 4,
 It 16 (.bin .mul (.t 15) (.c (.i .u32 (16777619)))),
 Mv 17 0,
 Mv 18 5,
 It 19 (.idxS (.t 17) (.t 18)),
 It 20 (.conv .u32 (.t 19)),
 It 21 (.bin .add (.t 16) (.t 20)),
 Mv 4 21] [15,16,17,18,19,20,21]))
 (.region [Mv 13 5,
 It 14 (.bin .add (.t 13) (.c (.i .i64 (1)))),
 Mv 5 14] [13,14])))
def L178b:ICode :=
  (.seq (.seq (.region [Mv 24 8,
 It 25 (.bin .gtr (.t 24) (.c i0))] [24])
 (.cond (.t 25)
 (.region [] [25])
 (.exit 2)))
 (.seq (.block 3
 (.seq (.seq (.region [Mv 28 8,
 It 29 (.bin .and (.t 28) (.c (.i .i64 (1)))),
 It 30 (.bin .neq (.t 29) (.c i0))] [28,29])
 (.cond (.t 30)
 (.region [Mv 31 6,
 Mv 32 7,
 It 33 (.bin .mul (.t 31) (.t 32)),
 Mv 6 33] [30,31,32,33])
 (.region [] [30])))
 (.region [Mv 34 7,
 Mv 35 7,
 It 36 (.bin .mul (.t 34) (.t 35)),
 Mv 7 36] [34,35,36])))
 (.region [Mv 26 8,
 It 27 (.bin .shr (.t 26) (.c (.i .u64 (1)))),
 Mv 8 27] [26,27])))
def I178:IFunc :=
  ⟨(.seq (.region [It 2 (.mov (.c (.i .u32 (0)))),
 It 3 (.mov (.c (.i .u32 (0))))] [2,3])
 (.seq (.region [It 4 (.mov (.c (.i .u32 (0))))] [])
 (.seq (.seq (.region [It 5 (.mov (.c i0))] [])
 (.block 0
 (.loop L178a)))
 (.seq (.region [It 6 (.mov (.c (.i .u32 (1)))),
 It 7 (.mov (.c (.i .u32 (16777619))))] [5,12])
 (.seq (.seq (.region [Mv 22 0,
 It 23 (.lenk 1 (.t 22)),
 Mv 8 23] [0,22,23])
 (.block 2
 (.loop L178b)))
 (.seq (.region [Mv 37 4,
 Mv 38 6,
 Mv 2 37,
 Mv 3 38] [4,6,7,8,25,37,38])
 .ret)))))),
    39,1,[.t 2,.t 3],2⟩
theorem tr178:trFunc Tryz.prog (hz [] I178.body) 1 Tryz.f178=some (plain1 I178):=by kernel_rfl
theorem ck178:ckC 2 I178.body=true:=by kernel_rfl

end Go.Proofs.YtbfajkcmehaliaaGreatDoor

