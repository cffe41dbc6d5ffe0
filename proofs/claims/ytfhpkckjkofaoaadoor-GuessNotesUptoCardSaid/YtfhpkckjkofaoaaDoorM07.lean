import Derived.Test.YtfhpkckjkofaoaaDoorRows
import Derived.Test.YtfhpkckjkofaoaaDoorM06
import Derived.Test.YtfhpkckjkofaoaaDoorM04
set_option linter.unusedVariables false
set_option linter.unusedSimpArgs false
set_option linter.unusedSectionVars false
/- The functions that the statement reaches, as the interpreter has them, with modes. Conditions: none. -/
namespace Go.Proofs.YtfhpkckjkofaoaaDoor
open Go Go.RI
set_option maxRecDepth 100000
@[reducible] def Ss(n a b:Nat):RI.Item:=⟨none,.store n (.t a) (.t b),none,[]⟩
@[reducible] def Lm(d n s:Nat):RI.Item:=⟨some d,.load (some n) (.t s),none,[]⟩
@[reducible] def Ia(d n a b:Nat):RI.Item:=⟨some d,.iaddr n (.t a) (.t b),none,[]⟩
@[reducible] def Le(d s:Nat):RI.Item:=⟨some d,.lenk 0 (.t s),none,[]⟩
@[simp] theorem Ss_eq{n a b:Nat}:Ss n a b=⟨none,.store n (.t a) (.t b),none,[]⟩:=rfl
@[simp] theorem Lm_eq{d n s:Nat}:Lm d n s=⟨some d,.load (some n) (.t s),none,[]⟩:=rfl
@[simp] theorem Ia_eq{d n a b:Nat}:Ia d n a b=⟨some d,.iaddr n (.t a) (.t b),none,[]⟩:=rfl
@[simp] theorem Le_eq{d s:Nat}:Le d s=⟨some d,.lenk 0 (.t s),none,[]⟩:=rfl
def L3a:ICode :=
  (.seq (.seq (.region [Mv 73 8,
 Mv 74 7,
 Le 75 74,
 It 76 (.bin .lss (.t 73) (.t 75))] [73,74,75])
 (.cond (.t 76)
 (.region [] [76])
 (.exit 2)))
 (.seq (.block 3
 (.region [Mv 79 7,
 Mv 80 8,
 Ia 81 5 79 80,
 Of 82 81 0,
 ⟨none,(.store 1 (.t 82) (.c (.i .i64 99))),none,[]⟩] [79,80,81,82]))
 (.region [Mv 77 8,
 It 78 (.bin .add (.t 77) (.c (.i .i64 1))),
 Mv 8 78] [77,78])))
def L3b:ICode :=
  (.seq (.seq (.region [Mv 137 10,
 Mv 138 9,
 Le 139 138,
 It 140 (.bin .lss (.t 137) (.t 139))] [137,138,139])
 (.cond (.t 140)
 (.region [] [140])
 (.exit 4)))
 (.seq (.block 5
 (.region [Mv 143 9,
 Mv 144 10,
 Ia 145 1 143 144,
 ⟨none,(.store 1 (.t 145) (.c (.i .i64 99))),none,[]⟩] [143,144,145]))
 (.region [Mv 141 10,
 It 142 (.bin .add (.t 141) (.c (.i .i64 1))),
 Mv 10 142] [141,142])))
def L3c:ICode :=
  (.seq (.seq (.region [Mv 14 6,
 Mv 15 0,
 Le 16 15,
 It 17 (.bin .lss (.t 14) (.t 16)),
 Mv 18 17,
 Ig 19 18 true (.mov (.t 6)),
 Ig 20 18 true (.bin .lss (.t 19) (.c (.i .i64 60))),
 It 21 (.pick (.t 18) (.t 20) (.c (.b false)))] [14,15,16,17,18,19,20])
 (.cond (.t 21)
 (.region [] [21])
 (.exit 0)))
 (.seq (.block 1
 (.seq (.region [Mv 24 5,
 It 25 (.call 6 [(.t 24),(.c (.i .i64 1)),(.c (.i .i64 1)),(.c .ns)])] [24,25])
 (.seq (.region [Mv 26 0,
 Mv 27 6,
 Ia 28 3 26 27,
 Of 29 28 2,
 Ld 30 29,
 It 31 (.call 7 [(.t 30)]),
 Mv 7 31] [26,27,28,29,30,31])
 (.seq (.seq (.region [Mv 32 3,
 Mv 33 0,
 Mv 34 6,
 Ia 35 3 33 34,
 Of 36 35 0,
 Ld 37 36,
 Mv 38 0,
 Mv 39 6,
 Ia 40 3 38 39,
 Of 41 40 1,
 Ld 42 41,
 Mv 43 7,
 Mv 45 4,
 Mv 46 0,
 Mv 47 6,
 Ia 48 3 46 47,
 Of 49 48 0,
 Ld 50 49,
 Mv 51 0,
 Mv 52 6,
 Ia 53 3 51 52,
 Of 54 53 1,
 Ld 55 54,
 Mv 56 0,
 Mv 57 6,
 Ia 58 3 56 57,
 Of 59 58 2,
 Ld 60 59,
 ⟨(some 44),(.call 6 [(.t 32),(.t 37),(.t 42),(.t 43)]),none,[(50,(.load none (.t 49)),none),(55,(.load none (.t 54)),none),(60,(.load none (.t 59)),none)]⟩,
 It 61 (.call 8 [(.t 45),(.t 50),(.t 55),(.t 60)]),
 It 62 (.bin .neq (.t 44) (.t 61)),
 Mv 63 62,
 Ig 64 63 false (.mov (.t 7)),
 Ig 65 63 false (.mov (.t 0)),
 Ig 66 63 false (.mov (.t 6)),
 Ig 67 63 false (.iaddr 3 (.t 65) (.t 66)),
 Ig 68 63 false (.off (.t 67) 2),
 Ig 69 63 false (.load none (.t 68)),
 Ig 70 63 false (.call 9 [(.t 64),(.t 69)]),
 Ig 71 63 false (.un .not (.t 70)),
 It 72 (.pick (.t 63) (.c (.b true)) (.t 71))] [32,33,34,35,36,37,38,39,40,41,42,43,45,46,47,48,49,50,51,52,53,54,55,56,57,58,59,60,44,61,62,63,64,65,66,67,68,69,70,71])
 (.cond (.t 72)
 (.seq (.region [It 2 (.mov (.c (.b false)))] [0,3,4,5,6,7,72])
 .ret)
 (.region [] [72])))
 (.seq (.seq (.region [It 8 (.mov (.c i0))] [])
 (.block 2
 (.loop L3a)))
 (.seq (.region [Mv 83 3,
 Mv 84 0,
 Mv 85 6,
 Ia 86 3 84 85,
 Of 87 86 0,
 Ld 88 87,
 Mv 89 0,
 Mv 90 6,
 Ia 91 3 89 90,
 Of 92 91 1,
 Ld 93 92,
 It 94 (.call 10 [(.t 83),(.t 88),(.t 93)]),
 Mv 9 94] [7,8,76,83,84,85,86,87,88,89,90,91,92,93,94])
 (.seq (.seq (.region [Mv 95 3,
 Mv 96 0,
 Mv 97 6,
 Ia 98 3 96 97,
 Of 99 98 0,
 Ld 100 99,
 Mv 101 0,
 Mv 102 6,
 Ia 103 3 101 102,
 Of 104 103 1,
 Ld 105 104,
 Mv 107 4,
 Mv 108 0,
 Mv 109 6,
 Ia 110 3 108 109,
 Of 111 110 0,
 Ld 112 111,
 Mv 113 0,
 Mv 114 6,
 Ia 115 3 113 114,
 Of 116 115 1,
 Ld 117 116,
 ⟨(some 106),(.call 11 [(.t 95),(.t 100),(.t 105)]),none,[(112,(.load none (.t 111)),none),(117,(.load none (.t 116)),none)]⟩,
 It 118 (.call 12 [(.t 107),(.t 112),(.t 117)]),
 It 119 (.bin .neq (.t 106) (.t 118)),
 Mv 120 119,
 Ig 121 120 false (.mov (.t 9)),
 Ig 122 120 false (.mov (.t 4)),
 Ig 123 120 false (.mov (.t 0)),
 Ig 124 120 false (.mov (.t 6)),
 Ig 125 120 false (.iaddr 3 (.t 123) (.t 124)),
 Ig 126 120 false (.off (.t 125) 0),
 Ig 127 120 false (.load none (.t 126)),
 Ig 128 120 false (.mov (.t 0)),
 Ig 129 120 false (.mov (.t 6)),
 Ig 130 120 false (.iaddr 3 (.t 128) (.t 129)),
 Ig 131 120 false (.off (.t 130) 1),
 Ig 132 120 false (.load none (.t 131)),
 Ig 133 120 false (.call 14 [(.t 122),(.t 127),(.t 132)]),
 Ig 134 120 false (.call 13 [(.t 121),(.t 133)]),
 Ig 135 120 false (.un .not (.t 134)),
 It 136 (.pick (.t 120) (.c (.b true)) (.t 135))] [95,96,97,98,99,100,101,102,103,104,105,107,108,109,110,111,112,113,114,115,116,117,106,118,119,120,121,122,123,124,125,126,127,128,129,130,131,132,133,134,135])
 (.cond (.t 136)
 (.seq (.region [It 2 (.mov (.c (.b false)))] [0,3,4,5,6,9,136])
 .ret)
 (.region [] [136])))
 (.seq (.seq (.region [It 10 (.mov (.c i0))] [])
 (.block 4
 (.loop L3b)))
 (.seq (.region [Mv 146 3,
 Mv 147 0,
 Mv 148 6,
 Ia 149 3 147 148,
 Of 150 149 0,
 Ld 151 150,
 Mv 152 0,
 Mv 153 6,
 Ia 154 3 152 153,
 Of 155 154 1,
 Ld 156 155,
 Mv 158 4,
 Mv 159 0,
 Mv 160 6,
 Ia 161 3 159 160,
 Of 162 161 0,
 Ld 163 162,
 Mv 164 0,
 Mv 165 6,
 Ia 166 3 164 165,
 Of 167 166 1,
 Ld 168 167,
 ⟨(some 157),(.call 10 [(.t 146),(.t 151),(.t 156)]),none,[(163,(.load none (.t 162)),none),(168,(.load none (.t 167)),none)]⟩,
 It 169 (.call 14 [(.t 158),(.t 163),(.t 168)]),
 It 170 (.call 13 [(.t 157),(.t 169)]),
 It 171 (.un .not (.t 170))] [9,10,140,146,147,148,149,150,151,152,153,154,155,156,158,159,160,161,162,163,164,165,166,167,168,157,169,170])
 (.cond (.t 171)
 (.seq (.region [It 2 (.mov (.c (.b false)))] [0,3,4,5,6,171])
 .ret)
 (.region [] [171])))))))))))
 (.region [Mv 22 6,
 It 23 (.bin .add (.t 22) (.c (.i .i64 1))),
 Mv 6 23] [22,23])))
def I3:IFunc :=
  ⟨(.seq (.region [It 2 (.mov (.c (.b false)))] [2])
 (.seq (.region [It 11 (.call 4 []),
 It 12 (.call 5 []),
 Mv 3 11,
 Mv 4 12] [11,12])
 (.seq (.region [It 13 (.call 4 []),
 Mv 5 13] [13])
 (.seq (.seq (.region [It 6 (.mov (.c i0))] [])
 (.block 0
 (.loop L3c)))
 (.seq (.region [It 172 (.call 15 []),
 Mv 2 172] [0,3,4,5,6,21,172])
 .ret))))),
    173,1,[.t 2],0⟩
theorem tr3:trFunc Tryd.prog (hz [(8,[0,1,2,3,4,5,6,7,8,9,10,11,13,14,15,16,17,18,19,20,21,22,23,24,25,26,27,28,12,29,30,31,32,33,34,35,36,37,38,39,40]),(16,[0,1,2,3,4,5,6,7,8,9,10,11,12]),(17,[0,1,2,3,4,5,6,7,8,9,10,12,13,14,15,16,17,18,19,20,21,22,11,23,24,25,26,27,28,29,30,31,32,33,34,35,36,37,38,39,40,41]),(25,[0,1,2,3,4,5,6,7,8,9,10,12,13,14,15,16,17,18,19,20,21,22,11,23,24,25])] I3.body) 0 Tryd.f3=some (plain1 I3):=by kernel_rfl
theorem ck3:ckC 2 I3.body=true:=by kernel_rfl
def I4:IFunc :=
  ⟨(.seq (.region [It 0 (.mov (.c .np))] [0])
 (.seq (.region [It 1 .mkmap,
 It 2 (.build [.nm] [(0,1,(.t 1))]),
 It 3 (.box (.t 2)),
 Mv 0 3] [1,2,3])
 .ret)),
    4,0,[.t 0],0⟩
theorem tr4:trFunc Tryd.prog (hz [] I4.body) 0 Tryd.f4=some (plain1 I4):=by kernel_rfl
theorem ck4:ckC 2 I4.body=true:=by kernel_rfl
def I5:IFunc :=
  ⟨(.seq (.region [It 0 (.mov (.c .np))] [0])
 (.seq (.region [It 1 (.build [.ns] []),
 It 2 (.box (.t 1)),
 Mv 0 2] [1,2])
 .ret)),
    3,0,[.t 0],0⟩
theorem tr5:trFunc Tryd.prog (hz [] I5.body) 0 Tryd.f5=some (plain1 I5):=by kernel_rfl
theorem ck5:ckC 2 I5.body=true:=by kernel_rfl
def L6a:ICode :=
  (.seq (.region [It 42 (.bin .lss (.t 41) (.t 40))] [])
 (.seq (.cond (.t 42)
 (.region [] [42])
 (.exit 0))
 (.seq (.block 1
 (.seq (.region [Mv 43 41,
 Ia 44 5 39 41,
 Lm 45 5 44,
 It 11 (.alloc [i0,i0,(.s []),.ns,.ns]),
 Mv 10 43,
 Ss 5 11 45] [43,44,45])
 (.seq (.seq (.region [Lm 46 5 11,
 It 47 (.call 17 [(.t 46)]),
 It 48 (.bin .neq (.t 47) (.c i0))] [46,47])
 (.cond (.t 48)
 (.seq (.region [It 8 (.mov (.c (.i .i64 2)))] [0,1,2,9,39,40,41,11,10,48])
 .ret)
 (.region [] [48])))
 (.region [Mv 49 9,
 Mv 50 10,
 Of 51 11 0,
 Ld 52 51,
 Ia 53 1 49 50,
 Ss 1 53 52] [11,10,49,50,51,52,53]))))
 (.region [It 54 (.bin .add (.t 41) (.c (.i .i64 1))),
 Mv 41 54] [54]))))
def I6:IFunc :=
  ⟨(.seq (.region [It 8 (.mov (.c i0))] [8])
 (.seq (.seq (.region [Mv 15 0,
 It 16 (.call 16 [(.t 15)])] [15])
 (.cond (.t 16)
 (.seq (.region [It 8 (.mov (.c (.i .i64 1)))] [0,1,2,3,16])
 .ret)
 (.region [] [16])))
 (.seq (.seq (.region [Mv 17 1,
 It 18 (.bin .lss (.t 17) (.c i0)),
 Mv 19 18,
 Ig 20 19 false (.mov (.t 1)),
 Ig 21 19 false (.bin .geq (.t 20) (.c (.i .i64 16))),
 It 22 (.pick (.t 19) (.c (.b true)) (.t 21)),
 Mv 23 22,
 Ig 24 23 false (.mov (.t 2)),
 Ig 25 23 false (.bin .lss (.t 24) (.c i0)),
 It 26 (.pick (.t 23) (.c (.b true)) (.t 25)),
 Mv 27 26,
 Ig 28 27 false (.mov (.t 2)),
 Ig 29 27 false (.bin .geq (.t 28) (.c (.i .i64 512))),
 It 30 (.pick (.t 27) (.c (.b true)) (.t 29)),
 Mv 31 30,
 Ig 32 31 false (.mov (.t 3)),
 Ig 33 31 false (.lenk 0 (.t 32)),
 Ig 34 31 false (.bin .gtr (.t 33) (.c (.i .i64 64))),
 It 35 (.pick (.t 31) (.c (.b true)) (.t 34))] [17,18,19,20,21,22,23,24,25,26,27,28,29,30,31,32,33,34])
 (.cond (.t 35)
 (.seq (.region [It 8 (.mov (.c (.i .i64 2)))] [0,1,2,3,35])
 .ret)
 (.region [] [35])))
 (.seq (.region [Mv 36 3,
 Le 37 36,
 It 38 (.mksl 1 8 [i0] (.t 37) (.t 37)),
 Mv 9 38] [36,37,38])
 (.seq (.seq (.region [Mv 39 3,
 Le 40 39,
 It 41 (.mov (.c i0))] [3])
 (.block 0
 (.loop L6a)))
 (.seq (.region [Mv 55 1,
 Mv 56 2,
 It 57 (.build [i0,i0] [(0,1,(.t 55)),(1,1,(.t 56))]),
 It 12 (.alloc [i0,i0]),
 Ss 2 12 57] [1,2,39,40,41,42,55,56,57])
 (.seq (.region [Mv 59 0,
 It 60 (.nck (.t 59)),
 Of 61 60 0,
 Ld 62 61,
 Lm 63 2 12,
 It 64 (.look true [1,1] (.ag [i0,.ns]) true (.t 62) (.t 63)),
 Mv 58 64,
 Ex 65 58 0,
 Ex 66 58 1,
 It 13 (.alloc [i0,.ns]),
 Ss 2 13 65,
 Mv 14 66] [59,60,61,62,63,64,58,65,66])
 (.seq (.seq (.region [Mv 67 14] [14])
 (.cond (.t 67)
 (.region [Of 68 13 1,
 Ld 69 68,
 Mv 70 9,
 It 71 (.call 18 [(.t 69),(.t 70)]),
 Mv 9 71] [67,68,69,70,71])
 (.region [] [67])))
 (.seq (.region [Mv 72 0,
 It 73 (.nck (.t 72)),
 Of 74 73 0,
 Ld 75 74,
 Lm 76 2 12,
 Of 77 13 0,
 Ld 78 77,
 It 79 (.bin .add (.t 78) (.c (.i .i64 1))),
 Mv 80 9,
 It 81 (.build [i0,.ns] [(0,1,(.t 79)),(1,1,(.t 80))]),
 ⟨none,(.mapup true [1,1] (.t 75) (.t 76) (.t 81)),none,[]⟩] [0,9,12,13,72,73,74,75,76,77,78,79,80,81])
 (.seq (.region [It 8 (.mov (.c i0))] [])
 .ret)))))))))),
    82,4,[.t 8],0⟩
theorem tr6:trFunc Tryd.prog (hz [(18,[0,1,2,3,4,5,6,7,8,9,10,11]),(22,[0,1,2,3,4,5,6,7,8,9,10])] I6.body) 0 Tryd.f6=some (plain1 I6):=by kernel_rfl
theorem ck6:ckC 2 I6.body=true:=by kernel_rfl
def L7a:ICode :=
  (.seq (.seq (.region [Mv 5 4,
 Mv 6 0,
 Le 7 6,
 It 8 (.bin .lss (.t 5) (.t 7))] [5,6,7])
 (.cond (.t 8)
 (.region [] [8])
 (.exit 0)))
 (.seq (.block 1
 (.region [Mv 11 3,
 Mv 12 0,
 Mv 13 4,
 Ia 14 5 12 13,
 Lm 15 5 14,
 It 16 (.call 19 [(.t 15)]),
 It 17 (.bsl 5 1 [i0,i0,(.s []),.ns,.ns] [(0,5,(.t 16))]),
 It 18 (.app 5 80 (.t 11) (.t 17)),
 Mv 3 18] [11,12,13,14,15,16,17,18]))
 (.region [Mv 9 4,
 It 10 (.bin .add (.t 9) (.c (.i .i64 1))),
 Mv 4 10] [9,10])))
def I7:IFunc :=
  ⟨(.seq (.region [It 2 (.mov (.c .ns))] [2])
 (.seq (.region [It 3 (.mov (.c .ns))] [])
 (.seq (.seq (.region [It 4 (.mov (.c i0))] [])
 (.block 0
 (.loop L7a)))
 (.seq (.region [Mv 19 3,
 Mv 2 19] [0,3,4,8,19])
 .ret)))),
    20,1,[.t 2],1⟩
theorem tr7:trFunc Tryd.prog (hz [] I7.body) 1 Tryd.f7=some (plain1 I7):=by kernel_rfl
theorem ck7:ckC 2 I7.body=true:=by kernel_rfl
def L8a:ICode :=
  (.seq (.seq (.region [Mv 34 10,
 Mv 35 3,
 Le 36 35,
 It 37 (.bin .lss (.t 34) (.t 36))] [34,35,36])
 (.cond (.t 37)
 (.region [] [37])
 (.exit 0)))
 (.seq (.block 1
 (.seq (.seq (.region [Mv 40 3,
 Mv 41 10,
 Ia 42 5 40 41,
 Lm 43 5 42,
 It 44 (.call 20 [(.t 43)]),
 It 45 (.un .not (.t 44))] [40,41,42,43,44])
 (.cond (.t 45)
 (.seq (.region [It 8 (.mov (.c (.i .i64 2)))] [0,1,2,3,9,10,45])
 .ret)
 (.region [] [45])))
 (.region [Mv 46 9,
 Mv 47 3,
 Mv 48 10,
 Ia 49 5 47 48,
 Of 50 49 0,
 Ld 51 50,
 It 52 (.bsl 1 1 [i0] [(0,1,(.t 51))]),
 It 53 (.app 1 8 (.t 46) (.t 52)),
 Mv 9 53] [46,47,48,49,50,51,52,53])))
 (.region [Mv 38 10,
 It 39 (.bin .add (.t 38) (.c (.i .i64 1))),
 Mv 10 39] [38,39])))
def L8b:ICode :=
  (.seq (.seq (.region [Mv 81 14,
 Mv 82 12,
 Le 83 82,
 Mv 84 9,
 Le 85 84,
 It 86 (.mm true (.t 83) [(.t 85)]),
 It 87 (.bin .lss (.t 81) (.t 86))] [81,82,83,84,85,86])
 (.cond (.t 87)
 (.region [] [87])
 (.exit 2)))
 (.seq (.block 3
 (.seq (.region [Mv 90 14,
 Mv 91 12,
 Le 92 91,
 It 93 (.bin .lss (.t 90) (.t 92)),
 Mv 94 93,
 Ig 95 94 true (.mov (.t 14)),
 Ig 96 94 true (.mov (.t 9)),
 Ig 97 94 true (.lenk 0 (.t 96)),
 Ig 98 94 true (.bin .lss (.t 95) (.t 97)),
 It 99 (.pick (.t 94) (.t 98) (.c (.b false))),
 Mv 100 99,
 Ig 101 100 true (.mov (.t 12)),
 Ig 102 100 true (.mov (.t 14)),
 Ig 103 100 true (.iaddr 1 (.t 101) (.t 102)),
 Ig 104 100 true (.load none (.t 103)),
 Ig 105 100 true (.mov (.t 9)),
 Ig 106 100 true (.mov (.t 14)),
 Ig 107 100 true (.iaddr 1 (.t 105) (.t 106)),
 Ig 108 100 true (.load none (.t 107)),
 Ig 109 100 true (.bin .eql (.t 104) (.t 108)),
 It 110 (.pick (.t 100) (.t 109) (.c (.b false)))] [90,91,92,93,94,95,96,97,98,99,100,101,102,103,104,105,106,107,108,109])
 (.cond (.t 110)
 (.region [Mv 111 13,
 Mv 112 12,
 Mv 113 14,
 Ia 114 1 112 113,
 Ld 115 114,
 It 116 (.bsl 1 1 [i0] [(0,1,(.t 115))]),
 It 117 (.app 1 8 (.t 111) (.t 116)),
 Mv 13 117] [110,111,112,113,114,115,116,117])
 (.region [Mv 118 13,
 It 119 (.bsl 1 1 [i0] [(0,1,(.c (.i .i64 (-1))))]),
 It 120 (.app 1 8 (.t 118) (.t 119)),
 Mv 13 120] [110,118,119,120]))))
 (.region [Mv 88 14,
 It 89 (.bin .add (.t 88) (.c (.i .i64 1))),
 Mv 14 89] [88,89])))
def I8:IFunc :=
  ⟨(.seq (.region [It 8 (.mov (.c i0))] [8])
 (.seq (.seq (.region [Mv 15 1,
 It 16 (.bin .lss (.t 15) (.c i0)),
 Mv 17 16,
 Ig 18 17 false (.mov (.t 1)),
 Ig 19 17 false (.bin .geq (.t 18) (.c (.i .i64 16))),
 It 20 (.pick (.t 17) (.c (.b true)) (.t 19)),
 Mv 21 20,
 Ig 22 21 false (.mov (.t 2)),
 Ig 23 21 false (.bin .lss (.t 22) (.c i0)),
 It 24 (.pick (.t 21) (.c (.b true)) (.t 23)),
 Mv 25 24,
 Ig 26 25 false (.mov (.t 2)),
 Ig 27 25 false (.bin .geq (.t 26) (.c (.i .i64 512))),
 It 28 (.pick (.t 25) (.c (.b true)) (.t 27)),
 Mv 29 28,
 Ig 30 29 false (.mov (.t 3)),
 Ig 31 29 false (.lenk 0 (.t 30)),
 Ig 32 29 false (.bin .gtr (.t 31) (.c (.i .i64 64))),
 It 33 (.pick (.t 29) (.c (.b true)) (.t 32))] [15,16,17,18,19,20,21,22,23,24,25,26,27,28,29,30,31,32])
 (.cond (.t 33)
 (.seq (.region [It 8 (.mov (.c (.i .i64 2)))] [0,1,2,3,33])
 .ret)
 (.region [] [33])))
 (.seq (.region [It 9 (.mov (.c .ns))] [])
 (.seq (.seq (.region [It 10 (.mov (.c i0))] [])
 (.block 0
 (.loop L8a)))
 (.seq (.region [Mv 54 0,
 Mv 55 1,
 Mv 56 2,
 It 57 (.call 21 [(.t 54),(.t 55),(.t 56)]),
 Mv 11 57] [3,10,37,54,55,56,57])
 (.seq (.seq (.region [Mv 58 11,
 It 59 (.bin .lss (.t 58) (.c i0))] [58])
 (.cond (.t 59)
 (.seq (.region [Mv 60 0,
 Mv 61 0,
 It 62 (.nck (.t 61)),
 Of 63 62 0,
 Ld 64 63,
 Mv 65 1,
 Mv 66 2,
 Mv 67 9,
 It 68 (.build [i0,i0,i0,.ns] [(0,1,(.t 65)),(1,1,(.t 66)),(2,1,(.c (.i .i64 1))),(3,1,(.t 67))]),
 It 69 (.bsl 4 1 [i0,i0,i0,.ns] [(0,4,(.t 68))]),
 It 70 (.app 4 48 (.t 64) (.t 69)),
 It 71 (.nck (.t 60)),
 Of 72 71 0,
 Ss 1 72 70] [0,1,2,9,11,59,60,61,62,63,64,65,66,67,68,69,70,71,72])
 (.seq (.region [It 8 (.mov (.c i0))] [])
 .ret))
 (.region [] [1,2,59])))
 (.seq (.region [Mv 73 0,
 It 74 (.nck (.t 73)),
 Of 75 74 0,
 Ld 76 75,
 Mv 77 11,
 Ia 78 4 76 77,
 Of 79 78 3,
 Ld 80 79,
 Mv 12 80] [73,74,75,76,77,78,79,80])
 (.seq (.region [It 13 (.mov (.c .ns))] [])
 (.seq (.seq (.region [It 14 (.mov (.c i0))] [])
 (.block 2
 (.loop L8b)))
 (.seq (.region [Mv 121 0,
 It 122 (.nck (.t 121)),
 Of 123 122 0,
 Ld 124 123,
 Mv 125 11,
 Mv 126 13,
 Ia 127 4 124 125,
 Of 128 127 3,
 Ss 1 128 126] [9,12,13,14,87,121,122,123,124,125,126,127,128])
 (.seq (.region [Mv 129 0,
 It 130 (.nck (.t 129)),
 Of 131 130 0,
 Ld 132 131,
 Mv 133 11,
 Mv 134 0,
 It 135 (.nck (.t 134)),
 Of 136 135 0,
 Ld 137 136,
 Mv 138 11,
 Ia 139 4 137 138,
 Of 140 139 2,
 Ld 141 140,
 It 142 (.bin .add (.t 141) (.c (.i .i64 1))),
 Ia 143 4 132 133,
 Of 144 143 2,
 Ss 1 144 142] [0,11,129,130,131,132,133,134,135,136,137,138,139,140,141,142,143,144])
 (.seq (.region [It 8 (.mov (.c i0))] [])
 .ret)))))))))))),
    145,4,[.t 8],0⟩
theorem tr8:trFunc Tryd.prog (hz [(23,[0,1,2,3,4,5,6,7,8,9,10,11,12,13,14,15,16,17,18,19,20]),(28,[0,1,2,3,4,5,6,7,8,9,10,11,12,13,14,15,16])] I8.body) 0 Tryd.f8=some (plain1 I8):=by kernel_rfl
theorem ck8:ckC 2 I8.body=true:=by kernel_rfl
def L9a:ICode :=
  (.seq (.seq (.region [Mv 11 5,
 Mv 12 0,
 Le 13 12,
 It 14 (.bin .lss (.t 11) (.t 13))] [11,12,13])
 (.cond (.t 14)
 (.region [] [14])
 (.exit 0)))
 (.seq (.block 1
 (.seq (.region [Mv 17 0,
 Mv 18 5,
 Ia 19 5 17 18,
 Lm 20 5 19,
 Mv 21 1,
 Mv 22 5,
 Ia 23 5 21 22,
 Lm 24 5 23,
 It 25 (.call 22 [(.t 20),(.t 24)]),
 It 26 (.un .not (.t 25))] [17,18,19,20,21,22,23,24,25])
 (.cond (.t 26)
 (.seq (.region [It 4 (.mov (.c (.b false)))] [0,1,5,26])
 .ret)
 (.region [] [26]))))
 (.region [Mv 15 5,
 It 16 (.bin .add (.t 15) (.c (.i .i64 1))),
 Mv 5 16] [15,16])))
def I9:IFunc :=
  ⟨(.seq (.region [It 4 (.mov (.c (.b false)))] [4])
 (.seq (.seq (.region [Mv 6 0,
 Le 7 6,
 Mv 8 1,
 Le 9 8,
 It 10 (.bin .neq (.t 7) (.t 9))] [6,7,8,9])
 (.cond (.t 10)
 (.seq (.region [It 4 (.mov (.c (.b false)))] [0,1,10])
 .ret)
 (.region [] [10])))
 (.seq (.seq (.region [It 5 (.mov (.c i0))] [])
 (.block 0
 (.loop L9a)))
 (.seq (.region [It 4 (.mov (.c (.b true)))] [0,1,5,14])
 .ret)))),
    27,2,[.t 4],2⟩
theorem tr9:trFunc Tryd.prog (hz [(7,[0,1,2,3,4,5,6,7,8,9])] I9.body) 1 Tryd.f9=some (plain1 I9):=by kernel_rfl
theorem ck9:ckC 2 I9.body=true:=by kernel_rfl
def I10:IFunc :=
  ⟨(.seq (.region [It 6 (.mov (.c .ns))] [6])
 (.seq (.seq (.region [Mv 7 0,
 It 8 (.call 16 [(.t 7)])] [7])
 (.cond (.t 8)
 (.seq (.region [It 6 (.mov (.c .ns))] [0,1,2,8])
 .ret)
 (.region [] [8])))
 (.seq (.region [Mv 9 0,
 It 10 (.nck (.t 9)),
 Of 11 10 0,
 Ld 12 11,
 Mv 13 1,
 Mv 14 2,
 It 15 (.build [i0,i0] [(0,1,(.t 13)),(1,1,(.t 14))]),
 It 16 (.look true [1,1] (.ag [i0,.ns]) false (.t 12) (.t 15)),
 It 17 (.part none (.t 16) 1),
 It 18 (.call 23 [(.t 17)]),
 Mv 6 18] [0,1,2,9,10,11,12,13,14,15,16,17,18])
 .ret))),
    19,3,[.t 6],0⟩
theorem tr10:trFunc Tryd.prog (hz [] I10.body) 0 Tryd.f10=some (plain1 I10):=by kernel_rfl
theorem ck10:ckC 2 I10.body=true:=by kernel_rfl
def I11:IFunc :=
  ⟨(.seq (.region [It 6 (.mov (.c i0))] [6])
 (.seq (.seq (.region [Mv 7 0,
 It 8 (.call 16 [(.t 7)])] [7])
 (.cond (.t 8)
 (.seq (.region [It 6 (.mov (.c i0))] [0,1,2,8])
 .ret)
 (.region [] [8])))
 (.seq (.region [Mv 9 0,
 It 10 (.nck (.t 9)),
 Of 11 10 0,
 Ld 12 11,
 Mv 13 1,
 Mv 14 2,
 It 15 (.build [i0,i0] [(0,1,(.t 13)),(1,1,(.t 14))]),
 It 16 (.look true [1,1] (.ag [i0,.ns]) false (.t 12) (.t 15)),
 It 17 (.part none (.t 16) 0),
 Mv 6 17] [0,1,2,9,10,11,12,13,14,15,16,17])
 .ret))),
    18,3,[.t 6],0⟩
theorem tr11:trFunc Tryd.prog (hz [] I11.body) 0 Tryd.f11=some (plain1 I11):=by kernel_rfl
theorem ck11:ckC 2 I11.body=true:=by kernel_rfl
def I12:IFunc :=
  ⟨(.seq (.region [It 6 (.mov (.c i0))] [6])
 (.seq (.region [Mv 8 0,
 Mv 9 1,
 Mv 10 2,
 It 11 (.call 21 [(.t 8),(.t 9),(.t 10)]),
 Mv 7 11] [1,2,8,9,10,11])
 (.seq (.seq (.region [Mv 12 7,
 It 13 (.bin .lss (.t 12) (.c i0))] [12])
 (.cond (.t 13)
 (.seq (.region [It 6 (.mov (.c i0))] [0,7,13])
 .ret)
 (.region [] [13])))
 (.seq (.region [Mv 14 0,
 It 15 (.nck (.t 14)),
 Of 16 15 0,
 Ld 17 16,
 Mv 18 7,
 Ia 19 4 17 18,
 Of 20 19 2,
 Ld 21 20,
 Mv 6 21] [0,7,14,15,16,17,18,19,20,21])
 .ret)))),
    22,3,[.t 6],2⟩
theorem tr12:trFunc Tryd.prog (hz [] I12.body) 1 Tryd.f12=some (plain1 I12):=by kernel_rfl
theorem ck12:ckC 2 I12.body=true:=by kernel_rfl
def L13a:ICode :=
  (.seq (.seq (.region [Mv 11 5,
 Mv 12 0,
 Le 13 12,
 It 14 (.bin .lss (.t 11) (.t 13))] [11,12,13])
 (.cond (.t 14)
 (.region [] [14])
 (.exit 0)))
 (.seq (.block 1
 (.seq (.region [Mv 17 0,
 Mv 18 5,
 Ia 19 1 17 18,
 Ld 20 19,
 Mv 21 1,
 Mv 22 5,
 Ia 23 1 21 22,
 Ld 24 23,
 It 25 (.bin .neq (.t 20) (.t 24))] [17,18,19,20,21,22,23,24])
 (.cond (.t 25)
 (.seq (.region [It 4 (.mov (.c (.b false)))] [0,1,5,25])
 .ret)
 (.region [] [25]))))
 (.region [Mv 15 5,
 It 16 (.bin .add (.t 15) (.c (.i .i64 1))),
 Mv 5 16] [15,16])))
def I13:IFunc :=
  ⟨(.seq (.region [It 4 (.mov (.c (.b false)))] [4])
 (.seq (.seq (.region [Mv 6 0,
 Le 7 6,
 Mv 8 1,
 Le 9 8,
 It 10 (.bin .neq (.t 7) (.t 9))] [6,7,8,9])
 (.cond (.t 10)
 (.seq (.region [It 4 (.mov (.c (.b false)))] [0,1,10])
 .ret)
 (.region [] [10])))
 (.seq (.seq (.region [It 5 (.mov (.c i0))] [])
 (.block 0
 (.loop L13a)))
 (.seq (.region [It 4 (.mov (.c (.b true)))] [0,1,5,14])
 .ret)))),
    26,2,[.t 4],2⟩
theorem tr13:trFunc Tryd.prog (hz [(7,[0,1,2,3,4,5,6,7,8])] I13.body) 1 Tryd.f13=some (plain1 I13):=by kernel_rfl
theorem ck13:ckC 2 I13.body=true:=by kernel_rfl
def I14:IFunc :=
  ⟨(.seq (.region [It 6 (.mov (.c .ns))] [6])
 (.seq (.region [Mv 8 0,
 Mv 9 1,
 Mv 10 2,
 It 11 (.call 21 [(.t 8),(.t 9),(.t 10)]),
 Mv 7 11] [1,2,8,9,10,11])
 (.seq (.seq (.region [Mv 12 7,
 It 13 (.bin .lss (.t 12) (.c i0))] [12])
 (.cond (.t 13)
 (.seq (.region [It 6 (.mov (.c .ns))] [0,7,13])
 .ret)
 (.region [] [13])))
 (.seq (.region [Mv 14 0,
 It 15 (.nck (.t 14)),
 Of 16 15 0,
 Ld 17 16,
 Mv 18 7,
 Ia 19 4 17 18,
 Of 20 19 3,
 Ld 21 20,
 It 22 (.call 24 [(.t 21)]),
 Mv 6 22] [0,7,14,15,16,17,18,19,20,21,22])
 .ret)))),
    23,3,[.t 6],2⟩
theorem tr14:trFunc Tryd.prog (hz [] I14.body) 1 Tryd.f14=some (plain1 I14):=by kernel_rfl
theorem ck14:ckC 2 I14.body=true:=by kernel_rfl
def I15:IFunc :=
  ⟨(.seq (.region [It 0 (.mov (.c (.b false)))] [0])
 (.seq (.region [It 7 (.call 28 [(.c i0)]),
 It 8 (.call 29 [(.c (.i .i64 1))]),
 It 9 (.call 27 [(.c (.i .i64 9)),(.t 7),(.t 8)]),
 It 10 (.bsl 5 1 [i0,i0,.ns,(.s []),.ns] [(0,5,(.t 9))]),
 It 11 (.call 26 [(.c (.i .i64 2)),(.t 10)]),
 It 12 (.call 28 [(.c i0)]),
 It 13 (.call 30 [(.c (.i .i64 40)),(.c (.i .i64 1)),(.t 12)]),
 It 14 (.call 28 [(.c i0)]),
 It 15 (.call 29 [(.c (.i .i64 1))]),
 It 16 (.call 27 [(.c (.i .i64 43)),(.t 14),(.t 15)]),
 It 17 (.bsl 5 2 [i0,i0,.ns,(.s []),.ns,i0,i0,.ns,(.s []),.ns] [(0,5,(.t 13)),(5,5,(.t 16))]),
 It 18 (.call 26 [(.c (.i .i64 2)),(.t 17)]),
 It 19 (.bsl 1 1 [i0] [(0,1,(.c (.i .i64 1)))]),
 It 20 (.call 25 [(.t 11),(.t 18),(.t 19)]),
 Mv 1 20] [7,8,9,10,11,12,13,14,15,16,17,18,19,20])
 (.seq (.region [It 21 (.call 28 [(.c i0)]),
 It 22 (.call 28 [(.c (.i .i64 1))]),
 It 23 (.call 27 [(.c (.i .i64 9)),(.t 21),(.t 22)]),
 It 24 (.bsl 5 1 [i0,i0,.ns,(.s []),.ns] [(0,5,(.t 23))]),
 It 25 (.call 26 [(.c (.i .i64 2)),(.t 24)]),
 It 26 (.call 28 [(.c i0)]),
 It 27 (.call 30 [(.c (.i .i64 40)),(.c (.i .i64 1)),(.t 26)]),
 It 28 (.call 28 [(.c i0)]),
 It 29 (.call 28 [(.c (.i .i64 1))]),
 It 30 (.call 27 [(.c (.i .i64 9)),(.t 28),(.t 29)]),
 It 31 (.bsl 5 2 [i0,i0,.ns,(.s []),.ns,i0,i0,.ns,(.s []),.ns] [(0,5,(.t 27)),(5,5,(.t 30))]),
 It 32 (.call 26 [(.c (.i .i64 2)),(.t 31)]),
 It 33 (.bsl 1 2 [i0,i0] [(0,1,(.c (.i .i64 1))),(1,1,(.c (.i .i64 (-1))))]),
 It 34 (.call 25 [(.t 25),(.t 32),(.t 33)]),
 Mv 2 34] [21,22,23,24,25,26,27,28,29,30,31,32,33,34])
 (.seq (.region [It 35 (.call 28 [(.c i0)]),
 It 36 (.call 30 [(.c (.i .i64 8)),(.c i0),(.t 35)]),
 It 37 (.call 31 [(.c i0)]),
 It 38 (.call 28 [(.c (.i .i64 1))]),
 It 39 (.call 27 [(.c (.i .i64 10)),(.t 37),(.t 38)]),
 It 40 (.call 28 [(.c i0)]),
 It 41 (.call 30 [(.c (.i .i64 7)),(.c i0),(.t 40)]),
 It 42 (.bsl 5 3 [i0,i0,.ns,(.s []),.ns,i0,i0,.ns,(.s []),.ns,i0,i0,.ns,(.s []),.ns] [(0,5,(.t 36)),(5,5,(.t 39)),(10,5,(.t 41))]),
 It 43 (.call 26 [(.c (.i .i64 2)),(.t 42)]),
 It 44 (.call 28 [(.c i0)]),
 It 45 (.call 30 [(.c (.i .i64 8)),(.c i0),(.t 44)]),
 It 46 (.call 28 [(.c (.i .i64 1))]),
 It 47 (.call 30 [(.c (.i .i64 40)),(.c (.i .i64 1)),(.t 46)]),
 It 48 (.call 31 [(.c i0)]),
 It 49 (.call 28 [(.c (.i .i64 1))]),
 It 50 (.call 27 [(.c (.i .i64 44)),(.t 48),(.t 49)]),
 It 51 (.call 28 [(.c i0)]),
 It 52 (.call 30 [(.c (.i .i64 7)),(.c i0),(.t 51)]),
 It 53 (.bsl 5 4 [i0,i0,.ns,(.s []),.ns,i0,i0,.ns,(.s []),.ns,i0,i0,.ns,(.s []),.ns,i0,i0,.ns,(.s []),.ns] [(0,5,(.t 45)),(5,5,(.t 47)),(10,5,(.t 50)),(15,5,(.t 52))]),
 It 54 (.call 26 [(.c (.i .i64 2)),(.t 53)]),
 It 55 (.bsl 1 2 [i0,i0] [(0,1,(.c (.i .i64 4))),(1,1,(.c (.i .i64 1)))]),
 It 56 (.call 25 [(.t 43),(.t 54),(.t 55)]),
 Mv 3 56] [35,36,37,38,39,40,41,42,43,44,45,46,47,48,49,50,51,52,53,54,55,56])
 (.seq (.region [It 57 (.call 4 []),
 Mv 4 57] [57])
 (.seq (.region [Mv 58 4,
 It 59 (.build [i0,i0,(.s []),.ns,.ns] [(0,1,(.c (.i .i64 1))),(1,1,(.c (.i .i64 5)))]),
 It 60 (.build [i0,i0,(.s []),.ns,.ns] [(0,1,(.c (.i .i64 3))),(2,1,(.c (.s [97])))]),
 It 61 (.bsl 5 2 [i0,i0,(.s []),.ns,.ns,i0,i0,(.s []),.ns,.ns] [(0,5,(.t 59)),(5,5,(.t 60))]),
 It 62 (.call 6 [(.t 58),(.c i0),(.c (.i .i64 3)),(.t 61)]),
 Mv 5 62] [58,59,60,61,62])
 (.seq (.region [Mv 63 4,
 It 64 (.build [i0,i0,(.s []),.ns,.ns] [(0,1,(.c (.i .i64 1))),(1,1,(.c (.i .i64 6)))]),
 It 65 (.build [i0,i0,(.s []),.ns,.ns] [(0,1,(.c (.i .i64 1))),(1,1,(.c (.i .i64 7)))]),
 It 66 (.bsl 5 2 [i0,i0,(.s []),.ns,.ns,i0,i0,(.s []),.ns,.ns] [(0,5,(.t 64)),(5,5,(.t 65))]),
 It 67 (.call 6 [(.t 63),(.c i0),(.c (.i .i64 3)),(.t 66)]),
 Mv 6 67] [63,64,65,66,67])
 (.seq (.region [Mv 68 1,
 Mv 69 68,
 Ig 70 69 true (.mov (.t 2)),
 It 71 (.pick (.t 69) (.t 70) (.c (.b false))),
 Mv 72 71,
 Ig 73 72 true (.mov (.t 3)),
 It 74 (.pick (.t 72) (.t 73) (.c (.b false))),
 Mv 75 74,
 Ig 76 75 true (.mov (.t 5)),
 Ig 77 75 true (.bin .eql (.t 76) (.c i0)),
 It 78 (.pick (.t 75) (.t 77) (.c (.b false))),
 Mv 79 78,
 Ig 80 79 true (.mov (.t 6)),
 Ig 81 79 true (.bin .eql (.t 80) (.c i0)),
 It 82 (.pick (.t 79) (.t 81) (.c (.b false))),
 Mv 83 82,
 Ig 84 83 true (.mov (.t 4)),
 Ig 85 83 true (.call 11 [(.t 84),(.c i0),(.c (.i .i64 3))]),
 Ig 86 83 true (.bin .eql (.t 85) (.c (.i .i64 2))),
 It 87 (.pick (.t 83) (.t 86) (.c (.b false))),
 Mv 88 87,
 Ig 89 88 true (.mov (.t 4)),
 Ig 90 88 true (.call 10 [(.t 89),(.c i0),(.c (.i .i64 3))]),
 Ig 91 88 true (.bsl 1 2 [i0,i0] [(0,1,(.c (.i .i64 1))),(1,1,(.c (.i .i64 (-1))))]),
 Ig 92 88 true (.call 13 [(.t 90),(.t 91)]),
 It 93 (.pick (.t 88) (.t 92) (.c (.b false))),
 Mv 0 93] [1,2,3,4,5,6,68,69,70,71,72,73,74,75,76,77,78,79,80,81,82,83,84,85,86,87,88,89,90,91,92,93])
 .ret)))))))),
    94,0,[.t 0],2⟩
theorem tr15:trFunc Tryd.prog (hz [] I15.body) 1 Tryd.f15=some (plain1 I15):=by kernel_rfl
theorem ck15:ckC 2 I15.body=true:=by kernel_rfl
def I16:IFunc :=
  ⟨(.seq (.region [It 2 (.mov (.c (.b false)))] [2])
 (.seq (.region [Mv 3 0,
 It 4 (.eqNil 1 false (.t 3) (.c .np)),
 Mv 5 4,
 Ig 6 5 false (.mov (.t 0)),
 Ig 7 5 false (.nck (.t 6)),
 Ig 8 5 false (.off (.t 7) 0),
 Ig 9 5 false (.load none (.t 8)),
 Ig 10 5 false (.eqNil 2 false (.t 9) (.c .nm)),
 It 11 (.pick (.t 5) (.c (.b true)) (.t 10)),
 Mv 2 11] [0,3,4,5,6,7,8,9,10,11])
 .ret)),
    12,1,[.t 2],1⟩
theorem tr16:trFunc Tryd.prog (hz [] I16.body) 1 Tryd.f16=some (plain1 I16):=by kernel_rfl
theorem ck16:ckC 2 I16.body=true:=by kernel_rfl
def I17:IFunc :=
  ⟨(.seq (.region [It 1 (.box (.t 0)),
 It 2 (.mov (.c i0))] [0,2])
 (.seq (.seq (.region [Lm 6 5 1,
 It 7 (.call 32 [(.t 6),(.c i0),(.c (.i .i64 256))]),
 Mv 5 7,
 Ex 8 5 0,
 Ex 9 5 1,
 Mv 3 8,
 Mv 4 9] [1,6,7,5,8,9,3])
 (.seq (.region [Mv 10 4,
 It 11 (.un .not (.t 10))] [4,10])
 (.cond (.t 11)
 (.seq (.region [It 2 (.mov (.c (.i .i64 2)))] [11])
 .ret)
 (.region [] [11]))))
 (.seq (.region [It 2 (.mov (.c i0))] [])
 .ret))),
    12,1,[.t 2],2⟩
theorem tr17:trFunc Tryd.prog (hz [] I17.body) 1 Tryd.f17=some (plain1 I17):=by kernel_rfl
theorem ck17:ckC 2 I17.body=true:=by kernel_rfl
def L18a:ICode :=
  (.seq (.region [It 25 (.bin .lss (.t 24) (.t 23))] [])
 (.seq (.cond (.t 25)
 (.region [] [25])
 (.exit 2))
 (.seq (.block 3
 (.seq (.region [Ia 26 1 22 24,
 Ld 27 26,
 Mv 8 27] [26,27])
 (.seq (.region [Mv 28 6,
 Mv 29 8,
 Le 30 29,
 It 31 (.bin .geq (.t 28) (.t 30)),
 Mv 32 31,
 Ig 33 32 false (.mov (.t 8)),
 Ig 34 32 false (.mov (.t 6)),
 Ig 35 32 false (.iaddr 1 (.t 33) (.t 34)),
 Ig 36 32 false (.load none (.t 35)),
 Ig 37 32 false (.mov (.t 0)),
 Ig 38 32 false (.mov (.t 6)),
 Ig 39 32 false (.mov (.t 0)),
 Ig 40 32 false (.lenk 0 (.t 39)),
 Ig 41 32 false (.bin .sub (.t 40) (.c (.i .i64 1))),
 Ig 42 32 false (.mm false (.t 38) [(.t 41)]),
 Ig 43 32 false (.iaddr 1 (.t 37) (.t 42)),
 Ig 44 32 false (.load none (.t 43)),
 Ig 45 32 false (.bin .neq (.t 36) (.t 44)),
 It 46 (.pick (.t 32) (.c (.b true)) (.t 45))] [8,28,29,30,31,32,33,34,35,36,37,38,39,40,41,42,43,44,45])
 (.cond (.t 46)
 (.seq (.region [Mv 47 5,
 Mv 48 6,
 Ia 49 1 47 48,
 ⟨none,(.store 1 (.t 49) (.c (.i .i64 (-1)))),none,[]⟩] [6,22,23,24,46,47,48,49])
 (.exit 1))
 (.region [] [46])))))
 (.region [It 50 (.bin .add (.t 24) (.c (.i .i64 1))),
 Mv 24 50] [50]))))
def L18b:ICode :=
  (.seq (.region [It 18 (.bin .lss (.t 17) (.t 16))] [])
 (.seq (.cond (.t 18)
 (.region [] [18])
 (.exit 0))
 (.seq (.block 1
 (.seq (.region [Mv 19 17,
 Mv 6 19] [19])
 (.seq (.seq (.region [Mv 20 0,
 Mv 21 1,
 It 22 (.bsl 1 2 [.ns,.ns] [(0,1,(.t 20)),(1,1,(.t 21))]),
 Le 23 22,
 It 24 (.mov (.c i0))] [20,21])
 (.block 2
 (.loop L18a)))
 (.region [Mv 51 5,
 Mv 52 6,
 Mv 53 0,
 Mv 54 6,
 Ia 55 1 53 54,
 Ld 56 55,
 Ia 57 1 51 52,
 Ss 1 57 56] [6,22,23,24,25,51,52,53,54,55,56,57]))))
 (.region [It 58 (.bin .add (.t 17) (.c (.i .i64 1))),
 Mv 17 58] [58]))))
def I18:IFunc :=
  ⟨(.seq (.region [It 4 (.mov (.c .ns))] [4])
 (.seq .skip
 (.seq (.region [Mv 9 0,
 Le 10 9,
 Mv 11 1,
 Le 12 11,
 It 13 (.mm true (.t 10) [(.t 12)]),
 It 14 (.mksl 1 8 [i0] (.t 13) (.t 13)),
 Mv 5 14] [9,10,11,12,13,14])
 (.seq .skip
 (.seq (.seq (.region [Mv 15 5,
 Le 16 15,
 It 17 (.mov (.c i0))] [15])
 (.block 0
 (.loop L18b)))
 (.seq (.region [Mv 59 5,
 Mv 4 59] [0,1,5,16,17,18,59])
 .ret)))))),
    60,2,[.t 4],2⟩
theorem tr18:trFunc Tryd.prog [([],[4]),([],[9,10,11,12,13,14]),([],[15]),([],[]),([],[18]),([],[19]),([],[20,21]),([],[]),([],[25]),([],[26,27]),([0,1,2,3,4,5,6,7,8,9,10,11,12,13,14,15,16,17,18],[8,28,29,30,31,32,33,34,35,36,37,38,39,40,41,42,43,44,45]),([],[6,22,23,24,46,47,48,49]),([],[46]),([],[50]),([],[6,22,23,24,25,51,52,53,54,55,56,57]),([],[58]),([],[0,1,5,16,17,18,59])] 1 Tryd.f18=some (plain1 I18):=by kernel_rfl
theorem ck18:ckC 2 I18.body=true:=by kernel_rfl
def L19a:ICode :=
  (.seq (.seq (.region [Mv 15 4,
 Of 16 1 3,
 Ld 17 16,
 Le 18 17,
 It 19 (.bin .lss (.t 15) (.t 18))] [15,16,17,18])
 (.cond (.t 19)
 (.region [] [19])
 (.exit 0)))
 (.seq (.block 1
 (.region [Of 22 3 3,
 Ld 23 22,
 Of 24 1 3,
 Ld 25 24,
 Mv 26 4,
 Ia 27 5 25 26,
 Lm 28 5 27,
 ⟨(some 29),(.call 19 [(.t 28)]),none,[(23,(.load none (.t 22)),none)]⟩,
 It 30 (.bsl 5 1 [i0,i0,(.s []),.ns,.ns] [(0,5,(.t 29))]),
 It 31 (.app 5 80 (.t 23) (.t 30)),
 Of 32 3 3,
 Ss 1 32 31] [22,23,24,25,26,27,28,29,30,31,32]))
 (.region [Mv 20 4,
 It 21 (.bin .add (.t 20) (.c (.i .i64 1))),
 Mv 4 21] [20,21])))
def I19:IFunc :=
  ⟨(.seq (.region [It 1 (.box (.t 0)),
 It 2 (.alloc [i0,i0,(.s []),.ns,.ns])] [0])
 (.seq (.region [Of 5 1 0,
 Ld 6 5,
 Of 7 1 1,
 Ld 8 7,
 Of 9 1 2,
 Ld 10 9,
 Of 11 1 4,
 Ld 12 11,
 It 3 (.alloc [i0,i0,(.s []),.ns,.ns]),
 ⟨(some 13),(.call 33 [(.t 12)]),none,[(6,(.load none (.t 5)),none),(8,(.load none (.t 7)),none),(10,(.load none (.t 9)),none)]⟩,
 It 14 (.build [i0,i0,(.s []),.ns,.ns] [(0,1,(.t 6)),(1,1,(.t 8)),(2,1,(.t 10)),(4,1,(.t 13))]),
 Ss 5 3 14] [5,6,7,8,9,10,11,12,13,14])
 (.seq (.seq (.region [It 4 (.mov (.c i0))] [])
 (.block 0
 (.loop L19a)))
 (.seq (.region [Lm 33 5 3,
 Ss 5 2 33] [1,3,4,19,33])
 .ret)))),
    34,1,[.c 2 (some 5)],2⟩
theorem tr19:trFunc Tryd.prog (hz [(1,[0,1,2,3,4,5,6,7,10,8,9,11]),(5,[0,1,2,3,4,5,6,7,8,9,10,11])] I19.body) 1 Tryd.f19=some (plain1 I19):=by kernel_rfl
theorem ck19:ckC 2 I19.body=true:=by kernel_rfl
def I20:IFunc :=
  ⟨(.seq (.region [It 1 (.box (.t 0)),
 It 2 (.mov (.c (.b false)))] [0,2])
 (.seq (.region [Lm 3 5 1,
 It 4 (.call 34 [(.t 3)]),
 It 5 (.bin .leq (.t 4) (.c (.i .i64 8))),
 Mv 6 5,
 Ig 7 6 true (.load (some 5) (.t 1)),
 Ig 8 6 true (.call 35 [(.t 7)]),
 Ig 9 6 true (.bin .leq (.t 8) (.c (.i .i64 256))),
 It 10 (.pick (.t 6) (.t 9) (.c (.b false))),
 Mv 11 10,
 Ig 12 11 true (.load (some 5) (.t 1)),
 Ig 13 11 true (.call 36 [(.t 12)]),
 It 14 (.pick (.t 11) (.t 13) (.c (.b false))),
 Mv 2 14] [1,3,4,5,6,7,8,9,10,11,12,13,14])
 .ret)),
    15,1,[.t 2],2⟩
theorem tr20:trFunc Tryd.prog (hz [] I20.body) 1 Tryd.f20=some (plain1 I20):=by kernel_rfl
theorem ck20:ckC 2 I20.body=true:=by kernel_rfl
def L21a:ICode :=
  (.seq (.seq (.region [Mv 8 7,
 Mv 9 0,
 It 10 (.nck (.t 9)),
 Of 11 10 0,
 Ld 12 11,
 Le 13 12,
 It 14 (.bin .lss (.t 8) (.t 13))] [8,9,10,11,12,13])
 (.cond (.t 14)
 (.region [] [14])
 (.exit 0)))
 (.seq (.block 1
 (.seq (.region [Mv 17 0,
 It 18 (.nck (.t 17)),
 Of 19 18 0,
 Ld 20 19,
 Mv 21 7,
 Ia 22 4 20 21,
 Of 23 22 0,
 Ld 24 23,
 Mv 25 1,
 It 26 (.bin .eql (.t 24) (.t 25)),
 Mv 27 26,
 Ig 28 27 true (.mov (.t 0)),
 Ig 29 27 true (.nck (.t 28)),
 Ig 30 27 true (.off (.t 29) 0),
 Ig 31 27 true (.load none (.t 30)),
 Ig 32 27 true (.mov (.t 7)),
 Ig 33 27 true (.iaddr 4 (.t 31) (.t 32)),
 Ig 34 27 true (.off (.t 33) 1),
 Ig 35 27 true (.load none (.t 34)),
 Ig 36 27 true (.mov (.t 2)),
 Ig 37 27 true (.bin .eql (.t 35) (.t 36)),
 It 38 (.pick (.t 27) (.t 37) (.c (.b false)))] [17,18,19,20,21,22,23,24,25,26,27,28,29,30,31,32,33,34,35,36,37])
 (.cond (.t 38)
 (.seq (.region [Mv 39 7,
 Mv 6 39] [0,1,2,7,38,39])
 .ret)
 (.region [] [38]))))
 (.region [Mv 15 7,
 It 16 (.bin .add (.t 15) (.c (.i .i64 1))),
 Mv 7 16] [15,16])))
def I21:IFunc :=
  ⟨(.seq (.region [It 6 (.mov (.c i0))] [6])
 (.seq (.seq (.region [It 7 (.mov (.c i0))] [])
 (.block 0
 (.loop L21a)))
 (.seq (.region [It 6 (.mov (.c (.i .i64 (-1))))] [0,1,2,7,14])
 .ret))),
    40,3,[.t 6],2⟩
theorem tr21:trFunc Tryd.prog (hz [] I21.body) 1 Tryd.f21=some (plain1 I21):=by kernel_rfl
theorem ck21:ckC 2 I21.body=true:=by kernel_rfl
def I22:IFunc :=
  ⟨(.seq (.region [It 2 (.box (.t 0)),
 It 3 (.box (.t 1)),
 It 4 (.mov (.c (.b false)))] [0,1,4])
 (.seq (.region [Lm 5 5 2,
 Lm 6 5 3,
 It 7 (.call 37 [(.t 5),(.t 6)]),
 It 8 (.bin .eql (.t 7) (.c i0)),
 Mv 4 8] [2,3,5,6,7,8])
 .ret)),
    9,2,[.t 4],2⟩
theorem tr22:trFunc Tryd.prog (hz [] I22.body) 1 Tryd.f22=some (plain1 I22):=by kernel_rfl
theorem ck22:ckC 2 I22.body=true:=by kernel_rfl
def I23:IFunc:=⟨cloneCode 1 8,8,1,[.t 2],4⟩
theorem tr23:trFunc Tryd.prog [([],[]),([],[]),([],[]),([],[]),([],[])] 1 Tryd.f23=some (plain1 I23):=by kernel_rfl
theorem ck23:ckC 2 (cloneCode 1 8)=true:=by kernel_rfl
def I24:IFunc :=
  ⟨(.seq (.region [It 2 (.mov (.c .ns))] [2])
 (.seq (.region [It 3 (.mov (.c .ns))] [])
 (.seq (.region [Mv 4 3,
 Mv 5 0,
 It 6 (.app 1 8 (.t 4) (.t 5)),
 Mv 3 6] [0,4,5,6])
 (.seq (.region [Mv 7 3,
 Mv 2 7] [3,7])
 .ret)))),
    8,1,[.t 2],2⟩
theorem tr24:trFunc Tryd.prog (hz [] I24.body) 1 Tryd.f24=some (plain1 I24):=by kernel_rfl
theorem ck24:ckC 2 I24.body=true:=by kernel_rfl
def I25:IFunc :=
  ⟨(.seq (.region [It 3 (.box (.t 0)),
 It 4 (.box (.t 1)),
 It 6 (.mov (.c (.b false)))] [0,1,6])
 (.seq (.region [Lm 10 16 3,
 Mv 11 2,
 It 12 (.call 38 [(.t 10),(.t 11)]),
 Mv 9 12,
 Ex 13 9 0,
 Ex 14 9 1,
 It 7 (.alloc [i0,i0,i0,i0,.ns,.ns,i0,i0,i0,i0,i0,i0,(.s []),.ns,.ns,i0]),
 Ss 16 7 13,
 Mv 8 14] [2,3,10,11,12,9,13,14])
 (.seq (.region [Mv 15 8,
 It 16 (.bin .eql (.t 15) (.c i0)),
 Mv 17 16,
 Ig 18 17 true (.load (some 16) (.t 7)),
 Ig 20 17 true (.load (some 16) (.t 4)),
 ⟨(some 19),(.call 40 [(.t 18)]),(some (17,true)),[(20,(.load (some 16) (.t 4)),(some (17,true)))]⟩,
 Ig 21 17 true (.call 40 [(.t 20)]),
 Ig 22 17 true (.call 39 [(.t 19),(.t 21)]),
 It 23 (.pick (.t 17) (.t 22) (.c (.b false))),
 Mv 6 23] [4,7,8,15,16,17,18,20,19,21,22,23])
 .ret))),
    24,3,[.t 6],2⟩
theorem tr25:trFunc Tryd.prog (hz [(2,[0,1,2,3,5,4,6,7,8,9])] I25.body) 1 Tryd.f25=some (plain1 I25):=by kernel_rfl
theorem ck25:ckC 2 I25.body=true:=by kernel_rfl
def I26:IFunc :=
  ⟨(.seq (.region [It 4 (.alloc [i0,i0,i0,i0,.ns,.ns,i0,i0,i0,i0,i0,i0,(.s []),.ns,.ns,i0])] [])
 (.seq (.region [Mv 5 0,
 Mv 6 1,
 Mv 7 1,
 Le 8 7,
 It 9 (.bin .sub (.t 8) (.c (.i .i64 1))),
 It 10 (.mm true (.t 9) [(.c i0)]),
 It 11 (.call 31 [(.t 10)]),
 It 12 (.bsl 7 1 [i0,i0,i0,i0,(.s []),.ns,.ns] [(0,7,(.t 11))]),
 It 13 (.build [i0,i0,i0,i0,.ns,.ns,i0,i0,i0,i0,i0,i0,(.s []),.ns,.ns,i0] [(2,1,(.c (.i .i64 1))),(3,1,(.t 5)),(4,1,(.t 6)),(5,1,(.t 12))]),
 Ss 16 4 13] [0,1,5,6,7,8,9,10,11,12,13])
 .ret)),
    14,2,[.c 4 (some 16)],1⟩
theorem tr26:trFunc Tryd.prog (hz [] I26.body) 1 Tryd.f26=some (plain1 I26):=by kernel_rfl
theorem ck26:ckC 2 I26.body=true:=by kernel_rfl
def I27:IFunc :=
  ⟨(.seq (.region [It 4 (.box (.t 1)),
 It 5 (.box (.t 2)),
 It 6 (.alloc [i0,i0,.ns,(.s []),.ns])] [1,2])
 (.seq (.region [Mv 7 0,
 Lm 8 7 4,
 Lm 9 7 5,
 It 10 (.bsl 7 2 [i0,i0,i0,i0,(.s []),.ns,.ns,i0,i0,i0,i0,(.s []),.ns,.ns] [(0,7,(.t 8)),(7,7,(.t 9))]),
 It 11 (.build [i0,i0,.ns,(.s []),.ns] [(0,1,(.t 7)),(2,1,(.t 10))]),
 Ss 5 6 11] [0,4,5,7,8,9,10,11])
 .ret)),
    12,3,[.c 6 (some 5)],2⟩
theorem tr27:trFunc Tryd.prog (hz [] I27.body) 1 Tryd.f27=some (plain1 I27):=by kernel_rfl
theorem ck27:ckC 2 I27.body=true:=by kernel_rfl
def I28:IFunc :=
  ⟨(.seq (.region [It 2 (.alloc [i0,i0,i0,i0,(.s []),.ns,.ns])] [])
 (.seq (.region [Mv 3 0,
 It 4 (.build [i0,i0,i0,i0,(.s []),.ns,.ns] [(0,1,(.c (.i .i64 1))),(1,1,(.t 3))]),
 Ss 7 2 4] [0,3,4])
 .ret)),
    5,1,[.c 2 (some 7)],2⟩
theorem tr28:trFunc Tryd.prog (hz [] I28.body) 1 Tryd.f28=some (plain1 I28):=by kernel_rfl
theorem ck28:ckC 2 I28.body=true:=by kernel_rfl
def I29:IFunc :=
  ⟨(.seq (.region [It 2 (.alloc [i0,i0,i0,i0,(.s []),.ns,.ns])] [])
 (.seq (.region [Mv 3 0,
 It 4 (.build [i0,i0,(.s []),.ns,.ns] [(0,1,(.c (.i .i64 1))),(1,1,(.t 3))]),
 It 5 (.build [i0,i0,i0,i0,(.s []),.ns,.ns] [(0,1,(.c (.i .i64 3))),(2,5,(.t 4))]),
 Ss 7 2 5] [0,3,4,5])
 .ret)),
    6,1,[.c 2 (some 7)],2⟩
theorem tr29:trFunc Tryd.prog (hz [] I29.body) 1 Tryd.f29=some (plain1 I29):=by kernel_rfl
theorem ck29:ckC 2 I29.body=true:=by kernel_rfl
def I30:IFunc :=
  ⟨(.seq (.region [It 5 (.box (.t 2)),
 It 6 (.alloc [i0,i0,.ns,(.s []),.ns])] [2])
 (.seq (.region [Mv 7 0,
 Mv 8 1,
 Lm 9 7 5,
 It 10 (.bsl 7 1 [i0,i0,i0,i0,(.s []),.ns,.ns] [(0,7,(.t 9))]),
 It 11 (.build [i0,i0,.ns,(.s []),.ns] [(0,1,(.t 7)),(1,1,(.t 8)),(2,1,(.t 10))]),
 Ss 5 6 11] [0,1,5,7,8,9,10,11])
 .ret)),
    12,3,[.c 6 (some 5)],2⟩
theorem tr30:trFunc Tryd.prog (hz [] I30.body) 1 Tryd.f30=some (plain1 I30):=by kernel_rfl
theorem ck30:ckC 2 I30.body=true:=by kernel_rfl
def I31:IFunc :=
  ⟨(.seq (.region [It 2 (.alloc [i0,i0,i0,i0,(.s []),.ns,.ns])] [])
 (.seq (.region [Mv 3 0,
 It 4 (.build [i0,i0,i0,i0,(.s []),.ns,.ns] [(0,1,(.c (.i .i64 2))),(1,1,(.t 3))]),
 Ss 7 2 4] [0,3,4])
 .ret)),
    5,1,[.c 2 (some 7)],2⟩
theorem tr31:trFunc Tryd.prog (hz [] I31.body) 1 Tryd.f31=some (plain1 I31):=by kernel_rfl
theorem ck31:ckC 2 I31.body=true:=by kernel_rfl
def L32a:ICode :=
  (.seq (.region [It 22 (.bin .lss (.t 21) (.t 20))] [])
 (.seq (.cond (.t 22)
 (.region [] [22])
 (.exit 0))
 (.seq (.block 1
 (.seq (.region [Ia 23 1 19 21,
 Ld 24 23,
 Mv 9 24] [23,24])
 (.region [Mv 25 2,
 Mv 26 9,
 It 27 (.lenk 1 (.t 26)),
 It 28 (.bin .sub (.t 25) (.t 27)),
 Mv 2 28] [9,25,26,27,28])))
 (.region [It 29 (.bin .add (.t 21) (.c (.i .i64 1))),
 Mv 21 29] [29]))))
def L32b:ICode :=
  (.seq (.region [It 45 (.bin .lss (.t 44) (.t 43))] [])
 (.seq (.cond (.t 45)
 (.region [] [45])
 (.exit 2))
 (.seq (.block 3
 (.seq (.region [Mv 46 44,
 Mv 11 46] [46])
 (.seq (.region [Of 48 3 3,
 Ld 49 48,
 Mv 50 11,
 Ia 51 5 49 50,
 Lm 52 5 51,
 Mv 53 1,
 It 54 (.bin .add (.t 53) (.c (.i .i64 1))),
 Mv 55 2,
 It 56 (.call 32 [(.t 52),(.t 54),(.t 55)]),
 Mv 47 56,
 Ex 57 47 0,
 Ex 58 47 1,
 Mv 2 57,
 Mv 10 58] [11,48,49,50,51,52,53,54,55,56,47,57,58])
 (.seq (.region [Mv 59 10,
 It 60 (.un .not (.t 59))] [10,59])
 (.cond (.t 60)
 (.seq (.region [It 6 (.mov (.c i0)),
 It 7 (.mov (.c (.b false)))] [1,2,3,43,44,60])
 .ret)
 (.region [] [60]))))))
 (.region [It 61 (.bin .add (.t 44) (.c (.i .i64 1))),
 Mv 44 61] [61]))))
def I32:IFunc :=
  ⟨(.seq (.region [It 3 (.box (.t 0)),
 It 6 (.mov (.c i0)),
 It 7 (.mov (.c (.b false)))] [0,6,7])
 (.seq (.region [Mv 12 2,
 Of 13 3 2,
 Ld 14 13,
 It 15 (.lenk 1 (.t 14)),
 It 16 (.bin .add (.c (.i .i64 1)) (.t 15)),
 It 17 (.bin .sub (.t 12) (.t 16)),
 Mv 2 17] [12,13,14,15,16,17])
 (.seq (.seq (.region [Of 18 3 4,
 Ld 19 18,
 Le 20 19,
 It 21 (.mov (.c i0))] [18])
 (.block 0
 (.loop L32a)))
 (.seq (.seq (.region [Mv 30 1,
 It 31 (.bin .geq (.t 30) (.c (.i .i64 8))),
 Mv 32 31,
 Ig 33 32 false (.mov (.t 2)),
 Ig 34 32 false (.bin .lss (.t 33) (.c i0)),
 It 35 (.pick (.t 32) (.c (.b true)) (.t 34)),
 Mv 36 35,
 Ig 37 36 false (.load (some 5) (.t 3)),
 Ig 38 36 false (.call 41 [(.t 37)]),
 Ig 39 36 false (.un .not (.t 38)),
 It 40 (.pick (.t 36) (.c (.b true)) (.t 39))] [19,20,21,22,30,31,32,33,34,35,36,37,38,39])
 (.cond (.t 40)
 (.seq (.region [It 6 (.mov (.c i0)),
 It 7 (.mov (.c (.b false)))] [1,2,3,40])
 .ret)
 (.region [] [40])))
 (.seq (.region [It 10 (.mov (.c (.b true)))] [10])
 (.seq (.seq (.region [Of 41 3 3,
 Ld 42 41,
 Le 43 42,
 It 44 (.mov (.c i0))] [41,42])
 (.block 2
 (.loop L32b)))
 (.seq (.region [Mv 62 2,
 Mv 6 62,
 It 7 (.mov (.c (.b true)))] [1,2,3,43,44,45,62])
 .ret))))))),
    63,3,[.t 6,.t 7],2⟩
theorem tr32:trFunc Tryd.prog (hz [] I32.body) 1 Tryd.f32=some (plain1 I32):=by kernel_rfl
theorem ck32:ckC 2 I32.body=true:=by kernel_rfl
def I33:IFunc :=
  ⟨(.seq (.region [It 2 (.mov (.c .ns))] [2])
 (.seq (.region [It 3 (.mov (.c .ns))] [])
 (.seq (.region [Mv 4 3,
 Mv 5 0,
 It 6 (.app 1 16 (.t 4) (.t 5)),
 Mv 3 6] [0,4,5,6])
 (.seq (.region [Mv 7 3,
 Mv 2 7] [3,7])
 .ret)))),
    8,1,[.t 2],2⟩
theorem tr33:trFunc Tryd.prog (hz [] I33.body) 1 Tryd.f33=some (plain1 I33):=by kernel_rfl
theorem ck33:ckC 2 I33.body=true:=by kernel_rfl
def L34a:ICode :=
  (.seq (.seq (.region [Mv 5 4,
 Of 6 1 3,
 Ld 7 6,
 Le 8 7,
 It 9 (.bin .lss (.t 5) (.t 8))] [5,6,7,8])
 (.cond (.t 9)
 (.region [] [9])
 (.exit 0)))
 (.seq (.block 1
 (.region [Mv 12 3,
 Of 13 1 3,
 Ld 14 13,
 Mv 15 4,
 Ia 16 5 14 15,
 Lm 17 5 16,
 It 18 (.call 34 [(.t 17)]),
 It 19 (.mm true (.t 12) [(.t 18)]),
 Mv 3 19] [12,13,14,15,16,17,18,19]))
 (.region [Mv 10 4,
 It 11 (.bin .add (.t 10) (.c (.i .i64 1))),
 Mv 4 11] [10,11])))
def I34:IFunc :=
  ⟨(.seq (.region [It 1 (.box (.t 0)),
 It 2 (.mov (.c i0))] [0,2])
 (.seq (.region [It 3 (.mov (.c i0))] [])
 (.seq (.seq (.region [It 4 (.mov (.c i0))] [])
 (.block 0
 (.loop L34a)))
 (.seq (.region [Mv 20 3,
 It 21 (.bin .add (.c (.i .i64 1)) (.t 20)),
 Mv 2 21] [1,3,4,9,20,21])
 .ret)))),
    22,1,[.t 2],2⟩
theorem tr34:trFunc Tryd.prog (hz [] I34.body) 1 Tryd.f34=some (plain1 I34):=by kernel_rfl
theorem ck34:ckC 2 I34.body=true:=by kernel_rfl
def L35a:ICode :=
  (.seq (.seq (.region [Mv 10 4,
 Of 11 1 4,
 Ld 12 11,
 Le 13 12,
 It 14 (.bin .lss (.t 10) (.t 13))] [10,11,12,13])
 (.cond (.t 14)
 (.region [] [14])
 (.exit 0)))
 (.seq (.block 1
 (.region [Mv 17 3,
 Of 18 1 4,
 Ld 19 18,
 Mv 20 4,
 Ia 21 1 19 20,
 Ld 22 21,
 It 23 (.lenk 1 (.t 22)),
 It 24 (.bin .add (.t 17) (.t 23)),
 Mv 3 24] [17,18,19,20,21,22,23,24]))
 (.region [Mv 15 4,
 It 16 (.bin .add (.t 15) (.c (.i .i64 1))),
 Mv 4 16] [15,16])))
def L35b:ICode :=
  (.seq (.seq (.region [Mv 25 5,
 Of 26 1 3,
 Ld 27 26,
 Le 28 27,
 It 29 (.bin .lss (.t 25) (.t 28))] [25,26,27,28])
 (.cond (.t 29)
 (.region [] [29])
 (.exit 2)))
 (.seq (.block 3
 (.region [Mv 32 3,
 Of 33 1 3,
 Ld 34 33,
 Mv 35 5,
 Ia 36 5 34 35,
 Lm 37 5 36,
 It 38 (.call 35 [(.t 37)]),
 It 39 (.bin .add (.t 32) (.t 38)),
 Mv 3 39] [32,33,34,35,36,37,38,39]))
 (.region [Mv 30 5,
 It 31 (.bin .add (.t 30) (.c (.i .i64 1))),
 Mv 5 31] [30,31])))
def I35:IFunc :=
  ⟨(.seq (.region [It 1 (.box (.t 0)),
 It 2 (.mov (.c i0))] [0,2])
 (.seq (.region [Of 6 1 2,
 Ld 7 6,
 It 8 (.lenk 1 (.t 7)),
 It 9 (.bin .add (.c (.i .i64 1)) (.t 8)),
 Mv 3 9] [6,7,8,9])
 (.seq (.seq (.region [It 4 (.mov (.c i0))] [])
 (.block 0
 (.loop L35a)))
 (.seq (.seq (.region [It 5 (.mov (.c i0))] [4,14])
 (.block 2
 (.loop L35b)))
 (.seq (.region [Mv 40 3,
 Mv 2 40] [1,3,5,29,40])
 .ret))))),
    41,1,[.t 2],2⟩
theorem tr35:trFunc Tryd.prog (hz [] I35.body) 1 Tryd.f35=some (plain1 I35):=by kernel_rfl
theorem ck35:ckC 2 I35.body=true:=by kernel_rfl
def L36a:ICode :=
  (.seq (.seq (.region [Mv 7 3,
 Of 8 1 3,
 Ld 9 8,
 Le 10 9,
 It 11 (.bin .lss (.t 7) (.t 10))] [7,8,9,10])
 (.cond (.t 11)
 (.region [] [11])
 (.exit 0)))
 (.seq (.block 1
 (.seq (.region [Of 14 1 3,
 Ld 15 14,
 Mv 16 3,
 Ia 17 5 15 16,
 Lm 18 5 17,
 It 19 (.call 36 [(.t 18)]),
 It 20 (.un .not (.t 19))] [14,15,16,17,18,19])
 (.cond (.t 20)
 (.seq (.region [It 2 (.mov (.c (.b false)))] [1,3,20])
 .ret)
 (.region [] [20]))))
 (.region [Mv 12 3,
 It 13 (.bin .add (.t 12) (.c (.i .i64 1))),
 Mv 3 13] [12,13])))
def I36:IFunc :=
  ⟨(.seq (.region [It 1 (.box (.t 0)),
 It 2 (.mov (.c (.b false)))] [0,2])
 (.seq (.seq (.region [Lm 4 5 1,
 It 5 (.call 42 [(.t 4)]),
 It 6 (.un .not (.t 5))] [4,5])
 (.cond (.t 6)
 (.seq (.region [It 2 (.mov (.c (.b false)))] [1,6])
 .ret)
 (.region [] [6])))
 (.seq (.seq (.region [It 3 (.mov (.c i0))] [])
 (.block 0
 (.loop L36a)))
 (.seq (.region [It 2 (.mov (.c (.b true)))] [1,3,11])
 .ret)))),
    21,1,[.t 2],2⟩
theorem tr36:trFunc Tryd.prog (hz [] I36.body) 1 Tryd.f36=some (plain1 I36):=by kernel_rfl
theorem ck36:ckC 2 I36.body=true:=by kernel_rfl
def L37a:ICode :=
  (.seq (.seq (.region [Mv 38 5,
 Of 39 2 4,
 Ld 40 39,
 Le 41 40,
 It 42 (.bin .lss (.t 38) (.t 41)),
 Mv 43 42,
 Ig 44 43 true (.mov (.t 5)),
 Ig 45 43 true (.off (.t 3) 4),
 Ig 46 43 true (.load none (.t 45)),
 Ig 47 43 true (.lenk 0 (.t 46)),
 Ig 48 43 true (.bin .lss (.t 44) (.t 47)),
 It 49 (.pick (.t 43) (.t 48) (.c (.b false)))] [38,39,40,41,42,43,44,45,46,47,48])
 (.cond (.t 49)
 (.region [] [49])
 (.exit 0)))
 (.seq (.block 1
 (.seq (.region [Of 52 2 4,
 Ld 53 52,
 Mv 54 5,
 Ia 55 1 53 54,
 Ld 56 55,
 Of 57 3 4,
 Ld 58 57,
 Mv 59 5,
 Ia 60 1 58 59,
 Ld 61 60,
 It 62 (.bin .neq (.t 56) (.t 61))] [52,53,54,55,56,57,58,59,60,61])
 (.cond (.t 62)
 (.seq (.region [Of 63 2 4,
 Ld 64 63,
 Mv 65 5,
 Ia 66 1 64 65,
 Ld 67 66,
 Of 68 3 4,
 Ld 69 68,
 Mv 70 5,
 Ia 71 1 69 70,
 Ld 72 71,
 It 73 (.call 44 [(.t 67),(.t 72)]),
 Mv 4 73] [2,3,5,62,63,64,65,66,67,68,69,70,71,72,73])
 .ret)
 (.region [] [62]))))
 (.region [Mv 50 5,
 It 51 (.bin .add (.t 50) (.c (.i .i64 1))),
 Mv 5 51] [50,51])))
def L37b:ICode :=
  (.seq (.seq (.region [Mv 88 6,
 Of 89 2 3,
 Ld 90 89,
 Le 91 90,
 It 92 (.bin .lss (.t 88) (.t 91)),
 Mv 93 92,
 Ig 94 93 true (.mov (.t 6)),
 Ig 95 93 true (.off (.t 3) 3),
 Ig 96 93 true (.load none (.t 95)),
 Ig 97 93 true (.lenk 0 (.t 96)),
 Ig 98 93 true (.bin .lss (.t 94) (.t 97)),
 It 99 (.pick (.t 93) (.t 98) (.c (.b false)))] [88,89,90,91,92,93,94,95,96,97,98])
 (.cond (.t 99)
 (.region [] [99])
 (.exit 2)))
 (.seq (.block 3
 (.seq (.region [Of 102 2 3,
 Ld 103 102,
 Mv 104 6,
 Ia 105 5 103 104,
 Lm 106 5 105,
 Of 107 3 3,
 Ld 108 107,
 Mv 109 6,
 Ia 110 5 108 109,
 Lm 111 5 110,
 It 112 (.call 37 [(.t 106),(.t 111)]),
 Mv 7 112] [102,103,104,105,106,107,108,109,110,111,112])
 (.seq (.region [Mv 113 7,
 It 114 (.bin .neq (.t 113) (.c i0))] [113])
 (.cond (.t 114)
 (.seq (.region [Mv 115 7,
 Mv 4 115] [2,3,6,7,114,115])
 .ret)
 (.region [] [7,114])))))
 (.region [Mv 100 6,
 It 101 (.bin .add (.t 100) (.c (.i .i64 1))),
 Mv 6 101] [100,101])))
def I37:IFunc :=
  ⟨(.seq (.region [It 2 (.box (.t 0)),
 It 3 (.box (.t 1)),
 It 4 (.mov (.c i0))] [0,1,4])
 (.seq (.seq (.region [Of 8 2 0,
 Ld 9 8,
 Of 10 3 0,
 Ld 11 10,
 It 12 (.bin .neq (.t 9) (.t 11))] [8,9,10,11])
 (.cond (.t 12)
 (.seq (.region [Of 13 2 0,
 Ld 14 13,
 Of 15 3 0,
 Ld 16 15,
 It 17 (.call 43 [(.t 14),(.t 16)]),
 Mv 4 17] [2,3,12,13,14,15,16,17])
 .ret)
 (.region [] [12])))
 (.seq (.seq (.region [Of 18 2 1,
 Ld 19 18,
 Of 20 3 1,
 Ld 21 20,
 It 22 (.bin .neq (.t 19) (.t 21))] [18,19,20,21])
 (.cond (.t 22)
 (.seq (.region [Of 23 2 1,
 Ld 24 23,
 Of 25 3 1,
 Ld 26 25,
 It 27 (.call 43 [(.t 24),(.t 26)]),
 Mv 4 27] [2,3,22,23,24,25,26,27])
 .ret)
 (.region [] [22])))
 (.seq (.seq (.region [Of 28 2 2,
 Ld 29 28,
 Of 30 3 2,
 Ld 31 30,
 It 32 (.bin .neq (.t 29) (.t 31))] [28,29,30,31])
 (.cond (.t 32)
 (.seq (.region [Of 33 2 2,
 Ld 34 33,
 Of 35 3 2,
 Ld 36 35,
 It 37 (.call 44 [(.t 34),(.t 36)]),
 Mv 4 37] [2,3,32,33,34,35,36,37])
 .ret)
 (.region [] [32])))
 (.seq (.seq (.region [It 5 (.mov (.c i0))] [])
 (.block 0
 (.loop L37a)))
 (.seq (.seq (.region [Of 74 2 4,
 Ld 75 74,
 Le 76 75,
 Of 77 3 4,
 Ld 78 77,
 Le 79 78,
 It 80 (.bin .neq (.t 76) (.t 79))] [5,49,74,75,76,77,78,79])
 (.cond (.t 80)
 (.seq (.region [Of 81 2 4,
 Ld 82 81,
 Le 83 82,
 Of 84 3 4,
 Ld 85 84,
 Le 86 85,
 It 87 (.call 43 [(.t 83),(.t 86)]),
 Mv 4 87] [2,3,80,81,82,83,84,85,86,87])
 .ret)
 (.region [] [80])))
 (.seq (.seq (.region [It 6 (.mov (.c i0))] [])
 (.block 2
 (.loop L37b)))
 (.seq (.region [Of 116 2 3,
 Ld 117 116,
 Le 118 117,
 Of 119 3 3,
 Ld 120 119,
 Le 121 120,
 It 122 (.call 43 [(.t 118),(.t 121)]),
 Mv 4 122] [2,3,6,99,116,117,118,119,120,121,122])
 .ret)))))))),
    123,2,[.t 4],2⟩
theorem tr37:trFunc Tryd.prog (hz [(13,[0,1,2,3,4,5,6,7,8,9,10]),(14,[0,1,2,3,4,5,6,7,8,9,10,11]),(23,[0,1,2,3,4,5,6,7,8,9,10,11])] I37.body) 1 Tryd.f37=some (plain1 I37):=by kernel_rfl
theorem ck37:ckC 2 I37.body=true:=by kernel_rfl
def L38a:ICode :=
  (.seq (.region [It 29 (.bin .lss (.t 28) (.t 27))] [])
 (.seq (.cond (.t 29)
 (.region [] [29])
 (.exit 0))
 (.seq (.block 1
 (.seq (.region [Mv 30 28,
 Mv 8 30] [30])
 (.region [Mv 31 7,
 It 32 (.nck (.t 31)),
 Of 33 32 1,
 Ld 34 33,
 Mv 35 8,
 Ia 36 1 34 35,
 ⟨none,(.store 1 (.t 36) (.c (.i .i64 (-1)))),none,[]⟩] [8,31,32,33,34,35,36])))
 (.region [It 37 (.bin .add (.t 28) (.c (.i .i64 1))),
 Mv 28 37] [37]))))
def L38b:ICode :=
  (.seq (.region [It 42 (.bin .lss (.t 41) (.t 40))] [])
 (.seq (.cond (.t 42)
 (.region [] [42])
 (.exit 2))
 (.seq (.block 3
 (.seq (.region [Ia 43 5 39 41,
 Lm 44 5 43,
 It 10 (.alloc [i0,i0,.ns,(.s []),.ns]),
 Ss 5 10 44] [43,44])
 (.region [Mv 45 7,
 Lm 46 5 10,
 It 47 (.call 46 [(.t 45),(.t 46)])] [10,45,46,47])))
 (.region [It 48 (.bin .add (.t 41) (.c (.i .i64 1))),
 Mv 41 48] [48]))))
def I38:IFunc :=
  ⟨(.seq (.region [It 2 (.box (.t 0)),
 It 4 (.alloc [i0,i0,i0,i0,.ns,.ns,i0,i0,i0,i0,i0,i0,(.s []),.ns,.ns,i0]),
 It 5 (.mov (.c i0))] [0,5])
 (.seq (.seq (.region [Lm 11 16 2,
 It 12 (.call 45 [(.t 11)]),
 Mv 6 12] [11,12])
 (.seq (.region [Mv 13 6,
 It 14 (.bin .neq (.t 13) (.c i0))] [13])
 (.cond (.t 14)
 (.seq (.region [It 15 (.build [i0,i0,i0,i0,.ns,.ns,i0,i0,i0,i0,i0,i0,(.s []),.ns,.ns,i0] []),
 Mv 16 6,
 Ss 16 4 15,
 Mv 5 16] [1,2,6,14,15,16])
 .ret)
 (.region [] [6,14]))))
 (.seq (.region [Mv 17 1,
 Of 18 2 3,
 Ld 19 18,
 It 20 (.mksl 1 8 [i0] (.t 19) (.t 19)),
 It 21 (.build [.ns,.ns,.ns,.ns] [(2,1,(.t 17)),(1,1,(.t 20))]),
 It 22 (.box (.t 21)),
 Mv 7 22] [1,17,18,19,20,21,22])
 (.seq (.seq (.region [Mv 23 7,
 It 24 (.nck (.t 23)),
 Of 25 24 1,
 Ld 26 25,
 Le 27 26,
 It 28 (.mov (.c i0))] [23,24,25,26])
 (.block 0
 (.loop L38a)))
 (.seq (.seq (.region [Of 38 2 4,
 Ld 39 38,
 Le 40 39,
 It 41 (.mov (.c i0))] [27,28,29,38])
 (.block 2
 (.loop L38b)))
 (.seq (.seq (.region [Mv 49 7,
 It 50 (.nck (.t 49)),
 Of 51 50 0,
 Ld 52 51,
 Le 53 52,
 It 54 (.bin .gtr (.t 53) (.c (.i .i64 4096)))] [39,40,41,42,49,50,51,52,53])
 (.cond (.t 54)
 (.seq (.region [It 55 (.build [i0,i0,i0,i0,.ns,.ns,i0,i0,i0,i0,i0,i0,(.s []),.ns,.ns,i0] []),
 Ss 16 4 55,
 It 5 (.mov (.c (.i .i64 5)))] [2,7,54,55])
 .ret)
 (.region [] [54])))
 (.seq (.region [Mv 56 7,
 It 57 (.nck (.t 56)),
 Of 58 57 0,
 Ld 59 58,
 Mv 60 7,
 Of 61 2 5,
 Ld 62 61,
 Mv 64 7,
 Of 65 2 8,
 Lm 66 7 65,
 It 67 (.bsl 7 1 [i0,i0,i0,i0,(.s []),.ns,.ns] [(0,7,(.t 66))]),
 Of 71 2 4,
 ⟨(some 63),(.call 47 [(.t 60),(.t 62)]),none,[(59,(.load none (.t 58)),none),(66,(.load (some 7) (.t 65)),none)]⟩,
 ⟨(some 68),(.call 47 [(.t 64),(.t 67)]),none,[(59,(.load none (.t 58)),none)]⟩,
 It 69 (.iaddr 7 (.t 68) (.c i0)),
 Lm 70 7 69,
 ⟨none,(.store 1 (.t 71) (.t 59)),none,[(70,(.load (some 7) (.t 69)),none)]⟩,
 Of 72 2 5,
 ⟨none,(.store 1 (.t 72) (.t 63)),none,[(70,(.load (some 7) (.t 69)),none)]⟩,
 Of 73 2 8,
 Ss 7 73 70] [7,56,57,58,59,60,61,62,64,65,66,67,71,63,68,69,70,72,73])
 (.seq (.region [Lm 74 16 2,
 Ss 16 4 74,
 It 5 (.mov (.c i0))] [2,74])
 .ret)))))))),
    75,2,[.c 4 (some 16),.t 5],2⟩
theorem tr38:trFunc Tryd.prog (hz [(21,[0,1,2,3,4,5,6,8,9,10,11,15,7,12,13,14,16,17,18,19,20])] I38.body) 1 Tryd.f38=some (plain1 I38):=by kernel_rfl
theorem ck38:ckC 2 I38.body=true:=by kernel_rfl
def L39a:ICode :=
  (.seq (.seq (.region [Mv 62 5,
 Of 63 2 4,
 Ld 64 63,
 Le 65 64,
 It 66 (.bin .lss (.t 62) (.t 65))] [62,63,64,65])
 (.cond (.t 66)
 (.region [] [66])
 (.exit 0)))
 (.seq (.block 1
 (.seq (.region [Of 69 2 4,
 Ld 70 69,
 Mv 71 5,
 Ia 72 5 70 71,
 Lm 73 5 72,
 Of 74 3 4,
 Ld 75 74,
 Mv 76 5,
 Ia 77 5 75 76,
 Lm 78 5 77,
 It 79 (.call 48 [(.t 73),(.t 78)]),
 It 80 (.un .not (.t 79))] [69,70,71,72,73,74,75,76,77,78,79])
 (.cond (.t 80)
 (.seq (.region [It 4 (.mov (.c (.b false)))] [2,3,5,80])
 .ret)
 (.region [] [80]))))
 (.region [Mv 67 5,
 It 68 (.bin .add (.t 67) (.c (.i .i64 1))),
 Mv 5 68] [67,68])))
def I39:IFunc :=
  ⟨(.seq (.region [It 2 (.box (.t 0)),
 It 3 (.box (.t 1)),
 It 4 (.mov (.c (.b false)))] [0,1,4])
 (.seq (.seq (.region [Of 6 2 0,
 Ld 7 6,
 Of 8 3 0,
 Ld 9 8,
 It 10 (.bin .neq (.t 7) (.t 9)),
 Mv 11 10,
 Ig 12 11 false (.off (.t 2) 1),
 Ig 13 11 false (.load none (.t 12)),
 Ig 14 11 false (.off (.t 3) 1),
 Ig 15 11 false (.load none (.t 14)),
 Ig 16 11 false (.bin .neq (.t 13) (.t 15)),
 It 17 (.pick (.t 11) (.c (.b true)) (.t 16)),
 Mv 18 17,
 Ig 19 18 false (.off (.t 2) 2),
 Ig 20 18 false (.load none (.t 19)),
 Ig 21 18 false (.off (.t 3) 2),
 Ig 22 18 false (.load none (.t 21)),
 Ig 23 18 false (.bin .neq (.t 20) (.t 22)),
 It 24 (.pick (.t 18) (.c (.b true)) (.t 23)),
 Mv 25 24,
 Ig 26 25 false (.off (.t 2) 3),
 Ig 27 25 false (.load none (.t 26)),
 Ig 28 25 false (.off (.t 3) 3),
 Ig 29 25 false (.load none (.t 28)),
 Ig 30 25 false (.bin .neq (.t 27) (.t 29)),
 It 31 (.pick (.t 25) (.c (.b true)) (.t 30)),
 Mv 32 31,
 Ig 33 32 false (.off (.t 2) 6),
 Ig 34 32 false (.load none (.t 33)),
 Ig 35 32 false (.off (.t 3) 6),
 Ig 36 32 false (.load none (.t 35)),
 Ig 37 32 false (.bin .neq (.t 34) (.t 36)),
 It 38 (.pick (.t 32) (.c (.b true)) (.t 37)),
 Mv 39 38,
 Ig 40 39 false (.off (.t 2) 7),
 Ig 41 39 false (.load none (.t 40)),
 Ig 42 39 false (.off (.t 3) 7),
 Ig 43 39 false (.load none (.t 42)),
 Ig 44 39 false (.bin .neq (.t 41) (.t 43)),
 It 45 (.pick (.t 39) (.c (.b true)) (.t 44)),
 Mv 46 45,
 Ig 47 46 false (.off (.t 2) 15),
 Ig 48 46 false (.load none (.t 47)),
 Ig 49 46 false (.off (.t 3) 15),
 Ig 50 46 false (.load none (.t 49)),
 Ig 51 46 false (.bin .neq (.t 48) (.t 50)),
 It 52 (.pick (.t 46) (.c (.b true)) (.t 51)),
 Mv 53 52,
 Ig 54 53 false (.off (.t 2) 4),
 Ig 55 53 false (.load none (.t 54)),
 Ig 56 53 false (.lenk 0 (.t 55)),
 Ig 57 53 false (.off (.t 3) 4),
 Ig 58 53 false (.load none (.t 57)),
 Ig 59 53 false (.lenk 0 (.t 58)),
 Ig 60 53 false (.bin .neq (.t 56) (.t 59)),
 It 61 (.pick (.t 53) (.c (.b true)) (.t 60))] [6,7,8,9,10,11,12,13,14,15,16,17,18,19,20,21,22,23,24,25,26,27,28,29,30,31,32,33,34,35,36,37,38,39,40,41,42,43,44,45,46,47,48,49,50,51,52,53,54,55,56,57,58,59,60])
 (.cond (.t 61)
 (.seq (.region [It 4 (.mov (.c (.b false)))] [2,3,61])
 .ret)
 (.region [] [61])))
 (.seq (.seq (.region [It 5 (.mov (.c i0))] [])
 (.block 0
 (.loop L39a)))
 (.seq (.region [Of 81 2 5,
 Ld 82 81,
 Of 83 3 5,
 Ld 84 83,
 It 85 (.call 49 [(.t 82),(.t 84)]),
 Mv 86 85,
 Ig 87 86 true (.off (.t 2) 8),
 Ig 88 86 true (.load (some 7) (.t 87)),
 Ig 89 86 true (.off (.t 3) 8),
 Ig 90 86 true (.load (some 7) (.t 89)),
 Ig 91 86 true (.call 50 [(.t 88),(.t 90)]),
 It 92 (.pick (.t 86) (.t 91) (.c (.b false))),
 Mv 4 92] [2,3,5,66,81,82,83,84,85,86,87,88,89,90,91,92])
 .ret)))),
    93,2,[.t 4],2⟩
theorem tr39:trFunc Tryd.prog (hz [(7,[0,1,2,3,4,5,6,7,8,9,10,11])] I39.body) 1 Tryd.f39=some (plain1 I39):=by kernel_rfl
theorem ck39:ckC 2 I39.body=true:=by kernel_rfl
def L40a:ICode :=
  (.seq (.seq (.region [Mv 20 4,
 Of 21 1 4,
 Ld 22 21,
 Le 23 22,
 It 24 (.bin .lss (.t 20) (.t 23))] [20,21,22,23])
 (.cond (.t 24)
 (.region [] [24])
 (.exit 0)))
 (.seq (.block 1
 (.region [Of 27 3 4,
 Ld 28 27,
 Of 29 1 4,
 Ld 30 29,
 Mv 31 4,
 Ia 32 5 30 31,
 Of 33 32 0,
 Ld 34 33,
 Of 35 1 4,
 Ld 36 35,
 Mv 37 4,
 Ia 38 5 36 37,
 Of 39 38 1,
 Ld 40 39,
 Of 41 1 4,
 Ld 42 41,
 Mv 43 4,
 Ia 44 5 42 43,
 Of 45 44 2,
 Ld 46 45,
 Of 48 1 4,
 Ld 49 48,
 Mv 50 4,
 Ia 51 5 49 50,
 Of 52 51 3,
 Ld 53 52,
 Of 54 1 4,
 Ld 55 54,
 Mv 56 4,
 Ia 57 5 55 56,
 Of 58 57 4,
 Ld 59 58,
 ⟨(some 47),(.call 51 [(.t 46)]),none,[(28,(.load none (.t 27)),none),(30,(.load none (.t 29)),none),(34,(.load none (.t 33)),none),(36,(.load none (.t 35)),none),(40,(.load none (.t 39)),none),(49,(.load none (.t 48)),none),(53,(.load none (.t 52)),none),(55,(.load none (.t 54)),none),(59,(.load none (.t 58)),none)]⟩,
 It 60 (.build [i0,i0,.ns,(.s []),.ns] [(0,1,(.t 34)),(1,1,(.t 40)),(2,1,(.t 47)),(3,1,(.t 53)),(4,1,(.t 59))]),
 It 61 (.bsl 5 1 [i0,i0,.ns,(.s []),.ns] [(0,5,(.t 60))]),
 It 62 (.app 5 80 (.t 28) (.t 61)),
 Of 63 3 4,
 Ss 1 63 62] [27,28,29,30,31,32,33,34,35,36,37,38,39,40,41,42,43,44,45,46,48,49,50,51,52,53,54,55,56,57,58,59,47,60,61,62,63]))
 (.region [Mv 25 4,
 It 26 (.bin .add (.t 25) (.c (.i .i64 1))),
 Mv 4 26] [25,26])))
def I40:IFunc :=
  ⟨(.seq (.region [It 1 (.box (.t 0)),
 It 2 (.alloc [i0,i0,i0,i0,.ns,.ns,i0,i0,i0,i0,i0,i0,(.s []),.ns,.ns,i0])] [0])
 (.seq (.region [Of 5 1 0,
 Ld 6 5,
 Of 7 1 1,
 Ld 8 7,
 Of 9 1 2,
 Ld 10 9,
 Of 11 1 3,
 Ld 12 11,
 Of 13 1 6,
 Ld 14 13,
 Of 15 1 7,
 Ld 16 15,
 Of 17 1 15,
 Ld 18 17,
 It 19 (.build [i0,i0,i0,i0,.ns,.ns,i0,i0,i0,i0,i0,i0,(.s []),.ns,.ns,i0] [(0,1,(.t 6)),(1,1,(.t 8)),(2,1,(.t 10)),(3,1,(.t 12)),(6,1,(.t 14)),(7,1,(.t 16)),(15,1,(.t 18))]),
 It 3 (.alloc [i0,i0,i0,i0,.ns,.ns,i0,i0,i0,i0,i0,i0,(.s []),.ns,.ns,i0]),
 Ss 16 3 19] [5,6,7,8,9,10,11,12,13,14,15,16,17,18,19])
 (.seq (.seq (.region [It 4 (.mov (.c i0))] [])
 (.block 0
 (.loop L40a)))
 (.seq (.region [Of 64 1 5,
 Ld 65 64,
 It 66 (.call 51 [(.t 65)]),
 Of 67 3 5,
 Ss 1 67 66] [4,24,64,65,66,67])
 (.seq (.region [Of 68 1 8,
 Of 69 68 0,
 Ld 70 69,
 Of 71 1 8,
 Of 72 71 1,
 Ld 73 72,
 Of 74 1 8,
 Of 75 74 2,
 Lm 76 5 75,
 It 77 (.build [i0,i0,i0,i0,(.s []),.ns,.ns] [(0,1,(.t 70)),(1,1,(.t 73)),(2,5,(.t 76))]),
 Of 78 3 8,
 Ss 7 78 77] [1,68,69,70,71,72,73,74,75,76,77,78])
 (.seq (.region [Lm 79 16 3,
 Ss 16 2 79] [3,79])
 .ret)))))),
    80,1,[.c 2 (some 16)],2⟩
theorem tr40:trFunc Tryd.prog (hz [(5,[0,1,2,3,4,5,6,7,8,9,10,11,12,13,14,15,16,17,18,19,21,22,23,24,25,26,27,28,29,30,31,32,20,33,34,35,36,37])] I40.body) 1 Tryd.f40=some (plain1 I40):=by kernel_rfl
theorem ck40:ckC 2 I40.body=true:=by kernel_rfl
def I41:IFunc :=
  ⟨(.seq (.region [It 1 (.box (.t 0)),
 It 2 (.mov (.c (.b false)))] [0,2])
 (.seq (.seq (.region [Of 3 1 0,
 Ld 4 3] [3])
 (.block 0
 (.seq (.region [It 6 (.bin .eql (.t 4) (.c i0)),
 Mv 5 6] [6])
 (.cond (.t 5)
 (.seq (.region [Of 7 1 1,
 Ld 8 7,
 It 9 (.bin .eql (.t 8) (.c i0)),
 Mv 10 9,
 Ig 11 10 true (.build [(.b false),(.b false),(.b false)] []),
 Ig 12 10 true (.load (some 5) (.t 1)),
 Ig 13 10 true (.call 52 [(.t 11),(.t 12)]),
 It 14 (.pick (.t 10) (.t 13) (.c (.b false))),
 Mv 2 14] [1,4,5,7,8,9,10,11,12,13,14])
 .ret)
 (.seq (.region [It 16 (.bin .eql (.t 4) (.c (.i .i64 1))),
 Mv 15 16] [5,16])
 (.cond (.t 15)
 (.seq (.region [It 17 (.build [(.b false),(.b false),(.b false)] []),
 Lm 18 5 1,
 It 19 (.call 52 [(.t 17),(.t 18)]),
 Mv 2 19] [1,4,15,17,18,19])
 .ret)
 (.seq (.region [It 21 (.bin .eql (.t 4) (.c (.i .i64 2))),
 Mv 20 21] [15,21])
 (.cond (.t 20)
 (.seq (.region [Of 22 1 1,
 Ld 23 22,
 It 24 (.bin .andNot (.t 23) (.c (.i .i64 1))),
 It 25 (.bin .eql (.t 24) (.c i0)),
 Mv 26 25,
 Ig 27 26 true (.build [(.b false),(.b false),(.b false)] []),
 Ig 28 26 true (.load (some 5) (.t 1)),
 Ig 29 26 true (.call 52 [(.t 27),(.t 28)]),
 It 30 (.pick (.t 26) (.t 29) (.c (.b false))),
 Mv 2 30] [1,4,20,22,23,24,25,26,27,28,29,30])
 .ret)
 (.seq (.region [It 32 (.bin .eql (.t 4) (.c (.i .i64 6))),
 Mv 31 32] [20,32])
 (.cond (.t 31)
 (.seq (.region [Of 33 1 1,
 Ld 34 33,
 It 35 (.bin .geq (.t 34) (.c (.i .i64 1))),
 Mv 36 35,
 Ig 37 36 true (.off (.t 1) 1),
 Ig 38 36 true (.load none (.t 37)),
 Ig 39 36 true (.bin .leq (.t 38) (.c (.i .i64 64))),
 It 40 (.pick (.t 36) (.t 39) (.c (.b false))),
 Mv 41 40,
 Ig 42 41 true (.build [(.b false),(.b false),(.b false)] []),
 Ig 43 41 true (.load (some 5) (.t 1)),
 Ig 44 41 true (.call 52 [(.t 42),(.t 43)]),
 It 45 (.pick (.t 41) (.t 44) (.c (.b false))),
 Mv 2 45] [1,4,31,33,34,35,36,37,38,39,40,41,42,43,44,45])
 .ret)
 (.seq (.region [It 47 (.bin .eql (.t 4) (.c (.i .i64 3))),
 Mv 46 47] [31,47])
 (.cond (.t 46)
 (.seq (.region [Of 48 1 1,
 Ld 49 48,
 It 50 (.bin .eql (.t 49) (.c i0)),
 Mv 51 50,
 Ig 52 51 true (.off (.t 1) 2),
 Ig 53 51 true (.load none (.t 52)),
 Ig 54 51 true (.lenk 1 (.t 53)),
 Ig 55 51 true (.bin .leq (.t 54) (.c (.i .i64 64))),
 It 56 (.pick (.t 51) (.t 55) (.c (.b false))),
 Mv 57 56,
 Ig 58 57 true (.build [(.b false),(.b false),(.b false)] [(0,1,(.c (.b true)))]),
 Ig 59 57 true (.load (some 5) (.t 1)),
 Ig 60 57 true (.call 52 [(.t 58),(.t 59)]),
 It 61 (.pick (.t 57) (.t 60) (.c (.b false))),
 Mv 2 61] [1,4,46,48,49,50,51,52,53,54,55,56,57,58,59,60,61])
 .ret)
 (.seq (.region [It 63 (.bin .eql (.t 4) (.c (.i .i64 4))),
 Mv 62 63] [46,63])
 (.cond (.t 62)
 (.seq (.region [Of 64 1 1,
 Ld 65 64,
 It 66 (.bin .eql (.t 65) (.c i0)),
 Mv 67 66,
 Ig 68 67 true (.off (.t 1) 3),
 Ig 69 67 true (.load none (.t 68)),
 Ig 70 67 true (.lenk 0 (.t 69)),
 Ig 71 67 true (.bin .leq (.t 70) (.c (.i .i64 32))),
 It 72 (.pick (.t 67) (.t 71) (.c (.b false))),
 Mv 73 72,
 Ig 74 73 true (.build [(.b false),(.b false),(.b false)] [(1,1,(.c (.b true)))]),
 Ig 75 73 true (.load (some 5) (.t 1)),
 Ig 76 73 true (.call 52 [(.t 74),(.t 75)]),
 It 77 (.pick (.t 73) (.t 76) (.c (.b false))),
 Mv 2 77] [1,4,62,64,65,66,67,68,69,70,71,72,73,74,75,76,77])
 .ret)
 (.seq (.region [It 79 (.bin .eql (.t 4) (.c (.i .i64 5))),
 Mv 78 79] [4,62,79])
 (.cond (.t 78)
 (.seq (.region [Of 80 1 1,
 Ld 81 80,
 It 82 (.bin .eql (.t 81) (.c i0)),
 Mv 83 82,
 Ig 84 83 true (.off (.t 1) 3),
 Ig 85 83 true (.load none (.t 84)),
 Ig 86 83 true (.lenk 0 (.t 85)),
 Ig 87 83 true (.off (.t 1) 4),
 Ig 88 83 true (.load none (.t 87)),
 Ig 89 83 true (.lenk 0 (.t 88)),
 Ig 90 83 true (.bin .eql (.t 86) (.t 89)),
 It 91 (.pick (.t 83) (.t 90) (.c (.b false))),
 Mv 92 91,
 Ig 93 92 true (.off (.t 1) 3),
 Ig 94 92 true (.load none (.t 93)),
 Ig 95 92 true (.lenk 0 (.t 94)),
 Ig 96 92 true (.bin .leq (.t 95) (.c (.i .i64 8))),
 It 97 (.pick (.t 92) (.t 96) (.c (.b false))),
 Mv 98 97,
 Ig 99 98 true (.build [(.b false),(.b false),(.b false)] [(1,1,(.c (.b true))),(2,1,(.c (.b true)))]),
 Ig 100 98 true (.load (some 5) (.t 1)),
 Ig 101 98 true (.call 52 [(.t 99),(.t 100)]),
 It 102 (.pick (.t 98) (.t 101) (.c (.b false))),
 Mv 103 102,
 Ig 104 103 true (.off (.t 1) 4),
 Ig 105 103 true (.load none (.t 104)),
 Ig 106 103 true (.call 53 [(.t 105)]),
 It 107 (.pick (.t 103) (.t 106) (.c (.b false))),
 Mv 2 107] [1,78,80,81,82,83,84,85,86,87,88,89,90,91,92,93,94,95,96,97,98,99,100,101,102,103,104,105,106,107])
 .ret)
 (.region [] [1,78])))))))))))))))))
 (.seq (.region [It 2 (.mov (.c (.b false)))] [])
 .ret))),
    108,1,[.t 2],2⟩
theorem tr41:trFunc Tryd.prog (hz [] I41.body) 1 Tryd.f41=some (plain1 I41):=by kernel_rfl
theorem ck41:ckC 2 I41.body=true:=by kernel_rfl
def I42:IFunc :=
  ⟨(.seq (.region [It 1 (.box (.t 0)),
 It 2 (.mov (.c (.b false)))] [0,2])
 (.seq (.seq (.region [Of 3 1 0,
 Ld 4 3] [3])
 (.block 0
 (.seq (.region [It 6 (.bin .eql (.t 4) (.c i0)),
 Mv 5 6] [6])
 (.cond (.t 5)
 (.seq (.region [Of 7 1 1,
 Ld 8 7,
 It 9 (.bin .eql (.t 8) (.c i0)),
 Mv 10 9,
 Ig 11 10 true (.off (.t 1) 2),
 Ig 12 10 true (.load none (.t 11)),
 Ig 13 10 true (.bin .eql (.t 12) (.c (.s []))),
 It 14 (.pick (.t 10) (.t 13) (.c (.b false))),
 Mv 15 14,
 Ig 16 15 true (.off (.t 1) 3),
 Ig 17 15 true (.load none (.t 16)),
 Ig 18 15 true (.lenk 0 (.t 17)),
 Ig 19 15 true (.bin .eql (.t 18) (.c i0)),
 It 20 (.pick (.t 15) (.t 19) (.c (.b false))),
 Mv 21 20,
 Ig 22 21 true (.off (.t 1) 4),
 Ig 23 21 true (.load none (.t 22)),
 Ig 24 21 true (.lenk 0 (.t 23)),
 Ig 25 21 true (.bin .eql (.t 24) (.c i0)),
 It 26 (.pick (.t 21) (.t 25) (.c (.b false))),
 Mv 2 26] [1,4,5,7,8,9,10,11,12,13,14,15,16,17,18,19,20,21,22,23,24,25,26])
 .ret)
 (.seq (.region [It 28 (.bin .eql (.t 4) (.c (.i .i64 1))),
 Mv 27 28] [5,28])
 (.cond (.t 27)
 (.seq (.region [Of 29 1 2,
 Ld 30 29,
 It 31 (.bin .eql (.t 30) (.c (.s []))),
 Mv 32 31,
 Ig 33 32 true (.off (.t 1) 3),
 Ig 34 32 true (.load none (.t 33)),
 Ig 35 32 true (.lenk 0 (.t 34)),
 Ig 36 32 true (.bin .eql (.t 35) (.c i0)),
 It 37 (.pick (.t 32) (.t 36) (.c (.b false))),
 Mv 38 37,
 Ig 39 38 true (.off (.t 1) 4),
 Ig 40 38 true (.load none (.t 39)),
 Ig 41 38 true (.lenk 0 (.t 40)),
 Ig 42 38 true (.bin .eql (.t 41) (.c i0)),
 It 43 (.pick (.t 38) (.t 42) (.c (.b false))),
 Mv 2 43] [1,4,27,29,30,31,32,33,34,35,36,37,38,39,40,41,42,43])
 .ret)
 (.seq (.region [It 45 (.bin .eql (.t 4) (.c (.i .i64 2))),
 Mv 44 45] [27,45])
 (.cond (.t 44)
 (.seq (.region [Of 46 1 1,
 Ld 47 46,
 It 48 (.bin .eql (.t 47) (.c i0)),
 Mv 49 48,
 Ig 50 49 false (.off (.t 1) 1),
 Ig 51 49 false (.load none (.t 50)),
 Ig 52 49 false (.bin .eql (.t 51) (.c (.i .i64 1))),
 It 53 (.pick (.t 49) (.c (.b true)) (.t 52)),
 Mv 54 53,
 Ig 55 54 true (.off (.t 1) 2),
 Ig 56 54 true (.load none (.t 55)),
 Ig 57 54 true (.bin .eql (.t 56) (.c (.s []))),
 It 58 (.pick (.t 54) (.t 57) (.c (.b false))),
 Mv 59 58,
 Ig 60 59 true (.off (.t 1) 3),
 Ig 61 59 true (.load none (.t 60)),
 Ig 62 59 true (.lenk 0 (.t 61)),
 Ig 63 59 true (.bin .eql (.t 62) (.c i0)),
 It 64 (.pick (.t 59) (.t 63) (.c (.b false))),
 Mv 65 64,
 Ig 66 65 true (.off (.t 1) 4),
 Ig 67 65 true (.load none (.t 66)),
 Ig 68 65 true (.lenk 0 (.t 67)),
 Ig 69 65 true (.bin .eql (.t 68) (.c i0)),
 It 70 (.pick (.t 65) (.t 69) (.c (.b false))),
 Mv 2 70] [1,4,44,46,47,48,49,50,51,52,53,54,55,56,57,58,59,60,61,62,63,64,65,66,67,68,69,70])
 .ret)
 (.seq (.region [It 72 (.bin .eql (.t 4) (.c (.i .i64 3))),
 Mv 71 72] [44,72])
 (.cond (.t 71)
 (.seq (.region [Of 73 1 1,
 Ld 74 73,
 It 75 (.bin .eql (.t 74) (.c i0)),
 Mv 76 75,
 Ig 77 76 true (.off (.t 1) 2),
 Ig 78 76 true (.load none (.t 77)),
 Ig 79 76 true (.lenk 1 (.t 78)),
 Ig 80 76 true (.bin .leq (.t 79) (.c (.i .i64 64))),
 It 81 (.pick (.t 76) (.t 80) (.c (.b false))),
 Mv 82 81,
 Ig 83 82 true (.off (.t 1) 3),
 Ig 84 82 true (.load none (.t 83)),
 Ig 85 82 true (.lenk 0 (.t 84)),
 Ig 86 82 true (.bin .eql (.t 85) (.c i0)),
 It 87 (.pick (.t 82) (.t 86) (.c (.b false))),
 Mv 88 87,
 Ig 89 88 true (.off (.t 1) 4),
 Ig 90 88 true (.load none (.t 89)),
 Ig 91 88 true (.lenk 0 (.t 90)),
 Ig 92 88 true (.bin .eql (.t 91) (.c i0)),
 It 93 (.pick (.t 88) (.t 92) (.c (.b false))),
 Mv 2 93] [1,4,71,73,74,75,76,77,78,79,80,81,82,83,84,85,86,87,88,89,90,91,92,93])
 .ret)
 (.seq (.region [It 95 (.bin .eql (.t 4) (.c (.i .i64 4))),
 Mv 94 95] [71,95])
 (.cond (.t 94)
 (.seq (.region [Of 96 1 1,
 Ld 97 96,
 It 98 (.bin .eql (.t 97) (.c i0)),
 Mv 99 98,
 Ig 100 99 true (.off (.t 1) 2),
 Ig 101 99 true (.load none (.t 100)),
 Ig 102 99 true (.bin .eql (.t 101) (.c (.s []))),
 It 103 (.pick (.t 99) (.t 102) (.c (.b false))),
 Mv 104 103,
 Ig 105 104 true (.off (.t 1) 3),
 Ig 106 104 true (.load none (.t 105)),
 Ig 107 104 true (.lenk 0 (.t 106)),
 Ig 108 104 true (.bin .leq (.t 107) (.c (.i .i64 32))),
 It 109 (.pick (.t 104) (.t 108) (.c (.b false))),
 Mv 110 109,
 Ig 111 110 true (.off (.t 1) 4),
 Ig 112 110 true (.load none (.t 111)),
 Ig 113 110 true (.lenk 0 (.t 112)),
 Ig 114 110 true (.bin .eql (.t 113) (.c i0)),
 It 115 (.pick (.t 110) (.t 114) (.c (.b false))),
 Mv 2 115] [1,4,94,96,97,98,99,100,101,102,103,104,105,106,107,108,109,110,111,112,113,114,115])
 .ret)
 (.seq (.region [It 117 (.bin .eql (.t 4) (.c (.i .i64 5))),
 Mv 116 117] [94,117])
 (.cond (.t 116)
 (.seq (.region [Of 118 1 1,
 Ld 119 118,
 It 120 (.bin .eql (.t 119) (.c i0)),
 Mv 121 120,
 Ig 122 121 true (.off (.t 1) 2),
 Ig 123 121 true (.load none (.t 122)),
 Ig 124 121 true (.bin .eql (.t 123) (.c (.s []))),
 It 125 (.pick (.t 121) (.t 124) (.c (.b false))),
 Mv 126 125,
 Ig 127 126 true (.off (.t 1) 3),
 Ig 128 126 true (.load none (.t 127)),
 Ig 129 126 true (.lenk 0 (.t 128)),
 Ig 130 126 true (.off (.t 1) 4),
 Ig 131 126 true (.load none (.t 130)),
 Ig 132 126 true (.lenk 0 (.t 131)),
 Ig 133 126 true (.bin .eql (.t 129) (.t 132)),
 It 134 (.pick (.t 126) (.t 133) (.c (.b false))),
 Mv 135 134,
 Ig 136 135 true (.off (.t 1) 3),
 Ig 137 135 true (.load none (.t 136)),
 Ig 138 135 true (.lenk 0 (.t 137)),
 Ig 139 135 true (.bin .leq (.t 138) (.c (.i .i64 8))),
 It 140 (.pick (.t 135) (.t 139) (.c (.b false))),
 Mv 141 140,
 Ig 142 141 true (.off (.t 1) 4),
 Ig 143 141 true (.load none (.t 142)),
 Ig 144 141 true (.call 54 [(.t 143)]),
 It 145 (.pick (.t 141) (.t 144) (.c (.b false))),
 Mv 2 145] [1,4,116,118,119,120,121,122,123,124,125,126,127,128,129,130,131,132,133,134,135,136,137,138,139,140,141,142,143,144,145])
 .ret)
 (.seq (.region [It 147 (.bin .eql (.t 4) (.c (.i .i64 6))),
 Mv 146 147] [4,116,147])
 (.cond (.t 146)
 (.seq (.region [Of 148 1 1,
 Ld 149 148,
 It 150 (.bin .geq (.t 149) (.c (.i .i64 1))),
 Mv 151 150,
 Ig 152 151 true (.off (.t 1) 1),
 Ig 153 151 true (.load none (.t 152)),
 Ig 154 151 true (.bin .leq (.t 153) (.c (.i .i64 64))),
 It 155 (.pick (.t 151) (.t 154) (.c (.b false))),
 Mv 156 155,
 Ig 157 156 true (.off (.t 1) 2),
 Ig 158 156 true (.load none (.t 157)),
 Ig 159 156 true (.bin .eql (.t 158) (.c (.s []))),
 It 160 (.pick (.t 156) (.t 159) (.c (.b false))),
 Mv 161 160,
 Ig 162 161 true (.off (.t 1) 3),
 Ig 163 161 true (.load none (.t 162)),
 Ig 164 161 true (.lenk 0 (.t 163)),
 Ig 165 161 true (.bin .eql (.t 164) (.c i0)),
 It 166 (.pick (.t 161) (.t 165) (.c (.b false))),
 Mv 167 166,
 Ig 168 167 true (.off (.t 1) 4),
 Ig 169 167 true (.load none (.t 168)),
 Ig 170 167 true (.lenk 0 (.t 169)),
 Ig 171 167 true (.bin .eql (.t 170) (.c i0)),
 It 172 (.pick (.t 167) (.t 171) (.c (.b false))),
 Mv 2 172] [1,146,148,149,150,151,152,153,154,155,156,157,158,159,160,161,162,163,164,165,166,167,168,169,170,171,172])
 .ret)
 (.region [] [1,146])))))))))))))))))
 (.seq (.region [It 2 (.mov (.c (.b false)))] [])
 .ret))),
    173,1,[.t 2],2⟩
theorem tr42:trFunc Tryd.prog (hz [] I42.body) 1 Tryd.f42=some (plain1 I42):=by kernel_rfl
theorem ck42:ckC 2 I42.body=true:=by kernel_rfl
def I43:IFunc :=
  ⟨(.seq (.region [It 4 (.mov (.c i0))] [4])
 (.seq (.seq (.region [Mv 5 0,
 Mv 6 1,
 It 7 (.bin .lss (.t 5) (.t 6))] [5,6])
 (.cond (.t 7)
 (.seq (.region [It 4 (.mov (.c (.i .i64 (-1))))] [0,1,7])
 .ret)
 (.region [] [7])))
 (.seq (.seq (.region [Mv 8 0,
 Mv 9 1,
 It 10 (.bin .gtr (.t 8) (.t 9))] [0,1,8,9])
 (.cond (.t 10)
 (.seq (.region [It 4 (.mov (.c (.i .i64 1)))] [10])
 .ret)
 (.region [] [10])))
 (.seq (.region [It 4 (.mov (.c i0))] [])
 .ret)))),
    11,2,[.t 4],2⟩
theorem tr43:trFunc Tryd.prog (hz [] I43.body) 1 Tryd.f43=some (plain1 I43):=by kernel_rfl
theorem ck43:ckC 2 I43.body=true:=by kernel_rfl
def I44:IFunc :=
  ⟨(.seq (.region [It 4 (.mov (.c i0))] [4])
 (.seq (.seq (.region [Mv 5 0,
 Mv 6 1,
 It 7 (.bin .lss (.t 5) (.t 6))] [5,6])
 (.cond (.t 7)
 (.seq (.region [It 4 (.mov (.c (.i .i64 (-1))))] [0,1,7])
 .ret)
 (.region [] [7])))
 (.seq (.seq (.region [Mv 8 0,
 Mv 9 1,
 It 10 (.bin .gtr (.t 8) (.t 9))] [0,1,8,9])
 (.cond (.t 10)
 (.seq (.region [It 4 (.mov (.c (.i .i64 1)))] [10])
 .ret)
 (.region [] [10])))
 (.seq (.region [It 4 (.mov (.c i0))] [])
 .ret)))),
    11,2,[.t 4],2⟩
theorem tr44:trFunc Tryd.prog (hz [] I44.body) 1 Tryd.f44=some (plain1 I44):=by kernel_rfl
theorem ck44:ckC 2 I44.body=true:=by kernel_rfl
def L45a:ICode :=
  (.seq (.region [It 26 (.bin .lss (.t 25) (.t 24))] [])
 (.seq (.cond (.t 26)
 (.region [] [26])
 (.exit 0))
 (.seq (.block 1
 (.seq (.region [Ia 27 1 23 25,
 Ld 28 27,
 Mv 4 28] [27,28])
 (.seq (.region [Mv 29 4,
 It 30 (.bin .lss (.t 29) (.c i0))] [4,29])
 (.cond (.t 30)
 (.seq (.region [It 2 (.mov (.c (.i .i64 2)))] [1,23,24,25,30])
 .ret)
 (.region [] [30])))))
 (.region [It 31 (.bin .add (.t 25) (.c (.i .i64 1))),
 Mv 25 31] [31]))))
def L45b:ICode :=
  (.seq (.region [It 69 (.bin .lss (.t 68) (.t 67))] [])
 (.seq (.cond (.t 69)
 (.region [] [69])
 (.exit 2))
 (.seq (.block 3
 (.seq (.region [Mv 70 68,
 Ia 71 5 66 68,
 Lm 72 5 71,
 It 6 (.alloc [i0,i0,.ns,(.s []),.ns]),
 Mv 5 70,
 Ss 5 6 72] [70,71,72])
 (.seq (.region [Lm 73 5 6,
 Of 74 1 3,
 Ld 75 74,
 Mv 76 5,
 It 77 (.call 55 [(.t 73),(.t 75),(.t 76)]),
 It 78 (.un .not (.t 77))] [6,5,73,74,75,76,77])
 (.cond (.t 78)
 (.seq (.region [It 2 (.mov (.c (.i .i64 2)))] [1,66,67,68,78])
 .ret)
 (.region [] [78])))))
 (.region [It 79 (.bin .add (.t 68) (.c (.i .i64 1))),
 Mv 68 79] [79]))))
def I45:IFunc :=
  ⟨(.seq (.region [It 1 (.box (.t 0)),
 It 2 (.mov (.c i0))] [0,2])
 (.seq (.seq (.region [Of 9 1 0,
 Ld 10 9,
 Of 11 1 1,
 Ld 12 11,
 Of 13 1 2,
 Ld 14 13,
 Of 15 1 3,
 Ld 16 15,
 Of 17 1 15,
 Ld 18 17,
 Of 19 1 6,
 Ld 20 19,
 Of 21 1 7,
 Ld 22 21,
 It 23 (.bsl 1 7 [i0,i0,i0,i0,i0,i0,i0] [(0,1,(.t 10)),(1,1,(.t 12)),(2,1,(.t 14)),(3,1,(.t 16)),(4,1,(.t 18)),(5,1,(.t 20)),(6,1,(.t 22))]),
 Le 24 23,
 It 25 (.mov (.c i0))] [9,10,11,12,13,14,15,16,17,18,19,20,21,22])
 (.block 0
 (.loop L45a)))
 (.seq (.seq (.region [Of 32 1 0,
 Ld 33 32,
 Of 34 1 1,
 Ld 35 34,
 Of 36 1 2,
 Ld 37 36,
 It 38 (.mm true (.t 33) [(.t 35),(.t 37)]),
 It 39 (.bin .gtr (.t 38) (.c (.i .i64 9007199254740991)))] [23,24,25,26,32,33,34,35,36,37,38])
 (.cond (.t 39)
 (.seq (.region [It 2 (.mov (.c (.i .i64 2)))] [1,39])
 .ret)
 (.region [] [39])))
 (.seq (.seq (.region [Of 40 1 3,
 Ld 41 40,
 It 42 (.bin .gtr (.t 41) (.c (.i .i64 64))),
 Mv 43 42,
 Ig 44 43 false (.off (.t 1) 15),
 Ig 45 43 false (.load none (.t 44)),
 Ig 46 43 false (.bin .gtr (.t 45) (.c (.i .i64 1))),
 It 47 (.pick (.t 43) (.c (.b true)) (.t 46)),
 Mv 48 47,
 Ig 49 48 false (.off (.t 1) 6),
 Ig 50 48 false (.load none (.t 49)),
 Ig 51 48 false (.bin .gtr (.t 50) (.c (.i .i64 3))),
 It 52 (.pick (.t 48) (.c (.b true)) (.t 51)),
 Mv 53 52,
 Ig 54 53 false (.off (.t 1) 4),
 Ig 55 53 false (.load none (.t 54)),
 Ig 56 53 false (.lenk 0 (.t 55)),
 Ig 57 53 false (.bin .gtr (.t 56) (.c (.i .i64 4096))),
 It 58 (.pick (.t 53) (.c (.b true)) (.t 57)),
 Mv 59 58,
 Ig 60 59 false (.off (.t 1) 5),
 Ig 61 59 false (.load none (.t 60)),
 Ig 62 59 false (.lenk 0 (.t 61)),
 Ig 63 59 false (.bin .gtr (.t 62) (.c (.i .i64 64))),
 It 64 (.pick (.t 59) (.c (.b true)) (.t 63))] [40,41,42,43,44,45,46,47,48,49,50,51,52,53,54,55,56,57,58,59,60,61,62,63])
 (.cond (.t 64)
 (.seq (.region [It 2 (.mov (.c (.i .i64 2)))] [1,64])
 .ret)
 (.region [] [64])))
 (.seq (.seq (.region [Of 65 1 4,
 Ld 66 65,
 Le 67 66,
 It 68 (.mov (.c i0))] [65])
 (.block 2
 (.loop L45b)))
 (.seq (.region [Of 80 1 6,
 Ld 81 80,
 It 82 (.bin .eql (.t 81) (.c (.i .i64 2))),
 Mv 83 82,
 Ig 84 83 true (.off (.t 1) 8),
 Ig 85 83 true (.load (some 7) (.t 84)),
 Ig 86 83 true (.off (.t 1) 3),
 Ig 87 83 true (.load none (.t 86)),
 Ig 88 83 true (.off (.t 1) 4),
 Ig 89 83 true (.load none (.t 88)),
 Ig 90 83 true (.lenk 0 (.t 89)),
 Ig 91 83 true (.call 56 [(.t 85),(.t 87),(.t 90)]),
 It 92 (.pick (.t 83) (.t 91) (.c (.b false))),
 Mv 7 92] [66,67,68,69,80,81,82,83,84,85,86,87,88,89,90,91,92])
 (.seq (.region [Of 93 1 6,
 Ld 94 93,
 It 95 (.bin .neq (.t 94) (.c (.i .i64 2))),
 Mv 96 95,
 Ig 97 96 true (.off (.t 1) 8),
 Ig 98 96 true (.off (.t 97) 0),
 Ig 99 96 true (.load none (.t 98)),
 Ig 100 96 true (.bin .eql (.t 99) (.c i0)),
 It 101 (.pick (.t 96) (.t 100) (.c (.b false))),
 Mv 102 101,
 Ig 103 102 true (.off (.t 1) 8),
 Ig 104 102 true (.off (.t 103) 1),
 Ig 105 102 true (.load none (.t 104)),
 Ig 106 102 true (.bin .eql (.t 105) (.c i0)),
 It 107 (.pick (.t 102) (.t 106) (.c (.b false))),
 Mv 108 107,
 Ig 109 108 true (.off (.t 1) 8),
 Ig 110 108 true (.off (.t 109) 2),
 Ig 111 108 true (.load (some 5) (.t 110)),
 Ig 112 108 true (.call 57 [(.t 111)]),
 It 113 (.pick (.t 108) (.t 112) (.c (.b false))),
 Mv 8 113] [93,94,95,96,97,98,99,100,101,102,103,104,105,106,107,108,109,110,111,112,113])
 (.seq (.seq (.region [Mv 114 7,
 It 115 (.un .not (.t 114)),
 Mv 116 115,
 Ig 117 116 true (.mov (.t 8)),
 Ig 118 116 true (.un .not (.t 117)),
 It 119 (.pick (.t 116) (.t 118) (.c (.b false))),
 Mv 120 119,
 Ig 121 120 false (.off (.t 1) 5),
 Ig 122 120 false (.load none (.t 121)),
 Ig 123 120 false (.off (.t 1) 3),
 Ig 124 120 false (.load none (.t 123)),
 Ig 125 120 false (.off (.t 1) 4),
 Ig 126 120 false (.load none (.t 125)),
 Ig 127 120 false (.lenk 0 (.t 126)),
 Ig 128 120 false (.call 58 [(.t 122),(.t 124),(.t 127)]),
 Ig 129 120 false (.un .not (.t 128)),
 It 130 (.pick (.t 120) (.c (.b true)) (.t 129))] [1,7,8,114,115,116,117,118,119,120,121,122,123,124,125,126,127,128,129])
 (.cond (.t 130)
 (.seq (.region [It 2 (.mov (.c (.i .i64 2)))] [130])
 .ret)
 (.region [] [130])))
 (.seq (.region [It 2 (.mov (.c i0))] [])
 .ret))))))))),
    131,1,[.t 2],2⟩
theorem tr45:trFunc Tryd.prog (hz [] I45.body) 1 Tryd.f45=some (plain1 I45):=by kernel_rfl
theorem ck45:ckC 2 I45.body=true:=by kernel_rfl
def L46a:ICode :=
  (.seq (.region [It 30 (.bin .lss (.t 29) (.t 28))] [])
 (.seq (.cond (.t 30)
 (.region [] [30])
 (.exit 0))
 (.seq (.block 1
 (.seq (.region [Ia 31 7 27 29,
 Lm 32 7 31,
 It 8 (.alloc [i0,i0,i0,i0,(.s []),.ns,.ns]),
 Ss 7 8 32] [31,32])
 (.region [Ld 33 2,
 Lm 34 7 8,
 Ld 35 5,
 It 36 (.call 61 [(.t 33),(.t 34),(.t 35)])] [8,33,34,35,36])))
 (.region [It 37 (.bin .add (.t 29) (.c (.i .i64 1))),
 Mv 29 37] [37]))))
def I46:IFunc :=
  ⟨(.seq (.region [It 2 (.box (.t 0)),
 It 3 (.box (.t 1))] [0,1])
 (.seq (.region [Ld 9 2,
 Of 10 3 2,
 Ld 11 10,
 Of 13 3 4,
 Ld 14 13,
 ⟨(some 12),(.call 47 [(.t 9),(.t 11)]),none,[(14,(.load none (.t 13)),none)]⟩,
 Of 16 3 2,
 It 15 (.call 59 [(.t 14)]),
 Ss 1 16 12,
 Of 17 3 4,
 Ss 1 17 15] [9,10,11,13,14,12,16,15,17])
 (.seq (.seq (.region [Of 19 3 0,
 Ld 20 19,
 It 21 (.call 60 [(.t 20)]),
 Mv 18 21,
 Ex 22 18 0,
 Ex 23 18 1,
 Ex 24 18 2,
 It 5 (.alloc [i0]),
 Mv 4 22,
 Ss 1 5 23,
 Mv 6 24] [19,20,21,18,22,23,24])
 (.seq (.region [Mv 25 6] [6])
 (.cond (.t 25)
 (.seq (.seq (.region [Of 26 3 2,
 Ld 27 26,
 Le 28 27,
 It 29 (.mov (.c i0))] [25,26])
 (.block 0
 (.loop L46a)))
 (.seq (.region [Of 38 3 2,
 Ld 39 38,
 It 40 (.mkf 63 [] [(.t 2),(.t 5)]),
 It 41 (.call 62 [(.t 39),(.t 40)]),
 It 42 (.un .not (.t 41))] [5,27,28,29,30,38,39,40,41])
 (.cond (.t 42)
 (.region [Mv 43 4,
 Of 44 3 0,
 Ss 1 44 43] [4,42,43,44])
 (.region [] [4,42]))))
 (.region [] [5,4,25]))))
 (.seq (.seq (.region [Of 45 3 0,
 Ld 46 45,
 It 47 (.bin .eql (.t 46) (.c (.i .i64 40))),
 Mv 48 47,
 Ig 49 48 true (.off (.t 3) 2),
 Ig 50 48 true (.load none (.t 49)),
 Ig 51 48 true (.iaddr 7 (.t 50) (.c i0)),
 Ig 52 48 true (.off (.t 51) 0),
 Ig 53 48 true (.load none (.t 52)),
 Ig 54 48 true (.bin .eql (.t 53) (.c (.i .i64 1))),
 It 55 (.pick (.t 48) (.t 54) (.c (.b false)))] [45,46,47,48,49,50,51,52,53,54])
 (.cond (.t 55)
 (.region [Ld 56 2,
 It 57 (.nck (.t 56)),
 Of 58 57 1,
 Ld 59 58,
 Of 60 3 2,
 Ld 61 60,
 It 62 (.iaddr 7 (.t 61) (.c i0)),
 Of 63 62 1,
 Ld 64 63,
 Of 65 3 1,
 Ld 66 65,
 Ia 67 1 59 64,
 Ss 1 67 66] [55,56,57,58,59,60,61,62,63,64,65,66,67])
 (.region [] [55])))
 (.seq (.region [Ld 68 2,
 Ld 69 2,
 It 70 (.nck (.t 69)),
 Of 71 70 3,
 Ld 72 71,
 Ld 73 2,
 It 74 (.nck (.t 73)),
 Of 75 74 0,
 Ld 76 75,
 Le 77 76,
 It 78 (.bsl 1 1 [i0] [(0,1,(.t 77))]),
 ⟨(some 79),(.app 1 8 (.t 72) (.t 78)),none,[(68,(.load none (.t 2)),none)]⟩,
 It 80 (.nck (.t 68)),
 Of 81 80 3,
 Ss 1 81 79] [68,69,70,71,72,73,74,75,76,77,78,79,80,81])
 (.region [Ld 82 2,
 Ld 83 2,
 It 84 (.nck (.t 83)),
 Of 85 84 0,
 Ld 86 85,
 Lm 87 5 3,
 It 88 (.bsl 5 1 [i0,i0,.ns,(.s []),.ns] [(0,5,(.t 87))]),
 ⟨(some 89),(.app 5 80 (.t 86) (.t 88)),none,[(82,(.load none (.t 2)),none)]⟩,
 It 90 (.nck (.t 82)),
 Of 91 90 0,
 Ss 1 91 89] [2,3,82,83,84,85,86,87,88,89,90,91])))))),
    92,2,[],0⟩
theorem tr46:trFunc Tryd.prog (hz [(1,[0,1,2,4,5,3,7,6,8,9,10]),(15,[0,1,2,3,4,5,6,7,8,9,10,11,12]),(17,[0,1,2,3,4,5,6,7,8,9,10,11,12,13,14]),(18,[0,1,2,3,4,5,6,7,8,9,10])] I46.body) 0 Tryd.f46=some (plain1 I46):=by kernel_rfl
theorem ck46:ckC 2 I46.body=true:=by kernel_rfl
def L47a:ICode :=
  (.seq (.region [It 10 (.bin .lss (.t 9) (.t 8))] [])
 (.seq (.cond (.t 10)
 (.region [] [10])
 (.exit 0))
 (.seq (.block 1
 (.seq (.region [Ia 11 7 7 9,
 Lm 12 7 11,
 It 6 (.alloc [i0,i0,i0,i0,(.s []),.ns,.ns]),
 Ss 7 6 12] [11,12])
 (.seq (.seq (.region [Of 13 6 0,
 Ld 14 13,
 It 15 (.bin .eql (.t 14) (.c (.i .i64 2)))] [13,14])
 (.cond (.t 15)
 (.region [Mv 16 0,
 It 17 (.nck (.t 16)),
 Of 18 17 3,
 Ld 19 18,
 Of 20 6 1,
 Ld 21 20,
 Ia 22 1 19 21,
 Ld 23 22,
 Of 24 6 1,
 Ss 1 24 23] [15,16,17,18,19,20,21,22,23,24])
 (.region [] [15])))
 (.seq (.region [Of 25 6 2,
 Lm 26 5 25,
 It 27 (.call 65 [(.t 26)]),
 Of 28 6 2,
 Ss 5 28 27] [25,26,27,28])
 (.region [Mv 29 4,
 Lm 30 7 6,
 It 31 (.bsl 7 1 [i0,i0,i0,i0,(.s []),.ns,.ns] [(0,7,(.t 30))]),
 It 32 (.app 7 96 (.t 29) (.t 31)),
 Mv 4 32] [6,29,30,31,32])))))
 (.region [It 33 (.bin .add (.t 9) (.c (.i .i64 1))),
 Mv 9 33] [33]))))
def I47:IFunc :=
  ⟨(.seq (.region [It 4 (.mov (.c .ns))] [])
 (.seq (.seq (.region [Mv 7 1,
 Le 8 7,
 It 9 (.mov (.c i0))] [1])
 (.block 0
 (.loop L47a)))
 (.seq (.region [Mv 34 4,
 Mv 4 34] [0,7,8,9,10,34])
 .ret))),
    35,2,[.t 4],2⟩
theorem tr47:trFunc Tryd.prog (hz [(6,[0,1,2,3,4,5,6,7,8,9])] I47.body) 1 Tryd.f47=some (plain1 I47):=by kernel_rfl
theorem ck47:ckC 2 I47.body=true:=by kernel_rfl
def I48:IFunc :=
  ⟨(.seq (.region [It 2 (.box (.t 0)),
 It 3 (.box (.t 1)),
 It 4 (.mov (.c (.b false)))] [0,1,4])
 (.seq (.region [Of 5 2 0,
 Ld 6 5,
 Of 7 3 0,
 Ld 8 7,
 It 9 (.bin .eql (.t 6) (.t 8)),
 Mv 10 9,
 Ig 11 10 true (.off (.t 2) 1),
 Ig 12 10 true (.load none (.t 11)),
 Ig 13 10 true (.off (.t 3) 1),
 Ig 14 10 true (.load none (.t 13)),
 Ig 15 10 true (.bin .eql (.t 12) (.t 14)),
 It 16 (.pick (.t 10) (.t 15) (.c (.b false))),
 Mv 17 16,
 Ig 18 17 true (.off (.t 2) 3),
 Ig 19 17 true (.load none (.t 18)),
 Ig 20 17 true (.off (.t 3) 3),
 Ig 21 17 true (.load none (.t 20)),
 Ig 22 17 true (.bin .eql (.t 19) (.t 21)),
 It 23 (.pick (.t 17) (.t 22) (.c (.b false))),
 Mv 24 23,
 Ig 25 24 true (.off (.t 2) 2),
 Ig 26 24 true (.load none (.t 25)),
 Ig 27 24 true (.off (.t 3) 2),
 Ig 28 24 true (.load none (.t 27)),
 Ig 29 24 true (.call 49 [(.t 26),(.t 28)]),
 It 30 (.pick (.t 24) (.t 29) (.c (.b false))),
 Mv 31 30,
 Ig 32 31 true (.off (.t 2) 4),
 Ig 33 31 true (.load none (.t 32)),
 Ig 34 31 true (.off (.t 3) 4),
 Ig 35 31 true (.load none (.t 34)),
 Ig 36 31 true (.call 66 [(.t 33),(.t 35)]),
 It 37 (.pick (.t 31) (.t 36) (.c (.b false))),
 Mv 4 37] [2,3,5,6,7,8,9,10,11,12,13,14,15,16,17,18,19,20,21,22,23,24,25,26,27,28,29,30,31,32,33,34,35,36,37])
 .ret)),
    38,2,[.t 4],2⟩
theorem tr48:trFunc Tryd.prog (hz [] I48.body) 1 Tryd.f48=some (plain1 I48):=by kernel_rfl
theorem ck48:ckC 2 I48.body=true:=by kernel_rfl
def L49a:ICode :=
  (.seq (.seq (.region [Mv 11 5,
 Mv 12 0,
 Le 13 12,
 It 14 (.bin .lss (.t 11) (.t 13))] [11,12,13])
 (.cond (.t 14)
 (.region [] [14])
 (.exit 0)))
 (.seq (.block 1
 (.seq (.region [Mv 17 0,
 Mv 18 5,
 Ia 19 7 17 18,
 Lm 20 7 19,
 Mv 21 1,
 Mv 22 5,
 Ia 23 7 21 22,
 Lm 24 7 23,
 It 25 (.call 50 [(.t 20),(.t 24)]),
 It 26 (.un .not (.t 25))] [17,18,19,20,21,22,23,24,25])
 (.cond (.t 26)
 (.seq (.region [It 4 (.mov (.c (.b false)))] [0,1,5,26])
 .ret)
 (.region [] [26]))))
 (.region [Mv 15 5,
 It 16 (.bin .add (.t 15) (.c (.i .i64 1))),
 Mv 5 16] [15,16])))
def I49:IFunc :=
  ⟨(.seq (.region [It 4 (.mov (.c (.b false)))] [4])
 (.seq (.seq (.region [Mv 6 0,
 Le 7 6,
 Mv 8 1,
 Le 9 8,
 It 10 (.bin .neq (.t 7) (.t 9))] [6,7,8,9])
 (.cond (.t 10)
 (.seq (.region [It 4 (.mov (.c (.b false)))] [0,1,10])
 .ret)
 (.region [] [10])))
 (.seq (.seq (.region [It 5 (.mov (.c i0))] [])
 (.block 0
 (.loop L49a)))
 (.seq (.region [It 4 (.mov (.c (.b true)))] [0,1,5,14])
 .ret)))),
    27,2,[.t 4],2⟩
theorem tr49:trFunc Tryd.prog (hz [(7,[0,1,2,3,4,5,6,7,8,9])] I49.body) 1 Tryd.f49=some (plain1 I49):=by kernel_rfl
theorem ck49:ckC 2 I49.body=true:=by kernel_rfl
def I50:IFunc :=
  ⟨(.seq (.region [It 2 (.box (.t 0)),
 It 3 (.box (.t 1)),
 It 4 (.mov (.c (.b false)))] [0,1,4])
 (.seq (.region [Of 5 2 0,
 Ld 6 5,
 Of 7 3 0,
 Ld 8 7,
 It 9 (.bin .eql (.t 6) (.t 8)),
 Mv 10 9,
 Ig 11 10 true (.off (.t 2) 1),
 Ig 12 10 true (.load none (.t 11)),
 Ig 13 10 true (.off (.t 3) 1),
 Ig 14 10 true (.load none (.t 13)),
 Ig 15 10 true (.bin .eql (.t 12) (.t 14)),
 It 16 (.pick (.t 10) (.t 15) (.c (.b false))),
 Mv 17 16,
 Ig 18 17 true (.off (.t 2) 2),
 Ig 19 17 true (.load (some 5) (.t 18)),
 Ig 20 17 true (.off (.t 3) 2),
 Ig 21 17 true (.load (some 5) (.t 20)),
 Ig 22 17 true (.call 22 [(.t 19),(.t 21)]),
 It 23 (.pick (.t 17) (.t 22) (.c (.b false))),
 Mv 4 23] [2,3,5,6,7,8,9,10,11,12,13,14,15,16,17,18,19,20,21,22,23])
 .ret)),
    24,2,[.t 4],2⟩
theorem tr50:trFunc Tryd.prog (hz [] I50.body) 1 Tryd.f50=some (plain1 I50):=by kernel_rfl
theorem ck50:ckC 2 I50.body=true:=by kernel_rfl
def L51a:ICode :=
  (.seq (.seq (.region [Mv 5 4,
 Mv 6 0,
 Le 7 6,
 It 8 (.bin .lss (.t 5) (.t 7))] [5,6,7])
 (.cond (.t 8)
 (.region [] [8])
 (.exit 0)))
 (.seq (.block 1
 (.region [Mv 11 3,
 Mv 12 0,
 Mv 13 4,
 Ia 14 7 12 13,
 Of 15 14 0,
 Ld 16 15,
 Mv 17 0,
 Mv 18 4,
 Ia 19 7 17 18,
 Of 20 19 1,
 Ld 21 20,
 Mv 22 0,
 Mv 23 4,
 Ia 24 7 22 23,
 Of 25 24 2,
 Lm 26 5 25,
 It 27 (.build [i0,i0,i0,i0,(.s []),.ns,.ns] [(0,1,(.t 16)),(1,1,(.t 21)),(2,5,(.t 26))]),
 It 28 (.bsl 7 1 [i0,i0,i0,i0,(.s []),.ns,.ns] [(0,7,(.t 27))]),
 It 29 (.app 7 96 (.t 11) (.t 28)),
 Mv 3 29] [11,12,13,14,15,16,17,18,19,20,21,22,23,24,25,26,27,28,29]))
 (.region [Mv 9 4,
 It 10 (.bin .add (.t 9) (.c (.i .i64 1))),
 Mv 4 10] [9,10])))
def I51:IFunc :=
  ⟨(.seq (.region [It 2 (.mov (.c .ns))] [2])
 (.seq (.region [It 3 (.mov (.c .ns))] [])
 (.seq (.seq (.region [It 4 (.mov (.c i0))] [])
 (.block 0
 (.loop L51a)))
 (.seq (.region [Mv 30 3,
 Mv 2 30] [0,3,4,8,30])
 .ret)))),
    31,1,[.t 2],2⟩
theorem tr51:trFunc Tryd.prog (hz [(5,[0,1,2,3,4,5,6,7,8,9,10,11,12,13,14,15,16,17,18,19])] I51.body) 1 Tryd.f51=some (plain1 I51):=by kernel_rfl
theorem ck51:ckC 2 I51.body=true:=by kernel_rfl
def I52:IFunc :=
  ⟨(.seq (.region [It 2 (.box (.t 0)),
 It 3 (.box (.t 1)),
 It 4 (.mov (.c (.b false)))] [0,1,4])
 (.seq (.region [Of 5 2 0,
 Ld 6 5,
 Mv 7 6,
 Ig 8 7 false (.off (.t 3) 2),
 Ig 9 7 false (.load none (.t 8)),
 Ig 10 7 false (.bin .eql (.t 9) (.c (.s []))),
 It 11 (.pick (.t 7) (.c (.b true)) (.t 10)),
 Mv 12 11,
 Ig 13 12 true (.off (.t 2) 1),
 Ig 14 12 true (.load none (.t 13)),
 Ig 15 12 true (.mov (.t 14)),
 Ig 16 15 false (.off (.t 3) 3),
 Ig 17 15 false (.load none (.t 16)),
 Ig 18 15 false (.lenk 0 (.t 17)),
 Ig 19 15 false (.bin .eql (.t 18) (.c i0)),
 Ig 20 12 true (.pick (.t 15) (.c (.b true)) (.t 19)),
 It 21 (.pick (.t 12) (.t 20) (.c (.b false))),
 Mv 22 21,
 Ig 23 22 true (.off (.t 2) 2),
 Ig 24 22 true (.load none (.t 23)),
 Ig 25 22 true (.mov (.t 24)),
 Ig 26 25 false (.off (.t 3) 4),
 Ig 27 25 false (.load none (.t 26)),
 Ig 28 25 false (.lenk 0 (.t 27)),
 Ig 29 25 false (.bin .eql (.t 28) (.c i0)),
 Ig 30 22 true (.pick (.t 25) (.c (.b true)) (.t 29)),
 It 31 (.pick (.t 22) (.t 30) (.c (.b false))),
 Mv 4 31] [2,3,5,6,7,8,9,10,11,12,13,14,15,16,17,18,19,20,21,22,23,24,25,26,27,28,29,30,31])
 .ret)),
    32,2,[.t 4],2⟩
theorem tr52:trFunc Tryd.prog (hz [] I52.body) 1 Tryd.f52=some (plain1 I52):=by kernel_rfl
theorem ck52:ckC 2 I52.body=true:=by kernel_rfl
def L53a:ICode :=
  (.seq (.region [It 9 (.bin .lss (.t 8) (.t 7))] [])
 (.seq (.cond (.t 9)
 (.region [] [9])
 (.exit 0))
 (.seq (.block 1
 (.seq (.region [Ia 10 1 6 8,
 Ld 11 10,
 Mv 5 11] [10,11])
 (.seq (.seq (.region [Mv 12 5,
 Mv 13 3,
 It 14 (.bin .leq (.t 12) (.t 13)),
 Mv 15 14,
 Ig 16 15 false (.mov (.t 5)),
 Ig 17 15 false (.call 67 [(.t 16)]),
 Ig 18 15 false (.un .not (.t 17)),
 It 19 (.pick (.t 15) (.c (.b true)) (.t 18))] [3,12,13,14,15,16,17,18])
 (.cond (.t 19)
 (.seq (.region [It 2 (.mov (.c (.b false)))] [6,7,8,5,19])
 .ret)
 (.region [] [19])))
 (.region [Mv 20 5,
 Mv 3 20] [5,20]))))
 (.region [It 21 (.bin .add (.t 8) (.c (.i .i64 1))),
 Mv 8 21] [21]))))
def I53:IFunc :=
  ⟨(.seq (.region [It 2 (.mov (.c (.b false)))] [2])
 (.seq (.region [It 3 (.mov (.c (.s [])))] [])
 (.seq (.seq (.region [Mv 6 0,
 Le 7 6,
 It 8 (.mov (.c i0))] [0])
 (.block 0
 (.loop L53a)))
 (.seq (.region [It 2 (.mov (.c (.b true)))] [3,6,7,8,9])
 .ret)))),
    22,1,[.t 2],2⟩
theorem tr53:trFunc Tryd.prog (hz [] I53.body) 1 Tryd.f53=some (plain1 I53):=by kernel_rfl
theorem ck53:ckC 2 I53.body=true:=by kernel_rfl
def L54a:ICode :=
  (.seq (.seq (.region [Mv 4 3,
 Mv 5 0,
 Le 6 5,
 It 7 (.bin .lss (.t 4) (.t 6))] [4,5,6])
 (.cond (.t 7)
 (.region [] [7])
 (.exit 0)))
 (.seq (.block 1
 (.seq (.region [Mv 10 0,
 Mv 11 3,
 Ia 12 1 10 11,
 Ld 13 12,
 It 14 (.call 68 [(.t 13)]),
 It 15 (.un .not (.t 14)),
 Mv 16 15,
 Ig 17 16 false (.mov (.t 3)),
 Ig 18 16 false (.bin .gtr (.t 17) (.c i0)),
 Ig 19 16 false (.mov (.t 18)),
 Ig 20 19 true (.mov (.t 0)),
 Ig 21 19 true (.mov (.t 3)),
 Ig 22 19 true (.iaddr 1 (.t 20) (.t 21)),
 Ig 23 19 true (.load none (.t 22)),
 Ig 24 19 true (.mov (.t 0)),
 Ig 25 19 true (.mov (.t 3)),
 Ig 26 19 true (.bin .sub (.t 25) (.c (.i .i64 1))),
 Ig 27 19 true (.iaddr 1 (.t 24) (.t 26)),
 Ig 28 19 true (.load none (.t 27)),
 Ig 29 19 true (.bin .leq (.t 23) (.t 28)),
 Ig 30 16 false (.pick (.t 19) (.t 29) (.c (.b false))),
 It 31 (.pick (.t 16) (.c (.b true)) (.t 30))] [10,11,12,13,14,15,16,17,18,19,20,21,22,23,24,25,26,27,28,29,30])
 (.cond (.t 31)
 (.seq (.region [It 2 (.mov (.c (.b false)))] [0,3,31])
 .ret)
 (.region [] [31]))))
 (.region [Mv 8 3,
 It 9 (.bin .add (.t 8) (.c (.i .i64 1))),
 Mv 3 9] [8,9])))
def I54:IFunc :=
  ⟨(.seq (.region [It 2 (.mov (.c (.b false)))] [2])
 (.seq (.seq (.region [It 3 (.mov (.c i0))] [])
 (.block 0
 (.loop L54a)))
 (.seq (.region [It 2 (.mov (.c (.b true)))] [0,3,7])
 .ret))),
    32,1,[.t 2],2⟩
theorem tr54:trFunc Tryd.prog (hz [(4,[0,1,2,3,4,5,6,7,8,9,10,11,12,13,14,15,16,17,18,19,20,21])] I54.body) 1 Tryd.f54=some (plain1 I54):=by kernel_rfl
theorem ck54:ckC 2 I54.body=true:=by kernel_rfl
def I55:IFunc :=
  ⟨(.seq (.region [It 3 (.box (.t 0)),
 It 6 (.mov (.c (.b false)))] [0,6])
 (.seq (.region [Lm 11 5 3,
 It 12 (.call 69 [(.t 11)]),
 Mv 10 12,
 Ex 13 10 0,
 Ex 14 10 1,
 Ex 15 10 2,
 Mv 7 13,
 Mv 8 14,
 Mv 9 15] [11,12,10,13,14,15])
 (.seq (.region [Mv 16 9,
 Mv 17 16,
 Ig 18 17 true (.off (.t 3) 2),
 Ig 19 17 true (.load none (.t 18)),
 Ig 20 17 true (.lenk 0 (.t 19)),
 Ig 21 17 true (.mov (.t 7)),
 Ig 22 17 true (.bin .geq (.t 20) (.t 21)),
 It 23 (.pick (.t 17) (.t 22) (.c (.b false))),
 Mv 24 23,
 Ig 25 24 true (.off (.t 3) 2),
 Ig 26 24 true (.load none (.t 25)),
 Ig 27 24 true (.lenk 0 (.t 26)),
 Ig 28 24 true (.mov (.t 8)),
 Ig 29 24 true (.bin .leq (.t 27) (.t 28)),
 It 30 (.pick (.t 24) (.t 29) (.c (.b false))),
 Mv 31 30,
 Ig 32 31 true (.off (.t 3) 2),
 Ig 33 31 true (.load none (.t 32)),
 Ig 34 31 true (.mov (.t 1)),
 Ig 35 31 true (.mov (.t 2)),
 Ig 36 31 true (.call 58 [(.t 33),(.t 34),(.t 35)]),
 It 37 (.pick (.t 31) (.t 36) (.c (.b false))),
 Mv 6 37] [1,2,3,7,8,9,16,17,18,19,20,21,22,23,24,25,26,27,28,29,30,31,32,33,34,35,36,37])
 .ret))),
    38,3,[.t 6],2⟩
theorem tr55:trFunc Tryd.prog (hz [] I55.body) 1 Tryd.f55=some (plain1 I55):=by kernel_rfl
theorem ck55:ckC 2 I55.body=true:=by kernel_rfl
def I56:IFunc :=
  ⟨(.seq (.region [It 3 (.box (.t 0)),
 It 6 (.mov (.c (.b false)))] [0,6])
 (.seq (.seq (.region [Of 7 3 0,
 Ld 8 7] [7])
 (.block 0
 (.seq (.region [It 10 (.bin .eql (.t 8) (.c (.i .i64 1))),
 Mv 9 10] [10])
 (.cond (.t 9)
 (.seq (.region [Of 11 3 1,
 Ld 12 11,
 It 13 (.bin .geq (.t 12) (.c i0)),
 Mv 14 13,
 Ig 15 14 true (.off (.t 3) 1),
 Ig 16 14 true (.load none (.t 15)),
 Ig 17 14 true (.mov (.t 1)),
 Ig 18 14 true (.bin .lss (.t 16) (.t 17)),
 It 19 (.pick (.t 14) (.t 18) (.c (.b false))),
 Mv 20 19,
 Ig 21 20 true (.off (.t 3) 2),
 Ig 22 20 true (.load (some 5) (.t 21)),
 Ig 23 20 true (.call 57 [(.t 22)]),
 It 24 (.pick (.t 20) (.t 23) (.c (.b false))),
 Mv 6 24] [1,2,3,8,9,11,12,13,14,15,16,17,18,19,20,21,22,23,24])
 .ret)
 (.seq (.region [It 26 (.bin .eql (.t 8) (.c (.i .i64 2))),
 Mv 25 26] [1,9,26])
 (.cond (.t 25)
 (.seq (.region [Of 27 3 1,
 Ld 28 27,
 It 29 (.bin .geq (.t 28) (.c i0)),
 Mv 30 29,
 Ig 31 30 true (.off (.t 3) 1),
 Ig 32 30 true (.load none (.t 31)),
 Ig 33 30 true (.mov (.t 2)),
 Ig 34 30 true (.bin .lss (.t 32) (.t 33)),
 It 35 (.pick (.t 30) (.t 34) (.c (.b false))),
 Mv 36 35,
 Ig 37 36 true (.off (.t 3) 2),
 Ig 38 36 true (.load (some 5) (.t 37)),
 Ig 39 36 true (.call 57 [(.t 38)]),
 It 40 (.pick (.t 36) (.t 39) (.c (.b false))),
 Mv 6 40] [2,3,8,25,27,28,29,30,31,32,33,34,35,36,37,38,39,40])
 .ret)
 (.seq (.region [It 42 (.bin .eql (.t 8) (.c (.i .i64 3))),
 Mv 41 42] [2,8,25,42])
 (.cond (.t 41)
 (.seq (.region [Of 43 3 1,
 Ld 44 43,
 It 45 (.bin .eql (.t 44) (.c i0)),
 Mv 46 45,
 Ig 47 46 true (.off (.t 3) 2),
 Ig 48 46 true (.load (some 5) (.t 47)),
 Ig 49 46 true (.call 70 [(.t 48)]),
 It 50 (.pick (.t 46) (.t 49) (.c (.b false))),
 Mv 6 50] [3,41,43,44,45,46,47,48,49,50])
 .ret)
 (.region [] [3,41])))))))))
 (.seq (.region [It 6 (.mov (.c (.b false)))] [])
 .ret))),
    51,3,[.t 6],2⟩
theorem tr56:trFunc Tryd.prog (hz [] I56.body) 1 Tryd.f56=some (plain1 I56):=by kernel_rfl
theorem ck56:ckC 2 I56.body=true:=by kernel_rfl
def I57:IFunc :=
  ⟨(.seq (.region [It 1 (.box (.t 0)),
 It 2 (.mov (.c (.b false)))] [0,2])
 (.seq (.region [Lm 3 5 1,
 It 4 (.build [i0,i0,(.s []),.ns,.ns] []),
 It 5 (.call 71 [(.t 3),(.t 4)]),
 Mv 2 5] [1,3,4,5])
 .ret)),
    6,1,[.t 2],2⟩
theorem tr57:trFunc Tryd.prog (hz [] I57.body) 1 Tryd.f57=some (plain1 I57):=by kernel_rfl
theorem ck57:ckC 2 I57.body=true:=by kernel_rfl
def I58:IFunc :=
  ⟨(.seq (.region [It 4 (.box (.t 1)),
 It 5 (.box (.t 2)),
 It 6 (.mov (.c (.b false)))] [1,2,6])
 (.seq (.region [Mv 7 0,
 It 8 (.mkf 72 [] [(.t 4),(.t 5)]),
 It 9 (.call 62 [(.t 7),(.t 8)]),
 It 10 (.un .not (.t 9)),
 Mv 6 10] [0,4,5,7,8,9,10])
 .ret)),
    11,3,[.t 6],2⟩
theorem tr58:trFunc Tryd.prog (hz [] I58.body) 1 Tryd.f58=some (plain1 I58):=by kernel_rfl
theorem ck58:ckC 2 I58.body=true:=by kernel_rfl
def I59:IFunc:=⟨cloneCode 1 16,8,1,[.t 2],4⟩
theorem tr59:trFunc Tryd.prog [([],[]),([],[]),([],[]),([],[]),([],[])] 1 Tryd.f59=some (plain1 I59):=by kernel_rfl
theorem ck59:ckC 2 (cloneCode 1 16)=true:=by kernel_rfl
def I60:IFunc :=
  ⟨(.seq (.region [It 2 (.mov (.c i0)),
 It 3 (.mov (.c i0)),
 It 4 (.mov (.c (.b false)))] [2,3,4])
 (.seq (.seq (.region [Mv 5 0] [0])
 (.block 0
 (.seq (.region [It 7 (.bin .eql (.t 5) (.c (.i .i64 6))),
 Mv 6 7] [7])
 (.cond (.t 6)
 (.seq (.region [It 2 (.mov (.c (.i .i64 41))),
 It 3 (.mov (.c (.i .i64 1))),
 It 4 (.mov (.c (.b true)))] [5,6])
 .ret)
 (.seq (.region [It 9 (.bin .eql (.t 5) (.c (.i .i64 7))),
 Mv 8 9] [6,9])
 (.cond (.t 8)
 (.seq (.region [It 2 (.mov (.c (.i .i64 42))),
 It 3 (.mov (.c (.i .i64 2))),
 It 4 (.mov (.c (.b true)))] [5,8])
 .ret)
 (.seq (.region [It 11 (.bin .eql (.t 5) (.c (.i .i64 9))),
 Mv 10 11] [8,11])
 (.cond (.t 10)
 (.seq (.region [It 2 (.mov (.c (.i .i64 43))),
 It 3 (.mov (.c (.i .i64 1))),
 It 4 (.mov (.c (.b true)))] [5,10])
 .ret)
 (.seq (.region [It 13 (.bin .eql (.t 5) (.c (.i .i64 10))),
 Mv 12 13] [10,13])
 (.cond (.t 12)
 (.seq (.region [It 2 (.mov (.c (.i .i64 44))),
 It 3 (.mov (.c (.i .i64 1))),
 It 4 (.mov (.c (.b true)))] [5,12])
 .ret)
 (.seq (.region [It 15 (.bin .eql (.t 5) (.c (.i .i64 11))),
 Mv 14 15] [12,15])
 (.cond (.t 14)
 (.seq (.region [It 2 (.mov (.c (.i .i64 45))),
 It 3 (.mov (.c (.i .i64 1))),
 It 4 (.mov (.c (.b true)))] [5,14])
 .ret)
 (.seq (.region [It 17 (.bin .eql (.t 5) (.c (.i .i64 16))),
 Mv 16 17] [14,17])
 (.cond (.t 16)
 (.seq (.region [It 2 (.mov (.c (.i .i64 46))),
 It 3 (.mov (.c (.i .i64 1))),
 It 4 (.mov (.c (.b true)))] [5,16])
 .ret)
 (.seq (.region [It 19 (.bin .eql (.t 5) (.c (.i .i64 17))),
 Mv 18 19] [5,16,19])
 (.cond (.t 18)
 (.seq (.region [It 2 (.mov (.c (.i .i64 47))),
 It 3 (.mov (.c (.i .i64 1))),
 It 4 (.mov (.c (.b true)))] [18])
 .ret)
 (.region [] [18])))))))))))))))))
 (.seq (.region [It 2 (.mov (.c i0)),
 It 3 (.mov (.c i0)),
 It 4 (.mov (.c (.b false)))] [])
 .ret))),
    20,1,[.t 2,.t 3,.t 4],2⟩
theorem tr60:trFunc Tryd.prog (hz [] I60.body) 1 Tryd.f60=some (plain1 I60):=by kernel_rfl
theorem ck60:ckC 2 I60.body=true:=by kernel_rfl
def I61:IFunc :=
  ⟨(.seq (.region [It 4 (.box (.t 1))] [1])
 (.seq (.seq (.region [Of 6 4 0,
 Ld 7 6,
 It 8 (.bin .neq (.t 7) (.c (.i .i64 1))),
 Mv 9 8,
 Ig 10 9 false (.mov (.t 0)),
 Ig 11 9 false (.nck (.t 10)),
 Ig 12 9 false (.off (.t 11) 1),
 Ig 13 9 false (.load none (.t 12)),
 Ig 14 9 false (.off (.t 4) 1),
 Ig 15 9 false (.load none (.t 14)),
 Ig 16 9 false (.iaddr 1 (.t 13) (.t 15)),
 Ig 17 9 false (.load none (.t 16)),
 Ig 18 9 false (.bin .neq (.t 17) (.c (.i .i64 (-1)))),
 It 19 (.pick (.t 9) (.c (.b true)) (.t 18)),
 Mv 20 19,
 Ig 21 20 false (.off (.t 4) 1),
 Ig 22 20 false (.load none (.t 21)),
 Ig 23 20 false (.mov (.t 0)),
 Ig 24 20 false (.nck (.t 23)),
 Ig 25 20 false (.off (.t 24) 2),
 Ig 26 20 false (.load none (.t 25)),
 Ig 27 20 false (.lenk 0 (.t 26)),
 Ig 28 20 false (.bin .geq (.t 22) (.t 27)),
 It 29 (.pick (.t 20) (.c (.b true)) (.t 28)),
 Mv 30 29,
 Ig 31 30 false (.mov (.t 0)),
 Ig 32 30 false (.nck (.t 31)),
 Ig 33 30 false (.off (.t 32) 2),
 Ig 34 30 false (.load none (.t 33)),
 Ig 35 30 false (.off (.t 4) 1),
 Ig 36 30 false (.load none (.t 35)),
 Ig 37 30 false (.iaddr 1 (.t 34) (.t 36)),
 Ig 38 30 false (.load none (.t 37)),
 Ig 39 30 false (.mov (.t 2)),
 Ig 40 30 false (.bin .neq (.t 38) (.t 39)),
 It 41 (.pick (.t 30) (.c (.b true)) (.t 40))] [6,7,8,9,10,11,12,13,14,15,16,17,18,19,20,21,22,23,24,25,26,27,28,29,30,31,32,33,34,35,36,37,38,39,40])
 (.cond (.t 41)
 .ret
 (.region [] [41])))
 (.seq (.region [Mv 42 0,
 Mv 43 0,
 It 44 (.nck (.t 43)),
 Of 45 44 0,
 Ld 46 45,
 Mv 47 2,
 Lm 48 7 4,
 It 49 (.bsl 7 1 [i0,i0,i0,i0,(.s []),.ns,.ns] [(0,7,(.t 48))]),
 It 50 (.build [i0,i0,.ns,(.s []),.ns] [(0,1,(.c (.i .i64 40))),(1,1,(.t 47)),(2,1,(.t 49))]),
 It 51 (.bsl 5 1 [i0,i0,.ns,(.s []),.ns] [(0,5,(.t 50))]),
 It 52 (.app 5 80 (.t 46) (.t 51)),
 It 53 (.nck (.t 42)),
 Of 54 53 0,
 Ss 1 54 52] [42,43,44,45,46,47,48,49,50,51,52,53,54])
 (.region [Mv 55 0,
 It 56 (.nck (.t 55)),
 Of 57 56 1,
 Ld 58 57,
 Of 59 4 1,
 Ld 60 59,
 Mv 61 2,
 Ia 62 1 58 60,
 Ss 1 62 61] [0,2,4,55,56,57,58,59,60,61,62])))),
    63,3,[],0⟩
theorem tr61:trFunc Tryd.prog (hz [(1,[0,1,2,3,4,5,6,7,8,9,10,11,12,13,14,15,16,17,18,19,20,21,22,23,24,25,26,27,28,29,30,31,32,33,34,35]),(3,[0,1,2,3,4,5,6,7,8,9,10,11,12,13]),(4,[0,1,2,3,4,5,6,7,8])] I61.body) 0 Tryd.f61=some (plain1 I61):=by kernel_rfl
theorem ck61:ckC 2 I61.body=true:=by kernel_rfl
def I62:IFunc :=
  ⟨(.seq (.region [It 4 (.mov (.c (.b false)))] [4])
 (.seq (.region [Mv 5 0,
 Mv 6 1,
 It 7 (.call 73 [(.t 5),(.t 6)]),
 It 8 (.bin .geq (.t 7) (.c i0)),
 Mv 4 8] [0,1,5,6,7,8])
 .ret)),
    9,2,[.t 4],2⟩
theorem tr62:trFunc Tryd.prog (hz [] I62.body) 1 Tryd.f62=some (plain1 I62):=by kernel_rfl
theorem ck62:ckC 2 I62.body=true:=by kernel_rfl
def I63:IFunc :=
  ⟨(.seq (.region [It 3 (.box (.t 0)),
 It 4 (.mov (.c (.b false)))] [0,4])
 (.seq (.region [Ld 5 1,
 Lm 6 7 3,
 Ld 8 2,
 ⟨(some 7),(.call 64 [(.t 5),(.t 6)]),none,[(8,(.load none (.t 2)),none)]⟩,
 It 9 (.bin .neq (.t 7) (.t 8)),
 Mv 4 9] [1,2,3,5,6,8,7,9])
 .ret)),
    10,3,[.t 4],2⟩
theorem tr63:trFunc Tryd.prog (hz [(1,[0,1,3,2,4,5])] I63.body) 1 Tryd.f63=some (plain1 I63):=by kernel_rfl
theorem ck63:ckC 2 I63.body=true:=by kernel_rfl
def I64:IFunc :=
  ⟨(.seq (.region [It 3 (.box (.t 1)),
 It 4 (.mov (.c i0))] [1,4])
 (.seq (.seq (.region [Of 5 3 0,
 Ld 6 5] [5])
 (.block 0
 (.seq (.region [It 8 (.bin .eql (.t 6) (.c (.i .i64 1))),
 Mv 7 8] [8])
 (.cond (.t 7)
 (.seq (.region [Mv 9 0,
 It 10 (.nck (.t 9)),
 Of 11 10 1,
 Ld 12 11,
 Of 13 3 1,
 Ld 14 13,
 Ia 15 1 12 14,
 Ld 16 15,
 Mv 4 16] [0,3,6,7,9,10,11,12,13,14,15,16])
 .ret)
 (.seq (.region [It 18 (.bin .eql (.t 6) (.c (.i .i64 2))),
 Mv 17 18] [6,7,18])
 (.cond (.t 17)
 (.seq (.region [Mv 19 0,
 It 20 (.nck (.t 19)),
 Of 21 20 0,
 Ld 22 21,
 Of 23 3 1,
 Ld 24 23,
 Ia 25 5 22 24,
 Lm 26 5 25,
 It 27 (.call 74 [(.t 26)]),
 Mv 4 27] [0,3,17,19,20,21,22,23,24,25,26,27])
 .ret)
 (.region [] [0,17])))))))
 (.seq (.region [Of 28 3 2,
 Of 29 28 0,
 Ld 30 29,
 Mv 4 30] [3,28,29,30])
 .ret))),
    31,2,[.t 4],2⟩
theorem tr64:trFunc Tryd.prog (hz [(3,[0,1,2,3,4,5,6,7,8]),(5,[0,1,2,3,4,5,6,7,8,9])] I64.body) 1 Tryd.f64=some (plain1 I64):=by kernel_rfl
theorem ck64:ckC 2 I64.body=true:=by kernel_rfl
def L65a:ICode :=
  (.seq (.region [It 16 (.bin .lss (.t 15) (.t 14))] [])
 (.seq (.cond (.t 16)
 (.region [] [16])
 (.exit 0))
 (.seq (.block 1
 (.seq (.region [Mv 17 15,
 Mv 3 17] [17])
 (.region [Of 18 1 3,
 Ld 19 18,
 Mv 20 3,
 Of 21 1 3,
 Ld 22 21,
 Mv 23 3,
 Ia 24 5 22 23,
 Lm 25 5 24,
 ⟨(some 26),(.call 65 [(.t 25)]),none,[(19,(.load none (.t 18)),none)]⟩,
 Ia 27 5 19 20,
 Ss 5 27 26] [3,18,19,20,21,22,23,24,25,26,27])))
 (.region [It 28 (.bin .add (.t 15) (.c (.i .i64 1))),
 Mv 15 28] [28]))))
def I65:IFunc :=
  ⟨(.seq (.region [It 1 (.box (.t 0)),
 It 2 (.alloc [i0,i0,(.s []),.ns,.ns])] [0])
 (.seq (.region [Of 4 1 4,
 Ld 5 4,
 Of 7 1 3,
 Ld 8 7,
 ⟨(some 6),(.call 59 [(.t 5)]),none,[(8,(.load none (.t 7)),none)]⟩,
 Of 10 1 4,
 It 9 (.call 75 [(.t 8)]),
 Ss 1 10 6,
 Of 11 1 3,
 Ss 1 11 9] [4,5,7,8,6,10,9,11])
 (.seq (.seq (.region [Of 12 1 3,
 Ld 13 12,
 Le 14 13,
 It 15 (.mov (.c i0))] [12,13])
 (.block 0
 (.loop L65a)))
 (.seq (.region [Lm 29 5 1,
 Ss 5 2 29] [1,14,15,16,29])
 .ret)))),
    30,1,[.c 2 (some 5)],2⟩
theorem tr65:trFunc Tryd.prog (hz [(1,[0,1,3,4,2,6,5,7,8,9]),(6,[0,1,2,3,4,5,6,7,8,9,10])] I65.body) 1 Tryd.f65=some (plain1 I65):=by kernel_rfl
theorem ck65:ckC 2 I65.body=true:=by kernel_rfl
def L66a:ICode :=
  (.seq (.seq (.region [Mv 11 5,
 Mv 12 0,
 Le 13 12,
 It 14 (.bin .lss (.t 11) (.t 13))] [11,12,13])
 (.cond (.t 14)
 (.region [] [14])
 (.exit 0)))
 (.seq (.block 1
 (.seq (.region [Mv 17 0,
 Mv 18 5,
 Ia 19 1 17 18,
 Ld 20 19,
 Mv 21 1,
 Mv 22 5,
 Ia 23 1 21 22,
 Ld 24 23,
 It 25 (.bin .neq (.t 20) (.t 24))] [17,18,19,20,21,22,23,24])
 (.cond (.t 25)
 (.seq (.region [It 4 (.mov (.c (.b false)))] [0,1,5,25])
 .ret)
 (.region [] [25]))))
 (.region [Mv 15 5,
 It 16 (.bin .add (.t 15) (.c (.i .i64 1))),
 Mv 5 16] [15,16])))
def I66:IFunc :=
  ⟨(.seq (.region [It 4 (.mov (.c (.b false)))] [4])
 (.seq (.seq (.region [Mv 6 0,
 Le 7 6,
 Mv 8 1,
 Le 9 8,
 It 10 (.bin .neq (.t 7) (.t 9))] [6,7,8,9])
 (.cond (.t 10)
 (.seq (.region [It 4 (.mov (.c (.b false)))] [0,1,10])
 .ret)
 (.region [] [10])))
 (.seq (.seq (.region [It 5 (.mov (.c i0))] [])
 (.block 0
 (.loop L66a)))
 (.seq (.region [It 4 (.mov (.c (.b true)))] [0,1,5,14])
 .ret)))),
    26,2,[.t 4],2⟩
theorem tr66:trFunc Tryd.prog (hz [(7,[0,1,2,3,4,5,6,7,8])] I66.body) 1 Tryd.f66=some (plain1 I66):=by kernel_rfl
theorem ck66:ckC 2 I66.body=true:=by kernel_rfl
def L67a:ICode :=
  (.seq (.region [It 17 (.bin .lss (.t 16) (.t 15))] [])
 (.seq (.cond (.t 17)
 (.region [] [17])
 (.exit 0))
 (.seq (.block 1
 (.seq (.region [Mv 18 16,
 Ia 19 1 14 16,
 Ld 20 19,
 Mv 3 18,
 Mv 4 20] [18,19,20])
 (.seq (.region [Mv 21 4,
 It 22 (.bin .geq (.t 21) (.c (.i .u8 (97)))),
 Mv 23 22,
 Ig 24 23 true (.mov (.t 4)),
 Ig 25 23 true (.bin .leq (.t 24) (.c (.i .u8 (122)))),
 It 26 (.pick (.t 23) (.t 25) (.c (.b false))),
 Mv 5 26] [21,22,23,24,25,26])
 (.seq (.region [Mv 27 5,
 It 28 (.un .not (.t 27)),
 Mv 29 28,
 Ig 30 29 true (.mov (.t 3)),
 Ig 31 29 true (.bin .eql (.t 30) (.c i0)),
 Ig 32 29 true (.mov (.t 31)),
 Ig 33 32 false (.mov (.t 4)),
 Ig 34 32 false (.bin .neq (.t 33) (.c (.i .u8 (95)))),
 Ig 35 32 false (.mov (.t 34)),
 Ig 36 35 true (.mov (.t 4)),
 Ig 37 35 true (.bin .lss (.t 36) (.c (.i .u8 (48)))),
 Ig 38 35 true (.mov (.t 37)),
 Ig 39 38 false (.mov (.t 4)),
 Ig 40 38 false (.bin .gtr (.t 39) (.c (.i .u8 (57)))),
 Ig 41 35 true (.pick (.t 38) (.c (.b true)) (.t 40)),
 Ig 42 32 false (.pick (.t 35) (.t 41) (.c (.b false))),
 Ig 43 29 true (.pick (.t 32) (.c (.b true)) (.t 42)),
 It 44 (.pick (.t 29) (.t 43) (.c (.b false)))] [3,4,5,27,28,29,30,31,32,33,34,35,36,37,38,39,40,41,42,43])
 (.cond (.t 44)
 (.seq (.region [It 2 (.mov (.c (.b false)))] [14,15,16,44])
 .ret)
 (.region [] [44]))))))
 (.region [It 45 (.bin .add (.t 16) (.c (.i .i64 1))),
 Mv 16 45] [45]))))
def I67:IFunc :=
  ⟨(.seq (.region [It 2 (.mov (.c (.b false)))] [2])
 (.seq (.seq (.region [Mv 6 0,
 It 7 (.bin .eql (.t 6) (.c (.s []))),
 Mv 8 7,
 Ig 9 8 false (.mov (.t 0)),
 Ig 10 8 false (.lenk 1 (.t 9)),
 Ig 11 8 false (.bin .gtr (.t 10) (.c (.i .i64 16))),
 It 12 (.pick (.t 8) (.c (.b true)) (.t 11))] [6,7,8,9,10,11])
 (.cond (.t 12)
 (.seq (.region [It 2 (.mov (.c (.b false)))] [0,12])
 .ret)
 (.region [] [12])))
 (.seq (.seq (.region [Mv 13 0,
 It 14 (.s2b (.t 13)),
 Le 15 14,
 It 16 (.mov (.c i0))] [0,13])
 (.block 0
 (.loop L67a)))
 (.seq (.region [It 2 (.mov (.c (.b true)))] [14,15,16,17])
 .ret)))),
    46,1,[.t 2],2⟩
theorem tr67:trFunc Tryd.prog (hz [] I67.body) 1 Tryd.f67=some (plain1 I67):=by kernel_rfl
theorem ck67:ckC 2 I67.body=true:=by kernel_rfl
def L68a:ICode :=
  (.seq (.seq (.region [Mv 23 3,
 Mv 24 0,
 It 25 (.lenk 1 (.t 24)),
 It 26 (.bin .lss (.t 23) (.t 25))] [23,24,25])
 (.cond (.t 26)
 (.region [] [26])
 (.exit 0)))
 (.seq (.block 1
 (.seq (.region [Mv 29 0,
 Mv 30 3,
 It 31 (.idxS (.t 29) (.t 30)),
 Mv 4 31] [29,30,31])
 (.seq (.region [Mv 32 4,
 It 33 (.bin .geq (.t 32) (.c (.i .u8 (97)))),
 Mv 34 33,
 Ig 35 34 true (.mov (.t 4)),
 Ig 36 34 true (.bin .leq (.t 35) (.c (.i .u8 (122)))),
 It 37 (.pick (.t 34) (.t 36) (.c (.b false))),
 It 38 (.un .not (.t 37)),
 Mv 39 38,
 Ig 40 39 true (.mov (.t 4)),
 Ig 41 39 true (.bin .geq (.t 40) (.c (.i .u8 (48)))),
 Ig 42 39 true (.mov (.t 41)),
 Ig 43 42 true (.mov (.t 4)),
 Ig 44 42 true (.bin .leq (.t 43) (.c (.i .u8 (57)))),
 Ig 45 39 true (.pick (.t 42) (.t 44) (.c (.b false))),
 Ig 46 39 true (.un .not (.t 45)),
 It 47 (.pick (.t 39) (.t 46) (.c (.b false))),
 Mv 48 47,
 Ig 49 48 true (.mov (.t 4)),
 Ig 50 48 true (.bin .neq (.t 49) (.c (.i .u8 (95)))),
 It 51 (.pick (.t 48) (.t 50) (.c (.b false)))] [4,32,33,34,35,36,37,38,39,40,41,42,43,44,45,46,47,48,49,50])
 (.cond (.t 51)
 (.seq (.region [It 2 (.mov (.c (.b false)))] [0,3,51])
 .ret)
 (.region [] [51])))))
 (.region [Mv 27 3,
 It 28 (.bin .add (.t 27) (.c (.i .i64 1))),
 Mv 3 28] [27,28])))
def I68:IFunc :=
  ⟨(.seq (.region [It 2 (.mov (.c (.b false)))] [2])
 (.seq (.seq (.region [Mv 5 0,
 It 6 (.lenk 1 (.t 5)),
 It 7 (.bin .lss (.t 6) (.c (.i .i64 1))),
 Mv 8 7,
 Ig 9 8 false (.mov (.t 0)),
 Ig 10 8 false (.lenk 1 (.t 9)),
 Ig 11 8 false (.bin .gtr (.t 10) (.c (.i .i64 16))),
 It 12 (.pick (.t 8) (.c (.b true)) (.t 11)),
 Mv 13 12,
 Ig 14 13 false (.mov (.t 0)),
 Ig 15 13 false (.idxS (.t 14) (.c i0)),
 Ig 16 13 false (.bin .lss (.t 15) (.c (.i .u8 (97)))),
 It 17 (.pick (.t 13) (.c (.b true)) (.t 16)),
 Mv 18 17,
 Ig 19 18 false (.mov (.t 0)),
 Ig 20 18 false (.idxS (.t 19) (.c i0)),
 Ig 21 18 false (.bin .gtr (.t 20) (.c (.i .u8 (122)))),
 It 22 (.pick (.t 18) (.c (.b true)) (.t 21))] [5,6,7,8,9,10,11,12,13,14,15,16,17,18,19,20,21])
 (.cond (.t 22)
 (.seq (.region [It 2 (.mov (.c (.b false)))] [0,22])
 .ret)
 (.region [] [22])))
 (.seq (.seq (.region [It 3 (.mov (.c i0))] [])
 (.block 0
 (.loop L68a)))
 (.seq (.region [It 2 (.mov (.c (.b true)))] [0,3,26])
 .ret)))),
    52,1,[.t 2],2⟩
theorem tr68:trFunc Tryd.prog (hz [] I68.body) 1 Tryd.f68=some (plain1 I68):=by kernel_rfl
theorem ck68:ckC 2 I68.body=true:=by kernel_rfl
def I69:IFunc :=
  ⟨(.seq (.region [It 1 (.box (.t 0)),
 It 2 (.mov (.c i0)),
 It 3 (.mov (.c i0)),
 It 4 (.mov (.c (.b false)))] [0,2,3,4])
 (.seq (.region [Of 6 1 1,
 Ld 7 6,
 Of 8 1 3,
 Ld 9 8,
 Of 10 1 4,
 Ld 11 10,
 Le 12 11,
 It 13 (.bin .gtr (.t 12) (.c i0)),
 It 14 (.build [i0,(.s []),(.b false)] [(0,1,(.t 7)),(1,1,(.t 9)),(2,1,(.t 13))]),
 It 5 (.alloc [i0,(.s []),(.b false)]),
 Ss 3 5 14] [6,7,8,9,10,11,12,13,14])
 (.seq (.block 0
 (.seq (.region [Of 16 1 0,
 Ld 17 16,
 It 18 (.bin .eql (.t 17) (.c (.i .i64 20))),
 Mv 15 18] [16,17,18])
 (.cond (.t 15)
 (.seq (.region [Lm 19 3 5,
 It 20 (.load (some 3) (.g 0)),
 It 21 (.eqAg [1,2,0] false (.t 19) (.t 20)),
 It 2 (.mov (.c i0)),
 It 3 (.mov (.c (.i .i64 8))),
 Mv 4 21] [1,5,15,19,20,21])
 .ret)
 (.seq (.region [Of 23 1 0,
 Ld 24 23,
 It 25 (.bin .eql (.t 24) (.c (.i .i64 21))),
 Mv 22 25] [15,23,24,25])
 (.cond (.t 22)
 (.seq (.region [Of 26 1 4,
 Ld 27 26,
 Le 28 27,
 Of 29 1 4,
 Ld 30 29,
 Le 31 30,
 Of 32 1 1,
 Ld 33 32,
 It 34 (.bin .eql (.t 33) (.c i0)),
 Mv 35 34,
 Ig 36 35 true (.off (.t 1) 3),
 Ig 37 35 true (.load none (.t 36)),
 Ig 38 35 true (.bin .eql (.t 37) (.c (.s []))),
 It 39 (.pick (.t 35) (.t 38) (.c (.b false))),
 Mv 40 39,
 Ig 41 40 true (.off (.t 1) 4),
 Ig 42 40 true (.load none (.t 41)),
 ⟨(some 43),(.call 76 [(.t 42)]),(some (40,true)),[(27,(.load none (.t 26)),none),(28,(.lenk 0 (.t 27)),none),(30,(.load none (.t 29)),none),(31,(.lenk 0 (.t 30)),none)]⟩,
 It 44 (.pick (.t 40) (.t 43) (.c (.b false))),
 Mv 2 28,
 Mv 3 31,
 Mv 4 44] [1,5,22,26,27,28,29,30,31,32,33,34,35,36,37,38,39,40,41,42,43,44])
 .ret)
 (.seq (.region [Of 46 1 0,
 Ld 47 46,
 It 48 (.bin .eql (.t 47) (.c (.i .i64 22))),
 Mv 45 48] [22,46,47,48])
 (.cond (.t 45)
 (.seq (.region [Lm 49 3 5,
 Of 50 1 3,
 Ld 51 50,
 It 52 (.build [i0,(.s []),(.b false)] [(1,1,(.t 51))]),
 It 53 (.eqAg [1,2,0] false (.t 49) (.t 52)),
 Mv 54 53,
 Ig 55 54 true (.off (.t 1) 3),
 Ig 56 54 true (.load none (.t 55)),
 Ig 57 54 true (.bsl 1 1 [(.s [])] [(0,1,(.t 56))]),
 Ig 58 54 true (.call 76 [(.t 57)]),
 It 59 (.pick (.t 54) (.t 58) (.c (.b false))),
 It 2 (.mov (.c (.i .i64 1))),
 It 3 (.mov (.c (.i .i64 1))),
 Mv 4 59] [1,5,45,49,50,51,52,53,54,55,56,57,58,59])
 .ret)
 (.seq (.region [Of 61 1 0,
 Ld 62 61,
 It 63 (.bin .eql (.t 62) (.c (.i .i64 23))),
 Mv 60 63] [45,61,62,63])
 (.cond (.t 60)
 (.seq (.region [Lm 64 3 5,
 Of 65 1 3,
 Ld 66 65,
 It 67 (.build [i0,(.s []),(.b false)] [(1,1,(.t 66))]),
 It 68 (.eqAg [1,2,0] false (.t 64) (.t 67)),
 Mv 69 68,
 Ig 70 69 true (.off (.t 1) 3),
 Ig 71 69 true (.load none (.t 70)),
 Ig 72 69 true (.call 77 [(.t 71)]),
 It 73 (.pick (.t 69) (.t 72) (.c (.b false))),
 It 2 (.mov (.c (.i .i64 1))),
 It 3 (.mov (.c (.i .i64 1))),
 Mv 4 73] [1,5,60,64,65,66,67,68,69,70,71,72,73])
 .ret)
 (.seq (.region [Of 75 1 0,
 Ld 76 75,
 It 77 (.bin .eql (.t 76) (.c (.i .i64 40))),
 Mv 74 77] [60,75,76,77])
 (.cond (.t 74)
 (.seq (.region [Lm 78 3 5,
 Of 79 1 1,
 Ld 80 79,
 It 81 (.build [i0,(.s []),(.b false)] [(0,1,(.t 80))]),
 It 82 (.eqAg [1,2,0] false (.t 78) (.t 81)),
 Mv 83 82,
 Ig 84 83 true (.off (.t 1) 1),
 Ig 85 83 true (.load none (.t 84)),
 Ig 86 83 true (.bin .geq (.t 85) (.c i0)),
 It 87 (.pick (.t 83) (.t 86) (.c (.b false))),
 Mv 88 87,
 Ig 89 88 true (.off (.t 1) 1),
 Ig 90 88 true (.load none (.t 89)),
 Ig 91 88 true (.bin .leq (.t 90) (.c (.i .i64 6))),
 It 92 (.pick (.t 88) (.t 91) (.c (.b false))),
 It 2 (.mov (.c (.i .i64 1))),
 It 3 (.mov (.c (.i .i64 1))),
 Mv 4 92] [1,5,74,78,79,80,81,82,83,84,85,86,87,88,89,90,91,92])
 .ret)
 (.seq (.seq (.region [Of 94 1 0,
 Ld 95 94,
 It 96 (.bin .eql (.t 95) (.c (.i .i64 48))),
 Mv 93 96] [74,94,95,96])
 (.cond (.t 93)
 .skip
 (.region [Of 97 1 0,
 Ld 98 97,
 It 99 (.bin .eql (.t 98) (.c (.i .i64 49))),
 Mv 93 99] [97,98,99])))
 (.cond (.t 93)
 (.seq (.region [Lm 100 3 5,
 Of 101 1 1,
 Ld 102 101,
 It 103 (.build [i0,(.s []),(.b false)] [(0,1,(.t 102))]),
 It 104 (.eqAg [1,2,0] false (.t 100) (.t 103)),
 It 2 (.mov (.c (.i .i64 1))),
 It 3 (.mov (.c (.i .i64 1))),
 Mv 4 104] [1,5,93,100,101,102,103,104])
 .ret)
 (.seq (.seq (.region [Of 106 1 0,
 Ld 107 106,
 It 108 (.bin .geq (.t 107) (.c (.i .i64 43))),
 Mv 109 108,
 Ig 110 109 true (.off (.t 1) 0),
 Ig 111 109 true (.load none (.t 110)),
 Ig 112 109 true (.bin .leq (.t 111) (.c (.i .i64 47))),
 It 113 (.pick (.t 109) (.t 112) (.c (.b false))),
 Mv 105 113] [93,106,107,108,109,110,111,112,113])
 (.cond (.t 105)
 .skip
 (.region [Of 114 1 0,
 Ld 115 114,
 It 116 (.bin .geq (.t 115) (.c (.i .i64 9))),
 Mv 117 116,
 Ig 118 117 true (.off (.t 1) 0),
 Ig 119 117 true (.load none (.t 118)),
 Ig 120 117 true (.bin .leq (.t 119) (.c (.i .i64 19))),
 It 121 (.pick (.t 117) (.t 120) (.c (.b false))),
 Mv 105 121] [114,115,116,117,118,119,120,121])))
 (.cond (.t 105)
 (.seq (.region [Lm 122 3 5,
 It 123 (.load (some 3) (.g 0)),
 It 124 (.eqAg [1,2,0] false (.t 122) (.t 123)),
 It 2 (.mov (.c (.i .i64 2))),
 It 3 (.mov (.c (.i .i64 2))),
 Mv 4 124] [1,5,105,122,123,124])
 .ret)
 (.seq (.seq (.region [Of 126 1 0,
 Ld 127 126,
 It 128 (.bin .eql (.t 127) (.c (.i .i64 41))),
 Mv 125 128] [105,126,127,128])
 (.cond (.t 125)
 (.region [] [1])
 (.seq (.region [Of 129 1 0,
 Ld 130 129,
 It 131 (.bin .eql (.t 130) (.c (.i .i64 42))),
 Mv 125 131] [129,130,131])
 (.cond (.t 125)
 (.region [] [1])
 (.region [Of 132 1 0,
 Ld 133 132,
 It 134 (.bin .geq (.t 133) (.c (.i .i64 6))),
 Mv 135 134,
 Ig 136 135 true (.off (.t 1) 0),
 Ig 137 135 true (.load none (.t 136)),
 Ig 138 135 true (.bin .leq (.t 137) (.c (.i .i64 8))),
 It 139 (.pick (.t 135) (.t 138) (.c (.b false))),
 Mv 125 139] [1,132,133,134,135,136,137,138,139])))))
 (.cond (.t 125)
 (.seq (.region [Lm 140 3 5,
 It 141 (.load (some 3) (.g 0)),
 It 142 (.eqAg [1,2,0] false (.t 140) (.t 141)),
 It 2 (.mov (.c (.i .i64 1))),
 It 3 (.mov (.c (.i .i64 1))),
 Mv 4 142] [5,125,140,141,142])
 .ret)
 (.region [] [5,125]))))))))))))))))))
 (.seq (.region [It 2 (.mov (.c i0)),
 It 3 (.mov (.c i0)),
 It 4 (.mov (.c (.b false)))] [])
 .ret)))),
    143,1,[.t 2,.t 3,.t 4],2⟩
theorem tr69:trFunc Tryd.prog (hz [(3,[0,1,2,3,4,5]),(5,[0,1,2,3,4,5,6,7,8,9,10,11,12,13,14,15,16,17,18,19,20,21]),(11,[0,1,2,3,4,5,6,7,8,9,10,11,12,13,14,15,16,17]),(15,[0,1,2,3,4,5,6,7]),(19,[0,1,2,3,4,5]),(25,[0,1,2,3,4,5])] I69.body) 1 Tryd.f69=some (plain1 I69):=by kernel_rfl
theorem ck69:ckC 2 I69.body=true:=by kernel_rfl
def I70:IFunc :=
  ⟨(.seq (.region [It 1 (.box (.t 0)),
 It 2 (.mov (.c (.b false)))] [0,2])
 (.seq (.region [Lm 3 5 1,
 It 4 (.call 17 [(.t 3)]),
 It 5 (.bin .eql (.t 4) (.c i0)),
 Mv 2 5] [1,3,4,5])
 .ret)),
    6,1,[.t 2],2⟩
theorem tr70:trFunc Tryd.prog (hz [] I70.body) 1 Tryd.f70=some (plain1 I70):=by kernel_rfl
theorem ck70:ckC 2 I70.body=true:=by kernel_rfl
def I71:IFunc :=
  ⟨(.seq (.region [It 2 (.box (.t 0)),
 It 3 (.box (.t 1)),
 It 4 (.mov (.c (.b false)))] [0,1,4])
 (.seq (.region [Of 5 2 0,
 Ld 6 5,
 Of 7 3 0,
 Ld 8 7,
 It 9 (.bin .eql (.t 6) (.t 8)),
 Mv 10 9,
 Ig 11 10 true (.off (.t 2) 1),
 Ig 12 10 true (.load none (.t 11)),
 Ig 13 10 true (.off (.t 3) 1),
 Ig 14 10 true (.load none (.t 13)),
 Ig 15 10 true (.bin .eql (.t 12) (.t 14)),
 It 16 (.pick (.t 10) (.t 15) (.c (.b false))),
 Mv 17 16,
 Ig 18 17 true (.off (.t 2) 2),
 Ig 19 17 true (.load none (.t 18)),
 Ig 20 17 true (.off (.t 3) 2),
 Ig 21 17 true (.load none (.t 20)),
 Ig 22 17 true (.bin .eql (.t 19) (.t 21)),
 It 23 (.pick (.t 17) (.t 22) (.c (.b false))),
 Mv 24 23,
 Ig 25 24 true (.off (.t 2) 4),
 Ig 26 24 true (.load none (.t 25)),
 Ig 27 24 true (.off (.t 3) 4),
 Ig 28 24 true (.load none (.t 27)),
 Ig 29 24 true (.call 78 [(.t 26),(.t 28)]),
 It 30 (.pick (.t 24) (.t 29) (.c (.b false))),
 Mv 31 30,
 Ig 32 31 true (.off (.t 2) 3),
 Ig 33 31 true (.load none (.t 32)),
 Ig 34 31 true (.off (.t 3) 3),
 Ig 35 31 true (.load none (.t 34)),
 Ig 36 31 true (.call 79 [(.t 33),(.t 35),(.f 71)]),
 It 37 (.pick (.t 31) (.t 36) (.c (.b false))),
 Mv 4 37] [2,3,5,6,7,8,9,10,11,12,13,14,15,16,17,18,19,20,21,22,23,24,25,26,27,28,29,30,31,32,33,34,35,36,37])
 .ret)),
    38,2,[.t 4],2⟩
theorem tr71:trFunc Tryd.prog (hz [] I71.body) 1 Tryd.f71=some (plain1 I71):=by kernel_rfl
theorem ck71:ckC 2 I71.body=true:=by kernel_rfl
def I72:IFunc :=
  ⟨(.seq (.region [It 3 (.box (.t 0)),
 It 4 (.mov (.c (.b false)))] [0,4])
 (.seq (.region [Lm 5 7 3,
 Ld 6 1,
 Ld 7 2,
 It 8 (.call 56 [(.t 5),(.t 6),(.t 7)]),
 It 9 (.un .not (.t 8)),
 Mv 4 9] [1,2,3,5,6,7,8,9])
 .ret)),
    10,3,[.t 4],2⟩
theorem tr72:trFunc Tryd.prog (hz [] I72.body) 1 Tryd.f72=some (plain1 I72):=by kernel_rfl
theorem ck72:ckC 2 I72.body=true:=by kernel_rfl
def L73a:ICode :=
  (.seq (.region [It 9 (.bin .lss (.t 8) (.t 7))] [])
 (.seq (.cond (.t 9)
 (.region [] [9])
 (.exit 0))
 (.seq (.block 1
 (.seq (.region [Mv 10 8,
 Mv 5 10] [10])
 (.seq (.region [Mv 11 1,
 Mv 12 0,
 Mv 13 5,
 Ia 14 7 12 13,
 Lm 15 7 14,
 It 16 (.callv (.t 11) [(.t 15)])] [11,12,13,14,15])
 (.cond (.t 16)
 (.seq (.region [Mv 17 5,
 Mv 4 17] [0,1,7,8,5,16,17])
 .ret)
 (.region [] [5,16])))))
 (.region [It 18 (.bin .add (.t 8) (.c (.i .i64 1))),
 Mv 8 18] [18]))))
def I73:IFunc :=
  ⟨(.seq (.region [It 4 (.mov (.c i0))] [4])
 (.seq (.seq (.region [Mv 6 0,
 Le 7 6,
 It 8 (.mov (.c i0))] [6])
 (.block 0
 (.loop L73a)))
 (.seq (.region [It 4 (.mov (.c (.i .i64 (-1))))] [0,1,7,8,9])
 .ret))),
    19,2,[.t 4],2⟩
theorem tr73:trFunc Tryd.prog (hz [] I73.body) 1 Tryd.f73=some (plain1 I73):=by kernel_rfl
theorem ck73:ckC 2 I73.body=true:=by kernel_rfl
def I74:IFunc :=
  ⟨(.seq (.region [It 1 (.box (.t 0)),
 It 2 (.mov (.c i0))] [0,2])
 (.seq (.seq (.region [Of 3 1 0,
 Ld 4 3] [3])
 (.block 0
 (.seq (.seq (.region [It 6 (.bin .eql (.t 4) (.c (.i .i64 6))),
 Mv 5 6] [6])
 (.cond (.t 5)
 .skip
 (.seq (.region [It 7 (.bin .eql (.t 4) (.c (.i .i64 8))),
 Mv 5 7] [7])
 (.cond (.t 5)
 .skip
 (.seq (.region [It 8 (.bin .eql (.t 4) (.c (.i .i64 10))),
 Mv 5 8] [8])
 (.cond (.t 5)
 .skip
 (.seq (.region [It 9 (.bin .eql (.t 4) (.c (.i .i64 11))),
 Mv 5 9] [9])
 (.cond (.t 5)
 .skip
 (.seq (.region [It 10 (.bin .eql (.t 4) (.c (.i .i64 12))),
 Mv 5 10] [10])
 (.cond (.t 5)
 .skip
 (.seq (.region [It 11 (.bin .eql (.t 4) (.c (.i .i64 13))),
 Mv 5 11] [11])
 (.cond (.t 5)
 .skip
 (.seq (.region [It 12 (.bin .eql (.t 4) (.c (.i .i64 41))),
 Mv 5 12] [12])
 (.cond (.t 5)
 .skip
 (.seq (.region [It 13 (.bin .eql (.t 4) (.c (.i .i64 43))),
 Mv 5 13] [13])
 (.cond (.t 5)
 .skip
 (.seq (.region [It 14 (.bin .eql (.t 4) (.c (.i .i64 44))),
 Mv 5 14] [14])
 (.cond (.t 5)
 .skip
 (.seq (.region [It 15 (.bin .eql (.t 4) (.c (.i .i64 45))),
 Mv 5 15] [15])
 (.cond (.t 5)
 .skip
 (.region [It 16 (.bin .eql (.t 4) (.c (.i .i64 48))),
 Mv 5 16] [16])))))))))))))))))))))
 (.cond (.t 5)
 (.seq (.region [It 2 (.mov (.c (.i .i64 1)))] [1,4,5])
 .ret)
 (.seq (.seq (.region [It 18 (.bin .eql (.t 4) (.c (.i .i64 7))),
 Mv 17 18] [5,18])
 (.cond (.t 17)
 .skip
 (.seq (.region [It 19 (.bin .eql (.t 4) (.c (.i .i64 14))),
 Mv 17 19] [19])
 (.cond (.t 17)
 .skip
 (.seq (.region [It 20 (.bin .eql (.t 4) (.c (.i .i64 15))),
 Mv 17 20] [20])
 (.cond (.t 17)
 .skip
 (.seq (.region [It 21 (.bin .eql (.t 4) (.c (.i .i64 16))),
 Mv 17 21] [21])
 (.cond (.t 17)
 .skip
 (.seq (.region [It 22 (.bin .eql (.t 4) (.c (.i .i64 17))),
 Mv 17 22] [22])
 (.cond (.t 17)
 .skip
 (.seq (.region [It 23 (.bin .eql (.t 4) (.c (.i .i64 42))),
 Mv 17 23] [23])
 (.cond (.t 17)
 .skip
 (.seq (.region [It 24 (.bin .eql (.t 4) (.c (.i .i64 46))),
 Mv 17 24] [24])
 (.cond (.t 17)
 .skip
 (.seq (.region [It 25 (.bin .eql (.t 4) (.c (.i .i64 47))),
 Mv 17 25] [25])
 (.cond (.t 17)
 .skip
 (.region [It 26 (.bin .eql (.t 4) (.c (.i .i64 49))),
 Mv 17 26] [26])))))))))))))))))
 (.cond (.t 17)
 (.seq (.region [It 2 (.mov (.c (.i .i64 2)))] [1,4,17])
 .ret)
 (.seq (.seq (.region [It 28 (.bin .eql (.t 4) (.c (.i .i64 20))),
 Mv 27 28] [17,28])
 (.cond (.t 27)
 .skip
 (.region [It 29 (.bin .eql (.t 4) (.c (.i .i64 18))),
 Mv 27 29] [29])))
 (.cond (.t 27)
 (.seq (.region [It 2 (.mov (.c (.i .i64 4)))] [1,4,27])
 .ret)
 (.seq (.region [It 31 (.bin .eql (.t 4) (.c (.i .i64 21))),
 Mv 30 31] [27,31])
 (.cond (.t 30)
 (.seq (.region [It 2 (.mov (.c (.i .i64 5)))] [1,4,30])
 .ret)
 (.seq (.region [It 33 (.bin .eql (.t 4) (.c (.i .i64 40))),
 Mv 32 33] [4,30,33])
 (.cond (.t 32)
 (.seq (.region [Of 34 1 1,
 Ld 35 34,
 Mv 2 35] [1,32,34,35])
 .ret)
 (.region [] [1,32])))))))))))))
 (.seq (.region [It 2 (.mov (.c (.i .i64 (-1))))] [])
 .ret))),
    36,1,[.t 2],2⟩
theorem tr74:trFunc Tryd.prog (hz [] I74.body) 1 Tryd.f74=some (plain1 I74):=by kernel_rfl
theorem ck74:ckC 2 I74.body=true:=by kernel_rfl
def I75:IFunc:=⟨cloneCode 5 80,8,1,[.t 2],4⟩
theorem tr75:trFunc Tryd.prog [([],[]),([],[]),([],[]),([],[]),([],[])] 1 Tryd.f75=some (plain1 I75):=by kernel_rfl
theorem ck75:ckC 2 (cloneCode 5 80)=true:=by kernel_rfl
def I76:IFunc :=
  ⟨(.seq (.region [It 2 (.mov (.c (.b false)))] [2])
 (.seq (.region [Mv 3 0,
 Le 4 3,
 It 5 (.bin .leq (.t 4) (.c (.i .i64 8))),
 Mv 6 5,
 Ig 7 6 true (.mov (.t 0)),
 Ig 8 6 true (.mov (.t 0)),
 Ig 9 6 true (.lenk 0 (.t 8)),
 Ig 10 6 true (.mksl 5 80 [i0,i0,(.s []),.ns,.ns] (.t 9) (.t 9)),
 Ig 11 6 true (.build [i0,i0,(.s []),.ns,.ns] [(0,1,(.c (.i .i64 5))),(4,1,(.t 7)),(3,1,(.t 10))]),
 Ig 12 6 true (.call 70 [(.t 11)]),
 It 13 (.pick (.t 6) (.t 12) (.c (.b false))),
 Mv 2 13] [0,3,4,5,6,7,8,9,10,11,12,13])
 .ret)),
    14,1,[.t 2],2⟩
theorem tr76:trFunc Tryd.prog (hz [] I76.body) 1 Tryd.f76=some (plain1 I76):=by kernel_rfl
theorem ck76:ckC 2 I76.body=true:=by kernel_rfl
def I77:IFunc :=
  ⟨(.seq (.region [It 2 (.mov (.c (.b false)))] [2])
 (.seq (.region [Mv 6 0,
 It 7 (.call 80 [(.t 6)]),
 Mv 5 7,
 Ex 8 5 0,
 Ex 9 5 1,
 It 3 (.alloc [i0,.ns,.ns]),
 Ss 3 3 8,
 Mv 4 9] [0,6,7,5,8,9,3])
 (.seq (.region [Mv 10 4,
 Mv 2 10] [4,10])
 .ret))),
    11,1,[.t 2],2⟩
theorem tr77:trFunc Tryd.prog (hz [] I77.body) 1 Tryd.f77=some (plain1 I77):=by kernel_rfl
theorem ck77:ckC 2 I77.body=true:=by kernel_rfl
def L78a:ICode :=
  (.seq (.region [It 14 (.bin .lss (.t 13) (.t 12))] [])
 (.seq (.cond (.t 14)
 (.region [] [14])
 (.exit 0))
 (.seq (.block 1
 (.seq (.region [Mv 15 13,
 Mv 5 15] [15])
 (.seq (.region [Mv 16 0,
 Mv 17 5,
 Ia 18 1 16 17,
 Ld 19 18,
 Mv 20 1,
 Mv 21 5,
 Ia 22 1 20 21,
 Ld 23 22,
 It 24 (.bin .neq (.t 19) (.t 23))] [5,16,17,18,19,20,21,22,23])
 (.cond (.t 24)
 (.seq (.region [It 4 (.mov (.c (.b false)))] [0,1,12,13,24])
 .ret)
 (.region [] [24])))))
 (.region [It 25 (.bin .add (.t 13) (.c (.i .i64 1))),
 Mv 13 25] [25]))))
def I78:IFunc :=
  ⟨(.seq (.region [It 4 (.mov (.c (.b false)))] [4])
 (.seq (.seq (.region [Mv 6 0,
 Le 7 6,
 Mv 8 1,
 Le 9 8,
 It 10 (.bin .neq (.t 7) (.t 9))] [6,7,8,9])
 (.cond (.t 10)
 (.seq (.region [It 4 (.mov (.c (.b false)))] [0,1,10])
 .ret)
 (.region [] [10])))
 (.seq (.seq (.region [Mv 11 0,
 Le 12 11,
 It 13 (.mov (.c i0))] [11])
 (.block 0
 (.loop L78a)))
 (.seq (.region [It 4 (.mov (.c (.b true)))] [0,1,12,13,14])
 .ret)))),
    26,2,[.t 4],2⟩
theorem tr78:trFunc Tryd.prog (hz [(8,[0,1,2,3,4,5,6,7,8])] I78.body) 1 Tryd.f78=some (plain1 I78):=by kernel_rfl
theorem ck78:ckC 2 I78.body=true:=by kernel_rfl
def L79a:ICode :=
  (.seq (.region [It 18 (.bin .lss (.t 17) (.t 16))] [])
 (.seq (.cond (.t 18)
 (.region [] [18])
 (.exit 0))
 (.seq (.block 1
 (.seq (.region [Mv 19 17,
 Ia 20 5 15 17,
 Lm 21 5 20,
 It 8 (.alloc [i0,i0,(.s []),.ns,.ns]),
 Mv 7 19,
 Ss 5 8 21] [19,20,21])
 (.seq (.region [Mv 22 1,
 Mv 23 7,
 Ia 24 5 22 23,
 Lm 25 5 24,
 It 9 (.alloc [i0,i0,(.s []),.ns,.ns]),
 Ss 5 9 25] [7,22,23,24,25])
 (.seq (.region [Mv 26 2,
 Lm 27 5 8,
 Lm 28 5 9,
 It 29 (.callv (.t 26) [(.t 27),(.t 28)]),
 It 30 (.un .not (.t 29))] [8,9,26,27,28,29])
 (.cond (.t 30)
 (.seq (.region [It 6 (.mov (.c (.b false)))] [1,2,15,16,17,30])
 .ret)
 (.region [] [30]))))))
 (.region [It 31 (.bin .add (.t 17) (.c (.i .i64 1))),
 Mv 17 31] [31]))))
def I79:IFunc :=
  ⟨(.seq (.region [It 6 (.mov (.c (.b false)))] [6])
 (.seq (.seq (.region [Mv 10 0,
 Le 11 10,
 Mv 12 1,
 Le 13 12,
 It 14 (.bin .neq (.t 11) (.t 13))] [10,11,12,13])
 (.cond (.t 14)
 (.seq (.region [It 6 (.mov (.c (.b false)))] [0,1,2,14])
 .ret)
 (.region [] [14])))
 (.seq (.seq (.region [Mv 15 0,
 Le 16 15,
 It 17 (.mov (.c i0))] [0])
 (.block 0
 (.loop L79a)))
 (.seq (.region [It 6 (.mov (.c (.b true)))] [1,2,15,16,17,18])
 .ret)))),
    32,3,[.t 6],2⟩
theorem tr79:trFunc Tryd.prog (hz [] I79.body) 1 Tryd.f79=some (plain1 I79):=by kernel_rfl
theorem ck79:ckC 2 I79.body=true:=by kernel_rfl
def I80:IFunc :=
  ⟨(.seq (.region [It 2 (.alloc [i0,.ns,.ns]),
 It 3 (.mov (.c (.b false)))] [3])
 (.seq (.seq (.region [Mv 7 0,
 It 8 (.lenk 1 (.t 7)),
 It 9 (.bin .gtr (.t 8) (.c (.i .i64 64)))] [7,8])
 (.cond (.t 9)
 (.seq (.region [It 10 (.build [i0,.ns,.ns] []),
 Ss 3 2 10,
 It 3 (.mov (.c (.b false)))] [0,9,10])
 .ret)
 (.region [] [9])))
 (.seq (.region [Mv 12 0,
 It 13 (.call 81 [(.t 12)]),
 Mv 11 13,
 Ex 14 11 0,
 Ex 15 11 1,
 Ex 16 11 2,
 It 4 (.alloc [i0,.ns,.ns]),
 Ss 3 4 14,
 Mv 5 15,
 Mv 6 16] [0,12,13,11,14,15,16])
 (.seq (.region [Lm 17 3 4,
 Mv 18 6,
 Mv 19 18,
 Ig 20 19 true (.mov (.t 5)),
 Ig 21 19 true (.bin .eql (.t 20) (.c (.s []))),
 It 22 (.pick (.t 19) (.t 21) (.c (.b false))),
 Ss 3 2 17,
 Mv 3 22] [4,5,6,17,18,19,20,21,22])
 .ret)))),
    23,1,[.c 2 (some 3),.t 3],2⟩
theorem tr80:trFunc Tryd.prog (hz [] I80.body) 1 Tryd.f80=some (plain1 I80):=by kernel_rfl
theorem ck80:ckC 2 I80.body=true:=by kernel_rfl
def L81a:ICode :=
  (.seq (.seq (.region [Mv 49 9,
 Mv 50 0,
 It 51 (.lenk 1 (.t 50)),
 It 52 (.bin .lss (.t 49) (.t 51)),
 Mv 53 52,
 Ig 54 53 true (.mov (.t 0)),
 Ig 55 53 true (.mov (.t 9)),
 Ig 56 53 true (.idxS (.t 54) (.t 55)),
 Ig 57 53 true (.bin .geq (.t 56) (.c (.i .u8 (97)))),
 It 58 (.pick (.t 53) (.t 57) (.c (.b false))),
 Mv 59 58,
 Ig 60 59 true (.mov (.t 0)),
 Ig 61 59 true (.mov (.t 9)),
 Ig 62 59 true (.idxS (.t 60) (.t 61)),
 Ig 63 59 true (.bin .leq (.t 62) (.c (.i .u8 (122)))),
 It 64 (.pick (.t 59) (.t 63) (.c (.b false)))] [49,50,51,52,53,54,55,56,57,58,59,60,61,62,63])
 (.cond (.t 64)
 (.region [] [64])
 (.exit 1)))
 (.block 2
 (.region [Mv 65 9,
 It 66 (.bin .add (.t 65) (.c (.i .i64 1))),
 Mv 9 66] [65,66])))
def I81:IFunc :=
  ⟨(.seq (.region [It 2 (.alloc [i0,.ns,.ns]),
 It 3 (.mov (.c (.s []))),
 It 4 (.mov (.c (.b false)))] [3,4])
 (.seq (.block 0
 (.seq (.region [Mv 12 0,
 It 13 (.call 82 [(.t 12),(.c (.s [91]))]),
 Mv 11 13] [12,13])
 (.cond (.t 11)
 (.seq (.region [Mv 15 0,
 It 16 (.slS (.t 15) (some (.c (.i .i64 1))) none),
 It 17 (.call 81 [(.t 16)]),
 Mv 14 17,
 Ex 18 14 0,
 Ex 19 14 1,
 Ex 20 14 2,
 It 5 (.alloc [i0,.ns,.ns]),
 Ss 3 5 18,
 Mv 6 19,
 Mv 7 20] [0,11,15,16,17,14,18,19,20])
 (.seq (.region [Mv 22 6,
 It 23 (.call 83 [(.t 22),(.c (.s [93]))]),
 Mv 21 23,
 Ex 24 21 0,
 Ex 25 21 1,
 Mv 6 24,
 Mv 8 25] [22,23,21,24,25])
 (.seq (.region [Lm 26 3 5,
 It 27 (.bsl 3 1 [i0,.ns,.ns] [(0,3,(.t 26))]),
 It 28 (.build [i0,.ns,.ns] [(0,1,(.c (.i .i64 4))),(2,1,(.t 27))]),
 Mv 29 6,
 Mv 30 7,
 Mv 31 30,
 Ig 32 31 true (.mov (.t 8)),
 It 33 (.pick (.t 31) (.t 32) (.c (.b false))),
 Ss 3 2 28,
 Mv 3 29,
 Mv 4 33] [5,6,7,8,26,27,28,29,30,31,32,33])
 .ret)))
 (.seq (.region [Mv 35 0,
 It 36 (.call 82 [(.t 35),(.c (.s [123,125]))]),
 Mv 34 36] [11,35,36])
 (.cond (.t 34)
 (.seq (.region [It 37 (.build [i0,.ns,.ns] [(0,1,(.c (.i .i64 5)))]),
 Mv 38 0,
 It 39 (.slS (.t 38) (some (.c (.i .i64 2))) none),
 Ss 3 2 37,
 Mv 3 39,
 It 4 (.mov (.c (.b true)))] [0,34,37,38,39])
 .ret)
 (.seq (.region [Mv 41 0,
 It 42 (.call 82 [(.t 41),(.c (.s [123]))]),
 Mv 40 42] [34,41,42])
 (.cond (.t 40)
 (.seq (.region [Mv 43 0,
 It 44 (.slS (.t 43) (some (.c (.i .i64 1))) none),
 It 45 (.call 84 [(.t 44)]),
 Ex 46 45 0,
 Ex 47 45 1,
 Ex 48 45 2,
 Ss 3 2 46,
 Mv 3 47,
 Mv 4 48] [0,40,43,44,45,46,47,48])
 .ret)
 (.region [] [40]))))))))
 (.seq (.region [It 9 (.mov (.c i0))] [])
 (.seq (.block 1
 (.loop L81a))
 (.seq (.region [Mv 67 0,
 Mv 68 9,
 It 69 (.slS (.t 67) none (some (.t 68))),
 It 70 (.call 85 [(.t 69)]),
 Mv 10 70] [64,67,68,69,70])
 (.seq (.region [Mv 71 10,
 It 72 (.build [i0,.ns,.ns] [(0,1,(.t 71))]),
 Mv 73 0,
 Mv 74 9,
 It 75 (.slS (.t 73) (some (.t 74)) none),
 Mv 76 10,
 It 77 (.bin .geq (.t 76) (.c i0)),
 Ss 3 2 72,
 Mv 3 75,
 Mv 4 77] [0,9,10,71,72,73,74,75,76,77])
 .ret)))))),
    78,1,[.c 2 (some 3),.t 3,.t 4],2⟩
theorem tr81:trFunc Tryd.prog (hz [(6,[0,1,2,3,4,5]),(15,[0,1,2,3,4,5,6,7,8,9])] I81.body) 1 Tryd.f81=some (plain1 I81):=by kernel_rfl
theorem ck81:ckC 2 I81.body=true:=by kernel_rfl
def I82:IFunc :=
  ⟨(.seq (.region [It 4 (.mov (.c (.b false)))] [4])
 (.seq (.region [Mv 5 0,
 Mv 6 1,
 It 7 (.call 86 [(.t 5),(.t 6)]),
 Mv 4 7] [0,1,5,6,7])
 .ret)),
    8,2,[.t 4],2⟩
theorem tr82:trFunc Tryd.prog (hz [] I82.body) 1 Tryd.f82=some (plain1 I82):=by kernel_rfl
theorem ck82:ckC 2 I82.body=true:=by kernel_rfl
def I83:IFunc :=
  ⟨(.seq (.region [It 4 (.mov (.c (.s []))),
 It 5 (.mov (.c (.b false)))] [4,5])
 (.seq (.region [Mv 6 0,
 Mv 7 1,
 It 8 (.call 87 [(.t 6),(.t 7)]),
 Ex 9 8 0,
 Ex 10 8 1,
 Mv 4 9,
 Mv 5 10] [0,1,6,7,8,9,10])
 .ret)),
    11,2,[.t 4,.t 5],2⟩
theorem tr83:trFunc Tryd.prog (hz [] I83.body) 1 Tryd.f83=some (plain1 I83):=by kernel_rfl
theorem ck83:ckC 2 I83.body=true:=by kernel_rfl
def L84a:ICode :=
  (.block 1
 (.seq (.region [Mv 13 0,
 It 14 (.call 88 [(.t 13),(.c (.s [58]))]),
 Mv 12 14,
 Ex 15 12 0,
 Ex 16 12 1,
 Ex 17 12 2,
 Mv 5 15,
 Mv 6 16,
 Mv 7 17] [0,58,13,14,12,15,16,17])
 (.seq (.region [Mv 19 6,
 It 20 (.call 81 [(.t 19)]),
 Mv 18 20,
 Ex 21 18 0,
 Ex 22 18 1,
 Ex 23 18 2,
 It 8 (.alloc [i0,.ns,.ns]),
 Ss 3 8 21,
 Mv 9 22,
 Mv 10 23] [6,19,20,18,21,22,23])
 (.seq (.seq (.region [Mv 24 7,
 It 25 (.un .not (.t 24)),
 Mv 26 25,
 Ig 27 26 false (.mov (.t 10)),
 Ig 28 26 false (.un .not (.t 27)),
 It 29 (.pick (.t 26) (.c (.b true)) (.t 28)),
 Mv 30 29,
 Ig 31 30 false (.mov (.t 9)),
 Ig 32 30 false (.bin .eql (.t 31) (.c (.s []))),
 It 33 (.pick (.t 30) (.c (.b true)) (.t 32))] [7,10,24,25,26,27,28,29,30,31,32])
 (.cond (.t 33)
 (.seq (.region [It 34 (.build [i0,.ns,.ns] []),
 Ss 3 2 34,
 It 3 (.mov (.c (.s []))),
 It 4 (.mov (.c (.b false)))] [5,8,9,33,34])
 .ret)
 (.region [] [33])))
 (.seq (.region [Of 35 2 1,
 Ld 36 35,
 Mv 37 5,
 It 38 (.bsl 1 1 [(.s [])] [(0,1,(.t 37))]),
 Of 40 2 2,
 Ld 41 40,
 Lm 42 3 8,
 It 43 (.bsl 3 1 [i0,.ns,.ns] [(0,3,(.t 42))]),
 ⟨(some 39),(.app 1 16 (.t 36) (.t 38)),none,[(41,(.load none (.t 40)),none),(42,(.load (some 3) (.t 8)),none)]⟩,
 Of 45 2 1,
 It 44 (.app 3 56 (.t 41) (.t 43)),
 Ss 1 45 39,
 Of 46 2 2,
 Ss 1 46 44] [5,8,35,36,37,38,40,41,42,43,39,45,44,46])
 (.seq (.region [Mv 47 9,
 It 48 (.slS (.t 47) (some (.c (.i .i64 1))) none),
 Mv 0 48] [47,48])
 (.seq (.seq (.region [Mv 49 9,
 It 50 (.idxS (.t 49) (.c i0))] [9,49])
 (.block 2
 (.seq (.region [It 52 (.bin .eql (.t 50) (.c (.i .u8 (125)))),
 Mv 51 52] [52])
 (.cond (.t 51)
 (.seq (.region [Lm 53 3 2,
 Mv 54 0,
 Of 55 2 1,
 Ld 56 55,
 ⟨(some 57),(.call 53 [(.t 56)]),none,[(53,(.load (some 3) (.t 2)),none)]⟩,
 Ss 3 2 53,
 Mv 3 54,
 Mv 4 57] [0,50,51,53,54,55,56,57])
 .ret)
 (.seq (.region [It 59 (.bin .eql (.t 50) (.c (.i .u8 (44)))),
 Mv 58 59] [50,51,59])
 (.cond (.t 58)
 (.exit 1)
 (.region [] [0,58])))))))
 (.seq (.region [It 60 (.build [i0,.ns,.ns] []),
 Ss 3 2 60,
 It 3 (.mov (.c (.s []))),
 It 4 (.mov (.c (.b false)))] [60])
 .ret))))))))
def I84:IFunc :=
  ⟨(.seq (.region [It 2 (.alloc [i0,.ns,.ns]),
 It 3 (.mov (.c (.s []))),
 It 4 (.mov (.c (.b false)))] [3,4])
 (.seq (.region [Of 11 2 0,
 ⟨none,(.store 1 (.t 11) (.c (.i .i64 5))),none,[]⟩] [11])
 (.block 0
 (.loop L84a)))),
    61,1,[.c 2 (some 3),.t 3,.t 4],2⟩
theorem tr84:trFunc Tryd.prog (hz [(7,[0,1,2,3,5,6,7,8,4,10,9,11,12,13]),(11,[0,1,2,3,4,5,6,7])] I84.body) 1 Tryd.f84=some (plain1 I84):=by kernel_rfl
theorem ck84:ckC 2 I84.body=true:=by kernel_rfl
def I85:IFunc :=
  ⟨(.seq (.region [It 2 (.mov (.c i0))] [2])
 (.seq (.seq (.region [Mv 3 0] [0])
 (.block 0
 (.seq (.region [It 5 (.bin .eql (.t 3) (.c (.s [110,111,110,101]))),
 Mv 4 5] [5])
 (.cond (.t 4)
 (.seq (.region [It 2 (.mov (.c i0))] [3,4])
 .ret)
 (.seq (.region [It 7 (.bin .eql (.t 3) (.c (.s [105,110,116]))),
 Mv 6 7] [4,7])
 (.cond (.t 6)
 (.seq (.region [It 2 (.mov (.c (.i .i64 1)))] [3,6])
 .ret)
 (.seq (.region [It 9 (.bin .eql (.t 3) (.c (.s [98,111,111,108]))),
 Mv 8 9] [6,9])
 (.cond (.t 8)
 (.seq (.region [It 2 (.mov (.c (.i .i64 2)))] [3,8])
 .ret)
 (.seq (.region [It 11 (.bin .eql (.t 3) (.c (.s [116,101,120,116]))),
 Mv 10 11] [8,11])
 (.cond (.t 10)
 (.seq (.region [It 2 (.mov (.c (.i .i64 3)))] [3,10])
 .ret)
 (.seq (.region [It 13 (.bin .eql (.t 3) (.c (.s [102,117,116,117,114,101]))),
 Mv 12 13] [3,10,13])
 (.cond (.t 12)
 (.seq (.region [It 2 (.mov (.c (.i .i64 6)))] [12])
 .ret)
 (.region [] [12])))))))))))))
 (.seq (.region [It 2 (.mov (.c (.i .i64 (-1))))] [])
 .ret))),
    14,1,[.t 2],2⟩
theorem tr85:trFunc Tryd.prog (hz [] I85.body) 1 Tryd.f85=some (plain1 I85):=by kernel_rfl
theorem ck85:ckC 2 I85.body=true:=by kernel_rfl
def I86:IFunc :=
  ⟨(.seq (.region [It 4 (.mov (.c (.b false)))] [4])
 (.seq (.region [Mv 5 0,
 It 6 (.lenk 1 (.t 5)),
 Mv 7 1,
 It 8 (.lenk 1 (.t 7)),
 It 9 (.bin .geq (.t 6) (.t 8)),
 Mv 10 9,
 Ig 11 10 true (.mov (.t 0)),
 Ig 12 10 true (.mov (.t 1)),
 Ig 13 10 true (.lenk 1 (.t 12)),
 Ig 14 10 true (.slS (.t 11) none (some (.t 13))),
 Ig 15 10 true (.mov (.t 1)),
 Ig 16 10 true (.bin .eql (.t 14) (.t 15)),
 It 17 (.pick (.t 10) (.t 16) (.c (.b false))),
 Mv 4 17] [0,1,5,6,7,8,9,10,11,12,13,14,15,16,17])
 .ret)),
    18,2,[.t 4],2⟩
theorem tr86:trFunc Tryd.prog (hz [] I86.body) 1 Tryd.f86=some (plain1 I86):=by kernel_rfl
theorem ck86:ckC 2 I86.body=true:=by kernel_rfl
def I87:IFunc :=
  ⟨(.seq (.region [It 4 (.mov (.c (.s []))),
 It 5 (.mov (.c (.b false)))] [4,5])
 (.seq (.seq (.region [Mv 6 0,
 Mv 7 1,
 It 8 (.call 86 [(.t 6),(.t 7)]),
 It 9 (.un .not (.t 8))] [6,7,8])
 (.cond (.t 9)
 (.seq (.region [Mv 10 0,
 Mv 4 10,
 It 5 (.mov (.c (.b false)))] [0,1,9,10])
 .ret)
 (.region [] [9])))
 (.seq (.region [Mv 11 0,
 Mv 12 1,
 It 13 (.lenk 1 (.t 12)),
 It 14 (.slS (.t 11) (some (.t 13)) none),
 Mv 4 14,
 It 5 (.mov (.c (.b true)))] [0,1,11,12,13,14])
 .ret))),
    15,2,[.t 4,.t 5],2⟩
theorem tr87:trFunc Tryd.prog (hz [] I87.body) 1 Tryd.f87=some (plain1 I87):=by kernel_rfl
theorem ck87:ckC 2 I87.body=true:=by kernel_rfl
def I88:IFunc :=
  ⟨(.seq (.region [It 4 (.mov (.c (.s []))),
 It 5 (.mov (.c (.s []))),
 It 6 (.mov (.c (.b false)))] [4,5,6])
 (.seq (.region [Mv 7 0,
 Mv 8 1,
 It 9 (.call 89 [(.t 7),(.t 8)]),
 Ex 10 9 0,
 Ex 11 9 1,
 Ex 12 9 2,
 Mv 4 10,
 Mv 5 11,
 Mv 6 12] [0,1,7,8,9,10,11,12])
 .ret)),
    13,2,[.t 4,.t 5,.t 6],2⟩
theorem tr88:trFunc Tryd.prog (hz [] I88.body) 1 Tryd.f88=some (plain1 I88):=by kernel_rfl
theorem ck88:ckC 2 I88.body=true:=by kernel_rfl
def I89:IFunc :=
  ⟨(.seq (.region [It 4 (.mov (.c (.s []))),
 It 5 (.mov (.c (.s []))),
 It 6 (.mov (.c (.b false)))] [4,5,6])
 (.seq (.seq (.region [Mv 8 0,
 Mv 9 1,
 It 10 (.call 90 [(.t 8),(.t 9)]),
 Mv 7 10] [8,9,10])
 (.seq (.region [Mv 11 7,
 It 12 (.bin .geq (.t 11) (.c i0))] [11])
 (.cond (.t 12)
 (.seq (.region [Mv 13 0,
 Mv 14 7,
 It 15 (.slS (.t 13) none (some (.t 14))),
 Mv 16 0,
 Mv 17 7,
 Mv 18 1,
 It 19 (.lenk 1 (.t 18)),
 It 20 (.bin .add (.t 17) (.t 19)),
 It 21 (.slS (.t 16) (some (.t 20)) none),
 Mv 4 15,
 Mv 5 21,
 It 6 (.mov (.c (.b true)))] [0,1,7,12,13,14,15,16,17,18,19,20,21])
 .ret)
 (.region [] [1,7,12]))))
 (.seq (.region [Mv 22 0,
 Mv 4 22,
 It 5 (.mov (.c (.s []))),
 It 6 (.mov (.c (.b false)))] [0,22])
 .ret))),
    23,2,[.t 4,.t 5,.t 6],2⟩
theorem tr89:trFunc Tryd.prog (hz [(3,[0,1,2,3,4,5,6,7,8,9,10,11])] I89.body) 1 Tryd.f89=some (plain1 I89):=by kernel_rfl
theorem ck89:ckC 2 I89.body=true:=by kernel_rfl
def L90a:ICode :=
  (.seq (.seq (.region [Mv 57 8,
 Mv 58 9,
 It 59 (.bin .lss (.t 57) (.t 58))] [57,58])
 (.cond (.t 59)
 (.region [] [59])
 (.exit 1)))
 (.block 2
 (.seq (.seq (.region [Mv 60 0,
 Mv 61 8,
 It 62 (.idxS (.t 60) (.t 61)),
 Mv 63 6,
 It 64 (.bin .neq (.t 62) (.t 63))] [60,61,62,63])
 (.cond (.t 64)
 (.seq (.region [Mv 65 0,
 Mv 66 8,
 It 67 (.bin .add (.t 66) (.c (.i .i64 1))),
 Mv 68 9,
 It 69 (.slS (.t 65) (some (.t 67)) (some (.t 68))),
 Mv 70 6,
 It 71 (.call 91 [(.t 69),(.t 70)]),
 Mv 11 71] [64,65,66,67,68,69,70,71])
 (.seq (.seq (.region [Mv 72 11,
 It 73 (.bin .lss (.t 72) (.c i0))] [72])
 (.cond (.t 73)
 (.seq (.region [It 4 (.mov (.c (.i .i64 (-1))))] [0,1,5,6,7,8,9,10,11,73])
 .ret)
 (.region [] [73])))
 (.region [Mv 74 8,
 Mv 75 11,
 It 76 (.bin .add (.t 75) (.c (.i .i64 1))),
 It 77 (.bin .add (.t 74) (.t 76)),
 Mv 8 77] [11,74,75,76,77])))
 (.region [] [64])))
 (.seq (.seq (.region [Mv 78 0,
 Mv 79 8,
 It 80 (.bin .add (.t 79) (.c (.i .i64 1))),
 It 81 (.idxS (.t 78) (.t 80)),
 Mv 82 7,
 It 83 (.bin .eql (.t 81) (.t 82)),
 Mv 84 83,
 Ig 85 84 true (.mov (.t 0)),
 Ig 86 84 true (.mov (.t 8)),
 Ig 87 84 true (.mov (.t 8)),
 Ig 88 84 true (.mov (.t 5)),
 Ig 89 84 true (.bin .add (.t 87) (.t 88)),
 Ig 90 84 true (.slS (.t 85) (some (.t 86)) (some (.t 89))),
 Ig 91 84 true (.mov (.t 1)),
 Ig 92 84 true (.bin .eql (.t 90) (.t 91)),
 It 93 (.pick (.t 84) (.t 92) (.c (.b false)))] [78,79,80,81,82,83,84,85,86,87,88,89,90,91,92])
 (.cond (.t 93)
 (.seq (.region [Mv 94 8,
 Mv 4 94] [0,1,5,6,7,8,9,10,93,94])
 .ret)
 (.region [] [93])))
 (.seq (.region [Mv 95 8,
 It 96 (.bin .add (.t 95) (.c (.i .i64 1))),
 Mv 8 96] [95,96])
 (.seq (.region [Mv 97 10,
 It 98 (.bin .add (.t 97) (.c (.i .i64 1))),
 Mv 10 98] [97,98])
 (.seq (.region [Mv 99 5,
 It 100 (.load none (.g 1)),
 It 101 (.bin .leq (.t 99) (.t 100)),
 Mv 102 101,
 Ig 103 102 true (.mov (.t 10)),
 Ig 104 102 true (.mov (.t 8)),
 Ig 105 102 true (.call 93 [(.t 104)]),
 Ig 106 102 true (.bin .gtr (.t 103) (.t 105)),
 It 107 (.pick (.t 102) (.t 106) (.c (.b false)))] [99,100,101,102,103,104,105,106])
 (.cond (.t 107)
 (.seq (.region [Mv 108 0,
 Mv 109 8,
 It 110 (.slS (.t 108) (some (.t 109)) none),
 Mv 111 1,
 It 112 (.call 92 [(.t 110),(.t 111)]),
 Mv 12 112] [0,1,5,6,7,9,10,107,108,109,110,111,112])
 (.seq (.seq (.region [Mv 113 12,
 It 114 (.bin .geq (.t 113) (.c i0))] [113])
 (.cond (.t 114)
 (.seq (.region [Mv 115 12,
 Mv 116 8,
 It 117 (.bin .add (.t 115) (.t 116)),
 Mv 4 117] [8,12,114,115,116,117])
 .ret)
 (.region [] [8,12,114])))
 (.seq (.region [It 4 (.mov (.c (.i .i64 (-1))))] [])
 .ret)))
 (.seq (.region [Mv 118 5,
 It 119 (.load none (.g 1)),
 It 120 (.bin .gtr (.t 118) (.t 119)),
 Mv 121 120,
 Ig 122 121 true (.mov (.t 10)),
 Ig 123 121 true (.mov (.t 8)),
 Ig 124 121 true (.bin .shr (.t 123) (.c (.i .u64 (4)))),
 Ig 125 121 true (.bin .add (.c (.i .i64 4)) (.t 124)),
 Ig 126 121 true (.bin .geq (.t 122) (.t 125)),
 It 127 (.pick (.t 121) (.t 126) (.c (.b false))),
 Mv 128 127,
 Ig 129 128 true (.mov (.t 8)),
 Ig 130 128 true (.mov (.t 9)),
 Ig 131 128 true (.bin .lss (.t 129) (.t 130)),
 It 132 (.pick (.t 128) (.t 131) (.c (.b false)))] [107,118,119,120,121,122,123,124,125,126,127,128,129,130,131])
 (.cond (.t 132)
 (.seq (.region [Mv 133 0,
 Mv 134 8,
 It 135 (.slS (.t 133) (some (.t 134)) none),
 Mv 136 1,
 It 137 (.call 94 [(.t 135),(.t 136)]),
 Mv 13 137] [0,1,5,6,7,9,10,132,133,134,135,136,137])
 (.seq (.seq (.region [Mv 138 13,
 It 139 (.bin .lss (.t 138) (.c i0))] [138])
 (.cond (.t 139)
 (.seq (.region [It 4 (.mov (.c (.i .i64 (-1))))] [8,13,139])
 .ret)
 (.region [] [139])))
 (.seq (.region [Mv 140 8,
 Mv 141 13,
 It 142 (.bin .add (.t 140) (.t 141)),
 Mv 4 142] [8,13,140,141,142])
 .ret)))
 (.region [] [132])))))))))))
def I90:IFunc :=
  ⟨(.seq (.region [It 4 (.mov (.c i0))] [4])
 (.seq (.region [Mv 14 1,
 It 15 (.lenk 1 (.t 14)),
 Mv 5 15] [14,15])
 (.seq (.block 0
 (.seq (.region [Mv 17 5,
 It 18 (.bin .eql (.t 17) (.c i0)),
 Mv 19 18,
 Ig 20 19 false (.mov (.t 1)),
 Ig 21 19 false (.mov (.t 0)),
 Ig 22 19 false (.bin .eql (.t 20) (.t 21)),
 It 23 (.pick (.t 19) (.c (.b true)) (.t 22)),
 Mv 16 23] [17,18,19,20,21,22,23])
 (.cond (.t 16)
 (.seq (.region [It 4 (.mov (.c i0))] [0,1,5,16])
 .ret)
 (.seq (.region [Mv 25 5,
 It 26 (.bin .eql (.t 25) (.c (.i .i64 1))),
 Mv 24 26] [16,25,26])
 (.cond (.t 24)
 (.seq (.region [Mv 27 0,
 Mv 28 1,
 It 29 (.idxS (.t 28) (.c i0)),
 It 30 (.call 91 [(.t 27),(.t 29)]),
 Mv 4 30] [0,1,5,24,27,28,29,30])
 .ret)
 (.seq (.region [Mv 32 5,
 Mv 33 0,
 It 34 (.lenk 1 (.t 33)),
 It 35 (.bin .geq (.t 32) (.t 34)),
 Mv 31 35] [24,32,33,34,35])
 (.cond (.t 31)
 (.seq (.region [It 4 (.mov (.c (.i .i64 (-1))))] [0,1,5,31])
 .ret)
 (.seq (.region [Mv 37 5,
 It 38 (.load none (.g 1)),
 It 39 (.bin .leq (.t 37) (.t 38)),
 Mv 40 39,
 Ig 41 40 true (.mov (.t 0)),
 Ig 42 40 true (.lenk 1 (.t 41)),
 Ig 43 40 true (.bin .leq (.t 42) (.c (.i .i64 64))),
 It 44 (.pick (.t 40) (.t 43) (.c (.b false))),
 Mv 36 44] [31,37,38,39,40,41,42,43,44])
 (.cond (.t 36)
 (.seq (.region [Mv 45 0,
 Mv 46 1,
 It 47 (.call 92 [(.t 45),(.t 46)]),
 Mv 4 47] [0,1,5,36,45,46,47])
 .ret)
 (.region [] [36]))))))))))
 (.seq (.region [Mv 48 1,
 It 49 (.idxS (.t 48) (.c i0)),
 Mv 6 49] [48,49])
 (.seq (.region [Mv 50 1,
 It 51 (.idxS (.t 50) (.c (.i .i64 1))),
 Mv 7 51] [50,51])
 (.seq (.region [It 8 (.mov (.c i0))] [])
 (.seq (.region [Mv 52 0,
 It 53 (.lenk 1 (.t 52)),
 Mv 54 5,
 It 55 (.bin .sub (.t 53) (.t 54)),
 It 56 (.bin .add (.t 55) (.c (.i .i64 1))),
 Mv 9 56] [52,53,54,55,56])
 (.seq (.region [It 10 (.mov (.c i0))] [])
 (.seq (.block 1
 (.loop L90a))
 (.seq (.region [It 4 (.mov (.c (.i .i64 (-1))))] [0,1,5,6,7,8,9,10,59])
 .ret)))))))))),
    143,2,[.t 4],2⟩
theorem tr90:trFunc Tryd.prog (hz [] I90.body) 1 Tryd.f90=some (plain1 I90):=by kernel_rfl
theorem ck90:ckC 2 I90.body=true:=by kernel_rfl
def I91:IFunc :=
  ⟨(.seq (.region [It 4 (.mov (.c i0))] [4])
 (.seq (.region [Mv 5 0,
 Mv 6 1,
 It 7 (.call 95 [(.t 5),(.t 6)]),
 Mv 4 7] [0,1,5,6,7])
 .ret)),
    8,2,[.t 4],2⟩
theorem tr91:trFunc Tryd.prog (hz [] I91.body) 1 Tryd.f91=some (plain1 I91):=by kernel_rfl
theorem ck91:ckC 2 I91.body=true:=by kernel_rfl
def I93:IFunc :=
  ⟨(.seq (.region [It 2 (.mov (.c i0))] [2])
 (.seq (.region [Mv 3 0,
 It 4 (.bin .add (.t 3) (.c (.i .i64 16))),
 It 5 (.bin .quo (.t 4) (.c (.i .i64 8))),
 Mv 2 5] [0,3,4,5])
 .ret)),
    6,1,[.t 2],2⟩
theorem tr93:trFunc Tryd.prog (hz [] I93.body) 1 Tryd.f93=some (plain1 I93):=by kernel_rfl
theorem ck93:ckC 2 I93.body=true:=by kernel_rfl
def L94a:ICode :=
  (.seq (.seq (.region [Mv 18 9,
 Mv 19 7,
 It 20 (.bin .lss (.t 18) (.t 19))] [18,19])
 (.cond (.t 20)
 (.region [] [20])
 (.exit 0)))
 (.seq (.block 1
 (.region [Mv 23 8,
 It 24 (.bin .mul (.t 23) (.c (.i .u32 (16777619)))),
 Mv 25 0,
 Mv 26 9,
 It 27 (.idxS (.t 25) (.t 26)),
 It 28 (.conv .u32 (.t 27)),
 It 29 (.bin .add (.t 24) (.t 28)),
 Mv 8 29] [23,24,25,26,27,28,29]))
 (.region [Mv 21 9,
 It 22 (.bin .add (.t 21) (.c (.i .i64 1))),
 Mv 9 22] [21,22])))
def L94b:ICode :=
  (.seq (.seq (.region [Mv 41 10,
 Mv 42 0,
 It 43 (.lenk 1 (.t 42)),
 It 44 (.bin .lss (.t 41) (.t 43))] [41,42,43])
 (.cond (.t 44)
 (.region [] [44])
 (.exit 2)))
 (.block 3
 (.seq (.region [Mv 45 8,
 It 46 (.bin .mul (.t 45) (.c (.i .u32 (16777619)))),
 Mv 8 46] [45,46])
 (.seq (.region [Mv 47 8,
 Mv 48 0,
 Mv 49 10,
 It 50 (.idxS (.t 48) (.t 49)),
 It 51 (.conv .u32 (.t 50)),
 It 52 (.bin .add (.t 47) (.t 51)),
 Mv 8 52] [47,48,49,50,51,52])
 (.seq (.region [Mv 53 8,
 Mv 54 6,
 Mv 55 0,
 Mv 56 10,
 Mv 57 7,
 It 58 (.bin .sub (.t 56) (.t 57)),
 It 59 (.idxS (.t 55) (.t 58)),
 It 60 (.conv .u32 (.t 59)),
 It 61 (.bin .mul (.t 54) (.t 60)),
 It 62 (.bin .sub (.t 53) (.t 61)),
 Mv 8 62] [53,54,55,56,57,58,59,60,61,62])
 (.seq (.region [Mv 63 10,
 It 64 (.bin .add (.t 63) (.c (.i .i64 1))),
 Mv 10 64] [63,64])
 (.seq (.region [Mv 65 8,
 Mv 66 5,
 It 67 (.bin .eql (.t 65) (.t 66)),
 Mv 68 67,
 Ig 69 68 true (.mov (.t 0)),
 Ig 70 68 true (.mov (.t 10)),
 Ig 71 68 true (.mov (.t 7)),
 Ig 72 68 true (.bin .sub (.t 70) (.t 71)),
 Ig 73 68 true (.mov (.t 10)),
 Ig 74 68 true (.slS (.t 69) (some (.t 72)) (some (.t 73))),
 Ig 75 68 true (.mov (.t 1)),
 Ig 76 68 true (.bin .eql (.t 74) (.t 75)),
 It 77 (.pick (.t 68) (.t 76) (.c (.b false)))] [65,66,67,68,69,70,71,72,73,74,75,76])
 (.cond (.t 77)
 (.seq (.region [Mv 78 10,
 Mv 79 7,
 It 80 (.bin .sub (.t 78) (.t 79)),
 Mv 4 80] [0,1,5,6,7,8,10,77,78,79,80])
 .ret)
 (.region [] [77])))))))))
def I94:IFunc :=
  ⟨(.seq (.region [It 4 (.mov (.c i0))] [4])
 (.seq (.region [Mv 12 1,
 It 13 (.call 96 [(.t 12)]),
 Mv 11 13,
 Ex 14 11 0,
 Ex 15 11 1,
 Mv 5 14,
 Mv 6 15] [12,13,11,14,15])
 (.seq (.region [Mv 16 1,
 It 17 (.lenk 1 (.t 16)),
 Mv 7 17] [16,17])
 (.seq (.region [It 8 (.mov (.c (.i .u32 (0))))] [])
 (.seq (.seq (.region [It 9 (.mov (.c i0))] [])
 (.block 0
 (.loop L94a)))
 (.seq (.seq (.region [Mv 30 8,
 Mv 31 5,
 It 32 (.bin .eql (.t 30) (.t 31)),
 Mv 33 32,
 Ig 34 33 true (.mov (.t 0)),
 Ig 35 33 true (.mov (.t 7)),
 Ig 36 33 true (.slS (.t 34) none (some (.t 35))),
 Ig 37 33 true (.mov (.t 1)),
 Ig 38 33 true (.bin .eql (.t 36) (.t 37)),
 It 39 (.pick (.t 33) (.t 38) (.c (.b false)))] [9,20,30,31,32,33,34,35,36,37,38])
 (.cond (.t 39)
 (.seq (.region [It 4 (.mov (.c i0))] [0,1,5,6,7,8,39])
 .ret)
 (.region [] [39])))
 (.seq (.seq (.region [Mv 40 7,
 Mv 10 40] [40])
 (.block 2
 (.loop L94b)))
 (.seq (.region [It 4 (.mov (.c (.i .i64 (-1))))] [0,1,5,6,7,8,10,44])
 .ret)))))))),
    81,2,[.t 4],2⟩
theorem tr94:trFunc Tryd.prog (hz [] I94.body) 1 Tryd.f94=some (plain1 I94):=by kernel_rfl
theorem ck94:ckC 2 I94.body=true:=by kernel_rfl
def I95:IFunc:=extFn
def L96a:ICode :=
  (.seq (.seq (.region [Mv 9 5,
 Mv 10 0,
 It 11 (.lenk 1 (.t 10)),
 It 12 (.bin .lss (.t 9) (.t 11))] [9,10,11])
 (.cond (.t 12)
 (.region [] [12])
 (.exit 0)))
 (.seq (.block 1
 (.region [Mv 15 4,
 It 16 (.bin .mul (.t 15) (.c (.i .u32 (16777619)))),
 Mv 17 0,
 Mv 18 5,
 It 19 (.idxS (.t 17) (.t 18)),
 It 20 (.conv .u32 (.t 19)),
 It 21 (.bin .add (.t 16) (.t 20)),
 Mv 4 21] [15,16,17,18,19,20,21]))
 (.region [Mv 13 5,
 It 14 (.bin .add (.t 13) (.c (.i .i64 1))),
 Mv 5 14] [13,14])))
def L96b:ICode :=
  (.seq (.seq (.region [Mv 24 8,
 It 25 (.bin .gtr (.t 24) (.c i0))] [24])
 (.cond (.t 25)
 (.region [] [25])
 (.exit 2)))
 (.seq (.block 3
 (.seq (.seq (.region [Mv 28 8,
 It 29 (.bin .and (.t 28) (.c (.i .i64 1))),
 It 30 (.bin .neq (.t 29) (.c i0))] [28,29])
 (.cond (.t 30)
 (.region [Mv 31 6,
 Mv 32 7,
 It 33 (.bin .mul (.t 31) (.t 32)),
 Mv 6 33] [30,31,32,33])
 (.region [] [30])))
 (.region [Mv 34 7,
 Mv 35 7,
 It 36 (.bin .mul (.t 34) (.t 35)),
 Mv 7 36] [34,35,36])))
 (.region [Mv 26 8,
 It 27 (.bin .shr (.t 26) (.c (.i .u64 (1)))),
 Mv 8 27] [26,27])))
def I96:IFunc :=
  ⟨(.seq (.region [It 2 (.mov (.c (.i .u32 (0)))),
 It 3 (.mov (.c (.i .u32 (0))))] [2,3])
 (.seq (.region [It 4 (.mov (.c (.i .u32 (0))))] [])
 (.seq (.seq (.region [It 5 (.mov (.c i0))] [])
 (.block 0
 (.loop L96a)))
 (.seq (.region [It 6 (.mov (.c (.i .u32 (1)))),
 It 7 (.mov (.c (.i .u32 (16777619))))] [5,12])
 (.seq (.seq (.region [Mv 22 0,
 It 23 (.lenk 1 (.t 22)),
 Mv 8 23] [0,22,23])
 (.block 2
 (.loop L96b)))
 (.seq (.region [Mv 37 4,
 Mv 38 6,
 Mv 2 37,
 Mv 3 38] [4,6,7,8,25,37,38])
 .ret)))))),
    39,1,[.t 2,.t 3],2⟩
theorem tr96:trFunc Tryd.prog (hz [] I96.body) 1 Tryd.f96=some (plain1 I96):=by kernel_rfl
theorem ck96:ckC 2 I96.body=true:=by kernel_rfl
def tab:List (Nat×IFunc):=[(3,I3),(4,I4),(5,I5),(6,I6),(7,I7),(8,I8),(9,I9),(10,I10),(11,I11),(12,I12),(13,I13),(14,I14),(15,I15),(16,I16),(17,I17),(18,I18),(19,I19),(20,I20),(21,I21),(22,I22),(23,I23),(24,I24),(25,I25),(26,I26),(27,I27),(28,I28),(29,I29),(30,I30),(31,I31),(32,I32),(33,I33),(34,I34),(35,I35),(36,I36),(37,I37),(38,I38),(39,I39),(40,I40),(41,I41),(42,I42),(43,I43),(44,I44),(45,I45),(46,I46),(47,I47),(48,I48),(49,I49),(50,I50),(51,I51),(52,I52),(53,I53),(54,I54),(55,I55),(56,I56),(57,I57),(58,I58),(59,I59),(60,I60),(61,I61),(62,I62),(63,I63),(64,I64),(65,I65),(66,I66),(67,I67),(68,I68),(69,I69),(70,I70),(71,I71),(72,I72),(73,I73),(74,I74),(75,I75),(76,I76),(77,I77),(78,I78),(79,I79),(80,I80),(81,I81),(82,I82),(83,I83),(84,I84),(85,I85),(86,I86),(87,I87),(88,I88),(89,I89),(90,I90),(91,I91),(93,I93),(94,I94),(95,I95),(96,I96)]
theorem tab_all:TabAll Tryd.prog (plainT tab) :=
 .cons Tryd.func3 tr3<|.cons Tryd.func4 tr4<|.cons Tryd.func5 tr5<|.cons Tryd.func6 tr6<|.cons Tryd.func7 tr7<|.cons Tryd.func8 tr8<|.cons Tryd.func9 tr9<|.cons Tryd.func10 tr10<|.cons Tryd.func11 tr11<|.cons Tryd.func12 tr12<|.cons Tryd.func13 tr13<|.cons Tryd.func14 tr14<|.cons Tryd.func15 tr15<|.cons Tryd.func16 tr16<|.cons Tryd.func17 tr17<|.cons Tryd.func18 tr18<|.cons Tryd.func19 tr19<|.cons Tryd.func20 tr20<|.cons Tryd.func21 tr21<|.cons Tryd.func22 tr22<|.cons Tryd.func23 tr23<|.cons Tryd.func24 tr24<|.cons Tryd.func25 tr25<|.cons Tryd.func26 tr26<|.cons Tryd.func27 tr27<|.cons Tryd.func28 tr28<|.cons Tryd.func29 tr29<|.cons Tryd.func30 tr30<|.cons Tryd.func31 tr31<|.cons Tryd.func32 tr32<|.cons Tryd.func33 tr33<|.cons Tryd.func34 tr34<|.cons Tryd.func35 tr35<|.cons Tryd.func36 tr36<|.cons Tryd.func37 tr37<|.cons Tryd.func38 tr38<|.cons Tryd.func39 tr39<|.cons Tryd.func40 tr40<|.cons Tryd.func41 tr41<|.cons Tryd.func42 tr42<|.cons Tryd.func43 tr43<|.cons Tryd.func44 tr44<|.cons Tryd.func45 tr45<|.cons Tryd.func46 tr46<|.cons Tryd.func47 tr47<|.cons Tryd.func48 tr48<|.cons Tryd.func49 tr49<|.cons Tryd.func50 tr50<|.cons Tryd.func51 tr51<|.cons Tryd.func52 tr52<|.cons Tryd.func53 tr53<|.cons Tryd.func54 tr54<|.cons Tryd.func55 tr55<|.cons Tryd.func56 tr56<|.cons Tryd.func57 tr57<|.cons Tryd.func58 tr58<|.cons Tryd.func59 tr59<|.cons Tryd.func60 tr60<|.cons Tryd.func61 tr61<|.cons Tryd.func62 tr62<|.cons Tryd.func63 tr63<|.cons Tryd.func64 tr64<|.cons Tryd.func65 tr65<|.cons Tryd.func66 tr66<|.cons Tryd.func67 tr67<|.cons Tryd.func68 tr68<|.cons Tryd.func69 tr69<|.cons Tryd.func70 tr70<|.cons Tryd.func71 tr71<|.cons Tryd.func72 tr72<|.cons Tryd.func73 tr73<|.cons Tryd.func74 tr74<|.cons Tryd.func75 tr75<|.cons Tryd.func76 tr76<|.cons Tryd.func77 tr77<|.cons Tryd.func78 tr78<|.cons Tryd.func79 tr79<|.cons Tryd.func80 tr80<|.cons Tryd.func81 tr81<|.cons Tryd.func82 tr82<|.cons Tryd.func83 tr83<|.cons Tryd.func84 tr84<|.cons Tryd.func85 tr85<|.cons Tryd.func86 tr86<|.cons Tryd.func87 tr87<|.cons Tryd.func88 tr88<|.cons Tryd.func89 tr89<|.cons Tryd.func90 tr90<|.cons Tryd.func91 tr91<|.cons Tryd.func93 tr93<|.cons Tryd.func94 tr94<|.ext Tryd.func95 (by kernel_rfl) (by kernel_rfl) (by kernel_rfl) (by kernel_rfl)<|.cons Tryd.func96 tr96<|.nil
theorem ck_all:CkAll 2 tab :=
 .cons ck3 rfl<|.cons ck4 rfl<|.cons ck5 rfl<|.cons ck6 rfl<|.cons ck7 rfl<|.cons ck8 rfl<|.cons ck9 rfl<|.cons ck10 rfl<|.cons ck11 rfl<|.cons ck12 rfl<|.cons ck13 rfl<|.cons ck14 rfl<|.cons ck15 rfl<|.cons ck16 rfl<|.cons ck17 rfl<|.cons ck18 rfl<|.cons ck19 rfl<|.cons ck20 rfl<|.cons ck21 rfl<|.cons ck22 rfl<|.clone ck23 rfl<|.cons ck24 rfl<|.cons ck25 rfl<|.cons ck26 rfl<|.cons ck27 rfl<|.cons ck28 rfl<|.cons ck29 rfl<|.cons ck30 rfl<|.cons ck31 rfl<|.cons ck32 rfl<|.cons ck33 rfl<|.cons ck34 rfl<|.cons ck35 rfl<|.cons ck36 rfl<|.cons ck37 rfl<|.cons ck38 rfl<|.cons ck39 rfl<|.cons ck40 rfl<|.cons ck41 rfl<|.cons ck42 rfl<|.cons ck43 rfl<|.cons ck44 rfl<|.cons ck45 rfl<|.cons ck46 rfl<|.cons ck47 rfl<|.cons ck48 rfl<|.cons ck49 rfl<|.cons ck50 rfl<|.cons ck51 rfl<|.cons ck52 rfl<|.cons ck53 rfl<|.cons ck54 rfl<|.cons ck55 rfl<|.cons ck56 rfl<|.cons ck57 rfl<|.cons ck58 rfl<|.clone ck59 rfl<|.cons ck60 rfl<|.cons ck61 rfl<|.cons ck62 rfl<|.cons ck63 rfl<|.cons ck64 rfl<|.cons ck65 rfl<|.cons ck66 rfl<|.cons ck67 rfl<|.cons ck68 rfl<|.cons ck69 rfl<|.cons ck70 rfl<|.cons ck71 rfl<|.cons ck72 rfl<|.cons ck73 rfl<|.cons ck74 rfl<|.clone ck75 rfl<|.cons ck76 rfl<|.cons ck77 rfl<|.cons ck78 rfl<|.cons ck79 rfl<|.cons ck80 rfl<|.cons ck81 rfl<|.cons ck82 rfl<|.cons ck83 rfl<|.cons ck84 rfl<|.cons ck85 rfl<|.cons ck86 rfl<|.cons ck87 rfl<|.cons ck88 rfl<|.cons ck89 rfl<|.cons ck90 rfl<|.cons ck91 rfl<|.cons ck93 rfl<|.cons ck94 rfl<|.ext<|.cons ck96 rfl<|.nil
def IP:FuncId→Option IFunc:=tabIP tab
theorem IP_ok:TabOK Tryd.prog (plainP IP):=tab_all.plain
theorem IP_ck:TabCk 2 IP:=ck_all.ck
theorem ip3:IP 3=some I3:=rfl
theorem ip4:IP 4=some I4:=rfl
theorem ip5:IP 5=some I5:=rfl
theorem ip6:IP 6=some I6:=rfl
theorem ip7:IP 7=some I7:=rfl
theorem ip8:IP 8=some I8:=rfl
theorem ip9:IP 9=some I9:=rfl
theorem ip10:IP 10=some I10:=rfl
theorem ip11:IP 11=some I11:=rfl
theorem ip12:IP 12=some I12:=rfl
theorem ip13:IP 13=some I13:=rfl
theorem ip14:IP 14=some I14:=rfl
theorem ip15:IP 15=some I15:=rfl
theorem ip16:IP 16=some I16:=rfl
theorem ip17:IP 17=some I17:=rfl
theorem ip18:IP 18=some I18:=rfl
theorem ip19:IP 19=some I19:=rfl
theorem ip20:IP 20=some I20:=rfl
theorem ip21:IP 21=some I21:=rfl
theorem ip22:IP 22=some I22:=rfl
theorem ip23:IP 23=some I23:=rfl
theorem ip24:IP 24=some I24:=rfl
theorem ip25:IP 25=some I25:=rfl
theorem ip26:IP 26=some I26:=rfl
theorem ip27:IP 27=some I27:=rfl
theorem ip28:IP 28=some I28:=rfl
theorem ip29:IP 29=some I29:=rfl
theorem ip30:IP 30=some I30:=rfl
theorem ip31:IP 31=some I31:=rfl
theorem ip32:IP 32=some I32:=rfl
theorem ip33:IP 33=some I33:=rfl
theorem ip34:IP 34=some I34:=rfl
theorem ip35:IP 35=some I35:=rfl
theorem ip36:IP 36=some I36:=rfl
theorem ip37:IP 37=some I37:=rfl
theorem ip38:IP 38=some I38:=rfl
theorem ip39:IP 39=some I39:=rfl
theorem ip40:IP 40=some I40:=rfl
theorem ip41:IP 41=some I41:=rfl
theorem ip42:IP 42=some I42:=rfl
theorem ip43:IP 43=some I43:=rfl
theorem ip44:IP 44=some I44:=rfl
theorem ip45:IP 45=some I45:=rfl
theorem ip46:IP 46=some I46:=rfl
theorem ip47:IP 47=some I47:=rfl
theorem ip48:IP 48=some I48:=rfl
theorem ip49:IP 49=some I49:=rfl
theorem ip50:IP 50=some I50:=rfl
theorem ip51:IP 51=some I51:=rfl
theorem ip52:IP 52=some I52:=rfl
theorem ip53:IP 53=some I53:=rfl
theorem ip54:IP 54=some I54:=rfl
theorem ip55:IP 55=some I55:=rfl
theorem ip56:IP 56=some I56:=rfl
theorem ip57:IP 57=some I57:=rfl
theorem ip58:IP 58=some I58:=rfl
theorem ip59:IP 59=some I59:=rfl
theorem ip60:IP 60=some I60:=rfl
theorem ip61:IP 61=some I61:=rfl
theorem ip62:IP 62=some I62:=rfl
theorem ip63:IP 63=some I63:=rfl
theorem ip64:IP 64=some I64:=rfl
theorem ip65:IP 65=some I65:=rfl
theorem ip66:IP 66=some I66:=rfl
theorem ip67:IP 67=some I67:=rfl
theorem ip68:IP 68=some I68:=rfl
theorem ip69:IP 69=some I69:=rfl
theorem ip70:IP 70=some I70:=rfl
theorem ip71:IP 71=some I71:=rfl
theorem ip72:IP 72=some I72:=rfl
theorem ip73:IP 73=some I73:=rfl
theorem ip74:IP 74=some I74:=rfl
theorem ip75:IP 75=some I75:=rfl
theorem ip76:IP 76=some I76:=rfl
theorem ip77:IP 77=some I77:=rfl
theorem ip78:IP 78=some I78:=rfl
theorem ip79:IP 79=some I79:=rfl
theorem ip80:IP 80=some I80:=rfl
theorem ip81:IP 81=some I81:=rfl
theorem ip82:IP 82=some I82:=rfl
theorem ip83:IP 83=some I83:=rfl
theorem ip84:IP 84=some I84:=rfl
theorem ip85:IP 85=some I85:=rfl
theorem ip86:IP 86=some I86:=rfl
theorem ip87:IP 87=some I87:=rfl
theorem ip88:IP 88=some I88:=rfl
theorem ip89:IP 89=some I89:=rfl
theorem ip90:IP 90=some I90:=rfl
theorem ip91:IP 91=some I91:=rfl
theorem ip93:IP 93=some I93:=rfl
theorem ip94:IP 94=some I94:=rfl
theorem ip95:IP 95=some I95:=rfl
theorem ip96:IP 96=some I96:=rfl
section
variable {G H:AHeap} {lo:Nat} {l:List AVal} {x:AVal}
@[simp] theorem pb7:pureB IP 7=true:=rfl
@[simp] theorem pu9:theCalls IP G lo 9 l H=given H ((snaps H l).bind (pureR IP G 9)):=calls_pureR ip9 rfl
@[simp] theorem pb9:pureB IP 9=true:=rfl
@[simp] theorem pu12:theCalls IP G lo 12 l H=given H ((snaps H l).bind (pureR IP G 12)):=calls_pureR ip12 rfl
@[simp] theorem pb12:pureB IP 12=true:=rfl
@[simp] theorem pu13:theCalls IP G lo 13 l H=given H ((snaps H l).bind (pureR IP G 13)):=calls_pureR ip13 rfl
@[simp] theorem pb13:pureB IP 13=true:=rfl
@[simp] theorem pu14:theCalls IP G lo 14 l H=given H ((snaps H l).bind (pureR IP G 14)):=calls_pureR ip14 rfl
@[simp] theorem pb14:pureB IP 14=true:=rfl
@[simp] theorem pu15:theCalls IP G lo 15 l H=given H ((snaps H l).bind (pureR IP G 15)):=calls_pureR ip15 rfl
@[simp] theorem pb15:pureB IP 15=true:=rfl
@[simp] theorem pb16:pureB IP 16=true:=rfl
@[simp] theorem pu17:theCalls IP G lo 17 l H=given H ((snaps H l).bind (pureR IP G 17)):=calls_pureR ip17 rfl
@[simp] theorem pb17:pureB IP 17=true:=rfl
@[simp] theorem pu18:theCalls IP G lo 18 l H=given H ((snaps H l).bind (pureR IP G 18)):=calls_pureR ip18 rfl
@[simp] theorem pb18:pureB IP 18=true:=rfl
@[simp] theorem pu19:theCalls IP G lo 19 l H=given H ((snaps H l).bind (pureR IP G 19)):=calls_pureR ip19 rfl
@[simp] theorem pb19:pureB IP 19=true:=rfl
@[simp] theorem pu20:theCalls IP G lo 20 l H=given H ((snaps H l).bind (pureR IP G 20)):=calls_pureR ip20 rfl
@[simp] theorem pb20:pureB IP 20=true:=rfl
@[simp] theorem pu21:theCalls IP G lo 21 l H=given H ((snaps H l).bind (pureR IP G 21)):=calls_pureR ip21 rfl
@[simp] theorem pb21:pureB IP 21=true:=rfl
@[simp] theorem pu22:theCalls IP G lo 22 l H=given H ((snaps H l).bind (pureR IP G 22)):=calls_pureR ip22 rfl
@[simp] theorem pb22:pureB IP 22=true:=rfl
@[simp] theorem pu23:theCalls IP G lo 23 [x] H=cloneV H 1 8 x:=calls_clone ip23 rfl rfl
@[simp] theorem pb23:pureB IP 23=true:=rfl
@[simp] theorem pu24:theCalls IP G lo 24 l H=given H ((snaps H l).bind (pureR IP G 24)):=calls_pureR ip24 rfl
@[simp] theorem pb24:pureB IP 24=true:=rfl
@[simp] theorem pu25:theCalls IP G lo 25 l H=given H ((snaps H l).bind (pureR IP G 25)):=calls_pureR ip25 rfl
@[simp] theorem pb25:pureB IP 25=true:=rfl
@[simp] theorem pb26:pureB IP 26=true:=rfl
@[simp] theorem pu27:theCalls IP G lo 27 l H=given H ((snaps H l).bind (pureR IP G 27)):=calls_pureR ip27 rfl
@[simp] theorem pb27:pureB IP 27=true:=rfl
@[simp] theorem pu28:theCalls IP G lo 28 l H=given H ((snaps H l).bind (pureR IP G 28)):=calls_pureR ip28 rfl
@[simp] theorem pb28:pureB IP 28=true:=rfl
@[simp] theorem pu29:theCalls IP G lo 29 l H=given H ((snaps H l).bind (pureR IP G 29)):=calls_pureR ip29 rfl
@[simp] theorem pb29:pureB IP 29=true:=rfl
@[simp] theorem pu30:theCalls IP G lo 30 l H=given H ((snaps H l).bind (pureR IP G 30)):=calls_pureR ip30 rfl
@[simp] theorem pb30:pureB IP 30=true:=rfl
@[simp] theorem pu31:theCalls IP G lo 31 l H=given H ((snaps H l).bind (pureR IP G 31)):=calls_pureR ip31 rfl
@[simp] theorem pb31:pureB IP 31=true:=rfl
@[simp] theorem pu32:theCalls IP G lo 32 l H=given H ((snaps H l).bind (pureR IP G 32)):=calls_pureR ip32 rfl
@[simp] theorem pb32:pureB IP 32=true:=rfl
@[simp] theorem pu33:theCalls IP G lo 33 l H=given H ((snaps H l).bind (pureR IP G 33)):=calls_pureR ip33 rfl
@[simp] theorem pb33:pureB IP 33=true:=rfl
@[simp] theorem pu34:theCalls IP G lo 34 l H=given H ((snaps H l).bind (pureR IP G 34)):=calls_pureR ip34 rfl
@[simp] theorem pb34:pureB IP 34=true:=rfl
@[simp] theorem pu35:theCalls IP G lo 35 l H=given H ((snaps H l).bind (pureR IP G 35)):=calls_pureR ip35 rfl
@[simp] theorem pb35:pureB IP 35=true:=rfl
@[simp] theorem pu36:theCalls IP G lo 36 l H=given H ((snaps H l).bind (pureR IP G 36)):=calls_pureR ip36 rfl
@[simp] theorem pb36:pureB IP 36=true:=rfl
@[simp] theorem pu37:theCalls IP G lo 37 l H=given H ((snaps H l).bind (pureR IP G 37)):=calls_pureR ip37 rfl
@[simp] theorem pb37:pureB IP 37=true:=rfl
@[simp] theorem pu38:theCalls IP G lo 38 l H=given H ((snaps H l).bind (pureR IP G 38)):=calls_pureR ip38 rfl
@[simp] theorem pb38:pureB IP 38=true:=rfl
@[simp] theorem pu39:theCalls IP G lo 39 l H=given H ((snaps H l).bind (pureR IP G 39)):=calls_pureR ip39 rfl
@[simp] theorem pb39:pureB IP 39=true:=rfl
@[simp] theorem pu40:theCalls IP G lo 40 l H=given H ((snaps H l).bind (pureR IP G 40)):=calls_pureR ip40 rfl
@[simp] theorem pb40:pureB IP 40=true:=rfl
@[simp] theorem pu41:theCalls IP G lo 41 l H=given H ((snaps H l).bind (pureR IP G 41)):=calls_pureR ip41 rfl
@[simp] theorem pb41:pureB IP 41=true:=rfl
@[simp] theorem pu42:theCalls IP G lo 42 l H=given H ((snaps H l).bind (pureR IP G 42)):=calls_pureR ip42 rfl
@[simp] theorem pb42:pureB IP 42=true:=rfl
@[simp] theorem pu43:theCalls IP G lo 43 l H=given H ((snaps H l).bind (pureR IP G 43)):=calls_pureR ip43 rfl
@[simp] theorem pb43:pureB IP 43=true:=rfl
@[simp] theorem pu44:theCalls IP G lo 44 l H=given H ((snaps H l).bind (pureR IP G 44)):=calls_pureR ip44 rfl
@[simp] theorem pb44:pureB IP 44=true:=rfl
@[simp] theorem pu45:theCalls IP G lo 45 l H=given H ((snaps H l).bind (pureR IP G 45)):=calls_pureR ip45 rfl
@[simp] theorem pb45:pureB IP 45=true:=rfl
@[simp] theorem pu47:theCalls IP G lo 47 l H=given H ((snaps H l).bind (pureR IP G 47)):=calls_pureR ip47 rfl
@[simp] theorem pb47:pureB IP 47=true:=rfl
@[simp] theorem pu48:theCalls IP G lo 48 l H=given H ((snaps H l).bind (pureR IP G 48)):=calls_pureR ip48 rfl
@[simp] theorem pb48:pureB IP 48=true:=rfl
@[simp] theorem pu49:theCalls IP G lo 49 l H=given H ((snaps H l).bind (pureR IP G 49)):=calls_pureR ip49 rfl
@[simp] theorem pb49:pureB IP 49=true:=rfl
@[simp] theorem pu50:theCalls IP G lo 50 l H=given H ((snaps H l).bind (pureR IP G 50)):=calls_pureR ip50 rfl
@[simp] theorem pb50:pureB IP 50=true:=rfl
@[simp] theorem pu51:theCalls IP G lo 51 l H=given H ((snaps H l).bind (pureR IP G 51)):=calls_pureR ip51 rfl
@[simp] theorem pb51:pureB IP 51=true:=rfl
@[simp] theorem pu52:theCalls IP G lo 52 l H=given H ((snaps H l).bind (pureR IP G 52)):=calls_pureR ip52 rfl
@[simp] theorem pb52:pureB IP 52=true:=rfl
@[simp] theorem pu53:theCalls IP G lo 53 l H=given H ((snaps H l).bind (pureR IP G 53)):=calls_pureR ip53 rfl
@[simp] theorem pb53:pureB IP 53=true:=rfl
@[simp] theorem pu54:theCalls IP G lo 54 l H=given H ((snaps H l).bind (pureR IP G 54)):=calls_pureR ip54 rfl
@[simp] theorem pb54:pureB IP 54=true:=rfl
@[simp] theorem pu55:theCalls IP G lo 55 l H=given H ((snaps H l).bind (pureR IP G 55)):=calls_pureR ip55 rfl
@[simp] theorem pb55:pureB IP 55=true:=rfl
@[simp] theorem pu56:theCalls IP G lo 56 l H=given H ((snaps H l).bind (pureR IP G 56)):=calls_pureR ip56 rfl
@[simp] theorem pb56:pureB IP 56=true:=rfl
@[simp] theorem pu57:theCalls IP G lo 57 l H=given H ((snaps H l).bind (pureR IP G 57)):=calls_pureR ip57 rfl
@[simp] theorem pb57:pureB IP 57=true:=rfl
@[simp] theorem pu58:theCalls IP G lo 58 l H=given H ((snaps H l).bind (pureR IP G 58)):=calls_pureR ip58 rfl
@[simp] theorem pb58:pureB IP 58=true:=rfl
@[simp] theorem pu59:theCalls IP G lo 59 [x] H=cloneV H 1 16 x:=calls_clone ip59 rfl rfl
@[simp] theorem pb59:pureB IP 59=true:=rfl
@[simp] theorem pu60:theCalls IP G lo 60 l H=given H ((snaps H l).bind (pureR IP G 60)):=calls_pureR ip60 rfl
@[simp] theorem pb60:pureB IP 60=true:=rfl
@[simp] theorem pu62:theCalls IP G lo 62 l H=given H ((snaps H l).bind (pureR IP G 62)):=calls_pureR ip62 rfl
@[simp] theorem pb62:pureB IP 62=true:=rfl
@[simp] theorem pu63:theCalls IP G lo 63 l H=given H ((snaps H l).bind (pureR IP G 63)):=calls_pureR ip63 rfl
@[simp] theorem pb63:pureB IP 63=true:=rfl
@[simp] theorem pu64:theCalls IP G lo 64 l H=given H ((snaps H l).bind (pureR IP G 64)):=calls_pureR ip64 rfl
@[simp] theorem pb64:pureB IP 64=true:=rfl
@[simp] theorem pu65:theCalls IP G lo 65 l H=given H ((snaps H l).bind (pureR IP G 65)):=calls_pureR ip65 rfl
@[simp] theorem pb65:pureB IP 65=true:=rfl
@[simp] theorem pu66:theCalls IP G lo 66 l H=given H ((snaps H l).bind (pureR IP G 66)):=calls_pureR ip66 rfl
@[simp] theorem pb66:pureB IP 66=true:=rfl
@[simp] theorem pu67:theCalls IP G lo 67 l H=given H ((snaps H l).bind (pureR IP G 67)):=calls_pureR ip67 rfl
@[simp] theorem pb67:pureB IP 67=true:=rfl
@[simp] theorem pu68:theCalls IP G lo 68 l H=given H ((snaps H l).bind (pureR IP G 68)):=calls_pureR ip68 rfl
@[simp] theorem pb68:pureB IP 68=true:=rfl
@[simp] theorem pu69:theCalls IP G lo 69 l H=given H ((snaps H l).bind (pureR IP G 69)):=calls_pureR ip69 rfl
@[simp] theorem pb69:pureB IP 69=true:=rfl
@[simp] theorem pu70:theCalls IP G lo 70 l H=given H ((snaps H l).bind (pureR IP G 70)):=calls_pureR ip70 rfl
@[simp] theorem pb70:pureB IP 70=true:=rfl
@[simp] theorem pu71:theCalls IP G lo 71 l H=given H ((snaps H l).bind (pureR IP G 71)):=calls_pureR ip71 rfl
@[simp] theorem pb71:pureB IP 71=true:=rfl
@[simp] theorem pu72:theCalls IP G lo 72 l H=given H ((snaps H l).bind (pureR IP G 72)):=calls_pureR ip72 rfl
@[simp] theorem pb72:pureB IP 72=true:=rfl
@[simp] theorem pu73:theCalls IP G lo 73 l H=given H ((snaps H l).bind (pureR IP G 73)):=calls_pureR ip73 rfl
@[simp] theorem pb73:pureB IP 73=true:=rfl
@[simp] theorem pu74:theCalls IP G lo 74 l H=given H ((snaps H l).bind (pureR IP G 74)):=calls_pureR ip74 rfl
@[simp] theorem pb74:pureB IP 74=true:=rfl
@[simp] theorem pu75:theCalls IP G lo 75 [x] H=cloneV H 5 80 x:=calls_clone ip75 rfl rfl
@[simp] theorem pb75:pureB IP 75=true:=rfl
@[simp] theorem pu76:theCalls IP G lo 76 l H=given H ((snaps H l).bind (pureR IP G 76)):=calls_pureR ip76 rfl
@[simp] theorem pb76:pureB IP 76=true:=rfl
@[simp] theorem pu77:theCalls IP G lo 77 l H=given H ((snaps H l).bind (pureR IP G 77)):=calls_pureR ip77 rfl
@[simp] theorem pb77:pureB IP 77=true:=rfl
@[simp] theorem pu78:theCalls IP G lo 78 l H=given H ((snaps H l).bind (pureR IP G 78)):=calls_pureR ip78 rfl
@[simp] theorem pb78:pureB IP 78=true:=rfl
@[simp] theorem pu79:theCalls IP G lo 79 l H=given H ((snaps H l).bind (pureR IP G 79)):=calls_pureR ip79 rfl
@[simp] theorem pb79:pureB IP 79=true:=rfl
@[simp] theorem pu80:theCalls IP G lo 80 l H=given H ((snaps H l).bind (pureR IP G 80)):=calls_pureR ip80 rfl
@[simp] theorem pb80:pureB IP 80=true:=rfl
@[simp] theorem pu81:theCalls IP G lo 81 l H=given H ((snaps H l).bind (pureR IP G 81)):=calls_pureR ip81 rfl
@[simp] theorem pb81:pureB IP 81=true:=rfl
@[simp] theorem pu82:theCalls IP G lo 82 l H=given H ((snaps H l).bind (pureR IP G 82)):=calls_pureR ip82 rfl
@[simp] theorem pb82:pureB IP 82=true:=rfl
@[simp] theorem pu83:theCalls IP G lo 83 l H=given H ((snaps H l).bind (pureR IP G 83)):=calls_pureR ip83 rfl
@[simp] theorem pb83:pureB IP 83=true:=rfl
@[simp] theorem pu84:theCalls IP G lo 84 l H=given H ((snaps H l).bind (pureR IP G 84)):=calls_pureR ip84 rfl
@[simp] theorem pb84:pureB IP 84=true:=rfl
@[simp] theorem pu85:theCalls IP G lo 85 l H=given H ((snaps H l).bind (pureR IP G 85)):=calls_pureR ip85 rfl
@[simp] theorem pb85:pureB IP 85=true:=rfl
@[simp] theorem pu86:theCalls IP G lo 86 l H=given H ((snaps H l).bind (pureR IP G 86)):=calls_pureR ip86 rfl
@[simp] theorem pb86:pureB IP 86=true:=rfl
@[simp] theorem pu87:theCalls IP G lo 87 l H=given H ((snaps H l).bind (pureR IP G 87)):=calls_pureR ip87 rfl
@[simp] theorem pb87:pureB IP 87=true:=rfl
@[simp] theorem pu88:theCalls IP G lo 88 l H=given H ((snaps H l).bind (pureR IP G 88)):=calls_pureR ip88 rfl
@[simp] theorem pb88:pureB IP 88=true:=rfl
@[simp] theorem pu89:theCalls IP G lo 89 l H=given H ((snaps H l).bind (pureR IP G 89)):=calls_pureR ip89 rfl
@[simp] theorem pb89:pureB IP 89=true:=rfl
@[simp] theorem pu90:theCalls IP G lo 90 l H=given H ((snaps H l).bind (pureR IP G 90)):=calls_pureR ip90 rfl
@[simp] theorem pb90:pureB IP 90=true:=rfl
@[simp] theorem pu91:theCalls IP G lo 91 l H=given H ((snaps H l).bind (pureR IP G 91)):=calls_pureR ip91 rfl
@[simp] theorem pb91:pureB IP 91=true:=rfl
@[simp] theorem pu93:theCalls IP G lo 93 l H=given H ((snaps H l).bind (pureR IP G 93)):=calls_pureR ip93 rfl
@[simp] theorem pb93:pureB IP 93=true:=rfl
@[simp] theorem pu94:theCalls IP G lo 94 l H=given H ((snaps H l).bind (pureR IP G 94)):=calls_pureR ip94 rfl
@[simp] theorem pb94:pureB IP 94=true:=rfl
@[simp] theorem pu95:theCalls IP G lo 95 l H=given H (idxB l):=calls_ext ip95 rfl rfl
@[simp] theorem pb95:pureB IP 95=true:=rfl
@[simp] theorem pu96:theCalls IP G lo 96 l H=given H ((snaps H l).bind (pureR IP G 96)):=calls_pureR ip96 rfl
@[simp] theorem pb96:pureB IP 96=true:=rfl
end
end Go.Proofs.YtfhpkckjkofaoaaDoor
