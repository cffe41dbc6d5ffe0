import Derived.Test.YtbfajkcmehaliabDoorRows
import Derived.Test.YtbfajkcmehaliabDoorM06
import Derived.Test.YtbfajkcmehaliabDoorM04
set_option linter.unusedVariables false
set_option linter.unusedSimpArgs false
set_option linter.unusedSectionVars false
/- The functions that the statement reaches, as the interpreter has them, with modes. Conditions: none. -/
namespace Go.Proofs.YtbfajkcmehaliabDoor
open Go Go.RI
set_option maxRecDepth 100000
def L3a:ICode :=
  (.seq (.seq (.region [Mv 49 10,
 Of 50 5 4,
 Ld 51 50,
 It 52 (.lenk 0 (.t 51)),
 It 53 (.bin .lss (.t 49) (.t 52))] [49,50,51,52])
 (.cond (.t 53)
 (.region [] [53])
 (.exit 0)))
 (.seq (.block 1
 (.seq (.region [Of 56 5 4,
 Ld 57 56,
 Mv 58 10,
 It 59 (.iaddr 5 (.t 57) (.t 58)),
 Of 60 59 0,
 Ld 61 60,
 It 62 (.bin .eql (.t 61) (.c (.i .i64 (40)))),
 Mv 63 62,
 Ig 64 63 true (.off (.t 5) 4),
 Ig 65 63 true (.load none (.t 64)),
 Ig 66 63 true (.mov (.t 10)),
 Ig 67 63 true (.iaddr 5 (.t 65) (.t 66)),
 Ig 68 63 true (.off (.t 67) 2),
 Ig 69 63 true (.load none (.t 68)),
 Ig 70 63 true (.lenk 0 (.t 69)),
 Ig 71 63 true (.bin .eql (.t 70) (.c (.i .i64 (1)))),
 It 72 (.pick (.t 63) (.t 71) (.c (.b false))),
 Mv 73 72,
 Ig 74 73 true (.off (.t 5) 4),
 Ig 75 73 true (.load none (.t 74)),
 Ig 76 73 true (.mov (.t 10)),
 Ig 77 73 true (.iaddr 5 (.t 75) (.t 76)),
 Ig 78 73 true (.off (.t 77) 2),
 Ig 79 73 true (.load none (.t 78)),
 Ig 80 73 true (.iaddr 7 (.t 79) (.c i0)),
 Ig 81 73 true (.off (.t 80) 0),
 Ig 82 73 true (.load none (.t 81)),
 Ig 83 73 true (.bin .eql (.t 82) (.c (.i .i64 (1)))),
 It 84 (.pick (.t 73) (.t 83) (.c (.b false)))] [56,57,58,59,60,61,62,63,64,65,66,67,68,69,70,71,72,73,74,75,76,77,78,79,80,81,82,83])
 (.cond (.t 84)
 (.region [Mv 85 9,
 Of 86 5 4,
 Ld 87 86,
 Mv 88 10,
 It 89 (.iaddr 5 (.t 87) (.t 88)),
 Of 90 89 2,
 Ld 91 90,
 It 92 (.iaddr 7 (.t 91) (.c i0)),
 Of 93 92 1,
 Ld 94 93,
 It 95 (.call 7 [(.t 94),(.c (.i .i64 (64)))]),
 It 96 (.iaddr 1 (.t 85) (.t 95)),
 Ld 97 96,
 It 98 (.bin .add (.t 97) (.c (.i .i64 (1)))),
 It 99 (.iaddr 1 (.t 85) (.t 95)),
 ⟨none,(.store 1 (.t 99) (.t 98)),none,[]⟩] [84,85,86,87,88,89,90,91,92,93,94,95,96,97,98,99])
 (.region [] [84]))))
 (.region [Mv 54 10,
 It 55 (.bin .add (.t 54) (.c (.i .i64 (1)))),
 Mv 10 55] [54,55])))
def L3b:ICode :=
  (.seq (.seq (.region [Mv 100 11,
 Of 101 2 4,
 Ld 102 101,
 It 103 (.lenk 0 (.t 102)),
 It 104 (.bin .lss (.t 100) (.t 103))] [100,101,102,103])
 (.cond (.t 104)
 (.region [] [104])
 (.exit 2)))
 (.seq (.block 3
 (.seq (.region [Of 107 2 4,
 Ld 108 107,
 Mv 109 11,
 It 110 (.iaddr 5 (.t 108) (.t 109)),
 Of 111 110 0,
 Ld 112 111,
 It 113 (.bin .eql (.t 112) (.c (.i .i64 (40)))),
 Mv 114 113,
 Ig 115 114 true (.off (.t 2) 4),
 Ig 116 114 true (.load none (.t 115)),
 Ig 117 114 true (.mov (.t 11)),
 Ig 118 114 true (.iaddr 5 (.t 116) (.t 117)),
 Ig 119 114 true (.off (.t 118) 2),
 Ig 120 114 true (.load none (.t 119)),
 Ig 121 114 true (.lenk 0 (.t 120)),
 Ig 122 114 true (.bin .eql (.t 121) (.c (.i .i64 (1)))),
 It 123 (.pick (.t 114) (.t 122) (.c (.b false))),
 Mv 124 123,
 Ig 125 124 true (.off (.t 2) 4),
 Ig 126 124 true (.load none (.t 125)),
 Ig 127 124 true (.mov (.t 11)),
 Ig 128 124 true (.iaddr 5 (.t 126) (.t 127)),
 Ig 129 124 true (.off (.t 128) 2),
 Ig 130 124 true (.load none (.t 129)),
 Ig 131 124 true (.iaddr 7 (.t 130) (.c i0)),
 Ig 132 124 true (.off (.t 131) 0),
 Ig 133 124 true (.load none (.t 132)),
 Ig 134 124 true (.bin .eql (.t 133) (.c (.i .i64 (1)))),
 It 135 (.pick (.t 124) (.t 134) (.c (.b false)))] [107,108,109,110,111,112,113,114,115,116,117,118,119,120,121,122,123,124,125,126,127,128,129,130,131,132,133,134])
 (.cond (.t 135)
 (.region [Mv 136 9,
 Of 137 2 4,
 Ld 138 137,
 Mv 139 11,
 It 140 (.iaddr 5 (.t 138) (.t 139)),
 Of 141 140 2,
 Ld 142 141,
 It 143 (.iaddr 7 (.t 142) (.c i0)),
 Of 144 143 1,
 Ld 145 144,
 It 146 (.call 7 [(.t 145),(.c (.i .i64 (64)))]),
 It 147 (.iaddr 1 (.t 136) (.t 146)),
 Ld 148 147,
 It 149 (.bin .sub (.t 148) (.c (.i .i64 (1)))),
 It 150 (.iaddr 1 (.t 136) (.t 146)),
 ⟨none,(.store 1 (.t 150) (.t 149)),none,[]⟩] [135,136,137,138,139,140,141,142,143,144,145,146,147,148,149,150])
 (.region [] [135]))))
 (.region [Mv 105 11,
 It 106 (.bin .add (.t 105) (.c (.i .i64 (1)))),
 Mv 11 106] [105,106])))
def L3c:ICode :=
  (.seq (.seq (.region [Mv 151 12,
 Mv 152 9,
 It 153 (.lenk 0 (.t 152)),
 It 154 (.bin .lss (.t 151) (.t 153))] [151,152,153])
 (.cond (.t 154)
 (.region [] [154])
 (.exit 4)))
 (.seq (.block 5
 (.seq (.region [Mv 157 9,
 Mv 158 12,
 It 159 (.iaddr 1 (.t 157) (.t 158)),
 Ld 160 159,
 It 161 (.bin .lss (.t 160) (.c i0)),
 Mv 162 161,
 Ig 163 162 false (.mov (.t 9)),
 Ig 164 162 false (.mov (.t 12)),
 Ig 165 162 false (.iaddr 1 (.t 163) (.t 164)),
 Ig 166 162 false (.load none (.t 165)),
 Ig 167 162 false (.bin .gtr (.t 166) (.c (.i .i64 (1)))),
 It 168 (.pick (.t 162) (.c (.b true)) (.t 167))] [157,158,159,160,161,162,163,164,165,166,167])
 (.cond (.t 168)
 (.seq (.region [It 4 (.mov (.c (.b false)))] [2,5,7,9,12,168])
 .ret)
 (.region [] [168]))))
 (.region [Mv 155 12,
 It 156 (.bin .add (.t 155) (.c (.i .i64 (1)))),
 Mv 12 156] [155,156])))
def I3:IFunc :=
  ⟨(.seq (.region [It 2 (.box (.t 0)),
 It 4 (.mov (.c (.b false)))] [0,4])
 (.seq (.seq (.region [It 13 (.call 4 []),
 It 14 (.un .not (.t 13))] [13])
 (.cond (.t 14)
 (.seq (.region [It 4 (.mov (.c (.b false)))] [1,2,14])
 .ret)
 (.region [] [14])))
 (.seq (.region [It 16 (.load (some 16) (.t 2)),
 It 17 (.call 6 [(.t 16)]),
 Mv 18 1,
 It 19 (.call 5 [(.t 17),(.t 18)]),
 Mv 15 19,
 Ex 20 15 0,
 Ex 21 15 1,
 It 5 (.alloc [i0,i0,i0,i0,.ns,.ns,i0,i0,i0,i0,i0,i0,(.s []),.ns,.ns,i0]),
 ⟨none,(.store 16 (.t 5) (.t 20)),none,[]⟩,
 Mv 6 21] [1,16,17,18,19,15,20,21])
 (.seq (.region [It 23 (.load (some 16) (.t 2)),
 It 24 (.call 6 [(.t 23)]),
 It 25 (.call 5 [(.t 24),(.c .ns)]),
 Mv 22 25,
 Ex 26 22 0,
 Ex 27 22 1,
 It 7 (.alloc [i0,i0,i0,i0,.ns,.ns,i0,i0,i0,i0,i0,i0,(.s []),.ns,.ns,i0]),
 ⟨none,(.store 16 (.t 7) (.t 26)),none,[]⟩,
 Mv 8 27] [23,24,25,22,26,27])
 (.seq (.seq (.region [Mv 28 6,
 It 29 (.bin .neq (.t 28) (.c i0)),
 Mv 30 29,
 Ig 31 30 false (.mov (.t 8)),
 Ig 32 30 false (.bin .neq (.t 31) (.c i0)),
 It 33 (.pick (.t 30) (.c (.b true)) (.t 32))] [6,28,29,30,31,32])
 (.cond (.t 33)
 (.seq (.region [Of 34 5 4,
 Ld 35 34,
 It 36 (.lenk 0 (.t 35)),
 It 37 (.bin .eql (.t 36) (.c i0)),
 Mv 38 37,
 Ig 39 38 true (.mov (.t 8)),
 Ig 40 38 true (.bin .eql (.t 39) (.c i0)),
 Ig 41 38 true (.mov (.t 40)),
 Ig 42 41 false (.off (.t 7) 4),
 Ig 43 41 false (.load none (.t 42)),
 Ig 44 41 false (.lenk 0 (.t 43)),
 Ig 45 41 false (.bin .eql (.t 44) (.c i0)),
 Ig 46 38 true (.pick (.t 41) (.c (.b true)) (.t 45)),
 It 47 (.pick (.t 38) (.t 46) (.c (.b false))),
 Mv 4 47] [2,5,7,8,33,34,35,36,37,38,39,40,41,42,43,44,45,46,47])
 .ret)
 (.region [] [8,33])))
 (.seq (.region [It 48 (.mksl 1 8 [i0] (.c (.i .i64 (64))) (.c (.i .i64 (64)))),
 Mv 9 48] [48])
 (.seq (.seq (.region [It 10 (.mov (.c i0))] [])
 (.block 0
 (.loop L3a)))
 (.seq (.seq (.region [It 11 (.mov (.c i0))] [10,53])
 (.block 2
 (.loop L3b)))
 (.seq (.seq (.region [It 12 (.mov (.c i0))] [11,104])
 (.block 4
 (.loop L3c)))
 (.seq (.region [Of 169 7 4,
 Ld 170 169,
 It 171 (.lenk 0 (.t 170)),
 Of 172 2 4,
 Ld 173 172,
 It 174 (.lenk 0 (.t 173)),
 It 175 (.bin .eql (.t 171) (.t 174)),
 Mv 176 175,
 Ig 177 176 true (.off (.t 5) 4),
 Ig 178 176 true (.load none (.t 177)),
 Ig 179 176 true (.lenk 0 (.t 178)),
 Ig 180 176 true (.off (.t 2) 4),
 Ig 181 176 true (.load none (.t 180)),
 Ig 182 176 true (.lenk 0 (.t 181)),
 Ig 183 176 true (.bin .geq (.t 179) (.t 182)),
 It 184 (.pick (.t 176) (.t 183) (.c (.b false))),
 Mv 185 184,
 Ig 186 185 true (.off (.t 5) 4),
 Ig 187 185 true (.load none (.t 186)),
 Ig 188 185 true (.lenk 0 (.t 187)),
 Ig 189 185 true (.off (.t 2) 4),
 Ig 190 185 true (.load none (.t 189)),
 Ig 191 185 true (.lenk 0 (.t 190)),
 Ig 192 185 true (.off (.t 2) 3),
 Ig 193 185 true (.load none (.t 192)),
 Ig 194 185 true (.bin .add (.t 191) (.t 193)),
 Ig 195 185 true (.bin .leq (.t 188) (.t 194)),
 It 196 (.pick (.t 185) (.t 195) (.c (.b false))),
 Mv 4 196] [2,5,7,9,12,154,169,170,171,172,173,174,175,176,177,178,179,180,181,182,183,184,185,186,187,188,189,190,191,192,193,194,195,196])
 .ret)))))))))),
    197,2,[.t 4],0⟩
theorem tr3:trFunc Tryd.prog (hz [] I3.body) 0 Tryd.f3=some (plain1 I3):=by kernel_rfl
theorem ck3:ckC 2 I3.body=true:=by kernel_rfl
def I4:IFunc :=
  ⟨(.seq (.region [It 0 (.mov (.c (.b false)))] [0])
 (.seq (.region [It 7 (.call 11 [(.c i0)]),
 It 8 (.call 12 [(.c (.i .i64 (1)))]),
 It 9 (.call 10 [(.c (.i .i64 (9))),(.t 7),(.t 8)]),
 It 10 (.bsl 5 1 [i0,i0,.ns,(.s []),.ns] [(0,5,(.t 9))]),
 It 11 (.call 9 [(.c (.i .i64 (2))),(.t 10)]),
 It 12 (.call 11 [(.c i0)]),
 It 13 (.call 13 [(.c (.i .i64 (40))),(.c (.i .i64 (1))),(.t 12)]),
 It 14 (.call 11 [(.c i0)]),
 It 15 (.call 12 [(.c (.i .i64 (1)))]),
 It 16 (.call 10 [(.c (.i .i64 (43))),(.t 14),(.t 15)]),
 It 17 (.bsl 5 2 [i0,i0,.ns,(.s []),.ns,i0,i0,.ns,(.s []),.ns] [(0,5,(.t 13)),(5,5,(.t 16))]),
 It 18 (.call 9 [(.c (.i .i64 (2))),(.t 17)]),
 It 19 (.bsl 1 1 [i0] [(0,1,(.c (.i .i64 (1))))]),
 It 20 (.call 8 [(.t 11),(.t 18),(.t 19)]),
 Mv 1 20] [7,8,9,10,11,12,13,14,15,16,17,18,19,20])
 (.seq (.region [It 21 (.call 11 [(.c i0)]),
 It 22 (.call 11 [(.c (.i .i64 (1)))]),
 It 23 (.call 10 [(.c (.i .i64 (9))),(.t 21),(.t 22)]),
 It 24 (.bsl 5 1 [i0,i0,.ns,(.s []),.ns] [(0,5,(.t 23))]),
 It 25 (.call 9 [(.c (.i .i64 (2))),(.t 24)]),
 It 26 (.call 11 [(.c i0)]),
 It 27 (.call 13 [(.c (.i .i64 (40))),(.c (.i .i64 (1))),(.t 26)]),
 It 28 (.call 11 [(.c i0)]),
 It 29 (.call 11 [(.c (.i .i64 (1)))]),
 It 30 (.call 10 [(.c (.i .i64 (9))),(.t 28),(.t 29)]),
 It 31 (.bsl 5 2 [i0,i0,.ns,(.s []),.ns,i0,i0,.ns,(.s []),.ns] [(0,5,(.t 27)),(5,5,(.t 30))]),
 It 32 (.call 9 [(.c (.i .i64 (2))),(.t 31)]),
 It 33 (.bsl 1 2 [i0,i0] [(0,1,(.c (.i .i64 (1)))),(1,1,(.c (.i .i64 (-1))))]),
 It 34 (.call 8 [(.t 25),(.t 32),(.t 33)]),
 Mv 2 34] [21,22,23,24,25,26,27,28,29,30,31,32,33,34])
 (.seq (.region [It 35 (.call 11 [(.c i0)]),
 It 36 (.call 13 [(.c (.i .i64 (8))),(.c i0),(.t 35)]),
 It 37 (.call 14 [(.c i0)]),
 It 38 (.call 11 [(.c (.i .i64 (1)))]),
 It 39 (.call 10 [(.c (.i .i64 (10))),(.t 37),(.t 38)]),
 It 40 (.call 11 [(.c i0)]),
 It 41 (.call 13 [(.c (.i .i64 (7))),(.c i0),(.t 40)]),
 It 42 (.bsl 5 3 [i0,i0,.ns,(.s []),.ns,i0,i0,.ns,(.s []),.ns,i0,i0,.ns,(.s []),.ns] [(0,5,(.t 36)),(5,5,(.t 39)),(10,5,(.t 41))]),
 It 43 (.call 9 [(.c (.i .i64 (2))),(.t 42)]),
 It 44 (.call 11 [(.c i0)]),
 It 45 (.call 13 [(.c (.i .i64 (8))),(.c i0),(.t 44)]),
 It 46 (.call 11 [(.c (.i .i64 (1)))]),
 It 47 (.call 13 [(.c (.i .i64 (40))),(.c (.i .i64 (1))),(.t 46)]),
 It 48 (.call 14 [(.c i0)]),
 It 49 (.call 11 [(.c (.i .i64 (1)))]),
 It 50 (.call 10 [(.c (.i .i64 (44))),(.t 48),(.t 49)]),
 It 51 (.call 11 [(.c i0)]),
 It 52 (.call 13 [(.c (.i .i64 (7))),(.c i0),(.t 51)]),
 It 53 (.bsl 5 4 [i0,i0,.ns,(.s []),.ns,i0,i0,.ns,(.s []),.ns,i0,i0,.ns,(.s []),.ns,i0,i0,.ns,(.s []),.ns] [(0,5,(.t 45)),(5,5,(.t 47)),(10,5,(.t 50)),(15,5,(.t 52))]),
 It 54 (.call 9 [(.c (.i .i64 (2))),(.t 53)]),
 It 55 (.bsl 1 2 [i0,i0] [(0,1,(.c (.i .i64 (4)))),(1,1,(.c (.i .i64 (1))))]),
 It 56 (.call 8 [(.t 43),(.t 54),(.t 55)]),
 Mv 3 56] [35,36,37,38,39,40,41,42,43,44,45,46,47,48,49,50,51,52,53,54,55,56])
 (.seq (.region [It 57 (.call 15 []),
 Mv 4 57] [57])
 (.seq (.region [Mv 58 4,
 It 59 (.build [i0,i0,(.s []),.ns,.ns] [(0,1,(.c (.i .i64 (1)))),(1,1,(.c (.i .i64 (5))))]),
 It 60 (.build [i0,i0,(.s []),.ns,.ns] [(0,1,(.c (.i .i64 (3)))),(2,1,(.c (.s [97])))]),
 It 61 (.bsl 5 2 [i0,i0,(.s []),.ns,.ns,i0,i0,(.s []),.ns,.ns] [(0,5,(.t 59)),(5,5,(.t 60))]),
 It 62 (.call 16 [(.t 58),(.c i0),(.c (.i .i64 (3))),(.t 61)]),
 Mv 5 62] [58,59,60,61,62])
 (.seq (.region [Mv 63 4,
 It 64 (.build [i0,i0,(.s []),.ns,.ns] [(0,1,(.c (.i .i64 (1)))),(1,1,(.c (.i .i64 (6))))]),
 It 65 (.build [i0,i0,(.s []),.ns,.ns] [(0,1,(.c (.i .i64 (1)))),(1,1,(.c (.i .i64 (7))))]),
 It 66 (.bsl 5 2 [i0,i0,(.s []),.ns,.ns,i0,i0,(.s []),.ns,.ns] [(0,5,(.t 64)),(5,5,(.t 65))]),
 It 67 (.call 16 [(.t 63),(.c i0),(.c (.i .i64 (3))),(.t 66)]),
 Mv 6 67] [63,64,65,66,67])
 (.seq (.region [Mv 68 1,
 Mv 69 68,
 Ig 70 69 true (.mov (.t 2)),
 It 71 (.pick (.t 69) (.t 70) (.c (.b false))),
 Mv 72 71,
 Ig 73 72 true (.mov (.t 3)),
 It 74 (.pick (.t 72) (.t 73) (.c (.b false))),
 Mv 75 74,
 Ig 76 75 true (.mov (.t 5)),
 Ig 77 75 true (.bin .eql (.t 76) (.c i0)),
 It 78 (.pick (.t 75) (.t 77) (.c (.b false))),
 Mv 79 78,
 Ig 80 79 true (.mov (.t 6)),
 Ig 81 79 true (.bin .eql (.t 80) (.c i0)),
 It 82 (.pick (.t 79) (.t 81) (.c (.b false))),
 Mv 83 82,
 Ig 84 83 true (.mov (.t 4)),
 Ig 85 83 true (.call 17 [(.t 84),(.c i0),(.c (.i .i64 (3)))]),
 Ig 86 83 true (.bin .eql (.t 85) (.c (.i .i64 (2)))),
 It 87 (.pick (.t 83) (.t 86) (.c (.b false))),
 Mv 88 87,
 Ig 89 88 true (.mov (.t 4)),
 Ig 90 88 true (.call 19 [(.t 89),(.c i0),(.c (.i .i64 (3)))]),
 Ig 91 88 true (.bsl 1 2 [i0,i0] [(0,1,(.c (.i .i64 (1)))),(1,1,(.c (.i .i64 (-1))))]),
 Ig 92 88 true (.call 18 [(.t 90),(.t 91)]),
 It 93 (.pick (.t 88) (.t 92) (.c (.b false))),
 Mv 0 93] [1,2,3,4,5,6,68,69,70,71,72,73,74,75,76,77,78,79,80,81,82,83,84,85,86,87,88,89,90,91,92,93])
 .ret)))))))),
    94,0,[.t 0],2⟩
theorem tr4:trFunc Tryd.prog (hz [] I4.body) 1 Tryd.f4=some (plain1 I4):=by kernel_rfl
theorem ck4:ckC 2 I4.body=true:=by kernel_rfl
def L5a:ICode :=
  (.seq (.region [It 29 (.bin .lss (.t 28) (.t 27))] [])
 (.seq (.cond (.t 29)
 (.region [] [29])
 (.exit 0))
 (.seq (.block 1
 (.seq (.region [Mv 30 28,
 Mv 8 30] [30])
 (.region [Mv 31 7,
 It 32 (.nck (.t 31)),
 Of 33 32 1,
 Ld 34 33,
 Mv 35 8,
 It 36 (.iaddr 1 (.t 34) (.t 35)),
 ⟨none,(.store 1 (.t 36) (.c (.i .i64 (-1)))),none,[]⟩] [8,31,32,33,34,35,36])))
 (.region [It 37 (.bin .add (.t 28) (.c (.i .i64 (1)))),
 Mv 28 37] [37]))))
def L5b:ICode :=
  (.seq (.region [It 42 (.bin .lss (.t 41) (.t 40))] [])
 (.seq (.cond (.t 42)
 (.region [] [42])
 (.exit 2))
 (.seq (.block 3
 (.seq (.region [It 43 (.iaddr 5 (.t 39) (.t 41)),
 It 44 (.load (some 5) (.t 43)),
 It 10 (.alloc [i0,i0,.ns,(.s []),.ns]),
 ⟨none,(.store 5 (.t 10) (.t 44)),none,[]⟩] [43,44])
 (.region [Mv 45 7,
 It 46 (.load (some 5) (.t 10)),
 It 47 (.call 21 [(.t 45),(.t 46)])] [10,45,46,47])))
 (.region [It 48 (.bin .add (.t 41) (.c (.i .i64 (1)))),
 Mv 41 48] [48]))))
def I5:IFunc :=
  ⟨(.seq (.region [It 2 (.box (.t 0)),
 It 4 (.alloc [i0,i0,i0,i0,.ns,.ns,i0,i0,i0,i0,i0,i0,(.s []),.ns,.ns,i0]),
 It 5 (.mov (.c i0))] [0,5])
 (.seq (.seq (.region [It 11 (.load (some 16) (.t 2)),
 It 12 (.call 20 [(.t 11)]),
 Mv 6 12] [11,12])
 (.seq (.region [Mv 13 6,
 It 14 (.bin .neq (.t 13) (.c i0))] [13])
 (.cond (.t 14)
 (.seq (.region [It 15 (.build [i0,i0,i0,i0,.ns,.ns,i0,i0,i0,i0,i0,i0,(.s []),.ns,.ns,i0] []),
 Mv 16 6,
 ⟨none,(.store 16 (.t 4) (.t 15)),none,[]⟩,
 Mv 5 16] [1,2,6,14,15,16])
 .ret)
 (.region [] [6,14]))))
 (.seq (.region [Mv 17 1,
 Of 18 2 3,
 Ld 19 18,
 It 20 (.mksl 1 8 [i0] (.t 19) (.t 19)),
 It 21 (.build [.ns,.ns,.ns,.ns] [(2,1,(.t 17)),(1,1,(.t 20))]),
 It 22 (.box (.t 21)),
 Mv 7 22] [1,17,18,19,20,21,22])
 (.seq (.seq (.region [Mv 23 7,
 It 24 (.nck (.t 23)),
 Of 25 24 1,
 Ld 26 25,
 It 27 (.lenk 0 (.t 26)),
 It 28 (.mov (.c i0))] [23,24,25,26])
 (.block 0
 (.loop L5a)))
 (.seq (.seq (.region [Of 38 2 4,
 Ld 39 38,
 It 40 (.lenk 0 (.t 39)),
 It 41 (.mov (.c i0))] [27,28,29,38])
 (.block 2
 (.loop L5b)))
 (.seq (.seq (.region [Mv 49 7,
 It 50 (.nck (.t 49)),
 Of 51 50 0,
 Ld 52 51,
 It 53 (.lenk 0 (.t 52)),
 It 54 (.bin .gtr (.t 53) (.c (.i .i64 (4096))))] [39,40,41,42,49,50,51,52,53])
 (.cond (.t 54)
 (.seq (.region [It 55 (.build [i0,i0,i0,i0,.ns,.ns,i0,i0,i0,i0,i0,i0,(.s []),.ns,.ns,i0] []),
 ⟨none,(.store 16 (.t 4) (.t 55)),none,[]⟩,
 It 5 (.mov (.c (.i .i64 (5))))] [2,7,54,55])
 .ret)
 (.region [] [54])))
 (.seq (.region [Mv 56 7,
 It 57 (.nck (.t 56)),
 Of 58 57 0,
 Ld 59 58,
 Mv 60 7,
 Of 61 2 5,
 Ld 62 61,
 Mv 64 7,
 Of 65 2 8,
 It 66 (.load (some 7) (.t 65)),
 It 67 (.bsl 7 1 [i0,i0,i0,i0,(.s []),.ns,.ns] [(0,7,(.t 66))]),
 Of 71 2 4,
 ⟨(some 63),(.call 22 [(.t 60),(.t 62)]),none,[(59,(.load none (.t 58)),none),(66,(.load (some 7) (.t 65)),none)]⟩,
 ⟨(some 68),(.call 22 [(.t 64),(.t 67)]),none,[(59,(.load none (.t 58)),none)]⟩,
 It 69 (.iaddr 7 (.t 68) (.c i0)),
 It 70 (.load (some 7) (.t 69)),
 ⟨none,(.store 1 (.t 71) (.t 59)),none,[(70,(.load (some 7) (.t 69)),none)]⟩,
 Of 72 2 5,
 ⟨none,(.store 1 (.t 72) (.t 63)),none,[(70,(.load (some 7) (.t 69)),none)]⟩,
 Of 73 2 8,
 ⟨none,(.store 7 (.t 73) (.t 70)),none,[]⟩] [7,56,57,58,59,60,61,62,64,65,66,67,71,63,68,69,70,72,73])
 (.seq (.region [It 74 (.load (some 16) (.t 2)),
 ⟨none,(.store 16 (.t 4) (.t 74)),none,[]⟩,
 It 5 (.mov (.c i0))] [2,74])
 .ret)))))))),
    75,2,[.c 4 (some 16),.t 5],2⟩
theorem tr5:trFunc Tryd.prog (hz [(21,[0,1,2,3,4,5,6,8,9,10,11,15,7,12,13,14,16,17,18,19,20])] I5.body) 1 Tryd.f5=some (plain1 I5):=by kernel_rfl
theorem ck5:ckC 2 I5.body=true:=by kernel_rfl
def L6a:ICode :=
  (.seq (.seq (.region [Mv 23 5,
 Of 24 3 4,
 Ld 25 24,
 It 26 (.lenk 0 (.t 25)),
 It 27 (.bin .lss (.t 23) (.t 26))] [23,24,25,26])
 (.cond (.t 27)
 (.region [] [27])
 (.exit 0)))
 (.seq (.block 1
 (.region [Of 30 4 4,
 Ld 31 30,
 Of 32 3 4,
 Ld 33 32,
 Mv 34 5,
 It 35 (.iaddr 5 (.t 33) (.t 34)),
 Of 36 35 0,
 Ld 37 36,
 Of 38 3 4,
 Ld 39 38,
 Mv 40 5,
 It 41 (.iaddr 5 (.t 39) (.t 40)),
 Of 42 41 1,
 Ld 43 42,
 Of 44 3 4,
 Ld 45 44,
 Mv 46 5,
 It 47 (.iaddr 5 (.t 45) (.t 46)),
 Of 48 47 2,
 Ld 49 48,
 Of 51 3 4,
 Ld 52 51,
 Mv 53 5,
 It 54 (.iaddr 5 (.t 52) (.t 53)),
 Of 55 54 3,
 Ld 56 55,
 Of 57 3 4,
 Ld 58 57,
 Mv 59 5,
 It 60 (.iaddr 5 (.t 58) (.t 59)),
 Of 61 60 4,
 Ld 62 61,
 ⟨(some 50),(.call 24 [(.t 49)]),none,[(31,(.load none (.t 30)),none),(33,(.load none (.t 32)),none),(37,(.load none (.t 36)),none),(39,(.load none (.t 38)),none),(43,(.load none (.t 42)),none),(52,(.load none (.t 51)),none),(56,(.load none (.t 55)),none),(58,(.load none (.t 57)),none),(62,(.load none (.t 61)),none)]⟩,
 It 63 (.build [i0,i0,.ns,(.s []),.ns] [(0,1,(.t 37)),(1,1,(.t 43)),(2,1,(.t 50)),(3,1,(.t 56)),(4,1,(.t 62))]),
 It 64 (.bsl 5 1 [i0,i0,.ns,(.s []),.ns] [(0,5,(.t 63))]),
 It 65 (.app 5 80 (.t 31) (.t 64)),
 Of 66 4 4,
 ⟨none,(.store 1 (.t 66) (.t 65)),none,[]⟩] [30,31,32,33,34,35,36,37,38,39,40,41,42,43,44,45,46,47,48,49,51,52,53,54,55,56,57,58,59,60,61,62,50,63,64,65,66]))
 (.region [Mv 28 5,
 It 29 (.bin .add (.t 28) (.c (.i .i64 (1)))),
 Mv 5 29] [28,29])))
def I6:IFunc :=
  ⟨(.seq (.region [It 1 (.box (.t 0)),
 It 2 (.alloc [i0,i0,i0,i0,.ns,.ns,i0,i0,i0,i0,i0,i0,(.s []),.ns,.ns,i0])] [0])
 (.seq (.region [It 6 (.load (some 16) (.t 1)),
 It 7 (.call 23 [(.t 6)]),
 It 3 (.alloc [i0,i0,i0,i0,.ns,.ns,i0,i0,i0,i0,i0,i0,(.s []),.ns,.ns,i0]),
 ⟨none,(.store 16 (.t 3) (.t 7)),none,[]⟩] [1,6,7])
 (.seq (.region [Of 8 3 0,
 Ld 9 8,
 Of 10 3 1,
 Ld 11 10,
 Of 12 3 2,
 Ld 13 12,
 Of 14 3 3,
 Ld 15 14,
 Of 16 3 6,
 Ld 17 16,
 Of 18 3 7,
 Ld 19 18,
 Of 20 3 15,
 Ld 21 20,
 It 22 (.build [i0,i0,i0,i0,.ns,.ns,i0,i0,i0,i0,i0,i0,(.s []),.ns,.ns,i0] [(0,1,(.t 9)),(1,1,(.t 11)),(2,1,(.t 13)),(3,1,(.t 15)),(6,1,(.t 17)),(7,1,(.t 19)),(15,1,(.t 21))]),
 It 4 (.alloc [i0,i0,i0,i0,.ns,.ns,i0,i0,i0,i0,i0,i0,(.s []),.ns,.ns,i0]),
 ⟨none,(.store 16 (.t 4) (.t 22)),none,[]⟩] [8,9,10,11,12,13,14,15,16,17,18,19,20,21,22])
 (.seq (.seq (.region [It 5 (.mov (.c i0))] [])
 (.block 0
 (.loop L6a)))
 (.seq (.region [Of 67 3 5,
 Ld 68 67,
 It 69 (.call 24 [(.t 68)]),
 Of 70 4 5,
 ⟨none,(.store 1 (.t 70) (.t 69)),none,[]⟩] [5,27,67,68,69,70])
 (.seq (.region [Of 71 3 8,
 Of 72 71 0,
 Ld 73 72,
 Of 74 3 8,
 Of 75 74 1,
 Ld 76 75,
 Of 77 3 8,
 Of 78 77 2,
 It 79 (.load (some 5) (.t 78)),
 It 80 (.build [i0,i0,i0,i0,(.s []),.ns,.ns] [(0,1,(.t 73)),(1,1,(.t 76)),(2,5,(.t 79))]),
 Of 81 4 8,
 ⟨none,(.store 7 (.t 81) (.t 80)),none,[]⟩] [3,71,72,73,74,75,76,77,78,79,80,81])
 (.seq (.region [It 82 (.load (some 16) (.t 4)),
 ⟨none,(.store 16 (.t 2) (.t 82)),none,[]⟩] [4,82])
 .ret))))))),
    83,1,[.c 2 (some 16)],2⟩
theorem tr6:trFunc Tryd.prog (hz [(6,[0,1,2,3,4,5,6,7,8,9,10,11,12,13,14,15,16,17,18,19,21,22,23,24,25,26,27,28,29,30,31,32,20,33,34,35,36,37])] I6.body) 1 Tryd.f6=some (plain1 I6):=by kernel_rfl
theorem ck6:ckC 2 I6.body=true:=by kernel_rfl
def I7:IFunc :=
  ⟨(.seq (.region [It 4 (.mov (.c i0))] [4])
 (.seq (.seq (.region [Mv 5 1,
 It 6 (.bin .leq (.t 5) (.c i0))] [5])
 (.cond (.t 6)
 (.seq (.region [It 4 (.mov (.c i0))] [0,1,6])
 .ret)
 (.region [] [6])))
 (.seq (.region [Mv 7 0,
 Mv 8 1,
 It 9 (.bin .rem (.t 7) (.t 8)),
 Mv 0 9] [7,8,9])
 (.seq (.seq (.region [Mv 10 0,
 It 11 (.bin .lss (.t 10) (.c i0))] [10])
 (.cond (.t 11)
 (.region [Mv 12 0,
 Mv 13 1,
 It 14 (.bin .add (.t 12) (.t 13)),
 Mv 0 14] [1,11,12,13,14])
 (.region [] [1,11])))
 (.seq (.region [Mv 15 0,
 Mv 4 15] [0,15])
 .ret))))),
    16,2,[.t 4],2⟩
theorem tr7:trFunc Tryd.prog (hz [] I7.body) 1 Tryd.f7=some (plain1 I7):=by kernel_rfl
theorem ck7:ckC 2 I7.body=true:=by kernel_rfl
def I8:IFunc :=
  ⟨(.seq (.region [It 3 (.box (.t 0)),
 It 4 (.box (.t 1)),
 It 6 (.mov (.c (.b false)))] [0,1,6])
 (.seq (.region [It 10 (.load (some 16) (.t 3)),
 Mv 11 2,
 It 12 (.call 5 [(.t 10),(.t 11)]),
 Mv 9 12,
 Ex 13 9 0,
 Ex 14 9 1,
 It 7 (.alloc [i0,i0,i0,i0,.ns,.ns,i0,i0,i0,i0,i0,i0,(.s []),.ns,.ns,i0]),
 ⟨none,(.store 16 (.t 7) (.t 13)),none,[]⟩,
 Mv 8 14] [2,3,10,11,12,9,13,14])
 (.seq (.region [Mv 15 8,
 It 16 (.bin .eql (.t 15) (.c i0)),
 Mv 17 16,
 Ig 18 17 true (.load (some 16) (.t 7)),
 Ig 20 17 true (.load (some 16) (.t 4)),
 ⟨(some 19),(.call 26 [(.t 18)]),(some (17,true)),[(20,(.load (some 16) (.t 4)),(some (17,true)))]⟩,
 Ig 21 17 true (.call 26 [(.t 20)]),
 Ig 22 17 true (.call 25 [(.t 19),(.t 21)]),
 It 23 (.pick (.t 17) (.t 22) (.c (.b false))),
 Mv 6 23] [4,7,8,15,16,17,18,20,19,21,22,23])
 .ret))),
    24,3,[.t 6],2⟩
theorem tr8:trFunc Tryd.prog (hz [(2,[0,1,2,3,5,4,6,7,8,9])] I8.body) 1 Tryd.f8=some (plain1 I8):=by kernel_rfl
theorem ck8:ckC 2 I8.body=true:=by kernel_rfl
def I9:IFunc :=
  ⟨(.seq (.region [It 4 (.alloc [i0,i0,i0,i0,.ns,.ns,i0,i0,i0,i0,i0,i0,(.s []),.ns,.ns,i0])] [])
 (.seq (.region [Mv 5 0,
 Mv 6 1,
 Mv 7 1,
 It 8 (.lenk 0 (.t 7)),
 It 9 (.bin .sub (.t 8) (.c (.i .i64 (1)))),
 It 10 (.mm true (.t 9) [(.c i0)]),
 It 11 (.call 14 [(.t 10)]),
 It 12 (.bsl 7 1 [i0,i0,i0,i0,(.s []),.ns,.ns] [(0,7,(.t 11))]),
 It 13 (.build [i0,i0,i0,i0,.ns,.ns,i0,i0,i0,i0,i0,i0,(.s []),.ns,.ns,i0] [(2,1,(.c (.i .i64 (1)))),(3,1,(.t 5)),(4,1,(.t 6)),(5,1,(.t 12))]),
 ⟨none,(.store 16 (.t 4) (.t 13)),none,[]⟩] [0,1,5,6,7,8,9,10,11,12,13])
 .ret)),
    14,2,[.c 4 (some 16)],1⟩
theorem tr9:trFunc Tryd.prog (hz [] I9.body) 1 Tryd.f9=some (plain1 I9):=by kernel_rfl
theorem ck9:ckC 2 I9.body=true:=by kernel_rfl
def I10:IFunc :=
  ⟨(.seq (.region [It 4 (.box (.t 1)),
 It 5 (.box (.t 2)),
 It 6 (.alloc [i0,i0,.ns,(.s []),.ns])] [1,2])
 (.seq (.region [Mv 7 0,
 It 8 (.load (some 7) (.t 4)),
 It 9 (.load (some 7) (.t 5)),
 It 10 (.bsl 7 2 [i0,i0,i0,i0,(.s []),.ns,.ns,i0,i0,i0,i0,(.s []),.ns,.ns] [(0,7,(.t 8)),(7,7,(.t 9))]),
 It 11 (.build [i0,i0,.ns,(.s []),.ns] [(0,1,(.t 7)),(2,1,(.t 10))]),
 ⟨none,(.store 5 (.t 6) (.t 11)),none,[]⟩] [0,4,5,7,8,9,10,11])
 .ret)),
    12,3,[.c 6 (some 5)],2⟩
theorem tr10:trFunc Tryd.prog (hz [] I10.body) 1 Tryd.f10=some (plain1 I10):=by kernel_rfl
theorem ck10:ckC 2 I10.body=true:=by kernel_rfl
def I11:IFunc :=
  ⟨(.seq (.region [It 2 (.alloc [i0,i0,i0,i0,(.s []),.ns,.ns])] [])
 (.seq (.region [Mv 3 0,
 It 4 (.build [i0,i0,i0,i0,(.s []),.ns,.ns] [(0,1,(.c (.i .i64 (1)))),(1,1,(.t 3))]),
 ⟨none,(.store 7 (.t 2) (.t 4)),none,[]⟩] [0,3,4])
 .ret)),
    5,1,[.c 2 (some 7)],2⟩
theorem tr11:trFunc Tryd.prog (hz [] I11.body) 1 Tryd.f11=some (plain1 I11):=by kernel_rfl
theorem ck11:ckC 2 I11.body=true:=by kernel_rfl
def I12:IFunc :=
  ⟨(.seq (.region [It 2 (.alloc [i0,i0,i0,i0,(.s []),.ns,.ns])] [])
 (.seq (.region [Mv 3 0,
 It 4 (.build [i0,i0,(.s []),.ns,.ns] [(0,1,(.c (.i .i64 (1)))),(1,1,(.t 3))]),
 It 5 (.build [i0,i0,i0,i0,(.s []),.ns,.ns] [(0,1,(.c (.i .i64 (3)))),(2,5,(.t 4))]),
 ⟨none,(.store 7 (.t 2) (.t 5)),none,[]⟩] [0,3,4,5])
 .ret)),
    6,1,[.c 2 (some 7)],2⟩
theorem tr12:trFunc Tryd.prog (hz [] I12.body) 1 Tryd.f12=some (plain1 I12):=by kernel_rfl
theorem ck12:ckC 2 I12.body=true:=by kernel_rfl
def I13:IFunc :=
  ⟨(.seq (.region [It 5 (.box (.t 2)),
 It 6 (.alloc [i0,i0,.ns,(.s []),.ns])] [2])
 (.seq (.region [Mv 7 0,
 Mv 8 1,
 It 9 (.load (some 7) (.t 5)),
 It 10 (.bsl 7 1 [i0,i0,i0,i0,(.s []),.ns,.ns] [(0,7,(.t 9))]),
 It 11 (.build [i0,i0,.ns,(.s []),.ns] [(0,1,(.t 7)),(1,1,(.t 8)),(2,1,(.t 10))]),
 ⟨none,(.store 5 (.t 6) (.t 11)),none,[]⟩] [0,1,5,7,8,9,10,11])
 .ret)),
    12,3,[.c 6 (some 5)],2⟩
theorem tr13:trFunc Tryd.prog (hz [] I13.body) 1 Tryd.f13=some (plain1 I13):=by kernel_rfl
theorem ck13:ckC 2 I13.body=true:=by kernel_rfl
def I14:IFunc :=
  ⟨(.seq (.region [It 2 (.alloc [i0,i0,i0,i0,(.s []),.ns,.ns])] [])
 (.seq (.region [Mv 3 0,
 It 4 (.build [i0,i0,i0,i0,(.s []),.ns,.ns] [(0,1,(.c (.i .i64 (2)))),(1,1,(.t 3))]),
 ⟨none,(.store 7 (.t 2) (.t 4)),none,[]⟩] [0,3,4])
 .ret)),
    5,1,[.c 2 (some 7)],2⟩
theorem tr14:trFunc Tryd.prog (hz [] I14.body) 1 Tryd.f14=some (plain1 I14):=by kernel_rfl
theorem ck14:ckC 2 I14.body=true:=by kernel_rfl
def I15:IFunc :=
  ⟨(.seq (.region [It 0 (.mov (.c .np))] [0])
 (.seq (.region [It 1 .mkmap,
 It 2 (.build [.nm] [(0,1,(.t 1))]),
 It 3 (.box (.t 2)),
 Mv 0 3] [1,2,3])
 .ret)),
    4,0,[.t 0],0⟩
theorem tr15:trFunc Tryd.prog (hz [] I15.body) 0 Tryd.f15=some (plain1 I15):=by kernel_rfl
theorem ck15:ckC 2 I15.body=true:=by kernel_rfl
def L16a:ICode :=
  (.seq (.region [It 42 (.bin .lss (.t 41) (.t 40))] [])
 (.seq (.cond (.t 42)
 (.region [] [42])
 (.exit 0))
 (.seq (.block 1
 (.seq (.region [Mv 43 41,
 It 44 (.iaddr 5 (.t 39) (.t 41)),
 It 45 (.load (some 5) (.t 44)),
 It 11 (.alloc [i0,i0,(.s []),.ns,.ns]),
 Mv 10 43,
 ⟨none,(.store 5 (.t 11) (.t 45)),none,[]⟩] [43,44,45])
 (.seq (.seq (.region [It 46 (.load (some 5) (.t 11)),
 It 47 (.call 28 [(.t 46)]),
 It 48 (.bin .neq (.t 47) (.c i0))] [46,47])
 (.cond (.t 48)
 (.seq (.region [It 8 (.mov (.c (.i .i64 (2))))] [0,1,2,9,39,40,41,11,10,48])
 .ret)
 (.region [] [48])))
 (.region [Mv 49 9,
 Mv 50 10,
 Of 51 11 0,
 Ld 52 51,
 It 53 (.iaddr 1 (.t 49) (.t 50)),
 ⟨none,(.store 1 (.t 53) (.t 52)),none,[]⟩] [11,10,49,50,51,52,53]))))
 (.region [It 54 (.bin .add (.t 41) (.c (.i .i64 (1)))),
 Mv 41 54] [54]))))
def I16:IFunc :=
  ⟨(.seq (.region [It 8 (.mov (.c i0))] [8])
 (.seq (.seq (.region [Mv 15 0,
 It 16 (.call 27 [(.t 15)])] [15])
 (.cond (.t 16)
 (.seq (.region [It 8 (.mov (.c (.i .i64 (1))))] [0,1,2,3,16])
 .ret)
 (.region [] [16])))
 (.seq (.seq (.region [Mv 17 1,
 It 18 (.bin .lss (.t 17) (.c i0)),
 Mv 19 18,
 Ig 20 19 false (.mov (.t 1)),
 Ig 21 19 false (.bin .geq (.t 20) (.c (.i .i64 (16)))),
 It 22 (.pick (.t 19) (.c (.b true)) (.t 21)),
 Mv 23 22,
 Ig 24 23 false (.mov (.t 2)),
 Ig 25 23 false (.bin .lss (.t 24) (.c i0)),
 It 26 (.pick (.t 23) (.c (.b true)) (.t 25)),
 Mv 27 26,
 Ig 28 27 false (.mov (.t 2)),
 Ig 29 27 false (.bin .geq (.t 28) (.c (.i .i64 (512)))),
 It 30 (.pick (.t 27) (.c (.b true)) (.t 29)),
 Mv 31 30,
 Ig 32 31 false (.mov (.t 3)),
 Ig 33 31 false (.lenk 0 (.t 32)),
 Ig 34 31 false (.bin .gtr (.t 33) (.c (.i .i64 (64)))),
 It 35 (.pick (.t 31) (.c (.b true)) (.t 34))] [17,18,19,20,21,22,23,24,25,26,27,28,29,30,31,32,33,34])
 (.cond (.t 35)
 (.seq (.region [It 8 (.mov (.c (.i .i64 (2))))] [0,1,2,3,35])
 .ret)
 (.region [] [35])))
 (.seq (.region [Mv 36 3,
 It 37 (.lenk 0 (.t 36)),
 It 38 (.mksl 1 8 [i0] (.t 37) (.t 37)),
 Mv 9 38] [36,37,38])
 (.seq (.seq (.region [Mv 39 3,
 It 40 (.lenk 0 (.t 39)),
 It 41 (.mov (.c i0))] [3])
 (.block 0
 (.loop L16a)))
 (.seq (.region [Mv 55 1,
 Mv 56 2,
 It 57 (.build [i0,i0] [(0,1,(.t 55)),(1,1,(.t 56))]),
 It 12 (.alloc [i0,i0]),
 ⟨none,(.store 2 (.t 12) (.t 57)),none,[]⟩] [1,2,39,40,41,42,55,56,57])
 (.seq (.region [Mv 59 0,
 It 60 (.nck (.t 59)),
 Of 61 60 0,
 Ld 62 61,
 It 63 (.load (some 2) (.t 12)),
 It 64 (.look true [1,1] (.ag [i0,.ns]) true (.t 62) (.t 63)),
 Mv 58 64,
 Ex 65 58 0,
 Ex 66 58 1,
 It 13 (.alloc [i0,.ns]),
 ⟨none,(.store 2 (.t 13) (.t 65)),none,[]⟩,
 Mv 14 66] [59,60,61,62,63,64,58,65,66])
 (.seq (.seq (.region [Mv 67 14] [14])
 (.cond (.t 67)
 (.region [Of 68 13 1,
 Ld 69 68,
 Mv 70 9,
 It 71 (.call 29 [(.t 69),(.t 70)]),
 Mv 9 71] [67,68,69,70,71])
 (.region [] [67])))
 (.seq (.region [Mv 72 0,
 It 73 (.nck (.t 72)),
 Of 74 73 0,
 Ld 75 74,
 It 76 (.load (some 2) (.t 12)),
 Of 77 13 0,
 Ld 78 77,
 It 79 (.bin .add (.t 78) (.c (.i .i64 (1)))),
 Mv 80 9,
 It 81 (.build [i0,.ns] [(0,1,(.t 79)),(1,1,(.t 80))]),
 ⟨none,(.mapup true [1,1] (.t 75) (.t 76) (.t 81)),none,[]⟩] [0,9,12,13,72,73,74,75,76,77,78,79,80,81])
 (.seq (.region [It 8 (.mov (.c i0))] [])
 .ret)))))))))),
    82,4,[.t 8],0⟩
theorem tr16:trFunc Tryd.prog (hz [(18,[0,1,2,3,4,5,6,7,8,9,10,11]),(22,[0,1,2,3,4,5,6,7,8,9,10])] I16.body) 0 Tryd.f16=some (plain1 I16):=by kernel_rfl
theorem ck16:ckC 2 I16.body=true:=by kernel_rfl
def I17:IFunc :=
  ⟨(.seq (.region [It 6 (.mov (.c i0))] [6])
 (.seq (.seq (.region [Mv 7 0,
 It 8 (.call 27 [(.t 7)])] [7])
 (.cond (.t 8)
 (.seq (.region [It 6 (.mov (.c i0))] [0,1,2,8])
 .ret)
 (.region [] [8])))
 (.seq (.region [Mv 9 0,
 It 10 (.nck (.t 9)),
 Of 11 10 0,
 Ld 12 11,
 Mv 13 1,
 Mv 14 2,
 It 15 (.build [i0,i0] [(0,1,(.t 13)),(1,1,(.t 14))]),
 It 16 (.look true [1,1] (.ag [i0,.ns]) false (.t 12) (.t 15)),
 It 17 (.part none (.t 16) 0),
 Mv 6 17] [0,1,2,9,10,11,12,13,14,15,16,17])
 .ret))),
    18,3,[.t 6],0⟩
theorem tr17:trFunc Tryd.prog (hz [] I17.body) 0 Tryd.f17=some (plain1 I17):=by kernel_rfl
theorem ck17:ckC 2 I17.body=true:=by kernel_rfl
def L18a:ICode :=
  (.seq (.seq (.region [Mv 11 5,
 Mv 12 0,
 It 13 (.lenk 0 (.t 12)),
 It 14 (.bin .lss (.t 11) (.t 13))] [11,12,13])
 (.cond (.t 14)
 (.region [] [14])
 (.exit 0)))
 (.seq (.block 1
 (.seq (.region [Mv 17 0,
 Mv 18 5,
 It 19 (.iaddr 1 (.t 17) (.t 18)),
 Ld 20 19,
 Mv 21 1,
 Mv 22 5,
 It 23 (.iaddr 1 (.t 21) (.t 22)),
 Ld 24 23,
 It 25 (.bin .neq (.t 20) (.t 24))] [17,18,19,20,21,22,23,24])
 (.cond (.t 25)
 (.seq (.region [It 4 (.mov (.c (.b false)))] [0,1,5,25])
 .ret)
 (.region [] [25]))))
 (.region [Mv 15 5,
 It 16 (.bin .add (.t 15) (.c (.i .i64 (1)))),
 Mv 5 16] [15,16])))
def I18:IFunc :=
  ⟨(.seq (.region [It 4 (.mov (.c (.b false)))] [4])
 (.seq (.seq (.region [Mv 6 0,
 It 7 (.lenk 0 (.t 6)),
 Mv 8 1,
 It 9 (.lenk 0 (.t 8)),
 It 10 (.bin .neq (.t 7) (.t 9))] [6,7,8,9])
 (.cond (.t 10)
 (.seq (.region [It 4 (.mov (.c (.b false)))] [0,1,10])
 .ret)
 (.region [] [10])))
 (.seq (.seq (.region [It 5 (.mov (.c i0))] [])
 (.block 0
 (.loop L18a)))
 (.seq (.region [It 4 (.mov (.c (.b true)))] [0,1,5,14])
 .ret)))),
    26,2,[.t 4],2⟩
theorem tr18:trFunc Tryd.prog (hz [(7,[0,1,2,3,4,5,6,7,8])] I18.body) 1 Tryd.f18=some (plain1 I18):=by kernel_rfl
theorem ck18:ckC 2 I18.body=true:=by kernel_rfl
def I19:IFunc :=
  ⟨(.seq (.region [It 6 (.mov (.c .ns))] [6])
 (.seq (.seq (.region [Mv 7 0,
 It 8 (.call 27 [(.t 7)])] [7])
 (.cond (.t 8)
 (.seq (.region [It 6 (.mov (.c .ns))] [0,1,2,8])
 .ret)
 (.region [] [8])))
 (.seq (.region [Mv 9 0,
 It 10 (.nck (.t 9)),
 Of 11 10 0,
 Ld 12 11,
 Mv 13 1,
 Mv 14 2,
 It 15 (.build [i0,i0] [(0,1,(.t 13)),(1,1,(.t 14))]),
 It 16 (.look true [1,1] (.ag [i0,.ns]) false (.t 12) (.t 15)),
 It 17 (.part none (.t 16) 1),
 It 18 (.call 30 [(.t 17)]),
 Mv 6 18] [0,1,2,9,10,11,12,13,14,15,16,17,18])
 .ret))),
    19,3,[.t 6],0⟩
theorem tr19:trFunc Tryd.prog (hz [] I19.body) 0 Tryd.f19=some (plain1 I19):=by kernel_rfl
theorem ck19:ckC 2 I19.body=true:=by kernel_rfl
def L20a:ICode :=
  (.seq (.region [It 26 (.bin .lss (.t 25) (.t 24))] [])
 (.seq (.cond (.t 26)
 (.region [] [26])
 (.exit 0))
 (.seq (.block 1
 (.seq (.region [It 27 (.iaddr 1 (.t 23) (.t 25)),
 Ld 28 27,
 Mv 4 28] [27,28])
 (.seq (.region [Mv 29 4,
 It 30 (.bin .lss (.t 29) (.c i0))] [4,29])
 (.cond (.t 30)
 (.seq (.region [It 2 (.mov (.c (.i .i64 (2))))] [1,23,24,25,30])
 .ret)
 (.region [] [30])))))
 (.region [It 31 (.bin .add (.t 25) (.c (.i .i64 (1)))),
 Mv 25 31] [31]))))
def L20b:ICode :=
  (.seq (.region [It 69 (.bin .lss (.t 68) (.t 67))] [])
 (.seq (.cond (.t 69)
 (.region [] [69])
 (.exit 2))
 (.seq (.block 3
 (.seq (.region [Mv 70 68,
 It 71 (.iaddr 5 (.t 66) (.t 68)),
 It 72 (.load (some 5) (.t 71)),
 It 6 (.alloc [i0,i0,.ns,(.s []),.ns]),
 Mv 5 70,
 ⟨none,(.store 5 (.t 6) (.t 72)),none,[]⟩] [70,71,72])
 (.seq (.region [It 73 (.load (some 5) (.t 6)),
 Of 74 1 3,
 Ld 75 74,
 Mv 76 5,
 It 77 (.call 31 [(.t 73),(.t 75),(.t 76)]),
 It 78 (.un .not (.t 77))] [6,5,73,74,75,76,77])
 (.cond (.t 78)
 (.seq (.region [It 2 (.mov (.c (.i .i64 (2))))] [1,66,67,68,78])
 .ret)
 (.region [] [78])))))
 (.region [It 79 (.bin .add (.t 68) (.c (.i .i64 (1)))),
 Mv 68 79] [79]))))
def I20:IFunc :=
  ⟨(.seq (.region [It 1 (.box (.t 0)),
 It 2 (.mov (.c i0))] [0,2])
 (.seq (.seq (.region [Of 9 1 0,
 Ld 10 9,
 Of 11 1 1,
 Ld 12 11,
 Of 13 1 2,
 Ld 14 13,
 Of 15 1 3,
 Ld 16 15,
 Of 17 1 15,
 Ld 18 17,
 Of 19 1 6,
 Ld 20 19,
 Of 21 1 7,
 Ld 22 21,
 It 23 (.bsl 1 7 [i0,i0,i0,i0,i0,i0,i0] [(0,1,(.t 10)),(1,1,(.t 12)),(2,1,(.t 14)),(3,1,(.t 16)),(4,1,(.t 18)),(5,1,(.t 20)),(6,1,(.t 22))]),
 It 24 (.lenk 0 (.t 23)),
 It 25 (.mov (.c i0))] [9,10,11,12,13,14,15,16,17,18,19,20,21,22])
 (.block 0
 (.loop L20a)))
 (.seq (.seq (.region [Of 32 1 0,
 Ld 33 32,
 Of 34 1 1,
 Ld 35 34,
 Of 36 1 2,
 Ld 37 36,
 It 38 (.mm true (.t 33) [(.t 35),(.t 37)]),
 It 39 (.bin .gtr (.t 38) (.c (.i .i64 (9007199254740991))))] [23,24,25,26,32,33,34,35,36,37,38])
 (.cond (.t 39)
 (.seq (.region [It 2 (.mov (.c (.i .i64 (2))))] [1,39])
 .ret)
 (.region [] [39])))
 (.seq (.seq (.region [Of 40 1 3,
 Ld 41 40,
 It 42 (.bin .gtr (.t 41) (.c (.i .i64 (64)))),
 Mv 43 42,
 Ig 44 43 false (.off (.t 1) 15),
 Ig 45 43 false (.load none (.t 44)),
 Ig 46 43 false (.bin .gtr (.t 45) (.c (.i .i64 (1)))),
 It 47 (.pick (.t 43) (.c (.b true)) (.t 46)),
 Mv 48 47,
 Ig 49 48 false (.off (.t 1) 6),
 Ig 50 48 false (.load none (.t 49)),
 Ig 51 48 false (.bin .gtr (.t 50) (.c (.i .i64 (3)))),
 It 52 (.pick (.t 48) (.c (.b true)) (.t 51)),
 Mv 53 52,
 Ig 54 53 false (.off (.t 1) 4),
 Ig 55 53 false (.load none (.t 54)),
 Ig 56 53 false (.lenk 0 (.t 55)),
 Ig 57 53 false (.bin .gtr (.t 56) (.c (.i .i64 (4096)))),
 It 58 (.pick (.t 53) (.c (.b true)) (.t 57)),
 Mv 59 58,
 Ig 60 59 false (.off (.t 1) 5),
 Ig 61 59 false (.load none (.t 60)),
 Ig 62 59 false (.lenk 0 (.t 61)),
 Ig 63 59 false (.bin .gtr (.t 62) (.c (.i .i64 (64)))),
 It 64 (.pick (.t 59) (.c (.b true)) (.t 63))] [40,41,42,43,44,45,46,47,48,49,50,51,52,53,54,55,56,57,58,59,60,61,62,63])
 (.cond (.t 64)
 (.seq (.region [It 2 (.mov (.c (.i .i64 (2))))] [1,64])
 .ret)
 (.region [] [64])))
 (.seq (.seq (.region [Of 65 1 4,
 Ld 66 65,
 It 67 (.lenk 0 (.t 66)),
 It 68 (.mov (.c i0))] [65])
 (.block 2
 (.loop L20b)))
 (.seq (.region [Of 80 1 6,
 Ld 81 80,
 It 82 (.bin .eql (.t 81) (.c (.i .i64 (2)))),
 Mv 83 82,
 Ig 84 83 true (.off (.t 1) 8),
 Ig 85 83 true (.load (some 7) (.t 84)),
 Ig 86 83 true (.off (.t 1) 3),
 Ig 87 83 true (.load none (.t 86)),
 Ig 88 83 true (.off (.t 1) 4),
 Ig 89 83 true (.load none (.t 88)),
 Ig 90 83 true (.lenk 0 (.t 89)),
 Ig 91 83 true (.call 32 [(.t 85),(.t 87),(.t 90)]),
 It 92 (.pick (.t 83) (.t 91) (.c (.b false))),
 Mv 7 92] [66,67,68,69,80,81,82,83,84,85,86,87,88,89,90,91,92])
 (.seq (.region [Of 93 1 6,
 Ld 94 93,
 It 95 (.bin .neq (.t 94) (.c (.i .i64 (2)))),
 Mv 96 95,
 Ig 97 96 true (.off (.t 1) 8),
 Ig 98 96 true (.off (.t 97) 0),
 Ig 99 96 true (.load none (.t 98)),
 Ig 100 96 true (.bin .eql (.t 99) (.c i0)),
 It 101 (.pick (.t 96) (.t 100) (.c (.b false))),
 Mv 102 101,
 Ig 103 102 true (.off (.t 1) 8),
 Ig 104 102 true (.off (.t 103) 1),
 Ig 105 102 true (.load none (.t 104)),
 Ig 106 102 true (.bin .eql (.t 105) (.c i0)),
 It 107 (.pick (.t 102) (.t 106) (.c (.b false))),
 Mv 108 107,
 Ig 109 108 true (.off (.t 1) 8),
 Ig 110 108 true (.off (.t 109) 2),
 Ig 111 108 true (.load (some 5) (.t 110)),
 Ig 112 108 true (.call 33 [(.t 111)]),
 It 113 (.pick (.t 108) (.t 112) (.c (.b false))),
 Mv 8 113] [93,94,95,96,97,98,99,100,101,102,103,104,105,106,107,108,109,110,111,112,113])
 (.seq (.seq (.region [Mv 114 7,
 It 115 (.un .not (.t 114)),
 Mv 116 115,
 Ig 117 116 true (.mov (.t 8)),
 Ig 118 116 true (.un .not (.t 117)),
 It 119 (.pick (.t 116) (.t 118) (.c (.b false))),
 Mv 120 119,
 Ig 121 120 false (.off (.t 1) 5),
 Ig 122 120 false (.load none (.t 121)),
 Ig 123 120 false (.off (.t 1) 3),
 Ig 124 120 false (.load none (.t 123)),
 Ig 125 120 false (.off (.t 1) 4),
 Ig 126 120 false (.load none (.t 125)),
 Ig 127 120 false (.lenk 0 (.t 126)),
 Ig 128 120 false (.call 34 [(.t 122),(.t 124),(.t 127)]),
 Ig 129 120 false (.un .not (.t 128)),
 It 130 (.pick (.t 120) (.c (.b true)) (.t 129))] [1,7,8,114,115,116,117,118,119,120,121,122,123,124,125,126,127,128,129])
 (.cond (.t 130)
 (.seq (.region [It 2 (.mov (.c (.i .i64 (2))))] [130])
 .ret)
 (.region [] [130])))
 (.seq (.region [It 2 (.mov (.c i0))] [])
 .ret))))))))),
    131,1,[.t 2],2⟩
theorem tr20:trFunc Tryd.prog (hz [] I20.body) 1 Tryd.f20=some (plain1 I20):=by kernel_rfl
theorem ck20:ckC 2 I20.body=true:=by kernel_rfl
def L21a:ICode :=
  (.seq (.region [It 30 (.bin .lss (.t 29) (.t 28))] [])
 (.seq (.cond (.t 30)
 (.region [] [30])
 (.exit 0))
 (.seq (.block 1
 (.seq (.region [It 31 (.iaddr 7 (.t 27) (.t 29)),
 It 32 (.load (some 7) (.t 31)),
 It 8 (.alloc [i0,i0,i0,i0,(.s []),.ns,.ns]),
 ⟨none,(.store 7 (.t 8) (.t 32)),none,[]⟩] [31,32])
 (.region [Ld 33 2,
 It 34 (.load (some 7) (.t 8)),
 Ld 35 5,
 It 36 (.call 37 [(.t 33),(.t 34),(.t 35)])] [8,33,34,35,36])))
 (.region [It 37 (.bin .add (.t 29) (.c (.i .i64 (1)))),
 Mv 29 37] [37]))))
def I21:IFunc :=
  ⟨(.seq (.region [It 2 (.box (.t 0)),
 It 3 (.box (.t 1))] [0,1])
 (.seq (.region [Ld 9 2,
 Of 10 3 2,
 Ld 11 10,
 Of 13 3 4,
 Ld 14 13,
 ⟨(some 12),(.call 22 [(.t 9),(.t 11)]),none,[(14,(.load none (.t 13)),none)]⟩,
 Of 16 3 2,
 It 15 (.call 35 [(.t 14)]),
 ⟨none,(.store 1 (.t 16) (.t 12)),none,[]⟩,
 Of 17 3 4,
 ⟨none,(.store 1 (.t 17) (.t 15)),none,[]⟩] [9,10,11,13,14,12,16,15,17])
 (.seq (.seq (.region [Of 19 3 0,
 Ld 20 19,
 It 21 (.call 36 [(.t 20)]),
 Mv 18 21,
 Ex 22 18 0,
 Ex 23 18 1,
 Ex 24 18 2,
 It 5 (.alloc [i0]),
 Mv 4 22,
 ⟨none,(.store 1 (.t 5) (.t 23)),none,[]⟩,
 Mv 6 24] [19,20,21,18,22,23,24])
 (.seq (.region [Mv 25 6] [6])
 (.cond (.t 25)
 (.seq (.seq (.region [Of 26 3 2,
 Ld 27 26,
 It 28 (.lenk 0 (.t 27)),
 It 29 (.mov (.c i0))] [25,26])
 (.block 0
 (.loop L21a)))
 (.seq (.region [Of 38 3 2,
 Ld 39 38,
 It 40 (.mkf 39 [] [(.t 2),(.t 5)]),
 It 41 (.call 38 [(.t 39),(.t 40)]),
 It 42 (.un .not (.t 41))] [5,27,28,29,30,38,39,40,41])
 (.cond (.t 42)
 (.region [Mv 43 4,
 Of 44 3 0,
 ⟨none,(.store 1 (.t 44) (.t 43)),none,[]⟩] [4,42,43,44])
 (.region [] [4,42]))))
 (.region [] [5,4,25]))))
 (.seq (.seq (.region [Of 45 3 0,
 Ld 46 45,
 It 47 (.bin .eql (.t 46) (.c (.i .i64 (40)))),
 Mv 48 47,
 Ig 49 48 true (.off (.t 3) 2),
 Ig 50 48 true (.load none (.t 49)),
 Ig 51 48 true (.iaddr 7 (.t 50) (.c i0)),
 Ig 52 48 true (.off (.t 51) 0),
 Ig 53 48 true (.load none (.t 52)),
 Ig 54 48 true (.bin .eql (.t 53) (.c (.i .i64 (1)))),
 It 55 (.pick (.t 48) (.t 54) (.c (.b false)))] [45,46,47,48,49,50,51,52,53,54])
 (.cond (.t 55)
 (.region [Ld 56 2,
 It 57 (.nck (.t 56)),
 Of 58 57 1,
 Ld 59 58,
 Of 60 3 2,
 Ld 61 60,
 It 62 (.iaddr 7 (.t 61) (.c i0)),
 Of 63 62 1,
 Ld 64 63,
 Of 65 3 1,
 Ld 66 65,
 It 67 (.iaddr 1 (.t 59) (.t 64)),
 ⟨none,(.store 1 (.t 67) (.t 66)),none,[]⟩] [55,56,57,58,59,60,61,62,63,64,65,66,67])
 (.region [] [55])))
 (.seq (.region [Ld 68 2,
 Ld 69 2,
 It 70 (.nck (.t 69)),
 Of 71 70 3,
 Ld 72 71,
 Ld 73 2,
 It 74 (.nck (.t 73)),
 Of 75 74 0,
 Ld 76 75,
 It 77 (.lenk 0 (.t 76)),
 It 78 (.bsl 1 1 [i0] [(0,1,(.t 77))]),
 ⟨(some 79),(.app 1 8 (.t 72) (.t 78)),none,[(68,(.load none (.t 2)),none)]⟩,
 It 80 (.nck (.t 68)),
 Of 81 80 3,
 ⟨none,(.store 1 (.t 81) (.t 79)),none,[]⟩] [68,69,70,71,72,73,74,75,76,77,78,79,80,81])
 (.region [Ld 82 2,
 Ld 83 2,
 It 84 (.nck (.t 83)),
 Of 85 84 0,
 Ld 86 85,
 It 87 (.load (some 5) (.t 3)),
 It 88 (.bsl 5 1 [i0,i0,.ns,(.s []),.ns] [(0,5,(.t 87))]),
 ⟨(some 89),(.app 5 80 (.t 86) (.t 88)),none,[(82,(.load none (.t 2)),none)]⟩,
 It 90 (.nck (.t 82)),
 Of 91 90 0,
 ⟨none,(.store 1 (.t 91) (.t 89)),none,[]⟩] [2,3,82,83,84,85,86,87,88,89,90,91])))))),
    92,2,[],0⟩
theorem tr21:trFunc Tryd.prog (hz [(1,[0,1,2,4,5,3,7,6,8,9,10]),(15,[0,1,2,3,4,5,6,7,8,9,10,11,12]),(17,[0,1,2,3,4,5,6,7,8,9,10,11,12,13,14]),(18,[0,1,2,3,4,5,6,7,8,9,10])] I21.body) 0 Tryd.f21=some (plain1 I21):=by kernel_rfl
theorem ck21:ckC 2 I21.body=true:=by kernel_rfl
def L22a:ICode :=
  (.seq (.region [It 10 (.bin .lss (.t 9) (.t 8))] [])
 (.seq (.cond (.t 10)
 (.region [] [10])
 (.exit 0))
 (.seq (.block 1
 (.seq (.region [It 11 (.iaddr 7 (.t 7) (.t 9)),
 It 12 (.load (some 7) (.t 11)),
 It 6 (.alloc [i0,i0,i0,i0,(.s []),.ns,.ns]),
 ⟨none,(.store 7 (.t 6) (.t 12)),none,[]⟩] [11,12])
 (.seq (.seq (.region [Of 13 6 0,
 Ld 14 13,
 It 15 (.bin .eql (.t 14) (.c (.i .i64 (2))))] [13,14])
 (.cond (.t 15)
 (.region [Mv 16 0,
 It 17 (.nck (.t 16)),
 Of 18 17 3,
 Ld 19 18,
 Of 20 6 1,
 Ld 21 20,
 It 22 (.iaddr 1 (.t 19) (.t 21)),
 Ld 23 22,
 Of 24 6 1,
 ⟨none,(.store 1 (.t 24) (.t 23)),none,[]⟩] [15,16,17,18,19,20,21,22,23,24])
 (.region [] [15])))
 (.seq (.region [Of 25 6 2,
 It 26 (.load (some 5) (.t 25)),
 It 27 (.call 41 [(.t 26)]),
 Of 28 6 2,
 ⟨none,(.store 5 (.t 28) (.t 27)),none,[]⟩] [25,26,27,28])
 (.region [Mv 29 4,
 It 30 (.load (some 7) (.t 6)),
 It 31 (.bsl 7 1 [i0,i0,i0,i0,(.s []),.ns,.ns] [(0,7,(.t 30))]),
 It 32 (.app 7 96 (.t 29) (.t 31)),
 Mv 4 32] [6,29,30,31,32])))))
 (.region [It 33 (.bin .add (.t 9) (.c (.i .i64 (1)))),
 Mv 9 33] [33]))))
def I22:IFunc :=
  ⟨(.seq (.region [It 4 (.mov (.c .ns))] [])
 (.seq (.seq (.region [Mv 7 1,
 It 8 (.lenk 0 (.t 7)),
 It 9 (.mov (.c i0))] [1])
 (.block 0
 (.loop L22a)))
 (.seq (.region [Mv 34 4,
 Mv 4 34] [0,7,8,9,10,34])
 .ret))),
    35,2,[.t 4],2⟩
theorem tr22:trFunc Tryd.prog (hz [(6,[0,1,2,3,4,5,6,7,8,9])] I22.body) 1 Tryd.f22=some (plain1 I22):=by kernel_rfl
theorem ck22:ckC 2 I22.body=true:=by kernel_rfl
def L23a:ICode :=
  (.seq (.seq (.region [Mv 7 4,
 Of 8 1 4,
 Ld 9 8,
 It 10 (.lenk 0 (.t 9)),
 It 11 (.bin .lss (.t 7) (.t 10))] [7,8,9,10])
 (.cond (.t 11)
 (.region [] [11])
 (.exit 0)))
 (.seq (.block 1
 (.region [Of 14 3 4,
 Ld 15 14,
 Of 16 1 4,
 Ld 17 16,
 Mv 18 4,
 It 19 (.iaddr 5 (.t 17) (.t 18)),
 It 20 (.load (some 5) (.t 19)),
 ⟨(some 21),(.call 42 [(.t 20)]),none,[(15,(.load none (.t 14)),none)]⟩,
 It 22 (.bsl 5 1 [i0,i0,.ns,(.s []),.ns] [(0,5,(.t 21))]),
 It 23 (.app 5 80 (.t 15) (.t 22)),
 Of 24 3 4,
 ⟨none,(.store 1 (.t 24) (.t 23)),none,[]⟩] [14,15,16,17,18,19,20,21,22,23,24]))
 (.region [Mv 12 4,
 It 13 (.bin .add (.t 12) (.c (.i .i64 (1)))),
 Mv 4 13] [12,13])))
def I23:IFunc :=
  ⟨(.seq (.region [It 1 (.box (.t 0)),
 It 2 (.alloc [i0,i0,i0,i0,.ns,.ns,i0,i0,i0,i0,i0,i0,(.s []),.ns,.ns,i0])] [0])
 (.seq (.region [It 5 (.load (some 16) (.t 1)),
 It 3 (.alloc [i0,i0,i0,i0,.ns,.ns,i0,i0,i0,i0,i0,i0,(.s []),.ns,.ns,i0]),
 ⟨none,(.store 16 (.t 3) (.t 5)),none,[]⟩] [5])
 (.seq (.region [Of 6 3 4,
 ⟨none,(.store 1 (.t 6) (.c .ns)),none,[]⟩] [6])
 (.seq (.seq (.region [It 4 (.mov (.c i0))] [])
 (.block 0
 (.loop L23a)))
 (.seq (.region [Of 25 1 5,
 Ld 26 25,
 It 27 (.call 43 [(.t 26)]),
 Of 28 3 5,
 ⟨none,(.store 1 (.t 28) (.t 27)),none,[]⟩] [4,11,25,26,27,28])
 (.seq (.region [Of 29 1 8,
 Of 30 29 2,
 It 31 (.load (some 5) (.t 30)),
 It 32 (.call 44 [(.t 31)]),
 Of 33 3 8,
 Of 34 33 2,
 ⟨none,(.store 5 (.t 34) (.t 32)),none,[]⟩] [1,29,30,31,32,33,34])
 (.seq (.region [It 35 (.load (some 16) (.t 3)),
 ⟨none,(.store 16 (.t 2) (.t 35)),none,[]⟩] [3,35])
 .ret))))))),
    36,1,[.c 2 (some 16)],2⟩
theorem tr23:trFunc Tryd.prog (hz [(6,[0,1,2,3,4,5,6,7,8,9,10,11])] I23.body) 1 Tryd.f23=some (plain1 I23):=by kernel_rfl
theorem ck23:ckC 2 I23.body=true:=by kernel_rfl
def L24a:ICode :=
  (.seq (.seq (.region [Mv 5 4,
 Mv 6 0,
 It 7 (.lenk 0 (.t 6)),
 It 8 (.bin .lss (.t 5) (.t 7))] [5,6,7])
 (.cond (.t 8)
 (.region [] [8])
 (.exit 0)))
 (.seq (.block 1
 (.region [Mv 11 3,
 Mv 12 0,
 Mv 13 4,
 It 14 (.iaddr 7 (.t 12) (.t 13)),
 Of 15 14 0,
 Ld 16 15,
 Mv 17 0,
 Mv 18 4,
 It 19 (.iaddr 7 (.t 17) (.t 18)),
 Of 20 19 1,
 Ld 21 20,
 Mv 22 0,
 Mv 23 4,
 It 24 (.iaddr 7 (.t 22) (.t 23)),
 Of 25 24 2,
 It 26 (.load (some 5) (.t 25)),
 It 27 (.build [i0,i0,i0,i0,(.s []),.ns,.ns] [(0,1,(.t 16)),(1,1,(.t 21)),(2,5,(.t 26))]),
 It 28 (.bsl 7 1 [i0,i0,i0,i0,(.s []),.ns,.ns] [(0,7,(.t 27))]),
 It 29 (.app 7 96 (.t 11) (.t 28)),
 Mv 3 29] [11,12,13,14,15,16,17,18,19,20,21,22,23,24,25,26,27,28,29]))
 (.region [Mv 9 4,
 It 10 (.bin .add (.t 9) (.c (.i .i64 (1)))),
 Mv 4 10] [9,10])))
def I24:IFunc :=
  ⟨(.seq (.region [It 2 (.mov (.c .ns))] [2])
 (.seq (.region [It 3 (.mov (.c .ns))] [])
 (.seq (.seq (.region [It 4 (.mov (.c i0))] [])
 (.block 0
 (.loop L24a)))
 (.seq (.region [Mv 30 3,
 Mv 2 30] [0,3,4,8,30])
 .ret)))),
    31,1,[.t 2],2⟩
theorem tr24:trFunc Tryd.prog (hz [(5,[0,1,2,3,4,5,6,7,8,9,10,11,12,13,14,15,16,17,18,19])] I24.body) 1 Tryd.f24=some (plain1 I24):=by kernel_rfl
theorem ck24:ckC 2 I24.body=true:=by kernel_rfl
def L25a:ICode :=
  (.seq (.seq (.region [Mv 62 5,
 Of 63 2 4,
 Ld 64 63,
 It 65 (.lenk 0 (.t 64)),
 It 66 (.bin .lss (.t 62) (.t 65))] [62,63,64,65])
 (.cond (.t 66)
 (.region [] [66])
 (.exit 0)))
 (.seq (.block 1
 (.seq (.region [Of 69 2 4,
 Ld 70 69,
 Mv 71 5,
 It 72 (.iaddr 5 (.t 70) (.t 71)),
 It 73 (.load (some 5) (.t 72)),
 Of 74 3 4,
 Ld 75 74,
 Mv 76 5,
 It 77 (.iaddr 5 (.t 75) (.t 76)),
 It 78 (.load (some 5) (.t 77)),
 It 79 (.call 45 [(.t 73),(.t 78)]),
 It 80 (.un .not (.t 79))] [69,70,71,72,73,74,75,76,77,78,79])
 (.cond (.t 80)
 (.seq (.region [It 4 (.mov (.c (.b false)))] [2,3,5,80])
 .ret)
 (.region [] [80]))))
 (.region [Mv 67 5,
 It 68 (.bin .add (.t 67) (.c (.i .i64 (1)))),
 Mv 5 68] [67,68])))
def I25:IFunc :=
  ⟨(.seq (.region [It 2 (.box (.t 0)),
 It 3 (.box (.t 1)),
 It 4 (.mov (.c (.b false)))] [0,1,4])
 (.seq (.seq (.region [Of 6 2 0,
 Ld 7 6,
 Of 8 3 0,
 Ld 9 8,
 It 10 (.bin .neq (.t 7) (.t 9)),
 Mv 11 10,
 Ig 12 11 false (.off (.t 2) 1),
 Ig 13 11 false (.load none (.t 12)),
 Ig 14 11 false (.off (.t 3) 1),
 Ig 15 11 false (.load none (.t 14)),
 Ig 16 11 false (.bin .neq (.t 13) (.t 15)),
 It 17 (.pick (.t 11) (.c (.b true)) (.t 16)),
 Mv 18 17,
 Ig 19 18 false (.off (.t 2) 2),
 Ig 20 18 false (.load none (.t 19)),
 Ig 21 18 false (.off (.t 3) 2),
 Ig 22 18 false (.load none (.t 21)),
 Ig 23 18 false (.bin .neq (.t 20) (.t 22)),
 It 24 (.pick (.t 18) (.c (.b true)) (.t 23)),
 Mv 25 24,
 Ig 26 25 false (.off (.t 2) 3),
 Ig 27 25 false (.load none (.t 26)),
 Ig 28 25 false (.off (.t 3) 3),
 Ig 29 25 false (.load none (.t 28)),
 Ig 30 25 false (.bin .neq (.t 27) (.t 29)),
 It 31 (.pick (.t 25) (.c (.b true)) (.t 30)),
 Mv 32 31,
 Ig 33 32 false (.off (.t 2) 6),
 Ig 34 32 false (.load none (.t 33)),
 Ig 35 32 false (.off (.t 3) 6),
 Ig 36 32 false (.load none (.t 35)),
 Ig 37 32 false (.bin .neq (.t 34) (.t 36)),
 It 38 (.pick (.t 32) (.c (.b true)) (.t 37)),
 Mv 39 38,
 Ig 40 39 false (.off (.t 2) 7),
 Ig 41 39 false (.load none (.t 40)),
 Ig 42 39 false (.off (.t 3) 7),
 Ig 43 39 false (.load none (.t 42)),
 Ig 44 39 false (.bin .neq (.t 41) (.t 43)),
 It 45 (.pick (.t 39) (.c (.b true)) (.t 44)),
 Mv 46 45,
 Ig 47 46 false (.off (.t 2) 15),
 Ig 48 46 false (.load none (.t 47)),
 Ig 49 46 false (.off (.t 3) 15),
 Ig 50 46 false (.load none (.t 49)),
 Ig 51 46 false (.bin .neq (.t 48) (.t 50)),
 It 52 (.pick (.t 46) (.c (.b true)) (.t 51)),
 Mv 53 52,
 Ig 54 53 false (.off (.t 2) 4),
 Ig 55 53 false (.load none (.t 54)),
 Ig 56 53 false (.lenk 0 (.t 55)),
 Ig 57 53 false (.off (.t 3) 4),
 Ig 58 53 false (.load none (.t 57)),
 Ig 59 53 false (.lenk 0 (.t 58)),
 Ig 60 53 false (.bin .neq (.t 56) (.t 59)),
 It 61 (.pick (.t 53) (.c (.b true)) (.t 60))] [6,7,8,9,10,11,12,13,14,15,16,17,18,19,20,21,22,23,24,25,26,27,28,29,30,31,32,33,34,35,36,37,38,39,40,41,42,43,44,45,46,47,48,49,50,51,52,53,54,55,56,57,58,59,60])
 (.cond (.t 61)
 (.seq (.region [It 4 (.mov (.c (.b false)))] [2,3,61])
 .ret)
 (.region [] [61])))
 (.seq (.seq (.region [It 5 (.mov (.c i0))] [])
 (.block 0
 (.loop L25a)))
 (.seq (.region [Of 81 2 5,
 Ld 82 81,
 Of 83 3 5,
 Ld 84 83,
 It 85 (.call 46 [(.t 82),(.t 84)]),
 Mv 86 85,
 Ig 87 86 true (.off (.t 2) 8),
 Ig 88 86 true (.load (some 7) (.t 87)),
 Ig 89 86 true (.off (.t 3) 8),
 Ig 90 86 true (.load (some 7) (.t 89)),
 Ig 91 86 true (.call 47 [(.t 88),(.t 90)]),
 It 92 (.pick (.t 86) (.t 91) (.c (.b false))),
 Mv 4 92] [2,3,5,66,81,82,83,84,85,86,87,88,89,90,91,92])
 .ret)))),
    93,2,[.t 4],2⟩
theorem tr25:trFunc Tryd.prog (hz [(7,[0,1,2,3,4,5,6,7,8,9,10,11])] I25.body) 1 Tryd.f25=some (plain1 I25):=by kernel_rfl
theorem ck25:ckC 2 I25.body=true:=by kernel_rfl
def L26a:ICode :=
  (.seq (.seq (.region [Mv 20 4,
 Of 21 1 4,
 Ld 22 21,
 It 23 (.lenk 0 (.t 22)),
 It 24 (.bin .lss (.t 20) (.t 23))] [20,21,22,23])
 (.cond (.t 24)
 (.region [] [24])
 (.exit 0)))
 (.seq (.block 1
 (.region [Of 27 3 4,
 Ld 28 27,
 Of 29 1 4,
 Ld 30 29,
 Mv 31 4,
 It 32 (.iaddr 5 (.t 30) (.t 31)),
 Of 33 32 0,
 Ld 34 33,
 Of 35 1 4,
 Ld 36 35,
 Mv 37 4,
 It 38 (.iaddr 5 (.t 36) (.t 37)),
 Of 39 38 1,
 Ld 40 39,
 Of 41 1 4,
 Ld 42 41,
 Mv 43 4,
 It 44 (.iaddr 5 (.t 42) (.t 43)),
 Of 45 44 2,
 Ld 46 45,
 Of 48 1 4,
 Ld 49 48,
 Mv 50 4,
 It 51 (.iaddr 5 (.t 49) (.t 50)),
 Of 52 51 3,
 Ld 53 52,
 Of 54 1 4,
 Ld 55 54,
 Mv 56 4,
 It 57 (.iaddr 5 (.t 55) (.t 56)),
 Of 58 57 4,
 Ld 59 58,
 ⟨(some 47),(.call 48 [(.t 46)]),none,[(28,(.load none (.t 27)),none),(30,(.load none (.t 29)),none),(34,(.load none (.t 33)),none),(36,(.load none (.t 35)),none),(40,(.load none (.t 39)),none),(49,(.load none (.t 48)),none),(53,(.load none (.t 52)),none),(55,(.load none (.t 54)),none),(59,(.load none (.t 58)),none)]⟩,
 It 60 (.build [i0,i0,.ns,(.s []),.ns] [(0,1,(.t 34)),(1,1,(.t 40)),(2,1,(.t 47)),(3,1,(.t 53)),(4,1,(.t 59))]),
 It 61 (.bsl 5 1 [i0,i0,.ns,(.s []),.ns] [(0,5,(.t 60))]),
 It 62 (.app 5 80 (.t 28) (.t 61)),
 Of 63 3 4,
 ⟨none,(.store 1 (.t 63) (.t 62)),none,[]⟩] [27,28,29,30,31,32,33,34,35,36,37,38,39,40,41,42,43,44,45,46,48,49,50,51,52,53,54,55,56,57,58,59,47,60,61,62,63]))
 (.region [Mv 25 4,
 It 26 (.bin .add (.t 25) (.c (.i .i64 (1)))),
 Mv 4 26] [25,26])))
def I26:IFunc :=
  ⟨(.seq (.region [It 1 (.box (.t 0)),
 It 2 (.alloc [i0,i0,i0,i0,.ns,.ns,i0,i0,i0,i0,i0,i0,(.s []),.ns,.ns,i0])] [0])
 (.seq (.region [Of 5 1 0,
 Ld 6 5,
 Of 7 1 1,
 Ld 8 7,
 Of 9 1 2,
 Ld 10 9,
 Of 11 1 3,
 Ld 12 11,
 Of 13 1 6,
 Ld 14 13,
 Of 15 1 7,
 Ld 16 15,
 Of 17 1 15,
 Ld 18 17,
 It 19 (.build [i0,i0,i0,i0,.ns,.ns,i0,i0,i0,i0,i0,i0,(.s []),.ns,.ns,i0] [(0,1,(.t 6)),(1,1,(.t 8)),(2,1,(.t 10)),(3,1,(.t 12)),(6,1,(.t 14)),(7,1,(.t 16)),(15,1,(.t 18))]),
 It 3 (.alloc [i0,i0,i0,i0,.ns,.ns,i0,i0,i0,i0,i0,i0,(.s []),.ns,.ns,i0]),
 ⟨none,(.store 16 (.t 3) (.t 19)),none,[]⟩] [5,6,7,8,9,10,11,12,13,14,15,16,17,18,19])
 (.seq (.seq (.region [It 4 (.mov (.c i0))] [])
 (.block 0
 (.loop L26a)))
 (.seq (.region [Of 64 1 5,
 Ld 65 64,
 It 66 (.call 48 [(.t 65)]),
 Of 67 3 5,
 ⟨none,(.store 1 (.t 67) (.t 66)),none,[]⟩] [4,24,64,65,66,67])
 (.seq (.region [Of 68 1 8,
 Of 69 68 0,
 Ld 70 69,
 Of 71 1 8,
 Of 72 71 1,
 Ld 73 72,
 Of 74 1 8,
 Of 75 74 2,
 It 76 (.load (some 5) (.t 75)),
 It 77 (.build [i0,i0,i0,i0,(.s []),.ns,.ns] [(0,1,(.t 70)),(1,1,(.t 73)),(2,5,(.t 76))]),
 Of 78 3 8,
 ⟨none,(.store 7 (.t 78) (.t 77)),none,[]⟩] [1,68,69,70,71,72,73,74,75,76,77,78])
 (.seq (.region [It 79 (.load (some 16) (.t 3)),
 ⟨none,(.store 16 (.t 2) (.t 79)),none,[]⟩] [3,79])
 .ret)))))),
    80,1,[.c 2 (some 16)],2⟩
theorem tr26:trFunc Tryd.prog (hz [(5,[0,1,2,3,4,5,6,7,8,9,10,11,12,13,14,15,16,17,18,19,21,22,23,24,25,26,27,28,29,30,31,32,20,33,34,35,36,37])] I26.body) 1 Tryd.f26=some (plain1 I26):=by kernel_rfl
theorem ck26:ckC 2 I26.body=true:=by kernel_rfl
def I27:IFunc :=
  ⟨(.seq (.region [It 2 (.mov (.c (.b false)))] [2])
 (.seq (.region [Mv 3 0,
 It 4 (.eqNil 1 false (.t 3) (.c .np)),
 Mv 5 4,
 Ig 6 5 false (.mov (.t 0)),
 Ig 7 5 false (.nck (.t 6)),
 Ig 8 5 false (.off (.t 7) 0),
 Ig 9 5 false (.load none (.t 8)),
 Ig 10 5 false (.eqNil 2 false (.t 9) (.c .nm)),
 It 11 (.pick (.t 5) (.c (.b true)) (.t 10)),
 Mv 2 11] [0,3,4,5,6,7,8,9,10,11])
 .ret)),
    12,1,[.t 2],1⟩
theorem tr27:trFunc Tryd.prog (hz [] I27.body) 1 Tryd.f27=some (plain1 I27):=by kernel_rfl
theorem ck27:ckC 2 I27.body=true:=by kernel_rfl
def I28:IFunc :=
  ⟨(.seq (.region [It 1 (.box (.t 0)),
 It 2 (.mov (.c i0))] [0,2])
 (.seq (.seq (.region [It 6 (.load (some 5) (.t 1)),
 It 7 (.call 49 [(.t 6),(.c i0),(.c (.i .i64 (256)))]),
 Mv 5 7,
 Ex 8 5 0,
 Ex 9 5 1,
 Mv 3 8,
 Mv 4 9] [1,6,7,5,8,9,3])
 (.seq (.region [Mv 10 4,
 It 11 (.un .not (.t 10))] [4,10])
 (.cond (.t 11)
 (.seq (.region [It 2 (.mov (.c (.i .i64 (2))))] [11])
 .ret)
 (.region [] [11]))))
 (.seq (.region [It 2 (.mov (.c i0))] [])
 .ret))),
    12,1,[.t 2],2⟩
theorem tr28:trFunc Tryd.prog (hz [] I28.body) 1 Tryd.f28=some (plain1 I28):=by kernel_rfl
theorem ck28:ckC 2 I28.body=true:=by kernel_rfl
def L29a:ICode :=
  (.seq (.region [It 25 (.bin .lss (.t 24) (.t 23))] [])
 (.seq (.cond (.t 25)
 (.region [] [25])
 (.exit 2))
 (.seq (.block 3
 (.seq (.region [It 26 (.iaddr 1 (.t 22) (.t 24)),
 Ld 27 26,
 Mv 8 27] [26,27])
 (.seq (.region [Mv 28 6,
 Mv 29 8,
 It 30 (.lenk 0 (.t 29)),
 It 31 (.bin .geq (.t 28) (.t 30)),
 Mv 32 31,
 Ig 33 32 false (.mov (.t 8)),
 Ig 34 32 false (.mov (.t 6)),
 Ig 35 32 false (.iaddr 1 (.t 33) (.t 34)),
 Ig 36 32 false (.load none (.t 35)),
 Ig 37 32 false (.mov (.t 0)),
 Ig 38 32 false (.mov (.t 6)),
 Ig 39 32 false (.mov (.t 0)),
 Ig 40 32 false (.lenk 0 (.t 39)),
 Ig 41 32 false (.bin .sub (.t 40) (.c (.i .i64 (1)))),
 Ig 42 32 false (.mm false (.t 38) [(.t 41)]),
 Ig 43 32 false (.iaddr 1 (.t 37) (.t 42)),
 Ig 44 32 false (.load none (.t 43)),
 Ig 45 32 false (.bin .neq (.t 36) (.t 44)),
 It 46 (.pick (.t 32) (.c (.b true)) (.t 45))] [8,28,29,30,31,32,33,34,35,36,37,38,39,40,41,42,43,44,45])
 (.cond (.t 46)
 (.seq (.region [Mv 47 5,
 Mv 48 6,
 It 49 (.iaddr 1 (.t 47) (.t 48)),
 ⟨none,(.store 1 (.t 49) (.c (.i .i64 (-1)))),none,[]⟩] [6,22,23,24,46,47,48,49])
 (.exit 1))
 (.region [] [46])))))
 (.region [It 50 (.bin .add (.t 24) (.c (.i .i64 (1)))),
 Mv 24 50] [50]))))
def L29b:ICode :=
  (.seq (.region [It 18 (.bin .lss (.t 17) (.t 16))] [])
 (.seq (.cond (.t 18)
 (.region [] [18])
 (.exit 0))
 (.seq (.block 1
 (.seq (.region [Mv 19 17,
 Mv 6 19] [19])
 (.seq (.seq (.region [Mv 20 0,
 Mv 21 1,
 It 22 (.bsl 1 2 [.ns,.ns] [(0,1,(.t 20)),(1,1,(.t 21))]),
 It 23 (.lenk 0 (.t 22)),
 It 24 (.mov (.c i0))] [20,21])
 (.block 2
 (.loop L29a)))
 (.region [Mv 51 5,
 Mv 52 6,
 Mv 53 0,
 Mv 54 6,
 It 55 (.iaddr 1 (.t 53) (.t 54)),
 Ld 56 55,
 It 57 (.iaddr 1 (.t 51) (.t 52)),
 ⟨none,(.store 1 (.t 57) (.t 56)),none,[]⟩] [6,22,23,24,25,51,52,53,54,55,56,57]))))
 (.region [It 58 (.bin .add (.t 17) (.c (.i .i64 (1)))),
 Mv 17 58] [58]))))
def I29:IFunc :=
  ⟨(.seq (.region [It 4 (.mov (.c .ns))] [4])
 (.seq .skip
 (.seq (.region [Mv 9 0,
 It 10 (.lenk 0 (.t 9)),
 Mv 11 1,
 It 12 (.lenk 0 (.t 11)),
 It 13 (.mm true (.t 10) [(.t 12)]),
 It 14 (.mksl 1 8 [i0] (.t 13) (.t 13)),
 Mv 5 14] [9,10,11,12,13,14])
 (.seq .skip
 (.seq (.seq (.region [Mv 15 5,
 It 16 (.lenk 0 (.t 15)),
 It 17 (.mov (.c i0))] [15])
 (.block 0
 (.loop L29b)))
 (.seq (.region [Mv 59 5,
 Mv 4 59] [0,1,5,16,17,18,59])
 .ret)))))),
    60,2,[.t 4],2⟩
theorem tr29:trFunc Tryd.prog [([],[4]),([],[9,10,11,12,13,14]),([],[15]),([],[]),([],[18]),([],[19]),([],[20,21]),([],[]),([],[25]),([],[26,27]),([0,1,2,3,4,5,6,7,8,9,10,11,12,13,14,15,16,17,18],[8,28,29,30,31,32,33,34,35,36,37,38,39,40,41,42,43,44,45]),([],[6,22,23,24,46,47,48,49]),([],[46]),([],[50]),([],[6,22,23,24,25,51,52,53,54,55,56,57]),([],[58]),([],[0,1,5,16,17,18,59])] 1 Tryd.f29=some (plain1 I29):=by kernel_rfl
theorem ck29:ckC 2 I29.body=true:=by kernel_rfl
def I30:IFunc:=⟨cloneCode 1 8,8,1,[.t 2],4⟩
theorem tr30:trFunc Tryd.prog [([],[]),([],[]),([],[]),([],[]),([],[])] 1 Tryd.f30=some (plain1 I30):=by kernel_rfl
theorem ck30:ckC 2 (cloneCode 1 8)=true:=by kernel_rfl
def I31:IFunc :=
  ⟨(.seq (.region [It 3 (.box (.t 0)),
 It 6 (.mov (.c (.b false)))] [0,6])
 (.seq (.region [It 11 (.load (some 5) (.t 3)),
 It 12 (.call 50 [(.t 11)]),
 Mv 10 12,
 Ex 13 10 0,
 Ex 14 10 1,
 Ex 15 10 2,
 Mv 7 13,
 Mv 8 14,
 Mv 9 15] [11,12,10,13,14,15])
 (.seq (.region [Mv 16 9,
 Mv 17 16,
 Ig 18 17 true (.off (.t 3) 2),
 Ig 19 17 true (.load none (.t 18)),
 Ig 20 17 true (.lenk 0 (.t 19)),
 Ig 21 17 true (.mov (.t 7)),
 Ig 22 17 true (.bin .geq (.t 20) (.t 21)),
 It 23 (.pick (.t 17) (.t 22) (.c (.b false))),
 Mv 24 23,
 Ig 25 24 true (.off (.t 3) 2),
 Ig 26 24 true (.load none (.t 25)),
 Ig 27 24 true (.lenk 0 (.t 26)),
 Ig 28 24 true (.mov (.t 8)),
 Ig 29 24 true (.bin .leq (.t 27) (.t 28)),
 It 30 (.pick (.t 24) (.t 29) (.c (.b false))),
 Mv 31 30,
 Ig 32 31 true (.off (.t 3) 2),
 Ig 33 31 true (.load none (.t 32)),
 Ig 34 31 true (.mov (.t 1)),
 Ig 35 31 true (.mov (.t 2)),
 Ig 36 31 true (.call 34 [(.t 33),(.t 34),(.t 35)]),
 It 37 (.pick (.t 31) (.t 36) (.c (.b false))),
 Mv 6 37] [1,2,3,7,8,9,16,17,18,19,20,21,22,23,24,25,26,27,28,29,30,31,32,33,34,35,36,37])
 .ret))),
    38,3,[.t 6],2⟩
theorem tr31:trFunc Tryd.prog (hz [] I31.body) 1 Tryd.f31=some (plain1 I31):=by kernel_rfl
theorem ck31:ckC 2 I31.body=true:=by kernel_rfl
def I32:IFunc :=
  ⟨(.seq (.region [It 3 (.box (.t 0)),
 It 6 (.mov (.c (.b false)))] [0,6])
 (.seq (.seq (.region [Of 7 3 0,
 Ld 8 7] [7])
 (.block 0
 (.seq (.region [It 10 (.bin .eql (.t 8) (.c (.i .i64 (1)))),
 Mv 9 10] [10])
 (.cond (.t 9)
 (.seq (.region [Of 11 3 1,
 Ld 12 11,
 It 13 (.bin .geq (.t 12) (.c i0)),
 Mv 14 13,
 Ig 15 14 true (.off (.t 3) 1),
 Ig 16 14 true (.load none (.t 15)),
 Ig 17 14 true (.mov (.t 1)),
 Ig 18 14 true (.bin .lss (.t 16) (.t 17)),
 It 19 (.pick (.t 14) (.t 18) (.c (.b false))),
 Mv 20 19,
 Ig 21 20 true (.off (.t 3) 2),
 Ig 22 20 true (.load (some 5) (.t 21)),
 Ig 23 20 true (.call 33 [(.t 22)]),
 It 24 (.pick (.t 20) (.t 23) (.c (.b false))),
 Mv 6 24] [1,2,3,8,9,11,12,13,14,15,16,17,18,19,20,21,22,23,24])
 .ret)
 (.seq (.region [It 26 (.bin .eql (.t 8) (.c (.i .i64 (2)))),
 Mv 25 26] [1,9,26])
 (.cond (.t 25)
 (.seq (.region [Of 27 3 1,
 Ld 28 27,
 It 29 (.bin .geq (.t 28) (.c i0)),
 Mv 30 29,
 Ig 31 30 true (.off (.t 3) 1),
 Ig 32 30 true (.load none (.t 31)),
 Ig 33 30 true (.mov (.t 2)),
 Ig 34 30 true (.bin .lss (.t 32) (.t 33)),
 It 35 (.pick (.t 30) (.t 34) (.c (.b false))),
 Mv 36 35,
 Ig 37 36 true (.off (.t 3) 2),
 Ig 38 36 true (.load (some 5) (.t 37)),
 Ig 39 36 true (.call 33 [(.t 38)]),
 It 40 (.pick (.t 36) (.t 39) (.c (.b false))),
 Mv 6 40] [2,3,8,25,27,28,29,30,31,32,33,34,35,36,37,38,39,40])
 .ret)
 (.seq (.region [It 42 (.bin .eql (.t 8) (.c (.i .i64 (3)))),
 Mv 41 42] [2,8,25,42])
 (.cond (.t 41)
 (.seq (.region [Of 43 3 1,
 Ld 44 43,
 It 45 (.bin .eql (.t 44) (.c i0)),
 Mv 46 45,
 Ig 47 46 true (.off (.t 3) 2),
 Ig 48 46 true (.load (some 5) (.t 47)),
 Ig 49 46 true (.call 51 [(.t 48)]),
 It 50 (.pick (.t 46) (.t 49) (.c (.b false))),
 Mv 6 50] [3,41,43,44,45,46,47,48,49,50])
 .ret)
 (.region [] [3,41])))))))))
 (.seq (.region [It 6 (.mov (.c (.b false)))] [])
 .ret))),
    51,3,[.t 6],2⟩
theorem tr32:trFunc Tryd.prog (hz [] I32.body) 1 Tryd.f32=some (plain1 I32):=by kernel_rfl
theorem ck32:ckC 2 I32.body=true:=by kernel_rfl
def I33:IFunc :=
  ⟨(.seq (.region [It 1 (.box (.t 0)),
 It 2 (.mov (.c (.b false)))] [0,2])
 (.seq (.region [It 3 (.load (some 5) (.t 1)),
 It 4 (.build [i0,i0,(.s []),.ns,.ns] []),
 It 5 (.call 52 [(.t 3),(.t 4)]),
 Mv 2 5] [1,3,4,5])
 .ret)),
    6,1,[.t 2],2⟩
theorem tr33:trFunc Tryd.prog (hz [] I33.body) 1 Tryd.f33=some (plain1 I33):=by kernel_rfl
theorem ck33:ckC 2 I33.body=true:=by kernel_rfl
def I34:IFunc :=
  ⟨(.seq (.region [It 4 (.box (.t 1)),
 It 5 (.box (.t 2)),
 It 6 (.mov (.c (.b false)))] [1,2,6])
 (.seq (.region [Mv 7 0,
 It 8 (.mkf 53 [] [(.t 4),(.t 5)]),
 It 9 (.call 38 [(.t 7),(.t 8)]),
 It 10 (.un .not (.t 9)),
 Mv 6 10] [0,4,5,7,8,9,10])
 .ret)),
    11,3,[.t 6],2⟩
theorem tr34:trFunc Tryd.prog (hz [] I34.body) 1 Tryd.f34=some (plain1 I34):=by kernel_rfl
theorem ck34:ckC 2 I34.body=true:=by kernel_rfl
def I35:IFunc:=⟨cloneCode 1 16,8,1,[.t 2],4⟩
theorem tr35:trFunc Tryd.prog [([],[]),([],[]),([],[]),([],[]),([],[])] 1 Tryd.f35=some (plain1 I35):=by kernel_rfl
theorem ck35:ckC 2 (cloneCode 1 16)=true:=by kernel_rfl
def I36:IFunc :=
  ⟨(.seq (.region [It 2 (.mov (.c i0)),
 It 3 (.mov (.c i0)),
 It 4 (.mov (.c (.b false)))] [2,3,4])
 (.seq (.seq (.region [Mv 5 0] [0])
 (.block 0
 (.seq (.region [It 7 (.bin .eql (.t 5) (.c (.i .i64 (6)))),
 Mv 6 7] [7])
 (.cond (.t 6)
 (.seq (.region [It 2 (.mov (.c (.i .i64 (41)))),
 It 3 (.mov (.c (.i .i64 (1)))),
 It 4 (.mov (.c (.b true)))] [5,6])
 .ret)
 (.seq (.region [It 9 (.bin .eql (.t 5) (.c (.i .i64 (7)))),
 Mv 8 9] [6,9])
 (.cond (.t 8)
 (.seq (.region [It 2 (.mov (.c (.i .i64 (42)))),
 It 3 (.mov (.c (.i .i64 (2)))),
 It 4 (.mov (.c (.b true)))] [5,8])
 .ret)
 (.seq (.region [It 11 (.bin .eql (.t 5) (.c (.i .i64 (9)))),
 Mv 10 11] [8,11])
 (.cond (.t 10)
 (.seq (.region [It 2 (.mov (.c (.i .i64 (43)))),
 It 3 (.mov (.c (.i .i64 (1)))),
 It 4 (.mov (.c (.b true)))] [5,10])
 .ret)
 (.seq (.region [It 13 (.bin .eql (.t 5) (.c (.i .i64 (10)))),
 Mv 12 13] [10,13])
 (.cond (.t 12)
 (.seq (.region [It 2 (.mov (.c (.i .i64 (44)))),
 It 3 (.mov (.c (.i .i64 (1)))),
 It 4 (.mov (.c (.b true)))] [5,12])
 .ret)
 (.seq (.region [It 15 (.bin .eql (.t 5) (.c (.i .i64 (11)))),
 Mv 14 15] [12,15])
 (.cond (.t 14)
 (.seq (.region [It 2 (.mov (.c (.i .i64 (45)))),
 It 3 (.mov (.c (.i .i64 (1)))),
 It 4 (.mov (.c (.b true)))] [5,14])
 .ret)
 (.seq (.region [It 17 (.bin .eql (.t 5) (.c (.i .i64 (16)))),
 Mv 16 17] [14,17])
 (.cond (.t 16)
 (.seq (.region [It 2 (.mov (.c (.i .i64 (46)))),
 It 3 (.mov (.c (.i .i64 (1)))),
 It 4 (.mov (.c (.b true)))] [5,16])
 .ret)
 (.seq (.region [It 19 (.bin .eql (.t 5) (.c (.i .i64 (17)))),
 Mv 18 19] [5,16,19])
 (.cond (.t 18)
 (.seq (.region [It 2 (.mov (.c (.i .i64 (47)))),
 It 3 (.mov (.c (.i .i64 (1)))),
 It 4 (.mov (.c (.b true)))] [18])
 .ret)
 (.region [] [18])))))))))))))))))
 (.seq (.region [It 2 (.mov (.c i0)),
 It 3 (.mov (.c i0)),
 It 4 (.mov (.c (.b false)))] [])
 .ret))),
    20,1,[.t 2,.t 3,.t 4],2⟩
theorem tr36:trFunc Tryd.prog (hz [] I36.body) 1 Tryd.f36=some (plain1 I36):=by kernel_rfl
theorem ck36:ckC 2 I36.body=true:=by kernel_rfl
def I37:IFunc :=
  ⟨(.seq (.region [It 4 (.box (.t 1))] [1])
 (.seq (.seq (.region [Of 6 4 0,
 Ld 7 6,
 It 8 (.bin .neq (.t 7) (.c (.i .i64 (1)))),
 Mv 9 8,
 Ig 10 9 false (.mov (.t 0)),
 Ig 11 9 false (.nck (.t 10)),
 Ig 12 9 false (.off (.t 11) 1),
 Ig 13 9 false (.load none (.t 12)),
 Ig 14 9 false (.off (.t 4) 1),
 Ig 15 9 false (.load none (.t 14)),
 Ig 16 9 false (.iaddr 1 (.t 13) (.t 15)),
 Ig 17 9 false (.load none (.t 16)),
 Ig 18 9 false (.bin .neq (.t 17) (.c (.i .i64 (-1)))),
 It 19 (.pick (.t 9) (.c (.b true)) (.t 18)),
 Mv 20 19,
 Ig 21 20 false (.off (.t 4) 1),
 Ig 22 20 false (.load none (.t 21)),
 Ig 23 20 false (.mov (.t 0)),
 Ig 24 20 false (.nck (.t 23)),
 Ig 25 20 false (.off (.t 24) 2),
 Ig 26 20 false (.load none (.t 25)),
 Ig 27 20 false (.lenk 0 (.t 26)),
 Ig 28 20 false (.bin .geq (.t 22) (.t 27)),
 It 29 (.pick (.t 20) (.c (.b true)) (.t 28)),
 Mv 30 29,
 Ig 31 30 false (.mov (.t 0)),
 Ig 32 30 false (.nck (.t 31)),
 Ig 33 30 false (.off (.t 32) 2),
 Ig 34 30 false (.load none (.t 33)),
 Ig 35 30 false (.off (.t 4) 1),
 Ig 36 30 false (.load none (.t 35)),
 Ig 37 30 false (.iaddr 1 (.t 34) (.t 36)),
 Ig 38 30 false (.load none (.t 37)),
 Ig 39 30 false (.mov (.t 2)),
 Ig 40 30 false (.bin .neq (.t 38) (.t 39)),
 It 41 (.pick (.t 30) (.c (.b true)) (.t 40))] [6,7,8,9,10,11,12,13,14,15,16,17,18,19,20,21,22,23,24,25,26,27,28,29,30,31,32,33,34,35,36,37,38,39,40])
 (.cond (.t 41)
 .ret
 (.region [] [41])))
 (.seq (.region [Mv 42 0,
 Mv 43 0,
 It 44 (.nck (.t 43)),
 Of 45 44 0,
 Ld 46 45,
 Mv 47 2,
 It 48 (.load (some 7) (.t 4)),
 It 49 (.bsl 7 1 [i0,i0,i0,i0,(.s []),.ns,.ns] [(0,7,(.t 48))]),
 It 50 (.build [i0,i0,.ns,(.s []),.ns] [(0,1,(.c (.i .i64 (40)))),(1,1,(.t 47)),(2,1,(.t 49))]),
 It 51 (.bsl 5 1 [i0,i0,.ns,(.s []),.ns] [(0,5,(.t 50))]),
 It 52 (.app 5 80 (.t 46) (.t 51)),
 It 53 (.nck (.t 42)),
 Of 54 53 0,
 ⟨none,(.store 1 (.t 54) (.t 52)),none,[]⟩] [42,43,44,45,46,47,48,49,50,51,52,53,54])
 (.region [Mv 55 0,
 It 56 (.nck (.t 55)),
 Of 57 56 1,
 Ld 58 57,
 Of 59 4 1,
 Ld 60 59,
 Mv 61 2,
 It 62 (.iaddr 1 (.t 58) (.t 60)),
 ⟨none,(.store 1 (.t 62) (.t 61)),none,[]⟩] [0,2,4,55,56,57,58,59,60,61,62])))),
    63,3,[],0⟩
theorem tr37:trFunc Tryd.prog (hz [(1,[0,1,2,3,4,5,6,7,8,9,10,11,12,13,14,15,16,17,18,19,20,21,22,23,24,25,26,27,28,29,30,31,32,33,34,35]),(3,[0,1,2,3,4,5,6,7,8,9,10,11,12,13]),(4,[0,1,2,3,4,5,6,7,8])] I37.body) 0 Tryd.f37=some (plain1 I37):=by kernel_rfl
theorem ck37:ckC 2 I37.body=true:=by kernel_rfl
def I38:IFunc :=
  ⟨(.seq (.region [It 4 (.mov (.c (.b false)))] [4])
 (.seq (.region [Mv 5 0,
 Mv 6 1,
 It 7 (.call 54 [(.t 5),(.t 6)]),
 It 8 (.bin .geq (.t 7) (.c i0)),
 Mv 4 8] [0,1,5,6,7,8])
 .ret)),
    9,2,[.t 4],2⟩
theorem tr38:trFunc Tryd.prog (hz [] I38.body) 1 Tryd.f38=some (plain1 I38):=by kernel_rfl
theorem ck38:ckC 2 I38.body=true:=by kernel_rfl
def I39:IFunc :=
  ⟨(.seq (.region [It 3 (.box (.t 0)),
 It 4 (.mov (.c (.b false)))] [0,4])
 (.seq (.region [Ld 5 1,
 It 6 (.load (some 7) (.t 3)),
 Ld 8 2,
 ⟨(some 7),(.call 40 [(.t 5),(.t 6)]),none,[(8,(.load none (.t 2)),none)]⟩,
 It 9 (.bin .neq (.t 7) (.t 8)),
 Mv 4 9] [1,2,3,5,6,8,7,9])
 .ret)),
    10,3,[.t 4],2⟩
theorem tr39:trFunc Tryd.prog (hz [(1,[0,1,3,2,4,5])] I39.body) 1 Tryd.f39=some (plain1 I39):=by kernel_rfl
theorem ck39:ckC 2 I39.body=true:=by kernel_rfl
def I40:IFunc :=
  ⟨(.seq (.region [It 3 (.box (.t 1)),
 It 4 (.mov (.c i0))] [1,4])
 (.seq (.seq (.region [Of 5 3 0,
 Ld 6 5] [5])
 (.block 0
 (.seq (.region [It 8 (.bin .eql (.t 6) (.c (.i .i64 (1)))),
 Mv 7 8] [8])
 (.cond (.t 7)
 (.seq (.region [Mv 9 0,
 It 10 (.nck (.t 9)),
 Of 11 10 1,
 Ld 12 11,
 Of 13 3 1,
 Ld 14 13,
 It 15 (.iaddr 1 (.t 12) (.t 14)),
 Ld 16 15,
 Mv 4 16] [0,3,6,7,9,10,11,12,13,14,15,16])
 .ret)
 (.seq (.region [It 18 (.bin .eql (.t 6) (.c (.i .i64 (2)))),
 Mv 17 18] [6,7,18])
 (.cond (.t 17)
 (.seq (.region [Mv 19 0,
 It 20 (.nck (.t 19)),
 Of 21 20 0,
 Ld 22 21,
 Of 23 3 1,
 Ld 24 23,
 It 25 (.iaddr 5 (.t 22) (.t 24)),
 It 26 (.load (some 5) (.t 25)),
 It 27 (.call 55 [(.t 26)]),
 Mv 4 27] [0,3,17,19,20,21,22,23,24,25,26,27])
 .ret)
 (.region [] [0,17])))))))
 (.seq (.region [Of 28 3 2,
 Of 29 28 0,
 Ld 30 29,
 Mv 4 30] [3,28,29,30])
 .ret))),
    31,2,[.t 4],2⟩
theorem tr40:trFunc Tryd.prog (hz [(3,[0,1,2,3,4,5,6,7,8]),(5,[0,1,2,3,4,5,6,7,8,9])] I40.body) 1 Tryd.f40=some (plain1 I40):=by kernel_rfl
theorem ck40:ckC 2 I40.body=true:=by kernel_rfl
def L41a:ICode :=
  (.seq (.region [It 16 (.bin .lss (.t 15) (.t 14))] [])
 (.seq (.cond (.t 16)
 (.region [] [16])
 (.exit 0))
 (.seq (.block 1
 (.seq (.region [Mv 17 15,
 Mv 3 17] [17])
 (.region [Of 18 1 3,
 Ld 19 18,
 Mv 20 3,
 Of 21 1 3,
 Ld 22 21,
 Mv 23 3,
 It 24 (.iaddr 5 (.t 22) (.t 23)),
 It 25 (.load (some 5) (.t 24)),
 ⟨(some 26),(.call 41 [(.t 25)]),none,[(19,(.load none (.t 18)),none)]⟩,
 It 27 (.iaddr 5 (.t 19) (.t 20)),
 ⟨none,(.store 5 (.t 27) (.t 26)),none,[]⟩] [3,18,19,20,21,22,23,24,25,26,27])))
 (.region [It 28 (.bin .add (.t 15) (.c (.i .i64 (1)))),
 Mv 15 28] [28]))))
def I41:IFunc :=
  ⟨(.seq (.region [It 1 (.box (.t 0)),
 It 2 (.alloc [i0,i0,(.s []),.ns,.ns])] [0])
 (.seq (.region [Of 4 1 4,
 Ld 5 4,
 Of 7 1 3,
 Ld 8 7,
 ⟨(some 6),(.call 35 [(.t 5)]),none,[(8,(.load none (.t 7)),none)]⟩,
 Of 10 1 4,
 It 9 (.call 56 [(.t 8)]),
 ⟨none,(.store 1 (.t 10) (.t 6)),none,[]⟩,
 Of 11 1 3,
 ⟨none,(.store 1 (.t 11) (.t 9)),none,[]⟩] [4,5,7,8,6,10,9,11])
 (.seq (.seq (.region [Of 12 1 3,
 Ld 13 12,
 It 14 (.lenk 0 (.t 13)),
 It 15 (.mov (.c i0))] [12,13])
 (.block 0
 (.loop L41a)))
 (.seq (.region [It 29 (.load (some 5) (.t 1)),
 ⟨none,(.store 5 (.t 2) (.t 29)),none,[]⟩] [1,14,15,16,29])
 .ret)))),
    30,1,[.c 2 (some 5)],2⟩
theorem tr41:trFunc Tryd.prog (hz [(1,[0,1,3,4,2,6,5,7,8,9]),(6,[0,1,2,3,4,5,6,7,8,9,10])] I41.body) 1 Tryd.f41=some (plain1 I41):=by kernel_rfl
theorem ck41:ckC 2 I41.body=true:=by kernel_rfl
def I42:IFunc :=
  ⟨(.seq (.region [It 1 (.box (.t 0)),
 It 2 (.alloc [i0,i0,.ns,(.s []),.ns])] [0])
 (.seq (.region [Of 3 1 0,
 Ld 4 3,
 Of 5 1 1,
 Ld 6 5,
 Of 7 1 2,
 Ld 8 7,
 Of 10 1 3,
 Ld 11 10,
 Of 12 1 4,
 Ld 13 12,
 ⟨(some 9),(.call 43 [(.t 8)]),none,[(4,(.load none (.t 3)),none),(6,(.load none (.t 5)),none),(11,(.load none (.t 10)),none),(13,(.load none (.t 12)),none)]⟩,
 ⟨(some 14),(.call 57 [(.t 13)]),none,[(4,(.load none (.t 3)),none),(6,(.load none (.t 5)),none),(11,(.load none (.t 10)),none)]⟩,
 It 15 (.build [i0,i0,.ns,(.s []),.ns] [(0,1,(.t 4)),(1,1,(.t 6)),(2,1,(.t 9)),(3,1,(.t 11)),(4,1,(.t 14))]),
 ⟨none,(.store 5 (.t 2) (.t 15)),none,[]⟩] [1,3,4,5,6,7,8,10,11,12,13,9,14,15])
 .ret)),
    16,1,[.c 2 (some 5)],2⟩
theorem tr42:trFunc Tryd.prog (hz [(1,[0,1,2,3,4,5,7,8,9,10,6,11,12,13])] I42.body) 1 Tryd.f42=some (plain1 I42):=by kernel_rfl
theorem ck42:ckC 2 I42.body=true:=by kernel_rfl
def L43a:ICode :=
  (.seq (.seq (.region [Mv 5 4,
 Mv 6 0,
 It 7 (.lenk 0 (.t 6)),
 It 8 (.bin .lss (.t 5) (.t 7))] [5,6,7])
 (.cond (.t 8)
 (.region [] [8])
 (.exit 0)))
 (.seq (.block 1
 (.region [Mv 11 3,
 Mv 12 0,
 Mv 13 4,
 It 14 (.iaddr 7 (.t 12) (.t 13)),
 Of 15 14 0,
 Ld 16 15,
 Mv 17 0,
 Mv 18 4,
 It 19 (.iaddr 7 (.t 17) (.t 18)),
 Of 20 19 1,
 Ld 21 20,
 Mv 22 0,
 Mv 23 4,
 It 24 (.iaddr 7 (.t 22) (.t 23)),
 Of 25 24 2,
 It 26 (.load (some 5) (.t 25)),
 ⟨(some 27),(.call 44 [(.t 26)]),none,[(16,(.load none (.t 15)),none),(21,(.load none (.t 20)),none)]⟩,
 It 28 (.build [i0,i0,i0,i0,(.s []),.ns,.ns] [(0,1,(.t 16)),(1,1,(.t 21)),(2,5,(.t 27))]),
 It 29 (.bsl 7 1 [i0,i0,i0,i0,(.s []),.ns,.ns] [(0,7,(.t 28))]),
 It 30 (.app 7 96 (.t 11) (.t 29)),
 Mv 3 30] [11,12,13,14,15,16,17,18,19,20,21,22,23,24,25,26,27,28,29,30]))
 (.region [Mv 9 4,
 It 10 (.bin .add (.t 9) (.c (.i .i64 (1)))),
 Mv 4 10] [9,10])))
def I43:IFunc :=
  ⟨(.seq (.region [It 2 (.mov (.c .ns))] [2])
 (.seq (.region [It 3 (.mov (.c .ns))] [])
 (.seq (.seq (.region [It 4 (.mov (.c i0))] [])
 (.block 0
 (.loop L43a)))
 (.seq (.region [Mv 31 3,
 Mv 2 31] [0,3,4,8,31])
 .ret)))),
    32,1,[.t 2],2⟩
theorem tr43:trFunc Tryd.prog (hz [(5,[0,1,2,3,4,5,6,7,8,9,10,11,12,13,14,15,16,17,18,19,20])] I43.body) 1 Tryd.f43=some (plain1 I43):=by kernel_rfl
theorem ck43:ckC 2 I43.body=true:=by kernel_rfl
def L44a:ICode :=
  (.seq (.seq (.region [Mv 15 4,
 Of 16 1 3,
 Ld 17 16,
 It 18 (.lenk 0 (.t 17)),
 It 19 (.bin .lss (.t 15) (.t 18))] [15,16,17,18])
 (.cond (.t 19)
 (.region [] [19])
 (.exit 0)))
 (.seq (.block 1
 (.region [Of 22 3 3,
 Ld 23 22,
 Of 24 1 3,
 Ld 25 24,
 Mv 26 4,
 It 27 (.iaddr 5 (.t 25) (.t 26)),
 It 28 (.load (some 5) (.t 27)),
 ⟨(some 29),(.call 44 [(.t 28)]),none,[(23,(.load none (.t 22)),none)]⟩,
 It 30 (.bsl 5 1 [i0,i0,(.s []),.ns,.ns] [(0,5,(.t 29))]),
 It 31 (.app 5 80 (.t 23) (.t 30)),
 Of 32 3 3,
 ⟨none,(.store 1 (.t 32) (.t 31)),none,[]⟩] [22,23,24,25,26,27,28,29,30,31,32]))
 (.region [Mv 20 4,
 It 21 (.bin .add (.t 20) (.c (.i .i64 (1)))),
 Mv 4 21] [20,21])))
def I44:IFunc :=
  ⟨(.seq (.region [It 1 (.box (.t 0)),
 It 2 (.alloc [i0,i0,(.s []),.ns,.ns])] [0])
 (.seq (.region [Of 5 1 0,
 Ld 6 5,
 Of 7 1 1,
 Ld 8 7,
 Of 9 1 2,
 Ld 10 9,
 Of 11 1 4,
 Ld 12 11,
 It 3 (.alloc [i0,i0,(.s []),.ns,.ns]),
 ⟨(some 13),(.call 57 [(.t 12)]),none,[(6,(.load none (.t 5)),none),(8,(.load none (.t 7)),none),(10,(.load none (.t 9)),none)]⟩,
 It 14 (.build [i0,i0,(.s []),.ns,.ns] [(0,1,(.t 6)),(1,1,(.t 8)),(2,1,(.t 10)),(4,1,(.t 13))]),
 ⟨none,(.store 5 (.t 3) (.t 14)),none,[]⟩] [5,6,7,8,9,10,11,12,13,14])
 (.seq (.seq (.region [It 4 (.mov (.c i0))] [])
 (.block 0
 (.loop L44a)))
 (.seq (.region [It 33 (.load (some 5) (.t 3)),
 ⟨none,(.store 5 (.t 2) (.t 33)),none,[]⟩] [1,3,4,19,33])
 .ret)))),
    34,1,[.c 2 (some 5)],2⟩
theorem tr44:trFunc Tryd.prog (hz [(1,[0,1,2,3,4,5,6,7,10,8,9,11]),(5,[0,1,2,3,4,5,6,7,8,9,10,11])] I44.body) 1 Tryd.f44=some (plain1 I44):=by kernel_rfl
theorem ck44:ckC 2 I44.body=true:=by kernel_rfl
def I45:IFunc :=
  ⟨(.seq (.region [It 2 (.box (.t 0)),
 It 3 (.box (.t 1)),
 It 4 (.mov (.c (.b false)))] [0,1,4])
 (.seq (.region [Of 5 2 0,
 Ld 6 5,
 Of 7 3 0,
 Ld 8 7,
 It 9 (.bin .eql (.t 6) (.t 8)),
 Mv 10 9,
 Ig 11 10 true (.off (.t 2) 1),
 Ig 12 10 true (.load none (.t 11)),
 Ig 13 10 true (.off (.t 3) 1),
 Ig 14 10 true (.load none (.t 13)),
 Ig 15 10 true (.bin .eql (.t 12) (.t 14)),
 It 16 (.pick (.t 10) (.t 15) (.c (.b false))),
 Mv 17 16,
 Ig 18 17 true (.off (.t 2) 3),
 Ig 19 17 true (.load none (.t 18)),
 Ig 20 17 true (.off (.t 3) 3),
 Ig 21 17 true (.load none (.t 20)),
 Ig 22 17 true (.bin .eql (.t 19) (.t 21)),
 It 23 (.pick (.t 17) (.t 22) (.c (.b false))),
 Mv 24 23,
 Ig 25 24 true (.off (.t 2) 2),
 Ig 26 24 true (.load none (.t 25)),
 Ig 27 24 true (.off (.t 3) 2),
 Ig 28 24 true (.load none (.t 27)),
 Ig 29 24 true (.call 46 [(.t 26),(.t 28)]),
 It 30 (.pick (.t 24) (.t 29) (.c (.b false))),
 Mv 31 30,
 Ig 32 31 true (.off (.t 2) 4),
 Ig 33 31 true (.load none (.t 32)),
 Ig 34 31 true (.off (.t 3) 4),
 Ig 35 31 true (.load none (.t 34)),
 Ig 36 31 true (.call 58 [(.t 33),(.t 35)]),
 It 37 (.pick (.t 31) (.t 36) (.c (.b false))),
 Mv 4 37] [2,3,5,6,7,8,9,10,11,12,13,14,15,16,17,18,19,20,21,22,23,24,25,26,27,28,29,30,31,32,33,34,35,36,37])
 .ret)),
    38,2,[.t 4],2⟩
theorem tr45:trFunc Tryd.prog (hz [] I45.body) 1 Tryd.f45=some (plain1 I45):=by kernel_rfl
theorem ck45:ckC 2 I45.body=true:=by kernel_rfl
def L46a:ICode :=
  (.seq (.seq (.region [Mv 11 5,
 Mv 12 0,
 It 13 (.lenk 0 (.t 12)),
 It 14 (.bin .lss (.t 11) (.t 13))] [11,12,13])
 (.cond (.t 14)
 (.region [] [14])
 (.exit 0)))
 (.seq (.block 1
 (.seq (.region [Mv 17 0,
 Mv 18 5,
 It 19 (.iaddr 7 (.t 17) (.t 18)),
 It 20 (.load (some 7) (.t 19)),
 Mv 21 1,
 Mv 22 5,
 It 23 (.iaddr 7 (.t 21) (.t 22)),
 It 24 (.load (some 7) (.t 23)),
 It 25 (.call 47 [(.t 20),(.t 24)]),
 It 26 (.un .not (.t 25))] [17,18,19,20,21,22,23,24,25])
 (.cond (.t 26)
 (.seq (.region [It 4 (.mov (.c (.b false)))] [0,1,5,26])
 .ret)
 (.region [] [26]))))
 (.region [Mv 15 5,
 It 16 (.bin .add (.t 15) (.c (.i .i64 (1)))),
 Mv 5 16] [15,16])))
def I46:IFunc :=
  ⟨(.seq (.region [It 4 (.mov (.c (.b false)))] [4])
 (.seq (.seq (.region [Mv 6 0,
 It 7 (.lenk 0 (.t 6)),
 Mv 8 1,
 It 9 (.lenk 0 (.t 8)),
 It 10 (.bin .neq (.t 7) (.t 9))] [6,7,8,9])
 (.cond (.t 10)
 (.seq (.region [It 4 (.mov (.c (.b false)))] [0,1,10])
 .ret)
 (.region [] [10])))
 (.seq (.seq (.region [It 5 (.mov (.c i0))] [])
 (.block 0
 (.loop L46a)))
 (.seq (.region [It 4 (.mov (.c (.b true)))] [0,1,5,14])
 .ret)))),
    27,2,[.t 4],2⟩
theorem tr46:trFunc Tryd.prog (hz [(7,[0,1,2,3,4,5,6,7,8,9])] I46.body) 1 Tryd.f46=some (plain1 I46):=by kernel_rfl
theorem ck46:ckC 2 I46.body=true:=by kernel_rfl
def I47:IFunc :=
  ⟨(.seq (.region [It 2 (.box (.t 0)),
 It 3 (.box (.t 1)),
 It 4 (.mov (.c (.b false)))] [0,1,4])
 (.seq (.region [Of 5 2 0,
 Ld 6 5,
 Of 7 3 0,
 Ld 8 7,
 It 9 (.bin .eql (.t 6) (.t 8)),
 Mv 10 9,
 Ig 11 10 true (.off (.t 2) 1),
 Ig 12 10 true (.load none (.t 11)),
 Ig 13 10 true (.off (.t 3) 1),
 Ig 14 10 true (.load none (.t 13)),
 Ig 15 10 true (.bin .eql (.t 12) (.t 14)),
 It 16 (.pick (.t 10) (.t 15) (.c (.b false))),
 Mv 17 16,
 Ig 18 17 true (.off (.t 2) 2),
 Ig 19 17 true (.load (some 5) (.t 18)),
 Ig 20 17 true (.off (.t 3) 2),
 Ig 21 17 true (.load (some 5) (.t 20)),
 Ig 22 17 true (.call 59 [(.t 19),(.t 21)]),
 It 23 (.pick (.t 17) (.t 22) (.c (.b false))),
 Mv 4 23] [2,3,5,6,7,8,9,10,11,12,13,14,15,16,17,18,19,20,21,22,23])
 .ret)),
    24,2,[.t 4],2⟩
theorem tr47:trFunc Tryd.prog (hz [] I47.body) 1 Tryd.f47=some (plain1 I47):=by kernel_rfl
theorem ck47:ckC 2 I47.body=true:=by kernel_rfl
def L48a:ICode :=
  (.seq (.seq (.region [Mv 5 4,
 Mv 6 0,
 It 7 (.lenk 0 (.t 6)),
 It 8 (.bin .lss (.t 5) (.t 7))] [5,6,7])
 (.cond (.t 8)
 (.region [] [8])
 (.exit 0)))
 (.seq (.block 1
 (.region [Mv 11 3,
 Mv 12 0,
 Mv 13 4,
 It 14 (.iaddr 7 (.t 12) (.t 13)),
 Of 15 14 0,
 Ld 16 15,
 Mv 17 0,
 Mv 18 4,
 It 19 (.iaddr 7 (.t 17) (.t 18)),
 Of 20 19 1,
 Ld 21 20,
 Mv 22 0,
 Mv 23 4,
 It 24 (.iaddr 7 (.t 22) (.t 23)),
 Of 25 24 2,
 It 26 (.load (some 5) (.t 25)),
 It 27 (.build [i0,i0,i0,i0,(.s []),.ns,.ns] [(0,1,(.t 16)),(1,1,(.t 21)),(2,5,(.t 26))]),
 It 28 (.bsl 7 1 [i0,i0,i0,i0,(.s []),.ns,.ns] [(0,7,(.t 27))]),
 It 29 (.app 7 96 (.t 11) (.t 28)),
 Mv 3 29] [11,12,13,14,15,16,17,18,19,20,21,22,23,24,25,26,27,28,29]))
 (.region [Mv 9 4,
 It 10 (.bin .add (.t 9) (.c (.i .i64 (1)))),
 Mv 4 10] [9,10])))
def I48:IFunc :=
  ⟨(.seq (.region [It 2 (.mov (.c .ns))] [2])
 (.seq (.region [It 3 (.mov (.c .ns))] [])
 (.seq (.seq (.region [It 4 (.mov (.c i0))] [])
 (.block 0
 (.loop L48a)))
 (.seq (.region [Mv 30 3,
 Mv 2 30] [0,3,4,8,30])
 .ret)))),
    31,1,[.t 2],2⟩
theorem tr48:trFunc Tryd.prog (hz [(5,[0,1,2,3,4,5,6,7,8,9,10,11,12,13,14,15,16,17,18,19])] I48.body) 1 Tryd.f48=some (plain1 I48):=by kernel_rfl
theorem ck48:ckC 2 I48.body=true:=by kernel_rfl
def L49a:ICode :=
  (.seq (.region [It 22 (.bin .lss (.t 21) (.t 20))] [])
 (.seq (.cond (.t 22)
 (.region [] [22])
 (.exit 0))
 (.seq (.block 1
 (.seq (.region [It 23 (.iaddr 1 (.t 19) (.t 21)),
 Ld 24 23,
 Mv 9 24] [23,24])
 (.region [Mv 25 2,
 Mv 26 9,
 It 27 (.lenk 1 (.t 26)),
 It 28 (.bin .sub (.t 25) (.t 27)),
 Mv 2 28] [9,25,26,27,28])))
 (.region [It 29 (.bin .add (.t 21) (.c (.i .i64 (1)))),
 Mv 21 29] [29]))))
def L49b:ICode :=
  (.seq (.region [It 45 (.bin .lss (.t 44) (.t 43))] [])
 (.seq (.cond (.t 45)
 (.region [] [45])
 (.exit 2))
 (.seq (.block 3
 (.seq (.region [Mv 46 44,
 Mv 11 46] [46])
 (.seq (.region [Of 48 3 3,
 Ld 49 48,
 Mv 50 11,
 It 51 (.iaddr 5 (.t 49) (.t 50)),
 It 52 (.load (some 5) (.t 51)),
 Mv 53 1,
 It 54 (.bin .add (.t 53) (.c (.i .i64 (1)))),
 Mv 55 2,
 It 56 (.call 49 [(.t 52),(.t 54),(.t 55)]),
 Mv 47 56,
 Ex 57 47 0,
 Ex 58 47 1,
 Mv 2 57,
 Mv 10 58] [11,48,49,50,51,52,53,54,55,56,47,57,58])
 (.seq (.region [Mv 59 10,
 It 60 (.un .not (.t 59))] [10,59])
 (.cond (.t 60)
 (.seq (.region [It 6 (.mov (.c i0)),
 It 7 (.mov (.c (.b false)))] [1,2,3,43,44,60])
 .ret)
 (.region [] [60]))))))
 (.region [It 61 (.bin .add (.t 44) (.c (.i .i64 (1)))),
 Mv 44 61] [61]))))
def I49:IFunc :=
  ⟨(.seq (.region [It 3 (.box (.t 0)),
 It 6 (.mov (.c i0)),
 It 7 (.mov (.c (.b false)))] [0,6,7])
 (.seq (.region [Mv 12 2,
 Of 13 3 2,
 Ld 14 13,
 It 15 (.lenk 1 (.t 14)),
 It 16 (.bin .add (.c (.i .i64 (1))) (.t 15)),
 It 17 (.bin .sub (.t 12) (.t 16)),
 Mv 2 17] [12,13,14,15,16,17])
 (.seq (.seq (.region [Of 18 3 4,
 Ld 19 18,
 It 20 (.lenk 0 (.t 19)),
 It 21 (.mov (.c i0))] [18])
 (.block 0
 (.loop L49a)))
 (.seq (.seq (.region [Mv 30 1,
 It 31 (.bin .geq (.t 30) (.c (.i .i64 (8)))),
 Mv 32 31,
 Ig 33 32 false (.mov (.t 2)),
 Ig 34 32 false (.bin .lss (.t 33) (.c i0)),
 It 35 (.pick (.t 32) (.c (.b true)) (.t 34)),
 Mv 36 35,
 Ig 37 36 false (.load (some 5) (.t 3)),
 Ig 38 36 false (.call 60 [(.t 37)]),
 Ig 39 36 false (.un .not (.t 38)),
 It 40 (.pick (.t 36) (.c (.b true)) (.t 39))] [19,20,21,22,30,31,32,33,34,35,36,37,38,39])
 (.cond (.t 40)
 (.seq (.region [It 6 (.mov (.c i0)),
 It 7 (.mov (.c (.b false)))] [1,2,3,40])
 .ret)
 (.region [] [40])))
 (.seq (.region [It 10 (.mov (.c (.b true)))] [10])
 (.seq (.seq (.region [Of 41 3 3,
 Ld 42 41,
 It 43 (.lenk 0 (.t 42)),
 It 44 (.mov (.c i0))] [41,42])
 (.block 2
 (.loop L49b)))
 (.seq (.region [Mv 62 2,
 Mv 6 62,
 It 7 (.mov (.c (.b true)))] [1,2,3,43,44,45,62])
 .ret))))))),
    63,3,[.t 6,.t 7],2⟩
theorem tr49:trFunc Tryd.prog (hz [] I49.body) 1 Tryd.f49=some (plain1 I49):=by kernel_rfl
theorem ck49:ckC 2 I49.body=true:=by kernel_rfl
def I50:IFunc :=
  ⟨(.seq (.region [It 1 (.box (.t 0)),
 It 2 (.mov (.c i0)),
 It 3 (.mov (.c i0)),
 It 4 (.mov (.c (.b false)))] [0,2,3,4])
 (.seq (.region [Of 6 1 1,
 Ld 7 6,
 Of 8 1 3,
 Ld 9 8,
 Of 10 1 4,
 Ld 11 10,
 It 12 (.lenk 0 (.t 11)),
 It 13 (.bin .gtr (.t 12) (.c i0)),
 It 14 (.build [i0,(.s []),(.b false)] [(0,1,(.t 7)),(1,1,(.t 9)),(2,1,(.t 13))]),
 It 5 (.alloc [i0,(.s []),(.b false)]),
 ⟨none,(.store 3 (.t 5) (.t 14)),none,[]⟩] [6,7,8,9,10,11,12,13,14])
 (.seq (.block 0
 (.seq (.region [Of 16 1 0,
 Ld 17 16,
 It 18 (.bin .eql (.t 17) (.c (.i .i64 (20)))),
 Mv 15 18] [16,17,18])
 (.cond (.t 15)
 (.seq (.region [It 19 (.load (some 3) (.t 5)),
 It 20 (.load (some 3) (.g 0)),
 It 21 (.eqAg [1,2,0] false (.t 19) (.t 20)),
 It 2 (.mov (.c i0)),
 It 3 (.mov (.c (.i .i64 (8)))),
 Mv 4 21] [1,5,15,19,20,21])
 .ret)
 (.seq (.region [Of 23 1 0,
 Ld 24 23,
 It 25 (.bin .eql (.t 24) (.c (.i .i64 (21)))),
 Mv 22 25] [15,23,24,25])
 (.cond (.t 22)
 (.seq (.region [Of 26 1 4,
 Ld 27 26,
 It 28 (.lenk 0 (.t 27)),
 Of 29 1 4,
 Ld 30 29,
 It 31 (.lenk 0 (.t 30)),
 Of 32 1 1,
 Ld 33 32,
 It 34 (.bin .eql (.t 33) (.c i0)),
 Mv 35 34,
 Ig 36 35 true (.off (.t 1) 3),
 Ig 37 35 true (.load none (.t 36)),
 Ig 38 35 true (.bin .eql (.t 37) (.c (.s []))),
 It 39 (.pick (.t 35) (.t 38) (.c (.b false))),
 Mv 40 39,
 Ig 41 40 true (.off (.t 1) 4),
 Ig 42 40 true (.load none (.t 41)),
 ⟨(some 43),(.call 61 [(.t 42)]),(some (40,true)),[(27,(.load none (.t 26)),none),(28,(.lenk 0 (.t 27)),none),(30,(.load none (.t 29)),none),(31,(.lenk 0 (.t 30)),none)]⟩,
 It 44 (.pick (.t 40) (.t 43) (.c (.b false))),
 Mv 2 28,
 Mv 3 31,
 Mv 4 44] [1,5,22,26,27,28,29,30,31,32,33,34,35,36,37,38,39,40,41,42,43,44])
 .ret)
 (.seq (.region [Of 46 1 0,
 Ld 47 46,
 It 48 (.bin .eql (.t 47) (.c (.i .i64 (22)))),
 Mv 45 48] [22,46,47,48])
 (.cond (.t 45)
 (.seq (.region [It 49 (.load (some 3) (.t 5)),
 Of 50 1 3,
 Ld 51 50,
 It 52 (.build [i0,(.s []),(.b false)] [(1,1,(.t 51))]),
 It 53 (.eqAg [1,2,0] false (.t 49) (.t 52)),
 Mv 54 53,
 Ig 55 54 true (.off (.t 1) 3),
 Ig 56 54 true (.load none (.t 55)),
 Ig 57 54 true (.bsl 1 1 [(.s [])] [(0,1,(.t 56))]),
 Ig 58 54 true (.call 61 [(.t 57)]),
 It 59 (.pick (.t 54) (.t 58) (.c (.b false))),
 It 2 (.mov (.c (.i .i64 (1)))),
 It 3 (.mov (.c (.i .i64 (1)))),
 Mv 4 59] [1,5,45,49,50,51,52,53,54,55,56,57,58,59])
 .ret)
 (.seq (.region [Of 61 1 0,
 Ld 62 61,
 It 63 (.bin .eql (.t 62) (.c (.i .i64 (23)))),
 Mv 60 63] [45,61,62,63])
 (.cond (.t 60)
 (.seq (.region [It 64 (.load (some 3) (.t 5)),
 Of 65 1 3,
 Ld 66 65,
 It 67 (.build [i0,(.s []),(.b false)] [(1,1,(.t 66))]),
 It 68 (.eqAg [1,2,0] false (.t 64) (.t 67)),
 Mv 69 68,
 Ig 70 69 true (.off (.t 1) 3),
 Ig 71 69 true (.load none (.t 70)),
 Ig 72 69 true (.call 62 [(.t 71)]),
 It 73 (.pick (.t 69) (.t 72) (.c (.b false))),
 It 2 (.mov (.c (.i .i64 (1)))),
 It 3 (.mov (.c (.i .i64 (1)))),
 Mv 4 73] [1,5,60,64,65,66,67,68,69,70,71,72,73])
 .ret)
 (.seq (.region [Of 75 1 0,
 Ld 76 75,
 It 77 (.bin .eql (.t 76) (.c (.i .i64 (40)))),
 Mv 74 77] [60,75,76,77])
 (.cond (.t 74)
 (.seq (.region [It 78 (.load (some 3) (.t 5)),
 Of 79 1 1,
 Ld 80 79,
 It 81 (.build [i0,(.s []),(.b false)] [(0,1,(.t 80))]),
 It 82 (.eqAg [1,2,0] false (.t 78) (.t 81)),
 Mv 83 82,
 Ig 84 83 true (.off (.t 1) 1),
 Ig 85 83 true (.load none (.t 84)),
 Ig 86 83 true (.bin .geq (.t 85) (.c i0)),
 It 87 (.pick (.t 83) (.t 86) (.c (.b false))),
 Mv 88 87,
 Ig 89 88 true (.off (.t 1) 1),
 Ig 90 88 true (.load none (.t 89)),
 Ig 91 88 true (.bin .leq (.t 90) (.c (.i .i64 (6)))),
 It 92 (.pick (.t 88) (.t 91) (.c (.b false))),
 It 2 (.mov (.c (.i .i64 (1)))),
 It 3 (.mov (.c (.i .i64 (1)))),
 Mv 4 92] [1,5,74,78,79,80,81,82,83,84,85,86,87,88,89,90,91,92])
 .ret)
 (.seq (.seq (.region [Of 94 1 0,
 Ld 95 94,
 It 96 (.bin .eql (.t 95) (.c (.i .i64 (48)))),
 Mv 93 96] [74,94,95,96])
 (.cond (.t 93)
 .skip
 (.region [Of 97 1 0,
 Ld 98 97,
 It 99 (.bin .eql (.t 98) (.c (.i .i64 (49)))),
 Mv 93 99] [97,98,99])))
 (.cond (.t 93)
 (.seq (.region [It 100 (.load (some 3) (.t 5)),
 Of 101 1 1,
 Ld 102 101,
 It 103 (.build [i0,(.s []),(.b false)] [(0,1,(.t 102))]),
 It 104 (.eqAg [1,2,0] false (.t 100) (.t 103)),
 It 2 (.mov (.c (.i .i64 (1)))),
 It 3 (.mov (.c (.i .i64 (1)))),
 Mv 4 104] [1,5,93,100,101,102,103,104])
 .ret)
 (.seq (.seq (.region [Of 106 1 0,
 Ld 107 106,
 It 108 (.bin .geq (.t 107) (.c (.i .i64 (43)))),
 Mv 109 108,
 Ig 110 109 true (.off (.t 1) 0),
 Ig 111 109 true (.load none (.t 110)),
 Ig 112 109 true (.bin .leq (.t 111) (.c (.i .i64 (47)))),
 It 113 (.pick (.t 109) (.t 112) (.c (.b false))),
 Mv 105 113] [93,106,107,108,109,110,111,112,113])
 (.cond (.t 105)
 .skip
 (.region [Of 114 1 0,
 Ld 115 114,
 It 116 (.bin .geq (.t 115) (.c (.i .i64 (9)))),
 Mv 117 116,
 Ig 118 117 true (.off (.t 1) 0),
 Ig 119 117 true (.load none (.t 118)),
 Ig 120 117 true (.bin .leq (.t 119) (.c (.i .i64 (19)))),
 It 121 (.pick (.t 117) (.t 120) (.c (.b false))),
 Mv 105 121] [114,115,116,117,118,119,120,121])))
 (.cond (.t 105)
 (.seq (.region [It 122 (.load (some 3) (.t 5)),
 It 123 (.load (some 3) (.g 0)),
 It 124 (.eqAg [1,2,0] false (.t 122) (.t 123)),
 It 2 (.mov (.c (.i .i64 (2)))),
 It 3 (.mov (.c (.i .i64 (2)))),
 Mv 4 124] [1,5,105,122,123,124])
 .ret)
 (.seq (.seq (.region [Of 126 1 0,
 Ld 127 126,
 It 128 (.bin .eql (.t 127) (.c (.i .i64 (41)))),
 Mv 125 128] [105,126,127,128])
 (.cond (.t 125)
 (.region [] [1])
 (.seq (.region [Of 129 1 0,
 Ld 130 129,
 It 131 (.bin .eql (.t 130) (.c (.i .i64 (42)))),
 Mv 125 131] [129,130,131])
 (.cond (.t 125)
 (.region [] [1])
 (.region [Of 132 1 0,
 Ld 133 132,
 It 134 (.bin .geq (.t 133) (.c (.i .i64 (6)))),
 Mv 135 134,
 Ig 136 135 true (.off (.t 1) 0),
 Ig 137 135 true (.load none (.t 136)),
 Ig 138 135 true (.bin .leq (.t 137) (.c (.i .i64 (8)))),
 It 139 (.pick (.t 135) (.t 138) (.c (.b false))),
 Mv 125 139] [1,132,133,134,135,136,137,138,139])))))
 (.cond (.t 125)
 (.seq (.region [It 140 (.load (some 3) (.t 5)),
 It 141 (.load (some 3) (.g 0)),
 It 142 (.eqAg [1,2,0] false (.t 140) (.t 141)),
 It 2 (.mov (.c (.i .i64 (1)))),
 It 3 (.mov (.c (.i .i64 (1)))),
 Mv 4 142] [5,125,140,141,142])
 .ret)
 (.region [] [5,125]))))))))))))))))))
 (.seq (.region [It 2 (.mov (.c i0)),
 It 3 (.mov (.c i0)),
 It 4 (.mov (.c (.b false)))] [])
 .ret)))),
    143,1,[.t 2,.t 3,.t 4],2⟩
theorem tr50:trFunc Tryd.prog (hz [(3,[0,1,2,3,4,5]),(5,[0,1,2,3,4,5,6,7,8,9,10,11,12,13,14,15,16,17,18,19,20,21]),(11,[0,1,2,3,4,5,6,7,8,9,10,11,12,13,14,15,16,17]),(15,[0,1,2,3,4,5,6,7]),(19,[0,1,2,3,4,5]),(25,[0,1,2,3,4,5])] I50.body) 1 Tryd.f50=some (plain1 I50):=by kernel_rfl
theorem ck50:ckC 2 I50.body=true:=by kernel_rfl
def I51:IFunc :=
  ⟨(.seq (.region [It 1 (.box (.t 0)),
 It 2 (.mov (.c (.b false)))] [0,2])
 (.seq (.region [It 3 (.load (some 5) (.t 1)),
 It 4 (.call 28 [(.t 3)]),
 It 5 (.bin .eql (.t 4) (.c i0)),
 Mv 2 5] [1,3,4,5])
 .ret)),
    6,1,[.t 2],2⟩
theorem tr51:trFunc Tryd.prog (hz [] I51.body) 1 Tryd.f51=some (plain1 I51):=by kernel_rfl
theorem ck51:ckC 2 I51.body=true:=by kernel_rfl
def I52:IFunc :=
  ⟨(.seq (.region [It 2 (.box (.t 0)),
 It 3 (.box (.t 1)),
 It 4 (.mov (.c (.b false)))] [0,1,4])
 (.seq (.region [Of 5 2 0,
 Ld 6 5,
 Of 7 3 0,
 Ld 8 7,
 It 9 (.bin .eql (.t 6) (.t 8)),
 Mv 10 9,
 Ig 11 10 true (.off (.t 2) 1),
 Ig 12 10 true (.load none (.t 11)),
 Ig 13 10 true (.off (.t 3) 1),
 Ig 14 10 true (.load none (.t 13)),
 Ig 15 10 true (.bin .eql (.t 12) (.t 14)),
 It 16 (.pick (.t 10) (.t 15) (.c (.b false))),
 Mv 17 16,
 Ig 18 17 true (.off (.t 2) 2),
 Ig 19 17 true (.load none (.t 18)),
 Ig 20 17 true (.off (.t 3) 2),
 Ig 21 17 true (.load none (.t 20)),
 Ig 22 17 true (.bin .eql (.t 19) (.t 21)),
 It 23 (.pick (.t 17) (.t 22) (.c (.b false))),
 Mv 24 23,
 Ig 25 24 true (.off (.t 2) 4),
 Ig 26 24 true (.load none (.t 25)),
 Ig 27 24 true (.off (.t 3) 4),
 Ig 28 24 true (.load none (.t 27)),
 Ig 29 24 true (.call 63 [(.t 26),(.t 28)]),
 It 30 (.pick (.t 24) (.t 29) (.c (.b false))),
 Mv 31 30,
 Ig 32 31 true (.off (.t 2) 3),
 Ig 33 31 true (.load none (.t 32)),
 Ig 34 31 true (.off (.t 3) 3),
 Ig 35 31 true (.load none (.t 34)),
 Ig 36 31 true (.call 64 [(.t 33),(.t 35),(.f 52)]),
 It 37 (.pick (.t 31) (.t 36) (.c (.b false))),
 Mv 4 37] [2,3,5,6,7,8,9,10,11,12,13,14,15,16,17,18,19,20,21,22,23,24,25,26,27,28,29,30,31,32,33,34,35,36,37])
 .ret)),
    38,2,[.t 4],2⟩
theorem tr52:trFunc Tryd.prog (hz [] I52.body) 1 Tryd.f52=some (plain1 I52):=by kernel_rfl
theorem ck52:ckC 2 I52.body=true:=by kernel_rfl
def I53:IFunc :=
  ⟨(.seq (.region [It 3 (.box (.t 0)),
 It 4 (.mov (.c (.b false)))] [0,4])
 (.seq (.region [It 5 (.load (some 7) (.t 3)),
 Ld 6 1,
 Ld 7 2,
 It 8 (.call 32 [(.t 5),(.t 6),(.t 7)]),
 It 9 (.un .not (.t 8)),
 Mv 4 9] [1,2,3,5,6,7,8,9])
 .ret)),
    10,3,[.t 4],2⟩
theorem tr53:trFunc Tryd.prog (hz [] I53.body) 1 Tryd.f53=some (plain1 I53):=by kernel_rfl
theorem ck53:ckC 2 I53.body=true:=by kernel_rfl
def L54a:ICode :=
  (.seq (.region [It 9 (.bin .lss (.t 8) (.t 7))] [])
 (.seq (.cond (.t 9)
 (.region [] [9])
 (.exit 0))
 (.seq (.block 1
 (.seq (.region [Mv 10 8,
 Mv 5 10] [10])
 (.seq (.region [Mv 11 1,
 Mv 12 0,
 Mv 13 5,
 It 14 (.iaddr 7 (.t 12) (.t 13)),
 It 15 (.load (some 7) (.t 14)),
 It 16 (.callv (.t 11) [(.t 15)])] [11,12,13,14,15])
 (.cond (.t 16)
 (.seq (.region [Mv 17 5,
 Mv 4 17] [0,1,7,8,5,16,17])
 .ret)
 (.region [] [5,16])))))
 (.region [It 18 (.bin .add (.t 8) (.c (.i .i64 (1)))),
 Mv 8 18] [18]))))
def I54:IFunc :=
  ⟨(.seq (.region [It 4 (.mov (.c i0))] [4])
 (.seq (.seq (.region [Mv 6 0,
 It 7 (.lenk 0 (.t 6)),
 It 8 (.mov (.c i0))] [6])
 (.block 0
 (.loop L54a)))
 (.seq (.region [It 4 (.mov (.c (.i .i64 (-1))))] [0,1,7,8,9])
 .ret))),
    19,2,[.t 4],2⟩
theorem tr54:trFunc Tryd.prog (hz [] I54.body) 1 Tryd.f54=some (plain1 I54):=by kernel_rfl
theorem ck54:ckC 2 I54.body=true:=by kernel_rfl
def I55:IFunc :=
  ⟨(.seq (.region [It 1 (.box (.t 0)),
 It 2 (.mov (.c i0))] [0,2])
 (.seq (.seq (.region [Of 3 1 0,
 Ld 4 3] [3])
 (.block 0
 (.seq (.seq (.region [It 6 (.bin .eql (.t 4) (.c (.i .i64 (6)))),
 Mv 5 6] [6])
 (.cond (.t 5)
 .skip
 (.seq (.region [It 7 (.bin .eql (.t 4) (.c (.i .i64 (8)))),
 Mv 5 7] [7])
 (.cond (.t 5)
 .skip
 (.seq (.region [It 8 (.bin .eql (.t 4) (.c (.i .i64 (10)))),
 Mv 5 8] [8])
 (.cond (.t 5)
 .skip
 (.seq (.region [It 9 (.bin .eql (.t 4) (.c (.i .i64 (11)))),
 Mv 5 9] [9])
 (.cond (.t 5)
 .skip
 (.seq (.region [It 10 (.bin .eql (.t 4) (.c (.i .i64 (12)))),
 Mv 5 10] [10])
 (.cond (.t 5)
 .skip
 (.seq (.region [It 11 (.bin .eql (.t 4) (.c (.i .i64 (13)))),
 Mv 5 11] [11])
 (.cond (.t 5)
 .skip
 (.seq (.region [It 12 (.bin .eql (.t 4) (.c (.i .i64 (41)))),
 Mv 5 12] [12])
 (.cond (.t 5)
 .skip
 (.seq (.region [It 13 (.bin .eql (.t 4) (.c (.i .i64 (43)))),
 Mv 5 13] [13])
 (.cond (.t 5)
 .skip
 (.seq (.region [It 14 (.bin .eql (.t 4) (.c (.i .i64 (44)))),
 Mv 5 14] [14])
 (.cond (.t 5)
 .skip
 (.seq (.region [It 15 (.bin .eql (.t 4) (.c (.i .i64 (45)))),
 Mv 5 15] [15])
 (.cond (.t 5)
 .skip
 (.region [It 16 (.bin .eql (.t 4) (.c (.i .i64 (48)))),
 Mv 5 16] [16])))))))))))))))))))))
 (.cond (.t 5)
 (.seq (.region [It 2 (.mov (.c (.i .i64 (1))))] [1,4,5])
 .ret)
 (.seq (.seq (.region [It 18 (.bin .eql (.t 4) (.c (.i .i64 (7)))),
 Mv 17 18] [5,18])
 (.cond (.t 17)
 .skip
 (.seq (.region [It 19 (.bin .eql (.t 4) (.c (.i .i64 (14)))),
 Mv 17 19] [19])
 (.cond (.t 17)
 .skip
 (.seq (.region [It 20 (.bin .eql (.t 4) (.c (.i .i64 (15)))),
 Mv 17 20] [20])
 (.cond (.t 17)
 .skip
 (.seq (.region [It 21 (.bin .eql (.t 4) (.c (.i .i64 (16)))),
 Mv 17 21] [21])
 (.cond (.t 17)
 .skip
 (.seq (.region [It 22 (.bin .eql (.t 4) (.c (.i .i64 (17)))),
 Mv 17 22] [22])
 (.cond (.t 17)
 .skip
 (.seq (.region [It 23 (.bin .eql (.t 4) (.c (.i .i64 (42)))),
 Mv 17 23] [23])
 (.cond (.t 17)
 .skip
 (.seq (.region [It 24 (.bin .eql (.t 4) (.c (.i .i64 (46)))),
 Mv 17 24] [24])
 (.cond (.t 17)
 .skip
 (.seq (.region [It 25 (.bin .eql (.t 4) (.c (.i .i64 (47)))),
 Mv 17 25] [25])
 (.cond (.t 17)
 .skip
 (.region [It 26 (.bin .eql (.t 4) (.c (.i .i64 (49)))),
 Mv 17 26] [26])))))))))))))))))
 (.cond (.t 17)
 (.seq (.region [It 2 (.mov (.c (.i .i64 (2))))] [1,4,17])
 .ret)
 (.seq (.seq (.region [It 28 (.bin .eql (.t 4) (.c (.i .i64 (20)))),
 Mv 27 28] [17,28])
 (.cond (.t 27)
 .skip
 (.region [It 29 (.bin .eql (.t 4) (.c (.i .i64 (18)))),
 Mv 27 29] [29])))
 (.cond (.t 27)
 (.seq (.region [It 2 (.mov (.c (.i .i64 (4))))] [1,4,27])
 .ret)
 (.seq (.region [It 31 (.bin .eql (.t 4) (.c (.i .i64 (21)))),
 Mv 30 31] [27,31])
 (.cond (.t 30)
 (.seq (.region [It 2 (.mov (.c (.i .i64 (5))))] [1,4,30])
 .ret)
 (.seq (.region [It 33 (.bin .eql (.t 4) (.c (.i .i64 (40)))),
 Mv 32 33] [4,30,33])
 (.cond (.t 32)
 (.seq (.region [Of 34 1 1,
 Ld 35 34,
 Mv 2 35] [1,32,34,35])
 .ret)
 (.region [] [1,32])))))))))))))
 (.seq (.region [It 2 (.mov (.c (.i .i64 (-1))))] [])
 .ret))),
    36,1,[.t 2],2⟩
theorem tr55:trFunc Tryd.prog (hz [] I55.body) 1 Tryd.f55=some (plain1 I55):=by kernel_rfl
theorem ck55:ckC 2 I55.body=true:=by kernel_rfl
def I56:IFunc:=⟨cloneCode 5 80,8,1,[.t 2],4⟩
theorem tr56:trFunc Tryd.prog [([],[]),([],[]),([],[]),([],[]),([],[])] 1 Tryd.f56=some (plain1 I56):=by kernel_rfl
theorem ck56:ckC 2 (cloneCode 5 80)=true:=by kernel_rfl
def I57:IFunc :=
  ⟨(.seq (.region [It 2 (.mov (.c .ns))] [2])
 (.seq (.region [It 3 (.mov (.c .ns))] [])
 (.seq (.region [Mv 4 3,
 Mv 5 0,
 It 6 (.app 1 16 (.t 4) (.t 5)),
 Mv 3 6] [0,4,5,6])
 (.seq (.region [Mv 7 3,
 Mv 2 7] [3,7])
 .ret)))),
    8,1,[.t 2],2⟩
theorem tr57:trFunc Tryd.prog (hz [] I57.body) 1 Tryd.f57=some (plain1 I57):=by kernel_rfl
theorem ck57:ckC 2 I57.body=true:=by kernel_rfl
def L58a:ICode :=
  (.seq (.seq (.region [Mv 11 5,
 Mv 12 0,
 It 13 (.lenk 0 (.t 12)),
 It 14 (.bin .lss (.t 11) (.t 13))] [11,12,13])
 (.cond (.t 14)
 (.region [] [14])
 (.exit 0)))
 (.seq (.block 1
 (.seq (.region [Mv 17 0,
 Mv 18 5,
 It 19 (.iaddr 1 (.t 17) (.t 18)),
 Ld 20 19,
 Mv 21 1,
 Mv 22 5,
 It 23 (.iaddr 1 (.t 21) (.t 22)),
 Ld 24 23,
 It 25 (.bin .neq (.t 20) (.t 24))] [17,18,19,20,21,22,23,24])
 (.cond (.t 25)
 (.seq (.region [It 4 (.mov (.c (.b false)))] [0,1,5,25])
 .ret)
 (.region [] [25]))))
 (.region [Mv 15 5,
 It 16 (.bin .add (.t 15) (.c (.i .i64 (1)))),
 Mv 5 16] [15,16])))
def I58:IFunc :=
  ⟨(.seq (.region [It 4 (.mov (.c (.b false)))] [4])
 (.seq (.seq (.region [Mv 6 0,
 It 7 (.lenk 0 (.t 6)),
 Mv 8 1,
 It 9 (.lenk 0 (.t 8)),
 It 10 (.bin .neq (.t 7) (.t 9))] [6,7,8,9])
 (.cond (.t 10)
 (.seq (.region [It 4 (.mov (.c (.b false)))] [0,1,10])
 .ret)
 (.region [] [10])))
 (.seq (.seq (.region [It 5 (.mov (.c i0))] [])
 (.block 0
 (.loop L58a)))
 (.seq (.region [It 4 (.mov (.c (.b true)))] [0,1,5,14])
 .ret)))),
    26,2,[.t 4],2⟩
theorem tr58:trFunc Tryd.prog (hz [(7,[0,1,2,3,4,5,6,7,8])] I58.body) 1 Tryd.f58=some (plain1 I58):=by kernel_rfl
theorem ck58:ckC 2 I58.body=true:=by kernel_rfl
def I59:IFunc :=
  ⟨(.seq (.region [It 2 (.box (.t 0)),
 It 3 (.box (.t 1)),
 It 4 (.mov (.c (.b false)))] [0,1,4])
 (.seq (.region [It 5 (.load (some 5) (.t 2)),
 It 6 (.load (some 5) (.t 3)),
 It 7 (.call 65 [(.t 5),(.t 6)]),
 It 8 (.bin .eql (.t 7) (.c i0)),
 Mv 4 8] [2,3,5,6,7,8])
 .ret)),
    9,2,[.t 4],2⟩
theorem tr59:trFunc Tryd.prog (hz [] I59.body) 1 Tryd.f59=some (plain1 I59):=by kernel_rfl
theorem ck59:ckC 2 I59.body=true:=by kernel_rfl
def I60:IFunc :=
  ⟨(.seq (.region [It 1 (.box (.t 0)),
 It 2 (.mov (.c (.b false)))] [0,2])
 (.seq (.seq (.region [Of 3 1 0,
 Ld 4 3] [3])
 (.block 0
 (.seq (.region [It 6 (.bin .eql (.t 4) (.c i0)),
 Mv 5 6] [6])
 (.cond (.t 5)
 (.seq (.region [Of 7 1 1,
 Ld 8 7,
 It 9 (.bin .eql (.t 8) (.c i0)),
 Mv 10 9,
 Ig 11 10 true (.build [(.b false),(.b false),(.b false)] []),
 Ig 12 10 true (.load (some 5) (.t 1)),
 Ig 13 10 true (.call 66 [(.t 11),(.t 12)]),
 It 14 (.pick (.t 10) (.t 13) (.c (.b false))),
 Mv 2 14] [1,4,5,7,8,9,10,11,12,13,14])
 .ret)
 (.seq (.region [It 16 (.bin .eql (.t 4) (.c (.i .i64 (1)))),
 Mv 15 16] [5,16])
 (.cond (.t 15)
 (.seq (.region [It 17 (.build [(.b false),(.b false),(.b false)] []),
 It 18 (.load (some 5) (.t 1)),
 It 19 (.call 66 [(.t 17),(.t 18)]),
 Mv 2 19] [1,4,15,17,18,19])
 .ret)
 (.seq (.region [It 21 (.bin .eql (.t 4) (.c (.i .i64 (2)))),
 Mv 20 21] [15,21])
 (.cond (.t 20)
 (.seq (.region [Of 22 1 1,
 Ld 23 22,
 It 24 (.bin .andNot (.t 23) (.c (.i .i64 (1)))),
 It 25 (.bin .eql (.t 24) (.c i0)),
 Mv 26 25,
 Ig 27 26 true (.build [(.b false),(.b false),(.b false)] []),
 Ig 28 26 true (.load (some 5) (.t 1)),
 Ig 29 26 true (.call 66 [(.t 27),(.t 28)]),
 It 30 (.pick (.t 26) (.t 29) (.c (.b false))),
 Mv 2 30] [1,4,20,22,23,24,25,26,27,28,29,30])
 .ret)
 (.seq (.region [It 32 (.bin .eql (.t 4) (.c (.i .i64 (6)))),
 Mv 31 32] [20,32])
 (.cond (.t 31)
 (.seq (.region [Of 33 1 1,
 Ld 34 33,
 It 35 (.bin .geq (.t 34) (.c (.i .i64 (1)))),
 Mv 36 35,
 Ig 37 36 true (.off (.t 1) 1),
 Ig 38 36 true (.load none (.t 37)),
 Ig 39 36 true (.bin .leq (.t 38) (.c (.i .i64 (64)))),
 It 40 (.pick (.t 36) (.t 39) (.c (.b false))),
 Mv 41 40,
 Ig 42 41 true (.build [(.b false),(.b false),(.b false)] []),
 Ig 43 41 true (.load (some 5) (.t 1)),
 Ig 44 41 true (.call 66 [(.t 42),(.t 43)]),
 It 45 (.pick (.t 41) (.t 44) (.c (.b false))),
 Mv 2 45] [1,4,31,33,34,35,36,37,38,39,40,41,42,43,44,45])
 .ret)
 (.seq (.region [It 47 (.bin .eql (.t 4) (.c (.i .i64 (3)))),
 Mv 46 47] [31,47])
 (.cond (.t 46)
 (.seq (.region [Of 48 1 1,
 Ld 49 48,
 It 50 (.bin .eql (.t 49) (.c i0)),
 Mv 51 50,
 Ig 52 51 true (.off (.t 1) 2),
 Ig 53 51 true (.load none (.t 52)),
 Ig 54 51 true (.lenk 1 (.t 53)),
 Ig 55 51 true (.bin .leq (.t 54) (.c (.i .i64 (64)))),
 It 56 (.pick (.t 51) (.t 55) (.c (.b false))),
 Mv 57 56,
 Ig 58 57 true (.build [(.b false),(.b false),(.b false)] [(0,1,(.c (.b true)))]),
 Ig 59 57 true (.load (some 5) (.t 1)),
 Ig 60 57 true (.call 66 [(.t 58),(.t 59)]),
 It 61 (.pick (.t 57) (.t 60) (.c (.b false))),
 Mv 2 61] [1,4,46,48,49,50,51,52,53,54,55,56,57,58,59,60,61])
 .ret)
 (.seq (.region [It 63 (.bin .eql (.t 4) (.c (.i .i64 (4)))),
 Mv 62 63] [46,63])
 (.cond (.t 62)
 (.seq (.region [Of 64 1 1,
 Ld 65 64,
 It 66 (.bin .eql (.t 65) (.c i0)),
 Mv 67 66,
 Ig 68 67 true (.off (.t 1) 3),
 Ig 69 67 true (.load none (.t 68)),
 Ig 70 67 true (.lenk 0 (.t 69)),
 Ig 71 67 true (.bin .leq (.t 70) (.c (.i .i64 (32)))),
 It 72 (.pick (.t 67) (.t 71) (.c (.b false))),
 Mv 73 72,
 Ig 74 73 true (.build [(.b false),(.b false),(.b false)] [(1,1,(.c (.b true)))]),
 Ig 75 73 true (.load (some 5) (.t 1)),
 Ig 76 73 true (.call 66 [(.t 74),(.t 75)]),
 It 77 (.pick (.t 73) (.t 76) (.c (.b false))),
 Mv 2 77] [1,4,62,64,65,66,67,68,69,70,71,72,73,74,75,76,77])
 .ret)
 (.seq (.region [It 79 (.bin .eql (.t 4) (.c (.i .i64 (5)))),
 Mv 78 79] [4,62,79])
 (.cond (.t 78)
 (.seq (.region [Of 80 1 1,
 Ld 81 80,
 It 82 (.bin .eql (.t 81) (.c i0)),
 Mv 83 82,
 Ig 84 83 true (.off (.t 1) 3),
 Ig 85 83 true (.load none (.t 84)),
 Ig 86 83 true (.lenk 0 (.t 85)),
 Ig 87 83 true (.off (.t 1) 4),
 Ig 88 83 true (.load none (.t 87)),
 Ig 89 83 true (.lenk 0 (.t 88)),
 Ig 90 83 true (.bin .eql (.t 86) (.t 89)),
 It 91 (.pick (.t 83) (.t 90) (.c (.b false))),
 Mv 92 91,
 Ig 93 92 true (.off (.t 1) 3),
 Ig 94 92 true (.load none (.t 93)),
 Ig 95 92 true (.lenk 0 (.t 94)),
 Ig 96 92 true (.bin .leq (.t 95) (.c (.i .i64 (8)))),
 It 97 (.pick (.t 92) (.t 96) (.c (.b false))),
 Mv 98 97,
 Ig 99 98 true (.build [(.b false),(.b false),(.b false)] [(1,1,(.c (.b true))),(2,1,(.c (.b true)))]),
 Ig 100 98 true (.load (some 5) (.t 1)),
 Ig 101 98 true (.call 66 [(.t 99),(.t 100)]),
 It 102 (.pick (.t 98) (.t 101) (.c (.b false))),
 Mv 103 102,
 Ig 104 103 true (.off (.t 1) 4),
 Ig 105 103 true (.load none (.t 104)),
 Ig 106 103 true (.call 67 [(.t 105)]),
 It 107 (.pick (.t 103) (.t 106) (.c (.b false))),
 Mv 2 107] [1,78,80,81,82,83,84,85,86,87,88,89,90,91,92,93,94,95,96,97,98,99,100,101,102,103,104,105,106,107])
 .ret)
 (.region [] [1,78])))))))))))))))))
 (.seq (.region [It 2 (.mov (.c (.b false)))] [])
 .ret))),
    108,1,[.t 2],2⟩
theorem tr60:trFunc Tryd.prog (hz [] I60.body) 1 Tryd.f60=some (plain1 I60):=by kernel_rfl
theorem ck60:ckC 2 I60.body=true:=by kernel_rfl
def I61:IFunc :=
  ⟨(.seq (.region [It 2 (.mov (.c (.b false)))] [2])
 (.seq (.region [Mv 3 0,
 It 4 (.lenk 0 (.t 3)),
 It 5 (.bin .leq (.t 4) (.c (.i .i64 (8)))),
 Mv 6 5,
 Ig 7 6 true (.mov (.t 0)),
 Ig 8 6 true (.mov (.t 0)),
 Ig 9 6 true (.lenk 0 (.t 8)),
 Ig 10 6 true (.mksl 5 80 [i0,i0,(.s []),.ns,.ns] (.t 9) (.t 9)),
 Ig 11 6 true (.build [i0,i0,(.s []),.ns,.ns] [(0,1,(.c (.i .i64 (5)))),(4,1,(.t 7)),(3,1,(.t 10))]),
 Ig 12 6 true (.call 51 [(.t 11)]),
 It 13 (.pick (.t 6) (.t 12) (.c (.b false))),
 Mv 2 13] [0,3,4,5,6,7,8,9,10,11,12,13])
 .ret)),
    14,1,[.t 2],2⟩
theorem tr61:trFunc Tryd.prog (hz [] I61.body) 1 Tryd.f61=some (plain1 I61):=by kernel_rfl
theorem ck61:ckC 2 I61.body=true:=by kernel_rfl
def I62:IFunc :=
  ⟨(.seq (.region [It 2 (.mov (.c (.b false)))] [2])
 (.seq (.region [Mv 6 0,
 It 7 (.call 68 [(.t 6)]),
 Mv 5 7,
 Ex 8 5 0,
 Ex 9 5 1,
 It 3 (.alloc [i0,.ns,.ns]),
 ⟨none,(.store 3 (.t 3) (.t 8)),none,[]⟩,
 Mv 4 9] [0,6,7,5,8,9,3])
 (.seq (.region [Mv 10 4,
 Mv 2 10] [4,10])
 .ret))),
    11,1,[.t 2],2⟩
theorem tr62:trFunc Tryd.prog (hz [] I62.body) 1 Tryd.f62=some (plain1 I62):=by kernel_rfl
theorem ck62:ckC 2 I62.body=true:=by kernel_rfl
def L63a:ICode :=
  (.seq (.region [It 14 (.bin .lss (.t 13) (.t 12))] [])
 (.seq (.cond (.t 14)
 (.region [] [14])
 (.exit 0))
 (.seq (.block 1
 (.seq (.region [Mv 15 13,
 Mv 5 15] [15])
 (.seq (.region [Mv 16 0,
 Mv 17 5,
 It 18 (.iaddr 1 (.t 16) (.t 17)),
 Ld 19 18,
 Mv 20 1,
 Mv 21 5,
 It 22 (.iaddr 1 (.t 20) (.t 21)),
 Ld 23 22,
 It 24 (.bin .neq (.t 19) (.t 23))] [5,16,17,18,19,20,21,22,23])
 (.cond (.t 24)
 (.seq (.region [It 4 (.mov (.c (.b false)))] [0,1,12,13,24])
 .ret)
 (.region [] [24])))))
 (.region [It 25 (.bin .add (.t 13) (.c (.i .i64 (1)))),
 Mv 13 25] [25]))))
def I63:IFunc :=
  ⟨(.seq (.region [It 4 (.mov (.c (.b false)))] [4])
 (.seq (.seq (.region [Mv 6 0,
 It 7 (.lenk 0 (.t 6)),
 Mv 8 1,
 It 9 (.lenk 0 (.t 8)),
 It 10 (.bin .neq (.t 7) (.t 9))] [6,7,8,9])
 (.cond (.t 10)
 (.seq (.region [It 4 (.mov (.c (.b false)))] [0,1,10])
 .ret)
 (.region [] [10])))
 (.seq (.seq (.region [Mv 11 0,
 It 12 (.lenk 0 (.t 11)),
 It 13 (.mov (.c i0))] [11])
 (.block 0
 (.loop L63a)))
 (.seq (.region [It 4 (.mov (.c (.b true)))] [0,1,12,13,14])
 .ret)))),
    26,2,[.t 4],2⟩
theorem tr63:trFunc Tryd.prog (hz [(8,[0,1,2,3,4,5,6,7,8])] I63.body) 1 Tryd.f63=some (plain1 I63):=by kernel_rfl
theorem ck63:ckC 2 I63.body=true:=by kernel_rfl
def L64a:ICode :=
  (.seq (.region [It 18 (.bin .lss (.t 17) (.t 16))] [])
 (.seq (.cond (.t 18)
 (.region [] [18])
 (.exit 0))
 (.seq (.block 1
 (.seq (.region [Mv 19 17,
 It 20 (.iaddr 5 (.t 15) (.t 17)),
 It 21 (.load (some 5) (.t 20)),
 It 8 (.alloc [i0,i0,(.s []),.ns,.ns]),
 Mv 7 19,
 ⟨none,(.store 5 (.t 8) (.t 21)),none,[]⟩] [19,20,21])
 (.seq (.region [Mv 22 1,
 Mv 23 7,
 It 24 (.iaddr 5 (.t 22) (.t 23)),
 It 25 (.load (some 5) (.t 24)),
 It 9 (.alloc [i0,i0,(.s []),.ns,.ns]),
 ⟨none,(.store 5 (.t 9) (.t 25)),none,[]⟩] [7,22,23,24,25])
 (.seq (.region [Mv 26 2,
 It 27 (.load (some 5) (.t 8)),
 It 28 (.load (some 5) (.t 9)),
 It 29 (.callv (.t 26) [(.t 27),(.t 28)]),
 It 30 (.un .not (.t 29))] [8,9,26,27,28,29])
 (.cond (.t 30)
 (.seq (.region [It 6 (.mov (.c (.b false)))] [1,2,15,16,17,30])
 .ret)
 (.region [] [30]))))))
 (.region [It 31 (.bin .add (.t 17) (.c (.i .i64 (1)))),
 Mv 17 31] [31]))))
def I64:IFunc :=
  ⟨(.seq (.region [It 6 (.mov (.c (.b false)))] [6])
 (.seq (.seq (.region [Mv 10 0,
 It 11 (.lenk 0 (.t 10)),
 Mv 12 1,
 It 13 (.lenk 0 (.t 12)),
 It 14 (.bin .neq (.t 11) (.t 13))] [10,11,12,13])
 (.cond (.t 14)
 (.seq (.region [It 6 (.mov (.c (.b false)))] [0,1,2,14])
 .ret)
 (.region [] [14])))
 (.seq (.seq (.region [Mv 15 0,
 It 16 (.lenk 0 (.t 15)),
 It 17 (.mov (.c i0))] [0])
 (.block 0
 (.loop L64a)))
 (.seq (.region [It 6 (.mov (.c (.b true)))] [1,2,15,16,17,18])
 .ret)))),
    32,3,[.t 6],2⟩
theorem tr64:trFunc Tryd.prog (hz [] I64.body) 1 Tryd.f64=some (plain1 I64):=by kernel_rfl
theorem ck64:ckC 2 I64.body=true:=by kernel_rfl
def L65a:ICode :=
  (.seq (.seq (.region [Mv 38 5,
 Of 39 2 4,
 Ld 40 39,
 It 41 (.lenk 0 (.t 40)),
 It 42 (.bin .lss (.t 38) (.t 41)),
 Mv 43 42,
 Ig 44 43 true (.mov (.t 5)),
 Ig 45 43 true (.off (.t 3) 4),
 Ig 46 43 true (.load none (.t 45)),
 Ig 47 43 true (.lenk 0 (.t 46)),
 Ig 48 43 true (.bin .lss (.t 44) (.t 47)),
 It 49 (.pick (.t 43) (.t 48) (.c (.b false)))] [38,39,40,41,42,43,44,45,46,47,48])
 (.cond (.t 49)
 (.region [] [49])
 (.exit 0)))
 (.seq (.block 1
 (.seq (.region [Of 52 2 4,
 Ld 53 52,
 Mv 54 5,
 It 55 (.iaddr 1 (.t 53) (.t 54)),
 Ld 56 55,
 Of 57 3 4,
 Ld 58 57,
 Mv 59 5,
 It 60 (.iaddr 1 (.t 58) (.t 59)),
 Ld 61 60,
 It 62 (.bin .neq (.t 56) (.t 61))] [52,53,54,55,56,57,58,59,60,61])
 (.cond (.t 62)
 (.seq (.region [Of 63 2 4,
 Ld 64 63,
 Mv 65 5,
 It 66 (.iaddr 1 (.t 64) (.t 65)),
 Ld 67 66,
 Of 68 3 4,
 Ld 69 68,
 Mv 70 5,
 It 71 (.iaddr 1 (.t 69) (.t 70)),
 Ld 72 71,
 It 73 (.call 70 [(.t 67),(.t 72)]),
 Mv 4 73] [2,3,5,62,63,64,65,66,67,68,69,70,71,72,73])
 .ret)
 (.region [] [62]))))
 (.region [Mv 50 5,
 It 51 (.bin .add (.t 50) (.c (.i .i64 (1)))),
 Mv 5 51] [50,51])))
def L65b:ICode :=
  (.seq (.seq (.region [Mv 88 6,
 Of 89 2 3,
 Ld 90 89,
 It 91 (.lenk 0 (.t 90)),
 It 92 (.bin .lss (.t 88) (.t 91)),
 Mv 93 92,
 Ig 94 93 true (.mov (.t 6)),
 Ig 95 93 true (.off (.t 3) 3),
 Ig 96 93 true (.load none (.t 95)),
 Ig 97 93 true (.lenk 0 (.t 96)),
 Ig 98 93 true (.bin .lss (.t 94) (.t 97)),
 It 99 (.pick (.t 93) (.t 98) (.c (.b false)))] [88,89,90,91,92,93,94,95,96,97,98])
 (.cond (.t 99)
 (.region [] [99])
 (.exit 2)))
 (.seq (.block 3
 (.seq (.region [Of 102 2 3,
 Ld 103 102,
 Mv 104 6,
 It 105 (.iaddr 5 (.t 103) (.t 104)),
 It 106 (.load (some 5) (.t 105)),
 Of 107 3 3,
 Ld 108 107,
 Mv 109 6,
 It 110 (.iaddr 5 (.t 108) (.t 109)),
 It 111 (.load (some 5) (.t 110)),
 It 112 (.call 65 [(.t 106),(.t 111)]),
 Mv 7 112] [102,103,104,105,106,107,108,109,110,111,112])
 (.seq (.region [Mv 113 7,
 It 114 (.bin .neq (.t 113) (.c i0))] [113])
 (.cond (.t 114)
 (.seq (.region [Mv 115 7,
 Mv 4 115] [2,3,6,7,114,115])
 .ret)
 (.region [] [7,114])))))
 (.region [Mv 100 6,
 It 101 (.bin .add (.t 100) (.c (.i .i64 (1)))),
 Mv 6 101] [100,101])))
def I65:IFunc :=
  ⟨(.seq (.region [It 2 (.box (.t 0)),
 It 3 (.box (.t 1)),
 It 4 (.mov (.c i0))] [0,1,4])
 (.seq (.seq (.region [Of 8 2 0,
 Ld 9 8,
 Of 10 3 0,
 Ld 11 10,
 It 12 (.bin .neq (.t 9) (.t 11))] [8,9,10,11])
 (.cond (.t 12)
 (.seq (.region [Of 13 2 0,
 Ld 14 13,
 Of 15 3 0,
 Ld 16 15,
 It 17 (.call 69 [(.t 14),(.t 16)]),
 Mv 4 17] [2,3,12,13,14,15,16,17])
 .ret)
 (.region [] [12])))
 (.seq (.seq (.region [Of 18 2 1,
 Ld 19 18,
 Of 20 3 1,
 Ld 21 20,
 It 22 (.bin .neq (.t 19) (.t 21))] [18,19,20,21])
 (.cond (.t 22)
 (.seq (.region [Of 23 2 1,
 Ld 24 23,
 Of 25 3 1,
 Ld 26 25,
 It 27 (.call 69 [(.t 24),(.t 26)]),
 Mv 4 27] [2,3,22,23,24,25,26,27])
 .ret)
 (.region [] [22])))
 (.seq (.seq (.region [Of 28 2 2,
 Ld 29 28,
 Of 30 3 2,
 Ld 31 30,
 It 32 (.bin .neq (.t 29) (.t 31))] [28,29,30,31])
 (.cond (.t 32)
 (.seq (.region [Of 33 2 2,
 Ld 34 33,
 Of 35 3 2,
 Ld 36 35,
 It 37 (.call 70 [(.t 34),(.t 36)]),
 Mv 4 37] [2,3,32,33,34,35,36,37])
 .ret)
 (.region [] [32])))
 (.seq (.seq (.region [It 5 (.mov (.c i0))] [])
 (.block 0
 (.loop L65a)))
 (.seq (.seq (.region [Of 74 2 4,
 Ld 75 74,
 It 76 (.lenk 0 (.t 75)),
 Of 77 3 4,
 Ld 78 77,
 It 79 (.lenk 0 (.t 78)),
 It 80 (.bin .neq (.t 76) (.t 79))] [5,49,74,75,76,77,78,79])
 (.cond (.t 80)
 (.seq (.region [Of 81 2 4,
 Ld 82 81,
 It 83 (.lenk 0 (.t 82)),
 Of 84 3 4,
 Ld 85 84,
 It 86 (.lenk 0 (.t 85)),
 It 87 (.call 69 [(.t 83),(.t 86)]),
 Mv 4 87] [2,3,80,81,82,83,84,85,86,87])
 .ret)
 (.region [] [80])))
 (.seq (.seq (.region [It 6 (.mov (.c i0))] [])
 (.block 2
 (.loop L65b)))
 (.seq (.region [Of 116 2 3,
 Ld 117 116,
 It 118 (.lenk 0 (.t 117)),
 Of 119 3 3,
 Ld 120 119,
 It 121 (.lenk 0 (.t 120)),
 It 122 (.call 69 [(.t 118),(.t 121)]),
 Mv 4 122] [2,3,6,99,116,117,118,119,120,121,122])
 .ret)))))))),
    123,2,[.t 4],2⟩
theorem tr65:trFunc Tryd.prog (hz [(13,[0,1,2,3,4,5,6,7,8,9,10]),(14,[0,1,2,3,4,5,6,7,8,9,10,11]),(23,[0,1,2,3,4,5,6,7,8,9,10,11])] I65.body) 1 Tryd.f65=some (plain1 I65):=by kernel_rfl
theorem ck65:ckC 2 I65.body=true:=by kernel_rfl
def I66:IFunc :=
  ⟨(.seq (.region [It 2 (.box (.t 0)),
 It 3 (.box (.t 1)),
 It 4 (.mov (.c (.b false)))] [0,1,4])
 (.seq (.region [Of 5 2 0,
 Ld 6 5,
 Mv 7 6,
 Ig 8 7 false (.off (.t 3) 2),
 Ig 9 7 false (.load none (.t 8)),
 Ig 10 7 false (.bin .eql (.t 9) (.c (.s []))),
 It 11 (.pick (.t 7) (.c (.b true)) (.t 10)),
 Mv 12 11,
 Ig 13 12 true (.off (.t 2) 1),
 Ig 14 12 true (.load none (.t 13)),
 Ig 15 12 true (.mov (.t 14)),
 Ig 16 15 false (.off (.t 3) 3),
 Ig 17 15 false (.load none (.t 16)),
 Ig 18 15 false (.lenk 0 (.t 17)),
 Ig 19 15 false (.bin .eql (.t 18) (.c i0)),
 Ig 20 12 true (.pick (.t 15) (.c (.b true)) (.t 19)),
 It 21 (.pick (.t 12) (.t 20) (.c (.b false))),
 Mv 22 21,
 Ig 23 22 true (.off (.t 2) 2),
 Ig 24 22 true (.load none (.t 23)),
 Ig 25 22 true (.mov (.t 24)),
 Ig 26 25 false (.off (.t 3) 4),
 Ig 27 25 false (.load none (.t 26)),
 Ig 28 25 false (.lenk 0 (.t 27)),
 Ig 29 25 false (.bin .eql (.t 28) (.c i0)),
 Ig 30 22 true (.pick (.t 25) (.c (.b true)) (.t 29)),
 It 31 (.pick (.t 22) (.t 30) (.c (.b false))),
 Mv 4 31] [2,3,5,6,7,8,9,10,11,12,13,14,15,16,17,18,19,20,21,22,23,24,25,26,27,28,29,30,31])
 .ret)),
    32,2,[.t 4],2⟩
theorem tr66:trFunc Tryd.prog (hz [] I66.body) 1 Tryd.f66=some (plain1 I66):=by kernel_rfl
theorem ck66:ckC 2 I66.body=true:=by kernel_rfl
def L67a:ICode :=
  (.seq (.region [It 9 (.bin .lss (.t 8) (.t 7))] [])
 (.seq (.cond (.t 9)
 (.region [] [9])
 (.exit 0))
 (.seq (.block 1
 (.seq (.region [It 10 (.iaddr 1 (.t 6) (.t 8)),
 Ld 11 10,
 Mv 5 11] [10,11])
 (.seq (.seq (.region [Mv 12 5,
 Mv 13 3,
 It 14 (.bin .leq (.t 12) (.t 13)),
 Mv 15 14,
 Ig 16 15 false (.mov (.t 5)),
 Ig 17 15 false (.call 71 [(.t 16)]),
 Ig 18 15 false (.un .not (.t 17)),
 It 19 (.pick (.t 15) (.c (.b true)) (.t 18))] [3,12,13,14,15,16,17,18])
 (.cond (.t 19)
 (.seq (.region [It 2 (.mov (.c (.b false)))] [6,7,8,5,19])
 .ret)
 (.region [] [19])))
 (.region [Mv 20 5,
 Mv 3 20] [5,20]))))
 (.region [It 21 (.bin .add (.t 8) (.c (.i .i64 (1)))),
 Mv 8 21] [21]))))
def I67:IFunc :=
  ⟨(.seq (.region [It 2 (.mov (.c (.b false)))] [2])
 (.seq (.region [It 3 (.mov (.c (.s [])))] [])
 (.seq (.seq (.region [Mv 6 0,
 It 7 (.lenk 0 (.t 6)),
 It 8 (.mov (.c i0))] [0])
 (.block 0
 (.loop L67a)))
 (.seq (.region [It 2 (.mov (.c (.b true)))] [3,6,7,8,9])
 .ret)))),
    22,1,[.t 2],2⟩
theorem tr67:trFunc Tryd.prog (hz [] I67.body) 1 Tryd.f67=some (plain1 I67):=by kernel_rfl
theorem ck67:ckC 2 I67.body=true:=by kernel_rfl
def I68:IFunc :=
  ⟨(.seq (.region [It 2 (.alloc [i0,.ns,.ns]),
 It 3 (.mov (.c (.b false)))] [3])
 (.seq (.seq (.region [Mv 7 0,
 It 8 (.lenk 1 (.t 7)),
 It 9 (.bin .gtr (.t 8) (.c (.i .i64 (64))))] [7,8])
 (.cond (.t 9)
 (.seq (.region [It 10 (.build [i0,.ns,.ns] []),
 ⟨none,(.store 3 (.t 2) (.t 10)),none,[]⟩,
 It 3 (.mov (.c (.b false)))] [0,9,10])
 .ret)
 (.region [] [9])))
 (.seq (.region [Mv 12 0,
 It 13 (.call 72 [(.t 12)]),
 Mv 11 13,
 Ex 14 11 0,
 Ex 15 11 1,
 Ex 16 11 2,
 It 4 (.alloc [i0,.ns,.ns]),
 ⟨none,(.store 3 (.t 4) (.t 14)),none,[]⟩,
 Mv 5 15,
 Mv 6 16] [0,12,13,11,14,15,16])
 (.seq (.region [It 17 (.load (some 3) (.t 4)),
 Mv 18 6,
 Mv 19 18,
 Ig 20 19 true (.mov (.t 5)),
 Ig 21 19 true (.bin .eql (.t 20) (.c (.s []))),
 It 22 (.pick (.t 19) (.t 21) (.c (.b false))),
 ⟨none,(.store 3 (.t 2) (.t 17)),none,[]⟩,
 Mv 3 22] [4,5,6,17,18,19,20,21,22])
 .ret)))),
    23,1,[.c 2 (some 3),.t 3],2⟩
theorem tr68:trFunc Tryd.prog (hz [] I68.body) 1 Tryd.f68=some (plain1 I68):=by kernel_rfl
theorem ck68:ckC 2 I68.body=true:=by kernel_rfl
def I69:IFunc :=
  ⟨(.seq (.region [It 4 (.mov (.c i0))] [4])
 (.seq (.seq (.region [Mv 5 0,
 Mv 6 1,
 It 7 (.bin .lss (.t 5) (.t 6))] [5,6])
 (.cond (.t 7)
 (.seq (.region [It 4 (.mov (.c (.i .i64 (-1))))] [0,1,7])
 .ret)
 (.region [] [7])))
 (.seq (.seq (.region [Mv 8 0,
 Mv 9 1,
 It 10 (.bin .gtr (.t 8) (.t 9))] [0,1,8,9])
 (.cond (.t 10)
 (.seq (.region [It 4 (.mov (.c (.i .i64 (1))))] [10])
 .ret)
 (.region [] [10])))
 (.seq (.region [It 4 (.mov (.c i0))] [])
 .ret)))),
    11,2,[.t 4],2⟩
theorem tr69:trFunc Tryd.prog (hz [] I69.body) 1 Tryd.f69=some (plain1 I69):=by kernel_rfl
theorem ck69:ckC 2 I69.body=true:=by kernel_rfl
def I70:IFunc :=
  ⟨(.seq (.region [It 4 (.mov (.c i0))] [4])
 (.seq (.seq (.region [Mv 5 0,
 Mv 6 1,
 It 7 (.bin .lss (.t 5) (.t 6))] [5,6])
 (.cond (.t 7)
 (.seq (.region [It 4 (.mov (.c (.i .i64 (-1))))] [0,1,7])
 .ret)
 (.region [] [7])))
 (.seq (.seq (.region [Mv 8 0,
 Mv 9 1,
 It 10 (.bin .gtr (.t 8) (.t 9))] [0,1,8,9])
 (.cond (.t 10)
 (.seq (.region [It 4 (.mov (.c (.i .i64 (1))))] [10])
 .ret)
 (.region [] [10])))
 (.seq (.region [It 4 (.mov (.c i0))] [])
 .ret)))),
    11,2,[.t 4],2⟩
theorem tr70:trFunc Tryd.prog (hz [] I70.body) 1 Tryd.f70=some (plain1 I70):=by kernel_rfl
theorem ck70:ckC 2 I70.body=true:=by kernel_rfl
def L71a:ICode :=
  (.seq (.region [It 17 (.bin .lss (.t 16) (.t 15))] [])
 (.seq (.cond (.t 17)
 (.region [] [17])
 (.exit 0))
 (.seq (.block 1
 (.seq (.region [Mv 18 16,
 It 19 (.iaddr 1 (.t 14) (.t 16)),
 Ld 20 19,
 Mv 3 18,
 Mv 4 20] [18,19,20])
 (.seq (.region [Mv 21 4,
 It 22 (.bin .geq (.t 21) (.c (.i .u8 (97)))),
 Mv 23 22,
 Ig 24 23 true (.mov (.t 4)),
 Ig 25 23 true (.bin .leq (.t 24) (.c (.i .u8 (122)))),
 It 26 (.pick (.t 23) (.t 25) (.c (.b false))),
 Mv 5 26] [21,22,23,24,25,26])
 (.seq (.region [Mv 27 5,
 It 28 (.un .not (.t 27)),
 Mv 29 28,
 Ig 30 29 true (.mov (.t 3)),
 Ig 31 29 true (.bin .eql (.t 30) (.c i0)),
 Ig 32 29 true (.mov (.t 31)),
 Ig 33 32 false (.mov (.t 4)),
 Ig 34 32 false (.bin .neq (.t 33) (.c (.i .u8 (95)))),
 Ig 35 32 false (.mov (.t 34)),
 Ig 36 35 true (.mov (.t 4)),
 Ig 37 35 true (.bin .lss (.t 36) (.c (.i .u8 (48)))),
 Ig 38 35 true (.mov (.t 37)),
 Ig 39 38 false (.mov (.t 4)),
 Ig 40 38 false (.bin .gtr (.t 39) (.c (.i .u8 (57)))),
 Ig 41 35 true (.pick (.t 38) (.c (.b true)) (.t 40)),
 Ig 42 32 false (.pick (.t 35) (.t 41) (.c (.b false))),
 Ig 43 29 true (.pick (.t 32) (.c (.b true)) (.t 42)),
 It 44 (.pick (.t 29) (.t 43) (.c (.b false)))] [3,4,5,27,28,29,30,31,32,33,34,35,36,37,38,39,40,41,42,43])
 (.cond (.t 44)
 (.seq (.region [It 2 (.mov (.c (.b false)))] [14,15,16,44])
 .ret)
 (.region [] [44]))))))
 (.region [It 45 (.bin .add (.t 16) (.c (.i .i64 (1)))),
 Mv 16 45] [45]))))
def I71:IFunc :=
  ⟨(.seq (.region [It 2 (.mov (.c (.b false)))] [2])
 (.seq (.seq (.region [Mv 6 0,
 It 7 (.bin .eql (.t 6) (.c (.s []))),
 Mv 8 7,
 Ig 9 8 false (.mov (.t 0)),
 Ig 10 8 false (.lenk 1 (.t 9)),
 Ig 11 8 false (.bin .gtr (.t 10) (.c (.i .i64 (16)))),
 It 12 (.pick (.t 8) (.c (.b true)) (.t 11))] [6,7,8,9,10,11])
 (.cond (.t 12)
 (.seq (.region [It 2 (.mov (.c (.b false)))] [0,12])
 .ret)
 (.region [] [12])))
 (.seq (.seq (.region [Mv 13 0,
 It 14 (.s2b (.t 13)),
 It 15 (.lenk 0 (.t 14)),
 It 16 (.mov (.c i0))] [0,13])
 (.block 0
 (.loop L71a)))
 (.seq (.region [It 2 (.mov (.c (.b true)))] [14,15,16,17])
 .ret)))),
    46,1,[.t 2],2⟩
theorem tr71:trFunc Tryd.prog (hz [] I71.body) 1 Tryd.f71=some (plain1 I71):=by kernel_rfl
theorem ck71:ckC 2 I71.body=true:=by kernel_rfl
def L72a:ICode :=
  (.seq (.seq (.region [Mv 49 9,
 Mv 50 0,
 It 51 (.lenk 1 (.t 50)),
 It 52 (.bin .lss (.t 49) (.t 51)),
 Mv 53 52,
 Ig 54 53 true (.mov (.t 0)),
 Ig 55 53 true (.mov (.t 9)),
 Ig 56 53 true (.idxS (.t 54) (.t 55)),
 Ig 57 53 true (.bin .geq (.t 56) (.c (.i .u8 (97)))),
 It 58 (.pick (.t 53) (.t 57) (.c (.b false))),
 Mv 59 58,
 Ig 60 59 true (.mov (.t 0)),
 Ig 61 59 true (.mov (.t 9)),
 Ig 62 59 true (.idxS (.t 60) (.t 61)),
 Ig 63 59 true (.bin .leq (.t 62) (.c (.i .u8 (122)))),
 It 64 (.pick (.t 59) (.t 63) (.c (.b false)))] [49,50,51,52,53,54,55,56,57,58,59,60,61,62,63])
 (.cond (.t 64)
 (.region [] [64])
 (.exit 1)))
 (.block 2
 (.region [Mv 65 9,
 It 66 (.bin .add (.t 65) (.c (.i .i64 (1)))),
 Mv 9 66] [65,66])))
def I72:IFunc :=
  ⟨(.seq (.region [It 2 (.alloc [i0,.ns,.ns]),
 It 3 (.mov (.c (.s []))),
 It 4 (.mov (.c (.b false)))] [3,4])
 (.seq (.block 0
 (.seq (.region [Mv 12 0,
 It 13 (.call 73 [(.t 12),(.c (.s [91]))]),
 Mv 11 13] [12,13])
 (.cond (.t 11)
 (.seq (.region [Mv 15 0,
 It 16 (.slS (.t 15) (some (.c (.i .i64 (1)))) none),
 It 17 (.call 72 [(.t 16)]),
 Mv 14 17,
 Ex 18 14 0,
 Ex 19 14 1,
 Ex 20 14 2,
 It 5 (.alloc [i0,.ns,.ns]),
 ⟨none,(.store 3 (.t 5) (.t 18)),none,[]⟩,
 Mv 6 19,
 Mv 7 20] [0,11,15,16,17,14,18,19,20])
 (.seq (.region [Mv 22 6,
 It 23 (.call 74 [(.t 22),(.c (.s [93]))]),
 Mv 21 23,
 Ex 24 21 0,
 Ex 25 21 1,
 Mv 6 24,
 Mv 8 25] [22,23,21,24,25])
 (.seq (.region [It 26 (.load (some 3) (.t 5)),
 It 27 (.bsl 3 1 [i0,.ns,.ns] [(0,3,(.t 26))]),
 It 28 (.build [i0,.ns,.ns] [(0,1,(.c (.i .i64 (4)))),(2,1,(.t 27))]),
 Mv 29 6,
 Mv 30 7,
 Mv 31 30,
 Ig 32 31 true (.mov (.t 8)),
 It 33 (.pick (.t 31) (.t 32) (.c (.b false))),
 ⟨none,(.store 3 (.t 2) (.t 28)),none,[]⟩,
 Mv 3 29,
 Mv 4 33] [5,6,7,8,26,27,28,29,30,31,32,33])
 .ret)))
 (.seq (.region [Mv 35 0,
 It 36 (.call 73 [(.t 35),(.c (.s [123,125]))]),
 Mv 34 36] [11,35,36])
 (.cond (.t 34)
 (.seq (.region [It 37 (.build [i0,.ns,.ns] [(0,1,(.c (.i .i64 (5))))]),
 Mv 38 0,
 It 39 (.slS (.t 38) (some (.c (.i .i64 (2)))) none),
 ⟨none,(.store 3 (.t 2) (.t 37)),none,[]⟩,
 Mv 3 39,
 It 4 (.mov (.c (.b true)))] [0,34,37,38,39])
 .ret)
 (.seq (.region [Mv 41 0,
 It 42 (.call 73 [(.t 41),(.c (.s [123]))]),
 Mv 40 42] [34,41,42])
 (.cond (.t 40)
 (.seq (.region [Mv 43 0,
 It 44 (.slS (.t 43) (some (.c (.i .i64 (1)))) none),
 It 45 (.call 75 [(.t 44)]),
 Ex 46 45 0,
 Ex 47 45 1,
 Ex 48 45 2,
 ⟨none,(.store 3 (.t 2) (.t 46)),none,[]⟩,
 Mv 3 47,
 Mv 4 48] [0,40,43,44,45,46,47,48])
 .ret)
 (.region [] [40]))))))))
 (.seq (.region [It 9 (.mov (.c i0))] [])
 (.seq (.block 1
 (.loop L72a))
 (.seq (.region [Mv 67 0,
 Mv 68 9,
 It 69 (.slS (.t 67) none (some (.t 68))),
 It 70 (.call 76 [(.t 69)]),
 Mv 10 70] [64,67,68,69,70])
 (.seq (.region [Mv 71 10,
 It 72 (.build [i0,.ns,.ns] [(0,1,(.t 71))]),
 Mv 73 0,
 Mv 74 9,
 It 75 (.slS (.t 73) (some (.t 74)) none),
 Mv 76 10,
 It 77 (.bin .geq (.t 76) (.c i0)),
 ⟨none,(.store 3 (.t 2) (.t 72)),none,[]⟩,
 Mv 3 75,
 Mv 4 77] [0,9,10,71,72,73,74,75,76,77])
 .ret)))))),
    78,1,[.c 2 (some 3),.t 3,.t 4],2⟩
theorem tr72:trFunc Tryd.prog (hz [(6,[0,1,2,3,4,5]),(15,[0,1,2,3,4,5,6,7,8,9])] I72.body) 1 Tryd.f72=some (plain1 I72):=by kernel_rfl
theorem ck72:ckC 2 I72.body=true:=by kernel_rfl
def I73:IFunc :=
  ⟨(.seq (.region [It 4 (.mov (.c (.b false)))] [4])
 (.seq (.region [Mv 5 0,
 Mv 6 1,
 It 7 (.call 77 [(.t 5),(.t 6)]),
 Mv 4 7] [0,1,5,6,7])
 .ret)),
    8,2,[.t 4],2⟩
theorem tr73:trFunc Tryd.prog (hz [] I73.body) 1 Tryd.f73=some (plain1 I73):=by kernel_rfl
theorem ck73:ckC 2 I73.body=true:=by kernel_rfl
def I74:IFunc :=
  ⟨(.seq (.region [It 4 (.mov (.c (.s []))),
 It 5 (.mov (.c (.b false)))] [4,5])
 (.seq (.region [Mv 6 0,
 Mv 7 1,
 It 8 (.call 78 [(.t 6),(.t 7)]),
 Ex 9 8 0,
 Ex 10 8 1,
 Mv 4 9,
 Mv 5 10] [0,1,6,7,8,9,10])
 .ret)),
    11,2,[.t 4,.t 5],2⟩
theorem tr74:trFunc Tryd.prog (hz [] I74.body) 1 Tryd.f74=some (plain1 I74):=by kernel_rfl
theorem ck74:ckC 2 I74.body=true:=by kernel_rfl
def L75a:ICode :=
  (.block 1
 (.seq (.region [Mv 13 0,
 It 14 (.call 79 [(.t 13),(.c (.s [58]))]),
 Mv 12 14,
 Ex 15 12 0,
 Ex 16 12 1,
 Ex 17 12 2,
 Mv 5 15,
 Mv 6 16,
 Mv 7 17] [0,58,13,14,12,15,16,17])
 (.seq (.region [Mv 19 6,
 It 20 (.call 72 [(.t 19)]),
 Mv 18 20,
 Ex 21 18 0,
 Ex 22 18 1,
 Ex 23 18 2,
 It 8 (.alloc [i0,.ns,.ns]),
 ⟨none,(.store 3 (.t 8) (.t 21)),none,[]⟩,
 Mv 9 22,
 Mv 10 23] [6,19,20,18,21,22,23])
 (.seq (.seq (.region [Mv 24 7,
 It 25 (.un .not (.t 24)),
 Mv 26 25,
 Ig 27 26 false (.mov (.t 10)),
 Ig 28 26 false (.un .not (.t 27)),
 It 29 (.pick (.t 26) (.c (.b true)) (.t 28)),
 Mv 30 29,
 Ig 31 30 false (.mov (.t 9)),
 Ig 32 30 false (.bin .eql (.t 31) (.c (.s []))),
 It 33 (.pick (.t 30) (.c (.b true)) (.t 32))] [7,10,24,25,26,27,28,29,30,31,32])
 (.cond (.t 33)
 (.seq (.region [It 34 (.build [i0,.ns,.ns] []),
 ⟨none,(.store 3 (.t 2) (.t 34)),none,[]⟩,
 It 3 (.mov (.c (.s []))),
 It 4 (.mov (.c (.b false)))] [5,8,9,33,34])
 .ret)
 (.region [] [33])))
 (.seq (.region [Of 35 2 1,
 Ld 36 35,
 Mv 37 5,
 It 38 (.bsl 1 1 [(.s [])] [(0,1,(.t 37))]),
 Of 40 2 2,
 Ld 41 40,
 It 42 (.load (some 3) (.t 8)),
 It 43 (.bsl 3 1 [i0,.ns,.ns] [(0,3,(.t 42))]),
 ⟨(some 39),(.app 1 16 (.t 36) (.t 38)),none,[(41,(.load none (.t 40)),none),(42,(.load (some 3) (.t 8)),none)]⟩,
 Of 45 2 1,
 It 44 (.app 3 56 (.t 41) (.t 43)),
 ⟨none,(.store 1 (.t 45) (.t 39)),none,[]⟩,
 Of 46 2 2,
 ⟨none,(.store 1 (.t 46) (.t 44)),none,[]⟩] [5,8,35,36,37,38,40,41,42,43,39,45,44,46])
 (.seq (.region [Mv 47 9,
 It 48 (.slS (.t 47) (some (.c (.i .i64 (1)))) none),
 Mv 0 48] [47,48])
 (.seq (.seq (.region [Mv 49 9,
 It 50 (.idxS (.t 49) (.c i0))] [9,49])
 (.block 2
 (.seq (.region [It 52 (.bin .eql (.t 50) (.c (.i .u8 (125)))),
 Mv 51 52] [52])
 (.cond (.t 51)
 (.seq (.region [It 53 (.load (some 3) (.t 2)),
 Mv 54 0,
 Of 55 2 1,
 Ld 56 55,
 ⟨(some 57),(.call 67 [(.t 56)]),none,[(53,(.load (some 3) (.t 2)),none)]⟩,
 ⟨none,(.store 3 (.t 2) (.t 53)),none,[]⟩,
 Mv 3 54,
 Mv 4 57] [0,50,51,53,54,55,56,57])
 .ret)
 (.seq (.region [It 59 (.bin .eql (.t 50) (.c (.i .u8 (44)))),
 Mv 58 59] [50,51,59])
 (.cond (.t 58)
 (.exit 1)
 (.region [] [0,58])))))))
 (.seq (.region [It 60 (.build [i0,.ns,.ns] []),
 ⟨none,(.store 3 (.t 2) (.t 60)),none,[]⟩,
 It 3 (.mov (.c (.s []))),
 It 4 (.mov (.c (.b false)))] [60])
 .ret))))))))
def I75:IFunc :=
  ⟨(.seq (.region [It 2 (.alloc [i0,.ns,.ns]),
 It 3 (.mov (.c (.s []))),
 It 4 (.mov (.c (.b false)))] [3,4])
 (.seq (.region [Of 11 2 0,
 ⟨none,(.store 1 (.t 11) (.c (.i .i64 (5)))),none,[]⟩] [11])
 (.block 0
 (.loop L75a)))),
    61,1,[.c 2 (some 3),.t 3,.t 4],2⟩
theorem tr75:trFunc Tryd.prog (hz [(7,[0,1,2,3,5,6,7,8,4,10,9,11,12,13]),(11,[0,1,2,3,4,5,6,7])] I75.body) 1 Tryd.f75=some (plain1 I75):=by kernel_rfl
theorem ck75:ckC 2 I75.body=true:=by kernel_rfl
def I76:IFunc :=
  ⟨(.seq (.region [It 2 (.mov (.c i0))] [2])
 (.seq (.seq (.region [Mv 3 0] [0])
 (.block 0
 (.seq (.region [It 5 (.bin .eql (.t 3) (.c (.s [110,111,110,101]))),
 Mv 4 5] [5])
 (.cond (.t 4)
 (.seq (.region [It 2 (.mov (.c i0))] [3,4])
 .ret)
 (.seq (.region [It 7 (.bin .eql (.t 3) (.c (.s [105,110,116]))),
 Mv 6 7] [4,7])
 (.cond (.t 6)
 (.seq (.region [It 2 (.mov (.c (.i .i64 (1))))] [3,6])
 .ret)
 (.seq (.region [It 9 (.bin .eql (.t 3) (.c (.s [98,111,111,108]))),
 Mv 8 9] [6,9])
 (.cond (.t 8)
 (.seq (.region [It 2 (.mov (.c (.i .i64 (2))))] [3,8])
 .ret)
 (.seq (.region [It 11 (.bin .eql (.t 3) (.c (.s [116,101,120,116]))),
 Mv 10 11] [8,11])
 (.cond (.t 10)
 (.seq (.region [It 2 (.mov (.c (.i .i64 (3))))] [3,10])
 .ret)
 (.seq (.region [It 13 (.bin .eql (.t 3) (.c (.s [102,117,116,117,114,101]))),
 Mv 12 13] [3,10,13])
 (.cond (.t 12)
 (.seq (.region [It 2 (.mov (.c (.i .i64 (6))))] [12])
 .ret)
 (.region [] [12])))))))))))))
 (.seq (.region [It 2 (.mov (.c (.i .i64 (-1))))] [])
 .ret))),
    14,1,[.t 2],2⟩
theorem tr76:trFunc Tryd.prog (hz [] I76.body) 1 Tryd.f76=some (plain1 I76):=by kernel_rfl
theorem ck76:ckC 2 I76.body=true:=by kernel_rfl
def I77:IFunc :=
  ⟨(.seq (.region [It 4 (.mov (.c (.b false)))] [4])
 (.seq (.region [Mv 5 0,
 It 6 (.lenk 1 (.t 5)),
 Mv 7 1,
 It 8 (.lenk 1 (.t 7)),
 It 9 (.bin .geq (.t 6) (.t 8)),
 Mv 10 9,
 Ig 11 10 true (.mov (.t 0)),
 Ig 12 10 true (.mov (.t 1)),
 Ig 13 10 true (.lenk 1 (.t 12)),
 Ig 14 10 true (.slS (.t 11) none (some (.t 13))),
 Ig 15 10 true (.mov (.t 1)),
 Ig 16 10 true (.bin .eql (.t 14) (.t 15)),
 It 17 (.pick (.t 10) (.t 16) (.c (.b false))),
 Mv 4 17] [0,1,5,6,7,8,9,10,11,12,13,14,15,16,17])
 .ret)),
    18,2,[.t 4],2⟩
theorem tr77:trFunc Tryd.prog (hz [] I77.body) 1 Tryd.f77=some (plain1 I77):=by kernel_rfl
theorem ck77:ckC 2 I77.body=true:=by kernel_rfl
def I78:IFunc :=
  ⟨(.seq (.region [It 4 (.mov (.c (.s []))),
 It 5 (.mov (.c (.b false)))] [4,5])
 (.seq (.seq (.region [Mv 6 0,
 Mv 7 1,
 It 8 (.call 77 [(.t 6),(.t 7)]),
 It 9 (.un .not (.t 8))] [6,7,8])
 (.cond (.t 9)
 (.seq (.region [Mv 10 0,
 Mv 4 10,
 It 5 (.mov (.c (.b false)))] [0,1,9,10])
 .ret)
 (.region [] [9])))
 (.seq (.region [Mv 11 0,
 Mv 12 1,
 It 13 (.lenk 1 (.t 12)),
 It 14 (.slS (.t 11) (some (.t 13)) none),
 Mv 4 14,
 It 5 (.mov (.c (.b true)))] [0,1,11,12,13,14])
 .ret))),
    15,2,[.t 4,.t 5],2⟩
theorem tr78:trFunc Tryd.prog (hz [] I78.body) 1 Tryd.f78=some (plain1 I78):=by kernel_rfl
theorem ck78:ckC 2 I78.body=true:=by kernel_rfl
def I79:IFunc :=
  ⟨(.seq (.region [It 4 (.mov (.c (.s []))),
 It 5 (.mov (.c (.s []))),
 It 6 (.mov (.c (.b false)))] [4,5,6])
 (.seq (.region [Mv 7 0,
 Mv 8 1,
 It 9 (.call 80 [(.t 7),(.t 8)]),
 Ex 10 9 0,
 Ex 11 9 1,
 Ex 12 9 2,
 Mv 4 10,
 Mv 5 11,
 Mv 6 12] [0,1,7,8,9,10,11,12])
 .ret)),
    13,2,[.t 4,.t 5,.t 6],2⟩
theorem tr79:trFunc Tryd.prog (hz [] I79.body) 1 Tryd.f79=some (plain1 I79):=by kernel_rfl
theorem ck79:ckC 2 I79.body=true:=by kernel_rfl
def I80:IFunc :=
  ⟨(.seq (.region [It 4 (.mov (.c (.s []))),
 It 5 (.mov (.c (.s []))),
 It 6 (.mov (.c (.b false)))] [4,5,6])
 (.seq (.seq (.region [Mv 8 0,
 Mv 9 1,
 It 10 (.call 81 [(.t 8),(.t 9)]),
 Mv 7 10] [8,9,10])
 (.seq (.region [Mv 11 7,
 It 12 (.bin .geq (.t 11) (.c i0))] [11])
 (.cond (.t 12)
 (.seq (.region [Mv 13 0,
 Mv 14 7,
 It 15 (.slS (.t 13) none (some (.t 14))),
 Mv 16 0,
 Mv 17 7,
 Mv 18 1,
 It 19 (.lenk 1 (.t 18)),
 It 20 (.bin .add (.t 17) (.t 19)),
 It 21 (.slS (.t 16) (some (.t 20)) none),
 Mv 4 15,
 Mv 5 21,
 It 6 (.mov (.c (.b true)))] [0,1,7,12,13,14,15,16,17,18,19,20,21])
 .ret)
 (.region [] [1,7,12]))))
 (.seq (.region [Mv 22 0,
 Mv 4 22,
 It 5 (.mov (.c (.s []))),
 It 6 (.mov (.c (.b false)))] [0,22])
 .ret))),
    23,2,[.t 4,.t 5,.t 6],2⟩
theorem tr80:trFunc Tryd.prog (hz [(3,[0,1,2,3,4,5,6,7,8,9,10,11])] I80.body) 1 Tryd.f80=some (plain1 I80):=by kernel_rfl
theorem ck80:ckC 2 I80.body=true:=by kernel_rfl
def L81a:ICode :=
  (.seq (.seq (.region [Mv 57 8,
 Mv 58 9,
 It 59 (.bin .lss (.t 57) (.t 58))] [57,58])
 (.cond (.t 59)
 (.region [] [59])
 (.exit 1)))
 (.block 2
 (.seq (.seq (.region [Mv 60 0,
 Mv 61 8,
 It 62 (.idxS (.t 60) (.t 61)),
 Mv 63 6,
 It 64 (.bin .neq (.t 62) (.t 63))] [60,61,62,63])
 (.cond (.t 64)
 (.seq (.region [Mv 65 0,
 Mv 66 8,
 It 67 (.bin .add (.t 66) (.c (.i .i64 (1)))),
 Mv 68 9,
 It 69 (.slS (.t 65) (some (.t 67)) (some (.t 68))),
 Mv 70 6,
 It 71 (.call 82 [(.t 69),(.t 70)]),
 Mv 11 71] [64,65,66,67,68,69,70,71])
 (.seq (.seq (.region [Mv 72 11,
 It 73 (.bin .lss (.t 72) (.c i0))] [72])
 (.cond (.t 73)
 (.seq (.region [It 4 (.mov (.c (.i .i64 (-1))))] [0,1,5,6,7,8,9,10,11,73])
 .ret)
 (.region [] [73])))
 (.region [Mv 74 8,
 Mv 75 11,
 It 76 (.bin .add (.t 75) (.c (.i .i64 (1)))),
 It 77 (.bin .add (.t 74) (.t 76)),
 Mv 8 77] [11,74,75,76,77])))
 (.region [] [64])))
 (.seq (.seq (.region [Mv 78 0,
 Mv 79 8,
 It 80 (.bin .add (.t 79) (.c (.i .i64 (1)))),
 It 81 (.idxS (.t 78) (.t 80)),
 Mv 82 7,
 It 83 (.bin .eql (.t 81) (.t 82)),
 Mv 84 83,
 Ig 85 84 true (.mov (.t 0)),
 Ig 86 84 true (.mov (.t 8)),
 Ig 87 84 true (.mov (.t 8)),
 Ig 88 84 true (.mov (.t 5)),
 Ig 89 84 true (.bin .add (.t 87) (.t 88)),
 Ig 90 84 true (.slS (.t 85) (some (.t 86)) (some (.t 89))),
 Ig 91 84 true (.mov (.t 1)),
 Ig 92 84 true (.bin .eql (.t 90) (.t 91)),
 It 93 (.pick (.t 84) (.t 92) (.c (.b false)))] [78,79,80,81,82,83,84,85,86,87,88,89,90,91,92])
 (.cond (.t 93)
 (.seq (.region [Mv 94 8,
 Mv 4 94] [0,1,5,6,7,8,9,10,93,94])
 .ret)
 (.region [] [93])))
 (.seq (.region [Mv 95 8,
 It 96 (.bin .add (.t 95) (.c (.i .i64 (1)))),
 Mv 8 96] [95,96])
 (.seq (.region [Mv 97 10,
 It 98 (.bin .add (.t 97) (.c (.i .i64 (1)))),
 Mv 10 98] [97,98])
 (.seq (.region [Mv 99 5,
 It 100 (.load none (.g 1)),
 It 101 (.bin .leq (.t 99) (.t 100)),
 Mv 102 101,
 Ig 103 102 true (.mov (.t 10)),
 Ig 104 102 true (.mov (.t 8)),
 Ig 105 102 true (.call 84 [(.t 104)]),
 Ig 106 102 true (.bin .gtr (.t 103) (.t 105)),
 It 107 (.pick (.t 102) (.t 106) (.c (.b false)))] [99,100,101,102,103,104,105,106])
 (.cond (.t 107)
 (.seq (.region [Mv 108 0,
 Mv 109 8,
 It 110 (.slS (.t 108) (some (.t 109)) none),
 Mv 111 1,
 It 112 (.call 83 [(.t 110),(.t 111)]),
 Mv 12 112] [0,1,5,6,7,9,10,107,108,109,110,111,112])
 (.seq (.seq (.region [Mv 113 12,
 It 114 (.bin .geq (.t 113) (.c i0))] [113])
 (.cond (.t 114)
 (.seq (.region [Mv 115 12,
 Mv 116 8,
 It 117 (.bin .add (.t 115) (.t 116)),
 Mv 4 117] [8,12,114,115,116,117])
 .ret)
 (.region [] [8,12,114])))
 (.seq (.region [It 4 (.mov (.c (.i .i64 (-1))))] [])
 .ret)))
 (.seq (.region [Mv 118 5,
 It 119 (.load none (.g 1)),
 It 120 (.bin .gtr (.t 118) (.t 119)),
 Mv 121 120,
 Ig 122 121 true (.mov (.t 10)),
 Ig 123 121 true (.mov (.t 8)),
 Ig 124 121 true (.bin .shr (.t 123) (.c (.i .u64 (4)))),
 Ig 125 121 true (.bin .add (.c (.i .i64 (4))) (.t 124)),
 Ig 126 121 true (.bin .geq (.t 122) (.t 125)),
 It 127 (.pick (.t 121) (.t 126) (.c (.b false))),
 Mv 128 127,
 Ig 129 128 true (.mov (.t 8)),
 Ig 130 128 true (.mov (.t 9)),
 Ig 131 128 true (.bin .lss (.t 129) (.t 130)),
 It 132 (.pick (.t 128) (.t 131) (.c (.b false)))] [107,118,119,120,121,122,123,124,125,126,127,128,129,130,131])
 (.cond (.t 132)
 (.seq (.region [Mv 133 0,
 Mv 134 8,
 It 135 (.slS (.t 133) (some (.t 134)) none),
 Mv 136 1,
 It 137 (.call 85 [(.t 135),(.t 136)]),
 Mv 13 137] [0,1,5,6,7,9,10,132,133,134,135,136,137])
 (.seq (.seq (.region [Mv 138 13,
 It 139 (.bin .lss (.t 138) (.c i0))] [138])
 (.cond (.t 139)
 (.seq (.region [It 4 (.mov (.c (.i .i64 (-1))))] [8,13,139])
 .ret)
 (.region [] [139])))
 (.seq (.region [Mv 140 8,
 Mv 141 13,
 It 142 (.bin .add (.t 140) (.t 141)),
 Mv 4 142] [8,13,140,141,142])
 .ret)))
 (.region [] [132])))))))))))
def I81:IFunc :=
  ⟨(.seq (.region [It 4 (.mov (.c i0))] [4])
 (.seq (.region [Mv 14 1,
 It 15 (.lenk 1 (.t 14)),
 Mv 5 15] [14,15])
 (.seq (.block 0
 (.seq (.region [Mv 17 5,
 It 18 (.bin .eql (.t 17) (.c i0)),
 Mv 19 18,
 Ig 20 19 false (.mov (.t 1)),
 Ig 21 19 false (.mov (.t 0)),
 Ig 22 19 false (.bin .eql (.t 20) (.t 21)),
 It 23 (.pick (.t 19) (.c (.b true)) (.t 22)),
 Mv 16 23] [17,18,19,20,21,22,23])
 (.cond (.t 16)
 (.seq (.region [It 4 (.mov (.c i0))] [0,1,5,16])
 .ret)
 (.seq (.region [Mv 25 5,
 It 26 (.bin .eql (.t 25) (.c (.i .i64 (1)))),
 Mv 24 26] [16,25,26])
 (.cond (.t 24)
 (.seq (.region [Mv 27 0,
 Mv 28 1,
 It 29 (.idxS (.t 28) (.c i0)),
 It 30 (.call 82 [(.t 27),(.t 29)]),
 Mv 4 30] [0,1,5,24,27,28,29,30])
 .ret)
 (.seq (.region [Mv 32 5,
 Mv 33 0,
 It 34 (.lenk 1 (.t 33)),
 It 35 (.bin .geq (.t 32) (.t 34)),
 Mv 31 35] [24,32,33,34,35])
 (.cond (.t 31)
 (.seq (.region [It 4 (.mov (.c (.i .i64 (-1))))] [0,1,5,31])
 .ret)
 (.seq (.region [Mv 37 5,
 It 38 (.load none (.g 1)),
 It 39 (.bin .leq (.t 37) (.t 38)),
 Mv 40 39,
 Ig 41 40 true (.mov (.t 0)),
 Ig 42 40 true (.lenk 1 (.t 41)),
 Ig 43 40 true (.bin .leq (.t 42) (.c (.i .i64 (64)))),
 It 44 (.pick (.t 40) (.t 43) (.c (.b false))),
 Mv 36 44] [31,37,38,39,40,41,42,43,44])
 (.cond (.t 36)
 (.seq (.region [Mv 45 0,
 Mv 46 1,
 It 47 (.call 83 [(.t 45),(.t 46)]),
 Mv 4 47] [0,1,5,36,45,46,47])
 .ret)
 (.region [] [36]))))))))))
 (.seq (.region [Mv 48 1,
 It 49 (.idxS (.t 48) (.c i0)),
 Mv 6 49] [48,49])
 (.seq (.region [Mv 50 1,
 It 51 (.idxS (.t 50) (.c (.i .i64 (1)))),
 Mv 7 51] [50,51])
 (.seq (.region [It 8 (.mov (.c i0))] [])
 (.seq (.region [Mv 52 0,
 It 53 (.lenk 1 (.t 52)),
 Mv 54 5,
 It 55 (.bin .sub (.t 53) (.t 54)),
 It 56 (.bin .add (.t 55) (.c (.i .i64 (1)))),
 Mv 9 56] [52,53,54,55,56])
 (.seq (.region [It 10 (.mov (.c i0))] [])
 (.seq (.block 1
 (.loop L81a))
 (.seq (.region [It 4 (.mov (.c (.i .i64 (-1))))] [0,1,5,6,7,8,9,10,59])
 .ret)))))))))),
    143,2,[.t 4],2⟩
theorem tr81:trFunc Tryd.prog (hz [] I81.body) 1 Tryd.f81=some (plain1 I81):=by kernel_rfl
theorem ck81:ckC 2 I81.body=true:=by kernel_rfl
def I82:IFunc :=
  ⟨(.seq (.region [It 4 (.mov (.c i0))] [4])
 (.seq (.region [Mv 5 0,
 Mv 6 1,
 It 7 (.call 86 [(.t 5),(.t 6)]),
 Mv 4 7] [0,1,5,6,7])
 .ret)),
    8,2,[.t 4],2⟩
theorem tr82:trFunc Tryd.prog (hz [] I82.body) 1 Tryd.f82=some (plain1 I82):=by kernel_rfl
theorem ck82:ckC 2 I82.body=true:=by kernel_rfl
def I84:IFunc :=
  ⟨(.seq (.region [It 2 (.mov (.c i0))] [2])
 (.seq (.region [Mv 3 0,
 It 4 (.bin .add (.t 3) (.c (.i .i64 (16)))),
 It 5 (.bin .quo (.t 4) (.c (.i .i64 (8)))),
 Mv 2 5] [0,3,4,5])
 .ret)),
    6,1,[.t 2],2⟩
theorem tr84:trFunc Tryd.prog (hz [] I84.body) 1 Tryd.f84=some (plain1 I84):=by kernel_rfl
theorem ck84:ckC 2 I84.body=true:=by kernel_rfl
def L85a:ICode :=
  (.seq (.seq (.region [Mv 18 9,
 Mv 19 7,
 It 20 (.bin .lss (.t 18) (.t 19))] [18,19])
 (.cond (.t 20)
 (.region [] [20])
 (.exit 0)))
 (.seq (.block 1
 (.region [Mv 23 8,
 It 24 (.bin .mul (.t 23) (.c (.i .u32 (16777619)))),
 Mv 25 0,
 Mv 26 9,
 It 27 (.idxS (.t 25) (.t 26)),
 It 28 (.conv .u32 (.t 27)),
 It 29 (.bin .add (.t 24) (.t 28)),
 Mv 8 29] [23,24,25,26,27,28,29]))
 (.region [Mv 21 9,
 It 22 (.bin .add (.t 21) (.c (.i .i64 (1)))),
 Mv 9 22] [21,22])))
def L85b:ICode :=
  (.seq (.seq (.region [Mv 41 10,
 Mv 42 0,
 It 43 (.lenk 1 (.t 42)),
 It 44 (.bin .lss (.t 41) (.t 43))] [41,42,43])
 (.cond (.t 44)
 (.region [] [44])
 (.exit 2)))
 (.block 3
 (.seq (.region [Mv 45 8,
 It 46 (.bin .mul (.t 45) (.c (.i .u32 (16777619)))),
 Mv 8 46] [45,46])
 (.seq (.region [Mv 47 8,
 Mv 48 0,
 Mv 49 10,
 It 50 (.idxS (.t 48) (.t 49)),
 It 51 (.conv .u32 (.t 50)),
 It 52 (.bin .add (.t 47) (.t 51)),
 Mv 8 52] [47,48,49,50,51,52])
 (.seq (.region [Mv 53 8,
 Mv 54 6,
 Mv 55 0,
 Mv 56 10,
 Mv 57 7,
 It 58 (.bin .sub (.t 56) (.t 57)),
 It 59 (.idxS (.t 55) (.t 58)),
 It 60 (.conv .u32 (.t 59)),
 It 61 (.bin .mul (.t 54) (.t 60)),
 It 62 (.bin .sub (.t 53) (.t 61)),
 Mv 8 62] [53,54,55,56,57,58,59,60,61,62])
 (.seq (.region [Mv 63 10,
 It 64 (.bin .add (.t 63) (.c (.i .i64 (1)))),
 Mv 10 64] [63,64])
 (.seq (.region [Mv 65 8,
 Mv 66 5,
 It 67 (.bin .eql (.t 65) (.t 66)),
 Mv 68 67,
 Ig 69 68 true (.mov (.t 0)),
 Ig 70 68 true (.mov (.t 10)),
 Ig 71 68 true (.mov (.t 7)),
 Ig 72 68 true (.bin .sub (.t 70) (.t 71)),
 Ig 73 68 true (.mov (.t 10)),
 Ig 74 68 true (.slS (.t 69) (some (.t 72)) (some (.t 73))),
 Ig 75 68 true (.mov (.t 1)),
 Ig 76 68 true (.bin .eql (.t 74) (.t 75)),
 It 77 (.pick (.t 68) (.t 76) (.c (.b false)))] [65,66,67,68,69,70,71,72,73,74,75,76])
 (.cond (.t 77)
 (.seq (.region [Mv 78 10,
 Mv 79 7,
 It 80 (.bin .sub (.t 78) (.t 79)),
 Mv 4 80] [0,1,5,6,7,8,10,77,78,79,80])
 .ret)
 (.region [] [77])))))))))
def I85:IFunc :=
  ⟨(.seq (.region [It 4 (.mov (.c i0))] [4])
 (.seq (.region [Mv 12 1,
 It 13 (.call 87 [(.t 12)]),
 Mv 11 13,
 Ex 14 11 0,
 Ex 15 11 1,
 Mv 5 14,
 Mv 6 15] [12,13,11,14,15])
 (.seq (.region [Mv 16 1,
 It 17 (.lenk 1 (.t 16)),
 Mv 7 17] [16,17])
 (.seq (.region [It 8 (.mov (.c (.i .u32 (0))))] [])
 (.seq (.seq (.region [It 9 (.mov (.c i0))] [])
 (.block 0
 (.loop L85a)))
 (.seq (.seq (.region [Mv 30 8,
 Mv 31 5,
 It 32 (.bin .eql (.t 30) (.t 31)),
 Mv 33 32,
 Ig 34 33 true (.mov (.t 0)),
 Ig 35 33 true (.mov (.t 7)),
 Ig 36 33 true (.slS (.t 34) none (some (.t 35))),
 Ig 37 33 true (.mov (.t 1)),
 Ig 38 33 true (.bin .eql (.t 36) (.t 37)),
 It 39 (.pick (.t 33) (.t 38) (.c (.b false)))] [9,20,30,31,32,33,34,35,36,37,38])
 (.cond (.t 39)
 (.seq (.region [It 4 (.mov (.c i0))] [0,1,5,6,7,8,39])
 .ret)
 (.region [] [39])))
 (.seq (.seq (.region [Mv 40 7,
 Mv 10 40] [40])
 (.block 2
 (.loop L85b)))
 (.seq (.region [It 4 (.mov (.c (.i .i64 (-1))))] [0,1,5,6,7,8,10,44])
 .ret)))))))),
    81,2,[.t 4],2⟩
theorem tr85:trFunc Tryd.prog (hz [] I85.body) 1 Tryd.f85=some (plain1 I85):=by kernel_rfl
theorem ck85:ckC 2 I85.body=true:=by kernel_rfl
def I86:IFunc:=extFn
def L87a:ICode :=
  (.seq (.seq (.region [Mv 9 5,
 Mv 10 0,
 It 11 (.lenk 1 (.t 10)),
 It 12 (.bin .lss (.t 9) (.t 11))] [9,10,11])
 (.cond (.t 12)
 (.region [] [12])
 (.exit 0)))
 (.seq (.block 1
 (.region [Mv 15 4,
 It 16 (.bin .mul (.t 15) (.c (.i .u32 (16777619)))),
 Mv 17 0,
 Mv 18 5,
 It 19 (.idxS (.t 17) (.t 18)),
 It 20 (.conv .u32 (.t 19)),
 It 21 (.bin .add (.t 16) (.t 20)),
 Mv 4 21] [15,16,17,18,19,20,21]))
 (.region [Mv 13 5,
 It 14 (.bin .add (.t 13) (.c (.i .i64 (1)))),
 Mv 5 14] [13,14])))
def L87b:ICode :=
  (.seq (.seq (.region [Mv 24 8,
 It 25 (.bin .gtr (.t 24) (.c i0))] [24])
 (.cond (.t 25)
 (.region [] [25])
 (.exit 2)))
 (.seq (.block 3
 (.seq (.seq (.region [Mv 28 8,
 It 29 (.bin .and (.t 28) (.c (.i .i64 (1)))),
 It 30 (.bin .neq (.t 29) (.c i0))] [28,29])
 (.cond (.t 30)
 (.region [Mv 31 6,
 Mv 32 7,
 It 33 (.bin .mul (.t 31) (.t 32)),
 Mv 6 33] [30,31,32,33])
 (.region [] [30])))
 (.region [Mv 34 7,
 Mv 35 7,
 It 36 (.bin .mul (.t 34) (.t 35)),
 Mv 7 36] [34,35,36])))
 (.region [Mv 26 8,
 It 27 (.bin .shr (.t 26) (.c (.i .u64 (1)))),
 Mv 8 27] [26,27])))
def I87:IFunc :=
  ⟨(.seq (.region [It 2 (.mov (.c (.i .u32 (0)))),
 It 3 (.mov (.c (.i .u32 (0))))] [2,3])
 (.seq (.region [It 4 (.mov (.c (.i .u32 (0))))] [])
 (.seq (.seq (.region [It 5 (.mov (.c i0))] [])
 (.block 0
 (.loop L87a)))
 (.seq (.region [It 6 (.mov (.c (.i .u32 (1)))),
 It 7 (.mov (.c (.i .u32 (16777619))))] [5,12])
 (.seq (.seq (.region [Mv 22 0,
 It 23 (.lenk 1 (.t 22)),
 Mv 8 23] [0,22,23])
 (.block 2
 (.loop L87b)))
 (.seq (.region [Mv 37 4,
 Mv 38 6,
 Mv 2 37,
 Mv 3 38] [4,6,7,8,25,37,38])
 .ret)))))),
    39,1,[.t 2,.t 3],2⟩
theorem tr87:trFunc Tryd.prog (hz [] I87.body) 1 Tryd.f87=some (plain1 I87):=by kernel_rfl
theorem ck87:ckC 2 I87.body=true:=by kernel_rfl
def tab:List (Nat×IFunc):=[(3,I3),(4,I4),(5,I5),(6,I6),(7,I7),(8,I8),(9,I9),(10,I10),(11,I11),(12,I12),(13,I13),(14,I14),(15,I15),(16,I16),(17,I17),(18,I18),(19,I19),(20,I20),(21,I21),(22,I22),(23,I23),(24,I24),(25,I25),(26,I26),(27,I27),(28,I28),(29,I29),(30,I30),(31,I31),(32,I32),(33,I33),(34,I34),(35,I35),(36,I36),(37,I37),(38,I38),(39,I39),(40,I40),(41,I41),(42,I42),(43,I43),(44,I44),(45,I45),(46,I46),(47,I47),(48,I48),(49,I49),(50,I50),(51,I51),(52,I52),(53,I53),(54,I54),(55,I55),(56,I56),(57,I57),(58,I58),(59,I59),(60,I60),(61,I61),(62,I62),(63,I63),(64,I64),(65,I65),(66,I66),(67,I67),(68,I68),(69,I69),(70,I70),(71,I71),(72,I72),(73,I73),(74,I74),(75,I75),(76,I76),(77,I77),(78,I78),(79,I79),(80,I80),(81,I81),(82,I82),(84,I84),(85,I85),(86,I86),(87,I87)]
theorem tab_all:TabAll Tryd.prog (plainT tab) :=
 .cons Tryd.func3 tr3<|.cons Tryd.func4 tr4<|.cons Tryd.func5 tr5<|.cons Tryd.func6 tr6<|.cons Tryd.func7 tr7<|.cons Tryd.func8 tr8<|.cons Tryd.func9 tr9<|.cons Tryd.func10 tr10<|.cons Tryd.func11 tr11<|.cons Tryd.func12 tr12<|.cons Tryd.func13 tr13<|.cons Tryd.func14 tr14<|.cons Tryd.func15 tr15<|.cons Tryd.func16 tr16<|.cons Tryd.func17 tr17<|.cons Tryd.func18 tr18<|.cons Tryd.func19 tr19<|.cons Tryd.func20 tr20<|.cons Tryd.func21 tr21<|.cons Tryd.func22 tr22<|.cons Tryd.func23 tr23<|.cons Tryd.func24 tr24<|.cons Tryd.func25 tr25<|.cons Tryd.func26 tr26<|.cons Tryd.func27 tr27<|.cons Tryd.func28 tr28<|.cons Tryd.func29 tr29<|.cons Tryd.func30 tr30<|.cons Tryd.func31 tr31<|.cons Tryd.func32 tr32<|.cons Tryd.func33 tr33<|.cons Tryd.func34 tr34<|.cons Tryd.func35 tr35<|.cons Tryd.func36 tr36<|.cons Tryd.func37 tr37<|.cons Tryd.func38 tr38<|.cons Tryd.func39 tr39<|.cons Tryd.func40 tr40<|.cons Tryd.func41 tr41<|.cons Tryd.func42 tr42<|.cons Tryd.func43 tr43<|.cons Tryd.func44 tr44<|.cons Tryd.func45 tr45<|.cons Tryd.func46 tr46<|.cons Tryd.func47 tr47<|.cons Tryd.func48 tr48<|.cons Tryd.func49 tr49<|.cons Tryd.func50 tr50<|.cons Tryd.func51 tr51<|.cons Tryd.func52 tr52<|.cons Tryd.func53 tr53<|.cons Tryd.func54 tr54<|.cons Tryd.func55 tr55<|.cons Tryd.func56 tr56<|.cons Tryd.func57 tr57<|.cons Tryd.func58 tr58<|.cons Tryd.func59 tr59<|.cons Tryd.func60 tr60<|.cons Tryd.func61 tr61<|.cons Tryd.func62 tr62<|.cons Tryd.func63 tr63<|.cons Tryd.func64 tr64<|.cons Tryd.func65 tr65<|.cons Tryd.func66 tr66<|.cons Tryd.func67 tr67<|.cons Tryd.func68 tr68<|.cons Tryd.func69 tr69<|.cons Tryd.func70 tr70<|.cons Tryd.func71 tr71<|.cons Tryd.func72 tr72<|.cons Tryd.func73 tr73<|.cons Tryd.func74 tr74<|.cons Tryd.func75 tr75<|.cons Tryd.func76 tr76<|.cons Tryd.func77 tr77<|.cons Tryd.func78 tr78<|.cons Tryd.func79 tr79<|.cons Tryd.func80 tr80<|.cons Tryd.func81 tr81<|.cons Tryd.func82 tr82<|.cons Tryd.func84 tr84<|.cons Tryd.func85 tr85<|.ext Tryd.func86 (by kernel_rfl) (by kernel_rfl) (by kernel_rfl) (by kernel_rfl)<|.cons Tryd.func87 tr87<|.nil
theorem ck_all:CkAll 2 tab :=
 .cons ck3 rfl<|.cons ck4 rfl<|.cons ck5 rfl<|.cons ck6 rfl<|.cons ck7 rfl<|.cons ck8 rfl<|.cons ck9 rfl<|.cons ck10 rfl<|.cons ck11 rfl<|.cons ck12 rfl<|.cons ck13 rfl<|.cons ck14 rfl<|.cons ck15 rfl<|.cons ck16 rfl<|.cons ck17 rfl<|.cons ck18 rfl<|.cons ck19 rfl<|.cons ck20 rfl<|.cons ck21 rfl<|.cons ck22 rfl<|.cons ck23 rfl<|.cons ck24 rfl<|.cons ck25 rfl<|.cons ck26 rfl<|.cons ck27 rfl<|.cons ck28 rfl<|.cons ck29 rfl<|.clone ck30 rfl<|.cons ck31 rfl<|.cons ck32 rfl<|.cons ck33 rfl<|.cons ck34 rfl<|.clone ck35 rfl<|.cons ck36 rfl<|.cons ck37 rfl<|.cons ck38 rfl<|.cons ck39 rfl<|.cons ck40 rfl<|.cons ck41 rfl<|.cons ck42 rfl<|.cons ck43 rfl<|.cons ck44 rfl<|.cons ck45 rfl<|.cons ck46 rfl<|.cons ck47 rfl<|.cons ck48 rfl<|.cons ck49 rfl<|.cons ck50 rfl<|.cons ck51 rfl<|.cons ck52 rfl<|.cons ck53 rfl<|.cons ck54 rfl<|.cons ck55 rfl<|.clone ck56 rfl<|.cons ck57 rfl<|.cons ck58 rfl<|.cons ck59 rfl<|.cons ck60 rfl<|.cons ck61 rfl<|.cons ck62 rfl<|.cons ck63 rfl<|.cons ck64 rfl<|.cons ck65 rfl<|.cons ck66 rfl<|.cons ck67 rfl<|.cons ck68 rfl<|.cons ck69 rfl<|.cons ck70 rfl<|.cons ck71 rfl<|.cons ck72 rfl<|.cons ck73 rfl<|.cons ck74 rfl<|.cons ck75 rfl<|.cons ck76 rfl<|.cons ck77 rfl<|.cons ck78 rfl<|.cons ck79 rfl<|.cons ck80 rfl<|.cons ck81 rfl<|.cons ck82 rfl<|.cons ck84 rfl<|.cons ck85 rfl<|.ext<|.cons ck87 rfl<|.nil
def IP:FuncId→Option IFunc:=tabIP tab
theorem IP_ok:TabOK Tryd.prog (plainP IP):=tab_all.plain
theorem IP_ck:TabCk 2 IP:=ck_all.ck
theorem ip3:IP 3=some I3:=rfl
theorem ip4:IP 4=some I4:=rfl
theorem ip5:IP 5=some I5:=rfl
theorem ip6:IP 6=some I6:=rfl
theorem ip7:IP 7=some I7:=rfl
theorem ip8:IP 8=some I8:=rfl
theorem ip9:IP 9=some I9:=rfl
theorem ip10:IP 10=some I10:=rfl
theorem ip11:IP 11=some I11:=rfl
theorem ip12:IP 12=some I12:=rfl
theorem ip13:IP 13=some I13:=rfl
theorem ip14:IP 14=some I14:=rfl
theorem ip15:IP 15=some I15:=rfl
theorem ip16:IP 16=some I16:=rfl
theorem ip17:IP 17=some I17:=rfl
theorem ip18:IP 18=some I18:=rfl
theorem ip19:IP 19=some I19:=rfl
theorem ip20:IP 20=some I20:=rfl
theorem ip21:IP 21=some I21:=rfl
theorem ip22:IP 22=some I22:=rfl
theorem ip23:IP 23=some I23:=rfl
theorem ip24:IP 24=some I24:=rfl
theorem ip25:IP 25=some I25:=rfl
theorem ip26:IP 26=some I26:=rfl
theorem ip27:IP 27=some I27:=rfl
theorem ip28:IP 28=some I28:=rfl
theorem ip29:IP 29=some I29:=rfl
theorem ip30:IP 30=some I30:=rfl
theorem ip31:IP 31=some I31:=rfl
theorem ip32:IP 32=some I32:=rfl
theorem ip33:IP 33=some I33:=rfl
theorem ip34:IP 34=some I34:=rfl
theorem ip35:IP 35=some I35:=rfl
theorem ip36:IP 36=some I36:=rfl
theorem ip37:IP 37=some I37:=rfl
theorem ip38:IP 38=some I38:=rfl
theorem ip39:IP 39=some I39:=rfl
theorem ip40:IP 40=some I40:=rfl
theorem ip41:IP 41=some I41:=rfl
theorem ip42:IP 42=some I42:=rfl
theorem ip43:IP 43=some I43:=rfl
theorem ip44:IP 44=some I44:=rfl
theorem ip45:IP 45=some I45:=rfl
theorem ip46:IP 46=some I46:=rfl
theorem ip47:IP 47=some I47:=rfl
theorem ip48:IP 48=some I48:=rfl
theorem ip49:IP 49=some I49:=rfl
theorem ip50:IP 50=some I50:=rfl
theorem ip51:IP 51=some I51:=rfl
theorem ip52:IP 52=some I52:=rfl
theorem ip53:IP 53=some I53:=rfl
theorem ip54:IP 54=some I54:=rfl
theorem ip55:IP 55=some I55:=rfl
theorem ip56:IP 56=some I56:=rfl
theorem ip57:IP 57=some I57:=rfl
theorem ip58:IP 58=some I58:=rfl
theorem ip59:IP 59=some I59:=rfl
theorem ip60:IP 60=some I60:=rfl
theorem ip61:IP 61=some I61:=rfl
theorem ip62:IP 62=some I62:=rfl
theorem ip63:IP 63=some I63:=rfl
theorem ip64:IP 64=some I64:=rfl
theorem ip65:IP 65=some I65:=rfl
theorem ip66:IP 66=some I66:=rfl
theorem ip67:IP 67=some I67:=rfl
theorem ip68:IP 68=some I68:=rfl
theorem ip69:IP 69=some I69:=rfl
theorem ip70:IP 70=some I70:=rfl
theorem ip71:IP 71=some I71:=rfl
theorem ip72:IP 72=some I72:=rfl
theorem ip73:IP 73=some I73:=rfl
theorem ip74:IP 74=some I74:=rfl
theorem ip75:IP 75=some I75:=rfl
theorem ip76:IP 76=some I76:=rfl
theorem ip77:IP 77=some I77:=rfl
theorem ip78:IP 78=some I78:=rfl
theorem ip79:IP 79=some I79:=rfl
theorem ip80:IP 80=some I80:=rfl
theorem ip81:IP 81=some I81:=rfl
theorem ip82:IP 82=some I82:=rfl
theorem ip84:IP 84=some I84:=rfl
theorem ip85:IP 85=some I85:=rfl
theorem ip86:IP 86=some I86:=rfl
theorem ip87:IP 87=some I87:=rfl
section
variable {G H:AHeap} {lo:Nat} {l:List AVal} {x:AVal}
@[simp] theorem pu4:theCalls IP G lo 4 l H=given H ((snaps H l).bind (pureR IP G 4)):=calls_pureR ip4 rfl
@[simp] theorem pb4:pureB IP 4=true:=rfl
@[simp] theorem pu5:theCalls IP G lo 5 l H=given H ((snaps H l).bind (pureR IP G 5)):=calls_pureR ip5 rfl
@[simp] theorem pb5:pureB IP 5=true:=rfl
@[simp] theorem pu6:theCalls IP G lo 6 l H=given H ((snaps H l).bind (pureR IP G 6)):=calls_pureR ip6 rfl
@[simp] theorem pb6:pureB IP 6=true:=rfl
@[simp] theorem pu7:theCalls IP G lo 7 l H=given H ((snaps H l).bind (pureR IP G 7)):=calls_pureR ip7 rfl
@[simp] theorem pb7:pureB IP 7=true:=rfl
@[simp] theorem pu8:theCalls IP G lo 8 l H=given H ((snaps H l).bind (pureR IP G 8)):=calls_pureR ip8 rfl
@[simp] theorem pb8:pureB IP 8=true:=rfl
@[simp] theorem pb9:pureB IP 9=true:=rfl
@[simp] theorem pu10:theCalls IP G lo 10 l H=given H ((snaps H l).bind (pureR IP G 10)):=calls_pureR ip10 rfl
@[simp] theorem pb10:pureB IP 10=true:=rfl
@[simp] theorem pu11:theCalls IP G lo 11 l H=given H ((snaps H l).bind (pureR IP G 11)):=calls_pureR ip11 rfl
@[simp] theorem pb11:pureB IP 11=true:=rfl
@[simp] theorem pu12:theCalls IP G lo 12 l H=given H ((snaps H l).bind (pureR IP G 12)):=calls_pureR ip12 rfl
@[simp] theorem pb12:pureB IP 12=true:=rfl
@[simp] theorem pu13:theCalls IP G lo 13 l H=given H ((snaps H l).bind (pureR IP G 13)):=calls_pureR ip13 rfl
@[simp] theorem pb13:pureB IP 13=true:=rfl
@[simp] theorem pu14:theCalls IP G lo 14 l H=given H ((snaps H l).bind (pureR IP G 14)):=calls_pureR ip14 rfl
@[simp] theorem pb14:pureB IP 14=true:=rfl
@[simp] theorem pu18:theCalls IP G lo 18 l H=given H ((snaps H l).bind (pureR IP G 18)):=calls_pureR ip18 rfl
@[simp] theorem pb18:pureB IP 18=true:=rfl
@[simp] theorem pu20:theCalls IP G lo 20 l H=given H ((snaps H l).bind (pureR IP G 20)):=calls_pureR ip20 rfl
@[simp] theorem pb20:pureB IP 20=true:=rfl
@[simp] theorem pu22:theCalls IP G lo 22 l H=given H ((snaps H l).bind (pureR IP G 22)):=calls_pureR ip22 rfl
@[simp] theorem pb22:pureB IP 22=true:=rfl
@[simp] theorem pu23:theCalls IP G lo 23 l H=given H ((snaps H l).bind (pureR IP G 23)):=calls_pureR ip23 rfl
@[simp] theorem pb23:pureB IP 23=true:=rfl
@[simp] theorem pu24:theCalls IP G lo 24 l H=given H ((snaps H l).bind (pureR IP G 24)):=calls_pureR ip24 rfl
@[simp] theorem pb24:pureB IP 24=true:=rfl
@[simp] theorem pu25:theCalls IP G lo 25 l H=given H ((snaps H l).bind (pureR IP G 25)):=calls_pureR ip25 rfl
@[simp] theorem pb25:pureB IP 25=true:=rfl
@[simp] theorem pu26:theCalls IP G lo 26 l H=given H ((snaps H l).bind (pureR IP G 26)):=calls_pureR ip26 rfl
@[simp] theorem pb26:pureB IP 26=true:=rfl
@[simp] theorem pb27:pureB IP 27=true:=rfl
@[simp] theorem pu28:theCalls IP G lo 28 l H=given H ((snaps H l).bind (pureR IP G 28)):=calls_pureR ip28 rfl
@[simp] theorem pb28:pureB IP 28=true:=rfl
@[simp] theorem pu29:theCalls IP G lo 29 l H=given H ((snaps H l).bind (pureR IP G 29)):=calls_pureR ip29 rfl
@[simp] theorem pb29:pureB IP 29=true:=rfl
@[simp] theorem pu30:theCalls IP G lo 30 [x] H=cloneV H 1 8 x:=calls_clone ip30 rfl rfl
@[simp] theorem pb30:pureB IP 30=true:=rfl
@[simp] theorem pu31:theCalls IP G lo 31 l H=given H ((snaps H l).bind (pureR IP G 31)):=calls_pureR ip31 rfl
@[simp] theorem pb31:pureB IP 31=true:=rfl
@[simp] theorem pu32:theCalls IP G lo 32 l H=given H ((snaps H l).bind (pureR IP G 32)):=calls_pureR ip32 rfl
@[simp] theorem pb32:pureB IP 32=true:=rfl
@[simp] theorem pu33:theCalls IP G lo 33 l H=given H ((snaps H l).bind (pureR IP G 33)):=calls_pureR ip33 rfl
@[simp] theorem pb33:pureB IP 33=true:=rfl
@[simp] theorem pu34:theCalls IP G lo 34 l H=given H ((snaps H l).bind (pureR IP G 34)):=calls_pureR ip34 rfl
@[simp] theorem pb34:pureB IP 34=true:=rfl
@[simp] theorem pu35:theCalls IP G lo 35 [x] H=cloneV H 1 16 x:=calls_clone ip35 rfl rfl
@[simp] theorem pb35:pureB IP 35=true:=rfl
@[simp] theorem pu36:theCalls IP G lo 36 l H=given H ((snaps H l).bind (pureR IP G 36)):=calls_pureR ip36 rfl
@[simp] theorem pb36:pureB IP 36=true:=rfl
@[simp] theorem pu38:theCalls IP G lo 38 l H=given H ((snaps H l).bind (pureR IP G 38)):=calls_pureR ip38 rfl
@[simp] theorem pb38:pureB IP 38=true:=rfl
@[simp] theorem pu39:theCalls IP G lo 39 l H=given H ((snaps H l).bind (pureR IP G 39)):=calls_pureR ip39 rfl
@[simp] theorem pb39:pureB IP 39=true:=rfl
@[simp] theorem pu40:theCalls IP G lo 40 l H=given H ((snaps H l).bind (pureR IP G 40)):=calls_pureR ip40 rfl
@[simp] theorem pb40:pureB IP 40=true:=rfl
@[simp] theorem pu41:theCalls IP G lo 41 l H=given H ((snaps H l).bind (pureR IP G 41)):=calls_pureR ip41 rfl
@[simp] theorem pb41:pureB IP 41=true:=rfl
@[simp] theorem pu42:theCalls IP G lo 42 l H=given H ((snaps H l).bind (pureR IP G 42)):=calls_pureR ip42 rfl
@[simp] theorem pb42:pureB IP 42=true:=rfl
@[simp] theorem pu43:theCalls IP G lo 43 l H=given H ((snaps H l).bind (pureR IP G 43)):=calls_pureR ip43 rfl
@[simp] theorem pb43:pureB IP 43=true:=rfl
@[simp] theorem pu44:theCalls IP G lo 44 l H=given H ((snaps H l).bind (pureR IP G 44)):=calls_pureR ip44 rfl
@[simp] theorem pb44:pureB IP 44=true:=rfl
@[simp] theorem pu45:theCalls IP G lo 45 l H=given H ((snaps H l).bind (pureR IP G 45)):=calls_pureR ip45 rfl
@[simp] theorem pb45:pureB IP 45=true:=rfl
@[simp] theorem pu46:theCalls IP G lo 46 l H=given H ((snaps H l).bind (pureR IP G 46)):=calls_pureR ip46 rfl
@[simp] theorem pb46:pureB IP 46=true:=rfl
@[simp] theorem pu47:theCalls IP G lo 47 l H=given H ((snaps H l).bind (pureR IP G 47)):=calls_pureR ip47 rfl
@[simp] theorem pb47:pureB IP 47=true:=rfl
@[simp] theorem pu48:theCalls IP G lo 48 l H=given H ((snaps H l).bind (pureR IP G 48)):=calls_pureR ip48 rfl
@[simp] theorem pb48:pureB IP 48=true:=rfl
@[simp] theorem pu49:theCalls IP G lo 49 l H=given H ((snaps H l).bind (pureR IP G 49)):=calls_pureR ip49 rfl
@[simp] theorem pb49:pureB IP 49=true:=rfl
@[simp] theorem pu50:theCalls IP G lo 50 l H=given H ((snaps H l).bind (pureR IP G 50)):=calls_pureR ip50 rfl
@[simp] theorem pb50:pureB IP 50=true:=rfl
@[simp] theorem pu51:theCalls IP G lo 51 l H=given H ((snaps H l).bind (pureR IP G 51)):=calls_pureR ip51 rfl
@[simp] theorem pb51:pureB IP 51=true:=rfl
@[simp] theorem pu52:theCalls IP G lo 52 l H=given H ((snaps H l).bind (pureR IP G 52)):=calls_pureR ip52 rfl
@[simp] theorem pb52:pureB IP 52=true:=rfl
@[simp] theorem pu53:theCalls IP G lo 53 l H=given H ((snaps H l).bind (pureR IP G 53)):=calls_pureR ip53 rfl
@[simp] theorem pb53:pureB IP 53=true:=rfl
@[simp] theorem pu54:theCalls IP G lo 54 l H=given H ((snaps H l).bind (pureR IP G 54)):=calls_pureR ip54 rfl
@[simp] theorem pb54:pureB IP 54=true:=rfl
@[simp] theorem pu55:theCalls IP G lo 55 l H=given H ((snaps H l).bind (pureR IP G 55)):=calls_pureR ip55 rfl
@[simp] theorem pb55:pureB IP 55=true:=rfl
@[simp] theorem pu56:theCalls IP G lo 56 [x] H=cloneV H 5 80 x:=calls_clone ip56 rfl rfl
@[simp] theorem pb56:pureB IP 56=true:=rfl
@[simp] theorem pu57:theCalls IP G lo 57 l H=given H ((snaps H l).bind (pureR IP G 57)):=calls_pureR ip57 rfl
@[simp] theorem pb57:pureB IP 57=true:=rfl
@[simp] theorem pu58:theCalls IP G lo 58 l H=given H ((snaps H l).bind (pureR IP G 58)):=calls_pureR ip58 rfl
@[simp] theorem pb58:pureB IP 58=true:=rfl
@[simp] theorem pu59:theCalls IP G lo 59 l H=given H ((snaps H l).bind (pureR IP G 59)):=calls_pureR ip59 rfl
@[simp] theorem pb59:pureB IP 59=true:=rfl
@[simp] theorem pu60:theCalls IP G lo 60 l H=given H ((snaps H l).bind (pureR IP G 60)):=calls_pureR ip60 rfl
@[simp] theorem pb60:pureB IP 60=true:=rfl
@[simp] theorem pu61:theCalls IP G lo 61 l H=given H ((snaps H l).bind (pureR IP G 61)):=calls_pureR ip61 rfl
@[simp] theorem pb61:pureB IP 61=true:=rfl
@[simp] theorem pu62:theCalls IP G lo 62 l H=given H ((snaps H l).bind (pureR IP G 62)):=calls_pureR ip62 rfl
@[simp] theorem pb62:pureB IP 62=true:=rfl
@[simp] theorem pu63:theCalls IP G lo 63 l H=given H ((snaps H l).bind (pureR IP G 63)):=calls_pureR ip63 rfl
@[simp] theorem pb63:pureB IP 63=true:=rfl
@[simp] theorem pu64:theCalls IP G lo 64 l H=given H ((snaps H l).bind (pureR IP G 64)):=calls_pureR ip64 rfl
@[simp] theorem pb64:pureB IP 64=true:=rfl
@[simp] theorem pu65:theCalls IP G lo 65 l H=given H ((snaps H l).bind (pureR IP G 65)):=calls_pureR ip65 rfl
@[simp] theorem pb65:pureB IP 65=true:=rfl
@[simp] theorem pu66:theCalls IP G lo 66 l H=given H ((snaps H l).bind (pureR IP G 66)):=calls_pureR ip66 rfl
@[simp] theorem pb66:pureB IP 66=true:=rfl
@[simp] theorem pu67:theCalls IP G lo 67 l H=given H ((snaps H l).bind (pureR IP G 67)):=calls_pureR ip67 rfl
@[simp] theorem pb67:pureB IP 67=true:=rfl
@[simp] theorem pu68:theCalls IP G lo 68 l H=given H ((snaps H l).bind (pureR IP G 68)):=calls_pureR ip68 rfl
@[simp] theorem pb68:pureB IP 68=true:=rfl
@[simp] theorem pu69:theCalls IP G lo 69 l H=given H ((snaps H l).bind (pureR IP G 69)):=calls_pureR ip69 rfl
@[simp] theorem pb69:pureB IP 69=true:=rfl
@[simp] theorem pu70:theCalls IP G lo 70 l H=given H ((snaps H l).bind (pureR IP G 70)):=calls_pureR ip70 rfl
@[simp] theorem pb70:pureB IP 70=true:=rfl
@[simp] theorem pu71:theCalls IP G lo 71 l H=given H ((snaps H l).bind (pureR IP G 71)):=calls_pureR ip71 rfl
@[simp] theorem pb71:pureB IP 71=true:=rfl
@[simp] theorem pu72:theCalls IP G lo 72 l H=given H ((snaps H l).bind (pureR IP G 72)):=calls_pureR ip72 rfl
@[simp] theorem pb72:pureB IP 72=true:=rfl
@[simp] theorem pu73:theCalls IP G lo 73 l H=given H ((snaps H l).bind (pureR IP G 73)):=calls_pureR ip73 rfl
@[simp] theorem pb73:pureB IP 73=true:=rfl
@[simp] theorem pu74:theCalls IP G lo 74 l H=given H ((snaps H l).bind (pureR IP G 74)):=calls_pureR ip74 rfl
@[simp] theorem pb74:pureB IP 74=true:=rfl
@[simp] theorem pu75:theCalls IP G lo 75 l H=given H ((snaps H l).bind (pureR IP G 75)):=calls_pureR ip75 rfl
@[simp] theorem pb75:pureB IP 75=true:=rfl
@[simp] theorem pu76:theCalls IP G lo 76 l H=given H ((snaps H l).bind (pureR IP G 76)):=calls_pureR ip76 rfl
@[simp] theorem pb76:pureB IP 76=true:=rfl
@[simp] theorem pu77:theCalls IP G lo 77 l H=given H ((snaps H l).bind (pureR IP G 77)):=calls_pureR ip77 rfl
@[simp] theorem pb77:pureB IP 77=true:=rfl
@[simp] theorem pu78:theCalls IP G lo 78 l H=given H ((snaps H l).bind (pureR IP G 78)):=calls_pureR ip78 rfl
@[simp] theorem pb78:pureB IP 78=true:=rfl
@[simp] theorem pu79:theCalls IP G lo 79 l H=given H ((snaps H l).bind (pureR IP G 79)):=calls_pureR ip79 rfl
@[simp] theorem pb79:pureB IP 79=true:=rfl
@[simp] theorem pu80:theCalls IP G lo 80 l H=given H ((snaps H l).bind (pureR IP G 80)):=calls_pureR ip80 rfl
@[simp] theorem pb80:pureB IP 80=true:=rfl
@[simp] theorem pu81:theCalls IP G lo 81 l H=given H ((snaps H l).bind (pureR IP G 81)):=calls_pureR ip81 rfl
@[simp] theorem pb81:pureB IP 81=true:=rfl
@[simp] theorem pu82:theCalls IP G lo 82 l H=given H ((snaps H l).bind (pureR IP G 82)):=calls_pureR ip82 rfl
@[simp] theorem pb82:pureB IP 82=true:=rfl
@[simp] theorem pu84:theCalls IP G lo 84 l H=given H ((snaps H l).bind (pureR IP G 84)):=calls_pureR ip84 rfl
@[simp] theorem pb84:pureB IP 84=true:=rfl
@[simp] theorem pu85:theCalls IP G lo 85 l H=given H ((snaps H l).bind (pureR IP G 85)):=calls_pureR ip85 rfl
@[simp] theorem pb85:pureB IP 85=true:=rfl
@[simp] theorem pu86:theCalls IP G lo 86 l H=given H (idxB l):=calls_ext ip86 rfl rfl
@[simp] theorem pb86:pureB IP 86=true:=rfl
@[simp] theorem pu87:theCalls IP G lo 87 l H=given H ((snaps H l).bind (pureR IP G 87)):=calls_pureR ip87 rfl
@[simp] theorem pb87:pureB IP 87=true:=rfl
end
end Go.Proofs.YtbfajkcmehaliabDoor
