import Derived.Test.YtllfklgliaoojaaRows
import Derived.Test.YtllfklgliaoojaaM07
import Derived.Test.YtllfklgliaoojaaM04
set_option linter.unusedVariables false
set_option linter.unusedSimpArgs false
set_option linter.unusedSectionVars false
/- The functions that the statement reaches, as the interpreter has them, with modes. Conditions: none. -/
namespace Go.Proofs.Ytllfklgliaoojaa
open Go Go.RI
set_option maxRecDepth 100000
@[reducible] def Ss(n a b:Nat):RI.Item:=⟨none,.store n (.t a) (.t b),none,[]⟩
@[reducible] def Lm(d n s:Nat):RI.Item:=⟨some d,.load (some n) (.t s),none,[]⟩
@[reducible] def Ia(d n a b:Nat):RI.Item:=⟨some d,.iaddr n (.t a) (.t b),none,[]⟩
@[reducible] def Le(d s:Nat):RI.Item:=⟨some d,.lenk 0 (.t s),none,[]⟩
@[simp] theorem Ss_eq{n a b:Nat}:Ss n a b=⟨none,.store n (.t a) (.t b),none,[]⟩:=rfl
@[simp] theorem Lm_eq{d n s:Nat}:Lm d n s=⟨some d,.load (some n) (.t s),none,[]⟩:=rfl
@[simp] theorem Ia_eq{d n a b:Nat}:Ia d n a b=⟨some d,.iaddr n (.t a) (.t b),none,[]⟩:=rfl
@[simp] theorem Le_eq{d s:Nat}:Le d s=⟨some d,.lenk 0 (.t s),none,[]⟩:=rfl
def L3a:ICode :=
  (.seq (.seq (.region [Mv 125 12,
 Mv 126 5,
 Mv 127 11,
 Ia 128 4 126 127,
 Of 129 128 0,
 Ld 130 129,
 Mv 131 5,
 Mv 132 11,
 Ia 133 4 131 132,
 Of 134 133 1,
 Ld 135 134,
 It 136 (.bin .add (.t 130) (.t 135)),
 It 137 (.bin .lss (.t 125) (.t 136))] [125,126,127,128,129,130,131,132,133,134,135,136])
 (.cond (.t 137)
 (.region [] [137])
 (.exit 2)))
 (.seq (.block 3
 (.region [Mv 140 10,
 Mv 141 12,
 Ia 142 1 140 141,
 Ld 143 142,
 It 144 (.bin .add (.t 143) (.c (.i .i64 1))),
 Ia 145 1 140 141,
 Ss 1 145 144] [140,141,142,143,144,145]))
 (.region [Mv 138 12,
 It 139 (.bin .add (.t 138) (.c (.i .i64 1))),
 Mv 12 139] [138,139])))
def L3b:ICode :=
  (.seq (.seq (.region [Mv 56 11,
 Mv 57 5,
 Le 58 57,
 It 59 (.bin .lss (.t 56) (.t 58))] [56,57,58])
 (.cond (.t 59)
 (.region [] [59])
 (.exit 0)))
 (.seq (.block 1
 (.seq (.seq (.region [Mv 62 5,
 Mv 63 11,
 Ia 64 4 62 63,
 Of 65 64 1,
 Ld 66 65,
 It 67 (.bin .lss (.t 66) (.c (.i .i64 1))),
 Mv 68 67,
 Ig 69 68 false (.mov (.t 5)),
 Ig 70 68 false (.mov (.t 11)),
 Ig 71 68 false (.iaddr 4 (.t 69) (.t 70)),
 Ig 72 68 false (.off (.t 71) 0),
 Ig 73 68 false (.load none (.t 72)),
 Ig 74 68 false (.bin .lss (.t 73) (.c i0)),
 It 75 (.pick (.t 68) (.c (.b true)) (.t 74)),
 Mv 76 75,
 Ig 77 76 false (.mov (.t 5)),
 Ig 78 76 false (.mov (.t 11)),
 Ig 79 76 false (.iaddr 4 (.t 77) (.t 78)),
 Ig 80 76 false (.off (.t 79) 0),
 Ig 81 76 false (.load none (.t 80)),
 Ig 82 76 false (.mov (.t 9)),
 Ig 83 76 false (.lenk 0 (.t 82)),
 Ig 84 76 false (.bin .gtr (.t 81) (.t 83)),
 It 85 (.pick (.t 76) (.c (.b true)) (.t 84)),
 Mv 86 85,
 Ig 87 86 false (.mov (.t 5)),
 Ig 88 86 false (.mov (.t 11)),
 Ig 89 86 false (.iaddr 4 (.t 87) (.t 88)),
 Ig 90 86 false (.off (.t 89) 1),
 Ig 91 86 false (.load none (.t 90)),
 Ig 92 86 false (.mov (.t 9)),
 Ig 93 86 false (.lenk 0 (.t 92)),
 Ig 94 86 false (.mov (.t 5)),
 Ig 95 86 false (.mov (.t 11)),
 Ig 96 86 false (.iaddr 4 (.t 94) (.t 95)),
 Ig 97 86 false (.off (.t 96) 0),
 Ig 98 86 false (.load none (.t 97)),
 Ig 99 86 false (.bin .sub (.t 93) (.t 98)),
 Ig 100 86 false (.bin .gtr (.t 91) (.t 99)),
 It 101 (.pick (.t 86) (.c (.b true)) (.t 100)),
 Mv 102 101,
 Ig 103 102 false (.mov (.t 11)),
 Ig 104 102 false (.bin .gtr (.t 103) (.c i0)),
 Ig 105 102 false (.mov (.t 104)),
 Ig 106 105 true (.mov (.t 5)),
 Ig 107 105 true (.mov (.t 11)),
 Ig 108 105 true (.iaddr 4 (.t 106) (.t 107)),
 Ig 109 105 true (.off (.t 108) 0),
 Ig 110 105 true (.load none (.t 109)),
 Ig 111 105 true (.mov (.t 5)),
 Ig 112 105 true (.mov (.t 11)),
 Ig 113 105 true (.bin .sub (.t 112) (.c (.i .i64 1))),
 Ig 114 105 true (.iaddr 4 (.t 111) (.t 113)),
 Ig 115 105 true (.off (.t 114) 0),
 Ig 116 105 true (.load none (.t 115)),
 Ig 117 105 true (.bin .leq (.t 110) (.t 116)),
 Ig 118 102 false (.pick (.t 105) (.t 117) (.c (.b false))),
 It 119 (.pick (.t 102) (.c (.b true)) (.t 118))] [62,63,64,65,66,67,68,69,70,71,72,73,74,75,76,77,78,79,80,81,82,83,84,85,86,87,88,89,90,91,92,93,94,95,96,97,98,99,100,101,102,103,104,105,106,107,108,109,110,111,112,113,114,115,116,117,118])
 (.cond (.t 119)
 (.seq (.region [It 4 (.mov (.c (.b false)))] [5,7,9,10,11,119])
 .ret)
 (.region [] [119])))
 (.seq (.region [Mv 120 5,
 Mv 121 11,
 Ia 122 4 120 121,
 Of 123 122 0,
 Ld 124 123,
 Mv 12 124] [120,121,122,123,124])
 (.block 2
 (.loop L3a)))))
 (.region [Mv 60 11,
 It 61 (.bin .add (.t 60) (.c (.i .i64 1))),
 Mv 11 61] [12,137,60,61])))
def L3c:ICode :=
  (.seq (.seq (.region [Mv 146 13,
 Mv 147 9,
 Le 148 147,
 It 149 (.bin .lss (.t 146) (.t 148)),
 Mv 150 149,
 Ig 151 150 true (.mov (.t 13)),
 Ig 152 150 true (.mov (.t 7)),
 Ig 153 150 true (.lenk 0 (.t 152)),
 Ig 154 150 true (.bin .lss (.t 151) (.t 153)),
 It 155 (.pick (.t 150) (.t 154) (.c (.b false)))] [146,147,148,149,150,151,152,153,154])
 (.cond (.t 155)
 (.region [] [155])
 (.exit 4)))
 (.seq (.block 5
 (.seq (.region [It 14 (.mov (.c i0))] [])
 (.seq (.seq (.region [Mv 158 7,
 Mv 159 13,
 Ia 160 3 158 159,
 Of 161 160 0,
 Ld 162 161,
 Mv 163 162,
 Ig 164 163 true (.mov (.t 9)),
 Ig 165 163 true (.mov (.t 13)),
 Ig 166 163 true (.iaddr 3 (.t 164) (.t 165)),
 Ig 167 163 true (.off (.t 166) 0),
 Ig 168 163 true (.load none (.t 167)),
 Ig 169 163 true (.call 8 [(.t 168)]),
 Ig 170 163 true (.mov (.t 169)),
 Ig 171 170 false (.mov (.t 9)),
 Ig 172 170 false (.mov (.t 13)),
 Ig 173 170 false (.iaddr 3 (.t 171) (.t 172)),
 Ig 174 170 false (.off (.t 173) 0),
 Ig 175 170 false (.load none (.t 174)),
 Ig 176 170 false (.bin .eql (.t 175) (.c (.i .i64 24))),
 Ig 177 163 true (.pick (.t 170) (.c (.b true)) (.t 176)),
 Ig 178 163 true (.mov (.t 177)),
 Ig 179 178 false (.mov (.t 9)),
 Ig 180 178 false (.mov (.t 13)),
 Ig 181 178 false (.iaddr 3 (.t 179) (.t 180)),
 Ig 182 178 false (.off (.t 181) 0),
 Ig 183 178 false (.load none (.t 182)),
 Ig 184 178 false (.bin .eql (.t 183) (.c (.i .i64 25))),
 Ig 185 163 true (.pick (.t 178) (.c (.b true)) (.t 184)),
 It 186 (.pick (.t 163) (.t 185) (.c (.b false)))] [158,159,160,161,162,163,164,165,166,167,168,169,170,171,172,173,174,175,176,177,178,179,180,181,182,183,184,185])
 (.cond (.t 186)
 (.region [It 14 (.mov (.c (.i .i64 1)))] [186])
 (.region [] [186])))
 (.seq (.region [Mv 187 10,
 Mv 188 13,
 Ia 189 1 187 188,
 Ld 190 189,
 Mv 191 14,
 It 192 (.bin .neq (.t 190) (.t 191))] [14,187,188,189,190,191])
 (.cond (.t 192)
 (.seq (.region [It 4 (.mov (.c (.b false)))] [7,9,10,13,192])
 .ret)
 (.region [] [192]))))))
 (.region [Mv 156 13,
 It 157 (.bin .add (.t 156) (.c (.i .i64 1))),
 Mv 13 157] [156,157])))
def I3:IFunc :=
  ⟨(.seq (.region [It 2 (.box (.t 0)),
 It 4 (.mov (.c (.b false)))] [0,4])
 (.seq (.seq (.region [It 15 (.call 5 []),
 It 16 (.un .not (.t 15))] [15])
 (.cond (.t 16)
 (.seq (.region [It 4 (.mov (.c (.b false)))] [1,2,16])
 .ret)
 (.region [] [16])))
 (.seq (.region [Lm 18 2 2,
 Mv 19 1,
 It 20 (.call 6 [(.t 18),(.t 19)]),
 Mv 17 20,
 Ex 21 17 0,
 Ex 22 17 1,
 Mv 5 21,
 Mv 6 22] [18,19,20,17,21,22])
 (.seq (.seq (.region [Mv 23 6,
 It 24 (.bin .neq (.t 23) (.c i0))] [6,23])
 (.cond (.t 24)
 (.seq (.region [Mv 25 5,
 Le 26 25,
 It 27 (.bin .eql (.t 26) (.c i0)),
 Mv 4 27] [1,2,5,24,25,26,27])
 .ret)
 (.region [] [24])))
 (.seq (.region [Lm 29 2 2,
 Mv 30 1,
 It 31 (.call 7 [(.t 29),(.t 30)]),
 Mv 28 31,
 Ex 32 28 0,
 Ex 33 28 1,
 Mv 7 32,
 Mv 8 33] [29,30,31,28,32,33])
 (.seq (.seq (.region [Mv 34 8,
 It 35 (.bin .neq (.t 34) (.c i0)),
 Mv 36 35,
 Ig 37 36 false (.mov (.t 1)),
 Ig 38 36 false (.bin .lss (.t 37) (.c i0)),
 It 39 (.pick (.t 36) (.c (.b true)) (.t 38)),
 Mv 40 39,
 Ig 41 40 false (.mov (.t 1)),
 Ig 42 40 false (.off (.t 2) 0),
 Ig 43 40 false (.load none (.t 42)),
 Ig 44 40 false (.lenk 0 (.t 43)),
 Ig 45 40 false (.bin .geq (.t 41) (.t 44)),
 It 46 (.pick (.t 40) (.c (.b true)) (.t 45))] [8,34,35,36,37,38,39,40,41,42,43,44,45])
 (.cond (.t 46)
 (.seq (.region [It 4 (.mov (.c (.b false)))] [1,2,5,7,46])
 .ret)
 (.region [] [46])))
 (.seq (.region [Of 47 2 0,
 Ld 48 47,
 Mv 49 1,
 Ia 50 4 48 49,
 Of 51 50 3,
 Ld 52 51,
 Mv 9 52] [1,2,47,48,49,50,51,52])
 (.seq (.region [Mv 53 9,
 Le 54 53,
 It 55 (.mksl 1 8 [i0] (.t 54) (.t 54)),
 Mv 10 55] [53,54,55])
 (.seq (.seq (.region [It 11 (.mov (.c i0))] [])
 (.block 0
 (.loop L3b)))
 (.seq (.seq (.region [It 13 (.mov (.c i0))] [5,11,59])
 (.block 4
 (.loop L3c)))
 (.seq (.region [Mv 193 7,
 Le 194 193,
 Mv 195 9,
 Le 196 195,
 It 197 (.bin .eql (.t 194) (.t 196)),
 Mv 4 197] [7,9,10,13,155,193,194,195,196,197])
 .ret))))))))))),
    198,2,[.t 4],0⟩
theorem tr3:trFunc Try.prog (hz [(17,[0,1,2,3,4,5,6,7,8,9,10,11,12,13,14,15,16,17,18,19,20,21,22,23,24,25,26,27,28,29,30,31,32,33,34,35,36,37,38,39,40,41,42,43,44,45,46,47,48,49,50,51,52,53,54,55,56,57]),(21,[0,1,2,3,4,5,6,7,8,9,10,11,12])] I3.body) 0 Try.f3=some (plain1 I3):=by kernel_rfl
theorem ck3:ckC 1 I3.body=true:=by kernel_rfl
def L4a:ICode :=
  (.seq (.seq (.region [Mv 121 13,
 Mv 122 5,
 Le 123 122,
 It 124 (.bin .lss (.t 121) (.t 123))] [121,122,123])
 (.cond (.t 124)
 (.region [] [124])
 (.exit 4)))
 (.seq (.block 5
 (.seq (.region [Mv 127 11,
 Mv 128 12,
 Ia 129 1 127 128,
 Ld 130 129,
 Mv 131 5,
 Mv 132 13,
 Ia 133 4 131 132,
 Of 134 133 0,
 Ld 135 134,
 It 136 (.bin .gtr (.t 130) (.t 135)),
 Mv 137 136,
 Ig 138 137 true (.mov (.t 11)),
 Ig 139 137 true (.mov (.t 12)),
 Ig 140 137 true (.iaddr 1 (.t 138) (.t 139)),
 Ig 141 137 true (.load none (.t 140)),
 Ig 142 137 true (.mov (.t 5)),
 Ig 143 137 true (.mov (.t 13)),
 Ig 144 137 true (.iaddr 4 (.t 142) (.t 143)),
 Ig 145 137 true (.off (.t 144) 0),
 Ig 146 137 true (.load none (.t 145)),
 Ig 147 137 true (.mov (.t 5)),
 Ig 148 137 true (.mov (.t 13)),
 Ig 149 137 true (.iaddr 4 (.t 147) (.t 148)),
 Ig 150 137 true (.off (.t 149) 1),
 Ig 151 137 true (.load none (.t 150)),
 Ig 152 137 true (.bin .add (.t 146) (.t 151)),
 Ig 153 137 true (.bin .lss (.t 141) (.t 152)),
 It 154 (.pick (.t 137) (.t 153) (.c (.b false)))] [127,128,129,130,131,132,133,134,135,136,137,138,139,140,141,142,143,144,145,146,147,148,149,150,151,152,153])
 (.cond (.t 154)
 (.seq (.region [It 4 (.mov (.c (.b false)))] [5,7,9,10,11,12,13,154])
 .ret)
 (.region [] [154]))))
 (.region [Mv 125 13,
 It 126 (.bin .add (.t 125) (.c (.i .i64 1))),
 Mv 13 126] [125,126])))
def L4b:ICode :=
  (.seq (.seq (.region [Mv 115 12,
 Mv 116 11,
 Le 117 116,
 It 118 (.bin .lss (.t 115) (.t 117))] [115,116,117])
 (.cond (.t 118)
 (.region [] [118])
 (.exit 2)))
 (.seq (.block 3
 (.seq (.region [It 13 (.mov (.c i0))] [])
 (.block 4
 (.loop L4a))))
 (.region [Mv 119 12,
 It 120 (.bin .add (.t 119) (.c (.i .i64 1))),
 Mv 12 120] [13,124,119,120])))
def L4c:ICode :=
  (.seq (.seq (.region [Mv 56 10,
 Mv 57 9,
 Le 58 57,
 It 59 (.bin .lss (.t 56) (.t 58)),
 Mv 60 59,
 Ig 61 60 true (.mov (.t 10)),
 Ig 62 60 true (.mov (.t 7)),
 Ig 63 60 true (.lenk 0 (.t 62)),
 Ig 64 60 true (.bin .lss (.t 61) (.t 63)),
 It 65 (.pick (.t 60) (.t 64) (.c (.b false)))] [56,57,58,59,60,61,62,63,64])
 (.cond (.t 65)
 (.region [] [65])
 (.exit 0)))
 (.seq (.block 1
 (.seq (.seq (.region [Mv 68 7,
 Mv 69 10,
 Ia 70 3 68 69,
 Of 71 70 0,
 Ld 72 71,
 It 73 (.un .not (.t 72)),
 Mv 74 73,
 Ig 75 74 false (.mov (.t 9)),
 Ig 76 74 false (.mov (.t 10)),
 Ig 77 74 false (.iaddr 3 (.t 75) (.t 76)),
 Ig 78 74 false (.off (.t 77) 0),
 Ig 79 74 false (.load none (.t 78)),
 Ig 80 74 false (.call 8 [(.t 79)]),
 It 81 (.pick (.t 74) (.c (.b true)) (.t 80))] [68,69,70,71,72,73,74,75,76,77,78,79,80])
 (.cond (.t 81)
 (.exit 1)
 (.region [] [81])))
 (.seq (.region [Mv 82 10,
 It 83 (.bin .add (.t 82) (.c (.i .i64 1))),
 It 84 (.bsl 1 1 [i0] [(0,1,(.t 83))]),
 Mv 11 84] [82,83,84])
 (.seq (.seq (.region [Mv 85 9,
 Mv 86 10,
 Ia 87 3 85 86,
 Of 88 87 0,
 Ld 89 88,
 It 90 (.bin .eql (.t 89) (.c (.i .i64 24))),
 Mv 91 90,
 Ig 92 91 false (.mov (.t 9)),
 Ig 93 91 false (.mov (.t 10)),
 Ig 94 91 false (.iaddr 3 (.t 92) (.t 93)),
 Ig 95 91 false (.off (.t 94) 0),
 Ig 96 91 false (.load none (.t 95)),
 Ig 97 91 false (.bin .eql (.t 96) (.c (.i .i64 25))),
 It 98 (.pick (.t 91) (.c (.b true)) (.t 97)),
 Mv 99 98,
 Ig 100 99 false (.mov (.t 9)),
 Ig 101 99 false (.mov (.t 10)),
 Ig 102 99 false (.iaddr 3 (.t 100) (.t 101)),
 Ig 103 99 false (.off (.t 102) 0),
 Ig 104 99 false (.load none (.t 103)),
 Ig 105 99 false (.bin .eql (.t 104) (.c (.i .i64 26))),
 It 106 (.pick (.t 99) (.c (.b true)) (.t 105))] [85,86,87,88,89,90,91,92,93,94,95,96,97,98,99,100,101,102,103,104,105])
 (.cond (.t 106)
 (.region [Mv 107 11,
 Mv 108 9,
 Mv 109 10,
 Ia 110 3 108 109,
 Of 111 110 1,
 Ld 112 111,
 It 113 (.bsl 1 1 [i0] [(0,1,(.t 112))]),
 It 114 (.app 1 8 (.t 107) (.t 113)),
 Mv 11 114] [106,107,108,109,110,111,112,113,114])
 (.region [] [106])))
 (.seq (.region [It 12 (.mov (.c i0))] [])
 (.block 2
 (.loop L4b)))))))
 (.region [Mv 66 10,
 It 67 (.bin .add (.t 66) (.c (.i .i64 1))),
 Mv 10 67] [11,12,118,81,66,67])))
def I4:IFunc :=
  ⟨(.seq (.region [It 2 (.box (.t 0)),
 It 4 (.mov (.c (.b false)))] [0,4])
 (.seq (.seq (.region [It 14 (.call 5 []),
 It 15 (.un .not (.t 14))] [14])
 (.cond (.t 15)
 (.seq (.region [It 4 (.mov (.c (.b false)))] [1,2,15])
 .ret)
 (.region [] [15])))
 (.seq (.region [Lm 17 2 2,
 Mv 18 1,
 It 19 (.call 6 [(.t 17),(.t 18)]),
 Mv 16 19,
 Ex 20 16 0,
 Ex 21 16 1,
 Mv 5 20,
 Mv 6 21] [17,18,19,16,20,21])
 (.seq (.region [Lm 23 2 2,
 Mv 24 1,
 It 25 (.call 7 [(.t 23),(.t 24)]),
 Mv 22 25,
 Ex 26 22 0,
 Ex 27 22 1,
 Mv 7 26,
 Mv 8 27] [23,24,25,22,26,27])
 (.seq (.seq (.region [Mv 28 6,
 It 29 (.bin .neq (.t 28) (.c i0)),
 Mv 30 29,
 Ig 31 30 false (.mov (.t 8)),
 Ig 32 30 false (.bin .neq (.t 31) (.c i0)),
 It 33 (.pick (.t 30) (.c (.b true)) (.t 32)),
 Mv 34 33,
 Ig 35 34 false (.mov (.t 1)),
 Ig 36 34 false (.bin .lss (.t 35) (.c i0)),
 It 37 (.pick (.t 34) (.c (.b true)) (.t 36)),
 Mv 38 37,
 Ig 39 38 false (.mov (.t 1)),
 Ig 40 38 false (.off (.t 2) 0),
 Ig 41 38 false (.load none (.t 40)),
 Ig 42 38 false (.lenk 0 (.t 41)),
 Ig 43 38 false (.bin .geq (.t 39) (.t 42)),
 It 44 (.pick (.t 38) (.c (.b true)) (.t 43))] [28,29,30,31,32,33,34,35,36,37,38,39,40,41,42,43])
 (.cond (.t 44)
 (.seq (.region [Mv 45 6,
 It 46 (.bin .eql (.t 45) (.c i0)),
 Mv 47 8,
 It 48 (.bin .eql (.t 47) (.c i0)),
 It 49 (.eqB false (.t 46) (.t 48)),
 Mv 4 49] [1,2,5,6,7,8,44,45,46,47,48,49])
 .ret)
 (.region [] [6,8,44])))
 (.seq (.region [Of 50 2 0,
 Ld 51 50,
 Mv 52 1,
 Ia 53 4 51 52,
 Of 54 53 3,
 Ld 55 54,
 Mv 9 55] [1,2,50,51,52,53,54,55])
 (.seq (.seq (.region [It 10 (.mov (.c i0))] [])
 (.block 0
 (.loop L4c)))
 (.seq (.region [It 4 (.mov (.c (.b true)))] [5,7,9,10,65])
 .ret)))))))),
    155,2,[.t 4],0⟩
theorem tr4:trFunc Try.prog (hz [(25,[0,1,2,3,4,5,6,7,8,9,10,11,12,13,14,15,16,17,18,19,20,21,22,23,24,25,26,27])] I4.body) 0 Try.f4=some (plain1 I4):=by kernel_rfl
theorem ck4:ckC 1 I4.body=true:=by kernel_rfl
def I5:IFunc :=
  ⟨(.seq (.region [It 0 (.mov (.c (.b false)))] [0])
 (.seq (.region [It 9 (.call 9 [(.c (.i .i64 1)),(.c i0)]),
 It 10 (.call 9 [(.c (.i .i64 1)),(.c (.i .i64 1))]),
 It 11 (.call 9 [(.c (.i .i64 30)),(.c i0)]),
 It 1 (.alloc [i0,i0,i0]),
 It 2 (.alloc [i0,i0,i0]),
 It 3 (.alloc [i0,i0,i0]),
 Ss 3 1 9,
 Ss 3 2 10,
 Ss 3 3 11] [9,10,11])
 (.seq (.region [Lm 12 3 1,
 Lm 13 3 3,
 It 14 (.bsl 3 2 [i0,i0,i0,i0,i0,i0] [(0,3,(.t 12)),(3,3,(.t 13))]),
 It 15 (.call 11 [(.t 14)]),
 It 16 (.build [i0,i0,i0,i0] [(0,1,(.c i0)),(1,1,(.c (.i .i64 1))),(2,1,(.c (.i .i64 3))),(3,1,(.c (.i .i64 1)))]),
 It 17 (.bsl 4 1 [i0,i0,i0,i0] [(0,4,(.t 16))]),
 It 18 (.call 10 [(.t 15),(.t 17)]),
 Mv 4 18] [12,13,14,15,16,17,18])
 (.seq (.region [Lm 19 3 2,
 Lm 21 3 1,
 Lm 22 3 3,
 It 26 (.build [i0,i0,i0,i0] [(1,1,(.c (.i .i64 2))),(2,1,(.c (.i .i64 2))),(3,1,(.c (.i .i64 4)))]),
 It 27 (.build [i0,i0,i0,i0] [(0,1,(.c (.i .i64 2))),(1,1,(.c (.i .i64 1))),(2,1,(.c (.i .i64 3))),(3,1,(.c (.i .i64 3)))]),
 It 28 (.build [i0,i0,i0,i0] [(0,1,(.c (.i .i64 4))),(1,1,(.c (.i .i64 1))),(2,1,(.c (.i .i64 1)))]),
 It 29 (.bsl 4 3 [i0,i0,i0,i0,i0,i0,i0,i0,i0,i0,i0,i0] [(0,4,(.t 26)),(4,4,(.t 27)),(8,4,(.t 28))]),
 ⟨(some 20),(.call 9 [(.c (.i .i64 25)),(.c (.i .i64 4))]),none,[(19,(.load (some 3) (.t 2)),none),(21,(.load (some 3) (.t 1)),none),(22,(.load (some 3) (.t 3)),none)]⟩,
 ⟨(some 23),(.call 9 [(.c (.i .i64 24)),(.c i0)]),none,[(19,(.load (some 3) (.t 2)),none),(21,(.load (some 3) (.t 1)),none),(22,(.load (some 3) (.t 3)),none)]⟩,
 It 24 (.bsl 3 5 [i0,i0,i0,i0,i0,i0,i0,i0,i0,i0,i0,i0,i0,i0,i0] [(0,3,(.t 19)),(3,3,(.t 20)),(6,3,(.t 21)),(9,3,(.t 22)),(12,3,(.t 23))]),
 It 25 (.call 11 [(.t 24)]),
 It 30 (.call 10 [(.t 25),(.t 29)]),
 Mv 5 30] [19,21,22,26,27,28,29,20,23,24,25,30])
 (.seq (.region [Lm 31 3 1,
 Lm 33 3 2,
 Lm 36 3 3,
 It 39 (.build [i0,i0,i0,i0] [(1,1,(.c (.i .i64 2))),(3,1,(.c (.i .i64 2)))]),
 It 40 (.build [i0,i0,i0,i0] [(0,1,(.c (.i .i64 2))),(1,1,(.c (.i .i64 2))),(2,1,(.c (.i .i64 2))),(3,1,(.c (.i .i64 2)))]),
 It 41 (.build [i0,i0,i0,i0] [(0,1,(.c (.i .i64 4))),(1,1,(.c (.i .i64 1))),(2,1,(.c (.i .i64 3))),(3,1,(.c (.i .i64 5)))]),
 It 42 (.bsl 4 3 [i0,i0,i0,i0,i0,i0,i0,i0,i0,i0,i0,i0] [(0,4,(.t 39)),(4,4,(.t 40)),(8,4,(.t 41))]),
 ⟨(some 32),(.call 9 [(.c (.i .i64 3)),(.c i0)]),none,[(31,(.load (some 3) (.t 1)),none),(33,(.load (some 3) (.t 2)),none),(36,(.load (some 3) (.t 3)),none)]⟩,
 ⟨(some 34),(.call 9 [(.c (.i .i64 25)),(.c (.i .i64 2))]),none,[(31,(.load (some 3) (.t 1)),none),(33,(.load (some 3) (.t 2)),none),(36,(.load (some 3) (.t 3)),none)]⟩,
 ⟨(some 35),(.call 9 [(.c (.i .i64 2)),(.c i0)]),none,[(31,(.load (some 3) (.t 1)),none),(33,(.load (some 3) (.t 2)),none),(36,(.load (some 3) (.t 3)),none)]⟩,
 It 37 (.bsl 3 6 [i0,i0,i0,i0,i0,i0,i0,i0,i0,i0,i0,i0,i0,i0,i0,i0,i0,i0] [(0,3,(.t 31)),(3,3,(.t 32)),(6,3,(.t 33)),(9,3,(.t 34)),(12,3,(.t 35)),(15,3,(.t 36))]),
 It 38 (.call 11 [(.t 37)]),
 It 43 (.call 10 [(.t 38),(.t 42)]),
 Mv 6 43] [1,2,3,31,33,36,39,40,41,42,32,34,35,37,38,43])
 (.seq (.region [It 45 (.build [i0,i0,i0,i0] [(0,1,(.c (.i .i64 3))),(1,1,(.c (.i .i64 1)))]),
 It 46 (.bsl 4 1 [i0,i0,i0,i0] [(0,4,(.t 45))]),
 It 47 (.call 12 [(.t 46),(.c (.i .i64 3))]),
 Mv 44 47,
 Ex 48 44 0,
 Ex 49 44 1,
 It 7 (.alloc [i0,i0,i0,i0]),
 Ss 4 7 48,
 Mv 8 49] [45,46,47,44,48,49])
 (.seq (.region [Mv 50 4,
 Mv 51 50,
 Ig 52 51 true (.mov (.t 5)),
 It 53 (.pick (.t 51) (.t 52) (.c (.b false))),
 Mv 54 53,
 Ig 55 54 true (.mov (.t 6)),
 It 56 (.pick (.t 54) (.t 55) (.c (.b false))),
 Mv 57 56,
 Ig 58 57 true (.mov (.t 8)),
 It 59 (.pick (.t 57) (.t 58) (.c (.b false))),
 Mv 60 59,
 Ig 61 60 true (.off (.t 7) 1),
 Ig 62 60 true (.load none (.t 61)),
 Ig 63 60 true (.bin .eql (.t 62) (.c (.i .i64 1))),
 It 64 (.pick (.t 60) (.t 63) (.c (.b false))),
 Mv 0 64] [4,5,6,7,8,50,51,52,53,54,55,56,57,58,59,60,61,62,63,64])
 .ret))))))),
    65,0,[.t 0],2⟩
theorem tr5:trFunc Try.prog (hz [(3,[0,2,3,7,8,9,10,1,4,5,6,11,12]),(4,[0,2,5,8,9,10,11,1,3,4,6,7,12,13])] I5.body) 1 Try.f5=some (plain1 I5):=by kernel_rfl
theorem ck5:ckC 1 I5.body=true:=by kernel_rfl
-- 6 encore/cuts.Of LACKING
def I7:IFunc :=
  ⟨(.seq (.region [It 2 (.box (.t 0)),
 It 4 (.mov (.c .ns)),
 It 5 (.mov (.c i0))] [0,4,5])
 (.seq (.seq (.region [Lm 7 2 2,
 It 8 (.call 15 [(.t 7)]),
 Mv 6 8] [7,8])
 (.seq (.region [Mv 9 6,
 It 10 (.bin .neq (.t 9) (.c i0))] [9])
 (.cond (.t 10)
 (.seq (.region [Mv 11 6,
 It 4 (.mov (.c .ns)),
 Mv 5 11] [1,2,6,10,11])
 .ret)
 (.region [] [6,10]))))
 (.seq (.seq (.region [Mv 12 1,
 It 13 (.bin .lss (.t 12) (.c i0)),
 Mv 14 13,
 Ig 15 14 false (.mov (.t 1)),
 Ig 16 14 false (.off (.t 2) 0),
 Ig 17 14 false (.load none (.t 16)),
 Ig 18 14 false (.lenk 0 (.t 17)),
 Ig 19 14 false (.bin .geq (.t 15) (.t 18)),
 It 20 (.pick (.t 14) (.c (.b true)) (.t 19))] [12,13,14,15,16,17,18,19])
 (.cond (.t 20)
 (.seq (.region [It 4 (.mov (.c .ns)),
 It 5 (.mov (.c (.i .i64 9)))] [1,2,20])
 .ret)
 (.region [] [20])))
 (.seq (.region [Lm 21 2 2,
 Of 22 2 0,
 Ld 23 22,
 Mv 24 1,
 Ia 25 4 23 24,
 Lm 26 4 25,
 It 27 (.call 16 [(.t 21),(.t 26)]),
 Ex 28 27 0,
 Ex 29 27 1,
 Mv 4 28,
 Mv 5 29] [1,2,21,22,23,24,25,26,27,28,29])
 .ret)))),
    30,2,[.t 4,.t 5],2⟩
theorem tr7:trFunc Try.prog (hz [(8,[0,1,2,3,4,5,6,7,8,9,10])] I7.body) 1 Try.f7=some (plain1 I7):=by kernel_rfl
theorem ck7:ckC 1 I7.body=true:=by kernel_rfl
def I8:IFunc :=
  ⟨(.seq (.region [It 2 (.mov (.c (.b false)))] [2])
 (.seq (.region [Mv 3 0,
 It 4 (.bin .geq (.t 3) (.c (.i .i64 1))),
 Mv 5 4,
 Ig 6 5 true (.mov (.t 0)),
 Ig 7 5 true (.bin .leq (.t 6) (.c (.i .i64 23))),
 It 8 (.pick (.t 5) (.t 7) (.c (.b false))),
 Mv 2 8] [0,3,4,5,6,7,8])
 .ret)),
    9,1,[.t 2],2⟩
theorem tr8:trFunc Try.prog (hz [] I8.body) 1 Try.f8=some (plain1 I8):=by kernel_rfl
theorem ck8:ckC 1 I8.body=true:=by kernel_rfl
def I9:IFunc :=
  ⟨(.seq (.region [It 4 (.alloc [i0,i0,i0])] [])
 (.seq (.region [Mv 5 0,
 Mv 6 1,
 It 7 (.build [i0,i0,i0] [(0,1,(.t 5)),(1,1,(.t 6))]),
 Ss 3 4 7] [0,1,5,6,7])
 .ret)),
    8,2,[.c 4 (some 3)],2⟩
theorem tr9:trFunc Try.prog (hz [] I9.body) 1 Try.f9=some (plain1 I9):=by kernel_rfl
theorem ck9:ckC 1 I9.body=true:=by kernel_rfl
def L10a:ICode :=
  (.seq (.seq (.region [Mv 22 7,
 Mv 23 5,
 Le 24 23,
 It 25 (.bin .lss (.t 22) (.t 24))] [22,23,24])
 (.cond (.t 25)
 (.region [] [25])
 (.exit 0)))
 (.seq (.block 1
 (.seq (.region [Mv 28 5,
 Mv 29 7,
 Ia 30 4 28 29,
 Lm 31 4 30,
 Mv 32 1,
 Mv 33 7,
 Ia 34 4 32 33,
 Lm 35 4 34,
 It 36 (.eqAg [1,1,1,1] true (.t 31) (.t 35))] [28,29,30,31,32,33,34,35])
 (.cond (.t 36)
 (.seq (.region [It 4 (.mov (.c (.b false)))] [1,5,7,36])
 .ret)
 (.region [] [36]))))
 (.region [Mv 26 7,
 It 27 (.bin .add (.t 26) (.c (.i .i64 1))),
 Mv 7 27] [26,27])))
def I10:IFunc :=
  ⟨(.seq (.region [It 2 (.box (.t 0)),
 It 4 (.mov (.c (.b false)))] [0,4])
 (.seq (.region [Lm 9 2 2,
 It 10 (.call 6 [(.t 9),(.c i0)]),
 Mv 8 10,
 Ex 11 8 0,
 Ex 12 8 1,
 Mv 5 11,
 Mv 6 12] [2,9,10,8,11,12])
 (.seq (.seq (.region [Mv 13 6,
 It 14 (.bin .neq (.t 13) (.c i0)),
 Mv 15 14,
 Ig 16 15 false (.mov (.t 5)),
 Ig 17 15 false (.lenk 0 (.t 16)),
 Ig 18 15 false (.mov (.t 1)),
 Ig 19 15 false (.lenk 0 (.t 18)),
 Ig 20 15 false (.bin .neq (.t 17) (.t 19)),
 It 21 (.pick (.t 15) (.c (.b true)) (.t 20))] [6,13,14,15,16,17,18,19,20])
 (.cond (.t 21)
 (.seq (.region [It 4 (.mov (.c (.b false)))] [1,5,21])
 .ret)
 (.region [] [21])))
 (.seq (.seq (.region [It 7 (.mov (.c i0))] [])
 (.block 0
 (.loop L10a)))
 (.seq (.region [It 4 (.mov (.c (.b true)))] [1,5,7,25])
 .ret))))),
    37,2,[.t 4],2⟩
theorem tr10:trFunc Try.prog (hz [(8,[0,1,2,3,4,5,6,7,8])] I10.body) 1 Try.f10=some (plain1 I10):=by kernel_rfl
theorem ck10:ckC 1 I10.body=true:=by kernel_rfl
def I11:IFunc :=
  ⟨(.seq (.region [It 2 (.alloc [.ns,.ns])] [])
 (.seq (.region [Mv 3 0,
 It 4 (.build [(.s []),i0,i0,.ns] [(0,1,(.c (.s [109,97,105,110]))),(2,1,(.c (.i .i64 1))),(3,1,(.t 3))]),
 It 5 (.bsl 4 1 [(.s []),i0,i0,.ns] [(0,4,(.t 4))]),
 It 6 (.call 17 [(.c (.i .i64 1))]),
 It 7 (.build [i0,i0,(.s []),.ns,.ns] [(0,1,(.c (.i .i64 2))),(1,1,(.c (.i .i64 1)))]),
 It 8 (.bsl 5 2 [i0,i0,(.s []),.ns,.ns,i0,i0,(.s []),.ns,.ns] [(0,5,(.t 6)),(5,5,(.t 7))]),
 It 9 (.build [.ns,.ns] [(0,1,(.t 5)),(1,1,(.t 8))]),
 Ss 2 2 9] [0,3,4,5,6,7,8,9])
 .ret)),
    10,1,[.c 2 (some 2)],1⟩
theorem tr11:trFunc Try.prog (hz [] I11.body) 1 Try.f11=some (plain1 I11):=by kernel_rfl
theorem ck11:ckC 1 I11.body=true:=by kernel_rfl
def I12:IFunc :=
  ⟨(.seq (.region [It 3 (.box (.t 1)),
 It 4 (.alloc [i0,i0,i0,i0]),
 It 5 (.mov (.c (.b false)))] [1,5])
 (.seq (.region [Mv 7 0,
 It 8 (.mkf 19 [] [(.t 3)]),
 It 9 (.call 18 [(.t 7),(.t 8)]),
 Mv 6 9] [3,7,8,9])
 (.seq (.seq (.region [Mv 10 6,
 It 11 (.bin .lss (.t 10) (.c i0))] [10])
 (.cond (.t 11)
 (.seq (.region [It 12 (.build [i0,i0,i0,i0] []),
 Ss 4 4 12,
 It 5 (.mov (.c (.b false)))] [0,6,11,12])
 .ret)
 (.region [] [11])))
 (.seq (.region [Mv 13 0,
 Mv 14 6,
 Ia 15 4 13 14,
 Lm 16 4 15,
 Ss 4 4 16,
 It 5 (.mov (.c (.b true)))] [0,6,13,14,15,16])
 .ret)))),
    17,2,[.c 4 (some 4),.t 5],2⟩
theorem tr12:trFunc Try.prog (hz [] I12.body) 1 Try.f12=some (plain1 I12):=by kernel_rfl
theorem ck12:ckC 1 I12.body=true:=by kernel_rfl
def I13:IFunc :=
  ⟨(.seq (.region [It 2 (.box (.t 0)),
 It 3 (.box (.t 1)),
 It 4 (.mov (.c .nf))] [0,1,4])
 (.seq (.region [It 5 (.mkf 20 [] [(.t 2),(.t 3)]),
 Mv 4 5] [2,3,5])
 .ret)),
    6,2,[.t 4],0⟩
theorem tr13:trFunc Try.prog (hz [] I13.body) 0 Try.f13=some (plain1 I13):=by kernel_rfl
theorem ck13:ckC 1 I13.body=true:=by kernel_rfl
def L14a:ICode :=
  (.seq (.region [It 13 (.bin .lss (.t 12) (.t 11))] [])
 (.seq (.cond (.t 13)
 (.region [] [13])
 (.exit 0))
 (.seq (.block 1
 (.seq (.region [Mv 14 12,
 Ia 15 3 10 12,
 Lm 16 3 15,
 It 7 (.alloc [i0,i0,i0]),
 Mv 6 14,
 Ss 3 7 16] [14,15,16])
 (.seq (.seq (.region [Of 17 7 0,
 Ld 18 17,
 It 19 (.call 8 [(.t 18)]),
 Mv 20 19,
 Ig 21 20 false (.mov (.t 1)),
 Ig 22 20 false (.mov (.t 6)),
 Ig 23 20 false (.iaddr 3 (.t 21) (.t 22)),
 Ig 24 20 false (.off (.t 23) 0),
 Ig 25 20 false (.load none (.t 24)),
 Ig 26 20 false (.un .not (.t 25)),
 It 27 (.pick (.t 20) (.c (.b true)) (.t 26))] [17,18,19,20,21,22,23,24,25,26])
 (.cond (.t 27)
 (.exit 1)
 (.region [] [27])))
 (.seq (.seq (.region [Lm 28 3 7,
 It 29 (.call 22 [(.t 28)]),
 Mv 30 29,
 Ig 31 30 false (.off (.t 7) 0),
 Ig 32 30 false (.load none (.t 31)),
 Ig 33 30 false (.bin .eql (.t 32) (.c (.i .i64 26))),
 It 34 (.pick (.t 30) (.c (.b true)) (.t 33))] [28,29,30,31,32,33])
 (.cond (.t 34)
 (.region [Mv 35 5,
 Of 36 7 1,
 Ld 37 36,
 ⟨none,(.mapup false [1] (.t 35) (.t 37) (.c (.b true))),none,[]⟩] [7,34,35,36,37])
 (.region [] [7,34])))
 (.seq (.region [Mv 38 6,
 It 39 (.bin .add (.t 38) (.c (.i .i64 1))),
 Mv 40 0,
 Le 41 40,
 It 42 (.bin .lss (.t 39) (.t 41)),
 Mv 43 42,
 Ig 44 43 true (.mov (.t 1)),
 Ig 45 43 true (.mov (.t 6)),
 Ig 46 43 true (.bin .add (.t 45) (.c (.i .i64 1))),
 Ig 47 43 true (.iaddr 3 (.t 44) (.t 46)),
 Ig 48 43 true (.off (.t 47) 0),
 Ig 49 43 true (.load none (.t 48)),
 It 50 (.pick (.t 43) (.t 49) (.c (.b false)))] [38,39,40,41,42,43,44,45,46,47,48,49])
 (.cond (.t 50)
 (.region [Mv 51 5,
 Mv 52 6,
 It 53 (.bin .add (.t 52) (.c (.i .i64 1))),
 ⟨none,(.mapup false [1] (.t 51) (.t 53) (.c (.b true))),none,[]⟩] [6,50,51,52,53])
 (.region [] [6,50])))))))
 (.region [It 54 (.bin .add (.t 12) (.c (.i .i64 1))),
 Mv 12 54] [7,6,27,54]))))
def I14:IFunc :=
  ⟨(.seq (.region [It 4 (.mov (.c .nm))] [4])
 (.seq (.region [It 8 .mkmap,
 ⟨none,(.mapup false [1] (.t 8) (.c i0) (.c (.b true))),none,[]⟩,
 Mv 9 8,
 Mv 5 9] [8,9])
 (.seq (.seq (.region [Mv 10 0,
 Le 11 10,
 It 12 (.mov (.c i0))] [])
 (.block 0
 (.loop L14a)))
 (.seq (.region [Mv 55 5,
 Mv 4 55] [0,1,5,10,11,12,13,55])
 .ret)))),
    56,2,[.t 4],0⟩
theorem tr14:trFunc Try.prog (hz [] I14.body) 0 Try.f14=some (plain1 I14):=by kernel_rfl
theorem ck14:ckC 1 I14.body=true:=by kernel_rfl
def L15a:ICode :=
  (.seq (.region [It 54 (.bin .lss (.t 53) (.t 52))] [])
 (.seq (.cond (.t 54)
 (.region [] [54])
 (.exit 2))
 (.seq (.block 3
 (.seq (.region [Ia 55 3 51 53,
 Lm 56 3 55,
 It 9 (.alloc [i0,i0,i0]),
 Ss 3 9 56] [55,56])
 (.seq (.region [Lm 57 3 9,
 It 58 (.build [.np,.np,i0,i0,i0] [(0,1,(.t 1)),(1,1,(.t 7)),(2,3,(.t 57))]),
 It 59 (.call 30 [(.t 58)]),
 It 60 (.un .not (.t 59))] [9,57,58,59])
 (.cond (.t 60)
 (.seq (.region [It 2 (.mov (.c (.i .i64 150)))] [1,44,45,46,7,51,52,53,60])
 .ret)
 (.region [] [60])))))
 (.region [It 61 (.bin .add (.t 53) (.c (.i .i64 1))),
 Mv 53 61] [61]))))
def L15b:ICode :=
  (.seq (.region [It 47 (.bin .lss (.t 46) (.t 45))] [])
 (.seq (.cond (.t 47)
 (.region [] [47])
 (.exit 0))
 (.seq (.block 1
 (.seq (.region [Ia 48 4 44 46,
 Lm 49 4 48,
 It 7 (.alloc [(.s []),i0,i0,.ns]),
 Ss 4 7 49] [48,49])
 (.seq (.region [Of 50 7 3,
 Ld 51 50,
 Le 52 51,
 It 53 (.mov (.c i0))] [50])
 (.block 2
 (.loop L15a)))))
 (.region [It 62 (.bin .add (.t 46) (.c (.i .i64 1))),
 Mv 46 62] [7,51,52,53,54,62]))))
def I15:IFunc :=
  ⟨(.seq (.region [It 1 (.box (.t 0)),
 It 2 (.mov (.c i0))] [0,2])
 (.seq (.region [It 3 (.mov (.f 23))] [])
 (.seq (.seq (.region [Of 10 1 0,
 Ld 11 10,
 Le 12 11,
 It 13 (.bin .gtr (.t 12) (.c (.i .i64 16))),
 Mv 14 13,
 Ig 15 14 false (.off (.t 1) 1),
 Ig 16 14 false (.load none (.t 15)),
 Ig 17 14 false (.lenk 0 (.t 16)),
 Ig 18 14 false (.bin .gtr (.t 17) (.c (.i .i64 256))),
 It 19 (.pick (.t 14) (.c (.b true)) (.t 18)),
 Mv 20 19,
 Ig 21 20 false (.off (.t 1) 0),
 Ig 22 20 false (.load none (.t 21)),
 Ig 23 20 false (.mov (.t 3)),
 Ig 24 20 false (.call 24 [(.t 22),(.t 23)]),
 It 25 (.pick (.t 20) (.c (.b true)) (.t 24))] [3,10,11,12,13,14,15,16,17,18,19,20,21,22,23,24])
 (.cond (.t 25)
 (.seq (.region [It 2 (.mov (.c (.i .i64 5)))] [1,25])
 .ret)
 (.region [] [25])))
 (.seq (.region [It 4 (.mov (.f 25))] [])
 (.seq (.region [It 26 (.mkf 27 [] [(.t 1)]),
 Mv 5 26] [26])
 (.seq (.seq (.region [Of 27 1 0,
 Ld 28 27,
 Le 29 28,
 It 30 (.bin .eql (.t 29) (.c i0)),
 Mv 31 30,
 Ig 32 31 false (.off (.t 1) 1),
 Ig 33 31 false (.load none (.t 32)),
 Ig 34 31 false (.mov (.t 4)),
 Ig 35 31 false (.call 29 [(.t 33),(.t 34)]),
 It 36 (.pick (.t 31) (.c (.b true)) (.t 35)),
 Mv 37 36,
 Ig 38 37 false (.off (.t 1) 0),
 Ig 39 37 false (.load none (.t 38)),
 Ig 40 37 false (.mov (.t 5)),
 Ig 41 37 false (.call 24 [(.t 39),(.t 40)]),
 It 42 (.pick (.t 37) (.c (.b true)) (.t 41))] [4,5,27,28,29,30,31,32,33,34,35,36,37,38,39,40,41])
 (.cond (.t 42)
 (.seq (.region [It 2 (.mov (.c (.i .i64 2)))] [1,42])
 .ret)
 (.region [] [42])))
 (.seq (.seq (.region [Of 43 1 0,
 Ld 44 43,
 Le 45 44,
 It 46 (.mov (.c i0))] [43])
 (.block 0
 (.loop L15b)))
 (.seq (.region [It 2 (.mov (.c i0))] [1,44,45,46,47])
 .ret)))))))),
    63,1,[.t 2],2⟩
theorem tr15:trFunc Try.prog (hz [] I15.body) 1 Try.f15=some (plain1 I15):=by kernel_rfl
theorem ck15:ckC 1 I15.body=true:=by kernel_rfl
def L16a:ICode :=
  (.seq (.seq (.region [Mv 17 6,
 It 18 (.nck (.t 17)),
 Of 19 18 1,
 Ld 20 19,
 Le 21 20,
 It 22 (.bin .gtr (.t 21) (.c i0))] [17,18,19,20,21])
 (.cond (.t 22)
 (.region [] [22])
 (.exit 0)))
 (.block 1
 (.seq (.region [Mv 23 6,
 It 24 (.nck (.t 23)),
 Of 25 24 1,
 Ld 26 25,
 Mv 27 6,
 It 28 (.nck (.t 27)),
 Of 29 28 1,
 Ld 30 29,
 Le 31 30,
 It 32 (.bin .sub (.t 31) (.c (.i .i64 1))),
 Ia 33 1 26 32,
 Ld 34 33,
 Mv 7 34] [23,24,25,26,27,28,29,30,31,32,33,34])
 (.seq (.region [Mv 35 6,
 Mv 36 6,
 It 37 (.nck (.t 36)),
 Of 38 37 1,
 Ld 39 38,
 Mv 40 6,
 It 41 (.nck (.t 40)),
 Of 42 41 1,
 Ld 43 42,
 Le 44 43,
 It 45 (.bin .sub (.t 44) (.c (.i .i64 1))),
 It 46 (.slq 1 (.t 39) none (some (.t 45)) none),
 It 47 (.nck (.t 35)),
 Of 48 47 1,
 Ss 1 48 46] [35,36,37,38,39,40,41,42,43,44,45,46,47,48])
 (.seq (.region [Mv 49 6,
 Lm 50 2 2,
 Of 51 3 3,
 Ld 52 51,
 Mv 53 7,
 Ia 54 3 52 53,
 Lm 55 3 54,
 Mv 56 7,
 It 57 (.call 32 [(.t 49),(.t 50),(.t 55),(.t 56)])] [7,49,50,51,52,53,54,55,56,57])
 (.seq (.region [Mv 58 6,
 It 59 (.nck (.t 58)),
 Of 60 59 2,
 Ld 61 60] [58,59,60])
 (.cond (.t 61)
 (.exit 0)
 (.region [] [61]))))))))
def L16b:ICode :=
  (.seq (.region [It 72 (.bin .lss (.t 71) (.t 70))] [])
 (.seq (.cond (.t 72)
 (.region [] [72])
 (.exit 2))
 (.seq (.block 3
 (.seq (.region [Mv 73 71,
 Mv 8 73] [73])
 (.region [Mv 74 6,
 It 75 (.nck (.t 74)),
 Of 76 75 0,
 Ld 77 76,
 Mv 78 8,
 Mv 79 6,
 It 80 (.nck (.t 79)),
 Of 81 80 0,
 Ld 82 81,
 Mv 83 8,
 Ia 84 3 82 83,
 Of 85 84 2,
 Ld 86 85,
 ⟨(some 87),(.call 33 [(.t 86)]),none,[(77,(.load none (.t 76)),none)]⟩,
 Ia 88 3 77 78,
 Of 89 88 2,
 Ss 1 89 87] [8,74,75,76,77,78,79,80,81,82,83,84,85,86,87,88,89])))
 (.region [It 90 (.bin .add (.t 71) (.c (.i .i64 1))),
 Mv 71 90] [90]))))
def I16:IFunc :=
  ⟨(.seq (.region [It 2 (.box (.t 0)),
 It 3 (.box (.t 1)),
 It 4 (.mov (.c .ns)),
 It 5 (.mov (.c i0))] [0,1,4,5])
 (.seq .skip
 (.seq (.region [Of 9 3 3,
 Ld 10 9,
 Le 11 10,
 It 12 (.mksl 3 40 [(.b false),i0,.ns] (.t 11) (.t 11)),
 It 13 (.build [.ns,.ns,(.b false)] [(0,1,(.t 12))]),
 It 14 (.box (.t 13)),
 Mv 6 14] [9,10,11,12,13,14])
 (.seq (.region [Mv 15 6,
 It 16 (.call 31 [(.t 15),(.c i0),(.c i0),(.c .ns)])] [15,16])
 (.seq .skip
 (.seq (.block 0
 (.loop L16a))
 (.seq (.seq (.region [Mv 62 6,
 It 63 (.nck (.t 62)),
 Of 64 63 2,
 Ld 65 64] [2,3,22,61,62,63,64])
 (.cond (.t 65)
 (.seq (.region [It 4 (.mov (.c .ns)),
 It 5 (.mov (.c (.i .i64 170)))] [6,65])
 .ret)
 (.region [] [65])))
 (.seq (.seq (.region [Mv 66 6,
 It 67 (.nck (.t 66)),
 Of 68 67 0,
 Ld 69 68,
 Le 70 69,
 It 71 (.mov (.c i0))] [66,67,68,69])
 (.block 2
 (.loop L16b)))
 (.seq (.region [Mv 91 6,
 It 92 (.nck (.t 91)),
 Of 93 92 0,
 Ld 94 93,
 Mv 4 94,
 It 5 (.mov (.c i0))] [6,70,71,72,91,92,93,94])
 .ret))))))))),
    95,2,[.t 4,.t 5],2⟩
theorem tr16:trFunc Try.prog [([],[0,1,4,5]),([],[9,10,11,12,13,14]),([],[15,16]),([],[17,18,19,20,21]),([],[22]),([0,1,2,3,4,5,6,7,8,9,10,11,12],[23,24,25,26,27,28,29,30,31,32,33,34]),([0,1,2,3,4,5,6,7,8,9,10,11,12,13,14],[35,36,37,38,39,40,41,42,43,44,45,46,47,48]),([0,1,2,3,4,5,6,7,8],[7,49,50,51,52,53,54,55,56,57]),([],[58,59,60]),([],[61]),([],[2,3,22,61,62,63,64]),([],[6,65]),([],[65]),([],[66,67,68,69]),([],[]),([],[72]),([],[73]),([0,1,2,3,4,5,6,7,8,9,10,11,12,13,14,15,16],[8,74,75,76,77,78,79,80,81,82,83,84,85,86,87,88,89]),([],[90]),([],[6,70,71,72,91,92,93,94])] 1 Try.f16=some (plain1 I16):=by kernel_rfl
theorem ck16:ckC 1 I16.body=true:=by kernel_rfl
def I17:IFunc :=
  ⟨(.seq (.region [It 2 (.alloc [i0,i0,(.s []),.ns,.ns])] [])
 (.seq (.region [Mv 3 0,
 It 4 (.build [i0,i0,(.s []),.ns,.ns] [(0,1,(.c (.i .i64 1))),(1,1,(.t 3))]),
 Ss 5 2 4] [0,3,4])
 .ret)),
    5,1,[.c 2 (some 5)],2⟩
theorem tr17:trFunc Try.prog (hz [] I17.body) 1 Try.f17=some (plain1 I17):=by kernel_rfl
theorem ck17:ckC 1 I17.body=true:=by kernel_rfl
def L18a:ICode :=
  (.seq (.region [It 9 (.bin .lss (.t 8) (.t 7))] [])
 (.seq (.cond (.t 9)
 (.region [] [9])
 (.exit 0))
 (.seq (.block 1
 (.seq (.region [Mv 10 8,
 Mv 5 10] [10])
 (.seq (.region [Mv 11 1,
 Mv 12 0,
 Mv 13 5,
 Ia 14 4 12 13,
 Lm 15 4 14,
 It 16 (.callv (.t 11) [(.t 15)])] [11,12,13,14,15])
 (.cond (.t 16)
 (.seq (.region [Mv 17 5,
 Mv 4 17] [0,1,7,8,5,16,17])
 .ret)
 (.region [] [5,16])))))
 (.region [It 18 (.bin .add (.t 8) (.c (.i .i64 1))),
 Mv 8 18] [18]))))
def I18:IFunc :=
  ⟨(.seq (.region [It 4 (.mov (.c i0))] [4])
 (.seq (.seq (.region [Mv 6 0,
 Le 7 6,
 It 8 (.mov (.c i0))] [6])
 (.block 0
 (.loop L18a)))
 (.seq (.region [It 4 (.mov (.c (.i .i64 (-1))))] [0,1,7,8,9])
 .ret))),
    19,2,[.t 4],0⟩
theorem tr18:trFunc Try.prog (hz [] I18.body) 0 Try.f18=some (plain1 I18):=by kernel_rfl
theorem ck18:ckC 1 I18.body=true:=by kernel_rfl
def I19:IFunc :=
  ⟨(.seq (.region [It 2 (.box (.t 0)),
 It 3 (.mov (.c (.b false)))] [0,3])
 (.seq (.region [Of 4 2 0,
 Ld 5 4,
 Ld 6 1,
 It 7 (.bin .eql (.t 5) (.t 6)),
 Mv 3 7] [1,2,4,5,6,7])
 .ret)),
    8,2,[.t 3],2⟩
theorem tr19:trFunc Try.prog (hz [] I19.body) 1 Try.f19=some (plain1 I19):=by kernel_rfl
theorem ck19:ckC 1 I19.body=true:=by kernel_rfl
def L20a:ICode :=
  (.seq (.region [It 9 (.bin .lss (.t 8) (.t 7))] [])
 (.seq (.cond (.t 9)
 (.region [] [9])
 (.exit 0))
 (.seq (.block 1
 (.seq (.region [Mv 10 8,
 Mv 4 10] [10])
 (.seq (.seq (.region [Ld 11 2,
 Mv 12 4,
 It 13 (.look false [1] (.b false) false (.t 11) (.t 12)),
 It 14 (.un .not (.t 13))] [11,12,13])
 (.cond (.t 14)
 (.exit 1)
 (.region [] [14])))
 (.seq (.region [Ld 15 1,
 Ld 16 2,
 Mv 17 4,
 It 18 (.call 21 [(.t 15),(.t 16),(.t 17)]),
 It 5 (.alloc [i0,i0,i0,i0]),
 Ss 4 5 18] [4,15,16,17,18])
 (.seq (.region [Of 19 5 1,
 Ld 20 19,
 It 21 (.bin .gtr (.t 20) (.c i0)),
 Mv 22 21,
 Ig 23 22 true (.mov (.t 0)),
 Ig 24 22 true (.load (some 4) (.t 5)),
 Ig 25 22 true (.callv (.t 23) [(.t 24)]),
 Ig 26 22 true (.un .not (.t 25)),
 It 27 (.pick (.t 22) (.t 26) (.c (.b false)))] [5,19,20,21,22,23,24,25,26])
 (.cond (.t 27)
 .ret
 (.region [] [27])))))))
 (.region [It 28 (.bin .add (.t 8) (.c (.i .i64 1))),
 Mv 8 28] [4,14,28]))))
def I20:IFunc :=
  ⟨(.seq (.region [Ld 6 1,
 Le 7 6,
 It 8 (.mov (.c i0))] [6])
 (.block 0
 (.loop L20a))),
    29,3,[],0⟩
theorem tr20:trFunc Try.prog (hz [] I20.body) 0 Try.f20=some (plain1 I20):=by kernel_rfl
theorem ck20:ckC 1 I20.body=true:=by kernel_rfl
def L21a:ICode :=
  (.seq (.seq (.region [Mv 13 8,
 Mv 14 0,
 Le 15 14,
 It 16 (.bin .lss (.t 13) (.t 15))] [13,14,15])
 (.cond (.t 16)
 (.region [] [16])
 (.exit 0)))
 (.seq (.block 1
 (.seq (.region [Mv 19 0,
 Mv 20 8,
 Ia 21 3 19 20,
 Lm 22 3 21,
 It 9 (.alloc [i0,i0,i0]),
 Ss 3 9 22] [19,20,21,22])
 (.seq (.block 2
 (.seq (.region [Mv 24 8,
 Mv 25 2,
 It 26 (.bin .gtr (.t 24) (.t 25)),
 Mv 27 26,
 Ig 28 27 true (.mov (.t 1)),
 Ig 29 27 true (.mov (.t 8)),
 Ig 30 27 true (.look false [1] (.b false) false (.t 28) (.t 29)),
 It 31 (.pick (.t 27) (.t 30) (.c (.b false))),
 Mv 23 31] [24,25,26,27,28,29,30,31])
 (.cond (.t 23)
 (.seq (.region [Mv 32 8,
 Of 33 7 3,
 Ss 1 33 32] [0,1,2,8,9,23,32,33])
 (.seq (.region [Lm 34 4 7,
 Ss 4 6 34] [7,34])
 .ret))
 (.seq (.region [Lm 36 3 9,
 It 37 (.call 22 [(.t 36)]),
 Mv 35 37] [23,36,37])
 (.cond (.t 35)
 (.seq (.region [Of 38 7 1,
 Ld 39 38,
 It 40 (.bin .add (.t 39) (.c (.i .i64 1))),
 Of 41 7 1,
 Ss 1 41 40] [0,1,2,8,35,38,39,40,41])
 (.seq (.region [Of 42 9 1,
 Ld 43 42,
 Of 44 7 2,
 ⟨none,(.store 1 (.t 44) (.c (.i .i64 1))),none,[(43,(.load none (.t 42)),none)]⟩,
 Of 45 7 3,
 Ss 1 45 43] [42,43,44,45])
 (.seq (.seq (.region [Of 46 9 0,
 Ld 47 46,
 It 48 (.bin .eql (.t 47) (.c (.i .i64 25)))] [9,46,47])
 (.cond (.t 48)
 (.region [Of 49 7 2,
 ⟨none,(.store 1 (.t 49) (.c (.i .i64 2))),none,[]⟩] [48,49])
 (.region [] [48])))
 (.seq (.region [Lm 50 4 7,
 Ss 4 6 50] [7,50])
 .ret))))
 (.seq (.region [Of 52 9 0,
 Ld 53 52,
 It 54 (.call 8 [(.t 53)]),
 It 55 (.un .not (.t 54)),
 Mv 51 55] [9,35,52,53,54,55])
 (.cond (.t 51)
 (.seq (.region [Mv 56 8,
 Of 57 7 2,
 ⟨none,(.store 1 (.t 57) (.c (.i .i64 3))),none,[]⟩,
 Of 58 7 3,
 Ss 1 58 56] [0,1,2,8,51,56,57,58])
 (.seq (.region [Lm 59 4 7,
 Ss 4 6 59] [7,59])
 .ret))
 (.region [] [51]))))))))
 (.region [Of 60 7 1,
 Ld 61 60,
 It 62 (.bin .add (.t 61) (.c (.i .i64 1))),
 Of 63 7 1,
 Ss 1 63 62] [60,61,62,63]))))
 (.region [Mv 17 8,
 It 18 (.bin .add (.t 17) (.c (.i .i64 1))),
 Mv 8 18] [17,18])))
def I21:IFunc :=
  ⟨(.seq (.region [It 6 (.alloc [i0,i0,i0,i0])] [])
 (.seq (.region [Mv 10 2,
 It 11 (.build [i0,i0,i0,i0] [(0,1,(.t 10))]),
 It 7 (.alloc [i0,i0,i0,i0]),
 Ss 4 7 11] [10,11])
 (.seq (.seq (.region [Mv 12 2,
 Mv 8 12] [12])
 (.block 0
 (.loop L21a)))
 (.seq (.region [Lm 64 4 7,
 Ss 4 6 64] [0,1,2,7,8,16,64])
 .ret)))),
    65,3,[.c 6 (some 4)],0⟩
theorem tr21:trFunc Try.prog (hz [(11,[0,1,2,3,4,5])] I21.body) 0 Try.f21=some (plain1 I21):=by kernel_rfl
theorem ck21:ckC 1 I21.body=true:=by kernel_rfl
def I22:IFunc :=
  ⟨(.seq (.region [It 1 (.box (.t 0)),
 It 2 (.mov (.c (.b false)))] [0,2])
 (.seq (.region [Of 3 1 0,
 Ld 4 3,
 It 5 (.bin .eql (.t 4) (.c (.i .i64 24))),
 Mv 6 5,
 Ig 7 6 false (.off (.t 1) 0),
 Ig 8 6 false (.load none (.t 7)),
 Ig 9 6 false (.bin .eql (.t 8) (.c (.i .i64 25))),
 It 10 (.pick (.t 6) (.c (.b true)) (.t 9)),
 Mv 2 10] [1,3,4,5,6,7,8,9,10])
 .ret)),
    11,1,[.t 2],2⟩
theorem tr22:trFunc Try.prog (hz [] I22.body) 1 Try.f22=some (plain1 I22):=by kernel_rfl
theorem ck22:ckC 1 I22.body=true:=by kernel_rfl
def I23:IFunc :=
  ⟨(.seq (.region [It 1 (.box (.t 0)),
 It 2 (.mov (.c (.b false)))] [0,2])
 (.seq (.region [Of 3 1 3,
 Ld 4 3,
 Le 5 4,
 It 6 (.bin .gtr (.t 5) (.c (.i .i64 512))),
 Mv 2 6] [1,3,4,5,6])
 .ret)),
    7,1,[.t 2],2⟩
theorem tr23:trFunc Try.prog (hz [] I23.body) 1 Try.f23=some (plain1 I23):=by kernel_rfl
theorem ck23:ckC 1 I23.body=true:=by kernel_rfl
def I24:IFunc :=
  ⟨(.seq (.region [It 4 (.mov (.c (.b false)))] [4])
 (.seq (.region [Mv 5 0,
 Mv 6 1,
 It 7 (.call 34 [(.t 5),(.t 6)]),
 It 8 (.bin .geq (.t 7) (.c i0)),
 Mv 4 8] [0,1,5,6,7,8])
 .ret)),
    9,2,[.t 4],2⟩
theorem tr24:trFunc Try.prog (hz [] I24.body) 1 Try.f24=some (plain1 I24):=by kernel_rfl
theorem ck24:ckC 1 I24.body=true:=by kernel_rfl
def I25:IFunc :=
  ⟨(.seq (.region [It 1 (.box (.t 0)),
 It 2 (.mov (.c (.b false)))] [0,2])
 (.seq (.region [Lm 3 5 1,
 It 4 (.call 26 [(.t 3)]),
 It 5 (.bin .neq (.t 4) (.c i0)),
 Mv 2 5] [1,3,4,5])
 .ret)),
    6,1,[.t 2],2⟩
theorem tr25:trFunc Try.prog (hz [] I25.body) 1 Try.f25=some (plain1 I25):=by kernel_rfl
theorem ck25:ckC 1 I25.body=true:=by kernel_rfl
def I26:IFunc :=
  ⟨(.seq (.region [It 1 (.box (.t 0)),
 It 2 (.mov (.c i0))] [0,2])
 (.seq (.seq (.region [Lm 6 5 1,
 It 7 (.call 35 [(.t 6),(.c i0),(.c (.i .i64 256))]),
 Mv 5 7,
 Ex 8 5 0,
 Ex 9 5 1,
 Mv 3 8,
 Mv 4 9] [1,6,7,5,8,9,3])
 (.seq (.region [Mv 10 4,
 It 11 (.un .not (.t 10))] [4,10])
 (.cond (.t 11)
 (.seq (.region [It 2 (.mov (.c (.i .i64 2)))] [11])
 .ret)
 (.region [] [11]))))
 (.seq (.region [It 2 (.mov (.c i0))] [])
 .ret))),
    12,1,[.t 2],2⟩
theorem tr26:trFunc Try.prog (hz [] I26.body) 1 Try.f26=some (plain1 I26):=by kernel_rfl
theorem ck26:ckC 1 I26.body=true:=by kernel_rfl
def I27:IFunc :=
  ⟨(.seq (.region [It 2 (.box (.t 0)),
 It 3 (.mov (.c (.b false)))] [0,3])
 (.seq (.region [Lm 4 4 2,
 It 5 (.call 28 [(.t 1),(.t 4)]),
 It 6 (.un .not (.t 5)),
 Mv 3 6] [1,2,4,5,6])
 .ret)),
    7,2,[.t 3],2⟩
theorem tr27:trFunc Try.prog (hz [] I27.body) 1 Try.f27=some (plain1 I27):=by kernel_rfl
theorem ck27:ckC 1 I27.body=true:=by kernel_rfl
def L28a:ICode :=
  (.seq (.region [It 14 (.bin .lss (.t 13) (.t 12))] [])
 (.seq (.cond (.t 14)
 (.region [] [14])
 (.exit 0))
 (.seq (.block 1
 (.seq (.region [Ia 15 4 11 13,
 Lm 16 4 15,
 It 7 (.alloc [(.s []),i0,i0,.ns]),
 Ss 4 7 16] [15,16])
 (.seq (.region [Of 17 7 0,
 Ld 18 17,
 Of 19 3 0,
 Ld 20 19,
 It 21 (.bin .eql (.t 18) (.t 20))] [7,17,18,19,20])
 (.cond (.t 21)
 (.region [Mv 22 5,
 It 23 (.bin .add (.t 22) (.c (.i .i64 1))),
 Mv 5 23] [21,22,23])
 (.region [] [21])))))
 (.region [It 24 (.bin .add (.t 13) (.c (.i .i64 1))),
 Mv 13 24] [24]))))
def I28:IFunc :=
  ⟨(.seq (.region [It 3 (.box (.t 1)),
 It 4 (.mov (.c (.b false)))] [1,4])
 (.seq (.region [It 5 (.mov (.c i0))] [])
 (.seq (.seq (.region [Mv 8 0,
 It 9 (.nck (.t 8)),
 Of 10 9 0,
 Ld 11 10,
 Le 12 11,
 It 13 (.mov (.c i0))] [0,8,9,10])
 (.block 0
 (.loop L28a)))
 (.seq (.region [Mv 25 5,
 It 26 (.bin .eql (.t 25) (.c (.i .i64 1))),
 Mv 27 26,
 Ig 28 27 true (.off (.t 3) 0),
 Ig 29 27 true (.load none (.t 28)),
 Ig 30 27 true (.call 36 [(.t 29)]),
 It 31 (.pick (.t 27) (.t 30) (.c (.b false))),
 Mv 32 31,
 Ig 33 32 true (.off (.t 3) 1),
 Ig 34 32 true (.load none (.t 33)),
 Ig 35 32 true (.bin .geq (.t 34) (.c i0)),
 It 36 (.pick (.t 32) (.t 35) (.c (.b false))),
 Mv 37 36,
 Ig 38 37 true (.off (.t 3) 1),
 Ig 39 37 true (.load none (.t 38)),
 Ig 40 37 true (.bin .leq (.t 39) (.c (.i .i64 8))),
 It 41 (.pick (.t 37) (.t 40) (.c (.b false))),
 Mv 42 41,
 Ig 43 42 true (.off (.t 3) 2),
 Ig 44 42 true (.load none (.t 43)),
 Ig 45 42 true (.off (.t 3) 1),
 Ig 46 42 true (.load none (.t 45)),
 Ig 47 42 true (.bin .geq (.t 44) (.t 46)),
 It 48 (.pick (.t 42) (.t 47) (.c (.b false))),
 Mv 49 48,
 Ig 50 49 true (.off (.t 3) 2),
 Ig 51 49 true (.load none (.t 50)),
 Ig 52 49 true (.bin .leq (.t 51) (.c (.i .i64 32))),
 It 53 (.pick (.t 49) (.t 52) (.c (.b false))),
 Mv 54 53,
 Ig 55 54 true (.off (.t 3) 3),
 Ig 56 54 true (.load none (.t 55)),
 Ig 57 54 true (.lenk 0 (.t 56)),
 Ig 58 54 true (.bin .gtr (.t 57) (.c i0)),
 It 59 (.pick (.t 54) (.t 58) (.c (.b false))),
 Mv 4 59] [3,5,11,12,13,14,25,26,27,28,29,30,31,32,33,34,35,36,37,38,39,40,41,42,43,44,45,46,47,48,49,50,51,52,53,54,55,56,57,58,59])
 .ret)))),
    60,2,[.t 4],2⟩
theorem tr28:trFunc Try.prog (hz [] I28.body) 1 Try.f28=some (plain1 I28):=by kernel_rfl
theorem ck28:ckC 1 I28.body=true:=by kernel_rfl
def I29:IFunc :=
  ⟨(.seq (.region [It 4 (.mov (.c (.b false)))] [4])
 (.seq (.region [Mv 5 0,
 Mv 6 1,
 It 7 (.call 37 [(.t 5),(.t 6)]),
 It 8 (.bin .geq (.t 7) (.c i0)),
 Mv 4 8] [0,1,5,6,7,8])
 .ret)),
    9,2,[.t 4],2⟩
theorem tr29:trFunc Try.prog (hz [] I29.body) 1 Try.f29=some (plain1 I29):=by kernel_rfl
theorem ck29:ckC 1 I29.body=true:=by kernel_rfl
def I30:IFunc :=
  ⟨(.seq (.region [It 1 (.box (.t 0)),
 It 2 (.mov (.c (.b false)))] [0,2])
 (.seq (.region [Of 4 1 2,
 Of 5 4 0,
 Ld 6 5,
 It 7 (.bin .geq (.t 6) (.c (.i .i64 1))),
 Mv 8 7,
 Ig 9 8 true (.off (.t 1) 2),
 Ig 10 8 true (.off (.t 9) 0),
 Ig 11 8 true (.load none (.t 10)),
 Ig 12 8 true (.bin .leq (.t 11) (.c (.i .i64 31))),
 It 13 (.pick (.t 8) (.t 12) (.c (.b false))),
 Mv 3 13] [4,5,6,7,8,9,10,11,12,13])
 (.seq (.region [Mv 14 3,
 Mv 15 14,
 Ig 16 15 true (.off (.t 1) 2),
 Ig 17 15 true (.off (.t 16) 2),
 Ig 18 15 true (.load none (.t 17)),
 Ig 19 15 true (.bin .eql (.t 18) (.c i0)),
 Ig 20 15 true (.mov (.t 19)),
 Ig 21 20 false (.off (.t 1) 2),
 Ig 22 20 false (.off (.t 21) 0),
 Ig 23 20 false (.load none (.t 22)),
 Ig 24 20 false (.bin .eql (.t 23) (.c (.i .i64 31))),
 Ig 25 15 true (.pick (.t 20) (.c (.b true)) (.t 24)),
 It 26 (.pick (.t 15) (.t 25) (.c (.b false))),
 Mv 27 26,
 Ig 28 27 true (.load (some 5) (.t 1)),
 Ig 29 27 true (.call 38 [(.t 28)]),
 Ig 30 27 true (.callv (.t 29) []),
 It 31 (.pick (.t 27) (.t 30) (.c (.b false))),
 Mv 2 31] [1,3,14,15,16,17,18,19,20,21,22,23,24,25,26,27,28,29,30,31])
 .ret))),
    32,1,[.t 2],2⟩
theorem tr30:trFunc Try.prog (hz [] I30.body) 1 Try.f30=some (plain1 I30):=by kernel_rfl
theorem ck30:ckC 1 I30.body=true:=by kernel_rfl
def I31:IFunc :=
  ⟨(.seq (.seq (.region [Mv 9 1,
 Mv 10 0,
 It 11 (.nck (.t 10)),
 Of 12 11 0,
 Ld 13 12,
 Le 14 13,
 It 15 (.bin .geq (.t 9) (.t 14)),
 Mv 16 15,
 Ig 17 16 false (.mov (.t 2)),
 Ig 18 16 false (.bin .gtr (.t 17) (.c (.i .i64 32))),
 It 19 (.pick (.t 16) (.c (.b true)) (.t 18))] [9,10,11,12,13,14,15,16,17,18])
 (.cond (.t 19)
 (.seq (.region [Mv 20 0,
 It 21 (.nck (.t 20)),
 Of 22 21 2,
 ⟨none,(.store 1 (.t 22) (.c (.b true))),none,[]⟩] [0,1,2,3,19,20,21,22])
 .ret)
 (.region [] [19])))
 (.seq (.region [Mv 23 0,
 It 24 (.nck (.t 23)),
 Of 25 24 0,
 Ld 26 25,
 Mv 27 1,
 Ia 28 3 26 27,
 Mv 8 28] [23,24,25,26,27,28])
 (.seq (.seq (.region [Mv 29 8,
 It 30 (.nck (.t 29)),
 Of 31 30 0,
 Ld 32 31] [29,30,31])
 (.cond (.t 32)
 (.seq (.region [Mv 33 0,
 Mv 34 0,
 It 35 (.nck (.t 34)),
 Of 36 35 2,
 Ld 37 36,
 Mv 38 37,
 Ig 39 38 false (.mov (.t 8)),
 Ig 40 38 false (.nck (.t 39)),
 Ig 41 38 false (.off (.t 40) 1),
 Ig 42 38 false (.load none (.t 41)),
 Ig 43 38 false (.mov (.t 2)),
 Ig 44 38 false (.bin .neq (.t 42) (.t 43)),
 It 45 (.pick (.t 38) (.c (.b true)) (.t 44)),
 Mv 46 45,
 Ig 47 46 false (.mov (.t 8)),
 Ig 48 46 false (.nck (.t 47)),
 Ig 49 46 false (.off (.t 48) 2),
 Ig 50 46 false (.load none (.t 49)),
 Ig 51 46 false (.mov (.t 3)),
 Ig 52 46 false (.call 39 [(.t 50),(.t 51)]),
 Ig 53 46 false (.un .not (.t 52)),
 It 54 (.pick (.t 46) (.c (.b true)) (.t 53)),
 It 55 (.nck (.t 33)),
 Of 56 55 2,
 Ss 1 56 54] [0,1,2,3,8,32,33,34,35,36,37,38,39,40,41,42,43,44,45,46,47,48,49,50,51,52,53,54,55,56])
 .ret)
 (.region [] [32])))
 (.seq (.region [Mv 57 8,
 Mv 58 2,
 Mv 59 3,
 Mv 60 3,
 Le 61 60,
 Mv 62 3,
 Le 63 62,
 It 64 (.sl 2 (.t 59) none (some (.t 61)) (some (.t 63))),
 It 65 (.build [(.b false),i0,.ns] [(0,1,(.c (.b true))),(1,1,(.t 58)),(2,1,(.t 64))]),
 It 66 (.nck (.t 57)),
 Ss 3 66 65] [2,3,8,57,58,59,60,61,62,63,64,65,66])
 (.region [Mv 67 0,
 Mv 68 0,
 It 69 (.nck (.t 68)),
 Of 70 69 1,
 Ld 71 70,
 Mv 72 1,
 It 73 (.bsl 1 1 [i0] [(0,1,(.t 72))]),
 It 74 (.app 1 8 (.t 71) (.t 73)),
 It 75 (.nck (.t 67)),
 Of 76 75 1,
 Ss 1 76 74] [0,1,67,68,69,70,71,72,73,74,75,76]))))),
    77,4,[],0⟩
theorem tr31:trFunc Try.prog (hz [] I31.body) 0 Try.f31=some (plain1 I31):=by kernel_rfl
theorem ck31:ckC 1 I31.body=true:=by kernel_rfl
def I32:IFunc :=
  ⟨(.seq (.region [It 5 (.box (.t 1)),
 It 6 (.box (.t 2))] [1,2])
 (.seq (.region [Mv 14 0,
 It 15 (.nck (.t 14)),
 Of 16 15 0,
 Ld 17 16,
 Mv 18 3,
 Ia 19 3 17 18,
 Lm 20 3 19,
 It 8 (.alloc [(.b false),i0,.ns]),
 Ss 3 8 20] [14,15,16,17,18,19,20])
 (.seq (.region [Lm 22 2 5,
 Lm 23 3 6,
 It 24 (.call 40 [(.t 22),(.t 23)]),
 Mv 21 24,
 Ex 25 21 0,
 Ex 26 21 1,
 Mv 9 25,
 Mv 10 26] [5,22,23,24,21,25,26])
 (.seq (.region [Of 27 8 1,
 Ld 28 27,
 Mv 29 9,
 It 30 (.bin .sub (.t 28) (.t 29)),
 Mv 31 10,
 It 32 (.bin .add (.t 30) (.t 31)),
 Of 33 8 2,
 Ld 34 33,
 Mv 11 32,
 Mv 12 34] [10,27,28,29,30,31,32,33,34])
 (.seq (.seq (.region [Mv 35 9,
 Of 36 8 1,
 Ld 37 36,
 It 38 (.bin .gtr (.t 35) (.t 37)),
 Mv 39 38,
 Ig 40 39 false (.mov (.t 11)),
 Ig 41 39 false (.bin .gtr (.t 40) (.c (.i .i64 32))),
 It 42 (.pick (.t 39) (.c (.b true)) (.t 41))] [35,36,37,38,39,40,41])
 (.cond (.t 42)
 (.seq (.region [Mv 43 0,
 It 44 (.nck (.t 43)),
 Of 45 44 2,
 ⟨none,(.store 1 (.t 45) (.c (.b true))),none,[]⟩] [0,3,6,8,9,11,12,42,43,44,45])
 .ret)
 (.region [] [42])))
 (.seq (.seq (.region [Mv 46 12,
 Le 47 46,
 Mv 13 47] [46,47])
 (.seq (.region [Mv 48 13,
 It 49 (.bin .gtr (.t 48) (.c i0)),
 Mv 50 49,
 Ig 51 50 true (.off (.t 8) 1),
 Ig 52 50 true (.load none (.t 51)),
 Ig 53 50 true (.mov (.t 9)),
 Ig 54 50 true (.bin .sub (.t 52) (.t 53)),
 Ig 55 50 true (.mov (.t 12)),
 Ig 56 50 true (.mov (.t 13)),
 Ig 57 50 true (.bin .sub (.t 56) (.c (.i .i64 1))),
 Ig 58 50 true (.iaddr 2 (.t 55) (.t 57)),
 Ig 59 50 true (.off (.t 58) 1),
 Ig 60 50 true (.load none (.t 59)),
 Ig 61 50 true (.bin .lss (.t 54) (.t 60)),
 It 62 (.pick (.t 50) (.t 61) (.c (.b false)))] [8,9,13,48,49,50,51,52,53,54,55,56,57,58,59,60,61])
 (.cond (.t 62)
 (.seq (.region [Mv 63 0,
 It 64 (.nck (.t 63)),
 Of 65 64 2,
 ⟨none,(.store 1 (.t 65) (.c (.b true))),none,[]⟩] [0,3,6,11,12,62,63,64,65])
 .ret)
 (.region [] [62]))))
 (.seq (.seq (.region [Of 66 6 0,
 Ld 67 66] [66])
 (.block 0
 (.seq (.seq (.region [It 69 (.bin .eql (.t 67) (.c (.i .i64 28))),
 Mv 68 69] [69])
 (.cond (.t 68)
 .skip
 (.region [It 70 (.bin .eql (.t 67) (.c (.i .i64 30))),
 Mv 68 70] [70])))
 (.cond (.t 68)
 .ret
 (.seq (.region [It 72 (.bin .eql (.t 67) (.c (.i .i64 24))),
 Mv 71 72] [68,72])
 (.cond (.t 71)
 (.seq (.region [Mv 73 0,
 Of 74 6 1,
 Ld 75 74,
 Mv 76 11,
 Mv 77 12,
 It 78 (.call 31 [(.t 73),(.t 75),(.t 76),(.t 77)])] [0,3,6,11,12,67,71,73,74,75,76,77,78])
 .ret)
 (.seq (.region [It 80 (.bin .eql (.t 67) (.c (.i .i64 25))),
 Mv 79 80] [71,80])
 (.cond (.t 79)
 (.region [Mv 81 0,
 Of 82 6 1,
 Ld 83 82,
 Mv 84 11,
 Mv 85 12,
 It 86 (.call 31 [(.t 81),(.t 83),(.t 84),(.t 85)])] [6,67,79,81,82,83,84,85,86])
 (.seq (.region [It 88 (.bin .eql (.t 67) (.c (.i .i64 26))),
 Mv 87 88] [79,88])
 (.cond (.t 87)
 (.seq (.region [Mv 89 0,
 Mv 90 0,
 It 91 (.nck (.t 90)),
 Of 92 91 2,
 Ld 93 92,
 Mv 94 93,
 Ig 95 94 false (.mov (.t 12)),
 Ig 96 94 false (.lenk 0 (.t 95)),
 Ig 97 94 false (.bin .geq (.t 96) (.c (.i .i64 8))),
 It 98 (.pick (.t 94) (.c (.b true)) (.t 97)),
 It 99 (.nck (.t 89)),
 Of 100 99 2,
 Ss 1 100 98] [67,87,89,90,91,92,93,94,95,96,97,98,99,100])
 (.seq (.region [Mv 101 0,
 Of 102 6 1,
 Ld 103 102,
 Mv 104 11,
 It 105 (.bin .add (.t 104) (.c (.i .i64 1))),
 Mv 106 12,
 It 107 (.call 31 [(.t 101),(.t 103),(.t 105),(.t 106)])] [101,102,103,104,105,106,107])
 (.region [Mv 108 12,
 Of 109 6 1,
 Ld 110 109,
 Mv 111 11,
 It 112 (.build [i0,i0] [(0,1,(.t 110)),(1,1,(.t 111))]),
 It 113 (.bsl 2 1 [i0,i0] [(0,2,(.t 112))]),
 It 114 (.app 2 16 (.t 108) (.t 113)),
 Mv 12 114] [6,108,109,110,111,112,113,114])))
 (.seq (.region [It 116 (.bin .eql (.t 67) (.c (.i .i64 27))),
 Mv 115 116] [6,67,87,116])
 (.cond (.t 115)
 (.seq (.seq (.region [Mv 117 12,
 Le 118 117,
 It 119 (.bin .eql (.t 118) (.c i0))] [115,117,118])
 (.cond (.t 119)
 (.seq (.region [Mv 120 0,
 It 121 (.nck (.t 120)),
 Of 122 121 2,
 ⟨none,(.store 1 (.t 122) (.c (.b true))),none,[]⟩] [0,3,11,12,119,120,121,122])
 .ret)
 (.region [] [119])))
 (.region [Mv 123 12,
 Mv 124 12,
 Le 125 124,
 It 126 (.bin .sub (.t 125) (.c (.i .i64 1))),
 It 127 (.sl 2 (.t 123) none (some (.t 126)) none),
 Mv 12 127] [123,124,125,126,127]))
 (.region [] [115])))))))))))))
 (.region [Mv 128 0,
 Mv 129 3,
 It 130 (.bin .add (.t 129) (.c (.i .i64 1))),
 Mv 131 11,
 Mv 132 12,
 It 133 (.call 31 [(.t 128),(.t 130),(.t 131),(.t 132)])] [0,3,11,12,128,129,130,131,132,133])))))))),
    134,4,[],0⟩
theorem tr32:trFunc Try.prog (hz [(3,[0,1,2,3,4,5,6,7,8,9]),(8,[0,1,2,3,4,5,6,7,8,9,10,11,12,13,14])] I32.body) 0 Try.f32=some (plain1 I32):=by kernel_rfl
theorem ck32:ckC 1 I32.body=true:=by kernel_rfl
def I33:IFunc:=⟨cloneCode 2 16,8,1,[.t 2],4⟩
theorem tr33:trFunc Try.prog [([],[]),([],[]),([],[]),([],[]),([],[])] 1 Try.f33=some (plain1 I33):=by kernel_rfl
theorem ck33:ckC 1 (cloneCode 2 16)=true:=by kernel_rfl
def L34a:ICode :=
  (.seq (.region [It 9 (.bin .lss (.t 8) (.t 7))] [])
 (.seq (.cond (.t 9)
 (.region [] [9])
 (.exit 0))
 (.seq (.block 1
 (.seq (.region [Mv 10 8,
 Mv 5 10] [10])
 (.seq (.region [Mv 11 1,
 Mv 12 0,
 Mv 13 5,
 Ia 14 4 12 13,
 Lm 15 4 14,
 It 16 (.callv (.t 11) [(.t 15)])] [11,12,13,14,15])
 (.cond (.t 16)
 (.seq (.region [Mv 17 5,
 Mv 4 17] [0,1,7,8,5,16,17])
 .ret)
 (.region [] [5,16])))))
 (.region [It 18 (.bin .add (.t 8) (.c (.i .i64 1))),
 Mv 8 18] [18]))))
def I34:IFunc :=
  ⟨(.seq (.region [It 4 (.mov (.c i0))] [4])
 (.seq (.seq (.region [Mv 6 0,
 Le 7 6,
 It 8 (.mov (.c i0))] [6])
 (.block 0
 (.loop L34a)))
 (.seq (.region [It 4 (.mov (.c (.i .i64 (-1))))] [0,1,7,8,9])
 .ret))),
    19,2,[.t 4],2⟩
theorem tr34:trFunc Try.prog (hz [] I34.body) 1 Try.f34=some (plain1 I34):=by kernel_rfl
theorem ck34:ckC 1 I34.body=true:=by kernel_rfl
def L35a:ICode :=
  (.seq (.region [It 22 (.bin .lss (.t 21) (.t 20))] [])
 (.seq (.cond (.t 22)
 (.region [] [22])
 (.exit 0))
 (.seq (.block 1
 (.seq (.region [Ia 23 1 19 21,
 Ld 24 23,
 Mv 9 24] [23,24])
 (.region [Mv 25 2,
 Mv 26 9,
 It 27 (.lenk 1 (.t 26)),
 It 28 (.bin .sub (.t 25) (.t 27)),
 Mv 2 28] [9,25,26,27,28])))
 (.region [It 29 (.bin .add (.t 21) (.c (.i .i64 1))),
 Mv 21 29] [29]))))
def L35b:ICode :=
  (.seq (.region [It 45 (.bin .lss (.t 44) (.t 43))] [])
 (.seq (.cond (.t 45)
 (.region [] [45])
 (.exit 2))
 (.seq (.block 3
 (.seq (.region [Mv 46 44,
 Mv 11 46] [46])
 (.seq (.region [Of 48 3 3,
 Ld 49 48,
 Mv 50 11,
 Ia 51 5 49 50,
 Lm 52 5 51,
 Mv 53 1,
 It 54 (.bin .add (.t 53) (.c (.i .i64 1))),
 Mv 55 2,
 It 56 (.call 35 [(.t 52),(.t 54),(.t 55)]),
 Mv 47 56,
 Ex 57 47 0,
 Ex 58 47 1,
 Mv 2 57,
 Mv 10 58] [11,48,49,50,51,52,53,54,55,56,47,57,58])
 (.seq (.region [Mv 59 10,
 It 60 (.un .not (.t 59))] [10,59])
 (.cond (.t 60)
 (.seq (.region [It 6 (.mov (.c i0)),
 It 7 (.mov (.c (.b false)))] [1,2,3,43,44,60])
 .ret)
 (.region [] [60]))))))
 (.region [It 61 (.bin .add (.t 44) (.c (.i .i64 1))),
 Mv 44 61] [61]))))
def I35:IFunc :=
  ⟨(.seq (.region [It 3 (.box (.t 0)),
 It 6 (.mov (.c i0)),
 It 7 (.mov (.c (.b false)))] [0,6,7])
 (.seq (.region [Mv 12 2,
 Of 13 3 2,
 Ld 14 13,
 It 15 (.lenk 1 (.t 14)),
 It 16 (.bin .add (.c (.i .i64 1)) (.t 15)),
 It 17 (.bin .sub (.t 12) (.t 16)),
 Mv 2 17] [12,13,14,15,16,17])
 (.seq (.seq (.region [Of 18 3 4,
 Ld 19 18,
 Le 20 19,
 It 21 (.mov (.c i0))] [18])
 (.block 0
 (.loop L35a)))
 (.seq (.seq (.region [Mv 30 1,
 It 31 (.bin .geq (.t 30) (.c (.i .i64 8))),
 Mv 32 31,
 Ig 33 32 false (.mov (.t 2)),
 Ig 34 32 false (.bin .lss (.t 33) (.c i0)),
 It 35 (.pick (.t 32) (.c (.b true)) (.t 34)),
 Mv 36 35,
 Ig 37 36 false (.load (some 5) (.t 3)),
 Ig 38 36 false (.call 41 [(.t 37)]),
 Ig 39 36 false (.un .not (.t 38)),
 It 40 (.pick (.t 36) (.c (.b true)) (.t 39))] [19,20,21,22,30,31,32,33,34,35,36,37,38,39])
 (.cond (.t 40)
 (.seq (.region [It 6 (.mov (.c i0)),
 It 7 (.mov (.c (.b false)))] [1,2,3,40])
 .ret)
 (.region [] [40])))
 (.seq (.region [It 10 (.mov (.c (.b true)))] [10])
 (.seq (.seq (.region [Of 41 3 3,
 Ld 42 41,
 Le 43 42,
 It 44 (.mov (.c i0))] [41,42])
 (.block 2
 (.loop L35b)))
 (.seq (.region [Mv 62 2,
 Mv 6 62,
 It 7 (.mov (.c (.b true)))] [1,2,3,43,44,45,62])
 .ret))))))),
    63,3,[.t 6,.t 7],2⟩
theorem tr35:trFunc Try.prog (hz [] I35.body) 1 Try.f35=some (plain1 I35):=by kernel_rfl
theorem ck35:ckC 1 I35.body=true:=by kernel_rfl
def I36:IFunc :=
  ⟨(.seq (.region [It 2 (.mov (.c (.b false)))] [2])
 (.seq (.region [Mv 3 0,
 It 4 (.bsl 1 1 [(.s [])] [(0,1,(.t 3))]),
 It 5 (.mksl 5 80 [i0,i0,(.s []),.ns,.ns] (.c (.i .i64 1)) (.c (.i .i64 1))),
 It 6 (.build [i0,i0,(.s []),.ns,.ns] [(0,1,(.c (.i .i64 5))),(4,1,(.t 4)),(3,1,(.t 5))]),
 It 7 (.call 26 [(.t 6)]),
 It 8 (.bin .eql (.t 7) (.c i0)),
 Mv 2 8] [0,3,4,5,6,7,8])
 .ret)),
    9,1,[.t 2],2⟩
theorem tr36:trFunc Try.prog (hz [] I36.body) 1 Try.f36=some (plain1 I36):=by kernel_rfl
theorem ck36:ckC 1 I36.body=true:=by kernel_rfl
def L37a:ICode :=
  (.seq (.region [It 9 (.bin .lss (.t 8) (.t 7))] [])
 (.seq (.cond (.t 9)
 (.region [] [9])
 (.exit 0))
 (.seq (.block 1
 (.seq (.region [Mv 10 8,
 Mv 5 10] [10])
 (.seq (.region [Mv 11 1,
 Mv 12 0,
 Mv 13 5,
 Ia 14 5 12 13,
 Lm 15 5 14,
 It 16 (.callv (.t 11) [(.t 15)])] [11,12,13,14,15])
 (.cond (.t 16)
 (.seq (.region [Mv 17 5,
 Mv 4 17] [0,1,7,8,5,16,17])
 .ret)
 (.region [] [5,16])))))
 (.region [It 18 (.bin .add (.t 8) (.c (.i .i64 1))),
 Mv 8 18] [18]))))
def I37:IFunc :=
  ⟨(.seq (.region [It 4 (.mov (.c i0))] [4])
 (.seq (.seq (.region [Mv 6 0,
 Le 7 6,
 It 8 (.mov (.c i0))] [6])
 (.block 0
 (.loop L37a)))
 (.seq (.region [It 4 (.mov (.c (.i .i64 (-1))))] [0,1,7,8,9])
 .ret))),
    19,2,[.t 4],2⟩
theorem tr37:trFunc Try.prog (hz [] I37.body) 1 Try.f37=some (plain1 I37):=by kernel_rfl
theorem ck37:ckC 1 I37.body=true:=by kernel_rfl
def I38:IFunc :=
  ⟨(.seq (.region [It 1 (.box (.t 0)),
 It 2 (.mov (.c .nf))] [0,2])
 (.seq (.seq (.region [Of 3 1 2,
 Of 4 3 0,
 Ld 5 4] [3,4])
 (.block 0
 (.seq (.region [It 7 (.bin .eql (.t 5) (.c (.i .i64 1))),
 Mv 6 7] [7])
 (.cond (.t 6)
 (.seq (.region [Lm 8 5 1,
 It 9 (.mkf 42 [(.t 8)] []),
 Mv 2 9] [1,5,6,8,9])
 .ret)
 (.seq (.seq (.region [It 11 (.bin .eql (.t 5) (.c (.i .i64 2))),
 Mv 10 11] [6,11])
 (.cond (.t 10)
 .skip
 (.region [It 12 (.bin .eql (.t 5) (.c (.i .i64 3))),
 Mv 10 12] [12])))
 (.cond (.t 10)
 (.seq (.region [Lm 13 5 1,
 It 14 (.mkf 43 [(.t 13)] []),
 Mv 2 14] [1,5,10,13,14])
 .ret)
 (.seq (.region [It 16 (.bin .eql (.t 5) (.c (.i .i64 20))),
 Mv 15 16] [10,16])
 (.cond (.t 15)
 (.seq (.region [Lm 17 5 1,
 It 18 (.mkf 44 [(.t 17)] []),
 Mv 2 18] [1,5,15,17,18])
 .ret)
 (.seq (.region [It 20 (.bin .eql (.t 5) (.c (.i .i64 21))),
 Mv 19 20] [15,20])
 (.cond (.t 19)
 (.seq (.region [Lm 21 5 1,
 It 22 (.mkf 45 [(.t 21)] []),
 Mv 2 22] [1,5,19,21,22])
 .ret)
 (.seq (.region [It 24 (.bin .eql (.t 5) (.c (.i .i64 22))),
 Mv 23 24] [19,24])
 (.cond (.t 23)
 (.seq (.region [Lm 25 5 1,
 It 26 (.mkf 46 [(.t 25)] []),
 Mv 2 26] [1,5,23,25,26])
 .ret)
 (.seq (.region [It 28 (.bin .eql (.t 5) (.c (.i .i64 23))),
 Mv 27 28] [23,28])
 (.cond (.t 27)
 (.seq (.region [Lm 29 5 1,
 It 30 (.mkf 47 [(.t 29)] []),
 Mv 2 30] [1,5,27,29,30])
 .ret)
 (.seq (.seq (.region [It 32 (.bin .eql (.t 5) (.c (.i .i64 24))),
 Mv 31 32] [27,32])
 (.cond (.t 31)
 .skip
 (.seq (.region [It 33 (.bin .eql (.t 5) (.c (.i .i64 25))),
 Mv 31 33] [33])
 (.cond (.t 31)
 .skip
 (.region [It 34 (.bin .eql (.t 5) (.c (.i .i64 26))),
 Mv 31 34] [34])))))
 (.cond (.t 31)
 (.seq (.region [Lm 35 5 1,
 It 36 (.mkf 48 [(.t 35)] []),
 Mv 2 36] [1,5,31,35,36])
 .ret)
 (.seq (.region [It 38 (.bin .eql (.t 5) (.c (.i .i64 29))),
 Mv 37 38] [31,38])
 (.cond (.t 37)
 (.seq (.region [Lm 39 5 1,
 It 40 (.mkf 49 [(.t 39)] []),
 Mv 2 40] [1,5,37,39,40])
 .ret)
 (.seq (.region [It 42 (.bin .eql (.t 5) (.c (.i .i64 31))),
 Mv 41 42] [5,37,42])
 (.cond (.t 41)
 (.seq (.region [Lm 43 5 1,
 It 44 (.mkf 50 [(.t 43)] []),
 Mv 2 44] [1,41,43,44])
 .ret)
 (.region [] [41])))))))))))))))))))))
 (.seq (.region [Lm 45 5 1,
 It 46 (.mkf 51 [(.t 45)] []),
 Mv 2 46] [1,45,46])
 .ret))),
    47,1,[.t 2],1⟩
theorem tr38:trFunc Try.prog (hz [] I38.body) 1 Try.f38=some (plain1 I38):=by kernel_rfl
theorem ck38:ckC 1 I38.body=true:=by kernel_rfl
def L39a:ICode :=
  (.seq (.region [It 14 (.bin .lss (.t 13) (.t 12))] [])
 (.seq (.cond (.t 14)
 (.region [] [14])
 (.exit 0))
 (.seq (.block 1
 (.seq (.region [Mv 15 13,
 Mv 5 15] [15])
 (.seq (.region [Mv 16 0,
 Mv 17 5,
 Ia 18 2 16 17,
 Lm 19 2 18,
 Mv 20 1,
 Mv 21 5,
 Ia 22 2 20 21,
 Lm 23 2 22,
 It 24 (.eqAg [1,1] true (.t 19) (.t 23))] [5,16,17,18,19,20,21,22,23])
 (.cond (.t 24)
 (.seq (.region [It 4 (.mov (.c (.b false)))] [0,1,12,13,24])
 .ret)
 (.region [] [24])))))
 (.region [It 25 (.bin .add (.t 13) (.c (.i .i64 1))),
 Mv 13 25] [25]))))
def I39:IFunc :=
  ⟨(.seq (.region [It 4 (.mov (.c (.b false)))] [4])
 (.seq (.seq (.region [Mv 6 0,
 Le 7 6,
 Mv 8 1,
 Le 9 8,
 It 10 (.bin .neq (.t 7) (.t 9))] [6,7,8,9])
 (.cond (.t 10)
 (.seq (.region [It 4 (.mov (.c (.b false)))] [0,1,10])
 .ret)
 (.region [] [10])))
 (.seq (.seq (.region [Mv 11 0,
 Le 12 11,
 It 13 (.mov (.c i0))] [11])
 (.block 0
 (.loop L39a)))
 (.seq (.region [It 4 (.mov (.c (.b true)))] [0,1,12,13,14])
 .ret)))),
    26,2,[.t 4],2⟩
theorem tr39:trFunc Try.prog (hz [(8,[0,1,2,3,4,5,6,7,8])] I39.body) 1 Try.f39=some (plain1 I39):=by kernel_rfl
theorem ck39:ckC 1 I39.body=true:=by kernel_rfl
def I40:IFunc :=
  ⟨(.seq (.region [It 2 (.box (.t 0)),
 It 3 (.box (.t 1)),
 It 4 (.mov (.c i0)),
 It 5 (.mov (.c i0))] [0,1,5])
 (.seq (.block 0
 (.seq (.region [Of 7 3 0,
 Ld 8 7,
 It 9 (.bin .eql (.t 8) (.c (.i .i64 1))),
 Mv 10 9,
 Ig 11 10 false (.off (.t 3) 0),
 Ig 12 10 false (.load none (.t 11)),
 Ig 13 10 false (.bin .eql (.t 12) (.c (.i .i64 2))),
 It 14 (.pick (.t 10) (.c (.b true)) (.t 13)),
 Mv 6 14] [7,8,9,10,11,12,13,14])
 (.cond (.t 6)
 (.seq (.region [It 4 (.mov (.c i0)),
 It 5 (.mov (.c (.i .i64 1)))] [2,3,6])
 .ret)
 (.seq (.region [Of 16 3 0,
 Ld 17 16,
 It 18 (.bin .eql (.t 17) (.c (.i .i64 5))),
 Mv 15 18] [6,16,17,18])
 (.cond (.t 15)
 (.seq (.region [It 4 (.mov (.c (.i .i64 1))),
 It 5 (.mov (.c (.i .i64 2)))] [2,3,15])
 .ret)
 (.seq (.seq (.region [Of 20 3 0,
 Ld 21 20,
 It 22 (.bin .eql (.t 21) (.c (.i .i64 3))),
 Mv 19 22] [15,20,21,22])
 (.cond (.t 19)
 .skip
 (.seq (.region [Of 23 3 0,
 Ld 24 23,
 It 25 (.bin .eql (.t 24) (.c (.i .i64 4))),
 Mv 19 25] [23,24,25])
 (.cond (.t 19)
 .skip
 (.seq (.region [Of 26 3 0,
 Ld 27 26,
 It 28 (.bin .eql (.t 27) (.c (.i .i64 25))),
 Mv 19 28] [26,27,28])
 (.cond (.t 19)
 .skip
 (.seq (.region [Of 29 3 0,
 Ld 30 29,
 It 31 (.bin .eql (.t 30) (.c (.i .i64 28))),
 Mv 19 31] [29,30,31])
 (.cond (.t 19)
 .skip
 (.region [Of 32 3 0,
 Ld 33 32,
 It 34 (.bin .eql (.t 33) (.c (.i .i64 30))),
 Mv 19 34] [32,33,34])))))))))
 (.cond (.t 19)
 (.seq (.region [It 4 (.mov (.c (.i .i64 1))),
 It 5 (.mov (.c i0))] [2,3,19])
 .ret)
 (.seq (.seq (.region [Of 36 3 0,
 Ld 37 36,
 It 38 (.bin .geq (.t 37) (.c (.i .i64 6))),
 Mv 39 38,
 Ig 40 39 true (.off (.t 3) 0),
 Ig 41 39 true (.load none (.t 40)),
 Ig 42 39 true (.bin .leq (.t 41) (.c (.i .i64 8))),
 It 43 (.pick (.t 39) (.t 42) (.c (.b false))),
 Mv 35 43] [19,36,37,38,39,40,41,42,43])
 (.cond (.t 35)
 .skip
 (.seq (.region [Of 44 3 0,
 Ld 45 44,
 It 46 (.bin .eql (.t 45) (.c (.i .i64 22))),
 Mv 35 46] [44,45,46])
 (.cond (.t 35)
 .skip
 (.region [Of 47 3 0,
 Ld 48 47,
 It 49 (.bin .eql (.t 48) (.c (.i .i64 23))),
 Mv 35 49] [47,48,49])))))
 (.cond (.t 35)
 (.seq (.region [It 4 (.mov (.c (.i .i64 1))),
 It 5 (.mov (.c (.i .i64 1)))] [2,3,35])
 .ret)
 (.seq (.region [Of 51 3 0,
 Ld 52 51,
 It 53 (.bin .geq (.t 52) (.c (.i .i64 9))),
 Mv 54 53,
 Ig 55 54 true (.off (.t 3) 0),
 Ig 56 54 true (.load none (.t 55)),
 Ig 57 54 true (.bin .leq (.t 56) (.c (.i .i64 19))),
 It 58 (.pick (.t 54) (.t 57) (.c (.b false))),
 Mv 50 58] [35,51,52,53,54,55,56,57,58])
 (.cond (.t 50)
 (.seq (.region [It 4 (.mov (.c (.i .i64 2))),
 It 5 (.mov (.c (.i .i64 1)))] [2,3,50])
 .ret)
 (.seq (.region [Of 60 3 0,
 Ld 61 60,
 It 62 (.bin .eql (.t 61) (.c (.i .i64 20))),
 Mv 59 62] [50,60,61,62])
 (.cond (.t 59)
 (.seq (.region [Of 63 3 1,
 Ld 64 63,
 Mv 4 64,
 It 5 (.mov (.c (.i .i64 1)))] [2,3,59,63,64])
 .ret)
 (.seq (.region [Of 66 3 0,
 Ld 67 66,
 It 68 (.bin .eql (.t 67) (.c (.i .i64 21))),
 Mv 65 68] [59,66,67,68])
 (.cond (.t 65)
 (.seq (.seq (.region [Of 69 3 1,
 Ld 70 69,
 It 71 (.bin .geq (.t 70) (.c i0)),
 Mv 72 71,
 Ig 73 72 true (.off (.t 3) 1),
 Ig 74 72 true (.load none (.t 73)),
 Ig 75 72 true (.off (.t 2) 1),
 Ig 76 72 true (.load none (.t 75)),
 Ig 77 72 true (.lenk 0 (.t 76)),
 Ig 78 72 true (.bin .lss (.t 74) (.t 77)),
 It 79 (.pick (.t 72) (.t 78) (.c (.b false)))] [65,69,70,71,72,73,74,75,76,77,78])
 (.cond (.t 79)
 (.region [Of 80 2 1,
 Ld 81 80,
 Of 82 3 1,
 Ld 83 82,
 Ia 84 5 81 83,
 Of 85 84 3,
 Ld 86 85,
 Le 87 86,
 Mv 4 87] [2,3,79,80,81,82,83,84,85,86,87])
 (.region [] [2,3,79])))
 (.seq (.region [Mv 88 4,
 Mv 4 88,
 It 5 (.mov (.c (.i .i64 1)))] [88])
 .ret))
 (.seq (.region [Of 90 3 0,
 Ld 91 90,
 It 92 (.bin .eql (.t 91) (.c (.i .i64 29))),
 Mv 89 92] [65,90,91,92])
 (.cond (.t 89)
 (.seq (.seq (.region [Of 93 3 1,
 Ld 94 93,
 It 95 (.bin .geq (.t 94) (.c i0)),
 Mv 96 95,
 Ig 97 96 true (.off (.t 3) 1),
 Ig 98 96 true (.load none (.t 97)),
 Ig 99 96 true (.off (.t 2) 0),
 Ig 100 96 true (.load none (.t 99)),
 Ig 101 96 true (.lenk 0 (.t 100)),
 Ig 102 96 true (.bin .lss (.t 98) (.t 101)),
 It 103 (.pick (.t 96) (.t 102) (.c (.b false)))] [89,93,94,95,96,97,98,99,100,101,102])
 (.cond (.t 103)
 (.region [Of 104 2 0,
 Ld 105 104,
 Of 106 3 1,
 Ld 107 106,
 Ia 108 4 105 107,
 Of 109 108 1,
 Ld 110 109,
 Mv 4 110] [2,3,103,104,105,106,107,108,109,110])
 (.region [] [2,3,103])))
 (.seq (.region [Mv 111 4,
 Mv 4 111,
 It 5 (.mov (.c (.i .i64 1)))] [111])
 .ret))
 (.seq (.region [Of 113 3 0,
 Ld 114 113,
 It 115 (.bin .eql (.t 114) (.c (.i .i64 31))),
 Mv 112 115] [2,89,113,114,115])
 (.cond (.t 112)
 (.seq (.seq (.region [Of 116 3 1,
 Ld 117 116,
 It 118 (.bin .neq (.t 117) (.c (.i .i64 3))),
 Mv 119 118,
 Ig 120 119 true (.off (.t 3) 1),
 Ig 121 119 true (.load none (.t 120)),
 Ig 122 119 true (.bin .neq (.t 121) (.c (.i .i64 5))),
 It 123 (.pick (.t 119) (.t 122) (.c (.b false))),
 Mv 124 123,
 Ig 125 124 true (.off (.t 3) 1),
 Ig 126 124 true (.load none (.t 125)),
 Ig 127 124 true (.bin .neq (.t 126) (.c (.i .i64 6))),
 It 128 (.pick (.t 124) (.t 127) (.c (.b false)))] [3,112,116,117,118,119,120,121,122,123,124,125,126,127])
 (.cond (.t 128)
 (.region [It 4 (.mov (.c (.i .i64 1)))] [128])
 (.region [] [128])))
 (.seq (.region [Mv 129 4,
 Mv 4 129,
 It 5 (.mov (.c (.i .i64 1)))] [129])
 .ret))
 (.region [] [3,4,112]))))))))))))))))))))
 (.seq (.region [It 4 (.mov (.c i0)),
 It 5 (.mov (.c i0))] [])
 .ret))),
    130,2,[.t 4,.t 5],2⟩
theorem tr40:trFunc Try.prog (hz [] I40.body) 1 Try.f40=some (plain1 I40):=by kernel_rfl
theorem ck40:ckC 1 I40.body=true:=by kernel_rfl
def I41:IFunc :=
  ⟨(.seq (.region [It 1 (.box (.t 0)),
 It 2 (.mov (.c (.b false)))] [0,2])
 (.seq (.seq (.region [Of 3 1 0,
 Ld 4 3] [3])
 (.block 0
 (.seq (.region [It 6 (.bin .eql (.t 4) (.c i0)),
 Mv 5 6] [6])
 (.cond (.t 5)
 (.seq (.region [Of 7 1 1,
 Ld 8 7,
 It 9 (.bin .eql (.t 8) (.c i0)),
 Mv 10 9,
 Ig 11 10 true (.build [(.b false),(.b false),(.b false)] []),
 Ig 12 10 true (.load (some 5) (.t 1)),
 Ig 13 10 true (.call 52 [(.t 11),(.t 12)]),
 It 14 (.pick (.t 10) (.t 13) (.c (.b false))),
 Mv 2 14] [1,4,5,7,8,9,10,11,12,13,14])
 .ret)
 (.seq (.region [It 16 (.bin .eql (.t 4) (.c (.i .i64 1))),
 Mv 15 16] [5,16])
 (.cond (.t 15)
 (.seq (.region [It 17 (.build [(.b false),(.b false),(.b false)] []),
 Lm 18 5 1,
 It 19 (.call 52 [(.t 17),(.t 18)]),
 Mv 2 19] [1,4,15,17,18,19])
 .ret)
 (.seq (.region [It 21 (.bin .eql (.t 4) (.c (.i .i64 2))),
 Mv 20 21] [15,21])
 (.cond (.t 20)
 (.seq (.region [Of 22 1 1,
 Ld 23 22,
 It 24 (.bin .andNot (.t 23) (.c (.i .i64 1))),
 It 25 (.bin .eql (.t 24) (.c i0)),
 Mv 26 25,
 Ig 27 26 true (.build [(.b false),(.b false),(.b false)] []),
 Ig 28 26 true (.load (some 5) (.t 1)),
 Ig 29 26 true (.call 52 [(.t 27),(.t 28)]),
 It 30 (.pick (.t 26) (.t 29) (.c (.b false))),
 Mv 2 30] [1,4,20,22,23,24,25,26,27,28,29,30])
 .ret)
 (.seq (.region [It 32 (.bin .eql (.t 4) (.c (.i .i64 6))),
 Mv 31 32] [20,32])
 (.cond (.t 31)
 (.seq (.region [Of 33 1 1,
 Ld 34 33,
 It 35 (.bin .geq (.t 34) (.c (.i .i64 1))),
 Mv 36 35,
 Ig 37 36 true (.off (.t 1) 1),
 Ig 38 36 true (.load none (.t 37)),
 Ig 39 36 true (.bin .leq (.t 38) (.c (.i .i64 64))),
 It 40 (.pick (.t 36) (.t 39) (.c (.b false))),
 Mv 41 40,
 Ig 42 41 true (.build [(.b false),(.b false),(.b false)] []),
 Ig 43 41 true (.load (some 5) (.t 1)),
 Ig 44 41 true (.call 52 [(.t 42),(.t 43)]),
 It 45 (.pick (.t 41) (.t 44) (.c (.b false))),
 Mv 2 45] [1,4,31,33,34,35,36,37,38,39,40,41,42,43,44,45])
 .ret)
 (.seq (.region [It 47 (.bin .eql (.t 4) (.c (.i .i64 3))),
 Mv 46 47] [31,47])
 (.cond (.t 46)
 (.seq (.region [Of 48 1 1,
 Ld 49 48,
 It 50 (.bin .eql (.t 49) (.c i0)),
 Mv 51 50,
 Ig 52 51 true (.off (.t 1) 2),
 Ig 53 51 true (.load none (.t 52)),
 Ig 54 51 true (.lenk 1 (.t 53)),
 Ig 55 51 true (.bin .leq (.t 54) (.c (.i .i64 64))),
 It 56 (.pick (.t 51) (.t 55) (.c (.b false))),
 Mv 57 56,
 Ig 58 57 true (.build [(.b false),(.b false),(.b false)] [(0,1,(.c (.b true)))]),
 Ig 59 57 true (.load (some 5) (.t 1)),
 Ig 60 57 true (.call 52 [(.t 58),(.t 59)]),
 It 61 (.pick (.t 57) (.t 60) (.c (.b false))),
 Mv 2 61] [1,4,46,48,49,50,51,52,53,54,55,56,57,58,59,60,61])
 .ret)
 (.seq (.region [It 63 (.bin .eql (.t 4) (.c (.i .i64 4))),
 Mv 62 63] [46,63])
 (.cond (.t 62)
 (.seq (.region [Of 64 1 1,
 Ld 65 64,
 It 66 (.bin .eql (.t 65) (.c i0)),
 Mv 67 66,
 Ig 68 67 true (.off (.t 1) 3),
 Ig 69 67 true (.load none (.t 68)),
 Ig 70 67 true (.lenk 0 (.t 69)),
 Ig 71 67 true (.bin .leq (.t 70) (.c (.i .i64 32))),
 It 72 (.pick (.t 67) (.t 71) (.c (.b false))),
 Mv 73 72,
 Ig 74 73 true (.build [(.b false),(.b false),(.b false)] [(1,1,(.c (.b true)))]),
 Ig 75 73 true (.load (some 5) (.t 1)),
 Ig 76 73 true (.call 52 [(.t 74),(.t 75)]),
 It 77 (.pick (.t 73) (.t 76) (.c (.b false))),
 Mv 2 77] [1,4,62,64,65,66,67,68,69,70,71,72,73,74,75,76,77])
 .ret)
 (.seq (.region [It 79 (.bin .eql (.t 4) (.c (.i .i64 5))),
 Mv 78 79] [4,62,79])
 (.cond (.t 78)
 (.seq (.region [Of 80 1 1,
 Ld 81 80,
 It 82 (.bin .eql (.t 81) (.c i0)),
 Mv 83 82,
 Ig 84 83 true (.off (.t 1) 3),
 Ig 85 83 true (.load none (.t 84)),
 Ig 86 83 true (.lenk 0 (.t 85)),
 Ig 87 83 true (.off (.t 1) 4),
 Ig 88 83 true (.load none (.t 87)),
 Ig 89 83 true (.lenk 0 (.t 88)),
 Ig 90 83 true (.bin .eql (.t 86) (.t 89)),
 It 91 (.pick (.t 83) (.t 90) (.c (.b false))),
 Mv 92 91,
 Ig 93 92 true (.off (.t 1) 3),
 Ig 94 92 true (.load none (.t 93)),
 Ig 95 92 true (.lenk 0 (.t 94)),
 Ig 96 92 true (.bin .leq (.t 95) (.c (.i .i64 8))),
 It 97 (.pick (.t 92) (.t 96) (.c (.b false))),
 Mv 98 97,
 Ig 99 98 true (.build [(.b false),(.b false),(.b false)] [(1,1,(.c (.b true))),(2,1,(.c (.b true)))]),
 Ig 100 98 true (.load (some 5) (.t 1)),
 Ig 101 98 true (.call 52 [(.t 99),(.t 100)]),
 It 102 (.pick (.t 98) (.t 101) (.c (.b false))),
 Mv 103 102,
 Ig 104 103 true (.off (.t 1) 4),
 Ig 105 103 true (.load none (.t 104)),
 Ig 106 103 true (.call 53 [(.t 105)]),
 It 107 (.pick (.t 103) (.t 106) (.c (.b false))),
 Mv 2 107] [1,78,80,81,82,83,84,85,86,87,88,89,90,91,92,93,94,95,96,97,98,99,100,101,102,103,104,105,106,107])
 .ret)
 (.region [] [1,78])))))))))))))))))
 (.seq (.region [It 2 (.mov (.c (.b false)))] [])
 .ret))),
    108,1,[.t 2],2⟩
theorem tr41:trFunc Try.prog (hz [] I41.body) 1 Try.f41=some (plain1 I41):=by kernel_rfl
theorem ck41:ckC 1 I41.body=true:=by kernel_rfl
def I42:IFunc :=
  ⟨(.seq (.region [It 1 (.box (.t 0)),
 It 2 (.mov (.c (.b false)))] [0,2])
 (.seq (.region [Of 3 1 2,
 Of 4 3 1,
 Ld 5 4,
 It 6 (.bin .geq (.t 5) (.c i0)),
 Mv 7 6,
 Ig 8 7 true (.off (.t 1) 2),
 Ig 9 7 true (.off (.t 8) 1),
 Ig 10 7 true (.load none (.t 9)),
 Ig 11 7 true (.off (.t 1) 0),
 Ig 12 7 true (.load none (.t 11)),
 Ig 13 7 true (.nck (.t 12)),
 Ig 14 7 true (.off (.t 13) 1),
 Ig 15 7 true (.load none (.t 14)),
 Ig 16 7 true (.lenk 0 (.t 15)),
 Ig 17 7 true (.bin .lss (.t 10) (.t 16)),
 It 18 (.pick (.t 7) (.t 17) (.c (.b false))),
 Mv 2 18] [1,3,4,5,6,7,8,9,10,11,12,13,14,15,16,17,18])
 .ret)),
    19,1,[.t 2],2⟩
theorem tr42:trFunc Try.prog (hz [(1,[0,1,2,3,4,5,6,7,8,9,10,11,12,13,14,15,16])] I42.body) 1 Try.f42=some (plain1 I42):=by kernel_rfl
theorem ck42:ckC 1 I42.body=true:=by kernel_rfl
def I43:IFunc :=
  ⟨(.seq (.region [It 1 (.box (.t 0)),
 It 2 (.mov (.c (.b false)))] [0,2])
 (.seq (.region [Of 3 1 2,
 Of 4 3 1,
 Ld 5 4,
 It 6 (.bin .geq (.t 5) (.c i0)),
 Mv 7 6,
 Ig 8 7 true (.off (.t 1) 2),
 Ig 9 7 true (.off (.t 8) 1),
 Ig 10 7 true (.load none (.t 9)),
 Ig 11 7 true (.off (.t 1) 1),
 Ig 12 7 true (.load none (.t 11)),
 Ig 13 7 true (.nck (.t 12)),
 Ig 14 7 true (.off (.t 13) 2),
 Ig 15 7 true (.load none (.t 14)),
 Ig 16 7 true (.bin .lss (.t 10) (.t 15)),
 It 17 (.pick (.t 7) (.t 16) (.c (.b false))),
 Mv 2 17] [1,3,4,5,6,7,8,9,10,11,12,13,14,15,16,17])
 .ret)),
    18,1,[.t 2],2⟩
theorem tr43:trFunc Try.prog (hz [(1,[0,1,2,3,4,5,6,7,8,9,10,11,12,13,14,15])] I43.body) 1 Try.f43=some (plain1 I43):=by kernel_rfl
theorem ck43:ckC 1 I43.body=true:=by kernel_rfl
def I44:IFunc :=
  ⟨(.seq (.region [It 1 (.box (.t 0)),
 It 2 (.mov (.c (.b false)))] [0,2])
 (.seq (.region [Of 3 1 2,
 Of 4 3 1,
 Ld 5 4,
 It 6 (.bin .geq (.t 5) (.c i0)),
 Mv 7 6,
 Ig 8 7 true (.off (.t 1) 2),
 Ig 9 7 true (.off (.t 8) 1),
 Ig 10 7 true (.load none (.t 9)),
 Ig 11 7 true (.bin .leq (.t 10) (.c (.i .i64 8))),
 It 12 (.pick (.t 7) (.t 11) (.c (.b false))),
 Mv 2 12] [1,3,4,5,6,7,8,9,10,11,12])
 .ret)),
    13,1,[.t 2],2⟩
theorem tr44:trFunc Try.prog (hz [] I44.body) 1 Try.f44=some (plain1 I44):=by kernel_rfl
theorem ck44:ckC 1 I44.body=true:=by kernel_rfl
def I45:IFunc :=
  ⟨(.seq (.region [It 1 (.box (.t 0)),
 It 2 (.mov (.c (.b false)))] [0,2])
 (.seq (.region [Lm 3 5 1,
 It 4 (.call 42 [(.t 3)]),
 Mv 5 4,
 Ig 6 5 true (.off (.t 1) 0),
 Ig 7 5 true (.load none (.t 6)),
 Ig 8 5 true (.nck (.t 7)),
 Ig 9 5 true (.off (.t 8) 1),
 Ig 10 5 true (.load none (.t 9)),
 Ig 11 5 true (.off (.t 1) 2),
 Ig 12 5 true (.off (.t 11) 1),
 Ig 13 5 true (.load none (.t 12)),
 Ig 14 5 true (.iaddr 5 (.t 10) (.t 13)),
 Ig 15 5 true (.load (some 5) (.t 14)),
 Ig 16 5 true (.call 54 [(.t 15)]),
 It 17 (.pick (.t 5) (.t 16) (.c (.b false))),
 Mv 2 17] [1,3,4,5,6,7,8,9,10,11,12,13,14,15,16,17])
 .ret)),
    18,1,[.t 2],2⟩
theorem tr45:trFunc Try.prog (hz [(1,[0,1,2,3,4,5,6,7,8,9,10,11,12,13,14,15])] I45.body) 1 Try.f45=some (plain1 I45):=by kernel_rfl
theorem ck45:ckC 1 I45.body=true:=by kernel_rfl
def I46:IFunc :=
  ⟨(.seq (.region [It 1 (.box (.t 0)),
 It 2 (.mov (.c (.b false)))] [0,2])
 (.seq (.region [Of 3 1 0,
 Ld 4 3,
 Of 5 1 2,
 Of 6 5 1,
 Ld 7 6,
 It 8 (.call 55 [(.t 4),(.t 7)]),
 Mv 2 8] [1,3,4,5,6,7,8])
 .ret)),
    9,1,[.t 2],2⟩
theorem tr46:trFunc Try.prog (hz [] I46.body) 1 Try.f46=some (plain1 I46):=by kernel_rfl
theorem ck46:ckC 1 I46.body=true:=by kernel_rfl
def I47:IFunc :=
  ⟨(.seq (.region [It 1 (.box (.t 0)),
 It 2 (.mov (.c (.b false)))] [0,2])
 (.seq (.region [Of 6 1 0,
 Ld 7 6,
 Of 8 1 2,
 Of 9 8 1,
 Ld 10 9,
 It 11 (.call 56 [(.t 7),(.t 10)]),
 Mv 5 11,
 Ex 12 5 0,
 Ex 13 5 1,
 Mv 3 12,
 Mv 4 13] [1,6,7,8,9,10,11,5,12,13])
 (.seq (.region [Mv 14 4,
 Mv 15 14,
 Ig 16 15 true (.mov (.t 3)),
 Ig 17 15 true (.call 57 [(.t 16)]),
 It 18 (.pick (.t 15) (.t 17) (.c (.b false))),
 Mv 2 18] [3,4,14,15,16,17,18])
 .ret))),
    19,1,[.t 2],2⟩
theorem tr47:trFunc Try.prog (hz [] I47.body) 1 Try.f47=some (plain1 I47):=by kernel_rfl
theorem ck47:ckC 1 I47.body=true:=by kernel_rfl
def I48:IFunc :=
  ⟨(.seq (.region [It 1 (.box (.t 0)),
 It 2 (.mov (.c (.b false)))] [0,2])
 (.seq (.region [Of 3 1 2,
 Of 4 3 1,
 Ld 5 4,
 It 6 (.bin .geq (.t 5) (.c i0)),
 Mv 7 6,
 Ig 8 7 true (.off (.t 1) 2),
 Ig 9 7 true (.off (.t 8) 1),
 Ig 10 7 true (.load none (.t 9)),
 Ig 11 7 true (.off (.t 1) 1),
 Ig 12 7 true (.load none (.t 11)),
 Ig 13 7 true (.nck (.t 12)),
 Ig 14 7 true (.off (.t 13) 3),
 Ig 15 7 true (.load none (.t 14)),
 Ig 16 7 true (.lenk 0 (.t 15)),
 Ig 17 7 true (.bin .lss (.t 10) (.t 16)),
 It 18 (.pick (.t 7) (.t 17) (.c (.b false))),
 Mv 2 18] [1,3,4,5,6,7,8,9,10,11,12,13,14,15,16,17,18])
 .ret)),
    19,1,[.t 2],2⟩
theorem tr48:trFunc Try.prog (hz [(1,[0,1,2,3,4,5,6,7,8,9,10,11,12,13,14,15,16])] I48.body) 1 Try.f48=some (plain1 I48):=by kernel_rfl
theorem ck48:ckC 1 I48.body=true:=by kernel_rfl
def I49:IFunc :=
  ⟨(.seq (.region [It 1 (.box (.t 0)),
 It 2 (.mov (.c (.b false)))] [0,2])
 (.seq (.region [Of 3 1 2,
 Of 4 3 1,
 Ld 5 4,
 It 6 (.bin .geq (.t 5) (.c i0)),
 Mv 7 6,
 Ig 8 7 true (.off (.t 1) 2),
 Ig 9 7 true (.off (.t 8) 1),
 Ig 10 7 true (.load none (.t 9)),
 Ig 11 7 true (.off (.t 1) 0),
 Ig 12 7 true (.load none (.t 11)),
 Ig 13 7 true (.nck (.t 12)),
 Ig 14 7 true (.off (.t 13) 0),
 Ig 15 7 true (.load none (.t 14)),
 Ig 16 7 true (.lenk 0 (.t 15)),
 Ig 17 7 true (.bin .lss (.t 10) (.t 16)),
 It 18 (.pick (.t 7) (.t 17) (.c (.b false))),
 Mv 2 18] [1,3,4,5,6,7,8,9,10,11,12,13,14,15,16,17,18])
 .ret)),
    19,1,[.t 2],2⟩
theorem tr49:trFunc Try.prog (hz [(1,[0,1,2,3,4,5,6,7,8,9,10,11,12,13,14,15,16])] I49.body) 1 Try.f49=some (plain1 I49):=by kernel_rfl
theorem ck49:ckC 1 I49.body=true:=by kernel_rfl
def I50:IFunc :=
  ⟨(.seq (.region [It 1 (.box (.t 0)),
 It 2 (.mov (.c (.b false)))] [0,2])
 (.seq (.seq (.region [Of 7 1 2,
 Of 8 7 1,
 Ld 9 8] [7,8])
 (.block 0
 (.seq (.seq (.region [It 11 (.bin .eql (.t 9) (.c (.i .i64 1))),
 Mv 10 11] [11])
 (.cond (.t 10)
 .skip
 (.region [It 12 (.bin .eql (.t 9) (.c (.i .i64 3))),
 Mv 10 12] [12])))
 (.cond (.t 10)
 (.seq (.region [Of 13 1 0,
 Ld 14 13,
 Of 15 1 2,
 Of 16 15 2,
 Ld 17 16,
 It 18 (.call 55 [(.t 14),(.t 17)]),
 Mv 2 18] [1,9,10,13,14,15,16,17,18])
 .ret)
 (.seq (.region [It 20 (.bin .eql (.t 9) (.c (.i .i64 4))),
 Mv 19 20] [10,20])
 (.cond (.t 19)
 (.seq (.region [Of 22 1 0,
 Ld 23 22,
 Of 24 1 2,
 Of 25 24 2,
 Ld 26 25,
 It 27 (.call 56 [(.t 23),(.t 26)]),
 Mv 21 27,
 Ex 28 21 0,
 Ex 29 21 1,
 Mv 3 28,
 Mv 4 29] [9,19,22,23,24,25,26,27,21,28,29])
 (.seq (.region [Of 31 1 0,
 Ld 32 31,
 It 33 (.nck (.t 32)),
 Lm 34 2 33,
 Mv 35 3,
 It 36 (.call 58 [(.t 34),(.t 35)]),
 Mv 30 36,
 Ex 37 30 0,
 Ex 38 30 1,
 Mv 5 37,
 Mv 6 38] [3,31,32,33,34,35,36,30,37,38])
 (.seq (.region [Mv 39 4,
 Mv 40 39,
 Ig 41 40 true (.mov (.t 6)),
 It 42 (.pick (.t 40) (.t 41) (.c (.b false))),
 Mv 43 42,
 Ig 44 43 true (.off (.t 1) 0),
 Ig 45 43 true (.load none (.t 44)),
 Ig 46 43 true (.nck (.t 45)),
 Ig 47 43 true (.off (.t 46) 0),
 Ig 48 43 true (.load none (.t 47)),
 Ig 49 43 true (.mov (.t 5)),
 Ig 50 43 true (.iaddr 4 (.t 48) (.t 49)),
 Ig 51 43 true (.off (.t 50) 1),
 Ig 52 43 true (.load none (.t 51)),
 Ig 53 43 true (.bin .eql (.t 52) (.c (.i .i64 1))),
 It 54 (.pick (.t 43) (.t 53) (.c (.b false))),
 Mv 2 54] [1,4,5,6,39,40,41,42,43,44,45,46,47,48,49,50,51,52,53,54])
 .ret)))
 (.seq (.seq (.region [It 56 (.bin .eql (.t 9) (.c (.i .i64 2))),
 Mv 55 56] [19,56])
 (.cond (.t 55)
 (.region [] [9])
 (.seq (.region [It 57 (.bin .eql (.t 9) (.c (.i .i64 5))),
 Mv 55 57] [57])
 (.cond (.t 55)
 (.region [] [9])
 (.seq (.region [It 58 (.bin .eql (.t 9) (.c (.i .i64 6))),
 Mv 55 58] [58])
 (.cond (.t 55)
 (.region [] [9])
 (.seq (.region [It 59 (.bin .eql (.t 9) (.c (.i .i64 7))),
 Mv 55 59] [59])
 (.cond (.t 55)
 (.region [] [9])
 (.region [It 60 (.bin .eql (.t 9) (.c (.i .i64 8))),
 Mv 55 60] [9,60])))))))))
 (.cond (.t 55)
 (.seq (.region [Of 61 1 2,
 Of 62 61 2,
 Ld 63 62,
 It 64 (.bin .eql (.t 63) (.c i0)),
 Mv 2 64] [1,55,61,62,63,64])
 .ret)
 (.region [] [1,55])))))))))
 (.seq (.region [It 2 (.mov (.c (.b false)))] [])
 .ret))),
    65,1,[.t 2],2⟩
theorem tr50:trFunc Try.prog (hz [] I50.body) 1 Try.f50=some (plain1 I50):=by kernel_rfl
theorem ck50:ckC 1 I50.body=true:=by kernel_rfl
def I51:IFunc :=
  ⟨(.seq (.region [It 1 (.box (.t 0)),
 It 2 (.mov (.c (.b false)))] [0,2])
 (.seq (.region [Of 3 1 2,
 Of 4 3 1,
 Ld 5 4,
 It 6 (.bin .eql (.t 5) (.c i0)),
 Mv 2 6] [1,3,4,5,6])
 .ret)),
    7,1,[.t 2],2⟩
theorem tr51:trFunc Try.prog (hz [] I51.body) 1 Try.f51=some (plain1 I51):=by kernel_rfl
theorem ck51:ckC 1 I51.body=true:=by kernel_rfl
def I52:IFunc :=
  ⟨(.seq (.region [It 2 (.box (.t 0)),
 It 3 (.box (.t 1)),
 It 4 (.mov (.c (.b false)))] [0,1,4])
 (.seq (.region [Of 5 2 0,
 Ld 6 5,
 Mv 7 6,
 Ig 8 7 false (.off (.t 3) 2),
 Ig 9 7 false (.load none (.t 8)),
 Ig 10 7 false (.bin .eql (.t 9) (.c (.s []))),
 It 11 (.pick (.t 7) (.c (.b true)) (.t 10)),
 Mv 12 11,
 Ig 13 12 true (.off (.t 2) 1),
 Ig 14 12 true (.load none (.t 13)),
 Ig 15 12 true (.mov (.t 14)),
 Ig 16 15 false (.off (.t 3) 3),
 Ig 17 15 false (.load none (.t 16)),
 Ig 18 15 false (.lenk 0 (.t 17)),
 Ig 19 15 false (.bin .eql (.t 18) (.c i0)),
 Ig 20 12 true (.pick (.t 15) (.c (.b true)) (.t 19)),
 It 21 (.pick (.t 12) (.t 20) (.c (.b false))),
 Mv 22 21,
 Ig 23 22 true (.off (.t 2) 2),
 Ig 24 22 true (.load none (.t 23)),
 Ig 25 22 true (.mov (.t 24)),
 Ig 26 25 false (.off (.t 3) 4),
 Ig 27 25 false (.load none (.t 26)),
 Ig 28 25 false (.lenk 0 (.t 27)),
 Ig 29 25 false (.bin .eql (.t 28) (.c i0)),
 Ig 30 22 true (.pick (.t 25) (.c (.b true)) (.t 29)),
 It 31 (.pick (.t 22) (.t 30) (.c (.b false))),
 Mv 4 31] [2,3,5,6,7,8,9,10,11,12,13,14,15,16,17,18,19,20,21,22,23,24,25,26,27,28,29,30,31])
 .ret)),
    32,2,[.t 4],2⟩
theorem tr52:trFunc Try.prog (hz [] I52.body) 1 Try.f52=some (plain1 I52):=by kernel_rfl
theorem ck52:ckC 1 I52.body=true:=by kernel_rfl
def L53a:ICode :=
  (.seq (.region [It 9 (.bin .lss (.t 8) (.t 7))] [])
 (.seq (.cond (.t 9)
 (.region [] [9])
 (.exit 0))
 (.seq (.block 1
 (.seq (.region [Ia 10 1 6 8,
 Ld 11 10,
 Mv 5 11] [10,11])
 (.seq (.seq (.region [Mv 12 5,
 Mv 13 3,
 It 14 (.bin .leq (.t 12) (.t 13)),
 Mv 15 14,
 Ig 16 15 false (.mov (.t 5)),
 Ig 17 15 false (.call 59 [(.t 16)]),
 Ig 18 15 false (.un .not (.t 17)),
 It 19 (.pick (.t 15) (.c (.b true)) (.t 18))] [3,12,13,14,15,16,17,18])
 (.cond (.t 19)
 (.seq (.region [It 2 (.mov (.c (.b false)))] [6,7,8,5,19])
 .ret)
 (.region [] [19])))
 (.region [Mv 20 5,
 Mv 3 20] [5,20]))))
 (.region [It 21 (.bin .add (.t 8) (.c (.i .i64 1))),
 Mv 8 21] [21]))))
def I53:IFunc :=
  ⟨(.seq (.region [It 2 (.mov (.c (.b false)))] [2])
 (.seq (.region [It 3 (.mov (.c (.s [])))] [])
 (.seq (.seq (.region [Mv 6 0,
 Le 7 6,
 It 8 (.mov (.c i0))] [0])
 (.block 0
 (.loop L53a)))
 (.seq (.region [It 2 (.mov (.c (.b true)))] [3,6,7,8,9])
 .ret)))),
    22,1,[.t 2],2⟩
theorem tr53:trFunc Try.prog (hz [] I53.body) 1 Try.f53=some (plain1 I53):=by kernel_rfl
theorem ck53:ckC 1 I53.body=true:=by kernel_rfl
def L54a:ICode :=
  (.seq (.region [It 15 (.bin .lss (.t 14) (.t 13))] [])
 (.seq (.cond (.t 15)
 (.region [] [15])
 (.exit 0))
 (.seq (.block 1
 (.seq (.region [Ia 16 5 12 14,
 Lm 17 5 16,
 It 5 (.alloc [i0,i0,(.s []),.ns,.ns]),
 Ss 5 5 17] [16,17])
 (.seq (.seq (.region [Of 18 5 0,
 Ld 19 18,
 It 20 (.bin .neq (.t 19) (.c (.i .i64 3)))] [18,19])
 (.cond (.t 20)
 (.seq (.region [It 2 (.mov (.c (.b false)))] [1,3,12,13,14,5,20])
 .ret)
 (.region [] [20])))
 (.region [Of 21 3 4,
 Ld 22 21,
 Of 23 5 2,
 Ld 24 23,
 It 25 (.bsl 1 1 [(.s [])] [(0,1,(.t 24))]),
 It 26 (.app 1 16 (.t 22) (.t 25)),
 Of 27 3 4,
 Ss 1 27 26] [5,21,22,23,24,25,26,27]))))
 (.region [It 28 (.bin .add (.t 14) (.c (.i .i64 1))),
 Mv 14 28] [28]))))
def I54:IFunc :=
  ⟨(.seq (.region [It 1 (.box (.t 0)),
 It 2 (.mov (.c (.b false)))] [0,2])
 (.seq (.region [Of 6 1 3,
 Ld 7 6,
 Le 8 7,
 It 9 (.mksl 5 80 [i0,i0,(.s []),.ns,.ns] (.t 8) (.t 8)),
 It 10 (.build [i0,i0,(.s []),.ns,.ns] [(0,1,(.c (.i .i64 5))),(3,1,(.t 9))]),
 It 3 (.alloc [i0,i0,(.s []),.ns,.ns]),
 Ss 5 3 10] [6,7,8,9,10])
 (.seq (.seq (.region [Of 11 1 3,
 Ld 12 11,
 Le 13 12,
 It 14 (.mov (.c i0))] [11])
 (.block 0
 (.loop L54a)))
 (.seq (.region [Of 29 1 0,
 Ld 30 29,
 It 31 (.bin .eql (.t 30) (.c (.i .i64 4))),
 Mv 32 31,
 Ig 33 32 true (.off (.t 1) 3),
 Ig 34 32 true (.load none (.t 33)),
 Ig 35 32 true (.lenk 0 (.t 34)),
 Ig 36 32 true (.bin .leq (.t 35) (.c (.i .i64 8))),
 It 37 (.pick (.t 32) (.t 36) (.c (.b false))),
 Mv 38 37,
 Ig 39 38 true (.load (some 5) (.t 3)),
 Ig 40 38 true (.call 26 [(.t 39)]),
 Ig 41 38 true (.bin .eql (.t 40) (.c i0)),
 It 42 (.pick (.t 38) (.t 41) (.c (.b false))),
 Mv 2 42] [1,3,12,13,14,15,29,30,31,32,33,34,35,36,37,38,39,40,41,42])
 .ret)))),
    43,1,[.t 2],2⟩
theorem tr54:trFunc Try.prog (hz [] I54.body) 1 Try.f54=some (plain1 I54):=by kernel_rfl
theorem ck54:ckC 1 I54.body=true:=by kernel_rfl
def I55:IFunc :=
  ⟨(.seq (.region [It 4 (.mov (.c (.b false)))] [4])
 (.seq (.region [Mv 8 0,
 Mv 9 1,
 It 10 (.call 56 [(.t 8),(.t 9)]),
 Mv 7 10,
 Ex 11 7 0,
 Ex 12 7 1,
 Mv 5 11,
 Mv 6 12] [0,1,8,9,10,7,11,12])
 (.seq (.region [Mv 13 6,
 Mv 14 13,
 Ig 15 14 true (.mov (.t 5)),
 Ig 16 14 true (.call 36 [(.t 15)]),
 It 17 (.pick (.t 14) (.t 16) (.c (.b false))),
 Mv 4 17] [5,6,13,14,15,16,17])
 .ret))),
    18,2,[.t 4],2⟩
theorem tr55:trFunc Try.prog (hz [] I55.body) 1 Try.f55=some (plain1 I55):=by kernel_rfl
theorem ck55:ckC 1 I55.body=true:=by kernel_rfl
def I56:IFunc :=
  ⟨(.seq (.region [It 4 (.mov (.c (.s []))),
 It 5 (.mov (.c (.b false)))] [4,5])
 (.seq (.seq (.region [Mv 7 1,
 It 8 (.bin .lss (.t 7) (.c i0)),
 Mv 9 8,
 Ig 10 9 false (.mov (.t 1)),
 Ig 11 9 false (.mov (.t 0)),
 Ig 12 9 false (.nck (.t 11)),
 Ig 13 9 false (.off (.t 12) 1),
 Ig 14 9 false (.load none (.t 13)),
 Ig 15 9 false (.lenk 0 (.t 14)),
 Ig 16 9 false (.bin .geq (.t 10) (.t 15)),
 It 17 (.pick (.t 9) (.c (.b true)) (.t 16))] [7,8,9,10,11,12,13,14,15,16])
 (.cond (.t 17)
 (.seq (.region [It 4 (.mov (.c (.s []))),
 It 5 (.mov (.c (.b false)))] [0,1,17])
 .ret)
 (.region [] [17])))
 (.seq (.region [Mv 18 0,
 It 19 (.nck (.t 18)),
 Of 20 19 1,
 Ld 21 20,
 Mv 22 1,
 Ia 23 5 21 22,
 Lm 24 5 23,
 It 6 (.alloc [i0,i0,(.s []),.ns,.ns]),
 Ss 5 6 24] [0,1,18,19,20,21,22,23,24])
 (.seq (.region [Of 25 6 2,
 Ld 26 25,
 Of 27 6 0,
 Ld 28 27,
 It 29 (.bin .eql (.t 28) (.c (.i .i64 3))),
 Mv 4 26,
 Mv 5 29] [6,25,26,27,28,29])
 .ret)))),
    30,2,[.t 4,.t 5],2⟩
theorem tr56:trFunc Try.prog (hz [(5,[0,1,2,3,4,5,6])] I56.body) 1 Try.f56=some (plain1 I56):=by kernel_rfl
theorem ck56:ckC 1 I56.body=true:=by kernel_rfl
def I57:IFunc :=
  ⟨(.seq (.region [It 2 (.mov (.c (.b false)))] [2])
 (.seq (.region [Mv 6 0,
 It 7 (.call 60 [(.t 6)]),
 Mv 5 7,
 Ex 8 5 0,
 Ex 9 5 1,
 It 3 (.alloc [i0,.ns,.ns]),
 Ss 3 3 8,
 Mv 4 9] [0,6,7,5,8,9,3])
 (.seq (.region [Mv 10 4,
 Mv 2 10] [4,10])
 .ret))),
    11,1,[.t 2],2⟩
theorem tr57:trFunc Try.prog (hz [] I57.body) 1 Try.f57=some (plain1 I57):=by kernel_rfl
theorem ck57:ckC 1 I57.body=true:=by kernel_rfl
def I58:IFunc :=
  ⟨(.seq (.region [It 2 (.box (.t 0)),
 It 3 (.box (.t 1)),
 It 4 (.mov (.c i0)),
 It 5 (.mov (.c (.b false)))] [0,1,4,5])
 (.seq (.region [Of 7 2 0,
 Ld 8 7,
 It 9 (.mkf 61 [] [(.t 3)]),
 It 10 (.call 34 [(.t 8),(.t 9)]),
 Mv 6 10] [2,3,7,8,9,10])
 (.seq (.region [Mv 11 6,
 It 12 (.mm true (.t 11) [(.c i0)]),
 Mv 13 6,
 It 14 (.bin .geq (.t 13) (.c i0)),
 Mv 4 12,
 Mv 5 14] [6,11,12,13,14])
 .ret))),
    15,2,[.t 4,.t 5],2⟩
theorem tr58:trFunc Try.prog (hz [] I58.body) 1 Try.f58=some (plain1 I58):=by kernel_rfl
theorem ck58:ckC 1 I58.body=true:=by kernel_rfl
def L59a:ICode :=
  (.seq (.region [It 17 (.bin .lss (.t 16) (.t 15))] [])
 (.seq (.cond (.t 17)
 (.region [] [17])
 (.exit 0))
 (.seq (.block 1
 (.seq (.region [Mv 18 16,
 Ia 19 1 14 16,
 Ld 20 19,
 Mv 3 18,
 Mv 4 20] [18,19,20])
 (.seq (.region [Mv 21 4,
 It 22 (.bin .geq (.t 21) (.c (.i .u8 (97)))),
 Mv 23 22,
 Ig 24 23 true (.mov (.t 4)),
 Ig 25 23 true (.bin .leq (.t 24) (.c (.i .u8 (122)))),
 It 26 (.pick (.t 23) (.t 25) (.c (.b false))),
 Mv 5 26] [21,22,23,24,25,26])
 (.seq (.region [Mv 27 5,
 It 28 (.un .not (.t 27)),
 Mv 29 28,
 Ig 30 29 true (.mov (.t 3)),
 Ig 31 29 true (.bin .eql (.t 30) (.c i0)),
 Ig 32 29 true (.mov (.t 31)),
 Ig 33 32 false (.mov (.t 4)),
 Ig 34 32 false (.bin .neq (.t 33) (.c (.i .u8 (95)))),
 Ig 35 32 false (.mov (.t 34)),
 Ig 36 35 true (.mov (.t 4)),
 Ig 37 35 true (.bin .lss (.t 36) (.c (.i .u8 (48)))),
 Ig 38 35 true (.mov (.t 37)),
 Ig 39 38 false (.mov (.t 4)),
 Ig 40 38 false (.bin .gtr (.t 39) (.c (.i .u8 (57)))),
 Ig 41 35 true (.pick (.t 38) (.c (.b true)) (.t 40)),
 Ig 42 32 false (.pick (.t 35) (.t 41) (.c (.b false))),
 Ig 43 29 true (.pick (.t 32) (.c (.b true)) (.t 42)),
 It 44 (.pick (.t 29) (.t 43) (.c (.b false)))] [3,4,5,27,28,29,30,31,32,33,34,35,36,37,38,39,40,41,42,43])
 (.cond (.t 44)
 (.seq (.region [It 2 (.mov (.c (.b false)))] [14,15,16,44])
 .ret)
 (.region [] [44]))))))
 (.region [It 45 (.bin .add (.t 16) (.c (.i .i64 1))),
 Mv 16 45] [45]))))
def I59:IFunc :=
  ⟨(.seq (.region [It 2 (.mov (.c (.b false)))] [2])
 (.seq (.seq (.region [Mv 6 0,
 It 7 (.bin .eql (.t 6) (.c (.s []))),
 Mv 8 7,
 Ig 9 8 false (.mov (.t 0)),
 Ig 10 8 false (.lenk 1 (.t 9)),
 Ig 11 8 false (.bin .gtr (.t 10) (.c (.i .i64 16))),
 It 12 (.pick (.t 8) (.c (.b true)) (.t 11))] [6,7,8,9,10,11])
 (.cond (.t 12)
 (.seq (.region [It 2 (.mov (.c (.b false)))] [0,12])
 .ret)
 (.region [] [12])))
 (.seq (.seq (.region [Mv 13 0,
 It 14 (.s2b (.t 13)),
 Le 15 14,
 It 16 (.mov (.c i0))] [0,13])
 (.block 0
 (.loop L59a)))
 (.seq (.region [It 2 (.mov (.c (.b true)))] [14,15,16,17])
 .ret)))),
    46,1,[.t 2],2⟩
theorem tr59:trFunc Try.prog (hz [] I59.body) 1 Try.f59=some (plain1 I59):=by kernel_rfl
theorem ck59:ckC 1 I59.body=true:=by kernel_rfl
def I60:IFunc :=
  ⟨(.seq (.region [It 2 (.alloc [i0,.ns,.ns]),
 It 3 (.mov (.c (.b false)))] [3])
 (.seq (.seq (.region [Mv 7 0,
 It 8 (.lenk 1 (.t 7)),
 It 9 (.bin .gtr (.t 8) (.c (.i .i64 64)))] [7,8])
 (.cond (.t 9)
 (.seq (.region [It 10 (.build [i0,.ns,.ns] []),
 Ss 3 2 10,
 It 3 (.mov (.c (.b false)))] [0,9,10])
 .ret)
 (.region [] [9])))
 (.seq (.region [Mv 12 0,
 It 13 (.call 62 [(.t 12)]),
 Mv 11 13,
 Ex 14 11 0,
 Ex 15 11 1,
 Ex 16 11 2,
 It 4 (.alloc [i0,.ns,.ns]),
 Ss 3 4 14,
 Mv 5 15,
 Mv 6 16] [0,12,13,11,14,15,16])
 (.seq (.region [Lm 17 3 4,
 Mv 18 6,
 Mv 19 18,
 Ig 20 19 true (.mov (.t 5)),
 Ig 21 19 true (.bin .eql (.t 20) (.c (.s []))),
 It 22 (.pick (.t 19) (.t 21) (.c (.b false))),
 Ss 3 2 17,
 Mv 3 22] [4,5,6,17,18,19,20,21,22])
 .ret)))),
    23,1,[.c 2 (some 3),.t 3],2⟩
theorem tr60:trFunc Try.prog (hz [] I60.body) 1 Try.f60=some (plain1 I60):=by kernel_rfl
theorem ck60:ckC 1 I60.body=true:=by kernel_rfl
def I61:IFunc :=
  ⟨(.seq (.region [It 2 (.box (.t 0)),
 It 3 (.mov (.c (.b false)))] [0,3])
 (.seq (.region [Of 4 2 0,
 Ld 5 4,
 Ld 6 1,
 It 7 (.bin .eql (.t 5) (.t 6)),
 Mv 3 7] [1,2,4,5,6,7])
 .ret)),
    8,2,[.t 3],2⟩
theorem tr61:trFunc Try.prog (hz [] I61.body) 1 Try.f61=some (plain1 I61):=by kernel_rfl
theorem ck61:ckC 1 I61.body=true:=by kernel_rfl
def L62a:ICode :=
  (.seq (.seq (.region [Mv 49 9,
 Mv 50 0,
 It 51 (.lenk 1 (.t 50)),
 It 52 (.bin .lss (.t 49) (.t 51)),
 Mv 53 52,
 Ig 54 53 true (.mov (.t 0)),
 Ig 55 53 true (.mov (.t 9)),
 Ig 56 53 true (.idxS (.t 54) (.t 55)),
 Ig 57 53 true (.bin .geq (.t 56) (.c (.i .u8 (97)))),
 It 58 (.pick (.t 53) (.t 57) (.c (.b false))),
 Mv 59 58,
 Ig 60 59 true (.mov (.t 0)),
 Ig 61 59 true (.mov (.t 9)),
 Ig 62 59 true (.idxS (.t 60) (.t 61)),
 Ig 63 59 true (.bin .leq (.t 62) (.c (.i .u8 (122)))),
 It 64 (.pick (.t 59) (.t 63) (.c (.b false)))] [49,50,51,52,53,54,55,56,57,58,59,60,61,62,63])
 (.cond (.t 64)
 (.region [] [64])
 (.exit 1)))
 (.block 2
 (.region [Mv 65 9,
 It 66 (.bin .add (.t 65) (.c (.i .i64 1))),
 Mv 9 66] [65,66])))
def I62:IFunc :=
  ⟨(.seq (.region [It 2 (.alloc [i0,.ns,.ns]),
 It 3 (.mov (.c (.s []))),
 It 4 (.mov (.c (.b false)))] [3,4])
 (.seq (.block 0
 (.seq (.region [Mv 12 0,
 It 13 (.call 63 [(.t 12),(.c (.s [91]))]),
 Mv 11 13] [12,13])
 (.cond (.t 11)
 (.seq (.region [Mv 15 0,
 It 16 (.slS (.t 15) (some (.c (.i .i64 1))) none),
 It 17 (.call 62 [(.t 16)]),
 Mv 14 17,
 Ex 18 14 0,
 Ex 19 14 1,
 Ex 20 14 2,
 It 5 (.alloc [i0,.ns,.ns]),
 Ss 3 5 18,
 Mv 6 19,
 Mv 7 20] [0,11,15,16,17,14,18,19,20])
 (.seq (.region [Mv 22 6,
 It 23 (.call 64 [(.t 22),(.c (.s [93]))]),
 Mv 21 23,
 Ex 24 21 0,
 Ex 25 21 1,
 Mv 6 24,
 Mv 8 25] [22,23,21,24,25])
 (.seq (.region [Lm 26 3 5,
 It 27 (.bsl 3 1 [i0,.ns,.ns] [(0,3,(.t 26))]),
 It 28 (.build [i0,.ns,.ns] [(0,1,(.c (.i .i64 4))),(2,1,(.t 27))]),
 Mv 29 6,
 Mv 30 7,
 Mv 31 30,
 Ig 32 31 true (.mov (.t 8)),
 It 33 (.pick (.t 31) (.t 32) (.c (.b false))),
 Ss 3 2 28,
 Mv 3 29,
 Mv 4 33] [5,6,7,8,26,27,28,29,30,31,32,33])
 .ret)))
 (.seq (.region [Mv 35 0,
 It 36 (.call 63 [(.t 35),(.c (.s [123,125]))]),
 Mv 34 36] [11,35,36])
 (.cond (.t 34)
 (.seq (.region [It 37 (.build [i0,.ns,.ns] [(0,1,(.c (.i .i64 5)))]),
 Mv 38 0,
 It 39 (.slS (.t 38) (some (.c (.i .i64 2))) none),
 Ss 3 2 37,
 Mv 3 39,
 It 4 (.mov (.c (.b true)))] [0,34,37,38,39])
 .ret)
 (.seq (.region [Mv 41 0,
 It 42 (.call 63 [(.t 41),(.c (.s [123]))]),
 Mv 40 42] [34,41,42])
 (.cond (.t 40)
 (.seq (.region [Mv 43 0,
 It 44 (.slS (.t 43) (some (.c (.i .i64 1))) none),
 It 45 (.call 65 [(.t 44)]),
 Ex 46 45 0,
 Ex 47 45 1,
 Ex 48 45 2,
 Ss 3 2 46,
 Mv 3 47,
 Mv 4 48] [0,40,43,44,45,46,47,48])
 .ret)
 (.region [] [40]))))))))
 (.seq (.region [It 9 (.mov (.c i0))] [])
 (.seq (.block 1
 (.loop L62a))
 (.seq (.region [Mv 67 0,
 Mv 68 9,
 It 69 (.slS (.t 67) none (some (.t 68))),
 It 70 (.call 66 [(.t 69)]),
 Mv 10 70] [64,67,68,69,70])
 (.seq (.region [Mv 71 10,
 It 72 (.build [i0,.ns,.ns] [(0,1,(.t 71))]),
 Mv 73 0,
 Mv 74 9,
 It 75 (.slS (.t 73) (some (.t 74)) none),
 Mv 76 10,
 It 77 (.bin .geq (.t 76) (.c i0)),
 Ss 3 2 72,
 Mv 3 75,
 Mv 4 77] [0,9,10,71,72,73,74,75,76,77])
 .ret)))))),
    78,1,[.c 2 (some 3),.t 3,.t 4],2⟩
theorem tr62:trFunc Try.prog (hz [(6,[0,1,2,3,4,5]),(15,[0,1,2,3,4,5,6,7,8,9])] I62.body) 1 Try.f62=some (plain1 I62):=by kernel_rfl
theorem ck62:ckC 1 I62.body=true:=by kernel_rfl
def I63:IFunc :=
  ⟨(.seq (.region [It 4 (.mov (.c (.b false)))] [4])
 (.seq (.region [Mv 5 0,
 Mv 6 1,
 It 7 (.call 67 [(.t 5),(.t 6)]),
 Mv 4 7] [0,1,5,6,7])
 .ret)),
    8,2,[.t 4],2⟩
theorem tr63:trFunc Try.prog (hz [] I63.body) 1 Try.f63=some (plain1 I63):=by kernel_rfl
theorem ck63:ckC 1 I63.body=true:=by kernel_rfl
def I64:IFunc :=
  ⟨(.seq (.region [It 4 (.mov (.c (.s []))),
 It 5 (.mov (.c (.b false)))] [4,5])
 (.seq (.region [Mv 6 0,
 Mv 7 1,
 It 8 (.call 68 [(.t 6),(.t 7)]),
 Ex 9 8 0,
 Ex 10 8 1,
 Mv 4 9,
 Mv 5 10] [0,1,6,7,8,9,10])
 .ret)),
    11,2,[.t 4,.t 5],2⟩
theorem tr64:trFunc Try.prog (hz [] I64.body) 1 Try.f64=some (plain1 I64):=by kernel_rfl
theorem ck64:ckC 1 I64.body=true:=by kernel_rfl
def L65a:ICode :=
  (.block 1
 (.seq (.region [Mv 13 0,
 It 14 (.call 69 [(.t 13),(.c (.s [58]))]),
 Mv 12 14,
 Ex 15 12 0,
 Ex 16 12 1,
 Ex 17 12 2,
 Mv 5 15,
 Mv 6 16,
 Mv 7 17] [0,58,13,14,12,15,16,17])
 (.seq (.region [Mv 19 6,
 It 20 (.call 62 [(.t 19)]),
 Mv 18 20,
 Ex 21 18 0,
 Ex 22 18 1,
 Ex 23 18 2,
 It 8 (.alloc [i0,.ns,.ns]),
 Ss 3 8 21,
 Mv 9 22,
 Mv 10 23] [6,19,20,18,21,22,23])
 (.seq (.seq (.region [Mv 24 7,
 It 25 (.un .not (.t 24)),
 Mv 26 25,
 Ig 27 26 false (.mov (.t 10)),
 Ig 28 26 false (.un .not (.t 27)),
 It 29 (.pick (.t 26) (.c (.b true)) (.t 28)),
 Mv 30 29,
 Ig 31 30 false (.mov (.t 9)),
 Ig 32 30 false (.bin .eql (.t 31) (.c (.s []))),
 It 33 (.pick (.t 30) (.c (.b true)) (.t 32))] [7,10,24,25,26,27,28,29,30,31,32])
 (.cond (.t 33)
 (.seq (.region [It 34 (.build [i0,.ns,.ns] []),
 Ss 3 2 34,
 It 3 (.mov (.c (.s []))),
 It 4 (.mov (.c (.b false)))] [5,8,9,33,34])
 .ret)
 (.region [] [33])))
 (.seq (.region [Of 35 2 1,
 Ld 36 35,
 Mv 37 5,
 It 38 (.bsl 1 1 [(.s [])] [(0,1,(.t 37))]),
 Of 40 2 2,
 Ld 41 40,
 Lm 42 3 8,
 It 43 (.bsl 3 1 [i0,.ns,.ns] [(0,3,(.t 42))]),
 ⟨(some 39),(.app 1 16 (.t 36) (.t 38)),none,[(41,(.load none (.t 40)),none),(42,(.load (some 3) (.t 8)),none)]⟩,
 Of 45 2 1,
 It 44 (.app 3 56 (.t 41) (.t 43)),
 Ss 1 45 39,
 Of 46 2 2,
 Ss 1 46 44] [5,8,35,36,37,38,40,41,42,43,39,45,44,46])
 (.seq (.region [Mv 47 9,
 It 48 (.slS (.t 47) (some (.c (.i .i64 1))) none),
 Mv 0 48] [47,48])
 (.seq (.seq (.region [Mv 49 9,
 It 50 (.idxS (.t 49) (.c i0))] [9,49])
 (.block 2
 (.seq (.region [It 52 (.bin .eql (.t 50) (.c (.i .u8 (125)))),
 Mv 51 52] [52])
 (.cond (.t 51)
 (.seq (.region [Lm 53 3 2,
 Mv 54 0,
 Of 55 2 1,
 Ld 56 55,
 ⟨(some 57),(.call 53 [(.t 56)]),none,[(53,(.load (some 3) (.t 2)),none)]⟩,
 Ss 3 2 53,
 Mv 3 54,
 Mv 4 57] [0,50,51,53,54,55,56,57])
 .ret)
 (.seq (.region [It 59 (.bin .eql (.t 50) (.c (.i .u8 (44)))),
 Mv 58 59] [50,51,59])
 (.cond (.t 58)
 (.exit 1)
 (.region [] [0,58])))))))
 (.seq (.region [It 60 (.build [i0,.ns,.ns] []),
 Ss 3 2 60,
 It 3 (.mov (.c (.s []))),
 It 4 (.mov (.c (.b false)))] [60])
 .ret))))))))
def I65:IFunc :=
  ⟨(.seq (.region [It 2 (.alloc [i0,.ns,.ns]),
 It 3 (.mov (.c (.s []))),
 It 4 (.mov (.c (.b false)))] [3,4])
 (.seq (.region [Of 11 2 0,
 ⟨none,(.store 1 (.t 11) (.c (.i .i64 5))),none,[]⟩] [11])
 (.block 0
 (.loop L65a)))),
    61,1,[.c 2 (some 3),.t 3,.t 4],2⟩
theorem tr65:trFunc Try.prog (hz [(7,[0,1,2,3,5,6,7,8,4,10,9,11,12,13]),(11,[0,1,2,3,4,5,6,7])] I65.body) 1 Try.f65=some (plain1 I65):=by kernel_rfl
theorem ck65:ckC 1 I65.body=true:=by kernel_rfl
def I66:IFunc :=
  ⟨(.seq (.region [It 2 (.mov (.c i0))] [2])
 (.seq (.seq (.region [Mv 3 0] [0])
 (.block 0
 (.seq (.region [It 5 (.bin .eql (.t 3) (.c (.s [110,111,110,101]))),
 Mv 4 5] [5])
 (.cond (.t 4)
 (.seq (.region [It 2 (.mov (.c i0))] [3,4])
 .ret)
 (.seq (.region [It 7 (.bin .eql (.t 3) (.c (.s [105,110,116]))),
 Mv 6 7] [4,7])
 (.cond (.t 6)
 (.seq (.region [It 2 (.mov (.c (.i .i64 1)))] [3,6])
 .ret)
 (.seq (.region [It 9 (.bin .eql (.t 3) (.c (.s [98,111,111,108]))),
 Mv 8 9] [6,9])
 (.cond (.t 8)
 (.seq (.region [It 2 (.mov (.c (.i .i64 2)))] [3,8])
 .ret)
 (.seq (.region [It 11 (.bin .eql (.t 3) (.c (.s [116,101,120,116]))),
 Mv 10 11] [8,11])
 (.cond (.t 10)
 (.seq (.region [It 2 (.mov (.c (.i .i64 3)))] [3,10])
 .ret)
 (.seq (.region [It 13 (.bin .eql (.t 3) (.c (.s [102,117,116,117,114,101]))),
 Mv 12 13] [3,10,13])
 (.cond (.t 12)
 (.seq (.region [It 2 (.mov (.c (.i .i64 6)))] [12])
 .ret)
 (.region [] [12])))))))))))))
 (.seq (.region [It 2 (.mov (.c (.i .i64 (-1))))] [])
 .ret))),
    14,1,[.t 2],2⟩
theorem tr66:trFunc Try.prog (hz [] I66.body) 1 Try.f66=some (plain1 I66):=by kernel_rfl
theorem ck66:ckC 1 I66.body=true:=by kernel_rfl
def I67:IFunc :=
  ⟨(.seq (.region [It 4 (.mov (.c (.b false)))] [4])
 (.seq (.region [Mv 5 0,
 It 6 (.lenk 1 (.t 5)),
 Mv 7 1,
 It 8 (.lenk 1 (.t 7)),
 It 9 (.bin .geq (.t 6) (.t 8)),
 Mv 10 9,
 Ig 11 10 true (.mov (.t 0)),
 Ig 12 10 true (.mov (.t 1)),
 Ig 13 10 true (.lenk 1 (.t 12)),
 Ig 14 10 true (.slS (.t 11) none (some (.t 13))),
 Ig 15 10 true (.mov (.t 1)),
 Ig 16 10 true (.bin .eql (.t 14) (.t 15)),
 It 17 (.pick (.t 10) (.t 16) (.c (.b false))),
 Mv 4 17] [0,1,5,6,7,8,9,10,11,12,13,14,15,16,17])
 .ret)),
    18,2,[.t 4],2⟩
theorem tr67:trFunc Try.prog (hz [] I67.body) 1 Try.f67=some (plain1 I67):=by kernel_rfl
theorem ck67:ckC 1 I67.body=true:=by kernel_rfl
def I68:IFunc :=
  ⟨(.seq (.region [It 4 (.mov (.c (.s []))),
 It 5 (.mov (.c (.b false)))] [4,5])
 (.seq (.seq (.region [Mv 6 0,
 Mv 7 1,
 It 8 (.call 67 [(.t 6),(.t 7)]),
 It 9 (.un .not (.t 8))] [6,7,8])
 (.cond (.t 9)
 (.seq (.region [Mv 10 0,
 Mv 4 10,
 It 5 (.mov (.c (.b false)))] [0,1,9,10])
 .ret)
 (.region [] [9])))
 (.seq (.region [Mv 11 0,
 Mv 12 1,
 It 13 (.lenk 1 (.t 12)),
 It 14 (.slS (.t 11) (some (.t 13)) none),
 Mv 4 14,
 It 5 (.mov (.c (.b true)))] [0,1,11,12,13,14])
 .ret))),
    15,2,[.t 4,.t 5],2⟩
theorem tr68:trFunc Try.prog (hz [] I68.body) 1 Try.f68=some (plain1 I68):=by kernel_rfl
theorem ck68:ckC 1 I68.body=true:=by kernel_rfl
def I69:IFunc :=
  ⟨(.seq (.region [It 4 (.mov (.c (.s []))),
 It 5 (.mov (.c (.s []))),
 It 6 (.mov (.c (.b false)))] [4,5,6])
 (.seq (.region [Mv 7 0,
 Mv 8 1,
 It 9 (.call 70 [(.t 7),(.t 8)]),
 Ex 10 9 0,
 Ex 11 9 1,
 Ex 12 9 2,
 Mv 4 10,
 Mv 5 11,
 Mv 6 12] [0,1,7,8,9,10,11,12])
 .ret)),
    13,2,[.t 4,.t 5,.t 6],2⟩
theorem tr69:trFunc Try.prog (hz [] I69.body) 1 Try.f69=some (plain1 I69):=by kernel_rfl
theorem ck69:ckC 1 I69.body=true:=by kernel_rfl
def I70:IFunc :=
  ⟨(.seq (.region [It 4 (.mov (.c (.s []))),
 It 5 (.mov (.c (.s []))),
 It 6 (.mov (.c (.b false)))] [4,5,6])
 (.seq (.seq (.region [Mv 8 0,
 Mv 9 1,
 It 10 (.call 71 [(.t 8),(.t 9)]),
 Mv 7 10] [8,9,10])
 (.seq (.region [Mv 11 7,
 It 12 (.bin .geq (.t 11) (.c i0))] [11])
 (.cond (.t 12)
 (.seq (.region [Mv 13 0,
 Mv 14 7,
 It 15 (.slS (.t 13) none (some (.t 14))),
 Mv 16 0,
 Mv 17 7,
 Mv 18 1,
 It 19 (.lenk 1 (.t 18)),
 It 20 (.bin .add (.t 17) (.t 19)),
 It 21 (.slS (.t 16) (some (.t 20)) none),
 Mv 4 15,
 Mv 5 21,
 It 6 (.mov (.c (.b true)))] [0,1,7,12,13,14,15,16,17,18,19,20,21])
 .ret)
 (.region [] [1,7,12]))))
 (.seq (.region [Mv 22 0,
 Mv 4 22,
 It 5 (.mov (.c (.s []))),
 It 6 (.mov (.c (.b false)))] [0,22])
 .ret))),
    23,2,[.t 4,.t 5,.t 6],2⟩
theorem tr70:trFunc Try.prog (hz [(3,[0,1,2,3,4,5,6,7,8,9,10,11])] I70.body) 1 Try.f70=some (plain1 I70):=by kernel_rfl
theorem ck70:ckC 1 I70.body=true:=by kernel_rfl
def L71a:ICode :=
  (.seq (.seq (.region [Mv 57 8,
 Mv 58 9,
 It 59 (.bin .lss (.t 57) (.t 58))] [57,58])
 (.cond (.t 59)
 (.region [] [59])
 (.exit 1)))
 (.block 2
 (.seq (.seq (.region [Mv 60 0,
 Mv 61 8,
 It 62 (.idxS (.t 60) (.t 61)),
 Mv 63 6,
 It 64 (.bin .neq (.t 62) (.t 63))] [60,61,62,63])
 (.cond (.t 64)
 (.seq (.region [Mv 65 0,
 Mv 66 8,
 It 67 (.bin .add (.t 66) (.c (.i .i64 1))),
 Mv 68 9,
 It 69 (.slS (.t 65) (some (.t 67)) (some (.t 68))),
 Mv 70 6,
 It 71 (.call 72 [(.t 69),(.t 70)]),
 Mv 11 71] [64,65,66,67,68,69,70,71])
 (.seq (.seq (.region [Mv 72 11,
 It 73 (.bin .lss (.t 72) (.c i0))] [72])
 (.cond (.t 73)
 (.seq (.region [It 4 (.mov (.c (.i .i64 (-1))))] [0,1,5,6,7,8,9,10,11,73])
 .ret)
 (.region [] [73])))
 (.region [Mv 74 8,
 Mv 75 11,
 It 76 (.bin .add (.t 75) (.c (.i .i64 1))),
 It 77 (.bin .add (.t 74) (.t 76)),
 Mv 8 77] [11,74,75,76,77])))
 (.region [] [64])))
 (.seq (.seq (.region [Mv 78 0,
 Mv 79 8,
 It 80 (.bin .add (.t 79) (.c (.i .i64 1))),
 It 81 (.idxS (.t 78) (.t 80)),
 Mv 82 7,
 It 83 (.bin .eql (.t 81) (.t 82)),
 Mv 84 83,
 Ig 85 84 true (.mov (.t 0)),
 Ig 86 84 true (.mov (.t 8)),
 Ig 87 84 true (.mov (.t 8)),
 Ig 88 84 true (.mov (.t 5)),
 Ig 89 84 true (.bin .add (.t 87) (.t 88)),
 Ig 90 84 true (.slS (.t 85) (some (.t 86)) (some (.t 89))),
 Ig 91 84 true (.mov (.t 1)),
 Ig 92 84 true (.bin .eql (.t 90) (.t 91)),
 It 93 (.pick (.t 84) (.t 92) (.c (.b false)))] [78,79,80,81,82,83,84,85,86,87,88,89,90,91,92])
 (.cond (.t 93)
 (.seq (.region [Mv 94 8,
 Mv 4 94] [0,1,5,6,7,8,9,10,93,94])
 .ret)
 (.region [] [93])))
 (.seq (.region [Mv 95 8,
 It 96 (.bin .add (.t 95) (.c (.i .i64 1))),
 Mv 8 96] [95,96])
 (.seq (.region [Mv 97 10,
 It 98 (.bin .add (.t 97) (.c (.i .i64 1))),
 Mv 10 98] [97,98])
 (.seq (.region [Mv 99 5,
 It 100 (.load none (.g 0)),
 It 101 (.bin .leq (.t 99) (.t 100)),
 Mv 102 101,
 Ig 103 102 true (.mov (.t 10)),
 Ig 104 102 true (.mov (.t 8)),
 Ig 105 102 true (.call 74 [(.t 104)]),
 Ig 106 102 true (.bin .gtr (.t 103) (.t 105)),
 It 107 (.pick (.t 102) (.t 106) (.c (.b false)))] [99,100,101,102,103,104,105,106])
 (.cond (.t 107)
 (.seq (.region [Mv 108 0,
 Mv 109 8,
 It 110 (.slS (.t 108) (some (.t 109)) none),
 Mv 111 1,
 It 112 (.call 73 [(.t 110),(.t 111)]),
 Mv 12 112] [0,1,5,6,7,9,10,107,108,109,110,111,112])
 (.seq (.seq (.region [Mv 113 12,
 It 114 (.bin .geq (.t 113) (.c i0))] [113])
 (.cond (.t 114)
 (.seq (.region [Mv 115 12,
 Mv 116 8,
 It 117 (.bin .add (.t 115) (.t 116)),
 Mv 4 117] [8,12,114,115,116,117])
 .ret)
 (.region [] [8,12,114])))
 (.seq (.region [It 4 (.mov (.c (.i .i64 (-1))))] [])
 .ret)))
 (.seq (.region [Mv 118 5,
 It 119 (.load none (.g 0)),
 It 120 (.bin .gtr (.t 118) (.t 119)),
 Mv 121 120,
 Ig 122 121 true (.mov (.t 10)),
 Ig 123 121 true (.mov (.t 8)),
 Ig 124 121 true (.bin .shr (.t 123) (.c (.i .u64 (4)))),
 Ig 125 121 true (.bin .add (.c (.i .i64 4)) (.t 124)),
 Ig 126 121 true (.bin .geq (.t 122) (.t 125)),
 It 127 (.pick (.t 121) (.t 126) (.c (.b false))),
 Mv 128 127,
 Ig 129 128 true (.mov (.t 8)),
 Ig 130 128 true (.mov (.t 9)),
 Ig 131 128 true (.bin .lss (.t 129) (.t 130)),
 It 132 (.pick (.t 128) (.t 131) (.c (.b false)))] [107,118,119,120,121,122,123,124,125,126,127,128,129,130,131])
 (.cond (.t 132)
 (.seq (.region [Mv 133 0,
 Mv 134 8,
 It 135 (.slS (.t 133) (some (.t 134)) none),
 Mv 136 1,
 It 137 (.call 75 [(.t 135),(.t 136)]),
 Mv 13 137] [0,1,5,6,7,9,10,132,133,134,135,136,137])
 (.seq (.seq (.region [Mv 138 13,
 It 139 (.bin .lss (.t 138) (.c i0))] [138])
 (.cond (.t 139)
 (.seq (.region [It 4 (.mov (.c (.i .i64 (-1))))] [8,13,139])
 .ret)
 (.region [] [139])))
 (.seq (.region [Mv 140 8,
 Mv 141 13,
 It 142 (.bin .add (.t 140) (.t 141)),
 Mv 4 142] [8,13,140,141,142])
 .ret)))
 (.region [] [132])))))))))))
def I71:IFunc :=
  ⟨(.seq (.region [It 4 (.mov (.c i0))] [4])
 (.seq (.region [Mv 14 1,
 It 15 (.lenk 1 (.t 14)),
 Mv 5 15] [14,15])
 (.seq (.block 0
 (.seq (.region [Mv 17 5,
 It 18 (.bin .eql (.t 17) (.c i0)),
 Mv 19 18,
 Ig 20 19 false (.mov (.t 1)),
 Ig 21 19 false (.mov (.t 0)),
 Ig 22 19 false (.bin .eql (.t 20) (.t 21)),
 It 23 (.pick (.t 19) (.c (.b true)) (.t 22)),
 Mv 16 23] [17,18,19,20,21,22,23])
 (.cond (.t 16)
 (.seq (.region [It 4 (.mov (.c i0))] [0,1,5,16])
 .ret)
 (.seq (.region [Mv 25 5,
 It 26 (.bin .eql (.t 25) (.c (.i .i64 1))),
 Mv 24 26] [16,25,26])
 (.cond (.t 24)
 (.seq (.region [Mv 27 0,
 Mv 28 1,
 It 29 (.idxS (.t 28) (.c i0)),
 It 30 (.call 72 [(.t 27),(.t 29)]),
 Mv 4 30] [0,1,5,24,27,28,29,30])
 .ret)
 (.seq (.region [Mv 32 5,
 Mv 33 0,
 It 34 (.lenk 1 (.t 33)),
 It 35 (.bin .geq (.t 32) (.t 34)),
 Mv 31 35] [24,32,33,34,35])
 (.cond (.t 31)
 (.seq (.region [It 4 (.mov (.c (.i .i64 (-1))))] [0,1,5,31])
 .ret)
 (.seq (.region [Mv 37 5,
 It 38 (.load none (.g 0)),
 It 39 (.bin .leq (.t 37) (.t 38)),
 Mv 40 39,
 Ig 41 40 true (.mov (.t 0)),
 Ig 42 40 true (.lenk 1 (.t 41)),
 Ig 43 40 true (.bin .leq (.t 42) (.c (.i .i64 64))),
 It 44 (.pick (.t 40) (.t 43) (.c (.b false))),
 Mv 36 44] [31,37,38,39,40,41,42,43,44])
 (.cond (.t 36)
 (.seq (.region [Mv 45 0,
 Mv 46 1,
 It 47 (.call 73 [(.t 45),(.t 46)]),
 Mv 4 47] [0,1,5,36,45,46,47])
 .ret)
 (.region [] [36]))))))))))
 (.seq (.region [Mv 48 1,
 It 49 (.idxS (.t 48) (.c i0)),
 Mv 6 49] [48,49])
 (.seq (.region [Mv 50 1,
 It 51 (.idxS (.t 50) (.c (.i .i64 1))),
 Mv 7 51] [50,51])
 (.seq (.region [It 8 (.mov (.c i0))] [])
 (.seq (.region [Mv 52 0,
 It 53 (.lenk 1 (.t 52)),
 Mv 54 5,
 It 55 (.bin .sub (.t 53) (.t 54)),
 It 56 (.bin .add (.t 55) (.c (.i .i64 1))),
 Mv 9 56] [52,53,54,55,56])
 (.seq (.region [It 10 (.mov (.c i0))] [])
 (.seq (.block 1
 (.loop L71a))
 (.seq (.region [It 4 (.mov (.c (.i .i64 (-1))))] [0,1,5,6,7,8,9,10,59])
 .ret)))))))))),
    143,2,[.t 4],2⟩
theorem tr71:trFunc Try.prog (hz [] I71.body) 1 Try.f71=some (plain1 I71):=by kernel_rfl
theorem ck71:ckC 1 I71.body=true:=by kernel_rfl
def I72:IFunc :=
  ⟨(.seq (.region [It 4 (.mov (.c i0))] [4])
 (.seq (.region [Mv 5 0,
 Mv 6 1,
 It 7 (.call 76 [(.t 5),(.t 6)]),
 Mv 4 7] [0,1,5,6,7])
 .ret)),
    8,2,[.t 4],2⟩
theorem tr72:trFunc Try.prog (hz [] I72.body) 1 Try.f72=some (plain1 I72):=by kernel_rfl
theorem ck72:ckC 1 I72.body=true:=by kernel_rfl
def I74:IFunc :=
  ⟨(.seq (.region [It 2 (.mov (.c i0))] [2])
 (.seq (.region [Mv 3 0,
 It 4 (.bin .add (.t 3) (.c (.i .i64 16))),
 It 5 (.bin .quo (.t 4) (.c (.i .i64 8))),
 Mv 2 5] [0,3,4,5])
 .ret)),
    6,1,[.t 2],2⟩
theorem tr74:trFunc Try.prog (hz [] I74.body) 1 Try.f74=some (plain1 I74):=by kernel_rfl
theorem ck74:ckC 1 I74.body=true:=by kernel_rfl
def L75a:ICode :=
  (.seq (.seq (.region [Mv 18 9,
 Mv 19 7,
 It 20 (.bin .lss (.t 18) (.t 19))] [18,19])
 (.cond (.t 20)
 (.region [] [20])
 (.exit 0)))
 (.seq (.block 1
 (.region [Mv 23 8,
 It 24 (.bin .mul (.t 23) (.c (.i .u32 (16777619)))),
 Mv 25 0,
 Mv 26 9,
 It 27 (.idxS (.t 25) (.t 26)),
 It 28 (.conv .u32 (.t 27)),
 It 29 (.bin .add (.t 24) (.t 28)),
 Mv 8 29] [23,24,25,26,27,28,29]))
 (.region [Mv 21 9,
 It 22 (.bin .add (.t 21) (.c (.i .i64 1))),
 Mv 9 22] [21,22])))
def L75b:ICode :=
  (.seq (.seq (.region [Mv 41 10,
 Mv 42 0,
 It 43 (.lenk 1 (.t 42)),
 It 44 (.bin .lss (.t 41) (.t 43))] [41,42,43])
 (.cond (.t 44)
 (.region [] [44])
 (.exit 2)))
 (.block 3
 (.seq (.region [Mv 45 8,
 It 46 (.bin .mul (.t 45) (.c (.i .u32 (16777619)))),
 Mv 8 46] [45,46])
 (.seq (.region [Mv 47 8,
 Mv 48 0,
 Mv 49 10,
 It 50 (.idxS (.t 48) (.t 49)),
 It 51 (.conv .u32 (.t 50)),
 It 52 (.bin .add (.t 47) (.t 51)),
 Mv 8 52] [47,48,49,50,51,52])
 (.seq (.region [Mv 53 8,
 Mv 54 6,
 Mv 55 0,
 Mv 56 10,
 Mv 57 7,
 It 58 (.bin .sub (.t 56) (.t 57)),
 It 59 (.idxS (.t 55) (.t 58)),
 It 60 (.conv .u32 (.t 59)),
 It 61 (.bin .mul (.t 54) (.t 60)),
 It 62 (.bin .sub (.t 53) (.t 61)),
 Mv 8 62] [53,54,55,56,57,58,59,60,61,62])
 (.seq (.region [Mv 63 10,
 It 64 (.bin .add (.t 63) (.c (.i .i64 1))),
 Mv 10 64] [63,64])
 (.seq (.region [Mv 65 8,
 Mv 66 5,
 It 67 (.bin .eql (.t 65) (.t 66)),
 Mv 68 67,
 Ig 69 68 true (.mov (.t 0)),
 Ig 70 68 true (.mov (.t 10)),
 Ig 71 68 true (.mov (.t 7)),
 Ig 72 68 true (.bin .sub (.t 70) (.t 71)),
 Ig 73 68 true (.mov (.t 10)),
 Ig 74 68 true (.slS (.t 69) (some (.t 72)) (some (.t 73))),
 Ig 75 68 true (.mov (.t 1)),
 Ig 76 68 true (.bin .eql (.t 74) (.t 75)),
 It 77 (.pick (.t 68) (.t 76) (.c (.b false)))] [65,66,67,68,69,70,71,72,73,74,75,76])
 (.cond (.t 77)
 (.seq (.region [Mv 78 10,
 Mv 79 7,
 It 80 (.bin .sub (.t 78) (.t 79)),
 Mv 4 80] [0,1,5,6,7,8,10,77,78,79,80])
 .ret)
 (.region [] [77])))))))))
def I75:IFunc :=
  ⟨(.seq (.region [It 4 (.mov (.c i0))] [4])
 (.seq (.region [Mv 12 1,
 It 13 (.call 77 [(.t 12)]),
 Mv 11 13,
 Ex 14 11 0,
 Ex 15 11 1,
 Mv 5 14,
 Mv 6 15] [12,13,11,14,15])
 (.seq (.region [Mv 16 1,
 It 17 (.lenk 1 (.t 16)),
 Mv 7 17] [16,17])
 (.seq (.region [It 8 (.mov (.c (.i .u32 (0))))] [])
 (.seq (.seq (.region [It 9 (.mov (.c i0))] [])
 (.block 0
 (.loop L75a)))
 (.seq (.seq (.region [Mv 30 8,
 Mv 31 5,
 It 32 (.bin .eql (.t 30) (.t 31)),
 Mv 33 32,
 Ig 34 33 true (.mov (.t 0)),
 Ig 35 33 true (.mov (.t 7)),
 Ig 36 33 true (.slS (.t 34) none (some (.t 35))),
 Ig 37 33 true (.mov (.t 1)),
 Ig 38 33 true (.bin .eql (.t 36) (.t 37)),
 It 39 (.pick (.t 33) (.t 38) (.c (.b false)))] [9,20,30,31,32,33,34,35,36,37,38])
 (.cond (.t 39)
 (.seq (.region [It 4 (.mov (.c i0))] [0,1,5,6,7,8,39])
 .ret)
 (.region [] [39])))
 (.seq (.seq (.region [Mv 40 7,
 Mv 10 40] [40])
 (.block 2
 (.loop L75b)))
 (.seq (.region [It 4 (.mov (.c (.i .i64 (-1))))] [0,1,5,6,7,8,10,44])
 .ret)))))))),
    81,2,[.t 4],2⟩
theorem tr75:trFunc Try.prog (hz [] I75.body) 1 Try.f75=some (plain1 I75):=by kernel_rfl
theorem ck75:ckC 1 I75.body=true:=by kernel_rfl
def I76:IFunc:=extFn
def L77a:ICode :=
  (.seq (.seq (.region [Mv 9 5,
 Mv 10 0,
 It 11 (.lenk 1 (.t 10)),
 It 12 (.bin .lss (.t 9) (.t 11))] [9,10,11])
 (.cond (.t 12)
 (.region [] [12])
 (.exit 0)))
 (.seq (.block 1
 (.region [Mv 15 4,
 It 16 (.bin .mul (.t 15) (.c (.i .u32 (16777619)))),
 Mv 17 0,
 Mv 18 5,
 It 19 (.idxS (.t 17) (.t 18)),
 It 20 (.conv .u32 (.t 19)),
 It 21 (.bin .add (.t 16) (.t 20)),
 Mv 4 21] [15,16,17,18,19,20,21]))
 (.region [Mv 13 5,
 It 14 (.bin .add (.t 13) (.c (.i .i64 1))),
 Mv 5 14] [13,14])))
def L77b:ICode :=
  (.seq (.seq (.region [Mv 24 8,
 It 25 (.bin .gtr (.t 24) (.c i0))] [24])
 (.cond (.t 25)
 (.region [] [25])
 (.exit 2)))
 (.seq (.block 3
 (.seq (.seq (.region [Mv 28 8,
 It 29 (.bin .and (.t 28) (.c (.i .i64 1))),
 It 30 (.bin .neq (.t 29) (.c i0))] [28,29])
 (.cond (.t 30)
 (.region [Mv 31 6,
 Mv 32 7,
 It 33 (.bin .mul (.t 31) (.t 32)),
 Mv 6 33] [30,31,32,33])
 (.region [] [30])))
 (.region [Mv 34 7,
 Mv 35 7,
 It 36 (.bin .mul (.t 34) (.t 35)),
 Mv 7 36] [34,35,36])))
 (.region [Mv 26 8,
 It 27 (.bin .shr (.t 26) (.c (.i .u64 (1)))),
 Mv 8 27] [26,27])))
def I77:IFunc :=
  ⟨(.seq (.region [It 2 (.mov (.c (.i .u32 (0)))),
 It 3 (.mov (.c (.i .u32 (0))))] [2,3])
 (.seq (.region [It 4 (.mov (.c (.i .u32 (0))))] [])
 (.seq (.seq (.region [It 5 (.mov (.c i0))] [])
 (.block 0
 (.loop L77a)))
 (.seq (.region [It 6 (.mov (.c (.i .u32 (1)))),
 It 7 (.mov (.c (.i .u32 (16777619))))] [5,12])
 (.seq (.seq (.region [Mv 22 0,
 It 23 (.lenk 1 (.t 22)),
 Mv 8 23] [0,22,23])
 (.block 2
 (.loop L77b)))
 (.seq (.region [Mv 37 4,
 Mv 38 6,
 Mv 2 37,
 Mv 3 38] [4,6,7,8,25,37,38])
 .ret)))))),
    39,1,[.t 2,.t 3],2⟩
theorem tr77:trFunc Try.prog (hz [] I77.body) 1 Try.f77=some (plain1 I77):=by kernel_rfl
theorem ck77:ckC 1 I77.body=true:=by kernel_rfl
def tab0:List (Nat×IFunc):=[(3,I3),(4,I4),(5,I5),(7,I7),(8,I8),(9,I9),(10,I10),(11,I11),(12,I12),(13,I13),(14,I14),(15,I15),(16,I16),(17,I17),(18,I18),(19,I19),(20,I20),(21,I21),(22,I22),(23,I23),(24,I24),(25,I25),(26,I26),(27,I27),(28,I28),(29,I29),(30,I30),(31,I31),(32,I32),(33,I33),(34,I34),(35,I35),(36,I36),(37,I37),(38,I38),(39,I39),(40,I40),(41,I41),(42,I42),(43,I43),(44,I44),(45,I45),(46,I46),(47,I47),(48,I48),(49,I49),(50,I50),(51,I51),(52,I52),(53,I53),(54,I54),(55,I55),(56,I56),(57,I57),(58,I58),(59,I59),(60,I60),(61,I61),(62,I62),(63,I63),(64,I64),(65,I65),(66,I66),(67,I67),(68,I68),(69,I69),(70,I70),(71,I71),(72,I72),(74,I74),(75,I75),(76,I76),(77,I77)]
theorem tab0_all:TabAll Try.prog (plainT tab0) :=
 .cons Try.func3 tr3<|.cons Try.func4 tr4<|.cons Try.func5 tr5<|.cons Try.func7 tr7<|.cons Try.func8 tr8<|.cons Try.func9 tr9<|.cons Try.func10 tr10<|.cons Try.func11 tr11<|.cons Try.func12 tr12<|.cons Try.func13 tr13<|.cons Try.func14 tr14<|.cons Try.func15 tr15<|.cons Try.func16 tr16<|.cons Try.func17 tr17<|.cons Try.func18 tr18<|.cons Try.func19 tr19<|.cons Try.func20 tr20<|.cons Try.func21 tr21<|.cons Try.func22 tr22<|.cons Try.func23 tr23<|.cons Try.func24 tr24<|.cons Try.func25 tr25<|.cons Try.func26 tr26<|.cons Try.func27 tr27<|.cons Try.func28 tr28<|.cons Try.func29 tr29<|.cons Try.func30 tr30<|.cons Try.func31 tr31<|.cons Try.func32 tr32<|.cons Try.func33 tr33<|.cons Try.func34 tr34<|.cons Try.func35 tr35<|.cons Try.func36 tr36<|.cons Try.func37 tr37<|.cons Try.func38 tr38<|.cons Try.func39 tr39<|.cons Try.func40 tr40<|.cons Try.func41 tr41<|.cons Try.func42 tr42<|.cons Try.func43 tr43<|.cons Try.func44 tr44<|.cons Try.func45 tr45<|.cons Try.func46 tr46<|.cons Try.func47 tr47<|.cons Try.func48 tr48<|.cons Try.func49 tr49<|.cons Try.func50 tr50<|.cons Try.func51 tr51<|.cons Try.func52 tr52<|.cons Try.func53 tr53<|.cons Try.func54 tr54<|.cons Try.func55 tr55<|.cons Try.func56 tr56<|.cons Try.func57 tr57<|.cons Try.func58 tr58<|.cons Try.func59 tr59<|.cons Try.func60 tr60<|.cons Try.func61 tr61<|.cons Try.func62 tr62<|.cons Try.func63 tr63<|.cons Try.func64 tr64<|.cons Try.func65 tr65<|.cons Try.func66 tr66<|.cons Try.func67 tr67<|.cons Try.func68 tr68<|.cons Try.func69 tr69<|.cons Try.func70 tr70<|.cons Try.func71 tr71<|.cons Try.func72 tr72<|.cons Try.func74 tr74<|.cons Try.func75 tr75<|.ext Try.func76 (by kernel_rfl) (by kernel_rfl) (by kernel_rfl) (by kernel_rfl)<|.cons Try.func77 tr77<|.nil
def I6:IFunc:=ofI 7 14 21 2
def tab:List (Nat×IFunc):=(6,I6)::tab0
theorem cus:CusOK Try.prog (tabIP (plainT tab)) 6 (ofI 7 14 21 1) :=
 cus_of (hs2:=[([],[]),([],[]),([],[])]) (hsG:=[([],[]),([],[]),([],[]),([],[]),([],[]),([],[]),([],[]),([],[]),([],[]),([],[])]) (by decide) Try.func6 (by kernel_rfl) rfl (by kernel_rfl) (by kernel_rfl) (by kernel_rfl) (by kernel_rfl) (by kernel_rfl) (by kernel_rfl) (by kernel_rfl) (by kernel_rfl) (by kernel_rfl) (by kernel_rfl) (by kernel_rfl) (by kernel_rfl) (by kernel_rfl)
  Try.func20 rfl (by kernel_rfl) (by kernel_rfl) (of_decide_eq_true (by kernel_rfl)) (by kernel_rfl) (by kernel_rfl) (blk_okK (mode:=0) (by decide) (show tabIP (plainT tab) 13=some I13 from rfl))
theorem ckc:ckC 1 I6.body=true:=by kernel_rfl
theorem ck_all:CkAll 1 tab :=
 .cons ckc rfl<|.cons ck3 rfl<|.cons ck4 rfl<|.cons ck5 rfl<|.cons ck7 rfl<|.cons ck8 rfl<|.cons ck9 rfl<|.cons ck10 rfl<|.cons ck11 rfl<|.cons ck12 rfl<|.cons ck13 rfl<|.cons ck14 rfl<|.cons ck15 rfl<|.cons ck16 rfl<|.cons ck17 rfl<|.cons ck18 rfl<|.cons ck19 rfl<|.cons ck20 rfl<|.cons ck21 rfl<|.cons ck22 rfl<|.cons ck23 rfl<|.cons ck24 rfl<|.cons ck25 rfl<|.cons ck26 rfl<|.cons ck27 rfl<|.cons ck28 rfl<|.cons ck29 rfl<|.cons ck30 rfl<|.cons ck31 rfl<|.cons ck32 rfl<|.clone ck33 rfl<|.cons ck34 rfl<|.cons ck35 rfl<|.cons ck36 rfl<|.cons ck37 rfl<|.cons ck38 rfl<|.cons ck39 rfl<|.cons ck40 rfl<|.cons ck41 rfl<|.cons ck42 rfl<|.cons ck43 rfl<|.cons ck44 rfl<|.cons ck45 rfl<|.cons ck46 rfl<|.cons ck47 rfl<|.cons ck48 rfl<|.cons ck49 rfl<|.cons ck50 rfl<|.cons ck51 rfl<|.cons ck52 rfl<|.cons ck53 rfl<|.cons ck54 rfl<|.cons ck55 rfl<|.cons ck56 rfl<|.cons ck57 rfl<|.cons ck58 rfl<|.cons ck59 rfl<|.cons ck60 rfl<|.cons ck61 rfl<|.cons ck62 rfl<|.cons ck63 rfl<|.cons ck64 rfl<|.cons ck65 rfl<|.cons ck66 rfl<|.cons ck67 rfl<|.cons ck68 rfl<|.cons ck69 rfl<|.cons ck70 rfl<|.cons ck71 rfl<|.cons ck72 rfl<|.cons ck74 rfl<|.cons ck75 rfl<|.ext<|.cons ck77 rfl<|.nil
def IP:FuncId→Option IFunc:=tabIP tab
theorem IP_ok:TabOK Try.prog (plainP IP):=by
 show TabOK Try.prog (plainP (tabIP tab))
 rw[plainT_eq]
 exact tab0_all.okC cus
theorem IP_ck:TabCk 1 IP:=ck_all.ck
theorem ip3:IP 3=some I3:=rfl
theorem ip4:IP 4=some I4:=rfl
theorem ip5:IP 5=some I5:=rfl
theorem ip7:IP 7=some I7:=rfl
theorem ip8:IP 8=some I8:=rfl
theorem ip9:IP 9=some I9:=rfl
theorem ip10:IP 10=some I10:=rfl
theorem ip11:IP 11=some I11:=rfl
theorem ip12:IP 12=some I12:=rfl
theorem ip13:IP 13=some I13:=rfl
theorem ip14:IP 14=some I14:=rfl
theorem ip15:IP 15=some I15:=rfl
theorem ip16:IP 16=some I16:=rfl
theorem ip17:IP 17=some I17:=rfl
theorem ip18:IP 18=some I18:=rfl
theorem ip19:IP 19=some I19:=rfl
theorem ip20:IP 20=some I20:=rfl
theorem ip21:IP 21=some I21:=rfl
theorem ip22:IP 22=some I22:=rfl
theorem ip23:IP 23=some I23:=rfl
theorem ip24:IP 24=some I24:=rfl
theorem ip25:IP 25=some I25:=rfl
theorem ip26:IP 26=some I26:=rfl
theorem ip27:IP 27=some I27:=rfl
theorem ip28:IP 28=some I28:=rfl
theorem ip29:IP 29=some I29:=rfl
theorem ip30:IP 30=some I30:=rfl
theorem ip31:IP 31=some I31:=rfl
theorem ip32:IP 32=some I32:=rfl
theorem ip33:IP 33=some I33:=rfl
theorem ip34:IP 34=some I34:=rfl
theorem ip35:IP 35=some I35:=rfl
theorem ip36:IP 36=some I36:=rfl
theorem ip37:IP 37=some I37:=rfl
theorem ip38:IP 38=some I38:=rfl
theorem ip39:IP 39=some I39:=rfl
theorem ip40:IP 40=some I40:=rfl
theorem ip41:IP 41=some I41:=rfl
theorem ip42:IP 42=some I42:=rfl
theorem ip43:IP 43=some I43:=rfl
theorem ip44:IP 44=some I44:=rfl
theorem ip45:IP 45=some I45:=rfl
theorem ip46:IP 46=some I46:=rfl
theorem ip47:IP 47=some I47:=rfl
theorem ip48:IP 48=some I48:=rfl
theorem ip49:IP 49=some I49:=rfl
theorem ip50:IP 50=some I50:=rfl
theorem ip51:IP 51=some I51:=rfl
theorem ip52:IP 52=some I52:=rfl
theorem ip53:IP 53=some I53:=rfl
theorem ip54:IP 54=some I54:=rfl
theorem ip55:IP 55=some I55:=rfl
theorem ip56:IP 56=some I56:=rfl
theorem ip57:IP 57=some I57:=rfl
theorem ip58:IP 58=some I58:=rfl
theorem ip59:IP 59=some I59:=rfl
theorem ip60:IP 60=some I60:=rfl
theorem ip61:IP 61=some I61:=rfl
theorem ip62:IP 62=some I62:=rfl
theorem ip63:IP 63=some I63:=rfl
theorem ip64:IP 64=some I64:=rfl
theorem ip65:IP 65=some I65:=rfl
theorem ip66:IP 66=some I66:=rfl
theorem ip67:IP 67=some I67:=rfl
theorem ip68:IP 68=some I68:=rfl
theorem ip69:IP 69=some I69:=rfl
theorem ip70:IP 70=some I70:=rfl
theorem ip71:IP 71=some I71:=rfl
theorem ip72:IP 72=some I72:=rfl
theorem ip74:IP 74=some I74:=rfl
theorem ip75:IP 75=some I75:=rfl
theorem ip76:IP 76=some I76:=rfl
theorem ip77:IP 77=some I77:=rfl
theorem ip6:IP 6=some I6:=rfl
section
variable {G H:AHeap} {lo:Nat} {l:List AVal} {x:AVal}
@[simp] theorem pu5:theCalls IP G lo 5 l H=given H ((snaps H l).bind (pureR IP G 5)):=calls_pureR ip5 rfl
@[simp] theorem pb5:pureB IP 5=true:=rfl
@[simp] theorem pu7:theCalls IP G lo 7 l H=given H ((snaps H l).bind (pureR IP G 7)):=calls_pureR ip7 rfl
@[simp] theorem pb7:pureB IP 7=true:=rfl
@[simp] theorem pu8:theCalls IP G lo 8 l H=given H ((snaps H l).bind (pureR IP G 8)):=calls_pureR ip8 rfl
@[simp] theorem pb8:pureB IP 8=true:=rfl
@[simp] theorem pu9:theCalls IP G lo 9 l H=given H ((snaps H l).bind (pureR IP G 9)):=calls_pureR ip9 rfl
@[simp] theorem pb9:pureB IP 9=true:=rfl
@[simp] theorem pu10:theCalls IP G lo 10 l H=given H ((snaps H l).bind (pureR IP G 10)):=calls_pureR ip10 rfl
@[simp] theorem pb10:pureB IP 10=true:=rfl
@[simp] theorem pb11:pureB IP 11=true:=rfl
@[simp] theorem pu12:theCalls IP G lo 12 l H=given H ((snaps H l).bind (pureR IP G 12)):=calls_pureR ip12 rfl
@[simp] theorem pb12:pureB IP 12=true:=rfl
@[simp] theorem pu15:theCalls IP G lo 15 l H=given H ((snaps H l).bind (pureR IP G 15)):=calls_pureR ip15 rfl
@[simp] theorem pb15:pureB IP 15=true:=rfl
@[simp] theorem pu16:theCalls IP G lo 16 l H=given H ((snaps H l).bind (pureR IP G 16)):=calls_pureR ip16 rfl
@[simp] theorem pb16:pureB IP 16=true:=rfl
@[simp] theorem pu17:theCalls IP G lo 17 l H=given H ((snaps H l).bind (pureR IP G 17)):=calls_pureR ip17 rfl
@[simp] theorem pb17:pureB IP 17=true:=rfl
@[simp] theorem pu19:theCalls IP G lo 19 l H=given H ((snaps H l).bind (pureR IP G 19)):=calls_pureR ip19 rfl
@[simp] theorem pb19:pureB IP 19=true:=rfl
@[simp] theorem pu22:theCalls IP G lo 22 l H=given H ((snaps H l).bind (pureR IP G 22)):=calls_pureR ip22 rfl
@[simp] theorem pb22:pureB IP 22=true:=rfl
@[simp] theorem pu23:theCalls IP G lo 23 l H=given H ((snaps H l).bind (pureR IP G 23)):=calls_pureR ip23 rfl
@[simp] theorem pb23:pureB IP 23=true:=rfl
@[simp] theorem pu24:theCalls IP G lo 24 l H=given H ((snaps H l).bind (pureR IP G 24)):=calls_pureR ip24 rfl
@[simp] theorem pb24:pureB IP 24=true:=rfl
@[simp] theorem pu25:theCalls IP G lo 25 l H=given H ((snaps H l).bind (pureR IP G 25)):=calls_pureR ip25 rfl
@[simp] theorem pb25:pureB IP 25=true:=rfl
@[simp] theorem pu26:theCalls IP G lo 26 l H=given H ((snaps H l).bind (pureR IP G 26)):=calls_pureR ip26 rfl
@[simp] theorem pb26:pureB IP 26=true:=rfl
@[simp] theorem pu27:theCalls IP G lo 27 l H=given H ((snaps H l).bind (pureR IP G 27)):=calls_pureR ip27 rfl
@[simp] theorem pb27:pureB IP 27=true:=rfl
@[simp] theorem pu28:theCalls IP G lo 28 l H=given H ((snaps H l).bind (pureR IP G 28)):=calls_pureR ip28 rfl
@[simp] theorem pb28:pureB IP 28=true:=rfl
@[simp] theorem pu29:theCalls IP G lo 29 l H=given H ((snaps H l).bind (pureR IP G 29)):=calls_pureR ip29 rfl
@[simp] theorem pb29:pureB IP 29=true:=rfl
@[simp] theorem pu30:theCalls IP G lo 30 l H=given H ((snaps H l).bind (pureR IP G 30)):=calls_pureR ip30 rfl
@[simp] theorem pb30:pureB IP 30=true:=rfl
@[simp] theorem pu33:theCalls IP G lo 33 [x] H=cloneV H 2 16 x:=calls_clone ip33 rfl rfl
@[simp] theorem pb33:pureB IP 33=true:=rfl
@[simp] theorem pu34:theCalls IP G lo 34 l H=given H ((snaps H l).bind (pureR IP G 34)):=calls_pureR ip34 rfl
@[simp] theorem pb34:pureB IP 34=true:=rfl
@[simp] theorem pu35:theCalls IP G lo 35 l H=given H ((snaps H l).bind (pureR IP G 35)):=calls_pureR ip35 rfl
@[simp] theorem pb35:pureB IP 35=true:=rfl
@[simp] theorem pu36:theCalls IP G lo 36 l H=given H ((snaps H l).bind (pureR IP G 36)):=calls_pureR ip36 rfl
@[simp] theorem pb36:pureB IP 36=true:=rfl
@[simp] theorem pu37:theCalls IP G lo 37 l H=given H ((snaps H l).bind (pureR IP G 37)):=calls_pureR ip37 rfl
@[simp] theorem pb37:pureB IP 37=true:=rfl
@[simp] theorem pb38:pureB IP 38=true:=rfl
@[simp] theorem pu39:theCalls IP G lo 39 l H=given H ((snaps H l).bind (pureR IP G 39)):=calls_pureR ip39 rfl
@[simp] theorem pb39:pureB IP 39=true:=rfl
@[simp] theorem pu40:theCalls IP G lo 40 l H=given H ((snaps H l).bind (pureR IP G 40)):=calls_pureR ip40 rfl
@[simp] theorem pb40:pureB IP 40=true:=rfl
@[simp] theorem pu41:theCalls IP G lo 41 l H=given H ((snaps H l).bind (pureR IP G 41)):=calls_pureR ip41 rfl
@[simp] theorem pb41:pureB IP 41=true:=rfl
@[simp] theorem pu42:theCalls IP G lo 42 l H=given H ((snaps H l).bind (pureR IP G 42)):=calls_pureR ip42 rfl
@[simp] theorem pb42:pureB IP 42=true:=rfl
@[simp] theorem pu43:theCalls IP G lo 43 l H=given H ((snaps H l).bind (pureR IP G 43)):=calls_pureR ip43 rfl
@[simp] theorem pb43:pureB IP 43=true:=rfl
@[simp] theorem pu44:theCalls IP G lo 44 l H=given H ((snaps H l).bind (pureR IP G 44)):=calls_pureR ip44 rfl
@[simp] theorem pb44:pureB IP 44=true:=rfl
@[simp] theorem pu45:theCalls IP G lo 45 l H=given H ((snaps H l).bind (pureR IP G 45)):=calls_pureR ip45 rfl
@[simp] theorem pb45:pureB IP 45=true:=rfl
@[simp] theorem pu46:theCalls IP G lo 46 l H=given H ((snaps H l).bind (pureR IP G 46)):=calls_pureR ip46 rfl
@[simp] theorem pb46:pureB IP 46=true:=rfl
@[simp] theorem pu47:theCalls IP G lo 47 l H=given H ((snaps H l).bind (pureR IP G 47)):=calls_pureR ip47 rfl
@[simp] theorem pb47:pureB IP 47=true:=rfl
@[simp] theorem pu48:theCalls IP G lo 48 l H=given H ((snaps H l).bind (pureR IP G 48)):=calls_pureR ip48 rfl
@[simp] theorem pb48:pureB IP 48=true:=rfl
@[simp] theorem pu49:theCalls IP G lo 49 l H=given H ((snaps H l).bind (pureR IP G 49)):=calls_pureR ip49 rfl
@[simp] theorem pb49:pureB IP 49=true:=rfl
@[simp] theorem pu50:theCalls IP G lo 50 l H=given H ((snaps H l).bind (pureR IP G 50)):=calls_pureR ip50 rfl
@[simp] theorem pb50:pureB IP 50=true:=rfl
@[simp] theorem pu51:theCalls IP G lo 51 l H=given H ((snaps H l).bind (pureR IP G 51)):=calls_pureR ip51 rfl
@[simp] theorem pb51:pureB IP 51=true:=rfl
@[simp] theorem pu52:theCalls IP G lo 52 l H=given H ((snaps H l).bind (pureR IP G 52)):=calls_pureR ip52 rfl
@[simp] theorem pb52:pureB IP 52=true:=rfl
@[simp] theorem pu53:theCalls IP G lo 53 l H=given H ((snaps H l).bind (pureR IP G 53)):=calls_pureR ip53 rfl
@[simp] theorem pb53:pureB IP 53=true:=rfl
@[simp] theorem pu54:theCalls IP G lo 54 l H=given H ((snaps H l).bind (pureR IP G 54)):=calls_pureR ip54 rfl
@[simp] theorem pb54:pureB IP 54=true:=rfl
@[simp] theorem pu55:theCalls IP G lo 55 l H=given H ((snaps H l).bind (pureR IP G 55)):=calls_pureR ip55 rfl
@[simp] theorem pb55:pureB IP 55=true:=rfl
@[simp] theorem pu56:theCalls IP G lo 56 l H=given H ((snaps H l).bind (pureR IP G 56)):=calls_pureR ip56 rfl
@[simp] theorem pb56:pureB IP 56=true:=rfl
@[simp] theorem pu57:theCalls IP G lo 57 l H=given H ((snaps H l).bind (pureR IP G 57)):=calls_pureR ip57 rfl
@[simp] theorem pb57:pureB IP 57=true:=rfl
@[simp] theorem pu58:theCalls IP G lo 58 l H=given H ((snaps H l).bind (pureR IP G 58)):=calls_pureR ip58 rfl
@[simp] theorem pb58:pureB IP 58=true:=rfl
@[simp] theorem pu59:theCalls IP G lo 59 l H=given H ((snaps H l).bind (pureR IP G 59)):=calls_pureR ip59 rfl
@[simp] theorem pb59:pureB IP 59=true:=rfl
@[simp] theorem pu60:theCalls IP G lo 60 l H=given H ((snaps H l).bind (pureR IP G 60)):=calls_pureR ip60 rfl
@[simp] theorem pb60:pureB IP 60=true:=rfl
@[simp] theorem pu61:theCalls IP G lo 61 l H=given H ((snaps H l).bind (pureR IP G 61)):=calls_pureR ip61 rfl
@[simp] theorem pb61:pureB IP 61=true:=rfl
@[simp] theorem pu62:theCalls IP G lo 62 l H=given H ((snaps H l).bind (pureR IP G 62)):=calls_pureR ip62 rfl
@[simp] theorem pb62:pureB IP 62=true:=rfl
@[simp] theorem pu63:theCalls IP G lo 63 l H=given H ((snaps H l).bind (pureR IP G 63)):=calls_pureR ip63 rfl
@[simp] theorem pb63:pureB IP 63=true:=rfl
@[simp] theorem pu64:theCalls IP G lo 64 l H=given H ((snaps H l).bind (pureR IP G 64)):=calls_pureR ip64 rfl
@[simp] theorem pb64:pureB IP 64=true:=rfl
@[simp] theorem pu65:theCalls IP G lo 65 l H=given H ((snaps H l).bind (pureR IP G 65)):=calls_pureR ip65 rfl
@[simp] theorem pb65:pureB IP 65=true:=rfl
@[simp] theorem pu66:theCalls IP G lo 66 l H=given H ((snaps H l).bind (pureR IP G 66)):=calls_pureR ip66 rfl
@[simp] theorem pb66:pureB IP 66=true:=rfl
@[simp] theorem pu67:theCalls IP G lo 67 l H=given H ((snaps H l).bind (pureR IP G 67)):=calls_pureR ip67 rfl
@[simp] theorem pb67:pureB IP 67=true:=rfl
@[simp] theorem pu68:theCalls IP G lo 68 l H=given H ((snaps H l).bind (pureR IP G 68)):=calls_pureR ip68 rfl
@[simp] theorem pb68:pureB IP 68=true:=rfl
@[simp] theorem pu69:theCalls IP G lo 69 l H=given H ((snaps H l).bind (pureR IP G 69)):=calls_pureR ip69 rfl
@[simp] theorem pb69:pureB IP 69=true:=rfl
@[simp] theorem pu70:theCalls IP G lo 70 l H=given H ((snaps H l).bind (pureR IP G 70)):=calls_pureR ip70 rfl
@[simp] theorem pb70:pureB IP 70=true:=rfl
@[simp] theorem pu71:theCalls IP G lo 71 l H=given H ((snaps H l).bind (pureR IP G 71)):=calls_pureR ip71 rfl
@[simp] theorem pb71:pureB IP 71=true:=rfl
@[simp] theorem pu72:theCalls IP G lo 72 l H=given H ((snaps H l).bind (pureR IP G 72)):=calls_pureR ip72 rfl
@[simp] theorem pb72:pureB IP 72=true:=rfl
@[simp] theorem pu74:theCalls IP G lo 74 l H=given H ((snaps H l).bind (pureR IP G 74)):=calls_pureR ip74 rfl
@[simp] theorem pb74:pureB IP 74=true:=rfl
@[simp] theorem pu75:theCalls IP G lo 75 l H=given H ((snaps H l).bind (pureR IP G 75)):=calls_pureR ip75 rfl
@[simp] theorem pb75:pureB IP 75=true:=rfl
@[simp] theorem pu76:theCalls IP G lo 76 l H=given H (idxB l):=calls_ext ip76 rfl rfl
@[simp] theorem pb76:pureB IP 76=true:=rfl
@[simp] theorem pu77:theCalls IP G lo 77 l H=given H ((snaps H l).bind (pureR IP G 77)):=calls_pureR ip77 rfl
@[simp] theorem pb77:pureB IP 77=true:=rfl
@[simp] theorem pu6:theCalls IP G lo 6 l H=given H ((snaps H l).bind (pureR IP G 6)):=calls_pureR ip6 rfl
@[simp] theorem pb6:pureB IP 6=true:=rfl
end
end Go.Proofs.Ytllfklgliaoojaa
